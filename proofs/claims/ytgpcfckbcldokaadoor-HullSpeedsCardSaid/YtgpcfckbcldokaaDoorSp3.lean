/-
  This file has contracts of functions of the program: where the mirror gives a value, the call returns it. Conditions: those that each theorem names.
-/
import Derived.Test.YtgpcfckbcldokaaDoorSp2
set_option linter.unusedVariables false
namespace Go.Proofs.T
open Go Go.AX Go.RowKit Hull
theorem en_132 : Proofs.Enters Tryd.prog 132 := Proofs.enters_of Tryd.func132 (by kernel_rfl) rfl
theorem en_46 : Proofs.Enters Tryd.prog 46 := Proofs.enters_of Tryd.func46 (by kernel_rfl) rfl
theorem en_78 : Proofs.Enters Tryd.prog 78 := Proofs.enters_of Tryd.func78 (by kernel_rfl) rfl
theorem en_85 : Proofs.Enters Tryd.prog 85 := Proofs.enters_of Tryd.func85 (by kernel_rfl) rfl
theorem en_100 : Proofs.Enters Tryd.prog 100 := Proofs.enters_of Tryd.func100 (by kernel_rfl) rfl
theorem zl_136 : zeroL Tryd.prog 136 = some [(.pointer none), (.int .i64 0), (.int .i64 0), (.int .i64 0), (.int .i64 0), (.bool false)] := by kernel_rfl
theorem sz_136 : sizeIn Tryd.prog 136 = some 6 := by kernel_rfl
theorem en_76 : Proofs.Enters Tryd.prog 76 := Proofs.enters_of Tryd.func76 (by kernel_rfl) rfl
theorem en_89 : Proofs.Enters Tryd.prog 89 := Proofs.enters_of Tryd.func89 (by kernel_rfl) rfl
theorem en_75 : Proofs.Enters Tryd.prog 75 := Proofs.enters_of Tryd.func75 (by kernel_rfl) rfl
theorem fo_48_2 : fieldOff Tryd.prog 48 2 = some 9 := by kernel_rfl

theorem c78 (i : Ice) (v : Int) (w : World)  : Calls Tryd.prog 78 #[.agg #[.int .i64 i.Conc, .int .i64 i.Thick, .int .i64 i.Ridge, .int .i64 i.Press], .int .i64 v] w fun e w' => e = .returned (.int .i64 (loaded i v)) ∧ Below w.heap.size w w' := by
 refine enter (args := [.g [.i i.Conc, .i i.Thick, .i i.Ridge, .i i.Press], .i v]) Tryd.func78 rfl (N := 14) rfl (Nat.le_of_ble_eq_true rfl) ?_
 refine aqS ?_
 refine aqT (rows := [_, _]) rfl (by kernel_rfl) ⟨
  okp rfl rfl (op_boxN (L := 1) (lN rfl) rfl rfl rfl),
  okp rfl rfl (oqA (lN rfl) rfl),
  trivial⟩ ?_
 refine fqK (s' := [kt 1 (.i v), kt 2 (.p 1 0), kb 1 28 4, kc 1 0 (.i i.Conc), kc 1 1 (.i i.Thick), kc 1 2 (.i i.Ridge), kc 1 3 (.i i.Press)]) ?_ (kp rfl) rfl
 refine fqT ?_
 refine aqS ?_
 refine aqS ?_
 refine aqT (rows := [_, _, _]) rfl (by kernel_rfl) ⟨
  okp rfl rfl (oqL (ys := [.i i.Conc, .i i.Thick, .i i.Ridge, .i i.Press]) (lN rfl) sh_28 rfl rfl ⟨rfl, rfl, rfl, rfl, trivial⟩),
  okp rfl rfl (oqC (x := .i (checkIce i)) (fs := []) (caps := []) (extra := []) (lN rfl) en_132 rfl ⟨rfl, rfl, rfl⟩ (EvL.cons rfl EvL.nil) (fun mm aa ww gg hr hrel => (c132 i ww))),
  okp rfl rfl (oqA (lN rfl) rfl),
  trivial⟩ ?_
 refine fqK (s' := [kt 1 (.i v), kt 5 (.i (checkIce i))]) ?_ (kp rfl) rfl
 refine fqT ?_
 refine aqS ?_
 refine aqT (rows := [_, _]) rfl (by kernel_rfl) ⟨
  okp rfl rfl (oqM (lN rfl) rfl),
  okp rfl rfl (oqB (lN rfl) rfl rfl rfl),
  trivial⟩ ?_
 refine fqK (s' := [kt 1 (.i v), kt 5 (.i (checkIce i)), kt 9 (.B ((checkIce i) != 0))]) ?_ (kp rfl) rfl
 refine fqT ?_
 refine aw_cond rfl (fun hz1 => ?_) (fun hz1 => ?_)
 ·have _z := hz1
  have q2 := ne_t hz1
  refine aqS ?_
  refine aqT (rows := [_, _]) rfl (by kernel_rfl) ⟨
   okp rfl rfl (oqM (lN rfl) rfl),
   okp rfl rfl (oqA (lN rfl) rfl),
   trivial⟩ ?_
  refine fqK (s' := [kt 4 (.i (checkIce i))]) ?_ (kp rfl) rfl
  refine fqT ?_
  refine aw_ret ?_
  refine fin_then_ret ?_
  refine post_ret (x := .i (checkIce i)) rfl rfl (rqT rfl resOK_nil) rfl (fun mm aa ww hr => ?_)
  show Ending.returned (.int .i64 (checkIce i)) = _ ∧ _
  exact ⟨by clear hr; simp_all [loaded], hr.below⟩
 ·have _z := hz1
  have q3 := ne_f hz1
  refine aw_skip ?_
  refine fqT ?_
  refine aqS ?_
  refine aqS ?_
  refine aqT (rows := [_, _, _]) rfl (by kernel_rfl) ⟨
   okp rfl rfl (oqM (lN rfl) rfl),
   okp rfl rfl (oqC (x := .B (within v 0 250)) (fs := []) (caps := []) (extra := []) (lN rfl) en_84 rfl ⟨rfl, rfl, rfl⟩ (EvL.cons rfl (EvL.cons rfl (EvL.cons rfl EvL.nil))) (fun mm aa ww gg hr hrel => (c84 v 0 250 ww))),
   okp rfl rfl (op_not (lN rfl) rfl),
   trivial⟩ ?_
  refine fqK (s' := [kt 13 (.B (!(within v 0 250)))]) ?_ (kp rfl) rfl
  refine fqT ?_
  refine aw_cond rfl (fun hz4 => ?_) (fun hz4 => ?_)
  ·have _z := hz4
   have q5 := within_f (not_t hz4)
   refine aqS ?_
   refine aqT (rows := [_]) rfl (by kernel_rfl) ⟨
    okp rfl rfl (oqA (lN rfl) rfl),
    trivial⟩ ?_
   refine fqK (s' := [kt 4 (.i 6)]) ?_ (kp rfl) rfl
   refine fqT ?_
   refine aw_ret ?_
   refine fin_then_ret ?_
   refine post_ret (x := .i 6) rfl rfl (rqT rfl resOK_nil) rfl (fun mm aa ww hr => ?_)
   show Ending.returned (.int .i64 6) = _ ∧ _
   exact ⟨by clear hr; simp_all [loaded], hr.below⟩
  ·have _z := hz4
   have q6 := within_t (not_f hz4)
   refine aw_skip ?_
   refine fqT ?_
   refine aqS ?_
   refine aqT (rows := [_]) rfl (by kernel_rfl) ⟨
    okp rfl rfl (oqA (lN rfl) rfl),
    trivial⟩ ?_
   refine fqK (s' := [kt 4 (.i 0)]) ?_ (kp rfl) rfl
   refine fqT ?_
   refine aw_ret ?_
   refine post_ret (x := .i 0) rfl rfl (rqT rfl resOK_nil) rfl (fun mm aa ww hr => ?_)
   show Ending.returned (.int .i64 0) = _ ∧ _
   exact ⟨by clear hr; simp_all [loaded], hr.below⟩

theorem c75 (s : Ship) (s_Thrust_s : SlV) (s_Water_s : SlV) (s_Ice_s : SlV) (i : Ice) (v : Int) (w : World) (hs_Thrust : SlIs encPt 2 w s_Thrust_s s.Thrust) (hs_Water : SlIs encPt 2 w s_Water_s s.Water) (hs_Ice : SlIs encPt 2 w s_Ice_s s.Ice) : Calls Tryd.prog 75 #[.agg #[.int .i64 s.Class, .int .i64 s.Power, .int .i64 s.Draught, .int .i64 s.Tonnes, .slice s_Thrust_s.p s_Thrust_s.n s_Thrust_s.c, .slice s_Water_s.p s_Water_s.n s_Water_s.c, .slice s_Ice_s.p s_Ice_s.n s_Ice_s.c, .int .i64 s.Slow, .int .i64 s.Brash, .int .i64 s.Ridge, .int .i64 s.Press], .agg #[.int .i64 i.Conc, .int .i64 i.Thick, .int .i64 i.Ridge, .int .i64 i.Press], .int .i64 v] w fun e w' => e = .returned (.int .i64 (asked s i v)) ∧ Below w.heap.size w w' := by
 obtain ⟨s0Tp, s0Tn, s0Tc⟩ := s_Thrust_s
 have hs_Thrust_l : s0Tn = s.Thrust.length := hs_Thrust.1
 subst hs_Thrust_l
 obtain ⟨s_Thrust_b, s0To, hs_Thrust_p, hs_Thrust_L⟩ := SlAt.lies' hs_Thrust
 obtain ⟨s0Wp, s0Wn, s0Wc⟩ := s_Water_s
 have hs_Water_l : s0Wn = s.Water.length := hs_Water.1
 subst hs_Water_l
 obtain ⟨s_Water_b, s0Wo, hs_Water_p, hs_Water_L⟩ := SlAt.lies' hs_Water
 obtain ⟨s0Ip, s0In, s0Ic⟩ := s_Ice_s
 have hs_Ice_l : s0In = s.Ice.length := hs_Ice.1
 subst hs_Ice_l
 obtain ⟨s_Ice_b, s0Io, hs_Ice_p, hs_Ice_L⟩ := SlAt.lies' hs_Ice
 refine enter (args := [.g [.i s.Class, .i s.Power, .i s.Draught, .i s.Tonnes, .v (.slice s0Tp s.Thrust.length s0Tc), .v (.slice s0Wp s.Water.length s0Wc), .v (.slice s0Ip s.Ice.length s0Ic), .i s.Slow, .i s.Brash, .i s.Ridge, .i s.Press], .g [.i i.Conc, .i i.Thick, .i i.Ridge, .i i.Press], .i v]) Tryd.func75 rfl (N := 16) rfl (Nat.le_of_ble_eq_true rfl) ?_
 refine aqS ?_
 refine aqT (rows := [_, _, _]) rfl (by kernel_rfl) ⟨
  okp rfl rfl (op_boxN (L := 1) (lN rfl) rfl rfl rfl),
  okp rfl rfl (op_boxN (L := 2) (lN rfl) rfl rfl rfl),
  okp rfl rfl (oqA (lN rfl) rfl),
  trivial⟩ ?_
 refine fqK (s' := (kt 2 (.i v) :: kt 3 (.p 1 0) :: kt 4 (.p 2 0) :: kb 1 25 11 :: kb 2 28 4 :: sK 1 s (.v (.slice s0Tp s.Thrust.length s0Tc)) (.v (.slice s0Wp s.Water.length s0Wc)) (.v (.slice s0Ip s.Ice.length s0Ic)) [kc 2 0 (.i i.Conc), kc 2 1 (.i i.Thick), kc 2 2 (.i i.Ridge), kc 2 3 (.i i.Press)])) ?_ (kp rfl) rfl
 refine fqT ?_
 refine aqS ?_
 refine aqS ?_
 refine aqT (rows := [_, _, _]) rfl (by kernel_rfl) ⟨
  okp rfl rfl (oqL (ys := [.i s.Class, .i s.Power, .i s.Draught, .i s.Tonnes, .v (.slice s0Tp s.Thrust.length s0Tc), .v (.slice s0Wp s.Water.length s0Wc), .v (.slice s0Ip s.Ice.length s0Ic), .i s.Slow, .i s.Brash, .i s.Ridge, .i s.Press]) (lN rfl) sh_25 rfl rfl ⟨rfl, rfl, rfl, rfl, rfl, rfl, rfl, rfl, rfl, rfl, rfl, trivial⟩),
  okp rfl rfl (oqC (x := .i (check s)) (fs := []) (caps := []) (extra := []) (lN rfl) en_46 rfl ⟨rfl, rfl, rfl⟩ (EvL.cons rfl EvL.nil) (fun mm aa ww gg hr hrel => (c46 s ⟨s0Tp, s.Thrust.length, s0Tc⟩ ⟨s0Wp, s.Water.length, s0Wc⟩ ⟨s0Ip, s.Ice.length, s0Ic⟩ ww (SlIs.mono hs_Thrust hrel.below) (SlIs.mono hs_Water hrel.below) (SlIs.mono hs_Ice hrel.below)))),
  okp rfl rfl (oqA (lN rfl) rfl),
  trivial⟩ ?_
 refine fqK (s' := [kt 2 (.i v), kt 4 (.p 2 0), kt 7 (.i (check s)), kb 2 28 4, kc 2 0 (.i i.Conc), kc 2 1 (.i i.Thick), kc 2 2 (.i i.Ridge), kc 2 3 (.i i.Press)]) ?_ (kp rfl) rfl
 refine fqT ?_
 refine aqS ?_
 refine aqT (rows := [_, _]) rfl (by kernel_rfl) ⟨
  okp rfl rfl (oqM (lN rfl) rfl),
  okp rfl rfl (oqB (lN rfl) rfl rfl rfl),
  trivial⟩ ?_
 refine fqK (s' := [kt 2 (.i v), kt 4 (.p 2 0), kt 7 (.i (check s)), kt 11 (.B ((check s) != 0)), kb 2 28 4, kc 2 0 (.i i.Conc), kc 2 1 (.i i.Thick), kc 2 2 (.i i.Ridge), kc 2 3 (.i i.Press)]) ?_ (kp rfl) rfl
 refine fqT ?_
 refine aw_cond rfl (fun hz1 => ?_) (fun hz1 => ?_)
 ·have _z := hz1
  have q2 := ne_t hz1
  refine aqS ?_
  refine aqT (rows := [_, _]) rfl (by kernel_rfl) ⟨
   okp rfl rfl (oqM (lN rfl) rfl),
   okp rfl rfl (oqA (lN rfl) rfl),
   trivial⟩ ?_
  refine fqK (s' := [kt 6 (.i (check s))]) ?_ (kp rfl) rfl
  refine fqT ?_
  refine aw_ret ?_
  refine fin_then_ret ?_
  refine post_ret (x := .i (check s)) rfl rfl (rqT rfl resOK_nil) rfl (fun mm aa ww hr => ?_)
  show Ending.returned (.int .i64 (check s)) = _ ∧ _
  exact ⟨by clear hr; simp_all [asked], hr.below⟩
 ·have _z := hz1
  have q3 := ne_f hz1
  refine aw_skip ?_
  refine fqT ?_
  refine aqS ?_
  refine aqT (rows := [_, _, _, _]) rfl (by kernel_rfl) ⟨
   okp rfl rfl (oqL (ys := [.i i.Conc, .i i.Thick, .i i.Ridge, .i i.Press]) (lN rfl) sh_28 rfl rfl ⟨rfl, rfl, rfl, rfl, trivial⟩),
   okp rfl rfl (oqM (lN rfl) rfl),
   okp rfl rfl (oqC (x := .i (loaded i v)) (fs := []) (caps := []) (extra := []) (lN rfl) en_78 rfl ⟨rfl, rfl, rfl⟩ (EvL.cons rfl (EvL.cons rfl EvL.nil)) (fun mm aa ww gg hr hrel => (c78 i v ww))),
   okp rfl rfl (oqA (lN rfl) rfl),
   trivial⟩ ?_
  refine fqK (s' := [kt 6 (.i (loaded i v))]) ?_ (kp rfl) rfl
  refine fqT ?_
  refine aw_ret ?_
  refine post_ret (x := .i (loaded i v)) rfl rfl (rqT rfl resOK_nil) rfl (fun mm aa ww hr => ?_)
  show Ending.returned (.int .i64 (loaded i v)) = _ ∧ _
  exact ⟨by clear hr; simp_all [asked], hr.below⟩

theorem c90 (s : Ship) (s_Thrust_s : SlV) (s_Water_s : SlV) (s_Ice_s : SlV) (c : Cell) (w : World) (hs_Thrust : SlIs encPt 2 w s_Thrust_s s.Thrust) (hs_Water : SlIs encPt 2 w s_Water_s s.Water) (hs_Ice : SlIs encPt 2 w s_Ice_s s.Ice) : Calls Tryd.prog 90 #[.agg #[.int .i64 s.Class, .int .i64 s.Power, .int .i64 s.Draught, .int .i64 s.Tonnes, .slice s_Thrust_s.p s_Thrust_s.n s_Thrust_s.c, .slice s_Water_s.p s_Water_s.n s_Water_s.c, .slice s_Ice_s.p s_Ice_s.n s_Ice_s.c, .int .i64 s.Slow, .int .i64 s.Brash, .int .i64 s.Ridge, .int .i64 s.Press], .agg #[.int .i64 c.Conc.Lo, .int .i64 c.Conc.Hi, .int .i64 c.Thick.Lo, .int .i64 c.Thick.Hi, .int .i64 c.Ridge.Lo, .int .i64 c.Ridge.Hi, .int .i64 c.Press.Lo, .int .i64 c.Press.Hi]] w fun e w' => e = .returned (.int .i64 (met s c)) ∧ Below w.heap.size w w' := by
 obtain ⟨s0Tp, s0Tn, s0Tc⟩ := s_Thrust_s
 have hs_Thrust_l : s0Tn = s.Thrust.length := hs_Thrust.1
 subst hs_Thrust_l
 obtain ⟨s_Thrust_b, s0To, hs_Thrust_p, hs_Thrust_L⟩ := SlAt.lies' hs_Thrust
 obtain ⟨s0Wp, s0Wn, s0Wc⟩ := s_Water_s
 have hs_Water_l : s0Wn = s.Water.length := hs_Water.1
 subst hs_Water_l
 obtain ⟨s_Water_b, s0Wo, hs_Water_p, hs_Water_L⟩ := SlAt.lies' hs_Water
 obtain ⟨s0Ip, s0In, s0Ic⟩ := s_Ice_s
 have hs_Ice_l : s0In = s.Ice.length := hs_Ice.1
 subst hs_Ice_l
 obtain ⟨s_Ice_b, s0Io, hs_Ice_p, hs_Ice_L⟩ := SlAt.lies' hs_Ice
 refine enter (args := [.g [.i s.Class, .i s.Power, .i s.Draught, .i s.Tonnes, .v (.slice s0Tp s.Thrust.length s0Tc), .v (.slice s0Wp s.Water.length s0Wc), .v (.slice s0Ip s.Ice.length s0Ic), .i s.Slow, .i s.Brash, .i s.Ridge, .i s.Press], .g [.i c.Conc.Lo, .i c.Conc.Hi, .i c.Thick.Lo, .i c.Thick.Hi, .i c.Ridge.Lo, .i c.Ridge.Hi, .i c.Press.Lo, .i c.Press.Hi]]) Tryd.func90 rfl (N := 13) rfl (Nat.le_of_ble_eq_true rfl) ?_
 refine aqS ?_
 refine aqT (rows := [_, _, _]) rfl (by kernel_rfl) ⟨
  okp rfl rfl (op_boxN (L := 1) (lN rfl) rfl rfl rfl),
  okp rfl rfl (op_boxN (L := 2) (lN rfl) rfl rfl rfl),
  okp rfl rfl (oqA (lN rfl) rfl),
  trivial⟩ ?_
 refine fqK (s' := (kt 2 (.p 1 0) :: kt 3 (.p 2 0) :: kb 1 25 11 :: kb 2 34 8 :: sK 1 s (.v (.slice s0Tp s.Thrust.length s0Tc)) (.v (.slice s0Wp s.Water.length s0Wc)) (.v (.slice s0Ip s.Ice.length s0Ic)) [kc 2 0 (.i c.Conc.Lo), kc 2 1 (.i c.Conc.Hi), kc 2 2 (.i c.Thick.Lo), kc 2 3 (.i c.Thick.Hi), kc 2 4 (.i c.Ridge.Lo), kc 2 5 (.i c.Ridge.Hi), kc 2 6 (.i c.Press.Lo), kc 2 7 (.i c.Press.Hi)])) ?_ (kp rfl) rfl
 refine fqT ?_
 refine aqS ?_
 refine aqS ?_
 refine aqT (rows := [_, _, _]) rfl (by kernel_rfl) ⟨
  okp rfl rfl (oqL (ys := [.i s.Class, .i s.Power, .i s.Draught, .i s.Tonnes, .v (.slice s0Tp s.Thrust.length s0Tc), .v (.slice s0Wp s.Water.length s0Wc), .v (.slice s0Ip s.Ice.length s0Ic), .i s.Slow, .i s.Brash, .i s.Ridge, .i s.Press]) (lN rfl) sh_25 rfl rfl ⟨rfl, rfl, rfl, rfl, rfl, rfl, rfl, rfl, rfl, rfl, rfl, trivial⟩),
  okp rfl rfl (oqC (x := .i (check s)) (fs := []) (caps := []) (extra := []) (lN rfl) en_46 rfl ⟨rfl, rfl, rfl⟩ (EvL.cons rfl EvL.nil) (fun mm aa ww gg hr hrel => (c46 s ⟨s0Tp, s.Thrust.length, s0Tc⟩ ⟨s0Wp, s.Water.length, s0Wc⟩ ⟨s0Ip, s.Ice.length, s0Ic⟩ ww (SlIs.mono hs_Thrust hrel.below) (SlIs.mono hs_Water hrel.below) (SlIs.mono hs_Ice hrel.below)))),
  okp rfl rfl (oqA (lN rfl) rfl),
  trivial⟩ ?_
 refine fqK (s' := [kt 3 (.p 2 0), kt 5 (.i (check s)), kb 2 34 8, kc 2 0 (.i c.Conc.Lo), kc 2 1 (.i c.Conc.Hi), kc 2 2 (.i c.Thick.Lo), kc 2 3 (.i c.Thick.Hi), kc 2 4 (.i c.Ridge.Lo), kc 2 5 (.i c.Ridge.Hi), kc 2 6 (.i c.Press.Lo), kc 2 7 (.i c.Press.Hi)]) ?_ (kp rfl) rfl
 refine fqT ?_
 refine aqS ?_
 refine aqT (rows := [_, _]) rfl (by kernel_rfl) ⟨
  okp rfl rfl (oqM (lN rfl) rfl),
  okp rfl rfl (oqB (lN rfl) rfl rfl rfl),
  trivial⟩ ?_
 refine fqK (s' := [kt 3 (.p 2 0), kt 5 (.i (check s)), kt 9 (.B ((check s) != 0)), kb 2 34 8, kc 2 0 (.i c.Conc.Lo), kc 2 1 (.i c.Conc.Hi), kc 2 2 (.i c.Thick.Lo), kc 2 3 (.i c.Thick.Hi), kc 2 4 (.i c.Ridge.Lo), kc 2 5 (.i c.Ridge.Hi), kc 2 6 (.i c.Press.Lo), kc 2 7 (.i c.Press.Hi)]) ?_ (kp rfl) rfl
 refine fqT ?_
 refine aw_cond rfl (fun hz1 => ?_) (fun hz1 => ?_)
 ·have _z := hz1
  have q2 := ne_t hz1
  refine aqS ?_
  refine aqT (rows := [_, _]) rfl (by kernel_rfl) ⟨
   okp rfl rfl (oqM (lN rfl) rfl),
   okp rfl rfl (oqA (lN rfl) rfl),
   trivial⟩ ?_
  refine fqK (s' := [kt 4 (.i (check s))]) ?_ (kp rfl) rfl
  refine fqT ?_
  refine aw_ret ?_
  refine fin_then_ret ?_
  refine post_ret (x := .i (check s)) rfl rfl (rqT rfl resOK_nil) rfl (fun mm aa ww hr => ?_)
  show Ending.returned (.int .i64 (check s)) = _ ∧ _
  exact ⟨by clear hr; simp_all [met], hr.below⟩
 ·have _z := hz1
  have q3 := ne_f hz1
  refine aw_skip ?_
  refine fqT ?_
  refine aqS ?_
  refine aqT (rows := [_, _, _]) rfl (by kernel_rfl) ⟨
   okp rfl rfl (oqL (ys := [.i c.Conc.Lo, .i c.Conc.Hi, .i c.Thick.Lo, .i c.Thick.Hi, .i c.Ridge.Lo, .i c.Ridge.Hi, .i c.Press.Lo, .i c.Press.Hi]) (lN rfl) sh_34 rfl rfl ⟨rfl, rfl, rfl, rfl, rfl, rfl, rfl, rfl, trivial⟩),
   okp rfl rfl (oqC (x := .i (checkCell c)) (fs := []) (caps := []) (extra := []) (lN rfl) en_85 rfl ⟨rfl, rfl, rfl⟩ (EvL.cons rfl EvL.nil) (fun mm aa ww gg hr hrel => (c85 c ww))),
   okp rfl rfl (oqA (lN rfl) rfl),
   trivial⟩ ?_
  refine fqK (s' := [kt 4 (.i (checkCell c))]) ?_ (kp rfl) rfl
  refine fqT ?_
  refine aw_ret ?_
  refine post_ret (x := .i (checkCell c)) rfl rfl (rqT rfl resOK_nil) rfl (fun mm aa ww hr => ?_)
  show Ending.returned (.int .i64 (checkCell c)) = _ ∧ _
  exact ⟨by clear hr; simp_all [met], hr.below⟩

theorem c87 (s : Ship) (s_Thrust_s : SlV) (s_Water_s : SlV) (s_Ice_s : SlV) (s_b : Nat) (c : Cell) (ch : Bool) (w : World) (hs_Thrust : SlIs encPt 2 w s_Thrust_s s.Thrust) (hs_Water : SlIs encPt 2 w s_Water_s s.Water) (hs_Ice : SlIs encPt 2 w s_Ice_s s.Ice) (hs_box : BoxAt w s_b [.int .i64 s.Class, .int .i64 s.Power, .int .i64 s.Draught, .int .i64 s.Tonnes, .slice s_Thrust_s.p s_Thrust_s.n s_Thrust_s.c, .slice s_Water_s.p s_Water_s.n s_Water_s.c, .slice s_Ice_s.p s_Ice_s.n s_Ice_s.c, .int .i64 s.Slow, .int .i64 s.Brash, .int .i64 s.Ridge, .int .i64 s.Press]) (hG : BoxAt w 0 (strengths.map (fun n => Value.int .i64 n))) (hc : check s = 0) (hg : goodCell c) : Calls Tryd.prog 87 #[.pointer (some ⟨s_b, 0, none⟩), .agg #[.int .i64 c.Conc.Lo, .int .i64 c.Conc.Hi, .int .i64 c.Thick.Lo, .int .i64 c.Thick.Hi, .int .i64 c.Ridge.Lo, .int .i64 c.Ridge.Hi, .int .i64 c.Press.Lo, .int .i64 c.Press.Hi], .bool ch] w fun e w' => e = .returned (.tuple #[.int .i64 ((safe s c ch).1), .int .i64 ((safe s c ch).2)]) ∧ Below w.heap.size w w' := by
 obtain ⟨s0Tp, s0Tn, s0Tc⟩ := s_Thrust_s
 have hs_Thrust_l : s0Tn = s.Thrust.length := hs_Thrust.1
 subst hs_Thrust_l
 obtain ⟨s_Thrust_b, s0To, hs_Thrust_p, hs_Thrust_L⟩ := SlAt.lies' hs_Thrust
 obtain ⟨s0Wp, s0Wn, s0Wc⟩ := s_Water_s
 have hs_Water_l : s0Wn = s.Water.length := hs_Water.1
 subst hs_Water_l
 obtain ⟨s_Water_b, s0Wo, hs_Water_p, hs_Water_L⟩ := SlAt.lies' hs_Water
 obtain ⟨s0Ip, s0In, s0Ic⟩ := s_Ice_s
 have hs_Ice_l : s0In = s.Ice.length := hs_Ice.1
 subst hs_Ice_l
 obtain ⟨s_Ice_b, s0Io, hs_Ice_p, hs_Ice_L⟩ := SlAt.lies' hs_Ice
 have hlast := goodCell_last hg
 refine enter (args := [.v (.pointer (some ⟨s_b, 0, none⟩)), .g [.i c.Conc.Lo, .i c.Conc.Hi, .i c.Thick.Lo, .i c.Thick.Hi, .i c.Ridge.Lo, .i c.Ridge.Hi, .i c.Press.Lo, .i c.Press.Hi], .B ch]) Tryd.func87 rfl (N := 27) rfl (Nat.le_of_ble_eq_true rfl) ?_
 refine aqS ?_
 refine aqT (rows := [_, _, _]) rfl (by kernel_rfl) ⟨
  okp rfl rfl (op_boxN (L := 1) (lN rfl) rfl rfl rfl),
  okp rfl rfl (oqA (lN rfl) rfl),
  okp rfl rfl (oqA (lN rfl) rfl),
  trivial⟩ ?_
 refine fqK (s' := [kt 0 (.v (.pointer (some ⟨s_b, 0, none⟩))), kt 2 (.B ch), kt 4 (.p 1 0), kb 1 34 8, kc 1 0 (.i c.Conc.Lo), kc 1 1 (.i c.Conc.Hi), kc 1 2 (.i c.Thick.Lo), kc 1 3 (.i c.Thick.Hi), kc 1 4 (.i c.Ridge.Lo), kc 1 5 (.i c.Ridge.Hi), kc 1 6 (.i c.Press.Lo), kc 1 7 (.i c.Press.Hi)]) ?_ (kp rfl) rfl
 refine fqT ?_
 refine aqS ?_
 refine aqT (rows := [_, _, _, _, _, _, _]) rfl (by kernel_rfl) ⟨
  okp rfl rfl (oqM (lN rfl) rfl),
  okp rfl rfl (oqL (ys := [.i c.Conc.Lo, .i c.Conc.Hi, .i c.Thick.Lo, .i c.Thick.Hi, .i c.Ridge.Lo, .i c.Ridge.Hi, .i c.Press.Lo, .i c.Press.Hi]) (lN rfl) sh_34 rfl rfl ⟨rfl, rfl, rfl, rfl, rfl, rfl, rfl, rfl, trivial⟩),
  okp rfl rfl (oqC (x := .g [.i ((lastI c).Conc), .i ((lastI c).Thick), .i ((lastI c).Ridge), .i ((lastI c).Press)]) (fs := []) (caps := []) (extra := []) (lN rfl) en_100 rfl ⟨rfl, rfl, rfl⟩ (EvL.cons rfl EvL.nil) (fun mm aa ww gg hr hrel => (c100 c ww))),
  okp rfl rfl (oqM (lN rfl) rfl),
  okp rfl rfl (op_build (x := .g [.v (.pointer (some ⟨s_b, 0, none⟩)), .i ((lastI c).Conc), .i ((lastI c).Thick), .i ((lastI c).Ridge), .i ((lastI c).Press), .B ch]) (lN rfl) (EvL.cons rfl (EvL.cons rfl (EvL.cons rfl EvL.nil))) (fun m w => by kernel_rfl)),
  okp rfl rfl (op_alloc (L := 2) (lN rfl) zl_136),
  okp rfl rfl (op_storeN sz_136 rfl rfl rfl rfl rfl (by decide)),
  trivial⟩ ?_
 refine fqK (s' := [kt 8 (.p 2 0), kb 2 136 6, kc 2 0 (.v (.pointer (some ⟨s_b, 0, none⟩))), kc 2 1 (.i ((lastI c).Conc)), kc 2 2 (.i ((lastI c).Thick)), kc 2 3 (.i ((lastI c).Ridge)), kc 2 4 (.i ((lastI c).Press)), kc 2 5 (.B ch)]) ?_ (kp rfl) rfl
 refine fqT ?_
 refine aqS ?_
 refine aqS ?_
 refine aqT (rows := [_, _, _]) rfl (by kernel_rfl) ⟨
  okp rfl rfl (oqL (ys := [.v (.pointer (some ⟨s_b, 0, none⟩)), .i ((lastI c).Conc), .i ((lastI c).Thick), .i ((lastI c).Ridge), .i ((lastI c).Press), .B ch]) (lN rfl) sh_136 rfl rfl ⟨rfl, rfl, rfl, rfl, rfl, rfl, trivial⟩),
  okp rfl rfl (oqC (x := .i (speed s ((lastI c)) ch)) (fs := []) (caps := []) (extra := []) (lN rfl) en_76 rfl ⟨rfl, rfl, rfl⟩ (EvL.cons rfl EvL.nil) (fun mm aa ww gg hr hrel => (c76 s ⟨s0Tp, s.Thrust.length, s0Tc⟩ ⟨s0Wp, s.Water.length, s0Wc⟩ ⟨s0Ip, s.Ice.length, s0Ic⟩ s_b ((lastI c)) ch ww (SlIs.mono hs_Thrust hrel.below) (SlIs.mono hs_Water hrel.below) (SlIs.mono hs_Ice hrel.below) (BoxAt.mono hs_box hrel.below) (by first | assumption | omega) (by first | assumption | omega)))),
  okp rfl rfl (oqB (lN rfl) rfl rfl rfl),
  trivial⟩ ?_
 refine fqK (s' := [kt 8 (.p 2 0), kt 18 (.B (decide ((speed s ((lastI c)) ch) < 10))), kb 2 136 6, kc 2 0 (.v (.pointer (some ⟨s_b, 0, none⟩))), kc 2 1 (.i ((lastI c).Conc)), kc 2 2 (.i ((lastI c).Thick)), kc 2 3 (.i ((lastI c).Ridge)), kc 2 4 (.i ((lastI c).Press)), kc 2 5 (.B ch)]) ?_ (kp rfl) rfl
 refine fqT ?_
 refine aw_cond rfl (fun hz1 => ?_) (fun hz1 => ?_)
 ·have _z := hz1
  have q2 := of_decide_eq_true hz1
  refine aqS ?_
  refine aqT (rows := [_, _]) rfl (by kernel_rfl) ⟨
   okp rfl rfl (oqA (lN rfl) rfl),
   okp rfl rfl (oqA (lN rfl) rfl),
   trivial⟩ ?_
  refine fqK (s' := [kt 6 (.i 0), kt 7 (.i 4)]) ?_ (kp rfl) rfl
  refine fqT ?_
  refine aw_ret ?_
  refine fin_then_ret ?_
  refine post_ret (x := .t [.i 0, .i 4]) rfl rfl (rqT rfl (rqT rfl resOK_nil)) rfl (fun mm aa ww hr => ?_)
  show Ending.returned (.tuple #[.int .i64 0, .int .i64 4]) = _ ∧ _
  exact ⟨by rw [safe, if_pos (of_decide_eq_true hz1)], hr.below⟩
 ·have _z := hz1
  have q3 := of_decide_eq_false hz1
  refine aw_skip ?_
  refine fqT ?_
  refine aqS ?_
  refine aqT (rows := [_, _, _, _, _, _, _]) rfl (by kernel_rfl) ⟨
   okp rfl rfl (oqL (ys := [.v (.pointer (some ⟨s_b, 0, none⟩)), .i ((lastI c).Conc), .i ((lastI c).Thick), .i ((lastI c).Ridge), .i ((lastI c).Press), .B ch]) (lN rfl) sh_136 rfl rfl ⟨rfl, rfl, rfl, rfl, rfl, rfl, trivial⟩),
   okp rfl rfl (oqC (x := .t [.i ((goes s ((lastI c)) ch).1), .B ((goes s ((lastI c)) ch).2)]) (fs := []) (caps := []) (extra := []) (lN rfl) en_89 rfl ⟨rfl, rfl, rfl⟩ (EvL.cons rfl EvL.nil) (fun mm aa ww gg hr hrel => (c89 s ⟨s0Tp, s.Thrust.length, s0Tc⟩ ⟨s0Wp, s.Water.length, s0Wc⟩ ⟨s0Ip, s.Ice.length, s0Ic⟩ s_b ((lastI c)) ch ww (SlIs.mono hs_Thrust hrel.below) (SlIs.mono hs_Water hrel.below) (SlIs.mono hs_Ice hrel.below) (BoxAt.mono hs_box hrel.below) (BoxAt.mono hG hrel.below) (by first | assumption | omega) (by first | assumption | omega)))),
   okp rfl rfl (oqM (lN rfl) rfl),
   okp rfl rfl (op_extract (lN rfl) rfl rfl),
   okp rfl rfl (op_extract (lN rfl) rfl rfl),
   okp rfl rfl (oqA (lN rfl) rfl),
   okp rfl rfl (oqA (lN rfl) rfl),
   trivial⟩ ?_
  refine fqK (s' := [kt 9 (.i ((goes s ((lastI c)) ch).1)), kt 10 (.B ((goes s ((lastI c)) ch).2))]) ?_ (kp rfl) rfl
  refine fqT ?_
  refine aqS ?_
  refine aqS ?_
  refine aqT (rows := [_, _]) rfl (by kernel_rfl) ⟨
   okp rfl rfl (oqM (lN rfl) rfl),
   okp rfl rfl (op_not (lN rfl) rfl),
   trivial⟩ ?_
  refine fqK (s' := [kt 9 (.i ((goes s ((lastI c)) ch).1)), kt 25 (.B (!((goes s ((lastI c)) ch).2)))]) ?_ (kp rfl) rfl
  refine fqT ?_
  refine aw_cond rfl (fun hz4 => ?_) (fun hz4 => ?_)
  ·have _z := hz4
   have q5 := not_t hz4
   refine aqS ?_
   refine aqT (rows := [_, _]) rfl (by kernel_rfl) ⟨
    okp rfl rfl (oqA (lN rfl) rfl),
    okp rfl rfl (oqA (lN rfl) rfl),
    trivial⟩ ?_
   refine fqK (s' := [kt 6 (.i 0), kt 7 (.i 41)]) ?_ (kp rfl) rfl
   refine fqT ?_
   refine aw_ret ?_
   refine fin_then_ret ?_
   refine post_ret (x := .t [.i 0, .i 41]) rfl rfl (rqT rfl (rqT rfl resOK_nil)) rfl (fun mm aa ww hr => ?_)
   show Ending.returned (.tuple #[.int .i64 0, .int .i64 41]) = _ ∧ _
   exact ⟨by rw [safe, if_neg (of_decide_eq_false hz1), not_t hz4]; rfl, hr.below⟩
  ·have _z := hz4
   have q6 := not_f hz4
   refine aw_skip ?_
   refine fqT ?_
   refine aqS ?_
   refine aqT (rows := [_, _, _]) rfl (by kernel_rfl) ⟨
    okp rfl rfl (oqM (lN rfl) rfl),
    okp rfl rfl (oqA (lN rfl) rfl),
    okp rfl rfl (oqA (lN rfl) rfl),
    trivial⟩ ?_
   refine fqK (s' := [kt 6 (.i ((goes s ((lastI c)) ch).1)), kt 7 (.i 0)]) ?_ (kp rfl) rfl
   refine fqT ?_
   refine aw_ret ?_
   refine post_ret (x := .t [.i ((goes s ((lastI c)) ch).1), .i 0]) rfl rfl (rqT rfl (rqT rfl resOK_nil)) rfl (fun mm aa ww hr => ?_)
   show Ending.returned (.tuple #[.int .i64 ((goes s ((lastI c)) ch).1), .int .i64 0]) = _ ∧ _
   exact ⟨by rw [safe, if_neg (of_decide_eq_false hz1), not_f hz4]; rfl, hr.below⟩

theorem c18 (s : Ship) (s_Thrust_s : SlV) (s_Water_s : SlV) (s_Ice_s : SlV) (i : Ice) (ch : Bool) (w : World) (hs_Thrust : SlIs encPt 2 w s_Thrust_s s.Thrust) (hs_Water : SlIs encPt 2 w s_Water_s s.Water) (hs_Ice : SlIs encPt 2 w s_Ice_s s.Ice) : Calls Tryd.prog 18 #[.agg #[.int .i64 s.Class, .int .i64 s.Power, .int .i64 s.Draught, .int .i64 s.Tonnes, .slice s_Thrust_s.p s_Thrust_s.n s_Thrust_s.c, .slice s_Water_s.p s_Water_s.n s_Water_s.c, .slice s_Ice_s.p s_Ice_s.n s_Ice_s.c, .int .i64 s.Slow, .int .i64 s.Brash, .int .i64 s.Ridge, .int .i64 s.Press], .agg #[.int .i64 i.Conc, .int .i64 i.Thick, .int .i64 i.Ridge, .int .i64 i.Press], .bool ch] w fun e w' => e = .returned (.tuple #[.int .i64 ((speedE s i ch).1), .int .i64 ((speedE s i ch).2)]) ∧ Below w.heap.size w w' := by
 obtain ⟨s0Tp, s0Tn, s0Tc⟩ := s_Thrust_s
 have hs_Thrust_l : s0Tn = s.Thrust.length := hs_Thrust.1
 subst hs_Thrust_l
 obtain ⟨s_Thrust_b, s0To, hs_Thrust_p, hs_Thrust_L⟩ := SlAt.lies' hs_Thrust
 obtain ⟨s0Wp, s0Wn, s0Wc⟩ := s_Water_s
 have hs_Water_l : s0Wn = s.Water.length := hs_Water.1
 subst hs_Water_l
 obtain ⟨s_Water_b, s0Wo, hs_Water_p, hs_Water_L⟩ := SlAt.lies' hs_Water
 obtain ⟨s0Ip, s0In, s0Ic⟩ := s_Ice_s
 have hs_Ice_l : s0In = s.Ice.length := hs_Ice.1
 subst hs_Ice_l
 obtain ⟨s_Ice_b, s0Io, hs_Ice_p, hs_Ice_L⟩ := SlAt.lies' hs_Ice
 refine enter (args := [.g [.i s.Class, .i s.Power, .i s.Draught, .i s.Tonnes, .v (.slice s0Tp s.Thrust.length s0Tc), .v (.slice s0Wp s.Water.length s0Wc), .v (.slice s0Ip s.Ice.length s0Ic), .i s.Slow, .i s.Brash, .i s.Ridge, .i s.Press], .g [.i i.Conc, .i i.Thick, .i i.Ridge, .i i.Press], .B ch]) Tryd.func18 rfl (N := 19) rfl (Nat.le_of_ble_eq_true rfl) ?_
 refine aqS ?_
 refine aqT (rows := [_, _, _, _]) rfl (by kernel_rfl) ⟨
  okp rfl rfl (op_boxN (L := 1) (lN rfl) rfl rfl rfl),
  okp rfl rfl (op_boxN (L := 2) (lN rfl) rfl rfl rfl),
  okp rfl rfl (oqA (lN rfl) rfl),
  okp rfl rfl (oqA (lN rfl) rfl),
  trivial⟩ ?_
 refine fqK (s' := (kt 2 (.B ch) :: kt 3 (.p 1 0) :: kt 4 (.p 2 0) :: kb 1 25 11 :: kb 2 28 4 :: sK 1 s (.v (.slice s0Tp s.Thrust.length s0Tc)) (.v (.slice s0Wp s.Water.length s0Wc)) (.v (.slice s0Ip s.Ice.length s0Ic)) [kc 2 0 (.i i.Conc), kc 2 1 (.i i.Thick), kc 2 2 (.i i.Ridge), kc 2 3 (.i i.Press)])) ?_ (kp rfl) rfl
 refine fqT ?_
 refine aqS ?_
 refine aqS ?_
 refine aqT (rows := [_, _, _, _]) rfl (by kernel_rfl) ⟨
  okp rfl rfl (oqL (ys := [.i s.Class, .i s.Power, .i s.Draught, .i s.Tonnes, .v (.slice s0Tp s.Thrust.length s0Tc), .v (.slice s0Wp s.Water.length s0Wc), .v (.slice s0Ip s.Ice.length s0Ic), .i s.Slow, .i s.Brash, .i s.Ridge, .i s.Press]) (lN rfl) sh_25 rfl rfl ⟨rfl, rfl, rfl, rfl, rfl, rfl, rfl, rfl, rfl, rfl, rfl, trivial⟩),
  okp rfl rfl (oqL (ys := [.i i.Conc, .i i.Thick, .i i.Ridge, .i i.Press]) (lN rfl) sh_28 rfl rfl ⟨rfl, rfl, rfl, rfl, trivial⟩),
  okp rfl rfl (oqC (x := .i (asked s i 0)) (fs := []) (caps := []) (extra := []) (lN rfl) en_75 rfl ⟨rfl, rfl, rfl⟩ (EvL.cons rfl (EvL.cons rfl (EvL.cons rfl EvL.nil))) (fun mm aa ww gg hr hrel => (c75 s ⟨s0Tp, s.Thrust.length, s0Tc⟩ ⟨s0Wp, s.Water.length, s0Wc⟩ ⟨s0Ip, s.Ice.length, s0Ic⟩ i 0 ww (SlIs.mono hs_Thrust hrel.below) (SlIs.mono hs_Water hrel.below) (SlIs.mono hs_Ice hrel.below)))),
  okp rfl rfl (oqA (lN rfl) rfl),
  trivial⟩ ?_
 refine fqK (s' := (kt 2 (.B ch) :: kt 3 (.p 1 0) :: kt 4 (.p 2 0) :: kt 8 (.i (asked s i 0)) :: kb 1 25 11 :: kb 2 28 4 :: sK 1 s (.v (.slice s0Tp s.Thrust.length s0Tc)) (.v (.slice s0Wp s.Water.length s0Wc)) (.v (.slice s0Ip s.Ice.length s0Ic)) [kc 2 0 (.i i.Conc), kc 2 1 (.i i.Thick), kc 2 2 (.i i.Ridge), kc 2 3 (.i i.Press)])) ?_ (kp rfl) rfl
 refine fqT ?_
 refine aqS ?_
 refine aqT (rows := [_, _]) rfl (by kernel_rfl) ⟨
  okp rfl rfl (oqM (lN rfl) rfl),
  okp rfl rfl (oqB (lN rfl) rfl rfl rfl),
  trivial⟩ ?_
 refine fqK (s' := (kt 2 (.B ch) :: kt 3 (.p 1 0) :: kt 4 (.p 2 0) :: kt 8 (.i (asked s i 0)) :: kt 13 (.B ((asked s i 0) != 0)) :: kb 1 25 11 :: kb 2 28 4 :: sK 1 s (.v (.slice s0Tp s.Thrust.length s0Tc)) (.v (.slice s0Wp s.Water.length s0Wc)) (.v (.slice s0Ip s.Ice.length s0Ic)) [kc 2 0 (.i i.Conc), kc 2 1 (.i i.Thick), kc 2 2 (.i i.Ridge), kc 2 3 (.i i.Press)])) ?_ (kp rfl) rfl
 refine fqT ?_
 refine aw_cond rfl (fun hz1 => ?_) (fun hz1 => ?_)
 ·have _z := hz1
  have q2 := ne_t hz1
  refine aqS ?_
  refine aqT (rows := [_, _, _]) rfl (by kernel_rfl) ⟨
   okp rfl rfl (oqM (lN rfl) rfl),
   okp rfl rfl (oqA (lN rfl) rfl),
   okp rfl rfl (oqA (lN rfl) rfl),
   trivial⟩ ?_
  refine fqK (s' := [kt 6 (.i 0), kt 7 (.i (asked s i 0))]) ?_ (kp rfl) rfl
  refine fqT ?_
  refine aw_ret ?_
  refine fin_then_ret ?_
  refine post_ret (x := .t [.i 0, .i (asked s i 0)]) rfl rfl (rqT rfl (rqT rfl resOK_nil)) rfl (fun mm aa ww hr => ?_)
  show Ending.returned (.tuple #[.int .i64 0, .int .i64 (asked s i 0)]) = _ ∧ _
  exact ⟨by rw [speedE, if_pos (ne_t hz1)], hr.below⟩
 ·have _z := hz1
  have q3 := ne_f hz1
  refine aw_skip ?_
  refine fqT ?_
  refine aqS ?_
  have hak := asked_ok (ne_f hz1)
  have hc := hak.1
  have hi := hak.2.1
  refine aqT (rows := [_, _, _, _, _, _]) rfl (by kernel_rfl) ⟨
   okp rfl rfl (oqL (ys := [.i i.Conc, .i i.Thick, .i i.Ridge, .i i.Press]) (lN rfl) sh_28 rfl rfl ⟨rfl, rfl, rfl, rfl, trivial⟩),
   okp rfl rfl (oqM (lN rfl) rfl),
   okp rfl rfl (op_build (x := .g [.p 1 0, .i i.Conc, .i i.Thick, .i i.Ridge, .i i.Press, .B ch]) (lN rfl) (EvL.cons rfl (EvL.cons rfl (EvL.cons rfl EvL.nil))) (fun m w => by kernel_rfl)),
   okp rfl rfl (oqC (x := .i (speed s i ch)) (fs := []) (caps := []) (extra := (kapp ((.b 1 :: cellKeys 1 0 11)) [])) (lN rfl) en_76 rfl ⟨rfl, rfl, rfl⟩ (EvL.cons rfl EvL.nil) (fun mm aa ww gg hr hrel => (c76 s ⟨s0Tp, s.Thrust.length, s0Tc⟩ ⟨s0Wp, s.Water.length, s0Wc⟩ ⟨s0Ip, s.Ice.length, s0Ic⟩ (mm 1) i ch ww (SlIs.mono hs_Thrust hrel.below) (SlIs.mono hs_Water hrel.below) (SlIs.mono hs_Ice hrel.below) (boxAt (L := 1) (vs := [(.int .i64 s.Class), (.int .i64 s.Power), (.int .i64 s.Draught), (.int .i64 s.Tonnes), (.slice s0Tp s.Thrust.length s0Tc), (.slice s0Wp s.Water.length s0Wc), (.slice s0Ip s.Ice.length s0Ic), (.int .i64 s.Slow), (.int .i64 s.Brash), (.int .i64 s.Ridge), (.int .i64 s.Press)]) hrel (fun k hk => hr k (List.mem_append_left _ hk)) rfl ⟨rfl, rfl, rfl, rfl, rfl, rfl, rfl, rfl, rfl, rfl, rfl, trivial⟩) (by first | assumption | omega) (by first | assumption | omega)))),
   okp rfl rfl (oqA (lN rfl) rfl),
   okp rfl rfl (oqA (lN rfl) rfl),
   trivial⟩ ?_
  refine fqK (s' := [kt 6 (.i (speed s i ch)), kt 7 (.i 0)]) ?_ (kp rfl) rfl
  refine fqT ?_
  refine aw_ret ?_
  refine post_ret (x := .t [.i (speed s i ch), .i 0]) rfl rfl (rqT rfl (rqT rfl resOK_nil)) rfl (fun mm aa ww hr => ?_)
  show Ending.returned (.tuple #[.int .i64 (speed s i ch), .int .i64 0]) = _ ∧ _
  exact ⟨by rw [speedE, if_neg (by rw [ne_f hz1]; decide)], hr.below⟩

theorem c19 (s : Ship) (s_Thrust_s : SlV) (s_Water_s : SlV) (s_Ice_s : SlV) (i : Ice) (v : Int) (ch : Bool) (w : World) (hs_Thrust : SlIs encPt 2 w s_Thrust_s s.Thrust) (hs_Water : SlIs encPt 2 w s_Water_s s.Water) (hs_Ice : SlIs encPt 2 w s_Ice_s s.Ice) : Calls Tryd.prog 19 #[.agg #[.int .i64 s.Class, .int .i64 s.Power, .int .i64 s.Draught, .int .i64 s.Tonnes, .slice s_Thrust_s.p s_Thrust_s.n s_Thrust_s.c, .slice s_Water_s.p s_Water_s.n s_Water_s.c, .slice s_Ice_s.p s_Ice_s.n s_Ice_s.c, .int .i64 s.Slow, .int .i64 s.Brash, .int .i64 s.Ridge, .int .i64 s.Press], .agg #[.int .i64 i.Conc, .int .i64 i.Thick, .int .i64 i.Ridge, .int .i64 i.Press], .int .i64 v, .bool ch] w fun e w' => e = .returned (.tuple #[.int .i64 ((resistanceE s i v ch).1), .int .i64 ((resistanceE s i v ch).2)]) ∧ Below w.heap.size w w' := by
 obtain ⟨s0Tp, s0Tn, s0Tc⟩ := s_Thrust_s
 have hs_Thrust_l : s0Tn = s.Thrust.length := hs_Thrust.1
 subst hs_Thrust_l
 obtain ⟨s_Thrust_b, s0To, hs_Thrust_p, hs_Thrust_L⟩ := SlAt.lies' hs_Thrust
 obtain ⟨s0Wp, s0Wn, s0Wc⟩ := s_Water_s
 have hs_Water_l : s0Wn = s.Water.length := hs_Water.1
 subst hs_Water_l
 obtain ⟨s_Water_b, s0Wo, hs_Water_p, hs_Water_L⟩ := SlAt.lies' hs_Water
 obtain ⟨s0Ip, s0In, s0Ic⟩ := s_Ice_s
 have hs_Ice_l : s0In = s.Ice.length := hs_Ice.1
 subst hs_Ice_l
 obtain ⟨s_Ice_b, s0Io, hs_Ice_p, hs_Ice_L⟩ := SlAt.lies' hs_Ice
 refine enter (args := [.g [.i s.Class, .i s.Power, .i s.Draught, .i s.Tonnes, .v (.slice s0Tp s.Thrust.length s0Tc), .v (.slice s0Wp s.Water.length s0Wc), .v (.slice s0Ip s.Ice.length s0Ic), .i s.Slow, .i s.Brash, .i s.Ridge, .i s.Press], .g [.i i.Conc, .i i.Thick, .i i.Ridge, .i i.Press], .i v, .B ch]) Tryd.func19 rfl (N := 23) rfl (Nat.le_of_ble_eq_true rfl) ?_
 refine aqS ?_
 refine aqT (rows := [_, _, _, _]) rfl (by kernel_rfl) ⟨
  okp rfl rfl (op_boxN (L := 1) (lN rfl) rfl rfl rfl),
  okp rfl rfl (op_boxN (L := 2) (lN rfl) rfl rfl rfl),
  okp rfl rfl (oqA (lN rfl) rfl),
  okp rfl rfl (oqA (lN rfl) rfl),
  trivial⟩ ?_
 refine fqK (s' := (kt 2 (.i v) :: kt 3 (.B ch) :: kt 4 (.p 1 0) :: kt 5 (.p 2 0) :: kb 1 25 11 :: kb 2 28 4 :: sK 1 s (.v (.slice s0Tp s.Thrust.length s0Tc)) (.v (.slice s0Wp s.Water.length s0Wc)) (.v (.slice s0Ip s.Ice.length s0Ic)) [kc 2 0 (.i i.Conc), kc 2 1 (.i i.Thick), kc 2 2 (.i i.Ridge), kc 2 3 (.i i.Press)])) ?_ (kp rfl) rfl
 refine fqT ?_
 refine aqS ?_
 refine aqS ?_
 refine aqT (rows := [_, _, _, _, _]) rfl (by kernel_rfl) ⟨
  okp rfl rfl (oqL (ys := [.i s.Class, .i s.Power, .i s.Draught, .i s.Tonnes, .v (.slice s0Tp s.Thrust.length s0Tc), .v (.slice s0Wp s.Water.length s0Wc), .v (.slice s0Ip s.Ice.length s0Ic), .i s.Slow, .i s.Brash, .i s.Ridge, .i s.Press]) (lN rfl) sh_25 rfl rfl ⟨rfl, rfl, rfl, rfl, rfl, rfl, rfl, rfl, rfl, rfl, rfl, trivial⟩),
  okp rfl rfl (oqL (ys := [.i i.Conc, .i i.Thick, .i i.Ridge, .i i.Press]) (lN rfl) sh_28 rfl rfl ⟨rfl, rfl, rfl, rfl, trivial⟩),
  okp rfl rfl (oqM (lN rfl) rfl),
  okp rfl rfl (oqC (x := .i (asked s i v)) (fs := []) (caps := []) (extra := []) (lN rfl) en_75 rfl ⟨rfl, rfl, rfl⟩ (EvL.cons rfl (EvL.cons rfl (EvL.cons rfl EvL.nil))) (fun mm aa ww gg hr hrel => (c75 s ⟨s0Tp, s.Thrust.length, s0Tc⟩ ⟨s0Wp, s.Water.length, s0Wc⟩ ⟨s0Ip, s.Ice.length, s0Ic⟩ i v ww (SlIs.mono hs_Thrust hrel.below) (SlIs.mono hs_Water hrel.below) (SlIs.mono hs_Ice hrel.below)))),
  okp rfl rfl (oqA (lN rfl) rfl),
  trivial⟩ ?_
 refine fqK (s' := (kt 2 (.i v) :: kt 3 (.B ch) :: kt 4 (.p 1 0) :: kt 5 (.p 2 0) :: kt 10 (.i (asked s i v)) :: kb 1 25 11 :: kb 2 28 4 :: sK 1 s (.v (.slice s0Tp s.Thrust.length s0Tc)) (.v (.slice s0Wp s.Water.length s0Wc)) (.v (.slice s0Ip s.Ice.length s0Ic)) [kc 2 0 (.i i.Conc), kc 2 1 (.i i.Thick), kc 2 2 (.i i.Ridge), kc 2 3 (.i i.Press)])) ?_ (kp rfl) rfl
 refine fqT ?_
 refine aqS ?_
 refine aqT (rows := [_, _]) rfl (by kernel_rfl) ⟨
  okp rfl rfl (oqM (lN rfl) rfl),
  okp rfl rfl (oqB (lN rfl) rfl rfl rfl),
  trivial⟩ ?_
 refine fqK (s' := (kt 2 (.i v) :: kt 3 (.B ch) :: kt 4 (.p 1 0) :: kt 5 (.p 2 0) :: kt 10 (.i (asked s i v)) :: kt 16 (.B ((asked s i v) != 0)) :: kb 1 25 11 :: kb 2 28 4 :: sK 1 s (.v (.slice s0Tp s.Thrust.length s0Tc)) (.v (.slice s0Wp s.Water.length s0Wc)) (.v (.slice s0Ip s.Ice.length s0Ic)) [kc 2 0 (.i i.Conc), kc 2 1 (.i i.Thick), kc 2 2 (.i i.Ridge), kc 2 3 (.i i.Press)])) ?_ (kp rfl) rfl
 refine fqT ?_
 refine aw_cond rfl (fun hz1 => ?_) (fun hz1 => ?_)
 ·have _z := hz1
  have q2 := ne_t hz1
  refine aqS ?_
  refine aqT (rows := [_, _, _]) rfl (by kernel_rfl) ⟨
   okp rfl rfl (oqM (lN rfl) rfl),
   okp rfl rfl (oqA (lN rfl) rfl),
   okp rfl rfl (oqA (lN rfl) rfl),
   trivial⟩ ?_
  refine fqK (s' := [kt 8 (.i 0), kt 9 (.i (asked s i v))]) ?_ (kp rfl) rfl
  refine fqT ?_
  refine aw_ret ?_
  refine fin_then_ret ?_
  refine post_ret (x := .t [.i 0, .i (asked s i v)]) rfl rfl (rqT rfl (rqT rfl resOK_nil)) rfl (fun mm aa ww hr => ?_)
  show Ending.returned (.tuple #[.int .i64 0, .int .i64 (asked s i v)]) = _ ∧ _
  exact ⟨by rw [resistanceE, if_pos (ne_t hz1)], hr.below⟩
 ·have _z := hz1
  have q3 := ne_f hz1
  refine aw_skip ?_
  refine fqT ?_
  refine aqS ?_
  have hak := asked_ok (ne_f hz1)
  have hc := hak.1
  have hi := hak.2.1
  have hv := hak.2.2
  refine aqT (rows := [_, _, _, _, _, _, _]) rfl (by kernel_rfl) ⟨
   okp rfl rfl (oqL (ys := [.i i.Conc, .i i.Thick, .i i.Ridge, .i i.Press]) (lN rfl) sh_28 rfl rfl ⟨rfl, rfl, rfl, rfl, trivial⟩),
   okp rfl rfl (oqM (lN rfl) rfl),
   okp rfl rfl (op_build (x := .g [.p 1 0, .i i.Conc, .i i.Thick, .i i.Ridge, .i i.Press, .B ch]) (lN rfl) (EvL.cons rfl (EvL.cons rfl (EvL.cons rfl EvL.nil))) (fun m w => by kernel_rfl)),
   okp rfl rfl (oqM (lN rfl) rfl),
   okp rfl rfl (oqC (x := .i (resistance s i ch v)) (fs := []) (caps := []) (extra := (kapp ((.b 1 :: cellKeys 1 0 11)) [])) (lN rfl) en_77 rfl ⟨rfl, rfl, rfl⟩ (EvL.cons rfl (EvL.cons rfl EvL.nil)) (fun mm aa ww gg hr hrel => (c77 s ⟨s0Tp, s.Thrust.length, s0Tc⟩ ⟨s0Wp, s.Water.length, s0Wc⟩ ⟨s0Ip, s.Ice.length, s0Ic⟩ (mm 1) i ch v ww (SlIs.mono hs_Thrust hrel.below) (SlIs.mono hs_Water hrel.below) (SlIs.mono hs_Ice hrel.below) (boxAt (L := 1) (vs := [(.int .i64 s.Class), (.int .i64 s.Power), (.int .i64 s.Draught), (.int .i64 s.Tonnes), (.slice s0Tp s.Thrust.length s0Tc), (.slice s0Wp s.Water.length s0Wc), (.slice s0Ip s.Ice.length s0Ic), (.int .i64 s.Slow), (.int .i64 s.Brash), (.int .i64 s.Ridge), (.int .i64 s.Press)]) hrel (fun k hk => hr k (List.mem_append_left _ hk)) rfl ⟨rfl, rfl, rfl, rfl, rfl, rfl, rfl, rfl, rfl, rfl, rfl, trivial⟩) (by first | assumption | omega) (by first | assumption | omega) (by first | assumption | omega)))),
   okp rfl rfl (oqA (lN rfl) rfl),
   okp rfl rfl (oqA (lN rfl) rfl),
   trivial⟩ ?_
  refine fqK (s' := [kt 8 (.i (resistance s i ch v)), kt 9 (.i 0)]) ?_ (kp rfl) rfl
  refine fqT ?_
  refine aw_ret ?_
  refine post_ret (x := .t [.i (resistance s i ch v), .i 0]) rfl rfl (rqT rfl (rqT rfl resOK_nil)) rfl (fun mm aa ww hr => ?_)
  show Ending.returned (.tuple #[.int .i64 (resistance s i ch v), .int .i64 0]) = _ ∧ _
  exact ⟨by rw [resistanceE, if_neg (by rw [ne_f hz1]; decide)], hr.below⟩

theorem c20 (i : Ice) (v : Int) (ch : Bool) (w : World)  : Calls Tryd.prog 20 #[.agg #[.int .i64 i.Conc, .int .i64 i.Thick, .int .i64 i.Ridge, .int .i64 i.Press], .int .i64 v, .bool ch] w fun e w' => e = .returned (.tuple #[.int .i64 ((loadE i v ch).1), .int .i64 ((loadE i v ch).2)]) ∧ Below w.heap.size w w' := by
 refine enter (args := [.g [.i i.Conc, .i i.Thick, .i i.Ridge, .i i.Press], .i v, .B ch]) Tryd.func20 rfl (N := 19) rfl (Nat.le_of_ble_eq_true rfl) ?_
 refine aqS ?_
 refine aqT (rows := [_, _, _]) rfl (by kernel_rfl) ⟨
  okp rfl rfl (op_boxN (L := 1) (lN rfl) rfl rfl rfl),
  okp rfl rfl (oqA (lN rfl) rfl),
  okp rfl rfl (oqA (lN rfl) rfl),
  trivial⟩ ?_
 refine fqK (s' := [kt 1 (.i v), kt 2 (.B ch), kt 3 (.p 1 0), kb 1 28 4, kc 1 0 (.i i.Conc), kc 1 1 (.i i.Thick), kc 1 2 (.i i.Ridge), kc 1 3 (.i i.Press)]) ?_ (kp rfl) rfl
 refine fqT ?_
 refine aqS ?_
 refine aqS ?_
 refine aqT (rows := [_, _, _, _]) rfl (by kernel_rfl) ⟨
  okp rfl rfl (oqL (ys := [.i i.Conc, .i i.Thick, .i i.Ridge, .i i.Press]) (lN rfl) sh_28 rfl rfl ⟨rfl, rfl, rfl, rfl, trivial⟩),
  okp rfl rfl (oqM (lN rfl) rfl),
  okp rfl rfl (oqC (x := .i (loaded i v)) (fs := []) (caps := []) (extra := []) (lN rfl) en_78 rfl ⟨rfl, rfl, rfl⟩ (EvL.cons rfl (EvL.cons rfl EvL.nil)) (fun mm aa ww gg hr hrel => (c78 i v ww))),
  okp rfl rfl (oqA (lN rfl) rfl),
  trivial⟩ ?_
 refine fqK (s' := [kt 1 (.i v), kt 2 (.B ch), kt 3 (.p 1 0), kt 8 (.i (loaded i v)), kb 1 28 4, kc 1 0 (.i i.Conc), kc 1 1 (.i i.Thick), kc 1 2 (.i i.Ridge), kc 1 3 (.i i.Press)]) ?_ (kp rfl) rfl
 refine fqT ?_
 refine aqS ?_
 refine aqT (rows := [_, _]) rfl (by kernel_rfl) ⟨
  okp rfl rfl (oqM (lN rfl) rfl),
  okp rfl rfl (oqB (lN rfl) rfl rfl rfl),
  trivial⟩ ?_
 refine fqK (s' := [kt 1 (.i v), kt 2 (.B ch), kt 3 (.p 1 0), kt 8 (.i (loaded i v)), kt 13 (.B ((loaded i v) != 0)), kb 1 28 4, kc 1 0 (.i i.Conc), kc 1 1 (.i i.Thick), kc 1 2 (.i i.Ridge), kc 1 3 (.i i.Press)]) ?_ (kp rfl) rfl
 refine fqT ?_
 refine aw_cond rfl (fun hz1 => ?_) (fun hz1 => ?_)
 ·have _z := hz1
  have q2 := ne_t hz1
  refine aqS ?_
  refine aqT (rows := [_, _, _]) rfl (by kernel_rfl) ⟨
   okp rfl rfl (oqM (lN rfl) rfl),
   okp rfl rfl (oqA (lN rfl) rfl),
   okp rfl rfl (oqA (lN rfl) rfl),
   trivial⟩ ?_
  refine fqK (s' := [kt 6 (.i 0), kt 7 (.i (loaded i v))]) ?_ (kp rfl) rfl
  refine fqT ?_
  refine aw_ret ?_
  refine fin_then_ret ?_
  refine post_ret (x := .t [.i 0, .i (loaded i v)]) rfl rfl (rqT rfl (rqT rfl resOK_nil)) rfl (fun mm aa ww hr => ?_)
  show Ending.returned (.tuple #[.int .i64 0, .int .i64 (loaded i v)]) = _ ∧ _
  exact ⟨by rw [loadE, if_pos (ne_t hz1)], hr.below⟩
 ·have _z := hz1
  have q3 := ne_f hz1
  refine aw_skip ?_
  refine fqT ?_
  refine aqS ?_
  have hak := loaded_ok (ne_f hz1)
  have hi := hak.1
  have hv := hak.2
  refine aqT (rows := [_, _, _, _, _, _]) rfl (by kernel_rfl) ⟨
   okp rfl rfl (oqL (ys := [.i i.Conc, .i i.Thick, .i i.Ridge, .i i.Press]) (lN rfl) sh_28 rfl rfl ⟨rfl, rfl, rfl, rfl, trivial⟩),
   okp rfl rfl (oqM (lN rfl) rfl),
   okp rfl rfl (oqM (lN rfl) rfl),
   okp rfl rfl (oqC (x := .i (loadI i v ch)) (fs := []) (caps := []) (extra := []) (lN rfl) en_79 rfl ⟨rfl, rfl, rfl⟩ (EvL.cons rfl (EvL.cons rfl (EvL.cons rfl EvL.nil))) (fun mm aa ww gg hr hrel => (c79 i v ch ww (by first | assumption | omega) (by first | assumption | omega)))),
   okp rfl rfl (oqA (lN rfl) rfl),
   okp rfl rfl (oqA (lN rfl) rfl),
   trivial⟩ ?_
  refine fqK (s' := [kt 6 (.i (loadI i v ch)), kt 7 (.i 0)]) ?_ (kp rfl) rfl
  refine fqT ?_
  refine aw_ret ?_
  refine post_ret (x := .t [.i (loadI i v ch), .i 0]) rfl rfl (rqT rfl (rqT rfl resOK_nil)) rfl (fun mm aa ww hr => ?_)
  show Ending.returned (.tuple #[.int .i64 (loadI i v ch), .int .i64 0]) = _ ∧ _
  exact ⟨by rw [loadE, if_neg (by rw [ne_f hz1]; decide)], hr.below⟩

theorem c86 (p : Part) (v : Int) (w : World) (hp : 1 ≤ p.Length ∧ p.Length ≤ 10000) (hv : 1 ≤ v ∧ v ≤ 250) : Calls Tryd.prog 86 #[.agg #[.int .i64 p.Cell.Conc.Lo, .int .i64 p.Cell.Conc.Hi, .int .i64 p.Cell.Thick.Lo, .int .i64 p.Cell.Thick.Hi, .int .i64 p.Cell.Ridge.Lo, .int .i64 p.Cell.Ridge.Hi, .int .i64 p.Cell.Press.Lo, .int .i64 p.Cell.Press.Hi, .bool p.Channel, .int .i64 p.Length], .int .i64 v] w fun e w' => e = .returned (.int .i64 (takes p v)) ∧ Below w.heap.size w w' := by
 refine enter (args := [.g [.i p.Cell.Conc.Lo, .i p.Cell.Conc.Hi, .i p.Cell.Thick.Lo, .i p.Cell.Thick.Hi, .i p.Cell.Ridge.Lo, .i p.Cell.Ridge.Hi, .i p.Cell.Press.Lo, .i p.Cell.Press.Hi, .B p.Channel, .i p.Length], .i v]) Tryd.func86 rfl (N := 13) rfl (Nat.le_of_ble_eq_true rfl) ?_
 refine aqS ?_
 refine aqT (rows := [_, _]) rfl (by kernel_rfl) ⟨
  okp rfl rfl (op_boxN (L := 1) (lN rfl) rfl rfl rfl),
  okp rfl rfl (oqA (lN rfl) rfl),
  trivial⟩ ?_
 refine fqK (s' := [kt 1 (.i v), kt 2 (.p 1 0), kb 1 48 10, kc 1 0 (.i p.Cell.Conc.Lo), kc 1 1 (.i p.Cell.Conc.Hi), kc 1 2 (.i p.Cell.Thick.Lo), kc 1 3 (.i p.Cell.Thick.Hi), kc 1 4 (.i p.Cell.Ridge.Lo), kc 1 5 (.i p.Cell.Ridge.Hi), kc 1 6 (.i p.Cell.Press.Lo), kc 1 7 (.i p.Cell.Press.Hi), kc 1 8 (.B p.Channel), kc 1 9 (.i p.Length)]) ?_ (kp rfl) rfl
 refine fqT ?_
 refine aqS ?_
 refine aqT (rows := [_, _, _, _, _, _, _, _, _]) rfl (by kernel_rfl) ⟨
  okp rfl rfl (oqF (lN rfl) rfl fo_48_2),
  okp rfl rfl (oq1 (lN rfl) sh_3 rfl rfl),
  okp rfl rfl (oqB (lN rfl) rfl rfl (nw_mul ⟨(by omega), (by omega)⟩)),
  okp rfl rfl (oqM (lN rfl) rfl),
  okp rfl rfl (oqB (lN rfl) rfl rfl (nw_add ⟨(by omega), (by omega)⟩)),
  okp rfl rfl (oqB (lN rfl) rfl rfl (nw_sub ⟨(by omega), (by omega)⟩)),
  okp rfl rfl (oqM (lN rfl) rfl),
  okp rfl rfl (op_quo (lN rfl) rfl rfl (by omega) (quo_nn (by omega) (by omega) (by omega))),
  okp rfl rfl (oqA (lN rfl) rfl),
  trivial⟩ ?_
 refine fqK (s' := [kt 4 (.i ((((60 * p.Length) + v) - 1) / v))]) ?_ (kp rfl) rfl
 refine fqT ?_
 refine aw_ret ?_
 refine post_ret (x := .i ((((60 * p.Length) + v) - 1) / v)) rfl rfl (rqT rfl resOK_nil) rfl (fun mm aa ww hr => ?_)
 show Ending.returned (.int .i64 ((((60 * p.Length) + v) - 1) / v)) = _ ∧ _
 first
  | exact ⟨rfl, hr.below⟩

end Go.Proofs.T

namespace Go.Proofs.T
open Go Go.AX Go.RowKit Hull
theorem zl_32 : zeroL Tryd.prog 32 = some [(.int .i64 0), (.int .i64 0)] := by kernel_rfl
theorem en_90 : Proofs.Enters Tryd.prog 90 := Proofs.enters_of Tryd.func90 (by kernel_rfl) rfl
theorem sz_32 : sizeIn Tryd.prog 32 = some 2 := by kernel_rfl
theorem ss_56 : sliceSz Tryd.prog 56 = some 2 := by kernel_rfl
theorem en_88 : Proofs.Enters Tryd.prog 88 := Proofs.enters_of Tryd.func88 (by kernel_rfl) rfl
theorem sz_3 : sizeIn Tryd.prog 3 = some 1 := by kernel_rfl

set_option maxHeartbeats 1000000 in
theorem c35 (s : Ship) (s_Thrust_s : SlV) (s_Water_s : SlV) (s_Ice_s : SlV) (c : Cell) (press : List Span) (press_s : SlV) (w : World) (hs_Thrust : SlIs encPt 2 w s_Thrust_s s.Thrust) (hs_Water : SlIs encPt 2 w s_Water_s s.Water) (hs_Ice : SlIs encPt 2 w s_Ice_s s.Ice) (hpress : SlIs encSpan 2 w press_s press) : Calls Tryd.prog 35 #[.agg #[.int .i64 s.Class, .int .i64 s.Power, .int .i64 s.Draught, .int .i64 s.Tonnes, .slice s_Thrust_s.p s_Thrust_s.n s_Thrust_s.c, .slice s_Water_s.p s_Water_s.n s_Water_s.c, .slice s_Ice_s.p s_Ice_s.n s_Ice_s.c, .int .i64 s.Slow, .int .i64 s.Brash, .int .i64 s.Ridge, .int .i64 s.Press], .agg #[.int .i64 c.Conc.Lo, .int .i64 c.Conc.Hi, .int .i64 c.Thick.Lo, .int .i64 c.Thick.Hi, .int .i64 c.Ridge.Lo, .int .i64 c.Ridge.Hi, .int .i64 c.Press.Lo, .int .i64 c.Press.Hi], .slice press_s.p press_s.n press_s.c] w fun e w' => e = .returned (.tuple #[.agg #[.int .i64 (((free s c press).1).Lo), .int .i64 (((free s c press).1).Hi)], .int .i64 ((free s c press).2)]) ∧ Below w.heap.size w w' := by
 obtain ⟨s0Tp, s0Tn, s0Tc⟩ := s_Thrust_s
 have hs_Thrust_l : s0Tn = s.Thrust.length := hs_Thrust.1
 subst hs_Thrust_l
 obtain ⟨s_Thrust_b, s0To, hs_Thrust_p, hs_Thrust_L⟩ := SlAt.lies' hs_Thrust
 obtain ⟨s0Wp, s0Wn, s0Wc⟩ := s_Water_s
 have hs_Water_l : s0Wn = s.Water.length := hs_Water.1
 subst hs_Water_l
 obtain ⟨s_Water_b, s0Wo, hs_Water_p, hs_Water_L⟩ := SlAt.lies' hs_Water
 obtain ⟨s0Ip, s0In, s0Ic⟩ := s_Ice_s
 have hs_Ice_l : s0In = s.Ice.length := hs_Ice.1
 subst hs_Ice_l
 obtain ⟨s_Ice_b, s0Io, hs_Ice_p, hs_Ice_L⟩ := SlAt.lies' hs_Ice
 obtain ⟨press_p, press_n, press_c⟩ := press_s
 have hpress_l : press_n = press.length := hpress.1
 subst hpress_l
 obtain ⟨press_b, press_o, hpress_p, hpress_L⟩ := SlAt.lies' hpress
 refine enter (args := [.g [.i s.Class, .i s.Power, .i s.Draught, .i s.Tonnes, .v (.slice s0Tp s.Thrust.length s0Tc), .v (.slice s0Wp s.Water.length s0Wc), .v (.slice s0Ip s.Ice.length s0Ic), .i s.Slow, .i s.Brash, .i s.Ridge, .i s.Press], .g [.i c.Conc.Lo, .i c.Conc.Hi, .i c.Thick.Lo, .i c.Thick.Hi, .i c.Ridge.Lo, .i c.Ridge.Hi, .i c.Press.Lo, .i c.Press.Hi], .v (.slice press_p press.length press_c)]) Tryd.func35 rfl (N := 80) rfl (Nat.le_of_ble_eq_true rfl) ?_
 refine aqS ?_
 refine aqT (rows := [_, _, _, _]) rfl (by kernel_rfl) ⟨
  okp rfl rfl (op_boxN (L := 1) (lN rfl) rfl rfl rfl),
  okp rfl rfl (op_boxN (L := 2) (lN rfl) rfl rfl rfl),
  okp rfl rfl (op_alloc (L := 3) (lN rfl) zl_32),
  okp rfl rfl (oqA (lN rfl) rfl),
  trivial⟩ ?_
 refine fqK (s' := (kt 2 (.v (.slice press_p press.length press_c)) :: kt 3 (.p 1 0) :: kt 4 (.p 2 0) :: kt 6 (.p 3 0) :: kb 1 25 11 :: kb 2 34 8 :: kb 3 32 2 :: sK 1 s (.v (.slice s0Tp s.Thrust.length s0Tc)) (.v (.slice s0Wp s.Water.length s0Wc)) (.v (.slice s0Ip s.Ice.length s0Ic)) [kc 2 0 (.i c.Conc.Lo), kc 2 1 (.i c.Conc.Hi), kc 2 2 (.i c.Thick.Lo), kc 2 3 (.i c.Thick.Hi), kc 2 4 (.i c.Ridge.Lo), kc 2 5 (.i c.Ridge.Hi), kc 2 6 (.i c.Press.Lo), kc 2 7 (.i c.Press.Hi), kc 3 0 (.i 0), kc 3 1 (.i 0)])) ?_ (kp rfl) rfl
 refine fqT ?_
 refine aqS ?_
 refine aqS ?_
 refine aqT (rows := [_, _, _, _]) rfl (by kernel_rfl) ⟨
  okp rfl rfl (oqL (ys := [.i s.Class, .i s.Power, .i s.Draught, .i s.Tonnes, .v (.slice s0Tp s.Thrust.length s0Tc), .v (.slice s0Wp s.Water.length s0Wc), .v (.slice s0Ip s.Ice.length s0Ic), .i s.Slow, .i s.Brash, .i s.Ridge, .i s.Press]) (lN rfl) sh_25 rfl rfl ⟨rfl, rfl, rfl, rfl, rfl, rfl, rfl, rfl, rfl, rfl, rfl, trivial⟩),
  okp rfl rfl (oqL (ys := [.i c.Conc.Lo, .i c.Conc.Hi, .i c.Thick.Lo, .i c.Thick.Hi, .i c.Ridge.Lo, .i c.Ridge.Hi, .i c.Press.Lo, .i c.Press.Hi]) (lN rfl) sh_34 rfl rfl ⟨rfl, rfl, rfl, rfl, rfl, rfl, rfl, rfl, trivial⟩),
  okp rfl rfl (oqC (x := .i (met s c)) (fs := []) (caps := []) (extra := []) (lN rfl) en_90 rfl ⟨rfl, rfl, rfl⟩ (EvL.cons rfl (EvL.cons rfl EvL.nil)) (fun mm aa ww gg hr hrel => (c90 s ⟨s0Tp, s.Thrust.length, s0Tc⟩ ⟨s0Wp, s.Water.length, s0Wc⟩ ⟨s0Ip, s.Ice.length, s0Ic⟩ c ww (SlIs.mono hs_Thrust hrel.below) (SlIs.mono hs_Water hrel.below) (SlIs.mono hs_Ice hrel.below)))),
  okp rfl rfl (oqA (lN rfl) rfl),
  trivial⟩ ?_
 refine fqK (s' := (kt 2 (.v (.slice press_p press.length press_c)) :: kt 3 (.p 1 0) :: kt 4 (.p 2 0) :: kt 6 (.p 3 0) :: kt 8 (.i (met s c)) :: kb 1 25 11 :: kb 2 34 8 :: kb 3 32 2 :: sK 1 s (.v (.slice s0Tp s.Thrust.length s0Tc)) (.v (.slice s0Wp s.Water.length s0Wc)) (.v (.slice s0Ip s.Ice.length s0Ic)) [kc 2 0 (.i c.Conc.Lo), kc 2 1 (.i c.Conc.Hi), kc 2 2 (.i c.Thick.Lo), kc 2 3 (.i c.Thick.Hi), kc 2 4 (.i c.Ridge.Lo), kc 2 5 (.i c.Ridge.Hi), kc 2 6 (.i c.Press.Lo), kc 2 7 (.i c.Press.Hi), kc 3 0 (.i 0), kc 3 1 (.i 0)])) ?_ (kp rfl) rfl
 refine fqT ?_
 refine aqS ?_
 refine aqT (rows := [_, _]) rfl (by kernel_rfl) ⟨
  okp rfl rfl (oqM (lN rfl) rfl),
  okp rfl rfl (oqB (lN rfl) rfl rfl rfl),
  trivial⟩ ?_
 refine fqK (s' := (kt 2 (.v (.slice press_p press.length press_c)) :: kt 3 (.p 1 0) :: kt 4 (.p 2 0) :: kt 6 (.p 3 0) :: kt 8 (.i (met s c)) :: kt 18 (.B ((met s c) != 0)) :: kb 1 25 11 :: kb 2 34 8 :: kb 3 32 2 :: sK 1 s (.v (.slice s0Tp s.Thrust.length s0Tc)) (.v (.slice s0Wp s.Water.length s0Wc)) (.v (.slice s0Ip s.Ice.length s0Ic)) [kc 2 0 (.i c.Conc.Lo), kc 2 1 (.i c.Conc.Hi), kc 2 2 (.i c.Thick.Lo), kc 2 3 (.i c.Thick.Hi), kc 2 4 (.i c.Ridge.Lo), kc 2 5 (.i c.Ridge.Hi), kc 2 6 (.i c.Press.Lo), kc 2 7 (.i c.Press.Hi), kc 3 0 (.i 0), kc 3 1 (.i 0)])) ?_ (kp rfl) rfl
 refine fqT ?_
 refine aw_cond rfl (fun hz1 => ?_) (fun hz1 => ?_)
 ·have _z := hz1
  have q2 := ne_t hz1
  refine aqS ?_
  refine aqT (rows := [_, _, _, _]) rfl (by kernel_rfl) ⟨
   okp rfl rfl (op_build (x := .g [.i 0, .i 0]) (lN rfl) EvL.nil (fun m w => by kernel_rfl)),
   okp rfl rfl (oqM (lN rfl) rfl),
   okp rfl rfl (op_storeN sz_32 rfl rfl rfl rfl rfl (by decide)),
   okp rfl rfl (oqA (lN rfl) rfl),
   trivial⟩ ?_
  refine fqK (s' := [kt 6 (.p 3 0), kt 7 (.i (met s c)), kb 3 32 2, kc 3 0 (.i 0), kc 3 1 (.i 0)]) ?_ (kp rfl) rfl
  refine fqT ?_
  refine aw_ret ?_
  refine fin_then_ret ?_
  refine post_ret (x := .t [.g [.i 0, .i 0], .i (met s c)]) rfl rfl (resOK_cellN (ys := [.i 0, .i 0]) rfl sh_32 rfl ⟨rfl, rfl, trivial⟩ (rqT rfl resOK_nil)) rfl (fun mm aa ww hr => ?_)
  show Ending.returned (.tuple #[.agg #[.int .i64 0, .int .i64 0], .int .i64 (met s c)]) = _ ∧ _
  exact ⟨by rw [free, if_pos (ne_t hz1)], hr.below⟩
 ·have _z := hz1
  have q3 := ne_f hz1
  refine aw_skip ?_
  refine fqT ?_
  refine aqS ?_
  refine aqS ?_
  have hmet := met_ok (ne_f hz1)
  refine aqT (rows := [_, _, _]) rfl (by kernel_rfl) ⟨
   okp rfl rfl (oqM (lN rfl) rfl),
   okp rfl rfl (op_len (n := press.length) (lN rfl) (by rw [ss_56]; rfl) rfl rfl),
   okp rfl rfl (oqB (lN rfl) rfl rfl rfl),
   trivial⟩ ?_
  refine fqK (s' := (kt 2 (.v (.slice press_p press.length press_c)) :: kt 3 (.p 1 0) :: kt 4 (.p 2 0) :: kt 6 (.p 3 0) :: kt 23 (.B (decide ((((press.length : Nat) : Int)) > 240))) :: kb 1 25 11 :: kb 2 34 8 :: kb 3 32 2 :: sK 1 s (.v (.slice s0Tp s.Thrust.length s0Tc)) (.v (.slice s0Wp s.Water.length s0Wc)) (.v (.slice s0Ip s.Ice.length s0Ic)) [kc 2 0 (.i c.Conc.Lo), kc 2 1 (.i c.Conc.Hi), kc 2 2 (.i c.Thick.Lo), kc 2 3 (.i c.Thick.Hi), kc 2 4 (.i c.Ridge.Lo), kc 2 5 (.i c.Ridge.Hi), kc 2 6 (.i c.Press.Lo), kc 2 7 (.i c.Press.Hi), kc 3 0 (.i 0), kc 3 1 (.i 0)])) ?_ (kp rfl) rfl
  refine fqT ?_
  refine aw_cond rfl (fun hz4 => ?_) (fun hz4 => ?_)
  ·have _z := hz4
   have q5 := of_decide_eq_true hz4
   refine aqS ?_
   refine aqT (rows := [_, _, _]) rfl (by kernel_rfl) ⟨
    okp rfl rfl (op_build (x := .g [.i 0, .i 0]) (lN rfl) EvL.nil (fun m w => by kernel_rfl)),
    okp rfl rfl (op_storeN sz_32 rfl rfl rfl rfl rfl (by decide)),
    okp rfl rfl (oqA (lN rfl) rfl),
    trivial⟩ ?_
   refine fqK (s' := [kt 6 (.p 3 0), kt 7 (.i 2), kb 3 32 2, kc 3 0 (.i 0), kc 3 1 (.i 0)]) ?_ (kp rfl) rfl
   refine fqT ?_
   refine aw_ret ?_
   refine fin_then_ret ?_
   refine post_ret (x := .t [.g [.i 0, .i 0], .i 2]) rfl rfl (resOK_cellN (ys := [.i 0, .i 0]) rfl sh_32 rfl ⟨rfl, rfl, trivial⟩ (rqT rfl resOK_nil)) rfl (fun mm aa ww hr => ?_)
   show Ending.returned (.tuple #[.agg #[.int .i64 0, .int .i64 0], .int .i64 2]) = _ ∧ _
   exact ⟨by rw [free, if_neg (by rw [ne_f hz1]; decide), if_pos (of_decide_eq_true hz4)], hr.below⟩
  ·have _z := hz4
   have q6 := of_decide_eq_false hz4
   refine aw_skip ?_
   refine fqT ?_
   refine aqS ?_
   refine aqS ?_
   refine aqT (rows := [_, _, _]) rfl (by kernel_rfl) ⟨
    okp rfl rfl (oqM (lN rfl) rfl),
    okp rfl rfl (op_len (n := press.length) (lN rfl) (by rw [ss_56]; rfl) rfl rfl),
    okp rfl rfl (oqM (lN rfl) rfl),
    trivial⟩ ?_
   refine fqK (s' := (kt 2 (.v (.slice press_p press.length press_c)) :: kt 3 (.p 1 0) :: kt 4 (.p 2 0) :: kt 6 (.p 3 0) :: kt 25 (.v (.slice press_p press.length press_c)) :: kt 26 (.i (((press.length : Nat) : Int))) :: kt 27 (.i 0) :: kb 1 25 11 :: kb 2 34 8 :: kb 3 32 2 :: sK 1 s (.v (.slice s0Tp s.Thrust.length s0Tc)) (.v (.slice s0Wp s.Water.length s0Wc)) (.v (.slice s0Ip s.Ice.length s0Ic)) [kc 2 0 (.i c.Conc.Lo), kc 2 1 (.i c.Conc.Hi), kc 2 2 (.i c.Thick.Lo), kc 2 3 (.i c.Thick.Hi), kc 2 4 (.i c.Ridge.Lo), kc 2 5 (.i c.Ridge.Hi), kc 2 6 (.i c.Press.Lo), kc 2 7 (.i c.Press.Hi), kc 3 0 (.i 0), kc 3 1 (.i 0)])) ?_ (kp rfl) rfl
   refine fqT ?_
   refine aw_block ?_
   refine AW.keep (s' := (fun (k : Nat) => (kt 2 (.v (.slice press_p press.length press_c)) :: kt 3 (.p 1 0) :: kt 4 (.p 2 0) :: kt 6 (.p 3 0) :: kt 25 (.v (.slice press_p press.length press_c)) :: kt 26 (.i (((press.length : Nat) : Int))) :: kt 27 (.i ((k : Int))) :: kb 1 25 11 :: kb 2 34 8 :: kb 3 32 2 :: sK 1 s (.v (.slice s0Tp s.Thrust.length s0Tc)) (.v (.slice s0Wp s.Water.length s0Wc)) (.v (.slice s0Ip s.Ice.length s0Ic)) [kc 2 0 (.i c.Conc.Lo), kc 2 1 (.i c.Conc.Hi), kc 2 2 (.i c.Thick.Lo), kc 2 3 (.i c.Thick.Hi), kc 2 4 (.i c.Ridge.Lo), kc 2 5 (.i c.Ridge.Hi), kc 2 6 (.i c.Press.Lo), kc 2 7 (.i c.Press.Hi), kc 3 0 (.i 0), kc 3 1 (.i 0)])) ((0 : Nat))) ?_ (kp rfl) rfl
   refine aw_loop (ι := Nat) (fun k => k ≤ press.length ∧ ∀ j < k, pressOK (sp press (j : Int)) = true) (fun k => (kt 2 (.v (.slice press_p press.length press_c)) :: kt 3 (.p 1 0) :: kt 4 (.p 2 0) :: kt 6 (.p 3 0) :: kt 25 (.v (.slice press_p press.length press_c)) :: kt 26 (.i (((press.length : Nat) : Int))) :: kt 27 (.i ((k : Int))) :: kb 1 25 11 :: kb 2 34 8 :: kb 3 32 2 :: sK 1 s (.v (.slice s0Tp s.Thrust.length s0Tc)) (.v (.slice s0Wp s.Water.length s0Wc)) (.v (.slice s0Ip s.Ice.length s0Ic)) [kc 2 0 (.i c.Conc.Lo), kc 2 1 (.i c.Conc.Hi), kc 2 2 (.i c.Thick.Lo), kc 2 3 (.i c.Thick.Hi), kc 2 4 (.i c.Ridge.Lo), kc 2 5 (.i c.Ridge.Hi), kc 2 6 (.i c.Press.Lo), kc 2 7 (.i c.Press.Hi), kc 3 0 (.i 0), kc 3 1 (.i 0)])) (fun k => press.length - k) ⟨Nat.zero_le _, fun j hj => absurd hj (Nat.not_lt_zero j)⟩ (fun k hI => ?_)
   obtain ⟨hk, hall⟩ := hI
   refine aqS ?_
   refine aqT (rows := [_]) rfl (by kernel_rfl) ⟨
    okp rfl rfl (oqB (lN rfl) rfl rfl rfl),
    trivial⟩ ?_
   refine fqK (s' := (kt 2 (.v (.slice press_p press.length press_c)) :: kt 3 (.p 1 0) :: kt 4 (.p 2 0) :: kt 6 (.p 3 0) :: kt 25 (.v (.slice press_p press.length press_c)) :: kt 26 (.i (((press.length : Nat) : Int))) :: kt 27 (.i ((k : Int))) :: kt 28 (.B (decide (((k : Int)) < (((press.length : Nat) : Int))))) :: kb 1 25 11 :: kb 2 34 8 :: kb 3 32 2 :: sK 1 s (.v (.slice s0Tp s.Thrust.length s0Tc)) (.v (.slice s0Wp s.Water.length s0Wc)) (.v (.slice s0Ip s.Ice.length s0Ic)) [kc 2 0 (.i c.Conc.Lo), kc 2 1 (.i c.Conc.Hi), kc 2 2 (.i c.Thick.Lo), kc 2 3 (.i c.Thick.Hi), kc 2 4 (.i c.Ridge.Lo), kc 2 5 (.i c.Ridge.Hi), kc 2 6 (.i c.Press.Lo), kc 2 7 (.i c.Press.Hi), kc 3 0 (.i 0), kc 3 1 (.i 0)])) ?_ (kp rfl) rfl
   refine fqT ?_
   refine aqS ?_
   refine aw_cond rfl (fun hz7 => ?_) (fun hz7 => ?_)
   ·have _z := hz7
    have q8 := of_decide_eq_true hz7
    refine aw_skip ?_
    refine fqT ?_
    refine aqS ?_
    refine aw_block ?_
    refine aqS ?_
    refine aqT (rows := [_, _, _, _]) rfl (by kernel_rfl) ⟨
     okp rfl rfl (op_ixB (lN rfl) rfl rfl ss_56 (hpress_p (ne_of_ix (i := (k : Int)) (by omega) (by omega))) (by omega) (by omega)),
     okp rfl rfl (op_loadB (y := .g [.i (((sp press ((k : Int)))).Lo), .i (((sp press ((k : Int)))).Hi)]) (lN rfl) rfl (ldN (hpress_L (ne_of_ix (i := (k : Int)) (by omega) (by omega))) ⟨0, 0⟩ (i := (k : Int)) (by omega) (by omega) 0 (vs := [(.int .i64 (((sp press ((k : Int)))).Lo)), (.int .i64 (((sp press ((k : Int)))).Hi))]) (fun zq zv zh => sub_get (vs := [(.int .i64 (((sp press ((k : Int)))).Lo)), (.int .i64 (((sp press ((k : Int)))).Hi))]) rfl zh) rfl sh_32 rfl)),
     okp rfl rfl (op_alloc (L := 4) (lN rfl) zl_32),
     okp rfl rfl (op_storeN sz_32 rfl rfl rfl rfl rfl (by decide)),
     trivial⟩ ?_
    refine fqK (s' := (kt 2 (.v (.slice press_p press.length press_c)) :: kt 3 (.p 1 0) :: kt 4 (.p 2 0) :: kt 6 (.p 3 0) :: kt 10 (.p 4 0) :: kt 25 (.v (.slice press_p press.length press_c)) :: kt 26 (.i (((press.length : Nat) : Int))) :: kt 27 (.i ((k : Int))) :: kb 1 25 11 :: kb 2 34 8 :: kb 3 32 2 :: kb 4 32 2 :: sK 1 s (.v (.slice s0Tp s.Thrust.length s0Tc)) (.v (.slice s0Wp s.Water.length s0Wc)) (.v (.slice s0Ip s.Ice.length s0Ic)) [kc 2 0 (.i c.Conc.Lo), kc 2 1 (.i c.Conc.Hi), kc 2 2 (.i c.Thick.Lo), kc 2 3 (.i c.Thick.Hi), kc 2 4 (.i c.Ridge.Lo), kc 2 5 (.i c.Ridge.Hi), kc 2 6 (.i c.Press.Lo), kc 2 7 (.i c.Press.Hi), kc 3 0 (.i 0), kc 3 1 (.i 0), kc 4 0 (.i (((sp press ((k : Int)))).Lo)), kc 4 1 (.i (((sp press ((k : Int)))).Hi))])) ?_ (kp rfl) rfl
    refine fqT ?_
    refine aqS ?_
    refine aqT (rows := [_, _, _, _, _, _, _, _, _, _, _, _, _, _, _]) rfl (by kernel_rfl) ⟨
     okp rfl rfl (oqF (lN rfl) rfl fo_32_0),
     okp rfl rfl (oq1 (lN rfl) sh_3 rfl rfl),
     okp rfl rfl (oqB (lN rfl) rfl rfl rfl),
     okp rfl rfl (oqM (lN rfl) rfl),
     ok_if (lN rfl) rfl rfl rfl rfl rfl rfl (fun hg9 => oqF (lN rfl) (force_x rfl) fo_32_1),
     ok_if (lN rfl) rfl rfl rfl rfl rfl rfl (fun hg10 => oq1 (lN rfl) sh_3 (force_eq (beq_iff_eq.2 hg10) rfl) rfl),
     ok_if (lN rfl) rfl rfl rfl rfl rfl rfl (fun hg11 => oqB (lN rfl) (force_eq (beq_iff_eq.2 hg11) rfl) rfl rfl),
     okp rfl rfl (op_or (lN rfl) rfl rfl),
     okp rfl rfl (oqM (lN rfl) rfl),
     ok_if (lN rfl) rfl rfl rfl rfl rfl rfl (fun hg12 => oqF (lN rfl) (force_x rfl) fo_32_0),
     ok_if (lN rfl) rfl rfl rfl rfl rfl rfl (fun hg13 => oq1 (lN rfl) sh_3 (force_eq (beq_iff_eq.2 hg13) rfl) rfl),
     ok_if (lN rfl) rfl rfl rfl rfl rfl rfl (fun hg14 => oqF (lN rfl) (force_x rfl) fo_32_1),
     ok_if (lN rfl) rfl rfl rfl rfl rfl rfl (fun hg15 => oq1 (lN rfl) sh_3 (force_eq (beq_iff_eq.2 hg15) rfl) rfl),
     ok_if (lN rfl) rfl rfl rfl rfl rfl rfl (fun hg16 => oqB (lN rfl) (force_eq (beq_iff_eq.2 hg16) rfl) (force_eq (beq_iff_eq.2 hg16) rfl) rfl),
     okp rfl rfl (op_or (lN rfl) rfl rfl),
     trivial⟩ ?_
    refine fqK (s' := (kt 2 (.v (.slice press_p press.length press_c)) :: kt 3 (.p 1 0) :: kt 4 (.p 2 0) :: kt 6 (.p 3 0) :: kt 25 (.v (.slice press_p press.length press_c)) :: kt 26 (.i (((press.length : Nat) : Int))) :: kt 27 (.i ((k : Int))) :: kt 45 (.B (((decide ((((sp press ((k : Int)))).Lo) < 0)) || (decide ((((sp press ((k : Int)))).Hi) > 3))) || (decide ((((sp press ((k : Int)))).Lo) > (((sp press ((k : Int)))).Hi))))) :: kb 1 25 11 :: kb 2 34 8 :: kb 3 32 2 :: sK 1 s (.v (.slice s0Tp s.Thrust.length s0Tc)) (.v (.slice s0Wp s.Water.length s0Wc)) (.v (.slice s0Ip s.Ice.length s0Ic)) [kc 2 0 (.i c.Conc.Lo), kc 2 1 (.i c.Conc.Hi), kc 2 2 (.i c.Thick.Lo), kc 2 3 (.i c.Thick.Hi), kc 2 4 (.i c.Ridge.Lo), kc 2 5 (.i c.Ridge.Hi), kc 2 6 (.i c.Press.Lo), kc 2 7 (.i c.Press.Hi), kc 3 0 (.i 0), kc 3 1 (.i 0)])) ?_ (kp rfl) rfl
    refine fqT ?_
    refine aw_cond rfl (fun hz17 => ?_) (fun hz17 => ?_)
    ·have _z := hz17
     have q18 := hz17
     refine aqS ?_
     refine aqT (rows := [_, _, _]) rfl (by kernel_rfl) ⟨
      okp rfl rfl (op_build (x := .g [.i 0, .i 0]) (lN rfl) EvL.nil (fun m w => by kernel_rfl)),
      okp rfl rfl (op_storeN sz_32 rfl rfl rfl rfl rfl (by decide)),
      okp rfl rfl (oqA (lN rfl) rfl),
      trivial⟩ ?_
     refine fqK (s' := [kt 6 (.p 3 0), kt 7 (.i 6), kb 3 32 2, kc 3 0 (.i 0), kc 3 1 (.i 0)]) ?_ (kp rfl) rfl
     refine fqT ?_
     refine aw_ret ?_
     refine fin_block_ret ?_
     refine fin_then_ret ?_
     refine fin_then_ret ?_
     refine fin_block_ret ?_
     refine fin_then_ret ?_
     refine post_ret (x := .t [.g [.i 0, .i 0], .i 6]) rfl rfl (resOK_cellN (ys := [.i 0, .i 0]) rfl sh_32 rfl ⟨rfl, rfl, trivial⟩ (rqT rfl resOK_nil)) rfl (fun mm aa ww hr => ?_)
     show Ending.returned (.tuple #[.agg #[.int .i64 0, .int .i64 0], .int .i64 6]) = _ ∧ _
     exact ⟨by rw [free, if_neg (by rw [ne_f hz1]; decide), if_neg (of_decide_eq_false hz4), all_sp_no (f := pressOK) (k := k) (by omega) (b2 hz17)]; rfl, hr.below⟩
    ·have _z := hz17
     have q19 := of_decide_eq_false (or_fl (or_fl hz17))
     have q20 := of_decide_eq_false (or_fr (or_fl hz17))
     have q21 := of_decide_eq_false (or_fr hz17)
     refine aw_skip ?_
     refine fin_block ?_
     refine fqT ?_
     refine aqT (rows := [_, _]) rfl (by kernel_rfl) ⟨
      okp rfl rfl (oqB (lN rfl) rfl rfl (nw_add ⟨(by omega), (by omega)⟩)),
      okp rfl rfl (oqM (lN rfl) rfl),
      trivial⟩ ?_
     refine fqK (s' := (kt 2 (.v (.slice press_p press.length press_c)) :: kt 3 (.p 1 0) :: kt 4 (.p 2 0) :: kt 6 (.p 3 0) :: kt 25 (.v (.slice press_p press.length press_c)) :: kt 26 (.i (((press.length : Nat) : Int))) :: kt 27 (.i (((k : Int)) + 1)) :: kb 1 25 11 :: kb 2 34 8 :: kb 3 32 2 :: sK 1 s (.v (.slice s0Tp s.Thrust.length s0Tc)) (.v (.slice s0Wp s.Water.length s0Wc)) (.v (.slice s0Ip s.Ice.length s0Ic)) [kc 2 0 (.i c.Conc.Lo), kc 2 1 (.i c.Conc.Hi), kc 2 2 (.i c.Thick.Lo), kc 2 3 (.i c.Thick.Hi), kc 2 4 (.i c.Ridge.Lo), kc 2 5 (.i c.Ridge.Hi), kc 2 6 (.i c.Press.Lo), kc 2 7 (.i c.Press.Hi), kc 3 0 (.i 0), kc 3 1 (.i 0)])) ?_ (kp rfl) rfl
     exact fin_loop (k + 1) ⟨by omega, fun j hj => by rcases Nat.lt_succ_iff_lt_or_eq.1 hj with h | rfl; exact hall j h; exact b4 hz17⟩ (by omega) ⟨rfl, rfl, rfl, rfl, rfl, rfl, rfl, rfl, rfl, rfl, rfl, rfl, rfl, rfl, rfl, rfl, rfl, rfl, rfl, rfl, rfl, rfl, rfl, rfl, rfl, rfl, rfl, rfl, rfl, rfl, rfl, trivial⟩ rfl
   ·have _z := hz7
    have q22 := of_decide_eq_false hz7
    refine aw_exit ?_
    refine fin_then_exit ?_
    refine fin_then_exit ?_
    refine fin_block_exit ?_
    refine fqT ?_
    refine aqS ?_
    have hpall := all_sp (f := pressOK) (k := k) (by omega) hall
    have hfree0 : free s c press = freeFrom s c (press.drop 0) 0 (-1) := by rw [free, if_neg (by rw [ne_f hz1]; decide), if_neg (of_decide_eq_false hz4), hpall]; rfl
    have hc := hmet.1
    refine aqT (rows := [_, _, _]) rfl (by kernel_rfl) ⟨
     okp rfl rfl (op_build (x := .g [.i ((-1)), .i 0]) (lN rfl) (EvL.cons rfl EvL.nil) (fun m w => by kernel_rfl)),
     okp rfl rfl (op_alloc (L := 5) (lN rfl) zl_32),
     okp rfl rfl (op_storeN sz_32 rfl rfl rfl rfl rfl (by decide)),
     trivial⟩ ?_
    refine fqK (s' := (kt 2 (.v (.slice press_p press.length press_c)) :: kt 3 (.p 1 0) :: kt 4 (.p 2 0) :: kt 6 (.p 3 0) :: kt 11 (.p 5 0) :: kb 1 25 11 :: kb 2 34 8 :: kb 3 32 2 :: kb 5 32 2 :: sK 1 s (.v (.slice s0Tp s.Thrust.length s0Tc)) (.v (.slice s0Wp s.Water.length s0Wc)) (.v (.slice s0Ip s.Ice.length s0Ic)) [kc 2 0 (.i c.Conc.Lo), kc 2 1 (.i c.Conc.Hi), kc 2 2 (.i c.Thick.Lo), kc 2 3 (.i c.Thick.Hi), kc 2 4 (.i c.Ridge.Lo), kc 2 5 (.i c.Ridge.Hi), kc 2 6 (.i c.Press.Lo), kc 2 7 (.i c.Press.Hi), kc 3 0 (.i 0), kc 3 1 (.i 0), kc 5 0 (.i ((-1))), kc 5 1 (.i 0)])) ?_ (kp rfl) rfl
    refine fqT ?_
    refine aqS ?_
    refine aqS ?_
    refine aqT (rows := [_, _, _]) rfl (by kernel_rfl) ⟨
     okp rfl rfl (oqM (lN rfl) rfl),
     okp rfl rfl (op_len (n := press.length) (lN rfl) (by rw [ss_56]; rfl) rfl rfl),
     okp rfl rfl (oqM (lN rfl) rfl),
     trivial⟩ ?_
    refine fqK (s' := (kt 3 (.p 1 0) :: kt 4 (.p 2 0) :: kt 6 (.p 3 0) :: kt 11 (.p 5 0) :: kt 49 (.v (.slice press_p press.length press_c)) :: kt 50 (.i (((press.length : Nat) : Int))) :: kt 51 (.i 0) :: kb 1 25 11 :: kb 2 34 8 :: kb 3 32 2 :: kb 5 32 2 :: sK 1 s (.v (.slice s0Tp s.Thrust.length s0Tc)) (.v (.slice s0Wp s.Water.length s0Wc)) (.v (.slice s0Ip s.Ice.length s0Ic)) [kc 2 0 (.i c.Conc.Lo), kc 2 1 (.i c.Conc.Hi), kc 2 2 (.i c.Thick.Lo), kc 2 3 (.i c.Thick.Hi), kc 2 4 (.i c.Ridge.Lo), kc 2 5 (.i c.Ridge.Hi), kc 2 6 (.i c.Press.Lo), kc 2 7 (.i c.Press.Hi), kc 3 0 (.i 0), kc 3 1 (.i 0), kc 5 0 (.i ((-1))), kc 5 1 (.i 0)])) ?_ (kp rfl) rfl
    refine fqT ?_
    refine aw_block ?_
    refine AW.keep (s' := (fun (q : Nat × Int × Span) => (kt 3 (.p 1 0) :: kt 4 (.p 2 0) :: kt 6 (.p 3 0) :: kt 11 (.p 5 0) :: kt 49 (.v (.slice press_p press.length press_c)) :: kt 50 (.i (((press.length : Nat) : Int))) :: kt 51 (.i ((q.1 : Int))) :: kb 1 25 11 :: kb 2 34 8 :: kb 3 32 2 :: kb 5 32 2 :: sK 1 s (.v (.slice s0Tp s.Thrust.length s0Tc)) (.v (.slice s0Wp s.Water.length s0Wc)) (.v (.slice s0Ip s.Ice.length s0Ic)) [kc 2 0 (.i c.Conc.Lo), kc 2 1 (.i c.Conc.Hi), kc 2 2 (.i c.Thick.Lo), kc 2 3 (.i c.Thick.Hi), kc 2 4 (.i c.Ridge.Lo), kc 2 5 (.i c.Ridge.Hi), kc 2 6 (.i q.2.2.Lo), kc 2 7 (.i q.2.2.Hi), kc 3 0 (.i 0), kc 3 1 (.i 0), kc 5 0 (.i q.2.1), kc 5 1 (.i 0)])) (((0 : Nat), (-1 : Int), c.Press))) ?_ (kp rfl) rfl
    refine aw_loop (ι := Nat × Int × Span) (fun q => q.1 ≤ press.length ∧ free s c press = freeFrom s c (press.drop q.1) (q.1 : Int) q.2.1) (fun q => (kt 3 (.p 1 0) :: kt 4 (.p 2 0) :: kt 6 (.p 3 0) :: kt 11 (.p 5 0) :: kt 49 (.v (.slice press_p press.length press_c)) :: kt 50 (.i (((press.length : Nat) : Int))) :: kt 51 (.i ((q.1 : Int))) :: kb 1 25 11 :: kb 2 34 8 :: kb 3 32 2 :: kb 5 32 2 :: sK 1 s (.v (.slice s0Tp s.Thrust.length s0Tc)) (.v (.slice s0Wp s.Water.length s0Wc)) (.v (.slice s0Ip s.Ice.length s0Ic)) [kc 2 0 (.i c.Conc.Lo), kc 2 1 (.i c.Conc.Hi), kc 2 2 (.i c.Thick.Lo), kc 2 3 (.i c.Thick.Hi), kc 2 4 (.i c.Ridge.Lo), kc 2 5 (.i c.Ridge.Hi), kc 2 6 (.i q.2.2.Lo), kc 2 7 (.i q.2.2.Hi), kc 3 0 (.i 0), kc 3 1 (.i 0), kc 5 0 (.i q.2.1), kc 5 1 (.i 0)])) (fun q => press.length - q.1) ⟨Nat.zero_le _, hfree0⟩ (fun q hI => ?_)
    obtain ⟨hk, hfr⟩ := hI
    refine aqS ?_
    refine aqT (rows := [_]) rfl (by kernel_rfl) ⟨
     okp rfl rfl (oqB (lN rfl) rfl rfl rfl),
     trivial⟩ ?_
    refine fqK (s' := (kt 3 (.p 1 0) :: kt 4 (.p 2 0) :: kt 6 (.p 3 0) :: kt 11 (.p 5 0) :: kt 49 (.v (.slice press_p press.length press_c)) :: kt 50 (.i (((press.length : Nat) : Int))) :: kt 51 (.i ((q.1 : Int))) :: kt 52 (.B (decide (((q.1 : Int)) < (((press.length : Nat) : Int))))) :: kb 1 25 11 :: kb 2 34 8 :: kb 3 32 2 :: kb 5 32 2 :: sK 1 s (.v (.slice s0Tp s.Thrust.length s0Tc)) (.v (.slice s0Wp s.Water.length s0Wc)) (.v (.slice s0Ip s.Ice.length s0Ic)) [kc 2 0 (.i c.Conc.Lo), kc 2 1 (.i c.Conc.Hi), kc 2 2 (.i c.Thick.Lo), kc 2 3 (.i c.Thick.Hi), kc 2 4 (.i c.Ridge.Lo), kc 2 5 (.i c.Ridge.Hi), kc 2 6 (.i q.2.2.Lo), kc 2 7 (.i q.2.2.Hi), kc 3 0 (.i 0), kc 3 1 (.i 0), kc 5 0 (.i q.2.1), kc 5 1 (.i 0)])) ?_ (kp rfl) rfl
    refine fqT ?_
    refine aqS ?_
    refine aw_cond rfl (fun hz23 => ?_) (fun hz23 => ?_)
    ·have _z := hz23
     have q24 := of_decide_eq_true hz23
     refine aw_skip ?_
     refine fqT ?_
     refine aqS ?_
     refine aw_block ?_
     refine aqS ?_
     have hlt : q.1 < press.length := by omega
     have hgp := pressOK_good hmet.2 (hall q.1 (by omega))
     have hgf := goodCell_first hgp
     have hgl := goodCell_last hgp
     refine aqT (rows := [_, _, _, _, _, _]) rfl (by kernel_rfl) ⟨
      okp rfl rfl (oqM (lN rfl) rfl),
      okp rfl rfl (op_ixB (lN rfl) rfl rfl ss_56 (hpress_p (ne_of_ix (i := (q.1 : Int)) (by omega) (by omega))) (by omega) (by omega)),
      okp rfl rfl (op_loadB (y := .g [.i (((sp press ((q.1 : Int)))).Lo), .i (((sp press ((q.1 : Int)))).Hi)]) (lN rfl) rfl (ldN (hpress_L (ne_of_ix (i := (q.1 : Int)) (by omega) (by omega))) ⟨0, 0⟩ (i := (q.1 : Int)) (by omega) (by omega) 0 (vs := [(.int .i64 (((sp press ((q.1 : Int)))).Lo)), (.int .i64 (((sp press ((q.1 : Int)))).Hi))]) (fun zq zv zh => sub_get (vs := [(.int .i64 (((sp press ((q.1 : Int)))).Lo)), (.int .i64 (((sp press ((q.1 : Int)))).Hi))]) rfl zh) rfl sh_32 rfl)),
      okp rfl rfl (op_alloc (L := 6) (lN rfl) zl_32),
      okp rfl rfl (oqA (lN rfl) rfl),
      okp rfl rfl (op_storeN sz_32 rfl rfl rfl rfl rfl (by decide)),
      trivial⟩ ?_
     refine fqK (s' := (kt 3 (.p 1 0) :: kt 4 (.p 2 0) :: kt 6 (.p 3 0) :: kt 11 (.p 5 0) :: kt 12 (.i ((q.1 : Int))) :: kt 13 (.p 6 0) :: kt 49 (.v (.slice press_p press.length press_c)) :: kt 50 (.i (((press.length : Nat) : Int))) :: kt 51 (.i ((q.1 : Int))) :: kb 1 25 11 :: kb 2 34 8 :: kb 3 32 2 :: kb 5 32 2 :: kb 6 32 2 :: sK 1 s (.v (.slice s0Tp s.Thrust.length s0Tc)) (.v (.slice s0Wp s.Water.length s0Wc)) (.v (.slice s0Ip s.Ice.length s0Ic)) [kc 2 0 (.i c.Conc.Lo), kc 2 1 (.i c.Conc.Hi), kc 2 2 (.i c.Thick.Lo), kc 2 3 (.i c.Thick.Hi), kc 2 4 (.i c.Ridge.Lo), kc 2 5 (.i c.Ridge.Hi), kc 2 6 (.i q.2.2.Lo), kc 2 7 (.i q.2.2.Hi), kc 3 0 (.i 0), kc 3 1 (.i 0), kc 5 0 (.i q.2.1), kc 5 1 (.i 0), kc 6 0 (.i (((sp press ((q.1 : Int)))).Lo)), kc 6 1 (.i (((sp press ((q.1 : Int)))).Hi))])) ?_ (kp rfl) rfl
     refine fqT ?_
     refine aqS ?_
     refine aqT (rows := [_, _, _]) rfl (by kernel_rfl) ⟨
      okp rfl rfl (oqL (ys := [.i (((sp press ((q.1 : Int)))).Lo), .i (((sp press ((q.1 : Int)))).Hi)]) (lN rfl) sh_32 rfl rfl ⟨rfl, rfl, trivial⟩),
      okp rfl rfl (oqF (lN rfl) rfl fo_34_3),
      okp rfl rfl (op_storeN sz_32 rfl rfl rfl rfl rfl (by decide)),
      trivial⟩ ?_
     refine fqK (s' := (kt 3 (.p 1 0) :: kt 4 (.p 2 0) :: kt 6 (.p 3 0) :: kt 11 (.p 5 0) :: kt 12 (.i ((q.1 : Int))) :: kt 49 (.v (.slice press_p press.length press_c)) :: kt 50 (.i (((press.length : Nat) : Int))) :: kt 51 (.i ((q.1 : Int))) :: kb 1 25 11 :: kb 2 34 8 :: kb 3 32 2 :: kb 5 32 2 :: sK 1 s (.v (.slice s0Tp s.Thrust.length s0Tc)) (.v (.slice s0Wp s.Water.length s0Wc)) (.v (.slice s0Ip s.Ice.length s0Ic)) [kc 2 0 (.i c.Conc.Lo), kc 2 1 (.i c.Conc.Hi), kc 2 2 (.i c.Thick.Lo), kc 2 3 (.i c.Thick.Hi), kc 2 4 (.i c.Ridge.Lo), kc 2 5 (.i c.Ridge.Hi), kc 2 6 (.i (((sp press ((q.1 : Int)))).Lo)), kc 2 7 (.i (((sp press ((q.1 : Int)))).Hi)), kc 3 0 (.i 0), kc 3 1 (.i 0), kc 5 0 (.i q.2.1), kc 5 1 (.i 0)])) ?_ (kp rfl) rfl
     refine fqT ?_
     refine aqS ?_
     refine aqS ?_
     refine aqT (rows := [_, _, _, _, _, _, _, _, _, _]) rfl (by kernel_rfl) ⟨
      okp rfl rfl (oqF (lN rfl) rfl fo_32_0),
      okp rfl rfl (oq1 (lN rfl) sh_3 rfl rfl),
      okp rfl rfl (oqB (lN rfl) rfl rfl rfl),
      okp rfl rfl (oqM (lN rfl) rfl),
      ok_if (lN rfl) rfl rfl rfl rfl rfl rfl (fun hg25 => oqL (ys := [.i c.Conc.Lo, .i c.Conc.Hi, .i c.Thick.Lo, .i c.Thick.Hi, .i c.Ridge.Lo, .i c.Ridge.Hi, .i (((sp press ((q.1 : Int)))).Lo), .i (((sp press ((q.1 : Int)))).Hi)]) (lN rfl) sh_34 (force_x rfl) rfl ⟨rfl, rfl, rfl, rfl, rfl, rfl, rfl, rfl, trivial⟩),
      ok_if (lN rfl) rfl rfl rfl rfl rfl rfl (fun hg26 => oqC (x := .g [.i ((firstI (⟨c.Conc, c.Thick, c.Ridge, (sp press ((q.1 : Int)))⟩)).Conc), .i ((firstI (⟨c.Conc, c.Thick, c.Ridge, (sp press ((q.1 : Int)))⟩)).Thick), .i ((firstI (⟨c.Conc, c.Thick, c.Ridge, (sp press ((q.1 : Int)))⟩)).Ridge), .i ((firstI (⟨c.Conc, c.Thick, c.Ridge, (sp press ((q.1 : Int)))⟩)).Press)]) (fs := []) (caps := []) (extra := []) (lN rfl) en_88 rfl ⟨rfl, rfl, rfl⟩ (EvL.cons (force_eq (beq_iff_eq.2 hg26) rfl) EvL.nil) (fun mm aa ww gg hr hrel => (c88 (⟨c.Conc, c.Thick, c.Ridge, (sp press ((q.1 : Int)))⟩) ww))),
      ok_if (lN rfl) rfl rfl rfl rfl rfl rfl (fun hg27 => op_build (x := .g [.p 1 0, .i ((firstI (⟨c.Conc, c.Thick, c.Ridge, (sp press ((q.1 : Int)))⟩)).Conc), .i ((firstI (⟨c.Conc, c.Thick, c.Ridge, (sp press ((q.1 : Int)))⟩)).Thick), .i ((firstI (⟨c.Conc, c.Thick, c.Ridge, (sp press ((q.1 : Int)))⟩)).Ridge), .i ((firstI (⟨c.Conc, c.Thick, c.Ridge, (sp press ((q.1 : Int)))⟩)).Press), .B false]) (lN rfl) (EvL.cons (force_x rfl) (EvL.cons (force_eq (beq_iff_eq.2 hg27) rfl) (EvL.cons rfl EvL.nil))) (fun m w => by kernel_rfl)),
      ok_if (lN rfl) rfl rfl rfl rfl rfl rfl (fun hg28 => oqC (x := .i (speed s ((firstI (⟨c.Conc, c.Thick, c.Ridge, (sp press ((q.1 : Int)))⟩))) false)) (fs := []) (caps := []) (extra := (kapp ((.b 1 :: cellKeys 1 0 11)) [])) (lN rfl) en_76 rfl ⟨rfl, rfl, rfl⟩ (EvL.cons (force_eq (beq_iff_eq.2 hg28) rfl) EvL.nil) (fun mm aa ww gg hr hrel => (c76 s ⟨s0Tp, s.Thrust.length, s0Tc⟩ ⟨s0Wp, s.Water.length, s0Wc⟩ ⟨s0Ip, s.Ice.length, s0Ic⟩ (mm 1) ((firstI (⟨c.Conc, c.Thick, c.Ridge, (sp press ((q.1 : Int)))⟩))) false ww (SlIs.mono hs_Thrust hrel.below) (SlIs.mono hs_Water hrel.below) (SlIs.mono hs_Ice hrel.below) (boxAt (L := 1) (vs := [(.int .i64 s.Class), (.int .i64 s.Power), (.int .i64 s.Draught), (.int .i64 s.Tonnes), (.slice s0Tp s.Thrust.length s0Tc), (.slice s0Wp s.Water.length s0Wc), (.slice s0Ip s.Ice.length s0Ic), (.int .i64 s.Slow), (.int .i64 s.Brash), (.int .i64 s.Ridge), (.int .i64 s.Press)]) hrel (fun k hk => hr k (List.mem_append_left _ hk)) rfl ⟨rfl, rfl, rfl, rfl, rfl, rfl, rfl, rfl, rfl, rfl, rfl, trivial⟩) (by have g0 := of_decide_eq_true hg28; first | assumption | omega) (by have g0 := of_decide_eq_true hg28; first | assumption | omega)))),
      ok_if (lN rfl) rfl rfl rfl rfl rfl rfl (fun hg29 => oqB (lN rfl) (force_eq (beq_iff_eq.2 hg29) rfl) rfl rfl),
      okp rfl rfl (op_and (lN rfl) rfl rfl),
      trivial⟩ ?_
     refine fqK (s' := (kt 3 (.p 1 0) :: kt 4 (.p 2 0) :: kt 6 (.p 3 0) :: kt 11 (.p 5 0) :: kt 12 (.i ((q.1 : Int))) :: kt 49 (.v (.slice press_p press.length press_c)) :: kt 50 (.i (((press.length : Nat) : Int))) :: kt 51 (.i ((q.1 : Int))) :: kt 67 (.B ((decide (q.2.1 < 0)) && (decide ((speed s ((firstI (⟨c.Conc, c.Thick, c.Ridge, (sp press ((q.1 : Int)))⟩))) false) ≥ 10)))) :: kb 1 25 11 :: kb 2 34 8 :: kb 3 32 2 :: kb 5 32 2 :: sK 1 s (.v (.slice s0Tp s.Thrust.length s0Tc)) (.v (.slice s0Wp s.Water.length s0Wc)) (.v (.slice s0Ip s.Ice.length s0Ic)) [kc 2 0 (.i c.Conc.Lo), kc 2 1 (.i c.Conc.Hi), kc 2 2 (.i c.Thick.Lo), kc 2 3 (.i c.Thick.Hi), kc 2 4 (.i c.Ridge.Lo), kc 2 5 (.i c.Ridge.Hi), kc 2 6 (.i (((sp press ((q.1 : Int)))).Lo)), kc 2 7 (.i (((sp press ((q.1 : Int)))).Hi)), kc 3 0 (.i 0), kc 3 1 (.i 0), kc 5 0 (.i q.2.1), kc 5 1 (.i 0)])) ?_ (kp rfl) rfl
     refine fqT ?_
     refine aw_cond rfl (fun hz30 => ?_) (fun hz30 => ?_)
     ·have _z := hz30
      have q31 := of_decide_eq_true (and_tl hz30)
      have q32 := of_decide_eq_true (and_tr hz30)
      refine aqT (rows := [_, _, _]) rfl (by kernel_rfl) ⟨
       okp rfl rfl (oqM (lN rfl) rfl),
       okp rfl rfl (oqF (lN rfl) rfl fo_32_0),
       okp rfl rfl (op_store1 sz_3 rfl rfl rfl rfl (lN rfl)),
       trivial⟩ ?_
      refine fqK (s' := (kt 3 (.p 1 0) :: kt 4 (.p 2 0) :: kt 6 (.p 3 0) :: kt 11 (.p 5 0) :: kt 12 (.i ((q.1 : Int))) :: kt 49 (.v (.slice press_p press.length press_c)) :: kt 50 (.i (((press.length : Nat) : Int))) :: kt 51 (.i ((q.1 : Int))) :: kb 1 25 11 :: kb 2 34 8 :: kb 3 32 2 :: kb 5 32 2 :: sK 1 s (.v (.slice s0Tp s.Thrust.length s0Tc)) (.v (.slice s0Wp s.Water.length s0Wc)) (.v (.slice s0Ip s.Ice.length s0Ic)) [kc 2 0 (.i c.Conc.Lo), kc 2 1 (.i c.Conc.Hi), kc 2 2 (.i c.Thick.Lo), kc 2 3 (.i c.Thick.Hi), kc 2 4 (.i c.Ridge.Lo), kc 2 5 (.i c.Ridge.Hi), kc 2 6 (.i (((sp press ((q.1 : Int)))).Lo)), kc 2 7 (.i (((sp press ((q.1 : Int)))).Hi)), kc 3 0 (.i 0), kc 3 1 (.i 0), kc 5 0 (.i ((q.1 : Int))), kc 5 1 (.i 0)])) ?_ (kp rfl) rfl
      refine fqT ?_
      refine aqS ?_
      refine aqT (rows := [_, _, _, _, _]) rfl (by kernel_rfl) ⟨
       okp rfl rfl (oqL (ys := [.i c.Conc.Lo, .i c.Conc.Hi, .i c.Thick.Lo, .i c.Thick.Hi, .i c.Ridge.Lo, .i c.Ridge.Hi, .i (((sp press ((q.1 : Int)))).Lo), .i (((sp press ((q.1 : Int)))).Hi)]) (lN rfl) sh_34 rfl rfl ⟨rfl, rfl, rfl, rfl, rfl, rfl, rfl, rfl, trivial⟩),
       okp rfl rfl (oqC (x := .g [.i ((lastI (⟨c.Conc, c.Thick, c.Ridge, (sp press ((q.1 : Int)))⟩)).Conc), .i ((lastI (⟨c.Conc, c.Thick, c.Ridge, (sp press ((q.1 : Int)))⟩)).Thick), .i ((lastI (⟨c.Conc, c.Thick, c.Ridge, (sp press ((q.1 : Int)))⟩)).Ridge), .i ((lastI (⟨c.Conc, c.Thick, c.Ridge, (sp press ((q.1 : Int)))⟩)).Press)]) (fs := []) (caps := []) (extra := []) (lN rfl) en_100 rfl ⟨rfl, rfl, rfl⟩ (EvL.cons rfl EvL.nil) (fun mm aa ww gg hr hrel => (c100 (⟨c.Conc, c.Thick, c.Ridge, (sp press ((q.1 : Int)))⟩) ww))),
       okp rfl rfl (op_build (x := .g [.p 1 0, .i ((lastI (⟨c.Conc, c.Thick, c.Ridge, (sp press ((q.1 : Int)))⟩)).Conc), .i ((lastI (⟨c.Conc, c.Thick, c.Ridge, (sp press ((q.1 : Int)))⟩)).Thick), .i ((lastI (⟨c.Conc, c.Thick, c.Ridge, (sp press ((q.1 : Int)))⟩)).Ridge), .i ((lastI (⟨c.Conc, c.Thick, c.Ridge, (sp press ((q.1 : Int)))⟩)).Press), .B false]) (lN rfl) (EvL.cons rfl (EvL.cons rfl (EvL.cons rfl EvL.nil))) (fun m w => by kernel_rfl)),
       okp rfl rfl (oqC (x := .i (speed s ((lastI (⟨c.Conc, c.Thick, c.Ridge, (sp press ((q.1 : Int)))⟩))) false)) (fs := []) (caps := []) (extra := (kapp ((.b 1 :: cellKeys 1 0 11)) [])) (lN rfl) en_76 rfl ⟨rfl, rfl, rfl⟩ (EvL.cons rfl EvL.nil) (fun mm aa ww gg hr hrel => (c76 s ⟨s0Tp, s.Thrust.length, s0Tc⟩ ⟨s0Wp, s.Water.length, s0Wc⟩ ⟨s0Ip, s.Ice.length, s0Ic⟩ (mm 1) ((lastI (⟨c.Conc, c.Thick, c.Ridge, (sp press ((q.1 : Int)))⟩))) false ww (SlIs.mono hs_Thrust hrel.below) (SlIs.mono hs_Water hrel.below) (SlIs.mono hs_Ice hrel.below) (boxAt (L := 1) (vs := [(.int .i64 s.Class), (.int .i64 s.Power), (.int .i64 s.Draught), (.int .i64 s.Tonnes), (.slice s0Tp s.Thrust.length s0Tc), (.slice s0Wp s.Water.length s0Wc), (.slice s0Ip s.Ice.length s0Ic), (.int .i64 s.Slow), (.int .i64 s.Brash), (.int .i64 s.Ridge), (.int .i64 s.Press)]) hrel (fun k hk => hr k (List.mem_append_left _ hk)) rfl ⟨rfl, rfl, rfl, rfl, rfl, rfl, rfl, rfl, rfl, rfl, rfl, trivial⟩) (by first | assumption | omega) (by first | assumption | omega)))),
       okp rfl rfl (oqB (lN rfl) rfl rfl rfl),
       trivial⟩ ?_
      refine fqK (s' := (kt 3 (.p 1 0) :: kt 4 (.p 2 0) :: kt 6 (.p 3 0) :: kt 11 (.p 5 0) :: kt 12 (.i ((q.1 : Int))) :: kt 49 (.v (.slice press_p press.length press_c)) :: kt 50 (.i (((press.length : Nat) : Int))) :: kt 51 (.i ((q.1 : Int))) :: kt 74 (.B (decide ((speed s ((lastI (⟨c.Conc, c.Thick, c.Ridge, (sp press ((q.1 : Int)))⟩))) false) ≥ 10))) :: kb 1 25 11 :: kb 2 34 8 :: kb 3 32 2 :: kb 5 32 2 :: sK 1 s (.v (.slice s0Tp s.Thrust.length s0Tc)) (.v (.slice s0Wp s.Water.length s0Wc)) (.v (.slice s0Ip s.Ice.length s0Ic)) [kc 2 0 (.i c.Conc.Lo), kc 2 1 (.i c.Conc.Hi), kc 2 2 (.i c.Thick.Lo), kc 2 3 (.i c.Thick.Hi), kc 2 4 (.i c.Ridge.Lo), kc 2 5 (.i c.Ridge.Hi), kc 2 6 (.i (((sp press ((q.1 : Int)))).Lo)), kc 2 7 (.i (((sp press ((q.1 : Int)))).Hi)), kc 3 0 (.i 0), kc 3 1 (.i 0), kc 5 0 (.i ((q.1 : Int))), kc 5 1 (.i 0)])) ?_ (kp rfl) rfl
      refine fqT ?_
      refine aw_cond rfl (fun hz33 => ?_) (fun hz33 => ?_)
      ·have _z := hz33
       have q34 := of_decide_eq_true hz33
       refine aqS ?_
       refine aqT (rows := [_, _, _]) rfl (by kernel_rfl) ⟨
        okp rfl rfl (oqM (lN rfl) rfl),
        okp rfl rfl (oqF (lN rfl) rfl fo_32_1),
        okp rfl rfl (op_store1 sz_3 rfl rfl rfl rfl (lN rfl)),
        trivial⟩ ?_
       refine fqK (s' := [kt 6 (.p 3 0), kt 11 (.p 5 0), kb 3 32 2, kb 5 32 2, kc 3 0 (.i 0), kc 3 1 (.i 0), kc 5 0 (.i ((q.1 : Int))), kc 5 1 (.i ((q.1 : Int)))]) ?_ (kp rfl) rfl
       refine fqT ?_
       refine aqS ?_
       refine aqT (rows := [_, _, _]) rfl (by kernel_rfl) ⟨
        okp rfl rfl (oqL (ys := [.i ((q.1 : Int)), .i ((q.1 : Int))]) (lN rfl) sh_32 rfl rfl ⟨rfl, rfl, trivial⟩),
        okp rfl rfl (op_storeN sz_32 rfl rfl rfl rfl rfl (by decide)),
        okp rfl rfl (oqA (lN rfl) rfl),
        trivial⟩ ?_
       refine fqK (s' := [kt 6 (.p 3 0), kt 7 (.i 0), kb 3 32 2, kc 3 0 (.i ((q.1 : Int))), kc 3 1 (.i ((q.1 : Int)))]) ?_ (kp rfl) rfl
       refine fqT ?_
       refine aw_ret ?_
       refine fin_block_ret ?_
       refine fin_then_ret ?_
       refine fin_then_ret ?_
       refine fin_block_ret ?_
       refine fin_then_ret ?_
       refine post_ret (x := .t [.g [.i ((q.1 : Int)), .i ((q.1 : Int))], .i 0]) rfl rfl (resOK_cellN (ys := [.i ((q.1 : Int)), .i ((q.1 : Int))]) rfl sh_32 rfl ⟨rfl, rfl, trivial⟩ (rqT rfl resOK_nil)) rfl (fun mm aa ww hr => ?_)
       show Ending.returned (.tuple #[.agg #[.int .i64 ((q.1 : Int)), .int .i64 ((q.1 : Int))], .int .i64 0]) = _ ∧ _
       exact ⟨by rw [hfr, drop_sp hlt, freeFrom, if_pos (of_decide_eq_true hz33), if_pos hz30], hr.below⟩
      ·have _z := hz33
       have q35 := of_decide_eq_false hz33
       refine aw_skip ?_
       refine fin_block ?_
       refine fqT ?_
       refine aqT (rows := [_, _]) rfl (by kernel_rfl) ⟨
        okp rfl rfl (oqB (lN rfl) rfl rfl (nw_add ⟨(by omega), (by omega)⟩)),
        okp rfl rfl (oqM (lN rfl) rfl),
        trivial⟩ ?_
       refine fqK (s' := (kt 3 (.p 1 0) :: kt 4 (.p 2 0) :: kt 6 (.p 3 0) :: kt 11 (.p 5 0) :: kt 49 (.v (.slice press_p press.length press_c)) :: kt 50 (.i (((press.length : Nat) : Int))) :: kt 51 (.i (((q.1 : Int)) + 1)) :: kb 1 25 11 :: kb 2 34 8 :: kb 3 32 2 :: kb 5 32 2 :: sK 1 s (.v (.slice s0Tp s.Thrust.length s0Tc)) (.v (.slice s0Wp s.Water.length s0Wc)) (.v (.slice s0Ip s.Ice.length s0Ic)) [kc 2 0 (.i c.Conc.Lo), kc 2 1 (.i c.Conc.Hi), kc 2 2 (.i c.Thick.Lo), kc 2 3 (.i c.Thick.Hi), kc 2 4 (.i c.Ridge.Lo), kc 2 5 (.i c.Ridge.Hi), kc 2 6 (.i (((sp press ((q.1 : Int)))).Lo)), kc 2 7 (.i (((sp press ((q.1 : Int)))).Hi)), kc 3 0 (.i 0), kc 3 1 (.i 0), kc 5 0 (.i ((q.1 : Int))), kc 5 1 (.i 0)])) ?_ (kp rfl) rfl
       exact fin_loop (q.1 + 1, (q.1 : Int), sp press (q.1 : Int)) ⟨by simp only []; omega, by rw [hfr, drop_sp hlt, freeFrom, if_neg (of_decide_eq_false hz33), if_pos hz30]; rfl⟩ (by simp only []; omega) ⟨rfl, rfl, rfl, rfl, rfl, rfl, rfl, rfl, rfl, rfl, rfl, rfl, rfl, rfl, rfl, rfl, rfl, rfl, rfl, rfl, rfl, rfl, rfl, rfl, rfl, rfl, rfl, rfl, rfl, rfl, rfl, rfl, rfl, rfl, trivial⟩ rfl
     ·have _z := hz30
      have q36 := hz30
      refine aw_skip ?_
      refine fqT ?_
      refine aqS ?_
      refine aqT (rows := [_, _, _, _, _]) rfl (by kernel_rfl) ⟨
       okp rfl rfl (oqL (ys := [.i c.Conc.Lo, .i c.Conc.Hi, .i c.Thick.Lo, .i c.Thick.Hi, .i c.Ridge.Lo, .i c.Ridge.Hi, .i (((sp press ((q.1 : Int)))).Lo), .i (((sp press ((q.1 : Int)))).Hi)]) (lN rfl) sh_34 rfl rfl ⟨rfl, rfl, rfl, rfl, rfl, rfl, rfl, rfl, trivial⟩),
       okp rfl rfl (oqC (x := .g [.i ((lastI (⟨c.Conc, c.Thick, c.Ridge, (sp press ((q.1 : Int)))⟩)).Conc), .i ((lastI (⟨c.Conc, c.Thick, c.Ridge, (sp press ((q.1 : Int)))⟩)).Thick), .i ((lastI (⟨c.Conc, c.Thick, c.Ridge, (sp press ((q.1 : Int)))⟩)).Ridge), .i ((lastI (⟨c.Conc, c.Thick, c.Ridge, (sp press ((q.1 : Int)))⟩)).Press)]) (fs := []) (caps := []) (extra := []) (lN rfl) en_100 rfl ⟨rfl, rfl, rfl⟩ (EvL.cons rfl EvL.nil) (fun mm aa ww gg hr hrel => (c100 (⟨c.Conc, c.Thick, c.Ridge, (sp press ((q.1 : Int)))⟩) ww))),
       okp rfl rfl (op_build (x := .g [.p 1 0, .i ((lastI (⟨c.Conc, c.Thick, c.Ridge, (sp press ((q.1 : Int)))⟩)).Conc), .i ((lastI (⟨c.Conc, c.Thick, c.Ridge, (sp press ((q.1 : Int)))⟩)).Thick), .i ((lastI (⟨c.Conc, c.Thick, c.Ridge, (sp press ((q.1 : Int)))⟩)).Ridge), .i ((lastI (⟨c.Conc, c.Thick, c.Ridge, (sp press ((q.1 : Int)))⟩)).Press), .B false]) (lN rfl) (EvL.cons rfl (EvL.cons rfl (EvL.cons rfl EvL.nil))) (fun m w => by kernel_rfl)),
       okp rfl rfl (oqC (x := .i (speed s ((lastI (⟨c.Conc, c.Thick, c.Ridge, (sp press ((q.1 : Int)))⟩))) false)) (fs := []) (caps := []) (extra := (kapp ((.b 1 :: cellKeys 1 0 11)) [])) (lN rfl) en_76 rfl ⟨rfl, rfl, rfl⟩ (EvL.cons rfl EvL.nil) (fun mm aa ww gg hr hrel => (c76 s ⟨s0Tp, s.Thrust.length, s0Tc⟩ ⟨s0Wp, s.Water.length, s0Wc⟩ ⟨s0Ip, s.Ice.length, s0Ic⟩ (mm 1) ((lastI (⟨c.Conc, c.Thick, c.Ridge, (sp press ((q.1 : Int)))⟩))) false ww (SlIs.mono hs_Thrust hrel.below) (SlIs.mono hs_Water hrel.below) (SlIs.mono hs_Ice hrel.below) (boxAt (L := 1) (vs := [(.int .i64 s.Class), (.int .i64 s.Power), (.int .i64 s.Draught), (.int .i64 s.Tonnes), (.slice s0Tp s.Thrust.length s0Tc), (.slice s0Wp s.Water.length s0Wc), (.slice s0Ip s.Ice.length s0Ic), (.int .i64 s.Slow), (.int .i64 s.Brash), (.int .i64 s.Ridge), (.int .i64 s.Press)]) hrel (fun k hk => hr k (List.mem_append_left _ hk)) rfl ⟨rfl, rfl, rfl, rfl, rfl, rfl, rfl, rfl, rfl, rfl, rfl, trivial⟩) (by first | assumption | omega) (by first | assumption | omega)))),
       okp rfl rfl (oqB (lN rfl) rfl rfl rfl),
       trivial⟩ ?_
      refine fqK (s' := (kt 3 (.p 1 0) :: kt 4 (.p 2 0) :: kt 6 (.p 3 0) :: kt 11 (.p 5 0) :: kt 12 (.i ((q.1 : Int))) :: kt 49 (.v (.slice press_p press.length press_c)) :: kt 50 (.i (((press.length : Nat) : Int))) :: kt 51 (.i ((q.1 : Int))) :: kt 74 (.B (decide ((speed s ((lastI (⟨c.Conc, c.Thick, c.Ridge, (sp press ((q.1 : Int)))⟩))) false) ≥ 10))) :: kb 1 25 11 :: kb 2 34 8 :: kb 3 32 2 :: kb 5 32 2 :: sK 1 s (.v (.slice s0Tp s.Thrust.length s0Tc)) (.v (.slice s0Wp s.Water.length s0Wc)) (.v (.slice s0Ip s.Ice.length s0Ic)) [kc 2 0 (.i c.Conc.Lo), kc 2 1 (.i c.Conc.Hi), kc 2 2 (.i c.Thick.Lo), kc 2 3 (.i c.Thick.Hi), kc 2 4 (.i c.Ridge.Lo), kc 2 5 (.i c.Ridge.Hi), kc 2 6 (.i (((sp press ((q.1 : Int)))).Lo)), kc 2 7 (.i (((sp press ((q.1 : Int)))).Hi)), kc 3 0 (.i 0), kc 3 1 (.i 0), kc 5 0 (.i q.2.1), kc 5 1 (.i 0)])) ?_ (kp rfl) rfl
      refine fqT ?_
      refine aw_cond rfl (fun hz37 => ?_) (fun hz37 => ?_)
      ·have _z := hz37
       have q38 := of_decide_eq_true hz37
       refine aqS ?_
       refine aqT (rows := [_, _, _]) rfl (by kernel_rfl) ⟨
        okp rfl rfl (oqM (lN rfl) rfl),
        okp rfl rfl (oqF (lN rfl) rfl fo_32_1),
        okp rfl rfl (op_store1 sz_3 rfl rfl rfl rfl (lN rfl)),
        trivial⟩ ?_
       refine fqK (s' := [kt 6 (.p 3 0), kt 11 (.p 5 0), kb 3 32 2, kb 5 32 2, kc 3 0 (.i 0), kc 3 1 (.i 0), kc 5 0 (.i q.2.1), kc 5 1 (.i ((q.1 : Int)))]) ?_ (kp rfl) rfl
       refine fqT ?_
       refine aqS ?_
       refine aqT (rows := [_, _, _]) rfl (by kernel_rfl) ⟨
        okp rfl rfl (oqL (ys := [.i q.2.1, .i ((q.1 : Int))]) (lN rfl) sh_32 rfl rfl ⟨rfl, rfl, trivial⟩),
        okp rfl rfl (op_storeN sz_32 rfl rfl rfl rfl rfl (by decide)),
        okp rfl rfl (oqA (lN rfl) rfl),
        trivial⟩ ?_
       refine fqK (s' := [kt 6 (.p 3 0), kt 7 (.i 0), kb 3 32 2, kc 3 0 (.i q.2.1), kc 3 1 (.i ((q.1 : Int)))]) ?_ (kp rfl) rfl
       refine fqT ?_
       refine aw_ret ?_
       refine fin_block_ret ?_
       refine fin_then_ret ?_
       refine fin_then_ret ?_
       refine fin_block_ret ?_
       refine fin_then_ret ?_
       refine post_ret (x := .t [.g [.i q.2.1, .i ((q.1 : Int))], .i 0]) rfl rfl (resOK_cellN (ys := [.i q.2.1, .i ((q.1 : Int))]) rfl sh_32 rfl ⟨rfl, rfl, trivial⟩ (rqT rfl resOK_nil)) rfl (fun mm aa ww hr => ?_)
       show Ending.returned (.tuple #[.agg #[.int .i64 q.2.1, .int .i64 ((q.1 : Int))], .int .i64 0]) = _ ∧ _
       exact ⟨by rw [hfr, drop_sp hlt, freeFrom, if_pos (of_decide_eq_true hz37), if_neg (f2t hz30)], hr.below⟩
      ·have _z := hz37
       have q39 := of_decide_eq_false hz37
       refine aw_skip ?_
       refine fin_block ?_
       refine fqT ?_
       refine aqT (rows := [_, _]) rfl (by kernel_rfl) ⟨
        okp rfl rfl (oqB (lN rfl) rfl rfl (nw_add ⟨(by omega), (by omega)⟩)),
        okp rfl rfl (oqM (lN rfl) rfl),
        trivial⟩ ?_
       refine fqK (s' := (kt 3 (.p 1 0) :: kt 4 (.p 2 0) :: kt 6 (.p 3 0) :: kt 11 (.p 5 0) :: kt 49 (.v (.slice press_p press.length press_c)) :: kt 50 (.i (((press.length : Nat) : Int))) :: kt 51 (.i (((q.1 : Int)) + 1)) :: kb 1 25 11 :: kb 2 34 8 :: kb 3 32 2 :: kb 5 32 2 :: sK 1 s (.v (.slice s0Tp s.Thrust.length s0Tc)) (.v (.slice s0Wp s.Water.length s0Wc)) (.v (.slice s0Ip s.Ice.length s0Ic)) [kc 2 0 (.i c.Conc.Lo), kc 2 1 (.i c.Conc.Hi), kc 2 2 (.i c.Thick.Lo), kc 2 3 (.i c.Thick.Hi), kc 2 4 (.i c.Ridge.Lo), kc 2 5 (.i c.Ridge.Hi), kc 2 6 (.i (((sp press ((q.1 : Int)))).Lo)), kc 2 7 (.i (((sp press ((q.1 : Int)))).Hi)), kc 3 0 (.i 0), kc 3 1 (.i 0), kc 5 0 (.i q.2.1), kc 5 1 (.i 0)])) ?_ (kp rfl) rfl
       exact fin_loop (q.1 + 1, q.2.1, sp press (q.1 : Int)) ⟨by simp only []; omega, by rw [hfr, drop_sp hlt, freeFrom, if_neg (of_decide_eq_false hz37), if_neg (f2t hz30)]; rfl⟩ (by simp only []; omega) ⟨rfl, rfl, rfl, rfl, rfl, rfl, rfl, rfl, rfl, rfl, rfl, rfl, rfl, rfl, rfl, rfl, rfl, rfl, rfl, rfl, rfl, rfl, rfl, rfl, rfl, rfl, rfl, rfl, rfl, rfl, rfl, rfl, rfl, rfl, trivial⟩ rfl
    ·have _z := hz23
     have q40 := of_decide_eq_false hz23
     refine aw_exit ?_
     refine fin_then_exit ?_
     refine fin_then_exit ?_
     refine fin_block_exit ?_
     refine fqT ?_
     refine aqS ?_
     refine aqT (rows := [_, _, _]) rfl (by kernel_rfl) ⟨
      okp rfl rfl (op_build (x := .g [.i 0, .i 0]) (lN rfl) EvL.nil (fun m w => by kernel_rfl)),
      okp rfl rfl (op_storeN sz_32 rfl rfl rfl rfl rfl (by decide)),
      okp rfl rfl (oqA (lN rfl) rfl),
      trivial⟩ ?_
     refine fqK (s' := [kt 6 (.p 3 0), kt 7 (.i 4), kb 3 32 2, kc 3 0 (.i 0), kc 3 1 (.i 0)]) ?_ (kp rfl) rfl
     refine fqT ?_
     refine aw_ret ?_
     refine post_ret (x := .t [.g [.i 0, .i 0], .i 4]) rfl rfl (resOK_cellN (ys := [.i 0, .i 0]) rfl sh_32 rfl ⟨rfl, rfl, trivial⟩ (rqT rfl resOK_nil)) rfl (fun mm aa ww hr => ?_)
     show Ending.returned (.tuple #[.agg #[.int .i64 0, .int .i64 0], .int .i64 4]) = _ ∧ _
     exact ⟨by rw [hfr, List.drop_of_length_le (by omega)]; rfl, hr.below⟩

end Go.Proofs.T

namespace Go.Proofs.T
open Go Go.AX Go.RowKit Hull
theorem ss_46 : sliceSz Tryd.prog 46 = some 10 := by kernel_rfl
theorem sh_48 : shapeOf Tryd.prog 48 = some (some 10) := by kernel_rfl
theorem zl_48 : zeroL Tryd.prog 48 = some [(.int .i64 0), (.int .i64 0), (.int .i64 0), (.int .i64 0), (.int .i64 0), (.int .i64 0), (.int .i64 0), (.int .i64 0), (.bool false), (.int .i64 0)] := by kernel_rfl
theorem sz_48 : sizeIn Tryd.prog 48 = some 10 := by kernel_rfl
theorem fo_48_0 : fieldOff Tryd.prog 48 0 = some 0 := by kernel_rfl
theorem fo_48_1 : fieldOff Tryd.prog 48 1 = some 8 := by kernel_rfl
theorem en_87 : Proofs.Enters Tryd.prog 87 := Proofs.enters_of Tryd.func87 (by kernel_rfl) rfl
theorem af_49 : appFact Tryd.prog 49 = some (3, 1, 8) := by kernel_rfl
theorem en_86 : Proofs.Enters Tryd.prog 86 := Proofs.enters_of Tryd.func86 (by kernel_rfl) rfl

set_option maxHeartbeats 2000000 in
theorem c23 (s : Ship) (s_Thrust_s : SlV) (s_Water_s : SlV) (s_Ice_s : SlV) (l : List Part) (l_s : SlV) (w : World) (hs_Thrust : SlIs encPt 2 w s_Thrust_s s.Thrust) (hs_Water : SlIs encPt 2 w s_Water_s s.Water) (hs_Ice : SlIs encPt 2 w s_Ice_s s.Ice) (hl : SlIs encPart 10 w l_s l) (hG : BoxAt w 0 (strengths.map (fun n => Value.int .i64 n))) : Calls Tryd.prog 23 #[.agg #[.int .i64 s.Class, .int .i64 s.Power, .int .i64 s.Draught, .int .i64 s.Tonnes, .slice s_Thrust_s.p s_Thrust_s.n s_Thrust_s.c, .slice s_Water_s.p s_Water_s.n s_Water_s.c, .slice s_Ice_s.p s_Ice_s.n s_Ice_s.c, .int .i64 s.Slow, .int .i64 s.Brash, .int .i64 s.Ridge, .int .i64 s.Press], .slice l_s.p l_s.n l_s.c] w fun e w' => ∃ p c, e = .returned (.tuple #[(.slice p ((leg s l).1.length) c), .agg #[.int .i64 (((leg s l).2.1).Lo), .int .i64 (((leg s l).2.1).Hi)], .int .i64 ((leg s l).2.2)]) ∧ NewAt w w' p ((leg s l).1.length) c 3 1 (((leg s l).1).flatMap encInt) ∧ Below w.heap.size w w' := by
 obtain ⟨s0Tp, s0Tn, s0Tc⟩ := s_Thrust_s
 have hs_Thrust_l : s0Tn = s.Thrust.length := hs_Thrust.1
 subst hs_Thrust_l
 obtain ⟨s_Thrust_b, s0To, hs_Thrust_p, hs_Thrust_L⟩ := SlAt.lies' hs_Thrust
 obtain ⟨s0Wp, s0Wn, s0Wc⟩ := s_Water_s
 have hs_Water_l : s0Wn = s.Water.length := hs_Water.1
 subst hs_Water_l
 obtain ⟨s_Water_b, s0Wo, hs_Water_p, hs_Water_L⟩ := SlAt.lies' hs_Water
 obtain ⟨s0Ip, s0In, s0Ic⟩ := s_Ice_s
 have hs_Ice_l : s0In = s.Ice.length := hs_Ice.1
 subst hs_Ice_l
 obtain ⟨s_Ice_b, s0Io, hs_Ice_p, hs_Ice_L⟩ := SlAt.lies' hs_Ice
 obtain ⟨l_p, l_n, l_c⟩ := l_s
 have hl_l : l_n = l.length := hl.1
 subst hl_l
 obtain ⟨l_b, l_o, hl_p, hl_L⟩ := SlAt.lies' hl
 refine enter (args := [.g [.i s.Class, .i s.Power, .i s.Draught, .i s.Tonnes, .v (.slice s0Tp s.Thrust.length s0Tc), .v (.slice s0Wp s.Water.length s0Wc), .v (.slice s0Ip s.Ice.length s0Ic), .i s.Slow, .i s.Brash, .i s.Ridge, .i s.Press], .v (.slice l_p l.length l_c)]) Tryd.func23 rfl (N := 103) rfl (Nat.le_of_ble_eq_true rfl) ?_
 refine aqS ?_
 refine aqT (rows := [_, _, _, _]) rfl (by kernel_rfl) ⟨
  okp rfl rfl (op_boxN (L := 1) (lN rfl) rfl rfl rfl),
  okp rfl rfl (oqA (lN rfl) rfl),
  okp rfl rfl (op_alloc (L := 2) (lN rfl) zl_32),
  okp rfl rfl (oqA (lN rfl) rfl),
  trivial⟩ ?_
 refine fqK (s' := (kt 1 (.v (.slice l_p l.length l_c)) :: kt 2 (.p 1 0) :: kt 5 (.p 2 0) :: kb 1 25 11 :: kb 2 32 2 :: sK 1 s (.v (.slice s0Tp s.Thrust.length s0Tc)) (.v (.slice s0Wp s.Water.length s0Wc)) (.v (.slice s0Ip s.Ice.length s0Ic)) [kc 2 0 (.i 0), kc 2 1 (.i 0)])) ?_ (kp rfl) rfl
 refine fqT ?_
 refine aqS ?_
 refine aqS ?_
 refine aqT (rows := [_, _, _]) rfl (by kernel_rfl) ⟨
  okp rfl rfl (oqL (ys := [.i s.Class, .i s.Power, .i s.Draught, .i s.Tonnes, .v (.slice s0Tp s.Thrust.length s0Tc), .v (.slice s0Wp s.Water.length s0Wc), .v (.slice s0Ip s.Ice.length s0Ic), .i s.Slow, .i s.Brash, .i s.Ridge, .i s.Press]) (lN rfl) sh_25 rfl rfl ⟨rfl, rfl, rfl, rfl, rfl, rfl, rfl, rfl, rfl, rfl, rfl, trivial⟩),
  okp rfl rfl (oqC (x := .i (check s)) (fs := []) (caps := []) (extra := []) (lN rfl) en_46 rfl ⟨rfl, rfl, rfl⟩ (EvL.cons rfl EvL.nil) (fun mm aa ww gg hr hrel => (c46 s ⟨s0Tp, s.Thrust.length, s0Tc⟩ ⟨s0Wp, s.Water.length, s0Wc⟩ ⟨s0Ip, s.Ice.length, s0Ic⟩ ww (SlIs.mono hs_Thrust hrel.below) (SlIs.mono hs_Water hrel.below) (SlIs.mono hs_Ice hrel.below)))),
  okp rfl rfl (oqA (lN rfl) rfl),
  trivial⟩ ?_
 refine fqK (s' := (kt 1 (.v (.slice l_p l.length l_c)) :: kt 2 (.p 1 0) :: kt 5 (.p 2 0) :: kt 7 (.i (check s)) :: kb 1 25 11 :: kb 2 32 2 :: sK 1 s (.v (.slice s0Tp s.Thrust.length s0Tc)) (.v (.slice s0Wp s.Water.length s0Wc)) (.v (.slice s0Ip s.Ice.length s0Ic)) [kc 2 0 (.i 0), kc 2 1 (.i 0)])) ?_ (kp rfl) rfl
 refine fqT ?_
 refine aqS ?_
 refine aqT (rows := [_, _]) rfl (by kernel_rfl) ⟨
  okp rfl rfl (oqM (lN rfl) rfl),
  okp rfl rfl (oqB (lN rfl) rfl rfl rfl),
  trivial⟩ ?_
 refine fqK (s' := (kt 1 (.v (.slice l_p l.length l_c)) :: kt 2 (.p 1 0) :: kt 5 (.p 2 0) :: kt 7 (.i (check s)) :: kt 23 (.B ((check s) != 0)) :: kb 1 25 11 :: kb 2 32 2 :: sK 1 s (.v (.slice s0Tp s.Thrust.length s0Tc)) (.v (.slice s0Wp s.Water.length s0Wc)) (.v (.slice s0Ip s.Ice.length s0Ic)) [kc 2 0 (.i 0), kc 2 1 (.i 0)])) ?_ (kp rfl) rfl
 refine fqT ?_
 refine aw_cond rfl (fun hz1 => ?_) (fun hz1 => ?_)
 ·have _z := hz1
  have q2 := ne_t hz1
  refine aqS ?_
  refine aqT (rows := [_, _, _, _, _]) rfl (by kernel_rfl) ⟨
   okp rfl rfl (op_build (x := .g [.i 0, .i 0]) (lN rfl) EvL.nil (fun m w => by kernel_rfl)),
   okp rfl rfl (oqM (lN rfl) rfl),
   okp rfl rfl (oqA (lN rfl) rfl),
   okp rfl rfl (op_storeN sz_32 rfl rfl rfl rfl rfl (by decide)),
   okp rfl rfl (oqA (lN rfl) rfl),
   trivial⟩ ?_
  refine fqK (s' := [kt 4 (.v (.slice none 0 0)), kt 5 (.p 2 0), kt 6 (.i (check s)), kb 2 32 2, kc 2 0 (.i 0), kc 2 1 (.i 0)]) ?_ (kp rfl) rfl
  refine fqT ?_
  refine aw_ret ?_
  refine fin_then_ret ?_
  refine post_ret (x := .t [.v (.slice none 0 0), .g [.i 0, .i 0], .i (check s)]) rfl rfl (rqT rfl (resOK_cellN (ys := [.i 0, .i 0]) rfl sh_32 rfl ⟨rfl, rfl, trivial⟩ (rqT rfl resOK_nil))) rfl (fun mm aa ww hr => ?_)
  exact ⟨none, 0, by rw [leg, if_pos (ne_t hz1)]; rfl, by rw [leg, if_pos (ne_t hz1)]; exact newAt_nil, hr.below⟩
 ·have _z := hz1
  have q3 := ne_f hz1
  refine aw_skip ?_
  refine fqT ?_
  refine aqS ?_
  refine aqS ?_
  refine aqT (rows := [_, _, _, _]) rfl (by kernel_rfl) ⟨
   okp rfl rfl (oqM (lN rfl) rfl),
   okp rfl rfl (op_len (n := l.length) (lN rfl) (by rw [ss_46]; rfl) rfl rfl),
   okp rfl rfl (oqC (x := .B (within (((l.length : Nat) : Int)) 1 100)) (fs := []) (caps := []) (extra := []) (lN rfl) en_84 rfl ⟨rfl, rfl, rfl⟩ (EvL.cons rfl (EvL.cons rfl (EvL.cons rfl EvL.nil))) (fun mm aa ww gg hr hrel => (c84 (((l.length : Nat) : Int)) 1 100 ww))),
   okp rfl rfl (op_not (lN rfl) rfl),
   trivial⟩ ?_
  refine fqK (s' := (kt 1 (.v (.slice l_p l.length l_c)) :: kt 2 (.p 1 0) :: kt 5 (.p 2 0) :: kt 29 (.B (!(within (((l.length : Nat) : Int)) 1 100))) :: kb 1 25 11 :: kb 2 32 2 :: sK 1 s (.v (.slice s0Tp s.Thrust.length s0Tc)) (.v (.slice s0Wp s.Water.length s0Wc)) (.v (.slice s0Ip s.Ice.length s0Ic)) [kc 2 0 (.i 0), kc 2 1 (.i 0)])) ?_ (kp rfl) rfl
  refine fqT ?_
  refine aw_cond rfl (fun hz4 => ?_) (fun hz4 => ?_)
  ·have _z := hz4
   have q5 := within_f (not_t hz4)
   refine aqS ?_
   refine aqT (rows := [_, _, _, _]) rfl (by kernel_rfl) ⟨
    okp rfl rfl (op_build (x := .g [.i 0, .i 0]) (lN rfl) EvL.nil (fun m w => by kernel_rfl)),
    okp rfl rfl (oqA (lN rfl) rfl),
    okp rfl rfl (op_storeN sz_32 rfl rfl rfl rfl rfl (by decide)),
    okp rfl rfl (oqA (lN rfl) rfl),
    trivial⟩ ?_
   refine fqK (s' := [kt 4 (.v (.slice none 0 0)), kt 5 (.p 2 0), kt 6 (.i 2), kb 2 32 2, kc 2 0 (.i 0), kc 2 1 (.i 0)]) ?_ (kp rfl) rfl
   refine fqT ?_
   refine aw_ret ?_
   refine fin_then_ret ?_
   refine post_ret (x := .t [.v (.slice none 0 0), .g [.i 0, .i 0], .i 2]) rfl rfl (rqT rfl (resOK_cellN (ys := [.i 0, .i 0]) rfl sh_32 rfl ⟨rfl, rfl, trivial⟩ (rqT rfl resOK_nil))) rfl (fun mm aa ww hr => ?_)
   exact ⟨none, 0, by rw [leg, if_neg (by rw [ne_f hz1]; decide), if_pos (not_t hz4)]; rfl, by rw [leg, if_neg (by rw [ne_f hz1]; decide), if_pos (not_t hz4)]; exact newAt_nil, hr.below⟩
  ·have _z := hz4
   have q6 := within_t (not_f hz4)
   refine aw_skip ?_
   refine fqT ?_
   refine aqS ?_
   refine aqS ?_
   refine aqT (rows := [_, _, _]) rfl (by kernel_rfl) ⟨
    okp rfl rfl (oqM (lN rfl) rfl),
    okp rfl rfl (op_len (n := l.length) (lN rfl) (by rw [ss_46]; rfl) rfl rfl),
    okp rfl rfl (oqM (lN rfl) rfl),
    trivial⟩ ?_
   refine fqK (s' := (kt 1 (.v (.slice l_p l.length l_c)) :: kt 2 (.p 1 0) :: kt 5 (.p 2 0) :: kt 31 (.v (.slice l_p l.length l_c)) :: kt 32 (.i (((l.length : Nat) : Int))) :: kt 33 (.i 0) :: kb 1 25 11 :: kb 2 32 2 :: sK 1 s (.v (.slice s0Tp s.Thrust.length s0Tc)) (.v (.slice s0Wp s.Water.length s0Wc)) (.v (.slice s0Ip s.Ice.length s0Ic)) [kc 2 0 (.i 0), kc 2 1 (.i 0)])) ?_ (kp rfl) rfl
   refine fqT ?_
   refine aw_block ?_
   refine AW.keep (s' := (fun (k : Nat) => (kt 1 (.v (.slice l_p l.length l_c)) :: kt 2 (.p 1 0) :: kt 5 (.p 2 0) :: kt 31 (.v (.slice l_p l.length l_c)) :: kt 32 (.i (((l.length : Nat) : Int))) :: kt 33 (.i ((k : Int))) :: kb 1 25 11 :: kb 2 32 2 :: sK 1 s (.v (.slice s0Tp s.Thrust.length s0Tc)) (.v (.slice s0Wp s.Water.length s0Wc)) (.v (.slice s0Ip s.Ice.length s0Ic)) [kc 2 0 (.i 0), kc 2 1 (.i 0)])) ((0 : Nat))) ?_ (kp rfl) rfl
   refine aw_loop (ι := Nat) (fun k => k ≤ l.length ∧ (∀ j < k, goodPart (prt l (j : Int))) ∧ partsErr l = partsErr (l.drop k)) (fun k => (kt 1 (.v (.slice l_p l.length l_c)) :: kt 2 (.p 1 0) :: kt 5 (.p 2 0) :: kt 31 (.v (.slice l_p l.length l_c)) :: kt 32 (.i (((l.length : Nat) : Int))) :: kt 33 (.i ((k : Int))) :: kb 1 25 11 :: kb 2 32 2 :: sK 1 s (.v (.slice s0Tp s.Thrust.length s0Tc)) (.v (.slice s0Wp s.Water.length s0Wc)) (.v (.slice s0Ip s.Ice.length s0Ic)) [kc 2 0 (.i 0), kc 2 1 (.i 0)])) (fun k => l.length - k) ⟨Nat.zero_le _, fun j hj => absurd hj (Nat.not_lt_zero j), rfl⟩ (fun k hI => ?_)
   obtain ⟨hk, hall, hpe⟩ := hI
   refine aqS ?_
   refine aqT (rows := [_]) rfl (by kernel_rfl) ⟨
    okp rfl rfl (oqB (lN rfl) rfl rfl rfl),
    trivial⟩ ?_
   refine fqK (s' := (kt 1 (.v (.slice l_p l.length l_c)) :: kt 2 (.p 1 0) :: kt 5 (.p 2 0) :: kt 31 (.v (.slice l_p l.length l_c)) :: kt 32 (.i (((l.length : Nat) : Int))) :: kt 33 (.i ((k : Int))) :: kt 34 (.B (decide (((k : Int)) < (((l.length : Nat) : Int))))) :: kb 1 25 11 :: kb 2 32 2 :: sK 1 s (.v (.slice s0Tp s.Thrust.length s0Tc)) (.v (.slice s0Wp s.Water.length s0Wc)) (.v (.slice s0Ip s.Ice.length s0Ic)) [kc 2 0 (.i 0), kc 2 1 (.i 0)])) ?_ (kp rfl) rfl
   refine fqT ?_
   refine aqS ?_
   refine aw_cond rfl (fun hz7 => ?_) (fun hz7 => ?_)
   ·have _z := hz7
    have q8 := of_decide_eq_true hz7
    refine aw_skip ?_
    refine fqT ?_
    refine aqS ?_
    refine aw_block ?_
    refine aqS ?_
    refine aqT (rows := [_, _, _, _]) rfl (by kernel_rfl) ⟨
     okp rfl rfl (op_ixB (lN rfl) rfl rfl ss_46 (hl_p (ne_of_ix (i := (k : Int)) (by omega) (by omega))) (by omega) (by omega)),
     okp rfl rfl (op_loadB (y := .g [.i (((((prt l ((k : Int)))).Cell).Conc).Lo), .i (((((prt l ((k : Int)))).Cell).Conc).Hi), .i (((((prt l ((k : Int)))).Cell).Thick).Lo), .i (((((prt l ((k : Int)))).Cell).Thick).Hi), .i (((((prt l ((k : Int)))).Cell).Ridge).Lo), .i (((((prt l ((k : Int)))).Cell).Ridge).Hi), .i (((((prt l ((k : Int)))).Cell).Press).Lo), .i (((((prt l ((k : Int)))).Cell).Press).Hi), .B (((prt l ((k : Int)))).Channel), .i (((prt l ((k : Int)))).Length)]) (lN rfl) rfl (ldN (hl_L (ne_of_ix (i := (k : Int)) (by omega) (by omega))) default (i := (k : Int)) (by omega) (by omega) 0 (vs := [(.int .i64 (((((prt l ((k : Int)))).Cell).Conc).Lo)), (.int .i64 (((((prt l ((k : Int)))).Cell).Conc).Hi)), (.int .i64 (((((prt l ((k : Int)))).Cell).Thick).Lo)), (.int .i64 (((((prt l ((k : Int)))).Cell).Thick).Hi)), (.int .i64 (((((prt l ((k : Int)))).Cell).Ridge).Lo)), (.int .i64 (((((prt l ((k : Int)))).Cell).Ridge).Hi)), (.int .i64 (((((prt l ((k : Int)))).Cell).Press).Lo)), (.int .i64 (((((prt l ((k : Int)))).Cell).Press).Hi)), (.bool (((prt l ((k : Int)))).Channel)), (.int .i64 (((prt l ((k : Int)))).Length))]) (fun zq zv zh => sub_get (vs := [(.int .i64 (((((prt l ((k : Int)))).Cell).Conc).Lo)), (.int .i64 (((((prt l ((k : Int)))).Cell).Conc).Hi)), (.int .i64 (((((prt l ((k : Int)))).Cell).Thick).Lo)), (.int .i64 (((((prt l ((k : Int)))).Cell).Thick).Hi)), (.int .i64 (((((prt l ((k : Int)))).Cell).Ridge).Lo)), (.int .i64 (((((prt l ((k : Int)))).Cell).Ridge).Hi)), (.int .i64 (((((prt l ((k : Int)))).Cell).Press).Lo)), (.int .i64 (((((prt l ((k : Int)))).Cell).Press).Hi)), (.bool (((prt l ((k : Int)))).Channel)), (.int .i64 (((prt l ((k : Int)))).Length))]) rfl zh) rfl sh_48 rfl)),
     okp rfl rfl (op_alloc (L := 3) (lN rfl) zl_48),
     okp rfl rfl (op_storeN sz_48 rfl rfl rfl rfl rfl (by decide)),
     trivial⟩ ?_
    refine fqK (s' := (kt 1 (.v (.slice l_p l.length l_c)) :: kt 2 (.p 1 0) :: kt 5 (.p 2 0) :: kt 9 (.p 3 0) :: kt 31 (.v (.slice l_p l.length l_c)) :: kt 32 (.i (((l.length : Nat) : Int))) :: kt 33 (.i ((k : Int))) :: kb 1 25 11 :: kb 2 32 2 :: kb 3 48 10 :: sK 1 s (.v (.slice s0Tp s.Thrust.length s0Tc)) (.v (.slice s0Wp s.Water.length s0Wc)) (.v (.slice s0Ip s.Ice.length s0Ic)) [kc 2 0 (.i 0), kc 2 1 (.i 0), kc 3 0 (.i (((((prt l ((k : Int)))).Cell).Conc).Lo)), kc 3 1 (.i (((((prt l ((k : Int)))).Cell).Conc).Hi)), kc 3 2 (.i (((((prt l ((k : Int)))).Cell).Thick).Lo)), kc 3 3 (.i (((((prt l ((k : Int)))).Cell).Thick).Hi)), kc 3 4 (.i (((((prt l ((k : Int)))).Cell).Ridge).Lo)), kc 3 5 (.i (((((prt l ((k : Int)))).Cell).Ridge).Hi)), kc 3 6 (.i (((((prt l ((k : Int)))).Cell).Press).Lo)), kc 3 7 (.i (((((prt l ((k : Int)))).Cell).Press).Hi)), kc 3 8 (.B (((prt l ((k : Int)))).Channel)), kc 3 9 (.i (((prt l ((k : Int)))).Length))])) ?_ (kp rfl) rfl
    refine fqT ?_
    refine aqS ?_
    refine aqS ?_
    have hlt : k < l.length := by omega
    refine aqT (rows := [_, _, _, _]) rfl (by kernel_rfl) ⟨
     okp rfl rfl (oqF (lN rfl) rfl fo_48_2),
     okp rfl rfl (oq1 (lN rfl) sh_3 rfl rfl),
     okp rfl rfl (oqC (x := .B (within (((prt l ((k : Int)))).Length) 1 10000)) (fs := []) (caps := []) (extra := []) (lN rfl) en_84 rfl ⟨rfl, rfl, rfl⟩ (EvL.cons rfl (EvL.cons rfl (EvL.cons rfl EvL.nil))) (fun mm aa ww gg hr hrel => (c84 (((prt l ((k : Int)))).Length) 1 10000 ww))),
     okp rfl rfl (op_not (lN rfl) rfl),
     trivial⟩ ?_
    refine fqK (s' := (kt 1 (.v (.slice l_p l.length l_c)) :: kt 2 (.p 1 0) :: kt 5 (.p 2 0) :: kt 9 (.p 3 0) :: kt 31 (.v (.slice l_p l.length l_c)) :: kt 32 (.i (((l.length : Nat) : Int))) :: kt 33 (.i ((k : Int))) :: kt 40 (.B (!(within (((prt l ((k : Int)))).Length) 1 10000))) :: kb 1 25 11 :: kb 2 32 2 :: kb 3 48 10 :: sK 1 s (.v (.slice s0Tp s.Thrust.length s0Tc)) (.v (.slice s0Wp s.Water.length s0Wc)) (.v (.slice s0Ip s.Ice.length s0Ic)) [kc 2 0 (.i 0), kc 2 1 (.i 0), kc 3 0 (.i (((((prt l ((k : Int)))).Cell).Conc).Lo)), kc 3 1 (.i (((((prt l ((k : Int)))).Cell).Conc).Hi)), kc 3 2 (.i (((((prt l ((k : Int)))).Cell).Thick).Lo)), kc 3 3 (.i (((((prt l ((k : Int)))).Cell).Thick).Hi)), kc 3 4 (.i (((((prt l ((k : Int)))).Cell).Ridge).Lo)), kc 3 5 (.i (((((prt l ((k : Int)))).Cell).Ridge).Hi)), kc 3 6 (.i (((((prt l ((k : Int)))).Cell).Press).Lo)), kc 3 7 (.i (((((prt l ((k : Int)))).Cell).Press).Hi)), kc 3 8 (.B (((prt l ((k : Int)))).Channel)), kc 3 9 (.i (((prt l ((k : Int)))).Length))])) ?_ (kp rfl) rfl
    refine fqT ?_
    refine aw_cond rfl (fun hz9 => ?_) (fun hz9 => ?_)
    ·have _z := hz9
     have q10 := within_f (not_t hz9)
     refine aqS ?_
     refine aqT (rows := [_, _, _, _]) rfl (by kernel_rfl) ⟨
      okp rfl rfl (op_build (x := .g [.i 0, .i 0]) (lN rfl) EvL.nil (fun m w => by kernel_rfl)),
      okp rfl rfl (oqA (lN rfl) rfl),
      okp rfl rfl (op_storeN sz_32 rfl rfl rfl rfl rfl (by decide)),
      okp rfl rfl (oqA (lN rfl) rfl),
      trivial⟩ ?_
     refine fqK (s' := [kt 4 (.v (.slice none 0 0)), kt 5 (.p 2 0), kt 6 (.i 6), kb 2 32 2, kc 2 0 (.i 0), kc 2 1 (.i 0)]) ?_ (kp rfl) rfl
     refine fqT ?_
     refine aw_ret ?_
     refine fin_then_ret ?_
     refine fin_block_ret ?_
     refine fin_then_ret ?_
     refine fin_then_ret ?_
     refine fin_block_ret ?_
     refine fin_then_ret ?_
     refine post_ret (x := .t [.v (.slice none 0 0), .g [.i 0, .i 0], .i 6]) rfl rfl (rqT rfl (resOK_cellN (ys := [.i 0, .i 0]) rfl sh_32 rfl ⟨rfl, rfl, trivial⟩ (rqT rfl resOK_nil))) rfl (fun mm aa ww hr => ?_)
     have hpk : partErr (prt l (k : Int)) = 6 := by rw [partErr, not_t hz9]; rfl
     have hps : partsErr l = 6 := by rw [hpe, drop_prt hlt, partsErr, if_pos (show partErr (prt l (k : Int)) ≠ 0 by rw [hpk]; decide), hpk]
     have hlq : leg s l = ([], ⟨0, 0⟩, 6) := by rw [leg, if_neg (by rw [ne_f hz1]; decide), if_neg (by rw [not_f hz4]; decide), if_pos (show partsErr l ≠ 0 by rw [hps]; decide), hps]
     exact ⟨none, 0, by rw [hlq]; rfl, by rw [hlq]; exact newAt_nil, hr.below⟩
    ·have _z := hz9
     have q11 := within_t (not_f hz9)
     refine aw_skip ?_
     refine fqT ?_
     refine aqS ?_
     refine aqT (rows := [_, _, _, _]) rfl (by kernel_rfl) ⟨
      okp rfl rfl (oqF (lN rfl) rfl fo_48_0),
      okp rfl rfl (oqL (ys := [.i (((((prt l ((k : Int)))).Cell).Conc).Lo), .i (((((prt l ((k : Int)))).Cell).Conc).Hi), .i (((((prt l ((k : Int)))).Cell).Thick).Lo), .i (((((prt l ((k : Int)))).Cell).Thick).Hi), .i (((((prt l ((k : Int)))).Cell).Ridge).Lo), .i (((((prt l ((k : Int)))).Cell).Ridge).Hi), .i (((((prt l ((k : Int)))).Cell).Press).Lo), .i (((((prt l ((k : Int)))).Cell).Press).Hi)]) (lN rfl) sh_34 rfl rfl ⟨rfl, rfl, rfl, rfl, rfl, rfl, rfl, rfl, trivial⟩),
      okp rfl rfl (oqC (x := .i (checkCell ((((prt l ((k : Int)))).Cell)))) (fs := []) (caps := []) (extra := []) (lN rfl) en_85 rfl ⟨rfl, rfl, rfl⟩ (EvL.cons rfl EvL.nil) (fun mm aa ww gg hr hrel => (c85 ((((prt l ((k : Int)))).Cell)) ww))),
      okp rfl rfl (oqA (lN rfl) rfl),
      trivial⟩ ?_
     refine fqK (s' := (kt 1 (.v (.slice l_p l.length l_c)) :: kt 2 (.p 1 0) :: kt 5 (.p 2 0) :: kt 10 (.i (checkCell ((((prt l ((k : Int)))).Cell)))) :: kt 31 (.v (.slice l_p l.length l_c)) :: kt 32 (.i (((l.length : Nat) : Int))) :: kt 33 (.i ((k : Int))) :: kb 1 25 11 :: kb 2 32 2 :: sK 1 s (.v (.slice s0Tp s.Thrust.length s0Tc)) (.v (.slice s0Wp s.Water.length s0Wc)) (.v (.slice s0Ip s.Ice.length s0Ic)) [kc 2 0 (.i 0), kc 2 1 (.i 0)])) ?_ (kp rfl) rfl
     refine fqT ?_
     refine aqS ?_
     refine aqT (rows := [_, _]) rfl (by kernel_rfl) ⟨
      okp rfl rfl (oqM (lN rfl) rfl),
      okp rfl rfl (oqB (lN rfl) rfl rfl rfl),
      trivial⟩ ?_
     refine fqK (s' := (kt 1 (.v (.slice l_p l.length l_c)) :: kt 2 (.p 1 0) :: kt 5 (.p 2 0) :: kt 10 (.i (checkCell ((((prt l ((k : Int)))).Cell)))) :: kt 31 (.v (.slice l_p l.length l_c)) :: kt 32 (.i (((l.length : Nat) : Int))) :: kt 33 (.i ((k : Int))) :: kt 46 (.B ((checkCell ((((prt l ((k : Int)))).Cell))) != 0)) :: kb 1 25 11 :: kb 2 32 2 :: sK 1 s (.v (.slice s0Tp s.Thrust.length s0Tc)) (.v (.slice s0Wp s.Water.length s0Wc)) (.v (.slice s0Ip s.Ice.length s0Ic)) [kc 2 0 (.i 0), kc 2 1 (.i 0)])) ?_ (kp rfl) rfl
     refine fqT ?_
     refine aw_cond rfl (fun hz12 => ?_) (fun hz12 => ?_)
     ·have _z := hz12
      have q13 := ne_t hz12
      refine aqS ?_
      refine aqT (rows := [_, _, _, _, _]) rfl (by kernel_rfl) ⟨
       okp rfl rfl (op_build (x := .g [.i 0, .i 0]) (lN rfl) EvL.nil (fun m w => by kernel_rfl)),
       okp rfl rfl (oqM (lN rfl) rfl),
       okp rfl rfl (oqA (lN rfl) rfl),
       okp rfl rfl (op_storeN sz_32 rfl rfl rfl rfl rfl (by decide)),
       okp rfl rfl (oqA (lN rfl) rfl),
       trivial⟩ ?_
      refine fqK (s' := [kt 4 (.v (.slice none 0 0)), kt 5 (.p 2 0), kt 6 (.i (checkCell ((((prt l ((k : Int)))).Cell)))), kb 2 32 2, kc 2 0 (.i 0), kc 2 1 (.i 0)]) ?_ (kp rfl) rfl
      refine fqT ?_
      refine aw_ret ?_
      refine fin_block_ret ?_
      refine fin_then_ret ?_
      refine fin_then_ret ?_
      refine fin_block_ret ?_
      refine fin_then_ret ?_
      refine post_ret (x := .t [.v (.slice none 0 0), .g [.i 0, .i 0], .i (checkCell ((((prt l ((k : Int)))).Cell)))]) rfl rfl (rqT rfl (resOK_cellN (ys := [.i 0, .i 0]) rfl sh_32 rfl ⟨rfl, rfl, trivial⟩ (rqT rfl resOK_nil))) rfl (fun mm aa ww hr => ?_)
      have hpk : partErr (prt l (k : Int)) = checkCell (prt l (k : Int)).Cell := by rw [partErr, not_f hz9]; rfl
      have hps : partsErr l = checkCell (prt l (k : Int)).Cell := by rw [hpe, drop_prt hlt, partsErr, if_pos (show partErr (prt l (k : Int)) ≠ 0 by rw [hpk]; exact ne_t hz12), hpk]
      have hlq : leg s l = ([], ⟨0, 0⟩, checkCell (prt l (k : Int)).Cell) := by rw [leg, if_neg (by rw [ne_f hz1]; decide), if_neg (by rw [not_f hz4]; decide), if_pos (show partsErr l ≠ 0 by rw [hps]; exact ne_t hz12), hps]
      exact ⟨none, 0, by rw [hlq]; rfl, by rw [hlq]; exact newAt_nil, hr.below⟩
     ·have _z := hz12
      have q14 := ne_f hz12
      refine aw_skip ?_
      refine fin_block ?_
      refine fqT ?_
      have hpk : partErr (prt l (k : Int)) = 0 := by rw [partErr, not_f hz9]; exact ne_f hz12
      have hgp := partErr_ok.1 hpk
      refine aqT (rows := [_, _]) rfl (by kernel_rfl) ⟨
       okp rfl rfl (oqB (lN rfl) rfl rfl (nw_add ⟨(by omega), (by omega)⟩)),
       okp rfl rfl (oqM (lN rfl) rfl),
       trivial⟩ ?_
      refine fqK (s' := (kt 1 (.v (.slice l_p l.length l_c)) :: kt 2 (.p 1 0) :: kt 5 (.p 2 0) :: kt 31 (.v (.slice l_p l.length l_c)) :: kt 32 (.i (((l.length : Nat) : Int))) :: kt 33 (.i (((k : Int)) + 1)) :: kb 1 25 11 :: kb 2 32 2 :: sK 1 s (.v (.slice s0Tp s.Thrust.length s0Tc)) (.v (.slice s0Wp s.Water.length s0Wc)) (.v (.slice s0Ip s.Ice.length s0Ic)) [kc 2 0 (.i 0), kc 2 1 (.i 0)])) ?_ (kp rfl) rfl
      exact fin_loop (k + 1) ⟨by omega, fun j hj => by rcases Nat.lt_succ_iff_lt_or_eq.1 hj with h | rfl; exact hall j h; exact hgp, by rw [hpe, drop_prt hlt, partsErr, if_neg (by rw [hpk]; decide)]⟩ (by omega) ⟨rfl, rfl, rfl, rfl, rfl, rfl, rfl, rfl, rfl, rfl, rfl, rfl, rfl, rfl, rfl, rfl, rfl, rfl, rfl, rfl, rfl, trivial⟩ rfl
   ·have _z := hz7
    have q15 := of_decide_eq_false hz7
    refine aw_exit ?_
    refine fin_then_exit ?_
    refine fin_then_exit ?_
    refine fin_block_exit ?_
    refine fqT ?_
    refine aqS ?_
    refine aqT (rows := [_]) rfl (by kernel_rfl) ⟨
     okp rfl rfl (oqA (lN rfl) rfl),
     trivial⟩ ?_
    refine fqK (s' := (kt 1 (.v (.slice l_p l.length l_c)) :: kt 2 (.p 1 0) :: kt 5 (.p 2 0) :: kt 11 (.v (.func (.func 86) #[] #[])) :: kb 1 25 11 :: kb 2 32 2 :: sK 1 s (.v (.slice s0Tp s.Thrust.length s0Tc)) (.v (.slice s0Wp s.Water.length s0Wc)) (.v (.slice s0Ip s.Ice.length s0Ic)) [kc 2 0 (.i 0), kc 2 1 (.i 0)])) ?_ (kp rfl) rfl
    refine fqT ?_
    refine aqS ?_
    have hps : partsErr l = 0 := by rw [hpe, List.drop_of_length_le (by omega)]; rfl
    have hlen := within_t (not_f hz4)
    have hc := ne_f hz1
    have hleg0 : leg s l = legFrom s (l.drop 0) 0 [] 0 0 := by rw [leg, if_neg (by rw [hc]; decide), if_neg (by rw [not_f hz4]; decide), if_neg (by rw [hps]; decide)]; rfl
    refine aqT (rows := [_]) rfl (by kernel_rfl) ⟨
     okp rfl rfl (oqA (lN rfl) rfl),
     trivial⟩ ?_
    refine fqK (s' := (kt 1 (.v (.slice l_p l.length l_c)) :: kt 2 (.p 1 0) :: kt 5 (.p 2 0) :: kt 11 (.v (.func (.func 86) #[] #[])) :: kt 12 (.v (.slice none 0 0)) :: kb 1 25 11 :: kb 2 32 2 :: sK 1 s (.v (.slice s0Tp s.Thrust.length s0Tc)) (.v (.slice s0Wp s.Water.length s0Wc)) (.v (.slice s0Ip s.Ice.length s0Ic)) [kc 2 0 (.i 0), kc 2 1 (.i 0)])) ?_ (kp rfl) rfl
    refine fqT ?_
    refine aqS ?_
    refine aqT (rows := [_]) rfl (by kernel_rfl) ⟨
     okp rfl rfl (op_alloc (L := 4) (lN rfl) zl_32),
     trivial⟩ ?_
    refine fqK (s' := (kt 1 (.v (.slice l_p l.length l_c)) :: kt 2 (.p 1 0) :: kt 5 (.p 2 0) :: kt 11 (.v (.func (.func 86) #[] #[])) :: kt 12 (.v (.slice none 0 0)) :: kt 13 (.p 4 0) :: kb 1 25 11 :: kb 2 32 2 :: kb 4 32 2 :: sK 1 s (.v (.slice s0Tp s.Thrust.length s0Tc)) (.v (.slice s0Wp s.Water.length s0Wc)) (.v (.slice s0Ip s.Ice.length s0Ic)) [kc 2 0 (.i 0), kc 2 1 (.i 0), kc 4 0 (.i 0), kc 4 1 (.i 0)])) ?_ (kp rfl) rfl
    refine fqT ?_
    refine aqS ?_
    refine aqS ?_
    refine aqT (rows := [_, _, _]) rfl (by kernel_rfl) ⟨
     okp rfl rfl (oqM (lN rfl) rfl),
     okp rfl rfl (op_len (n := l.length) (lN rfl) (by rw [ss_46]; rfl) rfl rfl),
     okp rfl rfl (oqM (lN rfl) rfl),
     trivial⟩ ?_
    refine fqK (s' := (kt 2 (.p 1 0) :: kt 5 (.p 2 0) :: kt 11 (.v (.func (.func 86) #[] #[])) :: kt 12 (.v (.slice none 0 0)) :: kt 13 (.p 4 0) :: kt 50 (.v (.slice l_p l.length l_c)) :: kt 51 (.i (((l.length : Nat) : Int))) :: kt 52 (.i 0) :: kb 1 25 11 :: kb 2 32 2 :: kb 4 32 2 :: sK 1 s (.v (.slice s0Tp s.Thrust.length s0Tc)) (.v (.slice s0Wp s.Water.length s0Wc)) (.v (.slice s0Ip s.Ice.length s0Ic)) [kc 2 0 (.i 0), kc 2 1 (.i 0), kc 4 0 (.i 0), kc 4 1 (.i 0)])) ?_ (kp rfl) rfl
    refine fqT ?_
    refine aw_block ?_
    refine aw_nilRow (i := 12) (L := 101) (C := 102) 3 1 rfl rfl (by decide) ?_
    refine AW.keep (s' := (fun (q : Nat × List Int × Int × Int) => (kt 2 (.p 1 0) :: kt 5 (.p 2 0) :: kt 11 (.v (.func (.func 86) #[] #[])) :: kt 12 (.o 101 102 q.2.1.length) :: kt 13 (.p 4 0) :: kt 50 (.v (.slice l_p l.length l_c)) :: kt 51 (.i (((l.length : Nat) : Int))) :: kt 52 (.i ((q.1 : Int))) :: kb 1 25 11 :: kb 2 32 2 :: kb 4 32 2 :: (.r 101, some (.vec true 102 3 1 (q.2.1.flatMap encInt))) :: sK 1 s (.v (.slice s0Tp s.Thrust.length s0Tc)) (.v (.slice s0Wp s.Water.length s0Wc)) (.v (.slice s0Ip s.Ice.length s0Ic)) [kc 2 0 (.i 0), kc 2 1 (.i 0), kc 4 0 (.i q.2.2.1), kc 4 1 (.i q.2.2.2)])) (((0 : Nat), ([] : List Int), (0 : Int), (0 : Int)))) ?_ (kp rfl) rfl
    refine aw_loop (ι := Nat × List Int × Int × Int) (fun q => q.1 ≤ l.length ∧ (0 ≤ q.2.2.1 ∧ q.2.2.1 ≤ 60025 * (q.1 : Int)) ∧ (0 ≤ q.2.2.2 ∧ q.2.2.2 ≤ 60025 * (q.1 : Int)) ∧ q.2.1.length = q.1 ∧ leg s l = legFrom s (l.drop q.1) (q.1 : Int) q.2.1 q.2.2.1 q.2.2.2) (fun q => (kt 2 (.p 1 0) :: kt 5 (.p 2 0) :: kt 11 (.v (.func (.func 86) #[] #[])) :: kt 12 (.o 101 102 q.2.1.length) :: kt 13 (.p 4 0) :: kt 50 (.v (.slice l_p l.length l_c)) :: kt 51 (.i (((l.length : Nat) : Int))) :: kt 52 (.i ((q.1 : Int))) :: kb 1 25 11 :: kb 2 32 2 :: kb 4 32 2 :: (.r 101, some (.vec true 102 3 1 (q.2.1.flatMap encInt))) :: sK 1 s (.v (.slice s0Tp s.Thrust.length s0Tc)) (.v (.slice s0Wp s.Water.length s0Wc)) (.v (.slice s0Ip s.Ice.length s0Ic)) [kc 2 0 (.i 0), kc 2 1 (.i 0), kc 4 0 (.i q.2.2.1), kc 4 1 (.i q.2.2.2)])) (fun q => l.length - q.1) ⟨Nat.zero_le _, ⟨Int.le_refl _, by simp⟩, ⟨Int.le_refl _, by simp⟩, rfl, hleg0⟩ (fun q hI => ?_)
    obtain ⟨hk, hlo, hhi, hvl, hlg⟩ := hI
    refine aqS ?_
    refine aqT (rows := [_]) rfl (by kernel_rfl) ⟨
     okp rfl rfl (oqB (lN rfl) rfl rfl rfl),
     trivial⟩ ?_
    refine fqK (s' := (kt 2 (.p 1 0) :: kt 5 (.p 2 0) :: kt 11 (.v (.func (.func 86) #[] #[])) :: kt 12 (.o 101 102 q.2.1.length) :: kt 13 (.p 4 0) :: kt 50 (.v (.slice l_p l.length l_c)) :: kt 51 (.i (((l.length : Nat) : Int))) :: kt 52 (.i ((q.1 : Int))) :: kt 53 (.B (decide (((q.1 : Int)) < (((l.length : Nat) : Int))))) :: kb 1 25 11 :: kb 2 32 2 :: kb 4 32 2 :: (.r 101, some (.vec true 102 3 1 (q.2.1.flatMap encInt))) :: sK 1 s (.v (.slice s0Tp s.Thrust.length s0Tc)) (.v (.slice s0Wp s.Water.length s0Wc)) (.v (.slice s0Ip s.Ice.length s0Ic)) [kc 2 0 (.i 0), kc 2 1 (.i 0), kc 4 0 (.i q.2.2.1), kc 4 1 (.i q.2.2.2)])) ?_ (kp rfl) rfl
    refine fqT ?_
    refine aqS ?_
    refine aw_cond rfl (fun hz16 => ?_) (fun hz16 => ?_)
    ·have _z := hz16
     have q17 := of_decide_eq_true hz16
     refine aw_skip ?_
     refine fqT ?_
     refine aqS ?_
     refine aw_block ?_
     refine aqS ?_
     have hlt : q.1 < l.length := by omega
     have hgp := hall q.1 (by omega)
     have hg := hgp.2
     have hgf := goodCell_first hg
     refine aqT (rows := [_, _, _, _, _, _]) rfl (by kernel_rfl) ⟨
      okp rfl rfl (oqM (lN rfl) rfl),
      okp rfl rfl (op_ixB (lN rfl) rfl rfl ss_46 (hl_p (ne_of_ix (i := (q.1 : Int)) (by omega) (by omega))) (by omega) (by omega)),
      okp rfl rfl (op_loadB (y := .g [.i (((((prt l ((q.1 : Int)))).Cell).Conc).Lo), .i (((((prt l ((q.1 : Int)))).Cell).Conc).Hi), .i (((((prt l ((q.1 : Int)))).Cell).Thick).Lo), .i (((((prt l ((q.1 : Int)))).Cell).Thick).Hi), .i (((((prt l ((q.1 : Int)))).Cell).Ridge).Lo), .i (((((prt l ((q.1 : Int)))).Cell).Ridge).Hi), .i (((((prt l ((q.1 : Int)))).Cell).Press).Lo), .i (((((prt l ((q.1 : Int)))).Cell).Press).Hi), .B (((prt l ((q.1 : Int)))).Channel), .i (((prt l ((q.1 : Int)))).Length)]) (lN rfl) rfl (ldN (hl_L (ne_of_ix (i := (q.1 : Int)) (by omega) (by omega))) default (i := (q.1 : Int)) (by omega) (by omega) 0 (vs := [(.int .i64 (((((prt l ((q.1 : Int)))).Cell).Conc).Lo)), (.int .i64 (((((prt l ((q.1 : Int)))).Cell).Conc).Hi)), (.int .i64 (((((prt l ((q.1 : Int)))).Cell).Thick).Lo)), (.int .i64 (((((prt l ((q.1 : Int)))).Cell).Thick).Hi)), (.int .i64 (((((prt l ((q.1 : Int)))).Cell).Ridge).Lo)), (.int .i64 (((((prt l ((q.1 : Int)))).Cell).Ridge).Hi)), (.int .i64 (((((prt l ((q.1 : Int)))).Cell).Press).Lo)), (.int .i64 (((((prt l ((q.1 : Int)))).Cell).Press).Hi)), (.bool (((prt l ((q.1 : Int)))).Channel)), (.int .i64 (((prt l ((q.1 : Int)))).Length))]) (fun zq zv zh => sub_get (vs := [(.int .i64 (((((prt l ((q.1 : Int)))).Cell).Conc).Lo)), (.int .i64 (((((prt l ((q.1 : Int)))).Cell).Conc).Hi)), (.int .i64 (((((prt l ((q.1 : Int)))).Cell).Thick).Lo)), (.int .i64 (((((prt l ((q.1 : Int)))).Cell).Thick).Hi)), (.int .i64 (((((prt l ((q.1 : Int)))).Cell).Ridge).Lo)), (.int .i64 (((((prt l ((q.1 : Int)))).Cell).Ridge).Hi)), (.int .i64 (((((prt l ((q.1 : Int)))).Cell).Press).Lo)), (.int .i64 (((((prt l ((q.1 : Int)))).Cell).Press).Hi)), (.bool (((prt l ((q.1 : Int)))).Channel)), (.int .i64 (((prt l ((q.1 : Int)))).Length))]) rfl zh) rfl sh_48 rfl)),
      okp rfl rfl (op_alloc (L := 5) (lN rfl) zl_48),
      okp rfl rfl (oqA (lN rfl) rfl),
      okp rfl rfl (op_storeN sz_48 rfl rfl rfl rfl rfl (by decide)),
      trivial⟩ ?_
     refine fqK (s' := (kt 2 (.p 1 0) :: kt 5 (.p 2 0) :: kt 11 (.v (.func (.func 86) #[] #[])) :: kt 12 (.o 101 102 q.2.1.length) :: kt 13 (.p 4 0) :: kt 14 (.i ((q.1 : Int))) :: kt 15 (.p 5 0) :: kt 50 (.v (.slice l_p l.length l_c)) :: kt 51 (.i (((l.length : Nat) : Int))) :: kt 52 (.i ((q.1 : Int))) :: kb 1 25 11 :: kb 2 32 2 :: kb 4 32 2 :: kb 5 48 10 :: (.r 101, some (.vec true 102 3 1 (q.2.1.flatMap encInt))) :: sK 1 s (.v (.slice s0Tp s.Thrust.length s0Tc)) (.v (.slice s0Wp s.Water.length s0Wc)) (.v (.slice s0Ip s.Ice.length s0Ic)) [kc 2 0 (.i 0), kc 2 1 (.i 0), kc 4 0 (.i q.2.2.1), kc 4 1 (.i q.2.2.2), kc 5 0 (.i (((((prt l ((q.1 : Int)))).Cell).Conc).Lo)), kc 5 1 (.i (((((prt l ((q.1 : Int)))).Cell).Conc).Hi)), kc 5 2 (.i (((((prt l ((q.1 : Int)))).Cell).Thick).Lo)), kc 5 3 (.i (((((prt l ((q.1 : Int)))).Cell).Thick).Hi)), kc 5 4 (.i (((((prt l ((q.1 : Int)))).Cell).Ridge).Lo)), kc 5 5 (.i (((((prt l ((q.1 : Int)))).Cell).Ridge).Hi)), kc 5 6 (.i (((((prt l ((q.1 : Int)))).Cell).Press).Lo)), kc 5 7 (.i (((((prt l ((q.1 : Int)))).Cell).Press).Hi)), kc 5 8 (.B (((prt l ((q.1 : Int)))).Channel)), kc 5 9 (.i (((prt l ((q.1 : Int)))).Length))])) ?_ (kp rfl) rfl
     refine fqT ?_
     refine aqS ?_
     refine aqT (rows := [_, _, _, _, _, _, _, _, _, _]) rfl (by kernel_rfl) ⟨
      okp rfl rfl (oqF (lN rfl) rfl fo_48_0),
      okp rfl rfl (oqL (ys := [.i (((((prt l ((q.1 : Int)))).Cell).Conc).Lo), .i (((((prt l ((q.1 : Int)))).Cell).Conc).Hi), .i (((((prt l ((q.1 : Int)))).Cell).Thick).Lo), .i (((((prt l ((q.1 : Int)))).Cell).Thick).Hi), .i (((((prt l ((q.1 : Int)))).Cell).Ridge).Lo), .i (((((prt l ((q.1 : Int)))).Cell).Ridge).Hi), .i (((((prt l ((q.1 : Int)))).Cell).Press).Lo), .i (((((prt l ((q.1 : Int)))).Cell).Press).Hi)]) (lN rfl) sh_34 rfl rfl ⟨rfl, rfl, rfl, rfl, rfl, rfl, rfl, rfl, trivial⟩),
      okp rfl rfl (oqF (lN rfl) rfl fo_48_1),
      okp rfl rfl (oq1 (lN rfl) sh_4 rfl rfl),
      okp rfl rfl (oqC (x := .t [.i ((safe s ((((prt l ((q.1 : Int)))).Cell)) (((prt l ((q.1 : Int)))).Channel)).1), .i ((safe s ((((prt l ((q.1 : Int)))).Cell)) (((prt l ((q.1 : Int)))).Channel)).2)]) (fs := []) (caps := []) (extra := (kapp ((.b 1 :: cellKeys 1 0 11)) [])) (lN rfl) en_87 rfl ⟨rfl, rfl, rfl⟩ (EvL.cons rfl (EvL.cons rfl (EvL.cons rfl EvL.nil))) (fun mm aa ww gg hr hrel => (c87 s ⟨s0Tp, s.Thrust.length, s0Tc⟩ ⟨s0Wp, s.Water.length, s0Wc⟩ ⟨s0Ip, s.Ice.length, s0Ic⟩ (mm 1) ((((prt l ((q.1 : Int)))).Cell)) (((prt l ((q.1 : Int)))).Channel) ww (SlIs.mono hs_Thrust hrel.below) (SlIs.mono hs_Water hrel.below) (SlIs.mono hs_Ice hrel.below) (boxAt (L := 1) (vs := [(.int .i64 s.Class), (.int .i64 s.Power), (.int .i64 s.Draught), (.int .i64 s.Tonnes), (.slice s0Tp s.Thrust.length s0Tc), (.slice s0Wp s.Water.length s0Wc), (.slice s0Ip s.Ice.length s0Ic), (.int .i64 s.Slow), (.int .i64 s.Brash), (.int .i64 s.Ridge), (.int .i64 s.Press)]) hrel (fun k hk => hr k (List.mem_append_left _ hk)) rfl ⟨rfl, rfl, rfl, rfl, rfl, rfl, rfl, rfl, rfl, rfl, rfl, trivial⟩) (BoxAt.mono hG hrel.below) (by first | assumption | omega) (by first | assumption | omega)))),
      okp rfl rfl (oqM (lN rfl) rfl),
      okp rfl rfl (op_extract (lN rfl) rfl rfl),
      okp rfl rfl (op_extract (lN rfl) rfl rfl),
      okp rfl rfl (oqA (lN rfl) rfl),
      okp rfl rfl (oqA (lN rfl) rfl),
      trivial⟩ ?_
     refine fqK (s' := (kt 2 (.p 1 0) :: kt 5 (.p 2 0) :: kt 11 (.v (.func (.func 86) #[] #[])) :: kt 12 (.o 101 102 q.2.1.length) :: kt 13 (.p 4 0) :: kt 14 (.i ((q.1 : Int))) :: kt 15 (.p 5 0) :: kt 16 (.i ((safe s ((((prt l ((q.1 : Int)))).Cell)) (((prt l ((q.1 : Int)))).Channel)).1)) :: kt 17 (.i ((safe s ((((prt l ((q.1 : Int)))).Cell)) (((prt l ((q.1 : Int)))).Channel)).2)) :: kt 50 (.v (.slice l_p l.length l_c)) :: kt 51 (.i (((l.length : Nat) : Int))) :: kt 52 (.i ((q.1 : Int))) :: kb 1 25 11 :: kb 2 32 2 :: kb 4 32 2 :: kb 5 48 10 :: (.r 101, some (.vec true 102 3 1 (q.2.1.flatMap encInt))) :: sK 1 s (.v (.slice s0Tp s.Thrust.length s0Tc)) (.v (.slice s0Wp s.Water.length s0Wc)) (.v (.slice s0Ip s.Ice.length s0Ic)) [kc 2 0 (.i 0), kc 2 1 (.i 0), kc 4 0 (.i q.2.2.1), kc 4 1 (.i q.2.2.2), kc 5 0 (.i (((((prt l ((q.1 : Int)))).Cell).Conc).Lo)), kc 5 1 (.i (((((prt l ((q.1 : Int)))).Cell).Conc).Hi)), kc 5 2 (.i (((((prt l ((q.1 : Int)))).Cell).Thick).Lo)), kc 5 3 (.i (((((prt l ((q.1 : Int)))).Cell).Thick).Hi)), kc 5 4 (.i (((((prt l ((q.1 : Int)))).Cell).Ridge).Lo)), kc 5 5 (.i (((((prt l ((q.1 : Int)))).Cell).Ridge).Hi)), kc 5 6 (.i (((((prt l ((q.1 : Int)))).Cell).Press).Lo)), kc 5 7 (.i (((((prt l ((q.1 : Int)))).Cell).Press).Hi)), kc 5 8 (.B (((prt l ((q.1 : Int)))).Channel)), kc 5 9 (.i (((prt l ((q.1 : Int)))).Length))])) ?_ (kp rfl) rfl
     refine fqT ?_
     refine aqS ?_
     refine aqS ?_
     refine aqT (rows := [_, _]) rfl (by kernel_rfl) ⟨
      okp rfl rfl (oqM (lN rfl) rfl),
      okp rfl rfl (oqB (lN rfl) rfl rfl rfl),
      trivial⟩ ?_
     refine fqK (s' := (kt 2 (.p 1 0) :: kt 5 (.p 2 0) :: kt 11 (.v (.func (.func 86) #[] #[])) :: kt 12 (.o 101 102 q.2.1.length) :: kt 13 (.p 4 0) :: kt 14 (.i ((q.1 : Int))) :: kt 15 (.p 5 0) :: kt 16 (.i ((safe s ((((prt l ((q.1 : Int)))).Cell)) (((prt l ((q.1 : Int)))).Channel)).1)) :: kt 17 (.i ((safe s ((((prt l ((q.1 : Int)))).Cell)) (((prt l ((q.1 : Int)))).Channel)).2)) :: kt 50 (.v (.slice l_p l.length l_c)) :: kt 51 (.i (((l.length : Nat) : Int))) :: kt 52 (.i ((q.1 : Int))) :: kt 66 (.B (((safe s ((((prt l ((q.1 : Int)))).Cell)) (((prt l ((q.1 : Int)))).Channel)).2) != 0)) :: kb 1 25 11 :: kb 2 32 2 :: kb 4 32 2 :: kb 5 48 10 :: (.r 101, some (.vec true 102 3 1 (q.2.1.flatMap encInt))) :: sK 1 s (.v (.slice s0Tp s.Thrust.length s0Tc)) (.v (.slice s0Wp s.Water.length s0Wc)) (.v (.slice s0Ip s.Ice.length s0Ic)) [kc 2 0 (.i 0), kc 2 1 (.i 0), kc 4 0 (.i q.2.2.1), kc 4 1 (.i q.2.2.2), kc 5 0 (.i (((((prt l ((q.1 : Int)))).Cell).Conc).Lo)), kc 5 1 (.i (((((prt l ((q.1 : Int)))).Cell).Conc).Hi)), kc 5 2 (.i (((((prt l ((q.1 : Int)))).Cell).Thick).Lo)), kc 5 3 (.i (((((prt l ((q.1 : Int)))).Cell).Thick).Hi)), kc 5 4 (.i (((((prt l ((q.1 : Int)))).Cell).Ridge).Lo)), kc 5 5 (.i (((((prt l ((q.1 : Int)))).Cell).Ridge).Hi)), kc 5 6 (.i (((((prt l ((q.1 : Int)))).Cell).Press).Lo)), kc 5 7 (.i (((((prt l ((q.1 : Int)))).Cell).Press).Hi)), kc 5 8 (.B (((prt l ((q.1 : Int)))).Channel)), kc 5 9 (.i (((prt l ((q.1 : Int)))).Length))])) ?_ (kp rfl) rfl
     refine fqT ?_
     refine aw_cond rfl (fun hz18 => ?_) (fun hz18 => ?_)
     ·have _z := hz18
      have q19 := ne_t hz18
      refine aqS ?_
      refine aqT (rows := [_, _, _, _, _, _]) rfl (by kernel_rfl) ⟨
       okp rfl rfl (oqM (lN rfl) rfl),
       okp rfl rfl (op_build (x := .g [.i ((q.1 : Int)), .i 0]) (lN rfl) (EvL.cons rfl EvL.nil) (fun m w => by kernel_rfl)),
       okp rfl rfl (oqM (lN rfl) rfl),
       okp rfl rfl (oqA (lN rfl) rfl),
       okp rfl rfl (op_storeN sz_32 rfl rfl rfl rfl rfl (by decide)),
       okp rfl rfl (oqA (lN rfl) rfl),
       trivial⟩ ?_
      refine fqK (s' := [kt 4 (.v (.slice none 0 0)), kt 5 (.p 2 0), kt 6 (.i ((safe s ((((prt l ((q.1 : Int)))).Cell)) (((prt l ((q.1 : Int)))).Channel)).2)), kb 2 32 2, kc 2 0 (.i ((q.1 : Int))), kc 2 1 (.i 0)]) ?_ (kp rfl) rfl
      refine fqT ?_
      refine aw_ret ?_
      refine fin_then_ret ?_
      refine fin_block_ret ?_
      refine fin_then_ret ?_
      refine fin_then_ret ?_
      refine fin_block_ret ?_
      refine fin_then_ret ?_
      refine post_ret (x := .t [.v (.slice none 0 0), .g [.i ((q.1 : Int)), .i 0], .i ((safe s ((((prt l ((q.1 : Int)))).Cell)) (((prt l ((q.1 : Int)))).Channel)).2)]) rfl rfl (rqT rfl (resOK_cellN (ys := [.i ((q.1 : Int)), .i 0]) rfl sh_32 rfl ⟨rfl, rfl, trivial⟩ (rqT rfl resOK_nil))) rfl (fun mm aa ww hr => ?_)
      have hlq : leg s l = ([], ⟨(q.1 : Int), 0⟩, (safe s (prt l (q.1 : Int)).Cell (prt l (q.1 : Int)).Channel).2) := by rw [hlg, drop_prt hlt, legFrom, if_pos (ne_t hz18)]
      exact ⟨none, 0, by rw [hlq]; rfl, by rw [hlq]; exact newAt_nil, hr.below⟩
     ·have _z := hz18
      have q20 := ne_f hz18
      refine aw_skip ?_
      refine fqT ?_
      refine aqS ?_
      have hsg := safe_goes hc hg (ne_f hz18)
      refine aw_any (rows := [_, _, _, _, _, _, _, _, _, _, _, _]) (M := [0, 1, 3, 0, 8, 31, 63, 127, 255, 255, 511, 2047]) Tryd_mixed (by kernel_rfl) rfl (by kernel_rfl) ⟨
       okp rfl rfl (oqF (lN rfl) rfl fo_48_0),
       okp rfl rfl (oqL (ys := [.i (((((prt l ((q.1 : Int)))).Cell).Conc).Lo), .i (((((prt l ((q.1 : Int)))).Cell).Conc).Hi), .i (((((prt l ((q.1 : Int)))).Cell).Thick).Lo), .i (((((prt l ((q.1 : Int)))).Cell).Thick).Hi), .i (((((prt l ((q.1 : Int)))).Cell).Ridge).Lo), .i (((((prt l ((q.1 : Int)))).Cell).Ridge).Hi), .i (((((prt l ((q.1 : Int)))).Cell).Press).Lo), .i (((((prt l ((q.1 : Int)))).Cell).Press).Hi)]) (lN rfl) sh_34 rfl rfl ⟨rfl, rfl, rfl, rfl, rfl, rfl, rfl, rfl, trivial⟩),
       okp rfl rfl (oqC (x := .g [.i ((firstI ((((prt l ((q.1 : Int)))).Cell))).Conc), .i ((firstI ((((prt l ((q.1 : Int)))).Cell))).Thick), .i ((firstI ((((prt l ((q.1 : Int)))).Cell))).Ridge), .i ((firstI ((((prt l ((q.1 : Int)))).Cell))).Press)]) (fs := []) (caps := []) (extra := []) (lN rfl) en_88 rfl ⟨rfl, rfl, rfl⟩ (EvL.cons rfl EvL.nil) (fun mm aa ww gg hr hrel => (c88 ((((prt l ((q.1 : Int)))).Cell)) ww))),
       okp rfl rfl (oqF (lN rfl) rfl fo_48_1),
       okp rfl rfl (oq1 (lN rfl) sh_4 rfl rfl),
       okp rfl rfl (op_build (x := .g [.p 1 0, .i ((firstI ((((prt l ((q.1 : Int)))).Cell))).Conc), .i ((firstI ((((prt l ((q.1 : Int)))).Cell))).Thick), .i ((firstI ((((prt l ((q.1 : Int)))).Cell))).Ridge), .i ((firstI ((((prt l ((q.1 : Int)))).Cell))).Press), .B (((prt l ((q.1 : Int)))).Channel)]) (lN rfl) (EvL.cons rfl (EvL.cons rfl (EvL.cons rfl EvL.nil))) (fun m w => by kernel_rfl)),
       okp rfl rfl (oqC (x := .t [.i ((goes s ((firstI ((((prt l ((q.1 : Int)))).Cell)))) (((prt l ((q.1 : Int)))).Channel)).1), .B ((goes s ((firstI ((((prt l ((q.1 : Int)))).Cell)))) (((prt l ((q.1 : Int)))).Channel)).2)]) (fs := []) (caps := []) (extra := (kapp ((.b 1 :: cellKeys 1 0 11)) [])) (lN rfl) en_89 rfl ⟨rfl, rfl, rfl⟩ (EvL.cons rfl EvL.nil) (fun mm aa ww gg hr hrel => (c89 s ⟨s0Tp, s.Thrust.length, s0Tc⟩ ⟨s0Wp, s.Water.length, s0Wc⟩ ⟨s0Ip, s.Ice.length, s0Ic⟩ (mm 1) ((firstI ((((prt l ((q.1 : Int)))).Cell)))) (((prt l ((q.1 : Int)))).Channel) ww (SlIs.mono hs_Thrust hrel.below) (SlIs.mono hs_Water hrel.below) (SlIs.mono hs_Ice hrel.below) (boxAt (L := 1) (vs := [(.int .i64 s.Class), (.int .i64 s.Power), (.int .i64 s.Draught), (.int .i64 s.Tonnes), (.slice s0Tp s.Thrust.length s0Tc), (.slice s0Wp s.Water.length s0Wc), (.slice s0Ip s.Ice.length s0Ic), (.int .i64 s.Slow), (.int .i64 s.Brash), (.int .i64 s.Ridge), (.int .i64 s.Press)]) hrel (fun k hk => hr k (List.mem_append_left _ hk)) rfl ⟨rfl, rfl, rfl, rfl, rfl, rfl, rfl, rfl, rfl, rfl, rfl, trivial⟩) (BoxAt.mono hG hrel.below) (by first | assumption | omega) (by first | assumption | omega)))),
       okp rfl rfl (oqM (lN rfl) rfl),
       okp rfl rfl (op_extract (lN rfl) rfl rfl),
       okp rfl rfl (op_extract (lN rfl) rfl rfl),
       okp rfl rfl (oqA (lN rfl) rfl),
       okp rfl rfl (oqA (lN rfl) rfl),
       trivial⟩ ?_
      refine fqK (s' := (kt 2 (.p 1 0) :: kt 5 (.p 2 0) :: kt 11 (.v (.func (.func 86) #[] #[])) :: kt 12 (.o 101 102 q.2.1.length) :: kt 13 (.p 4 0) :: kt 15 (.p 5 0) :: kt 16 (.i ((safe s ((((prt l ((q.1 : Int)))).Cell)) (((prt l ((q.1 : Int)))).Channel)).1)) :: kt 18 (.i ((goes s ((firstI ((((prt l ((q.1 : Int)))).Cell)))) (((prt l ((q.1 : Int)))).Channel)).1)) :: kt 50 (.v (.slice l_p l.length l_c)) :: kt 51 (.i (((l.length : Nat) : Int))) :: kt 52 (.i ((q.1 : Int))) :: kb 1 25 11 :: kb 2 32 2 :: kb 4 32 2 :: kb 5 48 10 :: (.r 101, some (.vec true 102 3 1 (q.2.1.flatMap encInt))) :: sK 1 s (.v (.slice s0Tp s.Thrust.length s0Tc)) (.v (.slice s0Wp s.Water.length s0Wc)) (.v (.slice s0Ip s.Ice.length s0Ic)) [kc 2 0 (.i 0), kc 2 1 (.i 0), kc 4 0 (.i q.2.2.1), kc 4 1 (.i q.2.2.2), kc 5 0 (.i (((((prt l ((q.1 : Int)))).Cell).Conc).Lo)), kc 5 1 (.i (((((prt l ((q.1 : Int)))).Cell).Conc).Hi)), kc 5 2 (.i (((((prt l ((q.1 : Int)))).Cell).Thick).Lo)), kc 5 3 (.i (((((prt l ((q.1 : Int)))).Cell).Thick).Hi)), kc 5 4 (.i (((((prt l ((q.1 : Int)))).Cell).Ridge).Lo)), kc 5 5 (.i (((((prt l ((q.1 : Int)))).Cell).Ridge).Hi)), kc 5 6 (.i (((((prt l ((q.1 : Int)))).Cell).Press).Lo)), kc 5 7 (.i (((((prt l ((q.1 : Int)))).Cell).Press).Hi)), kc 5 8 (.B (((prt l ((q.1 : Int)))).Channel)), kc 5 9 (.i (((prt l ((q.1 : Int)))).Length))])) ?_ (kp rfl) rfl
      refine fqT ?_
      refine aqS ?_
      have ht1 := takes_bd hgp.1 hsg.2.2
      have ht2 := takes_bd hgp.1 hsg.2.1
      refine aqT (rows := [_, _, _, _, _]) rfl (by kernel_rfl) ⟨
       okp rfl rfl (oqM (lN rfl) rfl),
       okp rfl rfl (oqM (lN rfl) rfl),
       okp rfl rfl (op_buildSlice (L := 6) (ety := 3) (cs := [.i ((safe s ((((prt l ((q.1 : Int)))).Cell)) (((prt l ((q.1 : Int)))).Channel)).1)]) (lN rfl) (EvL.cons rfl EvL.nil) rfl (fun m w => by kernel_rfl)),
       okp rfl rfl (op_append (L' := 7) (C' := 8) (vs := [(.int .i64 ((safe s ((((prt l ((q.1 : Int)))).Cell)) (((prt l ((q.1 : Int)))).Channel)).1))]) (lN rfl) af_49 rfl rfl (flat_length (enc := encInt) (fun _ => rfl) q.2.1) rfl ⟨rfl, trivial⟩ rfl rfl (by decide) (by omega) (by omega) (by decide)),
       okp rfl rfl (oqA (lN rfl) rfl),
       trivial⟩ ?_
      refine fqK (s' := (kt 2 (.p 1 0) :: kt 5 (.p 2 0) :: kt 11 (.v (.func (.func 86) #[] #[])) :: kt 12 (.o 7 8 ((q.2.1 ++ [(safe s ((((prt l ((q.1 : Int)))).Cell)) (((prt l ((q.1 : Int)))).Channel)).1]).length)) :: kt 13 (.p 4 0) :: kt 15 (.p 5 0) :: kt 16 (.i ((safe s ((((prt l ((q.1 : Int)))).Cell)) (((prt l ((q.1 : Int)))).Channel)).1)) :: kt 18 (.i ((goes s ((firstI ((((prt l ((q.1 : Int)))).Cell)))) (((prt l ((q.1 : Int)))).Channel)).1)) :: kt 50 (.v (.slice l_p l.length l_c)) :: kt 51 (.i (((l.length : Nat) : Int))) :: kt 52 (.i ((q.1 : Int))) :: kb 1 25 11 :: kb 2 32 2 :: kb 4 32 2 :: kb 5 48 10 :: (.r 7, some (.vec true 8 3 1 ((q.2.1 ++ [(safe s ((((prt l ((q.1 : Int)))).Cell)) (((prt l ((q.1 : Int)))).Channel)).1]).flatMap encInt))) :: sK 1 s (.v (.slice s0Tp s.Thrust.length s0Tc)) (.v (.slice s0Wp s.Water.length s0Wc)) (.v (.slice s0Ip s.Ice.length s0Ic)) [kc 2 0 (.i 0), kc 2 1 (.i 0), kc 4 0 (.i q.2.2.1), kc 4 1 (.i q.2.2.2), kc 5 0 (.i (((((prt l ((q.1 : Int)))).Cell).Conc).Lo)), kc 5 1 (.i (((((prt l ((q.1 : Int)))).Cell).Conc).Hi)), kc 5 2 (.i (((((prt l ((q.1 : Int)))).Cell).Thick).Lo)), kc 5 3 (.i (((((prt l ((q.1 : Int)))).Cell).Thick).Hi)), kc 5 4 (.i (((((prt l ((q.1 : Int)))).Cell).Ridge).Lo)), kc 5 5 (.i (((((prt l ((q.1 : Int)))).Cell).Ridge).Hi)), kc 5 6 (.i (((((prt l ((q.1 : Int)))).Cell).Press).Lo)), kc 5 7 (.i (((((prt l ((q.1 : Int)))).Cell).Press).Hi)), kc 5 8 (.B (((prt l ((q.1 : Int)))).Channel)), kc 5 9 (.i (((prt l ((q.1 : Int)))).Length))])) ?_ ⟨rfl, rfl, rfl, (congrArg (fun q => some (Val.x (SV.o 7 8 q))) (len_snoc q.2.1 ((safe s ((((prt l ((q.1 : Int)))).Cell)) (((prt l ((q.1 : Int)))).Channel)).1))), rfl, rfl, rfl, rfl, rfl, rfl, rfl, rfl, rfl, rfl, rfl, (Eq.trans (b := some (Val.vec true 8 3 1 (q.2.1.flatMap encInt ++ [(.int .i64 ((safe s ((((prt l ((q.1 : Int)))).Cell)) (((prt l ((q.1 : Int)))).Channel)).1))]))) rfl (congrArg (fun q => some (Val.vec true 8 3 1 q)) (flat_snoc (enc := encInt) q.2.1 ((safe s ((((prt l ((q.1 : Int)))).Cell)) (((prt l ((q.1 : Int)))).Channel)).1)))), rfl, rfl, rfl, rfl, rfl, rfl, rfl, rfl, rfl, rfl, rfl, rfl, rfl, rfl, rfl, rfl, rfl, rfl, rfl, rfl, rfl, rfl, rfl, rfl, rfl, trivial⟩ rfl
      refine fqT ?_
      have hpl := hgp.1
      have hv1 := hsg.2.1
      have hv2 := hsg.2.2
      refine aw_any (rows := [_, _, _, _, _, _, _, _, _, _, _, _, _, _, _, _, _, _]) (M := [0, 1, 0, 0, 0, 28, 63, 0, 128, 0, 0, 0, 3644, 8124, 511, 24575, 65535, 131071]) Tryd_mixed (by kernel_rfl) rfl (by kernel_rfl) ⟨
       okp rfl rfl (oqF (lN rfl) rfl fo_32_0),
       okp rfl rfl (oq1 (lN rfl) sh_3 rfl rfl),
       okp rfl rfl (oqM (lN rfl) rfl),
       okp rfl rfl (oqL (ys := [.i (((((prt l ((q.1 : Int)))).Cell).Conc).Lo), .i (((((prt l ((q.1 : Int)))).Cell).Conc).Hi), .i (((((prt l ((q.1 : Int)))).Cell).Thick).Lo), .i (((((prt l ((q.1 : Int)))).Cell).Thick).Hi), .i (((((prt l ((q.1 : Int)))).Cell).Ridge).Lo), .i (((((prt l ((q.1 : Int)))).Cell).Ridge).Hi), .i (((((prt l ((q.1 : Int)))).Cell).Press).Lo), .i (((((prt l ((q.1 : Int)))).Cell).Press).Hi), .B (((prt l ((q.1 : Int)))).Channel), .i (((prt l ((q.1 : Int)))).Length)]) (lN rfl) sh_48 rfl rfl ⟨rfl, rfl, rfl, rfl, rfl, rfl, rfl, rfl, rfl, rfl, trivial⟩),
       okp rfl rfl (oqM (lN rfl) rfl),
       okp rfl rfl (oqC (x := .i (takes ((prt l ((q.1 : Int)))) ((goes s ((firstI ((((prt l ((q.1 : Int)))).Cell)))) (((prt l ((q.1 : Int)))).Channel)).1))) (fs := []) (caps := []) (extra := []) (lN rfl) en_86 rfl ⟨rfl, rfl, rfl⟩ (EvL.cons rfl (EvL.cons rfl EvL.nil)) (fun mm aa ww gg hr hrel => (c86 ((prt l ((q.1 : Int)))) ((goes s ((firstI ((((prt l ((q.1 : Int)))).Cell)))) (((prt l ((q.1 : Int)))).Channel)).1) ww (by first | assumption | omega) (by first | assumption | omega)))),
       okp rfl rfl (oqB (lN rfl) rfl rfl (nw_add ⟨(by omega), (by omega)⟩)),
       okp rfl rfl (oqF (lN rfl) rfl fo_32_1),
       okp rfl rfl (oq1 (lN rfl) sh_3 rfl rfl),
       okp rfl rfl (oqM (lN rfl) rfl),
       okp rfl rfl (oqL (ys := [.i (((((prt l ((q.1 : Int)))).Cell).Conc).Lo), .i (((((prt l ((q.1 : Int)))).Cell).Conc).Hi), .i (((((prt l ((q.1 : Int)))).Cell).Thick).Lo), .i (((((prt l ((q.1 : Int)))).Cell).Thick).Hi), .i (((((prt l ((q.1 : Int)))).Cell).Ridge).Lo), .i (((((prt l ((q.1 : Int)))).Cell).Ridge).Hi), .i (((((prt l ((q.1 : Int)))).Cell).Press).Lo), .i (((((prt l ((q.1 : Int)))).Cell).Press).Hi), .B (((prt l ((q.1 : Int)))).Channel), .i (((prt l ((q.1 : Int)))).Length)]) (lN rfl) sh_48 rfl rfl ⟨rfl, rfl, rfl, rfl, rfl, rfl, rfl, rfl, rfl, rfl, trivial⟩),
       okp rfl rfl (oqM (lN rfl) rfl),
       okp rfl rfl (oqC (x := .i (takes ((prt l ((q.1 : Int)))) ((safe s ((((prt l ((q.1 : Int)))).Cell)) (((prt l ((q.1 : Int)))).Channel)).1))) (fs := []) (caps := []) (extra := []) (lN rfl) en_86 rfl ⟨rfl, rfl, rfl⟩ (EvL.cons rfl (EvL.cons rfl EvL.nil)) (fun mm aa ww gg hr hrel => (c86 ((prt l ((q.1 : Int)))) ((safe s ((((prt l ((q.1 : Int)))).Cell)) (((prt l ((q.1 : Int)))).Channel)).1) ww (by first | assumption | omega) (by first | assumption | omega)))),
       okp rfl rfl (oqB (lN rfl) rfl rfl (nw_add ⟨(by omega), (by omega)⟩)),
       okp rfl rfl (oqF (lN rfl) rfl fo_32_0),
       okp rfl rfl (op_store1 sz_3 rfl rfl rfl rfl (lN rfl)),
       okp rfl rfl (oqF (lN rfl) rfl fo_32_1),
       okp rfl rfl (op_store1 sz_3 rfl rfl rfl rfl (lN rfl)),
       trivial⟩ ?_
      refine fqK (s' := (kt 2 (.p 1 0) :: kt 5 (.p 2 0) :: kt 11 (.v (.func (.func 86) #[] #[])) :: kt 12 (.o 7 8 ((q.2.1 ++ [(safe s ((((prt l ((q.1 : Int)))).Cell)) (((prt l ((q.1 : Int)))).Channel)).1]).length)) :: kt 13 (.p 4 0) :: kt 50 (.v (.slice l_p l.length l_c)) :: kt 51 (.i (((l.length : Nat) : Int))) :: kt 52 (.i ((q.1 : Int))) :: kb 1 25 11 :: kb 2 32 2 :: kb 4 32 2 :: (.r 7, some (.vec true 8 3 1 ((q.2.1 ++ [(safe s ((((prt l ((q.1 : Int)))).Cell)) (((prt l ((q.1 : Int)))).Channel)).1]).flatMap encInt))) :: sK 1 s (.v (.slice s0Tp s.Thrust.length s0Tc)) (.v (.slice s0Wp s.Water.length s0Wc)) (.v (.slice s0Ip s.Ice.length s0Ic)) [kc 2 0 (.i 0), kc 2 1 (.i 0), kc 4 0 (.i (q.2.2.1 + (takes ((prt l ((q.1 : Int)))) ((goes s ((firstI ((((prt l ((q.1 : Int)))).Cell)))) (((prt l ((q.1 : Int)))).Channel)).1)))), kc 4 1 (.i (q.2.2.2 + (takes ((prt l ((q.1 : Int)))) ((safe s ((((prt l ((q.1 : Int)))).Cell)) (((prt l ((q.1 : Int)))).Channel)).1))))])) ?_ (kp rfl) rfl
      refine fin_block ?_
      refine fqT ?_
      refine aqT (rows := [_, _]) rfl (by kernel_rfl) ⟨
       okp rfl rfl (oqB (lN rfl) rfl rfl (nw_add ⟨(by omega), (by omega)⟩)),
       okp rfl rfl (oqM (lN rfl) rfl),
       trivial⟩ ?_
      refine fqK (s' := (kt 2 (.p 1 0) :: kt 5 (.p 2 0) :: kt 11 (.v (.func (.func 86) #[] #[])) :: kt 12 (.o 7 8 ((q.2.1 ++ [(safe s ((((prt l ((q.1 : Int)))).Cell)) (((prt l ((q.1 : Int)))).Channel)).1]).length)) :: kt 13 (.p 4 0) :: kt 50 (.v (.slice l_p l.length l_c)) :: kt 51 (.i (((l.length : Nat) : Int))) :: kt 52 (.i (((q.1 : Int)) + 1)) :: kb 1 25 11 :: kb 2 32 2 :: kb 4 32 2 :: (.r 7, some (.vec true 8 3 1 ((q.2.1 ++ [(safe s ((((prt l ((q.1 : Int)))).Cell)) (((prt l ((q.1 : Int)))).Channel)).1]).flatMap encInt))) :: sK 1 s (.v (.slice s0Tp s.Thrust.length s0Tc)) (.v (.slice s0Wp s.Water.length s0Wc)) (.v (.slice s0Ip s.Ice.length s0Ic)) [kc 2 0 (.i 0), kc 2 1 (.i 0), kc 4 0 (.i (q.2.2.1 + (takes ((prt l ((q.1 : Int)))) ((goes s ((firstI ((((prt l ((q.1 : Int)))).Cell)))) (((prt l ((q.1 : Int)))).Channel)).1)))), kc 4 1 (.i (q.2.2.2 + (takes ((prt l ((q.1 : Int)))) ((safe s ((((prt l ((q.1 : Int)))).Cell)) (((prt l ((q.1 : Int)))).Channel)).1))))])) ?_ (kp rfl) rfl
      refine fin_swp [(7, 101), (8, 102)] rfl ?_
      exact fin_loop (q.1 + 1, (q.2.1 ++ [(safe s ((((prt l ((q.1 : Int)))).Cell)) (((prt l ((q.1 : Int)))).Channel)).1]), q.2.2.1 + (takes ((prt l ((q.1 : Int)))) ((goes s ((firstI ((((prt l ((q.1 : Int)))).Cell)))) (((prt l ((q.1 : Int)))).Channel)).1)), q.2.2.2 + (takes ((prt l ((q.1 : Int)))) ((safe s ((((prt l ((q.1 : Int)))).Cell)) (((prt l ((q.1 : Int)))).Channel)).1))) ⟨by simp only []; omega, by simp only []; omega, by simp only []; omega, by simp [hvl], by rw [hlg, drop_prt hlt, legFrom, if_neg (by rw [ne_f hz18]; decide)]; rfl⟩ (by simp only []; omega) ⟨rfl, rfl, rfl, rfl, rfl, rfl, rfl, rfl, rfl, rfl, rfl, rfl, rfl, rfl, rfl, rfl, rfl, rfl, rfl, rfl, rfl, rfl, rfl, rfl, rfl, rfl, rfl, trivial⟩ rfl
    ·have _z := hz16
     have q21 := of_decide_eq_false hz16
     refine aw_exit ?_
     refine fin_then_exit ?_
     refine fin_then_exit ?_
     refine fin_block_exit ?_
     refine fqT ?_
     refine aqS ?_
     refine aw_any (rows := [_, _, _, _, _]) (M := [0, 0, 1, 7, 15]) Tryd_mixed (by kernel_rfl) rfl (by kernel_rfl) ⟨
      okp rfl rfl (oqM (lN rfl) rfl),
      okp rfl rfl (oqL (ys := [.i q.2.2.1, .i q.2.2.2]) (lN rfl) sh_32 rfl rfl ⟨rfl, rfl, trivial⟩),
      okp rfl rfl (oqA (lN rfl) rfl),
      okp rfl rfl (op_storeN sz_32 rfl rfl rfl rfl rfl (by decide)),
      okp rfl rfl (oqA (lN rfl) rfl),
      trivial⟩ ?_
     refine fqK (s' := [kt 4 (.o 101 102 q.2.1.length), kt 5 (.p 2 0), kt 6 (.i 0), kb 2 32 2, (.r 101, some (.vec true 102 3 1 (q.2.1.flatMap encInt))), kc 2 0 (.i q.2.2.1), kc 2 1 (.i q.2.2.2)]) ?_ (kp rfl) rfl
     refine fqT ?_
     refine aw_ret ?_
     refine post_ret (x := .t [.o 101 102 q.2.1.length, .g [.i q.2.2.1, .i q.2.2.2], .i 0]) rfl rfl (rqT rfl (resOK_cellN (ys := [.i q.2.2.1, .i q.2.2.2]) rfl sh_32 rfl ⟨rfl, rfl, trivial⟩ (rqT rfl resOK_nil))) rfl (fun mm aa ww hr => ?_)
     have hlq : leg s l = (q.2.1, ⟨q.2.2.1, q.2.2.2⟩, 0) := by rw [hlg, List.drop_of_length_le (by omega)]; rfl
     rw [hlq]
     exact ⟨_, _, rfl, newAt_row hr mine_nil rfl (flat_length (enc := encInt) (fun _ => rfl) _), hr.below⟩

end Go.Proofs.T

namespace Go.Proofs.T
open Go Go.AX Go.RowKit Hull
theorem zl_34 : zeroL Tryd.prog 34 = some [(.int .i64 0), (.int .i64 0), (.int .i64 0), (.int .i64 0), (.int .i64 0), (.int .i64 0), (.int .i64 0), (.int .i64 0)] := by kernel_rfl
theorem sz_34 : sizeIn Tryd.prog 34 = some 8 := by kernel_rfl
theorem zl_25 : zeroL Tryd.prog 25 = some [(.int .i64 0), (.int .i64 0), (.int .i64 0), (.int .i64 0), (.slice none 0 0), (.slice none 0 0), (.slice none 0 0), (.int .i64 0), (.int .i64 0), (.int .i64 0), (.int .i64 0)] := by kernel_rfl
theorem sz_25 : sizeIn Tryd.prog 25 = some 11 := by kernel_rfl
theorem ss_49 : sliceSz Tryd.prog 49 = some 1 := by kernel_rfl

theorem c81 (lo : Int) (hi : Int) (w : World)  : Calls Tryd.prog 81 #[.int .i64 lo, .int .i64 hi] w fun e w' => e = .returned (.agg #[.int .i64 ((((level lo hi)).Conc).Lo), .int .i64 ((((level lo hi)).Conc).Hi), .int .i64 ((((level lo hi)).Thick).Lo), .int .i64 ((((level lo hi)).Thick).Hi), .int .i64 ((((level lo hi)).Ridge).Lo), .int .i64 ((((level lo hi)).Ridge).Hi), .int .i64 ((((level lo hi)).Press).Lo), .int .i64 ((((level lo hi)).Press).Hi)]) ∧ Below w.heap.size w w' := by
 refine enter (args := [.i lo, .i hi]) Tryd.func81 rfl (N := 10) rfl (Nat.le_of_ble_eq_true rfl) ?_
 refine aqS ?_
 refine aqT (rows := [_]) rfl (by kernel_rfl) ⟨
  okp rfl rfl (op_alloc (L := 1) (lN rfl) zl_34),
  trivial⟩ ?_
 refine fqK (s' := [kt 0 (.i lo), kt 1 (.i hi), kt 4 (.p 1 0), kb 1 34 8, kc 1 0 (.i 0), kc 1 1 (.i 0), kc 1 2 (.i 0), kc 1 3 (.i 0), kc 1 4 (.i 0), kc 1 5 (.i 0), kc 1 6 (.i 0), kc 1 7 (.i 0)]) ?_ (kp rfl) rfl
 refine fqT ?_
 refine aqS ?_
 refine aqT (rows := [_, _, _, _, _, _]) rfl (by kernel_rfl) ⟨
  okp rfl rfl (op_build (x := .g [.i 100, .i 100]) (lN rfl) (EvL.cons rfl (EvL.cons rfl EvL.nil)) (fun m w => by kernel_rfl)),
  okp rfl rfl (oqM (lN rfl) rfl),
  okp rfl rfl (oqM (lN rfl) rfl),
  okp rfl rfl (op_build (x := .g [.i lo, .i hi]) (lN rfl) (EvL.cons rfl (EvL.cons rfl EvL.nil)) (fun m w => by kernel_rfl)),
  okp rfl rfl (op_build (x := .g [.i 100, .i 100, .i lo, .i hi, .i 0, .i 0, .i 0, .i 0]) (lN rfl) (EvL.cons rfl (EvL.cons rfl EvL.nil)) (fun m w => by kernel_rfl)),
  okp rfl rfl (op_storeN sz_34 rfl rfl rfl rfl rfl (by decide)),
  trivial⟩ ?_
 refine fqK (s' := [kt 4 (.p 1 0), kb 1 34 8, kc 1 0 (.i 100), kc 1 1 (.i 100), kc 1 2 (.i lo), kc 1 3 (.i hi), kc 1 4 (.i 0), kc 1 5 (.i 0), kc 1 6 (.i 0), kc 1 7 (.i 0)]) ?_ (kp rfl) rfl
 refine fqT ?_
 refine aw_ret ?_
 refine post_ret (x := .g [.i 100, .i 100, .i lo, .i hi, .i 0, .i 0, .i 0, .i 0]) rfl rfl (resOK_cellN (ys := [.i 100, .i 100, .i lo, .i hi, .i 0, .i 0, .i 0, .i 0]) rfl sh_34 rfl ⟨rfl, rfl, rfl, rfl, rfl, rfl, rfl, rfl, trivial⟩ resOK_nil) rfl (fun mm aa ww hr => ?_)
 show Ending.returned (.agg #[.int .i64 100, .int .i64 100, .int .i64 lo, .int .i64 hi, .int .i64 0, .int .i64 0, .int .i64 0, .int .i64 0]) = _ ∧ _
 first
  | exact ⟨rfl, hr.below⟩

theorem c80  (w : World)  : Calls Tryd.prog 80 #[] w fun e w' => ∃ sl : List SlV, e = .returned ((fun vs => .agg #[.int .i64 exampleShip.Class, .int .i64 exampleShip.Power, .int .i64 exampleShip.Draught, .int .i64 exampleShip.Tonnes, (vs.getD 0 (.bool false)), (vs.getD 1 (.bool false)), (vs.getD 2 (.bool false)), .int .i64 exampleShip.Slow, .int .i64 exampleShip.Brash, .int .i64 exampleShip.Ridge, .int .i64 exampleShip.Press]) (sl.map SlV.val)) ∧ NewRows w w' sl [(exampleShip.Thrust.length, 84, 2, exampleShip.Thrust.flatMap encPt), (exampleShip.Water.length, 84, 2, exampleShip.Water.flatMap encPt), (exampleShip.Ice.length, 84, 2, exampleShip.Ice.flatMap encPt)] ∧ Below w.heap.size w w' := by
 refine enter (args := []) Tryd.func80 rfl (N := 12) rfl (Nat.le_of_ble_eq_true rfl) ?_
 refine aqS ?_
 refine aqT (rows := [_]) rfl (by kernel_rfl) ⟨
  okp rfl rfl (op_alloc (L := 1) (lN rfl) zl_25),
  trivial⟩ ?_
 refine fqK (s' := [kt 0 (.p 1 0), kb 1 25 11, kc 1 0 (.i 0), kc 1 1 (.i 0), kc 1 2 (.i 0), kc 1 3 (.i 0), kc 1 4 (.v (.slice none 0 0)), kc 1 5 (.v (.slice none 0 0)), kc 1 6 (.v (.slice none 0 0)), kc 1 7 (.i 0), kc 1 8 (.i 0), kc 1 9 (.i 0), kc 1 10 (.i 0)]) ?_ (kp rfl) rfl
 refine fqT ?_
 refine aqS ?_
 refine aqT (rows := [_, _, _, _, _, _, _, _, _, _, _, _]) rfl (by kernel_rfl) ⟨
  okp rfl rfl (op_build (x := .g [.i 0, .i 1000]) (lN rfl) (EvL.cons rfl (EvL.cons rfl EvL.nil)) (fun m w => by kernel_rfl)),
  okp rfl rfl (op_build (x := .g [.i 100, .i 800]) (lN rfl) (EvL.cons rfl (EvL.cons rfl EvL.nil)) (fun m w => by kernel_rfl)),
  okp rfl rfl (op_build (x := .g [.i 200, .i 0]) (lN rfl) (EvL.cons rfl (EvL.cons rfl EvL.nil)) (fun m w => by kernel_rfl)),
  okp rfl rfl (op_buildSlice (L := 2) (ety := 84) (cs := [.i 0, .i 1000, .i 100, .i 800, .i 200, .i 0]) (lN rfl) (EvL.cons rfl (EvL.cons rfl (EvL.cons rfl EvL.nil))) rfl (fun m w => by kernel_rfl)),
  okp rfl rfl (op_build (x := .g [.i 0, .i 0]) (lN rfl) (EvL.cons rfl (EvL.cons rfl EvL.nil)) (fun m w => by kernel_rfl)),
  okp rfl rfl (op_build (x := .g [.i 200, .i 400]) (lN rfl) (EvL.cons rfl (EvL.cons rfl EvL.nil)) (fun m w => by kernel_rfl)),
  okp rfl rfl (op_buildSlice (L := 3) (ety := 84) (cs := [.i 0, .i 0, .i 200, .i 400]) (lN rfl) (EvL.cons rfl (EvL.cons rfl EvL.nil)) rfl (fun m w => by kernel_rfl)),
  okp rfl rfl (op_build (x := .g [.i 0, .i 0]) (lN rfl) (EvL.cons rfl (EvL.cons rfl EvL.nil)) (fun m w => by kernel_rfl)),
  okp rfl rfl (op_build (x := .g [.i 400, .i 2000]) (lN rfl) (EvL.cons rfl (EvL.cons rfl EvL.nil)) (fun m w => by kernel_rfl)),
  okp rfl rfl (op_buildSlice (L := 4) (ety := 84) (cs := [.i 0, .i 0, .i 400, .i 2000]) (lN rfl) (EvL.cons rfl (EvL.cons rfl EvL.nil)) rfl (fun m w => by kernel_rfl)),
  okp rfl rfl (op_build (x := .g [.i 3, .i 6000, .i 800, .i 9000, .s 2 0 3 3, .s 3 0 2 2, .s 4 0 2 2, .i 0, .i 20, .i 10, .i 100]) (lN rfl) (EvL.cons rfl (EvL.cons rfl (EvL.cons rfl (EvL.cons rfl (EvL.cons rfl (EvL.cons rfl (EvL.cons rfl (EvL.cons rfl (EvL.cons rfl (EvL.cons rfl EvL.nil)))))))))) (fun m w => by kernel_rfl)),
  okp rfl rfl (op_storeN sz_25 rfl rfl rfl rfl rfl (by decide)),
  trivial⟩ ?_
 refine fqK (s' := [kt 0 (.p 1 0), kb 1 25 11, kb 2 84 6, kb 3 84 4, kb 4 84 4, kc 1 0 (.i 3), kc 1 1 (.i 6000), kc 1 2 (.i 800), kc 1 3 (.i 9000), kc 1 4 (.s 2 0 3 3), kc 1 5 (.s 3 0 2 2), kc 1 6 (.s 4 0 2 2), kc 1 7 (.i 0), kc 1 8 (.i 20), kc 1 9 (.i 10), kc 1 10 (.i 100), kc 2 0 (.i 0), kc 2 1 (.i 1000), kc 2 2 (.i 100), kc 2 3 (.i 800), kc 2 4 (.i 200), kc 2 5 (.i 0), kc 3 0 (.i 0), kc 3 1 (.i 0), kc 3 2 (.i 200), kc 3 3 (.i 400), kc 4 0 (.i 0), kc 4 1 (.i 0), kc 4 2 (.i 400), kc 4 3 (.i 2000)]) ?_ (kp rfl) rfl
 refine fqT ?_
 refine aw_ret ?_
 refine post_ret (x := .g [.i 3, .i 6000, .i 800, .i 9000, .s 2 0 3 3, .s 3 0 2 2, .s 4 0 2 2, .i 0, .i 20, .i 10, .i 100]) rfl rfl (resOK_cellN (ys := [.i 3, .i 6000, .i 800, .i 9000, .s 2 0 3 3, .s 3 0 2 2, .s 4 0 2 2, .i 0, .i 20, .i 10, .i 100]) rfl sh_25 rfl ⟨rfl, rfl, rfl, rfl, rfl, rfl, rfl, rfl, rfl, rfl, rfl, trivial⟩ resOK_nil) rfl (fun mm aa ww hr => ?_)
 exact ⟨[⟨some ⟨mm 2, 0, none⟩, 3, 3⟩, ⟨some ⟨mm 3, 0, none⟩, 2, 2⟩, ⟨some ⟨mm 4, 0, none⟩, 2, 2⟩], rfl, ⟨rfl, newAt_box (cs := exampleShip.Thrust.flatMap encPt) hr mine_nil rfl rfl (by decide) ⟨rfl, rfl, rfl, rfl, rfl, rfl, trivial⟩, rfl, newAt_box (cs := exampleShip.Water.flatMap encPt) hr mine_nil rfl rfl (by decide) ⟨rfl, rfl, rfl, rfl, trivial⟩, rfl, newAt_box (cs := exampleShip.Ice.flatMap encPt) hr mine_nil rfl rfl (by decide) ⟨rfl, rfl, rfl, rfl, trivial⟩, trivial⟩, hr.below⟩

theorem c82 (a : List Int) (a_s : SlV) (b : List Int) (b_s : SlV) (w : World) (ha : SlIs encInt 1 w a_s a) (hb : SlIs encInt 1 w b_s b) (hn : a.length ≤ 1000000) : Calls Tryd.prog 82 #[.slice a_s.p a_s.n a_s.c, .slice b_s.p b_s.n b_s.c] w fun e w' => e = .returned (.bool (decide (a = b))) ∧ Below w.heap.size w w' := by
 obtain ⟨a_p, a_n, a_c⟩ := a_s
 have ha_l : a_n = a.length := ha.1
 subst ha_l
 obtain ⟨a_b, a_o, ha_p, ha_L⟩ := SlAt.lies' ha
 obtain ⟨b_p, b_n, b_c⟩ := b_s
 have hb_l : b_n = b.length := hb.1
 subst hb_l
 obtain ⟨b_b, b_o, hb_p, hb_L⟩ := SlAt.lies' hb
 refine enter (args := [.v (.slice a_p a.length a_c), .v (.slice b_p b.length b_c)]) Tryd.func82 rfl (N := 26) rfl (Nat.le_of_ble_eq_true rfl) ?_
 refine aqS ?_
 refine aqT (rows := [_]) rfl (by kernel_rfl) ⟨
  okp rfl rfl (oqA (lN rfl) rfl),
  trivial⟩ ?_
 refine fqK (s' := [kt 0 (.v (.slice a_p a.length a_c)), kt 1 (.v (.slice b_p b.length b_c))]) ?_ (kp rfl) rfl
 refine fqT ?_
 refine aqS ?_
 refine aqS ?_
 refine aqT (rows := [_, _, _, _, _]) rfl (by kernel_rfl) ⟨
  okp rfl rfl (oqM (lN rfl) rfl),
  okp rfl rfl (op_len (n := a.length) (lN rfl) (by rw [ss_49]; rfl) rfl rfl),
  okp rfl rfl (oqM (lN rfl) rfl),
  okp rfl rfl (op_len (n := b.length) (lN rfl) (by rw [ss_49]; rfl) rfl rfl),
  okp rfl rfl (oqB (lN rfl) rfl rfl rfl),
  trivial⟩ ?_
 refine fqK (s' := [kt 0 (.v (.slice a_p a.length a_c)), kt 1 (.v (.slice b_p b.length b_c)), kt 10 (.B ((((a.length : Nat) : Int)) != (((b.length : Nat) : Int))))]) ?_ (kp rfl) rfl
 refine fqT ?_
 refine aw_cond rfl (fun hz1 => ?_) (fun hz1 => ?_)
 ·have _z := hz1
  have q2 := ne_t hz1
  refine aqS ?_
  refine aqT (rows := [_]) rfl (by kernel_rfl) ⟨
   okp rfl rfl (oqA (lN rfl) rfl),
   trivial⟩ ?_
  refine fqK (s' := [kt 4 (.B false)]) ?_ (kp rfl) rfl
  refine fqT ?_
  refine aw_ret ?_
  refine fin_then_ret ?_
  refine post_ret (x := .B false) rfl rfl (rqT rfl resOK_nil) rfl (fun mm aa ww hr => ?_)
  show Ending.returned (.bool false) = _ ∧ _
  exact ⟨by rw [eqInts_no1 (by omega)], hr.below⟩
 ·have _z := hz1
  have q3 := ne_f hz1
  refine aw_skip ?_
  refine fqT ?_
  refine aqS ?_
  refine aqS ?_
  refine aqT (rows := [_, _, _]) rfl (by kernel_rfl) ⟨
   okp rfl rfl (oqM (lN rfl) rfl),
   okp rfl rfl (op_len (n := a.length) (lN rfl) (by rw [ss_49]; rfl) rfl rfl),
   okp rfl rfl (oqM (lN rfl) rfl),
   trivial⟩ ?_
  refine fqK (s' := [kt 0 (.v (.slice a_p a.length a_c)), kt 1 (.v (.slice b_p b.length b_c)), kt 12 (.i (((a.length : Nat) : Int))), kt 13 (.i 0)]) ?_ (kp rfl) rfl
  refine fqT ?_
  refine aw_block ?_
  refine AW.keep (s' := (fun (k : Nat) => [kt 0 (.v (.slice a_p a.length a_c)), kt 1 (.v (.slice b_p b.length b_c)), kt 12 (.i (((a.length : Nat) : Int))), kt 13 (.i ((k : Int)))]) ((0 : Nat))) ?_ (kp rfl) rfl
  refine aw_loop (ι := Nat) (fun k => k ≤ a.length ∧ ∀ j < k, a.getD ((j : Int)).toNat 0 = b.getD ((j : Int)).toNat 0) (fun k => [kt 0 (.v (.slice a_p a.length a_c)), kt 1 (.v (.slice b_p b.length b_c)), kt 12 (.i (((a.length : Nat) : Int))), kt 13 (.i ((k : Int)))]) (fun k => a.length - k) ⟨Nat.zero_le _, fun j hj => absurd hj (Nat.not_lt_zero j)⟩ (fun k hI => ?_)
  obtain ⟨hk, hall⟩ := hI
  refine aqS ?_
  refine aqT (rows := [_]) rfl (by kernel_rfl) ⟨
   okp rfl rfl (oqB (lN rfl) rfl rfl rfl),
   trivial⟩ ?_
  refine fqK (s' := [kt 0 (.v (.slice a_p a.length a_c)), kt 1 (.v (.slice b_p b.length b_c)), kt 12 (.i (((a.length : Nat) : Int))), kt 13 (.i ((k : Int))), kt 14 (.B (decide (((k : Int)) < (((a.length : Nat) : Int)))))]) ?_ (kp rfl) rfl
  refine fqT ?_
  refine aqS ?_
  refine aw_cond rfl (fun hz4 => ?_) (fun hz4 => ?_)
  ·have _z := hz4
   have q5 := of_decide_eq_true hz4
   refine aw_skip ?_
   refine fqT ?_
   refine aqS ?_
   refine aw_block ?_
   refine aqS ?_
   refine aqT (rows := [_, _]) rfl (by kernel_rfl) ⟨
    okp rfl rfl (oqM (lN rfl) rfl),
    okp rfl rfl (oqA (lN rfl) rfl),
    trivial⟩ ?_
   refine fqK (s' := [kt 0 (.v (.slice a_p a.length a_c)), kt 1 (.v (.slice b_p b.length b_c)), kt 5 (.i ((k : Int))), kt 12 (.i (((a.length : Nat) : Int))), kt 13 (.i ((k : Int)))]) ?_ (kp rfl) rfl
   refine fqT ?_
   refine aqS ?_
   refine aw_any (rows := [_, _, _, _, _, _, _, _, _]) (M := [0, 0, 3, 7, 0, 0, 48, 112, 255]) Tryd_mixed (by kernel_rfl) rfl (by kernel_rfl) ⟨
    okp rfl rfl (oqM (lN rfl) rfl),
    okp rfl rfl (oqM (lN rfl) rfl),
    okp rfl rfl (op_ixB (lN rfl) rfl rfl ss_49 (ha_p (ne_of_ix (i := (k : Int)) (by omega) (by omega))) (by omega) (by omega)),
    okp rfl rfl (op_loadB (y := .i ((a.getD ((k : Int)).toNat 0))) (lN rfl) rfl (ld1 (ha_L (ne_of_ix (i := (k : Int)) (by omega) (by omega))) 0 (i := (k : Int)) (by omega) (by omega) 0 rfl rfl sh_3)),
    okp rfl rfl (oqM (lN rfl) rfl),
    okp rfl rfl (oqM (lN rfl) rfl),
    okp rfl rfl (op_ixB (lN rfl) rfl rfl ss_49 (hb_p (ne_of_ix (i := (k : Int)) (by omega) (by omega))) (by omega) (by omega)),
    okp rfl rfl (op_loadB (y := .i ((b.getD ((k : Int)).toNat 0))) (lN rfl) rfl (ld1 (hb_L (ne_of_ix (i := (k : Int)) (by omega) (by omega))) 0 (i := (k : Int)) (by omega) (by omega) 0 rfl rfl sh_3)),
    okp rfl rfl (oqB (lN rfl) rfl rfl rfl),
    trivial⟩ ?_
   refine fqK (s' := [kt 0 (.v (.slice a_p a.length a_c)), kt 1 (.v (.slice b_p b.length b_c)), kt 12 (.i (((a.length : Nat) : Int))), kt 13 (.i ((k : Int))), kt 24 (.B (((a.getD ((k : Int)).toNat 0)) != ((b.getD ((k : Int)).toNat 0))))]) ?_ (kp rfl) rfl
   refine fqT ?_
   refine aw_cond rfl (fun hz6 => ?_) (fun hz6 => ?_)
   ·have _z := hz6
    have q7 := ne_t hz6
    refine aqS ?_
    refine aqT (rows := [_]) rfl (by kernel_rfl) ⟨
     okp rfl rfl (oqA (lN rfl) rfl),
     trivial⟩ ?_
    refine fqK (s' := [kt 4 (.B false)]) ?_ (kp rfl) rfl
    refine fqT ?_
    refine aw_ret ?_
    refine fin_block_ret ?_
    refine fin_then_ret ?_
    refine fin_then_ret ?_
    refine fin_block_ret ?_
    refine fin_then_ret ?_
    refine post_ret (x := .B false) rfl rfl (rqT rfl resOK_nil) rfl (fun mm aa ww hr => ?_)
    show Ending.returned (.bool false) = _ ∧ _
    exact ⟨by rw [eqInts_no2 (ne_t hz6)], hr.below⟩
   ·have _z := hz6
    have q8 := ne_f hz6
    refine aw_skip ?_
    refine fin_block ?_
    refine fqT ?_
    refine aqT (rows := [_, _]) rfl (by kernel_rfl) ⟨
     okp rfl rfl (oqB (lN rfl) rfl rfl (nw_add ⟨(by omega), (by omega)⟩)),
     okp rfl rfl (oqM (lN rfl) rfl),
     trivial⟩ ?_
    refine fqK (s' := [kt 0 (.v (.slice a_p a.length a_c)), kt 1 (.v (.slice b_p b.length b_c)), kt 12 (.i (((a.length : Nat) : Int))), kt 13 (.i (((k : Int)) + 1))]) ?_ (kp rfl) rfl
    exact fin_loop (k + 1) ⟨by omega, fun j hj => by rcases Nat.lt_succ_iff_lt_or_eq.1 hj with h | rfl; exact hall j h; exact ne_f hz6⟩ (by omega) ⟨rfl, rfl, rfl, rfl, trivial⟩ rfl
  ·have _z := hz4
   have q9 := of_decide_eq_false hz4
   refine aw_exit ?_
   refine fin_then_exit ?_
   refine fin_then_exit ?_
   refine fin_block_exit ?_
   refine fqT ?_
   refine aqS ?_
   refine aqT (rows := [_]) rfl (by kernel_rfl) ⟨
    okp rfl rfl (oqA (lN rfl) rfl),
    trivial⟩ ?_
   refine fqK (s' := [kt 4 (.B true)]) ?_ (kp rfl) rfl
   refine fqT ?_
   refine aw_ret ?_
   refine post_ret (x := .B true) rfl rfl (rqT rfl resOK_nil) rfl (fun mm aa ww hr => ?_)
   show Ending.returned (.bool true) = _ ∧ _
   exact ⟨by rw [eqInts_yes (k := k) (by omega) (by omega) hall], hr.below⟩

end Go.Proofs.T

namespace Go.Proofs.T
open Go Go.AX Go.RowKit Hull
theorem en_80 : Proofs.Enters Tryd.prog 80 := Proofs.enters_of Tryd.func80 (by kernel_rfl) rfl
theorem en_43 : Proofs.Enters Tryd.prog 43 := Proofs.enters_of Tryd.func43 (by kernel_rfl) rfl
theorem en_18 : Proofs.Enters Tryd.prog 18 := Proofs.enters_of Tryd.func18 (by kernel_rfl) rfl
theorem en_20 : Proofs.Enters Tryd.prog 20 := Proofs.enters_of Tryd.func20 (by kernel_rfl) rfl
theorem en_81 : Proofs.Enters Tryd.prog 81 := Proofs.enters_of Tryd.func81 (by kernel_rfl) rfl
theorem en_23 : Proofs.Enters Tryd.prog 23 := Proofs.enters_of Tryd.func23 (by kernel_rfl) rfl
theorem en_35 : Proofs.Enters Tryd.prog 35 := Proofs.enters_of Tryd.func35 (by kernel_rfl) rfl
theorem en_82 : Proofs.Enters Tryd.prog 82 := Proofs.enters_of Tryd.func82 (by kernel_rfl) rfl

set_option maxHeartbeats 2000000 in
theorem c21  (w : World) (hG : BoxAt w 0 (strengths.map (fun n => Value.int .i64 n))) : Calls Tryd.prog 21 #[] w fun e w' => e = .returned (.bool true) ∧ Below w.heap.size w w' := by
 refine enter (args := []) Tryd.func21 rfl (N := 113) rfl (Nat.le_of_ble_eq_true rfl) ?_
 refine aqS ?_
 refine aqT (rows := [_]) rfl (by kernel_rfl) ⟨
  okp rfl rfl (oqA (lN rfl) rfl),
  trivial⟩ ?_
 refine fqK (s' := []) ?_ trivial rfl
 refine fqT ?_
 refine aqS ?_
 refine aqT (rows := [_, _, _]) rfl (by kernel_rfl) ⟨
  okp rfl rfl (op_callRows (x := .g [.i exampleShip.Class, .i exampleShip.Power, .i exampleShip.Draught, .i exampleShip.Tonnes, .o 1 2 exampleShip.Thrust.length, .o 3 4 exampleShip.Water.length, .o 5 6 exampleShip.Ice.length, .i exampleShip.Slow, .i exampleShip.Brash, .i exampleShip.Ridge, .i exampleShip.Press]) (R := (fun vs => .agg #[.int .i64 exampleShip.Class, .int .i64 exampleShip.Power, .int .i64 exampleShip.Draught, .int .i64 exampleShip.Tonnes, (vs.getD 0 (.bool false)), (vs.getD 1 (.bool false)), (vs.getD 2 (.bool false)), .int .i64 exampleShip.Slow, .int .i64 exampleShip.Brash, .int .i64 exampleShip.Ridge, .int .i64 exampleShip.Press])) (ls := [(1, 2), (3, 4), (5, 6)]) (ds := [(exampleShip.Thrust.length, 84, 2, exampleShip.Thrust.flatMap encPt), (exampleShip.Water.length, 84, 2, exampleShip.Water.flatMap encPt), (exampleShip.Ice.length, 84, 2, exampleShip.Ice.flatMap encPt)]) (fs := []) (caps := []) (extra := []) (lN rfl) en_80 rfl ⟨rfl, rfl, rfl⟩ EvL.nil rfl rfl (fun _ => rfl) (fun mm aa ww gg hr hrel => (c80 ww))),
  okp rfl rfl (op_alloc (L := 7) (lN rfl) zl_25),
  okp rfl rfl (op_storeN sz_25 rfl rfl rfl rfl rfl (by decide)),
  trivial⟩ ?_
 refine fqK (s' := (kt 1 (.p 7 0) :: kb 7 25 11 :: (.r 1, some (.vec false 2 84 2 (exampleShip.Thrust.flatMap encPt))) :: (.r 3, some (.vec false 4 84 2 (exampleShip.Water.flatMap encPt))) :: (.r 5, some (.vec false 6 84 2 (exampleShip.Ice.flatMap encPt))) :: sK 7 exampleShip (.o 1 2 exampleShip.Thrust.length) (.o 3 4 exampleShip.Water.length) (.o 5 6 exampleShip.Ice.length) [])) ?_ (kp rfl) rfl
 refine fqT ?_
 refine aqS ?_
 refine aqT (rows := [_, _, _, _, _, _, _, _, _, _]) rfl (by kernel_rfl) ⟨
  okp rfl rfl (op_build (x := .g [.i 0, .i 0]) (lN rfl) (EvL.cons rfl (EvL.cons rfl EvL.nil)) (fun m w => by kernel_rfl)),
  okp rfl rfl (op_build (x := .g [.i 3, .i 10]) (lN rfl) (EvL.cons rfl (EvL.cons rfl EvL.nil)) (fun m w => by kernel_rfl)),
  okp rfl rfl (op_buildSlice (L := 8) (ety := 84) (cs := [.i 0, .i 0, .i 3, .i 10]) (lN rfl) (EvL.cons rfl (EvL.cons rfl EvL.nil)) rfl (fun m w => by kernel_rfl)),
  okp rfl rfl (oqC (x := .t [.g [.i ((at_ ([⟨0, 0⟩, ⟨3, 10⟩]) 1).1.1), .i ((at_ ([⟨0, 0⟩, ⟨3, 10⟩]) 1).1.2)], .i ((at_ ([⟨0, 0⟩, ⟨3, 10⟩]) 1).2)]) (fs := []) (caps := []) (extra := (kapp ((.b 8 :: cellKeys 8 0 (([⟨0, 0⟩, ⟨3, 10⟩] : List Pt).length * 2))) [])) (lN rfl) en_43 rfl ⟨rfl, rfl, rfl⟩ (EvL.cons rfl (EvL.cons rfl EvL.nil)) (fun mm aa ww gg hr hrel => (c43 ([⟨0, 0⟩, ⟨3, 10⟩]) ⟨some ⟨mm 8, 0, none⟩, 2, 2⟩ 1 ww (slAt_own (enc := encPt) (l := [⟨0, 0⟩, ⟨3, 10⟩]) (fun _ => rfl) hrel (fun k hk => hr k (List.mem_append_left _ hk)) rfl ⟨rfl, rfl, rfl, rfl, trivial⟩ (Nat.le_of_ble_eq_true rfl))))),
  okp rfl rfl (oqM (lN rfl) rfl),
  okp rfl rfl (op_extract (lN rfl) rfl rfl),
  okp rfl rfl (op_extract (lN rfl) rfl rfl),
  okp rfl rfl (op_alloc (L := 9) (lN rfl) zl_86),
  okp rfl rfl (op_storeN sz_86 rfl rfl rfl rfl rfl (by decide)),
  okp rfl rfl (oqA (lN rfl) rfl),
  trivial⟩ ?_
 refine fqK (s' := (kt 1 (.p 7 0) :: kt 2 (.p 9 0) :: kt 3 (.i ((at_ ([⟨0, 0⟩, ⟨3, 10⟩]) 1).2)) :: kb 7 25 11 :: kb 9 86 2 :: (.r 1, some (.vec false 2 84 2 (exampleShip.Thrust.flatMap encPt))) :: (.r 3, some (.vec false 4 84 2 (exampleShip.Water.flatMap encPt))) :: (.r 5, some (.vec false 6 84 2 (exampleShip.Ice.flatMap encPt))) :: sK 7 exampleShip (.o 1 2 exampleShip.Thrust.length) (.o 3 4 exampleShip.Water.length) (.o 5 6 exampleShip.Ice.length) [kc 9 0 (.i ((at_ ([⟨0, 0⟩, ⟨3, 10⟩]) 1).1.1)), kc 9 1 (.i ((at_ ([⟨0, 0⟩, ⟨3, 10⟩]) 1).1.2))])) ?_ (kp rfl) rfl
 refine fqT ?_
 refine aqS ?_
 refine aqT (rows := [_, _, _, _, _, _, _, _]) rfl (by kernel_rfl) ⟨
  okp rfl rfl (oqL (ys := [.i exampleShip.Class, .i exampleShip.Power, .i exampleShip.Draught, .i exampleShip.Tonnes, .o 1 2 exampleShip.Thrust.length, .o 3 4 exampleShip.Water.length, .o 5 6 exampleShip.Ice.length, .i exampleShip.Slow, .i exampleShip.Brash, .i exampleShip.Ridge, .i exampleShip.Press]) (lN rfl) sh_25 rfl rfl ⟨rfl, rfl, rfl, rfl, rfl, rfl, rfl, rfl, rfl, rfl, rfl, trivial⟩),
  okp rfl rfl (op_build (x := .g [.i 100, .i 50, .i 0, .i 0]) (lN rfl) (EvL.cons rfl (EvL.cons rfl EvL.nil)) (fun m w => by kernel_rfl)),
  okp rfl rfl (oqC (x := .t [.i ((speedE exampleShip (⟨100, 50, 0, 0⟩) false).1), .i ((speedE exampleShip (⟨100, 50, 0, 0⟩) false).2)]) (fs := []) (caps := []) (extra := (kapp [.r 1] (kapp [.r 3] (kapp [.r 5] [])))) (lN rfl) en_18 rfl ⟨rfl, rfl, rfl⟩ (EvL.cons rfl (EvL.cons rfl (EvL.cons rfl EvL.nil))) (fun mm aa ww gg hr hrel => (c18 exampleShip ⟨ptr0 (mm 1) (mm 2), exampleShip.Thrust.length, mm 2⟩ ⟨ptr0 (mm 3) (mm 4), exampleShip.Water.length, mm 4⟩ ⟨ptr0 (mm 5) (mm 6), exampleShip.Ice.length, mm 6⟩ (⟨100, 50, 0, 0⟩) false ww (slAt_row (enc := encPt) (l := exampleShip.Thrust) (fun _ => rfl) (by decide) hrel ((hr _ (List.mem_append_left _ (by simp))).trans rfl)) (slAt_row (enc := encPt) (l := exampleShip.Water) (fun _ => rfl) (by decide) hrel ((hr _ (List.mem_append_right _ (List.mem_append_left _ (by simp)))).trans rfl)) (slAt_row (enc := encPt) (l := exampleShip.Ice) (fun _ => rfl) (by decide) hrel ((hr _ (List.mem_append_right _ (List.mem_append_right _ (List.mem_append_left _ (by simp))))).trans rfl))))),
  okp rfl rfl (oqM (lN rfl) rfl),
  okp rfl rfl (op_extract (lN rfl) rfl rfl),
  okp rfl rfl (op_extract (lN rfl) rfl rfl),
  okp rfl rfl (oqA (lN rfl) rfl),
  okp rfl rfl (oqA (lN rfl) rfl),
  trivial⟩ ?_
 refine fqK (s' := (kt 1 (.p 7 0) :: kt 2 (.p 9 0) :: kt 3 (.i ((at_ ([⟨0, 0⟩, ⟨3, 10⟩]) 1).2)) :: kt 4 (.i ((speedE exampleShip (⟨100, 50, 0, 0⟩) false).1)) :: kt 5 (.i ((speedE exampleShip (⟨100, 50, 0, 0⟩) false).2)) :: kb 7 25 11 :: kb 9 86 2 :: (.r 1, some (.vec false 2 84 2 (exampleShip.Thrust.flatMap encPt))) :: (.r 3, some (.vec false 4 84 2 (exampleShip.Water.flatMap encPt))) :: (.r 5, some (.vec false 6 84 2 (exampleShip.Ice.flatMap encPt))) :: sK 7 exampleShip (.o 1 2 exampleShip.Thrust.length) (.o 3 4 exampleShip.Water.length) (.o 5 6 exampleShip.Ice.length) [kc 9 0 (.i ((at_ ([⟨0, 0⟩, ⟨3, 10⟩]) 1).1.1)), kc 9 1 (.i ((at_ ([⟨0, 0⟩, ⟨3, 10⟩]) 1).1.2))])) ?_ (kp rfl) rfl
 refine fqT ?_
 refine aqS ?_
 refine aqT (rows := [_, _, _, _, _, _, _, _]) rfl (by kernel_rfl) ⟨
  okp rfl rfl (oqL (ys := [.i exampleShip.Class, .i exampleShip.Power, .i exampleShip.Draught, .i exampleShip.Tonnes, .o 1 2 exampleShip.Thrust.length, .o 3 4 exampleShip.Water.length, .o 5 6 exampleShip.Ice.length, .i exampleShip.Slow, .i exampleShip.Brash, .i exampleShip.Ridge, .i exampleShip.Press]) (lN rfl) sh_25 rfl rfl ⟨rfl, rfl, rfl, rfl, rfl, rfl, rfl, rfl, rfl, rfl, rfl, trivial⟩),
  okp rfl rfl (op_build (x := .g [.i 100, .i 50, .i 0, .i 0]) (lN rfl) (EvL.cons rfl (EvL.cons rfl EvL.nil)) (fun m w => by kernel_rfl)),
  okp rfl rfl (oqC (x := .t [.i ((speedE exampleShip (⟨100, 50, 0, 0⟩) true).1), .i ((speedE exampleShip (⟨100, 50, 0, 0⟩) true).2)]) (fs := []) (caps := []) (extra := (kapp [.r 1] (kapp [.r 3] (kapp [.r 5] [])))) (lN rfl) en_18 rfl ⟨rfl, rfl, rfl⟩ (EvL.cons rfl (EvL.cons rfl (EvL.cons rfl EvL.nil))) (fun mm aa ww gg hr hrel => (c18 exampleShip ⟨ptr0 (mm 1) (mm 2), exampleShip.Thrust.length, mm 2⟩ ⟨ptr0 (mm 3) (mm 4), exampleShip.Water.length, mm 4⟩ ⟨ptr0 (mm 5) (mm 6), exampleShip.Ice.length, mm 6⟩ (⟨100, 50, 0, 0⟩) true ww (slAt_row (enc := encPt) (l := exampleShip.Thrust) (fun _ => rfl) (by decide) hrel ((hr _ (List.mem_append_left _ (by simp))).trans rfl)) (slAt_row (enc := encPt) (l := exampleShip.Water) (fun _ => rfl) (by decide) hrel ((hr _ (List.mem_append_right _ (List.mem_append_left _ (by simp)))).trans rfl)) (slAt_row (enc := encPt) (l := exampleShip.Ice) (fun _ => rfl) (by decide) hrel ((hr _ (List.mem_append_right _ (List.mem_append_right _ (List.mem_append_left _ (by simp))))).trans rfl))))),
  okp rfl rfl (oqM (lN rfl) rfl),
  okp rfl rfl (op_extract (lN rfl) rfl rfl),
  okp rfl rfl (op_extract (lN rfl) rfl rfl),
  okp rfl rfl (oqA (lN rfl) rfl),
  okp rfl rfl (oqA (lN rfl) rfl),
  trivial⟩ ?_
 refine fqK (s' := (kt 1 (.p 7 0) :: kt 2 (.p 9 0) :: kt 3 (.i ((at_ ([⟨0, 0⟩, ⟨3, 10⟩]) 1).2)) :: kt 4 (.i ((speedE exampleShip (⟨100, 50, 0, 0⟩) false).1)) :: kt 5 (.i ((speedE exampleShip (⟨100, 50, 0, 0⟩) false).2)) :: kt 6 (.i ((speedE exampleShip (⟨100, 50, 0, 0⟩) true).1)) :: kt 7 (.i ((speedE exampleShip (⟨100, 50, 0, 0⟩) true).2)) :: kb 7 25 11 :: kb 9 86 2 :: (.r 1, some (.vec false 2 84 2 (exampleShip.Thrust.flatMap encPt))) :: (.r 3, some (.vec false 4 84 2 (exampleShip.Water.flatMap encPt))) :: (.r 5, some (.vec false 6 84 2 (exampleShip.Ice.flatMap encPt))) :: sK 7 exampleShip (.o 1 2 exampleShip.Thrust.length) (.o 3 4 exampleShip.Water.length) (.o 5 6 exampleShip.Ice.length) [kc 9 0 (.i ((at_ ([⟨0, 0⟩, ⟨3, 10⟩]) 1).1.1)), kc 9 1 (.i ((at_ ([⟨0, 0⟩, ⟨3, 10⟩]) 1).1.2))])) ?_ (kp rfl) rfl
 refine fqT ?_
 refine aqS ?_
 refine aqT (rows := [_, _, _, _, _, _, _]) rfl (by kernel_rfl) ⟨
  okp rfl rfl (op_build (x := .g [.i 100, .i 60, .i 1, .i 0]) (lN rfl) (EvL.cons rfl (EvL.cons rfl (EvL.cons rfl EvL.nil))) (fun m w => by kernel_rfl)),
  okp rfl rfl (oqC (x := .t [.i ((loadE (⟨100, 60, 1, 0⟩) 135 false).1), .i ((loadE (⟨100, 60, 1, 0⟩) 135 false).2)]) (fs := []) (caps := []) (extra := []) (lN rfl) en_20 rfl ⟨rfl, rfl, rfl⟩ (EvL.cons rfl (EvL.cons rfl (EvL.cons rfl EvL.nil))) (fun mm aa ww gg hr hrel => (c20 (⟨100, 60, 1, 0⟩) 135 false ww))),
  okp rfl rfl (oqM (lN rfl) rfl),
  okp rfl rfl (op_extract (lN rfl) rfl rfl),
  okp rfl rfl (op_extract (lN rfl) rfl rfl),
  okp rfl rfl (oqA (lN rfl) rfl),
  okp rfl rfl (oqA (lN rfl) rfl),
  trivial⟩ ?_
 refine fqK (s' := (kt 1 (.p 7 0) :: kt 2 (.p 9 0) :: kt 3 (.i ((at_ ([⟨0, 0⟩, ⟨3, 10⟩]) 1).2)) :: kt 4 (.i ((speedE exampleShip (⟨100, 50, 0, 0⟩) false).1)) :: kt 5 (.i ((speedE exampleShip (⟨100, 50, 0, 0⟩) false).2)) :: kt 6 (.i ((speedE exampleShip (⟨100, 50, 0, 0⟩) true).1)) :: kt 7 (.i ((speedE exampleShip (⟨100, 50, 0, 0⟩) true).2)) :: kt 8 (.i ((loadE (⟨100, 60, 1, 0⟩) 135 false).1)) :: kt 9 (.i ((loadE (⟨100, 60, 1, 0⟩) 135 false).2)) :: kb 7 25 11 :: kb 9 86 2 :: (.r 1, some (.vec false 2 84 2 (exampleShip.Thrust.flatMap encPt))) :: (.r 3, some (.vec false 4 84 2 (exampleShip.Water.flatMap encPt))) :: (.r 5, some (.vec false 6 84 2 (exampleShip.Ice.flatMap encPt))) :: sK 7 exampleShip (.o 1 2 exampleShip.Thrust.length) (.o 3 4 exampleShip.Water.length) (.o 5 6 exampleShip.Ice.length) [kc 9 0 (.i ((at_ ([⟨0, 0⟩, ⟨3, 10⟩]) 1).1.1)), kc 9 1 (.i ((at_ ([⟨0, 0⟩, ⟨3, 10⟩]) 1).1.2))])) ?_ (kp rfl) rfl
 refine fqT ?_
 refine aqS ?_
 refine aw_any (rows := [_, _, _, _, _, _, _, _, _, _, _, _, _]) (M := [0, 0, 2, 6, 15, 31, 63, 63, 63, 0, 639, 1791, 4095]) Tryd_mixed (by kernel_rfl) rfl (by kernel_rfl) ⟨
  okp rfl rfl (oqL (ys := [.i exampleShip.Class, .i exampleShip.Power, .i exampleShip.Draught, .i exampleShip.Tonnes, .o 1 2 exampleShip.Thrust.length, .o 3 4 exampleShip.Water.length, .o 5 6 exampleShip.Ice.length, .i exampleShip.Slow, .i exampleShip.Brash, .i exampleShip.Ridge, .i exampleShip.Press]) (lN rfl) sh_25 rfl rfl ⟨rfl, rfl, rfl, rfl, rfl, rfl, rfl, rfl, rfl, rfl, rfl, trivial⟩),
  okp rfl rfl (oqC (x := .g [.i ((((level 40 60)).Conc).Lo), .i ((((level 40 60)).Conc).Hi), .i ((((level 40 60)).Thick).Lo), .i ((((level 40 60)).Thick).Hi), .i ((((level 40 60)).Ridge).Lo), .i ((((level 40 60)).Ridge).Hi), .i ((((level 40 60)).Press).Lo), .i ((((level 40 60)).Press).Hi)]) (fs := []) (caps := []) (extra := []) (lN rfl) en_81 rfl ⟨rfl, rfl, rfl⟩ (EvL.cons rfl (EvL.cons rfl EvL.nil)) (fun mm aa ww gg hr hrel => (c81 40 60 ww))),
  okp rfl rfl (op_build (x := .g [.i ((((level 40 60)).Conc).Lo), .i ((((level 40 60)).Conc).Hi), .i ((((level 40 60)).Thick).Lo), .i ((((level 40 60)).Thick).Hi), .i ((((level 40 60)).Ridge).Lo), .i ((((level 40 60)).Ridge).Hi), .i ((((level 40 60)).Press).Lo), .i ((((level 40 60)).Press).Hi), .B false, .i 100]) (lN rfl) (EvL.cons rfl (EvL.cons rfl EvL.nil)) (fun m w => by kernel_rfl)),
  okp rfl rfl (op_buildSlice (L := 10) (ety := 48) (cs := [.i ((((level 40 60)).Conc).Lo), .i ((((level 40 60)).Conc).Hi), .i ((((level 40 60)).Thick).Lo), .i ((((level 40 60)).Thick).Hi), .i ((((level 40 60)).Ridge).Lo), .i ((((level 40 60)).Ridge).Hi), .i ((((level 40 60)).Press).Lo), .i ((((level 40 60)).Press).Hi), .B false, .i 100]) (lN rfl) (EvL.cons rfl EvL.nil) rfl (fun m w => by kernel_rfl)),
  okp rfl rfl (op_callRowR (L := 11) (C := 12) (own := true) (x := .t [.o 11 12 ((leg exampleShip ([⟨(level 40 60), false, 100⟩])).1.length), .g [.i (((leg exampleShip ([⟨(level 40 60), false, 100⟩])).2.1).Lo), .i (((leg exampleShip ([⟨(level 40 60), false, 100⟩])).2.1).Hi)], .i ((leg exampleShip ([⟨(level 40 60), false, 100⟩])).2.2)]) (R := fun p c => .tuple #[(.slice p ((leg exampleShip ([⟨(level 40 60), false, 100⟩])).1.length) c), .agg #[.int .i64 (((leg exampleShip ([⟨(level 40 60), false, 100⟩])).2.1).Lo), .int .i64 (((leg exampleShip ([⟨(level 40 60), false, 100⟩])).2.1).Hi)], .int .i64 ((leg exampleShip ([⟨(level 40 60), false, 100⟩])).2.2)]) (fs := []) (caps := []) (extra := (kapp [.r 1] (kapp [.r 3] (kapp [.r 5] (kapp ((.b 10 :: cellKeys 10 0 (([⟨(level 40 60), false, 100⟩] : List Part).length * 10))) []))))) (lN rfl) en_23 rfl ⟨rfl, rfl, rfl⟩ (EvL.cons rfl (EvL.cons rfl EvL.nil)) (by decide) (fun mm p c h => by show (.tuple #[(den mm (.o 11 12 ((leg exampleShip ([⟨(level 40 60), false, 100⟩])).1.length))), .agg #[.int .i64 (((leg exampleShip ([⟨(level 40 60), false, 100⟩])).2.1).Lo), .int .i64 (((leg exampleShip ([⟨(level 40 60), false, 100⟩])).2.1).Hi)], .int .i64 ((leg exampleShip ([⟨(level 40 60), false, 100⟩])).2.2)] : Value) = _; rw [h]) (fun mm aa ww gg hr hrel => (c23 exampleShip ⟨ptr0 (mm 1) (mm 2), exampleShip.Thrust.length, mm 2⟩ ⟨ptr0 (mm 3) (mm 4), exampleShip.Water.length, mm 4⟩ ⟨ptr0 (mm 5) (mm 6), exampleShip.Ice.length, mm 6⟩ ([⟨(level 40 60), false, 100⟩]) ⟨some ⟨mm 10, 0, none⟩, 1, 1⟩ ww (slAt_row (enc := encPt) (l := exampleShip.Thrust) (fun _ => rfl) (by decide) hrel ((hr _ (List.mem_append_left _ (by simp))).trans rfl)) (slAt_row (enc := encPt) (l := exampleShip.Water) (fun _ => rfl) (by decide) hrel ((hr _ (List.mem_append_right _ (List.mem_append_left _ (by simp)))).trans rfl)) (slAt_row (enc := encPt) (l := exampleShip.Ice) (fun _ => rfl) (by decide) hrel ((hr _ (List.mem_append_right _ (List.mem_append_right _ (List.mem_append_left _ (by simp))))).trans rfl)) (slAt_own (enc := encPart) (l := [⟨(level 40 60), false, 100⟩]) (fun _ => rfl) hrel (fun k hk => hr k (List.mem_append_right _ (List.mem_append_right _ (List.mem_append_right _ (List.mem_append_left _ hk))))) rfl ⟨rfl, rfl, rfl, rfl, rfl, rfl, rfl, rfl, rfl, rfl, trivial⟩ (Nat.le_of_ble_eq_true rfl)) (BoxAt.mono hG hrel.below)))),
  okp rfl rfl (oqM (lN rfl) rfl),
  okp rfl rfl (op_extract (lN rfl) rfl rfl),
  okp rfl rfl (op_extract (lN rfl) rfl rfl),
  okp rfl rfl (op_extract (lN rfl) rfl rfl),
  okp rfl rfl (op_alloc (L := 13) (lN rfl) zl_32),
  okp rfl rfl (oqA (lN rfl) rfl),
  okp rfl rfl (op_storeN sz_32 rfl rfl rfl rfl rfl (by decide)),
  okp rfl rfl (oqA (lN rfl) rfl),
  trivial⟩ ?_
 refine fqK (s' := (kt 1 (.p 7 0) :: kt 2 (.p 9 0) :: kt 3 (.i ((at_ ([⟨0, 0⟩, ⟨3, 10⟩]) 1).2)) :: kt 4 (.i ((speedE exampleShip (⟨100, 50, 0, 0⟩) false).1)) :: kt 5 (.i ((speedE exampleShip (⟨100, 50, 0, 0⟩) false).2)) :: kt 6 (.i ((speedE exampleShip (⟨100, 50, 0, 0⟩) true).1)) :: kt 7 (.i ((speedE exampleShip (⟨100, 50, 0, 0⟩) true).2)) :: kt 8 (.i ((loadE (⟨100, 60, 1, 0⟩) 135 false).1)) :: kt 9 (.i ((loadE (⟨100, 60, 1, 0⟩) 135 false).2)) :: kt 10 (.o 11 12 ((leg exampleShip ([⟨(level 40 60), false, 100⟩])).1.length)) :: kt 11 (.p 13 0) :: kt 12 (.i ((leg exampleShip ([⟨(level 40 60), false, 100⟩])).2.2)) :: kb 7 25 11 :: kb 9 86 2 :: kb 13 32 2 :: (.r 1, some (.vec false 2 84 2 (exampleShip.Thrust.flatMap encPt))) :: (.r 3, some (.vec false 4 84 2 (exampleShip.Water.flatMap encPt))) :: (.r 5, some (.vec false 6 84 2 (exampleShip.Ice.flatMap encPt))) :: (.r 11, some (.vec true 12 3 1 (((leg exampleShip ([⟨(level 40 60), false, 100⟩])).1).flatMap encInt))) :: sK 7 exampleShip (.o 1 2 exampleShip.Thrust.length) (.o 3 4 exampleShip.Water.length) (.o 5 6 exampleShip.Ice.length) [kc 9 0 (.i ((at_ ([⟨0, 0⟩, ⟨3, 10⟩]) 1).1.1)), kc 9 1 (.i ((at_ ([⟨0, 0⟩, ⟨3, 10⟩]) 1).1.2)), kc 13 0 (.i (((leg exampleShip ([⟨(level 40 60), false, 100⟩])).2.1).Lo)), kc 13 1 (.i (((leg exampleShip ([⟨(level 40 60), false, 100⟩])).2.1).Hi))])) ?_ (kp rfl) rfl
 refine fqT ?_
 refine aqS ?_
 refine aw_any (rows := [_, _, _, _, _, _, _, _, _, _, _, _, _]) (M := [0, 0, 0, 0, 0, 28, 63, 127, 255, 255, 0, 1535, 4095]) Tryd_mixed (by kernel_rfl) rfl (by kernel_rfl) ⟨
  okp rfl rfl (oqL (ys := [.i exampleShip.Class, .i exampleShip.Power, .i exampleShip.Draught, .i exampleShip.Tonnes, .o 1 2 exampleShip.Thrust.length, .o 3 4 exampleShip.Water.length, .o 5 6 exampleShip.Ice.length, .i exampleShip.Slow, .i exampleShip.Brash, .i exampleShip.Ridge, .i exampleShip.Press]) (lN rfl) sh_25 rfl rfl ⟨rfl, rfl, rfl, rfl, rfl, rfl, rfl, rfl, rfl, rfl, rfl, trivial⟩),
  okp rfl rfl (oqC (x := .g [.i ((((level 150 150)).Conc).Lo), .i ((((level 150 150)).Conc).Hi), .i ((((level 150 150)).Thick).Lo), .i ((((level 150 150)).Thick).Hi), .i ((((level 150 150)).Ridge).Lo), .i ((((level 150 150)).Ridge).Hi), .i ((((level 150 150)).Press).Lo), .i ((((level 150 150)).Press).Hi)]) (fs := []) (caps := []) (extra := []) (lN rfl) en_81 rfl ⟨rfl, rfl, rfl⟩ (EvL.cons rfl (EvL.cons rfl EvL.nil)) (fun mm aa ww gg hr hrel => (c81 150 150 ww))),
  okp rfl rfl (op_build (x := .g [.i 3, .i 3]) (lN rfl) (EvL.cons rfl (EvL.cons rfl EvL.nil)) (fun m w => by kernel_rfl)),
  okp rfl rfl (op_build (x := .g [.i 2, .i 3]) (lN rfl) (EvL.cons rfl (EvL.cons rfl EvL.nil)) (fun m w => by kernel_rfl)),
  okp rfl rfl (op_build (x := .g [.i 0, .i 2]) (lN rfl) (EvL.cons rfl (EvL.cons rfl EvL.nil)) (fun m w => by kernel_rfl)),
  okp rfl rfl (op_buildSlice (L := 14) (ety := 32) (cs := [.i 3, .i 3, .i 2, .i 3, .i 0, .i 2]) (lN rfl) (EvL.cons rfl (EvL.cons rfl (EvL.cons rfl EvL.nil))) rfl (fun m w => by kernel_rfl)),
  okp rfl rfl (oqC (x := .t [.g [.i (((free exampleShip ((level 150 150)) ([⟨3, 3⟩, ⟨2, 3⟩, ⟨0, 2⟩])).1).Lo), .i (((free exampleShip ((level 150 150)) ([⟨3, 3⟩, ⟨2, 3⟩, ⟨0, 2⟩])).1).Hi)], .i ((free exampleShip ((level 150 150)) ([⟨3, 3⟩, ⟨2, 3⟩, ⟨0, 2⟩])).2)]) (fs := []) (caps := []) (extra := (kapp [.r 1] (kapp [.r 3] (kapp [.r 5] (kapp ((.b 14 :: cellKeys 14 0 (([⟨3, 3⟩, ⟨2, 3⟩, ⟨0, 2⟩] : List Span).length * 2))) []))))) (lN rfl) en_35 rfl ⟨rfl, rfl, rfl⟩ (EvL.cons rfl (EvL.cons rfl (EvL.cons rfl EvL.nil))) (fun mm aa ww gg hr hrel => (c35 exampleShip ⟨ptr0 (mm 1) (mm 2), exampleShip.Thrust.length, mm 2⟩ ⟨ptr0 (mm 3) (mm 4), exampleShip.Water.length, mm 4⟩ ⟨ptr0 (mm 5) (mm 6), exampleShip.Ice.length, mm 6⟩ ((level 150 150)) ([⟨3, 3⟩, ⟨2, 3⟩, ⟨0, 2⟩]) ⟨some ⟨mm 14, 0, none⟩, 3, 3⟩ ww (slAt_row (enc := encPt) (l := exampleShip.Thrust) (fun _ => rfl) (by decide) hrel ((hr _ (List.mem_append_left _ (by simp))).trans rfl)) (slAt_row (enc := encPt) (l := exampleShip.Water) (fun _ => rfl) (by decide) hrel ((hr _ (List.mem_append_right _ (List.mem_append_left _ (by simp)))).trans rfl)) (slAt_row (enc := encPt) (l := exampleShip.Ice) (fun _ => rfl) (by decide) hrel ((hr _ (List.mem_append_right _ (List.mem_append_right _ (List.mem_append_left _ (by simp))))).trans rfl)) (slAt_own (enc := encSpan) (l := [⟨3, 3⟩, ⟨2, 3⟩, ⟨0, 2⟩]) (fun _ => rfl) hrel (fun k hk => hr k (List.mem_append_right _ (List.mem_append_right _ (List.mem_append_right _ (List.mem_append_left _ hk))))) rfl ⟨rfl, rfl, rfl, rfl, rfl, rfl, trivial⟩ (Nat.le_of_ble_eq_true rfl))))),
  okp rfl rfl (oqM (lN rfl) rfl),
  okp rfl rfl (op_extract (lN rfl) rfl rfl),
  okp rfl rfl (op_extract (lN rfl) rfl rfl),
  okp rfl rfl (op_alloc (L := 15) (lN rfl) zl_32),
  okp rfl rfl (op_storeN sz_32 rfl rfl rfl rfl rfl (by decide)),
  okp rfl rfl (oqA (lN rfl) rfl),
  trivial⟩ ?_
 refine fqK (s' := [kt 2 (.p 9 0), kt 3 (.i ((at_ ([⟨0, 0⟩, ⟨3, 10⟩]) 1).2)), kt 4 (.i ((speedE exampleShip (⟨100, 50, 0, 0⟩) false).1)), kt 5 (.i ((speedE exampleShip (⟨100, 50, 0, 0⟩) false).2)), kt 6 (.i ((speedE exampleShip (⟨100, 50, 0, 0⟩) true).1)), kt 7 (.i ((speedE exampleShip (⟨100, 50, 0, 0⟩) true).2)), kt 8 (.i ((loadE (⟨100, 60, 1, 0⟩) 135 false).1)), kt 9 (.i ((loadE (⟨100, 60, 1, 0⟩) 135 false).2)), kt 10 (.o 11 12 ((leg exampleShip ([⟨(level 40 60), false, 100⟩])).1.length)), kt 11 (.p 13 0), kt 12 (.i ((leg exampleShip ([⟨(level 40 60), false, 100⟩])).2.2)), kt 13 (.p 15 0), kt 14 (.i ((free exampleShip ((level 150 150)) ([⟨3, 3⟩, ⟨2, 3⟩, ⟨0, 2⟩])).2)), kb 9 86 2, kb 13 32 2, kb 15 32 2, (.r 11, some (.vec true 12 3 1 (((leg exampleShip ([⟨(level 40 60), false, 100⟩])).1).flatMap encInt))), kc 9 0 (.i ((at_ ([⟨0, 0⟩, ⟨3, 10⟩]) 1).1.1)), kc 9 1 (.i ((at_ ([⟨0, 0⟩, ⟨3, 10⟩]) 1).1.2)), kc 13 0 (.i (((leg exampleShip ([⟨(level 40 60), false, 100⟩])).2.1).Lo)), kc 13 1 (.i (((leg exampleShip ([⟨(level 40 60), false, 100⟩])).2.1).Hi)), kc 15 0 (.i (((free exampleShip ((level 150 150)) ([⟨3, 3⟩, ⟨2, 3⟩, ⟨0, 2⟩])).1).Lo)), kc 15 1 (.i (((free exampleShip ((level 150 150)) ([⟨3, 3⟩, ⟨2, 3⟩, ⟨0, 2⟩])).1).Hi))]) ?_ (kp rfl) rfl
 refine fqT ?_
 refine aqS ?_
 refine aqT (rows := [_, _, _, _, _, _, _, _, _, _, _, _, _, _, _, _, _, _, _, _, _, _, _, _, _, _, _, _, _, _, _, _, _, _, _, _, _, _, _, _, _, _, _, _, _, _, _, _, _, _, _, _, _, _, _]) rfl (by kernel_rfl) ⟨
  okp rfl rfl (oqM (lN rfl) rfl),
  okp rfl rfl (oqB (r := .bool true) (lN rfl) rfl rfl (by kernel_rfl)),
  okp rfl rfl (oqM (lN rfl) rfl),
  oqy rfl rfl rfl rfl rfl rfl (oqM (lN rfl) rfl),
  oqy rfl rfl rfl rfl rfl rfl (oqB (r := .bool true) (lN rfl) rfl rfl (by kernel_rfl)),
  okp rfl rfl (op_pickT (lN rfl) rfl rfl),
  okp rfl rfl (oqM (lN rfl) rfl),
  oqy rfl rfl rfl rfl rfl rfl (oqM (lN rfl) rfl),
  oqy rfl rfl rfl rfl rfl rfl (oqB (r := .bool true) (lN rfl) rfl rfl (by kernel_rfl)),
  okp rfl rfl (op_pickT (lN rfl) rfl rfl),
  okp rfl rfl (oqM (lN rfl) rfl),
  oqy rfl rfl rfl rfl rfl rfl (oqM (lN rfl) rfl),
  oqy rfl rfl rfl rfl rfl rfl (oqB (r := .bool true) (lN rfl) rfl rfl (by kernel_rfl)),
  okp rfl rfl (op_pickT (lN rfl) rfl rfl),
  okp rfl rfl (oqM (lN rfl) rfl),
  oqy rfl rfl rfl rfl rfl rfl (oqM (lN rfl) rfl),
  oqy rfl rfl rfl rfl rfl rfl (oqB (r := .bool true) (lN rfl) rfl rfl (by kernel_rfl)),
  okp rfl rfl (op_pickT (lN rfl) rfl rfl),
  okp rfl rfl (oqM (lN rfl) rfl),
  oqy rfl rfl rfl rfl rfl rfl (oqM (lN rfl) rfl),
  oqy rfl rfl rfl rfl rfl rfl (oqB (r := .bool true) (lN rfl) rfl rfl (by kernel_rfl)),
  okp rfl rfl (op_pickT (lN rfl) rfl rfl),
  okp rfl rfl (oqM (lN rfl) rfl),
  oqy rfl rfl rfl rfl rfl rfl (oqL (ys := [.i ((at_ ([⟨0, 0⟩, ⟨3, 10⟩]) 1).1.1), .i ((at_ ([⟨0, 0⟩, ⟨3, 10⟩]) 1).1.2)]) (lN rfl) sh_86 rfl rfl ⟨rfl, rfl, trivial⟩),
  oqy rfl rfl rfl rfl rfl rfl (op_build (x := .g [.i 10, .i 3]) (lN rfl) (EvL.cons rfl (EvL.cons rfl EvL.nil)) (fun m w => by kernel_rfl)),
  oqy rfl rfl rfl rfl rfl rfl (op_eqv (r := true) (lN rfl) rfl rfl (fun m w => by kernel_rfl)),
  okp rfl rfl (op_pickT (lN rfl) rfl rfl),
  okp rfl rfl (oqM (lN rfl) rfl),
  oqy rfl rfl rfl rfl rfl rfl (oqM (lN rfl) rfl),
  oqy rfl rfl rfl rfl rfl rfl (oqB (r := .bool true) (lN rfl) rfl rfl (by kernel_rfl)),
  okp rfl rfl (op_pickT (lN rfl) rfl rfl),
  okp rfl rfl (oqM (lN rfl) rfl),
  oqy rfl rfl rfl rfl rfl rfl (oqM (lN rfl) rfl),
  oqy rfl rfl rfl rfl rfl rfl (oqB (r := .bool true) (lN rfl) rfl rfl (by kernel_rfl)),
  okp rfl rfl (op_pickT (lN rfl) rfl rfl),
  okp rfl rfl (oqM (lN rfl) rfl),
  oqy rfl rfl rfl rfl rfl rfl (oqM (lN rfl) rfl),
  oqy rfl rfl rfl rfl rfl rfl (oqB (r := .bool true) (lN rfl) rfl rfl (by kernel_rfl)),
  okp rfl rfl (op_pickT (lN rfl) rfl rfl),
  okp rfl rfl (oqM (lN rfl) rfl),
  oqy rfl rfl rfl rfl rfl rfl (oqM (lN rfl) rfl),
  oqy rfl rfl rfl rfl rfl rfl (op_buildSlice (L := 16) (ety := 3) (cs := [.i 130]) (lN rfl) (EvL.cons rfl EvL.nil) rfl (fun m w => by kernel_rfl)),
  oqy rfl rfl rfl rfl rfl rfl (oqC (x := .B true) (fs := []) (caps := []) (extra := (kapp [.r 11] (kapp ((.b 16 :: cellKeys 16 0 (([130] : List Int).length * 1))) []))) (lN rfl) en_82 rfl ⟨rfl, rfl, rfl⟩ (EvL.cons rfl (EvL.cons rfl EvL.nil)) (fun mm aa ww gg hr hrel => by have h :=  (c82 ((leg exampleShip ([⟨(level 40 60), false, 100⟩])).1) ⟨ptr0 (mm 11) (mm 12), ((leg exampleShip ([⟨(level 40 60), false, 100⟩])).1.length), mm 12⟩ ([130]) ⟨some ⟨mm 16, 0, none⟩, 1, 1⟩ ww (slAt_row (enc := encInt) (l := (leg exampleShip ([⟨(level 40 60), false, 100⟩])).1) (fun _ => rfl) (by decide) hrel ((hr _ (List.mem_append_left _ (by simp))).trans rfl)) (slAt_own (enc := encInt) (l := [130]) (fun _ => rfl) hrel (fun k hk => hr k (List.mem_append_right _ (List.mem_append_left _ hk))) rfl ⟨rfl, trivial⟩ (Nat.le_of_ble_eq_true rfl)) (Nat.le_of_ble_eq_true (by kernel_rfl))); rw [show (decide ((leg exampleShip ([⟨(level 40 60), false, 100⟩])).1 = [130])) = true by kernel_rfl] at h; exact h)),
  okp rfl rfl (op_pickT (lN rfl) rfl rfl),
  okp rfl rfl (oqM (lN rfl) rfl),
  oqy rfl rfl rfl rfl rfl rfl (oqF (lN rfl) rfl fo_32_1),
  oqy rfl rfl rfl rfl rfl rfl (oq1 (lN rfl) sh_3 rfl rfl),
  oqy rfl rfl rfl rfl rfl rfl (oqB (r := .bool true) (lN rfl) rfl rfl (by kernel_rfl)),
  okp rfl rfl (op_pickT (lN rfl) rfl rfl),
  okp rfl rfl (oqM (lN rfl) rfl),
  oqy rfl rfl rfl rfl rfl rfl (oqL (ys := [.i (((free exampleShip ((level 150 150)) ([⟨3, 3⟩, ⟨2, 3⟩, ⟨0, 2⟩])).1).Lo), .i (((free exampleShip ((level 150 150)) ([⟨3, 3⟩, ⟨2, 3⟩, ⟨0, 2⟩])).1).Hi)]) (lN rfl) sh_32 rfl rfl ⟨rfl, rfl, trivial⟩),
  oqy rfl rfl rfl rfl rfl rfl (op_build (x := .g [.i 1, .i 2]) (lN rfl) (EvL.cons rfl (EvL.cons rfl EvL.nil)) (fun m w => by kernel_rfl)),
  oqy rfl rfl rfl rfl rfl rfl (op_eqv (r := true) (lN rfl) rfl rfl (fun m w => by kernel_rfl)),
  okp rfl rfl (op_pickT (lN rfl) rfl rfl),
  okp rfl rfl (oqA (lN rfl) rfl),
  trivial⟩ ?_
 refine fqK (s' := [kt 0 (.B true)]) ?_ (kp rfl) rfl
 refine fqT ?_
 refine aw_ret ?_
 refine post_ret (x := .B true) rfl rfl (rqT rfl resOK_nil) rfl (fun mm aa ww hr => ?_)
 show Ending.returned (.bool true) = _ ∧ _
 first
  | exact ⟨rfl, hr.below⟩

end Go.Proofs.T

namespace Go.Proofs.T
open Go Go.AX Go.RowKit Hull
theorem sz_23 : sizeIn Tryd.prog 23 = some 1 := by kernel_rfl
theorem af_23 : appFact Tryd.prog 23 = some (84, 2, 16) := by kernel_rfl

end Go.Proofs.T

namespace Go.Proofs.T
open Go Go.AX Go.RowKit Hull
theorem c41 (s : Ship) (s_Thrust_s : SlV) (s_Water_s : SlV) (s_Ice_s : SlV) (i : Ice) (v : Int) (ch : Bool) (w : World) (hs_Thrust : SlIs encPt 2 w s_Thrust_s s.Thrust) (hs_Water : SlIs encPt 2 w s_Water_s s.Water) (hs_Ice : SlIs encPt 2 w s_Ice_s s.Ice) : Calls Tryd.prog 41 #[.agg #[.int .i64 s.Class, .int .i64 s.Power, .int .i64 s.Draught, .int .i64 s.Tonnes, .slice s_Thrust_s.p s_Thrust_s.n s_Thrust_s.c, .slice s_Water_s.p s_Water_s.n s_Water_s.c, .slice s_Ice_s.p s_Ice_s.n s_Ice_s.c, .int .i64 s.Slow, .int .i64 s.Brash, .int .i64 s.Ridge, .int .i64 s.Press], .agg #[.int .i64 i.Conc, .int .i64 i.Thick, .int .i64 i.Ridge, .int .i64 i.Press], .int .i64 v, .bool ch] w fun e w' => e = .returned (.tuple #[.bool ((makesE s i v ch).1), .int .i64 ((makesE s i v ch).2)]) ∧ Below w.heap.size w w' := by
 obtain ⟨s0Tp, s0Tn, s0Tc⟩ := s_Thrust_s
 have hs_Thrust_l : s0Tn = s.Thrust.length := hs_Thrust.1
 subst hs_Thrust_l
 obtain ⟨s_Thrust_b, s0To, hs_Thrust_p, hs_Thrust_L⟩ := SlAt.lies' hs_Thrust
 obtain ⟨s0Wp, s0Wn, s0Wc⟩ := s_Water_s
 have hs_Water_l : s0Wn = s.Water.length := hs_Water.1
 subst hs_Water_l
 obtain ⟨s_Water_b, s0Wo, hs_Water_p, hs_Water_L⟩ := SlAt.lies' hs_Water
 obtain ⟨s0Ip, s0In, s0Ic⟩ := s_Ice_s
 have hs_Ice_l : s0In = s.Ice.length := hs_Ice.1
 subst hs_Ice_l
 obtain ⟨s_Ice_b, s0Io, hs_Ice_p, hs_Ice_L⟩ := SlAt.lies' hs_Ice
 refine enter (args := [.g [.i s.Class, .i s.Power, .i s.Draught, .i s.Tonnes, .v (.slice s0Tp s.Thrust.length s0Tc), .v (.slice s0Wp s.Water.length s0Wc), .v (.slice s0Ip s.Ice.length s0Ic), .i s.Slow, .i s.Brash, .i s.Ridge, .i s.Press], .g [.i i.Conc, .i i.Thick, .i i.Ridge, .i i.Press], .i v, .B ch]) Tryd.func41 rfl (N := 23) rfl (Nat.le_of_ble_eq_true rfl) ?_
 refine aqS ?_
 refine aqT (rows := [_, _, _, _]) rfl (by kernel_rfl) ⟨
  okp rfl rfl (op_boxN (L := 1) (lN rfl) rfl rfl rfl),
  okp rfl rfl (op_boxN (L := 2) (lN rfl) rfl rfl rfl),
  okp rfl rfl (oqA (lN rfl) rfl),
  okp rfl rfl (oqA (lN rfl) rfl),
  trivial⟩ ?_
 refine fqK (s' := (kt 2 (.i v) :: kt 3 (.B ch) :: kt 4 (.p 1 0) :: kt 5 (.p 2 0) :: kb 1 25 11 :: kb 2 28 4 :: sK 1 s (.v (.slice s0Tp s.Thrust.length s0Tc)) (.v (.slice s0Wp s.Water.length s0Wc)) (.v (.slice s0Ip s.Ice.length s0Ic)) [kc 2 0 (.i i.Conc), kc 2 1 (.i i.Thick), kc 2 2 (.i i.Ridge), kc 2 3 (.i i.Press)])) ?_ (kp rfl) rfl
 refine fqT ?_
 refine aqS ?_
 refine aqS ?_
 refine aqT (rows := [_, _, _, _, _]) rfl (by kernel_rfl) ⟨
  okp rfl rfl (oqL (ys := [.i s.Class, .i s.Power, .i s.Draught, .i s.Tonnes, .v (.slice s0Tp s.Thrust.length s0Tc), .v (.slice s0Wp s.Water.length s0Wc), .v (.slice s0Ip s.Ice.length s0Ic), .i s.Slow, .i s.Brash, .i s.Ridge, .i s.Press]) (lN rfl) sh_25 rfl rfl ⟨rfl, rfl, rfl, rfl, rfl, rfl, rfl, rfl, rfl, rfl, rfl, trivial⟩),
  okp rfl rfl (oqL (ys := [.i i.Conc, .i i.Thick, .i i.Ridge, .i i.Press]) (lN rfl) sh_28 rfl rfl ⟨rfl, rfl, rfl, rfl, trivial⟩),
  okp rfl rfl (oqM (lN rfl) rfl),
  okp rfl rfl (oqC (x := .i (asked s i v)) (fs := []) (caps := []) (extra := []) (lN rfl) en_75 rfl ⟨rfl, rfl, rfl⟩ (EvL.cons rfl (EvL.cons rfl (EvL.cons rfl EvL.nil))) (fun mm aa ww gg hr hrel => (c75 s ⟨s0Tp, s.Thrust.length, s0Tc⟩ ⟨s0Wp, s.Water.length, s0Wc⟩ ⟨s0Ip, s.Ice.length, s0Ic⟩ i v ww (SlIs.mono hs_Thrust hrel.below) (SlIs.mono hs_Water hrel.below) (SlIs.mono hs_Ice hrel.below)))),
  okp rfl rfl (oqA (lN rfl) rfl),
  trivial⟩ ?_
 refine fqK (s' := (kt 2 (.i v) :: kt 3 (.B ch) :: kt 4 (.p 1 0) :: kt 5 (.p 2 0) :: kt 10 (.i (asked s i v)) :: kb 1 25 11 :: kb 2 28 4 :: sK 1 s (.v (.slice s0Tp s.Thrust.length s0Tc)) (.v (.slice s0Wp s.Water.length s0Wc)) (.v (.slice s0Ip s.Ice.length s0Ic)) [kc 2 0 (.i i.Conc), kc 2 1 (.i i.Thick), kc 2 2 (.i i.Ridge), kc 2 3 (.i i.Press)])) ?_ (kp rfl) rfl
 refine fqT ?_
 refine aqS ?_
 refine aqT (rows := [_, _]) rfl (by kernel_rfl) ⟨
  okp rfl rfl (oqM (lN rfl) rfl),
  okp rfl rfl (oqB (lN rfl) rfl rfl rfl),
  trivial⟩ ?_
 refine fqK (s' := (kt 2 (.i v) :: kt 3 (.B ch) :: kt 4 (.p 1 0) :: kt 5 (.p 2 0) :: kt 10 (.i (asked s i v)) :: kt 16 (.B ((asked s i v) != 0)) :: kb 1 25 11 :: kb 2 28 4 :: sK 1 s (.v (.slice s0Tp s.Thrust.length s0Tc)) (.v (.slice s0Wp s.Water.length s0Wc)) (.v (.slice s0Ip s.Ice.length s0Ic)) [kc 2 0 (.i i.Conc), kc 2 1 (.i i.Thick), kc 2 2 (.i i.Ridge), kc 2 3 (.i i.Press)])) ?_ (kp rfl) rfl
 refine fqT ?_
 refine aw_cond rfl (fun hz1 => ?_) (fun hz1 => ?_)
 ·have _z := hz1
  have q2 := ne_t hz1
  refine aqS ?_
  refine aqT (rows := [_, _, _]) rfl (by kernel_rfl) ⟨
   okp rfl rfl (oqM (lN rfl) rfl),
   okp rfl rfl (oqA (lN rfl) rfl),
   okp rfl rfl (oqA (lN rfl) rfl),
   trivial⟩ ?_
  refine fqK (s' := [kt 8 (.B false), kt 9 (.i (asked s i v))]) ?_ (kp rfl) rfl
  refine fqT ?_
  refine aw_ret ?_
  refine fin_then_ret ?_
  refine post_ret (x := .t [.B false, .i (asked s i v)]) rfl rfl (rqT rfl (rqT rfl resOK_nil)) rfl (fun mm aa ww hr => ?_)
  show Ending.returned (.tuple #[.bool false, .int .i64 (asked s i v)]) = _ ∧ _
  exact ⟨by rw [makesE, if_pos (ne_t hz1)], hr.below⟩
 ·have _z := hz1
  have q3 := ne_f hz1
  refine aw_skip ?_
  refine fqT ?_
  refine aqS ?_
  have hak := asked_ok (ne_f hz1)
  have hc := hak.1
  have hi := hak.2.1
  have hv := hak.2.2
  refine aqT (rows := [_, _, _, _, _, _, _]) rfl (by kernel_rfl) ⟨
   okp rfl rfl (oqL (ys := [.i i.Conc, .i i.Thick, .i i.Ridge, .i i.Press]) (lN rfl) sh_28 rfl rfl ⟨rfl, rfl, rfl, rfl, trivial⟩),
   okp rfl rfl (oqM (lN rfl) rfl),
   okp rfl rfl (op_build (x := .g [.p 1 0, .i i.Conc, .i i.Thick, .i i.Ridge, .i i.Press, .B ch]) (lN rfl) (EvL.cons rfl (EvL.cons rfl (EvL.cons rfl EvL.nil))) (fun m w => by kernel_rfl)),
   okp rfl rfl (oqM (lN rfl) rfl),
   okp rfl rfl (oqC (x := .B (makes s i ch v)) (fs := []) (caps := []) (extra := (kapp ((.b 1 :: cellKeys 1 0 11)) [])) (lN rfl) en_106 rfl ⟨rfl, rfl, rfl⟩ (EvL.cons rfl (EvL.cons rfl EvL.nil)) (fun mm aa ww gg hr hrel => (c106 s ⟨s0Tp, s.Thrust.length, s0Tc⟩ ⟨s0Wp, s.Water.length, s0Wc⟩ ⟨s0Ip, s.Ice.length, s0Ic⟩ (mm 1) i ch v ww (SlIs.mono hs_Thrust hrel.below) (SlIs.mono hs_Water hrel.below) (SlIs.mono hs_Ice hrel.below) (boxAt (L := 1) (vs := [(.int .i64 s.Class), (.int .i64 s.Power), (.int .i64 s.Draught), (.int .i64 s.Tonnes), (.slice s0Tp s.Thrust.length s0Tc), (.slice s0Wp s.Water.length s0Wc), (.slice s0Ip s.Ice.length s0Ic), (.int .i64 s.Slow), (.int .i64 s.Brash), (.int .i64 s.Ridge), (.int .i64 s.Press)]) hrel (fun k hk => hr k (List.mem_append_left _ hk)) rfl ⟨rfl, rfl, rfl, rfl, rfl, rfl, rfl, rfl, rfl, rfl, rfl, trivial⟩) (by first | assumption | omega) (by first | assumption | omega) (by first | assumption | omega)))),
   okp rfl rfl (oqA (lN rfl) rfl),
   okp rfl rfl (oqA (lN rfl) rfl),
   trivial⟩ ?_
  refine fqK (s' := [kt 8 (.B (makes s i ch v)), kt 9 (.i 0)]) ?_ (kp rfl) rfl
  refine fqT ?_
  refine aw_ret ?_
  refine post_ret (x := .t [.B (makes s i ch v), .i 0]) rfl rfl (rqT rfl (rqT rfl resOK_nil)) rfl (fun mm aa ww hr => ?_)
  show Ending.returned (.tuple #[.bool (makes s i ch v), .int .i64 0]) = _ ∧ _
  exact ⟨by rw [makesE, if_neg (by rw [ne_f hz1]; decide)], hr.below⟩

theorem c24 (s : Ship) (s_Thrust_s : SlV) (s_Water_s : SlV) (s_Ice_s : SlV) (c : Cell) (ch : Bool) (w : World) (hs_Thrust : SlIs encPt 2 w s_Thrust_s s.Thrust) (hs_Water : SlIs encPt 2 w s_Water_s s.Water) (hs_Ice : SlIs encPt 2 w s_Ice_s s.Ice) (hG : BoxAt w 0 (strengths.map (fun n => Value.int .i64 n))) : Calls Tryd.prog 24 #[.agg #[.int .i64 s.Class, .int .i64 s.Power, .int .i64 s.Draught, .int .i64 s.Tonnes, .slice s_Thrust_s.p s_Thrust_s.n s_Thrust_s.c, .slice s_Water_s.p s_Water_s.n s_Water_s.c, .slice s_Ice_s.p s_Ice_s.n s_Ice_s.c, .int .i64 s.Slow, .int .i64 s.Brash, .int .i64 s.Ridge, .int .i64 s.Press], .agg #[.int .i64 c.Conc.Lo, .int .i64 c.Conc.Hi, .int .i64 c.Thick.Lo, .int .i64 c.Thick.Hi, .int .i64 c.Ridge.Lo, .int .i64 c.Ridge.Hi, .int .i64 c.Press.Lo, .int .i64 c.Press.Hi], .bool ch] w fun e w' => e = .returned (.tuple #[.int .i64 ((safeE s c ch).1), .int .i64 ((safeE s c ch).2)]) ∧ Below w.heap.size w w' := by
 obtain ⟨s0Tp, s0Tn, s0Tc⟩ := s_Thrust_s
 have hs_Thrust_l : s0Tn = s.Thrust.length := hs_Thrust.1
 subst hs_Thrust_l
 obtain ⟨s_Thrust_b, s0To, hs_Thrust_p, hs_Thrust_L⟩ := SlAt.lies' hs_Thrust
 obtain ⟨s0Wp, s0Wn, s0Wc⟩ := s_Water_s
 have hs_Water_l : s0Wn = s.Water.length := hs_Water.1
 subst hs_Water_l
 obtain ⟨s_Water_b, s0Wo, hs_Water_p, hs_Water_L⟩ := SlAt.lies' hs_Water
 obtain ⟨s0Ip, s0In, s0Ic⟩ := s_Ice_s
 have hs_Ice_l : s0In = s.Ice.length := hs_Ice.1
 subst hs_Ice_l
 obtain ⟨s_Ice_b, s0Io, hs_Ice_p, hs_Ice_L⟩ := SlAt.lies' hs_Ice
 refine enter (args := [.g [.i s.Class, .i s.Power, .i s.Draught, .i s.Tonnes, .v (.slice s0Tp s.Thrust.length s0Tc), .v (.slice s0Wp s.Water.length s0Wc), .v (.slice s0Ip s.Ice.length s0Ic), .i s.Slow, .i s.Brash, .i s.Ridge, .i s.Press], .g [.i c.Conc.Lo, .i c.Conc.Hi, .i c.Thick.Lo, .i c.Thick.Hi, .i c.Ridge.Lo, .i c.Ridge.Hi, .i c.Press.Lo, .i c.Press.Hi], .B ch]) Tryd.func24 rfl (N := 20) rfl (Nat.le_of_ble_eq_true rfl) ?_
 refine aqS ?_
 refine aqT (rows := [_, _, _, _]) rfl (by kernel_rfl) ⟨
  okp rfl rfl (op_boxN (L := 1) (lN rfl) rfl rfl rfl),
  okp rfl rfl (op_boxN (L := 2) (lN rfl) rfl rfl rfl),
  okp rfl rfl (oqA (lN rfl) rfl),
  okp rfl rfl (oqA (lN rfl) rfl),
  trivial⟩ ?_
 refine fqK (s' := (kt 2 (.B ch) :: kt 3 (.p 1 0) :: kt 4 (.p 2 0) :: kb 1 25 11 :: kb 2 34 8 :: sK 1 s (.v (.slice s0Tp s.Thrust.length s0Tc)) (.v (.slice s0Wp s.Water.length s0Wc)) (.v (.slice s0Ip s.Ice.length s0Ic)) [kc 2 0 (.i c.Conc.Lo), kc 2 1 (.i c.Conc.Hi), kc 2 2 (.i c.Thick.Lo), kc 2 3 (.i c.Thick.Hi), kc 2 4 (.i c.Ridge.Lo), kc 2 5 (.i c.Ridge.Hi), kc 2 6 (.i c.Press.Lo), kc 2 7 (.i c.Press.Hi)])) ?_ (kp rfl) rfl
 refine fqT ?_
 refine aqS ?_
 refine aqS ?_
 refine aqT (rows := [_, _, _, _]) rfl (by kernel_rfl) ⟨
  okp rfl rfl (oqL (ys := [.i s.Class, .i s.Power, .i s.Draught, .i s.Tonnes, .v (.slice s0Tp s.Thrust.length s0Tc), .v (.slice s0Wp s.Water.length s0Wc), .v (.slice s0Ip s.Ice.length s0Ic), .i s.Slow, .i s.Brash, .i s.Ridge, .i s.Press]) (lN rfl) sh_25 rfl rfl ⟨rfl, rfl, rfl, rfl, rfl, rfl, rfl, rfl, rfl, rfl, rfl, trivial⟩),
  okp rfl rfl (oqL (ys := [.i c.Conc.Lo, .i c.Conc.Hi, .i c.Thick.Lo, .i c.Thick.Hi, .i c.Ridge.Lo, .i c.Ridge.Hi, .i c.Press.Lo, .i c.Press.Hi]) (lN rfl) sh_34 rfl rfl ⟨rfl, rfl, rfl, rfl, rfl, rfl, rfl, rfl, trivial⟩),
  okp rfl rfl (oqC (x := .i (met s c)) (fs := []) (caps := []) (extra := []) (lN rfl) en_90 rfl ⟨rfl, rfl, rfl⟩ (EvL.cons rfl (EvL.cons rfl EvL.nil)) (fun mm aa ww gg hr hrel => (c90 s ⟨s0Tp, s.Thrust.length, s0Tc⟩ ⟨s0Wp, s.Water.length, s0Wc⟩ ⟨s0Ip, s.Ice.length, s0Ic⟩ c ww (SlIs.mono hs_Thrust hrel.below) (SlIs.mono hs_Water hrel.below) (SlIs.mono hs_Ice hrel.below)))),
  okp rfl rfl (oqA (lN rfl) rfl),
  trivial⟩ ?_
 refine fqK (s' := (kt 2 (.B ch) :: kt 3 (.p 1 0) :: kt 4 (.p 2 0) :: kt 8 (.i (met s c)) :: kb 1 25 11 :: kb 2 34 8 :: sK 1 s (.v (.slice s0Tp s.Thrust.length s0Tc)) (.v (.slice s0Wp s.Water.length s0Wc)) (.v (.slice s0Ip s.Ice.length s0Ic)) [kc 2 0 (.i c.Conc.Lo), kc 2 1 (.i c.Conc.Hi), kc 2 2 (.i c.Thick.Lo), kc 2 3 (.i c.Thick.Hi), kc 2 4 (.i c.Ridge.Lo), kc 2 5 (.i c.Ridge.Hi), kc 2 6 (.i c.Press.Lo), kc 2 7 (.i c.Press.Hi)])) ?_ (kp rfl) rfl
 refine fqT ?_
 refine aqS ?_
 refine aqT (rows := [_, _]) rfl (by kernel_rfl) ⟨
  okp rfl rfl (oqM (lN rfl) rfl),
  okp rfl rfl (oqB (lN rfl) rfl rfl rfl),
  trivial⟩ ?_
 refine fqK (s' := (kt 2 (.B ch) :: kt 3 (.p 1 0) :: kt 4 (.p 2 0) :: kt 8 (.i (met s c)) :: kt 13 (.B ((met s c) != 0)) :: kb 1 25 11 :: kb 2 34 8 :: sK 1 s (.v (.slice s0Tp s.Thrust.length s0Tc)) (.v (.slice s0Wp s.Water.length s0Wc)) (.v (.slice s0Ip s.Ice.length s0Ic)) [kc 2 0 (.i c.Conc.Lo), kc 2 1 (.i c.Conc.Hi), kc 2 2 (.i c.Thick.Lo), kc 2 3 (.i c.Thick.Hi), kc 2 4 (.i c.Ridge.Lo), kc 2 5 (.i c.Ridge.Hi), kc 2 6 (.i c.Press.Lo), kc 2 7 (.i c.Press.Hi)])) ?_ (kp rfl) rfl
 refine fqT ?_
 refine aw_cond rfl (fun hz1 => ?_) (fun hz1 => ?_)
 ·have _z := hz1
  have q2 := ne_t hz1
  refine aqS ?_
  refine aqT (rows := [_, _, _]) rfl (by kernel_rfl) ⟨
   okp rfl rfl (oqM (lN rfl) rfl),
   okp rfl rfl (oqA (lN rfl) rfl),
   okp rfl rfl (oqA (lN rfl) rfl),
   trivial⟩ ?_
  refine fqK (s' := [kt 6 (.i 0), kt 7 (.i (met s c))]) ?_ (kp rfl) rfl
  refine fqT ?_
  refine aw_ret ?_
  refine fin_then_ret ?_
  refine post_ret (x := .t [.i 0, .i (met s c)]) rfl rfl (rqT rfl (rqT rfl resOK_nil)) rfl (fun mm aa ww hr => ?_)
  show Ending.returned (.tuple #[.int .i64 0, .int .i64 (met s c)]) = _ ∧ _
  exact ⟨by rw [safeE, if_pos (ne_t hz1)], hr.below⟩
 ·have _z := hz1
  have q3 := ne_f hz1
  refine aw_skip ?_
  refine fqT ?_
  refine aqS ?_
  have hmet := met_ok (ne_f hz1)
  have hc := hmet.1
  have hg := hmet.2
  refine aqT (rows := [_, _, _, _, _, _, _]) rfl (by kernel_rfl) ⟨
   okp rfl rfl (oqL (ys := [.i c.Conc.Lo, .i c.Conc.Hi, .i c.Thick.Lo, .i c.Thick.Hi, .i c.Ridge.Lo, .i c.Ridge.Hi, .i c.Press.Lo, .i c.Press.Hi]) (lN rfl) sh_34 rfl rfl ⟨rfl, rfl, rfl, rfl, rfl, rfl, rfl, rfl, trivial⟩),
   okp rfl rfl (oqM (lN rfl) rfl),
   okp rfl rfl (oqC (x := .t [.i ((safe s c ch).1), .i ((safe s c ch).2)]) (fs := []) (caps := []) (extra := (kapp ((.b 1 :: cellKeys 1 0 11)) [])) (lN rfl) en_87 rfl ⟨rfl, rfl, rfl⟩ (EvL.cons rfl (EvL.cons rfl (EvL.cons rfl EvL.nil))) (fun mm aa ww gg hr hrel => (c87 s ⟨s0Tp, s.Thrust.length, s0Tc⟩ ⟨s0Wp, s.Water.length, s0Wc⟩ ⟨s0Ip, s.Ice.length, s0Ic⟩ (mm 1) c ch ww (SlIs.mono hs_Thrust hrel.below) (SlIs.mono hs_Water hrel.below) (SlIs.mono hs_Ice hrel.below) (boxAt (L := 1) (vs := [(.int .i64 s.Class), (.int .i64 s.Power), (.int .i64 s.Draught), (.int .i64 s.Tonnes), (.slice s0Tp s.Thrust.length s0Tc), (.slice s0Wp s.Water.length s0Wc), (.slice s0Ip s.Ice.length s0Ic), (.int .i64 s.Slow), (.int .i64 s.Brash), (.int .i64 s.Ridge), (.int .i64 s.Press)]) hrel (fun k hk => hr k (List.mem_append_left _ hk)) rfl ⟨rfl, rfl, rfl, rfl, rfl, rfl, rfl, rfl, rfl, rfl, rfl, trivial⟩) (BoxAt.mono hG hrel.below) (by first | assumption | omega) (by first | assumption | omega)))),
   okp rfl rfl (op_extract (lN rfl) rfl rfl),
   okp rfl rfl (op_extract (lN rfl) rfl rfl),
   okp rfl rfl (oqA (lN rfl) rfl),
   okp rfl rfl (oqA (lN rfl) rfl),
   trivial⟩ ?_
  refine fqK (s' := [kt 6 (.i ((safe s c ch).1)), kt 7 (.i ((safe s c ch).2))]) ?_ (kp rfl) rfl
  refine fqT ?_
  refine aw_ret ?_
  refine post_ret (x := .t [.i ((safe s c ch).1), .i ((safe s c ch).2)]) rfl rfl (rqT rfl (rqT rfl resOK_nil)) rfl (fun mm aa ww hr => ?_)
  show Ending.returned (.tuple #[.int .i64 ((safe s c ch).1), .int .i64 ((safe s c ch).2)]) = _ ∧ _
  exact ⟨by rw [safeE, if_neg (by rw [ne_f hz1]; decide)], hr.below⟩

end Go.Proofs.T

namespace Go.Proofs.T
open Go Go.AX Go.RowKit Hull
theorem un_23 : Tryd.prog.underlying 23 = some (.slice 84) := by kernel_rfl
theorem en_42 : Proofs.Enters Tryd.prog 42 := Proofs.enters_of Tryd.func42 (by kernel_rfl) rfl
theorem af_62 : appFact Tryd.prog 62 = some (170, 2, 16) := by kernel_rfl
theorem zl_64 : zeroL Tryd.prog 64 = some [(.int .i64 0), (.int .i64 0), (.int .i64 0), (.int .i64 0), (.slice none 0 0), (.slice none 0 0), (.slice none 0 0), (.int .i64 0), (.int .i64 0), (.int .i64 0), (.int .i64 0)] := by kernel_rfl
theorem en_45 : Proofs.Enters Tryd.prog 45 := Proofs.enters_of Tryd.func45 (by kernel_rfl) rfl
theorem sz_64 : sizeIn Tryd.prog 64 = some 11 := by kernel_rfl
theorem sh_64 : shapeOf Tryd.prog 64 = some (some 11) := by kernel_rfl
theorem eqg_84 : Tryd.prog.eqGuardType Tryd.prog.depth 84 = false := by kernel_rfl
theorem Pt_eqd (a b : Pt) : ((a.X == b.X) && ((a.Y == b.Y) && true)) = decide (a = b) := by cases a; cases b; rw [Bool.eq_iff_iff]; simp
theorem Span_eqd (a b : Span) : ((a.Lo == b.Lo) && ((a.Hi == b.Hi) && true)) = decide (a = b) := by cases a; cases b; rw [Bool.eq_iff_iff]; simp
theorem eqg_32 : Tryd.prog.eqGuardType Tryd.prog.depth 32 = false := by kernel_rfl
theorem en_48 : Proofs.Enters Tryd.prog 48 := Proofs.enters_of Tryd.func48 (by kernel_rfl) rfl

instance (i : Ice) : Decidable (goodIce i) := by unfold goodIce; infer_instance
instance (c : Cell) : Decidable (goodCell c) := by unfold goodCell goodSpan; infer_instance

theorem c42 (l : List Pt) (l_s : SlV) (w : World) (hl : SlIs encPt 2 w l_s l) (hn : l.length ≤ 1000000) : Calls Tryd.prog 42 #[.slice l_s.p l_s.n l_s.c] w fun e w' => ∃ p c, e = .returned ((.slice p l.length c)) ∧ NewAt w w' p l.length c 84 2 (l.flatMap encPt) ∧ Below w.heap.size w w' := by
 obtain ⟨l_p, l_n, l_c⟩ := l_s
 have hl_l : l_n = l.length := hl.1
 subst hl_l
 obtain ⟨l_b, l_o, hl_p, hl_L⟩ := SlAt.lies' hl
 refine enter (args := [.v (.slice l_p l.length l_c)]) Tryd.func42 rfl (N := 8) rfl (Nat.le_of_ble_eq_true rfl) ?_
 refine aqS ?_
 refine aqT (rows := [_]) rfl (by kernel_rfl) ⟨
  okp rfl rfl (oqA (lN rfl) rfl),
  trivial⟩ ?_
 refine fqK (s' := [kt 0 (.v (.slice l_p l.length l_c))]) ?_ (kp rfl) rfl
 refine fqT ?_
 refine aqS ?_
 refine aqS ?_
 refine aqT (rows := [_, _]) rfl (by kernel_rfl) ⟨
  okp rfl rfl (oqM (lN rfl) rfl),
  okp rfl rfl (op_eqNil (lN rfl) rfl ⟨84, un_23⟩),
  trivial⟩ ?_
 refine fqK (s' := [kt 0 (.v (.slice l_p l.length l_c)), kt 4 (.B l_p.isNone)]) ?_ (kp rfl) rfl
 refine fqT ?_
 refine aw_cond rfl (fun hz1 => ?_) (fun hz1 => ?_)
 ·have _z := hz1
  have q2 := hz1
  refine aqS ?_
  refine aqT (rows := [_]) rfl (by kernel_rfl) ⟨
   okp rfl rfl (oqA (lN rfl) rfl),
   trivial⟩ ?_
  refine fqK (s' := [kt 2 (.v (.slice none 0 0))]) ?_ (kp rfl) rfl
  refine fqT ?_
  refine aw_ret ?_
  refine fin_then_ret ?_
  refine post_ret (x := .v (.slice none 0 0)) rfl rfl (rqT rfl resOK_nil) rfl (fun mm aa ww hr => ?_)
  rcases l_p with _ | ad
  ·have h0 := slIs_none hl
   subst h0
   exact ⟨none, 0, rfl, newAt_nil, hr.below⟩
  ·exact absurd hz1 (by simp)
 ·have _z := hz1
  have q3 := hz1
  refine aw_skip ?_
  refine fqT ?_
  refine aqS ?_
  refine aqT (rows := [_, _, _, _]) rfl (by kernel_rfl) ⟨
   okp rfl rfl (op_buildSlice0 (L := 1) (C := 2) (ety := 84) (kk := 2) (lN rfl) (by decide) (fun w => by kernel_rfl)),
   okp rfl rfl (oqM (lN rfl) rfl),
   okp rfl rfl (op_appendS (enc := encPt) (l := l) (L' := 3) (C' := 4) (lN rfl) af_23 rfl rfl rfl rfl (fun mm aa ww gg hrel => (SlIs.mono hl hrel.below)) (fun _ => rfl) (fun _ => rfl) (by omega) (by omega) (by decide)),
   okp rfl rfl (oqA (lN rfl) rfl),
   trivial⟩ ?_
  refine fqK (s' := [kt 2 (.o 3 4 l.length), (.r 3, some (.vec true 4 84 2 (l.flatMap encPt)))]) ?_ ⟨(congrArg (fun q => some (Val.x (SV.o 3 4 q))) (Nat.zero_add l.length)), rfl, trivial⟩ rfl
  refine fqT ?_
  refine aw_ret ?_
  refine post_ret (x := .o 3 4 l.length) rfl rfl (rqT rfl resOK_nil) rfl (fun mm aa ww hr => ?_)
  exact ⟨_, _, rfl, newAt_row hr mine_nil rfl (flat_length (enc := encPt) (fun _ => rfl) _), hr.below⟩

def m27 (_F : Nat) (a0 : Ship) : Option (Bool) :=
 some (((decide ((((a0.Thrust.length : Nat) : Int)) > 20)) || (decide ((((a0.Water.length : Nat) : Int)) > 20))) || (decide ((((a0.Ice.length : Nat) : Int)) > 20)))

theorem c27 (F : Nat) (a0 : Ship) (a0_Thrust_s : SlV) (a0_Water_s : SlV) (a0_Ice_s : SlV) (w : World) (ha0_Thrust : SlIs encPt 2 w a0_Thrust_s a0.Thrust) (ha0_Water : SlIs encPt 2 w a0_Water_s a0.Water) (ha0_Ice : SlIs encPt 2 w a0_Ice_s a0.Ice) (r : Bool) (hm : m27 F a0 = some r) : Calls Tryd.prog 27 #[.agg #[.int .i64 a0.Class, .int .i64 a0.Power, .int .i64 a0.Draught, .int .i64 a0.Tonnes, .slice a0_Thrust_s.p a0_Thrust_s.n a0_Thrust_s.c, .slice a0_Water_s.p a0_Water_s.n a0_Water_s.c, .slice a0_Ice_s.p a0_Ice_s.n a0_Ice_s.c, .int .i64 a0.Slow, .int .i64 a0.Brash, .int .i64 a0.Ridge, .int .i64 a0.Press]] w fun e w' => e = .returned (.bool r) ∧ Below w.heap.size w w' := by
 obtain ⟨a0Tp, a0Tn, a0Tc⟩ := a0_Thrust_s
 have ha0_Thrust_l : a0Tn = a0.Thrust.length := ha0_Thrust.1
 subst ha0_Thrust_l
 obtain ⟨a0_Thrust_b, a0To, ha0_Thrust_p, ha0_Thrust_L⟩ := SlAt.lies' ha0_Thrust
 obtain ⟨a0Wp, a0Wn, a0Wc⟩ := a0_Water_s
 have ha0_Water_l : a0Wn = a0.Water.length := ha0_Water.1
 subst ha0_Water_l
 obtain ⟨a0_Water_b, a0Wo, ha0_Water_p, ha0_Water_L⟩ := SlAt.lies' ha0_Water
 obtain ⟨a0Ip, a0In, a0Ic⟩ := a0_Ice_s
 have ha0_Ice_l : a0In = a0.Ice.length := ha0_Ice.1
 subst ha0_Ice_l
 obtain ⟨a0_Ice_b, a0Io, ha0_Ice_p, ha0_Ice_L⟩ := SlAt.lies' ha0_Ice
 unfold m27 at hm
 refine enter (args := [.g [.i a0.Class, .i a0.Power, .i a0.Draught, .i a0.Tonnes, .v (.slice a0Tp a0.Thrust.length a0Tc), .v (.slice a0Wp a0.Water.length a0Wc), .v (.slice a0Ip a0.Ice.length a0Ic), .i a0.Slow, .i a0.Brash, .i a0.Ridge, .i a0.Press]]) Tryd.func27 rfl (N := 19) rfl (Nat.le_of_ble_eq_true rfl) ?_
 refine aqS ?_
 refine aqT (rows := [_, _]) rfl (by kernel_rfl) ⟨
  okp rfl rfl (op_boxN (L := 1) (lN rfl) rfl rfl rfl),
  okp rfl rfl (oqA (lN rfl) rfl),
  trivial⟩ ?_
 refine fqK (s' := (kt 1 (.p 1 0) :: kb 1 25 11 :: sK 1 a0 (.v (.slice a0Tp a0.Thrust.length a0Tc)) (.v (.slice a0Wp a0.Water.length a0Wc)) (.v (.slice a0Ip a0.Ice.length a0Ic)) [])) ?_ (kp rfl) rfl
 refine fqT ?_
 refine aqS ?_
 refine aqT (rows := [_, _, _, _, _, _, _, _, _, _, _, _, _, _, _, _, _]) rfl (by kernel_rfl) ⟨
  okp rfl rfl (oqF (lN rfl) rfl fo_25_4),
  okp rfl rfl (oq1 (lN rfl) sh_23 rfl rfl),
  okp rfl rfl (op_len (n := a0.Thrust.length) (lN rfl) (by rw [ss_23]; rfl) rfl rfl),
  okp rfl rfl (oqB (lN rfl) rfl rfl rfl),
  okp rfl rfl (oqM (lN rfl) rfl),
  ok_if (lN rfl) rfl rfl rfl rfl rfl rfl (fun hg1 => oqF (lN rfl) (force_x rfl) fo_25_5),
  ok_if (lN rfl) rfl rfl rfl rfl rfl rfl (fun hg2 => oq1 (lN rfl) sh_23 (force_eq (beq_iff_eq.2 hg2) rfl) rfl),
  ok_if (lN rfl) rfl rfl rfl rfl rfl rfl (fun hg3 => op_len (n := a0.Water.length) (lN rfl) (by rw [ss_23]; rfl) (force_eq (beq_iff_eq.2 hg3) rfl) rfl),
  ok_if (lN rfl) rfl rfl rfl rfl rfl rfl (fun hg4 => oqB (lN rfl) (force_eq (beq_iff_eq.2 hg4) rfl) rfl rfl),
  okp rfl rfl (op_or (lN rfl) rfl rfl),
  okp rfl rfl (oqM (lN rfl) rfl),
  ok_if (lN rfl) rfl rfl rfl rfl rfl rfl (fun hg5 => oqF (lN rfl) (force_x rfl) fo_25_6),
  ok_if (lN rfl) rfl rfl rfl rfl rfl rfl (fun hg6 => oq1 (lN rfl) sh_23 (force_eq (beq_iff_eq.2 hg6) rfl) rfl),
  ok_if (lN rfl) rfl rfl rfl rfl rfl rfl (fun hg7 => op_len (n := a0.Ice.length) (lN rfl) (by rw [ss_23]; rfl) (force_eq (beq_iff_eq.2 hg7) rfl) rfl),
  ok_if (lN rfl) rfl rfl rfl rfl rfl rfl (fun hg8 => oqB (lN rfl) (force_eq (beq_iff_eq.2 hg8) rfl) rfl rfl),
  okp rfl rfl (op_or (lN rfl) rfl rfl),
  okp rfl rfl (oqA (lN rfl) rfl),
  trivial⟩ ?_
 refine fqK (s' := [kt 2 (.B (((decide ((((a0.Thrust.length : Nat) : Int)) > 20)) || (decide ((((a0.Water.length : Nat) : Int)) > 20))) || (decide ((((a0.Ice.length : Nat) : Int)) > 20))))]) ?_ (kp rfl) rfl
 refine fqT ?_
 refine aw_ret ?_
 refine post_ret (x := .B (((decide ((((a0.Thrust.length : Nat) : Int)) > 20)) || (decide ((((a0.Water.length : Nat) : Int)) > 20))) || (decide ((((a0.Ice.length : Nat) : Int)) > 20)))) rfl rfl (rqT rfl resOK_nil) rfl (fun mm aa ww hr => ?_)
 have hm := Option.some.inj hm
 subst hm
 exact ⟨rfl, hr.below⟩

def m28 (_F : Nat) (a0 : Ship) : Option (Ship) :=
 chk (a0.Thrust.length ≤ 1000000) (chk (a0.Water.length ≤ 1000000) (chk (a0.Ice.length ≤ 1000000) (some a0)))

theorem c28 (F : Nat) (a0 : Ship) (a0_Thrust_s : SlV) (a0_Water_s : SlV) (a0_Ice_s : SlV) (w : World) (ha0_Thrust : SlIs encPt 2 w a0_Thrust_s a0.Thrust) (ha0_Water : SlIs encPt 2 w a0_Water_s a0.Water) (ha0_Ice : SlIs encPt 2 w a0_Ice_s a0.Ice) (r : Ship) (hm : m28 F a0 = some r) : Calls Tryd.prog 28 #[.agg #[.int .i64 a0.Class, .int .i64 a0.Power, .int .i64 a0.Draught, .int .i64 a0.Tonnes, .slice a0_Thrust_s.p a0_Thrust_s.n a0_Thrust_s.c, .slice a0_Water_s.p a0_Water_s.n a0_Water_s.c, .slice a0_Ice_s.p a0_Ice_s.n a0_Ice_s.c, .int .i64 a0.Slow, .int .i64 a0.Brash, .int .i64 a0.Ridge, .int .i64 a0.Press]] w fun e w' => ∃ sl : List SlV, e = .returned ((fun vs => .agg #[.int .i64 r.Class, .int .i64 r.Power, .int .i64 r.Draught, .int .i64 r.Tonnes, (vs.getD 0 (.bool false)), (vs.getD 1 (.bool false)), (vs.getD 2 (.bool false)), .int .i64 r.Slow, .int .i64 r.Brash, .int .i64 r.Ridge, .int .i64 r.Press]) (sl.map SlV.val)) ∧ NewRowsD w w' sl [(r.Thrust.length, 84, 2, r.Thrust.flatMap encPt), (r.Water.length, 84, 2, r.Water.flatMap encPt), (r.Ice.length, 84, 2, r.Ice.flatMap encPt)] ∧ Below w.heap.size w w' := by
 obtain ⟨a0Tp, a0Tn, a0Tc⟩ := a0_Thrust_s
 have ha0_Thrust_l : a0Tn = a0.Thrust.length := ha0_Thrust.1
 subst ha0_Thrust_l
 obtain ⟨a0_Thrust_b, a0To, ha0_Thrust_p, ha0_Thrust_L⟩ := SlAt.lies' ha0_Thrust
 obtain ⟨a0Wp, a0Wn, a0Wc⟩ := a0_Water_s
 have ha0_Water_l : a0Wn = a0.Water.length := ha0_Water.1
 subst ha0_Water_l
 obtain ⟨a0_Water_b, a0Wo, ha0_Water_p, ha0_Water_L⟩ := SlAt.lies' ha0_Water
 obtain ⟨a0Ip, a0In, a0Ic⟩ := a0_Ice_s
 have ha0_Ice_l : a0In = a0.Ice.length := ha0_Ice.1
 subst ha0_Ice_l
 obtain ⟨a0_Ice_b, a0Io, ha0_Ice_p, ha0_Ice_L⟩ := SlAt.lies' ha0_Ice
 unfold m28 at hm
 refine enter (args := [.g [.i a0.Class, .i a0.Power, .i a0.Draught, .i a0.Tonnes, .v (.slice a0Tp a0.Thrust.length a0Tc), .v (.slice a0Wp a0.Water.length a0Wc), .v (.slice a0Ip a0.Ice.length a0Ic), .i a0.Slow, .i a0.Brash, .i a0.Ridge, .i a0.Press]]) Tryd.func28 rfl (N := 16) rfl (Nat.le_of_ble_eq_true rfl) ?_
 refine aqS ?_
 refine aqT (rows := [_, _]) rfl (by kernel_rfl) ⟨
  okp rfl rfl (op_boxN (L := 1) (lN rfl) rfl rfl rfl),
  okp rfl rfl (op_alloc (L := 2) (lN rfl) zl_25),
  trivial⟩ ?_
 refine fqK (s' := (kt 1 (.p 1 0) :: kt 2 (.p 2 0) :: kb 1 25 11 :: kb 2 25 11 :: sK 1 a0 (.v (.slice a0Tp a0.Thrust.length a0Tc)) (.v (.slice a0Wp a0.Water.length a0Wc)) (.v (.slice a0Ip a0.Ice.length a0Ic)) [kc 2 0 (.i 0), kc 2 1 (.i 0), kc 2 2 (.i 0), kc 2 3 (.i 0), kc 2 4 (.v (.slice none 0 0)), kc 2 5 (.v (.slice none 0 0)), kc 2 6 (.v (.slice none 0 0)), kc 2 7 (.i 0), kc 2 8 (.i 0), kc 2 9 (.i 0), kc 2 10 (.i 0)])) ?_ (kp rfl) rfl
 refine fqT ?_
 refine aqS ?_
 obtain ⟨hp1, hm⟩ := chk_some hm
 obtain ⟨hp2, hm⟩ := chk_some hm
 obtain ⟨hp3, hm⟩ := chk_some hm
 refine aw_any (rows := [_, _, _, _, _, _, _, _, _, _, _, _, _, _, _]) (M := [0, 1, 3, 0, 8, 31, 0, 64, 255, 223, 1023, 2047, 4095, 8191, 16383]) Tryd_mixed (by kernel_rfl) rfl (by kernel_rfl) ⟨
  okp rfl rfl (oqF (lN rfl) rfl fo_25_4),
  okp rfl rfl (oq1 (lN rfl) sh_23 rfl rfl),
  okp rfl rfl (op_callRowR (L := 3) (C := 4) (own := true) (x := .o 3 4 a0.Thrust.length) (R := fun p c => (.slice p a0.Thrust.length c)) (fs := []) (caps := []) (extra := []) (lN rfl) en_42 rfl ⟨rfl, rfl, rfl⟩ (EvL.cons rfl EvL.nil) (by decide) (fun mm p c h => by show ((den mm (.o 3 4 a0.Thrust.length)) : Value) = _; rw [h]) (fun mm aa ww gg hr hrel => (c42 a0.Thrust ⟨a0Tp, a0.Thrust.length, a0Tc⟩ ww (SlIs.mono ha0_Thrust hrel.below) hp1))),
  okp rfl rfl (oqF (lN rfl) rfl fo_25_5),
  okp rfl rfl (oq1 (lN rfl) sh_23 rfl rfl),
  okp rfl rfl (op_callRowR (L := 5) (C := 6) (own := true) (x := .o 5 6 a0.Water.length) (R := fun p c => (.slice p a0.Water.length c)) (fs := []) (caps := []) (extra := []) (lN rfl) en_42 rfl ⟨rfl, rfl, rfl⟩ (EvL.cons rfl EvL.nil) (by decide) (fun mm p c h => by show ((den mm (.o 5 6 a0.Water.length)) : Value) = _; rw [h]) (fun mm aa ww gg hr hrel => (c42 a0.Water ⟨a0Wp, a0.Water.length, a0Wc⟩ ww (SlIs.mono ha0_Water hrel.below) hp2))),
  okp rfl rfl (oqF (lN rfl) rfl fo_25_6),
  okp rfl rfl (oq1 (lN rfl) sh_23 rfl rfl),
  okp rfl rfl (op_callRowR (L := 7) (C := 8) (own := true) (x := .o 7 8 a0.Ice.length) (R := fun p c => (.slice p a0.Ice.length c)) (fs := []) (caps := []) (extra := []) (lN rfl) en_42 rfl ⟨rfl, rfl, rfl⟩ (EvL.cons rfl EvL.nil) (by decide) (fun mm p c h => by show ((den mm (.o 7 8 a0.Ice.length)) : Value) = _; rw [h]) (fun mm aa ww gg hr hrel => (c42 a0.Ice ⟨a0Ip, a0.Ice.length, a0Ic⟩ ww (SlIs.mono ha0_Ice hrel.below) hp3))),
  okp rfl rfl (oqF (lN rfl) rfl fo_25_4),
  okp rfl rfl (op_store1 sz_23 rfl rfl rfl rfl (lN rfl)),
  okp rfl rfl (oqF (lN rfl) rfl fo_25_5),
  okp rfl rfl (op_store1 sz_23 rfl rfl rfl rfl (lN rfl)),
  okp rfl rfl (oqF (lN rfl) rfl fo_25_6),
  okp rfl rfl (op_store1 sz_23 rfl rfl rfl rfl (lN rfl)),
  trivial⟩ ?_
 refine fqK (s' := (kt 1 (.p 1 0) :: kt 2 (.p 2 0) :: kb 1 25 11 :: kb 2 25 11 :: (.r 3, some (.vec true 4 84 2 (a0.Thrust.flatMap encPt))) :: (.r 5, some (.vec true 6 84 2 (a0.Water.flatMap encPt))) :: (.r 7, some (.vec true 8 84 2 (a0.Ice.flatMap encPt))) :: sK 1 a0 (.o 3 4 a0.Thrust.length) (.o 5 6 a0.Water.length) (.o 7 8 a0.Ice.length) [kc 2 0 (.i 0), kc 2 1 (.i 0), kc 2 2 (.i 0), kc 2 3 (.i 0), kc 2 4 (.v (.slice none 0 0)), kc 2 5 (.v (.slice none 0 0)), kc 2 6 (.v (.slice none 0 0)), kc 2 7 (.i 0), kc 2 8 (.i 0), kc 2 9 (.i 0), kc 2 10 (.i 0)])) ?_ (kp rfl) rfl
 refine fqT ?_
 refine aqS ?_
 refine aqT (rows := [_, _]) rfl (by kernel_rfl) ⟨
  okp rfl rfl (oqL (ys := [.i a0.Class, .i a0.Power, .i a0.Draught, .i a0.Tonnes, .o 3 4 a0.Thrust.length, .o 5 6 a0.Water.length, .o 7 8 a0.Ice.length, .i a0.Slow, .i a0.Brash, .i a0.Ridge, .i a0.Press]) (lN rfl) sh_25 rfl rfl ⟨rfl, rfl, rfl, rfl, rfl, rfl, rfl, rfl, rfl, rfl, rfl, trivial⟩),
  okp rfl rfl (op_storeN sz_25 rfl rfl rfl rfl rfl (by decide)),
  trivial⟩ ?_
 refine fqK (s' := (kt 2 (.p 2 0) :: kb 2 25 11 :: (.r 3, some (.vec true 4 84 2 (a0.Thrust.flatMap encPt))) :: (.r 5, some (.vec true 6 84 2 (a0.Water.flatMap encPt))) :: (.r 7, some (.vec true 8 84 2 (a0.Ice.flatMap encPt))) :: sK 2 a0 (.o 3 4 a0.Thrust.length) (.o 5 6 a0.Water.length) (.o 7 8 a0.Ice.length) [])) ?_ (kp rfl) rfl
 refine fqT ?_
 refine aw_ret ?_
 refine post_ret (x := .g [.i a0.Class, .i a0.Power, .i a0.Draught, .i a0.Tonnes, .o 3 4 a0.Thrust.length, .o 5 6 a0.Water.length, .o 7 8 a0.Ice.length, .i a0.Slow, .i a0.Brash, .i a0.Ridge, .i a0.Press]) rfl rfl (resOK_cellN (ys := [.i a0.Class, .i a0.Power, .i a0.Draught, .i a0.Tonnes, .o 3 4 a0.Thrust.length, .o 5 6 a0.Water.length, .o 7 8 a0.Ice.length, .i a0.Slow, .i a0.Brash, .i a0.Ridge, .i a0.Press]) rfl sh_25 rfl ⟨rfl, rfl, rfl, rfl, rfl, rfl, rfl, rfl, rfl, rfl, rfl, trivial⟩ resOK_nil) rfl (fun mm aa ww hr => ?_)
 have hm := Option.some.inj hm
 subst hm
 exact ⟨[⟨ptr0 (mm 3) (mm 4), a0.Thrust.length, mm 4⟩, ⟨ptr0 (mm 5) (mm 6), a0.Water.length, mm 6⟩, ⟨ptr0 (mm 7) (mm 8), a0.Ice.length, mm 8⟩], rfl, ⟨⟨rfl, newAt_row hr mine_nil rfl (flat_length (enc := encPt) (fun _ => rfl) _), rfl, newAt_row hr mine_nil rfl (flat_length (enc := encPt) (fun _ => rfl) _), rfl, newAt_row hr mine_nil rfl (flat_length (enc := encPt) (fun _ => rfl) _), trivial⟩, ⟨⟨apart_rr hr rfl rfl (by decide), apart_rr hr rfl rfl (by decide), trivial⟩, ⟨⟨apart_rr hr rfl rfl (by decide), trivial⟩, ⟨trivial, trivial⟩⟩⟩⟩, hr.below⟩

def m45 (F : Nat) (a0 : List Pt) : Option (List Pt) :=
 join (fun (x1 : List Pt) => some x1) (fun k1 => loopC (fun (x2 : List Pt × Int) n2 => brk (decide (x2.2 < (((a0.length : Nat) : Int)))) (chk (0 ≤ x2.2 ∧ x2.2 < ((a0.length : Nat) : Int)) (chk (x2.1.length ≤ 1000000) (chk (InR (x2.2 + 1)) (n2 ((x2.1 ++ [(pt a0 x2.2)]), x2.2 + 1))))) (k1 x2.1)) F ([], 0))

theorem c45 (F : Nat) (a0 : List Pt) (a0_s : SlV) (w : World) (ha0 : SlIs encPt 2 w a0_s a0) (r : List Pt) (hm : m45 F a0 = some r) : Calls Tryd.prog 45 #[.slice a0_s.p a0_s.n a0_s.c] w fun e w' => ∃ sl : List SlV, e = .returned ((fun vs => (vs.getD 0 (.bool false))) (sl.map SlV.val)) ∧ NewRowsD w w' sl [(r.length, 170, 2, r.flatMap encPt)] ∧ Below w.heap.size w w' := by
 obtain ⟨a0_p, a0_n, a0_c⟩ := a0_s
 have ha0_l : a0_n = a0.length := ha0.1
 subst ha0_l
 obtain ⟨a0_b, a0_o, ha0_p, ha0_L⟩ := SlAt.lies' ha0
 unfold m45 at hm
 refine enter (args := [.v (.slice a0_p a0.length a0_c)]) Tryd.func45 rfl (N := 18) rfl (Nat.le_of_ble_eq_true rfl) ?_
 refine aqS ?_
 refine aqT (rows := [_]) rfl (by kernel_rfl) ⟨
  okp rfl rfl (oqA (lN rfl) rfl),
  trivial⟩ ?_
 refine fqK (s' := [kt 0 (.v (.slice a0_p a0.length a0_c))]) ?_ (kp rfl) rfl
 refine fqT ?_
 refine aqS ?_
 refine aqT (rows := [_]) rfl (by kernel_rfl) ⟨
  okp rfl rfl (oqA (lN rfl) rfl),
  trivial⟩ ?_
 refine fqK (s' := [kt 0 (.v (.slice a0_p a0.length a0_c)), kt 3 (.v (.slice none 0 0))]) ?_ (kp rfl) rfl
 refine fqT ?_
 refine aw_cutM (ι := List Pt) hm (fun x1 => [kt 3 (.o 300 301 x1.length), (.r 300, some (.vec true 301 170 2 (x1.flatMap encPt)))]) (fun hm => ?_) (fun x1 hm => ?_)
 ·have _z := hm
  refine aqS ?_
  refine aqT (rows := [_, _, _]) rfl (by kernel_rfl) ⟨
   okp rfl rfl (oqM (lN rfl) rfl),
   okp rfl rfl (op_len (n := a0.length) (lN rfl) (by rw [ss_23]; rfl) rfl rfl),
   okp rfl rfl (oqM (lN rfl) rfl),
   trivial⟩ ?_
  refine fqK (s' := [kt 3 (.v (.slice none 0 0)), kt 6 (.v (.slice a0_p a0.length a0_c)), kt 7 (.i (((a0.length : Nat) : Int))), kt 8 (.i 0)]) ?_ (kp rfl) rfl
  refine fqT ?_
  refine aw_block ?_
  refine aw_nilRowK (.t 3) 1 2 170 2 rfl rfl rfl (by decide) ?_
  refine aw_swp [(1, 300), (2, 301)] rfl ?_
  refine aw_loopC hm (fun x2 => [kt 3 (.o 300 301 x2.1.length), kt 6 (.v (.slice a0_p a0.length a0_c)), kt 7 (.i (((a0.length : Nat) : Int))), kt 8 (.i x2.2), (.r 300, some (.vec true 301 170 2 (x2.1.flatMap encPt)))]) ⟨rfl, rfl, rfl, rfl, rfl, trivial⟩ rfl (fun x2 n2 hm => ?_)
  refine aqS ?_
  refine aqT (rows := [_]) rfl (by kernel_rfl) ⟨
   okp rfl rfl (oqB (lN rfl) rfl rfl rfl),
   trivial⟩ ?_
  refine fqK (s' := [kt 3 (.o 300 301 x2.1.length), kt 6 (.v (.slice a0_p a0.length a0_c)), kt 7 (.i (((a0.length : Nat) : Int))), kt 8 (.i x2.2), kt 9 (.B (decide (x2.2 < (((a0.length : Nat) : Int))))), (.r 300, some (.vec true 301 170 2 (x2.1.flatMap encPt)))]) ?_ (kp rfl) rfl
  refine fqT ?_
  refine aqS ?_
  refine aw_cond rfl (fun hz1 => ?_) (fun hz1 => ?_)
  ·have hm := brk_t hz1 hm
   refine aw_skip ?_
   refine fqT ?_
   refine aqS ?_
   refine aw_block ?_
   refine aqS ?_
   obtain ⟨hp2, hm⟩ := chk_some hm
   refine aqT (rows := [_, _, _, _]) rfl (by kernel_rfl) ⟨
    okp rfl rfl (op_ixB (lN rfl) rfl rfl ss_23 (ha0_p (ne_of_ix (i := x2.2) hp2.1 hp2.2)) hp2.1 hp2.2),
    okp rfl rfl (op_loadB (y := .g [.i (((pt a0 x2.2)).X), .i (((pt a0 x2.2)).Y)]) (lN rfl) rfl (ldN (ha0_L (ne_of_ix (i := x2.2) hp2.1 hp2.2)) ⟨0, 0⟩ (i := x2.2) hp2.1 hp2.2 0 (vs := [(.int .i64 (((pt a0 x2.2)).X)), (.int .i64 (((pt a0 x2.2)).Y))]) (fun zq zv zh => sub_get (vs := [(.int .i64 (((pt a0 x2.2)).X)), (.int .i64 (((pt a0 x2.2)).Y))]) rfl zh) rfl sh_84 rfl)),
    okp rfl rfl (op_alloc (L := 3) (lN rfl) zl_84),
    okp rfl rfl (op_storeN sz_84 rfl rfl rfl rfl rfl (by decide)),
    trivial⟩ ?_
   refine fqK (s' := [kt 3 (.o 300 301 x2.1.length), kt 5 (.p 3 0), kt 6 (.v (.slice a0_p a0.length a0_c)), kt 7 (.i (((a0.length : Nat) : Int))), kt 8 (.i x2.2), kb 3 84 2, (.r 300, some (.vec true 301 170 2 (x2.1.flatMap encPt))), kc 3 0 (.i (((pt a0 x2.2)).X)), kc 3 1 (.i (((pt a0 x2.2)).Y))]) ?_ (kp rfl) rfl
   refine fqT ?_
   obtain ⟨hp3, hm⟩ := chk_some hm
   refine aqT (rows := [_, _, _, _, _]) rfl (by kernel_rfl) ⟨
    okp rfl rfl (oqM (lN rfl) rfl),
    okp rfl rfl (oqL (ys := [.i (((pt a0 x2.2)).X), .i (((pt a0 x2.2)).Y)]) (lN rfl) sh_84 rfl rfl ⟨rfl, rfl, trivial⟩),
    okp rfl rfl (op_buildSlice (L := 4) (ety := 170) (cs := [.i (((pt a0 x2.2)).X), .i (((pt a0 x2.2)).Y)]) (lN rfl) (EvL.cons rfl EvL.nil) rfl (fun m w => by kernel_rfl)),
    okp rfl rfl (op_append (L' := 5) (C' := 6) (vs := [(.int .i64 (((pt a0 x2.2)).X)), (.int .i64 (((pt a0 x2.2)).Y))]) (lN rfl) af_62 rfl rfl (flat_length (enc := encPt) (fun _ => rfl) x2.1) rfl ⟨rfl, rfl, trivial⟩ rfl rfl (by decide) (by have := hp3; omega) (by have := hp3; omega) (by decide)),
    okp rfl rfl (oqA (lN rfl) rfl),
    trivial⟩ ?_
   refine fqK (s' := [kt 3 (.o 5 6 ((x2.1 ++ [(pt a0 x2.2)]).length)), kt 6 (.v (.slice a0_p a0.length a0_c)), kt 7 (.i (((a0.length : Nat) : Int))), kt 8 (.i x2.2), (.r 5, some (.vec true 6 170 2 ((x2.1 ++ [(pt a0 x2.2)]).flatMap encPt)))]) ?_ ⟨(congrArg (fun q => some (Val.x (SV.o 5 6 q))) (len_snoc x2.1 ((pt a0 x2.2)))), rfl, rfl, rfl, (Eq.trans (b := some (Val.vec true 6 170 2 (x2.1.flatMap encPt ++ [(.int .i64 (((pt a0 x2.2)).X)), (.int .i64 (((pt a0 x2.2)).Y))]))) rfl (congrArg (fun q => some (Val.vec true 6 170 2 q)) (flat_snoc (enc := encPt) x2.1 ((pt a0 x2.2))))), trivial⟩ rfl
   refine fin_block ?_
   refine fqT ?_
   obtain ⟨hp4, hm⟩ := chk_some hm
   refine aqT (rows := [_, _]) rfl (by kernel_rfl) ⟨
    okp rfl rfl (oqB (lN rfl) rfl rfl (nw_add hp4)),
    okp rfl rfl (oqM (lN rfl) rfl),
    trivial⟩ ?_
   refine fqK (s' := [kt 3 (.o 5 6 ((x2.1 ++ [(pt a0 x2.2)]).length)), kt 6 (.v (.slice a0_p a0.length a0_c)), kt 7 (.i (((a0.length : Nat) : Int))), kt 8 (.i (x2.2 + 1)), (.r 5, some (.vec true 6 170 2 ((x2.1 ++ [(pt a0 x2.2)]).flatMap encPt)))]) ?_ (kp rfl) rfl
   refine fin_swp [(5, 300), (6, 301)] rfl ?_
   exact fin_cut ((x2.1 ++ [(pt a0 x2.2)]), x2.2 + 1) hm ⟨rfl, rfl, rfl, rfl, rfl, trivial⟩ rfl
  ·have hm := brk_f hz1 hm
   refine aw_exit ?_
   refine fin_then_exit ?_
   refine fin_then_exit ?_
   refine fin_block_exit ?_
   exact fin_cut x2.1 hm ⟨rfl, rfl, trivial⟩ rfl
 ·have _z := hm
  refine aqS ?_
  refine aqT (rows := [_, _]) rfl (by kernel_rfl) ⟨
   okp rfl rfl (oqM (lN rfl) rfl),
   okp rfl rfl (oqA (lN rfl) rfl),
   trivial⟩ ?_
  refine fqK (s' := [kt 2 (.o 300 301 x1.length), (.r 300, some (.vec true 301 170 2 (x1.flatMap encPt)))]) ?_ (kp rfl) rfl
  refine fqT ?_
  refine aw_ret ?_
  refine post_ret (x := .o 300 301 x1.length) rfl rfl (rqT rfl resOK_nil) rfl (fun mm aa ww hr => ?_)
  have hm := Option.some.inj hm
  subst hm
  exact ⟨[⟨ptr0 (mm 300) (mm 301), x1.length, mm 301⟩], rfl, ⟨⟨rfl, newAt_row hr mine_nil rfl (flat_length (enc := encPt) (fun _ => rfl) _), trivial⟩, ⟨trivial, trivial⟩⟩, hr.below⟩

def m32 (F : Nat) (a0 : Ship) : Option (Ship) :=
 bnd (m45 F a0.Thrust) (fun v1 => bnd (m45 F a0.Water) (fun v2 => bnd (m45 F a0.Ice) (fun v3 => some ((⟨a0.Class, a0.Power, a0.Draught, a0.Tonnes, v1, v2, v3, a0.Slow, a0.Brash, a0.Ridge, a0.Press⟩ : Ship)))))

theorem c32 (F : Nat) (a0 : Ship) (a0_Thrust_s : SlV) (a0_Water_s : SlV) (a0_Ice_s : SlV) (w : World) (ha0_Thrust : SlIs encPt 2 w a0_Thrust_s a0.Thrust) (ha0_Water : SlIs encPt 2 w a0_Water_s a0.Water) (ha0_Ice : SlIs encPt 2 w a0_Ice_s a0.Ice) (r : Ship) (hm : m32 F a0 = some r) : Calls Tryd.prog 32 #[.agg #[.int .i64 a0.Class, .int .i64 a0.Power, .int .i64 a0.Draught, .int .i64 a0.Tonnes, .slice a0_Thrust_s.p a0_Thrust_s.n a0_Thrust_s.c, .slice a0_Water_s.p a0_Water_s.n a0_Water_s.c, .slice a0_Ice_s.p a0_Ice_s.n a0_Ice_s.c, .int .i64 a0.Slow, .int .i64 a0.Brash, .int .i64 a0.Ridge, .int .i64 a0.Press]] w fun e w' => ∃ sl : List SlV, e = .returned ((fun vs => .agg #[.int .i64 r.Class, .int .i64 r.Power, .int .i64 r.Draught, .int .i64 r.Tonnes, (vs.getD 0 (.bool false)), (vs.getD 1 (.bool false)), (vs.getD 2 (.bool false)), .int .i64 r.Slow, .int .i64 r.Brash, .int .i64 r.Ridge, .int .i64 r.Press]) (sl.map SlV.val)) ∧ NewRowsD w w' sl [(r.Thrust.length, 170, 2, r.Thrust.flatMap encPt), (r.Water.length, 170, 2, r.Water.flatMap encPt), (r.Ice.length, 170, 2, r.Ice.flatMap encPt)] ∧ Below w.heap.size w w' := by
 obtain ⟨a0Tp, a0Tn, a0Tc⟩ := a0_Thrust_s
 have ha0_Thrust_l : a0Tn = a0.Thrust.length := ha0_Thrust.1
 subst ha0_Thrust_l
 obtain ⟨a0_Thrust_b, a0To, ha0_Thrust_p, ha0_Thrust_L⟩ := SlAt.lies' ha0_Thrust
 obtain ⟨a0Wp, a0Wn, a0Wc⟩ := a0_Water_s
 have ha0_Water_l : a0Wn = a0.Water.length := ha0_Water.1
 subst ha0_Water_l
 obtain ⟨a0_Water_b, a0Wo, ha0_Water_p, ha0_Water_L⟩ := SlAt.lies' ha0_Water
 obtain ⟨a0Ip, a0In, a0Ic⟩ := a0_Ice_s
 have ha0_Ice_l : a0In = a0.Ice.length := ha0_Ice.1
 subst ha0_Ice_l
 obtain ⟨a0_Ice_b, a0Io, ha0_Ice_p, ha0_Ice_L⟩ := SlAt.lies' ha0_Ice
 unfold m32 at hm
 refine enter (args := [.g [.i a0.Class, .i a0.Power, .i a0.Draught, .i a0.Tonnes, .v (.slice a0Tp a0.Thrust.length a0Tc), .v (.slice a0Wp a0.Water.length a0Wc), .v (.slice a0Ip a0.Ice.length a0Ic), .i a0.Slow, .i a0.Brash, .i a0.Ridge, .i a0.Press]]) Tryd.func32 rfl (N := 29) rfl (Nat.le_of_ble_eq_true rfl) ?_
 refine aqS ?_
 refine aqT (rows := [_, _]) rfl (by kernel_rfl) ⟨
  okp rfl rfl (op_boxN (L := 1) (lN rfl) rfl rfl rfl),
  okp rfl rfl (op_alloc (L := 2) (lN rfl) zl_64),
  trivial⟩ ?_
 refine fqK (s' := (kt 1 (.p 1 0) :: kt 2 (.p 2 0) :: kb 1 25 11 :: kb 2 64 11 :: sK 1 a0 (.v (.slice a0Tp a0.Thrust.length a0Tc)) (.v (.slice a0Wp a0.Water.length a0Wc)) (.v (.slice a0Ip a0.Ice.length a0Ic)) [kc 2 0 (.i 0), kc 2 1 (.i 0), kc 2 2 (.i 0), kc 2 3 (.i 0), kc 2 4 (.v (.slice none 0 0)), kc 2 5 (.v (.slice none 0 0)), kc 2 6 (.v (.slice none 0 0)), kc 2 7 (.i 0), kc 2 8 (.i 0), kc 2 9 (.i 0), kc 2 10 (.i 0)])) ?_ (kp rfl) rfl
 refine fqT ?_
 refine aqS ?_
 obtain ⟨v1, hv1, hm⟩ := bnd_some hm
 obtain ⟨v2, hv2, hm⟩ := bnd_some hm
 obtain ⟨v3, hv3, hm⟩ := bnd_some hm
 refine aw_any (rows := [_, _, _, _, _, _, _, _, _, _, _, _, _, _, _, _, _, _, _, _, _, _, _, _, _, _, _]) (M := [0, 1, 0, 4, 0, 16, 0, 64, 0, 256, 768, 0, 2048, 7936, 0, 16384, 65280, 0, 131072, 0, 524288, 0, 2097152, 0, 8388608, 33554431, 67108863]) Tryd_mixed (by kernel_rfl) rfl (by kernel_rfl) ⟨
  okp rfl rfl (oqF (lN rfl) rfl fo_25_0),
  okp rfl rfl (oq1 (lN rfl) sh_3 rfl rfl),
  okp rfl rfl (oqF (lN rfl) rfl fo_25_1),
  okp rfl rfl (oq1 (lN rfl) sh_3 rfl rfl),
  okp rfl rfl (oqF (lN rfl) rfl fo_25_2),
  okp rfl rfl (oq1 (lN rfl) sh_3 rfl rfl),
  okp rfl rfl (oqF (lN rfl) rfl fo_25_3),
  okp rfl rfl (oq1 (lN rfl) sh_3 rfl rfl),
  okp rfl rfl (oqF (lN rfl) rfl fo_25_4),
  okp rfl rfl (oq1 (lN rfl) sh_23 rfl rfl),
  okp rfl rfl (op_callRowsD (x := .o 3 4 v1.length) (R := (fun vs => (vs.getD 0 (.bool false)))) (ls := [(3, 4)]) (ds := [(v1.length, 170, 2, v1.flatMap encPt)]) (fs := []) (caps := []) (extra := []) (lN rfl) en_45 rfl ⟨rfl, rfl, rfl⟩ (EvL.cons rfl EvL.nil) rfl rfl (fun _ => rfl) (fun mm aa ww gg hr hrel => (c45 F a0.Thrust ⟨a0Tp, a0.Thrust.length, a0Tc⟩ ww (SlIs.mono ha0_Thrust hrel.below) v1 hv1))),
  okp rfl rfl (oqF (lN rfl) rfl fo_25_5),
  okp rfl rfl (oq1 (lN rfl) sh_23 rfl rfl),
  okp rfl rfl (op_callRowsD (x := .o 5 6 v2.length) (R := (fun vs => (vs.getD 0 (.bool false)))) (ls := [(5, 6)]) (ds := [(v2.length, 170, 2, v2.flatMap encPt)]) (fs := []) (caps := []) (extra := []) (lN rfl) en_45 rfl ⟨rfl, rfl, rfl⟩ (EvL.cons rfl EvL.nil) rfl rfl (fun _ => rfl) (fun mm aa ww gg hr hrel => (c45 F a0.Water ⟨a0Wp, a0.Water.length, a0Wc⟩ ww (SlIs.mono ha0_Water hrel.below) v2 hv2))),
  okp rfl rfl (oqF (lN rfl) rfl fo_25_6),
  okp rfl rfl (oq1 (lN rfl) sh_23 rfl rfl),
  okp rfl rfl (op_callRowsD (x := .o 7 8 v3.length) (R := (fun vs => (vs.getD 0 (.bool false)))) (ls := [(7, 8)]) (ds := [(v3.length, 170, 2, v3.flatMap encPt)]) (fs := []) (caps := []) (extra := []) (lN rfl) en_45 rfl ⟨rfl, rfl, rfl⟩ (EvL.cons rfl EvL.nil) rfl rfl (fun _ => rfl) (fun mm aa ww gg hr hrel => (c45 F a0.Ice ⟨a0Ip, a0.Ice.length, a0Ic⟩ ww (SlIs.mono ha0_Ice hrel.below) v3 hv3))),
  okp rfl rfl (oqF (lN rfl) rfl fo_25_7),
  okp rfl rfl (oq1 (lN rfl) sh_3 rfl rfl),
  okp rfl rfl (oqF (lN rfl) rfl fo_25_8),
  okp rfl rfl (oq1 (lN rfl) sh_3 rfl rfl),
  okp rfl rfl (oqF (lN rfl) rfl fo_25_9),
  okp rfl rfl (oq1 (lN rfl) sh_3 rfl rfl),
  okp rfl rfl (oqF (lN rfl) rfl fo_25_10),
  okp rfl rfl (oq1 (lN rfl) sh_3 rfl rfl),
  okp rfl rfl (op_build (x := .g [.i a0.Class, .i a0.Power, .i a0.Draught, .i a0.Tonnes, .o 3 4 v1.length, .o 5 6 v2.length, .o 7 8 v3.length, .i a0.Slow, .i a0.Brash, .i a0.Ridge, .i a0.Press]) (lN rfl) (EvL.cons rfl (EvL.cons rfl (EvL.cons rfl (EvL.cons rfl (EvL.cons rfl (EvL.cons rfl (EvL.cons rfl (EvL.cons rfl (EvL.cons rfl (EvL.cons rfl (EvL.cons rfl EvL.nil))))))))))) (fun m w => by kernel_rfl)),
  okp rfl rfl (op_storeN sz_64 rfl rfl rfl rfl rfl (by decide)),
  trivial⟩ ?_
 refine fqK (s' := (kt 2 (.p 2 0) :: kb 2 64 11 :: (.r 3, some (.vec true 4 170 2 (v1.flatMap encPt))) :: (.r 5, some (.vec true 6 170 2 (v2.flatMap encPt))) :: (.r 7, some (.vec true 8 170 2 (v3.flatMap encPt))) :: sK 2 a0 (.o 3 4 v1.length) (.o 5 6 v2.length) (.o 7 8 v3.length) [])) ?_ (kp rfl) rfl
 refine fqT ?_
 refine aw_ret ?_
 refine post_ret (x := .g [.i a0.Class, .i a0.Power, .i a0.Draught, .i a0.Tonnes, .o 3 4 v1.length, .o 5 6 v2.length, .o 7 8 v3.length, .i a0.Slow, .i a0.Brash, .i a0.Ridge, .i a0.Press]) rfl rfl (resOK_cellN (ys := [.i a0.Class, .i a0.Power, .i a0.Draught, .i a0.Tonnes, .o 3 4 v1.length, .o 5 6 v2.length, .o 7 8 v3.length, .i a0.Slow, .i a0.Brash, .i a0.Ridge, .i a0.Press]) rfl sh_64 rfl ⟨rfl, rfl, rfl, rfl, rfl, rfl, rfl, rfl, rfl, rfl, rfl, trivial⟩ resOK_nil) rfl (fun mm aa ww hr => ?_)
 have hm := Option.some.inj hm
 subst hm
 exact ⟨[⟨ptr0 (mm 3) (mm 4), v1.length, mm 4⟩, ⟨ptr0 (mm 5) (mm 6), v2.length, mm 6⟩, ⟨ptr0 (mm 7) (mm 8), v3.length, mm 8⟩], rfl, ⟨⟨rfl, newAt_row hr mine_nil rfl (flat_length (enc := encPt) (fun _ => rfl) _), rfl, newAt_row hr mine_nil rfl (flat_length (enc := encPt) (fun _ => rfl) _), rfl, newAt_row hr mine_nil rfl (flat_length (enc := encPt) (fun _ => rfl) _), trivial⟩, ⟨⟨apart_rr hr rfl rfl (by decide), apart_rr hr rfl rfl (by decide), trivial⟩, ⟨⟨apart_rr hr rfl rfl (by decide), trivial⟩, ⟨trivial, trivial⟩⟩⟩⟩, hr.below⟩

def m48 (F : Nat) (a0 : List Pt) (a1 : List Pt) : Option (Bool) :=
 brk ((((a0.length : Nat) : Int)) != (((a1.length : Nat) : Int))) (some false) (join (fun (_ : Unit) => some true) (fun k1 => loopC (fun (x2 : Int) n2 => brk (decide (x2 < (((a0.length : Nat) : Int)))) (chk (0 ≤ x2 ∧ x2 < ((a0.length : Nat) : Int)) (chk (0 ≤ x2 ∧ x2 < ((a1.length : Nat) : Int)) (brk (!decide ((pt a0 x2) = (pt a1 x2))) (some false) (chk (InR (x2 + 1)) (n2 (x2 + 1)))))) (k1 ())) F 0))

theorem c48 (F : Nat) (a0 : List Pt) (a0_s : SlV) (a1 : List Pt) (a1_s : SlV) (w : World) (ha0 : SlIs encPt 2 w a0_s a0) (ha1 : SlIs encPt 2 w a1_s a1) (r : Bool) (hm : m48 F a0 a1 = some r) : Calls Tryd.prog 48 #[.slice a0_s.p a0_s.n a0_s.c, .slice a1_s.p a1_s.n a1_s.c] w fun e w' => e = .returned (.bool r) ∧ Below w.heap.size w w' := by
 obtain ⟨a0_p, a0_n, a0_c⟩ := a0_s
 have ha0_l : a0_n = a0.length := ha0.1
 subst ha0_l
 obtain ⟨a0_b, a0_o, ha0_p, ha0_L⟩ := SlAt.lies' ha0
 obtain ⟨a1_p, a1_n, a1_c⟩ := a1_s
 have ha1_l : a1_n = a1.length := ha1.1
 subst ha1_l
 obtain ⟨a1_b, a1_o, ha1_p, ha1_L⟩ := SlAt.lies' ha1
 unfold m48 at hm
 refine enter (args := [.v (.slice a0_p a0.length a0_c), .v (.slice a1_p a1.length a1_c)]) Tryd.func48 rfl (N := 26) rfl (Nat.le_of_ble_eq_true rfl) ?_
 refine aqS ?_
 refine aqT (rows := [_]) rfl (by kernel_rfl) ⟨
  okp rfl rfl (oqA (lN rfl) rfl),
  trivial⟩ ?_
 refine fqK (s' := [kt 0 (.v (.slice a0_p a0.length a0_c)), kt 1 (.v (.slice a1_p a1.length a1_c))]) ?_ (kp rfl) rfl
 refine fqT ?_
 refine aqS ?_
 refine aqS ?_
 refine aqT (rows := [_, _, _, _, _]) rfl (by kernel_rfl) ⟨
  okp rfl rfl (oqM (lN rfl) rfl),
  okp rfl rfl (op_len (n := a0.length) (lN rfl) (by rw [ss_23]; rfl) rfl rfl),
  okp rfl rfl (oqM (lN rfl) rfl),
  okp rfl rfl (op_len (n := a1.length) (lN rfl) (by rw [ss_23]; rfl) rfl rfl),
  okp rfl rfl (oqB (lN rfl) rfl rfl rfl),
  trivial⟩ ?_
 refine fqK (s' := [kt 0 (.v (.slice a0_p a0.length a0_c)), kt 1 (.v (.slice a1_p a1.length a1_c)), kt 10 (.B ((((a0.length : Nat) : Int)) != (((a1.length : Nat) : Int))))]) ?_ (kp rfl) rfl
 refine fqT ?_
 refine aw_cond rfl (fun hz1 => ?_) (fun hz1 => ?_)
 ·have hm := brk_t hz1 hm
  refine aqS ?_
  refine aqT (rows := [_]) rfl (by kernel_rfl) ⟨
   okp rfl rfl (oqA (lN rfl) rfl),
   trivial⟩ ?_
  refine fqK (s' := [kt 4 (.B false)]) ?_ (kp rfl) rfl
  refine fqT ?_
  refine aw_ret ?_
  refine fin_then_ret ?_
  refine post_ret (x := .B false) rfl rfl (rqT rfl resOK_nil) rfl (fun mm aa ww hr => ?_)
  have hm := Option.some.inj hm
  subst hm
  exact ⟨rfl, hr.below⟩
 ·have hm := brk_f hz1 hm
  refine aw_skip ?_
  refine fqT ?_
  refine aw_cutM (ι := Unit) hm (fun x1 => []) (fun hm => ?_) (fun x1 hm => ?_)
  ·have _z := hm
   refine aqS ?_
   refine aqT (rows := [_, _, _]) rfl (by kernel_rfl) ⟨
    okp rfl rfl (oqM (lN rfl) rfl),
    okp rfl rfl (op_len (n := a0.length) (lN rfl) (by rw [ss_23]; rfl) rfl rfl),
    okp rfl rfl (oqM (lN rfl) rfl),
    trivial⟩ ?_
   refine fqK (s' := [kt 0 (.v (.slice a0_p a0.length a0_c)), kt 1 (.v (.slice a1_p a1.length a1_c)), kt 12 (.i (((a0.length : Nat) : Int))), kt 13 (.i 0)]) ?_ (kp rfl) rfl
   refine fqT ?_
   refine aw_block ?_
   refine aw_loopC hm (fun x2 => [kt 0 (.v (.slice a0_p a0.length a0_c)), kt 1 (.v (.slice a1_p a1.length a1_c)), kt 12 (.i (((a0.length : Nat) : Int))), kt 13 (.i x2)]) ⟨rfl, rfl, rfl, rfl, trivial⟩ rfl (fun x2 n2 hm => ?_)
   refine aqS ?_
   refine aqT (rows := [_]) rfl (by kernel_rfl) ⟨
    okp rfl rfl (oqB (lN rfl) rfl rfl rfl),
    trivial⟩ ?_
   refine fqK (s' := [kt 0 (.v (.slice a0_p a0.length a0_c)), kt 1 (.v (.slice a1_p a1.length a1_c)), kt 12 (.i (((a0.length : Nat) : Int))), kt 13 (.i x2), kt 14 (.B (decide (x2 < (((a0.length : Nat) : Int)))))]) ?_ (kp rfl) rfl
   refine fqT ?_
   refine aqS ?_
   refine aw_cond rfl (fun hz2 => ?_) (fun hz2 => ?_)
   ·have hm := brk_t hz2 hm
    refine aw_skip ?_
    refine fqT ?_
    refine aqS ?_
    refine aw_block ?_
    refine aqS ?_
    refine aqT (rows := [_, _]) rfl (by kernel_rfl) ⟨
     okp rfl rfl (oqM (lN rfl) rfl),
     okp rfl rfl (oqA (lN rfl) rfl),
     trivial⟩ ?_
    refine fqK (s' := [kt 0 (.v (.slice a0_p a0.length a0_c)), kt 1 (.v (.slice a1_p a1.length a1_c)), kt 5 (.i x2), kt 12 (.i (((a0.length : Nat) : Int))), kt 13 (.i x2)]) ?_ (kp rfl) rfl
    refine fqT ?_
    refine aqS ?_
    obtain ⟨hp3, hm⟩ := chk_some hm
    obtain ⟨hp4, hm⟩ := chk_some hm
    refine aw_any (rows := [_, _, _, _, _, _, _, _, _]) (M := [0, 0, 3, 7, 0, 0, 48, 112, 255]) Tryd_mixed (by kernel_rfl) rfl (by kernel_rfl) ⟨
     okp rfl rfl (oqM (lN rfl) rfl),
     okp rfl rfl (oqM (lN rfl) rfl),
     okp rfl rfl (op_ixB (lN rfl) rfl rfl ss_23 (ha0_p (ne_of_ix (i := x2) hp3.1 hp3.2)) hp3.1 hp3.2),
     okp rfl rfl (op_loadB (y := .g [.i (((pt a0 x2)).X), .i (((pt a0 x2)).Y)]) (lN rfl) rfl (ldN (ha0_L (ne_of_ix (i := x2) hp3.1 hp3.2)) ⟨0, 0⟩ (i := x2) hp3.1 hp3.2 0 (vs := [(.int .i64 (((pt a0 x2)).X)), (.int .i64 (((pt a0 x2)).Y))]) (fun zq zv zh => sub_get (vs := [(.int .i64 (((pt a0 x2)).X)), (.int .i64 (((pt a0 x2)).Y))]) rfl zh) rfl sh_84 rfl)),
     okp rfl rfl (oqM (lN rfl) rfl),
     okp rfl rfl (oqM (lN rfl) rfl),
     okp rfl rfl (op_ixB (lN rfl) rfl rfl ss_23 (ha1_p (ne_of_ix (i := x2) hp4.1 hp4.2)) hp4.1 hp4.2),
     okp rfl rfl (op_loadB (y := .g [.i (((pt a1 x2)).X), .i (((pt a1 x2)).Y)]) (lN rfl) rfl (ldN (ha1_L (ne_of_ix (i := x2) hp4.1 hp4.2)) ⟨0, 0⟩ (i := x2) hp4.1 hp4.2 0 (vs := [(.int .i64 (((pt a1 x2)).X)), (.int .i64 (((pt a1 x2)).Y))]) (fun zq zv zh => sub_get (vs := [(.int .i64 (((pt a1 x2)).X)), (.int .i64 (((pt a1 x2)).Y))]) rfl zh) rfl sh_84 rfl)),
     okp rfl rfl (op_neS (r := decide ((pt a0 x2) = (pt a1 x2))) (lN rfl) rfl rfl eqg_84 (fun _ => Eq.trans (by kernel_rfl) (congrArg some (Pt_eqd ((pt a0 x2)) ((pt a1 x2)))))),
     trivial⟩ ?_
    refine fqK (s' := [kt 0 (.v (.slice a0_p a0.length a0_c)), kt 1 (.v (.slice a1_p a1.length a1_c)), kt 12 (.i (((a0.length : Nat) : Int))), kt 13 (.i x2), kt 24 (.B (!decide ((pt a0 x2) = (pt a1 x2))))]) ?_ (kp rfl) rfl
    refine fqT ?_
    refine aw_cond rfl (fun hz5 => ?_) (fun hz5 => ?_)
    ·have hm := brk_t hz5 hm
     refine aqS ?_
     refine aqT (rows := [_]) rfl (by kernel_rfl) ⟨
      okp rfl rfl (oqA (lN rfl) rfl),
      trivial⟩ ?_
     refine fqK (s' := [kt 4 (.B false)]) ?_ (kp rfl) rfl
     refine fqT ?_
     refine aw_ret ?_
     refine fin_block_ret ?_
     refine fin_then_ret ?_
     refine fin_then_ret ?_
     refine fin_block_ret ?_
     refine fin_then_ret ?_
     refine post_ret (x := .B false) rfl rfl (rqT rfl resOK_nil) rfl (fun mm aa ww hr => ?_)
     have hm := Option.some.inj hm
     subst hm
     exact ⟨rfl, hr.below⟩
    ·have hm := brk_f hz5 hm
     refine aw_skip ?_
     refine fin_block ?_
     refine fqT ?_
     obtain ⟨hp6, hm⟩ := chk_some hm
     refine aqT (rows := [_, _]) rfl (by kernel_rfl) ⟨
      okp rfl rfl (oqB (lN rfl) rfl rfl (nw_add hp6)),
      okp rfl rfl (oqM (lN rfl) rfl),
      trivial⟩ ?_
     refine fqK (s' := [kt 0 (.v (.slice a0_p a0.length a0_c)), kt 1 (.v (.slice a1_p a1.length a1_c)), kt 12 (.i (((a0.length : Nat) : Int))), kt 13 (.i (x2 + 1))]) ?_ (kp rfl) rfl
     exact fin_cut (x2 + 1) hm ⟨rfl, rfl, rfl, rfl, trivial⟩ rfl
   ·have hm := brk_f hz2 hm
    refine aw_exit ?_
    refine fin_then_exit ?_
    refine fin_then_exit ?_
    refine fin_block_exit ?_
    exact fin_cut () hm trivial rfl
  ·have _z := hm
   refine aqS ?_
   refine aqT (rows := [_]) rfl (by kernel_rfl) ⟨
    okp rfl rfl (oqA (lN rfl) rfl),
    trivial⟩ ?_
   refine fqK (s' := [kt 4 (.B true)]) ?_ (kp rfl) rfl
   refine fqT ?_
   refine aw_ret ?_
   refine post_ret (x := .B true) rfl rfl (rqT rfl resOK_nil) rfl (fun mm aa ww hr => ?_)
   have hm := Option.some.inj hm
   subst hm
   exact ⟨rfl, hr.below⟩

def m39 (F : Nat) (a0 : Ship) (a1 : Ship) : Option (Bool) :=
 bnd (m48 F a0.Thrust a1.Thrust) (fun v1 => bnd (brk ((!v1)) (some default) (m48 F a0.Water a1.Water)) (fun v2 => bnd (brk (((!v1) || (!v2))) (some default) (m48 F a0.Ice a1.Ice)) (fun v3 => brk (((!v1) || (!v2)) || (!v3)) (some false) (some ((((((((a0.Class == a1.Class) && (a0.Power == a1.Power)) && (a0.Draught == a1.Draught)) && (a0.Tonnes == a1.Tonnes)) && (a0.Slow == a1.Slow)) && (a0.Brash == a1.Brash)) && (a0.Ridge == a1.Ridge)) && (a0.Press == a1.Press))))))

theorem c39 (F : Nat) (a0 : Ship) (a0_Thrust_s : SlV) (a0_Water_s : SlV) (a0_Ice_s : SlV) (a1 : Ship) (a1_Thrust_s : SlV) (a1_Water_s : SlV) (a1_Ice_s : SlV) (w : World) (ha0_Thrust : SlIs encPt 2 w a0_Thrust_s a0.Thrust) (ha0_Water : SlIs encPt 2 w a0_Water_s a0.Water) (ha0_Ice : SlIs encPt 2 w a0_Ice_s a0.Ice) (ha1_Thrust : SlIs encPt 2 w a1_Thrust_s a1.Thrust) (ha1_Water : SlIs encPt 2 w a1_Water_s a1.Water) (ha1_Ice : SlIs encPt 2 w a1_Ice_s a1.Ice) (r : Bool) (hm : m39 F a0 a1 = some r) : Calls Tryd.prog 39 #[.agg #[.int .i64 a0.Class, .int .i64 a0.Power, .int .i64 a0.Draught, .int .i64 a0.Tonnes, .slice a0_Thrust_s.p a0_Thrust_s.n a0_Thrust_s.c, .slice a0_Water_s.p a0_Water_s.n a0_Water_s.c, .slice a0_Ice_s.p a0_Ice_s.n a0_Ice_s.c, .int .i64 a0.Slow, .int .i64 a0.Brash, .int .i64 a0.Ridge, .int .i64 a0.Press], .agg #[.int .i64 a1.Class, .int .i64 a1.Power, .int .i64 a1.Draught, .int .i64 a1.Tonnes, .slice a1_Thrust_s.p a1_Thrust_s.n a1_Thrust_s.c, .slice a1_Water_s.p a1_Water_s.n a1_Water_s.c, .slice a1_Ice_s.p a1_Ice_s.n a1_Ice_s.c, .int .i64 a1.Slow, .int .i64 a1.Brash, .int .i64 a1.Ridge, .int .i64 a1.Press]] w fun e w' => e = .returned (.bool r) ∧ Below w.heap.size w w' := by
 obtain ⟨a0Tp, a0Tn, a0Tc⟩ := a0_Thrust_s
 have ha0_Thrust_l : a0Tn = a0.Thrust.length := ha0_Thrust.1
 subst ha0_Thrust_l
 obtain ⟨a0_Thrust_b, a0To, ha0_Thrust_p, ha0_Thrust_L⟩ := SlAt.lies' ha0_Thrust
 obtain ⟨a0Wp, a0Wn, a0Wc⟩ := a0_Water_s
 have ha0_Water_l : a0Wn = a0.Water.length := ha0_Water.1
 subst ha0_Water_l
 obtain ⟨a0_Water_b, a0Wo, ha0_Water_p, ha0_Water_L⟩ := SlAt.lies' ha0_Water
 obtain ⟨a0Ip, a0In, a0Ic⟩ := a0_Ice_s
 have ha0_Ice_l : a0In = a0.Ice.length := ha0_Ice.1
 subst ha0_Ice_l
 obtain ⟨a0_Ice_b, a0Io, ha0_Ice_p, ha0_Ice_L⟩ := SlAt.lies' ha0_Ice
 obtain ⟨a1_Thrust_p, a1_Thrust_n, a1_Thrust_c⟩ := a1_Thrust_s
 have ha1_Thrust_l : a1_Thrust_n = a1.Thrust.length := ha1_Thrust.1
 subst ha1_Thrust_l
 obtain ⟨a1_Thrust_b, a1_Thrust_o, ha1_Thrust_p, ha1_Thrust_L⟩ := SlAt.lies' ha1_Thrust
 obtain ⟨a1_Water_p, a1_Water_n, a1_Water_c⟩ := a1_Water_s
 have ha1_Water_l : a1_Water_n = a1.Water.length := ha1_Water.1
 subst ha1_Water_l
 obtain ⟨a1_Water_b, a1_Water_o, ha1_Water_p, ha1_Water_L⟩ := SlAt.lies' ha1_Water
 obtain ⟨a1_Ice_p, a1_Ice_n, a1_Ice_c⟩ := a1_Ice_s
 have ha1_Ice_l : a1_Ice_n = a1.Ice.length := ha1_Ice.1
 subst ha1_Ice_l
 obtain ⟨a1_Ice_b, a1_Ice_o, ha1_Ice_p, ha1_Ice_L⟩ := SlAt.lies' ha1_Ice
 unfold m39 at hm
 refine enter (args := [.g [.i a0.Class, .i a0.Power, .i a0.Draught, .i a0.Tonnes, .v (.slice a0Tp a0.Thrust.length a0Tc), .v (.slice a0Wp a0.Water.length a0Wc), .v (.slice a0Ip a0.Ice.length a0Ic), .i a0.Slow, .i a0.Brash, .i a0.Ridge, .i a0.Press], .g [.i a1.Class, .i a1.Power, .i a1.Draught, .i a1.Tonnes, .v (.slice a1_Thrust_p a1.Thrust.length a1_Thrust_c), .v (.slice a1_Water_p a1.Water.length a1_Water_c), .v (.slice a1_Ice_p a1.Ice.length a1_Ice_c), .i a1.Slow, .i a1.Brash, .i a1.Ridge, .i a1.Press]]) Tryd.func39 rfl (N := 81) rfl (Nat.le_of_ble_eq_true rfl) ?_
 refine aqS ?_
 refine aqT (rows := [_, _, _]) rfl (by kernel_rfl) ⟨
  okp rfl rfl (op_boxN (L := 1) (lN rfl) rfl rfl rfl),
  okp rfl rfl (op_boxN (L := 2) (lN rfl) rfl rfl rfl),
  okp rfl rfl (oqA (lN rfl) rfl),
  trivial⟩ ?_
 refine fqK (s' := (kt 2 (.p 1 0) :: kt 3 (.p 2 0) :: kb 1 25 11 :: kb 2 25 11 :: sK 1 a0 (.v (.slice a0Tp a0.Thrust.length a0Tc)) (.v (.slice a0Wp a0.Water.length a0Wc)) (.v (.slice a0Ip a0.Ice.length a0Ic)) (sK 2 a1 (.v (.slice a1_Thrust_p a1.Thrust.length a1_Thrust_c)) (.v (.slice a1_Water_p a1.Water.length a1_Water_c)) (.v (.slice a1_Ice_p a1.Ice.length a1_Ice_c)) []))) ?_ (kp rfl) rfl
 refine fqT ?_
 refine aqS ?_
 refine aqS ?_
 obtain ⟨v1, hv1, hm⟩ := bnd_some hm
 obtain ⟨v2, hv2, hm⟩ := bnd_some hm
 obtain ⟨v3, hv3, hm⟩ := bnd_some hm
 refine aqT (rows := [_, _, _, _, _, _, _, _, _, _, _, _, _, _, _, _, _, _, _, _, _, _]) rfl (by kernel_rfl) ⟨
  okp rfl rfl (oqF (lN rfl) rfl fo_25_4),
  okp rfl rfl (oq1 (lN rfl) sh_23 rfl rfl),
  okp rfl rfl (oqF (lN rfl) rfl fo_25_4),
  okp rfl rfl (oq1 (lN rfl) sh_23 rfl rfl),
  okp rfl rfl (oqC (x := .B v1) (fs := []) (caps := []) (extra := []) (lN rfl) en_48 rfl ⟨rfl, rfl, rfl⟩ (EvL.cons rfl (EvL.cons rfl EvL.nil)) (fun mm aa ww gg hr hrel => (c48 F a0.Thrust ⟨a0Tp, a0.Thrust.length, a0Tc⟩ a1.Thrust ⟨a1_Thrust_p, a1.Thrust.length, a1_Thrust_c⟩ ww (SlIs.mono ha0_Thrust hrel.below) (SlIs.mono ha1_Thrust hrel.below) v1 hv1))),
  okp rfl rfl (op_not (lN rfl) rfl),
  okp rfl rfl (oqM (lN rfl) rfl),
  ok_if (lN rfl) rfl rfl rfl rfl rfl rfl (fun hg1 => oqF (lN rfl) (force_x rfl) fo_25_5),
  ok_if (lN rfl) rfl rfl rfl rfl rfl rfl (fun hg2 => oq1 (lN rfl) sh_23 (force_eq (beq_iff_eq.2 hg2) rfl) rfl),
  ok_if (lN rfl) rfl rfl rfl rfl rfl rfl (fun hg3 => oqF (lN rfl) (force_x rfl) fo_25_5),
  ok_if (lN rfl) rfl rfl rfl rfl rfl rfl (fun hg4 => oq1 (lN rfl) sh_23 (force_eq (beq_iff_eq.2 hg4) rfl) rfl),
  ok_if (lN rfl) rfl rfl rfl rfl rfl rfl (fun hg5 => oqC (x := .B v2) (fs := []) (caps := []) (extra := []) (lN rfl) en_48 rfl ⟨rfl, rfl, rfl⟩ (EvL.cons (force_eq (beq_iff_eq.2 hg5) rfl) (EvL.cons (force_eq (beq_iff_eq.2 hg5) rfl) EvL.nil)) (fun mm aa ww gg hr hrel => (c48 F a0.Water ⟨a0Wp, a0.Water.length, a0Wc⟩ a1.Water ⟨a1_Water_p, a1.Water.length, a1_Water_c⟩ ww (SlIs.mono ha0_Water hrel.below) (SlIs.mono ha1_Water hrel.below) v2 (brk_f hg5 hv2)))),
  ok_if (lN rfl) rfl rfl rfl rfl rfl rfl (fun hg6 => op_not (lN rfl) (force_eq (beq_iff_eq.2 hg6) rfl)),
  okp rfl rfl (op_or (lN rfl) rfl rfl),
  okp rfl rfl (oqM (lN rfl) rfl),
  ok_if (lN rfl) rfl rfl rfl rfl rfl rfl (fun hg7 => oqF (lN rfl) (force_x rfl) fo_25_6),
  ok_if (lN rfl) rfl rfl rfl rfl rfl rfl (fun hg8 => oq1 (lN rfl) sh_23 (force_eq (beq_iff_eq.2 hg8) rfl) rfl),
  ok_if (lN rfl) rfl rfl rfl rfl rfl rfl (fun hg9 => oqF (lN rfl) (force_x rfl) fo_25_6),
  ok_if (lN rfl) rfl rfl rfl rfl rfl rfl (fun hg10 => oq1 (lN rfl) sh_23 (force_eq (beq_iff_eq.2 hg10) rfl) rfl),
  ok_if (lN rfl) rfl rfl rfl rfl rfl rfl (fun hg11 => oqC (x := .B v3) (fs := []) (caps := []) (extra := []) (lN rfl) en_48 rfl ⟨rfl, rfl, rfl⟩ (EvL.cons (force_eq (beq_iff_eq.2 hg11) rfl) (EvL.cons (force_eq (beq_iff_eq.2 hg11) rfl) EvL.nil)) (fun mm aa ww gg hr hrel => (c48 F a0.Ice ⟨a0Ip, a0.Ice.length, a0Ic⟩ a1.Ice ⟨a1_Ice_p, a1.Ice.length, a1_Ice_c⟩ ww (SlIs.mono ha0_Ice hrel.below) (SlIs.mono ha1_Ice hrel.below) v3 (brk_f hg11 hv3)))),
  ok_if (lN rfl) rfl rfl rfl rfl rfl rfl (fun hg12 => op_not (lN rfl) (force_eq (beq_iff_eq.2 hg12) rfl)),
  okp rfl rfl (op_or (lN rfl) rfl rfl),
  trivial⟩ ?_
 refine fqK (s' := (kt 2 (.p 1 0) :: kt 3 (.p 2 0) :: kt 26 (.B (((!v1) || (!v2)) || (!v3))) :: kb 1 25 11 :: kb 2 25 11 :: sK 1 a0 (.v (.slice a0Tp a0.Thrust.length a0Tc)) (.v (.slice a0Wp a0.Water.length a0Wc)) (.v (.slice a0Ip a0.Ice.length a0Ic)) (sK 2 a1 (.v (.slice a1_Thrust_p a1.Thrust.length a1_Thrust_c)) (.v (.slice a1_Water_p a1.Water.length a1_Water_c)) (.v (.slice a1_Ice_p a1.Ice.length a1_Ice_c)) []))) ?_ (kp rfl) rfl
 refine fqT ?_
 refine aw_cond rfl (fun hz13 => ?_) (fun hz13 => ?_)
 ·have hm := brk_t hz13 hm
  refine aqS ?_
  refine aqT (rows := [_]) rfl (by kernel_rfl) ⟨
   okp rfl rfl (oqA (lN rfl) rfl),
   trivial⟩ ?_
  refine fqK (s' := [kt 4 (.B false)]) ?_ (kp rfl) rfl
  refine fqT ?_
  refine aw_ret ?_
  refine fin_then_ret ?_
  refine post_ret (x := .B false) rfl rfl (rqT rfl resOK_nil) rfl (fun mm aa ww hr => ?_)
  have hm := Option.some.inj hm
  subst hm
  exact ⟨rfl, hr.below⟩
 ·have hm := brk_f hz13 hm
  refine aw_skip ?_
  refine fqT ?_
  refine aqS ?_
  refine aqT (rows := [_, _, _, _, _, _, _, _, _, _, _, _, _, _, _, _, _, _, _, _, _, _, _, _, _, _, _, _, _, _, _, _, _, _, _, _, _, _, _, _, _, _, _, _, _, _, _, _, _, _, _, _, _, _, _]) rfl (by kernel_rfl) ⟨
   okp rfl rfl (oqF (lN rfl) rfl fo_25_0),
   okp rfl rfl (oq1 (lN rfl) sh_3 rfl rfl),
   okp rfl rfl (oqF (lN rfl) rfl fo_25_0),
   okp rfl rfl (oq1 (lN rfl) sh_3 rfl rfl),
   okp rfl rfl (oqB (lN rfl) rfl rfl rfl),
   okp rfl rfl (oqM (lN rfl) rfl),
   ok_if (lN rfl) rfl rfl rfl rfl rfl rfl (fun hg14 => oqF (lN rfl) (force_x rfl) fo_25_1),
   ok_if (lN rfl) rfl rfl rfl rfl rfl rfl (fun hg15 => oq1 (lN rfl) sh_3 (force_eq (beq_iff_eq.2 hg15) rfl) rfl),
   ok_if (lN rfl) rfl rfl rfl rfl rfl rfl (fun hg16 => oqF (lN rfl) (force_x rfl) fo_25_1),
   ok_if (lN rfl) rfl rfl rfl rfl rfl rfl (fun hg17 => oq1 (lN rfl) sh_3 (force_eq (beq_iff_eq.2 hg17) rfl) rfl),
   ok_if (lN rfl) rfl rfl rfl rfl rfl rfl (fun hg18 => oqB (lN rfl) (force_eq (beq_iff_eq.2 hg18) rfl) (force_eq (beq_iff_eq.2 hg18) rfl) rfl),
   okp rfl rfl (op_and (lN rfl) rfl rfl),
   okp rfl rfl (oqM (lN rfl) rfl),
   ok_if (lN rfl) rfl rfl rfl rfl rfl rfl (fun hg19 => oqF (lN rfl) (force_x rfl) fo_25_2),
   ok_if (lN rfl) rfl rfl rfl rfl rfl rfl (fun hg20 => oq1 (lN rfl) sh_3 (force_eq (beq_iff_eq.2 hg20) rfl) rfl),
   ok_if (lN rfl) rfl rfl rfl rfl rfl rfl (fun hg21 => oqF (lN rfl) (force_x rfl) fo_25_2),
   ok_if (lN rfl) rfl rfl rfl rfl rfl rfl (fun hg22 => oq1 (lN rfl) sh_3 (force_eq (beq_iff_eq.2 hg22) rfl) rfl),
   ok_if (lN rfl) rfl rfl rfl rfl rfl rfl (fun hg23 => oqB (lN rfl) (force_eq (beq_iff_eq.2 hg23) rfl) (force_eq (beq_iff_eq.2 hg23) rfl) rfl),
   okp rfl rfl (op_and (lN rfl) rfl rfl),
   okp rfl rfl (oqM (lN rfl) rfl),
   ok_if (lN rfl) rfl rfl rfl rfl rfl rfl (fun hg24 => oqF (lN rfl) (force_x rfl) fo_25_3),
   ok_if (lN rfl) rfl rfl rfl rfl rfl rfl (fun hg25 => oq1 (lN rfl) sh_3 (force_eq (beq_iff_eq.2 hg25) rfl) rfl),
   ok_if (lN rfl) rfl rfl rfl rfl rfl rfl (fun hg26 => oqF (lN rfl) (force_x rfl) fo_25_3),
   ok_if (lN rfl) rfl rfl rfl rfl rfl rfl (fun hg27 => oq1 (lN rfl) sh_3 (force_eq (beq_iff_eq.2 hg27) rfl) rfl),
   ok_if (lN rfl) rfl rfl rfl rfl rfl rfl (fun hg28 => oqB (lN rfl) (force_eq (beq_iff_eq.2 hg28) rfl) (force_eq (beq_iff_eq.2 hg28) rfl) rfl),
   okp rfl rfl (op_and (lN rfl) rfl rfl),
   okp rfl rfl (oqM (lN rfl) rfl),
   ok_if (lN rfl) rfl rfl rfl rfl rfl rfl (fun hg29 => oqF (lN rfl) (force_x rfl) fo_25_7),
   ok_if (lN rfl) rfl rfl rfl rfl rfl rfl (fun hg30 => oq1 (lN rfl) sh_3 (force_eq (beq_iff_eq.2 hg30) rfl) rfl),
   ok_if (lN rfl) rfl rfl rfl rfl rfl rfl (fun hg31 => oqF (lN rfl) (force_x rfl) fo_25_7),
   ok_if (lN rfl) rfl rfl rfl rfl rfl rfl (fun hg32 => oq1 (lN rfl) sh_3 (force_eq (beq_iff_eq.2 hg32) rfl) rfl),
   ok_if (lN rfl) rfl rfl rfl rfl rfl rfl (fun hg33 => oqB (lN rfl) (force_eq (beq_iff_eq.2 hg33) rfl) (force_eq (beq_iff_eq.2 hg33) rfl) rfl),
   okp rfl rfl (op_and (lN rfl) rfl rfl),
   okp rfl rfl (oqM (lN rfl) rfl),
   ok_if (lN rfl) rfl rfl rfl rfl rfl rfl (fun hg34 => oqF (lN rfl) (force_x rfl) fo_25_8),
   ok_if (lN rfl) rfl rfl rfl rfl rfl rfl (fun hg35 => oq1 (lN rfl) sh_3 (force_eq (beq_iff_eq.2 hg35) rfl) rfl),
   ok_if (lN rfl) rfl rfl rfl rfl rfl rfl (fun hg36 => oqF (lN rfl) (force_x rfl) fo_25_8),
   ok_if (lN rfl) rfl rfl rfl rfl rfl rfl (fun hg37 => oq1 (lN rfl) sh_3 (force_eq (beq_iff_eq.2 hg37) rfl) rfl),
   ok_if (lN rfl) rfl rfl rfl rfl rfl rfl (fun hg38 => oqB (lN rfl) (force_eq (beq_iff_eq.2 hg38) rfl) (force_eq (beq_iff_eq.2 hg38) rfl) rfl),
   okp rfl rfl (op_and (lN rfl) rfl rfl),
   okp rfl rfl (oqM (lN rfl) rfl),
   ok_if (lN rfl) rfl rfl rfl rfl rfl rfl (fun hg39 => oqF (lN rfl) (force_x rfl) fo_25_9),
   ok_if (lN rfl) rfl rfl rfl rfl rfl rfl (fun hg40 => oq1 (lN rfl) sh_3 (force_eq (beq_iff_eq.2 hg40) rfl) rfl),
   ok_if (lN rfl) rfl rfl rfl rfl rfl rfl (fun hg41 => oqF (lN rfl) (force_x rfl) fo_25_9),
   ok_if (lN rfl) rfl rfl rfl rfl rfl rfl (fun hg42 => oq1 (lN rfl) sh_3 (force_eq (beq_iff_eq.2 hg42) rfl) rfl),
   ok_if (lN rfl) rfl rfl rfl rfl rfl rfl (fun hg43 => oqB (lN rfl) (force_eq (beq_iff_eq.2 hg43) rfl) (force_eq (beq_iff_eq.2 hg43) rfl) rfl),
   okp rfl rfl (op_and (lN rfl) rfl rfl),
   okp rfl rfl (oqM (lN rfl) rfl),
   ok_if (lN rfl) rfl rfl rfl rfl rfl rfl (fun hg44 => oqF (lN rfl) (force_x rfl) fo_25_10),
   ok_if (lN rfl) rfl rfl rfl rfl rfl rfl (fun hg45 => oq1 (lN rfl) sh_3 (force_eq (beq_iff_eq.2 hg45) rfl) rfl),
   ok_if (lN rfl) rfl rfl rfl rfl rfl rfl (fun hg46 => oqF (lN rfl) (force_x rfl) fo_25_10),
   ok_if (lN rfl) rfl rfl rfl rfl rfl rfl (fun hg47 => oq1 (lN rfl) sh_3 (force_eq (beq_iff_eq.2 hg47) rfl) rfl),
   ok_if (lN rfl) rfl rfl rfl rfl rfl rfl (fun hg48 => oqB (lN rfl) (force_eq (beq_iff_eq.2 hg48) rfl) (force_eq (beq_iff_eq.2 hg48) rfl) rfl),
   okp rfl rfl (op_and (lN rfl) rfl rfl),
   okp rfl rfl (oqA (lN rfl) rfl),
   trivial⟩ ?_
  refine fqK (s' := [kt 4 (.B ((((((((a0.Class == a1.Class) && (a0.Power == a1.Power)) && (a0.Draught == a1.Draught)) && (a0.Tonnes == a1.Tonnes)) && (a0.Slow == a1.Slow)) && (a0.Brash == a1.Brash)) && (a0.Ridge == a1.Ridge)) && (a0.Press == a1.Press)))]) ?_ (kp rfl) rfl
  refine fqT ?_
  refine aw_ret ?_
  refine post_ret (x := .B ((((((((a0.Class == a1.Class) && (a0.Power == a1.Power)) && (a0.Draught == a1.Draught)) && (a0.Tonnes == a1.Tonnes)) && (a0.Slow == a1.Slow)) && (a0.Brash == a1.Brash)) && (a0.Ridge == a1.Ridge)) && (a0.Press == a1.Press))) rfl rfl (rqT rfl resOK_nil) rfl (fun mm aa ww hr => ?_)
  have hm := Option.some.inj hm
  subst hm
  exact ⟨rfl, hr.below⟩

end Go.Proofs.T
