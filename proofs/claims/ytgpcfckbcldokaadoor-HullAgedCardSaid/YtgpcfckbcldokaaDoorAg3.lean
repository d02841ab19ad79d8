/-
  This file has contracts of functions of the program: where the mirror gives a value, the call returns it. Conditions: those that each theorem names.
-/
import Derived.Test.YtgpcfckbcldokaaDoorAg2
set_option linter.unusedVariables false
namespace Go.Proofs.T
open Go Go.AX Go.RowKit Hull
theorem en_132 : Proofs.Enters Tryd.prog 132 := Proofs.enters_of Tryd.func132 (by kernel_rfl) rfl
theorem en_46 : Proofs.Enters Tryd.prog 46 := Proofs.enters_of Tryd.func46 (by kernel_rfl) rfl
theorem en_78 : Proofs.Enters Tryd.prog 78 := Proofs.enters_of Tryd.func78 (by kernel_rfl) rfl
theorem en_85 : Proofs.Enters Tryd.prog 85 := Proofs.enters_of Tryd.func85 (by kernel_rfl) rfl
theorem en_100 : Proofs.Enters Tryd.prog 100 := Proofs.enters_of Tryd.func100 (by kernel_rfl) rfl
theorem zl_136 : zeroL Tryd.prog 136 = some [(.pointer none), (.int .i64 0), (.int .i64 0), (.int .i64 0), (.int .i64 0), (.bool false)] := by kernel_rfl
theorem sz_136 : sizeIn Tryd.prog 136 = some 6 := by kernel_rfl
theorem en_76 : Proofs.Enters Tryd.prog 76 := Proofs.enters_of Tryd.func76 (by kernel_rfl) rfl
theorem en_89 : Proofs.Enters Tryd.prog 89 := Proofs.enters_of Tryd.func89 (by kernel_rfl) rfl
theorem en_75 : Proofs.Enters Tryd.prog 75 := Proofs.enters_of Tryd.func75 (by kernel_rfl) rfl
theorem fo_48_2 : fieldOff Tryd.prog 48 2 = some 9 := by kernel_rfl
theorem c78 (i : Ice) (v : Int) (w : World)  : Calls Tryd.prog 78 #[.agg #[.int .i64 i.Conc, .int .i64 i.Thick, .int .i64 i.Ridge, .int .i64 i.Press], .int .i64 v] w fun e w' => e = .returned (.int .i64 (loaded i v)) ∧ Below w.heap.size w w' := by
 refine enter (args := [.g [.i i.Conc, .i i.Thick, .i i.Ridge, .i i.Press], .i v]) Tryd.func78 rfl (N := 14) rfl (Nat.le_of_ble_eq_true rfl) ?_
 refine aqS ?_
 refine aqT (rows := [_, _]) rfl (by kernel_rfl) ⟨
  okp rfl rfl (op_boxN (L := 1) (lN rfl) rfl rfl rfl),
  okp rfl rfl (oqA (lN rfl) rfl),
  trivial⟩ ?_
 refine fqK (s' := [kt 1 (.i v), kt 2 (.p 1 0), kb 1 28 4, kc 1 0 (.i i.Conc), kc 1 1 (.i i.Thick), kc 1 2 (.i i.Ridge), kc 1 3 (.i i.Press)]) ?_ (kp rfl) rfl
 refine fqT ?_
 refine aqS ?_
 refine aqS ?_
 refine aqT (rows := [_, _, _]) rfl (by kernel_rfl) ⟨
  okp rfl rfl (oqL (ys := [.i i.Conc, .i i.Thick, .i i.Ridge, .i i.Press]) (lN rfl) sh_28 rfl rfl ⟨rfl, rfl, rfl, rfl, trivial⟩),
  okp rfl rfl (oqC (x := .i (checkIce i)) (fs := []) (caps := []) (extra := []) (lN rfl) en_132 rfl ⟨rfl, rfl, rfl⟩ (EvL.cons rfl EvL.nil) (fun mm aa ww gg hr hrel => (c132 i ww))),
  okp rfl rfl (oqA (lN rfl) rfl),
  trivial⟩ ?_
 refine fqK (s' := [kt 1 (.i v), kt 5 (.i (checkIce i))]) ?_ (kp rfl) rfl
 refine fqT ?_
 refine aqS ?_
 refine aqT (rows := [_, _]) rfl (by kernel_rfl) ⟨
  okp rfl rfl (oqM (lN rfl) rfl),
  okp rfl rfl (oqB (lN rfl) rfl rfl rfl),
  trivial⟩ ?_
 refine fqK (s' := [kt 1 (.i v), kt 5 (.i (checkIce i)), kt 9 (.B ((checkIce i) != 0))]) ?_ (kp rfl) rfl
 refine fqT ?_
 refine aqc rfl (fun hz1 => ?_) (fun hz1 => ?_)
 ·have _z := hz1
  have q2 := ne_t hz1
  refine aqS ?_
  refine aqT (rows := [_, _]) rfl (by kernel_rfl) ⟨
   okp rfl rfl (oqM (lN rfl) rfl),
   okp rfl rfl (oqA (lN rfl) rfl),
   trivial⟩ ?_
  refine fqK (s' := [kt 4 (.i (checkIce i))]) ?_ (kp rfl) rfl
  refine fqT ?_
  refine aqr ?_
  refine fqR ?_
  refine pqr (x := .i (checkIce i)) rfl rfl (rqT rfl rqN) rfl (fun mm aa ww hr => ?_)
  show Ending.returned (.int .i64 (checkIce i)) = _ ∧ _
  exact ⟨by clear hr; simp_all [loaded], hr.below⟩
 ·have _z := hz1
  have q3 := ne_f hz1
  refine aqk ?_
  refine fqT ?_
  refine aqS ?_
  refine aqS ?_
  refine aqT (rows := [_, _, _]) rfl (by kernel_rfl) ⟨
   okp rfl rfl (oqM (lN rfl) rfl),
   okp rfl rfl (oqC (x := .B (within v 0 250)) (fs := []) (caps := []) (extra := []) (lN rfl) en_84 rfl ⟨rfl, rfl, rfl⟩ (EvL.cons rfl (EvL.cons rfl (EvL.cons rfl EvL.nil))) (fun mm aa ww gg hr hrel => (c84 v 0 250 ww))),
   okp rfl rfl (oqn (lN rfl) rfl),
   trivial⟩ ?_
  refine fqK (s' := [kt 13 (.B (!(within v 0 250)))]) ?_ (kp rfl) rfl
  refine fqT ?_
  refine aqc rfl (fun hz4 => ?_) (fun hz4 => ?_)
  ·have _z := hz4
   have q5 := within_f (not_t hz4)
   refine aqS ?_
   refine aqT (rows := [_]) rfl (by kernel_rfl) ⟨
    okp rfl rfl (oqA (lN rfl) rfl),
    trivial⟩ ?_
   refine fqK (s' := [kt 4 (.i 6)]) ?_ (kp rfl) rfl
   refine fqT ?_
   refine aqr ?_
   refine fqR ?_
   refine pqr (x := .i 6) rfl rfl (rqT rfl rqN) rfl (fun mm aa ww hr => ?_)
   show Ending.returned (.int .i64 6) = _ ∧ _
   exact ⟨by clear hr; simp_all [loaded], hr.below⟩
  ·have _z := hz4
   have q6 := within_t (not_f hz4)
   refine aqk ?_
   refine fqT ?_
   refine aqS ?_
   refine aqT (rows := [_]) rfl (by kernel_rfl) ⟨
    okp rfl rfl (oqA (lN rfl) rfl),
    trivial⟩ ?_
   refine fqK (s' := [kt 4 (.i 0)]) ?_ (kp rfl) rfl
   refine fqT ?_
   refine aqr ?_
   refine pqr (x := .i 0) rfl rfl (rqT rfl rqN) rfl (fun mm aa ww hr => ?_)
   show Ending.returned (.int .i64 0) = _ ∧ _
   exact ⟨by clear hr; simp_all [loaded], hr.below⟩
theorem c75 (s : Ship) (s_Thrust_s : SlV) (s_Water_s : SlV) (s_Ice_s : SlV) (i : Ice) (v : Int) (w : World) (hs_Thrust : SlIs ePt 2 w s_Thrust_s s.Thrust) (hs_Water : SlIs ePt 2 w s_Water_s s.Water) (hs_Ice : SlIs ePt 2 w s_Ice_s s.Ice) : Calls Tryd.prog 75 #[.agg #[.int .i64 s.Class, .int .i64 s.Power, .int .i64 s.Draught, .int .i64 s.Tonnes, .slice s_Thrust_s.p s_Thrust_s.n s_Thrust_s.c, .slice s_Water_s.p s_Water_s.n s_Water_s.c, .slice s_Ice_s.p s_Ice_s.n s_Ice_s.c, .int .i64 s.Slow, .int .i64 s.Brash, .int .i64 s.Ridge, .int .i64 s.Press], .agg #[.int .i64 i.Conc, .int .i64 i.Thick, .int .i64 i.Ridge, .int .i64 i.Press], .int .i64 v] w fun e w' => e = .returned (.int .i64 (asked s i v)) ∧ Below w.heap.size w w' := by
 obtain ⟨s0Tp, s0Tn, s0Tc⟩ := s_Thrust_s
 have hs_Thrust_l : s0Tn = s.Thrust.length := hs_Thrust.1
 subst hs_Thrust_l
 obtain ⟨s_Thrust_b, s0To, hs_Thrust_p, hs_Thrust_L⟩ := SlAt.lies' hs_Thrust
 obtain ⟨s0Wp, s0Wn, s0Wc⟩ := s_Water_s
 have hs_Water_l : s0Wn = s.Water.length := hs_Water.1
 subst hs_Water_l
 obtain ⟨s_Water_b, s0Wo, hs_Water_p, hs_Water_L⟩ := SlAt.lies' hs_Water
 obtain ⟨s0Ip, s0In, s0Ic⟩ := s_Ice_s
 have hs_Ice_l : s0In = s.Ice.length := hs_Ice.1
 subst hs_Ice_l
 obtain ⟨s_Ice_b, s0Io, hs_Ice_p, hs_Ice_L⟩ := SlAt.lies' hs_Ice
 refine enter (args := [.g [.i s.Class, .i s.Power, .i s.Draught, .i s.Tonnes, .v (.slice s0Tp s.Thrust.length s0Tc), .v (.slice s0Wp s.Water.length s0Wc), .v (.slice s0Ip s.Ice.length s0Ic), .i s.Slow, .i s.Brash, .i s.Ridge, .i s.Press], .g [.i i.Conc, .i i.Thick, .i i.Ridge, .i i.Press], .i v]) Tryd.func75 rfl (N := 16) rfl (Nat.le_of_ble_eq_true rfl) ?_
 refine aqS ?_
 refine aqT (rows := [_, _, _]) rfl (by kernel_rfl) ⟨
  okp rfl rfl (op_boxN (L := 1) (lN rfl) rfl rfl rfl),
  okp rfl rfl (op_boxN (L := 2) (lN rfl) rfl rfl rfl),
  okp rfl rfl (oqA (lN rfl) rfl),
  trivial⟩ ?_
 refine fqK (s' := (kt 2 (.i v) :: kt 3 (.p 1 0) :: kt 4 (.p 2 0) :: kb 1 25 11 :: kb 2 28 4 :: sK 1 s (.v (.slice s0Tp s.Thrust.length s0Tc)) (.v (.slice s0Wp s.Water.length s0Wc)) (.v (.slice s0Ip s.Ice.length s0Ic)) [kc 2 0 (.i i.Conc), kc 2 1 (.i i.Thick), kc 2 2 (.i i.Ridge), kc 2 3 (.i i.Press)])) ?_ (kp rfl) rfl
 refine fqT ?_
 refine aqS ?_
 refine aqS ?_
 refine aqT (rows := [_, _, _]) rfl (by kernel_rfl) ⟨
  okp rfl rfl (oqL (ys := [.i s.Class, .i s.Power, .i s.Draught, .i s.Tonnes, .v (.slice s0Tp s.Thrust.length s0Tc), .v (.slice s0Wp s.Water.length s0Wc), .v (.slice s0Ip s.Ice.length s0Ic), .i s.Slow, .i s.Brash, .i s.Ridge, .i s.Press]) (lN rfl) sh_25 rfl rfl ⟨rfl, rfl, rfl, rfl, rfl, rfl, rfl, rfl, rfl, rfl, rfl, trivial⟩),
  okp rfl rfl (oqC (x := .i (check s)) (fs := []) (caps := []) (extra := []) (lN rfl) en_46 rfl ⟨rfl, rfl, rfl⟩ (EvL.cons rfl EvL.nil) (fun mm aa ww gg hr hrel => (c46 s ⟨s0Tp, s.Thrust.length, s0Tc⟩ ⟨s0Wp, s.Water.length, s0Wc⟩ ⟨s0Ip, s.Ice.length, s0Ic⟩ ww (SlIs.mono hs_Thrust hrel.below) (SlIs.mono hs_Water hrel.below) (SlIs.mono hs_Ice hrel.below)))),
  okp rfl rfl (oqA (lN rfl) rfl),
  trivial⟩ ?_
 refine fqK (s' := [kt 2 (.i v), kt 4 (.p 2 0), kt 7 (.i (check s)), kb 2 28 4, kc 2 0 (.i i.Conc), kc 2 1 (.i i.Thick), kc 2 2 (.i i.Ridge), kc 2 3 (.i i.Press)]) ?_ (kp rfl) rfl
 refine fqT ?_
 refine aqS ?_
 refine aqT (rows := [_, _]) rfl (by kernel_rfl) ⟨
  okp rfl rfl (oqM (lN rfl) rfl),
  okp rfl rfl (oqB (lN rfl) rfl rfl rfl),
  trivial⟩ ?_
 refine fqK (s' := [kt 2 (.i v), kt 4 (.p 2 0), kt 7 (.i (check s)), kt 11 (.B ((check s) != 0)), kb 2 28 4, kc 2 0 (.i i.Conc), kc 2 1 (.i i.Thick), kc 2 2 (.i i.Ridge), kc 2 3 (.i i.Press)]) ?_ (kp rfl) rfl
 refine fqT ?_
 refine aqc rfl (fun hz1 => ?_) (fun hz1 => ?_)
 ·have _z := hz1
  have q2 := ne_t hz1
  refine aqS ?_
  refine aqT (rows := [_, _]) rfl (by kernel_rfl) ⟨
   okp rfl rfl (oqM (lN rfl) rfl),
   okp rfl rfl (oqA (lN rfl) rfl),
   trivial⟩ ?_
  refine fqK (s' := [kt 6 (.i (check s))]) ?_ (kp rfl) rfl
  refine fqT ?_
  refine aqr ?_
  refine fqR ?_
  refine pqr (x := .i (check s)) rfl rfl (rqT rfl rqN) rfl (fun mm aa ww hr => ?_)
  show Ending.returned (.int .i64 (check s)) = _ ∧ _
  exact ⟨by clear hr; simp_all [asked], hr.below⟩
 ·have _z := hz1
  have q3 := ne_f hz1
  refine aqk ?_
  refine fqT ?_
  refine aqS ?_
  refine aqT (rows := [_, _, _, _]) rfl (by kernel_rfl) ⟨
   okp rfl rfl (oqL (ys := [.i i.Conc, .i i.Thick, .i i.Ridge, .i i.Press]) (lN rfl) sh_28 rfl rfl ⟨rfl, rfl, rfl, rfl, trivial⟩),
   okp rfl rfl (oqM (lN rfl) rfl),
   okp rfl rfl (oqC (x := .i (loaded i v)) (fs := []) (caps := []) (extra := []) (lN rfl) en_78 rfl ⟨rfl, rfl, rfl⟩ (EvL.cons rfl (EvL.cons rfl EvL.nil)) (fun mm aa ww gg hr hrel => (c78 i v ww))),
   okp rfl rfl (oqA (lN rfl) rfl),
   trivial⟩ ?_
  refine fqK (s' := [kt 6 (.i (loaded i v))]) ?_ (kp rfl) rfl
  refine fqT ?_
  refine aqr ?_
  refine pqr (x := .i (loaded i v)) rfl rfl (rqT rfl rqN) rfl (fun mm aa ww hr => ?_)
  show Ending.returned (.int .i64 (loaded i v)) = _ ∧ _
  exact ⟨by clear hr; simp_all [asked], hr.below⟩
theorem c90 (s : Ship) (s_Thrust_s : SlV) (s_Water_s : SlV) (s_Ice_s : SlV) (c : Cell) (w : World) (hs_Thrust : SlIs ePt 2 w s_Thrust_s s.Thrust) (hs_Water : SlIs ePt 2 w s_Water_s s.Water) (hs_Ice : SlIs ePt 2 w s_Ice_s s.Ice) : Calls Tryd.prog 90 #[.agg #[.int .i64 s.Class, .int .i64 s.Power, .int .i64 s.Draught, .int .i64 s.Tonnes, .slice s_Thrust_s.p s_Thrust_s.n s_Thrust_s.c, .slice s_Water_s.p s_Water_s.n s_Water_s.c, .slice s_Ice_s.p s_Ice_s.n s_Ice_s.c, .int .i64 s.Slow, .int .i64 s.Brash, .int .i64 s.Ridge, .int .i64 s.Press], .agg #[.int .i64 c.Conc.Lo, .int .i64 c.Conc.Hi, .int .i64 c.Thick.Lo, .int .i64 c.Thick.Hi, .int .i64 c.Ridge.Lo, .int .i64 c.Ridge.Hi, .int .i64 c.Press.Lo, .int .i64 c.Press.Hi]] w fun e w' => e = .returned (.int .i64 (met s c)) ∧ Below w.heap.size w w' := by
 obtain ⟨s0Tp, s0Tn, s0Tc⟩ := s_Thrust_s
 have hs_Thrust_l : s0Tn = s.Thrust.length := hs_Thrust.1
 subst hs_Thrust_l
 obtain ⟨s_Thrust_b, s0To, hs_Thrust_p, hs_Thrust_L⟩ := SlAt.lies' hs_Thrust
 obtain ⟨s0Wp, s0Wn, s0Wc⟩ := s_Water_s
 have hs_Water_l : s0Wn = s.Water.length := hs_Water.1
 subst hs_Water_l
 obtain ⟨s_Water_b, s0Wo, hs_Water_p, hs_Water_L⟩ := SlAt.lies' hs_Water
 obtain ⟨s0Ip, s0In, s0Ic⟩ := s_Ice_s
 have hs_Ice_l : s0In = s.Ice.length := hs_Ice.1
 subst hs_Ice_l
 obtain ⟨s_Ice_b, s0Io, hs_Ice_p, hs_Ice_L⟩ := SlAt.lies' hs_Ice
 refine enter (args := [.g [.i s.Class, .i s.Power, .i s.Draught, .i s.Tonnes, .v (.slice s0Tp s.Thrust.length s0Tc), .v (.slice s0Wp s.Water.length s0Wc), .v (.slice s0Ip s.Ice.length s0Ic), .i s.Slow, .i s.Brash, .i s.Ridge, .i s.Press], .g [.i c.Conc.Lo, .i c.Conc.Hi, .i c.Thick.Lo, .i c.Thick.Hi, .i c.Ridge.Lo, .i c.Ridge.Hi, .i c.Press.Lo, .i c.Press.Hi]]) Tryd.func90 rfl (N := 13) rfl (Nat.le_of_ble_eq_true rfl) ?_
 refine aqS ?_
 refine aqT (rows := [_, _, _]) rfl (by kernel_rfl) ⟨
  okp rfl rfl (op_boxN (L := 1) (lN rfl) rfl rfl rfl),
  okp rfl rfl (op_boxN (L := 2) (lN rfl) rfl rfl rfl),
  okp rfl rfl (oqA (lN rfl) rfl),
  trivial⟩ ?_
 refine fqK (s' := (kt 2 (.p 1 0) :: kt 3 (.p 2 0) :: kb 1 25 11 :: kb 2 34 8 :: sK 1 s (.v (.slice s0Tp s.Thrust.length s0Tc)) (.v (.slice s0Wp s.Water.length s0Wc)) (.v (.slice s0Ip s.Ice.length s0Ic)) [kc 2 0 (.i c.Conc.Lo), kc 2 1 (.i c.Conc.Hi), kc 2 2 (.i c.Thick.Lo), kc 2 3 (.i c.Thick.Hi), kc 2 4 (.i c.Ridge.Lo), kc 2 5 (.i c.Ridge.Hi), kc 2 6 (.i c.Press.Lo), kc 2 7 (.i c.Press.Hi)])) ?_ (kp rfl) rfl
 refine fqT ?_
 refine aqS ?_
 refine aqS ?_
 refine aqT (rows := [_, _, _]) rfl (by kernel_rfl) ⟨
  okp rfl rfl (oqL (ys := [.i s.Class, .i s.Power, .i s.Draught, .i s.Tonnes, .v (.slice s0Tp s.Thrust.length s0Tc), .v (.slice s0Wp s.Water.length s0Wc), .v (.slice s0Ip s.Ice.length s0Ic), .i s.Slow, .i s.Brash, .i s.Ridge, .i s.Press]) (lN rfl) sh_25 rfl rfl ⟨rfl, rfl, rfl, rfl, rfl, rfl, rfl, rfl, rfl, rfl, rfl, trivial⟩),
  okp rfl rfl (oqC (x := .i (check s)) (fs := []) (caps := []) (extra := []) (lN rfl) en_46 rfl ⟨rfl, rfl, rfl⟩ (EvL.cons rfl EvL.nil) (fun mm aa ww gg hr hrel => (c46 s ⟨s0Tp, s.Thrust.length, s0Tc⟩ ⟨s0Wp, s.Water.length, s0Wc⟩ ⟨s0Ip, s.Ice.length, s0Ic⟩ ww (SlIs.mono hs_Thrust hrel.below) (SlIs.mono hs_Water hrel.below) (SlIs.mono hs_Ice hrel.below)))),
  okp rfl rfl (oqA (lN rfl) rfl),
  trivial⟩ ?_
 refine fqK (s' := [kt 3 (.p 2 0), kt 5 (.i (check s)), kb 2 34 8, kc 2 0 (.i c.Conc.Lo), kc 2 1 (.i c.Conc.Hi), kc 2 2 (.i c.Thick.Lo), kc 2 3 (.i c.Thick.Hi), kc 2 4 (.i c.Ridge.Lo), kc 2 5 (.i c.Ridge.Hi), kc 2 6 (.i c.Press.Lo), kc 2 7 (.i c.Press.Hi)]) ?_ (kp rfl) rfl
 refine fqT ?_
 refine aqS ?_
 refine aqT (rows := [_, _]) rfl (by kernel_rfl) ⟨
  okp rfl rfl (oqM (lN rfl) rfl),
  okp rfl rfl (oqB (lN rfl) rfl rfl rfl),
  trivial⟩ ?_
 refine fqK (s' := [kt 3 (.p 2 0), kt 5 (.i (check s)), kt 9 (.B ((check s) != 0)), kb 2 34 8, kc 2 0 (.i c.Conc.Lo), kc 2 1 (.i c.Conc.Hi), kc 2 2 (.i c.Thick.Lo), kc 2 3 (.i c.Thick.Hi), kc 2 4 (.i c.Ridge.Lo), kc 2 5 (.i c.Ridge.Hi), kc 2 6 (.i c.Press.Lo), kc 2 7 (.i c.Press.Hi)]) ?_ (kp rfl) rfl
 refine fqT ?_
 refine aqc rfl (fun hz1 => ?_) (fun hz1 => ?_)
 ·have _z := hz1
  have q2 := ne_t hz1
  refine aqS ?_
  refine aqT (rows := [_, _]) rfl (by kernel_rfl) ⟨
   okp rfl rfl (oqM (lN rfl) rfl),
   okp rfl rfl (oqA (lN rfl) rfl),
   trivial⟩ ?_
  refine fqK (s' := [kt 4 (.i (check s))]) ?_ (kp rfl) rfl
  refine fqT ?_
  refine aqr ?_
  refine fqR ?_
  refine pqr (x := .i (check s)) rfl rfl (rqT rfl rqN) rfl (fun mm aa ww hr => ?_)
  show Ending.returned (.int .i64 (check s)) = _ ∧ _
  exact ⟨by clear hr; simp_all [met], hr.below⟩
 ·have _z := hz1
  have q3 := ne_f hz1
  refine aqk ?_
  refine fqT ?_
  refine aqS ?_
  refine aqT (rows := [_, _, _]) rfl (by kernel_rfl) ⟨
   okp rfl rfl (oqL (ys := [.i c.Conc.Lo, .i c.Conc.Hi, .i c.Thick.Lo, .i c.Thick.Hi, .i c.Ridge.Lo, .i c.Ridge.Hi, .i c.Press.Lo, .i c.Press.Hi]) (lN rfl) sh_34 rfl rfl ⟨rfl, rfl, rfl, rfl, rfl, rfl, rfl, rfl, trivial⟩),
   okp rfl rfl (oqC (x := .i (checkCell c)) (fs := []) (caps := []) (extra := []) (lN rfl) en_85 rfl ⟨rfl, rfl, rfl⟩ (EvL.cons rfl EvL.nil) (fun mm aa ww gg hr hrel => (c85 c ww))),
   okp rfl rfl (oqA (lN rfl) rfl),
   trivial⟩ ?_
  refine fqK (s' := [kt 4 (.i (checkCell c))]) ?_ (kp rfl) rfl
  refine fqT ?_
  refine aqr ?_
  refine pqr (x := .i (checkCell c)) rfl rfl (rqT rfl rqN) rfl (fun mm aa ww hr => ?_)
  show Ending.returned (.int .i64 (checkCell c)) = _ ∧ _
  exact ⟨by clear hr; simp_all [met], hr.below⟩
theorem c87 (s : Ship) (s_Thrust_s : SlV) (s_Water_s : SlV) (s_Ice_s : SlV) (s_b : Nat) (c : Cell) (ch : Bool) (w : World) (hs_Thrust : SlIs ePt 2 w s_Thrust_s s.Thrust) (hs_Water : SlIs ePt 2 w s_Water_s s.Water) (hs_Ice : SlIs ePt 2 w s_Ice_s s.Ice) (hs_box : BoxAt w s_b [.int .i64 s.Class, .int .i64 s.Power, .int .i64 s.Draught, .int .i64 s.Tonnes, .slice s_Thrust_s.p s_Thrust_s.n s_Thrust_s.c, .slice s_Water_s.p s_Water_s.n s_Water_s.c, .slice s_Ice_s.p s_Ice_s.n s_Ice_s.c, .int .i64 s.Slow, .int .i64 s.Brash, .int .i64 s.Ridge, .int .i64 s.Press]) (hG : BoxAt w 0 (strengths.map (fun n => Value.int .i64 n))) (hc : check s = 0) (hg : goodCell c) : Calls Tryd.prog 87 #[.pointer (some ⟨s_b, 0, none⟩), .agg #[.int .i64 c.Conc.Lo, .int .i64 c.Conc.Hi, .int .i64 c.Thick.Lo, .int .i64 c.Thick.Hi, .int .i64 c.Ridge.Lo, .int .i64 c.Ridge.Hi, .int .i64 c.Press.Lo, .int .i64 c.Press.Hi], .bool ch] w fun e w' => e = .returned (.tuple #[.int .i64 ((safe s c ch).1), .int .i64 ((safe s c ch).2)]) ∧ Below w.heap.size w w' := by
 obtain ⟨s0Tp, s0Tn, s0Tc⟩ := s_Thrust_s
 have hs_Thrust_l : s0Tn = s.Thrust.length := hs_Thrust.1
 subst hs_Thrust_l
 obtain ⟨s_Thrust_b, s0To, hs_Thrust_p, hs_Thrust_L⟩ := SlAt.lies' hs_Thrust
 obtain ⟨s0Wp, s0Wn, s0Wc⟩ := s_Water_s
 have hs_Water_l : s0Wn = s.Water.length := hs_Water.1
 subst hs_Water_l
 obtain ⟨s_Water_b, s0Wo, hs_Water_p, hs_Water_L⟩ := SlAt.lies' hs_Water
 obtain ⟨s0Ip, s0In, s0Ic⟩ := s_Ice_s
 have hs_Ice_l : s0In = s.Ice.length := hs_Ice.1
 subst hs_Ice_l
 obtain ⟨s_Ice_b, s0Io, hs_Ice_p, hs_Ice_L⟩ := SlAt.lies' hs_Ice
 have hlast := goodCell_last hg
 refine enter (args := [.v (.pointer (some ⟨s_b, 0, none⟩)), .g [.i c.Conc.Lo, .i c.Conc.Hi, .i c.Thick.Lo, .i c.Thick.Hi, .i c.Ridge.Lo, .i c.Ridge.Hi, .i c.Press.Lo, .i c.Press.Hi], .B ch]) Tryd.func87 rfl (N := 27) rfl (Nat.le_of_ble_eq_true rfl) ?_
 refine aqS ?_
 refine aqT (rows := [_, _, _]) rfl (by kernel_rfl) ⟨
  okp rfl rfl (op_boxN (L := 1) (lN rfl) rfl rfl rfl),
  okp rfl rfl (oqA (lN rfl) rfl),
  okp rfl rfl (oqA (lN rfl) rfl),
  trivial⟩ ?_
 refine fqK (s' := [kt 0 (.v (.pointer (some ⟨s_b, 0, none⟩))), kt 2 (.B ch), kt 4 (.p 1 0), kb 1 34 8, kc 1 0 (.i c.Conc.Lo), kc 1 1 (.i c.Conc.Hi), kc 1 2 (.i c.Thick.Lo), kc 1 3 (.i c.Thick.Hi), kc 1 4 (.i c.Ridge.Lo), kc 1 5 (.i c.Ridge.Hi), kc 1 6 (.i c.Press.Lo), kc 1 7 (.i c.Press.Hi)]) ?_ (kp rfl) rfl
 refine fqT ?_
 refine aqS ?_
 refine aqT (rows := [_, _, _, _, _, _, _]) rfl (by kernel_rfl) ⟨
  okp rfl rfl (oqM (lN rfl) rfl),
  okp rfl rfl (oqL (ys := [.i c.Conc.Lo, .i c.Conc.Hi, .i c.Thick.Lo, .i c.Thick.Hi, .i c.Ridge.Lo, .i c.Ridge.Hi, .i c.Press.Lo, .i c.Press.Hi]) (lN rfl) sh_34 rfl rfl ⟨rfl, rfl, rfl, rfl, rfl, rfl, rfl, rfl, trivial⟩),
  okp rfl rfl (oqC (x := .g [.i ((lastI c).Conc), .i ((lastI c).Thick), .i ((lastI c).Ridge), .i ((lastI c).Press)]) (fs := []) (caps := []) (extra := []) (lN rfl) en_100 rfl ⟨rfl, rfl, rfl⟩ (EvL.cons rfl EvL.nil) (fun mm aa ww gg hr hrel => (c100 c ww))),
  okp rfl rfl (oqM (lN rfl) rfl),
  okp rfl rfl (op_build (x := .g [.v (.pointer (some ⟨s_b, 0, none⟩)), .i ((lastI c).Conc), .i ((lastI c).Thick), .i ((lastI c).Ridge), .i ((lastI c).Press), .B ch]) (lN rfl) (EvL.cons rfl (EvL.cons rfl (EvL.cons rfl EvL.nil))) (fun m w => by kernel_rfl)),
  okp rfl rfl (oqa (L := 2) (lN rfl) zl_136),
  okp rfl rfl (oqS sz_136 rfl rfl rfl rfl rfl (by decide)),
  trivial⟩ ?_
 refine fqK (s' := [kt 8 (.p 2 0), kb 2 136 6, kc 2 0 (.v (.pointer (some ⟨s_b, 0, none⟩))), kc 2 1 (.i ((lastI c).Conc)), kc 2 2 (.i ((lastI c).Thick)), kc 2 3 (.i ((lastI c).Ridge)), kc 2 4 (.i ((lastI c).Press)), kc 2 5 (.B ch)]) ?_ (kp rfl) rfl
 refine fqT ?_
 refine aqS ?_
 refine aqS ?_
 refine aqT (rows := [_, _, _]) rfl (by kernel_rfl) ⟨
  okp rfl rfl (oqL (ys := [.v (.pointer (some ⟨s_b, 0, none⟩)), .i ((lastI c).Conc), .i ((lastI c).Thick), .i ((lastI c).Ridge), .i ((lastI c).Press), .B ch]) (lN rfl) sh_136 rfl rfl ⟨rfl, rfl, rfl, rfl, rfl, rfl, trivial⟩),
  okp rfl rfl (oqC (x := .i (speed s ((lastI c)) ch)) (fs := []) (caps := []) (extra := []) (lN rfl) en_76 rfl ⟨rfl, rfl, rfl⟩ (EvL.cons rfl EvL.nil) (fun mm aa ww gg hr hrel => (c76 s ⟨s0Tp, s.Thrust.length, s0Tc⟩ ⟨s0Wp, s.Water.length, s0Wc⟩ ⟨s0Ip, s.Ice.length, s0Ic⟩ s_b ((lastI c)) ch ww (SlIs.mono hs_Thrust hrel.below) (SlIs.mono hs_Water hrel.below) (SlIs.mono hs_Ice hrel.below) (BoxAt.mono hs_box hrel.below) (by first | assumption | omega) (by first | assumption | omega)))),
  okp rfl rfl (oqB (lN rfl) rfl rfl rfl),
  trivial⟩ ?_
 refine fqK (s' := [kt 8 (.p 2 0), kt 18 (.B (decide ((speed s ((lastI c)) ch) < 10))), kb 2 136 6, kc 2 0 (.v (.pointer (some ⟨s_b, 0, none⟩))), kc 2 1 (.i ((lastI c).Conc)), kc 2 2 (.i ((lastI c).Thick)), kc 2 3 (.i ((lastI c).Ridge)), kc 2 4 (.i ((lastI c).Press)), kc 2 5 (.B ch)]) ?_ (kp rfl) rfl
 refine fqT ?_
 refine aqc rfl (fun hz1 => ?_) (fun hz1 => ?_)
 ·have _z := hz1
  have q2 := of_decide_eq_true hz1
  refine aqS ?_
  refine aqT (rows := [_, _]) rfl (by kernel_rfl) ⟨
   okp rfl rfl (oqA (lN rfl) rfl),
   okp rfl rfl (oqA (lN rfl) rfl),
   trivial⟩ ?_
  refine fqK (s' := [kt 6 (.i 0), kt 7 (.i 4)]) ?_ (kp rfl) rfl
  refine fqT ?_
  refine aqr ?_
  refine fqR ?_
  refine pqr (x := .t [.i 0, .i 4]) rfl rfl (rqT rfl (rqT rfl rqN)) rfl (fun mm aa ww hr => ?_)
  show Ending.returned (.tuple #[.int .i64 0, .int .i64 4]) = _ ∧ _
  exact ⟨by rw [safe, if_pos (of_decide_eq_true hz1)], hr.below⟩
 ·have _z := hz1
  have q3 := of_decide_eq_false hz1
  refine aqk ?_
  refine fqT ?_
  refine aqS ?_
  refine aqT (rows := [_, _, _, _, _, _, _]) rfl (by kernel_rfl) ⟨
   okp rfl rfl (oqL (ys := [.v (.pointer (some ⟨s_b, 0, none⟩)), .i ((lastI c).Conc), .i ((lastI c).Thick), .i ((lastI c).Ridge), .i ((lastI c).Press), .B ch]) (lN rfl) sh_136 rfl rfl ⟨rfl, rfl, rfl, rfl, rfl, rfl, trivial⟩),
   okp rfl rfl (oqC (x := .t [.i ((goes s ((lastI c)) ch).1), .B ((goes s ((lastI c)) ch).2)]) (fs := []) (caps := []) (extra := []) (lN rfl) en_89 rfl ⟨rfl, rfl, rfl⟩ (EvL.cons rfl EvL.nil) (fun mm aa ww gg hr hrel => (c89 s ⟨s0Tp, s.Thrust.length, s0Tc⟩ ⟨s0Wp, s.Water.length, s0Wc⟩ ⟨s0Ip, s.Ice.length, s0Ic⟩ s_b ((lastI c)) ch ww (SlIs.mono hs_Thrust hrel.below) (SlIs.mono hs_Water hrel.below) (SlIs.mono hs_Ice hrel.below) (BoxAt.mono hs_box hrel.below) (BoxAt.mono hG hrel.below) (by first | assumption | omega) (by first | assumption | omega)))),
   okp rfl rfl (oqM (lN rfl) rfl),
   okp rfl rfl (oqx (lN rfl) rfl rfl),
   okp rfl rfl (oqx (lN rfl) rfl rfl),
   okp rfl rfl (oqA (lN rfl) rfl),
   okp rfl rfl (oqA (lN rfl) rfl),
   trivial⟩ ?_
  refine fqK (s' := [kt 9 (.i ((goes s ((lastI c)) ch).1)), kt 10 (.B ((goes s ((lastI c)) ch).2))]) ?_ (kp rfl) rfl
  refine fqT ?_
  refine aqS ?_
  refine aqS ?_
  refine aqT (rows := [_, _]) rfl (by kernel_rfl) ⟨
   okp rfl rfl (oqM (lN rfl) rfl),
   okp rfl rfl (oqn (lN rfl) rfl),
   trivial⟩ ?_
  refine fqK (s' := [kt 9 (.i ((goes s ((lastI c)) ch).1)), kt 25 (.B (!((goes s ((lastI c)) ch).2)))]) ?_ (kp rfl) rfl
  refine fqT ?_
  refine aqc rfl (fun hz4 => ?_) (fun hz4 => ?_)
  ·have _z := hz4
   have q5 := not_t hz4
   refine aqS ?_
   refine aqT (rows := [_, _]) rfl (by kernel_rfl) ⟨
    okp rfl rfl (oqA (lN rfl) rfl),
    okp rfl rfl (oqA (lN rfl) rfl),
    trivial⟩ ?_
   refine fqK (s' := [kt 6 (.i 0), kt 7 (.i 41)]) ?_ (kp rfl) rfl
   refine fqT ?_
   refine aqr ?_
   refine fqR ?_
   refine pqr (x := .t [.i 0, .i 41]) rfl rfl (rqT rfl (rqT rfl rqN)) rfl (fun mm aa ww hr => ?_)
   show Ending.returned (.tuple #[.int .i64 0, .int .i64 41]) = _ ∧ _
   exact ⟨by rw [safe, if_neg (of_decide_eq_false hz1), not_t hz4]; rfl, hr.below⟩
  ·have _z := hz4
   have q6 := not_f hz4
   refine aqk ?_
   refine fqT ?_
   refine aqS ?_
   refine aqT (rows := [_, _, _]) rfl (by kernel_rfl) ⟨
    okp rfl rfl (oqM (lN rfl) rfl),
    okp rfl rfl (oqA (lN rfl) rfl),
    okp rfl rfl (oqA (lN rfl) rfl),
    trivial⟩ ?_
   refine fqK (s' := [kt 6 (.i ((goes s ((lastI c)) ch).1)), kt 7 (.i 0)]) ?_ (kp rfl) rfl
   refine fqT ?_
   refine aqr ?_
   refine pqr (x := .t [.i ((goes s ((lastI c)) ch).1), .i 0]) rfl rfl (rqT rfl (rqT rfl rqN)) rfl (fun mm aa ww hr => ?_)
   show Ending.returned (.tuple #[.int .i64 ((goes s ((lastI c)) ch).1), .int .i64 0]) = _ ∧ _
   exact ⟨by rw [safe, if_neg (of_decide_eq_false hz1), not_f hz4]; rfl, hr.below⟩
theorem c18 (s : Ship) (s_Thrust_s : SlV) (s_Water_s : SlV) (s_Ice_s : SlV) (i : Ice) (ch : Bool) (w : World) (hs_Thrust : SlIs ePt 2 w s_Thrust_s s.Thrust) (hs_Water : SlIs ePt 2 w s_Water_s s.Water) (hs_Ice : SlIs ePt 2 w s_Ice_s s.Ice) : Calls Tryd.prog 18 #[.agg #[.int .i64 s.Class, .int .i64 s.Power, .int .i64 s.Draught, .int .i64 s.Tonnes, .slice s_Thrust_s.p s_Thrust_s.n s_Thrust_s.c, .slice s_Water_s.p s_Water_s.n s_Water_s.c, .slice s_Ice_s.p s_Ice_s.n s_Ice_s.c, .int .i64 s.Slow, .int .i64 s.Brash, .int .i64 s.Ridge, .int .i64 s.Press], .agg #[.int .i64 i.Conc, .int .i64 i.Thick, .int .i64 i.Ridge, .int .i64 i.Press], .bool ch] w fun e w' => e = .returned (.tuple #[.int .i64 ((speedE s i ch).1), .int .i64 ((speedE s i ch).2)]) ∧ Below w.heap.size w w' := by
 obtain ⟨s0Tp, s0Tn, s0Tc⟩ := s_Thrust_s
 have hs_Thrust_l : s0Tn = s.Thrust.length := hs_Thrust.1
 subst hs_Thrust_l
 obtain ⟨s_Thrust_b, s0To, hs_Thrust_p, hs_Thrust_L⟩ := SlAt.lies' hs_Thrust
 obtain ⟨s0Wp, s0Wn, s0Wc⟩ := s_Water_s
 have hs_Water_l : s0Wn = s.Water.length := hs_Water.1
 subst hs_Water_l
 obtain ⟨s_Water_b, s0Wo, hs_Water_p, hs_Water_L⟩ := SlAt.lies' hs_Water
 obtain ⟨s0Ip, s0In, s0Ic⟩ := s_Ice_s
 have hs_Ice_l : s0In = s.Ice.length := hs_Ice.1
 subst hs_Ice_l
 obtain ⟨s_Ice_b, s0Io, hs_Ice_p, hs_Ice_L⟩ := SlAt.lies' hs_Ice
 refine enter (args := [.g [.i s.Class, .i s.Power, .i s.Draught, .i s.Tonnes, .v (.slice s0Tp s.Thrust.length s0Tc), .v (.slice s0Wp s.Water.length s0Wc), .v (.slice s0Ip s.Ice.length s0Ic), .i s.Slow, .i s.Brash, .i s.Ridge, .i s.Press], .g [.i i.Conc, .i i.Thick, .i i.Ridge, .i i.Press], .B ch]) Tryd.func18 rfl (N := 19) rfl (Nat.le_of_ble_eq_true rfl) ?_
 refine aqS ?_
 refine aqT (rows := [_, _, _, _]) rfl (by kernel_rfl) ⟨
  okp rfl rfl (op_boxN (L := 1) (lN rfl) rfl rfl rfl),
  okp rfl rfl (op_boxN (L := 2) (lN rfl) rfl rfl rfl),
  okp rfl rfl (oqA (lN rfl) rfl),
  okp rfl rfl (oqA (lN rfl) rfl),
  trivial⟩ ?_
 refine fqK (s' := (kt 2 (.B ch) :: kt 3 (.p 1 0) :: kt 4 (.p 2 0) :: kb 1 25 11 :: kb 2 28 4 :: sK 1 s (.v (.slice s0Tp s.Thrust.length s0Tc)) (.v (.slice s0Wp s.Water.length s0Wc)) (.v (.slice s0Ip s.Ice.length s0Ic)) [kc 2 0 (.i i.Conc), kc 2 1 (.i i.Thick), kc 2 2 (.i i.Ridge), kc 2 3 (.i i.Press)])) ?_ (kp rfl) rfl
 refine fqT ?_
 refine aqS ?_
 refine aqS ?_
 refine aqT (rows := [_, _, _, _]) rfl (by kernel_rfl) ⟨
  okp rfl rfl (oqL (ys := [.i s.Class, .i s.Power, .i s.Draught, .i s.Tonnes, .v (.slice s0Tp s.Thrust.length s0Tc), .v (.slice s0Wp s.Water.length s0Wc), .v (.slice s0Ip s.Ice.length s0Ic), .i s.Slow, .i s.Brash, .i s.Ridge, .i s.Press]) (lN rfl) sh_25 rfl rfl ⟨rfl, rfl, rfl, rfl, rfl, rfl, rfl, rfl, rfl, rfl, rfl, trivial⟩),
  okp rfl rfl (oqL (ys := [.i i.Conc, .i i.Thick, .i i.Ridge, .i i.Press]) (lN rfl) sh_28 rfl rfl ⟨rfl, rfl, rfl, rfl, trivial⟩),
  okp rfl rfl (oqC (x := .i (asked s i 0)) (fs := []) (caps := []) (extra := []) (lN rfl) en_75 rfl ⟨rfl, rfl, rfl⟩ (EvL.cons rfl (EvL.cons rfl (EvL.cons rfl EvL.nil))) (fun mm aa ww gg hr hrel => (c75 s ⟨s0Tp, s.Thrust.length, s0Tc⟩ ⟨s0Wp, s.Water.length, s0Wc⟩ ⟨s0Ip, s.Ice.length, s0Ic⟩ i 0 ww (SlIs.mono hs_Thrust hrel.below) (SlIs.mono hs_Water hrel.below) (SlIs.mono hs_Ice hrel.below)))),
  okp rfl rfl (oqA (lN rfl) rfl),
  trivial⟩ ?_
 refine fqK (s' := (kt 2 (.B ch) :: kt 3 (.p 1 0) :: kt 4 (.p 2 0) :: kt 8 (.i (asked s i 0)) :: kb 1 25 11 :: kb 2 28 4 :: sK 1 s (.v (.slice s0Tp s.Thrust.length s0Tc)) (.v (.slice s0Wp s.Water.length s0Wc)) (.v (.slice s0Ip s.Ice.length s0Ic)) [kc 2 0 (.i i.Conc), kc 2 1 (.i i.Thick), kc 2 2 (.i i.Ridge), kc 2 3 (.i i.Press)])) ?_ (kp rfl) rfl
 refine fqT ?_
 refine aqS ?_
 refine aqT (rows := [_, _]) rfl (by kernel_rfl) ⟨
  okp rfl rfl (oqM (lN rfl) rfl),
  okp rfl rfl (oqB (lN rfl) rfl rfl rfl),
  trivial⟩ ?_
 refine fqK (s' := (kt 2 (.B ch) :: kt 3 (.p 1 0) :: kt 4 (.p 2 0) :: kt 8 (.i (asked s i 0)) :: kt 13 (.B ((asked s i 0) != 0)) :: kb 1 25 11 :: kb 2 28 4 :: sK 1 s (.v (.slice s0Tp s.Thrust.length s0Tc)) (.v (.slice s0Wp s.Water.length s0Wc)) (.v (.slice s0Ip s.Ice.length s0Ic)) [kc 2 0 (.i i.Conc), kc 2 1 (.i i.Thick), kc 2 2 (.i i.Ridge), kc 2 3 (.i i.Press)])) ?_ (kp rfl) rfl
 refine fqT ?_
 refine aqc rfl (fun hz1 => ?_) (fun hz1 => ?_)
 ·have _z := hz1
  have q2 := ne_t hz1
  refine aqS ?_
  refine aqT (rows := [_, _, _]) rfl (by kernel_rfl) ⟨
   okp rfl rfl (oqM (lN rfl) rfl),
   okp rfl rfl (oqA (lN rfl) rfl),
   okp rfl rfl (oqA (lN rfl) rfl),
   trivial⟩ ?_
  refine fqK (s' := [kt 6 (.i 0), kt 7 (.i (asked s i 0))]) ?_ (kp rfl) rfl
  refine fqT ?_
  refine aqr ?_
  refine fqR ?_
  refine pqr (x := .t [.i 0, .i (asked s i 0)]) rfl rfl (rqT rfl (rqT rfl rqN)) rfl (fun mm aa ww hr => ?_)
  show Ending.returned (.tuple #[.int .i64 0, .int .i64 (asked s i 0)]) = _ ∧ _
  exact ⟨by rw [speedE, if_pos (ne_t hz1)], hr.below⟩
 ·have _z := hz1
  have q3 := ne_f hz1
  refine aqk ?_
  refine fqT ?_
  refine aqS ?_
  have hak := asked_ok (ne_f hz1)
  have hc := hak.1
  have hi := hak.2.1
  refine aqT (rows := [_, _, _, _, _, _]) rfl (by kernel_rfl) ⟨
   okp rfl rfl (oqL (ys := [.i i.Conc, .i i.Thick, .i i.Ridge, .i i.Press]) (lN rfl) sh_28 rfl rfl ⟨rfl, rfl, rfl, rfl, trivial⟩),
   okp rfl rfl (oqM (lN rfl) rfl),
   okp rfl rfl (op_build (x := .g [.p 1 0, .i i.Conc, .i i.Thick, .i i.Ridge, .i i.Press, .B ch]) (lN rfl) (EvL.cons rfl (EvL.cons rfl (EvL.cons rfl EvL.nil))) (fun m w => by kernel_rfl)),
   okp rfl rfl (oqC (x := .i (speed s i ch)) (fs := []) (caps := []) (extra := (kapp ((.b 1 :: cqK 1 0 11)) [])) (lN rfl) en_76 rfl ⟨rfl, rfl, rfl⟩ (EvL.cons rfl EvL.nil) (fun mm aa ww gg hr hrel => (c76 s ⟨s0Tp, s.Thrust.length, s0Tc⟩ ⟨s0Wp, s.Water.length, s0Wc⟩ ⟨s0Ip, s.Ice.length, s0Ic⟩ (mm 1) i ch ww (SlIs.mono hs_Thrust hrel.below) (SlIs.mono hs_Water hrel.below) (SlIs.mono hs_Ice hrel.below) (bqA (L := 1) (vs := [(.int .i64 s.Class), (.int .i64 s.Power), (.int .i64 s.Draught), (.int .i64 s.Tonnes), (.slice s0Tp s.Thrust.length s0Tc), (.slice s0Wp s.Water.length s0Wc), (.slice s0Ip s.Ice.length s0Ic), (.int .i64 s.Slow), (.int .i64 s.Brash), (.int .i64 s.Ridge), (.int .i64 s.Press)]) hrel (fun k hk => hr k (List.mem_append_left _ hk)) rfl ⟨rfl, rfl, rfl, rfl, rfl, rfl, rfl, rfl, rfl, rfl, rfl, trivial⟩) (by first | assumption | omega) (by first | assumption | omega)))),
   okp rfl rfl (oqA (lN rfl) rfl),
   okp rfl rfl (oqA (lN rfl) rfl),
   trivial⟩ ?_
  refine fqK (s' := [kt 6 (.i (speed s i ch)), kt 7 (.i 0)]) ?_ (kp rfl) rfl
  refine fqT ?_
  refine aqr ?_
  refine pqr (x := .t [.i (speed s i ch), .i 0]) rfl rfl (rqT rfl (rqT rfl rqN)) rfl (fun mm aa ww hr => ?_)
  show Ending.returned (.tuple #[.int .i64 (speed s i ch), .int .i64 0]) = _ ∧ _
  exact ⟨by rw [speedE, if_neg (by rw [ne_f hz1]; decide)], hr.below⟩
theorem c20 (i : Ice) (v : Int) (ch : Bool) (w : World)  : Calls Tryd.prog 20 #[.agg #[.int .i64 i.Conc, .int .i64 i.Thick, .int .i64 i.Ridge, .int .i64 i.Press], .int .i64 v, .bool ch] w fun e w' => e = .returned (.tuple #[.int .i64 ((loadE i v ch).1), .int .i64 ((loadE i v ch).2)]) ∧ Below w.heap.size w w' := by
 refine enter (args := [.g [.i i.Conc, .i i.Thick, .i i.Ridge, .i i.Press], .i v, .B ch]) Tryd.func20 rfl (N := 19) rfl (Nat.le_of_ble_eq_true rfl) ?_
 refine aqS ?_
 refine aqT (rows := [_, _, _]) rfl (by kernel_rfl) ⟨
  okp rfl rfl (op_boxN (L := 1) (lN rfl) rfl rfl rfl),
  okp rfl rfl (oqA (lN rfl) rfl),
  okp rfl rfl (oqA (lN rfl) rfl),
  trivial⟩ ?_
 refine fqK (s' := [kt 1 (.i v), kt 2 (.B ch), kt 3 (.p 1 0), kb 1 28 4, kc 1 0 (.i i.Conc), kc 1 1 (.i i.Thick), kc 1 2 (.i i.Ridge), kc 1 3 (.i i.Press)]) ?_ (kp rfl) rfl
 refine fqT ?_
 refine aqS ?_
 refine aqS ?_
 refine aqT (rows := [_, _, _, _]) rfl (by kernel_rfl) ⟨
  okp rfl rfl (oqL (ys := [.i i.Conc, .i i.Thick, .i i.Ridge, .i i.Press]) (lN rfl) sh_28 rfl rfl ⟨rfl, rfl, rfl, rfl, trivial⟩),
  okp rfl rfl (oqM (lN rfl) rfl),
  okp rfl rfl (oqC (x := .i (loaded i v)) (fs := []) (caps := []) (extra := []) (lN rfl) en_78 rfl ⟨rfl, rfl, rfl⟩ (EvL.cons rfl (EvL.cons rfl EvL.nil)) (fun mm aa ww gg hr hrel => (c78 i v ww))),
  okp rfl rfl (oqA (lN rfl) rfl),
  trivial⟩ ?_
 refine fqK (s' := [kt 1 (.i v), kt 2 (.B ch), kt 3 (.p 1 0), kt 8 (.i (loaded i v)), kb 1 28 4, kc 1 0 (.i i.Conc), kc 1 1 (.i i.Thick), kc 1 2 (.i i.Ridge), kc 1 3 (.i i.Press)]) ?_ (kp rfl) rfl
 refine fqT ?_
 refine aqS ?_
 refine aqT (rows := [_, _]) rfl (by kernel_rfl) ⟨
  okp rfl rfl (oqM (lN rfl) rfl),
  okp rfl rfl (oqB (lN rfl) rfl rfl rfl),
  trivial⟩ ?_
 refine fqK (s' := [kt 1 (.i v), kt 2 (.B ch), kt 3 (.p 1 0), kt 8 (.i (loaded i v)), kt 13 (.B ((loaded i v) != 0)), kb 1 28 4, kc 1 0 (.i i.Conc), kc 1 1 (.i i.Thick), kc 1 2 (.i i.Ridge), kc 1 3 (.i i.Press)]) ?_ (kp rfl) rfl
 refine fqT ?_
 refine aqc rfl (fun hz1 => ?_) (fun hz1 => ?_)
 ·have _z := hz1
  have q2 := ne_t hz1
  refine aqS ?_
  refine aqT (rows := [_, _, _]) rfl (by kernel_rfl) ⟨
   okp rfl rfl (oqM (lN rfl) rfl),
   okp rfl rfl (oqA (lN rfl) rfl),
   okp rfl rfl (oqA (lN rfl) rfl),
   trivial⟩ ?_
  refine fqK (s' := [kt 6 (.i 0), kt 7 (.i (loaded i v))]) ?_ (kp rfl) rfl
  refine fqT ?_
  refine aqr ?_
  refine fqR ?_
  refine pqr (x := .t [.i 0, .i (loaded i v)]) rfl rfl (rqT rfl (rqT rfl rqN)) rfl (fun mm aa ww hr => ?_)
  show Ending.returned (.tuple #[.int .i64 0, .int .i64 (loaded i v)]) = _ ∧ _
  exact ⟨by rw [loadE, if_pos (ne_t hz1)], hr.below⟩
 ·have _z := hz1
  have q3 := ne_f hz1
  refine aqk ?_
  refine fqT ?_
  refine aqS ?_
  have hak := loaded_ok (ne_f hz1)
  have hi := hak.1
  have hv := hak.2
  refine aqT (rows := [_, _, _, _, _, _]) rfl (by kernel_rfl) ⟨
   okp rfl rfl (oqL (ys := [.i i.Conc, .i i.Thick, .i i.Ridge, .i i.Press]) (lN rfl) sh_28 rfl rfl ⟨rfl, rfl, rfl, rfl, trivial⟩),
   okp rfl rfl (oqM (lN rfl) rfl),
   okp rfl rfl (oqM (lN rfl) rfl),
   okp rfl rfl (oqC (x := .i (loadI i v ch)) (fs := []) (caps := []) (extra := []) (lN rfl) en_79 rfl ⟨rfl, rfl, rfl⟩ (EvL.cons rfl (EvL.cons rfl (EvL.cons rfl EvL.nil))) (fun mm aa ww gg hr hrel => (c79 i v ch ww (by first | assumption | omega) (by first | assumption | omega)))),
   okp rfl rfl (oqA (lN rfl) rfl),
   okp rfl rfl (oqA (lN rfl) rfl),
   trivial⟩ ?_
  refine fqK (s' := [kt 6 (.i (loadI i v ch)), kt 7 (.i 0)]) ?_ (kp rfl) rfl
  refine fqT ?_
  refine aqr ?_
  refine pqr (x := .t [.i (loadI i v ch), .i 0]) rfl rfl (rqT rfl (rqT rfl rqN)) rfl (fun mm aa ww hr => ?_)
  show Ending.returned (.tuple #[.int .i64 (loadI i v ch), .int .i64 0]) = _ ∧ _
  exact ⟨by rw [loadE, if_neg (by rw [ne_f hz1]; decide)], hr.below⟩
theorem c86 (p : Part) (v : Int) (w : World) (hp : 1 ≤ p.Length ∧ p.Length ≤ 10000) (hv : 1 ≤ v ∧ v ≤ 250) : Calls Tryd.prog 86 #[.agg #[.int .i64 p.Cell.Conc.Lo, .int .i64 p.Cell.Conc.Hi, .int .i64 p.Cell.Thick.Lo, .int .i64 p.Cell.Thick.Hi, .int .i64 p.Cell.Ridge.Lo, .int .i64 p.Cell.Ridge.Hi, .int .i64 p.Cell.Press.Lo, .int .i64 p.Cell.Press.Hi, .bool p.Channel, .int .i64 p.Length], .int .i64 v] w fun e w' => e = .returned (.int .i64 (takes p v)) ∧ Below w.heap.size w w' := by
 refine enter (args := [.g [.i p.Cell.Conc.Lo, .i p.Cell.Conc.Hi, .i p.Cell.Thick.Lo, .i p.Cell.Thick.Hi, .i p.Cell.Ridge.Lo, .i p.Cell.Ridge.Hi, .i p.Cell.Press.Lo, .i p.Cell.Press.Hi, .B p.Channel, .i p.Length], .i v]) Tryd.func86 rfl (N := 13) rfl (Nat.le_of_ble_eq_true rfl) ?_
 refine aqS ?_
 refine aqT (rows := [_, _]) rfl (by kernel_rfl) ⟨
  okp rfl rfl (op_boxN (L := 1) (lN rfl) rfl rfl rfl),
  okp rfl rfl (oqA (lN rfl) rfl),
  trivial⟩ ?_
 refine fqK (s' := [kt 1 (.i v), kt 2 (.p 1 0), kb 1 48 10, kc 1 0 (.i p.Cell.Conc.Lo), kc 1 1 (.i p.Cell.Conc.Hi), kc 1 2 (.i p.Cell.Thick.Lo), kc 1 3 (.i p.Cell.Thick.Hi), kc 1 4 (.i p.Cell.Ridge.Lo), kc 1 5 (.i p.Cell.Ridge.Hi), kc 1 6 (.i p.Cell.Press.Lo), kc 1 7 (.i p.Cell.Press.Hi), kc 1 8 (.B p.Channel), kc 1 9 (.i p.Length)]) ?_ (kp rfl) rfl
 refine fqT ?_
 refine aqS ?_
 refine aqT (rows := [_, _, _, _, _, _, _, _, _]) rfl (by kernel_rfl) ⟨
  okp rfl rfl (oqF (lN rfl) rfl fo_48_2),
  okp rfl rfl (oq1 (lN rfl) sh_3 rfl rfl),
  okp rfl rfl (oqB (lN rfl) rfl rfl (nw_mul ⟨(by omega), (by omega)⟩)),
  okp rfl rfl (oqM (lN rfl) rfl),
  okp rfl rfl (oqB (lN rfl) rfl rfl (nw_add ⟨(by omega), (by omega)⟩)),
  okp rfl rfl (oqB (lN rfl) rfl rfl (nw_sub ⟨(by omega), (by omega)⟩)),
  okp rfl rfl (oqM (lN rfl) rfl),
  okp rfl rfl (op_quo (lN rfl) rfl rfl (by omega) (quo_nn (by omega) (by omega) (by omega))),
  okp rfl rfl (oqA (lN rfl) rfl),
  trivial⟩ ?_
 refine fqK (s' := [kt 4 (.i ((((60 * p.Length) + v) - 1) / v))]) ?_ (kp rfl) rfl
 refine fqT ?_
 refine aqr ?_
 refine pqr (x := .i ((((60 * p.Length) + v) - 1) / v)) rfl rfl (rqT rfl rqN) rfl (fun mm aa ww hr => ?_)
 show Ending.returned (.int .i64 ((((60 * p.Length) + v) - 1) / v)) = _ ∧ _
 first
  | exact ⟨rfl, hr.below⟩
end Go.Proofs.T
namespace Go.Proofs.T
open Go Go.AX Go.RowKit Hull
theorem zl_32 : zeroL Tryd.prog 32 = some [(.int .i64 0), (.int .i64 0)] := by kernel_rfl
theorem en_90 : Proofs.Enters Tryd.prog 90 := Proofs.enters_of Tryd.func90 (by kernel_rfl) rfl
theorem sz_32 : sizeIn Tryd.prog 32 = some 2 := by kernel_rfl
theorem ss_56 : sliceSz Tryd.prog 56 = some 2 := by kernel_rfl
theorem en_88 : Proofs.Enters Tryd.prog 88 := Proofs.enters_of Tryd.func88 (by kernel_rfl) rfl
theorem sz_3 : sizeIn Tryd.prog 3 = some 1 := by kernel_rfl
set_option maxHeartbeats 1000000 in
theorem c35 (s : Ship) (s_Thrust_s : SlV) (s_Water_s : SlV) (s_Ice_s : SlV) (c : Cell) (press : List Span) (press_s : SlV) (w : World) (hs_Thrust : SlIs ePt 2 w s_Thrust_s s.Thrust) (hs_Water : SlIs ePt 2 w s_Water_s s.Water) (hs_Ice : SlIs ePt 2 w s_Ice_s s.Ice) (hpress : SlIs eSp 2 w press_s press) : Calls Tryd.prog 35 #[.agg #[.int .i64 s.Class, .int .i64 s.Power, .int .i64 s.Draught, .int .i64 s.Tonnes, .slice s_Thrust_s.p s_Thrust_s.n s_Thrust_s.c, .slice s_Water_s.p s_Water_s.n s_Water_s.c, .slice s_Ice_s.p s_Ice_s.n s_Ice_s.c, .int .i64 s.Slow, .int .i64 s.Brash, .int .i64 s.Ridge, .int .i64 s.Press], .agg #[.int .i64 c.Conc.Lo, .int .i64 c.Conc.Hi, .int .i64 c.Thick.Lo, .int .i64 c.Thick.Hi, .int .i64 c.Ridge.Lo, .int .i64 c.Ridge.Hi, .int .i64 c.Press.Lo, .int .i64 c.Press.Hi], .slice press_s.p press_s.n press_s.c] w fun e w' => e = .returned (.tuple #[.agg #[.int .i64 (((free s c press).1).Lo), .int .i64 (((free s c press).1).Hi)], .int .i64 ((free s c press).2)]) ∧ Below w.heap.size w w' := by
 obtain ⟨s0Tp, s0Tn, s0Tc⟩ := s_Thrust_s
 have hs_Thrust_l : s0Tn = s.Thrust.length := hs_Thrust.1
 subst hs_Thrust_l
 obtain ⟨s_Thrust_b, s0To, hs_Thrust_p, hs_Thrust_L⟩ := SlAt.lies' hs_Thrust
 obtain ⟨s0Wp, s0Wn, s0Wc⟩ := s_Water_s
 have hs_Water_l : s0Wn = s.Water.length := hs_Water.1
 subst hs_Water_l
 obtain ⟨s_Water_b, s0Wo, hs_Water_p, hs_Water_L⟩ := SlAt.lies' hs_Water
 obtain ⟨s0Ip, s0In, s0Ic⟩ := s_Ice_s
 have hs_Ice_l : s0In = s.Ice.length := hs_Ice.1
 subst hs_Ice_l
 obtain ⟨s_Ice_b, s0Io, hs_Ice_p, hs_Ice_L⟩ := SlAt.lies' hs_Ice
 obtain ⟨press_p, press_n, press_c⟩ := press_s
 have hpress_l : press_n = press.length := hpress.1
 subst hpress_l
 obtain ⟨press_b, press_o, hpress_p, hpress_L⟩ := SlAt.lies' hpress
 refine enter (args := [.g [.i s.Class, .i s.Power, .i s.Draught, .i s.Tonnes, .v (.slice s0Tp s.Thrust.length s0Tc), .v (.slice s0Wp s.Water.length s0Wc), .v (.slice s0Ip s.Ice.length s0Ic), .i s.Slow, .i s.Brash, .i s.Ridge, .i s.Press], .g [.i c.Conc.Lo, .i c.Conc.Hi, .i c.Thick.Lo, .i c.Thick.Hi, .i c.Ridge.Lo, .i c.Ridge.Hi, .i c.Press.Lo, .i c.Press.Hi], .v (.slice press_p press.length press_c)]) Tryd.func35 rfl (N := 80) rfl (Nat.le_of_ble_eq_true rfl) ?_
 refine aqS ?_
 refine aqT (rows := [_, _, _, _]) rfl (by kernel_rfl) ⟨
  okp rfl rfl (op_boxN (L := 1) (lN rfl) rfl rfl rfl),
  okp rfl rfl (op_boxN (L := 2) (lN rfl) rfl rfl rfl),
  okp rfl rfl (oqa (L := 3) (lN rfl) zl_32),
  okp rfl rfl (oqA (lN rfl) rfl),
  trivial⟩ ?_
 refine fqK (s' := (kt 2 (.v (.slice press_p press.length press_c)) :: kt 3 (.p 1 0) :: kt 4 (.p 2 0) :: kt 6 (.p 3 0) :: kb 1 25 11 :: kb 2 34 8 :: kb 3 32 2 :: sK 1 s (.v (.slice s0Tp s.Thrust.length s0Tc)) (.v (.slice s0Wp s.Water.length s0Wc)) (.v (.slice s0Ip s.Ice.length s0Ic)) [kc 2 0 (.i c.Conc.Lo), kc 2 1 (.i c.Conc.Hi), kc 2 2 (.i c.Thick.Lo), kc 2 3 (.i c.Thick.Hi), kc 2 4 (.i c.Ridge.Lo), kc 2 5 (.i c.Ridge.Hi), kc 2 6 (.i c.Press.Lo), kc 2 7 (.i c.Press.Hi), kc 3 0 (.i 0), kc 3 1 (.i 0)])) ?_ (kp rfl) rfl
 refine fqT ?_
 refine aqS ?_
 refine aqS ?_
 refine aqT (rows := [_, _, _, _]) rfl (by kernel_rfl) ⟨
  okp rfl rfl (oqL (ys := [.i s.Class, .i s.Power, .i s.Draught, .i s.Tonnes, .v (.slice s0Tp s.Thrust.length s0Tc), .v (.slice s0Wp s.Water.length s0Wc), .v (.slice s0Ip s.Ice.length s0Ic), .i s.Slow, .i s.Brash, .i s.Ridge, .i s.Press]) (lN rfl) sh_25 rfl rfl ⟨rfl, rfl, rfl, rfl, rfl, rfl, rfl, rfl, rfl, rfl, rfl, trivial⟩),
  okp rfl rfl (oqL (ys := [.i c.Conc.Lo, .i c.Conc.Hi, .i c.Thick.Lo, .i c.Thick.Hi, .i c.Ridge.Lo, .i c.Ridge.Hi, .i c.Press.Lo, .i c.Press.Hi]) (lN rfl) sh_34 rfl rfl ⟨rfl, rfl, rfl, rfl, rfl, rfl, rfl, rfl, trivial⟩),
  okp rfl rfl (oqC (x := .i (met s c)) (fs := []) (caps := []) (extra := []) (lN rfl) en_90 rfl ⟨rfl, rfl, rfl⟩ (EvL.cons rfl (EvL.cons rfl EvL.nil)) (fun mm aa ww gg hr hrel => (c90 s ⟨s0Tp, s.Thrust.length, s0Tc⟩ ⟨s0Wp, s.Water.length, s0Wc⟩ ⟨s0Ip, s.Ice.length, s0Ic⟩ c ww (SlIs.mono hs_Thrust hrel.below) (SlIs.mono hs_Water hrel.below) (SlIs.mono hs_Ice hrel.below)))),
  okp rfl rfl (oqA (lN rfl) rfl),
  trivial⟩ ?_
 refine fqK (s' := (kt 2 (.v (.slice press_p press.length press_c)) :: kt 3 (.p 1 0) :: kt 4 (.p 2 0) :: kt 6 (.p 3 0) :: kt 8 (.i (met s c)) :: kb 1 25 11 :: kb 2 34 8 :: kb 3 32 2 :: sK 1 s (.v (.slice s0Tp s.Thrust.length s0Tc)) (.v (.slice s0Wp s.Water.length s0Wc)) (.v (.slice s0Ip s.Ice.length s0Ic)) [kc 2 0 (.i c.Conc.Lo), kc 2 1 (.i c.Conc.Hi), kc 2 2 (.i c.Thick.Lo), kc 2 3 (.i c.Thick.Hi), kc 2 4 (.i c.Ridge.Lo), kc 2 5 (.i c.Ridge.Hi), kc 2 6 (.i c.Press.Lo), kc 2 7 (.i c.Press.Hi), kc 3 0 (.i 0), kc 3 1 (.i 0)])) ?_ (kp rfl) rfl
 refine fqT ?_
 refine aqS ?_
 refine aqT (rows := [_, _]) rfl (by kernel_rfl) ⟨
  okp rfl rfl (oqM (lN rfl) rfl),
  okp rfl rfl (oqB (lN rfl) rfl rfl rfl),
  trivial⟩ ?_
 refine fqK (s' := (kt 2 (.v (.slice press_p press.length press_c)) :: kt 3 (.p 1 0) :: kt 4 (.p 2 0) :: kt 6 (.p 3 0) :: kt 8 (.i (met s c)) :: kt 18 (.B ((met s c) != 0)) :: kb 1 25 11 :: kb 2 34 8 :: kb 3 32 2 :: sK 1 s (.v (.slice s0Tp s.Thrust.length s0Tc)) (.v (.slice s0Wp s.Water.length s0Wc)) (.v (.slice s0Ip s.Ice.length s0Ic)) [kc 2 0 (.i c.Conc.Lo), kc 2 1 (.i c.Conc.Hi), kc 2 2 (.i c.Thick.Lo), kc 2 3 (.i c.Thick.Hi), kc 2 4 (.i c.Ridge.Lo), kc 2 5 (.i c.Ridge.Hi), kc 2 6 (.i c.Press.Lo), kc 2 7 (.i c.Press.Hi), kc 3 0 (.i 0), kc 3 1 (.i 0)])) ?_ (kp rfl) rfl
 refine fqT ?_
 refine aqc rfl (fun hz1 => ?_) (fun hz1 => ?_)
 ·have _z := hz1
  have q2 := ne_t hz1
  refine aqS ?_
  refine aqT (rows := [_, _, _, _]) rfl (by kernel_rfl) ⟨
   okp rfl rfl (op_build (x := .g [.i 0, .i 0]) (lN rfl) EvL.nil (fun m w => by kernel_rfl)),
   okp rfl rfl (oqM (lN rfl) rfl),
   okp rfl rfl (oqS sz_32 rfl rfl rfl rfl rfl (by decide)),
   okp rfl rfl (oqA (lN rfl) rfl),
   trivial⟩ ?_
  refine fqK (s' := [kt 6 (.p 3 0), kt 7 (.i (met s c)), kb 3 32 2, kc 3 0 (.i 0), kc 3 1 (.i 0)]) ?_ (kp rfl) rfl
  refine fqT ?_
  refine aqr ?_
  refine fqR ?_
  refine pqr (x := .t [.g [.i 0, .i 0], .i (met s c)]) rfl rfl (rqC (ys := [.i 0, .i 0]) rfl sh_32 rfl ⟨rfl, rfl, trivial⟩ (rqT rfl rqN)) rfl (fun mm aa ww hr => ?_)
  show Ending.returned (.tuple #[.agg #[.int .i64 0, .int .i64 0], .int .i64 (met s c)]) = _ ∧ _
  exact ⟨by rw [free, if_pos (ne_t hz1)], hr.below⟩
 ·have _z := hz1
  have q3 := ne_f hz1
  refine aqk ?_
  refine fqT ?_
  refine aqS ?_
  refine aqS ?_
  have hmet := met_ok (ne_f hz1)
  refine aqT (rows := [_, _, _]) rfl (by kernel_rfl) ⟨
   okp rfl rfl (oqM (lN rfl) rfl),
   okp rfl rfl (op_len (n := press.length) (lN rfl) (by rw [ss_56]; rfl) rfl rfl),
   okp rfl rfl (oqB (lN rfl) rfl rfl rfl),
   trivial⟩ ?_
  refine fqK (s' := (kt 2 (.v (.slice press_p press.length press_c)) :: kt 3 (.p 1 0) :: kt 4 (.p 2 0) :: kt 6 (.p 3 0) :: kt 23 (.B (decide ((((press.length : Nat) : Int)) > 240))) :: kb 1 25 11 :: kb 2 34 8 :: kb 3 32 2 :: sK 1 s (.v (.slice s0Tp s.Thrust.length s0Tc)) (.v (.slice s0Wp s.Water.length s0Wc)) (.v (.slice s0Ip s.Ice.length s0Ic)) [kc 2 0 (.i c.Conc.Lo), kc 2 1 (.i c.Conc.Hi), kc 2 2 (.i c.Thick.Lo), kc 2 3 (.i c.Thick.Hi), kc 2 4 (.i c.Ridge.Lo), kc 2 5 (.i c.Ridge.Hi), kc 2 6 (.i c.Press.Lo), kc 2 7 (.i c.Press.Hi), kc 3 0 (.i 0), kc 3 1 (.i 0)])) ?_ (kp rfl) rfl
  refine fqT ?_
  refine aqc rfl (fun hz4 => ?_) (fun hz4 => ?_)
  ·have _z := hz4
   have q5 := of_decide_eq_true hz4
   refine aqS ?_
   refine aqT (rows := [_, _, _]) rfl (by kernel_rfl) ⟨
    okp rfl rfl (op_build (x := .g [.i 0, .i 0]) (lN rfl) EvL.nil (fun m w => by kernel_rfl)),
    okp rfl rfl (oqS sz_32 rfl rfl rfl rfl rfl (by decide)),
    okp rfl rfl (oqA (lN rfl) rfl),
    trivial⟩ ?_
   refine fqK (s' := [kt 6 (.p 3 0), kt 7 (.i 2), kb 3 32 2, kc 3 0 (.i 0), kc 3 1 (.i 0)]) ?_ (kp rfl) rfl
   refine fqT ?_
   refine aqr ?_
   refine fqR ?_
   refine pqr (x := .t [.g [.i 0, .i 0], .i 2]) rfl rfl (rqC (ys := [.i 0, .i 0]) rfl sh_32 rfl ⟨rfl, rfl, trivial⟩ (rqT rfl rqN)) rfl (fun mm aa ww hr => ?_)
   show Ending.returned (.tuple #[.agg #[.int .i64 0, .int .i64 0], .int .i64 2]) = _ ∧ _
   exact ⟨by rw [free, if_neg (by rw [ne_f hz1]; decide), if_pos (of_decide_eq_true hz4)], hr.below⟩
  ·have _z := hz4
   have q6 := of_decide_eq_false hz4
   refine aqk ?_
   refine fqT ?_
   refine aqS ?_
   refine aqS ?_
   refine aqT (rows := [_, _, _]) rfl (by kernel_rfl) ⟨
    okp rfl rfl (oqM (lN rfl) rfl),
    okp rfl rfl (op_len (n := press.length) (lN rfl) (by rw [ss_56]; rfl) rfl rfl),
    okp rfl rfl (oqM (lN rfl) rfl),
    trivial⟩ ?_
   refine fqK (s' := (kt 2 (.v (.slice press_p press.length press_c)) :: kt 3 (.p 1 0) :: kt 4 (.p 2 0) :: kt 6 (.p 3 0) :: kt 25 (.v (.slice press_p press.length press_c)) :: kt 26 (.i (((press.length : Nat) : Int))) :: kt 27 (.i 0) :: kb 1 25 11 :: kb 2 34 8 :: kb 3 32 2 :: sK 1 s (.v (.slice s0Tp s.Thrust.length s0Tc)) (.v (.slice s0Wp s.Water.length s0Wc)) (.v (.slice s0Ip s.Ice.length s0Ic)) [kc 2 0 (.i c.Conc.Lo), kc 2 1 (.i c.Conc.Hi), kc 2 2 (.i c.Thick.Lo), kc 2 3 (.i c.Thick.Hi), kc 2 4 (.i c.Ridge.Lo), kc 2 5 (.i c.Ridge.Hi), kc 2 6 (.i c.Press.Lo), kc 2 7 (.i c.Press.Hi), kc 3 0 (.i 0), kc 3 1 (.i 0)])) ?_ (kp rfl) rfl
   refine fqT ?_
   refine aw_block ?_
   refine AW.keep (s' := (fun (k : Nat) => (kt 2 (.v (.slice press_p press.length press_c)) :: kt 3 (.p 1 0) :: kt 4 (.p 2 0) :: kt 6 (.p 3 0) :: kt 25 (.v (.slice press_p press.length press_c)) :: kt 26 (.i (((press.length : Nat) : Int))) :: kt 27 (.i ((k : Int))) :: kb 1 25 11 :: kb 2 34 8 :: kb 3 32 2 :: sK 1 s (.v (.slice s0Tp s.Thrust.length s0Tc)) (.v (.slice s0Wp s.Water.length s0Wc)) (.v (.slice s0Ip s.Ice.length s0Ic)) [kc 2 0 (.i c.Conc.Lo), kc 2 1 (.i c.Conc.Hi), kc 2 2 (.i c.Thick.Lo), kc 2 3 (.i c.Thick.Hi), kc 2 4 (.i c.Ridge.Lo), kc 2 5 (.i c.Ridge.Hi), kc 2 6 (.i c.Press.Lo), kc 2 7 (.i c.Press.Hi), kc 3 0 (.i 0), kc 3 1 (.i 0)])) ((0 : Nat))) ?_ (kp rfl) rfl
   refine aw_loop (ι := Nat) (fun k => k ≤ press.length ∧ ∀ j < k, pressOK (sp press (j : Int)) = true) (fun k => (kt 2 (.v (.slice press_p press.length press_c)) :: kt 3 (.p 1 0) :: kt 4 (.p 2 0) :: kt 6 (.p 3 0) :: kt 25 (.v (.slice press_p press.length press_c)) :: kt 26 (.i (((press.length : Nat) : Int))) :: kt 27 (.i ((k : Int))) :: kb 1 25 11 :: kb 2 34 8 :: kb 3 32 2 :: sK 1 s (.v (.slice s0Tp s.Thrust.length s0Tc)) (.v (.slice s0Wp s.Water.length s0Wc)) (.v (.slice s0Ip s.Ice.length s0Ic)) [kc 2 0 (.i c.Conc.Lo), kc 2 1 (.i c.Conc.Hi), kc 2 2 (.i c.Thick.Lo), kc 2 3 (.i c.Thick.Hi), kc 2 4 (.i c.Ridge.Lo), kc 2 5 (.i c.Ridge.Hi), kc 2 6 (.i c.Press.Lo), kc 2 7 (.i c.Press.Hi), kc 3 0 (.i 0), kc 3 1 (.i 0)])) (fun k => press.length - k) ⟨Nat.zero_le _, fun j hj => absurd hj (Nat.not_lt_zero j)⟩ (fun k hI => ?_)
   obtain ⟨hk, hall⟩ := hI
   refine aqS ?_
   refine aqT (rows := [_]) rfl (by kernel_rfl) ⟨
    okp rfl rfl (oqB (lN rfl) rfl rfl rfl),
    trivial⟩ ?_
   refine fqK (s' := (kt 2 (.v (.slice press_p press.length press_c)) :: kt 3 (.p 1 0) :: kt 4 (.p 2 0) :: kt 6 (.p 3 0) :: kt 25 (.v (.slice press_p press.length press_c)) :: kt 26 (.i (((press.length : Nat) : Int))) :: kt 27 (.i ((k : Int))) :: kt 28 (.B (decide (((k : Int)) < (((press.length : Nat) : Int))))) :: kb 1 25 11 :: kb 2 34 8 :: kb 3 32 2 :: sK 1 s (.v (.slice s0Tp s.Thrust.length s0Tc)) (.v (.slice s0Wp s.Water.length s0Wc)) (.v (.slice s0Ip s.Ice.length s0Ic)) [kc 2 0 (.i c.Conc.Lo), kc 2 1 (.i c.Conc.Hi), kc 2 2 (.i c.Thick.Lo), kc 2 3 (.i c.Thick.Hi), kc 2 4 (.i c.Ridge.Lo), kc 2 5 (.i c.Ridge.Hi), kc 2 6 (.i c.Press.Lo), kc 2 7 (.i c.Press.Hi), kc 3 0 (.i 0), kc 3 1 (.i 0)])) ?_ (kp rfl) rfl
   refine fqT ?_
   refine aqS ?_
   refine aqc rfl (fun hz7 => ?_) (fun hz7 => ?_)
   ·have _z := hz7
    have q8 := of_decide_eq_true hz7
    refine aqk ?_
    refine fqT ?_
    refine aqS ?_
    refine aw_block ?_
    refine aqS ?_
    refine aqT (rows := [_, _, _, _]) rfl (by kernel_rfl) ⟨
     okp rfl rfl (op_ixB (lN rfl) rfl rfl ss_56 (hpress_p (ne_of_ix (i := (k : Int)) (by omega) (by omega))) (by omega) (by omega)),
     okp rfl rfl (oqW (y := .g [.i (((sp press ((k : Int)))).Lo), .i (((sp press ((k : Int)))).Hi)]) (lN rfl) rfl (ldN (hpress_L (ne_of_ix (i := (k : Int)) (by omega) (by omega))) ⟨0, 0⟩ (i := (k : Int)) (by omega) (by omega) 0 (vs := [(.int .i64 (((sp press ((k : Int)))).Lo)), (.int .i64 (((sp press ((k : Int)))).Hi))]) (fun zq zv zh => sub_get (vs := [(.int .i64 (((sp press ((k : Int)))).Lo)), (.int .i64 (((sp press ((k : Int)))).Hi))]) rfl zh) rfl sh_32 rfl)),
     okp rfl rfl (oqa (L := 4) (lN rfl) zl_32),
     okp rfl rfl (oqS sz_32 rfl rfl rfl rfl rfl (by decide)),
     trivial⟩ ?_
    refine fqK (s' := (kt 2 (.v (.slice press_p press.length press_c)) :: kt 3 (.p 1 0) :: kt 4 (.p 2 0) :: kt 6 (.p 3 0) :: kt 10 (.p 4 0) :: kt 25 (.v (.slice press_p press.length press_c)) :: kt 26 (.i (((press.length : Nat) : Int))) :: kt 27 (.i ((k : Int))) :: kb 1 25 11 :: kb 2 34 8 :: kb 3 32 2 :: kb 4 32 2 :: sK 1 s (.v (.slice s0Tp s.Thrust.length s0Tc)) (.v (.slice s0Wp s.Water.length s0Wc)) (.v (.slice s0Ip s.Ice.length s0Ic)) [kc 2 0 (.i c.Conc.Lo), kc 2 1 (.i c.Conc.Hi), kc 2 2 (.i c.Thick.Lo), kc 2 3 (.i c.Thick.Hi), kc 2 4 (.i c.Ridge.Lo), kc 2 5 (.i c.Ridge.Hi), kc 2 6 (.i c.Press.Lo), kc 2 7 (.i c.Press.Hi), kc 3 0 (.i 0), kc 3 1 (.i 0), kc 4 0 (.i (((sp press ((k : Int)))).Lo)), kc 4 1 (.i (((sp press ((k : Int)))).Hi))])) ?_ (kp rfl) rfl
    refine fqT ?_
    refine aqS ?_
    refine aqT (rows := [_, _, _, _, _, _, _, _, _, _, _, _, _, _, _]) rfl (by kernel_rfl) ⟨
     okp rfl rfl (oqF (lN rfl) rfl fo_32_0),
     okp rfl rfl (oq1 (lN rfl) sh_3 rfl rfl),
     okp rfl rfl (oqB (lN rfl) rfl rfl rfl),
     okp rfl rfl (oqM (lN rfl) rfl),
     ok_if (lN rfl) rfl rfl rfl rfl rfl rfl (fun hg9 => oqF (lN rfl) (force_x rfl) fo_32_1),
     ok_if (lN rfl) rfl rfl rfl rfl rfl rfl (fun hg10 => oq1 (lN rfl) sh_3 (force_eq (beq_iff_eq.2 hg10) rfl) rfl),
     ok_if (lN rfl) rfl rfl rfl rfl rfl rfl (fun hg11 => oqB (lN rfl) (force_eq (beq_iff_eq.2 hg11) rfl) rfl rfl),
     okp rfl rfl (op_or (lN rfl) rfl rfl),
     okp rfl rfl (oqM (lN rfl) rfl),
     ok_if (lN rfl) rfl rfl rfl rfl rfl rfl (fun hg12 => oqF (lN rfl) (force_x rfl) fo_32_0),
     ok_if (lN rfl) rfl rfl rfl rfl rfl rfl (fun hg13 => oq1 (lN rfl) sh_3 (force_eq (beq_iff_eq.2 hg13) rfl) rfl),
     ok_if (lN rfl) rfl rfl rfl rfl rfl rfl (fun hg14 => oqF (lN rfl) (force_x rfl) fo_32_1),
     ok_if (lN rfl) rfl rfl rfl rfl rfl rfl (fun hg15 => oq1 (lN rfl) sh_3 (force_eq (beq_iff_eq.2 hg15) rfl) rfl),
     ok_if (lN rfl) rfl rfl rfl rfl rfl rfl (fun hg16 => oqB (lN rfl) (force_eq (beq_iff_eq.2 hg16) rfl) (force_eq (beq_iff_eq.2 hg16) rfl) rfl),
     okp rfl rfl (op_or (lN rfl) rfl rfl),
     trivial⟩ ?_
    refine fqK (s' := (kt 2 (.v (.slice press_p press.length press_c)) :: kt 3 (.p 1 0) :: kt 4 (.p 2 0) :: kt 6 (.p 3 0) :: kt 25 (.v (.slice press_p press.length press_c)) :: kt 26 (.i (((press.length : Nat) : Int))) :: kt 27 (.i ((k : Int))) :: kt 45 (.B (((decide ((((sp press ((k : Int)))).Lo) < 0)) || (decide ((((sp press ((k : Int)))).Hi) > 3))) || (decide ((((sp press ((k : Int)))).Lo) > (((sp press ((k : Int)))).Hi))))) :: kb 1 25 11 :: kb 2 34 8 :: kb 3 32 2 :: sK 1 s (.v (.slice s0Tp s.Thrust.length s0Tc)) (.v (.slice s0Wp s.Water.length s0Wc)) (.v (.slice s0Ip s.Ice.length s0Ic)) [kc 2 0 (.i c.Conc.Lo), kc 2 1 (.i c.Conc.Hi), kc 2 2 (.i c.Thick.Lo), kc 2 3 (.i c.Thick.Hi), kc 2 4 (.i c.Ridge.Lo), kc 2 5 (.i c.Ridge.Hi), kc 2 6 (.i c.Press.Lo), kc 2 7 (.i c.Press.Hi), kc 3 0 (.i 0), kc 3 1 (.i 0)])) ?_ (kp rfl) rfl
    refine fqT ?_
    refine aqc rfl (fun hz17 => ?_) (fun hz17 => ?_)
    ·have _z := hz17
     have q18 := hz17
     refine aqS ?_
     refine aqT (rows := [_, _, _]) rfl (by kernel_rfl) ⟨
      okp rfl rfl (op_build (x := .g [.i 0, .i 0]) (lN rfl) EvL.nil (fun m w => by kernel_rfl)),
      okp rfl rfl (oqS sz_32 rfl rfl rfl rfl rfl (by decide)),
      okp rfl rfl (oqA (lN rfl) rfl),
      trivial⟩ ?_
     refine fqK (s' := [kt 6 (.p 3 0), kt 7 (.i 6), kb 3 32 2, kc 3 0 (.i 0), kc 3 1 (.i 0)]) ?_ (kp rfl) rfl
     refine fqT ?_
     refine aqr ?_
     refine fin_block_ret ?_
     refine fqR ?_
     refine fqR ?_
     refine fin_block_ret ?_
     refine fqR ?_
     refine pqr (x := .t [.g [.i 0, .i 0], .i 6]) rfl rfl (rqC (ys := [.i 0, .i 0]) rfl sh_32 rfl ⟨rfl, rfl, trivial⟩ (rqT rfl rqN)) rfl (fun mm aa ww hr => ?_)
     show Ending.returned (.tuple #[.agg #[.int .i64 0, .int .i64 0], .int .i64 6]) = _ ∧ _
     exact ⟨by rw [free, if_neg (by rw [ne_f hz1]; decide), if_neg (of_decide_eq_false hz4), all_sp_no (f := pressOK) (k := k) (by omega) (b2 hz17)]; rfl, hr.below⟩
    ·have _z := hz17
     have q19 := of_decide_eq_false (or_fl (or_fl hz17))
     have q20 := of_decide_eq_false (or_fr (or_fl hz17))
     have q21 := of_decide_eq_false (or_fr hz17)
     refine aqk ?_
     refine fqB ?_
     refine fqT ?_
     refine aqT (rows := [_, _]) rfl (by kernel_rfl) ⟨
      okp rfl rfl (oqB (lN rfl) rfl rfl (nw_add ⟨(by omega), (by omega)⟩)),
      okp rfl rfl (oqM (lN rfl) rfl),
      trivial⟩ ?_
     refine fqK (s' := (kt 2 (.v (.slice press_p press.length press_c)) :: kt 3 (.p 1 0) :: kt 4 (.p 2 0) :: kt 6 (.p 3 0) :: kt 25 (.v (.slice press_p press.length press_c)) :: kt 26 (.i (((press.length : Nat) : Int))) :: kt 27 (.i (((k : Int)) + 1)) :: kb 1 25 11 :: kb 2 34 8 :: kb 3 32 2 :: sK 1 s (.v (.slice s0Tp s.Thrust.length s0Tc)) (.v (.slice s0Wp s.Water.length s0Wc)) (.v (.slice s0Ip s.Ice.length s0Ic)) [kc 2 0 (.i c.Conc.Lo), kc 2 1 (.i c.Conc.Hi), kc 2 2 (.i c.Thick.Lo), kc 2 3 (.i c.Thick.Hi), kc 2 4 (.i c.Ridge.Lo), kc 2 5 (.i c.Ridge.Hi), kc 2 6 (.i c.Press.Lo), kc 2 7 (.i c.Press.Hi), kc 3 0 (.i 0), kc 3 1 (.i 0)])) ?_ (kp rfl) rfl
     exact fin_loop (k + 1) ⟨by omega, fun j hj => by rcases Nat.lt_succ_iff_lt_or_eq.1 hj with h | rfl; exact hall j h; exact b4 hz17⟩ (by omega) ⟨rfl, rfl, rfl, rfl, rfl, rfl, rfl, rfl, rfl, rfl, rfl, rfl, rfl, rfl, rfl, rfl, rfl, rfl, rfl, rfl, rfl, rfl, rfl, rfl, rfl, rfl, rfl, rfl, rfl, rfl, rfl, trivial⟩ rfl
   ·have _z := hz7
    have q22 := of_decide_eq_false hz7
    refine aw_exit ?_
    refine fqE ?_
    refine fqE ?_
    refine fin_block_exit ?_
    refine fqT ?_
    refine aqS ?_
    have hpall := all_sp (f := pressOK) (k := k) (by omega) hall
    have hfree0 : free s c press = freeFrom s c (press.drop 0) 0 (-1) := by rw [free, if_neg (by rw [ne_f hz1]; decide), if_neg (of_decide_eq_false hz4), hpall]; rfl
    have hc := hmet.1
    refine aqT (rows := [_, _, _]) rfl (by kernel_rfl) ⟨
     okp rfl rfl (op_build (x := .g [.i ((-1)), .i 0]) (lN rfl) (EvL.cons rfl EvL.nil) (fun m w => by kernel_rfl)),
     okp rfl rfl (oqa (L := 5) (lN rfl) zl_32),
     okp rfl rfl (oqS sz_32 rfl rfl rfl rfl rfl (by decide)),
     trivial⟩ ?_
    refine fqK (s' := (kt 2 (.v (.slice press_p press.length press_c)) :: kt 3 (.p 1 0) :: kt 4 (.p 2 0) :: kt 6 (.p 3 0) :: kt 11 (.p 5 0) :: kb 1 25 11 :: kb 2 34 8 :: kb 3 32 2 :: kb 5 32 2 :: sK 1 s (.v (.slice s0Tp s.Thrust.length s0Tc)) (.v (.slice s0Wp s.Water.length s0Wc)) (.v (.slice s0Ip s.Ice.length s0Ic)) [kc 2 0 (.i c.Conc.Lo), kc 2 1 (.i c.Conc.Hi), kc 2 2 (.i c.Thick.Lo), kc 2 3 (.i c.Thick.Hi), kc 2 4 (.i c.Ridge.Lo), kc 2 5 (.i c.Ridge.Hi), kc 2 6 (.i c.Press.Lo), kc 2 7 (.i c.Press.Hi), kc 3 0 (.i 0), kc 3 1 (.i 0), kc 5 0 (.i ((-1))), kc 5 1 (.i 0)])) ?_ (kp rfl) rfl
    refine fqT ?_
    refine aqS ?_
    refine aqS ?_
    refine aqT (rows := [_, _, _]) rfl (by kernel_rfl) ⟨
     okp rfl rfl (oqM (lN rfl) rfl),
     okp rfl rfl (op_len (n := press.length) (lN rfl) (by rw [ss_56]; rfl) rfl rfl),
     okp rfl rfl (oqM (lN rfl) rfl),
     trivial⟩ ?_
    refine fqK (s' := (kt 3 (.p 1 0) :: kt 4 (.p 2 0) :: kt 6 (.p 3 0) :: kt 11 (.p 5 0) :: kt 49 (.v (.slice press_p press.length press_c)) :: kt 50 (.i (((press.length : Nat) : Int))) :: kt 51 (.i 0) :: kb 1 25 11 :: kb 2 34 8 :: kb 3 32 2 :: kb 5 32 2 :: sK 1 s (.v (.slice s0Tp s.Thrust.length s0Tc)) (.v (.slice s0Wp s.Water.length s0Wc)) (.v (.slice s0Ip s.Ice.length s0Ic)) [kc 2 0 (.i c.Conc.Lo), kc 2 1 (.i c.Conc.Hi), kc 2 2 (.i c.Thick.Lo), kc 2 3 (.i c.Thick.Hi), kc 2 4 (.i c.Ridge.Lo), kc 2 5 (.i c.Ridge.Hi), kc 2 6 (.i c.Press.Lo), kc 2 7 (.i c.Press.Hi), kc 3 0 (.i 0), kc 3 1 (.i 0), kc 5 0 (.i ((-1))), kc 5 1 (.i 0)])) ?_ (kp rfl) rfl
    refine fqT ?_
    refine aw_block ?_
    refine AW.keep (s' := (fun (q : Nat × Int × Span) => (kt 3 (.p 1 0) :: kt 4 (.p 2 0) :: kt 6 (.p 3 0) :: kt 11 (.p 5 0) :: kt 49 (.v (.slice press_p press.length press_c)) :: kt 50 (.i (((press.length : Nat) : Int))) :: kt 51 (.i ((q.1 : Int))) :: kb 1 25 11 :: kb 2 34 8 :: kb 3 32 2 :: kb 5 32 2 :: sK 1 s (.v (.slice s0Tp s.Thrust.length s0Tc)) (.v (.slice s0Wp s.Water.length s0Wc)) (.v (.slice s0Ip s.Ice.length s0Ic)) [kc 2 0 (.i c.Conc.Lo), kc 2 1 (.i c.Conc.Hi), kc 2 2 (.i c.Thick.Lo), kc 2 3 (.i c.Thick.Hi), kc 2 4 (.i c.Ridge.Lo), kc 2 5 (.i c.Ridge.Hi), kc 2 6 (.i q.2.2.Lo), kc 2 7 (.i q.2.2.Hi), kc 3 0 (.i 0), kc 3 1 (.i 0), kc 5 0 (.i q.2.1), kc 5 1 (.i 0)])) (((0 : Nat), (-1 : Int), c.Press))) ?_ (kp rfl) rfl
    refine aw_loop (ι := Nat × Int × Span) (fun q => q.1 ≤ press.length ∧ free s c press = freeFrom s c (press.drop q.1) (q.1 : Int) q.2.1) (fun q => (kt 3 (.p 1 0) :: kt 4 (.p 2 0) :: kt 6 (.p 3 0) :: kt 11 (.p 5 0) :: kt 49 (.v (.slice press_p press.length press_c)) :: kt 50 (.i (((press.length : Nat) : Int))) :: kt 51 (.i ((q.1 : Int))) :: kb 1 25 11 :: kb 2 34 8 :: kb 3 32 2 :: kb 5 32 2 :: sK 1 s (.v (.slice s0Tp s.Thrust.length s0Tc)) (.v (.slice s0Wp s.Water.length s0Wc)) (.v (.slice s0Ip s.Ice.length s0Ic)) [kc 2 0 (.i c.Conc.Lo), kc 2 1 (.i c.Conc.Hi), kc 2 2 (.i c.Thick.Lo), kc 2 3 (.i c.Thick.Hi), kc 2 4 (.i c.Ridge.Lo), kc 2 5 (.i c.Ridge.Hi), kc 2 6 (.i q.2.2.Lo), kc 2 7 (.i q.2.2.Hi), kc 3 0 (.i 0), kc 3 1 (.i 0), kc 5 0 (.i q.2.1), kc 5 1 (.i 0)])) (fun q => press.length - q.1) ⟨Nat.zero_le _, hfree0⟩ (fun q hI => ?_)
    obtain ⟨hk, hfr⟩ := hI
    refine aqS ?_
    refine aqT (rows := [_]) rfl (by kernel_rfl) ⟨
     okp rfl rfl (oqB (lN rfl) rfl rfl rfl),
     trivial⟩ ?_
    refine fqK (s' := (kt 3 (.p 1 0) :: kt 4 (.p 2 0) :: kt 6 (.p 3 0) :: kt 11 (.p 5 0) :: kt 49 (.v (.slice press_p press.length press_c)) :: kt 50 (.i (((press.length : Nat) : Int))) :: kt 51 (.i ((q.1 : Int))) :: kt 52 (.B (decide (((q.1 : Int)) < (((press.length : Nat) : Int))))) :: kb 1 25 11 :: kb 2 34 8 :: kb 3 32 2 :: kb 5 32 2 :: sK 1 s (.v (.slice s0Tp s.Thrust.length s0Tc)) (.v (.slice s0Wp s.Water.length s0Wc)) (.v (.slice s0Ip s.Ice.length s0Ic)) [kc 2 0 (.i c.Conc.Lo), kc 2 1 (.i c.Conc.Hi), kc 2 2 (.i c.Thick.Lo), kc 2 3 (.i c.Thick.Hi), kc 2 4 (.i c.Ridge.Lo), kc 2 5 (.i c.Ridge.Hi), kc 2 6 (.i q.2.2.Lo), kc 2 7 (.i q.2.2.Hi), kc 3 0 (.i 0), kc 3 1 (.i 0), kc 5 0 (.i q.2.1), kc 5 1 (.i 0)])) ?_ (kp rfl) rfl
    refine fqT ?_
    refine aqS ?_
    refine aqc rfl (fun hz23 => ?_) (fun hz23 => ?_)
    ·have _z := hz23
     have q24 := of_decide_eq_true hz23
     refine aqk ?_
     refine fqT ?_
     refine aqS ?_
     refine aw_block ?_
     refine aqS ?_
     have hlt : q.1 < press.length := by omega
     have hgp := pressOK_good hmet.2 (hall q.1 (by omega))
     have hgf := goodCell_first hgp
     have hgl := goodCell_last hgp
     refine aqT (rows := [_, _, _, _, _, _]) rfl (by kernel_rfl) ⟨
      okp rfl rfl (oqM (lN rfl) rfl),
      okp rfl rfl (op_ixB (lN rfl) rfl rfl ss_56 (hpress_p (ne_of_ix (i := (q.1 : Int)) (by omega) (by omega))) (by omega) (by omega)),
      okp rfl rfl (oqW (y := .g [.i (((sp press ((q.1 : Int)))).Lo), .i (((sp press ((q.1 : Int)))).Hi)]) (lN rfl) rfl (ldN (hpress_L (ne_of_ix (i := (q.1 : Int)) (by omega) (by omega))) ⟨0, 0⟩ (i := (q.1 : Int)) (by omega) (by omega) 0 (vs := [(.int .i64 (((sp press ((q.1 : Int)))).Lo)), (.int .i64 (((sp press ((q.1 : Int)))).Hi))]) (fun zq zv zh => sub_get (vs := [(.int .i64 (((sp press ((q.1 : Int)))).Lo)), (.int .i64 (((sp press ((q.1 : Int)))).Hi))]) rfl zh) rfl sh_32 rfl)),
      okp rfl rfl (oqa (L := 6) (lN rfl) zl_32),
      okp rfl rfl (oqA (lN rfl) rfl),
      okp rfl rfl (oqS sz_32 rfl rfl rfl rfl rfl (by decide)),
      trivial⟩ ?_
     refine fqK (s' := (kt 3 (.p 1 0) :: kt 4 (.p 2 0) :: kt 6 (.p 3 0) :: kt 11 (.p 5 0) :: kt 12 (.i ((q.1 : Int))) :: kt 13 (.p 6 0) :: kt 49 (.v (.slice press_p press.length press_c)) :: kt 50 (.i (((press.length : Nat) : Int))) :: kt 51 (.i ((q.1 : Int))) :: kb 1 25 11 :: kb 2 34 8 :: kb 3 32 2 :: kb 5 32 2 :: kb 6 32 2 :: sK 1 s (.v (.slice s0Tp s.Thrust.length s0Tc)) (.v (.slice s0Wp s.Water.length s0Wc)) (.v (.slice s0Ip s.Ice.length s0Ic)) [kc 2 0 (.i c.Conc.Lo), kc 2 1 (.i c.Conc.Hi), kc 2 2 (.i c.Thick.Lo), kc 2 3 (.i c.Thick.Hi), kc 2 4 (.i c.Ridge.Lo), kc 2 5 (.i c.Ridge.Hi), kc 2 6 (.i q.2.2.Lo), kc 2 7 (.i q.2.2.Hi), kc 3 0 (.i 0), kc 3 1 (.i 0), kc 5 0 (.i q.2.1), kc 5 1 (.i 0), kc 6 0 (.i (((sp press ((q.1 : Int)))).Lo)), kc 6 1 (.i (((sp press ((q.1 : Int)))).Hi))])) ?_ (kp rfl) rfl
     refine fqT ?_
     refine aqS ?_
     refine aqT (rows := [_, _, _]) rfl (by kernel_rfl) ⟨
      okp rfl rfl (oqL (ys := [.i (((sp press ((q.1 : Int)))).Lo), .i (((sp press ((q.1 : Int)))).Hi)]) (lN rfl) sh_32 rfl rfl ⟨rfl, rfl, trivial⟩),
      okp rfl rfl (oqF (lN rfl) rfl fo_34_3),
      okp rfl rfl (oqS sz_32 rfl rfl rfl rfl rfl (by decide)),
      trivial⟩ ?_
     refine fqK (s' := (kt 3 (.p 1 0) :: kt 4 (.p 2 0) :: kt 6 (.p 3 0) :: kt 11 (.p 5 0) :: kt 12 (.i ((q.1 : Int))) :: kt 49 (.v (.slice press_p press.length press_c)) :: kt 50 (.i (((press.length : Nat) : Int))) :: kt 51 (.i ((q.1 : Int))) :: kb 1 25 11 :: kb 2 34 8 :: kb 3 32 2 :: kb 5 32 2 :: sK 1 s (.v (.slice s0Tp s.Thrust.length s0Tc)) (.v (.slice s0Wp s.Water.length s0Wc)) (.v (.slice s0Ip s.Ice.length s0Ic)) [kc 2 0 (.i c.Conc.Lo), kc 2 1 (.i c.Conc.Hi), kc 2 2 (.i c.Thick.Lo), kc 2 3 (.i c.Thick.Hi), kc 2 4 (.i c.Ridge.Lo), kc 2 5 (.i c.Ridge.Hi), kc 2 6 (.i (((sp press ((q.1 : Int)))).Lo)), kc 2 7 (.i (((sp press ((q.1 : Int)))).Hi)), kc 3 0 (.i 0), kc 3 1 (.i 0), kc 5 0 (.i q.2.1), kc 5 1 (.i 0)])) ?_ (kp rfl) rfl
     refine fqT ?_
     refine aqS ?_
     refine aqS ?_
     refine aqT (rows := [_, _, _, _, _, _, _, _, _, _]) rfl (by kernel_rfl) ⟨
      okp rfl rfl (oqF (lN rfl) rfl fo_32_0),
      okp rfl rfl (oq1 (lN rfl) sh_3 rfl rfl),
      okp rfl rfl (oqB (lN rfl) rfl rfl rfl),
      okp rfl rfl (oqM (lN rfl) rfl),
      ok_if (lN rfl) rfl rfl rfl rfl rfl rfl (fun hg25 => oqL (ys := [.i c.Conc.Lo, .i c.Conc.Hi, .i c.Thick.Lo, .i c.Thick.Hi, .i c.Ridge.Lo, .i c.Ridge.Hi, .i (((sp press ((q.1 : Int)))).Lo), .i (((sp press ((q.1 : Int)))).Hi)]) (lN rfl) sh_34 (force_x rfl) rfl ⟨rfl, rfl, rfl, rfl, rfl, rfl, rfl, rfl, trivial⟩),
      ok_if (lN rfl) rfl rfl rfl rfl rfl rfl (fun hg26 => oqC (x := .g [.i ((firstI (⟨c.Conc, c.Thick, c.Ridge, (sp press ((q.1 : Int)))⟩)).Conc), .i ((firstI (⟨c.Conc, c.Thick, c.Ridge, (sp press ((q.1 : Int)))⟩)).Thick), .i ((firstI (⟨c.Conc, c.Thick, c.Ridge, (sp press ((q.1 : Int)))⟩)).Ridge), .i ((firstI (⟨c.Conc, c.Thick, c.Ridge, (sp press ((q.1 : Int)))⟩)).Press)]) (fs := []) (caps := []) (extra := []) (lN rfl) en_88 rfl ⟨rfl, rfl, rfl⟩ (EvL.cons (force_eq (beq_iff_eq.2 hg26) rfl) EvL.nil) (fun mm aa ww gg hr hrel => (c88 (⟨c.Conc, c.Thick, c.Ridge, (sp press ((q.1 : Int)))⟩) ww))),
      ok_if (lN rfl) rfl rfl rfl rfl rfl rfl (fun hg27 => op_build (x := .g [.p 1 0, .i ((firstI (⟨c.Conc, c.Thick, c.Ridge, (sp press ((q.1 : Int)))⟩)).Conc), .i ((firstI (⟨c.Conc, c.Thick, c.Ridge, (sp press ((q.1 : Int)))⟩)).Thick), .i ((firstI (⟨c.Conc, c.Thick, c.Ridge, (sp press ((q.1 : Int)))⟩)).Ridge), .i ((firstI (⟨c.Conc, c.Thick, c.Ridge, (sp press ((q.1 : Int)))⟩)).Press), .B false]) (lN rfl) (EvL.cons (force_x rfl) (EvL.cons (force_eq (beq_iff_eq.2 hg27) rfl) (EvL.cons rfl EvL.nil))) (fun m w => by kernel_rfl)),
      ok_if (lN rfl) rfl rfl rfl rfl rfl rfl (fun hg28 => oqC (x := .i (speed s ((firstI (⟨c.Conc, c.Thick, c.Ridge, (sp press ((q.1 : Int)))⟩))) false)) (fs := []) (caps := []) (extra := (kapp ((.b 1 :: cqK 1 0 11)) [])) (lN rfl) en_76 rfl ⟨rfl, rfl, rfl⟩ (EvL.cons (force_eq (beq_iff_eq.2 hg28) rfl) EvL.nil) (fun mm aa ww gg hr hrel => (c76 s ⟨s0Tp, s.Thrust.length, s0Tc⟩ ⟨s0Wp, s.Water.length, s0Wc⟩ ⟨s0Ip, s.Ice.length, s0Ic⟩ (mm 1) ((firstI (⟨c.Conc, c.Thick, c.Ridge, (sp press ((q.1 : Int)))⟩))) false ww (SlIs.mono hs_Thrust hrel.below) (SlIs.mono hs_Water hrel.below) (SlIs.mono hs_Ice hrel.below) (bqA (L := 1) (vs := [(.int .i64 s.Class), (.int .i64 s.Power), (.int .i64 s.Draught), (.int .i64 s.Tonnes), (.slice s0Tp s.Thrust.length s0Tc), (.slice s0Wp s.Water.length s0Wc), (.slice s0Ip s.Ice.length s0Ic), (.int .i64 s.Slow), (.int .i64 s.Brash), (.int .i64 s.Ridge), (.int .i64 s.Press)]) hrel (fun k hk => hr k (List.mem_append_left _ hk)) rfl ⟨rfl, rfl, rfl, rfl, rfl, rfl, rfl, rfl, rfl, rfl, rfl, trivial⟩) (by have g0 := of_decide_eq_true hg28; first | assumption | omega) (by have g0 := of_decide_eq_true hg28; first | assumption | omega)))),
      ok_if (lN rfl) rfl rfl rfl rfl rfl rfl (fun hg29 => oqB (lN rfl) (force_eq (beq_iff_eq.2 hg29) rfl) rfl rfl),
      okp rfl rfl (op_and (lN rfl) rfl rfl),
      trivial⟩ ?_
     refine fqK (s' := (kt 3 (.p 1 0) :: kt 4 (.p 2 0) :: kt 6 (.p 3 0) :: kt 11 (.p 5 0) :: kt 12 (.i ((q.1 : Int))) :: kt 49 (.v (.slice press_p press.length press_c)) :: kt 50 (.i (((press.length : Nat) : Int))) :: kt 51 (.i ((q.1 : Int))) :: kt 67 (.B ((decide (q.2.1 < 0)) && (decide ((speed s ((firstI (⟨c.Conc, c.Thick, c.Ridge, (sp press ((q.1 : Int)))⟩))) false) ≥ 10)))) :: kb 1 25 11 :: kb 2 34 8 :: kb 3 32 2 :: kb 5 32 2 :: sK 1 s (.v (.slice s0Tp s.Thrust.length s0Tc)) (.v (.slice s0Wp s.Water.length s0Wc)) (.v (.slice s0Ip s.Ice.length s0Ic)) [kc 2 0 (.i c.Conc.Lo), kc 2 1 (.i c.Conc.Hi), kc 2 2 (.i c.Thick.Lo), kc 2 3 (.i c.Thick.Hi), kc 2 4 (.i c.Ridge.Lo), kc 2 5 (.i c.Ridge.Hi), kc 2 6 (.i (((sp press ((q.1 : Int)))).Lo)), kc 2 7 (.i (((sp press ((q.1 : Int)))).Hi)), kc 3 0 (.i 0), kc 3 1 (.i 0), kc 5 0 (.i q.2.1), kc 5 1 (.i 0)])) ?_ (kp rfl) rfl
     refine fqT ?_
     refine aqc rfl (fun hz30 => ?_) (fun hz30 => ?_)
     ·have _z := hz30
      have q31 := of_decide_eq_true (and_tl hz30)
      have q32 := of_decide_eq_true (and_tr hz30)
      refine aqT (rows := [_, _, _]) rfl (by kernel_rfl) ⟨
       okp rfl rfl (oqM (lN rfl) rfl),
       okp rfl rfl (oqF (lN rfl) rfl fo_32_0),
       okp rfl rfl (oqs sz_3 rfl rfl rfl rfl (lN rfl)),
       trivial⟩ ?_
      refine fqK (s' := (kt 3 (.p 1 0) :: kt 4 (.p 2 0) :: kt 6 (.p 3 0) :: kt 11 (.p 5 0) :: kt 12 (.i ((q.1 : Int))) :: kt 49 (.v (.slice press_p press.length press_c)) :: kt 50 (.i (((press.length : Nat) : Int))) :: kt 51 (.i ((q.1 : Int))) :: kb 1 25 11 :: kb 2 34 8 :: kb 3 32 2 :: kb 5 32 2 :: sK 1 s (.v (.slice s0Tp s.Thrust.length s0Tc)) (.v (.slice s0Wp s.Water.length s0Wc)) (.v (.slice s0Ip s.Ice.length s0Ic)) [kc 2 0 (.i c.Conc.Lo), kc 2 1 (.i c.Conc.Hi), kc 2 2 (.i c.Thick.Lo), kc 2 3 (.i c.Thick.Hi), kc 2 4 (.i c.Ridge.Lo), kc 2 5 (.i c.Ridge.Hi), kc 2 6 (.i (((sp press ((q.1 : Int)))).Lo)), kc 2 7 (.i (((sp press ((q.1 : Int)))).Hi)), kc 3 0 (.i 0), kc 3 1 (.i 0), kc 5 0 (.i ((q.1 : Int))), kc 5 1 (.i 0)])) ?_ (kp rfl) rfl
      refine fqT ?_
      refine aqS ?_
      refine aqT (rows := [_, _, _, _, _]) rfl (by kernel_rfl) ⟨
       okp rfl rfl (oqL (ys := [.i c.Conc.Lo, .i c.Conc.Hi, .i c.Thick.Lo, .i c.Thick.Hi, .i c.Ridge.Lo, .i c.Ridge.Hi, .i (((sp press ((q.1 : Int)))).Lo), .i (((sp press ((q.1 : Int)))).Hi)]) (lN rfl) sh_34 rfl rfl ⟨rfl, rfl, rfl, rfl, rfl, rfl, rfl, rfl, trivial⟩),
       okp rfl rfl (oqC (x := .g [.i ((lastI (⟨c.Conc, c.Thick, c.Ridge, (sp press ((q.1 : Int)))⟩)).Conc), .i ((lastI (⟨c.Conc, c.Thick, c.Ridge, (sp press ((q.1 : Int)))⟩)).Thick), .i ((lastI (⟨c.Conc, c.Thick, c.Ridge, (sp press ((q.1 : Int)))⟩)).Ridge), .i ((lastI (⟨c.Conc, c.Thick, c.Ridge, (sp press ((q.1 : Int)))⟩)).Press)]) (fs := []) (caps := []) (extra := []) (lN rfl) en_100 rfl ⟨rfl, rfl, rfl⟩ (EvL.cons rfl EvL.nil) (fun mm aa ww gg hr hrel => (c100 (⟨c.Conc, c.Thick, c.Ridge, (sp press ((q.1 : Int)))⟩) ww))),
       okp rfl rfl (op_build (x := .g [.p 1 0, .i ((lastI (⟨c.Conc, c.Thick, c.Ridge, (sp press ((q.1 : Int)))⟩)).Conc), .i ((lastI (⟨c.Conc, c.Thick, c.Ridge, (sp press ((q.1 : Int)))⟩)).Thick), .i ((lastI (⟨c.Conc, c.Thick, c.Ridge, (sp press ((q.1 : Int)))⟩)).Ridge), .i ((lastI (⟨c.Conc, c.Thick, c.Ridge, (sp press ((q.1 : Int)))⟩)).Press), .B false]) (lN rfl) (EvL.cons rfl (EvL.cons rfl (EvL.cons rfl EvL.nil))) (fun m w => by kernel_rfl)),
       okp rfl rfl (oqC (x := .i (speed s ((lastI (⟨c.Conc, c.Thick, c.Ridge, (sp press ((q.1 : Int)))⟩))) false)) (fs := []) (caps := []) (extra := (kapp ((.b 1 :: cqK 1 0 11)) [])) (lN rfl) en_76 rfl ⟨rfl, rfl, rfl⟩ (EvL.cons rfl EvL.nil) (fun mm aa ww gg hr hrel => (c76 s ⟨s0Tp, s.Thrust.length, s0Tc⟩ ⟨s0Wp, s.Water.length, s0Wc⟩ ⟨s0Ip, s.Ice.length, s0Ic⟩ (mm 1) ((lastI (⟨c.Conc, c.Thick, c.Ridge, (sp press ((q.1 : Int)))⟩))) false ww (SlIs.mono hs_Thrust hrel.below) (SlIs.mono hs_Water hrel.below) (SlIs.mono hs_Ice hrel.below) (bqA (L := 1) (vs := [(.int .i64 s.Class), (.int .i64 s.Power), (.int .i64 s.Draught), (.int .i64 s.Tonnes), (.slice s0Tp s.Thrust.length s0Tc), (.slice s0Wp s.Water.length s0Wc), (.slice s0Ip s.Ice.length s0Ic), (.int .i64 s.Slow), (.int .i64 s.Brash), (.int .i64 s.Ridge), (.int .i64 s.Press)]) hrel (fun k hk => hr k (List.mem_append_left _ hk)) rfl ⟨rfl, rfl, rfl, rfl, rfl, rfl, rfl, rfl, rfl, rfl, rfl, trivial⟩) (by first | assumption | omega) (by first | assumption | omega)))),
       okp rfl rfl (oqB (lN rfl) rfl rfl rfl),
       trivial⟩ ?_
      refine fqK (s' := (kt 3 (.p 1 0) :: kt 4 (.p 2 0) :: kt 6 (.p 3 0) :: kt 11 (.p 5 0) :: kt 12 (.i ((q.1 : Int))) :: kt 49 (.v (.slice press_p press.length press_c)) :: kt 50 (.i (((press.length : Nat) : Int))) :: kt 51 (.i ((q.1 : Int))) :: kt 74 (.B (decide ((speed s ((lastI (⟨c.Conc, c.Thick, c.Ridge, (sp press ((q.1 : Int)))⟩))) false) ≥ 10))) :: kb 1 25 11 :: kb 2 34 8 :: kb 3 32 2 :: kb 5 32 2 :: sK 1 s (.v (.slice s0Tp s.Thrust.length s0Tc)) (.v (.slice s0Wp s.Water.length s0Wc)) (.v (.slice s0Ip s.Ice.length s0Ic)) [kc 2 0 (.i c.Conc.Lo), kc 2 1 (.i c.Conc.Hi), kc 2 2 (.i c.Thick.Lo), kc 2 3 (.i c.Thick.Hi), kc 2 4 (.i c.Ridge.Lo), kc 2 5 (.i c.Ridge.Hi), kc 2 6 (.i (((sp press ((q.1 : Int)))).Lo)), kc 2 7 (.i (((sp press ((q.1 : Int)))).Hi)), kc 3 0 (.i 0), kc 3 1 (.i 0), kc 5 0 (.i ((q.1 : Int))), kc 5 1 (.i 0)])) ?_ (kp rfl) rfl
      refine fqT ?_
      refine aqc rfl (fun hz33 => ?_) (fun hz33 => ?_)
      ·have _z := hz33
       have q34 := of_decide_eq_true hz33
       refine aqS ?_
       refine aqT (rows := [_, _, _]) rfl (by kernel_rfl) ⟨
        okp rfl rfl (oqM (lN rfl) rfl),
        okp rfl rfl (oqF (lN rfl) rfl fo_32_1),
        okp rfl rfl (oqs sz_3 rfl rfl rfl rfl (lN rfl)),
        trivial⟩ ?_
       refine fqK (s' := [kt 6 (.p 3 0), kt 11 (.p 5 0), kb 3 32 2, kb 5 32 2, kc 3 0 (.i 0), kc 3 1 (.i 0), kc 5 0 (.i ((q.1 : Int))), kc 5 1 (.i ((q.1 : Int)))]) ?_ (kp rfl) rfl
       refine fqT ?_
       refine aqS ?_
       refine aqT (rows := [_, _, _]) rfl (by kernel_rfl) ⟨
        okp rfl rfl (oqL (ys := [.i ((q.1 : Int)), .i ((q.1 : Int))]) (lN rfl) sh_32 rfl rfl ⟨rfl, rfl, trivial⟩),
        okp rfl rfl (oqS sz_32 rfl rfl rfl rfl rfl (by decide)),
        okp rfl rfl (oqA (lN rfl) rfl),
        trivial⟩ ?_
       refine fqK (s' := [kt 6 (.p 3 0), kt 7 (.i 0), kb 3 32 2, kc 3 0 (.i ((q.1 : Int))), kc 3 1 (.i ((q.1 : Int)))]) ?_ (kp rfl) rfl
       refine fqT ?_
       refine aqr ?_
       refine fin_block_ret ?_
       refine fqR ?_
       refine fqR ?_
       refine fin_block_ret ?_
       refine fqR ?_
       refine pqr (x := .t [.g [.i ((q.1 : Int)), .i ((q.1 : Int))], .i 0]) rfl rfl (rqC (ys := [.i ((q.1 : Int)), .i ((q.1 : Int))]) rfl sh_32 rfl ⟨rfl, rfl, trivial⟩ (rqT rfl rqN)) rfl (fun mm aa ww hr => ?_)
       show Ending.returned (.tuple #[.agg #[.int .i64 ((q.1 : Int)), .int .i64 ((q.1 : Int))], .int .i64 0]) = _ ∧ _
       exact ⟨by rw [hfr, drop_sp hlt, freeFrom, if_pos (of_decide_eq_true hz33), if_pos hz30], hr.below⟩
      ·have _z := hz33
       have q35 := of_decide_eq_false hz33
       refine aqk ?_
       refine fqB ?_
       refine fqT ?_
       refine aqT (rows := [_, _]) rfl (by kernel_rfl) ⟨
        okp rfl rfl (oqB (lN rfl) rfl rfl (nw_add ⟨(by omega), (by omega)⟩)),
        okp rfl rfl (oqM (lN rfl) rfl),
        trivial⟩ ?_
       refine fqK (s' := (kt 3 (.p 1 0) :: kt 4 (.p 2 0) :: kt 6 (.p 3 0) :: kt 11 (.p 5 0) :: kt 49 (.v (.slice press_p press.length press_c)) :: kt 50 (.i (((press.length : Nat) : Int))) :: kt 51 (.i (((q.1 : Int)) + 1)) :: kb 1 25 11 :: kb 2 34 8 :: kb 3 32 2 :: kb 5 32 2 :: sK 1 s (.v (.slice s0Tp s.Thrust.length s0Tc)) (.v (.slice s0Wp s.Water.length s0Wc)) (.v (.slice s0Ip s.Ice.length s0Ic)) [kc 2 0 (.i c.Conc.Lo), kc 2 1 (.i c.Conc.Hi), kc 2 2 (.i c.Thick.Lo), kc 2 3 (.i c.Thick.Hi), kc 2 4 (.i c.Ridge.Lo), kc 2 5 (.i c.Ridge.Hi), kc 2 6 (.i (((sp press ((q.1 : Int)))).Lo)), kc 2 7 (.i (((sp press ((q.1 : Int)))).Hi)), kc 3 0 (.i 0), kc 3 1 (.i 0), kc 5 0 (.i ((q.1 : Int))), kc 5 1 (.i 0)])) ?_ (kp rfl) rfl
       exact fin_loop (q.1 + 1, (q.1 : Int), sp press (q.1 : Int)) ⟨by simp only []; omega, by rw [hfr, drop_sp hlt, freeFrom, if_neg (of_decide_eq_false hz33), if_pos hz30]; rfl⟩ (by simp only []; omega) ⟨rfl, rfl, rfl, rfl, rfl, rfl, rfl, rfl, rfl, rfl, rfl, rfl, rfl, rfl, rfl, rfl, rfl, rfl, rfl, rfl, rfl, rfl, rfl, rfl, rfl, rfl, rfl, rfl, rfl, rfl, rfl, rfl, rfl, rfl, trivial⟩ rfl
     ·have _z := hz30
      have q36 := hz30
      refine aqk ?_
      refine fqT ?_
      refine aqS ?_
      refine aqT (rows := [_, _, _, _, _]) rfl (by kernel_rfl) ⟨
       okp rfl rfl (oqL (ys := [.i c.Conc.Lo, .i c.Conc.Hi, .i c.Thick.Lo, .i c.Thick.Hi, .i c.Ridge.Lo, .i c.Ridge.Hi, .i (((sp press ((q.1 : Int)))).Lo), .i (((sp press ((q.1 : Int)))).Hi)]) (lN rfl) sh_34 rfl rfl ⟨rfl, rfl, rfl, rfl, rfl, rfl, rfl, rfl, trivial⟩),
       okp rfl rfl (oqC (x := .g [.i ((lastI (⟨c.Conc, c.Thick, c.Ridge, (sp press ((q.1 : Int)))⟩)).Conc), .i ((lastI (⟨c.Conc, c.Thick, c.Ridge, (sp press ((q.1 : Int)))⟩)).Thick), .i ((lastI (⟨c.Conc, c.Thick, c.Ridge, (sp press ((q.1 : Int)))⟩)).Ridge), .i ((lastI (⟨c.Conc, c.Thick, c.Ridge, (sp press ((q.1 : Int)))⟩)).Press)]) (fs := []) (caps := []) (extra := []) (lN rfl) en_100 rfl ⟨rfl, rfl, rfl⟩ (EvL.cons rfl EvL.nil) (fun mm aa ww gg hr hrel => (c100 (⟨c.Conc, c.Thick, c.Ridge, (sp press ((q.1 : Int)))⟩) ww))),
       okp rfl rfl (op_build (x := .g [.p 1 0, .i ((lastI (⟨c.Conc, c.Thick, c.Ridge, (sp press ((q.1 : Int)))⟩)).Conc), .i ((lastI (⟨c.Conc, c.Thick, c.Ridge, (sp press ((q.1 : Int)))⟩)).Thick), .i ((lastI (⟨c.Conc, c.Thick, c.Ridge, (sp press ((q.1 : Int)))⟩)).Ridge), .i ((lastI (⟨c.Conc, c.Thick, c.Ridge, (sp press ((q.1 : Int)))⟩)).Press), .B false]) (lN rfl) (EvL.cons rfl (EvL.cons rfl (EvL.cons rfl EvL.nil))) (fun m w => by kernel_rfl)),
       okp rfl rfl (oqC (x := .i (speed s ((lastI (⟨c.Conc, c.Thick, c.Ridge, (sp press ((q.1 : Int)))⟩))) false)) (fs := []) (caps := []) (extra := (kapp ((.b 1 :: cqK 1 0 11)) [])) (lN rfl) en_76 rfl ⟨rfl, rfl, rfl⟩ (EvL.cons rfl EvL.nil) (fun mm aa ww gg hr hrel => (c76 s ⟨s0Tp, s.Thrust.length, s0Tc⟩ ⟨s0Wp, s.Water.length, s0Wc⟩ ⟨s0Ip, s.Ice.length, s0Ic⟩ (mm 1) ((lastI (⟨c.Conc, c.Thick, c.Ridge, (sp press ((q.1 : Int)))⟩))) false ww (SlIs.mono hs_Thrust hrel.below) (SlIs.mono hs_Water hrel.below) (SlIs.mono hs_Ice hrel.below) (bqA (L := 1) (vs := [(.int .i64 s.Class), (.int .i64 s.Power), (.int .i64 s.Draught), (.int .i64 s.Tonnes), (.slice s0Tp s.Thrust.length s0Tc), (.slice s0Wp s.Water.length s0Wc), (.slice s0Ip s.Ice.length s0Ic), (.int .i64 s.Slow), (.int .i64 s.Brash), (.int .i64 s.Ridge), (.int .i64 s.Press)]) hrel (fun k hk => hr k (List.mem_append_left _ hk)) rfl ⟨rfl, rfl, rfl, rfl, rfl, rfl, rfl, rfl, rfl, rfl, rfl, trivial⟩) (by first | assumption | omega) (by first | assumption | omega)))),
       okp rfl rfl (oqB (lN rfl) rfl rfl rfl),
       trivial⟩ ?_
      refine fqK (s' := (kt 3 (.p 1 0) :: kt 4 (.p 2 0) :: kt 6 (.p 3 0) :: kt 11 (.p 5 0) :: kt 12 (.i ((q.1 : Int))) :: kt 49 (.v (.slice press_p press.length press_c)) :: kt 50 (.i (((press.length : Nat) : Int))) :: kt 51 (.i ((q.1 : Int))) :: kt 74 (.B (decide ((speed s ((lastI (⟨c.Conc, c.Thick, c.Ridge, (sp press ((q.1 : Int)))⟩))) false) ≥ 10))) :: kb 1 25 11 :: kb 2 34 8 :: kb 3 32 2 :: kb 5 32 2 :: sK 1 s (.v (.slice s0Tp s.Thrust.length s0Tc)) (.v (.slice s0Wp s.Water.length s0Wc)) (.v (.slice s0Ip s.Ice.length s0Ic)) [kc 2 0 (.i c.Conc.Lo), kc 2 1 (.i c.Conc.Hi), kc 2 2 (.i c.Thick.Lo), kc 2 3 (.i c.Thick.Hi), kc 2 4 (.i c.Ridge.Lo), kc 2 5 (.i c.Ridge.Hi), kc 2 6 (.i (((sp press ((q.1 : Int)))).Lo)), kc 2 7 (.i (((sp press ((q.1 : Int)))).Hi)), kc 3 0 (.i 0), kc 3 1 (.i 0), kc 5 0 (.i q.2.1), kc 5 1 (.i 0)])) ?_ (kp rfl) rfl
      refine fqT ?_
      refine aqc rfl (fun hz37 => ?_) (fun hz37 => ?_)
      ·have _z := hz37
       have q38 := of_decide_eq_true hz37
       refine aqS ?_
       refine aqT (rows := [_, _, _]) rfl (by kernel_rfl) ⟨
        okp rfl rfl (oqM (lN rfl) rfl),
        okp rfl rfl (oqF (lN rfl) rfl fo_32_1),
        okp rfl rfl (oqs sz_3 rfl rfl rfl rfl (lN rfl)),
        trivial⟩ ?_
       refine fqK (s' := [kt 6 (.p 3 0), kt 11 (.p 5 0), kb 3 32 2, kb 5 32 2, kc 3 0 (.i 0), kc 3 1 (.i 0), kc 5 0 (.i q.2.1), kc 5 1 (.i ((q.1 : Int)))]) ?_ (kp rfl) rfl
       refine fqT ?_
       refine aqS ?_
       refine aqT (rows := [_, _, _]) rfl (by kernel_rfl) ⟨
        okp rfl rfl (oqL (ys := [.i q.2.1, .i ((q.1 : Int))]) (lN rfl) sh_32 rfl rfl ⟨rfl, rfl, trivial⟩),
        okp rfl rfl (oqS sz_32 rfl rfl rfl rfl rfl (by decide)),
        okp rfl rfl (oqA (lN rfl) rfl),
        trivial⟩ ?_
       refine fqK (s' := [kt 6 (.p 3 0), kt 7 (.i 0), kb 3 32 2, kc 3 0 (.i q.2.1), kc 3 1 (.i ((q.1 : Int)))]) ?_ (kp rfl) rfl
       refine fqT ?_
       refine aqr ?_
       refine fin_block_ret ?_
       refine fqR ?_
       refine fqR ?_
       refine fin_block_ret ?_
       refine fqR ?_
       refine pqr (x := .t [.g [.i q.2.1, .i ((q.1 : Int))], .i 0]) rfl rfl (rqC (ys := [.i q.2.1, .i ((q.1 : Int))]) rfl sh_32 rfl ⟨rfl, rfl, trivial⟩ (rqT rfl rqN)) rfl (fun mm aa ww hr => ?_)
       show Ending.returned (.tuple #[.agg #[.int .i64 q.2.1, .int .i64 ((q.1 : Int))], .int .i64 0]) = _ ∧ _
       exact ⟨by rw [hfr, drop_sp hlt, freeFrom, if_pos (of_decide_eq_true hz37), if_neg (f2t hz30)], hr.below⟩
      ·have _z := hz37
       have q39 := of_decide_eq_false hz37
       refine aqk ?_
       refine fqB ?_
       refine fqT ?_
       refine aqT (rows := [_, _]) rfl (by kernel_rfl) ⟨
        okp rfl rfl (oqB (lN rfl) rfl rfl (nw_add ⟨(by omega), (by omega)⟩)),
        okp rfl rfl (oqM (lN rfl) rfl),
        trivial⟩ ?_
       refine fqK (s' := (kt 3 (.p 1 0) :: kt 4 (.p 2 0) :: kt 6 (.p 3 0) :: kt 11 (.p 5 0) :: kt 49 (.v (.slice press_p press.length press_c)) :: kt 50 (.i (((press.length : Nat) : Int))) :: kt 51 (.i (((q.1 : Int)) + 1)) :: kb 1 25 11 :: kb 2 34 8 :: kb 3 32 2 :: kb 5 32 2 :: sK 1 s (.v (.slice s0Tp s.Thrust.length s0Tc)) (.v (.slice s0Wp s.Water.length s0Wc)) (.v (.slice s0Ip s.Ice.length s0Ic)) [kc 2 0 (.i c.Conc.Lo), kc 2 1 (.i c.Conc.Hi), kc 2 2 (.i c.Thick.Lo), kc 2 3 (.i c.Thick.Hi), kc 2 4 (.i c.Ridge.Lo), kc 2 5 (.i c.Ridge.Hi), kc 2 6 (.i (((sp press ((q.1 : Int)))).Lo)), kc 2 7 (.i (((sp press ((q.1 : Int)))).Hi)), kc 3 0 (.i 0), kc 3 1 (.i 0), kc 5 0 (.i q.2.1), kc 5 1 (.i 0)])) ?_ (kp rfl) rfl
       exact fin_loop (q.1 + 1, q.2.1, sp press (q.1 : Int)) ⟨by simp only []; omega, by rw [hfr, drop_sp hlt, freeFrom, if_neg (of_decide_eq_false hz37), if_neg (f2t hz30)]; rfl⟩ (by simp only []; omega) ⟨rfl, rfl, rfl, rfl, rfl, rfl, rfl, rfl, rfl, rfl, rfl, rfl, rfl, rfl, rfl, rfl, rfl, rfl, rfl, rfl, rfl, rfl, rfl, rfl, rfl, rfl, rfl, rfl, rfl, rfl, rfl, rfl, rfl, rfl, trivial⟩ rfl
    ·have _z := hz23
     have q40 := of_decide_eq_false hz23
     refine aw_exit ?_
     refine fqE ?_
     refine fqE ?_
     refine fin_block_exit ?_
     refine fqT ?_
     refine aqS ?_
     refine aqT (rows := [_, _, _]) rfl (by kernel_rfl) ⟨
      okp rfl rfl (op_build (x := .g [.i 0, .i 0]) (lN rfl) EvL.nil (fun m w => by kernel_rfl)),
      okp rfl rfl (oqS sz_32 rfl rfl rfl rfl rfl (by decide)),
      okp rfl rfl (oqA (lN rfl) rfl),
      trivial⟩ ?_
     refine fqK (s' := [kt 6 (.p 3 0), kt 7 (.i 4), kb 3 32 2, kc 3 0 (.i 0), kc 3 1 (.i 0)]) ?_ (kp rfl) rfl
     refine fqT ?_
     refine aqr ?_
     refine pqr (x := .t [.g [.i 0, .i 0], .i 4]) rfl rfl (rqC (ys := [.i 0, .i 0]) rfl sh_32 rfl ⟨rfl, rfl, trivial⟩ (rqT rfl rqN)) rfl (fun mm aa ww hr => ?_)
     show Ending.returned (.tuple #[.agg #[.int .i64 0, .int .i64 0], .int .i64 4]) = _ ∧ _
     exact ⟨by rw [hfr, List.drop_of_length_le (by omega)]; rfl, hr.below⟩
end Go.Proofs.T
namespace Go.Proofs.T
open Go Go.AX Go.RowKit Hull
theorem ss_46 : sliceSz Tryd.prog 46 = some 10 := by kernel_rfl
theorem sh_48 : shapeOf Tryd.prog 48 = some (some 10) := by kernel_rfl
theorem zl_48 : zeroL Tryd.prog 48 = some [(.int .i64 0), (.int .i64 0), (.int .i64 0), (.int .i64 0), (.int .i64 0), (.int .i64 0), (.int .i64 0), (.int .i64 0), (.bool false), (.int .i64 0)] := by kernel_rfl
theorem sz_48 : sizeIn Tryd.prog 48 = some 10 := by kernel_rfl
theorem fo_48_0 : fieldOff Tryd.prog 48 0 = some 0 := by kernel_rfl
theorem fo_48_1 : fieldOff Tryd.prog 48 1 = some 8 := by kernel_rfl
theorem en_87 : Proofs.Enters Tryd.prog 87 := Proofs.enters_of Tryd.func87 (by kernel_rfl) rfl
theorem af_49 : appFact Tryd.prog 49 = some (3, 1, 8) := by kernel_rfl
theorem en_86 : Proofs.Enters Tryd.prog 86 := Proofs.enters_of Tryd.func86 (by kernel_rfl) rfl
set_option maxHeartbeats 2000000 in
theorem c23 (s : Ship) (s_Thrust_s : SlV) (s_Water_s : SlV) (s_Ice_s : SlV) (l : List Part) (l_s : SlV) (w : World) (hs_Thrust : SlIs ePt 2 w s_Thrust_s s.Thrust) (hs_Water : SlIs ePt 2 w s_Water_s s.Water) (hs_Ice : SlIs ePt 2 w s_Ice_s s.Ice) (hl : SlIs encPart 10 w l_s l) (hG : BoxAt w 0 (strengths.map (fun n => Value.int .i64 n))) : Calls Tryd.prog 23 #[.agg #[.int .i64 s.Class, .int .i64 s.Power, .int .i64 s.Draught, .int .i64 s.Tonnes, .slice s_Thrust_s.p s_Thrust_s.n s_Thrust_s.c, .slice s_Water_s.p s_Water_s.n s_Water_s.c, .slice s_Ice_s.p s_Ice_s.n s_Ice_s.c, .int .i64 s.Slow, .int .i64 s.Brash, .int .i64 s.Ridge, .int .i64 s.Press], .slice l_s.p l_s.n l_s.c] w fun e w' => ∃ p c, e = .returned (.tuple #[(.slice p ((leg s l).1.length) c), .agg #[.int .i64 (((leg s l).2.1).Lo), .int .i64 (((leg s l).2.1).Hi)], .int .i64 ((leg s l).2.2)]) ∧ NewAt w w' p ((leg s l).1.length) c 3 1 (((leg s l).1).flatMap encInt) ∧ Below w.heap.size w w' := by
 obtain ⟨s0Tp, s0Tn, s0Tc⟩ := s_Thrust_s
 have hs_Thrust_l : s0Tn = s.Thrust.length := hs_Thrust.1
 subst hs_Thrust_l
 obtain ⟨s_Thrust_b, s0To, hs_Thrust_p, hs_Thrust_L⟩ := SlAt.lies' hs_Thrust
 obtain ⟨s0Wp, s0Wn, s0Wc⟩ := s_Water_s
 have hs_Water_l : s0Wn = s.Water.length := hs_Water.1
 subst hs_Water_l
 obtain ⟨s_Water_b, s0Wo, hs_Water_p, hs_Water_L⟩ := SlAt.lies' hs_Water
 obtain ⟨s0Ip, s0In, s0Ic⟩ := s_Ice_s
 have hs_Ice_l : s0In = s.Ice.length := hs_Ice.1
 subst hs_Ice_l
 obtain ⟨s_Ice_b, s0Io, hs_Ice_p, hs_Ice_L⟩ := SlAt.lies' hs_Ice
 obtain ⟨l_p, l_n, l_c⟩ := l_s
 have hl_l : l_n = l.length := hl.1
 subst hl_l
 obtain ⟨l_b, l_o, hl_p, hl_L⟩ := SlAt.lies' hl
 refine enter (args := [.g [.i s.Class, .i s.Power, .i s.Draught, .i s.Tonnes, .v (.slice s0Tp s.Thrust.length s0Tc), .v (.slice s0Wp s.Water.length s0Wc), .v (.slice s0Ip s.Ice.length s0Ic), .i s.Slow, .i s.Brash, .i s.Ridge, .i s.Press], .v (.slice l_p l.length l_c)]) Tryd.func23 rfl (N := 103) rfl (Nat.le_of_ble_eq_true rfl) ?_
 refine aqS ?_
 refine aqT (rows := [_, _, _, _]) rfl (by kernel_rfl) ⟨
  okp rfl rfl (op_boxN (L := 1) (lN rfl) rfl rfl rfl),
  okp rfl rfl (oqA (lN rfl) rfl),
  okp rfl rfl (oqa (L := 2) (lN rfl) zl_32),
  okp rfl rfl (oqA (lN rfl) rfl),
  trivial⟩ ?_
 refine fqK (s' := (kt 1 (.v (.slice l_p l.length l_c)) :: kt 2 (.p 1 0) :: kt 5 (.p 2 0) :: kb 1 25 11 :: kb 2 32 2 :: sK 1 s (.v (.slice s0Tp s.Thrust.length s0Tc)) (.v (.slice s0Wp s.Water.length s0Wc)) (.v (.slice s0Ip s.Ice.length s0Ic)) [kc 2 0 (.i 0), kc 2 1 (.i 0)])) ?_ (kp rfl) rfl
 refine fqT ?_
 refine aqS ?_
 refine aqS ?_
 refine aqT (rows := [_, _, _]) rfl (by kernel_rfl) ⟨
  okp rfl rfl (oqL (ys := [.i s.Class, .i s.Power, .i s.Draught, .i s.Tonnes, .v (.slice s0Tp s.Thrust.length s0Tc), .v (.slice s0Wp s.Water.length s0Wc), .v (.slice s0Ip s.Ice.length s0Ic), .i s.Slow, .i s.Brash, .i s.Ridge, .i s.Press]) (lN rfl) sh_25 rfl rfl ⟨rfl, rfl, rfl, rfl, rfl, rfl, rfl, rfl, rfl, rfl, rfl, trivial⟩),
  okp rfl rfl (oqC (x := .i (check s)) (fs := []) (caps := []) (extra := []) (lN rfl) en_46 rfl ⟨rfl, rfl, rfl⟩ (EvL.cons rfl EvL.nil) (fun mm aa ww gg hr hrel => (c46 s ⟨s0Tp, s.Thrust.length, s0Tc⟩ ⟨s0Wp, s.Water.length, s0Wc⟩ ⟨s0Ip, s.Ice.length, s0Ic⟩ ww (SlIs.mono hs_Thrust hrel.below) (SlIs.mono hs_Water hrel.below) (SlIs.mono hs_Ice hrel.below)))),
  okp rfl rfl (oqA (lN rfl) rfl),
  trivial⟩ ?_
 refine fqK (s' := (kt 1 (.v (.slice l_p l.length l_c)) :: kt 2 (.p 1 0) :: kt 5 (.p 2 0) :: kt 7 (.i (check s)) :: kb 1 25 11 :: kb 2 32 2 :: sK 1 s (.v (.slice s0Tp s.Thrust.length s0Tc)) (.v (.slice s0Wp s.Water.length s0Wc)) (.v (.slice s0Ip s.Ice.length s0Ic)) [kc 2 0 (.i 0), kc 2 1 (.i 0)])) ?_ (kp rfl) rfl
 refine fqT ?_
 refine aqS ?_
 refine aqT (rows := [_, _]) rfl (by kernel_rfl) ⟨
  okp rfl rfl (oqM (lN rfl) rfl),
  okp rfl rfl (oqB (lN rfl) rfl rfl rfl),
  trivial⟩ ?_
 refine fqK (s' := (kt 1 (.v (.slice l_p l.length l_c)) :: kt 2 (.p 1 0) :: kt 5 (.p 2 0) :: kt 7 (.i (check s)) :: kt 23 (.B ((check s) != 0)) :: kb 1 25 11 :: kb 2 32 2 :: sK 1 s (.v (.slice s0Tp s.Thrust.length s0Tc)) (.v (.slice s0Wp s.Water.length s0Wc)) (.v (.slice s0Ip s.Ice.length s0Ic)) [kc 2 0 (.i 0), kc 2 1 (.i 0)])) ?_ (kp rfl) rfl
 refine fqT ?_
 refine aqc rfl (fun hz1 => ?_) (fun hz1 => ?_)
 ·have _z := hz1
  have q2 := ne_t hz1
  refine aqS ?_
  refine aqT (rows := [_, _, _, _, _]) rfl (by kernel_rfl) ⟨
   okp rfl rfl (op_build (x := .g [.i 0, .i 0]) (lN rfl) EvL.nil (fun m w => by kernel_rfl)),
   okp rfl rfl (oqM (lN rfl) rfl),
   okp rfl rfl (oqA (lN rfl) rfl),
   okp rfl rfl (oqS sz_32 rfl rfl rfl rfl rfl (by decide)),
   okp rfl rfl (oqA (lN rfl) rfl),
   trivial⟩ ?_
  refine fqK (s' := [kt 4 (.v (.slice none 0 0)), kt 5 (.p 2 0), kt 6 (.i (check s)), kb 2 32 2, kc 2 0 (.i 0), kc 2 1 (.i 0)]) ?_ (kp rfl) rfl
  refine fqT ?_
  refine aqr ?_
  refine fqR ?_
  refine pqr (x := .t [.v (.slice none 0 0), .g [.i 0, .i 0], .i (check s)]) rfl rfl (rqT rfl (rqC (ys := [.i 0, .i 0]) rfl sh_32 rfl ⟨rfl, rfl, trivial⟩ (rqT rfl rqN))) rfl (fun mm aa ww hr => ?_)
  exact ⟨none, 0, by rw [leg, if_pos (ne_t hz1)]; rfl, by rw [leg, if_pos (ne_t hz1)]; exact newAt_nil, hr.below⟩
 ·have _z := hz1
  have q3 := ne_f hz1
  refine aqk ?_
  refine fqT ?_
  refine aqS ?_
  refine aqS ?_
  refine aqT (rows := [_, _, _, _]) rfl (by kernel_rfl) ⟨
   okp rfl rfl (oqM (lN rfl) rfl),
   okp rfl rfl (op_len (n := l.length) (lN rfl) (by rw [ss_46]; rfl) rfl rfl),
   okp rfl rfl (oqC (x := .B (within (((l.length : Nat) : Int)) 1 100)) (fs := []) (caps := []) (extra := []) (lN rfl) en_84 rfl ⟨rfl, rfl, rfl⟩ (EvL.cons rfl (EvL.cons rfl (EvL.cons rfl EvL.nil))) (fun mm aa ww gg hr hrel => (c84 (((l.length : Nat) : Int)) 1 100 ww))),
   okp rfl rfl (oqn (lN rfl) rfl),
   trivial⟩ ?_
  refine fqK (s' := (kt 1 (.v (.slice l_p l.length l_c)) :: kt 2 (.p 1 0) :: kt 5 (.p 2 0) :: kt 29 (.B (!(within (((l.length : Nat) : Int)) 1 100))) :: kb 1 25 11 :: kb 2 32 2 :: sK 1 s (.v (.slice s0Tp s.Thrust.length s0Tc)) (.v (.slice s0Wp s.Water.length s0Wc)) (.v (.slice s0Ip s.Ice.length s0Ic)) [kc 2 0 (.i 0), kc 2 1 (.i 0)])) ?_ (kp rfl) rfl
  refine fqT ?_
  refine aqc rfl (fun hz4 => ?_) (fun hz4 => ?_)
  ·have _z := hz4
   have q5 := within_f (not_t hz4)
   refine aqS ?_
   refine aqT (rows := [_, _, _, _]) rfl (by kernel_rfl) ⟨
    okp rfl rfl (op_build (x := .g [.i 0, .i 0]) (lN rfl) EvL.nil (fun m w => by kernel_rfl)),
    okp rfl rfl (oqA (lN rfl) rfl),
    okp rfl rfl (oqS sz_32 rfl rfl rfl rfl rfl (by decide)),
    okp rfl rfl (oqA (lN rfl) rfl),
    trivial⟩ ?_
   refine fqK (s' := [kt 4 (.v (.slice none 0 0)), kt 5 (.p 2 0), kt 6 (.i 2), kb 2 32 2, kc 2 0 (.i 0), kc 2 1 (.i 0)]) ?_ (kp rfl) rfl
   refine fqT ?_
   refine aqr ?_
   refine fqR ?_
   refine pqr (x := .t [.v (.slice none 0 0), .g [.i 0, .i 0], .i 2]) rfl rfl (rqT rfl (rqC (ys := [.i 0, .i 0]) rfl sh_32 rfl ⟨rfl, rfl, trivial⟩ (rqT rfl rqN))) rfl (fun mm aa ww hr => ?_)
   exact ⟨none, 0, by rw [leg, if_neg (by rw [ne_f hz1]; decide), if_pos (not_t hz4)]; rfl, by rw [leg, if_neg (by rw [ne_f hz1]; decide), if_pos (not_t hz4)]; exact newAt_nil, hr.below⟩
  ·have _z := hz4
   have q6 := within_t (not_f hz4)
   refine aqk ?_
   refine fqT ?_
   refine aqS ?_
   refine aqS ?_
   refine aqT (rows := [_, _, _]) rfl (by kernel_rfl) ⟨
    okp rfl rfl (oqM (lN rfl) rfl),
    okp rfl rfl (op_len (n := l.length) (lN rfl) (by rw [ss_46]; rfl) rfl rfl),
    okp rfl rfl (oqM (lN rfl) rfl),
    trivial⟩ ?_
   refine fqK (s' := (kt 1 (.v (.slice l_p l.length l_c)) :: kt 2 (.p 1 0) :: kt 5 (.p 2 0) :: kt 31 (.v (.slice l_p l.length l_c)) :: kt 32 (.i (((l.length : Nat) : Int))) :: kt 33 (.i 0) :: kb 1 25 11 :: kb 2 32 2 :: sK 1 s (.v (.slice s0Tp s.Thrust.length s0Tc)) (.v (.slice s0Wp s.Water.length s0Wc)) (.v (.slice s0Ip s.Ice.length s0Ic)) [kc 2 0 (.i 0), kc 2 1 (.i 0)])) ?_ (kp rfl) rfl
   refine fqT ?_
   refine aw_block ?_
   refine AW.keep (s' := (fun (k : Nat) => (kt 1 (.v (.slice l_p l.length l_c)) :: kt 2 (.p 1 0) :: kt 5 (.p 2 0) :: kt 31 (.v (.slice l_p l.length l_c)) :: kt 32 (.i (((l.length : Nat) : Int))) :: kt 33 (.i ((k : Int))) :: kb 1 25 11 :: kb 2 32 2 :: sK 1 s (.v (.slice s0Tp s.Thrust.length s0Tc)) (.v (.slice s0Wp s.Water.length s0Wc)) (.v (.slice s0Ip s.Ice.length s0Ic)) [kc 2 0 (.i 0), kc 2 1 (.i 0)])) ((0 : Nat))) ?_ (kp rfl) rfl
   refine aw_loop (ι := Nat) (fun k => k ≤ l.length ∧ (∀ j < k, goodPart (prt l (j : Int))) ∧ partsErr l = partsErr (l.drop k)) (fun k => (kt 1 (.v (.slice l_p l.length l_c)) :: kt 2 (.p 1 0) :: kt 5 (.p 2 0) :: kt 31 (.v (.slice l_p l.length l_c)) :: kt 32 (.i (((l.length : Nat) : Int))) :: kt 33 (.i ((k : Int))) :: kb 1 25 11 :: kb 2 32 2 :: sK 1 s (.v (.slice s0Tp s.Thrust.length s0Tc)) (.v (.slice s0Wp s.Water.length s0Wc)) (.v (.slice s0Ip s.Ice.length s0Ic)) [kc 2 0 (.i 0), kc 2 1 (.i 0)])) (fun k => l.length - k) ⟨Nat.zero_le _, fun j hj => absurd hj (Nat.not_lt_zero j), rfl⟩ (fun k hI => ?_)
   obtain ⟨hk, hall, hpe⟩ := hI
   refine aqS ?_
   refine aqT (rows := [_]) rfl (by kernel_rfl) ⟨
    okp rfl rfl (oqB (lN rfl) rfl rfl rfl),
    trivial⟩ ?_
   refine fqK (s' := (kt 1 (.v (.slice l_p l.length l_c)) :: kt 2 (.p 1 0) :: kt 5 (.p 2 0) :: kt 31 (.v (.slice l_p l.length l_c)) :: kt 32 (.i (((l.length : Nat) : Int))) :: kt 33 (.i ((k : Int))) :: kt 34 (.B (decide (((k : Int)) < (((l.length : Nat) : Int))))) :: kb 1 25 11 :: kb 2 32 2 :: sK 1 s (.v (.slice s0Tp s.Thrust.length s0Tc)) (.v (.slice s0Wp s.Water.length s0Wc)) (.v (.slice s0Ip s.Ice.length s0Ic)) [kc 2 0 (.i 0), kc 2 1 (.i 0)])) ?_ (kp rfl) rfl
   refine fqT ?_
   refine aqS ?_
   refine aqc rfl (fun hz7 => ?_) (fun hz7 => ?_)
   ·have _z := hz7
    have q8 := of_decide_eq_true hz7
    refine aqk ?_
    refine fqT ?_
    refine aqS ?_
    refine aw_block ?_
    refine aqS ?_
    refine aqT (rows := [_, _, _, _]) rfl (by kernel_rfl) ⟨
     okp rfl rfl (op_ixB (lN rfl) rfl rfl ss_46 (hl_p (ne_of_ix (i := (k : Int)) (by omega) (by omega))) (by omega) (by omega)),
     okp rfl rfl (oqW (y := .g [.i (((((prt l ((k : Int)))).Cell).Conc).Lo), .i (((((prt l ((k : Int)))).Cell).Conc).Hi), .i (((((prt l ((k : Int)))).Cell).Thick).Lo), .i (((((prt l ((k : Int)))).Cell).Thick).Hi), .i (((((prt l ((k : Int)))).Cell).Ridge).Lo), .i (((((prt l ((k : Int)))).Cell).Ridge).Hi), .i (((((prt l ((k : Int)))).Cell).Press).Lo), .i (((((prt l ((k : Int)))).Cell).Press).Hi), .B (((prt l ((k : Int)))).Channel), .i (((prt l ((k : Int)))).Length)]) (lN rfl) rfl (ldN (hl_L (ne_of_ix (i := (k : Int)) (by omega) (by omega))) default (i := (k : Int)) (by omega) (by omega) 0 (vs := [(.int .i64 (((((prt l ((k : Int)))).Cell).Conc).Lo)), (.int .i64 (((((prt l ((k : Int)))).Cell).Conc).Hi)), (.int .i64 (((((prt l ((k : Int)))).Cell).Thick).Lo)), (.int .i64 (((((prt l ((k : Int)))).Cell).Thick).Hi)), (.int .i64 (((((prt l ((k : Int)))).Cell).Ridge).Lo)), (.int .i64 (((((prt l ((k : Int)))).Cell).Ridge).Hi)), (.int .i64 (((((prt l ((k : Int)))).Cell).Press).Lo)), (.int .i64 (((((prt l ((k : Int)))).Cell).Press).Hi)), (.bool (((prt l ((k : Int)))).Channel)), (.int .i64 (((prt l ((k : Int)))).Length))]) (fun zq zv zh => sub_get (vs := [(.int .i64 (((((prt l ((k : Int)))).Cell).Conc).Lo)), (.int .i64 (((((prt l ((k : Int)))).Cell).Conc).Hi)), (.int .i64 (((((prt l ((k : Int)))).Cell).Thick).Lo)), (.int .i64 (((((prt l ((k : Int)))).Cell).Thick).Hi)), (.int .i64 (((((prt l ((k : Int)))).Cell).Ridge).Lo)), (.int .i64 (((((prt l ((k : Int)))).Cell).Ridge).Hi)), (.int .i64 (((((prt l ((k : Int)))).Cell).Press).Lo)), (.int .i64 (((((prt l ((k : Int)))).Cell).Press).Hi)), (.bool (((prt l ((k : Int)))).Channel)), (.int .i64 (((prt l ((k : Int)))).Length))]) rfl zh) rfl sh_48 rfl)),
     okp rfl rfl (oqa (L := 3) (lN rfl) zl_48),
     okp rfl rfl (oqS sz_48 rfl rfl rfl rfl rfl (by decide)),
     trivial⟩ ?_
    refine fqK (s' := (kt 1 (.v (.slice l_p l.length l_c)) :: kt 2 (.p 1 0) :: kt 5 (.p 2 0) :: kt 9 (.p 3 0) :: kt 31 (.v (.slice l_p l.length l_c)) :: kt 32 (.i (((l.length : Nat) : Int))) :: kt 33 (.i ((k : Int))) :: kb 1 25 11 :: kb 2 32 2 :: kb 3 48 10 :: sK 1 s (.v (.slice s0Tp s.Thrust.length s0Tc)) (.v (.slice s0Wp s.Water.length s0Wc)) (.v (.slice s0Ip s.Ice.length s0Ic)) [kc 2 0 (.i 0), kc 2 1 (.i 0), kc 3 0 (.i (((((prt l ((k : Int)))).Cell).Conc).Lo)), kc 3 1 (.i (((((prt l ((k : Int)))).Cell).Conc).Hi)), kc 3 2 (.i (((((prt l ((k : Int)))).Cell).Thick).Lo)), kc 3 3 (.i (((((prt l ((k : Int)))).Cell).Thick).Hi)), kc 3 4 (.i (((((prt l ((k : Int)))).Cell).Ridge).Lo)), kc 3 5 (.i (((((prt l ((k : Int)))).Cell).Ridge).Hi)), kc 3 6 (.i (((((prt l ((k : Int)))).Cell).Press).Lo)), kc 3 7 (.i (((((prt l ((k : Int)))).Cell).Press).Hi)), kc 3 8 (.B (((prt l ((k : Int)))).Channel)), kc 3 9 (.i (((prt l ((k : Int)))).Length))])) ?_ (kp rfl) rfl
    refine fqT ?_
    refine aqS ?_
    refine aqS ?_
    have hlt : k < l.length := by omega
    refine aqT (rows := [_, _, _, _]) rfl (by kernel_rfl) ⟨
     okp rfl rfl (oqF (lN rfl) rfl fo_48_2),
     okp rfl rfl (oq1 (lN rfl) sh_3 rfl rfl),
     okp rfl rfl (oqC (x := .B (within (((prt l ((k : Int)))).Length) 1 10000)) (fs := []) (caps := []) (extra := []) (lN rfl) en_84 rfl ⟨rfl, rfl, rfl⟩ (EvL.cons rfl (EvL.cons rfl (EvL.cons rfl EvL.nil))) (fun mm aa ww gg hr hrel => (c84 (((prt l ((k : Int)))).Length) 1 10000 ww))),
     okp rfl rfl (oqn (lN rfl) rfl),
     trivial⟩ ?_
    refine fqK (s' := (kt 1 (.v (.slice l_p l.length l_c)) :: kt 2 (.p 1 0) :: kt 5 (.p 2 0) :: kt 9 (.p 3 0) :: kt 31 (.v (.slice l_p l.length l_c)) :: kt 32 (.i (((l.length : Nat) : Int))) :: kt 33 (.i ((k : Int))) :: kt 40 (.B (!(within (((prt l ((k : Int)))).Length) 1 10000))) :: kb 1 25 11 :: kb 2 32 2 :: kb 3 48 10 :: sK 1 s (.v (.slice s0Tp s.Thrust.length s0Tc)) (.v (.slice s0Wp s.Water.length s0Wc)) (.v (.slice s0Ip s.Ice.length s0Ic)) [kc 2 0 (.i 0), kc 2 1 (.i 0), kc 3 0 (.i (((((prt l ((k : Int)))).Cell).Conc).Lo)), kc 3 1 (.i (((((prt l ((k : Int)))).Cell).Conc).Hi)), kc 3 2 (.i (((((prt l ((k : Int)))).Cell).Thick).Lo)), kc 3 3 (.i (((((prt l ((k : Int)))).Cell).Thick).Hi)), kc 3 4 (.i (((((prt l ((k : Int)))).Cell).Ridge).Lo)), kc 3 5 (.i (((((prt l ((k : Int)))).Cell).Ridge).Hi)), kc 3 6 (.i (((((prt l ((k : Int)))).Cell).Press).Lo)), kc 3 7 (.i (((((prt l ((k : Int)))).Cell).Press).Hi)), kc 3 8 (.B (((prt l ((k : Int)))).Channel)), kc 3 9 (.i (((prt l ((k : Int)))).Length))])) ?_ (kp rfl) rfl
    refine fqT ?_
    refine aqc rfl (fun hz9 => ?_) (fun hz9 => ?_)
    ·have _z := hz9
     have q10 := within_f (not_t hz9)
     refine aqS ?_
     refine aqT (rows := [_, _, _, _]) rfl (by kernel_rfl) ⟨
      okp rfl rfl (op_build (x := .g [.i 0, .i 0]) (lN rfl) EvL.nil (fun m w => by kernel_rfl)),
      okp rfl rfl (oqA (lN rfl) rfl),
      okp rfl rfl (oqS sz_32 rfl rfl rfl rfl rfl (by decide)),
      okp rfl rfl (oqA (lN rfl) rfl),
      trivial⟩ ?_
     refine fqK (s' := [kt 4 (.v (.slice none 0 0)), kt 5 (.p 2 0), kt 6 (.i 6), kb 2 32 2, kc 2 0 (.i 0), kc 2 1 (.i 0)]) ?_ (kp rfl) rfl
     refine fqT ?_
     refine aqr ?_
     refine fqR ?_
     refine fin_block_ret ?_
     refine fqR ?_
     refine fqR ?_
     refine fin_block_ret ?_
     refine fqR ?_
     refine pqr (x := .t [.v (.slice none 0 0), .g [.i 0, .i 0], .i 6]) rfl rfl (rqT rfl (rqC (ys := [.i 0, .i 0]) rfl sh_32 rfl ⟨rfl, rfl, trivial⟩ (rqT rfl rqN))) rfl (fun mm aa ww hr => ?_)
     have hpk : partErr (prt l (k : Int)) = 6 := by rw [partErr, not_t hz9]; rfl
     have hps : partsErr l = 6 := by rw [hpe, drop_prt hlt, partsErr, if_pos (show partErr (prt l (k : Int)) ≠ 0 by rw [hpk]; decide), hpk]
     have hlq : leg s l = ([], ⟨0, 0⟩, 6) := by rw [leg, if_neg (by rw [ne_f hz1]; decide), if_neg (by rw [not_f hz4]; decide), if_pos (show partsErr l ≠ 0 by rw [hps]; decide), hps]
     exact ⟨none, 0, by rw [hlq]; rfl, by rw [hlq]; exact newAt_nil, hr.below⟩
    ·have _z := hz9
     have q11 := within_t (not_f hz9)
     refine aqk ?_
     refine fqT ?_
     refine aqS ?_
     refine aqT (rows := [_, _, _, _]) rfl (by kernel_rfl) ⟨
      okp rfl rfl (oqF (lN rfl) rfl fo_48_0),
      okp rfl rfl (oqL (ys := [.i (((((prt l ((k : Int)))).Cell).Conc).Lo), .i (((((prt l ((k : Int)))).Cell).Conc).Hi), .i (((((prt l ((k : Int)))).Cell).Thick).Lo), .i (((((prt l ((k : Int)))).Cell).Thick).Hi), .i (((((prt l ((k : Int)))).Cell).Ridge).Lo), .i (((((prt l ((k : Int)))).Cell).Ridge).Hi), .i (((((prt l ((k : Int)))).Cell).Press).Lo), .i (((((prt l ((k : Int)))).Cell).Press).Hi)]) (lN rfl) sh_34 rfl rfl ⟨rfl, rfl, rfl, rfl, rfl, rfl, rfl, rfl, trivial⟩),
      okp rfl rfl (oqC (x := .i (checkCell ((((prt l ((k : Int)))).Cell)))) (fs := []) (caps := []) (extra := []) (lN rfl) en_85 rfl ⟨rfl, rfl, rfl⟩ (EvL.cons rfl EvL.nil) (fun mm aa ww gg hr hrel => (c85 ((((prt l ((k : Int)))).Cell)) ww))),
      okp rfl rfl (oqA (lN rfl) rfl),
      trivial⟩ ?_
     refine fqK (s' := (kt 1 (.v (.slice l_p l.length l_c)) :: kt 2 (.p 1 0) :: kt 5 (.p 2 0) :: kt 10 (.i (checkCell ((((prt l ((k : Int)))).Cell)))) :: kt 31 (.v (.slice l_p l.length l_c)) :: kt 32 (.i (((l.length : Nat) : Int))) :: kt 33 (.i ((k : Int))) :: kb 1 25 11 :: kb 2 32 2 :: sK 1 s (.v (.slice s0Tp s.Thrust.length s0Tc)) (.v (.slice s0Wp s.Water.length s0Wc)) (.v (.slice s0Ip s.Ice.length s0Ic)) [kc 2 0 (.i 0), kc 2 1 (.i 0)])) ?_ (kp rfl) rfl
     refine fqT ?_
     refine aqS ?_
     refine aqT (rows := [_, _]) rfl (by kernel_rfl) ⟨
      okp rfl rfl (oqM (lN rfl) rfl),
      okp rfl rfl (oqB (lN rfl) rfl rfl rfl),
      trivial⟩ ?_
     refine fqK (s' := (kt 1 (.v (.slice l_p l.length l_c)) :: kt 2 (.p 1 0) :: kt 5 (.p 2 0) :: kt 10 (.i (checkCell ((((prt l ((k : Int)))).Cell)))) :: kt 31 (.v (.slice l_p l.length l_c)) :: kt 32 (.i (((l.length : Nat) : Int))) :: kt 33 (.i ((k : Int))) :: kt 46 (.B ((checkCell ((((prt l ((k : Int)))).Cell))) != 0)) :: kb 1 25 11 :: kb 2 32 2 :: sK 1 s (.v (.slice s0Tp s.Thrust.length s0Tc)) (.v (.slice s0Wp s.Water.length s0Wc)) (.v (.slice s0Ip s.Ice.length s0Ic)) [kc 2 0 (.i 0), kc 2 1 (.i 0)])) ?_ (kp rfl) rfl
     refine fqT ?_
     refine aqc rfl (fun hz12 => ?_) (fun hz12 => ?_)
     ·have _z := hz12
      have q13 := ne_t hz12
      refine aqS ?_
      refine aqT (rows := [_, _, _, _, _]) rfl (by kernel_rfl) ⟨
       okp rfl rfl (op_build (x := .g [.i 0, .i 0]) (lN rfl) EvL.nil (fun m w => by kernel_rfl)),
       okp rfl rfl (oqM (lN rfl) rfl),
       okp rfl rfl (oqA (lN rfl) rfl),
       okp rfl rfl (oqS sz_32 rfl rfl rfl rfl rfl (by decide)),
       okp rfl rfl (oqA (lN rfl) rfl),
       trivial⟩ ?_
      refine fqK (s' := [kt 4 (.v (.slice none 0 0)), kt 5 (.p 2 0), kt 6 (.i (checkCell ((((prt l ((k : Int)))).Cell)))), kb 2 32 2, kc 2 0 (.i 0), kc 2 1 (.i 0)]) ?_ (kp rfl) rfl
      refine fqT ?_
      refine aqr ?_
      refine fin_block_ret ?_
      refine fqR ?_
      refine fqR ?_
      refine fin_block_ret ?_
      refine fqR ?_
      refine pqr (x := .t [.v (.slice none 0 0), .g [.i 0, .i 0], .i (checkCell ((((prt l ((k : Int)))).Cell)))]) rfl rfl (rqT rfl (rqC (ys := [.i 0, .i 0]) rfl sh_32 rfl ⟨rfl, rfl, trivial⟩ (rqT rfl rqN))) rfl (fun mm aa ww hr => ?_)
      have hpk : partErr (prt l (k : Int)) = checkCell (prt l (k : Int)).Cell := by rw [partErr, not_f hz9]; rfl
      have hps : partsErr l = checkCell (prt l (k : Int)).Cell := by rw [hpe, drop_prt hlt, partsErr, if_pos (show partErr (prt l (k : Int)) ≠ 0 by rw [hpk]; exact ne_t hz12), hpk]
      have hlq : leg s l = ([], ⟨0, 0⟩, checkCell (prt l (k : Int)).Cell) := by rw [leg, if_neg (by rw [ne_f hz1]; decide), if_neg (by rw [not_f hz4]; decide), if_pos (show partsErr l ≠ 0 by rw [hps]; exact ne_t hz12), hps]
      exact ⟨none, 0, by rw [hlq]; rfl, by rw [hlq]; exact newAt_nil, hr.below⟩
     ·have _z := hz12
      have q14 := ne_f hz12
      refine aqk ?_
      refine fqB ?_
      refine fqT ?_
      have hpk : partErr (prt l (k : Int)) = 0 := by rw [partErr, not_f hz9]; exact ne_f hz12
      have hgp := partErr_ok.1 hpk
      refine aqT (rows := [_, _]) rfl (by kernel_rfl) ⟨
       okp rfl rfl (oqB (lN rfl) rfl rfl (nw_add ⟨(by omega), (by omega)⟩)),
       okp rfl rfl (oqM (lN rfl) rfl),
       trivial⟩ ?_
      refine fqK (s' := (kt 1 (.v (.slice l_p l.length l_c)) :: kt 2 (.p 1 0) :: kt 5 (.p 2 0) :: kt 31 (.v (.slice l_p l.length l_c)) :: kt 32 (.i (((l.length : Nat) : Int))) :: kt 33 (.i (((k : Int)) + 1)) :: kb 1 25 11 :: kb 2 32 2 :: sK 1 s (.v (.slice s0Tp s.Thrust.length s0Tc)) (.v (.slice s0Wp s.Water.length s0Wc)) (.v (.slice s0Ip s.Ice.length s0Ic)) [kc 2 0 (.i 0), kc 2 1 (.i 0)])) ?_ (kp rfl) rfl
      exact fin_loop (k + 1) ⟨by omega, fun j hj => by rcases Nat.lt_succ_iff_lt_or_eq.1 hj with h | rfl; exact hall j h; exact hgp, by rw [hpe, drop_prt hlt, partsErr, if_neg (by rw [hpk]; decide)]⟩ (by omega) ⟨rfl, rfl, rfl, rfl, rfl, rfl, rfl, rfl, rfl, rfl, rfl, rfl, rfl, rfl, rfl, rfl, rfl, rfl, rfl, rfl, rfl, trivial⟩ rfl
   ·have _z := hz7
    have q15 := of_decide_eq_false hz7
    refine aw_exit ?_
    refine fqE ?_
    refine fqE ?_
    refine fin_block_exit ?_
    refine fqT ?_
    refine aqS ?_
    refine aqT (rows := [_]) rfl (by kernel_rfl) ⟨
     okp rfl rfl (oqA (lN rfl) rfl),
     trivial⟩ ?_
    refine fqK (s' := (kt 1 (.v (.slice l_p l.length l_c)) :: kt 2 (.p 1 0) :: kt 5 (.p 2 0) :: kt 11 (.v (.func (.func 86) #[] #[])) :: kb 1 25 11 :: kb 2 32 2 :: sK 1 s (.v (.slice s0Tp s.Thrust.length s0Tc)) (.v (.slice s0Wp s.Water.length s0Wc)) (.v (.slice s0Ip s.Ice.length s0Ic)) [kc 2 0 (.i 0), kc 2 1 (.i 0)])) ?_ (kp rfl) rfl
    refine fqT ?_
    refine aqS ?_
    have hps : partsErr l = 0 := by rw [hpe, List.drop_of_length_le (by omega)]; rfl
    have hlen := within_t (not_f hz4)
    have hc := ne_f hz1
    have hleg0 : leg s l = legFrom s (l.drop 0) 0 [] 0 0 := by rw [leg, if_neg (by rw [hc]; decide), if_neg (by rw [not_f hz4]; decide), if_neg (by rw [hps]; decide)]; rfl
    refine aqT (rows := [_]) rfl (by kernel_rfl) ⟨
     okp rfl rfl (oqA (lN rfl) rfl),
     trivial⟩ ?_
    refine fqK (s' := (kt 1 (.v (.slice l_p l.length l_c)) :: kt 2 (.p 1 0) :: kt 5 (.p 2 0) :: kt 11 (.v (.func (.func 86) #[] #[])) :: kt 12 (.v (.slice none 0 0)) :: kb 1 25 11 :: kb 2 32 2 :: sK 1 s (.v (.slice s0Tp s.Thrust.length s0Tc)) (.v (.slice s0Wp s.Water.length s0Wc)) (.v (.slice s0Ip s.Ice.length s0Ic)) [kc 2 0 (.i 0), kc 2 1 (.i 0)])) ?_ (kp rfl) rfl
    refine fqT ?_
    refine aqS ?_
    refine aqT (rows := [_]) rfl (by kernel_rfl) ⟨
     okp rfl rfl (oqa (L := 4) (lN rfl) zl_32),
     trivial⟩ ?_
    refine fqK (s' := (kt 1 (.v (.slice l_p l.length l_c)) :: kt 2 (.p 1 0) :: kt 5 (.p 2 0) :: kt 11 (.v (.func (.func 86) #[] #[])) :: kt 12 (.v (.slice none 0 0)) :: kt 13 (.p 4 0) :: kb 1 25 11 :: kb 2 32 2 :: kb 4 32 2 :: sK 1 s (.v (.slice s0Tp s.Thrust.length s0Tc)) (.v (.slice s0Wp s.Water.length s0Wc)) (.v (.slice s0Ip s.Ice.length s0Ic)) [kc 2 0 (.i 0), kc 2 1 (.i 0), kc 4 0 (.i 0), kc 4 1 (.i 0)])) ?_ (kp rfl) rfl
    refine fqT ?_
    refine aqS ?_
    refine aqS ?_
    refine aqT (rows := [_, _, _]) rfl (by kernel_rfl) ⟨
     okp rfl rfl (oqM (lN rfl) rfl),
     okp rfl rfl (op_len (n := l.length) (lN rfl) (by rw [ss_46]; rfl) rfl rfl),
     okp rfl rfl (oqM (lN rfl) rfl),
     trivial⟩ ?_
    refine fqK (s' := (kt 2 (.p 1 0) :: kt 5 (.p 2 0) :: kt 11 (.v (.func (.func 86) #[] #[])) :: kt 12 (.v (.slice none 0 0)) :: kt 13 (.p 4 0) :: kt 50 (.v (.slice l_p l.length l_c)) :: kt 51 (.i (((l.length : Nat) : Int))) :: kt 52 (.i 0) :: kb 1 25 11 :: kb 2 32 2 :: kb 4 32 2 :: sK 1 s (.v (.slice s0Tp s.Thrust.length s0Tc)) (.v (.slice s0Wp s.Water.length s0Wc)) (.v (.slice s0Ip s.Ice.length s0Ic)) [kc 2 0 (.i 0), kc 2 1 (.i 0), kc 4 0 (.i 0), kc 4 1 (.i 0)])) ?_ (kp rfl) rfl
    refine fqT ?_
    refine aw_block ?_
    refine aw_nilRow (i := 12) (L := 101) (C := 102) 3 1 rfl rfl (by decide) ?_
    refine AW.keep (s' := (fun (q : Nat × List Int × Int × Int) => (kt 2 (.p 1 0) :: kt 5 (.p 2 0) :: kt 11 (.v (.func (.func 86) #[] #[])) :: kt 12 (.o 101 102 q.2.1.length) :: kt 13 (.p 4 0) :: kt 50 (.v (.slice l_p l.length l_c)) :: kt 51 (.i (((l.length : Nat) : Int))) :: kt 52 (.i ((q.1 : Int))) :: kb 1 25 11 :: kb 2 32 2 :: kb 4 32 2 :: (.r 101, some (.vec true 102 3 1 (q.2.1.flatMap encInt))) :: sK 1 s (.v (.slice s0Tp s.Thrust.length s0Tc)) (.v (.slice s0Wp s.Water.length s0Wc)) (.v (.slice s0Ip s.Ice.length s0Ic)) [kc 2 0 (.i 0), kc 2 1 (.i 0), kc 4 0 (.i q.2.2.1), kc 4 1 (.i q.2.2.2)])) (((0 : Nat), ([] : List Int), (0 : Int), (0 : Int)))) ?_ (kp rfl) rfl
    refine aw_loop (ι := Nat × List Int × Int × Int) (fun q => q.1 ≤ l.length ∧ (0 ≤ q.2.2.1 ∧ q.2.2.1 ≤ 60025 * (q.1 : Int)) ∧ (0 ≤ q.2.2.2 ∧ q.2.2.2 ≤ 60025 * (q.1 : Int)) ∧ q.2.1.length = q.1 ∧ leg s l = legFrom s (l.drop q.1) (q.1 : Int) q.2.1 q.2.2.1 q.2.2.2) (fun q => (kt 2 (.p 1 0) :: kt 5 (.p 2 0) :: kt 11 (.v (.func (.func 86) #[] #[])) :: kt 12 (.o 101 102 q.2.1.length) :: kt 13 (.p 4 0) :: kt 50 (.v (.slice l_p l.length l_c)) :: kt 51 (.i (((l.length : Nat) : Int))) :: kt 52 (.i ((q.1 : Int))) :: kb 1 25 11 :: kb 2 32 2 :: kb 4 32 2 :: (.r 101, some (.vec true 102 3 1 (q.2.1.flatMap encInt))) :: sK 1 s (.v (.slice s0Tp s.Thrust.length s0Tc)) (.v (.slice s0Wp s.Water.length s0Wc)) (.v (.slice s0Ip s.Ice.length s0Ic)) [kc 2 0 (.i 0), kc 2 1 (.i 0), kc 4 0 (.i q.2.2.1), kc 4 1 (.i q.2.2.2)])) (fun q => l.length - q.1) ⟨Nat.zero_le _, ⟨Int.le_refl _, by simp⟩, ⟨Int.le_refl _, by simp⟩, rfl, hleg0⟩ (fun q hI => ?_)
    obtain ⟨hk, hlo, hhi, hvl, hlg⟩ := hI
    refine aqS ?_
    refine aqT (rows := [_]) rfl (by kernel_rfl) ⟨
     okp rfl rfl (oqB (lN rfl) rfl rfl rfl),
     trivial⟩ ?_
    refine fqK (s' := (kt 2 (.p 1 0) :: kt 5 (.p 2 0) :: kt 11 (.v (.func (.func 86) #[] #[])) :: kt 12 (.o 101 102 q.2.1.length) :: kt 13 (.p 4 0) :: kt 50 (.v (.slice l_p l.length l_c)) :: kt 51 (.i (((l.length : Nat) : Int))) :: kt 52 (.i ((q.1 : Int))) :: kt 53 (.B (decide (((q.1 : Int)) < (((l.length : Nat) : Int))))) :: kb 1 25 11 :: kb 2 32 2 :: kb 4 32 2 :: (.r 101, some (.vec true 102 3 1 (q.2.1.flatMap encInt))) :: sK 1 s (.v (.slice s0Tp s.Thrust.length s0Tc)) (.v (.slice s0Wp s.Water.length s0Wc)) (.v (.slice s0Ip s.Ice.length s0Ic)) [kc 2 0 (.i 0), kc 2 1 (.i 0), kc 4 0 (.i q.2.2.1), kc 4 1 (.i q.2.2.2)])) ?_ (kp rfl) rfl
    refine fqT ?_
    refine aqS ?_
    refine aqc rfl (fun hz16 => ?_) (fun hz16 => ?_)
    ·have _z := hz16
     have q17 := of_decide_eq_true hz16
     refine aqk ?_
     refine fqT ?_
     refine aqS ?_
     refine aw_block ?_
     refine aqS ?_
     have hlt : q.1 < l.length := by omega
     have hgp := hall q.1 (by omega)
     have hg := hgp.2
     have hgf := goodCell_first hg
     refine aqT (rows := [_, _, _, _, _, _]) rfl (by kernel_rfl) ⟨
      okp rfl rfl (oqM (lN rfl) rfl),
      okp rfl rfl (op_ixB (lN rfl) rfl rfl ss_46 (hl_p (ne_of_ix (i := (q.1 : Int)) (by omega) (by omega))) (by omega) (by omega)),
      okp rfl rfl (oqW (y := .g [.i (((((prt l ((q.1 : Int)))).Cell).Conc).Lo), .i (((((prt l ((q.1 : Int)))).Cell).Conc).Hi), .i (((((prt l ((q.1 : Int)))).Cell).Thick).Lo), .i (((((prt l ((q.1 : Int)))).Cell).Thick).Hi), .i (((((prt l ((q.1 : Int)))).Cell).Ridge).Lo), .i (((((prt l ((q.1 : Int)))).Cell).Ridge).Hi), .i (((((prt l ((q.1 : Int)))).Cell).Press).Lo), .i (((((prt l ((q.1 : Int)))).Cell).Press).Hi), .B (((prt l ((q.1 : Int)))).Channel), .i (((prt l ((q.1 : Int)))).Length)]) (lN rfl) rfl (ldN (hl_L (ne_of_ix (i := (q.1 : Int)) (by omega) (by omega))) default (i := (q.1 : Int)) (by omega) (by omega) 0 (vs := [(.int .i64 (((((prt l ((q.1 : Int)))).Cell).Conc).Lo)), (.int .i64 (((((prt l ((q.1 : Int)))).Cell).Conc).Hi)), (.int .i64 (((((prt l ((q.1 : Int)))).Cell).Thick).Lo)), (.int .i64 (((((prt l ((q.1 : Int)))).Cell).Thick).Hi)), (.int .i64 (((((prt l ((q.1 : Int)))).Cell).Ridge).Lo)), (.int .i64 (((((prt l ((q.1 : Int)))).Cell).Ridge).Hi)), (.int .i64 (((((prt l ((q.1 : Int)))).Cell).Press).Lo)), (.int .i64 (((((prt l ((q.1 : Int)))).Cell).Press).Hi)), (.bool (((prt l ((q.1 : Int)))).Channel)), (.int .i64 (((prt l ((q.1 : Int)))).Length))]) (fun zq zv zh => sub_get (vs := [(.int .i64 (((((prt l ((q.1 : Int)))).Cell).Conc).Lo)), (.int .i64 (((((prt l ((q.1 : Int)))).Cell).Conc).Hi)), (.int .i64 (((((prt l ((q.1 : Int)))).Cell).Thick).Lo)), (.int .i64 (((((prt l ((q.1 : Int)))).Cell).Thick).Hi)), (.int .i64 (((((prt l ((q.1 : Int)))).Cell).Ridge).Lo)), (.int .i64 (((((prt l ((q.1 : Int)))).Cell).Ridge).Hi)), (.int .i64 (((((prt l ((q.1 : Int)))).Cell).Press).Lo)), (.int .i64 (((((prt l ((q.1 : Int)))).Cell).Press).Hi)), (.bool (((prt l ((q.1 : Int)))).Channel)), (.int .i64 (((prt l ((q.1 : Int)))).Length))]) rfl zh) rfl sh_48 rfl)),
      okp rfl rfl (oqa (L := 5) (lN rfl) zl_48),
      okp rfl rfl (oqA (lN rfl) rfl),
      okp rfl rfl (oqS sz_48 rfl rfl rfl rfl rfl (by decide)),
      trivial⟩ ?_
     refine fqK (s' := (kt 2 (.p 1 0) :: kt 5 (.p 2 0) :: kt 11 (.v (.func (.func 86) #[] #[])) :: kt 12 (.o 101 102 q.2.1.length) :: kt 13 (.p 4 0) :: kt 14 (.i ((q.1 : Int))) :: kt 15 (.p 5 0) :: kt 50 (.v (.slice l_p l.length l_c)) :: kt 51 (.i (((l.length : Nat) : Int))) :: kt 52 (.i ((q.1 : Int))) :: kb 1 25 11 :: kb 2 32 2 :: kb 4 32 2 :: kb 5 48 10 :: (.r 101, some (.vec true 102 3 1 (q.2.1.flatMap encInt))) :: sK 1 s (.v (.slice s0Tp s.Thrust.length s0Tc)) (.v (.slice s0Wp s.Water.length s0Wc)) (.v (.slice s0Ip s.Ice.length s0Ic)) [kc 2 0 (.i 0), kc 2 1 (.i 0), kc 4 0 (.i q.2.2.1), kc 4 1 (.i q.2.2.2), kc 5 0 (.i (((((prt l ((q.1 : Int)))).Cell).Conc).Lo)), kc 5 1 (.i (((((prt l ((q.1 : Int)))).Cell).Conc).Hi)), kc 5 2 (.i (((((prt l ((q.1 : Int)))).Cell).Thick).Lo)), kc 5 3 (.i (((((prt l ((q.1 : Int)))).Cell).Thick).Hi)), kc 5 4 (.i (((((prt l ((q.1 : Int)))).Cell).Ridge).Lo)), kc 5 5 (.i (((((prt l ((q.1 : Int)))).Cell).Ridge).Hi)), kc 5 6 (.i (((((prt l ((q.1 : Int)))).Cell).Press).Lo)), kc 5 7 (.i (((((prt l ((q.1 : Int)))).Cell).Press).Hi)), kc 5 8 (.B (((prt l ((q.1 : Int)))).Channel)), kc 5 9 (.i (((prt l ((q.1 : Int)))).Length))])) ?_ (kp rfl) rfl
     refine fqT ?_
     refine aqS ?_
     refine aqT (rows := [_, _, _, _, _, _, _, _, _, _]) rfl (by kernel_rfl) ⟨
      okp rfl rfl (oqF (lN rfl) rfl fo_48_0),
      okp rfl rfl (oqL (ys := [.i (((((prt l ((q.1 : Int)))).Cell).Conc).Lo), .i (((((prt l ((q.1 : Int)))).Cell).Conc).Hi), .i (((((prt l ((q.1 : Int)))).Cell).Thick).Lo), .i (((((prt l ((q.1 : Int)))).Cell).Thick).Hi), .i (((((prt l ((q.1 : Int)))).Cell).Ridge).Lo), .i (((((prt l ((q.1 : Int)))).Cell).Ridge).Hi), .i (((((prt l ((q.1 : Int)))).Cell).Press).Lo), .i (((((prt l ((q.1 : Int)))).Cell).Press).Hi)]) (lN rfl) sh_34 rfl rfl ⟨rfl, rfl, rfl, rfl, rfl, rfl, rfl, rfl, trivial⟩),
      okp rfl rfl (oqF (lN rfl) rfl fo_48_1),
      okp rfl rfl (oq1 (lN rfl) sh_4 rfl rfl),
      okp rfl rfl (oqC (x := .t [.i ((safe s ((((prt l ((q.1 : Int)))).Cell)) (((prt l ((q.1 : Int)))).Channel)).1), .i ((safe s ((((prt l ((q.1 : Int)))).Cell)) (((prt l ((q.1 : Int)))).Channel)).2)]) (fs := []) (caps := []) (extra := (kapp ((.b 1 :: cqK 1 0 11)) [])) (lN rfl) en_87 rfl ⟨rfl, rfl, rfl⟩ (EvL.cons rfl (EvL.cons rfl (EvL.cons rfl EvL.nil))) (fun mm aa ww gg hr hrel => (c87 s ⟨s0Tp, s.Thrust.length, s0Tc⟩ ⟨s0Wp, s.Water.length, s0Wc⟩ ⟨s0Ip, s.Ice.length, s0Ic⟩ (mm 1) ((((prt l ((q.1 : Int)))).Cell)) (((prt l ((q.1 : Int)))).Channel) ww (SlIs.mono hs_Thrust hrel.below) (SlIs.mono hs_Water hrel.below) (SlIs.mono hs_Ice hrel.below) (bqA (L := 1) (vs := [(.int .i64 s.Class), (.int .i64 s.Power), (.int .i64 s.Draught), (.int .i64 s.Tonnes), (.slice s0Tp s.Thrust.length s0Tc), (.slice s0Wp s.Water.length s0Wc), (.slice s0Ip s.Ice.length s0Ic), (.int .i64 s.Slow), (.int .i64 s.Brash), (.int .i64 s.Ridge), (.int .i64 s.Press)]) hrel (fun k hk => hr k (List.mem_append_left _ hk)) rfl ⟨rfl, rfl, rfl, rfl, rfl, rfl, rfl, rfl, rfl, rfl, rfl, trivial⟩) (BoxAt.mono hG hrel.below) (by first | assumption | omega) (by first | assumption | omega)))),
      okp rfl rfl (oqM (lN rfl) rfl),
      okp rfl rfl (oqx (lN rfl) rfl rfl),
      okp rfl rfl (oqx (lN rfl) rfl rfl),
      okp rfl rfl (oqA (lN rfl) rfl),
      okp rfl rfl (oqA (lN rfl) rfl),
      trivial⟩ ?_
     refine fqK (s' := (kt 2 (.p 1 0) :: kt 5 (.p 2 0) :: kt 11 (.v (.func (.func 86) #[] #[])) :: kt 12 (.o 101 102 q.2.1.length) :: kt 13 (.p 4 0) :: kt 14 (.i ((q.1 : Int))) :: kt 15 (.p 5 0) :: kt 16 (.i ((safe s ((((prt l ((q.1 : Int)))).Cell)) (((prt l ((q.1 : Int)))).Channel)).1)) :: kt 17 (.i ((safe s ((((prt l ((q.1 : Int)))).Cell)) (((prt l ((q.1 : Int)))).Channel)).2)) :: kt 50 (.v (.slice l_p l.length l_c)) :: kt 51 (.i (((l.length : Nat) : Int))) :: kt 52 (.i ((q.1 : Int))) :: kb 1 25 11 :: kb 2 32 2 :: kb 4 32 2 :: kb 5 48 10 :: (.r 101, some (.vec true 102 3 1 (q.2.1.flatMap encInt))) :: sK 1 s (.v (.slice s0Tp s.Thrust.length s0Tc)) (.v (.slice s0Wp s.Water.length s0Wc)) (.v (.slice s0Ip s.Ice.length s0Ic)) [kc 2 0 (.i 0), kc 2 1 (.i 0), kc 4 0 (.i q.2.2.1), kc 4 1 (.i q.2.2.2), kc 5 0 (.i (((((prt l ((q.1 : Int)))).Cell).Conc).Lo)), kc 5 1 (.i (((((prt l ((q.1 : Int)))).Cell).Conc).Hi)), kc 5 2 (.i (((((prt l ((q.1 : Int)))).Cell).Thick).Lo)), kc 5 3 (.i (((((prt l ((q.1 : Int)))).Cell).Thick).Hi)), kc 5 4 (.i (((((prt l ((q.1 : Int)))).Cell).Ridge).Lo)), kc 5 5 (.i (((((prt l ((q.1 : Int)))).Cell).Ridge).Hi)), kc 5 6 (.i (((((prt l ((q.1 : Int)))).Cell).Press).Lo)), kc 5 7 (.i (((((prt l ((q.1 : Int)))).Cell).Press).Hi)), kc 5 8 (.B (((prt l ((q.1 : Int)))).Channel)), kc 5 9 (.i (((prt l ((q.1 : Int)))).Length))])) ?_ (kp rfl) rfl
     refine fqT ?_
     refine aqS ?_
     refine aqS ?_
     refine aqT (rows := [_, _]) rfl (by kernel_rfl) ⟨
      okp rfl rfl (oqM (lN rfl) rfl),
      okp rfl rfl (oqB (lN rfl) rfl rfl rfl),
      trivial⟩ ?_
     refine fqK (s' := (kt 2 (.p 1 0) :: kt 5 (.p 2 0) :: kt 11 (.v (.func (.func 86) #[] #[])) :: kt 12 (.o 101 102 q.2.1.length) :: kt 13 (.p 4 0) :: kt 14 (.i ((q.1 : Int))) :: kt 15 (.p 5 0) :: kt 16 (.i ((safe s ((((prt l ((q.1 : Int)))).Cell)) (((prt l ((q.1 : Int)))).Channel)).1)) :: kt 17 (.i ((safe s ((((prt l ((q.1 : Int)))).Cell)) (((prt l ((q.1 : Int)))).Channel)).2)) :: kt 50 (.v (.slice l_p l.length l_c)) :: kt 51 (.i (((l.length : Nat) : Int))) :: kt 52 (.i ((q.1 : Int))) :: kt 66 (.B (((safe s ((((prt l ((q.1 : Int)))).Cell)) (((prt l ((q.1 : Int)))).Channel)).2) != 0)) :: kb 1 25 11 :: kb 2 32 2 :: kb 4 32 2 :: kb 5 48 10 :: (.r 101, some (.vec true 102 3 1 (q.2.1.flatMap encInt))) :: sK 1 s (.v (.slice s0Tp s.Thrust.length s0Tc)) (.v (.slice s0Wp s.Water.length s0Wc)) (.v (.slice s0Ip s.Ice.length s0Ic)) [kc 2 0 (.i 0), kc 2 1 (.i 0), kc 4 0 (.i q.2.2.1), kc 4 1 (.i q.2.2.2), kc 5 0 (.i (((((prt l ((q.1 : Int)))).Cell).Conc).Lo)), kc 5 1 (.i (((((prt l ((q.1 : Int)))).Cell).Conc).Hi)), kc 5 2 (.i (((((prt l ((q.1 : Int)))).Cell).Thick).Lo)), kc 5 3 (.i (((((prt l ((q.1 : Int)))).Cell).Thick).Hi)), kc 5 4 (.i (((((prt l ((q.1 : Int)))).Cell).Ridge).Lo)), kc 5 5 (.i (((((prt l ((q.1 : Int)))).Cell).Ridge).Hi)), kc 5 6 (.i (((((prt l ((q.1 : Int)))).Cell).Press).Lo)), kc 5 7 (.i (((((prt l ((q.1 : Int)))).Cell).Press).Hi)), kc 5 8 (.B (((prt l ((q.1 : Int)))).Channel)), kc 5 9 (.i (((prt l ((q.1 : Int)))).Length))])) ?_ (kp rfl) rfl
     refine fqT ?_
     refine aqc rfl (fun hz18 => ?_) (fun hz18 => ?_)
     ·have _z := hz18
      have q19 := ne_t hz18
      refine aqS ?_
      refine aqT (rows := [_, _, _, _, _, _]) rfl (by kernel_rfl) ⟨
       okp rfl rfl (oqM (lN rfl) rfl),
       okp rfl rfl (op_build (x := .g [.i ((q.1 : Int)), .i 0]) (lN rfl) (EvL.cons rfl EvL.nil) (fun m w => by kernel_rfl)),
       okp rfl rfl (oqM (lN rfl) rfl),
       okp rfl rfl (oqA (lN rfl) rfl),
       okp rfl rfl (oqS sz_32 rfl rfl rfl rfl rfl (by decide)),
       okp rfl rfl (oqA (lN rfl) rfl),
       trivial⟩ ?_
      refine fqK (s' := [kt 4 (.v (.slice none 0 0)), kt 5 (.p 2 0), kt 6 (.i ((safe s ((((prt l ((q.1 : Int)))).Cell)) (((prt l ((q.1 : Int)))).Channel)).2)), kb 2 32 2, kc 2 0 (.i ((q.1 : Int))), kc 2 1 (.i 0)]) ?_ (kp rfl) rfl
      refine fqT ?_
      refine aqr ?_
      refine fqR ?_
      refine fin_block_ret ?_
      refine fqR ?_
      refine fqR ?_
      refine fin_block_ret ?_
      refine fqR ?_
      refine pqr (x := .t [.v (.slice none 0 0), .g [.i ((q.1 : Int)), .i 0], .i ((safe s ((((prt l ((q.1 : Int)))).Cell)) (((prt l ((q.1 : Int)))).Channel)).2)]) rfl rfl (rqT rfl (rqC (ys := [.i ((q.1 : Int)), .i 0]) rfl sh_32 rfl ⟨rfl, rfl, trivial⟩ (rqT rfl rqN))) rfl (fun mm aa ww hr => ?_)
      have hlq : leg s l = ([], ⟨(q.1 : Int), 0⟩, (safe s (prt l (q.1 : Int)).Cell (prt l (q.1 : Int)).Channel).2) := by rw [hlg, drop_prt hlt, legFrom, if_pos (ne_t hz18)]
      exact ⟨none, 0, by rw [hlq]; rfl, by rw [hlq]; exact newAt_nil, hr.below⟩
     ·have _z := hz18
      have q20 := ne_f hz18
      refine aqk ?_
      refine fqT ?_
      refine aqS ?_
      have hsg := safe_goes hc hg (ne_f hz18)
      refine aw_any (rows := [_, _, _, _, _, _, _, _, _, _, _, _]) (M := [0, 1, 3, 0, 8, 31, 63, 127, 255, 255, 511, 2047]) Tryd_mixed (by kernel_rfl) rfl (by kernel_rfl) ⟨
       okp rfl rfl (oqF (lN rfl) rfl fo_48_0),
       okp rfl rfl (oqL (ys := [.i (((((prt l ((q.1 : Int)))).Cell).Conc).Lo), .i (((((prt l ((q.1 : Int)))).Cell).Conc).Hi), .i (((((prt l ((q.1 : Int)))).Cell).Thick).Lo), .i (((((prt l ((q.1 : Int)))).Cell).Thick).Hi), .i (((((prt l ((q.1 : Int)))).Cell).Ridge).Lo), .i (((((prt l ((q.1 : Int)))).Cell).Ridge).Hi), .i (((((prt l ((q.1 : Int)))).Cell).Press).Lo), .i (((((prt l ((q.1 : Int)))).Cell).Press).Hi)]) (lN rfl) sh_34 rfl rfl ⟨rfl, rfl, rfl, rfl, rfl, rfl, rfl, rfl, trivial⟩),
       okp rfl rfl (oqC (x := .g [.i ((firstI ((((prt l ((q.1 : Int)))).Cell))).Conc), .i ((firstI ((((prt l ((q.1 : Int)))).Cell))).Thick), .i ((firstI ((((prt l ((q.1 : Int)))).Cell))).Ridge), .i ((firstI ((((prt l ((q.1 : Int)))).Cell))).Press)]) (fs := []) (caps := []) (extra := []) (lN rfl) en_88 rfl ⟨rfl, rfl, rfl⟩ (EvL.cons rfl EvL.nil) (fun mm aa ww gg hr hrel => (c88 ((((prt l ((q.1 : Int)))).Cell)) ww))),
       okp rfl rfl (oqF (lN rfl) rfl fo_48_1),
       okp rfl rfl (oq1 (lN rfl) sh_4 rfl rfl),
       okp rfl rfl (op_build (x := .g [.p 1 0, .i ((firstI ((((prt l ((q.1 : Int)))).Cell))).Conc), .i ((firstI ((((prt l ((q.1 : Int)))).Cell))).Thick), .i ((firstI ((((prt l ((q.1 : Int)))).Cell))).Ridge), .i ((firstI ((((prt l ((q.1 : Int)))).Cell))).Press), .B (((prt l ((q.1 : Int)))).Channel)]) (lN rfl) (EvL.cons rfl (EvL.cons rfl (EvL.cons rfl EvL.nil))) (fun m w => by kernel_rfl)),
       okp rfl rfl (oqC (x := .t [.i ((goes s ((firstI ((((prt l ((q.1 : Int)))).Cell)))) (((prt l ((q.1 : Int)))).Channel)).1), .B ((goes s ((firstI ((((prt l ((q.1 : Int)))).Cell)))) (((prt l ((q.1 : Int)))).Channel)).2)]) (fs := []) (caps := []) (extra := (kapp ((.b 1 :: cqK 1 0 11)) [])) (lN rfl) en_89 rfl ⟨rfl, rfl, rfl⟩ (EvL.cons rfl EvL.nil) (fun mm aa ww gg hr hrel => (c89 s ⟨s0Tp, s.Thrust.length, s0Tc⟩ ⟨s0Wp, s.Water.length, s0Wc⟩ ⟨s0Ip, s.Ice.length, s0Ic⟩ (mm 1) ((firstI ((((prt l ((q.1 : Int)))).Cell)))) (((prt l ((q.1 : Int)))).Channel) ww (SlIs.mono hs_Thrust hrel.below) (SlIs.mono hs_Water hrel.below) (SlIs.mono hs_Ice hrel.below) (bqA (L := 1) (vs := [(.int .i64 s.Class), (.int .i64 s.Power), (.int .i64 s.Draught), (.int .i64 s.Tonnes), (.slice s0Tp s.Thrust.length s0Tc), (.slice s0Wp s.Water.length s0Wc), (.slice s0Ip s.Ice.length s0Ic), (.int .i64 s.Slow), (.int .i64 s.Brash), (.int .i64 s.Ridge), (.int .i64 s.Press)]) hrel (fun k hk => hr k (List.mem_append_left _ hk)) rfl ⟨rfl, rfl, rfl, rfl, rfl, rfl, rfl, rfl, rfl, rfl, rfl, trivial⟩) (BoxAt.mono hG hrel.below) (by first | assumption | omega) (by first | assumption | omega)))),
       okp rfl rfl (oqM (lN rfl) rfl),
       okp rfl rfl (oqx (lN rfl) rfl rfl),
       okp rfl rfl (oqx (lN rfl) rfl rfl),
       okp rfl rfl (oqA (lN rfl) rfl),
       okp rfl rfl (oqA (lN rfl) rfl),
       trivial⟩ ?_
      refine fqK (s' := (kt 2 (.p 1 0) :: kt 5 (.p 2 0) :: kt 11 (.v (.func (.func 86) #[] #[])) :: kt 12 (.o 101 102 q.2.1.length) :: kt 13 (.p 4 0) :: kt 15 (.p 5 0) :: kt 16 (.i ((safe s ((((prt l ((q.1 : Int)))).Cell)) (((prt l ((q.1 : Int)))).Channel)).1)) :: kt 18 (.i ((goes s ((firstI ((((prt l ((q.1 : Int)))).Cell)))) (((prt l ((q.1 : Int)))).Channel)).1)) :: kt 50 (.v (.slice l_p l.length l_c)) :: kt 51 (.i (((l.length : Nat) : Int))) :: kt 52 (.i ((q.1 : Int))) :: kb 1 25 11 :: kb 2 32 2 :: kb 4 32 2 :: kb 5 48 10 :: (.r 101, some (.vec true 102 3 1 (q.2.1.flatMap encInt))) :: sK 1 s (.v (.slice s0Tp s.Thrust.length s0Tc)) (.v (.slice s0Wp s.Water.length s0Wc)) (.v (.slice s0Ip s.Ice.length s0Ic)) [kc 2 0 (.i 0), kc 2 1 (.i 0), kc 4 0 (.i q.2.2.1), kc 4 1 (.i q.2.2.2), kc 5 0 (.i (((((prt l ((q.1 : Int)))).Cell).Conc).Lo)), kc 5 1 (.i (((((prt l ((q.1 : Int)))).Cell).Conc).Hi)), kc 5 2 (.i (((((prt l ((q.1 : Int)))).Cell).Thick).Lo)), kc 5 3 (.i (((((prt l ((q.1 : Int)))).Cell).Thick).Hi)), kc 5 4 (.i (((((prt l ((q.1 : Int)))).Cell).Ridge).Lo)), kc 5 5 (.i (((((prt l ((q.1 : Int)))).Cell).Ridge).Hi)), kc 5 6 (.i (((((prt l ((q.1 : Int)))).Cell).Press).Lo)), kc 5 7 (.i (((((prt l ((q.1 : Int)))).Cell).Press).Hi)), kc 5 8 (.B (((prt l ((q.1 : Int)))).Channel)), kc 5 9 (.i (((prt l ((q.1 : Int)))).Length))])) ?_ (kp rfl) rfl
      refine fqT ?_
      refine aqS ?_
      have ht1 := takes_bd hgp.1 hsg.2.2
      have ht2 := takes_bd hgp.1 hsg.2.1
      refine aqT (rows := [_, _, _, _, _]) rfl (by kernel_rfl) ⟨
       okp rfl rfl (oqM (lN rfl) rfl),
       okp rfl rfl (oqM (lN rfl) rfl),
       okp rfl rfl (op_buildSlice (L := 6) (ety := 3) (cs := [.i ((safe s ((((prt l ((q.1 : Int)))).Cell)) (((prt l ((q.1 : Int)))).Channel)).1)]) (lN rfl) (EvL.cons rfl EvL.nil) rfl (fun m w => by kernel_rfl)),
       okp rfl rfl (op_append (L' := 7) (C' := 8) (vs := [(.int .i64 ((safe s ((((prt l ((q.1 : Int)))).Cell)) (((prt l ((q.1 : Int)))).Channel)).1))]) (lN rfl) af_49 rfl rfl (flat_length (enc := encInt) (fun _ => rfl) q.2.1) rfl ⟨rfl, trivial⟩ rfl rfl (by decide) (by omega) (by omega) (by decide)),
       okp rfl rfl (oqA (lN rfl) rfl),
       trivial⟩ ?_
      refine fqK (s' := (kt 2 (.p 1 0) :: kt 5 (.p 2 0) :: kt 11 (.v (.func (.func 86) #[] #[])) :: kt 12 (.o 7 8 ((q.2.1 ++ [(safe s ((((prt l ((q.1 : Int)))).Cell)) (((prt l ((q.1 : Int)))).Channel)).1]).length)) :: kt 13 (.p 4 0) :: kt 15 (.p 5 0) :: kt 16 (.i ((safe s ((((prt l ((q.1 : Int)))).Cell)) (((prt l ((q.1 : Int)))).Channel)).1)) :: kt 18 (.i ((goes s ((firstI ((((prt l ((q.1 : Int)))).Cell)))) (((prt l ((q.1 : Int)))).Channel)).1)) :: kt 50 (.v (.slice l_p l.length l_c)) :: kt 51 (.i (((l.length : Nat) : Int))) :: kt 52 (.i ((q.1 : Int))) :: kb 1 25 11 :: kb 2 32 2 :: kb 4 32 2 :: kb 5 48 10 :: (.r 7, some (.vec true 8 3 1 ((q.2.1 ++ [(safe s ((((prt l ((q.1 : Int)))).Cell)) (((prt l ((q.1 : Int)))).Channel)).1]).flatMap encInt))) :: sK 1 s (.v (.slice s0Tp s.Thrust.length s0Tc)) (.v (.slice s0Wp s.Water.length s0Wc)) (.v (.slice s0Ip s.Ice.length s0Ic)) [kc 2 0 (.i 0), kc 2 1 (.i 0), kc 4 0 (.i q.2.2.1), kc 4 1 (.i q.2.2.2), kc 5 0 (.i (((((prt l ((q.1 : Int)))).Cell).Conc).Lo)), kc 5 1 (.i (((((prt l ((q.1 : Int)))).Cell).Conc).Hi)), kc 5 2 (.i (((((prt l ((q.1 : Int)))).Cell).Thick).Lo)), kc 5 3 (.i (((((prt l ((q.1 : Int)))).Cell).Thick).Hi)), kc 5 4 (.i (((((prt l ((q.1 : Int)))).Cell).Ridge).Lo)), kc 5 5 (.i (((((prt l ((q.1 : Int)))).Cell).Ridge).Hi)), kc 5 6 (.i (((((prt l ((q.1 : Int)))).Cell).Press).Lo)), kc 5 7 (.i (((((prt l ((q.1 : Int)))).Cell).Press).Hi)), kc 5 8 (.B (((prt l ((q.1 : Int)))).Channel)), kc 5 9 (.i (((prt l ((q.1 : Int)))).Length))])) ?_ ⟨rfl, rfl, rfl, (congrArg (fun q => some (Val.x (SV.o 7 8 q))) (len_snoc q.2.1 ((safe s ((((prt l ((q.1 : Int)))).Cell)) (((prt l ((q.1 : Int)))).Channel)).1))), rfl, rfl, rfl, rfl, rfl, rfl, rfl, rfl, rfl, rfl, rfl, (Eq.trans (b := some (Val.vec true 8 3 1 (q.2.1.flatMap encInt ++ [(.int .i64 ((safe s ((((prt l ((q.1 : Int)))).Cell)) (((prt l ((q.1 : Int)))).Channel)).1))]))) rfl (congrArg (fun q => some (Val.vec true 8 3 1 q)) (flat_snoc (enc := encInt) q.2.1 ((safe s ((((prt l ((q.1 : Int)))).Cell)) (((prt l ((q.1 : Int)))).Channel)).1)))), rfl, rfl, rfl, rfl, rfl, rfl, rfl, rfl, rfl, rfl, rfl, rfl, rfl, rfl, rfl, rfl, rfl, rfl, rfl, rfl, rfl, rfl, rfl, rfl, rfl, trivial⟩ rfl
      refine fqT ?_
      have hpl := hgp.1
      have hv1 := hsg.2.1
      have hv2 := hsg.2.2
      refine aw_any (rows := [_, _, _, _, _, _, _, _, _, _, _, _, _, _, _, _, _, _]) (M := [0, 1, 0, 0, 0, 28, 63, 0, 128, 0, 0, 0, 3644, 8124, 511, 24575, 65535, 131071]) Tryd_mixed (by kernel_rfl) rfl (by kernel_rfl) ⟨
       okp rfl rfl (oqF (lN rfl) rfl fo_32_0),
       okp rfl rfl (oq1 (lN rfl) sh_3 rfl rfl),
       okp rfl rfl (oqM (lN rfl) rfl),
       okp rfl rfl (oqL (ys := [.i (((((prt l ((q.1 : Int)))).Cell).Conc).Lo), .i (((((prt l ((q.1 : Int)))).Cell).Conc).Hi), .i (((((prt l ((q.1 : Int)))).Cell).Thick).Lo), .i (((((prt l ((q.1 : Int)))).Cell).Thick).Hi), .i (((((prt l ((q.1 : Int)))).Cell).Ridge).Lo), .i (((((prt l ((q.1 : Int)))).Cell).Ridge).Hi), .i (((((prt l ((q.1 : Int)))).Cell).Press).Lo), .i (((((prt l ((q.1 : Int)))).Cell).Press).Hi), .B (((prt l ((q.1 : Int)))).Channel), .i (((prt l ((q.1 : Int)))).Length)]) (lN rfl) sh_48 rfl rfl ⟨rfl, rfl, rfl, rfl, rfl, rfl, rfl, rfl, rfl, rfl, trivial⟩),
       okp rfl rfl (oqM (lN rfl) rfl),
       okp rfl rfl (oqC (x := .i (takes ((prt l ((q.1 : Int)))) ((goes s ((firstI ((((prt l ((q.1 : Int)))).Cell)))) (((prt l ((q.1 : Int)))).Channel)).1))) (fs := []) (caps := []) (extra := []) (lN rfl) en_86 rfl ⟨rfl, rfl, rfl⟩ (EvL.cons rfl (EvL.cons rfl EvL.nil)) (fun mm aa ww gg hr hrel => (c86 ((prt l ((q.1 : Int)))) ((goes s ((firstI ((((prt l ((q.1 : Int)))).Cell)))) (((prt l ((q.1 : Int)))).Channel)).1) ww (by first | assumption | omega) (by first | assumption | omega)))),
       okp rfl rfl (oqB (lN rfl) rfl rfl (nw_add ⟨(by omega), (by omega)⟩)),
       okp rfl rfl (oqF (lN rfl) rfl fo_32_1),
       okp rfl rfl (oq1 (lN rfl) sh_3 rfl rfl),
       okp rfl rfl (oqM (lN rfl) rfl),
       okp rfl rfl (oqL (ys := [.i (((((prt l ((q.1 : Int)))).Cell).Conc).Lo), .i (((((prt l ((q.1 : Int)))).Cell).Conc).Hi), .i (((((prt l ((q.1 : Int)))).Cell).Thick).Lo), .i (((((prt l ((q.1 : Int)))).Cell).Thick).Hi), .i (((((prt l ((q.1 : Int)))).Cell).Ridge).Lo), .i (((((prt l ((q.1 : Int)))).Cell).Ridge).Hi), .i (((((prt l ((q.1 : Int)))).Cell).Press).Lo), .i (((((prt l ((q.1 : Int)))).Cell).Press).Hi), .B (((prt l ((q.1 : Int)))).Channel), .i (((prt l ((q.1 : Int)))).Length)]) (lN rfl) sh_48 rfl rfl ⟨rfl, rfl, rfl, rfl, rfl, rfl, rfl, rfl, rfl, rfl, trivial⟩),
       okp rfl rfl (oqM (lN rfl) rfl),
       okp rfl rfl (oqC (x := .i (takes ((prt l ((q.1 : Int)))) ((safe s ((((prt l ((q.1 : Int)))).Cell)) (((prt l ((q.1 : Int)))).Channel)).1))) (fs := []) (caps := []) (extra := []) (lN rfl) en_86 rfl ⟨rfl, rfl, rfl⟩ (EvL.cons rfl (EvL.cons rfl EvL.nil)) (fun mm aa ww gg hr hrel => (c86 ((prt l ((q.1 : Int)))) ((safe s ((((prt l ((q.1 : Int)))).Cell)) (((prt l ((q.1 : Int)))).Channel)).1) ww (by first | assumption | omega) (by first | assumption | omega)))),
       okp rfl rfl (oqB (lN rfl) rfl rfl (nw_add ⟨(by omega), (by omega)⟩)),
       okp rfl rfl (oqF (lN rfl) rfl fo_32_0),
       okp rfl rfl (oqs sz_3 rfl rfl rfl rfl (lN rfl)),
       okp rfl rfl (oqF (lN rfl) rfl fo_32_1),
       okp rfl rfl (oqs sz_3 rfl rfl rfl rfl (lN rfl)),
       trivial⟩ ?_
      refine fqK (s' := (kt 2 (.p 1 0) :: kt 5 (.p 2 0) :: kt 11 (.v (.func (.func 86) #[] #[])) :: kt 12 (.o 7 8 ((q.2.1 ++ [(safe s ((((prt l ((q.1 : Int)))).Cell)) (((prt l ((q.1 : Int)))).Channel)).1]).length)) :: kt 13 (.p 4 0) :: kt 50 (.v (.slice l_p l.length l_c)) :: kt 51 (.i (((l.length : Nat) : Int))) :: kt 52 (.i ((q.1 : Int))) :: kb 1 25 11 :: kb 2 32 2 :: kb 4 32 2 :: (.r 7, some (.vec true 8 3 1 ((q.2.1 ++ [(safe s ((((prt l ((q.1 : Int)))).Cell)) (((prt l ((q.1 : Int)))).Channel)).1]).flatMap encInt))) :: sK 1 s (.v (.slice s0Tp s.Thrust.length s0Tc)) (.v (.slice s0Wp s.Water.length s0Wc)) (.v (.slice s0Ip s.Ice.length s0Ic)) [kc 2 0 (.i 0), kc 2 1 (.i 0), kc 4 0 (.i (q.2.2.1 + (takes ((prt l ((q.1 : Int)))) ((goes s ((firstI ((((prt l ((q.1 : Int)))).Cell)))) (((prt l ((q.1 : Int)))).Channel)).1)))), kc 4 1 (.i (q.2.2.2 + (takes ((prt l ((q.1 : Int)))) ((safe s ((((prt l ((q.1 : Int)))).Cell)) (((prt l ((q.1 : Int)))).Channel)).1))))])) ?_ (kp rfl) rfl
      refine fqB ?_
      refine fqT ?_
      refine aqT (rows := [_, _]) rfl (by kernel_rfl) ⟨
       okp rfl rfl (oqB (lN rfl) rfl rfl (nw_add ⟨(by omega), (by omega)⟩)),
       okp rfl rfl (oqM (lN rfl) rfl),
       trivial⟩ ?_
      refine fqK (s' := (kt 2 (.p 1 0) :: kt 5 (.p 2 0) :: kt 11 (.v (.func (.func 86) #[] #[])) :: kt 12 (.o 7 8 ((q.2.1 ++ [(safe s ((((prt l ((q.1 : Int)))).Cell)) (((prt l ((q.1 : Int)))).Channel)).1]).length)) :: kt 13 (.p 4 0) :: kt 50 (.v (.slice l_p l.length l_c)) :: kt 51 (.i (((l.length : Nat) : Int))) :: kt 52 (.i (((q.1 : Int)) + 1)) :: kb 1 25 11 :: kb 2 32 2 :: kb 4 32 2 :: (.r 7, some (.vec true 8 3 1 ((q.2.1 ++ [(safe s ((((prt l ((q.1 : Int)))).Cell)) (((prt l ((q.1 : Int)))).Channel)).1]).flatMap encInt))) :: sK 1 s (.v (.slice s0Tp s.Thrust.length s0Tc)) (.v (.slice s0Wp s.Water.length s0Wc)) (.v (.slice s0Ip s.Ice.length s0Ic)) [kc 2 0 (.i 0), kc 2 1 (.i 0), kc 4 0 (.i (q.2.2.1 + (takes ((prt l ((q.1 : Int)))) ((goes s ((firstI ((((prt l ((q.1 : Int)))).Cell)))) (((prt l ((q.1 : Int)))).Channel)).1)))), kc 4 1 (.i (q.2.2.2 + (takes ((prt l ((q.1 : Int)))) ((safe s ((((prt l ((q.1 : Int)))).Cell)) (((prt l ((q.1 : Int)))).Channel)).1))))])) ?_ (kp rfl) rfl
      refine fin_swp [(7, 101), (8, 102)] rfl ?_
      exact fin_loop (q.1 + 1, (q.2.1 ++ [(safe s ((((prt l ((q.1 : Int)))).Cell)) (((prt l ((q.1 : Int)))).Channel)).1]), q.2.2.1 + (takes ((prt l ((q.1 : Int)))) ((goes s ((firstI ((((prt l ((q.1 : Int)))).Cell)))) (((prt l ((q.1 : Int)))).Channel)).1)), q.2.2.2 + (takes ((prt l ((q.1 : Int)))) ((safe s ((((prt l ((q.1 : Int)))).Cell)) (((prt l ((q.1 : Int)))).Channel)).1))) ⟨by simp only []; omega, by simp only []; omega, by simp only []; omega, by simp [hvl], by rw [hlg, drop_prt hlt, legFrom, if_neg (by rw [ne_f hz18]; decide)]; rfl⟩ (by simp only []; omega) ⟨rfl, rfl, rfl, rfl, rfl, rfl, rfl, rfl, rfl, rfl, rfl, rfl, rfl, rfl, rfl, rfl, rfl, rfl, rfl, rfl, rfl, rfl, rfl, rfl, rfl, rfl, rfl, trivial⟩ rfl
    ·have _z := hz16
     have q21 := of_decide_eq_false hz16
     refine aw_exit ?_
     refine fqE ?_
     refine fqE ?_
     refine fin_block_exit ?_
     refine fqT ?_
     refine aqS ?_
     refine aw_any (rows := [_, _, _, _, _]) (M := [0, 0, 1, 7, 15]) Tryd_mixed (by kernel_rfl) rfl (by kernel_rfl) ⟨
      okp rfl rfl (oqM (lN rfl) rfl),
      okp rfl rfl (oqL (ys := [.i q.2.2.1, .i q.2.2.2]) (lN rfl) sh_32 rfl rfl ⟨rfl, rfl, trivial⟩),
      okp rfl rfl (oqA (lN rfl) rfl),
      okp rfl rfl (oqS sz_32 rfl rfl rfl rfl rfl (by decide)),
      okp rfl rfl (oqA (lN rfl) rfl),
      trivial⟩ ?_
     refine fqK (s' := [kt 4 (.o 101 102 q.2.1.length), kt 5 (.p 2 0), kt 6 (.i 0), kb 2 32 2, (.r 101, some (.vec true 102 3 1 (q.2.1.flatMap encInt))), kc 2 0 (.i q.2.2.1), kc 2 1 (.i q.2.2.2)]) ?_ (kp rfl) rfl
     refine fqT ?_
     refine aqr ?_
     refine pqr (x := .t [.o 101 102 q.2.1.length, .g [.i q.2.2.1, .i q.2.2.2], .i 0]) rfl rfl (rqT rfl (rqC (ys := [.i q.2.2.1, .i q.2.2.2]) rfl sh_32 rfl ⟨rfl, rfl, trivial⟩ (rqT rfl rqN))) rfl (fun mm aa ww hr => ?_)
     have hlq : leg s l = (q.2.1, ⟨q.2.2.1, q.2.2.2⟩, 0) := by rw [hlg, List.drop_of_length_le (by omega)]; rfl
     rw [hlq]
     exact ⟨_, _, rfl, newAt_row hr mine_nil rfl (flat_length (enc := encInt) (fun _ => rfl) _), hr.below⟩
end Go.Proofs.T
namespace Go.Proofs.T
open Go Go.AX Go.RowKit Hull
theorem zl_34 : zeroL Tryd.prog 34 = some [(.int .i64 0), (.int .i64 0), (.int .i64 0), (.int .i64 0), (.int .i64 0), (.int .i64 0), (.int .i64 0), (.int .i64 0)] := by kernel_rfl
theorem sz_34 : sizeIn Tryd.prog 34 = some 8 := by kernel_rfl
theorem zl_25 : zeroL Tryd.prog 25 = some [(.int .i64 0), (.int .i64 0), (.int .i64 0), (.int .i64 0), (.slice none 0 0), (.slice none 0 0), (.slice none 0 0), (.int .i64 0), (.int .i64 0), (.int .i64 0), (.int .i64 0)] := by kernel_rfl
theorem sz_25 : sizeIn Tryd.prog 25 = some 11 := by kernel_rfl
theorem ss_49 : sliceSz Tryd.prog 49 = some 1 := by kernel_rfl
theorem c81 (lo : Int) (hi : Int) (w : World)  : Calls Tryd.prog 81 #[.int .i64 lo, .int .i64 hi] w fun e w' => e = .returned (.agg #[.int .i64 ((((level lo hi)).Conc).Lo), .int .i64 ((((level lo hi)).Conc).Hi), .int .i64 ((((level lo hi)).Thick).Lo), .int .i64 ((((level lo hi)).Thick).Hi), .int .i64 ((((level lo hi)).Ridge).Lo), .int .i64 ((((level lo hi)).Ridge).Hi), .int .i64 ((((level lo hi)).Press).Lo), .int .i64 ((((level lo hi)).Press).Hi)]) ∧ Below w.heap.size w w' := by
 refine enter (args := [.i lo, .i hi]) Tryd.func81 rfl (N := 10) rfl (Nat.le_of_ble_eq_true rfl) ?_
 refine aqS ?_
 refine aqT (rows := [_]) rfl (by kernel_rfl) ⟨
  okp rfl rfl (oqa (L := 1) (lN rfl) zl_34),
  trivial⟩ ?_
 refine fqK (s' := [kt 0 (.i lo), kt 1 (.i hi), kt 4 (.p 1 0), kb 1 34 8, kc 1 0 (.i 0), kc 1 1 (.i 0), kc 1 2 (.i 0), kc 1 3 (.i 0), kc 1 4 (.i 0), kc 1 5 (.i 0), kc 1 6 (.i 0), kc 1 7 (.i 0)]) ?_ (kp rfl) rfl
 refine fqT ?_
 refine aqS ?_
 refine aqT (rows := [_, _, _, _, _, _]) rfl (by kernel_rfl) ⟨
  okp rfl rfl (op_build (x := .g [.i 100, .i 100]) (lN rfl) (EvL.cons rfl (EvL.cons rfl EvL.nil)) (fun m w => by kernel_rfl)),
  okp rfl rfl (oqM (lN rfl) rfl),
  okp rfl rfl (oqM (lN rfl) rfl),
  okp rfl rfl (op_build (x := .g [.i lo, .i hi]) (lN rfl) (EvL.cons rfl (EvL.cons rfl EvL.nil)) (fun m w => by kernel_rfl)),
  okp rfl rfl (op_build (x := .g [.i 100, .i 100, .i lo, .i hi, .i 0, .i 0, .i 0, .i 0]) (lN rfl) (EvL.cons rfl (EvL.cons rfl EvL.nil)) (fun m w => by kernel_rfl)),
  okp rfl rfl (oqS sz_34 rfl rfl rfl rfl rfl (by decide)),
  trivial⟩ ?_
 refine fqK (s' := [kt 4 (.p 1 0), kb 1 34 8, kc 1 0 (.i 100), kc 1 1 (.i 100), kc 1 2 (.i lo), kc 1 3 (.i hi), kc 1 4 (.i 0), kc 1 5 (.i 0), kc 1 6 (.i 0), kc 1 7 (.i 0)]) ?_ (kp rfl) rfl
 refine fqT ?_
 refine aqr ?_
 refine pqr (x := .g [.i 100, .i 100, .i lo, .i hi, .i 0, .i 0, .i 0, .i 0]) rfl rfl (rqC (ys := [.i 100, .i 100, .i lo, .i hi, .i 0, .i 0, .i 0, .i 0]) rfl sh_34 rfl ⟨rfl, rfl, rfl, rfl, rfl, rfl, rfl, rfl, trivial⟩ rqN) rfl (fun mm aa ww hr => ?_)
 show Ending.returned (.agg #[.int .i64 100, .int .i64 100, .int .i64 lo, .int .i64 hi, .int .i64 0, .int .i64 0, .int .i64 0, .int .i64 0]) = _ ∧ _
 first
  | exact ⟨rfl, hr.below⟩
theorem c80  (w : World)  : Calls Tryd.prog 80 #[] w fun e w' => ∃ sl : List SlV, e = .returned ((fun vs => .agg #[.int .i64 exampleShip.Class, .int .i64 exampleShip.Power, .int .i64 exampleShip.Draught, .int .i64 exampleShip.Tonnes, (vs.getD 0 (.bool false)), (vs.getD 1 (.bool false)), (vs.getD 2 (.bool false)), .int .i64 exampleShip.Slow, .int .i64 exampleShip.Brash, .int .i64 exampleShip.Ridge, .int .i64 exampleShip.Press]) (sl.map SlV.val)) ∧ NewRows w w' sl [(exampleShip.Thrust.length, 84, 2, exampleShip.Thrust.flatMap ePt), (exampleShip.Water.length, 84, 2, exampleShip.Water.flatMap ePt), (exampleShip.Ice.length, 84, 2, exampleShip.Ice.flatMap ePt)] ∧ Below w.heap.size w w' := by
 refine enter (args := []) Tryd.func80 rfl (N := 12) rfl (Nat.le_of_ble_eq_true rfl) ?_
 refine aqS ?_
 refine aqT (rows := [_]) rfl (by kernel_rfl) ⟨
  okp rfl rfl (oqa (L := 1) (lN rfl) zl_25),
  trivial⟩ ?_
 refine fqK (s' := [kt 0 (.p 1 0), kb 1 25 11, kc 1 0 (.i 0), kc 1 1 (.i 0), kc 1 2 (.i 0), kc 1 3 (.i 0), kc 1 4 (.v (.slice none 0 0)), kc 1 5 (.v (.slice none 0 0)), kc 1 6 (.v (.slice none 0 0)), kc 1 7 (.i 0), kc 1 8 (.i 0), kc 1 9 (.i 0), kc 1 10 (.i 0)]) ?_ (kp rfl) rfl
 refine fqT ?_
 refine aqS ?_
 refine aqT (rows := [_, _, _, _, _, _, _, _, _, _, _, _]) rfl (by kernel_rfl) ⟨
  okp rfl rfl (op_build (x := .g [.i 0, .i 1000]) (lN rfl) (EvL.cons rfl (EvL.cons rfl EvL.nil)) (fun m w => by kernel_rfl)),
  okp rfl rfl (op_build (x := .g [.i 100, .i 800]) (lN rfl) (EvL.cons rfl (EvL.cons rfl EvL.nil)) (fun m w => by kernel_rfl)),
  okp rfl rfl (op_build (x := .g [.i 200, .i 0]) (lN rfl) (EvL.cons rfl (EvL.cons rfl EvL.nil)) (fun m w => by kernel_rfl)),
  okp rfl rfl (op_buildSlice (L := 2) (ety := 84) (cs := [.i 0, .i 1000, .i 100, .i 800, .i 200, .i 0]) (lN rfl) (EvL.cons rfl (EvL.cons rfl (EvL.cons rfl EvL.nil))) rfl (fun m w => by kernel_rfl)),
  okp rfl rfl (op_build (x := .g [.i 0, .i 0]) (lN rfl) (EvL.cons rfl (EvL.cons rfl EvL.nil)) (fun m w => by kernel_rfl)),
  okp rfl rfl (op_build (x := .g [.i 200, .i 400]) (lN rfl) (EvL.cons rfl (EvL.cons rfl EvL.nil)) (fun m w => by kernel_rfl)),
  okp rfl rfl (op_buildSlice (L := 3) (ety := 84) (cs := [.i 0, .i 0, .i 200, .i 400]) (lN rfl) (EvL.cons rfl (EvL.cons rfl EvL.nil)) rfl (fun m w => by kernel_rfl)),
  okp rfl rfl (op_build (x := .g [.i 0, .i 0]) (lN rfl) (EvL.cons rfl (EvL.cons rfl EvL.nil)) (fun m w => by kernel_rfl)),
  okp rfl rfl (op_build (x := .g [.i 400, .i 2000]) (lN rfl) (EvL.cons rfl (EvL.cons rfl EvL.nil)) (fun m w => by kernel_rfl)),
  okp rfl rfl (op_buildSlice (L := 4) (ety := 84) (cs := [.i 0, .i 0, .i 400, .i 2000]) (lN rfl) (EvL.cons rfl (EvL.cons rfl EvL.nil)) rfl (fun m w => by kernel_rfl)),
  okp rfl rfl (op_build (x := .g [.i 3, .i 6000, .i 800, .i 9000, .s 2 0 3 3, .s 3 0 2 2, .s 4 0 2 2, .i 0, .i 20, .i 10, .i 100]) (lN rfl) (EvL.cons rfl (EvL.cons rfl (EvL.cons rfl (EvL.cons rfl (EvL.cons rfl (EvL.cons rfl (EvL.cons rfl (EvL.cons rfl (EvL.cons rfl (EvL.cons rfl EvL.nil)))))))))) (fun m w => by kernel_rfl)),
  okp rfl rfl (oqS sz_25 rfl rfl rfl rfl rfl (by decide)),
  trivial⟩ ?_
 refine fqK (s' := [kt 0 (.p 1 0), kb 1 25 11, kb 2 84 6, kb 3 84 4, kb 4 84 4, kc 1 0 (.i 3), kc 1 1 (.i 6000), kc 1 2 (.i 800), kc 1 3 (.i 9000), kc 1 4 (.s 2 0 3 3), kc 1 5 (.s 3 0 2 2), kc 1 6 (.s 4 0 2 2), kc 1 7 (.i 0), kc 1 8 (.i 20), kc 1 9 (.i 10), kc 1 10 (.i 100), kc 2 0 (.i 0), kc 2 1 (.i 1000), kc 2 2 (.i 100), kc 2 3 (.i 800), kc 2 4 (.i 200), kc 2 5 (.i 0), kc 3 0 (.i 0), kc 3 1 (.i 0), kc 3 2 (.i 200), kc 3 3 (.i 400), kc 4 0 (.i 0), kc 4 1 (.i 0), kc 4 2 (.i 400), kc 4 3 (.i 2000)]) ?_ (kp rfl) rfl
 refine fqT ?_
 refine aqr ?_
 refine pqr (x := .g [.i 3, .i 6000, .i 800, .i 9000, .s 2 0 3 3, .s 3 0 2 2, .s 4 0 2 2, .i 0, .i 20, .i 10, .i 100]) rfl rfl (rqC (ys := [.i 3, .i 6000, .i 800, .i 9000, .s 2 0 3 3, .s 3 0 2 2, .s 4 0 2 2, .i 0, .i 20, .i 10, .i 100]) rfl sh_25 rfl ⟨rfl, rfl, rfl, rfl, rfl, rfl, rfl, rfl, rfl, rfl, rfl, trivial⟩ rqN) rfl (fun mm aa ww hr => ?_)
 exact ⟨[⟨some ⟨mm 2, 0, none⟩, 3, 3⟩, ⟨some ⟨mm 3, 0, none⟩, 2, 2⟩, ⟨some ⟨mm 4, 0, none⟩, 2, 2⟩], rfl, ⟨rfl, newAt_box (cs := exampleShip.Thrust.flatMap ePt) hr mine_nil rfl rfl (by decide) ⟨rfl, rfl, rfl, rfl, rfl, rfl, trivial⟩, rfl, newAt_box (cs := exampleShip.Water.flatMap ePt) hr mine_nil rfl rfl (by decide) ⟨rfl, rfl, rfl, rfl, trivial⟩, rfl, newAt_box (cs := exampleShip.Ice.flatMap ePt) hr mine_nil rfl rfl (by decide) ⟨rfl, rfl, rfl, rfl, trivial⟩, trivial⟩, hr.below⟩
theorem c82 (a : List Int) (a_s : SlV) (b : List Int) (b_s : SlV) (w : World) (ha : SlIs encInt 1 w a_s a) (hb : SlIs encInt 1 w b_s b) (hn : a.length ≤ 1000000) : Calls Tryd.prog 82 #[.slice a_s.p a_s.n a_s.c, .slice b_s.p b_s.n b_s.c] w fun e w' => e = .returned (.bool (decide (a = b))) ∧ Below w.heap.size w w' := by
 obtain ⟨a_p, a_n, a_c⟩ := a_s
 have ha_l : a_n = a.length := ha.1
 subst ha_l
 obtain ⟨a_b, a_o, ha_p, ha_L⟩ := SlAt.lies' ha
 obtain ⟨b_p, b_n, b_c⟩ := b_s
 have hb_l : b_n = b.length := hb.1
 subst hb_l
 obtain ⟨b_b, b_o, hb_p, hb_L⟩ := SlAt.lies' hb
 refine enter (args := [.v (.slice a_p a.length a_c), .v (.slice b_p b.length b_c)]) Tryd.func82 rfl (N := 26) rfl (Nat.le_of_ble_eq_true rfl) ?_
 refine aqS ?_
 refine aqT (rows := [_]) rfl (by kernel_rfl) ⟨
  okp rfl rfl (oqA (lN rfl) rfl),
  trivial⟩ ?_
 refine fqK (s' := [kt 0 (.v (.slice a_p a.length a_c)), kt 1 (.v (.slice b_p b.length b_c))]) ?_ (kp rfl) rfl
 refine fqT ?_
 refine aqS ?_
 refine aqS ?_
 refine aqT (rows := [_, _, _, _, _]) rfl (by kernel_rfl) ⟨
  okp rfl rfl (oqM (lN rfl) rfl),
  okp rfl rfl (op_len (n := a.length) (lN rfl) (by rw [ss_49]; rfl) rfl rfl),
  okp rfl rfl (oqM (lN rfl) rfl),
  okp rfl rfl (op_len (n := b.length) (lN rfl) (by rw [ss_49]; rfl) rfl rfl),
  okp rfl rfl (oqB (lN rfl) rfl rfl rfl),
  trivial⟩ ?_
 refine fqK (s' := [kt 0 (.v (.slice a_p a.length a_c)), kt 1 (.v (.slice b_p b.length b_c)), kt 10 (.B ((((a.length : Nat) : Int)) != (((b.length : Nat) : Int))))]) ?_ (kp rfl) rfl
 refine fqT ?_
 refine aqc rfl (fun hz1 => ?_) (fun hz1 => ?_)
 ·have _z := hz1
  have q2 := ne_t hz1
  refine aqS ?_
  refine aqT (rows := [_]) rfl (by kernel_rfl) ⟨
   okp rfl rfl (oqA (lN rfl) rfl),
   trivial⟩ ?_
  refine fqK (s' := [kt 4 (.B false)]) ?_ (kp rfl) rfl
  refine fqT ?_
  refine aqr ?_
  refine fqR ?_
  refine pqr (x := .B false) rfl rfl (rqT rfl rqN) rfl (fun mm aa ww hr => ?_)
  show Ending.returned (.bool false) = _ ∧ _
  exact ⟨by rw [eqInts_no1 (by omega)], hr.below⟩
 ·have _z := hz1
  have q3 := ne_f hz1
  refine aqk ?_
  refine fqT ?_
  refine aqS ?_
  refine aqS ?_
  refine aqT (rows := [_, _, _]) rfl (by kernel_rfl) ⟨
   okp rfl rfl (oqM (lN rfl) rfl),
   okp rfl rfl (op_len (n := a.length) (lN rfl) (by rw [ss_49]; rfl) rfl rfl),
   okp rfl rfl (oqM (lN rfl) rfl),
   trivial⟩ ?_
  refine fqK (s' := [kt 0 (.v (.slice a_p a.length a_c)), kt 1 (.v (.slice b_p b.length b_c)), kt 12 (.i (((a.length : Nat) : Int))), kt 13 (.i 0)]) ?_ (kp rfl) rfl
  refine fqT ?_
  refine aw_block ?_
  refine AW.keep (s' := (fun (k : Nat) => [kt 0 (.v (.slice a_p a.length a_c)), kt 1 (.v (.slice b_p b.length b_c)), kt 12 (.i (((a.length : Nat) : Int))), kt 13 (.i ((k : Int)))]) ((0 : Nat))) ?_ (kp rfl) rfl
  refine aw_loop (ι := Nat) (fun k => k ≤ a.length ∧ ∀ j < k, a.getD ((j : Int)).toNat 0 = b.getD ((j : Int)).toNat 0) (fun k => [kt 0 (.v (.slice a_p a.length a_c)), kt 1 (.v (.slice b_p b.length b_c)), kt 12 (.i (((a.length : Nat) : Int))), kt 13 (.i ((k : Int)))]) (fun k => a.length - k) ⟨Nat.zero_le _, fun j hj => absurd hj (Nat.not_lt_zero j)⟩ (fun k hI => ?_)
  obtain ⟨hk, hall⟩ := hI
  refine aqS ?_
  refine aqT (rows := [_]) rfl (by kernel_rfl) ⟨
   okp rfl rfl (oqB (lN rfl) rfl rfl rfl),
   trivial⟩ ?_
  refine fqK (s' := [kt 0 (.v (.slice a_p a.length a_c)), kt 1 (.v (.slice b_p b.length b_c)), kt 12 (.i (((a.length : Nat) : Int))), kt 13 (.i ((k : Int))), kt 14 (.B (decide (((k : Int)) < (((a.length : Nat) : Int)))))]) ?_ (kp rfl) rfl
  refine fqT ?_
  refine aqS ?_
  refine aqc rfl (fun hz4 => ?_) (fun hz4 => ?_)
  ·have _z := hz4
   have q5 := of_decide_eq_true hz4
   refine aqk ?_
   refine fqT ?_
   refine aqS ?_
   refine aw_block ?_
   refine aqS ?_
   refine aqT (rows := [_, _]) rfl (by kernel_rfl) ⟨
    okp rfl rfl (oqM (lN rfl) rfl),
    okp rfl rfl (oqA (lN rfl) rfl),
    trivial⟩ ?_
   refine fqK (s' := [kt 0 (.v (.slice a_p a.length a_c)), kt 1 (.v (.slice b_p b.length b_c)), kt 5 (.i ((k : Int))), kt 12 (.i (((a.length : Nat) : Int))), kt 13 (.i ((k : Int)))]) ?_ (kp rfl) rfl
   refine fqT ?_
   refine aqS ?_
   refine aw_any (rows := [_, _, _, _, _, _, _, _, _]) (M := [0, 0, 3, 7, 0, 0, 48, 112, 255]) Tryd_mixed (by kernel_rfl) rfl (by kernel_rfl) ⟨
    okp rfl rfl (oqM (lN rfl) rfl),
    okp rfl rfl (oqM (lN rfl) rfl),
    okp rfl rfl (op_ixB (lN rfl) rfl rfl ss_49 (ha_p (ne_of_ix (i := (k : Int)) (by omega) (by omega))) (by omega) (by omega)),
    okp rfl rfl (oqW (y := .i ((a.getD ((k : Int)).toNat 0))) (lN rfl) rfl (ld1 (ha_L (ne_of_ix (i := (k : Int)) (by omega) (by omega))) 0 (i := (k : Int)) (by omega) (by omega) 0 rfl rfl sh_3)),
    okp rfl rfl (oqM (lN rfl) rfl),
    okp rfl rfl (oqM (lN rfl) rfl),
    okp rfl rfl (op_ixB (lN rfl) rfl rfl ss_49 (hb_p (ne_of_ix (i := (k : Int)) (by omega) (by omega))) (by omega) (by omega)),
    okp rfl rfl (oqW (y := .i ((b.getD ((k : Int)).toNat 0))) (lN rfl) rfl (ld1 (hb_L (ne_of_ix (i := (k : Int)) (by omega) (by omega))) 0 (i := (k : Int)) (by omega) (by omega) 0 rfl rfl sh_3)),
    okp rfl rfl (oqB (lN rfl) rfl rfl rfl),
    trivial⟩ ?_
   refine fqK (s' := [kt 0 (.v (.slice a_p a.length a_c)), kt 1 (.v (.slice b_p b.length b_c)), kt 12 (.i (((a.length : Nat) : Int))), kt 13 (.i ((k : Int))), kt 24 (.B (((a.getD ((k : Int)).toNat 0)) != ((b.getD ((k : Int)).toNat 0))))]) ?_ (kp rfl) rfl
   refine fqT ?_
   refine aqc rfl (fun hz6 => ?_) (fun hz6 => ?_)
   ·have _z := hz6
    have q7 := ne_t hz6
    refine aqS ?_
    refine aqT (rows := [_]) rfl (by kernel_rfl) ⟨
     okp rfl rfl (oqA (lN rfl) rfl),
     trivial⟩ ?_
    refine fqK (s' := [kt 4 (.B false)]) ?_ (kp rfl) rfl
    refine fqT ?_
    refine aqr ?_
    refine fin_block_ret ?_
    refine fqR ?_
    refine fqR ?_
    refine fin_block_ret ?_
    refine fqR ?_
    refine pqr (x := .B false) rfl rfl (rqT rfl rqN) rfl (fun mm aa ww hr => ?_)
    show Ending.returned (.bool false) = _ ∧ _
    exact ⟨by rw [eqInts_no2 (ne_t hz6)], hr.below⟩
   ·have _z := hz6
    have q8 := ne_f hz6
    refine aqk ?_
    refine fqB ?_
    refine fqT ?_
    refine aqT (rows := [_, _]) rfl (by kernel_rfl) ⟨
     okp rfl rfl (oqB (lN rfl) rfl rfl (nw_add ⟨(by omega), (by omega)⟩)),
     okp rfl rfl (oqM (lN rfl) rfl),
     trivial⟩ ?_
    refine fqK (s' := [kt 0 (.v (.slice a_p a.length a_c)), kt 1 (.v (.slice b_p b.length b_c)), kt 12 (.i (((a.length : Nat) : Int))), kt 13 (.i (((k : Int)) + 1))]) ?_ (kp rfl) rfl
    exact fin_loop (k + 1) ⟨by omega, fun j hj => by rcases Nat.lt_succ_iff_lt_or_eq.1 hj with h | rfl; exact hall j h; exact ne_f hz6⟩ (by omega) ⟨rfl, rfl, rfl, rfl, trivial⟩ rfl
  ·have _z := hz4
   have q9 := of_decide_eq_false hz4
   refine aw_exit ?_
   refine fqE ?_
   refine fqE ?_
   refine fin_block_exit ?_
   refine fqT ?_
   refine aqS ?_
   refine aqT (rows := [_]) rfl (by kernel_rfl) ⟨
    okp rfl rfl (oqA (lN rfl) rfl),
    trivial⟩ ?_
   refine fqK (s' := [kt 4 (.B true)]) ?_ (kp rfl) rfl
   refine fqT ?_
   refine aqr ?_
   refine pqr (x := .B true) rfl rfl (rqT rfl rqN) rfl (fun mm aa ww hr => ?_)
   show Ending.returned (.bool true) = _ ∧ _
   exact ⟨by rw [eqInts_yes (k := k) (by omega) (by omega) hall], hr.below⟩
end Go.Proofs.T
namespace Go.Proofs.T
open Go Go.AX Go.RowKit Hull
theorem en_80 : Proofs.Enters Tryd.prog 80 := Proofs.enters_of Tryd.func80 (by kernel_rfl) rfl
theorem en_43 : Proofs.Enters Tryd.prog 43 := Proofs.enters_of Tryd.func43 (by kernel_rfl) rfl
theorem en_18 : Proofs.Enters Tryd.prog 18 := Proofs.enters_of Tryd.func18 (by kernel_rfl) rfl
theorem en_20 : Proofs.Enters Tryd.prog 20 := Proofs.enters_of Tryd.func20 (by kernel_rfl) rfl
theorem en_81 : Proofs.Enters Tryd.prog 81 := Proofs.enters_of Tryd.func81 (by kernel_rfl) rfl
theorem en_23 : Proofs.Enters Tryd.prog 23 := Proofs.enters_of Tryd.func23 (by kernel_rfl) rfl
theorem en_35 : Proofs.Enters Tryd.prog 35 := Proofs.enters_of Tryd.func35 (by kernel_rfl) rfl
theorem en_82 : Proofs.Enters Tryd.prog 82 := Proofs.enters_of Tryd.func82 (by kernel_rfl) rfl
set_option maxHeartbeats 2000000 in
theorem c21  (w : World) (hG : BoxAt w 0 (strengths.map (fun n => Value.int .i64 n))) : Calls Tryd.prog 21 #[] w fun e w' => e = .returned (.bool true) ∧ Below w.heap.size w w' := by
 refine enter (args := []) Tryd.func21 rfl (N := 113) rfl (Nat.le_of_ble_eq_true rfl) ?_
 refine aqS ?_
 refine aqT (rows := [_]) rfl (by kernel_rfl) ⟨
  okp rfl rfl (oqA (lN rfl) rfl),
  trivial⟩ ?_
 refine fqK (s' := []) ?_ trivial rfl
 refine fqT ?_
 refine aqS ?_
 refine aqT (rows := [_, _, _]) rfl (by kernel_rfl) ⟨
  okp rfl rfl (op_callRows (x := .g [.i exampleShip.Class, .i exampleShip.Power, .i exampleShip.Draught, .i exampleShip.Tonnes, .o 1 2 exampleShip.Thrust.length, .o 3 4 exampleShip.Water.length, .o 5 6 exampleShip.Ice.length, .i exampleShip.Slow, .i exampleShip.Brash, .i exampleShip.Ridge, .i exampleShip.Press]) (R := (fun vs => .agg #[.int .i64 exampleShip.Class, .int .i64 exampleShip.Power, .int .i64 exampleShip.Draught, .int .i64 exampleShip.Tonnes, (vs.getD 0 (.bool false)), (vs.getD 1 (.bool false)), (vs.getD 2 (.bool false)), .int .i64 exampleShip.Slow, .int .i64 exampleShip.Brash, .int .i64 exampleShip.Ridge, .int .i64 exampleShip.Press])) (ls := [(1, 2), (3, 4), (5, 6)]) (ds := [(exampleShip.Thrust.length, 84, 2, exampleShip.Thrust.flatMap ePt), (exampleShip.Water.length, 84, 2, exampleShip.Water.flatMap ePt), (exampleShip.Ice.length, 84, 2, exampleShip.Ice.flatMap ePt)]) (fs := []) (caps := []) (extra := []) (lN rfl) en_80 rfl ⟨rfl, rfl, rfl⟩ EvL.nil rfl rfl (fun _ => rfl) (fun mm aa ww gg hr hrel => (c80 ww))),
  okp rfl rfl (oqa (L := 7) (lN rfl) zl_25),
  okp rfl rfl (oqS sz_25 rfl rfl rfl rfl rfl (by decide)),
  trivial⟩ ?_
 refine fqK (s' := (kt 1 (.p 7 0) :: kb 7 25 11 :: (.r 1, some (.vec false 2 84 2 (exampleShip.Thrust.flatMap ePt))) :: (.r 3, some (.vec false 4 84 2 (exampleShip.Water.flatMap ePt))) :: (.r 5, some (.vec false 6 84 2 (exampleShip.Ice.flatMap ePt))) :: sK 7 exampleShip (.o 1 2 exampleShip.Thrust.length) (.o 3 4 exampleShip.Water.length) (.o 5 6 exampleShip.Ice.length) [])) ?_ (kp rfl) rfl
 refine fqT ?_
 refine aqS ?_
 refine aqT (rows := [_, _, _, _, _, _, _, _, _, _]) rfl (by kernel_rfl) ⟨
  okp rfl rfl (op_build (x := .g [.i 0, .i 0]) (lN rfl) (EvL.cons rfl (EvL.cons rfl EvL.nil)) (fun m w => by kernel_rfl)),
  okp rfl rfl (op_build (x := .g [.i 3, .i 10]) (lN rfl) (EvL.cons rfl (EvL.cons rfl EvL.nil)) (fun m w => by kernel_rfl)),
  okp rfl rfl (op_buildSlice (L := 8) (ety := 84) (cs := [.i 0, .i 0, .i 3, .i 10]) (lN rfl) (EvL.cons rfl (EvL.cons rfl EvL.nil)) rfl (fun m w => by kernel_rfl)),
  okp rfl rfl (oqC (x := .t [.g [.i ((at_ ([⟨0, 0⟩, ⟨3, 10⟩]) 1).1.1), .i ((at_ ([⟨0, 0⟩, ⟨3, 10⟩]) 1).1.2)], .i ((at_ ([⟨0, 0⟩, ⟨3, 10⟩]) 1).2)]) (fs := []) (caps := []) (extra := (kapp ((.b 8 :: cqK 8 0 (([⟨0, 0⟩, ⟨3, 10⟩] : List Pt).length * 2))) [])) (lN rfl) en_43 rfl ⟨rfl, rfl, rfl⟩ (EvL.cons rfl (EvL.cons rfl EvL.nil)) (fun mm aa ww gg hr hrel => (c43 ([⟨0, 0⟩, ⟨3, 10⟩]) ⟨some ⟨mm 8, 0, none⟩, 2, 2⟩ 1 ww (slAt_own (enc := ePt) (l := [⟨0, 0⟩, ⟨3, 10⟩]) (fun _ => rfl) hrel (fun k hk => hr k (List.mem_append_left _ hk)) rfl ⟨rfl, rfl, rfl, rfl, trivial⟩ (Nat.le_of_ble_eq_true rfl))))),
  okp rfl rfl (oqM (lN rfl) rfl),
  okp rfl rfl (oqx (lN rfl) rfl rfl),
  okp rfl rfl (oqx (lN rfl) rfl rfl),
  okp rfl rfl (oqa (L := 9) (lN rfl) zl_86),
  okp rfl rfl (oqS sz_86 rfl rfl rfl rfl rfl (by decide)),
  okp rfl rfl (oqA (lN rfl) rfl),
  trivial⟩ ?_
 refine fqK (s' := (kt 1 (.p 7 0) :: kt 2 (.p 9 0) :: kt 3 (.i ((at_ ([⟨0, 0⟩, ⟨3, 10⟩]) 1).2)) :: kb 7 25 11 :: kb 9 86 2 :: (.r 1, some (.vec false 2 84 2 (exampleShip.Thrust.flatMap ePt))) :: (.r 3, some (.vec false 4 84 2 (exampleShip.Water.flatMap ePt))) :: (.r 5, some (.vec false 6 84 2 (exampleShip.Ice.flatMap ePt))) :: sK 7 exampleShip (.o 1 2 exampleShip.Thrust.length) (.o 3 4 exampleShip.Water.length) (.o 5 6 exampleShip.Ice.length) [kc 9 0 (.i ((at_ ([⟨0, 0⟩, ⟨3, 10⟩]) 1).1.1)), kc 9 1 (.i ((at_ ([⟨0, 0⟩, ⟨3, 10⟩]) 1).1.2))])) ?_ (kp rfl) rfl
 refine fqT ?_
 refine aqS ?_
 refine aqT (rows := [_, _, _, _, _, _, _, _]) rfl (by kernel_rfl) ⟨
  okp rfl rfl (oqL (ys := [.i exampleShip.Class, .i exampleShip.Power, .i exampleShip.Draught, .i exampleShip.Tonnes, .o 1 2 exampleShip.Thrust.length, .o 3 4 exampleShip.Water.length, .o 5 6 exampleShip.Ice.length, .i exampleShip.Slow, .i exampleShip.Brash, .i exampleShip.Ridge, .i exampleShip.Press]) (lN rfl) sh_25 rfl rfl ⟨rfl, rfl, rfl, rfl, rfl, rfl, rfl, rfl, rfl, rfl, rfl, trivial⟩),
  okp rfl rfl (op_build (x := .g [.i 100, .i 50, .i 0, .i 0]) (lN rfl) (EvL.cons rfl (EvL.cons rfl EvL.nil)) (fun m w => by kernel_rfl)),
  okp rfl rfl (oqC (x := .t [.i ((speedE exampleShip (⟨100, 50, 0, 0⟩) false).1), .i ((speedE exampleShip (⟨100, 50, 0, 0⟩) false).2)]) (fs := []) (caps := []) (extra := (kapp [.r 1] (kapp [.r 3] (kapp [.r 5] [])))) (lN rfl) en_18 rfl ⟨rfl, rfl, rfl⟩ (EvL.cons rfl (EvL.cons rfl (EvL.cons rfl EvL.nil))) (fun mm aa ww gg hr hrel => (c18 exampleShip ⟨ptr0 (mm 1) (mm 2), exampleShip.Thrust.length, mm 2⟩ ⟨ptr0 (mm 3) (mm 4), exampleShip.Water.length, mm 4⟩ ⟨ptr0 (mm 5) (mm 6), exampleShip.Ice.length, mm 6⟩ (⟨100, 50, 0, 0⟩) false ww (sqr (enc := ePt) (l := exampleShip.Thrust) (fun _ => rfl) (by decide) hrel ((hr _ (List.mem_append_left _ (by simp))).trans rfl)) (sqr (enc := ePt) (l := exampleShip.Water) (fun _ => rfl) (by decide) hrel ((hr _ (List.mem_append_right _ (List.mem_append_left _ (by simp)))).trans rfl)) (sqr (enc := ePt) (l := exampleShip.Ice) (fun _ => rfl) (by decide) hrel ((hr _ (List.mem_append_right _ (List.mem_append_right _ (List.mem_append_left _ (by simp))))).trans rfl))))),
  okp rfl rfl (oqM (lN rfl) rfl),
  okp rfl rfl (oqx (lN rfl) rfl rfl),
  okp rfl rfl (oqx (lN rfl) rfl rfl),
  okp rfl rfl (oqA (lN rfl) rfl),
  okp rfl rfl (oqA (lN rfl) rfl),
  trivial⟩ ?_
 refine fqK (s' := (kt 1 (.p 7 0) :: kt 2 (.p 9 0) :: kt 3 (.i ((at_ ([⟨0, 0⟩, ⟨3, 10⟩]) 1).2)) :: kt 4 (.i ((speedE exampleShip (⟨100, 50, 0, 0⟩) false).1)) :: kt 5 (.i ((speedE exampleShip (⟨100, 50, 0, 0⟩) false).2)) :: kb 7 25 11 :: kb 9 86 2 :: (.r 1, some (.vec false 2 84 2 (exampleShip.Thrust.flatMap ePt))) :: (.r 3, some (.vec false 4 84 2 (exampleShip.Water.flatMap ePt))) :: (.r 5, some (.vec false 6 84 2 (exampleShip.Ice.flatMap ePt))) :: sK 7 exampleShip (.o 1 2 exampleShip.Thrust.length) (.o 3 4 exampleShip.Water.length) (.o 5 6 exampleShip.Ice.length) [kc 9 0 (.i ((at_ ([⟨0, 0⟩, ⟨3, 10⟩]) 1).1.1)), kc 9 1 (.i ((at_ ([⟨0, 0⟩, ⟨3, 10⟩]) 1).1.2))])) ?_ (kp rfl) rfl
 refine fqT ?_
 refine aqS ?_
 refine aqT (rows := [_, _, _, _, _, _, _, _]) rfl (by kernel_rfl) ⟨
  okp rfl rfl (oqL (ys := [.i exampleShip.Class, .i exampleShip.Power, .i exampleShip.Draught, .i exampleShip.Tonnes, .o 1 2 exampleShip.Thrust.length, .o 3 4 exampleShip.Water.length, .o 5 6 exampleShip.Ice.length, .i exampleShip.Slow, .i exampleShip.Brash, .i exampleShip.Ridge, .i exampleShip.Press]) (lN rfl) sh_25 rfl rfl ⟨rfl, rfl, rfl, rfl, rfl, rfl, rfl, rfl, rfl, rfl, rfl, trivial⟩),
  okp rfl rfl (op_build (x := .g [.i 100, .i 50, .i 0, .i 0]) (lN rfl) (EvL.cons rfl (EvL.cons rfl EvL.nil)) (fun m w => by kernel_rfl)),
  okp rfl rfl (oqC (x := .t [.i ((speedE exampleShip (⟨100, 50, 0, 0⟩) true).1), .i ((speedE exampleShip (⟨100, 50, 0, 0⟩) true).2)]) (fs := []) (caps := []) (extra := (kapp [.r 1] (kapp [.r 3] (kapp [.r 5] [])))) (lN rfl) en_18 rfl ⟨rfl, rfl, rfl⟩ (EvL.cons rfl (EvL.cons rfl (EvL.cons rfl EvL.nil))) (fun mm aa ww gg hr hrel => (c18 exampleShip ⟨ptr0 (mm 1) (mm 2), exampleShip.Thrust.length, mm 2⟩ ⟨ptr0 (mm 3) (mm 4), exampleShip.Water.length, mm 4⟩ ⟨ptr0 (mm 5) (mm 6), exampleShip.Ice.length, mm 6⟩ (⟨100, 50, 0, 0⟩) true ww (sqr (enc := ePt) (l := exampleShip.Thrust) (fun _ => rfl) (by decide) hrel ((hr _ (List.mem_append_left _ (by simp))).trans rfl)) (sqr (enc := ePt) (l := exampleShip.Water) (fun _ => rfl) (by decide) hrel ((hr _ (List.mem_append_right _ (List.mem_append_left _ (by simp)))).trans rfl)) (sqr (enc := ePt) (l := exampleShip.Ice) (fun _ => rfl) (by decide) hrel ((hr _ (List.mem_append_right _ (List.mem_append_right _ (List.mem_append_left _ (by simp))))).trans rfl))))),
  okp rfl rfl (oqM (lN rfl) rfl),
  okp rfl rfl (oqx (lN rfl) rfl rfl),
  okp rfl rfl (oqx (lN rfl) rfl rfl),
  okp rfl rfl (oqA (lN rfl) rfl),
  okp rfl rfl (oqA (lN rfl) rfl),
  trivial⟩ ?_
 refine fqK (s' := (kt 1 (.p 7 0) :: kt 2 (.p 9 0) :: kt 3 (.i ((at_ ([⟨0, 0⟩, ⟨3, 10⟩]) 1).2)) :: kt 4 (.i ((speedE exampleShip (⟨100, 50, 0, 0⟩) false).1)) :: kt 5 (.i ((speedE exampleShip (⟨100, 50, 0, 0⟩) false).2)) :: kt 6 (.i ((speedE exampleShip (⟨100, 50, 0, 0⟩) true).1)) :: kt 7 (.i ((speedE exampleShip (⟨100, 50, 0, 0⟩) true).2)) :: kb 7 25 11 :: kb 9 86 2 :: (.r 1, some (.vec false 2 84 2 (exampleShip.Thrust.flatMap ePt))) :: (.r 3, some (.vec false 4 84 2 (exampleShip.Water.flatMap ePt))) :: (.r 5, some (.vec false 6 84 2 (exampleShip.Ice.flatMap ePt))) :: sK 7 exampleShip (.o 1 2 exampleShip.Thrust.length) (.o 3 4 exampleShip.Water.length) (.o 5 6 exampleShip.Ice.length) [kc 9 0 (.i ((at_ ([⟨0, 0⟩, ⟨3, 10⟩]) 1).1.1)), kc 9 1 (.i ((at_ ([⟨0, 0⟩, ⟨3, 10⟩]) 1).1.2))])) ?_ (kp rfl) rfl
 refine fqT ?_
 refine aqS ?_
 refine aqT (rows := [_, _, _, _, _, _, _]) rfl (by kernel_rfl) ⟨
  okp rfl rfl (op_build (x := .g [.i 100, .i 60, .i 1, .i 0]) (lN rfl) (EvL.cons rfl (EvL.cons rfl (EvL.cons rfl EvL.nil))) (fun m w => by kernel_rfl)),
  okp rfl rfl (oqC (x := .t [.i ((loadE (⟨100, 60, 1, 0⟩) 135 false).1), .i ((loadE (⟨100, 60, 1, 0⟩) 135 false).2)]) (fs := []) (caps := []) (extra := []) (lN rfl) en_20 rfl ⟨rfl, rfl, rfl⟩ (EvL.cons rfl (EvL.cons rfl (EvL.cons rfl EvL.nil))) (fun mm aa ww gg hr hrel => (c20 (⟨100, 60, 1, 0⟩) 135 false ww))),
  okp rfl rfl (oqM (lN rfl) rfl),
  okp rfl rfl (oqx (lN rfl) rfl rfl),
  okp rfl rfl (oqx (lN rfl) rfl rfl),
  okp rfl rfl (oqA (lN rfl) rfl),
  okp rfl rfl (oqA (lN rfl) rfl),
  trivial⟩ ?_
 refine fqK (s' := (kt 1 (.p 7 0) :: kt 2 (.p 9 0) :: kt 3 (.i ((at_ ([⟨0, 0⟩, ⟨3, 10⟩]) 1).2)) :: kt 4 (.i ((speedE exampleShip (⟨100, 50, 0, 0⟩) false).1)) :: kt 5 (.i ((speedE exampleShip (⟨100, 50, 0, 0⟩) false).2)) :: kt 6 (.i ((speedE exampleShip (⟨100, 50, 0, 0⟩) true).1)) :: kt 7 (.i ((speedE exampleShip (⟨100, 50, 0, 0⟩) true).2)) :: kt 8 (.i ((loadE (⟨100, 60, 1, 0⟩) 135 false).1)) :: kt 9 (.i ((loadE (⟨100, 60, 1, 0⟩) 135 false).2)) :: kb 7 25 11 :: kb 9 86 2 :: (.r 1, some (.vec false 2 84 2 (exampleShip.Thrust.flatMap ePt))) :: (.r 3, some (.vec false 4 84 2 (exampleShip.Water.flatMap ePt))) :: (.r 5, some (.vec false 6 84 2 (exampleShip.Ice.flatMap ePt))) :: sK 7 exampleShip (.o 1 2 exampleShip.Thrust.length) (.o 3 4 exampleShip.Water.length) (.o 5 6 exampleShip.Ice.length) [kc 9 0 (.i ((at_ ([⟨0, 0⟩, ⟨3, 10⟩]) 1).1.1)), kc 9 1 (.i ((at_ ([⟨0, 0⟩, ⟨3, 10⟩]) 1).1.2))])) ?_ (kp rfl) rfl
 refine fqT ?_
 refine aqS ?_
 refine aw_any (rows := [_, _, _, _, _, _, _, _, _, _, _, _, _]) (M := [0, 0, 2, 6, 15, 31, 63, 63, 63, 0, 639, 1791, 4095]) Tryd_mixed (by kernel_rfl) rfl (by kernel_rfl) ⟨
  okp rfl rfl (oqL (ys := [.i exampleShip.Class, .i exampleShip.Power, .i exampleShip.Draught, .i exampleShip.Tonnes, .o 1 2 exampleShip.Thrust.length, .o 3 4 exampleShip.Water.length, .o 5 6 exampleShip.Ice.length, .i exampleShip.Slow, .i exampleShip.Brash, .i exampleShip.Ridge, .i exampleShip.Press]) (lN rfl) sh_25 rfl rfl ⟨rfl, rfl, rfl, rfl, rfl, rfl, rfl, rfl, rfl, rfl, rfl, trivial⟩),
  okp rfl rfl (oqC (x := .g [.i ((((level 40 60)).Conc).Lo), .i ((((level 40 60)).Conc).Hi), .i ((((level 40 60)).Thick).Lo), .i ((((level 40 60)).Thick).Hi), .i ((((level 40 60)).Ridge).Lo), .i ((((level 40 60)).Ridge).Hi), .i ((((level 40 60)).Press).Lo), .i ((((level 40 60)).Press).Hi)]) (fs := []) (caps := []) (extra := []) (lN rfl) en_81 rfl ⟨rfl, rfl, rfl⟩ (EvL.cons rfl (EvL.cons rfl EvL.nil)) (fun mm aa ww gg hr hrel => (c81 40 60 ww))),
  okp rfl rfl (op_build (x := .g [.i ((((level 40 60)).Conc).Lo), .i ((((level 40 60)).Conc).Hi), .i ((((level 40 60)).Thick).Lo), .i ((((level 40 60)).Thick).Hi), .i ((((level 40 60)).Ridge).Lo), .i ((((level 40 60)).Ridge).Hi), .i ((((level 40 60)).Press).Lo), .i ((((level 40 60)).Press).Hi), .B false, .i 100]) (lN rfl) (EvL.cons rfl (EvL.cons rfl EvL.nil)) (fun m w => by kernel_rfl)),
  okp rfl rfl (op_buildSlice (L := 10) (ety := 48) (cs := [.i ((((level 40 60)).Conc).Lo), .i ((((level 40 60)).Conc).Hi), .i ((((level 40 60)).Thick).Lo), .i ((((level 40 60)).Thick).Hi), .i ((((level 40 60)).Ridge).Lo), .i ((((level 40 60)).Ridge).Hi), .i ((((level 40 60)).Press).Lo), .i ((((level 40 60)).Press).Hi), .B false, .i 100]) (lN rfl) (EvL.cons rfl EvL.nil) rfl (fun m w => by kernel_rfl)),
  okp rfl rfl (op_callRowR (L := 11) (C := 12) (own := true) (x := .t [.o 11 12 ((leg exampleShip ([⟨(level 40 60), false, 100⟩])).1.length), .g [.i (((leg exampleShip ([⟨(level 40 60), false, 100⟩])).2.1).Lo), .i (((leg exampleShip ([⟨(level 40 60), false, 100⟩])).2.1).Hi)], .i ((leg exampleShip ([⟨(level 40 60), false, 100⟩])).2.2)]) (R := fun p c => .tuple #[(.slice p ((leg exampleShip ([⟨(level 40 60), false, 100⟩])).1.length) c), .agg #[.int .i64 (((leg exampleShip ([⟨(level 40 60), false, 100⟩])).2.1).Lo), .int .i64 (((leg exampleShip ([⟨(level 40 60), false, 100⟩])).2.1).Hi)], .int .i64 ((leg exampleShip ([⟨(level 40 60), false, 100⟩])).2.2)]) (fs := []) (caps := []) (extra := (kapp [.r 1] (kapp [.r 3] (kapp [.r 5] (kapp ((.b 10 :: cqK 10 0 (([⟨(level 40 60), false, 100⟩] : List Part).length * 10))) []))))) (lN rfl) en_23 rfl ⟨rfl, rfl, rfl⟩ (EvL.cons rfl (EvL.cons rfl EvL.nil)) (by decide) (fun mm p c h => by show (.tuple #[(den mm (.o 11 12 ((leg exampleShip ([⟨(level 40 60), false, 100⟩])).1.length))), .agg #[.int .i64 (((leg exampleShip ([⟨(level 40 60), false, 100⟩])).2.1).Lo), .int .i64 (((leg exampleShip ([⟨(level 40 60), false, 100⟩])).2.1).Hi)], .int .i64 ((leg exampleShip ([⟨(level 40 60), false, 100⟩])).2.2)] : Value) = _; rw [h]) (fun mm aa ww gg hr hrel => (c23 exampleShip ⟨ptr0 (mm 1) (mm 2), exampleShip.Thrust.length, mm 2⟩ ⟨ptr0 (mm 3) (mm 4), exampleShip.Water.length, mm 4⟩ ⟨ptr0 (mm 5) (mm 6), exampleShip.Ice.length, mm 6⟩ ([⟨(level 40 60), false, 100⟩]) ⟨some ⟨mm 10, 0, none⟩, 1, 1⟩ ww (sqr (enc := ePt) (l := exampleShip.Thrust) (fun _ => rfl) (by decide) hrel ((hr _ (List.mem_append_left _ (by simp))).trans rfl)) (sqr (enc := ePt) (l := exampleShip.Water) (fun _ => rfl) (by decide) hrel ((hr _ (List.mem_append_right _ (List.mem_append_left _ (by simp)))).trans rfl)) (sqr (enc := ePt) (l := exampleShip.Ice) (fun _ => rfl) (by decide) hrel ((hr _ (List.mem_append_right _ (List.mem_append_right _ (List.mem_append_left _ (by simp))))).trans rfl)) (slAt_own (enc := encPart) (l := [⟨(level 40 60), false, 100⟩]) (fun _ => rfl) hrel (fun k hk => hr k (List.mem_append_right _ (List.mem_append_right _ (List.mem_append_right _ (List.mem_append_left _ hk))))) rfl ⟨rfl, rfl, rfl, rfl, rfl, rfl, rfl, rfl, rfl, rfl, trivial⟩ (Nat.le_of_ble_eq_true rfl)) (BoxAt.mono hG hrel.below)))),
  okp rfl rfl (oqM (lN rfl) rfl),
  okp rfl rfl (oqx (lN rfl) rfl rfl),
  okp rfl rfl (oqx (lN rfl) rfl rfl),
  okp rfl rfl (oqx (lN rfl) rfl rfl),
  okp rfl rfl (oqa (L := 13) (lN rfl) zl_32),
  okp rfl rfl (oqA (lN rfl) rfl),
  okp rfl rfl (oqS sz_32 rfl rfl rfl rfl rfl (by decide)),
  okp rfl rfl (oqA (lN rfl) rfl),
  trivial⟩ ?_
 refine fqK (s' := (kt 1 (.p 7 0) :: kt 2 (.p 9 0) :: kt 3 (.i ((at_ ([⟨0, 0⟩, ⟨3, 10⟩]) 1).2)) :: kt 4 (.i ((speedE exampleShip (⟨100, 50, 0, 0⟩) false).1)) :: kt 5 (.i ((speedE exampleShip (⟨100, 50, 0, 0⟩) false).2)) :: kt 6 (.i ((speedE exampleShip (⟨100, 50, 0, 0⟩) true).1)) :: kt 7 (.i ((speedE exampleShip (⟨100, 50, 0, 0⟩) true).2)) :: kt 8 (.i ((loadE (⟨100, 60, 1, 0⟩) 135 false).1)) :: kt 9 (.i ((loadE (⟨100, 60, 1, 0⟩) 135 false).2)) :: kt 10 (.o 11 12 ((leg exampleShip ([⟨(level 40 60), false, 100⟩])).1.length)) :: kt 11 (.p 13 0) :: kt 12 (.i ((leg exampleShip ([⟨(level 40 60), false, 100⟩])).2.2)) :: kb 7 25 11 :: kb 9 86 2 :: kb 13 32 2 :: (.r 1, some (.vec false 2 84 2 (exampleShip.Thrust.flatMap ePt))) :: (.r 3, some (.vec false 4 84 2 (exampleShip.Water.flatMap ePt))) :: (.r 5, some (.vec false 6 84 2 (exampleShip.Ice.flatMap ePt))) :: (.r 11, some (.vec true 12 3 1 (((leg exampleShip ([⟨(level 40 60), false, 100⟩])).1).flatMap encInt))) :: sK 7 exampleShip (.o 1 2 exampleShip.Thrust.length) (.o 3 4 exampleShip.Water.length) (.o 5 6 exampleShip.Ice.length) [kc 9 0 (.i ((at_ ([⟨0, 0⟩, ⟨3, 10⟩]) 1).1.1)), kc 9 1 (.i ((at_ ([⟨0, 0⟩, ⟨3, 10⟩]) 1).1.2)), kc 13 0 (.i (((leg exampleShip ([⟨(level 40 60), false, 100⟩])).2.1).Lo)), kc 13 1 (.i (((leg exampleShip ([⟨(level 40 60), false, 100⟩])).2.1).Hi))])) ?_ (kp rfl) rfl
 refine fqT ?_
 refine aqS ?_
 refine aw_any (rows := [_, _, _, _, _, _, _, _, _, _, _, _, _]) (M := [0, 0, 0, 0, 0, 28, 63, 127, 255, 255, 0, 1535, 4095]) Tryd_mixed (by kernel_rfl) rfl (by kernel_rfl) ⟨
  okp rfl rfl (oqL (ys := [.i exampleShip.Class, .i exampleShip.Power, .i exampleShip.Draught, .i exampleShip.Tonnes, .o 1 2 exampleShip.Thrust.length, .o 3 4 exampleShip.Water.length, .o 5 6 exampleShip.Ice.length, .i exampleShip.Slow, .i exampleShip.Brash, .i exampleShip.Ridge, .i exampleShip.Press]) (lN rfl) sh_25 rfl rfl ⟨rfl, rfl, rfl, rfl, rfl, rfl, rfl, rfl, rfl, rfl, rfl, trivial⟩),
  okp rfl rfl (oqC (x := .g [.i ((((level 150 150)).Conc).Lo), .i ((((level 150 150)).Conc).Hi), .i ((((level 150 150)).Thick).Lo), .i ((((level 150 150)).Thick).Hi), .i ((((level 150 150)).Ridge).Lo), .i ((((level 150 150)).Ridge).Hi), .i ((((level 150 150)).Press).Lo), .i ((((level 150 150)).Press).Hi)]) (fs := []) (caps := []) (extra := []) (lN rfl) en_81 rfl ⟨rfl, rfl, rfl⟩ (EvL.cons rfl (EvL.cons rfl EvL.nil)) (fun mm aa ww gg hr hrel => (c81 150 150 ww))),
  okp rfl rfl (op_build (x := .g [.i 3, .i 3]) (lN rfl) (EvL.cons rfl (EvL.cons rfl EvL.nil)) (fun m w => by kernel_rfl)),
  okp rfl rfl (op_build (x := .g [.i 2, .i 3]) (lN rfl) (EvL.cons rfl (EvL.cons rfl EvL.nil)) (fun m w => by kernel_rfl)),
  okp rfl rfl (op_build (x := .g [.i 0, .i 2]) (lN rfl) (EvL.cons rfl (EvL.cons rfl EvL.nil)) (fun m w => by kernel_rfl)),
  okp rfl rfl (op_buildSlice (L := 14) (ety := 32) (cs := [.i 3, .i 3, .i 2, .i 3, .i 0, .i 2]) (lN rfl) (EvL.cons rfl (EvL.cons rfl (EvL.cons rfl EvL.nil))) rfl (fun m w => by kernel_rfl)),
  okp rfl rfl (oqC (x := .t [.g [.i (((free exampleShip ((level 150 150)) ([⟨3, 3⟩, ⟨2, 3⟩, ⟨0, 2⟩])).1).Lo), .i (((free exampleShip ((level 150 150)) ([⟨3, 3⟩, ⟨2, 3⟩, ⟨0, 2⟩])).1).Hi)], .i ((free exampleShip ((level 150 150)) ([⟨3, 3⟩, ⟨2, 3⟩, ⟨0, 2⟩])).2)]) (fs := []) (caps := []) (extra := (kapp [.r 1] (kapp [.r 3] (kapp [.r 5] (kapp ((.b 14 :: cqK 14 0 (([⟨3, 3⟩, ⟨2, 3⟩, ⟨0, 2⟩] : List Span).length * 2))) []))))) (lN rfl) en_35 rfl ⟨rfl, rfl, rfl⟩ (EvL.cons rfl (EvL.cons rfl (EvL.cons rfl EvL.nil))) (fun mm aa ww gg hr hrel => (c35 exampleShip ⟨ptr0 (mm 1) (mm 2), exampleShip.Thrust.length, mm 2⟩ ⟨ptr0 (mm 3) (mm 4), exampleShip.Water.length, mm 4⟩ ⟨ptr0 (mm 5) (mm 6), exampleShip.Ice.length, mm 6⟩ ((level 150 150)) ([⟨3, 3⟩, ⟨2, 3⟩, ⟨0, 2⟩]) ⟨some ⟨mm 14, 0, none⟩, 3, 3⟩ ww (sqr (enc := ePt) (l := exampleShip.Thrust) (fun _ => rfl) (by decide) hrel ((hr _ (List.mem_append_left _ (by simp))).trans rfl)) (sqr (enc := ePt) (l := exampleShip.Water) (fun _ => rfl) (by decide) hrel ((hr _ (List.mem_append_right _ (List.mem_append_left _ (by simp)))).trans rfl)) (sqr (enc := ePt) (l := exampleShip.Ice) (fun _ => rfl) (by decide) hrel ((hr _ (List.mem_append_right _ (List.mem_append_right _ (List.mem_append_left _ (by simp))))).trans rfl)) (slAt_own (enc := eSp) (l := [⟨3, 3⟩, ⟨2, 3⟩, ⟨0, 2⟩]) (fun _ => rfl) hrel (fun k hk => hr k (List.mem_append_right _ (List.mem_append_right _ (List.mem_append_right _ (List.mem_append_left _ hk))))) rfl ⟨rfl, rfl, rfl, rfl, rfl, rfl, trivial⟩ (Nat.le_of_ble_eq_true rfl))))),
  okp rfl rfl (oqM (lN rfl) rfl),
  okp rfl rfl (oqx (lN rfl) rfl rfl),
  okp rfl rfl (oqx (lN rfl) rfl rfl),
  okp rfl rfl (oqa (L := 15) (lN rfl) zl_32),
  okp rfl rfl (oqS sz_32 rfl rfl rfl rfl rfl (by decide)),
  okp rfl rfl (oqA (lN rfl) rfl),
  trivial⟩ ?_
 refine fqK (s' := [kt 2 (.p 9 0), kt 3 (.i ((at_ ([⟨0, 0⟩, ⟨3, 10⟩]) 1).2)), kt 4 (.i ((speedE exampleShip (⟨100, 50, 0, 0⟩) false).1)), kt 5 (.i ((speedE exampleShip (⟨100, 50, 0, 0⟩) false).2)), kt 6 (.i ((speedE exampleShip (⟨100, 50, 0, 0⟩) true).1)), kt 7 (.i ((speedE exampleShip (⟨100, 50, 0, 0⟩) true).2)), kt 8 (.i ((loadE (⟨100, 60, 1, 0⟩) 135 false).1)), kt 9 (.i ((loadE (⟨100, 60, 1, 0⟩) 135 false).2)), kt 10 (.o 11 12 ((leg exampleShip ([⟨(level 40 60), false, 100⟩])).1.length)), kt 11 (.p 13 0), kt 12 (.i ((leg exampleShip ([⟨(level 40 60), false, 100⟩])).2.2)), kt 13 (.p 15 0), kt 14 (.i ((free exampleShip ((level 150 150)) ([⟨3, 3⟩, ⟨2, 3⟩, ⟨0, 2⟩])).2)), kb 9 86 2, kb 13 32 2, kb 15 32 2, (.r 11, some (.vec true 12 3 1 (((leg exampleShip ([⟨(level 40 60), false, 100⟩])).1).flatMap encInt))), kc 9 0 (.i ((at_ ([⟨0, 0⟩, ⟨3, 10⟩]) 1).1.1)), kc 9 1 (.i ((at_ ([⟨0, 0⟩, ⟨3, 10⟩]) 1).1.2)), kc 13 0 (.i (((leg exampleShip ([⟨(level 40 60), false, 100⟩])).2.1).Lo)), kc 13 1 (.i (((leg exampleShip ([⟨(level 40 60), false, 100⟩])).2.1).Hi)), kc 15 0 (.i (((free exampleShip ((level 150 150)) ([⟨3, 3⟩, ⟨2, 3⟩, ⟨0, 2⟩])).1).Lo)), kc 15 1 (.i (((free exampleShip ((level 150 150)) ([⟨3, 3⟩, ⟨2, 3⟩, ⟨0, 2⟩])).1).Hi))]) ?_ (kp rfl) rfl
 refine fqT ?_
 refine aqS ?_
 refine aqT (rows := [_, _, _, _, _, _, _, _, _, _, _, _, _, _, _, _, _, _, _, _, _, _, _, _, _, _, _, _, _, _, _, _, _, _, _, _, _, _, _, _, _, _, _, _, _, _, _, _, _, _, _, _, _, _, _]) rfl (by kernel_rfl) ⟨
  okp rfl rfl (oqM (lN rfl) rfl),
  okp rfl rfl (oqB (r := .bool true) (lN rfl) rfl rfl (by kernel_rfl)),
  okp rfl rfl (oqM (lN rfl) rfl),
  oqy rfl rfl rfl rfl rfl rfl (oqM (lN rfl) rfl),
  oqy rfl rfl rfl rfl rfl rfl (oqB (r := .bool true) (lN rfl) rfl rfl (by kernel_rfl)),
  okp rfl rfl (oqP (lN rfl) rfl rfl),
  okp rfl rfl (oqM (lN rfl) rfl),
  oqy rfl rfl rfl rfl rfl rfl (oqM (lN rfl) rfl),
  oqy rfl rfl rfl rfl rfl rfl (oqB (r := .bool true) (lN rfl) rfl rfl (by kernel_rfl)),
  okp rfl rfl (oqP (lN rfl) rfl rfl),
  okp rfl rfl (oqM (lN rfl) rfl),
  oqy rfl rfl rfl rfl rfl rfl (oqM (lN rfl) rfl),
  oqy rfl rfl rfl rfl rfl rfl (oqB (r := .bool true) (lN rfl) rfl rfl (by kernel_rfl)),
  okp rfl rfl (oqP (lN rfl) rfl rfl),
  okp rfl rfl (oqM (lN rfl) rfl),
  oqy rfl rfl rfl rfl rfl rfl (oqM (lN rfl) rfl),
  oqy rfl rfl rfl rfl rfl rfl (oqB (r := .bool true) (lN rfl) rfl rfl (by kernel_rfl)),
  okp rfl rfl (oqP (lN rfl) rfl rfl),
  okp rfl rfl (oqM (lN rfl) rfl),
  oqy rfl rfl rfl rfl rfl rfl (oqM (lN rfl) rfl),
  oqy rfl rfl rfl rfl rfl rfl (oqB (r := .bool true) (lN rfl) rfl rfl (by kernel_rfl)),
  okp rfl rfl (oqP (lN rfl) rfl rfl),
  okp rfl rfl (oqM (lN rfl) rfl),
  oqy rfl rfl rfl rfl rfl rfl (oqL (ys := [.i ((at_ ([⟨0, 0⟩, ⟨3, 10⟩]) 1).1.1), .i ((at_ ([⟨0, 0⟩, ⟨3, 10⟩]) 1).1.2)]) (lN rfl) sh_86 rfl rfl ⟨rfl, rfl, trivial⟩),
  oqy rfl rfl rfl rfl rfl rfl (op_build (x := .g [.i 10, .i 3]) (lN rfl) (EvL.cons rfl (EvL.cons rfl EvL.nil)) (fun m w => by kernel_rfl)),
  oqy rfl rfl rfl rfl rfl rfl (op_eqv (r := true) (lN rfl) rfl rfl (fun m w => by kernel_rfl)),
  okp rfl rfl (oqP (lN rfl) rfl rfl),
  okp rfl rfl (oqM (lN rfl) rfl),
  oqy rfl rfl rfl rfl rfl rfl (oqM (lN rfl) rfl),
  oqy rfl rfl rfl rfl rfl rfl (oqB (r := .bool true) (lN rfl) rfl rfl (by kernel_rfl)),
  okp rfl rfl (oqP (lN rfl) rfl rfl),
  okp rfl rfl (oqM (lN rfl) rfl),
  oqy rfl rfl rfl rfl rfl rfl (oqM (lN rfl) rfl),
  oqy rfl rfl rfl rfl rfl rfl (oqB (r := .bool true) (lN rfl) rfl rfl (by kernel_rfl)),
  okp rfl rfl (oqP (lN rfl) rfl rfl),
  okp rfl rfl (oqM (lN rfl) rfl),
  oqy rfl rfl rfl rfl rfl rfl (oqM (lN rfl) rfl),
  oqy rfl rfl rfl rfl rfl rfl (oqB (r := .bool true) (lN rfl) rfl rfl (by kernel_rfl)),
  okp rfl rfl (oqP (lN rfl) rfl rfl),
  okp rfl rfl (oqM (lN rfl) rfl),
  oqy rfl rfl rfl rfl rfl rfl (oqM (lN rfl) rfl),
  oqy rfl rfl rfl rfl rfl rfl (op_buildSlice (L := 16) (ety := 3) (cs := [.i 130]) (lN rfl) (EvL.cons rfl EvL.nil) rfl (fun m w => by kernel_rfl)),
  oqy rfl rfl rfl rfl rfl rfl (oqC (x := .B true) (fs := []) (caps := []) (extra := (kapp [.r 11] (kapp ((.b 16 :: cqK 16 0 (([130] : List Int).length * 1))) []))) (lN rfl) en_82 rfl ⟨rfl, rfl, rfl⟩ (EvL.cons rfl (EvL.cons rfl EvL.nil)) (fun mm aa ww gg hr hrel => by have h :=  (c82 ((leg exampleShip ([⟨(level 40 60), false, 100⟩])).1) ⟨ptr0 (mm 11) (mm 12), ((leg exampleShip ([⟨(level 40 60), false, 100⟩])).1.length), mm 12⟩ ([130]) ⟨some ⟨mm 16, 0, none⟩, 1, 1⟩ ww (sqr (enc := encInt) (l := (leg exampleShip ([⟨(level 40 60), false, 100⟩])).1) (fun _ => rfl) (by decide) hrel ((hr _ (List.mem_append_left _ (by simp))).trans rfl)) (slAt_own (enc := encInt) (l := [130]) (fun _ => rfl) hrel (fun k hk => hr k (List.mem_append_right _ (List.mem_append_left _ hk))) rfl ⟨rfl, trivial⟩ (Nat.le_of_ble_eq_true rfl)) (Nat.le_of_ble_eq_true (by kernel_rfl))); rw [show (decide ((leg exampleShip ([⟨(level 40 60), false, 100⟩])).1 = [130])) = true by kernel_rfl] at h; exact h)),
  okp rfl rfl (oqP (lN rfl) rfl rfl),
  okp rfl rfl (oqM (lN rfl) rfl),
  oqy rfl rfl rfl rfl rfl rfl (oqF (lN rfl) rfl fo_32_1),
  oqy rfl rfl rfl rfl rfl rfl (oq1 (lN rfl) sh_3 rfl rfl),
  oqy rfl rfl rfl rfl rfl rfl (oqB (r := .bool true) (lN rfl) rfl rfl (by kernel_rfl)),
  okp rfl rfl (oqP (lN rfl) rfl rfl),
  okp rfl rfl (oqM (lN rfl) rfl),
  oqy rfl rfl rfl rfl rfl rfl (oqL (ys := [.i (((free exampleShip ((level 150 150)) ([⟨3, 3⟩, ⟨2, 3⟩, ⟨0, 2⟩])).1).Lo), .i (((free exampleShip ((level 150 150)) ([⟨3, 3⟩, ⟨2, 3⟩, ⟨0, 2⟩])).1).Hi)]) (lN rfl) sh_32 rfl rfl ⟨rfl, rfl, trivial⟩),
  oqy rfl rfl rfl rfl rfl rfl (op_build (x := .g [.i 1, .i 2]) (lN rfl) (EvL.cons rfl (EvL.cons rfl EvL.nil)) (fun m w => by kernel_rfl)),
  oqy rfl rfl rfl rfl rfl rfl (op_eqv (r := true) (lN rfl) rfl rfl (fun m w => by kernel_rfl)),
  okp rfl rfl (oqP (lN rfl) rfl rfl),
  okp rfl rfl (oqA (lN rfl) rfl),
  trivial⟩ ?_
 refine fqK (s' := [kt 0 (.B true)]) ?_ (kp rfl) rfl
 refine fqT ?_
 refine aqr ?_
 refine pqr (x := .B true) rfl rfl (rqT rfl rqN) rfl (fun mm aa ww hr => ?_)
 show Ending.returned (.bool true) = _ ∧ _
 first
  | exact ⟨rfl, hr.below⟩
end Go.Proofs.T
namespace Go.Proofs.T
open Go Go.AX Go.RowKit Hull
theorem sh_22 : shapeOf Tryd.prog 22 = some none := by kernel_rfl
theorem ss_22 : sliceSz Tryd.prog 22 = some 1 := by kernel_rfl
theorem sh_5 : shapeOf Tryd.prog 5 = some none := by kernel_rfl
theorem us_5 : (Tryd.prog.underlying 5).isSome = true := by kernel_rfl
theorem un_3 : Tryd.prog.underlying 3 = some (.int .i64) := by kernel_rfl
def encU8 (x : Int) : List Value := [(.int .u8 x)]
theorem c83 (n : Int) (i : Int) (k_b : Nat) (l : List Int) (lL_s : SlV) (l_b : Nat) (w : World) (hk_box : w.heap[k_b]? = some (.cells ([.int .i64 i] : List Value).toArray 3 (0, 0))) (hlL : SlIs encU8 1 w lL_s l) (hl_box : BoxAt w l_b [.slice lL_s.p lL_s.n lL_s.c]) (hns_lL : l ≠ [] → ∀ ad, lL_s.p = some ad → ad.block ≠ k_b) (hnb_l : l_b ≠ k_b) (hn : 1 ≤ n ∧ n ≤ 1000000) (hi : 0 ≤ i ∧ i ≤ (l.length : Int)) (h8 : ∀ x ∈ l, 0 ≤ x ∧ x ≤ 255) (hlen : l.length ≤ 9223372036854775807) : Calls Tryd.prog 83 #[.int .i64 n, .pointer (some ⟨k_b, 0, none⟩), .pointer (some ⟨l_b, 0, none⟩)] w fun e w' => e = .returned (.int .i64 ((draw l i n).1)) ∧ Lent w w' k_b 3 [.int .i64 ((draw l i n).2)] := by
 obtain ⟨lL_p, lL_n, lL_c⟩ := lL_s
 have hlL_l : lL_n = l.length := hlL.1
 subst hlL_l
 obtain ⟨lL_b, lL_o, hlL_p, hlL_L⟩ := SlAt.lies' hlL
 refine enterL (args := [.i n, .v (.pointer (some ⟨k_b, 0, none⟩)), .v (.pointer (some ⟨l_b, 0, none⟩))]) Tryd.func83 rfl (N := 19) rfl (Nat.le_of_ble_eq_true rfl) [(1, 900, k_b, 3, [(.int .i64 i)])] ⟨hk_box, rfl, (by simp [loans]), trivial⟩ rfl ?_
 refine aqS ?_
 refine aqT (rows := [_]) rfl (by kernel_rfl) ⟨
  okp rfl rfl (oqA (lN rfl) rfl),
  trivial⟩ ?_
 refine fqK (s' := [kt 0 (.i n), kt 1 (.p 900 0), kt 2 (.v (.pointer (some ⟨l_b, 0, none⟩))), kb 900 3 1, kc 900 0 (.i i)]) ?_ (kp rfl) rfl
 refine fqT ?_
 refine aqS ?_
 refine aqS ?_
 refine aqT (rows := [_, _, _, _]) rfl (by kernel_rfl) ⟨
  okp rfl rfl (oq1 (lN rfl) sh_3 rfl rfl),
  okp rfl rfl (oqW (y := .v (.slice lL_p l.length lL_c)) (lN rfl) rfl (ldCell hl_box.1 (hl_box.2 0 _ rfl) rfl sh_22 (nb := (lent_one hnb_l)))),
  okp rfl rfl (op_len (n := l.length) (lN rfl) (by rw [ss_22]; rfl) rfl rfl),
  okp rfl rfl (oqB (lN rfl) rfl rfl rfl),
  trivial⟩ ?_
 refine fqK (s' := [kt 0 (.i n), kt 1 (.p 900 0), kt 2 (.v (.pointer (some ⟨l_b, 0, none⟩))), kt 8 (.B (decide (i ≥ (((l.length : Nat) : Int))))), kb 900 3 1, kc 900 0 (.i i)]) ?_ (kp rfl) rfl
 refine fqT ?_
 refine aqc rfl (fun hz1 => ?_) (fun hz1 => ?_)
 ·have _z := hz1
  have q2 := of_decide_eq_true hz1
  refine aqS ?_
  refine aqT (rows := [_]) rfl (by kernel_rfl) ⟨
   okp rfl rfl (oqA (lN rfl) rfl),
   trivial⟩ ?_
  refine fqK (s' := [kt 4 (.i 0), kb 900 3 1, kc 900 0 (.i i)]) ?_ (kp rfl) rfl
  refine fqT ?_
  refine aqr ?_
  refine fqR ?_
  refine pqr (x := .i 0) rfl rfl (rqT rfl rqN) rfl (fun mm aa ww hr => ?_)
  show Ending.returned (.int .i64 0) = _ ∧ _
  rw [draw_end (of_decide_eq_true hz1)]
  exact ⟨rfl, lent_end hr rfl rfl ⟨rfl, trivial⟩⟩
 ·have _z := hz1
  have q3 := of_decide_eq_false hz1
  refine aqk ?_
  refine fqT ?_
  refine aqS ?_
  refine aqT (rows := [_, _, _]) rfl (by kernel_rfl) ⟨
   okp rfl rfl (oq1 (lN rfl) sh_3 rfl rfl),
   okp rfl rfl (oqB (lN rfl) rfl rfl (nw_add ⟨(by omega), (by omega)⟩)),
   okp rfl rfl (oqs sz_3 rfl rfl rfl rfl (lN rfl)),
   trivial⟩ ?_
  refine fqK (s' := [kt 0 (.i n), kt 1 (.p 900 0), kt 2 (.v (.pointer (some ⟨l_b, 0, none⟩))), kb 900 3 1, kc 900 0 (.i (i + 1))]) ?_ (kp rfl) rfl
  refine fqT ?_
  refine aqS ?_
  have h255 := h8 (l.getD (i + 1 - 1).toNat 0) (getD_mem (by omega))
  refine aqT (rows := [_, _, _, _, _, _, _, _, _]) rfl (by kernel_rfl) ⟨
   okp rfl rfl (oqW (y := .v (.slice lL_p l.length lL_c)) (lN rfl) rfl (ldCell hl_box.1 (hl_box.2 0 _ rfl) rfl sh_22 (nb := (lent_one hnb_l)))),
   okp rfl rfl (oq1 (lN rfl) sh_3 rfl rfl),
   okp rfl rfl (oqB (lN rfl) rfl rfl (nw_sub ⟨(by omega), (by omega)⟩)),
   okp rfl rfl (op_ixB (lN rfl) rfl rfl ss_22 (hlL_p (ne_of_ix (i := (i + 1) - 1) (by omega) (by omega))) (by omega) (by omega)),
   okp rfl rfl (oqW (y := .v (.int .u8 ((l.getD ((i + 1) - 1).toNat 0)))) (lN rfl) rfl (ld1 (hlL_L (ne_of_ix (i := (i + 1) - 1) (by omega) (by omega))) 0 (i := (i + 1) - 1) (by omega) (by omega) 0 rfl rfl sh_5 (nb := (lent_one (hns_lL (ne_of_ix (i := (i + 1) - 1) (by omega) (by omega)) _ (hlL_p (ne_of_ix (i := (i + 1) - 1) (by omega) (by omega)))))))),
   okp rfl rfl (op_convInt (lN rfl) (Option.isSome_iff_exists.1 us_5) un_3 rfl (wrap_of ⟨(by omega), (by omega)⟩)),
   okp rfl rfl (oqM (lN rfl) rfl),
   okp rfl rfl (op_rem (lN rfl) rfl rfl (by omega) (rem_nn (by omega) (by omega) (by omega))),
   okp rfl rfl (oqA (lN rfl) rfl),
   trivial⟩ ?_
  refine fqK (s' := [kt 4 (.i (((l.getD ((i + 1) - 1).toNat 0)) % n)), kb 900 3 1, kc 900 0 (.i (i + 1))]) ?_ (kp rfl) rfl
  refine fqT ?_
  refine aqr ?_
  refine pqr (x := .i (((l.getD ((i + 1) - 1).toNat 0)) % n)) rfl rfl (rqT rfl rqN) rfl (fun mm aa ww hr => ?_)
  show Ending.returned (.int .i64 (((l.getD ((i + 1) - 1).toNat 0)) % n)) = _ ∧ _
  rw [draw_go (of_decide_eq_false hz1)]
  exact ⟨rfl, lent_end hr rfl rfl ⟨rfl, trivial⟩⟩
end Go.Proofs.T
namespace Go.Proofs.T
open Go Go.AX Go.RowKit Hull
theorem zl_3 : zeroL Tryd.prog 3 = some [(.int .i64 0)] := by kernel_rfl
theorem c22 (l : List Int) (l_s : SlV) (w : World) (hl : SlIs encU8 1 w l_s l) : Calls Tryd.prog 22 #[.slice l_s.p l_s.n l_s.c] w fun e w' => ∃ b1 b2, e = .returned (.func (.func 83) #[] #[.pointer (some ⟨b1, 0, none⟩), .pointer (some ⟨b2, 0, none⟩)]) ∧ TwoNew w w' b1 b2 3 22 [.int .i64 0] [.slice l_s.p l_s.n l_s.c] := by
 obtain ⟨l_p, l_n, l_c⟩ := l_s
 have hl_l : l_n = l.length := hl.1
 subst hl_l
 obtain ⟨l_b, l_o, hl_p, hl_L⟩ := SlAt.lies' hl
 refine enter (args := [.v (.slice l_p l.length l_c)]) Tryd.func22 rfl (N := 5) rfl (Nat.le_of_ble_eq_true rfl) ?_
 refine aqS ?_
 refine aqT (rows := [_, _]) rfl (by kernel_rfl) ⟨
  okp rfl rfl (op_box1 (L := 1) (lN rfl) rfl rfl rfl),
  okp rfl rfl (oqA (lN rfl) rfl),
  trivial⟩ ?_
 refine fqK (s' := [kt 1 (.p 1 0), kb 1 22 1, kc 1 0 (.v (.slice l_p l.length l_c))]) ?_ (kp rfl) rfl
 refine fqT ?_
 refine aqS ?_
 refine aqT (rows := [_, _]) rfl (by kernel_rfl) ⟨
  okp rfl rfl (oqa (L := 2) (lN rfl) zl_3),
  okp rfl rfl (oqs sz_3 rfl rfl rfl rfl (lN rfl)),
  trivial⟩ ?_
 refine fqK (s' := [kt 1 (.p 1 0), kt 3 (.p 2 0), kb 1 22 1, kb 2 3 1, kc 1 0 (.v (.slice l_p l.length l_c)), kc 2 0 (.i 0)]) ?_ (kp rfl) rfl
 refine fqT ?_
 refine aqS ?_
 refine aqT (rows := [_, _]) rfl (by kernel_rfl) ⟨
  okp rfl rfl (op_mkfn (lN rfl) EvL.nil (EvL.cons rfl (EvL.cons rfl EvL.nil))),
  okp rfl rfl (oqA (lN rfl) rfl),
  trivial⟩ ?_
 refine fqK (s' := [kt 2 (.f (.func 83) [] [.p 2 0, .p 1 0]), kb 1 22 1, kb 2 3 1, kc 1 0 (.v (.slice l_p l.length l_c)), kc 2 0 (.i 0)]) ?_ (kp rfl) rfl
 refine fqT ?_
 refine aqr ?_
 refine pqr (x := .f (.func 83) [] [.p 2 0, .p 1 0]) rfl rfl (rqT rfl rqN) rfl (fun mm aa ww hr => ?_)
 exact ⟨mm 2, mm 1, rfl, hr.below, box_hi hr rfl, box_hi hr rfl, box_ne hr rfl rfl (by decide), cells_all hr rfl rfl ⟨rfl, trivial⟩, cells_all hr rfl rfl ⟨rfl, trivial⟩⟩
end Go.Proofs.T
namespace Go.Proofs.T
open Go Go.AX Go.RowKit Hull
theorem c83i (n : Int) (k : Nat) (k_b : Nat) (l : List Int) (lL_s : SlV) (l_b : Nat) (w : World) (hk_box : w.heap[k_b]? = some (.cells ([.int .i64 (idx l k)] : List Value).toArray 3 (0, 0))) (hlL : SlIs encU8 1 w lL_s l) (hl_box : BoxAt w l_b [.slice lL_s.p lL_s.n lL_s.c]) (hns_lL : l ≠ [] → ∀ ad, lL_s.p = some ad → ad.block ≠ k_b) (hnb_l : l_b ≠ k_b) (hn : 1 ≤ n ∧ n ≤ 1000000) (h8 : ∀ x ∈ l, 0 ≤ x ∧ x ≤ 255) (hlen : l.length ≤ 9223372036854775807) : Calls Tryd.prog 83 #[.int .i64 n, .pointer (some ⟨k_b, 0, none⟩), .pointer (some ⟨l_b, 0, none⟩)] w fun e w' => e = .returned (.int .i64 (dv l k n)) ∧ Lent w w' k_b 3 [.int .i64 (idx l (k + 1))] := by
 have h := c83 n (idx l k) k_b l lL_s l_b w hk_box hlL hl_box hns_lL hnb_l hn (idx_bd l k) h8 hlen
 rw [draw_idx] at h
 exact h
end Go.Proofs.T
namespace Go.Proofs.T
open Go Go.AX Go.RowKit Hull
theorem en_22 : Proofs.Enters Tryd.prog 22 := Proofs.enters_of Tryd.func22 (by kernel_rfl) rfl
theorem zl_44 : zeroL Tryd.prog 44 = some [(.nilFunc)] := by kernel_rfl
theorem sz_44 : sizeIn Tryd.prog 44 = some 1 := by kernel_rfl
theorem sh_44 : shapeOf Tryd.prog 44 = some none := by kernel_rfl
theorem en_83 : Proofs.Enters Tryd.prog 83 := Proofs.enters_of Tryd.func83 (by kernel_rfl) rfl
theorem en_74 : Proofs.Enters Tryd.prog 74 := Proofs.enters_of Tryd.func74 (by kernel_rfl) rfl
theorem c83L (n : Int) (k : Nat) (b1 : Nat) (l : List Int) (s : SlV) (b2 : Nat) (w : World) (hb1 : w.heap[b1]? = some (.cells ([.int .i64 (idx l k)] : List Value).toArray 3 (0, 0)))
  (hb2 : w.heap[b2]? = some (.cells ([.slice s.p s.n s.c] : List Value).toArray 22 (0, 0))) (hl : SlIs encU8 1 w s l) (hns1 : l ≠ [] → ∀ ad, s.p = some ad → ad.block ≠ b1) (hne : b2 ≠ b1) (hn : 1 ≤ n ∧ n ≤ 1000000)
  (h8 : ∀ x ∈ l, 0 ≤ x ∧ x ≤ 255) (hlen : l.length ≤ 9223372036854775807) :
  Calls Tryd.prog 83 #[.int .i64 n, .pointer (some ⟨b1, 0, none⟩), .pointer (some ⟨b2, 0, none⟩)] w fun e w' => e = .returned (.int .i64 (dv l k n)) ∧ LentL w w' [(b1, 3, [.int .i64 (idx l (k + 1))]), (b2, 22, [.slice s.p s.n s.c])] := by
 refine (c83i n k b1 l s b2 w hb1 hl (boxAt_heap hb2) hns1 hne hn h8 hlen).mono fun e w' ⟨he, hw⟩ => ⟨he, ?_⟩
 have := hw.toL.more hb2 (by simpa using hne.symm)
 exact ⟨this.os, this.tape, this.output, this.size, fun k h1 h2 => this.block k h1 (fun q hq => h2 q (by simp at hq ⊢; exact hq.symm)), fun q hq => this.it q (by simp at hq ⊢; exact hq.symm)⟩
def m74_0 (_F : Nat) (a0 : Int) (a1 : Int) (a2 : Int) (a3 : Int) (l2_0 : List Int) (n1_0 : Nat) : Option (Span × Nat) :=
 chk ((0 ≤ a3 ∧ a3 ≤ 9223372036854775807) ∧ 0 < a1) (chk (InR ((a3 / a1) + 1)) (chk ((0 ≤ a0 ∧ a0 ≤ 9223372036854775807) ∧ 0 < a1) (chk (InR (((a3 / a1) + 1) - (a0 / a1))) (chk (1 ≤ ((a3 / a1) + 1) - (a0 / a1) ∧ ((a3 / a1) + 1) - (a0 / a1) ≤ 1000000) (chk (InR (a1 * (dv l2_0 n1_0 (((a3 / a1) + 1) - (a0 / a1))))) (chk (InR (a0 + (a1 * (dv l2_0 n1_0 (((a3 / a1) + 1) - (a0 / a1)))))) (chk (1 ≤ a2 ∧ a2 ≤ 1000000) (chk (InR ((a0 + (a1 * (dv l2_0 n1_0 (((a3 / a1) + 1) - (a0 / a1))))) + (dv l2_0 ((n1_0 + 1)) a2))) (some ((⟨a0 + (a1 * (dv l2_0 n1_0 (((a3 / a1) + 1) - (a0 / a1)))), if ((a0 + (a1 * (dv l2_0 n1_0 (((a3 / a1) + 1) - (a0 / a1))))) + (dv l2_0 ((n1_0 + 1)) a2)) < a3 then (a0 + (a1 * (dv l2_0 n1_0 (((a3 / a1) + 1) - (a0 / a1))))) + (dv l2_0 ((n1_0 + 1)) a2) else a3⟩ : Span), ((n1_0 + 1) + 1)))))))))))
theorem c74_0 (F : Nat) (a0 : Int) (a1 : Int) (a2 : Int) (a3 : Int) (b0 : Nat) (b1 : Nat) (b2 : Nat) (l2_0 : List Int) (l2_0_s : SlV) (n1_0 : Nat) (w : World) (hb0 : w.heap[b0]? = some (.cells ([.func (.func 83) #[] #[.pointer (some ⟨b1, 0, none⟩), .pointer (some ⟨b2, 0, none⟩)]] : List Value).toArray 44 (0, 0))) (hb1 : w.heap[b1]? = some (.cells ([.int .i64 (idx l2_0 n1_0)] : List Value).toArray 3 (0, 0))) (hb2 : w.heap[b2]? = some (.cells ([.slice l2_0_s.p l2_0_s.n l2_0_s.c] : List Value).toArray 22 (0, 0))) (hd_0_1 : b1 ≠ b0) (hd_0_2 : b2 ≠ b0) (hd_1_2 : b2 ≠ b1) (hl2_0 : SlIs encU8 1 w l2_0_s l2_0) (h8l2_0 : ∀ x ∈ l2_0, 0 ≤ x ∧ x ≤ 255) (hlenl2_0 : l2_0.length ≤ 9223372036854775807) (hn_l2_0_0 : l2_0 ≠ [] → ∀ ad, l2_0_s.p = some ad → ad.block ≠ b0) (hn_l2_0_1 : l2_0 ≠ [] → ∀ ad, l2_0_s.p = some ad → ad.block ≠ b1) (hn_l2_0_2 : l2_0 ≠ [] → ∀ ad, l2_0_s.p = some ad → ad.block ≠ b2) (r : Span × Nat) (hm : m74_0 F a0 a1 a2 a3 l2_0 n1_0 = some r) : Calls Tryd.prog 74 #[.int .i64 a0, .int .i64 a1, .int .i64 a2, .int .i64 a3, .pointer (some ⟨b0, 0, none⟩)] w fun e w' => e = .returned (.agg #[.int .i64 r.1.Lo, .int .i64 r.1.Hi]) ∧ LentL w w' [(b0, 44, [.func (.func 83) #[] #[.pointer (some ⟨b1, 0, none⟩), .pointer (some ⟨b2, 0, none⟩)]]), (b1, 3, [.int .i64 (idx l2_0 r.2)]), (b2, 22, [.slice l2_0_s.p l2_0_s.n l2_0_s.c])] := by
 obtain ⟨l2_0_p, l2_0_n, l2_0_c⟩ := l2_0_s
 have hl2_0_l : l2_0_n = l2_0.length := hl2_0.1
 subst hl2_0_l
 obtain ⟨l2_0_b, l2_0_o, hl2_0_p, hl2_0_L⟩ := SlAt.lies' hl2_0
 unfold m74_0 at hm
 refine enterG (args := [.i a0, .i a1, .i a2, .i a3, .v (.pointer (some ⟨b0, 0, none⟩))]) Tryd.func74 rfl (N := 36) rfl (Nat.le_of_ble_eq_true rfl) [(900, b0, 44, [.func (.func 83) #[] #[.pointer (some ⟨b1, 0, none⟩), .pointer (some ⟨b2, 0, none⟩)]]), (901, b1, 3, [.int .i64 (idx l2_0 n1_0)]), (902, b2, 22, [(.slice l2_0_p l2_0.length l2_0_c)])] ⟨hb0, (by simp [loans2, hd_0_1, hd_0_2]), ⟨hb1, (by simp [loans2, hd_1_2]), ⟨hb2, (by simp [loans2]), trivial⟩⟩⟩ rfl ?_
 refine aw_rex (k := .t 4) (.p 900 0) rfl (fun m hm => by have h0 := hm ((900, b0) : Nat × Nat) (by simp [loans2]); simp only [den]; rw [h0]) ?_
 refine aw_rex (k := .c 900 0) (.f (.func 83) [] [.p 901 0, .p 902 0]) rfl (fun m hm => by have h0 := hm ((901, b1) : Nat × Nat) (by simp [loans2]); have h1 := hm ((902, b2) : Nat × Nat) (by simp [loans2]); simp only [den, denL]; rw [h0, h1]) ?_
 refine AW.keep (s' := [kt 0 (.i a0), kt 1 (.i a1), kt 2 (.i a2), kt 3 (.i a3), kt 4 (.p 900 0), kb 900 44 1, kb 901 3 1, kb 902 22 1, kc 900 0 (.f (.func 83) [] [.p 901 0, .p 902 0]), kc 901 0 (.i (idx l2_0 n1_0)), kc 902 0 (.v (.slice l2_0_p l2_0.length l2_0_c))]) ?_ (kp rfl) rfl
 refine aqS ?_
 refine aqT (rows := [_]) rfl (by kernel_rfl) ⟨
  okp rfl rfl (oqa (L := 1) (lN rfl) zl_32),
  trivial⟩ ?_
 refine fqK (s' := [kt 0 (.i a0), kt 1 (.i a1), kt 2 (.i a2), kt 3 (.i a3), kt 4 (.p 900 0), kt 9 (.p 1 0), kb 1 32 2, kb 900 44 1, kb 901 3 1, kb 902 22 1, kc 1 0 (.i 0), kc 1 1 (.i 0), kc 900 0 (.f (.func 83) [] [.p 901 0, .p 902 0]), kc 901 0 (.i (idx l2_0 n1_0)), kc 902 0 (.v (.slice l2_0_p l2_0.length l2_0_c))]) ?_ (kp rfl) rfl
 refine fqT ?_
 refine aqS ?_
 obtain ⟨hp1, hm⟩ := chk_some hm
 obtain ⟨hp2, hm⟩ := chk_some hm
 obtain ⟨hp3, hm⟩ := chk_some hm
 obtain ⟨hp4, hm⟩ := chk_some hm
 obtain ⟨hp5, hm⟩ := chk_some hm
 obtain ⟨hp6, hm⟩ := chk_some hm
 obtain ⟨hp7, hm⟩ := chk_some hm
 refine aw_any (rows := [_, _, _, _, _, _, _, _, _, _, _, _, _, _, _, _, _]) (M := [0, 0, 0, 0, 0, 24, 56, 0, 0, 384, 1016, 2044, 4094, 8191, 16383, 0, 65535]) Tryd_mixed (by kernel_rfl) rfl (by kernel_rfl) ⟨
  okp rfl rfl (oqM (lN rfl) rfl),
  okp rfl rfl (oqM (lN rfl) rfl),
  okp rfl rfl (oq1 (lN rfl) sh_44 rfl rfl),
  okp rfl rfl (oqM (lN rfl) rfl),
  okp rfl rfl (oqM (lN rfl) rfl),
  okp rfl rfl (op_quo (lN rfl) rfl rfl (Int.ne_of_gt hp1.2) (quo_nn hp1.1.1 hp1.2 hp1.1.2)),
  okp rfl rfl (oqB (lN rfl) rfl rfl (nw_add hp2)),
  okp rfl rfl (oqM (lN rfl) rfl),
  okp rfl rfl (oqM (lN rfl) rfl),
  okp rfl rfl (op_quo (lN rfl) rfl rfl (Int.ne_of_gt hp3.2) (quo_nn hp3.1.1 hp3.2 hp3.1.2)),
  okp rfl rfl (oqB (lN rfl) rfl rfl (nw_sub hp4)),
  okp rfl rfl (op_callLentL (ls := [⟨901, 3, [.i (idx l2_0 n1_0)], [.i (idx l2_0 (n1_0 + 1))]⟩, ⟨902, 22, [.v (.slice l2_0_p l2_0.length l2_0_c)], [.v (.slice l2_0_p l2_0.length l2_0_c)]⟩]) (x := .i (dv l2_0 n1_0 (((a3 / a1) + 1) - (a0 / a1)))) (fs := []) (caps := [.p 901 0, .p 902 0]) (extra := []) (lN rfl) en_83 rfl ⟨rfl, rfl, rfl⟩ (EvL.cons rfl EvL.nil) ⟨rfl, ⟨rfl, trivial⟩, rfl, lb_ne rfl, ⟨rfl, ⟨rfl, trivial⟩, rfl, lb_ne rfl, trivial⟩⟩ (fun mm aa ww gg hr hrel hbx hlo => c83L (((a3 / a1) + 1) - (a0 / a1)) n1_0 (mm 901) l2_0 ⟨l2_0_p, l2_0.length, l2_0_c⟩ (mm 902) ww (hbx _ (.head _)) (hbx _ (.tail _ (.head _))) (SlIs.kept hl2_0 hrel (fun hl ad h => (lent_cons (hn_l2_0_0 hl ad h) (lent_cons (hn_l2_0_1 hl ad h) (lent_cons (hn_l2_0_2 hl ad h) lent_nil))))) (fun hl ad h => by rw [(hrel.fix 901 b1 (by simp [loans2])).1]; exact hn_l2_0_1 hl ad h) (box_ne hrel hlo.2.2.2.2.1 hlo.1 (by decide)) hp5 h8l2_0 hlenl2_0)),
  okp rfl rfl (oqB (lN rfl) rfl rfl (nw_mul hp6)),
  okp rfl rfl (oqB (lN rfl) rfl rfl (nw_add hp7)),
  okp rfl rfl (op_build (x := .g [.i (a0 + (a1 * (dv l2_0 n1_0 (((a3 / a1) + 1) - (a0 / a1))))), .i 0]) (lN rfl) (EvL.cons rfl EvL.nil) (fun m w => by kernel_rfl)),
  okp rfl rfl (oqa (L := 2) (lN rfl) zl_32),
  okp rfl rfl (oqS sz_32 rfl rfl rfl rfl rfl (by decide)),
  trivial⟩ ?_
 refine fqK (s' := [kt 2 (.i a2), kt 3 (.i a3), kt 4 (.p 900 0), kt 9 (.p 1 0), kt 10 (.p 2 0), kb 1 32 2, kb 2 32 2, kb 900 44 1, kb 901 3 1, kb 902 22 1, kc 1 0 (.i 0), kc 1 1 (.i 0), kc 2 0 (.i (a0 + (a1 * (dv l2_0 n1_0 (((a3 / a1) + 1) - (a0 / a1)))))), kc 2 1 (.i 0), kc 900 0 (.f (.func 83) [] [.p 901 0, .p 902 0]), kc 901 0 (.i (idx l2_0 (n1_0 + 1))), kc 902 0 (.v (.slice l2_0_p l2_0.length l2_0_c))]) ?_ (kp rfl) rfl
 refine fqT ?_
 refine aqS ?_
 obtain ⟨hp8, hm⟩ := chk_some hm
 obtain ⟨hp9, hm⟩ := chk_some hm
 refine aw_any (rows := [_, _, _, _, _, _, _, _, _, _]) (M := [0, 0, 2, 0, 0, 24, 62, 127, 255, 511]) Tryd_mixed (by kernel_rfl) rfl (by kernel_rfl) ⟨
  okp rfl rfl (oqM (lN rfl) rfl),
  okp rfl rfl (oqF (lN rfl) rfl fo_32_0),
  okp rfl rfl (oq1 (lN rfl) sh_3 rfl rfl),
  okp rfl rfl (oq1 (lN rfl) sh_44 rfl rfl),
  okp rfl rfl (oqM (lN rfl) rfl),
  okp rfl rfl (op_callLentL (ls := [⟨901, 3, [.i (idx l2_0 (n1_0 + 1))], [.i (idx l2_0 ((n1_0 + 1) + 1))]⟩, ⟨902, 22, [.v (.slice l2_0_p l2_0.length l2_0_c)], [.v (.slice l2_0_p l2_0.length l2_0_c)]⟩]) (x := .i (dv l2_0 ((n1_0 + 1)) a2)) (fs := []) (caps := [.p 901 0, .p 902 0]) (extra := []) (lN rfl) en_83 rfl ⟨rfl, rfl, rfl⟩ (EvL.cons rfl EvL.nil) ⟨rfl, ⟨rfl, trivial⟩, rfl, lb_ne rfl, ⟨rfl, ⟨rfl, trivial⟩, rfl, lb_ne rfl, trivial⟩⟩ (fun mm aa ww gg hr hrel hbx hlo => c83L a2 ((n1_0 + 1)) (mm 901) l2_0 ⟨l2_0_p, l2_0.length, l2_0_c⟩ (mm 902) ww (hbx _ (.head _)) (hbx _ (.tail _ (.head _))) (SlIs.kept hl2_0 hrel (fun hl ad h => (lent_cons (hn_l2_0_0 hl ad h) (lent_cons (hn_l2_0_1 hl ad h) (lent_cons (hn_l2_0_2 hl ad h) lent_nil))))) (fun hl ad h => by rw [(hrel.fix 901 b1 (by simp [loans2])).1]; exact hn_l2_0_1 hl ad h) (box_ne hrel hlo.2.2.2.2.1 hlo.1 (by decide)) hp8 h8l2_0 hlenl2_0)),
  okp rfl rfl (oqB (lN rfl) rfl rfl (nw_add hp9)),
  okp rfl rfl (op_min (lN rfl) rfl rfl),
  okp rfl rfl (oqF (lN rfl) rfl fo_32_1),
  okp rfl rfl (oqs sz_3 rfl rfl rfl rfl (lN rfl)),
  trivial⟩ ?_
 refine fqK (s' := [kt 9 (.p 1 0), kt 10 (.p 2 0), kb 1 32 2, kb 2 32 2, kb 900 44 1, kb 901 3 1, kb 902 22 1, kc 1 0 (.i 0), kc 1 1 (.i 0), kc 2 0 (.i (a0 + (a1 * (dv l2_0 n1_0 (((a3 / a1) + 1) - (a0 / a1)))))), kc 2 1 (.i (if ((a0 + (a1 * (dv l2_0 n1_0 (((a3 / a1) + 1) - (a0 / a1))))) + (dv l2_0 ((n1_0 + 1)) a2)) < a3 then (a0 + (a1 * (dv l2_0 n1_0 (((a3 / a1) + 1) - (a0 / a1))))) + (dv l2_0 ((n1_0 + 1)) a2) else a3)), kc 900 0 (.f (.func 83) [] [.p 901 0, .p 902 0]), kc 901 0 (.i (idx l2_0 ((n1_0 + 1) + 1))), kc 902 0 (.v (.slice l2_0_p l2_0.length l2_0_c))]) ?_ (kp rfl) rfl
 refine fqT ?_
 refine aqS ?_
 refine aqT (rows := [_, _]) rfl (by kernel_rfl) ⟨
  okp rfl rfl (oqL (ys := [.i (a0 + (a1 * (dv l2_0 n1_0 (((a3 / a1) + 1) - (a0 / a1))))), .i (if ((a0 + (a1 * (dv l2_0 n1_0 (((a3 / a1) + 1) - (a0 / a1))))) + (dv l2_0 ((n1_0 + 1)) a2)) < a3 then (a0 + (a1 * (dv l2_0 n1_0 (((a3 / a1) + 1) - (a0 / a1))))) + (dv l2_0 ((n1_0 + 1)) a2) else a3)]) (lN rfl) sh_32 rfl rfl ⟨rfl, rfl, trivial⟩),
  okp rfl rfl (oqS sz_32 rfl rfl rfl rfl rfl (by decide)),
  trivial⟩ ?_
 refine fqK (s' := [kt 9 (.p 1 0), kb 1 32 2, kb 900 44 1, kb 901 3 1, kb 902 22 1, kc 1 0 (.i (a0 + (a1 * (dv l2_0 n1_0 (((a3 / a1) + 1) - (a0 / a1)))))), kc 1 1 (.i (if ((a0 + (a1 * (dv l2_0 n1_0 (((a3 / a1) + 1) - (a0 / a1))))) + (dv l2_0 ((n1_0 + 1)) a2)) < a3 then (a0 + (a1 * (dv l2_0 n1_0 (((a3 / a1) + 1) - (a0 / a1))))) + (dv l2_0 ((n1_0 + 1)) a2) else a3)), kc 900 0 (.f (.func 83) [] [.p 901 0, .p 902 0]), kc 901 0 (.i (idx l2_0 ((n1_0 + 1) + 1))), kc 902 0 (.v (.slice l2_0_p l2_0.length l2_0_c))]) ?_ (kp rfl) rfl
 refine fqT ?_
 refine aqr ?_
 refine pqr (x := .g [.i (a0 + (a1 * (dv l2_0 n1_0 (((a3 / a1) + 1) - (a0 / a1))))), .i (if ((a0 + (a1 * (dv l2_0 n1_0 (((a3 / a1) + 1) - (a0 / a1))))) + (dv l2_0 ((n1_0 + 1)) a2)) < a3 then (a0 + (a1 * (dv l2_0 n1_0 (((a3 / a1) + 1) - (a0 / a1))))) + (dv l2_0 ((n1_0 + 1)) a2) else a3)]) rfl rfl (rqC (ys := [.i (a0 + (a1 * (dv l2_0 n1_0 (((a3 / a1) + 1) - (a0 / a1))))), .i (if ((a0 + (a1 * (dv l2_0 n1_0 (((a3 / a1) + 1) - (a0 / a1))))) + (dv l2_0 ((n1_0 + 1)) a2)) < a3 then (a0 + (a1 * (dv l2_0 n1_0 (((a3 / a1) + 1) - (a0 / a1))))) + (dv l2_0 ((n1_0 + 1)) a2) else a3)]) rfl sh_32 rfl ⟨rfl, rfl, trivial⟩ rqN) rfl (fun mm aa ww hr => ?_)
 have hm := Option.some.inj hm
 subst hm
 have hr := hr.rex (k0 := .c 900 0) (x := .v (.func (.func 83) #[] #[.pointer (some ⟨b1, 0, none⟩), .pointer (some ⟨b2, 0, none⟩)])) rfl (by simp only [den, denL]; rw [(hr.fix 901 b1 (by simp [loans2])).1, (hr.fix 902 b2 (by simp [loans2])).1])
 exact ⟨rfl, lentL_end hr [(900, b0, 44, [.func (.func 83) #[] #[.pointer (some ⟨b1, 0, none⟩), .pointer (some ⟨b2, 0, none⟩)]]), (901, b1, 3, [(.int .i64 (idx l2_0 ((n1_0 + 1) + 1)))]), (902, b2, 22, [(.slice l2_0_p l2_0.length l2_0_c)])] rfl ⟨rfl, ⟨rfl, trivial⟩, ⟨rfl, ⟨rfl, trivial⟩, ⟨rfl, ⟨rfl, trivial⟩, trivial⟩⟩⟩⟩
def m17 (F : Nat) (a0 : List Int) : Option (Cell) :=
 bnd (m74_0 F 0 1 40 100 a0 0) (fun v1 => bnd (m74_0 F 0 2 120 400 a0 v1.2) (fun v2 => bnd (m74_0 F 0 1 20 100 a0 v2.2) (fun v3 => bnd (m74_0 F 0 1 4 3 a0 v3.2) (fun v4 => some ((⟨v1.1, v2.1, v3.1, v4.1⟩ : Cell))))))
theorem c17 (F : Nat) (a0 : List Int) (a0_s : SlV) (w : World) (ha0 : SlIs encU8 1 w a0_s a0) (h8a0 : ∀ x ∈ a0, 0 ≤ x ∧ x ≤ 255) (hlena0 : a0.length ≤ 9223372036854775807) (r : Cell) (hm : m17 F a0 = some r) : Calls Tryd.prog 17 #[.slice a0_s.p a0_s.n a0_s.c] w fun e w' => e = .returned (.agg #[.int .i64 r.Conc.Lo, .int .i64 r.Conc.Hi, .int .i64 r.Thick.Lo, .int .i64 r.Thick.Hi, .int .i64 r.Ridge.Lo, .int .i64 r.Ridge.Hi, .int .i64 r.Press.Lo, .int .i64 r.Press.Hi]) ∧ Below w.heap.size w w' := by
 obtain ⟨a0_p, a0_n, a0_c⟩ := a0_s
 have ha0_l : a0_n = a0.length := ha0.1
 subst ha0_l
 obtain ⟨a0_b, a0_o, ha0_p, ha0_L⟩ := SlAt.lies' ha0
 unfold m17 at hm
 refine enter (args := [.v (.slice a0_p a0.length a0_c)]) Tryd.func17 rfl (N := 17) rfl (Nat.le_of_ble_eq_true rfl) ?_
 refine aqS ?_
 refine aqT (rows := [_]) rfl (by kernel_rfl) ⟨
  okp rfl rfl (oqa (L := 1) (lN rfl) zl_34),
  trivial⟩ ?_
 refine fqK (s' := [kt 0 (.v (.slice a0_p a0.length a0_c)), kt 2 (.p 1 0), kb 1 34 8, kc 1 0 (.i 0), kc 1 1 (.i 0), kc 1 2 (.i 0), kc 1 3 (.i 0), kc 1 4 (.i 0), kc 1 5 (.i 0), kc 1 6 (.i 0), kc 1 7 (.i 0)]) ?_ (kp rfl) rfl
 refine fqT ?_
 refine aqS ?_
 refine aqT (rows := [_, _, _, _]) rfl (by kernel_rfl) ⟨
  okp rfl rfl (oqM (lN rfl) rfl),
  okp rfl rfl (op_callTwo (L1 := 2) (L2 := 3) (ty1 := 3) (ty2 := 22) (v1 := [.int .i64 (idx a0 0)]) (v2 := [(.slice a0_p a0.length a0_c)]) (R := fun b1 b2 => .func (.func 83) #[] #[.pointer (some ⟨b1, 0, none⟩), .pointer (some ⟨b2, 0, none⟩)]) (x := .f (.func 83) [] [.p 2 0, .p 3 0]) (fs := []) (caps := []) (extra := []) (lN rfl) en_22 rfl ⟨rfl, rfl, rfl⟩ (EvL.cons rfl EvL.nil) (by decide) (fun _ => rfl) (fun mm aa ww gg hr hrel => (c22 a0 ⟨a0_p, a0.length, a0_c⟩ ww (SlIs.mono ha0 hrel.below)))),
  okp rfl rfl (oqa (L := 4) (lN rfl) zl_44),
  okp rfl rfl (oqs sz_44 rfl rfl rfl rfl (lN rfl)),
  trivial⟩ ?_
 refine fqK (s' := [kt 2 (.p 1 0), kt 3 (.p 4 0), kb 1 34 8, kb 2 3 1, kb 3 22 1, kb 4 44 1, kc 1 0 (.i 0), kc 1 1 (.i 0), kc 1 2 (.i 0), kc 1 3 (.i 0), kc 1 4 (.i 0), kc 1 5 (.i 0), kc 1 6 (.i 0), kc 1 7 (.i 0), kc 2 0 (.i (idx a0 0)), kc 3 0 (.v (.slice a0_p a0.length a0_c)), kc 4 0 (.f (.func 83) [] [.p 2 0, .p 3 0])]) ?_ (kp rfl) rfl
 refine fqT ?_
 refine aqS ?_
 refine aqT (rows := [_, _]) rfl (by kernel_rfl) ⟨
  okp rfl rfl (op_mkfn (lN rfl) EvL.nil (EvL.cons rfl EvL.nil)),
  okp rfl rfl (oqA (lN rfl) rfl),
  trivial⟩ ?_
 refine fqK (s' := [kt 2 (.p 1 0), kt 4 (.f (.func 74) [] [.p 4 0]), kb 1 34 8, kb 2 3 1, kb 3 22 1, kb 4 44 1, kc 1 0 (.i 0), kc 1 1 (.i 0), kc 1 2 (.i 0), kc 1 3 (.i 0), kc 1 4 (.i 0), kc 1 5 (.i 0), kc 1 6 (.i 0), kc 1 7 (.i 0), kc 2 0 (.i (idx a0 0)), kc 3 0 (.v (.slice a0_p a0.length a0_c)), kc 4 0 (.f (.func 83) [] [.p 2 0, .p 3 0])]) ?_ (kp rfl) rfl
 refine fqT ?_
 refine aqS ?_
 obtain ⟨v1, hv1, hm⟩ := bnd_some hm
 obtain ⟨v2, hv2, hm⟩ := bnd_some hm
 obtain ⟨v3, hv3, hm⟩ := bnd_some hm
 obtain ⟨v4, hv4, hm⟩ := bnd_some hm
 refine aqT (rows := [_, _, _, _, _, _, _, _, _, _]) rfl (by kernel_rfl) ⟨
  okp rfl rfl (oqM (lN rfl) rfl),
  okp rfl rfl (op_callLentL (ls := [⟨4, 44, [.f (.func 83) [] [.p 2 0, .p 3 0]], [.f (.func 83) [] [.p 2 0, .p 3 0]]⟩, ⟨2, 3, [.i (idx a0 0)], [.i (idx a0 v1.2)]⟩, ⟨3, 22, [.v (.slice a0_p a0.length a0_c)], [.v (.slice a0_p a0.length a0_c)]⟩]) (x := .g [.i v1.1.Lo, .i v1.1.Hi]) (fs := []) (caps := [.p 4 0]) (extra := []) (lN rfl) en_74 rfl ⟨rfl, rfl, rfl⟩ (EvL.cons rfl (EvL.cons rfl (EvL.cons rfl (EvL.cons rfl EvL.nil)))) ⟨rfl, ⟨rfl, trivial⟩, rfl, lb_ne rfl, ⟨rfl, ⟨rfl, trivial⟩, rfl, lb_ne rfl, ⟨rfl, ⟨rfl, trivial⟩, rfl, lb_ne rfl, trivial⟩⟩⟩ (fun mm aa ww gg hr hrel hbx hlo => (c74_0 F 0 1 40 100 (mm 4) (mm 2) (mm 3) a0 ⟨a0_p, a0.length, a0_c⟩ 0 ww (hbx _ (.head _)) (hbx _ (.tail _ (.head _))) (hbx _ (.tail _ (.tail _ (.head _)))) (box_ne hrel hlo.2.2.2.2.1 hlo.1 (by decide)) (box_ne hrel hlo.2.2.2.2.2.2.2.2.1 hlo.1 (by decide)) (box_ne hrel hlo.2.2.2.2.2.2.2.2.1 hlo.2.2.2.2.1 (by decide)) (SlIs.mono ha0 hrel.below) h8a0 hlena0 (sl_ne ha0 (box_hi hrel hlo.1)) (sl_ne ha0 (box_hi hrel hlo.2.2.2.2.1)) (sl_ne ha0 (box_hi hrel hlo.2.2.2.2.2.2.2.2.1)) v1 hv1))),
  okp rfl rfl (oqM (lN rfl) rfl),
  okp rfl rfl (op_callLentL (ls := [⟨4, 44, [.f (.func 83) [] [.p 2 0, .p 3 0]], [.f (.func 83) [] [.p 2 0, .p 3 0]]⟩, ⟨2, 3, [.i (idx a0 v1.2)], [.i (idx a0 v2.2)]⟩, ⟨3, 22, [.v (.slice a0_p a0.length a0_c)], [.v (.slice a0_p a0.length a0_c)]⟩]) (x := .g [.i v2.1.Lo, .i v2.1.Hi]) (fs := []) (caps := [.p 4 0]) (extra := []) (lN rfl) en_74 rfl ⟨rfl, rfl, rfl⟩ (EvL.cons rfl (EvL.cons rfl (EvL.cons rfl (EvL.cons rfl EvL.nil)))) ⟨rfl, ⟨rfl, trivial⟩, rfl, lb_ne rfl, ⟨rfl, ⟨rfl, trivial⟩, rfl, lb_ne rfl, ⟨rfl, ⟨rfl, trivial⟩, rfl, lb_ne rfl, trivial⟩⟩⟩ (fun mm aa ww gg hr hrel hbx hlo => (c74_0 F 0 2 120 400 (mm 4) (mm 2) (mm 3) a0 ⟨a0_p, a0.length, a0_c⟩ v1.2 ww (hbx _ (.head _)) (hbx _ (.tail _ (.head _))) (hbx _ (.tail _ (.tail _ (.head _)))) (box_ne hrel hlo.2.2.2.2.1 hlo.1 (by decide)) (box_ne hrel hlo.2.2.2.2.2.2.2.2.1 hlo.1 (by decide)) (box_ne hrel hlo.2.2.2.2.2.2.2.2.1 hlo.2.2.2.2.1 (by decide)) (SlIs.mono ha0 hrel.below) h8a0 hlena0 (sl_ne ha0 (box_hi hrel hlo.1)) (sl_ne ha0 (box_hi hrel hlo.2.2.2.2.1)) (sl_ne ha0 (box_hi hrel hlo.2.2.2.2.2.2.2.2.1)) v2 hv2))),
  okp rfl rfl (oqM (lN rfl) rfl),
  okp rfl rfl (op_callLentL (ls := [⟨4, 44, [.f (.func 83) [] [.p 2 0, .p 3 0]], [.f (.func 83) [] [.p 2 0, .p 3 0]]⟩, ⟨2, 3, [.i (idx a0 v2.2)], [.i (idx a0 v3.2)]⟩, ⟨3, 22, [.v (.slice a0_p a0.length a0_c)], [.v (.slice a0_p a0.length a0_c)]⟩]) (x := .g [.i v3.1.Lo, .i v3.1.Hi]) (fs := []) (caps := [.p 4 0]) (extra := []) (lN rfl) en_74 rfl ⟨rfl, rfl, rfl⟩ (EvL.cons rfl (EvL.cons rfl (EvL.cons rfl (EvL.cons rfl EvL.nil)))) ⟨rfl, ⟨rfl, trivial⟩, rfl, lb_ne rfl, ⟨rfl, ⟨rfl, trivial⟩, rfl, lb_ne rfl, ⟨rfl, ⟨rfl, trivial⟩, rfl, lb_ne rfl, trivial⟩⟩⟩ (fun mm aa ww gg hr hrel hbx hlo => (c74_0 F 0 1 20 100 (mm 4) (mm 2) (mm 3) a0 ⟨a0_p, a0.length, a0_c⟩ v2.2 ww (hbx _ (.head _)) (hbx _ (.tail _ (.head _))) (hbx _ (.tail _ (.tail _ (.head _)))) (box_ne hrel hlo.2.2.2.2.1 hlo.1 (by decide)) (box_ne hrel hlo.2.2.2.2.2.2.2.2.1 hlo.1 (by decide)) (box_ne hrel hlo.2.2.2.2.2.2.2.2.1 hlo.2.2.2.2.1 (by decide)) (SlIs.mono ha0 hrel.below) h8a0 hlena0 (sl_ne ha0 (box_hi hrel hlo.1)) (sl_ne ha0 (box_hi hrel hlo.2.2.2.2.1)) (sl_ne ha0 (box_hi hrel hlo.2.2.2.2.2.2.2.2.1)) v3 hv3))),
  okp rfl rfl (oqM (lN rfl) rfl),
  okp rfl rfl (op_callLentL (ls := [⟨4, 44, [.f (.func 83) [] [.p 2 0, .p 3 0]], [.f (.func 83) [] [.p 2 0, .p 3 0]]⟩, ⟨2, 3, [.i (idx a0 v3.2)], [.i (idx a0 v4.2)]⟩, ⟨3, 22, [.v (.slice a0_p a0.length a0_c)], [.v (.slice a0_p a0.length a0_c)]⟩]) (x := .g [.i v4.1.Lo, .i v4.1.Hi]) (fs := []) (caps := [.p 4 0]) (extra := []) (lN rfl) en_74 rfl ⟨rfl, rfl, rfl⟩ (EvL.cons rfl (EvL.cons rfl (EvL.cons rfl (EvL.cons rfl EvL.nil)))) ⟨rfl, ⟨rfl, trivial⟩, rfl, lb_ne rfl, ⟨rfl, ⟨rfl, trivial⟩, rfl, lb_ne rfl, ⟨rfl, ⟨rfl, trivial⟩, rfl, lb_ne rfl, trivial⟩⟩⟩ (fun mm aa ww gg hr hrel hbx hlo => (c74_0 F 0 1 4 3 (mm 4) (mm 2) (mm 3) a0 ⟨a0_p, a0.length, a0_c⟩ v3.2 ww (hbx _ (.head _)) (hbx _ (.tail _ (.head _))) (hbx _ (.tail _ (.tail _ (.head _)))) (box_ne hrel hlo.2.2.2.2.1 hlo.1 (by decide)) (box_ne hrel hlo.2.2.2.2.2.2.2.2.1 hlo.1 (by decide)) (box_ne hrel hlo.2.2.2.2.2.2.2.2.1 hlo.2.2.2.2.1 (by decide)) (SlIs.mono ha0 hrel.below) h8a0 hlena0 (sl_ne ha0 (box_hi hrel hlo.1)) (sl_ne ha0 (box_hi hrel hlo.2.2.2.2.1)) (sl_ne ha0 (box_hi hrel hlo.2.2.2.2.2.2.2.2.1)) v4 hv4))),
  okp rfl rfl (op_build (x := .g [.i v1.1.Lo, .i v1.1.Hi, .i v2.1.Lo, .i v2.1.Hi, .i v3.1.Lo, .i v3.1.Hi, .i v4.1.Lo, .i v4.1.Hi]) (lN rfl) (EvL.cons rfl (EvL.cons rfl (EvL.cons rfl (EvL.cons rfl EvL.nil)))) (fun m w => by kernel_rfl)),
  okp rfl rfl (oqS sz_34 rfl rfl rfl rfl rfl (by decide)),
  trivial⟩ ?_
 refine fqK (s' := [kt 2 (.p 1 0), kb 1 34 8, kc 1 0 (.i v1.1.Lo), kc 1 1 (.i v1.1.Hi), kc 1 2 (.i v2.1.Lo), kc 1 3 (.i v2.1.Hi), kc 1 4 (.i v3.1.Lo), kc 1 5 (.i v3.1.Hi), kc 1 6 (.i v4.1.Lo), kc 1 7 (.i v4.1.Hi)]) ?_ (kp rfl) rfl
 refine fqT ?_
 refine aqr ?_
 refine pqr (x := .g [.i v1.1.Lo, .i v1.1.Hi, .i v2.1.Lo, .i v2.1.Hi, .i v3.1.Lo, .i v3.1.Hi, .i v4.1.Lo, .i v4.1.Hi]) rfl rfl (rqC (ys := [.i v1.1.Lo, .i v1.1.Hi, .i v2.1.Lo, .i v2.1.Hi, .i v3.1.Lo, .i v3.1.Hi, .i v4.1.Lo, .i v4.1.Hi]) rfl sh_34 rfl ⟨rfl, rfl, rfl, rfl, rfl, rfl, rfl, rfl, trivial⟩ rqN) rfl (fun mm aa ww hr => ?_)
 have hm := Option.some.inj hm
 subst hm
 exact ⟨rfl, hr.below⟩
end Go.Proofs.T
