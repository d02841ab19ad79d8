/-
  This file has contracts of functions of the program: where the mirror gives a value, the call returns it. Conditions: those that each theorem names.
-/
import Derived.KernelRfl
import Derived.Test.YtgpcfckbcldokaaDoorProg
import Derived.Test.YtgpcfckbcldokaaDoorAg1
set_option linter.unusedVariables false
namespace Go.Proofs.T
open Go Go.AX Hull
/-- The cells of a ship's box, ahead of others. -/
abbrev sK (L : Nat) (s : Ship) (x y z : SV) (r : St) : St := kc L 0 (.i s.Class) :: kc L 1 (.i s.Power) :: kc L 2 (.i s.Draught) :: kc L 3 (.i s.Tonnes) :: kc L 4 x :: kc L 5 y :: kc L 6 z :: kc L 7 (.i s.Slow) :: kc L 8 (.i s.Brash) :: kc L 9 (.i s.Ridge) :: kc L 10 (.i s.Press) :: r
end Go.Proofs.T
namespace Go.Proofs.T
open Go Go.AX Go.RowKit Hull
theorem Tryd_mixed : Tryd.prog.follows .mixedOrders = true := by kernel_rfl
theorem ss_23 : sliceSz Tryd.prog 23 = some 2 := by kernel_rfl
theorem en_84 : Proofs.Enters Tryd.prog 84 := Proofs.enters_of Tryd.func84 (by kernel_rfl) rfl
theorem fo_84_0 : fieldOff Tryd.prog 84 0 = some 0 := by kernel_rfl
theorem sh_3 : shapeOf Tryd.prog 3 = some none := by kernel_rfl
theorem sh_84 : shapeOf Tryd.prog 84 = some (some 2) := by kernel_rfl
theorem zl_84 : zeroL Tryd.prog 84 = some [(.int .i64 0), (.int .i64 0)] := by kernel_rfl
theorem sz_84 : sizeIn Tryd.prog 84 = some 2 := by kernel_rfl
theorem fo_84_1 : fieldOff Tryd.prog 84 1 = some 1 := by kernel_rfl
theorem en_107 : Proofs.Enters Tryd.prog 107 := Proofs.enters_of Tryd.func107 (by kernel_rfl) rfl
theorem fo_25_0 : fieldOff Tryd.prog 25 0 = some 0 := by kernel_rfl
theorem fo_25_1 : fieldOff Tryd.prog 25 1 = some 1 := by kernel_rfl
theorem fo_25_2 : fieldOff Tryd.prog 25 2 = some 2 := by kernel_rfl
theorem fo_25_3 : fieldOff Tryd.prog 25 3 = some 3 := by kernel_rfl
theorem fo_25_7 : fieldOff Tryd.prog 25 7 = some 7 := by kernel_rfl
theorem fo_25_8 : fieldOff Tryd.prog 25 8 = some 8 := by kernel_rfl
theorem fo_25_9 : fieldOff Tryd.prog 25 9 = some 9 := by kernel_rfl
theorem fo_25_10 : fieldOff Tryd.prog 25 10 = some 10 := by kernel_rfl
theorem fo_25_4 : fieldOff Tryd.prog 25 4 = some 4 := by kernel_rfl
theorem sh_23 : shapeOf Tryd.prog 23 = some none := by kernel_rfl
theorem en_142 : Proofs.Enters Tryd.prog 142 := Proofs.enters_of Tryd.func142 (by kernel_rfl) rfl
theorem en_137 : Proofs.Enters Tryd.prog 137 := Proofs.enters_of Tryd.func137 (by kernel_rfl) rfl
theorem fo_25_5 : fieldOff Tryd.prog 25 5 = some 5 := by kernel_rfl
theorem fo_25_6 : fieldOff Tryd.prog 25 6 = some 6 := by kernel_rfl
theorem en_113 : Proofs.Enters Tryd.prog 113 := Proofs.enters_of Tryd.func113 (by kernel_rfl) rfl
theorem ss_171 : sliceSz Tryd.prog 171 = some 2 := by kernel_rfl
theorem sh_174 : shapeOf Tryd.prog 174 = some (some 2) := by kernel_rfl
theorem zl_174 : zeroL Tryd.prog 174 = some [(.nilFunc), (.int .i64 0)] := by kernel_rfl
theorem sz_174 : sizeIn Tryd.prog 174 = some 2 := by kernel_rfl
theorem fo_174_0 : fieldOff Tryd.prog 174 0 = some 0 := by kernel_rfl
theorem sh_57 : shapeOf Tryd.prog 57 = some none := by kernel_rfl
theorem sh_25 : shapeOf Tryd.prog 25 = some (some 11) := by kernel_rfl
theorem en_138 : Proofs.Enters Tryd.prog 138 := Proofs.enters_of Tryd.func138 (by kernel_rfl) rfl
theorem fo_174_1 : fieldOff Tryd.prog 174 1 = some 1 := by kernel_rfl
theorem sh_36 : shapeOf Tryd.prog 36 = some none := by kernel_rfl
theorem en_139 : Proofs.Enters Tryd.prog 139 := Proofs.enters_of Tryd.func139 (by kernel_rfl) rfl
theorem en_140 : Proofs.Enters Tryd.prog 140 := Proofs.enters_of Tryd.func140 (by kernel_rfl) rfl
theorem en_141 : Proofs.Enters Tryd.prog 141 := Proofs.enters_of Tryd.func141 (by kernel_rfl) rfl
theorem en_143 : Proofs.Enters Tryd.prog 143 := Proofs.enters_of Tryd.func143 (by kernel_rfl) rfl
theorem en_144 : Proofs.Enters Tryd.prog 144 := Proofs.enters_of Tryd.func144 (by kernel_rfl) rfl
def ePt (x : Pt) : List Value := [(.int .i64 x.X), (.int .i64 x.Y)]
def eSp (x : Span) : List Value := [(.int .i64 x.Lo), (.int .i64 x.Hi)]
def encCell (x : Cell) : List Value := [(.int .i64 x.Conc.Lo), (.int .i64 x.Conc.Hi), (.int .i64 x.Thick.Lo), (.int .i64 x.Thick.Hi), (.int .i64 x.Ridge.Lo), (.int .i64 x.Ridge.Hi), (.int .i64 x.Press.Lo), (.int .i64 x.Press.Hi)]
def encPart (x : Part) : List Value := [(.int .i64 x.Cell.Conc.Lo), (.int .i64 x.Cell.Conc.Hi), (.int .i64 x.Cell.Thick.Lo), (.int .i64 x.Cell.Thick.Hi), (.int .i64 x.Cell.Ridge.Lo), (.int .i64 x.Cell.Ridge.Hi), (.int .i64 x.Cell.Press.Lo), (.int .i64 x.Cell.Press.Hi), (.bool x.Channel), (.int .i64 x.Length)]
def encInt (x : Int) : List Value := [(.int .i64 x)]
theorem c84 (n : Int) (a : Int) (b : Int) (w : World)  : Calls Tryd.prog 84 #[.int .i64 n, .int .i64 a, .int .i64 b] w fun e w' => e = .returned (.bool (within n a b)) ∧ Below w.heap.size w w' := by
 refine enter (args := [.i n, .i a, .i b]) Tryd.func84 rfl (N := 15) rfl (Nat.le_of_ble_eq_true rfl) ?_
 refine aqS ?_
 refine aqT (rows := [_]) rfl (by kernel_rfl) ⟨
  okp rfl rfl (oqA (lN rfl) rfl),
  trivial⟩ ?_
 refine fqK (s' := [kt 0 (.i n), kt 1 (.i a), kt 2 (.i b)]) ?_ (kp rfl) rfl
 refine fqT ?_
 refine aqS ?_
 refine aqT (rows := [_, _, _, _, _, _, _, _, _]) rfl (by kernel_rfl) ⟨
  okp rfl rfl (oqM (lN rfl) rfl),
  okp rfl rfl (oqM (lN rfl) rfl),
  okp rfl rfl (oqB (lN rfl) rfl rfl rfl),
  okp rfl rfl (oqM (lN rfl) rfl),
  ok_if (lN rfl) rfl rfl rfl rfl rfl rfl (fun hg1 => oqM (lN rfl) (force_x rfl)),
  ok_if (lN rfl) rfl rfl rfl rfl rfl rfl (fun hg2 => oqM (lN rfl) (force_x rfl)),
  ok_if (lN rfl) rfl rfl rfl rfl rfl rfl (fun hg3 => oqB (lN rfl) (force_eq (beq_iff_eq.2 hg3) rfl) (force_eq (beq_iff_eq.2 hg3) rfl) rfl),
  okp rfl rfl (op_and (lN rfl) rfl rfl),
  okp rfl rfl (oqA (lN rfl) rfl),
  trivial⟩ ?_
 refine fqK (s' := [kt 6 (.B ((decide (n ≥ a)) && (decide (n ≤ b))))]) ?_ (kp rfl) rfl
 refine fqT ?_
 refine aqr ?_
 refine pqr (x := .B ((decide (n ≥ a)) && (decide (n ≤ b)))) rfl rfl (rqT rfl rqN) rfl (fun mm aa ww hr => ?_)
 show Ending.returned (.bool ((decide (n ≥ a)) && (decide (n ≤ b)))) = _ ∧ _
 first
  | exact ⟨rfl, hr.below⟩
theorem c107 (l : List Pt) (l_s : SlV) (w : World) (hl : SlIs ePt 2 w l_s l) : Calls Tryd.prog 107 #[.slice l_s.p l_s.n l_s.c] w fun e w' => e = .returned (.bool (curve l)) ∧ Below w.heap.size w w' := by
 obtain ⟨l_p, l_n, l_c⟩ := l_s
 have hl_l : l_n = l.length := hl.1
 subst hl_l
 obtain ⟨l_b, l_o, hl_p, hl_L⟩ := SlAt.lies' hl
 refine enter (args := [.v (.slice l_p l.length l_c)]) Tryd.func107 rfl (N := 49) rfl (Nat.le_of_ble_eq_true rfl) ?_
 refine aqS ?_
 refine aqT (rows := [_]) rfl (by kernel_rfl) ⟨
  okp rfl rfl (oqA (lN rfl) rfl),
  trivial⟩ ?_
 refine fqK (s' := [kt 0 (.v (.slice l_p l.length l_c))]) ?_ (kp rfl) rfl
 refine fqT ?_
 refine aqS ?_
 refine aqS ?_
 refine aqT (rows := [_, _, _, _, _, _, _, _, _, _, _]) rfl (by kernel_rfl) ⟨
  okp rfl rfl (oqM (lN rfl) rfl),
  okp rfl rfl (op_len (n := l.length) (lN rfl) (by rw [ss_23]; rfl) rfl rfl),
  okp rfl rfl (oqC (x := .B (within (((l.length : Nat) : Int)) 2 8)) (fs := []) (caps := []) (extra := []) (lN rfl) en_84 rfl ⟨rfl, rfl, rfl⟩ (EvL.cons rfl (EvL.cons rfl (EvL.cons rfl EvL.nil))) (fun mm aa ww gg hr hrel => (c84 (((l.length : Nat) : Int)) 2 8 ww))),
  okp rfl rfl (oqn (lN rfl) rfl),
  okp rfl rfl (oqM (lN rfl) rfl),
  ok_if (lN rfl) rfl rfl rfl rfl rfl rfl (fun hg1 => oqM (lN rfl) (force_x rfl)),
  ok_if (lN rfl) rfl rfl rfl rfl rfl rfl (fun hg2 => op_ixB (lN rfl) (force_eq (beq_iff_eq.2 hg2) rfl) rfl ss_23 (hl_p (ne_of_ix (i := 0) (by have g0 := within_t (not_f hg2); omega) (by have g0 := within_t (not_f hg2); omega))) (by have g0 := within_t (not_f hg2); omega) (by have g0 := within_t (not_f hg2); omega)),
  ok_if (lN rfl) rfl rfl rfl rfl rfl rfl (fun hg3 => oqG (lN rfl) (force_eq (beq_iff_eq.2 hg3) rfl) fo_84_0),
  ok_if (lN rfl) rfl rfl rfl rfl rfl rfl (fun hg4 => oqW (y := .i (((pt l 0)).X)) (lN rfl) (force_eq (beq_iff_eq.2 hg4) rfl) (ld1 (hl_L (ne_of_ix (i := 0) (by have g0 := within_t (not_f hg4); omega) (by have g0 := within_t (not_f hg4); omega))) ⟨0, 0⟩ (i := 0) (by have g0 := within_t (not_f hg4); omega) (by have g0 := within_t (not_f hg4); omega) 0 rfl rfl sh_3)),
  ok_if (lN rfl) rfl rfl rfl rfl rfl rfl (fun hg5 => oqB (lN rfl) (force_eq (beq_iff_eq.2 hg5) rfl) rfl rfl),
  okp rfl rfl (op_or (lN rfl) rfl rfl),
  trivial⟩ ?_
 refine fqK (s' := [kt 0 (.v (.slice l_p l.length l_c)), kt 15 (.B ((!(within (((l.length : Nat) : Int)) 2 8)) || ((((pt l 0)).X) != 0)))]) ?_ (kp rfl) rfl
 refine fqT ?_
 refine aqc rfl (fun hz6 => ?_) (fun hz6 => ?_)
 ·have _z := hz6
  have q7 := hz6
  refine aqS ?_
  refine aqT (rows := [_]) rfl (by kernel_rfl) ⟨
   okp rfl rfl (oqA (lN rfl) rfl),
   trivial⟩ ?_
  refine fqK (s' := [kt 2 (.B false)]) ?_ (kp rfl) rfl
  refine fqT ?_
  refine aqr ?_
  refine fqR ?_
  refine pqr (x := .B false) rfl rfl (rqT rfl rqN) rfl (fun mm aa ww hr => ?_)
  show Ending.returned (.bool false) = _ ∧ _
  exact ⟨by rw [curve_no1 hz6], hr.below⟩
 ·have _z := hz6
  have q8 := within_t (not_f (or_fl hz6))
  have q9 := ne_f (or_fr hz6)
  refine aqk ?_
  refine fqT ?_
  refine aqS ?_
  refine aqS ?_
  refine aqT (rows := [_, _, _]) rfl (by kernel_rfl) ⟨
   okp rfl rfl (oqM (lN rfl) rfl),
   okp rfl rfl (op_len (n := l.length) (lN rfl) (by rw [ss_23]; rfl) rfl rfl),
   okp rfl rfl (oqM (lN rfl) rfl),
   trivial⟩ ?_
  refine fqK (s' := [kt 0 (.v (.slice l_p l.length l_c)), kt 16 (.v (.slice l_p l.length l_c)), kt 17 (.i (((l.length : Nat) : Int))), kt 18 (.i 0)]) ?_ (kp rfl) rfl
  refine fqT ?_
  refine aw_block ?_
  refine AW.keep (s' := (fun (k : Nat) => [kt 0 (.v (.slice l_p l.length l_c)), kt 16 (.v (.slice l_p l.length l_c)), kt 17 (.i (((l.length : Nat) : Int))), kt 18 (.i ((k : Int)))]) 0) ?_ (kp rfl) rfl
  refine aw_loop (ι := Nat) (fun k => k ≤ l.length ∧ ∀ j < k, curveAt l (j : Int) = true) (fun k => [kt 0 (.v (.slice l_p l.length l_c)), kt 16 (.v (.slice l_p l.length l_c)), kt 17 (.i (((l.length : Nat) : Int))), kt 18 (.i ((k : Int)))]) (fun k => l.length - k) ⟨Nat.zero_le _, fun j hj => absurd hj (Nat.not_lt_zero j)⟩ (fun k hI => ?_)
  obtain ⟨hk, hall⟩ := hI
  refine aqS ?_
  refine aqT (rows := [_]) rfl (by kernel_rfl) ⟨
   okp rfl rfl (oqB (lN rfl) rfl rfl rfl),
   trivial⟩ ?_
  refine fqK (s' := [kt 0 (.v (.slice l_p l.length l_c)), kt 16 (.v (.slice l_p l.length l_c)), kt 17 (.i (((l.length : Nat) : Int))), kt 18 (.i ((k : Int))), kt 19 (.B (decide (((k : Int)) < (((l.length : Nat) : Int)))))]) ?_ (kp rfl) rfl
  refine fqT ?_
  refine aqS ?_
  refine aqc rfl (fun hz10 => ?_) (fun hz10 => ?_)
  ·have _z := hz10
   have q11 := of_decide_eq_true hz10
   refine aqk ?_
   refine fqT ?_
   refine aqS ?_
   refine aw_block ?_
   refine aqS ?_
   refine aqT (rows := [_, _, _, _, _, _]) rfl (by kernel_rfl) ⟨
    okp rfl rfl (oqM (lN rfl) rfl),
    okp rfl rfl (op_ixB (lN rfl) rfl rfl ss_23 (hl_p (ne_of_ix (i := (k : Int)) (by omega) (by omega))) (by omega) (by omega)),
    okp rfl rfl (oqW (y := .g [.i (((pt l ((k : Int)))).X), .i (((pt l ((k : Int)))).Y)]) (lN rfl) rfl (ldN (hl_L (ne_of_ix (i := (k : Int)) (by omega) (by omega))) ⟨0, 0⟩ (i := (k : Int)) (by omega) (by omega) 0 (vs := [(.int .i64 (((pt l ((k : Int)))).X)), (.int .i64 (((pt l ((k : Int)))).Y))]) (fun zq zv zh => sub_get (vs := [(.int .i64 (((pt l ((k : Int)))).X)), (.int .i64 (((pt l ((k : Int)))).Y))]) rfl zh) rfl sh_84 rfl)),
    okp rfl rfl (oqa (L := 1) (lN rfl) zl_84),
    okp rfl rfl (oqA (lN rfl) rfl),
    okp rfl rfl (oqS sz_84 rfl rfl rfl rfl rfl (by decide)),
    trivial⟩ ?_
   refine fqK (s' := [kt 0 (.v (.slice l_p l.length l_c)), kt 3 (.i ((k : Int))), kt 4 (.p 1 0), kt 16 (.v (.slice l_p l.length l_c)), kt 17 (.i (((l.length : Nat) : Int))), kt 18 (.i ((k : Int))), kb 1 84 2, kc 1 0 (.i (((pt l ((k : Int)))).X)), kc 1 1 (.i (((pt l ((k : Int)))).Y))]) ?_ (kp rfl) rfl
   refine fqT ?_
   refine aqS ?_
   refine aw_any (rows := [_, _, _, _, _, _, _, _, _, _, _, _, _, _, _, _, _, _, _, _, _, _, _, _, _]) (M := [0, 1, 3, 7, 15, 31, 63, 127, 255, 511, 1023, 2047, 4095, 8191, 16383, 32767, 16383, 16383, 147455, 475135, 999423, 2047999, 4194303, 8388607, 16777215]) Tryd_mixed (by kernel_rfl) rfl (by kernel_rfl) ⟨
    okp rfl rfl (oqF (lN rfl) rfl fo_84_0),
    okp rfl rfl (oq1 (lN rfl) sh_3 rfl rfl),
    okp rfl rfl (oqC (x := .B (within (((pt l ((k : Int)))).X) 0 400)) (fs := []) (caps := []) (extra := []) (lN rfl) en_84 rfl ⟨rfl, rfl, rfl⟩ (EvL.cons rfl (EvL.cons rfl (EvL.cons rfl EvL.nil))) (fun mm aa ww gg hr hrel => (c84 (((pt l ((k : Int)))).X) 0 400 ww))),
    okp rfl rfl (oqn (lN rfl) rfl),
    okp rfl rfl (oqM (lN rfl) rfl),
    ok_if (lN rfl) rfl rfl rfl rfl rfl rfl (fun hg12 => oqF (lN rfl) (force_x rfl) fo_84_1),
    ok_if (lN rfl) rfl rfl rfl rfl rfl rfl (fun hg13 => oq1 (lN rfl) sh_3 (force_eq (beq_iff_eq.2 hg13) rfl) rfl),
    ok_if (lN rfl) rfl rfl rfl rfl rfl rfl (fun hg14 => oqC (x := .B (within (((pt l ((k : Int)))).Y) 0 20000)) (fs := []) (caps := []) (extra := []) (lN rfl) en_84 rfl ⟨rfl, rfl, rfl⟩ (EvL.cons (force_eq (beq_iff_eq.2 hg14) rfl) (EvL.cons rfl (EvL.cons rfl EvL.nil))) (fun mm aa ww gg hr hrel => (c84 (((pt l ((k : Int)))).Y) 0 20000 ww))),
    ok_if (lN rfl) rfl rfl rfl rfl rfl rfl (fun hg15 => oqn (lN rfl) (force_eq (beq_iff_eq.2 hg15) rfl)),
    okp rfl rfl (op_or (lN rfl) rfl rfl),
    okp rfl rfl (oqM (lN rfl) rfl),
    ok_if (lN rfl) rfl rfl rfl rfl rfl rfl (fun hg16 => oqM (lN rfl) (force_x rfl)),
    ok_if (lN rfl) rfl rfl rfl rfl rfl rfl (fun hg17 => oqB (lN rfl) (force_eq (beq_iff_eq.2 hg17) rfl) rfl rfl),
    ok_if (lN rfl) rfl rfl rfl rfl rfl rfl (fun hg18 => oqM (lN rfl) (force_eq (beq_iff_eq.2 hg18) rfl)),
    ok_ifC (lN rfl) rfl rfl rfl rfl rfl rfl (fun hg19 => oqF (lN rfl) (force_x rfl) fo_84_0),
    ok_ifC (lN rfl) rfl rfl rfl rfl rfl rfl (fun hg20 => oq1 (lN rfl) sh_3 (force_eq hg20 rfl) rfl),
    ok_ifC (lN rfl) rfl rfl rfl rfl rfl rfl (fun hg21 => oqM (lN rfl) (force_x rfl)),
    ok_ifC (lN rfl) rfl rfl rfl rfl rfl rfl (fun hg22 => oqM (lN rfl) (force_x rfl)),
    ok_ifC (lN rfl) rfl rfl rfl rfl rfl rfl (fun hg23 => oqB (lN rfl) (force_eq hg23 rfl) rfl (nw_sub ⟨(by have g0 := within_t (not_f (or_fl (beq_iff_eq.1 (and_tl hg23)))); have g1 := within_t (not_f (or_fr (beq_iff_eq.1 (and_tl hg23)))); have g2 := of_decide_eq_true (beq_t (and_tr hg23)); omega), (by have g0 := within_t (not_f (or_fl (beq_iff_eq.1 (and_tl hg23)))); have g1 := within_t (not_f (or_fr (beq_iff_eq.1 (and_tl hg23)))); have g2 := of_decide_eq_true (beq_t (and_tr hg23)); omega)⟩)),
    ok_ifC (lN rfl) rfl rfl rfl rfl rfl rfl (fun hg24 => op_ixB (lN rfl) (force_eq hg24 rfl) (force_eq hg24 rfl) ss_23 (hl_p (ne_of_ix (i := ((k : Int)) - 1) (by have g0 := within_t (not_f (or_fl (beq_iff_eq.1 (and_tl hg24)))); have g1 := within_t (not_f (or_fr (beq_iff_eq.1 (and_tl hg24)))); have g2 := of_decide_eq_true (beq_t (and_tr hg24)); omega) (by have g0 := within_t (not_f (or_fl (beq_iff_eq.1 (and_tl hg24)))); have g1 := within_t (not_f (or_fr (beq_iff_eq.1 (and_tl hg24)))); have g2 := of_decide_eq_true (beq_t (and_tr hg24)); omega))) (by have g0 := within_t (not_f (or_fl (beq_iff_eq.1 (and_tl hg24)))); have g1 := within_t (not_f (or_fr (beq_iff_eq.1 (and_tl hg24)))); have g2 := of_decide_eq_true (beq_t (and_tr hg24)); omega) (by have g0 := within_t (not_f (or_fl (beq_iff_eq.1 (and_tl hg24)))); have g1 := within_t (not_f (or_fr (beq_iff_eq.1 (and_tl hg24)))); have g2 := of_decide_eq_true (beq_t (and_tr hg24)); omega)),
    ok_ifC (lN rfl) rfl rfl rfl rfl rfl rfl (fun hg25 => oqG (lN rfl) (force_eq hg25 rfl) fo_84_0),
    ok_ifC (lN rfl) rfl rfl rfl rfl rfl rfl (fun hg26 => oqW (y := .i (((pt l (((k : Int)) - 1))).X)) (lN rfl) (force_eq hg26 rfl) (ld1 (hl_L (ne_of_ix (i := ((k : Int)) - 1) (by have g0 := within_t (not_f (or_fl (beq_iff_eq.1 (and_tl hg26)))); have g1 := within_t (not_f (or_fr (beq_iff_eq.1 (and_tl hg26)))); have g2 := of_decide_eq_true (beq_t (and_tr hg26)); omega) (by have g0 := within_t (not_f (or_fl (beq_iff_eq.1 (and_tl hg26)))); have g1 := within_t (not_f (or_fr (beq_iff_eq.1 (and_tl hg26)))); have g2 := of_decide_eq_true (beq_t (and_tr hg26)); omega))) ⟨0, 0⟩ (i := ((k : Int)) - 1) (by have g0 := within_t (not_f (or_fl (beq_iff_eq.1 (and_tl hg26)))); have g1 := within_t (not_f (or_fr (beq_iff_eq.1 (and_tl hg26)))); have g2 := of_decide_eq_true (beq_t (and_tr hg26)); omega) (by have g0 := within_t (not_f (or_fl (beq_iff_eq.1 (and_tl hg26)))); have g1 := within_t (not_f (or_fr (beq_iff_eq.1 (and_tl hg26)))); have g2 := of_decide_eq_true (beq_t (and_tr hg26)); omega) 0 rfl rfl sh_3)),
    ok_ifC (lN rfl) rfl rfl rfl rfl rfl rfl (fun hg27 => oqB (lN rfl) (force_eq hg27 rfl) (force_eq hg27 rfl) rfl),
    ok_if (lN rfl) rfl rfl rfl rfl rfl rfl (fun hg28 => op_andF (lN rfl) (beq_iff_eq.2 hg28) rfl rfl),
    okp rfl rfl (op_or (lN rfl) rfl rfl),
    trivial⟩ ?_
   refine fqK (s' := [kt 0 (.v (.slice l_p l.length l_c)), kt 16 (.v (.slice l_p l.length l_c)), kt 17 (.i (((l.length : Nat) : Int))), kt 18 (.i ((k : Int))), kt 47 (.B (((!(within (((pt l ((k : Int)))).X) 0 400)) || (!(within (((pt l ((k : Int)))).Y) 0 20000))) || ((decide (((k : Int)) > 0)) && (decide ((((pt l ((k : Int)))).X) ≤ (((pt l (((k : Int)) - 1))).X))))))]) ?_ (kp rfl) rfl
   refine fqT ?_
   refine aqc rfl (fun hz29 => ?_) (fun hz29 => ?_)
   ·have _z := hz29
    have q30 := hz29
    refine aqS ?_
    refine aqT (rows := [_]) rfl (by kernel_rfl) ⟨
     okp rfl rfl (oqA (lN rfl) rfl),
     trivial⟩ ?_
    refine fqK (s' := [kt 2 (.B false)]) ?_ (kp rfl) rfl
    refine fqT ?_
    refine aqr ?_
    refine fin_block_ret ?_
    refine fqR ?_
    refine fqR ?_
    refine fin_block_ret ?_
    refine fqR ?_
    refine pqr (x := .B false) rfl rfl (rqT rfl rqN) rfl (fun mm aa ww hr => ?_)
    show Ending.returned (.bool false) = _ ∧ _
    exact ⟨by rw [curve_no2 (k := k) (by omega) (b1 hz29)], hr.below⟩
   ·have _z := hz29
    have q31 := within_t (not_f (or_fl (or_fl hz29)))
    have q32 := within_t (not_f (or_fr (or_fl hz29)))
    have q33 := or_fr hz29
    refine aqk ?_
    refine fqB ?_
    refine fqT ?_
    have cAt : curveAt l (k : Int) = true := b3 hz29
    refine aqT (rows := [_, _]) rfl (by kernel_rfl) ⟨
     okp rfl rfl (oqB (lN rfl) rfl rfl (nw_add ⟨(by omega), (by omega)⟩)),
     okp rfl rfl (oqM (lN rfl) rfl),
     trivial⟩ ?_
    refine fqK (s' := [kt 0 (.v (.slice l_p l.length l_c)), kt 16 (.v (.slice l_p l.length l_c)), kt 17 (.i (((l.length : Nat) : Int))), kt 18 (.i (((k : Int)) + 1))]) ?_ (kp rfl) rfl
    exact fin_loop (k + 1) ⟨by omega, fun j hj => by rcases Nat.lt_succ_iff_lt_or_eq.1 hj with h | rfl; exact hall j h; exact cAt⟩ (by omega) ⟨rfl, rfl, rfl, rfl, trivial⟩ rfl
  ·have _z := hz10
   have q34 := of_decide_eq_false hz10
   refine aw_exit ?_
   refine fqE ?_
   refine fqE ?_
   refine fin_block_exit ?_
   refine fqT ?_
   refine aqS ?_
   refine aqT (rows := [_]) rfl (by kernel_rfl) ⟨
    okp rfl rfl (oqA (lN rfl) rfl),
    trivial⟩ ?_
   refine fqK (s' := [kt 2 (.B true)]) ?_ (kp rfl) rfl
   refine fqT ?_
   refine aqr ?_
   refine pqr (x := .B true) rfl rfl (rqT rfl rqN) rfl (fun mm aa ww hr => ?_)
   show Ending.returned (.bool true) = _ ∧ _
   exact ⟨by rw [curve_yes (k := k) (not_f (or_fl hz6)) (ne_f (or_fr hz6)) hall (by omega)], hr.below⟩
theorem c142 (l : List Pt) (l_s : SlV) (way : Int) (w : World) (hl : SlIs ePt 2 w l_s l) (hw : -1 ≤ way ∧ way ≤ 1) : Calls Tryd.prog 142 #[.slice l_s.p l_s.n l_s.c, .int .i64 way] w fun e w' => e = .returned (.bool (steady l way)) ∧ Below w.heap.size w w' := by
 obtain ⟨l_p, l_n, l_c⟩ := l_s
 have hl_l : l_n = l.length := hl.1
 subst hl_l
 obtain ⟨l_b, l_o, hl_p, hl_L⟩ := SlAt.lies' hl
 refine enter (args := [.v (.slice l_p l.length l_c), .i way]) Tryd.func142 rfl (N := 30) rfl (Nat.le_of_ble_eq_true rfl) ?_
 refine aqS ?_
 refine aqT (rows := [_]) rfl (by kernel_rfl) ⟨
  okp rfl rfl (oqA (lN rfl) rfl),
  trivial⟩ ?_
 refine fqK (s' := [kt 0 (.v (.slice l_p l.length l_c)), kt 1 (.i way)]) ?_ (kp rfl) rfl
 refine fqT ?_
 refine aqS ?_
 refine aqS ?_
 refine aqT (rows := [_, _, _]) rfl (by kernel_rfl) ⟨
  okp rfl rfl (oqM (lN rfl) rfl),
  okp rfl rfl (oqC (x := .B (curve l)) (fs := []) (caps := []) (extra := []) (lN rfl) en_107 rfl ⟨rfl, rfl, rfl⟩ (EvL.cons rfl EvL.nil) (fun mm aa ww gg hr hrel => (c107 l ⟨l_p, l.length, l_c⟩ ww (SlIs.mono hl hrel.below)))),
  okp rfl rfl (oqn (lN rfl) rfl),
  trivial⟩ ?_
 refine fqK (s' := [kt 0 (.v (.slice l_p l.length l_c)), kt 1 (.i way), kt 8 (.B (!(curve l)))]) ?_ (kp rfl) rfl
 refine fqT ?_
 refine aqc rfl (fun hz1 => ?_) (fun hz1 => ?_)
 ·have _z := hz1
  have q2 := not_t hz1
  refine aqS ?_
  refine aqT (rows := [_]) rfl (by kernel_rfl) ⟨
   okp rfl rfl (oqA (lN rfl) rfl),
   trivial⟩ ?_
  refine fqK (s' := [kt 4 (.B false)]) ?_ (kp rfl) rfl
  refine fqT ?_
  refine aqr ?_
  refine fqR ?_
  refine pqr (x := .B false) rfl rfl (rqT rfl rqN) rfl (fun mm aa ww hr => ?_)
  show Ending.returned (.bool false) = _ ∧ _
  exact ⟨by rw [show steady l way = false by simp only [steady]; rw [not_t hz1]; rfl], hr.below⟩
 ·have _z := hz1
  have q3 := not_f hz1
  refine aqk ?_
  refine fqT ?_
  refine aqS ?_
  refine aqS ?_
  have hc := not_f hz1
  have hlen := (curve_lt hc).2
  have hB := curve_bd hc
  refine aqT (rows := [_]) rfl (by kernel_rfl) ⟨
   okp rfl rfl (oqA (lN rfl) rfl),
   trivial⟩ ?_
  refine fqK (s' := [kt 0 (.v (.slice l_p l.length l_c)), kt 1 (.i way), kt 5 (.i 1)]) ?_ (kp rfl) rfl
  refine fqT ?_
  refine aw_block ?_
  refine AW.keep (s' := (fun (k : Nat) => [kt 0 (.v (.slice l_p l.length l_c)), kt 1 (.i way), kt 5 (.i ((k : Int)))]) ((1 : Nat))) ?_ (kp rfl) rfl
  refine aw_loop (ι := Nat) (fun k => 1 ≤ k ∧ k ≤ l.length ∧ ∀ j < k, 1 ≤ j → steadyAt l way (j : Int) = true) (fun k => [kt 0 (.v (.slice l_p l.length l_c)), kt 1 (.i way), kt 5 (.i ((k : Int)))]) (fun k => l.length - k) ⟨Nat.le_refl 1, by omega, fun j hj h1 => absurd hj (by omega)⟩ (fun k hI => ?_)
  obtain ⟨h1k, hk, hall⟩ := hI
  refine aqS ?_
  refine aqS ?_
  refine aqT (rows := [_, _, _, _]) rfl (by kernel_rfl) ⟨
   okp rfl rfl (oqM (lN rfl) rfl),
   okp rfl rfl (oqM (lN rfl) rfl),
   okp rfl rfl (op_len (n := l.length) (lN rfl) (by rw [ss_23]; rfl) rfl rfl),
   okp rfl rfl (oqB (lN rfl) rfl rfl rfl),
   trivial⟩ ?_
  refine fqK (s' := [kt 0 (.v (.slice l_p l.length l_c)), kt 1 (.i way), kt 5 (.i ((k : Int))), kt 12 (.B (decide (((k : Int)) < (((l.length : Nat) : Int)))))]) ?_ (kp rfl) rfl
  refine fqT ?_
  refine aqc rfl (fun hz4 => ?_) (fun hz4 => ?_)
  ·have _z := hz4
   have q5 := of_decide_eq_true hz4
   refine aqk ?_
   refine fqT ?_
   refine aqS ?_
   refine aw_block ?_
   refine aqS ?_
   have ha := hB (k : Int) (by omega) (by omega)
   have hb := hB ((k : Int) - 1) (by omega) (by omega)
   have hm := mul_bd (A := 20000) (B := 1) (x := (pt l (k : Int)).Y - (pt l ((k : Int) - 1)).Y) (y := way) (by omega) (by omega)
   refine aw_any (rows := [_, _, _, _, _, _, _, _, _, _, _, _, _, _, _]) (M := [0, 0, 3, 7, 15, 0, 0, 64, 224, 480, 992, 2047, 0, 8191, 16383]) Tryd_mixed (by kernel_rfl) rfl (by kernel_rfl) ⟨
    okp rfl rfl (oqM (lN rfl) rfl),
    okp rfl rfl (oqM (lN rfl) rfl),
    okp rfl rfl (op_ixB (lN rfl) rfl rfl ss_23 (hl_p (ne_of_ix (i := (k : Int)) (by omega) (by omega))) (by omega) (by omega)),
    okp rfl rfl (oqG (lN rfl) rfl fo_84_1),
    okp rfl rfl (oqW (y := .i (((pt l ((k : Int)))).Y)) (lN rfl) rfl (ld1 (hl_L (ne_of_ix (i := (k : Int)) (by omega) (by omega))) ⟨0, 0⟩ (i := (k : Int)) (by omega) (by omega) 1 rfl rfl sh_3)),
    okp rfl rfl (oqM (lN rfl) rfl),
    okp rfl rfl (oqM (lN rfl) rfl),
    okp rfl rfl (oqB (lN rfl) rfl rfl (nw_sub ⟨(by omega), (by omega)⟩)),
    okp rfl rfl (op_ixB (lN rfl) rfl rfl ss_23 (hl_p (ne_of_ix (i := ((k : Int)) - 1) (by omega) (by omega))) (by omega) (by omega)),
    okp rfl rfl (oqG (lN rfl) rfl fo_84_1),
    okp rfl rfl (oqW (y := .i (((pt l (((k : Int)) - 1))).Y)) (lN rfl) rfl (ld1 (hl_L (ne_of_ix (i := ((k : Int)) - 1) (by omega) (by omega))) ⟨0, 0⟩ (i := ((k : Int)) - 1) (by omega) (by omega) 1 rfl rfl sh_3)),
    okp rfl rfl (oqB (lN rfl) rfl rfl (nw_sub ⟨(by omega), (by omega)⟩)),
    okp rfl rfl (oqM (lN rfl) rfl),
    okp rfl rfl (oqB (lN rfl) rfl rfl (nw_mul ⟨(by omega), (by omega)⟩)),
    okp rfl rfl (oqB (lN rfl) rfl rfl rfl),
    trivial⟩ ?_
   refine fqK (s' := [kt 0 (.v (.slice l_p l.length l_c)), kt 1 (.i way), kt 5 (.i ((k : Int))), kt 29 (.B (decide ((((((pt l ((k : Int)))).Y) - (((pt l (((k : Int)) - 1))).Y)) * way) < 0)))]) ?_ (kp rfl) rfl
   refine fqT ?_
   refine aqc rfl (fun hz6 => ?_) (fun hz6 => ?_)
   ·have _z := hz6
    have q7 := of_decide_eq_true hz6
    refine aqS ?_
    refine aqT (rows := [_]) rfl (by kernel_rfl) ⟨
     okp rfl rfl (oqA (lN rfl) rfl),
     trivial⟩ ?_
    refine fqK (s' := [kt 4 (.B false)]) ?_ (kp rfl) rfl
    refine fqT ?_
    refine aqr ?_
    refine fin_block_ret ?_
    refine fqR ?_
    refine fqR ?_
    refine fin_block_ret ?_
    refine fqR ?_
    refine pqr (x := .B false) rfl rfl (rqT rfl rqN) rfl (fun mm aa ww hr => ?_)
    show Ending.returned (.bool false) = _ ∧ _
    exact ⟨by rw [steady_no (k := k) (by omega) (by omega) (b2 hz6)], hr.below⟩
   ·have _z := hz6
    have q8 := of_decide_eq_false hz6
    refine aqk ?_
    refine fqB ?_
    refine fqT ?_
    have sAt : steadyAt l way (k : Int) = true := b4 hz6
    refine aqT (rows := [_, _, _]) rfl (by kernel_rfl) ⟨
     okp rfl rfl (oqM (lN rfl) rfl),
     okp rfl rfl (oqB (lN rfl) rfl rfl (nw_add ⟨(by omega), (by omega)⟩)),
     okp rfl rfl (oqA (lN rfl) rfl),
     trivial⟩ ?_
    refine fqK (s' := [kt 0 (.v (.slice l_p l.length l_c)), kt 1 (.i way), kt 5 (.i (((k : Int)) + 1))]) ?_ (kp rfl) rfl
    exact fin_loop (k + 1) ⟨by omega, by omega, fun j hj h1 => by rcases Nat.lt_succ_iff_lt_or_eq.1 hj with h | rfl; exact hall j h h1; exact sAt⟩ (by omega) ⟨rfl, rfl, rfl, trivial⟩ rfl
  ·have _z := hz4
   have q9 := of_decide_eq_false hz4
   refine aw_exit ?_
   refine fqE ?_
   refine fqE ?_
   refine fin_block_exit ?_
   refine fqT ?_
   refine aqS ?_
   refine aqT (rows := [_]) rfl (by kernel_rfl) ⟨
    okp rfl rfl (oqA (lN rfl) rfl),
    trivial⟩ ?_
   refine fqK (s' := [kt 4 (.B true)]) ?_ (kp rfl) rfl
   refine fqT ?_
   refine aqr ?_
   refine pqr (x := .B true) rfl rfl (rqT rfl rqN) rfl (fun mm aa ww hr => ?_)
   show Ending.returned (.bool true) = _ ∧ _
   exact ⟨by rw [steady_yes (k := k) hc hall (by omega)], hr.below⟩
theorem c137 (l : List Pt) (l_s : SlV) (w : World) (hl : SlIs ePt 2 w l_s l) (hc : curve l = true) : Calls Tryd.prog 137 #[.slice l_s.p l_s.n l_s.c] w fun e w' => e = .returned (.int .i64 (endX l)) ∧ Below w.heap.size w w' := by
 obtain ⟨l_p, l_n, l_c⟩ := l_s
 have hl_l : l_n = l.length := hl.1
 subst hl_l
 obtain ⟨l_b, l_o, hl_p, hl_L⟩ := SlAt.lies' hl
 have hlen := (curve_lt hc).2
 refine enter (args := [.v (.slice l_p l.length l_c)]) Tryd.func137 rfl (N := 10) rfl (Nat.le_of_ble_eq_true rfl) ?_
 refine aqS ?_
 refine aqT (rows := [_]) rfl (by kernel_rfl) ⟨
  okp rfl rfl (oqA (lN rfl) rfl),
  trivial⟩ ?_
 refine fqK (s' := [kt 0 (.v (.slice l_p l.length l_c))]) ?_ (kp rfl) rfl
 refine fqT ?_
 refine aqS ?_
 refine aqT (rows := [_, _, _, _, _, _, _, _]) rfl (by kernel_rfl) ⟨
  okp rfl rfl (oqM (lN rfl) rfl),
  okp rfl rfl (oqM (lN rfl) rfl),
  okp rfl rfl (op_len (n := l.length) (lN rfl) (by rw [ss_23]; rfl) rfl rfl),
  okp rfl rfl (oqB (lN rfl) rfl rfl (nw_sub ⟨(by omega), (by omega)⟩)),
  okp rfl rfl (op_ixB (lN rfl) rfl rfl ss_23 (hl_p (ne_of_ix (i := (((l.length : Nat) : Int)) - 1) (by omega) (by omega))) (by omega) (by omega)),
  okp rfl rfl (oqG (lN rfl) rfl fo_84_0),
  okp rfl rfl (oqW (y := .i (((pt l ((((l.length : Nat) : Int)) - 1))).X)) (lN rfl) rfl (ld1 (hl_L (ne_of_ix (i := (((l.length : Nat) : Int)) - 1) (by omega) (by omega))) ⟨0, 0⟩ (i := (((l.length : Nat) : Int)) - 1) (by omega) (by omega) 0 rfl rfl sh_3)),
  okp rfl rfl (oqA (lN rfl) rfl),
  trivial⟩ ?_
 refine fqK (s' := [kt 2 (.i (((pt l ((((l.length : Nat) : Int)) - 1))).X))]) ?_ (kp rfl) rfl
 refine fqT ?_
 refine aqr ?_
 refine pqr (x := .i (((pt l ((((l.length : Nat) : Int)) - 1))).X)) rfl rfl (rqT rfl rqN) rfl (fun mm aa ww hr => ?_)
 show Ending.returned (.int .i64 (((pt l ((((l.length : Nat) : Int)) - 1))).X)) = _ ∧ _
 first
  | exact ⟨rfl, hr.below⟩
theorem c109 (l : List Pt) (l_s : SlV) (x : Int) (w : World) (hl : SlIs ePt 2 w l_s l) (hc : curve l = true) (hx : -1000000 ≤ x ∧ x ≤ 1000000) : Calls Tryd.prog 109 #[.slice l_s.p l_s.n l_s.c, .int .i64 x] w fun e w' => e = .returned (.tuple #[.int .i64 ((value l x).1), .int .i64 ((value l x).2)]) ∧ Below w.heap.size w w' := by
 obtain ⟨l_p, l_n, l_c⟩ := l_s
 have hl_l : l_n = l.length := hl.1
 subst hl_l
 obtain ⟨l_b, l_o, hl_p, hl_L⟩ := SlAt.lies' hl
 have hlen := (curve_lt hc).2
 have hB := curve_bd hc
 refine enter (args := [.v (.slice l_p l.length l_c), .i x]) Tryd.func109 rfl (N := 59) rfl (Nat.le_of_ble_eq_true rfl) ?_
 refine aqS ?_
 refine aqT (rows := [_, _]) rfl (by kernel_rfl) ⟨
  okp rfl rfl (oqA (lN rfl) rfl),
  okp rfl rfl (oqA (lN rfl) rfl),
  trivial⟩ ?_
 refine fqK (s' := [kt 0 (.v (.slice l_p l.length l_c)), kt 1 (.i x)]) ?_ (kp rfl) rfl
 refine fqT ?_
 refine aqS ?_
 refine aqS ?_
 refine aqT (rows := [_]) rfl (by kernel_rfl) ⟨
  okp rfl rfl (oqA (lN rfl) rfl),
  trivial⟩ ?_
 refine fqK (s' := [kt 0 (.v (.slice l_p l.length l_c)), kt 1 (.i x), kt 6 (.i 1)]) ?_ (kp rfl) rfl
 refine fqT ?_
 refine aw_block ?_
 refine AW.keep (s' := (fun (k : Nat) => [kt 0 (.v (.slice l_p l.length l_c)), kt 1 (.i x), kt 6 (.i ((k : Int)))]) ((1 : Nat))) ?_ (kp rfl) rfl
 refine aw_loop (ι := Nat) (fun k => 1 ≤ k ∧ k ≤ l.length ∧ value l x = valFrom l x (l.length - k) k) (fun k => [kt 0 (.v (.slice l_p l.length l_c)), kt 1 (.i x), kt 6 (.i ((k : Int)))]) (fun k => l.length - k) ⟨Nat.le_refl 1, by omega, rfl⟩ (fun k hI => ?_)
 obtain ⟨h1k, hkl, hval⟩ := hI
 refine aqS ?_
 refine aqS ?_
 refine aqT (rows := [_, _, _, _]) rfl (by kernel_rfl) ⟨
  okp rfl rfl (oqM (lN rfl) rfl),
  okp rfl rfl (oqM (lN rfl) rfl),
  okp rfl rfl (op_len (n := l.length) (lN rfl) (by rw [ss_23]; rfl) rfl rfl),
  okp rfl rfl (oqB (lN rfl) rfl rfl rfl),
  trivial⟩ ?_
 refine fqK (s' := [kt 0 (.v (.slice l_p l.length l_c)), kt 1 (.i x), kt 6 (.i ((k : Int))), kt 12 (.B (decide (((k : Int)) < (((l.length : Nat) : Int)))))]) ?_ (kp rfl) rfl
 refine fqT ?_
 refine aqc rfl (fun hz1 => ?_) (fun hz1 => ?_)
 ·have _z := hz1
  have q2 := of_decide_eq_true hz1
  refine aqk ?_
  refine fqT ?_
  refine aqS ?_
  refine aw_block ?_
  refine aqS ?_
  refine aw_any (rows := [_, _, _, _, _, _, _, _, _, _, _, _, _]) (M := [0, 0, 2, 7, 15, 0, 0, 96, 224, 0, 0, 1567, 4095]) Tryd_mixed (by kernel_rfl) rfl (by kernel_rfl) ⟨
   okp rfl rfl (oqM (lN rfl) rfl),
   okp rfl rfl (oqM (lN rfl) rfl),
   okp rfl rfl (oqB (lN rfl) rfl rfl (nw_sub ⟨(by omega), (by omega)⟩)),
   okp rfl rfl (op_ixB (lN rfl) rfl rfl ss_23 (hl_p (ne_of_ix (i := ((k : Int)) - 1) (by omega) (by omega))) (by omega) (by omega)),
   okp rfl rfl (oqW (y := .g [.i (((pt l (((k : Int)) - 1))).X), .i (((pt l (((k : Int)) - 1))).Y)]) (lN rfl) rfl (ldN (hl_L (ne_of_ix (i := ((k : Int)) - 1) (by omega) (by omega))) ⟨0, 0⟩ (i := ((k : Int)) - 1) (by omega) (by omega) 0 (vs := [(.int .i64 (((pt l (((k : Int)) - 1))).X)), (.int .i64 (((pt l (((k : Int)) - 1))).Y))]) (fun zq zv zh => sub_get (vs := [(.int .i64 (((pt l (((k : Int)) - 1))).X)), (.int .i64 (((pt l (((k : Int)) - 1))).Y))]) rfl zh) rfl sh_84 rfl)),
   okp rfl rfl (oqM (lN rfl) rfl),
   okp rfl rfl (oqM (lN rfl) rfl),
   okp rfl rfl (op_ixB (lN rfl) rfl rfl ss_23 (hl_p (ne_of_ix (i := (k : Int)) (by omega) (by omega))) (by omega) (by omega)),
   okp rfl rfl (oqW (y := .g [.i (((pt l ((k : Int)))).X), .i (((pt l ((k : Int)))).Y)]) (lN rfl) rfl (ldN (hl_L (ne_of_ix (i := (k : Int)) (by omega) (by omega))) ⟨0, 0⟩ (i := (k : Int)) (by omega) (by omega) 0 (vs := [(.int .i64 (((pt l ((k : Int)))).X)), (.int .i64 (((pt l ((k : Int)))).Y))]) (fun zq zv zh => sub_get (vs := [(.int .i64 (((pt l ((k : Int)))).X)), (.int .i64 (((pt l ((k : Int)))).Y))]) rfl zh) rfl sh_84 rfl)),
   okp rfl rfl (oqa (L := 1) (lN rfl) zl_84),
   okp rfl rfl (oqa (L := 2) (lN rfl) zl_84),
   okp rfl rfl (oqS sz_84 rfl rfl rfl rfl rfl (by decide)),
   okp rfl rfl (oqS sz_84 rfl rfl rfl rfl rfl (by decide)),
   trivial⟩ ?_
  refine fqK (s' := [kt 0 (.v (.slice l_p l.length l_c)), kt 1 (.i x), kt 6 (.i ((k : Int))), kt 7 (.p 1 0), kt 8 (.p 2 0), kb 1 84 2, kb 2 84 2, kc 1 0 (.i (((pt l (((k : Int)) - 1))).X)), kc 1 1 (.i (((pt l (((k : Int)) - 1))).Y)), kc 2 0 (.i (((pt l ((k : Int)))).X)), kc 2 1 (.i (((pt l ((k : Int)))).Y))]) ?_ (kp rfl) rfl
  refine fqT ?_
  refine aqS ?_
  have ha := hB ((k : Int) - 1) (by omega) (by omega)
  have hb := hB (k : Int) (by omega) (by omega)
  refine aqT (rows := [_, _, _, _]) rfl (by kernel_rfl) ⟨
   okp rfl rfl (oqM (lN rfl) rfl),
   okp rfl rfl (oqF (lN rfl) rfl fo_84_0),
   okp rfl rfl (oq1 (lN rfl) sh_3 rfl rfl),
   okp rfl rfl (oqB (lN rfl) rfl rfl rfl),
   trivial⟩ ?_
  refine fqK (s' := [kt 0 (.v (.slice l_p l.length l_c)), kt 1 (.i x), kt 6 (.i ((k : Int))), kt 7 (.p 1 0), kt 8 (.p 2 0), kt 27 (.B (decide (x ≤ (((pt l ((k : Int)))).X)))), kb 1 84 2, kb 2 84 2, kc 1 0 (.i (((pt l (((k : Int)) - 1))).X)), kc 1 1 (.i (((pt l (((k : Int)) - 1))).Y)), kc 2 0 (.i (((pt l ((k : Int)))).X)), kc 2 1 (.i (((pt l ((k : Int)))).Y))]) ?_ (kp rfl) rfl
  refine fqT ?_
  refine aqc rfl (fun hz3 => ?_) (fun hz3 => ?_)
  ·have _z := hz3
   have q4 := of_decide_eq_true hz3
   refine aqS ?_
   have hm1 := mul_bd (A := 20000) (B := 400) (x := (pt l ((k : Int) - 1)).Y) (y := (pt l (k : Int)).X - (pt l ((k : Int) - 1)).X) (by omega) (by omega)
   have hm2 := mul_bd (A := 20000) (B := 1000400) (x := (pt l (k : Int)).Y - (pt l ((k : Int) - 1)).Y) (y := x - (pt l ((k : Int) - 1)).X) (by omega) (by omega)
   refine aw_any (rows := [_, _, _, _, _, _, _, _, _, _, _, _, _, _, _, _, _, _, _, _, _, _, _, _, _, _]) (M := [0, 1, 0, 4, 0, 16, 60, 127, 0, 256, 0, 1024, 3840, 0, 0, 16384, 57344, 130816, 262143, 0, 524288, 0, 2097152, 7864320, 524287, 33554431]) Tryd_mixed (by kernel_rfl) rfl (by kernel_rfl) ⟨
    okp rfl rfl (oqF (lN rfl) rfl fo_84_1),
    okp rfl rfl (oq1 (lN rfl) sh_3 rfl rfl),
    okp rfl rfl (oqF (lN rfl) rfl fo_84_0),
    okp rfl rfl (oq1 (lN rfl) sh_3 rfl rfl),
    okp rfl rfl (oqF (lN rfl) rfl fo_84_0),
    okp rfl rfl (oq1 (lN rfl) sh_3 rfl rfl),
    okp rfl rfl (oqB (lN rfl) rfl rfl (nw_sub ⟨(by omega), (by omega)⟩)),
    okp rfl rfl (oqB (lN rfl) rfl rfl (nw_mul ⟨(by omega), (by omega)⟩)),
    okp rfl rfl (oqF (lN rfl) rfl fo_84_1),
    okp rfl rfl (oq1 (lN rfl) sh_3 rfl rfl),
    okp rfl rfl (oqF (lN rfl) rfl fo_84_1),
    okp rfl rfl (oq1 (lN rfl) sh_3 rfl rfl),
    okp rfl rfl (oqB (lN rfl) rfl rfl (nw_sub ⟨(by omega), (by omega)⟩)),
    okp rfl rfl (oqM (lN rfl) rfl),
    okp rfl rfl (oqF (lN rfl) rfl fo_84_0),
    okp rfl rfl (oq1 (lN rfl) sh_3 rfl rfl),
    okp rfl rfl (oqB (lN rfl) rfl rfl (nw_sub ⟨(by omega), (by omega)⟩)),
    okp rfl rfl (oqB (lN rfl) rfl rfl (nw_mul ⟨(by omega), (by omega)⟩)),
    okp rfl rfl (oqB (lN rfl) rfl rfl (nw_add ⟨(by omega), (by omega)⟩)),
    okp rfl rfl (oqF (lN rfl) rfl fo_84_0),
    okp rfl rfl (oq1 (lN rfl) sh_3 rfl rfl),
    okp rfl rfl (oqF (lN rfl) rfl fo_84_0),
    okp rfl rfl (oq1 (lN rfl) sh_3 rfl rfl),
    okp rfl rfl (oqB (lN rfl) rfl rfl (nw_sub ⟨(by omega), (by omega)⟩)),
    okp rfl rfl (oqA (lN rfl) rfl),
    okp rfl rfl (oqA (lN rfl) rfl),
    trivial⟩ ?_
   refine fqK (s' := [kt 4 (.i (((((pt l (((k : Int)) - 1))).Y) * ((((pt l ((k : Int)))).X) - (((pt l (((k : Int)) - 1))).X))) + (((((pt l ((k : Int)))).Y) - (((pt l (((k : Int)) - 1))).Y)) * (x - (((pt l (((k : Int)) - 1))).X))))), kt 5 (.i ((((pt l ((k : Int)))).X) - (((pt l (((k : Int)) - 1))).X)))]) ?_ (kp rfl) rfl
   refine fqT ?_
   refine aqr ?_
   refine fin_block_ret ?_
   refine fqR ?_
   refine fqR ?_
   refine fin_block_ret ?_
   refine fqR ?_
   refine pqr (x := .t [.i (((((pt l (((k : Int)) - 1))).Y) * ((((pt l ((k : Int)))).X) - (((pt l (((k : Int)) - 1))).X))) + (((((pt l ((k : Int)))).Y) - (((pt l (((k : Int)) - 1))).Y)) * (x - (((pt l (((k : Int)) - 1))).X)))), .i ((((pt l ((k : Int)))).X) - (((pt l (((k : Int)) - 1))).X))]) rfl rfl (rqT rfl (rqT rfl rqN)) rfl (fun mm aa ww hr => ?_)
   show Ending.returned (.tuple #[.int .i64 (((((pt l (((k : Int)) - 1))).Y) * ((((pt l ((k : Int)))).X) - (((pt l (((k : Int)) - 1))).X))) + (((((pt l ((k : Int)))).Y) - (((pt l (((k : Int)) - 1))).Y)) * (x - (((pt l (((k : Int)) - 1))).X)))), .int .i64 ((((pt l ((k : Int)))).X) - (((pt l (((k : Int)) - 1))).X))]) = _ ∧ _
   rw [hval, show l.length - k = l.length - (k + 1) + 1 by omega, valFrom, if_pos (by omega)]
   exact ⟨rfl, hr.below⟩
  ·have _z := hz3
   have q5 := of_decide_eq_false hz3
   refine aqk ?_
   refine fqB ?_
   refine fqT ?_
   refine aqT (rows := [_, _, _]) rfl (by kernel_rfl) ⟨
    okp rfl rfl (oqM (lN rfl) rfl),
    okp rfl rfl (oqB (lN rfl) rfl rfl (nw_add ⟨(by omega), (by omega)⟩)),
    okp rfl rfl (oqA (lN rfl) rfl),
    trivial⟩ ?_
   refine fqK (s' := [kt 0 (.v (.slice l_p l.length l_c)), kt 1 (.i x), kt 6 (.i (((k : Int)) + 1))]) ?_ (kp rfl) rfl
   exact fin_loop (k + 1) ⟨by omega, by omega, by rw [hval, show l.length - k = l.length - (k + 1) + 1 by omega, valFrom, if_neg (by omega)]⟩ (by omega) ⟨rfl, rfl, rfl, trivial⟩ rfl
 ·have _z := hz1
  have q6 := of_decide_eq_false hz1
  refine aw_exit ?_
  refine fqE ?_
  refine fqE ?_
  refine fin_block_exit ?_
  refine fqT ?_
  refine aqS ?_
  have hfin : value l x = ((pt l ((l.length : Int) - 1)).Y, 1) := by rw [hval, show l.length - k = 0 by omega]; rfl
  refine aqT (rows := [_, _, _, _, _, _, _, _, _]) rfl (by kernel_rfl) ⟨
   okp rfl rfl (oqM (lN rfl) rfl),
   okp rfl rfl (oqM (lN rfl) rfl),
   okp rfl rfl (op_len (n := l.length) (lN rfl) (by rw [ss_23]; rfl) rfl rfl),
   okp rfl rfl (oqB (lN rfl) rfl rfl (nw_sub ⟨(by omega), (by omega)⟩)),
   okp rfl rfl (op_ixB (lN rfl) rfl rfl ss_23 (hl_p (ne_of_ix (i := (((l.length : Nat) : Int)) - 1) (by omega) (by omega))) (by omega) (by omega)),
   okp rfl rfl (oqG (lN rfl) rfl fo_84_1),
   okp rfl rfl (oqW (y := .i (((pt l ((((l.length : Nat) : Int)) - 1))).Y)) (lN rfl) rfl (ld1 (hl_L (ne_of_ix (i := (((l.length : Nat) : Int)) - 1) (by omega) (by omega))) ⟨0, 0⟩ (i := (((l.length : Nat) : Int)) - 1) (by omega) (by omega) 1 rfl rfl sh_3)),
   okp rfl rfl (oqA (lN rfl) rfl),
   okp rfl rfl (oqA (lN rfl) rfl),
   trivial⟩ ?_
  refine fqK (s' := [kt 4 (.i (((pt l ((((l.length : Nat) : Int)) - 1))).Y)), kt 5 (.i 1)]) ?_ (kp rfl) rfl
  refine fqT ?_
  refine aqr ?_
  refine pqr (x := .t [.i (((pt l ((((l.length : Nat) : Int)) - 1))).Y), .i 1]) rfl rfl (rqT rfl (rqT rfl rqN)) rfl (fun mm aa ww hr => ?_)
  show Ending.returned (.tuple #[.int .i64 (((pt l ((((l.length : Nat) : Int)) - 1))).Y), .int .i64 1]) = _ ∧ _
  rw [hfin]
  exact ⟨rfl, hr.below⟩
theorem c138 (s : Ship) (s_Thrust_s : SlV) (s_Water_s : SlV) (s_Ice_s : SlV) (w : World) (hs_Thrust : SlIs ePt 2 w s_Thrust_s s.Thrust) (hs_Water : SlIs ePt 2 w s_Water_s s.Water) (hs_Ice : SlIs ePt 2 w s_Ice_s s.Ice) : Calls Tryd.prog 138 #[.agg #[.int .i64 s.Class, .int .i64 s.Power, .int .i64 s.Draught, .int .i64 s.Tonnes, .slice s_Thrust_s.p s_Thrust_s.n s_Thrust_s.c, .slice s_Water_s.p s_Water_s.n s_Water_s.c, .slice s_Ice_s.p s_Ice_s.n s_Ice_s.c, .int .i64 s.Slow, .int .i64 s.Brash, .int .i64 s.Ridge, .int .i64 s.Press]] w fun e w' => e = .returned (.bool (rule1 s)) ∧ Below w.heap.size w w' := by
 obtain ⟨s0Tp, s0Tn, s0Tc⟩ := s_Thrust_s
 have hs_Thrust_l : s0Tn = s.Thrust.length := hs_Thrust.1
 subst hs_Thrust_l
 obtain ⟨s_Thrust_b, s0To, hs_Thrust_p, hs_Thrust_L⟩ := SlAt.lies' hs_Thrust
 obtain ⟨s0Wp, s0Wn, s0Wc⟩ := s_Water_s
 have hs_Water_l : s0Wn = s.Water.length := hs_Water.1
 subst hs_Water_l
 obtain ⟨s_Water_b, s0Wo, hs_Water_p, hs_Water_L⟩ := SlAt.lies' hs_Water
 obtain ⟨s0Ip, s0In, s0Ic⟩ := s_Ice_s
 have hs_Ice_l : s0In = s.Ice.length := hs_Ice.1
 subst hs_Ice_l
 obtain ⟨s_Ice_b, s0Io, hs_Ice_p, hs_Ice_L⟩ := SlAt.lies' hs_Ice
 refine enter (args := [.g [.i s.Class, .i s.Power, .i s.Draught, .i s.Tonnes, .v (.slice s0Tp s.Thrust.length s0Tc), .v (.slice s0Wp s.Water.length s0Wc), .v (.slice s0Ip s.Ice.length s0Ic), .i s.Slow, .i s.Brash, .i s.Ridge, .i s.Press]]) Tryd.func138 rfl (N := 6) rfl (Nat.le_of_ble_eq_true rfl) ?_
 refine aqS ?_
 refine aqT (rows := [_, _]) rfl (by kernel_rfl) ⟨
  okp rfl rfl (op_boxN (L := 1) (lN rfl) rfl rfl rfl),
  okp rfl rfl (oqA (lN rfl) rfl),
  trivial⟩ ?_
 refine fqK (s' := (kt 1 (.p 1 0) :: kb 1 25 11 :: sK 1 s (.v (.slice s0Tp s.Thrust.length s0Tc)) (.v (.slice s0Wp s.Water.length s0Wc)) (.v (.slice s0Ip s.Ice.length s0Ic)) [])) ?_ (kp rfl) rfl
 refine fqT ?_
 refine aqS ?_
 refine aqT (rows := [_, _, _, _]) rfl (by kernel_rfl) ⟨
  okp rfl rfl (oqF (lN rfl) rfl fo_25_0),
  okp rfl rfl (oq1 (lN rfl) sh_3 rfl rfl),
  okp rfl rfl (oqC (x := .B (within s.Class 1 6)) (fs := []) (caps := []) (extra := []) (lN rfl) en_84 rfl ⟨rfl, rfl, rfl⟩ (EvL.cons rfl (EvL.cons rfl (EvL.cons rfl EvL.nil))) (fun mm aa ww gg hr hrel => (c84 s.Class 1 6 ww))),
  okp rfl rfl (oqA (lN rfl) rfl),
  trivial⟩ ?_
 refine fqK (s' := [kt 2 (.B (within s.Class 1 6))]) ?_ (kp rfl) rfl
 refine fqT ?_
 refine aqr ?_
 refine pqr (x := .B (within s.Class 1 6)) rfl rfl (rqT rfl rqN) rfl (fun mm aa ww hr => ?_)
 show Ending.returned (.bool (within s.Class 1 6)) = _ ∧ _
 first
  | exact ⟨rfl, hr.below⟩
theorem c139 (s : Ship) (s_Thrust_s : SlV) (s_Water_s : SlV) (s_Ice_s : SlV) (w : World) (hs_Thrust : SlIs ePt 2 w s_Thrust_s s.Thrust) (hs_Water : SlIs ePt 2 w s_Water_s s.Water) (hs_Ice : SlIs ePt 2 w s_Ice_s s.Ice) : Calls Tryd.prog 139 #[.agg #[.int .i64 s.Class, .int .i64 s.Power, .int .i64 s.Draught, .int .i64 s.Tonnes, .slice s_Thrust_s.p s_Thrust_s.n s_Thrust_s.c, .slice s_Water_s.p s_Water_s.n s_Water_s.c, .slice s_Ice_s.p s_Ice_s.n s_Ice_s.c, .int .i64 s.Slow, .int .i64 s.Brash, .int .i64 s.Ridge, .int .i64 s.Press]] w fun e w' => e = .returned (.bool (rule2 s)) ∧ Below w.heap.size w w' := by
 obtain ⟨s0Tp, s0Tn, s0Tc⟩ := s_Thrust_s
 have hs_Thrust_l : s0Tn = s.Thrust.length := hs_Thrust.1
 subst hs_Thrust_l
 obtain ⟨s_Thrust_b, s0To, hs_Thrust_p, hs_Thrust_L⟩ := SlAt.lies' hs_Thrust
 obtain ⟨s0Wp, s0Wn, s0Wc⟩ := s_Water_s
 have hs_Water_l : s0Wn = s.Water.length := hs_Water.1
 subst hs_Water_l
 obtain ⟨s_Water_b, s0Wo, hs_Water_p, hs_Water_L⟩ := SlAt.lies' hs_Water
 obtain ⟨s0Ip, s0In, s0Ic⟩ := s_Ice_s
 have hs_Ice_l : s0In = s.Ice.length := hs_Ice.1
 subst hs_Ice_l
 obtain ⟨s_Ice_b, s0Io, hs_Ice_p, hs_Ice_L⟩ := SlAt.lies' hs_Ice
 refine enter (args := [.g [.i s.Class, .i s.Power, .i s.Draught, .i s.Tonnes, .v (.slice s0Tp s.Thrust.length s0Tc), .v (.slice s0Wp s.Water.length s0Wc), .v (.slice s0Ip s.Ice.length s0Ic), .i s.Slow, .i s.Brash, .i s.Ridge, .i s.Press]]) Tryd.func139 rfl (N := 16) rfl (Nat.le_of_ble_eq_true rfl) ?_
 refine aqS ?_
 refine aqT (rows := [_, _]) rfl (by kernel_rfl) ⟨
  okp rfl rfl (op_boxN (L := 1) (lN rfl) rfl rfl rfl),
  okp rfl rfl (oqA (lN rfl) rfl),
  trivial⟩ ?_
 refine fqK (s' := (kt 1 (.p 1 0) :: kb 1 25 11 :: sK 1 s (.v (.slice s0Tp s.Thrust.length s0Tc)) (.v (.slice s0Wp s.Water.length s0Wc)) (.v (.slice s0Ip s.Ice.length s0Ic)) [])) ?_ (kp rfl) rfl
 refine fqT ?_
 refine aqS ?_
 refine aqT (rows := [_, _, _, _, _, _, _, _, _, _, _, _, _, _]) rfl (by kernel_rfl) ⟨
  okp rfl rfl (oqF (lN rfl) rfl fo_25_1),
  okp rfl rfl (oq1 (lN rfl) sh_3 rfl rfl),
  okp rfl rfl (oqC (x := .B (within s.Power 100 100000)) (fs := []) (caps := []) (extra := []) (lN rfl) en_84 rfl ⟨rfl, rfl, rfl⟩ (EvL.cons rfl (EvL.cons rfl (EvL.cons rfl EvL.nil))) (fun mm aa ww gg hr hrel => (c84 s.Power 100 100000 ww))),
  okp rfl rfl (oqM (lN rfl) rfl),
  ok_if (lN rfl) rfl rfl rfl rfl rfl rfl (fun hg1 => oqF (lN rfl) (force_x rfl) fo_25_2),
  ok_if (lN rfl) rfl rfl rfl rfl rfl rfl (fun hg2 => oq1 (lN rfl) sh_3 (force_eq (beq_iff_eq.2 hg2) rfl) rfl),
  ok_if (lN rfl) rfl rfl rfl rfl rfl rfl (fun hg3 => oqC (x := .B (within s.Draught 10 2000)) (fs := []) (caps := []) (extra := []) (lN rfl) en_84 rfl ⟨rfl, rfl, rfl⟩ (EvL.cons (force_eq (beq_iff_eq.2 hg3) rfl) (EvL.cons rfl (EvL.cons rfl EvL.nil))) (fun mm aa ww gg hr hrel => (c84 s.Draught 10 2000 ww))),
  okp rfl rfl (op_and (lN rfl) rfl rfl),
  okp rfl rfl (oqM (lN rfl) rfl),
  ok_if (lN rfl) rfl rfl rfl rfl rfl rfl (fun hg4 => oqF (lN rfl) (force_x rfl) fo_25_3),
  ok_if (lN rfl) rfl rfl rfl rfl rfl rfl (fun hg5 => oq1 (lN rfl) sh_3 (force_eq (beq_iff_eq.2 hg5) rfl) rfl),
  ok_if (lN rfl) rfl rfl rfl rfl rfl rfl (fun hg6 => oqC (x := .B (within s.Tonnes 10 500000)) (fs := []) (caps := []) (extra := []) (lN rfl) en_84 rfl ⟨rfl, rfl, rfl⟩ (EvL.cons (force_eq (beq_iff_eq.2 hg6) rfl) (EvL.cons rfl (EvL.cons rfl EvL.nil))) (fun mm aa ww gg hr hrel => (c84 s.Tonnes 10 500000 ww))),
  okp rfl rfl (op_and (lN rfl) rfl rfl),
  okp rfl rfl (oqA (lN rfl) rfl),
  trivial⟩ ?_
 refine fqK (s' := [kt 2 (.B (((within s.Power 100 100000) && (within s.Draught 10 2000)) && (within s.Tonnes 10 500000)))]) ?_ (kp rfl) rfl
 refine fqT ?_
 refine aqr ?_
 refine pqr (x := .B (((within s.Power 100 100000) && (within s.Draught 10 2000)) && (within s.Tonnes 10 500000))) rfl rfl (rqT rfl rqN) rfl (fun mm aa ww hr => ?_)
 show Ending.returned (.bool (((within s.Power 100 100000) && (within s.Draught 10 2000)) && (within s.Tonnes 10 500000))) = _ ∧ _
 first
  | exact ⟨rfl, hr.below⟩
theorem c140 (s : Ship) (s_Thrust_s : SlV) (s_Water_s : SlV) (s_Ice_s : SlV) (w : World) (hs_Thrust : SlIs ePt 2 w s_Thrust_s s.Thrust) (hs_Water : SlIs ePt 2 w s_Water_s s.Water) (hs_Ice : SlIs ePt 2 w s_Ice_s s.Ice) : Calls Tryd.prog 140 #[.agg #[.int .i64 s.Class, .int .i64 s.Power, .int .i64 s.Draught, .int .i64 s.Tonnes, .slice s_Thrust_s.p s_Thrust_s.n s_Thrust_s.c, .slice s_Water_s.p s_Water_s.n s_Water_s.c, .slice s_Ice_s.p s_Ice_s.n s_Ice_s.c, .int .i64 s.Slow, .int .i64 s.Brash, .int .i64 s.Ridge, .int .i64 s.Press]] w fun e w' => e = .returned (.bool (rule3 s)) ∧ Below w.heap.size w w' := by
 obtain ⟨s0Tp, s0Tn, s0Tc⟩ := s_Thrust_s
 have hs_Thrust_l : s0Tn = s.Thrust.length := hs_Thrust.1
 subst hs_Thrust_l
 obtain ⟨s_Thrust_b, s0To, hs_Thrust_p, hs_Thrust_L⟩ := SlAt.lies' hs_Thrust
 obtain ⟨s0Wp, s0Wn, s0Wc⟩ := s_Water_s
 have hs_Water_l : s0Wn = s.Water.length := hs_Water.1
 subst hs_Water_l
 obtain ⟨s_Water_b, s0Wo, hs_Water_p, hs_Water_L⟩ := SlAt.lies' hs_Water
 obtain ⟨s0Ip, s0In, s0Ic⟩ := s_Ice_s
 have hs_Ice_l : s0In = s.Ice.length := hs_Ice.1
 subst hs_Ice_l
 obtain ⟨s_Ice_b, s0Io, hs_Ice_p, hs_Ice_L⟩ := SlAt.lies' hs_Ice
 refine enter (args := [.g [.i s.Class, .i s.Power, .i s.Draught, .i s.Tonnes, .v (.slice s0Tp s.Thrust.length s0Tc), .v (.slice s0Wp s.Water.length s0Wc), .v (.slice s0Ip s.Ice.length s0Ic), .i s.Slow, .i s.Brash, .i s.Ridge, .i s.Press]]) Tryd.func140 rfl (N := 21) rfl (Nat.le_of_ble_eq_true rfl) ?_
 refine aqS ?_
 refine aqT (rows := [_, _]) rfl (by kernel_rfl) ⟨
  okp rfl rfl (op_boxN (L := 1) (lN rfl) rfl rfl rfl),
  okp rfl rfl (oqA (lN rfl) rfl),
  trivial⟩ ?_
 refine fqK (s' := (kt 1 (.p 1 0) :: kb 1 25 11 :: sK 1 s (.v (.slice s0Tp s.Thrust.length s0Tc)) (.v (.slice s0Wp s.Water.length s0Wc)) (.v (.slice s0Ip s.Ice.length s0Ic)) [])) ?_ (kp rfl) rfl
 refine fqT ?_
 refine aqS ?_
 refine aqT (rows := [_, _, _, _, _, _, _, _, _, _, _, _, _, _, _, _, _, _, _]) rfl (by kernel_rfl) ⟨
  okp rfl rfl (oqF (lN rfl) rfl fo_25_7),
  okp rfl rfl (oq1 (lN rfl) sh_3 rfl rfl),
  okp rfl rfl (oqC (x := .B (within s.Slow 0 20)) (fs := []) (caps := []) (extra := []) (lN rfl) en_84 rfl ⟨rfl, rfl, rfl⟩ (EvL.cons rfl (EvL.cons rfl (EvL.cons rfl EvL.nil))) (fun mm aa ww gg hr hrel => (c84 s.Slow 0 20 ww))),
  okp rfl rfl (oqM (lN rfl) rfl),
  ok_if (lN rfl) rfl rfl rfl rfl rfl rfl (fun hg1 => oqF (lN rfl) (force_x rfl) fo_25_8),
  ok_if (lN rfl) rfl rfl rfl rfl rfl rfl (fun hg2 => oq1 (lN rfl) sh_3 (force_eq (beq_iff_eq.2 hg2) rfl) rfl),
  ok_if (lN rfl) rfl rfl rfl rfl rfl rfl (fun hg3 => oqC (x := .B (within s.Brash 0 100)) (fs := []) (caps := []) (extra := []) (lN rfl) en_84 rfl ⟨rfl, rfl, rfl⟩ (EvL.cons (force_eq (beq_iff_eq.2 hg3) rfl) (EvL.cons rfl (EvL.cons rfl EvL.nil))) (fun mm aa ww gg hr hrel => (c84 s.Brash 0 100 ww))),
  okp rfl rfl (op_and (lN rfl) rfl rfl),
  okp rfl rfl (oqM (lN rfl) rfl),
  ok_if (lN rfl) rfl rfl rfl rfl rfl rfl (fun hg4 => oqF (lN rfl) (force_x rfl) fo_25_9),
  ok_if (lN rfl) rfl rfl rfl rfl rfl rfl (fun hg5 => oq1 (lN rfl) sh_3 (force_eq (beq_iff_eq.2 hg5) rfl) rfl),
  ok_if (lN rfl) rfl rfl rfl rfl rfl rfl (fun hg6 => oqC (x := .B (within s.Ridge 0 500)) (fs := []) (caps := []) (extra := []) (lN rfl) en_84 rfl ⟨rfl, rfl, rfl⟩ (EvL.cons (force_eq (beq_iff_eq.2 hg6) rfl) (EvL.cons rfl (EvL.cons rfl EvL.nil))) (fun mm aa ww gg hr hrel => (c84 s.Ridge 0 500 ww))),
  okp rfl rfl (op_and (lN rfl) rfl rfl),
  okp rfl rfl (oqM (lN rfl) rfl),
  ok_if (lN rfl) rfl rfl rfl rfl rfl rfl (fun hg7 => oqF (lN rfl) (force_x rfl) fo_25_10),
  ok_if (lN rfl) rfl rfl rfl rfl rfl rfl (fun hg8 => oq1 (lN rfl) sh_3 (force_eq (beq_iff_eq.2 hg8) rfl) rfl),
  ok_if (lN rfl) rfl rfl rfl rfl rfl rfl (fun hg9 => oqC (x := .B (within s.Press 0 5000)) (fs := []) (caps := []) (extra := []) (lN rfl) en_84 rfl ⟨rfl, rfl, rfl⟩ (EvL.cons (force_eq (beq_iff_eq.2 hg9) rfl) (EvL.cons rfl (EvL.cons rfl EvL.nil))) (fun mm aa ww gg hr hrel => (c84 s.Press 0 5000 ww))),
  okp rfl rfl (op_and (lN rfl) rfl rfl),
  okp rfl rfl (oqA (lN rfl) rfl),
  trivial⟩ ?_
 refine fqK (s' := [kt 2 (.B ((((within s.Slow 0 20) && (within s.Brash 0 100)) && (within s.Ridge 0 500)) && (within s.Press 0 5000)))]) ?_ (kp rfl) rfl
 refine fqT ?_
 refine aqr ?_
 refine pqr (x := .B ((((within s.Slow 0 20) && (within s.Brash 0 100)) && (within s.Ridge 0 500)) && (within s.Press 0 5000))) rfl rfl (rqT rfl rqN) rfl (fun mm aa ww hr => ?_)
 show Ending.returned (.bool ((((within s.Slow 0 20) && (within s.Brash 0 100)) && (within s.Ridge 0 500)) && (within s.Press 0 5000))) = _ ∧ _
 first
  | exact ⟨rfl, hr.below⟩
theorem c141 (s : Ship) (s_Thrust_s : SlV) (s_Water_s : SlV) (s_Ice_s : SlV) (w : World) (hs_Thrust : SlIs ePt 2 w s_Thrust_s s.Thrust) (hs_Water : SlIs ePt 2 w s_Water_s s.Water) (hs_Ice : SlIs ePt 2 w s_Ice_s s.Ice) : Calls Tryd.prog 141 #[.agg #[.int .i64 s.Class, .int .i64 s.Power, .int .i64 s.Draught, .int .i64 s.Tonnes, .slice s_Thrust_s.p s_Thrust_s.n s_Thrust_s.c, .slice s_Water_s.p s_Water_s.n s_Water_s.c, .slice s_Ice_s.p s_Ice_s.n s_Ice_s.c, .int .i64 s.Slow, .int .i64 s.Brash, .int .i64 s.Ridge, .int .i64 s.Press]] w fun e w' => e = .returned (.bool (rule4 s)) ∧ Below w.heap.size w w' := by
 obtain ⟨s0Tp, s0Tn, s0Tc⟩ := s_Thrust_s
 have hs_Thrust_l : s0Tn = s.Thrust.length := hs_Thrust.1
 subst hs_Thrust_l
 obtain ⟨s_Thrust_b, s0To, hs_Thrust_p, hs_Thrust_L⟩ := SlAt.lies' hs_Thrust
 obtain ⟨s0Wp, s0Wn, s0Wc⟩ := s_Water_s
 have hs_Water_l : s0Wn = s.Water.length := hs_Water.1
 subst hs_Water_l
 obtain ⟨s_Water_b, s0Wo, hs_Water_p, hs_Water_L⟩ := SlAt.lies' hs_Water
 obtain ⟨s0Ip, s0In, s0Ic⟩ := s_Ice_s
 have hs_Ice_l : s0In = s.Ice.length := hs_Ice.1
 subst hs_Ice_l
 obtain ⟨s_Ice_b, s0Io, hs_Ice_p, hs_Ice_L⟩ := SlAt.lies' hs_Ice
 refine enter (args := [.g [.i s.Class, .i s.Power, .i s.Draught, .i s.Tonnes, .v (.slice s0Tp s.Thrust.length s0Tc), .v (.slice s0Wp s.Water.length s0Wc), .v (.slice s0Ip s.Ice.length s0Ic), .i s.Slow, .i s.Brash, .i s.Ridge, .i s.Press]]) Tryd.func141 rfl (N := 12) rfl (Nat.le_of_ble_eq_true rfl) ?_
 refine aqS ?_
 refine aqT (rows := [_, _]) rfl (by kernel_rfl) ⟨
  okp rfl rfl (op_boxN (L := 1) (lN rfl) rfl rfl rfl),
  okp rfl rfl (oqA (lN rfl) rfl),
  trivial⟩ ?_
 refine fqK (s' := (kt 1 (.p 1 0) :: kb 1 25 11 :: sK 1 s (.v (.slice s0Tp s.Thrust.length s0Tc)) (.v (.slice s0Wp s.Water.length s0Wc)) (.v (.slice s0Ip s.Ice.length s0Ic)) [])) ?_ (kp rfl) rfl
 refine fqT ?_
 refine aqS ?_
 refine aqT (rows := [_, _, _, _, _, _, _, _, _, _]) rfl (by kernel_rfl) ⟨
  okp rfl rfl (oqF (lN rfl) rfl fo_25_4),
  okp rfl rfl (oq1 (lN rfl) sh_23 rfl rfl),
  okp rfl rfl (oqC (x := .B (steady s.Thrust ((-1)))) (fs := []) (caps := []) (extra := []) (lN rfl) en_142 rfl ⟨rfl, rfl, rfl⟩ (EvL.cons rfl (EvL.cons rfl EvL.nil)) (fun mm aa ww gg hr hrel => (c142 s.Thrust ⟨s0Tp, s.Thrust.length, s0Tc⟩ ((-1)) ww (SlIs.mono hs_Thrust hrel.below) (by first | assumption | omega)))),
  okp rfl rfl (oqM (lN rfl) rfl),
  ok_if (lN rfl) rfl rfl rfl rfl rfl rfl (fun hg1 => oqF (lN rfl) (force_x rfl) fo_25_4),
  ok_if (lN rfl) rfl rfl rfl rfl rfl rfl (fun hg2 => oq1 (lN rfl) sh_23 (force_eq (beq_iff_eq.2 hg2) rfl) rfl),
  ok_if (lN rfl) rfl rfl rfl rfl rfl rfl (fun hg3 => oqC (x := .i (endX s.Thrust)) (fs := []) (caps := []) (extra := []) (lN rfl) en_137 rfl ⟨rfl, rfl, rfl⟩ (EvL.cons (force_eq (beq_iff_eq.2 hg3) rfl) EvL.nil) (fun mm aa ww gg hr hrel => (c137 s.Thrust ⟨s0Tp, s.Thrust.length, s0Tc⟩ ww (SlIs.mono hs_Thrust hrel.below) (by have g0 := steady_len hg3; have g1 := hg3; first | exact steady_curve (w := 1) (by assumption) | exact steady_curve (w := -1) (by assumption))))),
  ok_if (lN rfl) rfl rfl rfl rfl rfl rfl (fun hg4 => oqC (x := .B (within (endX s.Thrust) 10 250)) (fs := []) (caps := []) (extra := []) (lN rfl) en_84 rfl ⟨rfl, rfl, rfl⟩ (EvL.cons (force_eq (beq_iff_eq.2 hg4) rfl) (EvL.cons rfl (EvL.cons rfl EvL.nil))) (fun mm aa ww gg hr hrel => (c84 (endX s.Thrust) 10 250 ww))),
  okp rfl rfl (op_and (lN rfl) rfl rfl),
  okp rfl rfl (oqA (lN rfl) rfl),
  trivial⟩ ?_
 refine fqK (s' := [kt 2 (.B ((steady s.Thrust ((-1))) && (within (endX s.Thrust) 10 250)))]) ?_ (kp rfl) rfl
 refine fqT ?_
 refine aqr ?_
 refine pqr (x := .B ((steady s.Thrust ((-1))) && (within (endX s.Thrust) 10 250))) rfl rfl (rqT rfl rqN) rfl (fun mm aa ww hr => ?_)
 show Ending.returned (.bool ((steady s.Thrust ((-1))) && (within (endX s.Thrust) 10 250))) = _ ∧ _
 first
  | exact ⟨rfl, hr.below⟩
theorem c143 (s : Ship) (s_Thrust_s : SlV) (s_Water_s : SlV) (s_Ice_s : SlV) (w : World) (hs_Thrust : SlIs ePt 2 w s_Thrust_s s.Thrust) (hs_Water : SlIs ePt 2 w s_Water_s s.Water) (hs_Ice : SlIs ePt 2 w s_Ice_s s.Ice) : Calls Tryd.prog 143 #[.agg #[.int .i64 s.Class, .int .i64 s.Power, .int .i64 s.Draught, .int .i64 s.Tonnes, .slice s_Thrust_s.p s_Thrust_s.n s_Thrust_s.c, .slice s_Water_s.p s_Water_s.n s_Water_s.c, .slice s_Ice_s.p s_Ice_s.n s_Ice_s.c, .int .i64 s.Slow, .int .i64 s.Brash, .int .i64 s.Ridge, .int .i64 s.Press]] w fun e w' => e = .returned (.bool (rule5 s)) ∧ Below w.heap.size w w' := by
 obtain ⟨s0Tp, s0Tn, s0Tc⟩ := s_Thrust_s
 have hs_Thrust_l : s0Tn = s.Thrust.length := hs_Thrust.1
 subst hs_Thrust_l
 obtain ⟨s_Thrust_b, s0To, hs_Thrust_p, hs_Thrust_L⟩ := SlAt.lies' hs_Thrust
 obtain ⟨s0Wp, s0Wn, s0Wc⟩ := s_Water_s
 have hs_Water_l : s0Wn = s.Water.length := hs_Water.1
 subst hs_Water_l
 obtain ⟨s_Water_b, s0Wo, hs_Water_p, hs_Water_L⟩ := SlAt.lies' hs_Water
 obtain ⟨s0Ip, s0In, s0Ic⟩ := s_Ice_s
 have hs_Ice_l : s0In = s.Ice.length := hs_Ice.1
 subst hs_Ice_l
 obtain ⟨s_Ice_b, s0Io, hs_Ice_p, hs_Ice_L⟩ := SlAt.lies' hs_Ice
 refine enter (args := [.g [.i s.Class, .i s.Power, .i s.Draught, .i s.Tonnes, .v (.slice s0Tp s.Thrust.length s0Tc), .v (.slice s0Wp s.Water.length s0Wc), .v (.slice s0Ip s.Ice.length s0Ic), .i s.Slow, .i s.Brash, .i s.Ridge, .i s.Press]]) Tryd.func143 rfl (N := 12) rfl (Nat.le_of_ble_eq_true rfl) ?_
 refine aqS ?_
 refine aqT (rows := [_, _]) rfl (by kernel_rfl) ⟨
  okp rfl rfl (op_boxN (L := 1) (lN rfl) rfl rfl rfl),
  okp rfl rfl (oqA (lN rfl) rfl),
  trivial⟩ ?_
 refine fqK (s' := (kt 1 (.p 1 0) :: kb 1 25 11 :: sK 1 s (.v (.slice s0Tp s.Thrust.length s0Tc)) (.v (.slice s0Wp s.Water.length s0Wc)) (.v (.slice s0Ip s.Ice.length s0Ic)) [])) ?_ (kp rfl) rfl
 refine fqT ?_
 refine aqS ?_
 refine aqT (rows := [_, _, _, _, _, _, _, _, _, _]) rfl (by kernel_rfl) ⟨
  okp rfl rfl (oqF (lN rfl) rfl fo_25_5),
  okp rfl rfl (oq1 (lN rfl) sh_23 rfl rfl),
  okp rfl rfl (oqC (x := .B (steady s.Water 1)) (fs := []) (caps := []) (extra := []) (lN rfl) en_142 rfl ⟨rfl, rfl, rfl⟩ (EvL.cons rfl (EvL.cons rfl EvL.nil)) (fun mm aa ww gg hr hrel => (c142 s.Water ⟨s0Wp, s.Water.length, s0Wc⟩ 1 ww (SlIs.mono hs_Water hrel.below) (by first | assumption | omega)))),
  okp rfl rfl (oqM (lN rfl) rfl),
  ok_if (lN rfl) rfl rfl rfl rfl rfl rfl (fun hg1 => oqF (lN rfl) (force_x rfl) fo_25_5),
  ok_if (lN rfl) rfl rfl rfl rfl rfl rfl (fun hg2 => oq1 (lN rfl) sh_23 (force_eq (beq_iff_eq.2 hg2) rfl) rfl),
  ok_if (lN rfl) rfl rfl rfl rfl rfl rfl (fun hg3 => oqC (x := .i (endX s.Water)) (fs := []) (caps := []) (extra := []) (lN rfl) en_137 rfl ⟨rfl, rfl, rfl⟩ (EvL.cons (force_eq (beq_iff_eq.2 hg3) rfl) EvL.nil) (fun mm aa ww gg hr hrel => (c137 s.Water ⟨s0Wp, s.Water.length, s0Wc⟩ ww (SlIs.mono hs_Water hrel.below) (by have g0 := steady_len hg3; have g1 := hg3; first | exact steady_curve (w := 1) (by assumption) | exact steady_curve (w := -1) (by assumption))))),
  ok_if (lN rfl) rfl rfl rfl rfl rfl rfl (fun hg4 => oqB (lN rfl) (force_eq (beq_iff_eq.2 hg4) rfl) rfl rfl),
  okp rfl rfl (op_and (lN rfl) rfl rfl),
  okp rfl rfl (oqA (lN rfl) rfl),
  trivial⟩ ?_
 refine fqK (s' := [kt 2 (.B ((steady s.Water 1) && (decide ((endX s.Water) ≤ 250))))]) ?_ (kp rfl) rfl
 refine fqT ?_
 refine aqr ?_
 refine pqr (x := .B ((steady s.Water 1) && (decide ((endX s.Water) ≤ 250)))) rfl rfl (rqT rfl rqN) rfl (fun mm aa ww hr => ?_)
 show Ending.returned (.bool ((steady s.Water 1) && (decide ((endX s.Water) ≤ 250)))) = _ ∧ _
 first
  | exact ⟨rfl, hr.below⟩
theorem c144 (s : Ship) (s_Thrust_s : SlV) (s_Water_s : SlV) (s_Ice_s : SlV) (w : World) (hs_Thrust : SlIs ePt 2 w s_Thrust_s s.Thrust) (hs_Water : SlIs ePt 2 w s_Water_s s.Water) (hs_Ice : SlIs ePt 2 w s_Ice_s s.Ice) : Calls Tryd.prog 144 #[.agg #[.int .i64 s.Class, .int .i64 s.Power, .int .i64 s.Draught, .int .i64 s.Tonnes, .slice s_Thrust_s.p s_Thrust_s.n s_Thrust_s.c, .slice s_Water_s.p s_Water_s.n s_Water_s.c, .slice s_Ice_s.p s_Ice_s.n s_Ice_s.c, .int .i64 s.Slow, .int .i64 s.Brash, .int .i64 s.Ridge, .int .i64 s.Press]] w fun e w' => e = .returned (.bool (rule6 s)) ∧ Below w.heap.size w w' := by
 obtain ⟨s0Tp, s0Tn, s0Tc⟩ := s_Thrust_s
 have hs_Thrust_l : s0Tn = s.Thrust.length := hs_Thrust.1
 subst hs_Thrust_l
 obtain ⟨s_Thrust_b, s0To, hs_Thrust_p, hs_Thrust_L⟩ := SlAt.lies' hs_Thrust
 obtain ⟨s0Wp, s0Wn, s0Wc⟩ := s_Water_s
 have hs_Water_l : s0Wn = s.Water.length := hs_Water.1
 subst hs_Water_l
 obtain ⟨s_Water_b, s0Wo, hs_Water_p, hs_Water_L⟩ := SlAt.lies' hs_Water
 obtain ⟨s0Ip, s0In, s0Ic⟩ := s_Ice_s
 have hs_Ice_l : s0In = s.Ice.length := hs_Ice.1
 subst hs_Ice_l
 obtain ⟨s_Ice_b, s0Io, hs_Ice_p, hs_Ice_L⟩ := SlAt.lies' hs_Ice
 refine enter (args := [.g [.i s.Class, .i s.Power, .i s.Draught, .i s.Tonnes, .v (.slice s0Tp s.Thrust.length s0Tc), .v (.slice s0Wp s.Water.length s0Wc), .v (.slice s0Ip s.Ice.length s0Ic), .i s.Slow, .i s.Brash, .i s.Ridge, .i s.Press]]) Tryd.func144 rfl (N := 20) rfl (Nat.le_of_ble_eq_true rfl) ?_
 refine aqS ?_
 refine aqT (rows := [_, _]) rfl (by kernel_rfl) ⟨
  okp rfl rfl (op_boxN (L := 1) (lN rfl) rfl rfl rfl),
  okp rfl rfl (oqA (lN rfl) rfl),
  trivial⟩ ?_
 refine fqK (s' := (kt 1 (.p 1 0) :: kb 1 25 11 :: sK 1 s (.v (.slice s0Tp s.Thrust.length s0Tc)) (.v (.slice s0Wp s.Water.length s0Wc)) (.v (.slice s0Ip s.Ice.length s0Ic)) [])) ?_ (kp rfl) rfl
 refine fqT ?_
 refine aqS ?_
 refine aqT (rows := [_, _, _, _, _, _, _, _, _, _, _, _, _, _, _, _, _, _]) rfl (by kernel_rfl) ⟨
  okp rfl rfl (oqF (lN rfl) rfl fo_25_6),
  okp rfl rfl (oq1 (lN rfl) sh_23 rfl rfl),
  okp rfl rfl (oqC (x := .B (steady s.Ice 1)) (fs := []) (caps := []) (extra := []) (lN rfl) en_142 rfl ⟨rfl, rfl, rfl⟩ (EvL.cons rfl (EvL.cons rfl EvL.nil)) (fun mm aa ww gg hr hrel => (c142 s.Ice ⟨s0Ip, s.Ice.length, s0Ic⟩ 1 ww (SlIs.mono hs_Ice hrel.below) (by first | assumption | omega)))),
  okp rfl rfl (oqM (lN rfl) rfl),
  ok_if (lN rfl) rfl rfl rfl rfl rfl rfl (fun hg1 => oqF (lN rfl) (force_x rfl) fo_25_6),
  ok_if (lN rfl) rfl rfl rfl rfl rfl rfl (fun hg2 => oq1 (lN rfl) sh_23 (force_eq (beq_iff_eq.2 hg2) rfl) rfl),
  ok_if (lN rfl) rfl rfl rfl rfl rfl rfl (fun hg3 => op_ixB (lN rfl) (force_eq (beq_iff_eq.2 hg3) rfl) rfl ss_23 (hs_Ice_p (ne_of_ix (i := 0) (by have g0 := steady_len hg3; have g1 := hg3; omega) (by have g0 := steady_len hg3; have g1 := hg3; omega))) (by have g0 := steady_len hg3; have g1 := hg3; omega) (by have g0 := steady_len hg3; have g1 := hg3; omega)),
  ok_if (lN rfl) rfl rfl rfl rfl rfl rfl (fun hg4 => oqG (lN rfl) (force_eq (beq_iff_eq.2 hg4) rfl) fo_84_1),
  ok_if (lN rfl) rfl rfl rfl rfl rfl rfl (fun hg5 => oqW (y := .i (((pt s.Ice 0)).Y)) (lN rfl) (force_eq (beq_iff_eq.2 hg5) rfl) (ld1 (hs_Ice_L (ne_of_ix (i := 0) (by have g0 := steady_len hg5; have g1 := hg5; omega) (by have g0 := steady_len hg5; have g1 := hg5; omega))) ⟨0, 0⟩ (i := 0) (by have g0 := steady_len hg5; have g1 := hg5; omega) (by have g0 := steady_len hg5; have g1 := hg5; omega) 1 rfl rfl sh_3)),
  ok_if (lN rfl) rfl rfl rfl rfl rfl rfl (fun hg6 => oqB (lN rfl) (force_eq (beq_iff_eq.2 hg6) rfl) rfl rfl),
  okp rfl rfl (op_and (lN rfl) rfl rfl),
  okp rfl rfl (oqM (lN rfl) rfl),
  ok_if (lN rfl) rfl rfl rfl rfl rfl rfl (fun hg7 => oqF (lN rfl) (force_x rfl) fo_25_6),
  ok_if (lN rfl) rfl rfl rfl rfl rfl rfl (fun hg8 => oq1 (lN rfl) sh_23 (force_eq (beq_iff_eq.2 hg8) rfl) rfl),
  ok_if (lN rfl) rfl rfl rfl rfl rfl rfl (fun hg9 => oqC (x := .i (endX s.Ice)) (fs := []) (caps := []) (extra := []) (lN rfl) en_137 rfl ⟨rfl, rfl, rfl⟩ (EvL.cons (force_eq (beq_iff_eq.2 hg9) rfl) EvL.nil) (fun mm aa ww gg hr hrel => (c137 s.Ice ⟨s0Ip, s.Ice.length, s0Ic⟩ ww (SlIs.mono hs_Ice hrel.below) (by have g0 := steady_len (and_tl hg9); have g1 := and_tl hg9; have g2 := eq_t (and_tr hg9); first | exact steady_curve (w := 1) (by assumption) | exact steady_curve (w := -1) (by assumption))))),
  ok_if (lN rfl) rfl rfl rfl rfl rfl rfl (fun hg10 => oqB (lN rfl) (force_eq (beq_iff_eq.2 hg10) rfl) rfl rfl),
  okp rfl rfl (op_and (lN rfl) rfl rfl),
  okp rfl rfl (oqA (lN rfl) rfl),
  trivial⟩ ?_
 refine fqK (s' := [kt 2 (.B (((steady s.Ice 1) && ((((pt s.Ice 0)).Y) == 0)) && ((endX s.Ice) == 400)))]) ?_ (kp rfl) rfl
 refine fqT ?_
 refine aqr ?_
 refine pqr (x := .B (((steady s.Ice 1) && ((((pt s.Ice 0)).Y) == 0)) && ((endX s.Ice) == 400))) rfl rfl (rqT rfl rqN) rfl (fun mm aa ww hr => ?_)
 show Ending.returned (.bool (((steady s.Ice 1) && ((((pt s.Ice 0)).Y) == 0)) && ((endX s.Ice) == 400))) = _ ∧ _
 first
  | exact ⟨rfl, hr.below⟩
theorem c113  (w : World)  : Calls Tryd.prog 113 #[] w fun e w' => ∃ p c, e = .returned (.slice p (6) c) ∧ NewAt w w' p (6) c 174 2 ([(.func (.func 138) #[] #[]), (.int .i64 41), (.func (.func 139) #[] #[]), (.int .i64 40), (.func (.func 140) #[] #[]), (.int .i64 40), (.func (.func 141) #[] #[]), (.int .i64 40), (.func (.func 143) #[] #[]), (.int .i64 40), (.func (.func 144) #[] #[]), (.int .i64 40)]) ∧ Below w.heap.size w w' := by
 refine enter (args := []) Tryd.func113 rfl (N := 8) rfl (Nat.le_of_ble_eq_true rfl) ?_
 refine aqS ?_
 refine aqT (rows := [_]) rfl (by kernel_rfl) ⟨
  okp rfl rfl (oqA (lN rfl) rfl),
  trivial⟩ ?_
 refine fqK (s' := []) ?_ trivial rfl
 refine fqT ?_
 refine aqS ?_
 refine aqT (rows := [_, _, _, _, _, _, _, _]) rfl (by kernel_rfl) ⟨
  okp rfl rfl (op_build (x := .g [.v (.func (.func 138) #[] #[]), .i 41]) (lN rfl) (EvL.cons rfl (EvL.cons rfl EvL.nil)) (fun m w => by kernel_rfl)),
  okp rfl rfl (op_build (x := .g [.v (.func (.func 139) #[] #[]), .i 40]) (lN rfl) (EvL.cons rfl (EvL.cons rfl EvL.nil)) (fun m w => by kernel_rfl)),
  okp rfl rfl (op_build (x := .g [.v (.func (.func 140) #[] #[]), .i 40]) (lN rfl) (EvL.cons rfl (EvL.cons rfl EvL.nil)) (fun m w => by kernel_rfl)),
  okp rfl rfl (op_build (x := .g [.v (.func (.func 141) #[] #[]), .i 40]) (lN rfl) (EvL.cons rfl (EvL.cons rfl EvL.nil)) (fun m w => by kernel_rfl)),
  okp rfl rfl (op_build (x := .g [.v (.func (.func 143) #[] #[]), .i 40]) (lN rfl) (EvL.cons rfl (EvL.cons rfl EvL.nil)) (fun m w => by kernel_rfl)),
  okp rfl rfl (op_build (x := .g [.v (.func (.func 144) #[] #[]), .i 40]) (lN rfl) (EvL.cons rfl (EvL.cons rfl EvL.nil)) (fun m w => by kernel_rfl)),
  okp rfl rfl (op_buildSlice (L := 1) (ety := 174) (cs := [.v (.func (.func 138) #[] #[]), .i 41, .v (.func (.func 139) #[] #[]), .i 40, .v (.func (.func 140) #[] #[]), .i 40, .v (.func (.func 141) #[] #[]), .i 40, .v (.func (.func 143) #[] #[]), .i 40, .v (.func (.func 144) #[] #[]), .i 40]) (lN rfl) (EvL.cons rfl (EvL.cons rfl (EvL.cons rfl (EvL.cons rfl (EvL.cons rfl (EvL.cons rfl EvL.nil)))))) rfl (fun m w => by kernel_rfl)),
  okp rfl rfl (oqA (lN rfl) rfl),
  trivial⟩ ?_
 refine fqK (s' := [kt 0 (.s 1 0 6 6), kb 1 174 12, kc 1 0 (.v (.func (.func 138) #[] #[])), kc 1 1 (.i 41), kc 1 2 (.v (.func (.func 139) #[] #[])), kc 1 3 (.i 40), kc 1 4 (.v (.func (.func 140) #[] #[])), kc 1 5 (.i 40), kc 1 6 (.v (.func (.func 141) #[] #[])), kc 1 7 (.i 40), kc 1 8 (.v (.func (.func 143) #[] #[])), kc 1 9 (.i 40), kc 1 10 (.v (.func (.func 144) #[] #[])), kc 1 11 (.i 40)]) ?_ (kp rfl) rfl
 refine fqT ?_
 refine aqr ?_
 refine pqr (x := .s 1 0 6 6) rfl rfl (rqT rfl rqN) rfl (fun mm aa ww hr => ?_)
 exact ⟨_, _, rfl, newAt_box hr mine_nil rfl rfl (by decide) ⟨rfl, rfl, rfl, rfl, rfl, rfl, rfl, rfl, rfl, rfl, rfl, rfl, trivial⟩, hr.below⟩
theorem c46 (s : Ship) (s_Thrust_s : SlV) (s_Water_s : SlV) (s_Ice_s : SlV) (w : World) (hs_Thrust : SlIs ePt 2 w s_Thrust_s s.Thrust) (hs_Water : SlIs ePt 2 w s_Water_s s.Water) (hs_Ice : SlIs ePt 2 w s_Ice_s s.Ice) : Calls Tryd.prog 46 #[.agg #[.int .i64 s.Class, .int .i64 s.Power, .int .i64 s.Draught, .int .i64 s.Tonnes, .slice s_Thrust_s.p s_Thrust_s.n s_Thrust_s.c, .slice s_Water_s.p s_Water_s.n s_Water_s.c, .slice s_Ice_s.p s_Ice_s.n s_Ice_s.c, .int .i64 s.Slow, .int .i64 s.Brash, .int .i64 s.Ridge, .int .i64 s.Press]] w fun e w' => e = .returned (.int .i64 (check s)) ∧ Below w.heap.size w w' := by
 obtain ⟨s0Tp, s0Tn, s0Tc⟩ := s_Thrust_s
 have hs_Thrust_l : s0Tn = s.Thrust.length := hs_Thrust.1
 subst hs_Thrust_l
 obtain ⟨s_Thrust_b, s0To, hs_Thrust_p, hs_Thrust_L⟩ := SlAt.lies' hs_Thrust
 obtain ⟨s0Wp, s0Wn, s0Wc⟩ := s_Water_s
 have hs_Water_l : s0Wn = s.Water.length := hs_Water.1
 subst hs_Water_l
 obtain ⟨s_Water_b, s0Wo, hs_Water_p, hs_Water_L⟩ := SlAt.lies' hs_Water
 obtain ⟨s0Ip, s0In, s0Ic⟩ := s_Ice_s
 have hs_Ice_l : s0In = s.Ice.length := hs_Ice.1
 subst hs_Ice_l
 obtain ⟨s_Ice_b, s0Io, hs_Ice_p, hs_Ice_L⟩ := SlAt.lies' hs_Ice
 refine enter (args := [.g [.i s.Class, .i s.Power, .i s.Draught, .i s.Tonnes, .v (.slice s0Tp s.Thrust.length s0Tc), .v (.slice s0Wp s.Water.length s0Wc), .v (.slice s0Ip s.Ice.length s0Ic), .i s.Slow, .i s.Brash, .i s.Ridge, .i s.Press]]) Tryd.func46 rfl (N := 19) rfl (Nat.le_of_ble_eq_true rfl) ?_
 refine aqS ?_
 refine aqT (rows := [_, _]) rfl (by kernel_rfl) ⟨
  okp rfl rfl (op_boxN (L := 1) (lN rfl) rfl rfl rfl),
  okp rfl rfl (oqA (lN rfl) rfl),
  trivial⟩ ?_
 refine fqK (s' := (kt 1 (.p 1 0) :: kb 1 25 11 :: sK 1 s (.v (.slice s0Tp s.Thrust.length s0Tc)) (.v (.slice s0Wp s.Water.length s0Wc)) (.v (.slice s0Ip s.Ice.length s0Ic)) [])) ?_ (kp rfl) rfl
 refine fqT ?_
 refine aqS ?_
 refine aqS ?_
 refine aqT (rows := [_, _, _]) rfl (by kernel_rfl) ⟨
  okp rfl rfl (op_callRow (L := 2) (C := 3) (own := false) (fs := []) (caps := []) (extra := []) (lN rfl) en_113 rfl ⟨rfl, rfl, rfl⟩ EvL.nil (by decide) (fun mm aa ww gg hr hrel => (c113 ww))),
  okp rfl rfl (op_lenO (n := 6) (lN rfl) (by rw [ss_171]; rfl) rfl),
  okp rfl rfl (oqM (lN rfl) rfl),
  trivial⟩ ?_
 refine fqK (s' := (kt 1 (.p 1 0) :: kt 5 (.o 2 3 6) :: kt 6 (.i 6) :: kt 7 (.i 0) :: kb 1 25 11 :: (.r 2, some (.vec false 3 174 2 ([(.func (.func 138) #[] #[]), (.int .i64 41), (.func (.func 139) #[] #[]), (.int .i64 40), (.func (.func 140) #[] #[]), (.int .i64 40), (.func (.func 141) #[] #[]), (.int .i64 40), (.func (.func 143) #[] #[]), (.int .i64 40), (.func (.func 144) #[] #[]), (.int .i64 40)]))) :: sK 1 s (.v (.slice s0Tp s.Thrust.length s0Tc)) (.v (.slice s0Wp s.Water.length s0Wc)) (.v (.slice s0Ip s.Ice.length s0Ic)) [])) ?_ (kp rfl) rfl
 refine fqT ?_
 refine aw_block ?_
 refine aw_rounds 6 ?_
 refine aqS ?_
 refine aqT (rows := [_]) rfl (by kernel_rfl) ⟨
  okp rfl rfl (oqB (r := .bool true) (lN rfl) rfl rfl rfl),
  trivial⟩ ?_
 refine fqK (s' := (kt 1 (.p 1 0) :: kt 5 (.o 2 3 6) :: kt 6 (.i 6) :: kt 7 (.i 0) :: kt 8 (.B true) :: kb 1 25 11 :: (.r 2, some (.vec false 3 174 2 ([(.func (.func 138) #[] #[]), (.int .i64 41), (.func (.func 139) #[] #[]), (.int .i64 40), (.func (.func 140) #[] #[]), (.int .i64 40), (.func (.func 141) #[] #[]), (.int .i64 40), (.func (.func 143) #[] #[]), (.int .i64 40), (.func (.func 144) #[] #[]), (.int .i64 40)]))) :: sK 1 s (.v (.slice s0Tp s.Thrust.length s0Tc)) (.v (.slice s0Wp s.Water.length s0Wc)) (.v (.slice s0Ip s.Ice.length s0Ic)) [])) ?_ (kp rfl) rfl
 refine fqT ?_
 refine aqS ?_
 refine aqc rfl (fun hz1 => ?_) (fun hz1 => by cases hz1)
 refine aqk ?_
 refine fqT ?_
 refine aqS ?_
 refine aw_block ?_
 refine aqS ?_
 refine aqT (rows := [_, _, _, _]) rfl (by kernel_rfl) ⟨
  okp rfl rfl (op_ixO (lN rfl) rfl rfl ss_171 rfl (by simp) (by omega) (by omega)),
  okp rfl rfl (op_loadON (vs := [(.func (.func 138) #[] #[]), (.int .i64 41)]) (lN rfl) sh_174 rfl rfl rfl (fun zq zv zh => sub_get (n := 0) (vs := [(.func (.func 138) #[] #[]), (.int .i64 41)]) rfl zh)),
  okp rfl rfl (oqa (L := 4) (lN rfl) zl_174),
  okp rfl rfl (oqS sz_174 rfl rfl rfl rfl rfl (by decide)),
  trivial⟩ ?_
 refine fqK (s' := (kt 1 (.p 1 0) :: kt 4 (.p 4 0) :: kt 5 (.o 2 3 6) :: kt 6 (.i 6) :: kt 7 (.i 0) :: kb 1 25 11 :: kb 4 174 2 :: (.r 2, some (.vec false 3 174 2 ([(.func (.func 138) #[] #[]), (.int .i64 41), (.func (.func 139) #[] #[]), (.int .i64 40), (.func (.func 140) #[] #[]), (.int .i64 40), (.func (.func 141) #[] #[]), (.int .i64 40), (.func (.func 143) #[] #[]), (.int .i64 40), (.func (.func 144) #[] #[]), (.int .i64 40)]))) :: sK 1 s (.v (.slice s0Tp s.Thrust.length s0Tc)) (.v (.slice s0Wp s.Water.length s0Wc)) (.v (.slice s0Ip s.Ice.length s0Ic)) [kc 4 0 (.v (.func (.func 138) #[] #[])), kc 4 1 (.i 41)])) ?_ (kp rfl) rfl
 refine fqT ?_
 refine aqS ?_
 refine aqT (rows := [_, _, _, _, _]) rfl (by kernel_rfl) ⟨
  okp rfl rfl (oqF (lN rfl) rfl fo_174_0),
  okp rfl rfl (oq1 (lN rfl) sh_57 rfl rfl),
  okp rfl rfl (oqL (ys := [.i s.Class, .i s.Power, .i s.Draught, .i s.Tonnes, .v (.slice s0Tp s.Thrust.length s0Tc), .v (.slice s0Wp s.Water.length s0Wc), .v (.slice s0Ip s.Ice.length s0Ic), .i s.Slow, .i s.Brash, .i s.Ridge, .i s.Press]) (lN rfl) sh_25 rfl rfl ⟨rfl, rfl, rfl, rfl, rfl, rfl, rfl, rfl, rfl, rfl, rfl, trivial⟩),
  okp rfl rfl (oqC (x := .B (rule1 s)) (fs := []) (caps := []) (extra := []) (lN rfl) en_138 rfl ⟨rfl, rfl, rfl⟩ (EvL.cons rfl EvL.nil) (fun mm aa ww gg hr hrel => (c138 s ⟨s0Tp, s.Thrust.length, s0Tc⟩ ⟨s0Wp, s.Water.length, s0Wc⟩ ⟨s0Ip, s.Ice.length, s0Ic⟩ ww (SlIs.mono hs_Thrust hrel.below) (SlIs.mono hs_Water hrel.below) (SlIs.mono hs_Ice hrel.below)))),
  okp rfl rfl (oqn (lN rfl) rfl),
  trivial⟩ ?_
 refine fqK (s' := (kt 1 (.p 1 0) :: kt 4 (.p 4 0) :: kt 5 (.o 2 3 6) :: kt 6 (.i 6) :: kt 7 (.i 0) :: kt 15 (.B (!(rule1 s))) :: kb 1 25 11 :: kb 4 174 2 :: (.r 2, some (.vec false 3 174 2 ([(.func (.func 138) #[] #[]), (.int .i64 41), (.func (.func 139) #[] #[]), (.int .i64 40), (.func (.func 140) #[] #[]), (.int .i64 40), (.func (.func 141) #[] #[]), (.int .i64 40), (.func (.func 143) #[] #[]), (.int .i64 40), (.func (.func 144) #[] #[]), (.int .i64 40)]))) :: sK 1 s (.v (.slice s0Tp s.Thrust.length s0Tc)) (.v (.slice s0Wp s.Water.length s0Wc)) (.v (.slice s0Ip s.Ice.length s0Ic)) [kc 4 0 (.v (.func (.func 138) #[] #[])), kc 4 1 (.i 41)])) ?_ (kp rfl) rfl
 refine fqT ?_
 refine aqc rfl (fun hz2 => ?_) (fun hz2 => ?_)
 ·have _z := hz2
  have q3 := not_t hz2
  refine aqS ?_
  refine aqT (rows := [_, _, _]) rfl (by kernel_rfl) ⟨
   okp rfl rfl (oqF (lN rfl) rfl fo_174_1),
   okp rfl rfl (oq1 (lN rfl) sh_36 rfl rfl),
   okp rfl rfl (oqA (lN rfl) rfl),
   trivial⟩ ?_
  refine fqK (s' := [kt 2 (.i 41)]) ?_ (kp rfl) rfl
  refine fqT ?_
  refine aqr ?_
  refine fin_block_ret ?_
  refine fqR ?_
  refine fqR ?_
  refine fin_block_ret ?_
  refine fqR ?_
  refine pqr (x := .i 41) rfl rfl (rqT rfl rqN) rfl (fun mm aa ww hr => ?_)
  show Ending.returned (.int .i64 41) = _ ∧ _
  exact ⟨by clear hr; simp_all [check], hr.below⟩
 ·have _z := hz2
  have q4 := not_f hz2
  refine aqk ?_
  refine fqB ?_
  refine fqT ?_
  refine aqT (rows := [_, _]) rfl (by kernel_rfl) ⟨
   okp rfl rfl (oqB (r := .int .i64 1) (lN rfl) rfl rfl rfl),
   okp rfl rfl (oqM (lN rfl) rfl),
   trivial⟩ ?_
  refine fqK (s' := (kt 1 (.p 1 0) :: kt 5 (.o 2 3 6) :: kt 6 (.i 6) :: kt 7 (.i 1) :: kb 1 25 11 :: (.r 2, some (.vec false 3 174 2 ([(.func (.func 138) #[] #[]), (.int .i64 41), (.func (.func 139) #[] #[]), (.int .i64 40), (.func (.func 140) #[] #[]), (.int .i64 40), (.func (.func 141) #[] #[]), (.int .i64 40), (.func (.func 143) #[] #[]), (.int .i64 40), (.func (.func 144) #[] #[]), (.int .i64 40)]))) :: sK 1 s (.v (.slice s0Tp s.Thrust.length s0Tc)) (.v (.slice s0Wp s.Water.length s0Wc)) (.v (.slice s0Ip s.Ice.length s0Ic)) [])) ?_ (kp rfl) rfl
  refine fin_round ?_
  refine aqS ?_
  refine aqT (rows := [_]) rfl (by kernel_rfl) ⟨
   okp rfl rfl (oqB (r := .bool true) (lN rfl) rfl rfl rfl),
   trivial⟩ ?_
  refine fqK (s' := (kt 1 (.p 1 0) :: kt 5 (.o 2 3 6) :: kt 6 (.i 6) :: kt 7 (.i 1) :: kt 8 (.B true) :: kb 1 25 11 :: (.r 2, some (.vec false 3 174 2 ([(.func (.func 138) #[] #[]), (.int .i64 41), (.func (.func 139) #[] #[]), (.int .i64 40), (.func (.func 140) #[] #[]), (.int .i64 40), (.func (.func 141) #[] #[]), (.int .i64 40), (.func (.func 143) #[] #[]), (.int .i64 40), (.func (.func 144) #[] #[]), (.int .i64 40)]))) :: sK 1 s (.v (.slice s0Tp s.Thrust.length s0Tc)) (.v (.slice s0Wp s.Water.length s0Wc)) (.v (.slice s0Ip s.Ice.length s0Ic)) [])) ?_ (kp rfl) rfl
  refine fqT ?_
  refine aqS ?_
  refine aqc rfl (fun hz5 => ?_) (fun hz5 => by cases hz5)
  refine aqk ?_
  refine fqT ?_
  refine aqS ?_
  refine aw_block ?_
  refine aqS ?_
  refine aqT (rows := [_, _, _, _]) rfl (by kernel_rfl) ⟨
   okp rfl rfl (op_ixO (lN rfl) rfl rfl ss_171 rfl (by simp) (by omega) (by omega)),
   okp rfl rfl (op_loadON (vs := [(.func (.func 139) #[] #[]), (.int .i64 40)]) (lN rfl) sh_174 rfl rfl rfl (fun zq zv zh => sub_get (n := 2) (vs := [(.func (.func 139) #[] #[]), (.int .i64 40)]) rfl zh)),
   okp rfl rfl (oqa (L := 5) (lN rfl) zl_174),
   okp rfl rfl (oqS sz_174 rfl rfl rfl rfl rfl (by decide)),
   trivial⟩ ?_
  refine fqK (s' := (kt 1 (.p 1 0) :: kt 4 (.p 5 0) :: kt 5 (.o 2 3 6) :: kt 6 (.i 6) :: kt 7 (.i 1) :: kb 1 25 11 :: kb 5 174 2 :: (.r 2, some (.vec false 3 174 2 ([(.func (.func 138) #[] #[]), (.int .i64 41), (.func (.func 139) #[] #[]), (.int .i64 40), (.func (.func 140) #[] #[]), (.int .i64 40), (.func (.func 141) #[] #[]), (.int .i64 40), (.func (.func 143) #[] #[]), (.int .i64 40), (.func (.func 144) #[] #[]), (.int .i64 40)]))) :: sK 1 s (.v (.slice s0Tp s.Thrust.length s0Tc)) (.v (.slice s0Wp s.Water.length s0Wc)) (.v (.slice s0Ip s.Ice.length s0Ic)) [kc 5 0 (.v (.func (.func 139) #[] #[])), kc 5 1 (.i 40)])) ?_ (kp rfl) rfl
  refine fqT ?_
  refine aqS ?_
  refine aqT (rows := [_, _, _, _, _]) rfl (by kernel_rfl) ⟨
   okp rfl rfl (oqF (lN rfl) rfl fo_174_0),
   okp rfl rfl (oq1 (lN rfl) sh_57 rfl rfl),
   okp rfl rfl (oqL (ys := [.i s.Class, .i s.Power, .i s.Draught, .i s.Tonnes, .v (.slice s0Tp s.Thrust.length s0Tc), .v (.slice s0Wp s.Water.length s0Wc), .v (.slice s0Ip s.Ice.length s0Ic), .i s.Slow, .i s.Brash, .i s.Ridge, .i s.Press]) (lN rfl) sh_25 rfl rfl ⟨rfl, rfl, rfl, rfl, rfl, rfl, rfl, rfl, rfl, rfl, rfl, trivial⟩),
   okp rfl rfl (oqC (x := .B (rule2 s)) (fs := []) (caps := []) (extra := []) (lN rfl) en_139 rfl ⟨rfl, rfl, rfl⟩ (EvL.cons rfl EvL.nil) (fun mm aa ww gg hr hrel => (c139 s ⟨s0Tp, s.Thrust.length, s0Tc⟩ ⟨s0Wp, s.Water.length, s0Wc⟩ ⟨s0Ip, s.Ice.length, s0Ic⟩ ww (SlIs.mono hs_Thrust hrel.below) (SlIs.mono hs_Water hrel.below) (SlIs.mono hs_Ice hrel.below)))),
   okp rfl rfl (oqn (lN rfl) rfl),
   trivial⟩ ?_
  refine fqK (s' := (kt 1 (.p 1 0) :: kt 4 (.p 5 0) :: kt 5 (.o 2 3 6) :: kt 6 (.i 6) :: kt 7 (.i 1) :: kt 15 (.B (!(rule2 s))) :: kb 1 25 11 :: kb 5 174 2 :: (.r 2, some (.vec false 3 174 2 ([(.func (.func 138) #[] #[]), (.int .i64 41), (.func (.func 139) #[] #[]), (.int .i64 40), (.func (.func 140) #[] #[]), (.int .i64 40), (.func (.func 141) #[] #[]), (.int .i64 40), (.func (.func 143) #[] #[]), (.int .i64 40), (.func (.func 144) #[] #[]), (.int .i64 40)]))) :: sK 1 s (.v (.slice s0Tp s.Thrust.length s0Tc)) (.v (.slice s0Wp s.Water.length s0Wc)) (.v (.slice s0Ip s.Ice.length s0Ic)) [kc 5 0 (.v (.func (.func 139) #[] #[])), kc 5 1 (.i 40)])) ?_ (kp rfl) rfl
  refine fqT ?_
  refine aqc rfl (fun hz6 => ?_) (fun hz6 => ?_)
  ·have _z := hz6
   have q7 := not_t hz6
   refine aqS ?_
   refine aqT (rows := [_, _, _]) rfl (by kernel_rfl) ⟨
    okp rfl rfl (oqF (lN rfl) rfl fo_174_1),
    okp rfl rfl (oq1 (lN rfl) sh_36 rfl rfl),
    okp rfl rfl (oqA (lN rfl) rfl),
    trivial⟩ ?_
   refine fqK (s' := [kt 2 (.i 40)]) ?_ (kp rfl) rfl
   refine fqT ?_
   refine aqr ?_
   refine fin_block_ret ?_
   refine fqR ?_
   refine fqR ?_
   refine fin_block_ret ?_
   refine fqR ?_
   refine pqr (x := .i 40) rfl rfl (rqT rfl rqN) rfl (fun mm aa ww hr => ?_)
   show Ending.returned (.int .i64 40) = _ ∧ _
   exact ⟨by clear hr; simp_all [check], hr.below⟩
  ·have _z := hz6
   have q8 := not_f hz6
   refine aqk ?_
   refine fqB ?_
   refine fqT ?_
   refine aqT (rows := [_, _]) rfl (by kernel_rfl) ⟨
    okp rfl rfl (oqB (r := .int .i64 2) (lN rfl) rfl rfl rfl),
    okp rfl rfl (oqM (lN rfl) rfl),
    trivial⟩ ?_
   refine fqK (s' := (kt 1 (.p 1 0) :: kt 5 (.o 2 3 6) :: kt 6 (.i 6) :: kt 7 (.i 2) :: kb 1 25 11 :: (.r 2, some (.vec false 3 174 2 ([(.func (.func 138) #[] #[]), (.int .i64 41), (.func (.func 139) #[] #[]), (.int .i64 40), (.func (.func 140) #[] #[]), (.int .i64 40), (.func (.func 141) #[] #[]), (.int .i64 40), (.func (.func 143) #[] #[]), (.int .i64 40), (.func (.func 144) #[] #[]), (.int .i64 40)]))) :: sK 1 s (.v (.slice s0Tp s.Thrust.length s0Tc)) (.v (.slice s0Wp s.Water.length s0Wc)) (.v (.slice s0Ip s.Ice.length s0Ic)) [])) ?_ (kp rfl) rfl
   refine fin_round ?_
   refine aqS ?_
   refine aqT (rows := [_]) rfl (by kernel_rfl) ⟨
    okp rfl rfl (oqB (r := .bool true) (lN rfl) rfl rfl rfl),
    trivial⟩ ?_
   refine fqK (s' := (kt 1 (.p 1 0) :: kt 5 (.o 2 3 6) :: kt 6 (.i 6) :: kt 7 (.i 2) :: kt 8 (.B true) :: kb 1 25 11 :: (.r 2, some (.vec false 3 174 2 ([(.func (.func 138) #[] #[]), (.int .i64 41), (.func (.func 139) #[] #[]), (.int .i64 40), (.func (.func 140) #[] #[]), (.int .i64 40), (.func (.func 141) #[] #[]), (.int .i64 40), (.func (.func 143) #[] #[]), (.int .i64 40), (.func (.func 144) #[] #[]), (.int .i64 40)]))) :: sK 1 s (.v (.slice s0Tp s.Thrust.length s0Tc)) (.v (.slice s0Wp s.Water.length s0Wc)) (.v (.slice s0Ip s.Ice.length s0Ic)) [])) ?_ (kp rfl) rfl
   refine fqT ?_
   refine aqS ?_
   refine aqc rfl (fun hz9 => ?_) (fun hz9 => by cases hz9)
   refine aqk ?_
   refine fqT ?_
   refine aqS ?_
   refine aw_block ?_
   refine aqS ?_
   refine aqT (rows := [_, _, _, _]) rfl (by kernel_rfl) ⟨
    okp rfl rfl (op_ixO (lN rfl) rfl rfl ss_171 rfl (by simp) (by omega) (by omega)),
    okp rfl rfl (op_loadON (vs := [(.func (.func 140) #[] #[]), (.int .i64 40)]) (lN rfl) sh_174 rfl rfl rfl (fun zq zv zh => sub_get (n := 4) (vs := [(.func (.func 140) #[] #[]), (.int .i64 40)]) rfl zh)),
    okp rfl rfl (oqa (L := 6) (lN rfl) zl_174),
    okp rfl rfl (oqS sz_174 rfl rfl rfl rfl rfl (by decide)),
    trivial⟩ ?_
   refine fqK (s' := (kt 1 (.p 1 0) :: kt 4 (.p 6 0) :: kt 5 (.o 2 3 6) :: kt 6 (.i 6) :: kt 7 (.i 2) :: kb 1 25 11 :: kb 6 174 2 :: (.r 2, some (.vec false 3 174 2 ([(.func (.func 138) #[] #[]), (.int .i64 41), (.func (.func 139) #[] #[]), (.int .i64 40), (.func (.func 140) #[] #[]), (.int .i64 40), (.func (.func 141) #[] #[]), (.int .i64 40), (.func (.func 143) #[] #[]), (.int .i64 40), (.func (.func 144) #[] #[]), (.int .i64 40)]))) :: sK 1 s (.v (.slice s0Tp s.Thrust.length s0Tc)) (.v (.slice s0Wp s.Water.length s0Wc)) (.v (.slice s0Ip s.Ice.length s0Ic)) [kc 6 0 (.v (.func (.func 140) #[] #[])), kc 6 1 (.i 40)])) ?_ (kp rfl) rfl
   refine fqT ?_
   refine aqS ?_
   refine aqT (rows := [_, _, _, _, _]) rfl (by kernel_rfl) ⟨
    okp rfl rfl (oqF (lN rfl) rfl fo_174_0),
    okp rfl rfl (oq1 (lN rfl) sh_57 rfl rfl),
    okp rfl rfl (oqL (ys := [.i s.Class, .i s.Power, .i s.Draught, .i s.Tonnes, .v (.slice s0Tp s.Thrust.length s0Tc), .v (.slice s0Wp s.Water.length s0Wc), .v (.slice s0Ip s.Ice.length s0Ic), .i s.Slow, .i s.Brash, .i s.Ridge, .i s.Press]) (lN rfl) sh_25 rfl rfl ⟨rfl, rfl, rfl, rfl, rfl, rfl, rfl, rfl, rfl, rfl, rfl, trivial⟩),
    okp rfl rfl (oqC (x := .B (rule3 s)) (fs := []) (caps := []) (extra := []) (lN rfl) en_140 rfl ⟨rfl, rfl, rfl⟩ (EvL.cons rfl EvL.nil) (fun mm aa ww gg hr hrel => (c140 s ⟨s0Tp, s.Thrust.length, s0Tc⟩ ⟨s0Wp, s.Water.length, s0Wc⟩ ⟨s0Ip, s.Ice.length, s0Ic⟩ ww (SlIs.mono hs_Thrust hrel.below) (SlIs.mono hs_Water hrel.below) (SlIs.mono hs_Ice hrel.below)))),
    okp rfl rfl (oqn (lN rfl) rfl),
    trivial⟩ ?_
   refine fqK (s' := (kt 1 (.p 1 0) :: kt 4 (.p 6 0) :: kt 5 (.o 2 3 6) :: kt 6 (.i 6) :: kt 7 (.i 2) :: kt 15 (.B (!(rule3 s))) :: kb 1 25 11 :: kb 6 174 2 :: (.r 2, some (.vec false 3 174 2 ([(.func (.func 138) #[] #[]), (.int .i64 41), (.func (.func 139) #[] #[]), (.int .i64 40), (.func (.func 140) #[] #[]), (.int .i64 40), (.func (.func 141) #[] #[]), (.int .i64 40), (.func (.func 143) #[] #[]), (.int .i64 40), (.func (.func 144) #[] #[]), (.int .i64 40)]))) :: sK 1 s (.v (.slice s0Tp s.Thrust.length s0Tc)) (.v (.slice s0Wp s.Water.length s0Wc)) (.v (.slice s0Ip s.Ice.length s0Ic)) [kc 6 0 (.v (.func (.func 140) #[] #[])), kc 6 1 (.i 40)])) ?_ (kp rfl) rfl
   refine fqT ?_
   refine aqc rfl (fun hz10 => ?_) (fun hz10 => ?_)
   ·have _z := hz10
    have q11 := not_t hz10
    refine aqS ?_
    refine aqT (rows := [_, _, _]) rfl (by kernel_rfl) ⟨
     okp rfl rfl (oqF (lN rfl) rfl fo_174_1),
     okp rfl rfl (oq1 (lN rfl) sh_36 rfl rfl),
     okp rfl rfl (oqA (lN rfl) rfl),
     trivial⟩ ?_
    refine fqK (s' := [kt 2 (.i 40)]) ?_ (kp rfl) rfl
    refine fqT ?_
    refine aqr ?_
    refine fin_block_ret ?_
    refine fqR ?_
    refine fqR ?_
    refine fin_block_ret ?_
    refine fqR ?_
    refine pqr (x := .i 40) rfl rfl (rqT rfl rqN) rfl (fun mm aa ww hr => ?_)
    show Ending.returned (.int .i64 40) = _ ∧ _
    exact ⟨by clear hr; simp_all [check], hr.below⟩
   ·have _z := hz10
    have q12 := not_f hz10
    refine aqk ?_
    refine fqB ?_
    refine fqT ?_
    refine aqT (rows := [_, _]) rfl (by kernel_rfl) ⟨
     okp rfl rfl (oqB (r := .int .i64 3) (lN rfl) rfl rfl rfl),
     okp rfl rfl (oqM (lN rfl) rfl),
     trivial⟩ ?_
    refine fqK (s' := (kt 1 (.p 1 0) :: kt 5 (.o 2 3 6) :: kt 6 (.i 6) :: kt 7 (.i 3) :: kb 1 25 11 :: (.r 2, some (.vec false 3 174 2 ([(.func (.func 138) #[] #[]), (.int .i64 41), (.func (.func 139) #[] #[]), (.int .i64 40), (.func (.func 140) #[] #[]), (.int .i64 40), (.func (.func 141) #[] #[]), (.int .i64 40), (.func (.func 143) #[] #[]), (.int .i64 40), (.func (.func 144) #[] #[]), (.int .i64 40)]))) :: sK 1 s (.v (.slice s0Tp s.Thrust.length s0Tc)) (.v (.slice s0Wp s.Water.length s0Wc)) (.v (.slice s0Ip s.Ice.length s0Ic)) [])) ?_ (kp rfl) rfl
    refine fin_round ?_
    refine aqS ?_
    refine aqT (rows := [_]) rfl (by kernel_rfl) ⟨
     okp rfl rfl (oqB (r := .bool true) (lN rfl) rfl rfl rfl),
     trivial⟩ ?_
    refine fqK (s' := (kt 1 (.p 1 0) :: kt 5 (.o 2 3 6) :: kt 6 (.i 6) :: kt 7 (.i 3) :: kt 8 (.B true) :: kb 1 25 11 :: (.r 2, some (.vec false 3 174 2 ([(.func (.func 138) #[] #[]), (.int .i64 41), (.func (.func 139) #[] #[]), (.int .i64 40), (.func (.func 140) #[] #[]), (.int .i64 40), (.func (.func 141) #[] #[]), (.int .i64 40), (.func (.func 143) #[] #[]), (.int .i64 40), (.func (.func 144) #[] #[]), (.int .i64 40)]))) :: sK 1 s (.v (.slice s0Tp s.Thrust.length s0Tc)) (.v (.slice s0Wp s.Water.length s0Wc)) (.v (.slice s0Ip s.Ice.length s0Ic)) [])) ?_ (kp rfl) rfl
    refine fqT ?_
    refine aqS ?_
    refine aqc rfl (fun hz13 => ?_) (fun hz13 => by cases hz13)
    refine aqk ?_
    refine fqT ?_
    refine aqS ?_
    refine aw_block ?_
    refine aqS ?_
    refine aqT (rows := [_, _, _, _]) rfl (by kernel_rfl) ⟨
     okp rfl rfl (op_ixO (lN rfl) rfl rfl ss_171 rfl (by simp) (by omega) (by omega)),
     okp rfl rfl (op_loadON (vs := [(.func (.func 141) #[] #[]), (.int .i64 40)]) (lN rfl) sh_174 rfl rfl rfl (fun zq zv zh => sub_get (n := 6) (vs := [(.func (.func 141) #[] #[]), (.int .i64 40)]) rfl zh)),
     okp rfl rfl (oqa (L := 7) (lN rfl) zl_174),
     okp rfl rfl (oqS sz_174 rfl rfl rfl rfl rfl (by decide)),
     trivial⟩ ?_
    refine fqK (s' := (kt 1 (.p 1 0) :: kt 4 (.p 7 0) :: kt 5 (.o 2 3 6) :: kt 6 (.i 6) :: kt 7 (.i 3) :: kb 1 25 11 :: kb 7 174 2 :: (.r 2, some (.vec false 3 174 2 ([(.func (.func 138) #[] #[]), (.int .i64 41), (.func (.func 139) #[] #[]), (.int .i64 40), (.func (.func 140) #[] #[]), (.int .i64 40), (.func (.func 141) #[] #[]), (.int .i64 40), (.func (.func 143) #[] #[]), (.int .i64 40), (.func (.func 144) #[] #[]), (.int .i64 40)]))) :: sK 1 s (.v (.slice s0Tp s.Thrust.length s0Tc)) (.v (.slice s0Wp s.Water.length s0Wc)) (.v (.slice s0Ip s.Ice.length s0Ic)) [kc 7 0 (.v (.func (.func 141) #[] #[])), kc 7 1 (.i 40)])) ?_ (kp rfl) rfl
    refine fqT ?_
    refine aqS ?_
    refine aqT (rows := [_, _, _, _, _]) rfl (by kernel_rfl) ⟨
     okp rfl rfl (oqF (lN rfl) rfl fo_174_0),
     okp rfl rfl (oq1 (lN rfl) sh_57 rfl rfl),
     okp rfl rfl (oqL (ys := [.i s.Class, .i s.Power, .i s.Draught, .i s.Tonnes, .v (.slice s0Tp s.Thrust.length s0Tc), .v (.slice s0Wp s.Water.length s0Wc), .v (.slice s0Ip s.Ice.length s0Ic), .i s.Slow, .i s.Brash, .i s.Ridge, .i s.Press]) (lN rfl) sh_25 rfl rfl ⟨rfl, rfl, rfl, rfl, rfl, rfl, rfl, rfl, rfl, rfl, rfl, trivial⟩),
     okp rfl rfl (oqC (x := .B (rule4 s)) (fs := []) (caps := []) (extra := []) (lN rfl) en_141 rfl ⟨rfl, rfl, rfl⟩ (EvL.cons rfl EvL.nil) (fun mm aa ww gg hr hrel => (c141 s ⟨s0Tp, s.Thrust.length, s0Tc⟩ ⟨s0Wp, s.Water.length, s0Wc⟩ ⟨s0Ip, s.Ice.length, s0Ic⟩ ww (SlIs.mono hs_Thrust hrel.below) (SlIs.mono hs_Water hrel.below) (SlIs.mono hs_Ice hrel.below)))),
     okp rfl rfl (oqn (lN rfl) rfl),
     trivial⟩ ?_
    refine fqK (s' := (kt 1 (.p 1 0) :: kt 4 (.p 7 0) :: kt 5 (.o 2 3 6) :: kt 6 (.i 6) :: kt 7 (.i 3) :: kt 15 (.B (!(rule4 s))) :: kb 1 25 11 :: kb 7 174 2 :: (.r 2, some (.vec false 3 174 2 ([(.func (.func 138) #[] #[]), (.int .i64 41), (.func (.func 139) #[] #[]), (.int .i64 40), (.func (.func 140) #[] #[]), (.int .i64 40), (.func (.func 141) #[] #[]), (.int .i64 40), (.func (.func 143) #[] #[]), (.int .i64 40), (.func (.func 144) #[] #[]), (.int .i64 40)]))) :: sK 1 s (.v (.slice s0Tp s.Thrust.length s0Tc)) (.v (.slice s0Wp s.Water.length s0Wc)) (.v (.slice s0Ip s.Ice.length s0Ic)) [kc 7 0 (.v (.func (.func 141) #[] #[])), kc 7 1 (.i 40)])) ?_ (kp rfl) rfl
    refine fqT ?_
    refine aqc rfl (fun hz14 => ?_) (fun hz14 => ?_)
    ·have _z := hz14
     have q15 := not_t hz14
     refine aqS ?_
     refine aqT (rows := [_, _, _]) rfl (by kernel_rfl) ⟨
      okp rfl rfl (oqF (lN rfl) rfl fo_174_1),
      okp rfl rfl (oq1 (lN rfl) sh_36 rfl rfl),
      okp rfl rfl (oqA (lN rfl) rfl),
      trivial⟩ ?_
     refine fqK (s' := [kt 2 (.i 40)]) ?_ (kp rfl) rfl
     refine fqT ?_
     refine aqr ?_
     refine fin_block_ret ?_
     refine fqR ?_
     refine fqR ?_
     refine fin_block_ret ?_
     refine fqR ?_
     refine pqr (x := .i 40) rfl rfl (rqT rfl rqN) rfl (fun mm aa ww hr => ?_)
     show Ending.returned (.int .i64 40) = _ ∧ _
     exact ⟨by clear hr; simp_all [check], hr.below⟩
    ·have _z := hz14
     have q16 := not_f hz14
     refine aqk ?_
     refine fqB ?_
     refine fqT ?_
     refine aqT (rows := [_, _]) rfl (by kernel_rfl) ⟨
      okp rfl rfl (oqB (r := .int .i64 4) (lN rfl) rfl rfl rfl),
      okp rfl rfl (oqM (lN rfl) rfl),
      trivial⟩ ?_
     refine fqK (s' := (kt 1 (.p 1 0) :: kt 5 (.o 2 3 6) :: kt 6 (.i 6) :: kt 7 (.i 4) :: kb 1 25 11 :: (.r 2, some (.vec false 3 174 2 ([(.func (.func 138) #[] #[]), (.int .i64 41), (.func (.func 139) #[] #[]), (.int .i64 40), (.func (.func 140) #[] #[]), (.int .i64 40), (.func (.func 141) #[] #[]), (.int .i64 40), (.func (.func 143) #[] #[]), (.int .i64 40), (.func (.func 144) #[] #[]), (.int .i64 40)]))) :: sK 1 s (.v (.slice s0Tp s.Thrust.length s0Tc)) (.v (.slice s0Wp s.Water.length s0Wc)) (.v (.slice s0Ip s.Ice.length s0Ic)) [])) ?_ (kp rfl) rfl
     refine fin_round ?_
     refine aqS ?_
     refine aqT (rows := [_]) rfl (by kernel_rfl) ⟨
      okp rfl rfl (oqB (r := .bool true) (lN rfl) rfl rfl rfl),
      trivial⟩ ?_
     refine fqK (s' := (kt 1 (.p 1 0) :: kt 5 (.o 2 3 6) :: kt 6 (.i 6) :: kt 7 (.i 4) :: kt 8 (.B true) :: kb 1 25 11 :: (.r 2, some (.vec false 3 174 2 ([(.func (.func 138) #[] #[]), (.int .i64 41), (.func (.func 139) #[] #[]), (.int .i64 40), (.func (.func 140) #[] #[]), (.int .i64 40), (.func (.func 141) #[] #[]), (.int .i64 40), (.func (.func 143) #[] #[]), (.int .i64 40), (.func (.func 144) #[] #[]), (.int .i64 40)]))) :: sK 1 s (.v (.slice s0Tp s.Thrust.length s0Tc)) (.v (.slice s0Wp s.Water.length s0Wc)) (.v (.slice s0Ip s.Ice.length s0Ic)) [])) ?_ (kp rfl) rfl
     refine fqT ?_
     refine aqS ?_
     refine aqc rfl (fun hz17 => ?_) (fun hz17 => by cases hz17)
     refine aqk ?_
     refine fqT ?_
     refine aqS ?_
     refine aw_block ?_
     refine aqS ?_
     refine aqT (rows := [_, _, _, _]) rfl (by kernel_rfl) ⟨
      okp rfl rfl (op_ixO (lN rfl) rfl rfl ss_171 rfl (by simp) (by omega) (by omega)),
      okp rfl rfl (op_loadON (vs := [(.func (.func 143) #[] #[]), (.int .i64 40)]) (lN rfl) sh_174 rfl rfl rfl (fun zq zv zh => sub_get (n := 8) (vs := [(.func (.func 143) #[] #[]), (.int .i64 40)]) rfl zh)),
      okp rfl rfl (oqa (L := 8) (lN rfl) zl_174),
      okp rfl rfl (oqS sz_174 rfl rfl rfl rfl rfl (by decide)),
      trivial⟩ ?_
     refine fqK (s' := (kt 1 (.p 1 0) :: kt 4 (.p 8 0) :: kt 5 (.o 2 3 6) :: kt 6 (.i 6) :: kt 7 (.i 4) :: kb 1 25 11 :: kb 8 174 2 :: (.r 2, some (.vec false 3 174 2 ([(.func (.func 138) #[] #[]), (.int .i64 41), (.func (.func 139) #[] #[]), (.int .i64 40), (.func (.func 140) #[] #[]), (.int .i64 40), (.func (.func 141) #[] #[]), (.int .i64 40), (.func (.func 143) #[] #[]), (.int .i64 40), (.func (.func 144) #[] #[]), (.int .i64 40)]))) :: sK 1 s (.v (.slice s0Tp s.Thrust.length s0Tc)) (.v (.slice s0Wp s.Water.length s0Wc)) (.v (.slice s0Ip s.Ice.length s0Ic)) [kc 8 0 (.v (.func (.func 143) #[] #[])), kc 8 1 (.i 40)])) ?_ (kp rfl) rfl
     refine fqT ?_
     refine aqS ?_
     refine aqT (rows := [_, _, _, _, _]) rfl (by kernel_rfl) ⟨
      okp rfl rfl (oqF (lN rfl) rfl fo_174_0),
      okp rfl rfl (oq1 (lN rfl) sh_57 rfl rfl),
      okp rfl rfl (oqL (ys := [.i s.Class, .i s.Power, .i s.Draught, .i s.Tonnes, .v (.slice s0Tp s.Thrust.length s0Tc), .v (.slice s0Wp s.Water.length s0Wc), .v (.slice s0Ip s.Ice.length s0Ic), .i s.Slow, .i s.Brash, .i s.Ridge, .i s.Press]) (lN rfl) sh_25 rfl rfl ⟨rfl, rfl, rfl, rfl, rfl, rfl, rfl, rfl, rfl, rfl, rfl, trivial⟩),
      okp rfl rfl (oqC (x := .B (rule5 s)) (fs := []) (caps := []) (extra := []) (lN rfl) en_143 rfl ⟨rfl, rfl, rfl⟩ (EvL.cons rfl EvL.nil) (fun mm aa ww gg hr hrel => (c143 s ⟨s0Tp, s.Thrust.length, s0Tc⟩ ⟨s0Wp, s.Water.length, s0Wc⟩ ⟨s0Ip, s.Ice.length, s0Ic⟩ ww (SlIs.mono hs_Thrust hrel.below) (SlIs.mono hs_Water hrel.below) (SlIs.mono hs_Ice hrel.below)))),
      okp rfl rfl (oqn (lN rfl) rfl),
      trivial⟩ ?_
     refine fqK (s' := (kt 1 (.p 1 0) :: kt 4 (.p 8 0) :: kt 5 (.o 2 3 6) :: kt 6 (.i 6) :: kt 7 (.i 4) :: kt 15 (.B (!(rule5 s))) :: kb 1 25 11 :: kb 8 174 2 :: (.r 2, some (.vec false 3 174 2 ([(.func (.func 138) #[] #[]), (.int .i64 41), (.func (.func 139) #[] #[]), (.int .i64 40), (.func (.func 140) #[] #[]), (.int .i64 40), (.func (.func 141) #[] #[]), (.int .i64 40), (.func (.func 143) #[] #[]), (.int .i64 40), (.func (.func 144) #[] #[]), (.int .i64 40)]))) :: sK 1 s (.v (.slice s0Tp s.Thrust.length s0Tc)) (.v (.slice s0Wp s.Water.length s0Wc)) (.v (.slice s0Ip s.Ice.length s0Ic)) [kc 8 0 (.v (.func (.func 143) #[] #[])), kc 8 1 (.i 40)])) ?_ (kp rfl) rfl
     refine fqT ?_
     refine aqc rfl (fun hz18 => ?_) (fun hz18 => ?_)
     ·have _z := hz18
      have q19 := not_t hz18
      refine aqS ?_
      refine aqT (rows := [_, _, _]) rfl (by kernel_rfl) ⟨
       okp rfl rfl (oqF (lN rfl) rfl fo_174_1),
       okp rfl rfl (oq1 (lN rfl) sh_36 rfl rfl),
       okp rfl rfl (oqA (lN rfl) rfl),
       trivial⟩ ?_
      refine fqK (s' := [kt 2 (.i 40)]) ?_ (kp rfl) rfl
      refine fqT ?_
      refine aqr ?_
      refine fin_block_ret ?_
      refine fqR ?_
      refine fqR ?_
      refine fin_block_ret ?_
      refine fqR ?_
      refine pqr (x := .i 40) rfl rfl (rqT rfl rqN) rfl (fun mm aa ww hr => ?_)
      show Ending.returned (.int .i64 40) = _ ∧ _
      exact ⟨by clear hr; simp_all [check], hr.below⟩
     ·have _z := hz18
      have q20 := not_f hz18
      refine aqk ?_
      refine fqB ?_
      refine fqT ?_
      refine aqT (rows := [_, _]) rfl (by kernel_rfl) ⟨
       okp rfl rfl (oqB (r := .int .i64 5) (lN rfl) rfl rfl rfl),
       okp rfl rfl (oqM (lN rfl) rfl),
       trivial⟩ ?_
      refine fqK (s' := (kt 1 (.p 1 0) :: kt 5 (.o 2 3 6) :: kt 6 (.i 6) :: kt 7 (.i 5) :: kb 1 25 11 :: (.r 2, some (.vec false 3 174 2 ([(.func (.func 138) #[] #[]), (.int .i64 41), (.func (.func 139) #[] #[]), (.int .i64 40), (.func (.func 140) #[] #[]), (.int .i64 40), (.func (.func 141) #[] #[]), (.int .i64 40), (.func (.func 143) #[] #[]), (.int .i64 40), (.func (.func 144) #[] #[]), (.int .i64 40)]))) :: sK 1 s (.v (.slice s0Tp s.Thrust.length s0Tc)) (.v (.slice s0Wp s.Water.length s0Wc)) (.v (.slice s0Ip s.Ice.length s0Ic)) [])) ?_ (kp rfl) rfl
      refine fin_round ?_
      refine aqS ?_
      refine aqT (rows := [_]) rfl (by kernel_rfl) ⟨
       okp rfl rfl (oqB (r := .bool true) (lN rfl) rfl rfl rfl),
       trivial⟩ ?_
      refine fqK (s' := (kt 1 (.p 1 0) :: kt 5 (.o 2 3 6) :: kt 6 (.i 6) :: kt 7 (.i 5) :: kt 8 (.B true) :: kb 1 25 11 :: (.r 2, some (.vec false 3 174 2 ([(.func (.func 138) #[] #[]), (.int .i64 41), (.func (.func 139) #[] #[]), (.int .i64 40), (.func (.func 140) #[] #[]), (.int .i64 40), (.func (.func 141) #[] #[]), (.int .i64 40), (.func (.func 143) #[] #[]), (.int .i64 40), (.func (.func 144) #[] #[]), (.int .i64 40)]))) :: sK 1 s (.v (.slice s0Tp s.Thrust.length s0Tc)) (.v (.slice s0Wp s.Water.length s0Wc)) (.v (.slice s0Ip s.Ice.length s0Ic)) [])) ?_ (kp rfl) rfl
      refine fqT ?_
      refine aqS ?_
      refine aqc rfl (fun hz21 => ?_) (fun hz21 => by cases hz21)
      refine aqk ?_
      refine fqT ?_
      refine aqS ?_
      refine aw_block ?_
      refine aqS ?_
      refine aqT (rows := [_, _, _, _]) rfl (by kernel_rfl) ⟨
       okp rfl rfl (op_ixO (lN rfl) rfl rfl ss_171 rfl (by simp) (by omega) (by omega)),
       okp rfl rfl (op_loadON (vs := [(.func (.func 144) #[] #[]), (.int .i64 40)]) (lN rfl) sh_174 rfl rfl rfl (fun zq zv zh => sub_get (n := 10) (vs := [(.func (.func 144) #[] #[]), (.int .i64 40)]) rfl zh)),
       okp rfl rfl (oqa (L := 9) (lN rfl) zl_174),
       okp rfl rfl (oqS sz_174 rfl rfl rfl rfl rfl (by decide)),
       trivial⟩ ?_
      refine fqK (s' := (kt 1 (.p 1 0) :: kt 4 (.p 9 0) :: kt 5 (.o 2 3 6) :: kt 6 (.i 6) :: kt 7 (.i 5) :: kb 1 25 11 :: kb 9 174 2 :: (.r 2, some (.vec false 3 174 2 ([(.func (.func 138) #[] #[]), (.int .i64 41), (.func (.func 139) #[] #[]), (.int .i64 40), (.func (.func 140) #[] #[]), (.int .i64 40), (.func (.func 141) #[] #[]), (.int .i64 40), (.func (.func 143) #[] #[]), (.int .i64 40), (.func (.func 144) #[] #[]), (.int .i64 40)]))) :: sK 1 s (.v (.slice s0Tp s.Thrust.length s0Tc)) (.v (.slice s0Wp s.Water.length s0Wc)) (.v (.slice s0Ip s.Ice.length s0Ic)) [kc 9 0 (.v (.func (.func 144) #[] #[])), kc 9 1 (.i 40)])) ?_ (kp rfl) rfl
      refine fqT ?_
      refine aqS ?_
      refine aqT (rows := [_, _, _, _, _]) rfl (by kernel_rfl) ⟨
       okp rfl rfl (oqF (lN rfl) rfl fo_174_0),
       okp rfl rfl (oq1 (lN rfl) sh_57 rfl rfl),
       okp rfl rfl (oqL (ys := [.i s.Class, .i s.Power, .i s.Draught, .i s.Tonnes, .v (.slice s0Tp s.Thrust.length s0Tc), .v (.slice s0Wp s.Water.length s0Wc), .v (.slice s0Ip s.Ice.length s0Ic), .i s.Slow, .i s.Brash, .i s.Ridge, .i s.Press]) (lN rfl) sh_25 rfl rfl ⟨rfl, rfl, rfl, rfl, rfl, rfl, rfl, rfl, rfl, rfl, rfl, trivial⟩),
       okp rfl rfl (oqC (x := .B (rule6 s)) (fs := []) (caps := []) (extra := []) (lN rfl) en_144 rfl ⟨rfl, rfl, rfl⟩ (EvL.cons rfl EvL.nil) (fun mm aa ww gg hr hrel => (c144 s ⟨s0Tp, s.Thrust.length, s0Tc⟩ ⟨s0Wp, s.Water.length, s0Wc⟩ ⟨s0Ip, s.Ice.length, s0Ic⟩ ww (SlIs.mono hs_Thrust hrel.below) (SlIs.mono hs_Water hrel.below) (SlIs.mono hs_Ice hrel.below)))),
       okp rfl rfl (oqn (lN rfl) rfl),
       trivial⟩ ?_
      refine fqK (s' := (kt 1 (.p 1 0) :: kt 4 (.p 9 0) :: kt 5 (.o 2 3 6) :: kt 6 (.i 6) :: kt 7 (.i 5) :: kt 15 (.B (!(rule6 s))) :: kb 1 25 11 :: kb 9 174 2 :: (.r 2, some (.vec false 3 174 2 ([(.func (.func 138) #[] #[]), (.int .i64 41), (.func (.func 139) #[] #[]), (.int .i64 40), (.func (.func 140) #[] #[]), (.int .i64 40), (.func (.func 141) #[] #[]), (.int .i64 40), (.func (.func 143) #[] #[]), (.int .i64 40), (.func (.func 144) #[] #[]), (.int .i64 40)]))) :: sK 1 s (.v (.slice s0Tp s.Thrust.length s0Tc)) (.v (.slice s0Wp s.Water.length s0Wc)) (.v (.slice s0Ip s.Ice.length s0Ic)) [kc 9 0 (.v (.func (.func 144) #[] #[])), kc 9 1 (.i 40)])) ?_ (kp rfl) rfl
      refine fqT ?_
      refine aqc rfl (fun hz22 => ?_) (fun hz22 => ?_)
      ·have _z := hz22
       have q23 := not_t hz22
       refine aqS ?_
       refine aqT (rows := [_, _, _]) rfl (by kernel_rfl) ⟨
        okp rfl rfl (oqF (lN rfl) rfl fo_174_1),
        okp rfl rfl (oq1 (lN rfl) sh_36 rfl rfl),
        okp rfl rfl (oqA (lN rfl) rfl),
        trivial⟩ ?_
       refine fqK (s' := [kt 2 (.i 40)]) ?_ (kp rfl) rfl
       refine fqT ?_
       refine aqr ?_
       refine fin_block_ret ?_
       refine fqR ?_
       refine fqR ?_
       refine fin_block_ret ?_
       refine fqR ?_
       refine pqr (x := .i 40) rfl rfl (rqT rfl rqN) rfl (fun mm aa ww hr => ?_)
       show Ending.returned (.int .i64 40) = _ ∧ _
       exact ⟨by clear hr; simp_all [check], hr.below⟩
      ·have _z := hz22
       have q24 := not_f hz22
       refine aqk ?_
       refine fqB ?_
       refine fqT ?_
       refine aqT (rows := [_, _]) rfl (by kernel_rfl) ⟨
        okp rfl rfl (oqB (r := .int .i64 6) (lN rfl) rfl rfl rfl),
        okp rfl rfl (oqM (lN rfl) rfl),
        trivial⟩ ?_
       refine fqK (s' := (kt 1 (.p 1 0) :: kt 5 (.o 2 3 6) :: kt 6 (.i 6) :: kt 7 (.i 6) :: kb 1 25 11 :: (.r 2, some (.vec false 3 174 2 ([(.func (.func 138) #[] #[]), (.int .i64 41), (.func (.func 139) #[] #[]), (.int .i64 40), (.func (.func 140) #[] #[]), (.int .i64 40), (.func (.func 141) #[] #[]), (.int .i64 40), (.func (.func 143) #[] #[]), (.int .i64 40), (.func (.func 144) #[] #[]), (.int .i64 40)]))) :: sK 1 s (.v (.slice s0Tp s.Thrust.length s0Tc)) (.v (.slice s0Wp s.Water.length s0Wc)) (.v (.slice s0Ip s.Ice.length s0Ic)) [])) ?_ (kp rfl) rfl
       refine fin_round ?_
       refine aqS ?_
       refine aqT (rows := [_]) rfl (by kernel_rfl) ⟨
        okp rfl rfl (oqB (r := .bool false) (lN rfl) rfl rfl rfl),
        trivial⟩ ?_
       refine fqK (s' := (kt 1 (.p 1 0) :: kt 5 (.o 2 3 6) :: kt 6 (.i 6) :: kt 7 (.i 6) :: kt 8 (.B false) :: kb 1 25 11 :: (.r 2, some (.vec false 3 174 2 ([(.func (.func 138) #[] #[]), (.int .i64 41), (.func (.func 139) #[] #[]), (.int .i64 40), (.func (.func 140) #[] #[]), (.int .i64 40), (.func (.func 141) #[] #[]), (.int .i64 40), (.func (.func 143) #[] #[]), (.int .i64 40), (.func (.func 144) #[] #[]), (.int .i64 40)]))) :: sK 1 s (.v (.slice s0Tp s.Thrust.length s0Tc)) (.v (.slice s0Wp s.Water.length s0Wc)) (.v (.slice s0Ip s.Ice.length s0Ic)) [])) ?_ (kp rfl) rfl
       refine fqT ?_
       refine aqS ?_
       refine aqc rfl (fun hz25 => by cases hz25) (fun hz25 => ?_)
       refine aw_exit ?_
       refine fqE ?_
       refine fqE ?_
       refine fin_block_exit ?_
       refine fqT ?_
       refine aqS ?_
       refine aqT (rows := [_]) rfl (by kernel_rfl) ⟨
        okp rfl rfl (oqA (lN rfl) rfl),
        trivial⟩ ?_
       refine fqK (s' := [kt 2 (.i 0)]) ?_ (kp rfl) rfl
       refine fqT ?_
       refine aqr ?_
       refine pqr (x := .i 0) rfl rfl (rqT rfl rqN) rfl (fun mm aa ww hr => ?_)
       show Ending.returned (.int .i64 0) = _ ∧ _
       exact ⟨by clear hr; simp_all [check], hr.below⟩
end Go.Proofs.T
namespace Go.Proofs.T
open Go Go.AX Go.RowKit Hull
theorem zl_28 : zeroL Tryd.prog 28 = some [(.int .i64 0), (.int .i64 0), (.int .i64 0), (.int .i64 0)] := by kernel_rfl
theorem fo_34_0 : fieldOff Tryd.prog 34 0 = some 0 := by kernel_rfl
theorem fo_32_0 : fieldOff Tryd.prog 32 0 = some 0 := by kernel_rfl
theorem fo_34_1 : fieldOff Tryd.prog 34 1 = some 2 := by kernel_rfl
theorem fo_34_2 : fieldOff Tryd.prog 34 2 = some 4 := by kernel_rfl
theorem fo_34_3 : fieldOff Tryd.prog 34 3 = some 6 := by kernel_rfl
theorem sz_28 : sizeIn Tryd.prog 28 = some 4 := by kernel_rfl
theorem sh_28 : shapeOf Tryd.prog 28 = some (some 4) := by kernel_rfl
theorem fo_32_1 : fieldOff Tryd.prog 32 1 = some 1 := by kernel_rfl
theorem fo_28_1 : fieldOff Tryd.prog 28 1 = some 1 := by kernel_rfl
theorem fo_28_2 : fieldOff Tryd.prog 28 2 = some 2 := by kernel_rfl
theorem fo_28_0 : fieldOff Tryd.prog 28 0 = some 0 := by kernel_rfl
theorem fo_28_3 : fieldOff Tryd.prog 28 3 = some 3 := by kernel_rfl
theorem zl_86 : zeroL Tryd.prog 86 = some [(.int .i64 0), (.int .i64 0)] := by kernel_rfl
theorem sz_86 : sizeIn Tryd.prog 86 = some 2 := by kernel_rfl
theorem sh_86 : shapeOf Tryd.prog 86 = some (some 2) := by kernel_rfl
theorem en_109 : Proofs.Enters Tryd.prog 109 := Proofs.enters_of Tryd.func109 (by kernel_rfl) rfl
theorem en_108 : Proofs.Enters Tryd.prog 108 := Proofs.enters_of Tryd.func108 (by kernel_rfl) rfl
theorem c88 (c : Cell) (w : World)  : Calls Tryd.prog 88 #[.agg #[.int .i64 c.Conc.Lo, .int .i64 c.Conc.Hi, .int .i64 c.Thick.Lo, .int .i64 c.Thick.Hi, .int .i64 c.Ridge.Lo, .int .i64 c.Ridge.Hi, .int .i64 c.Press.Lo, .int .i64 c.Press.Hi]] w fun e w' => e = .returned (.agg #[.int .i64 ((firstI c).Conc), .int .i64 ((firstI c).Thick), .int .i64 ((firstI c).Ridge), .int .i64 ((firstI c).Press)]) ∧ Below w.heap.size w w' := by
 refine enter (args := [.g [.i c.Conc.Lo, .i c.Conc.Hi, .i c.Thick.Lo, .i c.Thick.Hi, .i c.Ridge.Lo, .i c.Ridge.Hi, .i c.Press.Lo, .i c.Press.Hi]]) Tryd.func88 rfl (N := 16) rfl (Nat.le_of_ble_eq_true rfl) ?_
 refine aqS ?_
 refine aqT (rows := [_, _]) rfl (by kernel_rfl) ⟨
  okp rfl rfl (op_boxN (L := 1) (lN rfl) rfl rfl rfl),
  okp rfl rfl (oqa (L := 2) (lN rfl) zl_28),
  trivial⟩ ?_
 refine fqK (s' := [kt 1 (.p 1 0), kt 2 (.p 2 0), kb 1 34 8, kb 2 28 4, kc 1 0 (.i c.Conc.Lo), kc 1 1 (.i c.Conc.Hi), kc 1 2 (.i c.Thick.Lo), kc 1 3 (.i c.Thick.Hi), kc 1 4 (.i c.Ridge.Lo), kc 1 5 (.i c.Ridge.Hi), kc 1 6 (.i c.Press.Lo), kc 1 7 (.i c.Press.Hi), kc 2 0 (.i 0), kc 2 1 (.i 0), kc 2 2 (.i 0), kc 2 3 (.i 0)]) ?_ (kp rfl) rfl
 refine fqT ?_
 refine aqS ?_
 refine aqT (rows := [_, _, _, _, _, _, _, _, _, _, _, _, _, _]) rfl (by kernel_rfl) ⟨
  okp rfl rfl (oqF (lN rfl) rfl fo_34_0),
  okp rfl rfl (oqF (lN rfl) rfl fo_32_0),
  okp rfl rfl (oq1 (lN rfl) sh_3 rfl rfl),
  okp rfl rfl (oqF (lN rfl) rfl fo_34_1),
  okp rfl rfl (oqF (lN rfl) rfl fo_32_0),
  okp rfl rfl (oq1 (lN rfl) sh_3 rfl rfl),
  okp rfl rfl (oqF (lN rfl) rfl fo_34_2),
  okp rfl rfl (oqF (lN rfl) rfl fo_32_0),
  okp rfl rfl (oq1 (lN rfl) sh_3 rfl rfl),
  okp rfl rfl (oqF (lN rfl) rfl fo_34_3),
  okp rfl rfl (oqF (lN rfl) rfl fo_32_0),
  okp rfl rfl (oq1 (lN rfl) sh_3 rfl rfl),
  okp rfl rfl (op_build (x := .g [.i c.Conc.Lo, .i c.Thick.Lo, .i c.Ridge.Lo, .i c.Press.Lo]) (lN rfl) (EvL.cons rfl (EvL.cons rfl (EvL.cons rfl (EvL.cons rfl EvL.nil)))) (fun m w => by kernel_rfl)),
  okp rfl rfl (oqS sz_28 rfl rfl rfl rfl rfl (by decide)),
  trivial⟩ ?_
 refine fqK (s' := [kt 2 (.p 2 0), kb 2 28 4, kc 2 0 (.i c.Conc.Lo), kc 2 1 (.i c.Thick.Lo), kc 2 2 (.i c.Ridge.Lo), kc 2 3 (.i c.Press.Lo)]) ?_ (kp rfl) rfl
 refine fqT ?_
 refine aqr ?_
 refine pqr (x := .g [.i c.Conc.Lo, .i c.Thick.Lo, .i c.Ridge.Lo, .i c.Press.Lo]) rfl rfl (rqC (ys := [.i c.Conc.Lo, .i c.Thick.Lo, .i c.Ridge.Lo, .i c.Press.Lo]) rfl sh_28 rfl ⟨rfl, rfl, rfl, rfl, trivial⟩ rqN) rfl (fun mm aa ww hr => ?_)
 show Ending.returned (.agg #[.int .i64 c.Conc.Lo, .int .i64 c.Thick.Lo, .int .i64 c.Ridge.Lo, .int .i64 c.Press.Lo]) = _ ∧ _
 first
  | exact ⟨rfl, hr.below⟩
theorem c100 (c : Cell) (w : World)  : Calls Tryd.prog 100 #[.agg #[.int .i64 c.Conc.Lo, .int .i64 c.Conc.Hi, .int .i64 c.Thick.Lo, .int .i64 c.Thick.Hi, .int .i64 c.Ridge.Lo, .int .i64 c.Ridge.Hi, .int .i64 c.Press.Lo, .int .i64 c.Press.Hi]] w fun e w' => e = .returned (.agg #[.int .i64 ((lastI c).Conc), .int .i64 ((lastI c).Thick), .int .i64 ((lastI c).Ridge), .int .i64 ((lastI c).Press)]) ∧ Below w.heap.size w w' := by
 refine enter (args := [.g [.i c.Conc.Lo, .i c.Conc.Hi, .i c.Thick.Lo, .i c.Thick.Hi, .i c.Ridge.Lo, .i c.Ridge.Hi, .i c.Press.Lo, .i c.Press.Hi]]) Tryd.func100 rfl (N := 16) rfl (Nat.le_of_ble_eq_true rfl) ?_
 refine aqS ?_
 refine aqT (rows := [_, _]) rfl (by kernel_rfl) ⟨
  okp rfl rfl (op_boxN (L := 1) (lN rfl) rfl rfl rfl),
  okp rfl rfl (oqa (L := 2) (lN rfl) zl_28),
  trivial⟩ ?_
 refine fqK (s' := [kt 1 (.p 1 0), kt 2 (.p 2 0), kb 1 34 8, kb 2 28 4, kc 1 0 (.i c.Conc.Lo), kc 1 1 (.i c.Conc.Hi), kc 1 2 (.i c.Thick.Lo), kc 1 3 (.i c.Thick.Hi), kc 1 4 (.i c.Ridge.Lo), kc 1 5 (.i c.Ridge.Hi), kc 1 6 (.i c.Press.Lo), kc 1 7 (.i c.Press.Hi), kc 2 0 (.i 0), kc 2 1 (.i 0), kc 2 2 (.i 0), kc 2 3 (.i 0)]) ?_ (kp rfl) rfl
 refine fqT ?_
 refine aqS ?_
 refine aqT (rows := [_, _, _, _, _, _, _, _, _, _, _, _, _, _]) rfl (by kernel_rfl) ⟨
  okp rfl rfl (oqF (lN rfl) rfl fo_34_0),
  okp rfl rfl (oqF (lN rfl) rfl fo_32_1),
  okp rfl rfl (oq1 (lN rfl) sh_3 rfl rfl),
  okp rfl rfl (oqF (lN rfl) rfl fo_34_1),
  okp rfl rfl (oqF (lN rfl) rfl fo_32_1),
  okp rfl rfl (oq1 (lN rfl) sh_3 rfl rfl),
  okp rfl rfl (oqF (lN rfl) rfl fo_34_2),
  okp rfl rfl (oqF (lN rfl) rfl fo_32_1),
  okp rfl rfl (oq1 (lN rfl) sh_3 rfl rfl),
  okp rfl rfl (oqF (lN rfl) rfl fo_34_3),
  okp rfl rfl (oqF (lN rfl) rfl fo_32_1),
  okp rfl rfl (oq1 (lN rfl) sh_3 rfl rfl),
  okp rfl rfl (op_build (x := .g [.i c.Conc.Hi, .i c.Thick.Hi, .i c.Ridge.Hi, .i c.Press.Hi]) (lN rfl) (EvL.cons rfl (EvL.cons rfl (EvL.cons rfl (EvL.cons rfl EvL.nil)))) (fun m w => by kernel_rfl)),
  okp rfl rfl (oqS sz_28 rfl rfl rfl rfl rfl (by decide)),
  trivial⟩ ?_
 refine fqK (s' := [kt 2 (.p 2 0), kb 2 28 4, kc 2 0 (.i c.Conc.Hi), kc 2 1 (.i c.Thick.Hi), kc 2 2 (.i c.Ridge.Hi), kc 2 3 (.i c.Press.Hi)]) ?_ (kp rfl) rfl
 refine fqT ?_
 refine aqr ?_
 refine pqr (x := .g [.i c.Conc.Hi, .i c.Thick.Hi, .i c.Ridge.Hi, .i c.Press.Hi]) rfl rfl (rqC (ys := [.i c.Conc.Hi, .i c.Thick.Hi, .i c.Ridge.Hi, .i c.Press.Hi]) rfl sh_28 rfl ⟨rfl, rfl, rfl, rfl, trivial⟩ rqN) rfl (fun mm aa ww hr => ?_)
 show Ending.returned (.agg #[.int .i64 c.Conc.Hi, .int .i64 c.Thick.Hi, .int .i64 c.Ridge.Hi, .int .i64 c.Press.Hi]) = _ ∧ _
 first
  | exact ⟨rfl, hr.below⟩
theorem c79 (i : Ice) (v : Int) (ch : Bool) (w : World) (hi : goodIce i) (hv : 0 ≤ v ∧ v ≤ 255) : Calls Tryd.prog 79 #[.agg #[.int .i64 i.Conc, .int .i64 i.Thick, .int .i64 i.Ridge, .int .i64 i.Press], .int .i64 v, .bool ch] w fun e w' => e = .returned (.int .i64 (loadI i v ch)) ∧ Below w.heap.size w w' := by
 have hib := goodIce_bd hi
 refine enter (args := [.g [.i i.Conc, .i i.Thick, .i i.Ridge, .i i.Press], .i v, .B ch]) Tryd.func79 rfl (N := 31) rfl (Nat.le_of_ble_eq_true rfl) ?_
 refine aqS ?_
 refine aqT (rows := [_, _]) rfl (by kernel_rfl) ⟨
  okp rfl rfl (op_boxN (L := 1) (lN rfl) rfl rfl rfl),
  okp rfl rfl (oqA (lN rfl) rfl),
  trivial⟩ ?_
 refine fqK (s' := [kt 1 (.i v), kt 2 (.B ch), kt 3 (.p 1 0), kb 1 28 4, kc 1 0 (.i i.Conc), kc 1 1 (.i i.Thick), kc 1 2 (.i i.Ridge), kc 1 3 (.i i.Press)]) ?_ (kp rfl) rfl
 refine fqT ?_
 refine aqS ?_
 have hm1 := mul_nn (x := i.Thick) (y := (100 + v)) (a := 0) (A := 400) (b := 100) (B := 355) (by omega) (by omega) (by decide) (by decide)
 refine aw_any (rows := [_, _, _, _, _, _, _, _, _]) (M := [0, 1, 0, 4, 15, 0, 32, 31, 255]) Tryd_mixed (by kernel_rfl) rfl (by kernel_rfl) ⟨
  okp rfl rfl (oqF (lN rfl) rfl fo_28_1),
  okp rfl rfl (oq1 (lN rfl) sh_3 rfl rfl),
  okp rfl rfl (oqM (lN rfl) rfl),
  okp rfl rfl (oqB (lN rfl) rfl rfl (nw_add ⟨(by omega), (by omega)⟩)),
  okp rfl rfl (oqB (lN rfl) rfl rfl (nw_mul ⟨(by omega), (by omega)⟩)),
  okp rfl rfl (oqF (lN rfl) rfl fo_28_2),
  okp rfl rfl (oq1 (lN rfl) sh_3 rfl rfl),
  okp rfl rfl (oqA (lN rfl) rfl),
  okp rfl rfl (oqA (lN rfl) rfl),
  trivial⟩ ?_
 refine fqK (s' := [kt 2 (.B ch), kt 3 (.p 1 0), kt 7 (.i (i.Thick * (100 + v))), kt 8 (.i i.Ridge), kb 1 28 4, kc 1 0 (.i i.Conc), kc 1 1 (.i i.Thick), kc 1 2 (.i i.Ridge), kc 1 3 (.i i.Press)]) ?_ (kp rfl) rfl
 refine fqT ?_
 refine aqS ?_
 refine aqS ?_
 refine aqT (rows := [_]) rfl (by kernel_rfl) ⟨
  okp rfl rfl (oqM (lN rfl) rfl),
  trivial⟩ ?_
 refine fqK (s' := [kt 3 (.p 1 0), kt 7 (.i (i.Thick * (100 + v))), kt 8 (.i i.Ridge), kt 16 (.B ch), kb 1 28 4, kc 1 0 (.i i.Conc), kc 1 1 (.i i.Thick), kc 1 2 (.i i.Ridge), kc 1 3 (.i i.Press)]) ?_ (kp rfl) rfl
 refine fqT ?_
 refine aqc rfl (fun hz2 => ?_) (fun hz2 => ?_)
 ·have _z := hz2
  have q3 := hz2
  refine aqT (rows := [_, _, _, _, _]) rfl (by kernel_rfl) ⟨
   okp rfl rfl (oqM (lN rfl) rfl),
   okp rfl rfl (oqB (lN rfl) rfl rfl (nw_add ⟨(by omega), (by omega)⟩)),
   okp rfl rfl (op_quo (lN rfl) rfl rfl (by decide) (quo_nn (by omega) (by omega) (by omega))),
   okp rfl rfl (oqA (lN rfl) rfl),
   okp rfl rfl (oqA (lN rfl) rfl),
   trivial⟩ ?_
  refine fqK (s' := [kt 3 (.p 1 0), kt 7 (.i (((i.Thick * (100 + v)) + 1) / 2)), kt 8 (.i 0), kb 1 28 4, kc 1 0 (.i i.Conc), kc 1 1 (.i i.Thick), kc 1 2 (.i i.Ridge), kc 1 3 (.i i.Press)]) ?_ (kp rfl) rfl
  refine fqT ?_
  refine aqS ?_
  refine aqS ?_
  refine aqT (rows := [_, _, _]) rfl (by kernel_rfl) ⟨
   okp rfl rfl (oqF (lN rfl) rfl fo_28_0),
   okp rfl rfl (oq1 (lN rfl) sh_3 rfl rfl),
   okp rfl rfl (oqB (lN rfl) rfl rfl rfl),
   trivial⟩ ?_
  refine fqK (s' := [kt 3 (.p 1 0), kt 7 (.i (((i.Thick * (100 + v)) + 1) / 2)), kt 8 (.i 0), kt 22 (.B (i.Conc == 0)), kb 1 28 4, kc 1 0 (.i i.Conc), kc 1 1 (.i i.Thick), kc 1 2 (.i i.Ridge), kc 1 3 (.i i.Press)]) ?_ (kp rfl) rfl
  refine fqT ?_
  refine aqc rfl (fun hz4 => ?_) (fun hz4 => ?_)
  ·have _z := hz4
   have q5 := eq_t hz4
   refine aqS ?_
   refine aqT (rows := [_]) rfl (by kernel_rfl) ⟨
    okp rfl rfl (oqA (lN rfl) rfl),
    trivial⟩ ?_
   refine fqK (s' := [kt 6 (.i 0)]) ?_ (kp rfl) rfl
   refine fqT ?_
   refine aqr ?_
   refine fqR ?_
   refine pqr (x := .i 0) rfl rfl (rqT rfl rqN) rfl (fun mm aa ww hr => ?_)
   show Ending.returned (.int .i64 0) = _ ∧ _
   exact ⟨by clear hr; simp_all [loadI], hr.below⟩
  ·have _z := hz4
   have q6 := eq_f hz4
   refine aqk ?_
   refine fqT ?_
   refine aqS ?_
   refine aqT (rows := [_, _, _, _, _, _, _, _, _]) rfl (by kernel_rfl) ⟨
    okp rfl rfl (oqM (lN rfl) rfl),
    okp rfl rfl (oqM (lN rfl) rfl),
    okp rfl rfl (oqB (r := .int .i64 0) (lN rfl) rfl rfl rfl),
    okp rfl rfl (oqB (lN rfl) rfl rfl (nw_add ⟨(by omega), (by omega)⟩)),
    okp rfl rfl (oqF (lN rfl) rfl fo_28_3),
    okp rfl rfl (oq1 (lN rfl) sh_3 rfl rfl),
    okp rfl rfl (oqB (lN rfl) rfl rfl (nw_mul ⟨(by omega), (by omega)⟩)),
    okp rfl rfl (oqB (lN rfl) rfl rfl (nw_add ⟨(by omega), (by omega)⟩)),
    okp rfl rfl (oqA (lN rfl) rfl),
    trivial⟩ ?_
   refine fqK (s' := [kt 6 (.i (((((i.Thick * (100 + v)) + 1) / 2) + 0) + (2000 * i.Press)))]) ?_ (kp rfl) rfl
   refine fqT ?_
   refine aqr ?_
   refine pqr (x := .i (((((i.Thick * (100 + v)) + 1) / 2) + 0) + (2000 * i.Press))) rfl rfl (rqT rfl rqN) rfl (fun mm aa ww hr => ?_)
   show Ending.returned (.int .i64 (((((i.Thick * (100 + v)) + 1) / 2) + 0) + (2000 * i.Press))) = _ ∧ _
   exact ⟨by clear hr; simp_all [loadI], hr.below⟩
 ·have _z := hz2
  have q7 := hz2
  refine aqk ?_
  refine fqT ?_
  refine aqS ?_
  refine aqS ?_
  refine aqT (rows := [_, _, _]) rfl (by kernel_rfl) ⟨
   okp rfl rfl (oqF (lN rfl) rfl fo_28_0),
   okp rfl rfl (oq1 (lN rfl) sh_3 rfl rfl),
   okp rfl rfl (oqB (lN rfl) rfl rfl rfl),
   trivial⟩ ?_
  refine fqK (s' := [kt 3 (.p 1 0), kt 7 (.i (i.Thick * (100 + v))), kt 8 (.i i.Ridge), kt 22 (.B (i.Conc == 0)), kb 1 28 4, kc 1 0 (.i i.Conc), kc 1 1 (.i i.Thick), kc 1 2 (.i i.Ridge), kc 1 3 (.i i.Press)]) ?_ (kp rfl) rfl
  refine fqT ?_
  refine aqc rfl (fun hz8 => ?_) (fun hz8 => ?_)
  ·have _z := hz8
   have q9 := eq_t hz8
   refine aqS ?_
   refine aqT (rows := [_]) rfl (by kernel_rfl) ⟨
    okp rfl rfl (oqA (lN rfl) rfl),
    trivial⟩ ?_
   refine fqK (s' := [kt 6 (.i 0)]) ?_ (kp rfl) rfl
   refine fqT ?_
   refine aqr ?_
   refine fqR ?_
   refine pqr (x := .i 0) rfl rfl (rqT rfl rqN) rfl (fun mm aa ww hr => ?_)
   show Ending.returned (.int .i64 0) = _ ∧ _
   exact ⟨by clear hr; simp_all [loadI], hr.below⟩
  ·have _z := hz8
   have q10 := eq_f hz8
   refine aqk ?_
   refine fqT ?_
   refine aqS ?_
   refine aqT (rows := [_, _, _, _, _, _, _, _, _]) rfl (by kernel_rfl) ⟨
    okp rfl rfl (oqM (lN rfl) rfl),
    okp rfl rfl (oqM (lN rfl) rfl),
    okp rfl rfl (oqB (lN rfl) rfl rfl (nw_mul ⟨(by omega), (by omega)⟩)),
    okp rfl rfl (oqB (lN rfl) rfl rfl (nw_add ⟨(by omega), (by omega)⟩)),
    okp rfl rfl (oqF (lN rfl) rfl fo_28_3),
    okp rfl rfl (oq1 (lN rfl) sh_3 rfl rfl),
    okp rfl rfl (oqB (lN rfl) rfl rfl (nw_mul ⟨(by omega), (by omega)⟩)),
    okp rfl rfl (oqB (lN rfl) rfl rfl (nw_add ⟨(by omega), (by omega)⟩)),
    okp rfl rfl (oqA (lN rfl) rfl),
    trivial⟩ ?_
   refine fqK (s' := [kt 6 (.i (((i.Thick * (100 + v)) + (300 * i.Ridge)) + (2000 * i.Press)))]) ?_ (kp rfl) rfl
   refine fqT ?_
   refine aqr ?_
   refine pqr (x := .i (((i.Thick * (100 + v)) + (300 * i.Ridge)) + (2000 * i.Press))) rfl rfl (rqT rfl rqN) rfl (fun mm aa ww hr => ?_)
   show Ending.returned (.int .i64 (((i.Thick * (100 + v)) + (300 * i.Ridge)) + (2000 * i.Press))) = _ ∧ _
   exact ⟨by clear hr; simp_all [loadI], hr.below⟩
theorem c108 (n : Int) (d : Int) (w : World) (hn : 0 ≤ n ∧ n ≤ 1000000000) (hd : 1 ≤ d ∧ d ≤ 1000000000) : Calls Tryd.prog 108 #[.int .i64 n, .int .i64 d] w fun e w' => e = .returned (.agg #[.int .i64 ((lowest n d).1), .int .i64 ((lowest n d).2)]) ∧ Below w.heap.size w w' := by
 refine enter (args := [.i n, .i d]) Tryd.func108 rfl (N := 22) rfl (Nat.le_of_ble_eq_true rfl) ?_
 refine aqS ?_
 refine aqT (rows := [_]) rfl (by kernel_rfl) ⟨
  okp rfl rfl (oqa (L := 1) (lN rfl) zl_86),
  trivial⟩ ?_
 refine fqK (s' := [kt 0 (.i n), kt 1 (.i d), kt 4 (.p 1 0), kb 1 86 2, kc 1 0 (.i 0), kc 1 1 (.i 0)]) ?_ (kp rfl) rfl
 refine fqT ?_
 refine aqS ?_
 refine aqT (rows := [_, _, _, _]) rfl (by kernel_rfl) ⟨
  okp rfl rfl (oqM (lN rfl) rfl),
  okp rfl rfl (oqM (lN rfl) rfl),
  okp rfl rfl (oqA (lN rfl) rfl),
  okp rfl rfl (oqA (lN rfl) rfl),
  trivial⟩ ?_
 refine fqK (s' := [kt 0 (.i n), kt 1 (.i d), kt 4 (.p 1 0), kt 5 (.i n), kt 6 (.i d), kb 1 86 2, kc 1 0 (.i 0), kc 1 1 (.i 0)]) ?_ (kp rfl) rfl
 refine fqT ?_
 refine aqS ?_
 refine aw_block ?_
 refine AW.keep (s' := (fun (q : Int × Int) => [kt 0 (.i n), kt 1 (.i d), kt 4 (.p 1 0), kt 5 (.i q.1), kt 6 (.i q.2), kb 1 86 2, kc 1 0 (.i 0), kc 1 1 (.i 0)]) ((n, d))) ?_ (kp rfl) rfl
 refine aw_loop (ι := Int × Int) (fun q => 0 ≤ q.1 ∧ q.1 ≤ 1000000000 ∧ 0 ≤ q.2 ∧ q.2 ≤ 1000000000 ∧ (0 < q.1 ∨ 0 < q.2) ∧ Int.gcd q.1 q.2 = Int.gcd n d) (fun q => [kt 0 (.i n), kt 1 (.i d), kt 4 (.p 1 0), kt 5 (.i q.1), kt 6 (.i q.2), kb 1 86 2, kc 1 0 (.i 0), kc 1 1 (.i 0)]) (fun q => q.2.toNat) ⟨hn.1, hn.2, by omega, hd.2, .inr (by omega), rfl⟩ (fun q hI => ?_)
 obtain ⟨h1, h2, h3, h4, h5, hg⟩ := hI
 refine aqS ?_
 refine aqS ?_
 refine aqT (rows := [_, _]) rfl (by kernel_rfl) ⟨
  okp rfl rfl (oqM (lN rfl) rfl),
  okp rfl rfl (oqB (lN rfl) rfl rfl rfl),
  trivial⟩ ?_
 refine fqK (s' := [kt 0 (.i n), kt 1 (.i d), kt 4 (.p 1 0), kt 5 (.i q.1), kt 6 (.i q.2), kt 10 (.B (q.2 != 0)), kb 1 86 2, kc 1 0 (.i 0), kc 1 1 (.i 0)]) ?_ (kp rfl) rfl
 refine fqT ?_
 refine aqc rfl (fun hz1 => ?_) (fun hz1 => ?_)
 ·have _z := hz1
  have q2 := ne_t hz1
  refine aqk ?_
  refine fqT ?_
  refine aw_block ?_
  have hq1 := Int.emod_nonneg q.1 (b := q.2) (by omega)
  have hq2 := Int.emod_lt_of_pos q.1 (b := q.2) (by omega)
  refine aw_any (rows := [_, _, _, _, _, _]) (M := [0, 0, 0, 6, 3, 31]) Tryd_mixed (by kernel_rfl) rfl (by kernel_rfl) ⟨
   okp rfl rfl (oqM (lN rfl) rfl),
   okp rfl rfl (oqM (lN rfl) rfl),
   okp rfl rfl (oqM (lN rfl) rfl),
   okp rfl rfl (op_rem (lN rfl) rfl rfl (by omega) (rem_nn (by omega) (by omega) (by omega))),
   okp rfl rfl (oqA (lN rfl) rfl),
   okp rfl rfl (oqA (lN rfl) rfl),
   trivial⟩ ?_
  refine fqK (s' := [kt 0 (.i n), kt 1 (.i d), kt 4 (.p 1 0), kt 5 (.i q.2), kt 6 (.i (q.1 % q.2)), kb 1 86 2, kc 1 0 (.i 0), kc 1 1 (.i 0)]) ?_ (kp rfl) rfl
  refine fqB ?_
  exact fin_loop (q.2, q.1 % q.2) ⟨h3, h4, hq1, by omega, .inl (by omega), by rw [← hg]; exact gcd_step h1 h3⟩ (by show (q.1 % q.2).toNat < q.2.toNat; omega) ⟨rfl, rfl, rfl, rfl, rfl, rfl, rfl, rfl, trivial⟩ rfl
 ·have _z := hz1
  have q3 := ne_f hz1
  refine aw_exit ?_
  refine fqE ?_
  refine fqE ?_
  refine fin_block_exit ?_
  refine fqT ?_
  refine aqS ?_
  have hgq : q.1 = (Int.gcd n d : Int) := by rw [← hg, show q.2 = 0 by omega]; simp; omega
  refine aw_any (rows := [_, _, _, _, _, _, _, _]) (M := [0, 0, 3, 0, 0, 24, 63, 127]) Tryd_mixed (by kernel_rfl) rfl (by kernel_rfl) ⟨
   okp rfl rfl (oqM (lN rfl) rfl),
   okp rfl rfl (oqM (lN rfl) rfl),
   okp rfl rfl (op_quo (lN rfl) rfl rfl (by omega) (quo_nn (by omega) (by omega) (by omega))),
   okp rfl rfl (oqM (lN rfl) rfl),
   okp rfl rfl (oqM (lN rfl) rfl),
   okp rfl rfl (op_quo (lN rfl) rfl rfl (by omega) (quo_nn (by omega) (by omega) (by omega))),
   okp rfl rfl (op_build (x := .g [.i (n / q.1), .i (d / q.1)]) (lN rfl) (EvL.cons rfl (EvL.cons rfl EvL.nil)) (fun m w => by kernel_rfl)),
   okp rfl rfl (oqS sz_86 rfl rfl rfl rfl rfl (by decide)),
   trivial⟩ ?_
  refine fqK (s' := [kt 4 (.p 1 0), kb 1 86 2, kc 1 0 (.i (n / q.1)), kc 1 1 (.i (d / q.1))]) ?_ (kp rfl) rfl
  refine fqT ?_
  refine aqr ?_
  refine pqr (x := .g [.i (n / q.1), .i (d / q.1)]) rfl rfl (rqC (ys := [.i (n / q.1), .i (d / q.1)]) rfl sh_86 rfl ⟨rfl, rfl, trivial⟩ rqN) rfl (fun mm aa ww hr => ?_)
  show Ending.returned (.agg #[.int .i64 (n / q.1), .int .i64 (d / q.1)]) = _ ∧ _
  rw [show n / q.1 = (lowest n d).1 by rw [lowest, hgq], show d / q.1 = (lowest n d).2 by rw [lowest, hgq]]
  exact ⟨rfl, hr.below⟩
theorem c43 (l : List Pt) (l_s : SlV) (x : Int) (w : World) (hl : SlIs ePt 2 w l_s l) : Calls Tryd.prog 43 #[.slice l_s.p l_s.n l_s.c, .int .i64 x] w fun e w' => e = .returned (.tuple #[.agg #[.int .i64 ((at_ l x).1.1), .int .i64 ((at_ l x).1.2)], .int .i64 ((at_ l x).2)]) ∧ Below w.heap.size w w' := by
 obtain ⟨l_p, l_n, l_c⟩ := l_s
 have hl_l : l_n = l.length := hl.1
 subst hl_l
 obtain ⟨l_b, l_o, hl_p, hl_L⟩ := SlAt.lies' hl
 refine enter (args := [.v (.slice l_p l.length l_c), .i x]) Tryd.func43 rfl (N := 22) rfl (Nat.le_of_ble_eq_true rfl) ?_
 refine aqS ?_
 refine aqT (rows := [_, _]) rfl (by kernel_rfl) ⟨
  okp rfl rfl (oqa (L := 1) (lN rfl) zl_86),
  okp rfl rfl (oqA (lN rfl) rfl),
  trivial⟩ ?_
 refine fqK (s' := [kt 0 (.v (.slice l_p l.length l_c)), kt 1 (.i x), kt 4 (.p 1 0), kb 1 86 2, kc 1 0 (.i 0), kc 1 1 (.i 0)]) ?_ (kp rfl) rfl
 refine fqT ?_
 refine aqS ?_
 refine aw_block ?_
 refine aqS ?_
 refine aqT (rows := [_, _, _, _]) rfl (by kernel_rfl) ⟨
  okp rfl rfl (oqM (lN rfl) rfl),
  okp rfl rfl (oqC (x := .B (curve l)) (fs := []) (caps := []) (extra := []) (lN rfl) en_107 rfl ⟨rfl, rfl, rfl⟩ (EvL.cons rfl EvL.nil) (fun mm aa ww gg hr hrel => (c107 l ⟨l_p, l.length, l_c⟩ ww (SlIs.mono hl hrel.below)))),
  okp rfl rfl (oqn (lN rfl) rfl),
  okp rfl rfl (oqA (lN rfl) rfl),
  trivial⟩ ?_
 refine fqK (s' := [kt 0 (.v (.slice l_p l.length l_c)), kt 1 (.i x), kt 4 (.p 1 0), kt 6 (.B (!(curve l))), kb 1 86 2, kc 1 0 (.i 0), kc 1 1 (.i 0)]) ?_ (kp rfl) rfl
 refine fqT ?_
 refine aqc rfl (fun hz1 => ?_) (fun hz1 => ?_)
 ·have _z := hz1
  have q2 := not_t hz1
  refine aqS ?_
  refine aqT (rows := [_, _, _]) rfl (by kernel_rfl) ⟨
   okp rfl rfl (op_build (x := .g [.i 0, .i 0]) (lN rfl) EvL.nil (fun m w => by kernel_rfl)),
   okp rfl rfl (oqS sz_86 rfl rfl rfl rfl rfl (by decide)),
   okp rfl rfl (oqA (lN rfl) rfl),
   trivial⟩ ?_
  refine fqK (s' := [kt 4 (.p 1 0), kt 5 (.i 40), kb 1 86 2, kc 1 0 (.i 0), kc 1 1 (.i 0)]) ?_ (kp rfl) rfl
  refine fqT ?_
  refine aqr ?_
  refine fin_block_ret ?_
  refine fqR ?_
  refine pqr (x := .t [.g [.i 0, .i 0], .i 40]) rfl rfl (rqC (ys := [.i 0, .i 0]) rfl sh_86 rfl ⟨rfl, rfl, trivial⟩ (rqT rfl rqN)) rfl (fun mm aa ww hr => ?_)
  show Ending.returned (.tuple #[.agg #[.int .i64 0, .int .i64 0], .int .i64 40]) = _ ∧ _
  exact ⟨by clear hr; simp_all [at_], hr.below⟩
 ·have _z := hz1
  have q3 := not_f hz1
  refine aqS ?_
  refine aqT (rows := [_, _, _, _]) rfl (by kernel_rfl) ⟨
   okp rfl rfl (oqM (lN rfl) rfl),
   okp rfl rfl (oqC (x := .B (within x 0 1000)) (fs := []) (caps := []) (extra := []) (lN rfl) en_84 rfl ⟨rfl, rfl, rfl⟩ (EvL.cons rfl (EvL.cons rfl (EvL.cons rfl EvL.nil))) (fun mm aa ww gg hr hrel => (c84 x 0 1000 ww))),
   okp rfl rfl (oqn (lN rfl) rfl),
   okp rfl rfl (oqA (lN rfl) rfl),
   trivial⟩ ?_
  refine fqK (s' := [kt 0 (.v (.slice l_p l.length l_c)), kt 1 (.i x), kt 4 (.p 1 0), kt 11 (.B (!(within x 0 1000))), kb 1 86 2, kc 1 0 (.i 0), kc 1 1 (.i 0)]) ?_ (kp rfl) rfl
  refine fqT ?_
  refine aqc rfl (fun hz4 => ?_) (fun hz4 => ?_)
  ·have _z := hz4
   have q5 := within_f (not_t hz4)
   refine aqS ?_
   refine aqT (rows := [_, _, _]) rfl (by kernel_rfl) ⟨
    okp rfl rfl (op_build (x := .g [.i 0, .i 0]) (lN rfl) EvL.nil (fun m w => by kernel_rfl)),
    okp rfl rfl (oqS sz_86 rfl rfl rfl rfl rfl (by decide)),
    okp rfl rfl (oqA (lN rfl) rfl),
    trivial⟩ ?_
   refine fqK (s' := [kt 4 (.p 1 0), kt 5 (.i 6), kb 1 86 2, kc 1 0 (.i 0), kc 1 1 (.i 0)]) ?_ (kp rfl) rfl
   refine fqT ?_
   refine aqr ?_
   refine fin_block_ret ?_
   refine fqR ?_
   refine pqr (x := .t [.g [.i 0, .i 0], .i 6]) rfl rfl (rqC (ys := [.i 0, .i 0]) rfl sh_86 rfl ⟨rfl, rfl, trivial⟩ (rqT rfl rqN)) rfl (fun mm aa ww hr => ?_)
   show Ending.returned (.tuple #[.agg #[.int .i64 0, .int .i64 0], .int .i64 6]) = _ ∧ _
   exact ⟨by clear hr; simp_all [at_], hr.below⟩
  ·have _z := hz4
   have q6 := within_t (not_f hz4)
   refine aqk ?_
   refine fqB ?_
   refine fqT ?_
   refine aqS ?_
   have hcv := not_f hz1
   have hxx := within_t (not_f hz4)
   have hvb := value_bd hcv hxx.1
   refine aqT (rows := [_, _, _, _, _, _, _, _]) rfl (by kernel_rfl) ⟨
    okp rfl rfl (oqM (lN rfl) rfl),
    okp rfl rfl (oqM (lN rfl) rfl),
    okp rfl rfl (oqC (x := .t [.i ((value l x).1), .i ((value l x).2)]) (fs := []) (caps := []) (extra := []) (lN rfl) en_109 rfl ⟨rfl, rfl, rfl⟩ (EvL.cons rfl (EvL.cons rfl EvL.nil)) (fun mm aa ww gg hr hrel => (c109 l ⟨l_p, l.length, l_c⟩ x ww (SlIs.mono hl hrel.below) (by first | assumption | omega) (by first | assumption | omega)))),
    okp rfl rfl (oqx (lN rfl) rfl rfl),
    okp rfl rfl (oqx (lN rfl) rfl rfl),
    okp rfl rfl (oqC (x := .g [.i ((lowest ((value l x).1) ((value l x).2)).1), .i ((lowest ((value l x).1) ((value l x).2)).2)]) (fs := []) (caps := []) (extra := []) (lN rfl) en_108 rfl ⟨rfl, rfl, rfl⟩ (EvL.cons rfl (EvL.cons rfl EvL.nil)) (fun mm aa ww gg hr hrel => (c108 ((value l x).1) ((value l x).2) ww (by first | assumption | omega) (by first | assumption | omega)))),
    okp rfl rfl (oqS sz_86 rfl rfl rfl rfl rfl (by decide)),
    okp rfl rfl (oqA (lN rfl) rfl),
    trivial⟩ ?_
   refine fqK (s' := [kt 4 (.p 1 0), kt 5 (.i 0), kb 1 86 2, kc 1 0 (.i ((lowest ((value l x).1) ((value l x).2)).1)), kc 1 1 (.i ((lowest ((value l x).1) ((value l x).2)).2))]) ?_ (kp rfl) rfl
   refine fqT ?_
   refine aqr ?_
   refine pqr (x := .t [.g [.i ((lowest ((value l x).1) ((value l x).2)).1), .i ((lowest ((value l x).1) ((value l x).2)).2)], .i 0]) rfl rfl (rqC (ys := [.i ((lowest ((value l x).1) ((value l x).2)).1), .i ((lowest ((value l x).1) ((value l x).2)).2)]) rfl sh_86 rfl ⟨rfl, rfl, trivial⟩ (rqT rfl rqN)) rfl (fun mm aa ww hr => ?_)
   show Ending.returned (.tuple #[.agg #[.int .i64 ((lowest ((value l x).1) ((value l x).2)).1), .int .i64 ((lowest ((value l x).1) ((value l x).2)).2)], .int .i64 0]) = _ ∧ _
   exact ⟨by clear hr; simp_all [at_], hr.below⟩
end Go.Proofs.T
namespace Go.Proofs.T
open Go Go.AX Go.RowKit Hull
theorem fo_136_0 : fieldOff Tryd.prog 136 0 = some 0 := by kernel_rfl
theorem sh_134 : shapeOf Tryd.prog 134 = some none := by kernel_rfl
theorem fo_136_1 : fieldOff Tryd.prog 136 1 = some 1 := by kernel_rfl
theorem fo_136_2 : fieldOff Tryd.prog 136 2 = some 5 := by kernel_rfl
theorem sh_4 : shapeOf Tryd.prog 4 = some none := by kernel_rfl
theorem c114 (s : Ship) (s_Thrust_s : SlV) (s_Water_s : SlV) (s_Ice_s : SlV) (s_b : Nat) (v : Int) (w : World) (hs_Thrust : SlIs ePt 2 w s_Thrust_s s.Thrust) (hs_Water : SlIs ePt 2 w s_Water_s s.Water) (hs_Ice : SlIs ePt 2 w s_Ice_s s.Ice) (hs_box : BoxAt w s_b [.int .i64 s.Class, .int .i64 s.Power, .int .i64 s.Draught, .int .i64 s.Tonnes, .slice s_Thrust_s.p s_Thrust_s.n s_Thrust_s.c, .slice s_Water_s.p s_Water_s.n s_Water_s.c, .slice s_Ice_s.p s_Ice_s.n s_Ice_s.c, .int .i64 s.Slow, .int .i64 s.Brash, .int .i64 s.Ridge, .int .i64 s.Press]) (hc : check s = 0) (hv : 0 ≤ v ∧ v ≤ 255) : Calls Tryd.prog 114 #[.pointer (some ⟨s_b, 0, none⟩), .int .i64 v] w fun e w' => e = .returned (.int .i64 (thrust s v)) ∧ Below w.heap.size w w' := by
 obtain ⟨s0Tp, s0Tn, s0Tc⟩ := s_Thrust_s
 have hs_Thrust_l : s0Tn = s.Thrust.length := hs_Thrust.1
 subst hs_Thrust_l
 obtain ⟨s_Thrust_b, s0To, hs_Thrust_p, hs_Thrust_L⟩ := SlAt.lies' hs_Thrust
 obtain ⟨s0Wp, s0Wn, s0Wc⟩ := s_Water_s
 have hs_Water_l : s0Wn = s.Water.length := hs_Water.1
 subst hs_Water_l
 obtain ⟨s_Water_b, s0Wo, hs_Water_p, hs_Water_L⟩ := SlAt.lies' hs_Water
 obtain ⟨s0Ip, s0In, s0Ic⟩ := s_Ice_s
 have hs_Ice_l : s0In = s.Ice.length := hs_Ice.1
 subst hs_Ice_l
 obtain ⟨s_Ice_b, s0Io, hs_Ice_p, hs_Ice_L⟩ := SlAt.lies' hs_Ice
 refine enter (args := [.v (.pointer (some ⟨s_b, 0, none⟩)), .i v]) Tryd.func114 rfl (N := 19) rfl (Nat.le_of_ble_eq_true rfl) ?_
 refine aqS ?_
 refine aqT (rows := [_]) rfl (by kernel_rfl) ⟨
  okp rfl rfl (oqA (lN rfl) rfl),
  trivial⟩ ?_
 refine fqK (s' := [kt 0 (.v (.pointer (some ⟨s_b, 0, none⟩))), kt 1 (.i v)]) ?_ (kp rfl) rfl
 refine fqT ?_
 refine aqS ?_
 refine aqT (rows := [_, _, _, _, _, _, _, _, _, _, _]) rfl (by kernel_rfl) ⟨
  okp rfl rfl (oqM (lN rfl) rfl),
  okp rfl rfl (op_nilCheck (lN rfl) rfl trivial),
  okp rfl rfl (oqG (lN rfl) rfl fo_25_4),
  okp rfl rfl (oqW (y := .v (.slice s0Tp s.Thrust.length s0Tc)) (lN rfl) rfl (ldCell hs_box.1 (hs_box.2 4 _ rfl) rfl sh_23)),
  okp rfl rfl (oqM (lN rfl) rfl),
  okp rfl rfl (oqC (x := .t [.i ((value s.Thrust v).1), .i ((value s.Thrust v).2)]) (fs := []) (caps := []) (extra := []) (lN rfl) en_109 rfl ⟨rfl, rfl, rfl⟩ (EvL.cons rfl (EvL.cons rfl EvL.nil)) (fun mm aa ww gg hr hrel => (c109 s.Thrust ⟨s0Tp, s.Thrust.length, s0Tc⟩ v ww (SlIs.mono hs_Thrust hrel.below) (check_curveThrust hc) (by first | assumption | omega)))),
  okp rfl rfl (oqM (lN rfl) rfl),
  okp rfl rfl (oqx (lN rfl) rfl rfl),
  okp rfl rfl (oqx (lN rfl) rfl rfl),
  okp rfl rfl (oqA (lN rfl) rfl),
  okp rfl rfl (oqA (lN rfl) rfl),
  trivial⟩ ?_
 refine fqK (s' := [kt 5 (.i ((value s.Thrust v).1)), kt 6 (.i ((value s.Thrust v).2))]) ?_ (kp rfl) rfl
 refine fqT ?_
 refine aqS ?_
 have hb := value_bd (check_curveThrust hc) hv.1
 refine aqT (rows := [_, _, _, _]) rfl (by kernel_rfl) ⟨
  okp rfl rfl (oqM (lN rfl) rfl),
  okp rfl rfl (oqM (lN rfl) rfl),
  okp rfl rfl (op_quo (lN rfl) rfl rfl (by omega) (quo_nn (by omega) (by omega) (by omega))),
  okp rfl rfl (oqA (lN rfl) rfl),
  trivial⟩ ?_
 refine fqK (s' := [kt 4 (.i (((value s.Thrust v).1) / ((value s.Thrust v).2)))]) ?_ (kp rfl) rfl
 refine fqT ?_
 refine aqr ?_
 refine pqr (x := .i (((value s.Thrust v).1) / ((value s.Thrust v).2))) rfl rfl (rqT rfl rqN) rfl (fun mm aa ww hr => ?_)
 show Ending.returned (.int .i64 (((value s.Thrust v).1) / ((value s.Thrust v).2))) = _ ∧ _
 first
  | exact ⟨rfl, hr.below⟩
theorem c77 (s : Ship) (s_Thrust_s : SlV) (s_Water_s : SlV) (s_Ice_s : SlV) (s_b : Nat) (i : Ice) (ch : Bool) (v : Int) (w : World) (hs_Thrust : SlIs ePt 2 w s_Thrust_s s.Thrust) (hs_Water : SlIs ePt 2 w s_Water_s s.Water) (hs_Ice : SlIs ePt 2 w s_Ice_s s.Ice) (hs_box : BoxAt w s_b [.int .i64 s.Class, .int .i64 s.Power, .int .i64 s.Draught, .int .i64 s.Tonnes, .slice s_Thrust_s.p s_Thrust_s.n s_Thrust_s.c, .slice s_Water_s.p s_Water_s.n s_Water_s.c, .slice s_Ice_s.p s_Ice_s.n s_Ice_s.c, .int .i64 s.Slow, .int .i64 s.Brash, .int .i64 s.Ridge, .int .i64 s.Press]) (hc : check s = 0) (hi : goodIce i) (hv : 0 ≤ v ∧ v ≤ 255) : Calls Tryd.prog 77 #[.agg #[.pointer (some ⟨s_b, 0, none⟩), .int .i64 i.Conc, .int .i64 i.Thick, .int .i64 i.Ridge, .int .i64 i.Press, .bool ch], .int .i64 v] w fun e w' => e = .returned (.int .i64 (resistance s i ch v)) ∧ Below w.heap.size w w' := by
 obtain ⟨s0Tp, s0Tn, s0Tc⟩ := s_Thrust_s
 have hs_Thrust_l : s0Tn = s.Thrust.length := hs_Thrust.1
 subst hs_Thrust_l
 obtain ⟨s_Thrust_b, s0To, hs_Thrust_p, hs_Thrust_L⟩ := SlAt.lies' hs_Thrust
 obtain ⟨s0Wp, s0Wn, s0Wc⟩ := s_Water_s
 have hs_Water_l : s0Wn = s.Water.length := hs_Water.1
 subst hs_Water_l
 obtain ⟨s_Water_b, s0Wo, hs_Water_p, hs_Water_L⟩ := SlAt.lies' hs_Water
 obtain ⟨s0Ip, s0In, s0Ic⟩ := s_Ice_s
 have hs_Ice_l : s0In = s.Ice.length := hs_Ice.1
 subst hs_Ice_l
 obtain ⟨s_Ice_b, s0Io, hs_Ice_p, hs_Ice_L⟩ := SlAt.lies' hs_Ice
 have hsb := check_bd hc
 have hib := goodIce_bd hi
 have hw := value_bd (check_curveWater hc) hv.1
 have hn := value_bd (check_curveIce hc) hi.2.1.1
 refine enter (args := [.g [.v (.pointer (some ⟨s_b, 0, none⟩)), .i i.Conc, .i i.Thick, .i i.Ridge, .i i.Press, .B ch], .i v]) Tryd.func77 rfl (N := 104) rfl (Nat.le_of_ble_eq_true rfl) ?_
 refine aqS ?_
 refine aqT (rows := [_, _]) rfl (by kernel_rfl) ⟨
  okp rfl rfl (op_boxN (L := 1) (lN rfl) rfl rfl rfl),
  okp rfl rfl (oqA (lN rfl) rfl),
  trivial⟩ ?_
 refine fqK (s' := [kt 1 (.i v), kt 2 (.p 1 0), kb 1 136 6, kc 1 0 (.v (.pointer (some ⟨s_b, 0, none⟩))), kc 1 1 (.i i.Conc), kc 1 2 (.i i.Thick), kc 1 3 (.i i.Ridge), kc 1 4 (.i i.Press), kc 1 5 (.B ch)]) ?_ (kp rfl) rfl
 refine fqT ?_
 refine aqS ?_
 refine aqT (rows := [_, _, _, _, _, _, _, _, _, _, _, _]) rfl (by kernel_rfl) ⟨
  okp rfl rfl (oqF (lN rfl) rfl fo_136_0),
  okp rfl rfl (oq1 (lN rfl) sh_134 rfl rfl),
  okp rfl rfl (op_nilCheck (lN rfl) rfl trivial),
  okp rfl rfl (oqG (lN rfl) rfl fo_25_5),
  okp rfl rfl (oqW (y := .v (.slice s0Wp s.Water.length s0Wc)) (lN rfl) rfl (ldCell hs_box.1 (hs_box.2 5 _ rfl) rfl sh_23)),
  okp rfl rfl (oqM (lN rfl) rfl),
  okp rfl rfl (oqC (x := .t [.i ((value s.Water v).1), .i ((value s.Water v).2)]) (fs := []) (caps := []) (extra := []) (lN rfl) en_109 rfl ⟨rfl, rfl, rfl⟩ (EvL.cons rfl (EvL.cons rfl EvL.nil)) (fun mm aa ww gg hr hrel => (c109 s.Water ⟨s0Wp, s.Water.length, s0Wc⟩ v ww (SlIs.mono hs_Water hrel.below) (check_curveWater hc) (by first | assumption | omega)))),
  okp rfl rfl (oqM (lN rfl) rfl),
  okp rfl rfl (oqx (lN rfl) rfl rfl),
  okp rfl rfl (oqx (lN rfl) rfl rfl),
  okp rfl rfl (oqA (lN rfl) rfl),
  okp rfl rfl (oqA (lN rfl) rfl),
  trivial⟩ ?_
 refine fqK (s' := [kt 1 (.i v), kt 2 (.p 1 0), kt 5 (.i ((value s.Water v).1)), kt 6 (.i ((value s.Water v).2)), kb 1 136 6, kc 1 0 (.v (.pointer (some ⟨s_b, 0, none⟩))), kc 1 1 (.i i.Conc), kc 1 2 (.i i.Thick), kc 1 3 (.i i.Ridge), kc 1 4 (.i i.Press), kc 1 5 (.B ch)]) ?_ (kp rfl) rfl
 refine fqT ?_
 refine aqS ?_
 refine aw_any (rows := [_, _, _, _, _, _, _, _, _, _, _, _, _, _]) (M := [0, 1, 3, 7, 15, 0, 32, 96, 255, 511, 1023, 1023, 2047, 8191]) Tryd_mixed (by kernel_rfl) rfl (by kernel_rfl) ⟨
  okp rfl rfl (oqF (lN rfl) rfl fo_136_0),
  okp rfl rfl (oq1 (lN rfl) sh_134 rfl rfl),
  okp rfl rfl (op_nilCheck (lN rfl) rfl trivial),
  okp rfl rfl (oqG (lN rfl) rfl fo_25_6),
  okp rfl rfl (oqW (y := .v (.slice s0Ip s.Ice.length s0Ic)) (lN rfl) rfl (ldCell hs_box.1 (hs_box.2 6 _ rfl) rfl sh_23)),
  okp rfl rfl (oqF (lN rfl) rfl fo_136_1),
  okp rfl rfl (oqF (lN rfl) rfl fo_28_1),
  okp rfl rfl (oq1 (lN rfl) sh_3 rfl rfl),
  okp rfl rfl (oqC (x := .t [.i ((value s.Ice i.Thick).1), .i ((value s.Ice i.Thick).2)]) (fs := []) (caps := []) (extra := []) (lN rfl) en_109 rfl ⟨rfl, rfl, rfl⟩ (EvL.cons rfl (EvL.cons rfl EvL.nil)) (fun mm aa ww gg hr hrel => (c109 s.Ice ⟨s0Ip, s.Ice.length, s0Ic⟩ i.Thick ww (SlIs.mono hs_Ice hrel.below) (check_curveIce hc) (by first | assumption | omega)))),
  okp rfl rfl (oqM (lN rfl) rfl),
  okp rfl rfl (oqx (lN rfl) rfl rfl),
  okp rfl rfl (oqx (lN rfl) rfl rfl),
  okp rfl rfl (oqA (lN rfl) rfl),
  okp rfl rfl (oqA (lN rfl) rfl),
  trivial⟩ ?_
 refine fqK (s' := [kt 1 (.i v), kt 2 (.p 1 0), kt 5 (.i ((value s.Water v).1)), kt 6 (.i ((value s.Water v).2)), kt 7 (.i ((value s.Ice i.Thick).1)), kt 8 (.i ((value s.Ice i.Thick).2)), kb 1 136 6, kc 1 0 (.v (.pointer (some ⟨s_b, 0, none⟩))), kc 1 1 (.i i.Conc), kc 1 2 (.i i.Thick), kc 1 3 (.i i.Ridge), kc 1 4 (.i i.Press), kc 1 5 (.B ch)]) ?_ (kp rfl) rfl
 refine fqT ?_
 refine aqS ?_
 refine aw_any (rows := [_, _, _, _, _]) (M := [0, 1, 3, 0, 15]) Tryd_mixed (by kernel_rfl) rfl (by kernel_rfl) ⟨
  okp rfl rfl (oqF (lN rfl) rfl fo_136_1),
  okp rfl rfl (oqF (lN rfl) rfl fo_28_2),
  okp rfl rfl (oq1 (lN rfl) sh_3 rfl rfl),
  okp rfl rfl (oqA (lN rfl) rfl),
  okp rfl rfl (oqA (lN rfl) rfl),
  trivial⟩ ?_
 refine fqK (s' := [kt 1 (.i v), kt 2 (.p 1 0), kt 5 (.i ((value s.Water v).1)), kt 6 (.i ((value s.Water v).2)), kt 7 (.i ((value s.Ice i.Thick).1)), kt 8 (.i ((value s.Ice i.Thick).2)), kt 9 (.i 100), kt 10 (.i i.Ridge), kb 1 136 6, kc 1 0 (.v (.pointer (some ⟨s_b, 0, none⟩))), kc 1 1 (.i i.Conc), kc 1 2 (.i i.Thick), kc 1 3 (.i i.Ridge), kc 1 4 (.i i.Press), kc 1 5 (.B ch)]) ?_ (kp rfl) rfl
 refine fqT ?_
 refine aqS ?_
 refine aqS ?_
 refine aqT (rows := [_, _]) rfl (by kernel_rfl) ⟨
  okp rfl rfl (oqF (lN rfl) rfl fo_136_2),
  okp rfl rfl (oq1 (lN rfl) sh_4 rfl rfl),
  trivial⟩ ?_
 refine fqK (s' := [kt 1 (.i v), kt 2 (.p 1 0), kt 5 (.i ((value s.Water v).1)), kt 6 (.i ((value s.Water v).2)), kt 7 (.i ((value s.Ice i.Thick).1)), kt 8 (.i ((value s.Ice i.Thick).2)), kt 9 (.i 100), kt 10 (.i i.Ridge), kt 38 (.B ch), kb 1 136 6, kc 1 0 (.v (.pointer (some ⟨s_b, 0, none⟩))), kc 1 1 (.i i.Conc), kc 1 2 (.i i.Thick), kc 1 3 (.i i.Ridge), kc 1 4 (.i i.Press), kc 1 5 (.B ch)]) ?_ (kp rfl) rfl
 refine fqT ?_
 refine aqc rfl (fun hz1 => ?_) (fun hz1 => ?_)
 ·have _z := hz1
  have q2 := hz1
  refine aqT (rows := [_, _, _, _, _, _, _]) rfl (by kernel_rfl) ⟨
   okp rfl rfl (oqF (lN rfl) rfl fo_136_0),
   okp rfl rfl (oq1 (lN rfl) sh_134 rfl rfl),
   okp rfl rfl (op_nilCheck (lN rfl) rfl trivial),
   okp rfl rfl (oqG (lN rfl) rfl fo_25_8),
   okp rfl rfl (oqW (y := .i s.Brash) (lN rfl) rfl (ldCell hs_box.1 (hs_box.2 8 _ rfl) rfl sh_3)),
   okp rfl rfl (oqA (lN rfl) rfl),
   okp rfl rfl (oqA (lN rfl) rfl),
   trivial⟩ ?_
  refine fqK (s' := [kt 1 (.i v), kt 2 (.p 1 0), kt 5 (.i ((value s.Water v).1)), kt 6 (.i ((value s.Water v).2)), kt 7 (.i ((value s.Ice i.Thick).1)), kt 8 (.i ((value s.Ice i.Thick).2)), kt 9 (.i s.Brash), kt 10 (.i 0), kb 1 136 6, kc 1 0 (.v (.pointer (some ⟨s_b, 0, none⟩))), kc 1 1 (.i i.Conc), kc 1 2 (.i i.Thick), kc 1 3 (.i i.Ridge), kc 1 4 (.i i.Press), kc 1 5 (.B ch)]) ?_ (kp rfl) rfl
  refine fqT ?_
  refine aqS ?_
  have hm3 := mul_nn (x := s.Slow) (y := v) (a := 0) (A := 20) (b := 0) (B := 255) (by omega) (by omega) (by decide) (by decide)
  have hm4 := mul_nn (x := ((value s.Ice i.Thick).1)) (y := (1000 + (s.Slow * v))) (a := 0) (A := 8000000) (b := 1000) (B := 6100) (by omega) (by omega) (by decide) (by decide)
  have hm5 := mul_nn (x := (((value s.Ice i.Thick).1) * (1000 + (s.Slow * v)))) (y := s.Brash) (a := 0) (A := 48800000000) (b := 0) (B := 100) (by omega) (by omega) (by decide) (by decide)
  have hm6 := mul_nn (x := (s.Ridge * 0)) (y := ((value s.Ice i.Thick).2)) (a := 0) (A := 0) (b := 1) (B := 400) (by omega) (by omega) (by decide) (by decide)
  have hm7 := mul_nn (x := i.Conc) (y := (((((value s.Ice i.Thick).1) * (1000 + (s.Slow * v))) * s.Brash) + (((s.Ridge * 0) * ((value s.Ice i.Thick).2)) * 100000))) (a := 0) (A := 100) (b := 0) (B := 4880000000000) (by omega) (by omega) (by decide) (by decide)
  refine aw_any (rows := [_, _, _, _, _, _, _, _, _, _, _, _, _, _, _, _, _, _, _, _, _, _, _, _, _, _, _, _]) (M := [0, 1, 3, 0, 0, 16, 48, 112, 240, 0, 1008, 2032, 4088, 0, 16376, 0, 32768, 98304, 229376, 491520, 0, 2064384, 0, 8355840, 16744448, 33554424, 67108863, 134217727]) Tryd_mixed (by kernel_rfl) rfl (by kernel_rfl) ⟨
   okp rfl rfl (oqF (lN rfl) rfl fo_136_1),
   okp rfl rfl (oqF (lN rfl) rfl fo_28_0),
   okp rfl rfl (oq1 (lN rfl) sh_3 rfl rfl),
   okp rfl rfl (oqM (lN rfl) rfl),
   okp rfl rfl (oqF (lN rfl) rfl fo_136_0),
   okp rfl rfl (oq1 (lN rfl) sh_134 rfl rfl),
   okp rfl rfl (op_nilCheck (lN rfl) rfl trivial),
   okp rfl rfl (oqG (lN rfl) rfl fo_25_7),
   okp rfl rfl (oqW (y := .i s.Slow) (lN rfl) rfl (ldCell hs_box.1 (hs_box.2 7 _ rfl) rfl sh_3)),
   okp rfl rfl (oqM (lN rfl) rfl),
   okp rfl rfl (oqB (lN rfl) rfl rfl (nw_mul ⟨(by omega), (by omega)⟩)),
   okp rfl rfl (oqB (lN rfl) rfl rfl (nw_add ⟨(by omega), (by omega)⟩)),
   okp rfl rfl (oqB (lN rfl) rfl rfl (nw_mul ⟨(by omega), (by omega)⟩)),
   okp rfl rfl (oqM (lN rfl) rfl),
   okp rfl rfl (oqB (lN rfl) rfl rfl (nw_mul ⟨(by omega), (by omega)⟩)),
   okp rfl rfl (oqF (lN rfl) rfl fo_136_0),
   okp rfl rfl (oq1 (lN rfl) sh_134 rfl rfl),
   okp rfl rfl (op_nilCheck (lN rfl) rfl trivial),
   okp rfl rfl (oqG (lN rfl) rfl fo_25_9),
   okp rfl rfl (oqW (y := .i s.Ridge) (lN rfl) rfl (ldCell hs_box.1 (hs_box.2 9 _ rfl) rfl sh_3)),
   okp rfl rfl (oqM (lN rfl) rfl),
   okp rfl rfl (oqB (lN rfl) rfl rfl (nw_mul ⟨(by omega), (by omega)⟩)),
   okp rfl rfl (oqM (lN rfl) rfl),
   okp rfl rfl (oqB (lN rfl) rfl rfl (nw_mul ⟨(by omega), (by omega)⟩)),
   okp rfl rfl (oqB (lN rfl) rfl rfl (nw_mul ⟨(by omega), (by omega)⟩)),
   okp rfl rfl (oqB (lN rfl) rfl rfl (nw_add ⟨(by omega), (by omega)⟩)),
   okp rfl rfl (oqB (lN rfl) rfl rfl (nw_mul ⟨(by omega), (by omega)⟩)),
   okp rfl rfl (oqA (lN rfl) rfl),
   trivial⟩ ?_
  refine fqK (s' := [kt 2 (.p 1 0), kt 5 (.i ((value s.Water v).1)), kt 6 (.i ((value s.Water v).2)), kt 7 (.i (i.Conc * (((((value s.Ice i.Thick).1) * (1000 + (s.Slow * v))) * s.Brash) + (((s.Ridge * 0) * ((value s.Ice i.Thick).2)) * 100000)))), kt 8 (.i ((value s.Ice i.Thick).2)), kb 1 136 6, kc 1 0 (.v (.pointer (some ⟨s_b, 0, none⟩))), kc 1 1 (.i i.Conc), kc 1 2 (.i i.Thick), kc 1 3 (.i i.Ridge), kc 1 4 (.i i.Press), kc 1 5 (.B ch)]) ?_ (kp rfl) rfl
  refine fqT ?_
  refine aqS ?_
  refine aqT (rows := [_, _, _]) rfl (by kernel_rfl) ⟨
   okp rfl rfl (oqM (lN rfl) rfl),
   okp rfl rfl (oqB (lN rfl) rfl rfl (nw_mul ⟨(by omega), (by omega)⟩)),
   okp rfl rfl (oqA (lN rfl) rfl),
   trivial⟩ ?_
  refine fqK (s' := [kt 2 (.p 1 0), kt 5 (.i ((value s.Water v).1)), kt 6 (.i ((value s.Water v).2)), kt 7 (.i (i.Conc * (((((value s.Ice i.Thick).1) * (1000 + (s.Slow * v))) * s.Brash) + (((s.Ridge * 0) * ((value s.Ice i.Thick).2)) * 100000)))), kt 8 (.i (((value s.Ice i.Thick).2) * 10000000)), kb 1 136 6, kc 1 0 (.v (.pointer (some ⟨s_b, 0, none⟩))), kc 1 1 (.i i.Conc), kc 1 2 (.i i.Thick), kc 1 3 (.i i.Ridge), kc 1 4 (.i i.Press), kc 1 5 (.B ch)]) ?_ (kp rfl) rfl
  refine fqT ?_
  refine aqS ?_
  have hm8 := mul_nn (x := ((value s.Water v).1)) (y := (((value s.Ice i.Thick).2) * 10000000)) (a := 0) (A := 8000000) (b := 10000000) (B := 4000000000) (by omega) (by omega) (by decide) (by decide)
  have hm9 := mul_nn (x := (i.Conc * (((((value s.Ice i.Thick).1) * (1000 + (s.Slow * v))) * s.Brash) + (((s.Ridge * 0) * ((value s.Ice i.Thick).2)) * 100000)))) (y := ((value s.Water v).2)) (a := 0) (A := 488000000000000) (b := 1) (B := 400) (by omega) (by omega) (by decide) (by decide)
  have hm10 := mul_nn (x := s.Press) (y := i.Press) (a := 0) (A := 5000) (b := 0) (B := 3) (by omega) (by omega) (by decide) (by decide)
  have hm11 := mul_nn (x := (s.Press * i.Press)) (y := ((value s.Water v).2)) (a := 0) (A := 15000) (b := 1) (B := 400) (by omega) (by omega) (by decide) (by decide)
  have hm12 := mul_nn (x := ((s.Press * i.Press) * ((value s.Water v).2))) (y := (((value s.Ice i.Thick).2) * 10000000)) (a := 0) (A := 6000000) (b := 10000000) (B := 4000000000) (by omega) (by omega) (by decide) (by decide)
  refine aw_any (rows := [_, _, _, _, _, _, _, _, _, _, _, _, _, _, _, _, _, _, _, _, _, _]) (M := [0, 0, 3, 0, 0, 24, 63, 0, 128, 384, 896, 1920, 0, 4096, 12288, 32640, 0, 130944, 0, 524160, 1048575, 2097151]) Tryd_mixed (by kernel_rfl) rfl (by kernel_rfl) ⟨
   okp rfl rfl (oqM (lN rfl) rfl),
   okp rfl rfl (oqM (lN rfl) rfl),
   okp rfl rfl (oqB (lN rfl) rfl rfl (nw_mul ⟨(by omega), (by omega)⟩)),
   okp rfl rfl (oqM (lN rfl) rfl),
   okp rfl rfl (oqM (lN rfl) rfl),
   okp rfl rfl (oqB (lN rfl) rfl rfl (nw_mul ⟨(by omega), (by omega)⟩)),
   okp rfl rfl (oqB (lN rfl) rfl rfl (nw_add ⟨(by omega), (by omega)⟩)),
   okp rfl rfl (oqF (lN rfl) rfl fo_136_0),
   okp rfl rfl (oq1 (lN rfl) sh_134 rfl rfl),
   okp rfl rfl (op_nilCheck (lN rfl) rfl trivial),
   okp rfl rfl (oqG (lN rfl) rfl fo_25_10),
   okp rfl rfl (oqW (y := .i s.Press) (lN rfl) rfl (ldCell hs_box.1 (hs_box.2 10 _ rfl) rfl sh_3)),
   okp rfl rfl (oqF (lN rfl) rfl fo_136_1),
   okp rfl rfl (oqF (lN rfl) rfl fo_28_3),
   okp rfl rfl (oq1 (lN rfl) sh_3 rfl rfl),
   okp rfl rfl (oqB (lN rfl) rfl rfl (nw_mul ⟨(by omega), (by omega)⟩)),
   okp rfl rfl (oqM (lN rfl) rfl),
   okp rfl rfl (oqB (lN rfl) rfl rfl (nw_mul ⟨(by omega), (by omega)⟩)),
   okp rfl rfl (oqM (lN rfl) rfl),
   okp rfl rfl (oqB (lN rfl) rfl rfl (nw_mul ⟨(by omega), (by omega)⟩)),
   okp rfl rfl (oqB (lN rfl) rfl rfl (nw_add ⟨(by omega), (by omega)⟩)),
   okp rfl rfl (oqA (lN rfl) rfl),
   trivial⟩ ?_
  refine fqK (s' := [kt 6 (.i ((value s.Water v).2)), kt 8 (.i (((value s.Ice i.Thick).2) * 10000000)), kt 11 (.i (((((value s.Water v).1) * (((value s.Ice i.Thick).2) * 10000000)) + ((i.Conc * (((((value s.Ice i.Thick).1) * (1000 + (s.Slow * v))) * s.Brash) + (((s.Ridge * 0) * ((value s.Ice i.Thick).2)) * 100000))) * ((value s.Water v).2))) + (((s.Press * i.Press) * ((value s.Water v).2)) * (((value s.Ice i.Thick).2) * 10000000))))]) ?_ (kp rfl) rfl
  refine fqT ?_
  refine aqS ?_
  have hm13 := mul_nn (x := ((value s.Water v).2)) (y := (((value s.Ice i.Thick).2) * 10000000)) (a := 1) (A := 400) (b := 10000000) (B := 4000000000) (by omega) (by omega) (by decide) (by decide)
  refine aqT (rows := [_, _, _, _, _, _, _, _, _, _, _]) rfl (by kernel_rfl) ⟨
   okp rfl rfl (oqM (lN rfl) rfl),
   okp rfl rfl (oqM (lN rfl) rfl),
   okp rfl rfl (oqM (lN rfl) rfl),
   okp rfl rfl (oqB (lN rfl) rfl rfl (nw_mul ⟨(by omega), (by omega)⟩)),
   okp rfl rfl (oqB (lN rfl) rfl rfl (nw_add ⟨(by omega), (by omega)⟩)),
   okp rfl rfl (oqB (lN rfl) rfl rfl (nw_sub ⟨(by omega), (by omega)⟩)),
   okp rfl rfl (oqM (lN rfl) rfl),
   okp rfl rfl (oqM (lN rfl) rfl),
   okp rfl rfl (oqB (lN rfl) rfl rfl (nw_mul ⟨(by omega), (by omega)⟩)),
   okp rfl rfl (op_quo (lN rfl) rfl rfl (by omega) (quo_nn (by omega) (by omega) (by omega))),
   okp rfl rfl (oqA (lN rfl) rfl),
   trivial⟩ ?_
  refine fqK (s' := [kt 4 (.i ((((((((value s.Water v).1) * (((value s.Ice i.Thick).2) * 10000000)) + ((i.Conc * (((((value s.Ice i.Thick).1) * (1000 + (s.Slow * v))) * s.Brash) + (((s.Ridge * 0) * ((value s.Ice i.Thick).2)) * 100000))) * ((value s.Water v).2))) + (((s.Press * i.Press) * ((value s.Water v).2)) * (((value s.Ice i.Thick).2) * 10000000))) + (((value s.Water v).2) * (((value s.Ice i.Thick).2) * 10000000))) - 1) / (((value s.Water v).2) * (((value s.Ice i.Thick).2) * 10000000))))]) ?_ (kp rfl) rfl
  refine fqT ?_
  refine aqr ?_
  refine pqr (x := .i ((((((((value s.Water v).1) * (((value s.Ice i.Thick).2) * 10000000)) + ((i.Conc * (((((value s.Ice i.Thick).1) * (1000 + (s.Slow * v))) * s.Brash) + (((s.Ridge * 0) * ((value s.Ice i.Thick).2)) * 100000))) * ((value s.Water v).2))) + (((s.Press * i.Press) * ((value s.Water v).2)) * (((value s.Ice i.Thick).2) * 10000000))) + (((value s.Water v).2) * (((value s.Ice i.Thick).2) * 10000000))) - 1) / (((value s.Water v).2) * (((value s.Ice i.Thick).2) * 10000000)))) rfl rfl (rqT rfl rqN) rfl (fun mm aa ww hr => ?_)
  show Ending.returned (.int .i64 ((((((((value s.Water v).1) * (((value s.Ice i.Thick).2) * 10000000)) + ((i.Conc * (((((value s.Ice i.Thick).1) * (1000 + (s.Slow * v))) * s.Brash) + (((s.Ridge * 0) * ((value s.Ice i.Thick).2)) * 100000))) * ((value s.Water v).2))) + (((s.Press * i.Press) * ((value s.Water v).2)) * (((value s.Ice i.Thick).2) * 10000000))) + (((value s.Water v).2) * (((value s.Ice i.Thick).2) * 10000000))) - 1) / (((value s.Water v).2) * (((value s.Ice i.Thick).2) * 10000000)))) = _ ∧ _
  exact ⟨by rw [resistance, hz1]; rfl, hr.below⟩
 ·have _z := hz1
  have q14 := hz1
  refine aqk ?_
  refine fqT ?_
  refine aqS ?_
  have hm15 := mul_nn (x := s.Slow) (y := v) (a := 0) (A := 20) (b := 0) (B := 255) (by omega) (by omega) (by decide) (by decide)
  have hm16 := mul_nn (x := ((value s.Ice i.Thick).1)) (y := (1000 + (s.Slow * v))) (a := 0) (A := 8000000) (b := 1000) (B := 6100) (by omega) (by omega) (by decide) (by decide)
  have hm17 := mul_nn (x := s.Ridge) (y := i.Ridge) (a := 0) (A := 500) (b := 0) (B := 100) (by omega) (by omega) (by decide) (by decide)
  have hm18 := mul_nn (x := (s.Ridge * i.Ridge)) (y := ((value s.Ice i.Thick).2)) (a := 0) (A := 50000) (b := 1) (B := 400) (by omega) (by omega) (by decide) (by decide)
  have hm19 := mul_nn (x := i.Conc) (y := (((((value s.Ice i.Thick).1) * (1000 + (s.Slow * v))) * 100) + (((s.Ridge * i.Ridge) * ((value s.Ice i.Thick).2)) * 100000))) (a := 0) (A := 100) (b := 0) (B := 6880000000000) (by omega) (by omega) (by decide) (by decide)
  refine aw_any (rows := [_, _, _, _, _, _, _, _, _, _, _, _, _, _, _, _, _, _, _, _, _, _, _, _, _, _, _, _]) (M := [0, 1, 3, 0, 0, 16, 48, 112, 240, 0, 1008, 2032, 4088, 0, 16376, 0, 32768, 98304, 229376, 491520, 0, 2064384, 0, 8355840, 16744448, 33554424, 67108863, 134217727]) Tryd_mixed (by kernel_rfl) rfl (by kernel_rfl) ⟨
   okp rfl rfl (oqF (lN rfl) rfl fo_136_1),
   okp rfl rfl (oqF (lN rfl) rfl fo_28_0),
   okp rfl rfl (oq1 (lN rfl) sh_3 rfl rfl),
   okp rfl rfl (oqM (lN rfl) rfl),
   okp rfl rfl (oqF (lN rfl) rfl fo_136_0),
   okp rfl rfl (oq1 (lN rfl) sh_134 rfl rfl),
   okp rfl rfl (op_nilCheck (lN rfl) rfl trivial),
   okp rfl rfl (oqG (lN rfl) rfl fo_25_7),
   okp rfl rfl (oqW (y := .i s.Slow) (lN rfl) rfl (ldCell hs_box.1 (hs_box.2 7 _ rfl) rfl sh_3)),
   okp rfl rfl (oqM (lN rfl) rfl),
   okp rfl rfl (oqB (lN rfl) rfl rfl (nw_mul ⟨(by omega), (by omega)⟩)),
   okp rfl rfl (oqB (lN rfl) rfl rfl (nw_add ⟨(by omega), (by omega)⟩)),
   okp rfl rfl (oqB (lN rfl) rfl rfl (nw_mul ⟨(by omega), (by omega)⟩)),
   okp rfl rfl (oqM (lN rfl) rfl),
   okp rfl rfl (oqB (lN rfl) rfl rfl (nw_mul ⟨(by omega), (by omega)⟩)),
   okp rfl rfl (oqF (lN rfl) rfl fo_136_0),
   okp rfl rfl (oq1 (lN rfl) sh_134 rfl rfl),
   okp rfl rfl (op_nilCheck (lN rfl) rfl trivial),
   okp rfl rfl (oqG (lN rfl) rfl fo_25_9),
   okp rfl rfl (oqW (y := .i s.Ridge) (lN rfl) rfl (ldCell hs_box.1 (hs_box.2 9 _ rfl) rfl sh_3)),
   okp rfl rfl (oqM (lN rfl) rfl),
   okp rfl rfl (oqB (lN rfl) rfl rfl (nw_mul ⟨(by omega), (by omega)⟩)),
   okp rfl rfl (oqM (lN rfl) rfl),
   okp rfl rfl (oqB (lN rfl) rfl rfl (nw_mul ⟨(by omega), (by omega)⟩)),
   okp rfl rfl (oqB (lN rfl) rfl rfl (nw_mul ⟨(by omega), (by omega)⟩)),
   okp rfl rfl (oqB (lN rfl) rfl rfl (nw_add ⟨(by omega), (by omega)⟩)),
   okp rfl rfl (oqB (lN rfl) rfl rfl (nw_mul ⟨(by omega), (by omega)⟩)),
   okp rfl rfl (oqA (lN rfl) rfl),
   trivial⟩ ?_
  refine fqK (s' := [kt 2 (.p 1 0), kt 5 (.i ((value s.Water v).1)), kt 6 (.i ((value s.Water v).2)), kt 7 (.i (i.Conc * (((((value s.Ice i.Thick).1) * (1000 + (s.Slow * v))) * 100) + (((s.Ridge * i.Ridge) * ((value s.Ice i.Thick).2)) * 100000)))), kt 8 (.i ((value s.Ice i.Thick).2)), kb 1 136 6, kc 1 0 (.v (.pointer (some ⟨s_b, 0, none⟩))), kc 1 1 (.i i.Conc), kc 1 2 (.i i.Thick), kc 1 3 (.i i.Ridge), kc 1 4 (.i i.Press), kc 1 5 (.B ch)]) ?_ (kp rfl) rfl
  refine fqT ?_
  refine aqS ?_
  refine aqT (rows := [_, _, _]) rfl (by kernel_rfl) ⟨
   okp rfl rfl (oqM (lN rfl) rfl),
   okp rfl rfl (oqB (lN rfl) rfl rfl (nw_mul ⟨(by omega), (by omega)⟩)),
   okp rfl rfl (oqA (lN rfl) rfl),
   trivial⟩ ?_
  refine fqK (s' := [kt 2 (.p 1 0), kt 5 (.i ((value s.Water v).1)), kt 6 (.i ((value s.Water v).2)), kt 7 (.i (i.Conc * (((((value s.Ice i.Thick).1) * (1000 + (s.Slow * v))) * 100) + (((s.Ridge * i.Ridge) * ((value s.Ice i.Thick).2)) * 100000)))), kt 8 (.i (((value s.Ice i.Thick).2) * 10000000)), kb 1 136 6, kc 1 0 (.v (.pointer (some ⟨s_b, 0, none⟩))), kc 1 1 (.i i.Conc), kc 1 2 (.i i.Thick), kc 1 3 (.i i.Ridge), kc 1 4 (.i i.Press), kc 1 5 (.B ch)]) ?_ (kp rfl) rfl
  refine fqT ?_
  refine aqS ?_
  have hm20 := mul_nn (x := ((value s.Water v).1)) (y := (((value s.Ice i.Thick).2) * 10000000)) (a := 0) (A := 8000000) (b := 10000000) (B := 4000000000) (by omega) (by omega) (by decide) (by decide)
  have hm21 := mul_nn (x := (i.Conc * (((((value s.Ice i.Thick).1) * (1000 + (s.Slow * v))) * 100) + (((s.Ridge * i.Ridge) * ((value s.Ice i.Thick).2)) * 100000)))) (y := ((value s.Water v).2)) (a := 0) (A := 688000000000000) (b := 1) (B := 400) (by omega) (by omega) (by decide) (by decide)
  have hm22 := mul_nn (x := s.Press) (y := i.Press) (a := 0) (A := 5000) (b := 0) (B := 3) (by omega) (by omega) (by decide) (by decide)
  have hm23 := mul_nn (x := (s.Press * i.Press)) (y := ((value s.Water v).2)) (a := 0) (A := 15000) (b := 1) (B := 400) (by omega) (by omega) (by decide) (by decide)
  have hm24 := mul_nn (x := ((s.Press * i.Press) * ((value s.Water v).2))) (y := (((value s.Ice i.Thick).2) * 10000000)) (a := 0) (A := 6000000) (b := 10000000) (B := 4000000000) (by omega) (by omega) (by decide) (by decide)
  refine aw_any (rows := [_, _, _, _, _, _, _, _, _, _, _, _, _, _, _, _, _, _, _, _, _, _]) (M := [0, 0, 3, 0, 0, 24, 63, 0, 128, 384, 896, 1920, 0, 4096, 12288, 32640, 0, 130944, 0, 524160, 1048575, 2097151]) Tryd_mixed (by kernel_rfl) rfl (by kernel_rfl) ⟨
   okp rfl rfl (oqM (lN rfl) rfl),
   okp rfl rfl (oqM (lN rfl) rfl),
   okp rfl rfl (oqB (lN rfl) rfl rfl (nw_mul ⟨(by omega), (by omega)⟩)),
   okp rfl rfl (oqM (lN rfl) rfl),
   okp rfl rfl (oqM (lN rfl) rfl),
   okp rfl rfl (oqB (lN rfl) rfl rfl (nw_mul ⟨(by omega), (by omega)⟩)),
   okp rfl rfl (oqB (lN rfl) rfl rfl (nw_add ⟨(by omega), (by omega)⟩)),
   okp rfl rfl (oqF (lN rfl) rfl fo_136_0),
   okp rfl rfl (oq1 (lN rfl) sh_134 rfl rfl),
   okp rfl rfl (op_nilCheck (lN rfl) rfl trivial),
   okp rfl rfl (oqG (lN rfl) rfl fo_25_10),
   okp rfl rfl (oqW (y := .i s.Press) (lN rfl) rfl (ldCell hs_box.1 (hs_box.2 10 _ rfl) rfl sh_3)),
   okp rfl rfl (oqF (lN rfl) rfl fo_136_1),
   okp rfl rfl (oqF (lN rfl) rfl fo_28_3),
   okp rfl rfl (oq1 (lN rfl) sh_3 rfl rfl),
   okp rfl rfl (oqB (lN rfl) rfl rfl (nw_mul ⟨(by omega), (by omega)⟩)),
   okp rfl rfl (oqM (lN rfl) rfl),
   okp rfl rfl (oqB (lN rfl) rfl rfl (nw_mul ⟨(by omega), (by omega)⟩)),
   okp rfl rfl (oqM (lN rfl) rfl),
   okp rfl rfl (oqB (lN rfl) rfl rfl (nw_mul ⟨(by omega), (by omega)⟩)),
   okp rfl rfl (oqB (lN rfl) rfl rfl (nw_add ⟨(by omega), (by omega)⟩)),
   okp rfl rfl (oqA (lN rfl) rfl),
   trivial⟩ ?_
  refine fqK (s' := [kt 6 (.i ((value s.Water v).2)), kt 8 (.i (((value s.Ice i.Thick).2) * 10000000)), kt 11 (.i (((((value s.Water v).1) * (((value s.Ice i.Thick).2) * 10000000)) + ((i.Conc * (((((value s.Ice i.Thick).1) * (1000 + (s.Slow * v))) * 100) + (((s.Ridge * i.Ridge) * ((value s.Ice i.Thick).2)) * 100000))) * ((value s.Water v).2))) + (((s.Press * i.Press) * ((value s.Water v).2)) * (((value s.Ice i.Thick).2) * 10000000))))]) ?_ (kp rfl) rfl
  refine fqT ?_
  refine aqS ?_
  have hm25 := mul_nn (x := ((value s.Water v).2)) (y := (((value s.Ice i.Thick).2) * 10000000)) (a := 1) (A := 400) (b := 10000000) (B := 4000000000) (by omega) (by omega) (by decide) (by decide)
  refine aqT (rows := [_, _, _, _, _, _, _, _, _, _, _]) rfl (by kernel_rfl) ⟨
   okp rfl rfl (oqM (lN rfl) rfl),
   okp rfl rfl (oqM (lN rfl) rfl),
   okp rfl rfl (oqM (lN rfl) rfl),
   okp rfl rfl (oqB (lN rfl) rfl rfl (nw_mul ⟨(by omega), (by omega)⟩)),
   okp rfl rfl (oqB (lN rfl) rfl rfl (nw_add ⟨(by omega), (by omega)⟩)),
   okp rfl rfl (oqB (lN rfl) rfl rfl (nw_sub ⟨(by omega), (by omega)⟩)),
   okp rfl rfl (oqM (lN rfl) rfl),
   okp rfl rfl (oqM (lN rfl) rfl),
   okp rfl rfl (oqB (lN rfl) rfl rfl (nw_mul ⟨(by omega), (by omega)⟩)),
   okp rfl rfl (op_quo (lN rfl) rfl rfl (by omega) (quo_nn (by omega) (by omega) (by omega))),
   okp rfl rfl (oqA (lN rfl) rfl),
   trivial⟩ ?_
  refine fqK (s' := [kt 4 (.i ((((((((value s.Water v).1) * (((value s.Ice i.Thick).2) * 10000000)) + ((i.Conc * (((((value s.Ice i.Thick).1) * (1000 + (s.Slow * v))) * 100) + (((s.Ridge * i.Ridge) * ((value s.Ice i.Thick).2)) * 100000))) * ((value s.Water v).2))) + (((s.Press * i.Press) * ((value s.Water v).2)) * (((value s.Ice i.Thick).2) * 10000000))) + (((value s.Water v).2) * (((value s.Ice i.Thick).2) * 10000000))) - 1) / (((value s.Water v).2) * (((value s.Ice i.Thick).2) * 10000000))))]) ?_ (kp rfl) rfl
  refine fqT ?_
  refine aqr ?_
  refine pqr (x := .i ((((((((value s.Water v).1) * (((value s.Ice i.Thick).2) * 10000000)) + ((i.Conc * (((((value s.Ice i.Thick).1) * (1000 + (s.Slow * v))) * 100) + (((s.Ridge * i.Ridge) * ((value s.Ice i.Thick).2)) * 100000))) * ((value s.Water v).2))) + (((s.Press * i.Press) * ((value s.Water v).2)) * (((value s.Ice i.Thick).2) * 10000000))) + (((value s.Water v).2) * (((value s.Ice i.Thick).2) * 10000000))) - 1) / (((value s.Water v).2) * (((value s.Ice i.Thick).2) * 10000000)))) rfl rfl (rqT rfl rqN) rfl (fun mm aa ww hr => ?_)
  show Ending.returned (.int .i64 ((((((((value s.Water v).1) * (((value s.Ice i.Thick).2) * 10000000)) + ((i.Conc * (((((value s.Ice i.Thick).1) * (1000 + (s.Slow * v))) * 100) + (((s.Ridge * i.Ridge) * ((value s.Ice i.Thick).2)) * 100000))) * ((value s.Water v).2))) + (((s.Press * i.Press) * ((value s.Water v).2)) * (((value s.Ice i.Thick).2) * 10000000))) + (((value s.Water v).2) * (((value s.Ice i.Thick).2) * 10000000))) - 1) / (((value s.Water v).2) * (((value s.Ice i.Thick).2) * 10000000)))) = _ ∧ _
  exact ⟨by rw [resistance, hz1]; rfl, hr.below⟩
end Go.Proofs.T
namespace Go.Proofs.T
open Go Go.AX Go.RowKit Hull
theorem en_114 : Proofs.Enters Tryd.prog 114 := Proofs.enters_of Tryd.func114 (by kernel_rfl) rfl
theorem sh_136 : shapeOf Tryd.prog 136 = some (some 6) := by kernel_rfl
theorem en_77 : Proofs.Enters Tryd.prog 77 := Proofs.enters_of Tryd.func77 (by kernel_rfl) rfl
theorem en_79 : Proofs.Enters Tryd.prog 79 := Proofs.enters_of Tryd.func79 (by kernel_rfl) rfl
theorem ar_203 : arrSz Tryd.prog 203 = some (6, 1) := by kernel_rfl
theorem c106 (s : Ship) (s_Thrust_s : SlV) (s_Water_s : SlV) (s_Ice_s : SlV) (s_b : Nat) (i : Ice) (ch : Bool) (v : Int) (w : World) (hs_Thrust : SlIs ePt 2 w s_Thrust_s s.Thrust) (hs_Water : SlIs ePt 2 w s_Water_s s.Water) (hs_Ice : SlIs ePt 2 w s_Ice_s s.Ice) (hs_box : BoxAt w s_b [.int .i64 s.Class, .int .i64 s.Power, .int .i64 s.Draught, .int .i64 s.Tonnes, .slice s_Thrust_s.p s_Thrust_s.n s_Thrust_s.c, .slice s_Water_s.p s_Water_s.n s_Water_s.c, .slice s_Ice_s.p s_Ice_s.n s_Ice_s.c, .int .i64 s.Slow, .int .i64 s.Brash, .int .i64 s.Ridge, .int .i64 s.Press]) (hc : check s = 0) (hi : goodIce i) (hv : 0 ≤ v ∧ v ≤ 255) : Calls Tryd.prog 106 #[.agg #[.pointer (some ⟨s_b, 0, none⟩), .int .i64 i.Conc, .int .i64 i.Thick, .int .i64 i.Ridge, .int .i64 i.Press, .bool ch], .int .i64 v] w fun e w' => e = .returned (.bool (makes s i ch v)) ∧ Below w.heap.size w w' := by
 obtain ⟨s0Tp, s0Tn, s0Tc⟩ := s_Thrust_s
 have hs_Thrust_l : s0Tn = s.Thrust.length := hs_Thrust.1
 subst hs_Thrust_l
 obtain ⟨s_Thrust_b, s0To, hs_Thrust_p, hs_Thrust_L⟩ := SlAt.lies' hs_Thrust
 obtain ⟨s0Wp, s0Wn, s0Wc⟩ := s_Water_s
 have hs_Water_l : s0Wn = s.Water.length := hs_Water.1
 subst hs_Water_l
 obtain ⟨s_Water_b, s0Wo, hs_Water_p, hs_Water_L⟩ := SlAt.lies' hs_Water
 obtain ⟨s0Ip, s0In, s0Ic⟩ := s_Ice_s
 have hs_Ice_l : s0In = s.Ice.length := hs_Ice.1
 subst hs_Ice_l
 obtain ⟨s_Ice_b, s0Io, hs_Ice_p, hs_Ice_L⟩ := SlAt.lies' hs_Ice
 refine enter (args := [.g [.v (.pointer (some ⟨s_b, 0, none⟩)), .i i.Conc, .i i.Thick, .i i.Ridge, .i i.Press, .B ch], .i v]) Tryd.func106 rfl (N := 23) rfl (Nat.le_of_ble_eq_true rfl) ?_
 refine aqS ?_
 refine aqT (rows := [_, _]) rfl (by kernel_rfl) ⟨
  okp rfl rfl (op_boxN (L := 1) (lN rfl) rfl rfl rfl),
  okp rfl rfl (oqA (lN rfl) rfl),
  trivial⟩ ?_
 refine fqK (s' := [kt 1 (.i v), kt 2 (.p 1 0), kb 1 136 6, kc 1 0 (.v (.pointer (some ⟨s_b, 0, none⟩))), kc 1 1 (.i i.Conc), kc 1 2 (.i i.Thick), kc 1 3 (.i i.Ridge), kc 1 4 (.i i.Press), kc 1 5 (.B ch)]) ?_ (kp rfl) rfl
 refine fqT ?_
 refine aqS ?_
 refine aw_any (rows := [_, _, _, _, _, _, _, _, _, _, _, _, _, _, _, _, _, _, _]) (M := [0, 0, 2, 6, 14, 30, 62, 127, 255, 511, 1023, 511, 4095, 511, 511, 32767, 65535, 131071, 262143]) Tryd_mixed (by kernel_rfl) rfl (by kernel_rfl) ⟨
  okp rfl rfl (oqM (lN rfl) rfl),
  okp rfl rfl (oqF (lN rfl) rfl fo_136_0),
  okp rfl rfl (oq1 (lN rfl) sh_134 rfl rfl),
  okp rfl rfl (op_nilCheck (lN rfl) rfl trivial),
  okp rfl rfl (oqG (lN rfl) rfl fo_25_4),
  okp rfl rfl (oqW (y := .v (.slice s0Tp s.Thrust.length s0Tc)) (lN rfl) rfl (ldCell hs_box.1 (hs_box.2 4 _ rfl) rfl sh_23)),
  okp rfl rfl (oqC (x := .i (endX s.Thrust)) (fs := []) (caps := []) (extra := []) (lN rfl) en_137 rfl ⟨rfl, rfl, rfl⟩ (EvL.cons rfl EvL.nil) (fun mm aa ww gg hr hrel => (c137 s.Thrust ⟨s0Tp, s.Thrust.length, s0Tc⟩ ww (SlIs.mono hs_Thrust hrel.below) (check_curveThrust hc)))),
  okp rfl rfl (oqB (lN rfl) rfl rfl rfl),
  okp rfl rfl (oqM (lN rfl) rfl),
  ok_if (lN rfl) rfl rfl rfl rfl rfl rfl (fun hg1 => oqF (lN rfl) (force_x rfl) fo_136_0),
  ok_if (lN rfl) rfl rfl rfl rfl rfl rfl (fun hg2 => oq1 (lN rfl) sh_134 (force_eq (beq_iff_eq.2 hg2) rfl) rfl),
  ok_if (lN rfl) rfl rfl rfl rfl rfl rfl (fun hg3 => oqM (lN rfl) (force_x rfl)),
  ok_if (lN rfl) rfl rfl rfl rfl rfl rfl (fun hg4 => oqC (x := .i (thrust s v)) (fs := []) (caps := []) (extra := []) (lN rfl) en_114 rfl ⟨rfl, rfl, rfl⟩ (EvL.cons (force_eq (beq_iff_eq.2 hg4) rfl) (EvL.cons (force_eq (beq_iff_eq.2 hg4) rfl) EvL.nil)) (fun mm aa ww gg hr hrel => (c114 s ⟨s0Tp, s.Thrust.length, s0Tc⟩ ⟨s0Wp, s.Water.length, s0Wc⟩ ⟨s0Ip, s.Ice.length, s0Ic⟩ s_b v ww (SlIs.mono hs_Thrust hrel.below) (SlIs.mono hs_Water hrel.below) (SlIs.mono hs_Ice hrel.below) (BoxAt.mono hs_box hrel.below) (by have g0 := of_decide_eq_true hg4; first | assumption | omega) (by have g0 := of_decide_eq_true hg4; first | assumption | omega)))),
  ok_if (lN rfl) rfl rfl rfl rfl rfl rfl (fun hg5 => oqL (ys := [.v (.pointer (some ⟨s_b, 0, none⟩)), .i i.Conc, .i i.Thick, .i i.Ridge, .i i.Press, .B ch]) (lN rfl) sh_136 (force_x rfl) rfl ⟨rfl, rfl, rfl, rfl, rfl, rfl, trivial⟩),
  ok_if (lN rfl) rfl rfl rfl rfl rfl rfl (fun hg6 => oqM (lN rfl) (force_x rfl)),
  ok_if (lN rfl) rfl rfl rfl rfl rfl rfl (fun hg7 => oqC (x := .i (resistance s i ch v)) (fs := []) (caps := []) (extra := []) (lN rfl) en_77 rfl ⟨rfl, rfl, rfl⟩ (EvL.cons (force_eq (beq_iff_eq.2 hg7) rfl) (EvL.cons (force_eq (beq_iff_eq.2 hg7) rfl) EvL.nil)) (fun mm aa ww gg hr hrel => (c77 s ⟨s0Tp, s.Thrust.length, s0Tc⟩ ⟨s0Wp, s.Water.length, s0Wc⟩ ⟨s0Ip, s.Ice.length, s0Ic⟩ s_b i ch v ww (SlIs.mono hs_Thrust hrel.below) (SlIs.mono hs_Water hrel.below) (SlIs.mono hs_Ice hrel.below) (BoxAt.mono hs_box hrel.below) (by have g0 := of_decide_eq_true hg7; first | assumption | omega) (by have g0 := of_decide_eq_true hg7; first | assumption | omega) (by have g0 := of_decide_eq_true hg7; first | assumption | omega)))),
  ok_if (lN rfl) rfl rfl rfl rfl rfl rfl (fun hg8 => oqB (lN rfl) (force_eq (beq_iff_eq.2 hg8) rfl) (force_eq (beq_iff_eq.2 hg8) rfl) rfl),
  okp rfl rfl (op_and (lN rfl) rfl rfl),
  okp rfl rfl (oqA (lN rfl) rfl),
  trivial⟩ ?_
 refine fqK (s' := [kt 4 (.B ((decide (v ≤ (endX s.Thrust))) && (decide ((thrust s v) ≥ (resistance s i ch v)))))]) ?_ (kp rfl) rfl
 refine fqT ?_
 refine aqr ?_
 refine pqr (x := .B ((decide (v ≤ (endX s.Thrust))) && (decide ((thrust s v) ≥ (resistance s i ch v))))) rfl rfl (rqT rfl rqN) rfl (fun mm aa ww hr => ?_)
 show Ending.returned (.bool ((decide (v ≤ (endX s.Thrust))) && (decide ((thrust s v) ≥ (resistance s i ch v))))) = _ ∧ _
 first
  | exact ⟨rfl, hr.below⟩
theorem c119 (s : Ship) (s_Thrust_s : SlV) (s_Water_s : SlV) (s_Ice_s : SlV) (s_b : Nat) (i : Ice) (ch : Bool) (v : Int) (w : World) (hs_Thrust : SlIs ePt 2 w s_Thrust_s s.Thrust) (hs_Water : SlIs ePt 2 w s_Water_s s.Water) (hs_Ice : SlIs ePt 2 w s_Ice_s s.Ice) (hs_box : BoxAt w s_b [.int .i64 s.Class, .int .i64 s.Power, .int .i64 s.Draught, .int .i64 s.Tonnes, .slice s_Thrust_s.p s_Thrust_s.n s_Thrust_s.c, .slice s_Water_s.p s_Water_s.n s_Water_s.c, .slice s_Ice_s.p s_Ice_s.n s_Ice_s.c, .int .i64 s.Slow, .int .i64 s.Brash, .int .i64 s.Ridge, .int .i64 s.Press]) (hG : BoxAt w 0 (strengths.map (fun n => Value.int .i64 n))) (hc : check s = 0) (hi : goodIce i) (hv : 0 ≤ v ∧ v ≤ 255) : Calls Tryd.prog 119 #[.agg #[.pointer (some ⟨s_b, 0, none⟩), .int .i64 i.Conc, .int .i64 i.Thick, .int .i64 i.Ridge, .int .i64 i.Press, .bool ch], .int .i64 v] w fun e w' => e = .returned (.bool (bears s i ch v)) ∧ Below w.heap.size w w' := by
 obtain ⟨s0Tp, s0Tn, s0Tc⟩ := s_Thrust_s
 have hs_Thrust_l : s0Tn = s.Thrust.length := hs_Thrust.1
 subst hs_Thrust_l
 obtain ⟨s_Thrust_b, s0To, hs_Thrust_p, hs_Thrust_L⟩ := SlAt.lies' hs_Thrust
 obtain ⟨s0Wp, s0Wn, s0Wc⟩ := s_Water_s
 have hs_Water_l : s0Wn = s.Water.length := hs_Water.1
 subst hs_Water_l
 obtain ⟨s_Water_b, s0Wo, hs_Water_p, hs_Water_L⟩ := SlAt.lies' hs_Water
 obtain ⟨s0Ip, s0In, s0Ic⟩ := s_Ice_s
 have hs_Ice_l : s0In = s.Ice.length := hs_Ice.1
 subst hs_Ice_l
 obtain ⟨s_Ice_b, s0Io, hs_Ice_p, hs_Ice_L⟩ := SlAt.lies' hs_Ice
 have hsb := check_bd hc
 have hst : strengths.length = 6 := rfl
 refine enter (args := [.g [.v (.pointer (some ⟨s_b, 0, none⟩)), .i i.Conc, .i i.Thick, .i i.Ridge, .i i.Press, .B ch], .i v]) Tryd.func119 rfl (N := 20) rfl (Nat.le_of_ble_eq_true rfl) ?_
 refine aqS ?_
 refine aqT (rows := [_, _]) rfl (by kernel_rfl) ⟨
  okp rfl rfl (op_boxN (L := 1) (lN rfl) rfl rfl rfl),
  okp rfl rfl (oqA (lN rfl) rfl),
  trivial⟩ ?_
 refine fqK (s' := [kt 1 (.i v), kt 2 (.p 1 0), kb 1 136 6, kc 1 0 (.v (.pointer (some ⟨s_b, 0, none⟩))), kc 1 1 (.i i.Conc), kc 1 2 (.i i.Thick), kc 1 3 (.i i.Ridge), kc 1 4 (.i i.Press), kc 1 5 (.B ch)]) ?_ (kp rfl) rfl
 refine fqT ?_
 refine aqS ?_
 refine aw_any (rows := [_, _, _, _, _, _, _, _, _, _, _, _, _, _, _, _]) (M := [0, 1, 0, 0, 8, 31, 0, 64, 192, 448, 960, 1984, 4032, 8128, 16383, 32767]) Tryd_mixed (by kernel_rfl) rfl (by kernel_rfl) ⟨
  okp rfl rfl (oqF (lN rfl) rfl fo_136_1),
  okp rfl rfl (oqL (ys := [.i i.Conc, .i i.Thick, .i i.Ridge, .i i.Press]) (lN rfl) sh_28 rfl rfl ⟨rfl, rfl, rfl, rfl, trivial⟩),
  okp rfl rfl (oqM (lN rfl) rfl),
  okp rfl rfl (oqF (lN rfl) rfl fo_136_2),
  okp rfl rfl (oq1 (lN rfl) sh_4 rfl rfl),
  okp rfl rfl (oqC (x := .i (loadI i v ch)) (fs := []) (caps := []) (extra := []) (lN rfl) en_79 rfl ⟨rfl, rfl, rfl⟩ (EvL.cons rfl (EvL.cons rfl (EvL.cons rfl EvL.nil))) (fun mm aa ww gg hr hrel => (c79 i v ch ww (by first | assumption | omega) (by first | assumption | omega)))),
  okp rfl rfl (oqF (lN rfl) rfl fo_136_0),
  okp rfl rfl (oq1 (lN rfl) sh_134 rfl rfl),
  okp rfl rfl (op_nilCheck (lN rfl) rfl trivial),
  okp rfl rfl (oqG (lN rfl) rfl fo_25_0),
  okp rfl rfl (oqW (y := .i s.Class) (lN rfl) rfl (ldCell hs_box.1 (hs_box.2 0 _ rfl) rfl sh_3)),
  okp rfl rfl (oqB (lN rfl) rfl rfl (nw_sub ⟨(by omega), (by omega)⟩)),
  okp rfl rfl (op_ixAB (lN rfl) rfl rfl ar_203 (by omega) (by omega)),
  okp rfl rfl (oqW (y := .i ((strengths : List Int).getD (s.Class - 1).toNat 0)) (lN rfl) rfl (ldTab (l := strengths) hG (by omega) (by omega) (by simp) sh_3)),
  okp rfl rfl (oqB (lN rfl) rfl rfl rfl),
  okp rfl rfl (oqA (lN rfl) rfl),
  trivial⟩ ?_
 refine fqK (s' := [kt 4 (.B (decide ((loadI i v ch) ≤ ((strengths : List Int).getD (s.Class - 1).toNat 0))))]) ?_ (kp rfl) rfl
 refine fqT ?_
 refine aqr ?_
 refine pqr (x := .B (decide ((loadI i v ch) ≤ ((strengths : List Int).getD (s.Class - 1).toNat 0)))) rfl rfl (rqT rfl rqN) rfl (fun mm aa ww hr => ?_)
 show Ending.returned (.bool (decide ((loadI i v ch) ≤ ((strengths : List Int).getD (s.Class - 1).toNat 0)))) = _ ∧ _
 first
  | exact ⟨rfl, hr.below⟩
theorem c103 (least : Int) (most : Int) (fk : Nat) (fF fC : List Value) (so : Int → Bool) (w : World) (hen : Proofs.Enters Tryd.prog fk) (hso : ∀ v w1, Below w.heap.size w w1 → least ≤ v → v ≤ most → Calls Tryd.prog fk (fF ++ (.int .i64 v :: fC)).toArray w1 fun e w2 => e = .returned (.bool (so v)) ∧ Below w1.heap.size w1 w2) (hlm : 0 ≤ least ∧ least ≤ most ∧ most ≤ 1000000000) : Calls Tryd.prog 103 #[.int .i64 least, .int .i64 most, .func (.func fk) fF.toArray fC.toArray] w fun e w' => e = .returned (.tuple #[.int .i64 ((greatest so least most).1), .bool ((greatest so least most).2)]) ∧ Below w.heap.size w w' := by
 refine enter (args := [.i least, .i most, .v (.func (.func fk) fF.toArray fC.toArray)]) Tryd.func103 rfl (N := 30) rfl (Nat.le_of_ble_eq_true rfl) ?_
 refine aqS ?_
 refine aqT (rows := [_, _]) rfl (by kernel_rfl) ⟨
  okp rfl rfl (oqA (lN rfl) rfl),
  okp rfl rfl (oqA (lN rfl) rfl),
  trivial⟩ ?_
 refine fqK (s' := [kt 0 (.i least), kt 1 (.i most), kt 2 (.v (.func (.func fk) fF.toArray fC.toArray))]) ?_ (kp rfl) rfl
 refine fqT ?_
 refine aqS ?_
 refine aqS ?_
 refine aqT (rows := [_, _, _, _]) rfl (by kernel_rfl) ⟨
  okp rfl rfl (oqM (lN rfl) rfl),
  okp rfl rfl (oqM (lN rfl) rfl),
  okp rfl rfl (op_callVL (x := .B (so least)) (extra := []) (lN rfl) hen rfl (EvL.cons rfl EvL.nil) (fun mm aa ww gg hr hrel => hso _ ww hrel.below (by omega) (by omega))),
  okp rfl rfl (oqn (lN rfl) rfl),
  trivial⟩ ?_
 refine fqK (s' := [kt 0 (.i least), kt 1 (.i most), kt 2 (.v (.func (.func fk) fF.toArray fC.toArray)), kt 12 (.B (!(so least)))]) ?_ (kp rfl) rfl
 refine fqT ?_
 refine aqc rfl (fun hz1 => ?_) (fun hz1 => ?_)
 ·have _z := hz1
  have q2 := not_t hz1
  refine aqS ?_
  refine aqT (rows := [_, _]) rfl (by kernel_rfl) ⟨
   okp rfl rfl (oqA (lN rfl) rfl),
   okp rfl rfl (oqA (lN rfl) rfl),
   trivial⟩ ?_
  refine fqK (s' := [kt 6 (.i 0), kt 7 (.B false)]) ?_ (kp rfl) rfl
  refine fqT ?_
  refine aqr ?_
  refine fqR ?_
  refine pqr (x := .t [.i 0, .B false]) rfl rfl (rqT rfl (rqT rfl rqN)) rfl (fun mm aa ww hr => ?_)
  show Ending.returned (.tuple #[.int .i64 0, .bool false]) = _ ∧ _
  exact ⟨by rw [greatest, not_t hz1]; rfl, hr.below⟩
 ·have _z := hz1
  have q3 := not_f hz1
  refine aqk ?_
  refine fqT ?_
  refine aqS ?_
  refine aw_block ?_
  refine AW.keep (s' := (fun (q : Int × Int) => [kt 0 (.i q.1), kt 1 (.i q.2), kt 2 (.v (.func (.func fk) fF.toArray fC.toArray))]) ((least, most))) ?_ (kp rfl) rfl
  refine aw_loop (ι := Int × Int) (fun q => least ≤ q.1 ∧ q.1 ≤ q.2 ∧ q.2 ≤ most ∧ great so least most = great so q.1 q.2) (fun q => [kt 0 (.i q.1), kt 1 (.i q.2), kt 2 (.v (.func (.func fk) fF.toArray fC.toArray))]) (fun q => (q.2 - q.1).toNat) ⟨Int.le_refl _, by omega, Int.le_refl _, rfl⟩ (fun q hI => ?_)
  obtain ⟨hi1, hi2, hi3, hig⟩ := hI
  refine aqS ?_
  refine aqS ?_
  refine aqT (rows := [_, _, _]) rfl (by kernel_rfl) ⟨
   okp rfl rfl (oqM (lN rfl) rfl),
   okp rfl rfl (oqM (lN rfl) rfl),
   okp rfl rfl (oqB (lN rfl) rfl rfl rfl),
   trivial⟩ ?_
  refine fqK (s' := [kt 0 (.i q.1), kt 1 (.i q.2), kt 2 (.v (.func (.func fk) fF.toArray fC.toArray)), kt 15 (.B (decide (q.1 < q.2)))]) ?_ (kp rfl) rfl
  refine fqT ?_
  refine aqc rfl (fun hz4 => ?_) (fun hz4 => ?_)
  ·have _z := hz4
   have q5 := of_decide_eq_true hz4
   refine aqk ?_
   refine fqT ?_
   refine aw_block ?_
   refine aqS ?_
   refine aqT (rows := [_, _, _, _, _, _, _, _]) rfl (by kernel_rfl) ⟨
    okp rfl rfl (oqM (lN rfl) rfl),
    okp rfl rfl (oqM (lN rfl) rfl),
    okp rfl rfl (oqM (lN rfl) rfl),
    okp rfl rfl (oqB (lN rfl) rfl rfl (nw_sub ⟨(by omega), (by omega)⟩)),
    okp rfl rfl (oqB (lN rfl) rfl rfl (nw_add ⟨(by omega), (by omega)⟩)),
    okp rfl rfl (op_quo (lN rfl) rfl rfl (by decide) (quo_nn (by omega) (by omega) (by omega))),
    okp rfl rfl (oqB (lN rfl) rfl rfl (nw_add ⟨(by omega), (by omega)⟩)),
    okp rfl rfl (oqA (lN rfl) rfl),
    trivial⟩ ?_
   refine fqK (s' := [kt 0 (.i q.1), kt 1 (.i q.2), kt 2 (.v (.func (.func fk) fF.toArray fC.toArray)), kt 8 (.i (q.1 + (((q.2 - q.1) + 1) / 2)))]) ?_ (kp rfl) rfl
   refine fqT ?_
   refine aqS ?_
   refine aqT (rows := [_, _, _]) rfl (by kernel_rfl) ⟨
    okp rfl rfl (oqM (lN rfl) rfl),
    okp rfl rfl (oqM (lN rfl) rfl),
    okp rfl rfl (op_callVL (x := .B (so (q.1 + (((q.2 - q.1) + 1) / 2)))) (extra := []) (lN rfl) hen rfl (EvL.cons rfl EvL.nil) (fun mm aa ww gg hr hrel => hso _ ww hrel.below (by omega) (by omega))),
    trivial⟩ ?_
   refine fqK (s' := [kt 0 (.i q.1), kt 1 (.i q.2), kt 2 (.v (.func (.func fk) fF.toArray fC.toArray)), kt 8 (.i (q.1 + (((q.2 - q.1) + 1) / 2))), kt 25 (.B (so (q.1 + (((q.2 - q.1) + 1) / 2))))]) ?_ (kp rfl) rfl
   refine fqT ?_
   refine aqc rfl (fun hz6 => ?_) (fun hz6 => ?_)
   ·have _z := hz6
    have q7 := hz6
    refine aqT (rows := [_, _]) rfl (by kernel_rfl) ⟨
     okp rfl rfl (oqM (lN rfl) rfl),
     okp rfl rfl (oqA (lN rfl) rfl),
     trivial⟩ ?_
    refine fqK (s' := [kt 0 (.i (q.1 + (((q.2 - q.1) + 1) / 2))), kt 1 (.i q.2), kt 2 (.v (.func (.func fk) fF.toArray fC.toArray))]) ?_ (kp rfl) rfl
    refine fqB ?_
    exact fin_loop (q.1 + (((q.2 - q.1) + 1) / 2), q.2) ⟨by simp only []; omega, by simp only []; omega, by simp only []; omega, by rw [hig, great_step (by omega)]; simp only [hz6]; rfl⟩ (by simp only []; omega) ⟨rfl, rfl, rfl, trivial⟩ rfl
   ·have _z := hz6
    have q8 := hz6
    refine aqT (rows := [_, _, _]) rfl (by kernel_rfl) ⟨
     okp rfl rfl (oqM (lN rfl) rfl),
     okp rfl rfl (oqB (lN rfl) rfl rfl (nw_sub ⟨(by omega), (by omega)⟩)),
     okp rfl rfl (oqA (lN rfl) rfl),
     trivial⟩ ?_
    refine fqK (s' := [kt 0 (.i q.1), kt 1 (.i ((q.1 + (((q.2 - q.1) + 1) / 2)) - 1)), kt 2 (.v (.func (.func fk) fF.toArray fC.toArray))]) ?_ (kp rfl) rfl
    refine fqB ?_
    exact fin_loop (q.1, (q.1 + (((q.2 - q.1) + 1) / 2)) - 1) ⟨by simp only []; omega, by simp only []; omega, by simp only []; omega, by rw [hig, great_step (by omega)]; simp only [hz6]; rfl⟩ (by simp only []; omega) ⟨rfl, rfl, rfl, trivial⟩ rfl
  ·have _z := hz4
   have q9 := of_decide_eq_false hz4
   refine aw_exit ?_
   refine fqE ?_
   refine fqE ?_
   refine fin_block_exit ?_
   refine fqT ?_
   refine aqS ?_
   refine aqT (rows := [_, _, _]) rfl (by kernel_rfl) ⟨
    okp rfl rfl (oqM (lN rfl) rfl),
    okp rfl rfl (oqA (lN rfl) rfl),
    okp rfl rfl (oqA (lN rfl) rfl),
    trivial⟩ ?_
   refine fqK (s' := [kt 6 (.i q.1), kt 7 (.B true)]) ?_ (kp rfl) rfl
   refine fqT ?_
   refine aqr ?_
   refine pqr (x := .t [.i q.1, .B true]) rfl rfl (rqT rfl (rqT rfl rqN)) rfl (fun mm aa ww hr => ?_)
   show Ending.returned (.tuple #[.int .i64 q.1, .bool true]) = _ ∧ _
   rw [show q.1 = great so least most by rw [hig, great_done (by omega)]]
   exact ⟨by rw [greatest, not_f hz1]; rfl, hr.below⟩
end Go.Proofs.T
namespace Go.Proofs.T
open Go Go.AX Go.RowKit Hull
theorem en_106 : Proofs.Enters Tryd.prog 106 := Proofs.enters_of Tryd.func106 (by kernel_rfl) rfl
theorem en_103 : Proofs.Enters Tryd.prog 103 := Proofs.enters_of Tryd.func103 (by kernel_rfl) rfl
theorem en_119 : Proofs.Enters Tryd.prog 119 := Proofs.enters_of Tryd.func119 (by kernel_rfl) rfl
theorem en_136 : Proofs.Enters Tryd.prog 136 := Proofs.enters_of Tryd.func136 (by kernel_rfl) rfl
theorem zl_206 : zeroL Tryd.prog 206 = some [(.int .i64 0), (.int .i64 0), (.int .i64 0), (.int .i64 0)] := by kernel_rfl
theorem sz_206 : sizeIn Tryd.prog 206 = some 4 := by kernel_rfl
theorem sh_206 : shapeOf Tryd.prog 206 = some (some 4) := by kernel_rfl
theorem zl_187 : zeroL Tryd.prog 187 = some [(.int .i64 0), (.int .i64 0), (.int .i64 0), (.int .i64 0), (.int .i64 0), (.int .i64 0), (.int .i64 0), (.int .i64 0)] := by kernel_rfl
theorem sh_32 : shapeOf Tryd.prog 32 = some (some 2) := by kernel_rfl
theorem sz_187 : sizeIn Tryd.prog 187 = some 8 := by kernel_rfl
theorem sh_187 : shapeOf Tryd.prog 187 = some (some 8) := by kernel_rfl
theorem en_151 : Proofs.Enters Tryd.prog 151 := Proofs.enters_of Tryd.func151 (by kernel_rfl) rfl
theorem ar_206 : arrSz Tryd.prog 206 = some (4, 1) := by kernel_rfl
theorem un_206 : Tryd.prog.underlying 206 = some (.array 4 3) := by kernel_rfl
theorem en_124 : Proofs.Enters Tryd.prog 124 := Proofs.enters_of Tryd.func124 (by kernel_rfl) rfl
theorem en_146 : Proofs.Enters Tryd.prog 146 := Proofs.enters_of Tryd.func146 (by kernel_rfl) rfl
theorem en_162 : Proofs.Enters Tryd.prog 162 := Proofs.enters_of Tryd.func162 (by kernel_rfl) rfl
theorem en_133 : Proofs.Enters Tryd.prog 133 := Proofs.enters_of Tryd.func133 (by kernel_rfl) rfl
theorem ar_187 : arrSz Tryd.prog 187 = some (4, 2) := by kernel_rfl
theorem en_135 : Proofs.Enters Tryd.prog 135 := Proofs.enters_of Tryd.func135 (by kernel_rfl) rfl
theorem sh_34 : shapeOf Tryd.prog 34 = some (some 8) := by kernel_rfl
theorem en_125 : Proofs.Enters Tryd.prog 125 := Proofs.enters_of Tryd.func125 (by kernel_rfl) rfl
theorem en_134 : Proofs.Enters Tryd.prog 134 := Proofs.enters_of Tryd.func134 (by kernel_rfl) rfl
theorem c76 (s : Ship) (s_Thrust_s : SlV) (s_Water_s : SlV) (s_Ice_s : SlV) (s_b : Nat) (i : Ice) (ch : Bool) (w : World) (hs_Thrust : SlIs ePt 2 w s_Thrust_s s.Thrust) (hs_Water : SlIs ePt 2 w s_Water_s s.Water) (hs_Ice : SlIs ePt 2 w s_Ice_s s.Ice) (hs_box : BoxAt w s_b [.int .i64 s.Class, .int .i64 s.Power, .int .i64 s.Draught, .int .i64 s.Tonnes, .slice s_Thrust_s.p s_Thrust_s.n s_Thrust_s.c, .slice s_Water_s.p s_Water_s.n s_Water_s.c, .slice s_Ice_s.p s_Ice_s.n s_Ice_s.c, .int .i64 s.Slow, .int .i64 s.Brash, .int .i64 s.Ridge, .int .i64 s.Press]) (hc : check s = 0) (hi : goodIce i) : Calls Tryd.prog 76 #[.agg #[.pointer (some ⟨s_b, 0, none⟩), .int .i64 i.Conc, .int .i64 i.Thick, .int .i64 i.Ridge, .int .i64 i.Press, .bool ch]] w fun e w' => e = .returned (.int .i64 (speed s i ch)) ∧ Below w.heap.size w w' := by
 obtain ⟨s0Tp, s0Tn, s0Tc⟩ := s_Thrust_s
 have hs_Thrust_l : s0Tn = s.Thrust.length := hs_Thrust.1
 subst hs_Thrust_l
 obtain ⟨s_Thrust_b, s0To, hs_Thrust_p, hs_Thrust_L⟩ := SlAt.lies' hs_Thrust
 obtain ⟨s0Wp, s0Wn, s0Wc⟩ := s_Water_s
 have hs_Water_l : s0Wn = s.Water.length := hs_Water.1
 subst hs_Water_l
 obtain ⟨s_Water_b, s0Wo, hs_Water_p, hs_Water_L⟩ := SlAt.lies' hs_Water
 obtain ⟨s0Ip, s0In, s0Ic⟩ := s_Ice_s
 have hs_Ice_l : s0In = s.Ice.length := hs_Ice.1
 subst hs_Ice_l
 obtain ⟨s_Ice_b, s0Io, hs_Ice_p, hs_Ice_L⟩ := SlAt.lies' hs_Ice
 refine enter (args := [.g [.v (.pointer (some ⟨s_b, 0, none⟩)), .i i.Conc, .i i.Thick, .i i.Ridge, .i i.Press, .B ch]]) Tryd.func76 rfl (N := 12) rfl (Nat.le_of_ble_eq_true rfl) ?_
 refine aqS ?_
 refine aqT (rows := [_, _]) rfl (by kernel_rfl) ⟨
  okp rfl rfl (op_boxN (L := 1) (lN rfl) rfl rfl rfl),
  okp rfl rfl (oqA (lN rfl) rfl),
  trivial⟩ ?_
 refine fqK (s' := [kt 1 (.p 1 0), kb 1 136 6, kc 1 0 (.v (.pointer (some ⟨s_b, 0, none⟩))), kc 1 1 (.i i.Conc), kc 1 2 (.i i.Thick), kc 1 3 (.i i.Ridge), kc 1 4 (.i i.Press), kc 1 5 (.B ch)]) ?_ (kp rfl) rfl
 refine fqT ?_
 refine aqS ?_
 refine aqT (rows := [_, _, _, _, _, _, _, _]) rfl (by kernel_rfl) ⟨
  okp rfl rfl (oqL (ys := [.v (.pointer (some ⟨s_b, 0, none⟩)), .i i.Conc, .i i.Thick, .i i.Ridge, .i i.Press, .B ch]) (lN rfl) sh_136 rfl rfl ⟨rfl, rfl, rfl, rfl, rfl, rfl, trivial⟩),
  okp rfl rfl (op_mkfn (lN rfl) (EvL.cons rfl EvL.nil) EvL.nil),
  okp rfl rfl (oqC (x := .t [.i ((greatest ((fun vv => makes s i ch vv)) 0 250).1), .B ((greatest ((fun vv => makes s i ch vv)) 0 250).2)]) (fs := []) (caps := []) (extra := []) (lN rfl) en_103 rfl ⟨rfl, rfl, rfl⟩ (EvL.cons rfl (EvL.cons rfl (EvL.cons rfl EvL.nil))) (fun mm aa ww gg hr hrel => (c103 0 250 106 (denL mm [.g [.v (.pointer (some ⟨s_b, 0, none⟩)), .i i.Conc, .i i.Thick, .i i.Ridge, .i i.Press, .B ch]]) (denL mm []) (fun vv => makes s i ch vv) ww en_106 (fun vv w1 hb1 h1 h2 => (c106 s ⟨s0Tp, s.Thrust.length, s0Tc⟩ ⟨s0Wp, s.Water.length, s0Wc⟩ ⟨s0Ip, s.Ice.length, s0Ic⟩ s_b i ch vv w1 (SlIs.mono (SlIs.mono hs_Thrust hrel.below) hb1) (SlIs.mono (SlIs.mono hs_Water hrel.below) hb1) (SlIs.mono (SlIs.mono hs_Ice hrel.below) hb1) (BoxAt.mono (BoxAt.mono hs_box hrel.below) hb1) (by omega) (by omega) (by omega))) (by first | assumption | omega)))),
  okp rfl rfl (oqM (lN rfl) rfl),
  okp rfl rfl (oqx (lN rfl) rfl rfl),
  okp rfl rfl (oqx (lN rfl) rfl rfl),
  okp rfl rfl (oqA (lN rfl) rfl),
  okp rfl rfl (oqA (lN rfl) rfl),
  trivial⟩ ?_
 refine fqK (s' := [kt 3 (.i ((greatest ((fun vv => makes s i ch vv)) 0 250).1))]) ?_ (kp rfl) rfl
 refine fqT ?_
 refine aqS ?_
 refine aqT (rows := [_, _]) rfl (by kernel_rfl) ⟨
  okp rfl rfl (oqM (lN rfl) rfl),
  okp rfl rfl (oqA (lN rfl) rfl),
  trivial⟩ ?_
 refine fqK (s' := [kt 2 (.i ((greatest ((fun vv => makes s i ch vv)) 0 250).1))]) ?_ (kp rfl) rfl
 refine fqT ?_
 refine aqr ?_
 refine pqr (x := .i ((greatest ((fun vv => makes s i ch vv)) 0 250).1)) rfl rfl (rqT rfl rqN) rfl (fun mm aa ww hr => ?_)
 show Ending.returned (.int .i64 ((greatest ((fun vv => makes s i ch vv)) 0 250).1)) = _ ∧ _
 first
  | exact ⟨rfl, hr.below⟩
theorem c136 (v : Int) (s : Ship) (s_Thrust_s : SlV) (s_Water_s : SlV) (s_Ice_s : SlV) (s_b : Nat) (i : Ice) (ch : Bool) (r_b : Nat) (w : World) (hs_Thrust : SlIs ePt 2 w s_Thrust_s s.Thrust) (hs_Water : SlIs ePt 2 w s_Water_s s.Water) (hs_Ice : SlIs ePt 2 w s_Ice_s s.Ice) (hs_box : BoxAt w s_b [.int .i64 s.Class, .int .i64 s.Power, .int .i64 s.Draught, .int .i64 s.Tonnes, .slice s_Thrust_s.p s_Thrust_s.n s_Thrust_s.c, .slice s_Water_s.p s_Water_s.n s_Water_s.c, .slice s_Ice_s.p s_Ice_s.n s_Ice_s.c, .int .i64 s.Slow, .int .i64 s.Brash, .int .i64 s.Ridge, .int .i64 s.Press]) (hr_box : BoxAt w r_b [.pointer (some ⟨s_b, 0, none⟩), .int .i64 i.Conc, .int .i64 i.Thick, .int .i64 i.Ridge, .int .i64 i.Press, .bool ch]) (hG : BoxAt w 0 (strengths.map (fun n => Value.int .i64 n))) (hc : check s = 0) (hi : goodIce i) (hv : 0 ≤ v ∧ v ≤ 255) : Calls Tryd.prog 136 #[.int .i64 v, .pointer (some ⟨r_b, 0, none⟩)] w fun e w' => e = .returned (.bool (makes s i ch v && bears s i ch v)) ∧ Below w.heap.size w w' := by
 obtain ⟨s0Tp, s0Tn, s0Tc⟩ := s_Thrust_s
 have hs_Thrust_l : s0Tn = s.Thrust.length := hs_Thrust.1
 subst hs_Thrust_l
 obtain ⟨s_Thrust_b, s0To, hs_Thrust_p, hs_Thrust_L⟩ := SlAt.lies' hs_Thrust
 obtain ⟨s0Wp, s0Wn, s0Wc⟩ := s_Water_s
 have hs_Water_l : s0Wn = s.Water.length := hs_Water.1
 subst hs_Water_l
 obtain ⟨s_Water_b, s0Wo, hs_Water_p, hs_Water_L⟩ := SlAt.lies' hs_Water
 obtain ⟨s0Ip, s0In, s0Ic⟩ := s_Ice_s
 have hs_Ice_l : s0In = s.Ice.length := hs_Ice.1
 subst hs_Ice_l
 obtain ⟨s_Ice_b, s0Io, hs_Ice_p, hs_Ice_L⟩ := SlAt.lies' hs_Ice
 refine enter (args := [.i v, .v (.pointer (some ⟨r_b, 0, none⟩))]) Tryd.func136 rfl (N := 12) rfl (Nat.le_of_ble_eq_true rfl) ?_
 refine aqS ?_
 refine aqT (rows := [_]) rfl (by kernel_rfl) ⟨
  okp rfl rfl (oqA (lN rfl) rfl),
  trivial⟩ ?_
 refine fqK (s' := [kt 0 (.i v), kt 1 (.v (.pointer (some ⟨r_b, 0, none⟩)))]) ?_ (kp rfl) rfl
 refine fqT ?_
 refine aqS ?_
 refine aqT (rows := [_, _, _, _, _, _, _, _, _]) rfl (by kernel_rfl) ⟨
  okp rfl rfl (oqW (y := .g [.v (.pointer (some ⟨s_b, 0, none⟩)), .i i.Conc, .i i.Thick, .i i.Ridge, .i i.Press, .B ch]) (lN rfl) rfl (ldCells hr_box.1 (o := 0) (vs := [(.pointer (some ⟨s_b, 0, none⟩)), (.int .i64 i.Conc), (.int .i64 i.Thick), (.int .i64 i.Ridge), (.int .i64 i.Press), (.bool ch)]) (fun zq zv zh => hr_box.2 _ zv (sub_get (n := 0) rfl zh)) rfl sh_136 rfl)),
  okp rfl rfl (oqM (lN rfl) rfl),
  okp rfl rfl (oqC (x := .B (makes s i ch v)) (fs := []) (caps := []) (extra := []) (lN rfl) en_106 rfl ⟨rfl, rfl, rfl⟩ (EvL.cons rfl (EvL.cons rfl EvL.nil)) (fun mm aa ww gg hr hrel => (c106 s ⟨s0Tp, s.Thrust.length, s0Tc⟩ ⟨s0Wp, s.Water.length, s0Wc⟩ ⟨s0Ip, s.Ice.length, s0Ic⟩ s_b i ch v ww (SlIs.mono hs_Thrust hrel.below) (SlIs.mono hs_Water hrel.below) (SlIs.mono hs_Ice hrel.below) (BoxAt.mono hs_box hrel.below) (by first | assumption | omega) (by first | assumption | omega) (by first | assumption | omega)))),
  okp rfl rfl (oqM (lN rfl) rfl),
  ok_if (lN rfl) rfl rfl rfl rfl rfl rfl (fun hg1 => oqW (y := .g [.v (.pointer (some ⟨s_b, 0, none⟩)), .i i.Conc, .i i.Thick, .i i.Ridge, .i i.Press, .B ch]) (lN rfl) (force_x rfl) (ldCells hr_box.1 (o := 0) (vs := [(.pointer (some ⟨s_b, 0, none⟩)), (.int .i64 i.Conc), (.int .i64 i.Thick), (.int .i64 i.Ridge), (.int .i64 i.Press), (.bool ch)]) (fun zq zv zh => hr_box.2 _ zv (sub_get (n := 0) rfl zh)) rfl sh_136 rfl)),
  ok_if (lN rfl) rfl rfl rfl rfl rfl rfl (fun hg2 => oqM (lN rfl) (force_x rfl)),
  ok_if (lN rfl) rfl rfl rfl rfl rfl rfl (fun hg3 => oqC (x := .B (bears s i ch v)) (fs := []) (caps := []) (extra := []) (lN rfl) en_119 rfl ⟨rfl, rfl, rfl⟩ (EvL.cons (force_eq (beq_iff_eq.2 hg3) rfl) (EvL.cons (force_eq (beq_iff_eq.2 hg3) rfl) EvL.nil)) (fun mm aa ww gg hr hrel => (c119 s ⟨s0Tp, s.Thrust.length, s0Tc⟩ ⟨s0Wp, s.Water.length, s0Wc⟩ ⟨s0Ip, s.Ice.length, s0Ic⟩ s_b i ch v ww (SlIs.mono hs_Thrust hrel.below) (SlIs.mono hs_Water hrel.below) (SlIs.mono hs_Ice hrel.below) (BoxAt.mono hs_box hrel.below) (BoxAt.mono hG hrel.below) (by have g0 := hg3; first | assumption | omega) (by have g0 := hg3; first | assumption | omega) (by have g0 := hg3; first | assumption | omega)))),
  okp rfl rfl (op_and (lN rfl) rfl rfl),
  okp rfl rfl (oqA (lN rfl) rfl),
  trivial⟩ ?_
 refine fqK (s' := [kt 3 (.B ((makes s i ch v) && (bears s i ch v)))]) ?_ (kp rfl) rfl
 refine fqT ?_
 refine aqr ?_
 refine pqr (x := .B ((makes s i ch v) && (bears s i ch v))) rfl rfl (rqT rfl rqN) rfl (fun mm aa ww hr => ?_)
 show Ending.returned (.bool ((makes s i ch v) && (bears s i ch v))) = _ ∧ _
 first
  | exact ⟨rfl, hr.below⟩
theorem c89 (s : Ship) (s_Thrust_s : SlV) (s_Water_s : SlV) (s_Ice_s : SlV) (s_b : Nat) (i : Ice) (ch : Bool) (w : World) (hs_Thrust : SlIs ePt 2 w s_Thrust_s s.Thrust) (hs_Water : SlIs ePt 2 w s_Water_s s.Water) (hs_Ice : SlIs ePt 2 w s_Ice_s s.Ice) (hs_box : BoxAt w s_b [.int .i64 s.Class, .int .i64 s.Power, .int .i64 s.Draught, .int .i64 s.Tonnes, .slice s_Thrust_s.p s_Thrust_s.n s_Thrust_s.c, .slice s_Water_s.p s_Water_s.n s_Water_s.c, .slice s_Ice_s.p s_Ice_s.n s_Ice_s.c, .int .i64 s.Slow, .int .i64 s.Brash, .int .i64 s.Ridge, .int .i64 s.Press]) (hG : BoxAt w 0 (strengths.map (fun n => Value.int .i64 n))) (hc : check s = 0) (hi : goodIce i) : Calls Tryd.prog 89 #[.agg #[.pointer (some ⟨s_b, 0, none⟩), .int .i64 i.Conc, .int .i64 i.Thick, .int .i64 i.Ridge, .int .i64 i.Press, .bool ch]] w fun e w' => e = .returned (.tuple #[.int .i64 ((goes s i ch).1), .bool ((goes s i ch).2)]) ∧ Below w.heap.size w w' := by
 obtain ⟨s0Tp, s0Tn, s0Tc⟩ := s_Thrust_s
 have hs_Thrust_l : s0Tn = s.Thrust.length := hs_Thrust.1
 subst hs_Thrust_l
 obtain ⟨s_Thrust_b, s0To, hs_Thrust_p, hs_Thrust_L⟩ := SlAt.lies' hs_Thrust
 obtain ⟨s0Wp, s0Wn, s0Wc⟩ := s_Water_s
 have hs_Water_l : s0Wn = s.Water.length := hs_Water.1
 subst hs_Water_l
 obtain ⟨s_Water_b, s0Wo, hs_Water_p, hs_Water_L⟩ := SlAt.lies' hs_Water
 obtain ⟨s0Ip, s0In, s0Ic⟩ := s_Ice_s
 have hs_Ice_l : s0In = s.Ice.length := hs_Ice.1
 subst hs_Ice_l
 obtain ⟨s_Ice_b, s0Io, hs_Ice_p, hs_Ice_L⟩ := SlAt.lies' hs_Ice
 refine enter (args := [.g [.v (.pointer (some ⟨s_b, 0, none⟩)), .i i.Conc, .i i.Thick, .i i.Ridge, .i i.Press, .B ch]]) Tryd.func89 rfl (N := 8) rfl (Nat.le_of_ble_eq_true rfl) ?_
 refine aqS ?_
 refine aqT (rows := [_, _, _]) rfl (by kernel_rfl) ⟨
  okp rfl rfl (op_boxN (L := 1) (lN rfl) rfl rfl rfl),
  okp rfl rfl (oqA (lN rfl) rfl),
  okp rfl rfl (oqA (lN rfl) rfl),
  trivial⟩ ?_
 refine fqK (s' := [kt 1 (.p 1 0), kb 1 136 6, kc 1 0 (.v (.pointer (some ⟨s_b, 0, none⟩))), kc 1 1 (.i i.Conc), kc 1 2 (.i i.Thick), kc 1 3 (.i i.Ridge), kc 1 4 (.i i.Press), kc 1 5 (.B ch)]) ?_ (kp rfl) rfl
 refine fqT ?_
 refine aqS ?_
 refine aqT (rows := [_, _, _, _, _, _]) rfl (by kernel_rfl) ⟨
  okp rfl rfl (op_mkfn (lN rfl) EvL.nil (EvL.cons rfl EvL.nil)),
  okp rfl rfl (oqC (x := .t [.i ((greatest ((fun vv => makes s i ch vv && bears s i ch vv)) 10 250).1), .B ((greatest ((fun vv => makes s i ch vv && bears s i ch vv)) 10 250).2)]) (fs := []) (caps := []) (extra := (kapp ((.b 1 :: cqK 1 0 6)) [])) (lN rfl) en_103 rfl ⟨rfl, rfl, rfl⟩ (EvL.cons rfl (EvL.cons rfl (EvL.cons rfl EvL.nil))) (fun mm aa ww gg hr hrel => (c103 10 250 136 (denL mm []) (denL mm [.p 1 0]) (fun vv => makes s i ch vv && bears s i ch vv) ww en_136 (fun vv w1 hb1 h1 h2 => (c136 vv s ⟨s0Tp, s.Thrust.length, s0Tc⟩ ⟨s0Wp, s.Water.length, s0Wc⟩ ⟨s0Ip, s.Ice.length, s0Ic⟩ s_b i ch (mm 1) w1 (SlIs.mono (SlIs.mono hs_Thrust hrel.below) hb1) (SlIs.mono (SlIs.mono hs_Water hrel.below) hb1) (SlIs.mono (SlIs.mono hs_Ice hrel.below) hb1) (BoxAt.mono (BoxAt.mono hs_box hrel.below) hb1) (BoxAt.mono (bqA (L := 1) (vs := [(.pointer (some ⟨s_b, 0, none⟩)), (.int .i64 i.Conc), (.int .i64 i.Thick), (.int .i64 i.Ridge), (.int .i64 i.Press), (.bool ch)]) hrel (fun k hk => hr k (List.mem_append_left _ hk)) rfl ⟨rfl, rfl, rfl, rfl, rfl, rfl, trivial⟩) hb1) (BoxAt.mono (BoxAt.mono hG hrel.below) hb1) (by omega) (by omega) (by omega))) (by first | assumption | omega)))),
  okp rfl rfl (oqx (lN rfl) rfl rfl),
  okp rfl rfl (oqx (lN rfl) rfl rfl),
  okp rfl rfl (oqA (lN rfl) rfl),
  okp rfl rfl (oqA (lN rfl) rfl),
  trivial⟩ ?_
 refine fqK (s' := [kt 2 (.i ((greatest ((fun vv => makes s i ch vv && bears s i ch vv)) 10 250).1)), kt 3 (.B ((greatest ((fun vv => makes s i ch vv && bears s i ch vv)) 10 250).2))]) ?_ (kp rfl) rfl
 refine fqT ?_
 refine aqr ?_
 refine pqr (x := .t [.i ((greatest ((fun vv => makes s i ch vv && bears s i ch vv)) 10 250).1), .B ((greatest ((fun vv => makes s i ch vv && bears s i ch vv)) 10 250).2)]) rfl rfl (rqT rfl (rqT rfl rqN)) rfl (fun mm aa ww hr => ?_)
 show Ending.returned (.tuple #[.int .i64 ((greatest ((fun vv => makes s i ch vv && bears s i ch vv)) 10 250).1), .bool ((greatest ((fun vv => makes s i ch vv && bears s i ch vv)) 10 250).2)]) = _ ∧ _
 first
  | exact ⟨rfl, hr.below⟩
theorem c124 (n : Int) (a : Int) (b : Int) (w : World)  : Calls Tryd.prog 124 #[.int .i64 n, .int .i64 a, .int .i64 b] w fun e w' => e = .returned (.bool (inI n a b)) ∧ Below w.heap.size w w' := by
 refine enter (args := [.i n, .i a, .i b]) Tryd.func124 rfl (N := 15) rfl (Nat.le_of_ble_eq_true rfl) ?_
 refine aqS ?_
 refine aqT (rows := [_]) rfl (by kernel_rfl) ⟨
  okp rfl rfl (oqA (lN rfl) rfl),
  trivial⟩ ?_
 refine fqK (s' := [kt 0 (.i n), kt 1 (.i a), kt 2 (.i b)]) ?_ (kp rfl) rfl
 refine fqT ?_
 refine aqS ?_
 refine aqT (rows := [_, _, _, _, _, _, _, _, _]) rfl (by kernel_rfl) ⟨
  okp rfl rfl (oqM (lN rfl) rfl),
  okp rfl rfl (oqM (lN rfl) rfl),
  okp rfl rfl (oqB (lN rfl) rfl rfl rfl),
  okp rfl rfl (oqM (lN rfl) rfl),
  ok_if (lN rfl) rfl rfl rfl rfl rfl rfl (fun hg1 => oqM (lN rfl) (force_x rfl)),
  ok_if (lN rfl) rfl rfl rfl rfl rfl rfl (fun hg2 => oqM (lN rfl) (force_x rfl)),
  ok_if (lN rfl) rfl rfl rfl rfl rfl rfl (fun hg3 => oqB (lN rfl) (force_eq (beq_iff_eq.2 hg3) rfl) (force_eq (beq_iff_eq.2 hg3) rfl) rfl),
  okp rfl rfl (op_and (lN rfl) rfl rfl),
  okp rfl rfl (oqA (lN rfl) rfl),
  trivial⟩ ?_
 refine fqK (s' := [kt 6 (.B ((decide (n ≥ a)) && (decide (n ≤ b))))]) ?_ (kp rfl) rfl
 refine fqT ?_
 refine aqr ?_
 refine pqr (x := .B ((decide (n ≥ a)) && (decide (n ≤ b)))) rfl rfl (rqT rfl rqN) rfl (fun mm aa ww hr => ?_)
 show Ending.returned (.bool ((decide (n ≥ a)) && (decide (n ≤ b)))) = _ ∧ _
 first
  | exact ⟨rfl, hr.below⟩
theorem c151  (w : World)  : Calls Tryd.prog 151 #[] w fun e w' => e = .returned (.agg #[.int .i64 100, .int .i64 400, .int .i64 100, .int .i64 3]) ∧ Below w.heap.size w w' := by
 refine enter (args := []) Tryd.func151 rfl (N := 2) rfl (Nat.le_of_ble_eq_true rfl) ?_
 refine aqS ?_
 refine aqT (rows := [_]) rfl (by kernel_rfl) ⟨
  okp rfl rfl (oqa (L := 1) (lN rfl) zl_206),
  trivial⟩ ?_
 refine fqK (s' := [kt 0 (.p 1 0), kb 1 206 4, kc 1 0 (.i 0), kc 1 1 (.i 0), kc 1 2 (.i 0), kc 1 3 (.i 0)]) ?_ (kp rfl) rfl
 refine fqT ?_
 refine aqS ?_
 refine aqT (rows := [_, _]) rfl (by kernel_rfl) ⟨
  okp rfl rfl (op_build (x := .g [.i 100, .i 400, .i 100, .i 3]) (lN rfl) (EvL.cons rfl (EvL.cons rfl (EvL.cons rfl (EvL.cons rfl EvL.nil)))) (fun m w => by kernel_rfl)),
  okp rfl rfl (oqS sz_206 rfl rfl rfl rfl rfl (by decide)),
  trivial⟩ ?_
 refine fqK (s' := [kt 0 (.p 1 0), kb 1 206 4, kc 1 0 (.i 100), kc 1 1 (.i 400), kc 1 2 (.i 100), kc 1 3 (.i 3)]) ?_ (kp rfl) rfl
 refine fqT ?_
 refine aqr ?_
 refine pqr (x := .g [.i 100, .i 400, .i 100, .i 3]) rfl rfl (rqC (ys := [.i 100, .i 400, .i 100, .i 3]) rfl sh_206 rfl ⟨rfl, rfl, rfl, rfl, trivial⟩ rqN) rfl (fun mm aa ww hr => ?_)
 show Ending.returned (.agg #[.int .i64 100, .int .i64 400, .int .i64 100, .int .i64 3]) = _ ∧ _
 first
  | exact ⟨rfl, hr.below⟩
theorem c146 (i : Ice) (w : World)  : Calls Tryd.prog 146 #[.agg #[.int .i64 i.Conc, .int .i64 i.Thick, .int .i64 i.Ridge, .int .i64 i.Press]] w fun e w' => e = .returned (.agg #[.int .i64 i.Conc, .int .i64 i.Thick, .int .i64 i.Ridge, .int .i64 i.Press]) ∧ Below w.heap.size w w' := by
 refine enter (args := [.g [.i i.Conc, .i i.Thick, .i i.Ridge, .i i.Press]]) Tryd.func146 rfl (N := 12) rfl (Nat.le_of_ble_eq_true rfl) ?_
 refine aqS ?_
 refine aqT (rows := [_, _]) rfl (by kernel_rfl) ⟨
  okp rfl rfl (op_boxN (L := 1) (lN rfl) rfl rfl rfl),
  okp rfl rfl (oqa (L := 2) (lN rfl) zl_206),
  trivial⟩ ?_
 refine fqK (s' := [kt 1 (.p 1 0), kt 2 (.p 2 0), kb 1 28 4, kb 2 206 4, kc 1 0 (.i i.Conc), kc 1 1 (.i i.Thick), kc 1 2 (.i i.Ridge), kc 1 3 (.i i.Press), kc 2 0 (.i 0), kc 2 1 (.i 0), kc 2 2 (.i 0), kc 2 3 (.i 0)]) ?_ (kp rfl) rfl
 refine fqT ?_
 refine aqS ?_
 refine aqT (rows := [_, _, _, _, _, _, _, _, _, _]) rfl (by kernel_rfl) ⟨
  okp rfl rfl (oqF (lN rfl) rfl fo_28_0),
  okp rfl rfl (oq1 (lN rfl) sh_3 rfl rfl),
  okp rfl rfl (oqF (lN rfl) rfl fo_28_1),
  okp rfl rfl (oq1 (lN rfl) sh_3 rfl rfl),
  okp rfl rfl (oqF (lN rfl) rfl fo_28_2),
  okp rfl rfl (oq1 (lN rfl) sh_3 rfl rfl),
  okp rfl rfl (oqF (lN rfl) rfl fo_28_3),
  okp rfl rfl (oq1 (lN rfl) sh_3 rfl rfl),
  okp rfl rfl (op_build (x := .g [.i i.Conc, .i i.Thick, .i i.Ridge, .i i.Press]) (lN rfl) (EvL.cons rfl (EvL.cons rfl (EvL.cons rfl (EvL.cons rfl EvL.nil)))) (fun m w => by kernel_rfl)),
  okp rfl rfl (oqS sz_206 rfl rfl rfl rfl rfl (by decide)),
  trivial⟩ ?_
 refine fqK (s' := [kt 2 (.p 2 0), kb 2 206 4, kc 2 0 (.i i.Conc), kc 2 1 (.i i.Thick), kc 2 2 (.i i.Ridge), kc 2 3 (.i i.Press)]) ?_ (kp rfl) rfl
 refine fqT ?_
 refine aqr ?_
 refine pqr (x := .g [.i i.Conc, .i i.Thick, .i i.Ridge, .i i.Press]) rfl rfl (rqC (ys := [.i i.Conc, .i i.Thick, .i i.Ridge, .i i.Press]) rfl sh_206 rfl ⟨rfl, rfl, rfl, rfl, trivial⟩ rqN) rfl (fun mm aa ww hr => ?_)
 show Ending.returned (.agg #[.int .i64 i.Conc, .int .i64 i.Thick, .int .i64 i.Ridge, .int .i64 i.Press]) = _ ∧ _
 first
  | exact ⟨rfl, hr.below⟩
theorem c125 (c : Cell) (w : World)  : Calls Tryd.prog 125 #[.agg #[.int .i64 c.Conc.Lo, .int .i64 c.Conc.Hi, .int .i64 c.Thick.Lo, .int .i64 c.Thick.Hi, .int .i64 c.Ridge.Lo, .int .i64 c.Ridge.Hi, .int .i64 c.Press.Lo, .int .i64 c.Press.Hi]] w fun e w' => e = .returned (.agg #[.int .i64 c.Conc.Lo, .int .i64 c.Conc.Hi, .int .i64 c.Thick.Lo, .int .i64 c.Thick.Hi, .int .i64 c.Ridge.Lo, .int .i64 c.Ridge.Hi, .int .i64 c.Press.Lo, .int .i64 c.Press.Hi]) ∧ Below w.heap.size w w' := by
 refine enter (args := [.g [.i c.Conc.Lo, .i c.Conc.Hi, .i c.Thick.Lo, .i c.Thick.Hi, .i c.Ridge.Lo, .i c.Ridge.Hi, .i c.Press.Lo, .i c.Press.Hi]]) Tryd.func125 rfl (N := 12) rfl (Nat.le_of_ble_eq_true rfl) ?_
 refine aqS ?_
 refine aqT (rows := [_, _]) rfl (by kernel_rfl) ⟨
  okp rfl rfl (op_boxN (L := 1) (lN rfl) rfl rfl rfl),
  okp rfl rfl (oqa (L := 2) (lN rfl) zl_187),
  trivial⟩ ?_
 refine fqK (s' := [kt 1 (.p 1 0), kt 2 (.p 2 0), kb 1 34 8, kb 2 187 8, kc 1 0 (.i c.Conc.Lo), kc 1 1 (.i c.Conc.Hi), kc 1 2 (.i c.Thick.Lo), kc 1 3 (.i c.Thick.Hi), kc 1 4 (.i c.Ridge.Lo), kc 1 5 (.i c.Ridge.Hi), kc 1 6 (.i c.Press.Lo), kc 1 7 (.i c.Press.Hi), kc 2 0 (.i 0), kc 2 1 (.i 0), kc 2 2 (.i 0), kc 2 3 (.i 0), kc 2 4 (.i 0), kc 2 5 (.i 0), kc 2 6 (.i 0), kc 2 7 (.i 0)]) ?_ (kp rfl) rfl
 refine fqT ?_
 refine aqS ?_
 refine aqT (rows := [_, _, _, _, _, _, _, _, _, _]) rfl (by kernel_rfl) ⟨
  okp rfl rfl (oqF (lN rfl) rfl fo_34_0),
  okp rfl rfl (oqL (ys := [.i c.Conc.Lo, .i c.Conc.Hi]) (lN rfl) sh_32 rfl rfl ⟨rfl, rfl, trivial⟩),
  okp rfl rfl (oqF (lN rfl) rfl fo_34_1),
  okp rfl rfl (oqL (ys := [.i c.Thick.Lo, .i c.Thick.Hi]) (lN rfl) sh_32 rfl rfl ⟨rfl, rfl, trivial⟩),
  okp rfl rfl (oqF (lN rfl) rfl fo_34_2),
  okp rfl rfl (oqL (ys := [.i c.Ridge.Lo, .i c.Ridge.Hi]) (lN rfl) sh_32 rfl rfl ⟨rfl, rfl, trivial⟩),
  okp rfl rfl (oqF (lN rfl) rfl fo_34_3),
  okp rfl rfl (oqL (ys := [.i c.Press.Lo, .i c.Press.Hi]) (lN rfl) sh_32 rfl rfl ⟨rfl, rfl, trivial⟩),
  okp rfl rfl (op_build (x := .g [.i c.Conc.Lo, .i c.Conc.Hi, .i c.Thick.Lo, .i c.Thick.Hi, .i c.Ridge.Lo, .i c.Ridge.Hi, .i c.Press.Lo, .i c.Press.Hi]) (lN rfl) (EvL.cons rfl (EvL.cons rfl (EvL.cons rfl (EvL.cons rfl EvL.nil)))) (fun m w => by kernel_rfl)),
  okp rfl rfl (oqS sz_187 rfl rfl rfl rfl rfl (by decide)),
  trivial⟩ ?_
 refine fqK (s' := [kt 2 (.p 2 0), kb 2 187 8, kc 2 0 (.i c.Conc.Lo), kc 2 1 (.i c.Conc.Hi), kc 2 2 (.i c.Thick.Lo), kc 2 3 (.i c.Thick.Hi), kc 2 4 (.i c.Ridge.Lo), kc 2 5 (.i c.Ridge.Hi), kc 2 6 (.i c.Press.Lo), kc 2 7 (.i c.Press.Hi)]) ?_ (kp rfl) rfl
 refine fqT ?_
 refine aqr ?_
 refine pqr (x := .g [.i c.Conc.Lo, .i c.Conc.Hi, .i c.Thick.Lo, .i c.Thick.Hi, .i c.Ridge.Lo, .i c.Ridge.Hi, .i c.Press.Lo, .i c.Press.Hi]) rfl rfl (rqC (ys := [.i c.Conc.Lo, .i c.Conc.Hi, .i c.Thick.Lo, .i c.Thick.Hi, .i c.Ridge.Lo, .i c.Ridge.Hi, .i c.Press.Lo, .i c.Press.Hi]) rfl sh_187 rfl ⟨rfl, rfl, rfl, rfl, rfl, rfl, rfl, rfl, trivial⟩ rqN) rfl (fun mm aa ww hr => ?_)
 show Ending.returned (.agg #[.int .i64 c.Conc.Lo, .int .i64 c.Conc.Hi, .int .i64 c.Thick.Lo, .int .i64 c.Thick.Hi, .int .i64 c.Ridge.Lo, .int .i64 c.Ridge.Hi, .int .i64 c.Press.Lo, .int .i64 c.Press.Hi]) = _ ∧ _
 first
  | exact ⟨rfl, hr.below⟩
theorem c133 (fk : Nat) (fF fC : List Value) (so : Int → Bool) (w : World) (hen : Proofs.Enters Tryd.prog fk) (hso : ∀ v w1, Below w.heap.size w w1 → 0 ≤ v → v ≤ 3 → Calls Tryd.prog fk (fF ++ (.int .i64 v :: fC)).toArray w1 fun e w2 => e = .returned (.bool (so v)) ∧ Below w1.heap.size w1 w2) : Calls Tryd.prog 133 #[.func (.func fk) fF.toArray fC.toArray] w fun e w' => e = .returned (.bool (all4 so)) ∧ Below w.heap.size w w' := by
 refine enter (args := [.v (.func (.func fk) fF.toArray fC.toArray)]) Tryd.func133 rfl (N := 13) rfl (Nat.le_of_ble_eq_true rfl) ?_
 refine aqS ?_
 refine aqT (rows := [_]) rfl (by kernel_rfl) ⟨
  okp rfl rfl (oqA (lN rfl) rfl),
  trivial⟩ ?_
 refine fqK (s' := [kt 0 (.v (.func (.func fk) fF.toArray fC.toArray))]) ?_ (kp rfl) rfl
 refine fqT ?_
 refine aqS ?_
 refine aqS ?_
 refine aqT (rows := [_, _]) rfl (by kernel_rfl) ⟨
  okp rfl rfl (oqC (x := .g [.i 100, .i 400, .i 100, .i 3]) (fs := []) (caps := []) (extra := []) (lN rfl) en_151 rfl ⟨rfl, rfl, rfl⟩ EvL.nil (fun mm aa ww gg hr hrel => (c151 ww))),
  okp rfl rfl (oqM (lN rfl) rfl),
  trivial⟩ ?_
 refine fqK (s' := [kt 0 (.v (.func (.func fk) fF.toArray fC.toArray)), kt 5 (.i 0)]) ?_ (kp rfl) rfl
 refine fqT ?_
 refine aw_block ?_
 refine aw_rounds 4 ?_
 refine aqS ?_
 refine aqT (rows := [_]) rfl (by kernel_rfl) ⟨
  okp rfl rfl (oqB (r := .bool true) (lN rfl) rfl rfl rfl),
  trivial⟩ ?_
 refine fqK (s' := [kt 0 (.v (.func (.func fk) fF.toArray fC.toArray)), kt 5 (.i 0), kt 6 (.B true)]) ?_ (kp rfl) rfl
 refine fqT ?_
 refine aqS ?_
 refine aqc rfl (fun hz1 => ?_) (fun hz1 => by cases hz1)
 refine aqk ?_
 refine fqT ?_
 refine aqS ?_
 refine aw_block ?_
 refine aqS ?_
 refine aqT (rows := [_, _]) rfl (by kernel_rfl) ⟨
  okp rfl rfl (oqM (lN rfl) rfl),
  okp rfl rfl (oqA (lN rfl) rfl),
  trivial⟩ ?_
 refine fqK (s' := [kt 0 (.v (.func (.func fk) fF.toArray fC.toArray)), kt 3 (.i 0), kt 5 (.i 0)]) ?_ (kp rfl) rfl
 refine fqT ?_
 refine aqS ?_
 refine aqT (rows := [_, _, _, _]) rfl (by kernel_rfl) ⟨
  okp rfl rfl (oqM (lN rfl) rfl),
  okp rfl rfl (oqM (lN rfl) rfl),
  okp rfl rfl (op_callVL (x := .B (so 0)) (extra := []) (lN rfl) hen rfl (EvL.cons rfl EvL.nil) (fun mm aa ww gg hr hrel => hso _ ww hrel.below (by omega) (by omega))),
  okp rfl rfl (oqn (lN rfl) rfl),
  trivial⟩ ?_
 refine fqK (s' := [kt 0 (.v (.func (.func fk) fF.toArray fC.toArray)), kt 5 (.i 0), kt 11 (.B (!(so 0)))]) ?_ (kp rfl) rfl
 refine fqT ?_
 refine aqc rfl (fun hz2 => ?_) (fun hz2 => ?_)
 ·have _z := hz2
  have q3 := not_t hz2
  refine aqS ?_
  refine aqT (rows := [_]) rfl (by kernel_rfl) ⟨
   okp rfl rfl (oqA (lN rfl) rfl),
   trivial⟩ ?_
  refine fqK (s' := [kt 2 (.B false)]) ?_ (kp rfl) rfl
  refine fqT ?_
  refine aqr ?_
  refine fin_block_ret ?_
  refine fqR ?_
  refine fqR ?_
  refine fin_block_ret ?_
  refine fqR ?_
  refine pqr (x := .B false) rfl rfl (rqT rfl rqN) rfl (fun mm aa ww hr => ?_)
  show Ending.returned (.bool false) = _ ∧ _
  exact ⟨by clear hr; simp_all [all4], hr.below⟩
 ·have _z := hz2
  have q4 := not_f hz2
  refine aqk ?_
  refine fqB ?_
  refine fqT ?_
  refine aqT (rows := [_, _]) rfl (by kernel_rfl) ⟨
   okp rfl rfl (oqB (r := .int .i64 1) (lN rfl) rfl rfl rfl),
   okp rfl rfl (oqM (lN rfl) rfl),
   trivial⟩ ?_
  refine fqK (s' := [kt 0 (.v (.func (.func fk) fF.toArray fC.toArray)), kt 5 (.i 1)]) ?_ (kp rfl) rfl
  refine fin_round ?_
  refine aqS ?_
  refine aqT (rows := [_]) rfl (by kernel_rfl) ⟨
   okp rfl rfl (oqB (r := .bool true) (lN rfl) rfl rfl rfl),
   trivial⟩ ?_
  refine fqK (s' := [kt 0 (.v (.func (.func fk) fF.toArray fC.toArray)), kt 5 (.i 1), kt 6 (.B true)]) ?_ (kp rfl) rfl
  refine fqT ?_
  refine aqS ?_
  refine aqc rfl (fun hz5 => ?_) (fun hz5 => by cases hz5)
  refine aqk ?_
  refine fqT ?_
  refine aqS ?_
  refine aw_block ?_
  refine aqS ?_
  refine aqT (rows := [_, _]) rfl (by kernel_rfl) ⟨
   okp rfl rfl (oqM (lN rfl) rfl),
   okp rfl rfl (oqA (lN rfl) rfl),
   trivial⟩ ?_
  refine fqK (s' := [kt 0 (.v (.func (.func fk) fF.toArray fC.toArray)), kt 3 (.i 1), kt 5 (.i 1)]) ?_ (kp rfl) rfl
  refine fqT ?_
  refine aqS ?_
  refine aqT (rows := [_, _, _, _]) rfl (by kernel_rfl) ⟨
   okp rfl rfl (oqM (lN rfl) rfl),
   okp rfl rfl (oqM (lN rfl) rfl),
   okp rfl rfl (op_callVL (x := .B (so 1)) (extra := []) (lN rfl) hen rfl (EvL.cons rfl EvL.nil) (fun mm aa ww gg hr hrel => hso _ ww hrel.below (by omega) (by omega))),
   okp rfl rfl (oqn (lN rfl) rfl),
   trivial⟩ ?_
  refine fqK (s' := [kt 0 (.v (.func (.func fk) fF.toArray fC.toArray)), kt 5 (.i 1), kt 11 (.B (!(so 1)))]) ?_ (kp rfl) rfl
  refine fqT ?_
  refine aqc rfl (fun hz6 => ?_) (fun hz6 => ?_)
  ·have _z := hz6
   have q7 := not_t hz6
   refine aqS ?_
   refine aqT (rows := [_]) rfl (by kernel_rfl) ⟨
    okp rfl rfl (oqA (lN rfl) rfl),
    trivial⟩ ?_
   refine fqK (s' := [kt 2 (.B false)]) ?_ (kp rfl) rfl
   refine fqT ?_
   refine aqr ?_
   refine fin_block_ret ?_
   refine fqR ?_
   refine fqR ?_
   refine fin_block_ret ?_
   refine fqR ?_
   refine pqr (x := .B false) rfl rfl (rqT rfl rqN) rfl (fun mm aa ww hr => ?_)
   show Ending.returned (.bool false) = _ ∧ _
   exact ⟨by clear hr; simp_all [all4], hr.below⟩
  ·have _z := hz6
   have q8 := not_f hz6
   refine aqk ?_
   refine fqB ?_
   refine fqT ?_
   refine aqT (rows := [_, _]) rfl (by kernel_rfl) ⟨
    okp rfl rfl (oqB (r := .int .i64 2) (lN rfl) rfl rfl rfl),
    okp rfl rfl (oqM (lN rfl) rfl),
    trivial⟩ ?_
   refine fqK (s' := [kt 0 (.v (.func (.func fk) fF.toArray fC.toArray)), kt 5 (.i 2)]) ?_ (kp rfl) rfl
   refine fin_round ?_
   refine aqS ?_
   refine aqT (rows := [_]) rfl (by kernel_rfl) ⟨
    okp rfl rfl (oqB (r := .bool true) (lN rfl) rfl rfl rfl),
    trivial⟩ ?_
   refine fqK (s' := [kt 0 (.v (.func (.func fk) fF.toArray fC.toArray)), kt 5 (.i 2), kt 6 (.B true)]) ?_ (kp rfl) rfl
   refine fqT ?_
   refine aqS ?_
   refine aqc rfl (fun hz9 => ?_) (fun hz9 => by cases hz9)
   refine aqk ?_
   refine fqT ?_
   refine aqS ?_
   refine aw_block ?_
   refine aqS ?_
   refine aqT (rows := [_, _]) rfl (by kernel_rfl) ⟨
    okp rfl rfl (oqM (lN rfl) rfl),
    okp rfl rfl (oqA (lN rfl) rfl),
    trivial⟩ ?_
   refine fqK (s' := [kt 0 (.v (.func (.func fk) fF.toArray fC.toArray)), kt 3 (.i 2), kt 5 (.i 2)]) ?_ (kp rfl) rfl
   refine fqT ?_
   refine aqS ?_
   refine aqT (rows := [_, _, _, _]) rfl (by kernel_rfl) ⟨
    okp rfl rfl (oqM (lN rfl) rfl),
    okp rfl rfl (oqM (lN rfl) rfl),
    okp rfl rfl (op_callVL (x := .B (so 2)) (extra := []) (lN rfl) hen rfl (EvL.cons rfl EvL.nil) (fun mm aa ww gg hr hrel => hso _ ww hrel.below (by omega) (by omega))),
    okp rfl rfl (oqn (lN rfl) rfl),
    trivial⟩ ?_
   refine fqK (s' := [kt 0 (.v (.func (.func fk) fF.toArray fC.toArray)), kt 5 (.i 2), kt 11 (.B (!(so 2)))]) ?_ (kp rfl) rfl
   refine fqT ?_
   refine aqc rfl (fun hz10 => ?_) (fun hz10 => ?_)
   ·have _z := hz10
    have q11 := not_t hz10
    refine aqS ?_
    refine aqT (rows := [_]) rfl (by kernel_rfl) ⟨
     okp rfl rfl (oqA (lN rfl) rfl),
     trivial⟩ ?_
    refine fqK (s' := [kt 2 (.B false)]) ?_ (kp rfl) rfl
    refine fqT ?_
    refine aqr ?_
    refine fin_block_ret ?_
    refine fqR ?_
    refine fqR ?_
    refine fin_block_ret ?_
    refine fqR ?_
    refine pqr (x := .B false) rfl rfl (rqT rfl rqN) rfl (fun mm aa ww hr => ?_)
    show Ending.returned (.bool false) = _ ∧ _
    exact ⟨by clear hr; simp_all [all4], hr.below⟩
   ·have _z := hz10
    have q12 := not_f hz10
    refine aqk ?_
    refine fqB ?_
    refine fqT ?_
    refine aqT (rows := [_, _]) rfl (by kernel_rfl) ⟨
     okp rfl rfl (oqB (r := .int .i64 3) (lN rfl) rfl rfl rfl),
     okp rfl rfl (oqM (lN rfl) rfl),
     trivial⟩ ?_
    refine fqK (s' := [kt 0 (.v (.func (.func fk) fF.toArray fC.toArray)), kt 5 (.i 3)]) ?_ (kp rfl) rfl
    refine fin_round ?_
    refine aqS ?_
    refine aqT (rows := [_]) rfl (by kernel_rfl) ⟨
     okp rfl rfl (oqB (r := .bool true) (lN rfl) rfl rfl rfl),
     trivial⟩ ?_
    refine fqK (s' := [kt 0 (.v (.func (.func fk) fF.toArray fC.toArray)), kt 5 (.i 3), kt 6 (.B true)]) ?_ (kp rfl) rfl
    refine fqT ?_
    refine aqS ?_
    refine aqc rfl (fun hz13 => ?_) (fun hz13 => by cases hz13)
    refine aqk ?_
    refine fqT ?_
    refine aqS ?_
    refine aw_block ?_
    refine aqS ?_
    refine aqT (rows := [_, _]) rfl (by kernel_rfl) ⟨
     okp rfl rfl (oqM (lN rfl) rfl),
     okp rfl rfl (oqA (lN rfl) rfl),
     trivial⟩ ?_
    refine fqK (s' := [kt 0 (.v (.func (.func fk) fF.toArray fC.toArray)), kt 3 (.i 3), kt 5 (.i 3)]) ?_ (kp rfl) rfl
    refine fqT ?_
    refine aqS ?_
    refine aqT (rows := [_, _, _, _]) rfl (by kernel_rfl) ⟨
     okp rfl rfl (oqM (lN rfl) rfl),
     okp rfl rfl (oqM (lN rfl) rfl),
     okp rfl rfl (op_callVL (x := .B (so 3)) (extra := []) (lN rfl) hen rfl (EvL.cons rfl EvL.nil) (fun mm aa ww gg hr hrel => hso _ ww hrel.below (by omega) (by omega))),
     okp rfl rfl (oqn (lN rfl) rfl),
     trivial⟩ ?_
    refine fqK (s' := [kt 0 (.v (.func (.func fk) fF.toArray fC.toArray)), kt 5 (.i 3), kt 11 (.B (!(so 3)))]) ?_ (kp rfl) rfl
    refine fqT ?_
    refine aqc rfl (fun hz14 => ?_) (fun hz14 => ?_)
    ·have _z := hz14
     have q15 := not_t hz14
     refine aqS ?_
     refine aqT (rows := [_]) rfl (by kernel_rfl) ⟨
      okp rfl rfl (oqA (lN rfl) rfl),
      trivial⟩ ?_
     refine fqK (s' := [kt 2 (.B false)]) ?_ (kp rfl) rfl
     refine fqT ?_
     refine aqr ?_
     refine fin_block_ret ?_
     refine fqR ?_
     refine fqR ?_
     refine fin_block_ret ?_
     refine fqR ?_
     refine pqr (x := .B false) rfl rfl (rqT rfl rqN) rfl (fun mm aa ww hr => ?_)
     show Ending.returned (.bool false) = _ ∧ _
     exact ⟨by clear hr; simp_all [all4], hr.below⟩
    ·have _z := hz14
     have q16 := not_f hz14
     refine aqk ?_
     refine fqB ?_
     refine fqT ?_
     refine aqT (rows := [_, _]) rfl (by kernel_rfl) ⟨
      okp rfl rfl (oqB (r := .int .i64 4) (lN rfl) rfl rfl rfl),
      okp rfl rfl (oqM (lN rfl) rfl),
      trivial⟩ ?_
     refine fqK (s' := [kt 0 (.v (.func (.func fk) fF.toArray fC.toArray)), kt 5 (.i 4)]) ?_ (kp rfl) rfl
     refine fin_round ?_
     refine aqS ?_
     refine aqT (rows := [_]) rfl (by kernel_rfl) ⟨
      okp rfl rfl (oqB (r := .bool false) (lN rfl) rfl rfl rfl),
      trivial⟩ ?_
     refine fqK (s' := [kt 0 (.v (.func (.func fk) fF.toArray fC.toArray)), kt 5 (.i 4), kt 6 (.B false)]) ?_ (kp rfl) rfl
     refine fqT ?_
     refine aqS ?_
     refine aqc rfl (fun hz17 => by cases hz17) (fun hz17 => ?_)
     refine aw_exit ?_
     refine fqE ?_
     refine fqE ?_
     refine fin_block_exit ?_
     refine fqT ?_
     refine aqS ?_
     refine aqT (rows := [_]) rfl (by kernel_rfl) ⟨
      okp rfl rfl (oqA (lN rfl) rfl),
      trivial⟩ ?_
     refine fqK (s' := [kt 2 (.B true)]) ?_ (kp rfl) rfl
     refine fqT ?_
     refine aqr ?_
     refine pqr (x := .B true) rfl rfl (rqT rfl rqN) rfl (fun mm aa ww hr => ?_)
     show Ending.returned (.bool true) = _ ∧ _
     exact ⟨by clear hr; simp_all [all4], hr.below⟩
theorem c162 (n : Int) (t : List Int) (t_b : Nat) (w : World) (ht_box : BoxAt w t_b (t.map (fun n => Value.int .i64 n))) (ht_n : t.length = 4) (hn : 0 ≤ n ∧ n ≤ 3) : Calls Tryd.prog 162 #[.int .i64 n, .pointer (some ⟨t_b, 0, none⟩)] w fun e w' => e = .returned (.bool (inI (t.getD n.toNat 0) 0 (([100, 400, 100, 3] : List Int).getD n.toNat 0))) ∧ Below w.heap.size w w' := by
 have h4 : ([100, 400, 100, 3] : List Int).length = 4 := rfl
 refine enter (args := [.i n, .v (.pointer (some ⟨t_b, 0, none⟩))]) Tryd.func162 rfl (N := 11) rfl (Nat.le_of_ble_eq_true rfl) ?_
 refine aqS ?_
 refine aqT (rows := [_]) rfl (by kernel_rfl) ⟨
  okp rfl rfl (oqA (lN rfl) rfl),
  trivial⟩ ?_
 refine fqK (s' := [kt 0 (.i n), kt 1 (.v (.pointer (some ⟨t_b, 0, none⟩)))]) ?_ (kp rfl) rfl
 refine fqT ?_
 refine aqS ?_
 refine aw_any (rows := [_, _, _, _, _, _, _, _]) (M := [0, 1, 3, 0, 0, 24, 63, 127]) Tryd_mixed (by kernel_rfl) rfl (by kernel_rfl) ⟨
  okp rfl rfl (oqM (lN rfl) rfl),
  okp rfl rfl (op_ixAB (lN rfl) rfl rfl ar_206 (by omega) (by omega)),
  okp rfl rfl (oqW (y := .i ((t : List Int).getD n.toNat 0)) (lN rfl) rfl (ldTab (l := t) ht_box (by omega) (by omega) (by simp) sh_3)),
  okp rfl rfl (oqC (x := .g [.i 100, .i 400, .i 100, .i 3]) (fs := []) (caps := []) (extra := []) (lN rfl) en_151 rfl ⟨rfl, rfl, rfl⟩ EvL.nil (fun mm aa ww gg hr hrel => (c151 ww))),
  okp rfl rfl (oqM (lN rfl) rfl),
  okp rfl rfl (oqI (lN rfl) rfl rfl ar_206 ⟨_, _, un_206, sh_3⟩ (by omega) (by omega) (ixInt [100, 400, 100, 3] (by omega) (by omega))),
  okp rfl rfl (oqC (x := .B (inI ((t : List Int).getD n.toNat 0) 0 (([100, 400, 100, 3] : List Int).getD n.toNat 0))) (fs := []) (caps := []) (extra := []) (lN rfl) en_124 rfl ⟨rfl, rfl, rfl⟩ (EvL.cons rfl (EvL.cons rfl (EvL.cons rfl EvL.nil))) (fun mm aa ww gg hr hrel => (c124 ((t : List Int).getD n.toNat 0) 0 (([100, 400, 100, 3] : List Int).getD n.toNat 0) ww))),
  okp rfl rfl (oqA (lN rfl) rfl),
  trivial⟩ ?_
 refine fqK (s' := [kt 3 (.B (inI ((t : List Int).getD n.toNat 0) 0 (([100, 400, 100, 3] : List Int).getD n.toNat 0)))]) ?_ (kp rfl) rfl
 refine fqT ?_
 refine aqr ?_
 refine pqr (x := .B (inI ((t : List Int).getD n.toNat 0) 0 (([100, 400, 100, 3] : List Int).getD n.toNat 0))) rfl rfl (rqT rfl rqN) rfl (fun mm aa ww hr => ?_)
 show Ending.returned (.bool (inI ((t : List Int).getD n.toNat 0) 0 (([100, 400, 100, 3] : List Int).getD n.toNat 0))) = _ ∧ _
 first
  | exact ⟨rfl, hr.below⟩
theorem c132 (i : Ice) (w : World)  : Calls Tryd.prog 132 #[.agg #[.int .i64 i.Conc, .int .i64 i.Thick, .int .i64 i.Ridge, .int .i64 i.Press]] w fun e w' => e = .returned (.int .i64 (checkIce i)) ∧ Below w.heap.size w w' := by
 refine enter (args := [.g [.i i.Conc, .i i.Thick, .i i.Ridge, .i i.Press]]) Tryd.func132 rfl (N := 9) rfl (Nat.le_of_ble_eq_true rfl) ?_
 refine aqS ?_
 refine aqT (rows := [_, _]) rfl (by kernel_rfl) ⟨
  okp rfl rfl (op_boxN (L := 1) (lN rfl) rfl rfl rfl),
  okp rfl rfl (oqA (lN rfl) rfl),
  trivial⟩ ?_
 refine fqK (s' := [kt 1 (.p 1 0), kb 1 28 4, kc 1 0 (.i i.Conc), kc 1 1 (.i i.Thick), kc 1 2 (.i i.Ridge), kc 1 3 (.i i.Press)]) ?_ (kp rfl) rfl
 refine fqT ?_
 refine aqS ?_
 refine aqS ?_
 refine aqT (rows := [_, _, _, _]) rfl (by kernel_rfl) ⟨
  okp rfl rfl (oqL (ys := [.i i.Conc, .i i.Thick, .i i.Ridge, .i i.Press]) (lN rfl) sh_28 rfl rfl ⟨rfl, rfl, rfl, rfl, trivial⟩),
  okp rfl rfl (oqC (x := .g [.i i.Conc, .i i.Thick, .i i.Ridge, .i i.Press]) (fs := []) (caps := []) (extra := []) (lN rfl) en_146 rfl ⟨rfl, rfl, rfl⟩ (EvL.cons rfl EvL.nil) (fun mm aa ww gg hr hrel => (c146 i ww))),
  okp rfl rfl (oqa (L := 2) (lN rfl) zl_206),
  okp rfl rfl (oqS sz_206 rfl rfl rfl rfl rfl (by decide)),
  trivial⟩ ?_
 refine fqK (s' := [kt 3 (.p 2 0), kb 2 206 4, kc 2 0 (.i i.Conc), kc 2 1 (.i i.Thick), kc 2 2 (.i i.Ridge), kc 2 3 (.i i.Press)]) ?_ (kp rfl) rfl
 refine fqT ?_
 refine aqS ?_
 refine aqT (rows := [_, _, _]) rfl (by kernel_rfl) ⟨
  okp rfl rfl (op_mkfn (lN rfl) EvL.nil (EvL.cons rfl EvL.nil)),
  okp rfl rfl (oqC (x := .B (all4 ((fun vv => inI (([i.Conc, i.Thick, i.Ridge, i.Press]).getD vv.toNat 0) 0 (([100, 400, 100, 3] : List Int).getD vv.toNat 0))))) (fs := []) (caps := []) (extra := (kapp ((.b 2 :: cqK 2 0 4)) [])) (lN rfl) en_133 rfl ⟨rfl, rfl, rfl⟩ (EvL.cons rfl EvL.nil) (fun mm aa ww gg hr hrel => (c133 162 (denL mm []) (denL mm [.p 2 0]) (fun vv => inI (([i.Conc, i.Thick, i.Ridge, i.Press]).getD vv.toNat 0) 0 (([100, 400, 100, 3] : List Int).getD vv.toNat 0)) ww en_162 (fun vv w1 hb1 h1 h2 => (c162 vv [i.Conc, i.Thick, i.Ridge, i.Press] (mm 2) w1 (BoxAt.mono (bqA (L := 2) (vs := [(.int .i64 i.Conc), (.int .i64 i.Thick), (.int .i64 i.Ridge), (.int .i64 i.Press)]) hrel (fun k hk => hr k (List.mem_append_left _ hk)) rfl ⟨rfl, rfl, rfl, rfl, trivial⟩) hb1) rfl (by omega)))))),
  okp rfl rfl (oqn (lN rfl) rfl),
  trivial⟩ ?_
 refine fqK (s' := [kt 8 (.B (!(all4 ((fun vv => inI (([i.Conc, i.Thick, i.Ridge, i.Press]).getD vv.toNat 0) 0 (([100, 400, 100, 3] : List Int).getD vv.toNat 0))))))]) ?_ (kp rfl) rfl
 refine fqT ?_
 refine aqc rfl (fun hz1 => ?_) (fun hz1 => ?_)
 ·have _z := hz1
  have q2 := not_t hz1
  refine aqS ?_
  refine aqT (rows := [_]) rfl (by kernel_rfl) ⟨
   okp rfl rfl (oqA (lN rfl) rfl),
   trivial⟩ ?_
  refine fqK (s' := [kt 2 (.i 20)]) ?_ (kp rfl) rfl
  refine fqT ?_
  refine aqr ?_
  refine fqR ?_
  refine pqr (x := .i 20) rfl rfl (rqT rfl rqN) rfl (fun mm aa ww hr => ?_)
  show Ending.returned (.int .i64 20) = _ ∧ _
  exact ⟨by rw [checkIce]; first | rw [not_t hz1]; rfl | rw [not_f hz1]; rfl, hr.below⟩
 ·have _z := hz1
  have q3 := not_f hz1
  refine aqk ?_
  refine fqT ?_
  refine aqS ?_
  refine aqT (rows := [_]) rfl (by kernel_rfl) ⟨
   okp rfl rfl (oqA (lN rfl) rfl),
   trivial⟩ ?_
  refine fqK (s' := [kt 2 (.i 0)]) ?_ (kp rfl) rfl
  refine fqT ?_
  refine aqr ?_
  refine pqr (x := .i 0) rfl rfl (rqT rfl rqN) rfl (fun mm aa ww hr => ?_)
  show Ending.returned (.int .i64 0) = _ ∧ _
  exact ⟨by rw [checkIce]; first | rw [not_t hz1]; rfl | rw [not_f hz1]; rfl, hr.below⟩
theorem c135 (s : Span) (n : Int) (w : World) (hn : 0 ≤ n ∧ n ≤ 3) : Calls Tryd.prog 135 #[.agg #[.int .i64 s.Lo, .int .i64 s.Hi], .int .i64 n] w fun e w' => e = .returned (.bool (rightS s n)) ∧ Below w.heap.size w w' := by
 have h4 : ([100, 400, 100, 3] : List Int).length = 4 := rfl
 refine enter (args := [.g [.i s.Lo, .i s.Hi], .i n]) Tryd.func135 rfl (N := 21) rfl (Nat.le_of_ble_eq_true rfl) ?_
 refine aqS ?_
 refine aqT (rows := [_, _]) rfl (by kernel_rfl) ⟨
  okp rfl rfl (op_boxN (L := 1) (lN rfl) rfl rfl rfl),
  okp rfl rfl (oqA (lN rfl) rfl),
  trivial⟩ ?_
 refine fqK (s' := [kt 1 (.i n), kt 2 (.p 1 0), kb 1 32 2, kc 1 0 (.i s.Lo), kc 1 1 (.i s.Hi)]) ?_ (kp rfl) rfl
 refine fqT ?_
 refine aqS ?_
 refine aw_any (rows := [_, _, _, _, _, _, _, _, _, _, _, _, _, _, _, _, _]) (M := [0, 1, 0, 0, 12, 31, 63, 127, 255, 127, 639, 127, 127, 6271, 16383, 32767, 65535]) Tryd_mixed (by kernel_rfl) rfl (by kernel_rfl) ⟨
  okp rfl rfl (oqF (lN rfl) rfl fo_32_0),
  okp rfl rfl (oq1 (lN rfl) sh_3 rfl rfl),
  okp rfl rfl (oqC (x := .g [.i 100, .i 400, .i 100, .i 3]) (fs := []) (caps := []) (extra := []) (lN rfl) en_151 rfl ⟨rfl, rfl, rfl⟩ EvL.nil (fun mm aa ww gg hr hrel => (c151 ww))),
  okp rfl rfl (oqM (lN rfl) rfl),
  okp rfl rfl (oqI (lN rfl) rfl rfl ar_206 ⟨_, _, un_206, sh_3⟩ (by omega) (by omega) (ixInt [100, 400, 100, 3] (by omega) (by omega))),
  okp rfl rfl (oqC (x := .B (inI s.Lo 0 (([100, 400, 100, 3] : List Int).getD n.toNat 0))) (fs := []) (caps := []) (extra := []) (lN rfl) en_124 rfl ⟨rfl, rfl, rfl⟩ (EvL.cons rfl (EvL.cons rfl (EvL.cons rfl EvL.nil))) (fun mm aa ww gg hr hrel => (c124 s.Lo 0 (([100, 400, 100, 3] : List Int).getD n.toNat 0) ww))),
  okp rfl rfl (oqM (lN rfl) rfl),
  ok_if (lN rfl) rfl rfl rfl rfl rfl rfl (fun hg1 => oqF (lN rfl) (force_x rfl) fo_32_1),
  ok_if (lN rfl) rfl rfl rfl rfl rfl rfl (fun hg2 => oq1 (lN rfl) sh_3 (force_eq (beq_iff_eq.2 hg2) rfl) rfl),
  ok_if (lN rfl) rfl rfl rfl rfl rfl rfl (fun hg3 => oqF (lN rfl) (force_x rfl) fo_32_0),
  ok_if (lN rfl) rfl rfl rfl rfl rfl rfl (fun hg4 => oq1 (lN rfl) sh_3 (force_eq (beq_iff_eq.2 hg4) rfl) rfl),
  ok_if (lN rfl) rfl rfl rfl rfl rfl rfl (fun hg5 => oqC (x := .g [.i 100, .i 400, .i 100, .i 3]) (fs := []) (caps := []) (extra := []) (lN rfl) en_151 rfl ⟨rfl, rfl, rfl⟩ EvL.nil (fun mm aa ww gg hr hrel => (c151 ww))),
  ok_if (lN rfl) rfl rfl rfl rfl rfl rfl (fun hg6 => oqM (lN rfl) (force_x rfl)),
  ok_if (lN rfl) rfl rfl rfl rfl rfl rfl (fun hg7 => oqI (lN rfl) (force_eq (beq_iff_eq.2 hg7) rfl) (force_eq (beq_iff_eq.2 hg7) rfl) ar_206 ⟨_, _, un_206, sh_3⟩ (by have g0 := hg7; omega) (by have g0 := hg7; omega) (ixInt [100, 400, 100, 3] (by have g0 := hg7; omega) (by have g0 := hg7; omega))),
  ok_if (lN rfl) rfl rfl rfl rfl rfl rfl (fun hg8 => oqC (x := .B (inI s.Hi s.Lo (([100, 400, 100, 3] : List Int).getD n.toNat 0))) (fs := []) (caps := []) (extra := []) (lN rfl) en_124 rfl ⟨rfl, rfl, rfl⟩ (EvL.cons (force_eq (beq_iff_eq.2 hg8) rfl) (EvL.cons (force_eq (beq_iff_eq.2 hg8) rfl) (EvL.cons (force_eq (beq_iff_eq.2 hg8) rfl) EvL.nil))) (fun mm aa ww gg hr hrel => (c124 s.Hi s.Lo (([100, 400, 100, 3] : List Int).getD n.toNat 0) ww))),
  okp rfl rfl (op_and (lN rfl) rfl rfl),
  okp rfl rfl (oqA (lN rfl) rfl),
  trivial⟩ ?_
 refine fqK (s' := [kt 4 (.B ((inI s.Lo 0 (([100, 400, 100, 3] : List Int).getD n.toNat 0)) && (inI s.Hi s.Lo (([100, 400, 100, 3] : List Int).getD n.toNat 0))))]) ?_ (kp rfl) rfl
 refine fqT ?_
 refine aqr ?_
 refine pqr (x := .B ((inI s.Lo 0 (([100, 400, 100, 3] : List Int).getD n.toNat 0)) && (inI s.Hi s.Lo (([100, 400, 100, 3] : List Int).getD n.toNat 0)))) rfl rfl (rqT rfl rqN) rfl (fun mm aa ww hr => ?_)
 show Ending.returned (.bool ((inI s.Lo 0 (([100, 400, 100, 3] : List Int).getD n.toNat 0)) && (inI s.Hi s.Lo (([100, 400, 100, 3] : List Int).getD n.toNat 0)))) = _ ∧ _
 first
  | exact ⟨rfl, hr.below⟩
theorem c134 (n : Int) (t : List Span) (t_b : Nat) (w : World) (ht_box : BoxAt w t_b (t.flatMap eSp)) (ht_n : t.length = 4) (hn : 0 ≤ n ∧ n ≤ 3) : Calls Tryd.prog 134 #[.int .i64 n, .pointer (some ⟨t_b, 0, none⟩)] w fun e w' => e = .returned (.bool (rightS (t.getD n.toNat ⟨0, 0⟩) n)) ∧ Below w.heap.size w w' := by
 refine enter (args := [.i n, .v (.pointer (some ⟨t_b, 0, none⟩))]) Tryd.func134 rfl (N := 9) rfl (Nat.le_of_ble_eq_true rfl) ?_
 refine aqS ?_
 refine aqT (rows := [_]) rfl (by kernel_rfl) ⟨
  okp rfl rfl (oqA (lN rfl) rfl),
  trivial⟩ ?_
 refine fqK (s' := [kt 0 (.i n), kt 1 (.v (.pointer (some ⟨t_b, 0, none⟩)))]) ?_ (kp rfl) rfl
 refine fqT ?_
 refine aqS ?_
 refine aqT (rows := [_, _, _, _, _, _]) rfl (by kernel_rfl) ⟨
  okp rfl rfl (oqM (lN rfl) rfl),
  okp rfl rfl (op_ixAB (lN rfl) rfl rfl ar_187 (by omega) (by omega)),
  okp rfl rfl (oqW (y := .g [.i (((t.getD n.toNat ⟨0, 0⟩)).Lo), .i (((t.getD n.toNat ⟨0, 0⟩)).Hi)]) (lN rfl) rfl (ldCells ht_box.1 (o := n.toNat * 2 + 0) (vs := [(.int .i64 (((t.getD n.toNat ⟨0, 0⟩)).Lo)), (.int .i64 (((t.getD n.toNat ⟨0, 0⟩)).Hi))]) (fun zq zv zh => ht_box.2 _ zv (flat_sub (k := 2) (l := t) (enc := eSp) (fun _ => rfl) ⟨0, 0⟩ (i := n) (by omega) (by omega) 0 (vs := [(.int .i64 (((t.getD n.toNat ⟨0, 0⟩)).Lo)), (.int .i64 (((t.getD n.toNat ⟨0, 0⟩)).Hi))]) rfl zh)) (by omega) sh_32 rfl)),
  okp rfl rfl (oqM (lN rfl) rfl),
  okp rfl rfl (oqC (x := .B (rightS ((t.getD n.toNat ⟨0, 0⟩)) n)) (fs := []) (caps := []) (extra := []) (lN rfl) en_135 rfl ⟨rfl, rfl, rfl⟩ (EvL.cons rfl (EvL.cons rfl EvL.nil)) (fun mm aa ww gg hr hrel => (c135 ((t.getD n.toNat ⟨0, 0⟩)) n ww (by first | assumption | omega)))),
  okp rfl rfl (oqA (lN rfl) rfl),
  trivial⟩ ?_
 refine fqK (s' := [kt 3 (.B (rightS ((t.getD n.toNat ⟨0, 0⟩)) n))]) ?_ (kp rfl) rfl
 refine fqT ?_
 refine aqr ?_
 refine pqr (x := .B (rightS ((t.getD n.toNat ⟨0, 0⟩)) n)) rfl rfl (rqT rfl rqN) rfl (fun mm aa ww hr => ?_)
 show Ending.returned (.bool (rightS ((t.getD n.toNat ⟨0, 0⟩)) n)) = _ ∧ _
 first
  | exact ⟨rfl, hr.below⟩
theorem c85 (c : Cell) (w : World)  : Calls Tryd.prog 85 #[.agg #[.int .i64 c.Conc.Lo, .int .i64 c.Conc.Hi, .int .i64 c.Thick.Lo, .int .i64 c.Thick.Hi, .int .i64 c.Ridge.Lo, .int .i64 c.Ridge.Hi, .int .i64 c.Press.Lo, .int .i64 c.Press.Hi]] w fun e w' => e = .returned (.int .i64 (checkCell c)) ∧ Below w.heap.size w w' := by
 refine enter (args := [.g [.i c.Conc.Lo, .i c.Conc.Hi, .i c.Thick.Lo, .i c.Thick.Hi, .i c.Ridge.Lo, .i c.Ridge.Hi, .i c.Press.Lo, .i c.Press.Hi]]) Tryd.func85 rfl (N := 9) rfl (Nat.le_of_ble_eq_true rfl) ?_
 refine aqS ?_
 refine aqT (rows := [_, _]) rfl (by kernel_rfl) ⟨
  okp rfl rfl (op_boxN (L := 1) (lN rfl) rfl rfl rfl),
  okp rfl rfl (oqA (lN rfl) rfl),
  trivial⟩ ?_
 refine fqK (s' := [kt 1 (.p 1 0), kb 1 34 8, kc 1 0 (.i c.Conc.Lo), kc 1 1 (.i c.Conc.Hi), kc 1 2 (.i c.Thick.Lo), kc 1 3 (.i c.Thick.Hi), kc 1 4 (.i c.Ridge.Lo), kc 1 5 (.i c.Ridge.Hi), kc 1 6 (.i c.Press.Lo), kc 1 7 (.i c.Press.Hi)]) ?_ (kp rfl) rfl
 refine fqT ?_
 refine aqS ?_
 refine aqS ?_
 refine aqT (rows := [_, _, _, _]) rfl (by kernel_rfl) ⟨
  okp rfl rfl (oqL (ys := [.i c.Conc.Lo, .i c.Conc.Hi, .i c.Thick.Lo, .i c.Thick.Hi, .i c.Ridge.Lo, .i c.Ridge.Hi, .i c.Press.Lo, .i c.Press.Hi]) (lN rfl) sh_34 rfl rfl ⟨rfl, rfl, rfl, rfl, rfl, rfl, rfl, rfl, trivial⟩),
  okp rfl rfl (oqC (x := .g [.i c.Conc.Lo, .i c.Conc.Hi, .i c.Thick.Lo, .i c.Thick.Hi, .i c.Ridge.Lo, .i c.Ridge.Hi, .i c.Press.Lo, .i c.Press.Hi]) (fs := []) (caps := []) (extra := []) (lN rfl) en_125 rfl ⟨rfl, rfl, rfl⟩ (EvL.cons rfl EvL.nil) (fun mm aa ww gg hr hrel => (c125 c ww))),
  okp rfl rfl (oqa (L := 2) (lN rfl) zl_187),
  okp rfl rfl (oqS sz_187 rfl rfl rfl rfl rfl (by decide)),
  trivial⟩ ?_
 refine fqK (s' := [kt 3 (.p 2 0), kb 2 187 8, kc 2 0 (.i c.Conc.Lo), kc 2 1 (.i c.Conc.Hi), kc 2 2 (.i c.Thick.Lo), kc 2 3 (.i c.Thick.Hi), kc 2 4 (.i c.Ridge.Lo), kc 2 5 (.i c.Ridge.Hi), kc 2 6 (.i c.Press.Lo), kc 2 7 (.i c.Press.Hi)]) ?_ (kp rfl) rfl
 refine fqT ?_
 refine aqS ?_
 refine aqT (rows := [_, _, _]) rfl (by kernel_rfl) ⟨
  okp rfl rfl (op_mkfn (lN rfl) EvL.nil (EvL.cons rfl EvL.nil)),
  okp rfl rfl (oqC (x := .B (all4 ((fun vv => rightS (([c.Conc, c.Thick, c.Ridge, c.Press]).getD vv.toNat ⟨0, 0⟩) vv)))) (fs := []) (caps := []) (extra := (kapp ((.b 2 :: cqK 2 0 8)) [])) (lN rfl) en_133 rfl ⟨rfl, rfl, rfl⟩ (EvL.cons rfl EvL.nil) (fun mm aa ww gg hr hrel => (c133 134 (denL mm []) (denL mm [.p 2 0]) (fun vv => rightS (([c.Conc, c.Thick, c.Ridge, c.Press]).getD vv.toNat ⟨0, 0⟩) vv) ww en_134 (fun vv w1 hb1 h1 h2 => (c134 vv [c.Conc, c.Thick, c.Ridge, c.Press] (mm 2) w1 (BoxAt.mono (bqA (L := 2) (vs := [(.int .i64 c.Conc.Lo), (.int .i64 c.Conc.Hi), (.int .i64 c.Thick.Lo), (.int .i64 c.Thick.Hi), (.int .i64 c.Ridge.Lo), (.int .i64 c.Ridge.Hi), (.int .i64 c.Press.Lo), (.int .i64 c.Press.Hi)]) hrel (fun k hk => hr k (List.mem_append_left _ hk)) rfl ⟨rfl, rfl, rfl, rfl, rfl, rfl, rfl, rfl, trivial⟩) hb1) rfl (by omega)))))),
  okp rfl rfl (oqn (lN rfl) rfl),
  trivial⟩ ?_
 refine fqK (s' := [kt 8 (.B (!(all4 ((fun vv => rightS (([c.Conc, c.Thick, c.Ridge, c.Press]).getD vv.toNat ⟨0, 0⟩) vv)))))]) ?_ (kp rfl) rfl
 refine fqT ?_
 refine aqc rfl (fun hz1 => ?_) (fun hz1 => ?_)
 ·have _z := hz1
  have q2 := not_t hz1
  refine aqS ?_
  refine aqT (rows := [_]) rfl (by kernel_rfl) ⟨
   okp rfl rfl (oqA (lN rfl) rfl),
   trivial⟩ ?_
  refine fqK (s' := [kt 2 (.i 20)]) ?_ (kp rfl) rfl
  refine fqT ?_
  refine aqr ?_
  refine fqR ?_
  refine pqr (x := .i 20) rfl rfl (rqT rfl rqN) rfl (fun mm aa ww hr => ?_)
  show Ending.returned (.int .i64 20) = _ ∧ _
  exact ⟨by rw [checkCell]; first | rw [not_t hz1]; rfl | rw [not_f hz1]; rfl, hr.below⟩
 ·have _z := hz1
  have q3 := not_f hz1
  refine aqk ?_
  refine fqT ?_
  refine aqS ?_
  refine aqT (rows := [_]) rfl (by kernel_rfl) ⟨
   okp rfl rfl (oqA (lN rfl) rfl),
   trivial⟩ ?_
  refine fqK (s' := [kt 2 (.i 0)]) ?_ (kp rfl) rfl
  refine fqT ?_
  refine aqr ?_
  refine pqr (x := .i 0) rfl rfl (rqT rfl rqN) rfl (fun mm aa ww hr => ?_)
  show Ending.returned (.int .i64 0) = _ ∧ _
  exact ⟨by rw [checkCell]; first | rw [not_t hz1]; rfl | rw [not_f hz1]; rfl, hr.below⟩
end Go.Proofs.T
