/-
  This file has contracts of functions of the program: where the mirror gives a value, the call returns it. Conditions: those that each theorem names.
-/
import Derived.Test.YtgpcfckbcldokaaDoorSp3
set_option linter.unusedVariables false
namespace Go.Proofs.T
open Go Go.AX Go.RowKit Hull
theorem ss_62 : sliceSz Tryd.prog 62 = some 2 := by kernel_rfl
theorem fo_170_0 : fieldOff Tryd.prog 170 0 = some 0 := by kernel_rfl
theorem en_92 : Proofs.Enters Tryd.prog 92 := Proofs.enters_of Tryd.func92 (by kernel_rfl) rfl
theorem fo_170_1 : fieldOff Tryd.prog 170 1 = some 1 := by kernel_rfl
theorem sh_170 : shapeOf Tryd.prog 170 = some (some 2) := by kernel_rfl
theorem zl_170 : zeroL Tryd.prog 170 = some [(.int .i64 0), (.int .i64 0)] := by kernel_rfl
theorem sz_170 : sizeIn Tryd.prog 170 = some 2 := by kernel_rfl
theorem en_110 : Proofs.Enters Tryd.prog 110 := Proofs.enters_of Tryd.func110 (by kernel_rfl) rfl
theorem en_111 : Proofs.Enters Tryd.prog 111 := Proofs.enters_of Tryd.func111 (by kernel_rfl) rfl
theorem fo_64_0 : fieldOff Tryd.prog 64 0 = some 0 := by kernel_rfl
theorem fo_64_1 : fieldOff Tryd.prog 64 1 = some 1 := by kernel_rfl
theorem fo_64_2 : fieldOff Tryd.prog 64 2 = some 2 := by kernel_rfl
theorem fo_64_3 : fieldOff Tryd.prog 64 3 = some 3 := by kernel_rfl
theorem fo_64_7 : fieldOff Tryd.prog 64 7 = some 7 := by kernel_rfl
theorem fo_64_8 : fieldOff Tryd.prog 64 8 = some 8 := by kernel_rfl
theorem fo_64_9 : fieldOff Tryd.prog 64 9 = some 9 := by kernel_rfl
theorem fo_64_10 : fieldOff Tryd.prog 64 10 = some 10 := by kernel_rfl
theorem fo_64_4 : fieldOff Tryd.prog 64 4 = some 4 := by kernel_rfl
theorem sh_62 : shapeOf Tryd.prog 62 = some none := by kernel_rfl
theorem fo_64_5 : fieldOff Tryd.prog 64 5 = some 5 := by kernel_rfl
theorem fo_64_6 : fieldOff Tryd.prog 64 6 = some 6 := by kernel_rfl
theorem en_47 : Proofs.Enters Tryd.prog 47 := Proofs.enters_of Tryd.func47 (by kernel_rfl) rfl
theorem en_115 : Proofs.Enters Tryd.prog 115 := Proofs.enters_of Tryd.func115 (by kernel_rfl) rfl

def m92 (_F : Nat) (a0 : Int) (a1 : Int) (a2 : Int) : Option (Bool) :=
 some ((decide (a0 ≥ a1)) && (decide (a0 ≤ a2)))

theorem c92 (F : Nat) (a0 : Int) (a1 : Int) (a2 : Int) (w : World)  (r : Bool) (hm : m92 F a0 a1 a2 = some r) : Calls Tryd.prog 92 #[.int .i64 a0, .int .i64 a1, .int .i64 a2] w fun e w' => e = .returned (.bool r) ∧ Below w.heap.size w w' := by
 unfold m92 at hm
 refine enter (args := [.i a0, .i a1, .i a2]) Tryd.func92 rfl (N := 15) rfl (Nat.le_of_ble_eq_true rfl) ?_
 refine aqS ?_
 refine aqT (rows := [_]) rfl (by kernel_rfl) ⟨
  okp rfl rfl (oqA (lN rfl) rfl),
  trivial⟩ ?_
 refine fqK (s' := [kt 0 (.i a0), kt 1 (.i a1), kt 2 (.i a2)]) ?_ (kp rfl) rfl
 refine fqT ?_
 refine aqS ?_
 refine aqT (rows := [_, _, _, _, _, _, _, _, _]) rfl (by kernel_rfl) ⟨
  okp rfl rfl (oqM (lN rfl) rfl),
  okp rfl rfl (oqM (lN rfl) rfl),
  okp rfl rfl (oqB (lN rfl) rfl rfl rfl),
  okp rfl rfl (oqM (lN rfl) rfl),
  ok_if (lN rfl) rfl rfl rfl rfl rfl rfl (fun hg1 => oqM (lN rfl) (force_x rfl)),
  ok_if (lN rfl) rfl rfl rfl rfl rfl rfl (fun hg2 => oqM (lN rfl) (force_x rfl)),
  ok_if (lN rfl) rfl rfl rfl rfl rfl rfl (fun hg3 => oqB (lN rfl) (force_eq (beq_iff_eq.2 hg3) rfl) (force_eq (beq_iff_eq.2 hg3) rfl) rfl),
  okp rfl rfl (op_and (lN rfl) rfl rfl),
  okp rfl rfl (oqA (lN rfl) rfl),
  trivial⟩ ?_
 refine fqK (s' := [kt 6 (.B ((decide (a0 ≥ a1)) && (decide (a0 ≤ a2))))]) ?_ (kp rfl) rfl
 refine fqT ?_
 refine aw_ret ?_
 refine post_ret (x := .B ((decide (a0 ≥ a1)) && (decide (a0 ≤ a2)))) rfl rfl (rqT rfl resOK_nil) rfl (fun mm aa ww hr => ?_)
 have hm := Option.some.inj hm
 subst hm
 exact ⟨rfl, hr.below⟩

def m110 (F : Nat) (a0 : List Pt) : Option (Bool) :=
 chk (((decide ((((a0.length : Nat) : Int)) < 2)) || (decide ((((a0.length : Nat) : Int)) > 8))) = false → (0 : Int) ≤ 0 ∧ 0 < ((a0.length : Nat) : Int)) (brk (((decide ((((a0.length : Nat) : Int)) < 2)) || (decide ((((a0.length : Nat) : Int)) > 8))) || ((((pt a0 0)).X) != 0)) (some false) (join (fun (_ : Unit) => some true) (fun k1 => loopC (fun (x2 : Int) n2 => brk (decide (x2 < (((a0.length : Nat) : Int)))) (chk (0 ≤ x2 ∧ x2 < ((a0.length : Nat) : Int)) (bnd (m92 F (((pt a0 x2)).X) 0 400) (fun v1 => bnd (brk ((!v1)) (some default) (m92 F (((pt a0 x2)).Y) 0 20000)) (fun v2 => brk ((!v1) || (!v2)) (some false) (chk ((decide (x2 > 0)) = true → InR (x2 - 1)) (chk ((decide (x2 > 0)) = true → 0 ≤ x2 - 1 ∧ x2 - 1 < ((a0.length : Nat) : Int)) (brk ((decide (x2 > 0)) && (decide ((((pt a0 x2)).X) ≤ (((pt a0 (x2 - 1))).X)))) (some false) (chk (InR (x2 + 1)) (n2 (x2 + 1)))))))))) (k1 ())) F 0)))

theorem c110 (F : Nat) (a0 : List Pt) (a0_s : SlV) (w : World) (ha0 : SlIs encPt 2 w a0_s a0) (r : Bool) (hm : m110 F a0 = some r) : Calls Tryd.prog 110 #[.slice a0_s.p a0_s.n a0_s.c] w fun e w' => e = .returned (.bool r) ∧ Below w.heap.size w w' := by
 obtain ⟨a0_p, a0_n, a0_c⟩ := a0_s
 have ha0_l : a0_n = a0.length := ha0.1
 subst ha0_l
 obtain ⟨a0_b, a0_o, ha0_p, ha0_L⟩ := SlAt.lies' ha0
 unfold m110 at hm
 refine enter (args := [.v (.slice a0_p a0.length a0_c)]) Tryd.func110 rfl (N := 57) rfl (Nat.le_of_ble_eq_true rfl) ?_
 refine aqS ?_
 refine aqT (rows := [_]) rfl (by kernel_rfl) ⟨
  okp rfl rfl (oqA (lN rfl) rfl),
  trivial⟩ ?_
 refine fqK (s' := [kt 0 (.v (.slice a0_p a0.length a0_c))]) ?_ (kp rfl) rfl
 refine fqT ?_
 refine aqS ?_
 refine aqS ?_
 obtain ⟨hp6, hm⟩ := chk_some hm
 refine aqT (rows := [_, _, _, _, _, _, _, _, _, _, _, _, _, _, _]) rfl (by kernel_rfl) ⟨
  okp rfl rfl (oqM (lN rfl) rfl),
  okp rfl rfl (op_len (n := a0.length) (lN rfl) (by rw [ss_62]; rfl) rfl rfl),
  okp rfl rfl (oqB (lN rfl) rfl rfl rfl),
  okp rfl rfl (oqM (lN rfl) rfl),
  ok_if (lN rfl) rfl rfl rfl rfl rfl rfl (fun hg1 => oqM (lN rfl) (force_x rfl)),
  ok_if (lN rfl) rfl rfl rfl rfl rfl rfl (fun hg2 => op_len (n := a0.length) (lN rfl) (by rw [ss_62]; rfl) (force_eq (beq_iff_eq.2 hg2) rfl) rfl),
  ok_if (lN rfl) rfl rfl rfl rfl rfl rfl (fun hg3 => oqB (lN rfl) (force_eq (beq_iff_eq.2 hg3) rfl) rfl rfl),
  okp rfl rfl (op_or (lN rfl) rfl rfl),
  okp rfl rfl (oqM (lN rfl) rfl),
  ok_if (lN rfl) rfl rfl rfl rfl rfl rfl (fun hg4 => oqM (lN rfl) (force_x rfl)),
  ok_if (lN rfl) rfl rfl rfl rfl rfl rfl (fun hg5 => op_ixB (lN rfl) (force_eq (beq_iff_eq.2 hg5) rfl) rfl ss_62 (ha0_p (ne_of_ix (i := 0) (hp6 hg5).1 (hp6 hg5).2)) (hp6 hg5).1 (hp6 hg5).2),
  ok_if (lN rfl) rfl rfl rfl rfl rfl rfl (fun hg7 => op_fieldAddrB (lN rfl) (force_eq (beq_iff_eq.2 hg7) rfl) fo_170_0),
  ok_if (lN rfl) rfl rfl rfl rfl rfl rfl (fun hg8 => op_loadB (y := .i (((pt a0 0)).X)) (lN rfl) (force_eq (beq_iff_eq.2 hg8) rfl) (ld1 (ha0_L (ne_of_ix (i := 0) (hp6 hg8).1 (hp6 hg8).2)) ⟨0, 0⟩ (i := 0) (hp6 hg8).1 (hp6 hg8).2 0 rfl rfl sh_3)),
  ok_if (lN rfl) rfl rfl rfl rfl rfl rfl (fun hg9 => oqB (lN rfl) (force_eq (beq_iff_eq.2 hg9) rfl) rfl rfl),
  okp rfl rfl (op_or (lN rfl) rfl rfl),
  trivial⟩ ?_
 refine fqK (s' := [kt 0 (.v (.slice a0_p a0.length a0_c)), kt 18 (.B (((decide ((((a0.length : Nat) : Int)) < 2)) || (decide ((((a0.length : Nat) : Int)) > 8))) || ((((pt a0 0)).X) != 0)))]) ?_ (kp rfl) rfl
 refine fqT ?_
 refine aw_cond rfl (fun hz10 => ?_) (fun hz10 => ?_)
 ·have hm := brk_t hz10 hm
  refine aqS ?_
  refine aqT (rows := [_]) rfl (by kernel_rfl) ⟨
   okp rfl rfl (oqA (lN rfl) rfl),
   trivial⟩ ?_
  refine fqK (s' := [kt 2 (.B false)]) ?_ (kp rfl) rfl
  refine fqT ?_
  refine aw_ret ?_
  refine fin_then_ret ?_
  refine post_ret (x := .B false) rfl rfl (rqT rfl resOK_nil) rfl (fun mm aa ww hr => ?_)
  have hm := Option.some.inj hm
  subst hm
  exact ⟨rfl, hr.below⟩
 ·have hm := brk_f hz10 hm
  refine aw_skip ?_
  refine fqT ?_
  refine aw_cutM (ι := Unit) hm (fun x1 => []) (fun hm => ?_) (fun x1 hm => ?_)
  ·have _z := hm
   refine aqS ?_
   refine aqT (rows := [_]) rfl (by kernel_rfl) ⟨
    okp rfl rfl (oqA (lN rfl) rfl),
    trivial⟩ ?_
   refine fqK (s' := [kt 0 (.v (.slice a0_p a0.length a0_c)), kt 3 (.i 0)]) ?_ (kp rfl) rfl
   refine fqT ?_
   refine aw_block ?_
   refine aw_loopC hm (fun x2 => [kt 0 (.v (.slice a0_p a0.length a0_c)), kt 3 (.i x2)]) ⟨rfl, rfl, trivial⟩ rfl (fun x2 n2 hm => ?_)
   refine aqS ?_
   refine aqS ?_
   refine aqT (rows := [_, _, _, _]) rfl (by kernel_rfl) ⟨
    okp rfl rfl (oqM (lN rfl) rfl),
    okp rfl rfl (oqM (lN rfl) rfl),
    okp rfl rfl (op_len (n := a0.length) (lN rfl) (by rw [ss_62]; rfl) rfl rfl),
    okp rfl rfl (oqB (lN rfl) rfl rfl rfl),
    trivial⟩ ?_
   refine fqK (s' := [kt 0 (.v (.slice a0_p a0.length a0_c)), kt 3 (.i x2), kt 22 (.B (decide (x2 < (((a0.length : Nat) : Int)))))]) ?_ (kp rfl) rfl
   refine fqT ?_
   refine aw_cond rfl (fun hz11 => ?_) (fun hz11 => ?_)
   ·have hm := brk_t hz11 hm
    refine aw_skip ?_
    refine fqT ?_
    refine aqS ?_
    refine aw_block ?_
    refine aqS ?_
    refine aqS ?_
    obtain ⟨hp12, hm⟩ := chk_some hm
    obtain ⟨v1, hv1, hm⟩ := bnd_some hm
    obtain ⟨v2, hv2, hm⟩ := bnd_some hm
    refine aqT (rows := [_, _, _, _, _, _, _, _, _, _, _, _, _, _, _, _]) rfl (by kernel_rfl) ⟨
     okp rfl rfl (oqM (lN rfl) rfl),
     okp rfl rfl (oqM (lN rfl) rfl),
     okp rfl rfl (op_ixB (lN rfl) rfl rfl ss_62 (ha0_p (ne_of_ix (i := x2) hp12.1 hp12.2)) hp12.1 hp12.2),
     okp rfl rfl (op_fieldAddrB (lN rfl) rfl fo_170_0),
     okp rfl rfl (op_loadB (y := .i (((pt a0 x2)).X)) (lN rfl) rfl (ld1 (ha0_L (ne_of_ix (i := x2) hp12.1 hp12.2)) ⟨0, 0⟩ (i := x2) hp12.1 hp12.2 0 rfl rfl sh_3)),
     okp rfl rfl (oqC (x := .B v1) (fs := []) (caps := []) (extra := []) (lN rfl) en_92 rfl ⟨rfl, rfl, rfl⟩ (EvL.cons rfl (EvL.cons rfl (EvL.cons rfl EvL.nil))) (fun mm aa ww gg hr hrel => (c92 F (((pt a0 x2)).X) 0 400 ww v1 hv1))),
     okp rfl rfl (op_not (lN rfl) rfl),
     okp rfl rfl (oqM (lN rfl) rfl),
     ok_if (lN rfl) rfl rfl rfl rfl rfl rfl (fun hg13 => oqM (lN rfl) (force_x rfl)),
     ok_if (lN rfl) rfl rfl rfl rfl rfl rfl (fun hg14 => oqM (lN rfl) (force_x rfl)),
     ok_if (lN rfl) rfl rfl rfl rfl rfl rfl (fun hg15 => op_ixB (lN rfl) (force_eq (beq_iff_eq.2 hg15) rfl) (force_eq (beq_iff_eq.2 hg15) rfl) ss_62 (ha0_p (ne_of_ix (i := x2) hp12.1 hp12.2)) hp12.1 hp12.2),
     ok_if (lN rfl) rfl rfl rfl rfl rfl rfl (fun hg16 => op_fieldAddrB (lN rfl) (force_eq (beq_iff_eq.2 hg16) rfl) fo_170_1),
     ok_if (lN rfl) rfl rfl rfl rfl rfl rfl (fun hg17 => op_loadB (y := .i (((pt a0 x2)).Y)) (lN rfl) (force_eq (beq_iff_eq.2 hg17) rfl) (ld1 (ha0_L (ne_of_ix (i := x2) hp12.1 hp12.2)) ⟨0, 0⟩ (i := x2) hp12.1 hp12.2 1 rfl rfl sh_3)),
     ok_if (lN rfl) rfl rfl rfl rfl rfl rfl (fun hg18 => oqC (x := .B v2) (fs := []) (caps := []) (extra := []) (lN rfl) en_92 rfl ⟨rfl, rfl, rfl⟩ (EvL.cons (force_eq (beq_iff_eq.2 hg18) rfl) (EvL.cons rfl (EvL.cons rfl EvL.nil))) (fun mm aa ww gg hr hrel => (c92 F (((pt a0 x2)).Y) 0 20000 ww v2 (brk_f hg18 hv2)))),
     ok_if (lN rfl) rfl rfl rfl rfl rfl rfl (fun hg19 => op_not (lN rfl) (force_eq (beq_iff_eq.2 hg19) rfl)),
     okp rfl rfl (op_or (lN rfl) rfl rfl),
     trivial⟩ ?_
    refine fqK (s' := [kt 0 (.v (.slice a0_p a0.length a0_c)), kt 3 (.i x2), kt 40 (.B ((!v1) || (!v2)))]) ?_ (kp rfl) rfl
    refine fqT ?_
    refine aw_cond rfl (fun hz20 => ?_) (fun hz20 => ?_)
    ·have hm := brk_t hz20 hm
     refine aqS ?_
     refine aqT (rows := [_]) rfl (by kernel_rfl) ⟨
      okp rfl rfl (oqA (lN rfl) rfl),
      trivial⟩ ?_
     refine fqK (s' := [kt 2 (.B false)]) ?_ (kp rfl) rfl
     refine fqT ?_
     refine aw_ret ?_
     refine fin_then_ret ?_
     refine fin_block_ret ?_
     refine fin_then_ret ?_
     refine fin_then_ret ?_
     refine fin_block_ret ?_
     refine fin_then_ret ?_
     refine post_ret (x := .B false) rfl rfl (rqT rfl resOK_nil) rfl (fun mm aa ww hr => ?_)
     have hm := Option.some.inj hm
     subst hm
     exact ⟨rfl, hr.below⟩
    ·have hm := brk_f hz20 hm
     refine aw_skip ?_
     refine fqT ?_
     refine aqS ?_
     obtain ⟨hp29, hm⟩ := chk_some hm
     obtain ⟨hp31, hm⟩ := chk_some hm
     refine aw_any (rows := [_, _, _, _, _, _, _, _, _, _, _, _, _, _, _, _]) (M := [0, 1, 3, 7, 7, 31, 63, 127, 7, 7, 519, 1799, 3847, 7943, 16383, 32767]) Tryd_mixed (by kernel_rfl) rfl (by kernel_rfl) ⟨
      okp rfl rfl (oqM (lN rfl) rfl),
      okp rfl rfl (oqB (lN rfl) rfl rfl rfl),
      okp rfl rfl (oqM (lN rfl) rfl),
      ok_if (lN rfl) rfl rfl rfl rfl rfl rfl (fun hg21 => oqM (lN rfl) (force_x rfl)),
      ok_if (lN rfl) rfl rfl rfl rfl rfl rfl (fun hg22 => oqM (lN rfl) (force_x rfl)),
      ok_if (lN rfl) rfl rfl rfl rfl rfl rfl (fun hg23 => op_ixB (lN rfl) (force_eq (beq_iff_eq.2 hg23) rfl) (force_eq (beq_iff_eq.2 hg23) rfl) ss_62 (ha0_p (ne_of_ix (i := x2) hp12.1 hp12.2)) hp12.1 hp12.2),
      ok_if (lN rfl) rfl rfl rfl rfl rfl rfl (fun hg24 => op_fieldAddrB (lN rfl) (force_eq (beq_iff_eq.2 hg24) rfl) fo_170_0),
      ok_if (lN rfl) rfl rfl rfl rfl rfl rfl (fun hg25 => op_loadB (y := .i (((pt a0 x2)).X)) (lN rfl) (force_eq (beq_iff_eq.2 hg25) rfl) (ld1 (ha0_L (ne_of_ix (i := x2) hp12.1 hp12.2)) ⟨0, 0⟩ (i := x2) hp12.1 hp12.2 0 rfl rfl sh_3)),
      ok_if (lN rfl) rfl rfl rfl rfl rfl rfl (fun hg26 => oqM (lN rfl) (force_x rfl)),
      ok_if (lN rfl) rfl rfl rfl rfl rfl rfl (fun hg27 => oqM (lN rfl) (force_x rfl)),
      ok_if (lN rfl) rfl rfl rfl rfl rfl rfl (fun hg28 => oqB (lN rfl) (force_eq (beq_iff_eq.2 hg28) rfl) rfl (nw_sub (hp29 hg28))),
      ok_if (lN rfl) rfl rfl rfl rfl rfl rfl (fun hg30 => op_ixB (lN rfl) (force_eq (beq_iff_eq.2 hg30) rfl) (force_eq (beq_iff_eq.2 hg30) rfl) ss_62 (ha0_p (ne_of_ix (i := x2 - 1) (hp31 hg30).1 (hp31 hg30).2)) (hp31 hg30).1 (hp31 hg30).2),
      ok_if (lN rfl) rfl rfl rfl rfl rfl rfl (fun hg32 => op_fieldAddrB (lN rfl) (force_eq (beq_iff_eq.2 hg32) rfl) fo_170_0),
      ok_if (lN rfl) rfl rfl rfl rfl rfl rfl (fun hg33 => op_loadB (y := .i (((pt a0 (x2 - 1))).X)) (lN rfl) (force_eq (beq_iff_eq.2 hg33) rfl) (ld1 (ha0_L (ne_of_ix (i := x2 - 1) (hp31 hg33).1 (hp31 hg33).2)) ⟨0, 0⟩ (i := x2 - 1) (hp31 hg33).1 (hp31 hg33).2 0 rfl rfl sh_3)),
      ok_if (lN rfl) rfl rfl rfl rfl rfl rfl (fun hg34 => oqB (lN rfl) (force_eq (beq_iff_eq.2 hg34) rfl) (force_eq (beq_iff_eq.2 hg34) rfl) rfl),
      okp rfl rfl (op_and (lN rfl) rfl rfl),
      trivial⟩ ?_
     refine fqK (s' := [kt 0 (.v (.slice a0_p a0.length a0_c)), kt 3 (.i x2), kt 56 (.B ((decide (x2 > 0)) && (decide ((((pt a0 x2)).X) ≤ (((pt a0 (x2 - 1))).X)))))]) ?_ (kp rfl) rfl
     refine fqT ?_
     refine aw_cond rfl (fun hz35 => ?_) (fun hz35 => ?_)
     ·have hm := brk_t hz35 hm
      refine aqS ?_
      refine aqT (rows := [_]) rfl (by kernel_rfl) ⟨
       okp rfl rfl (oqA (lN rfl) rfl),
       trivial⟩ ?_
      refine fqK (s' := [kt 2 (.B false)]) ?_ (kp rfl) rfl
      refine fqT ?_
      refine aw_ret ?_
      refine fin_block_ret ?_
      refine fin_then_ret ?_
      refine fin_then_ret ?_
      refine fin_block_ret ?_
      refine fin_then_ret ?_
      refine post_ret (x := .B false) rfl rfl (rqT rfl resOK_nil) rfl (fun mm aa ww hr => ?_)
      have hm := Option.some.inj hm
      subst hm
      exact ⟨rfl, hr.below⟩
     ·have hm := brk_f hz35 hm
      refine aw_skip ?_
      refine fin_block ?_
      refine fqT ?_
      obtain ⟨hp36, hm⟩ := chk_some hm
      refine aqT (rows := [_, _, _]) rfl (by kernel_rfl) ⟨
       okp rfl rfl (oqM (lN rfl) rfl),
       okp rfl rfl (oqB (lN rfl) rfl rfl (nw_add hp36)),
       okp rfl rfl (oqA (lN rfl) rfl),
       trivial⟩ ?_
      refine fqK (s' := [kt 0 (.v (.slice a0_p a0.length a0_c)), kt 3 (.i (x2 + 1))]) ?_ (kp rfl) rfl
      exact fin_cut (x2 + 1) hm ⟨rfl, rfl, trivial⟩ rfl
   ·have hm := brk_f hz11 hm
    refine aw_exit ?_
    refine fin_then_exit ?_
    refine fin_then_exit ?_
    refine fin_block_exit ?_
    exact fin_cut () hm trivial rfl
  ·have _z := hm
   refine aqS ?_
   refine aqT (rows := [_]) rfl (by kernel_rfl) ⟨
    okp rfl rfl (oqA (lN rfl) rfl),
    trivial⟩ ?_
   refine fqK (s' := [kt 2 (.B true)]) ?_ (kp rfl) rfl
   refine fqT ?_
   refine aw_ret ?_
   refine post_ret (x := .B true) rfl rfl (rqT rfl resOK_nil) rfl (fun mm aa ww hr => ?_)
   have hm := Option.some.inj hm
   subst hm
   exact ⟨rfl, hr.below⟩

def m111 (F : Nat) (a0 : List Pt) (a1 : Int) : Option (Int × Int) :=
 brk ((((a0.length : Nat) : Int)) == 0) (some (0, 1)) (chk (InR ((((a0.length : Nat) : Int)) - 1)) (chk (0 ≤ (((a0.length : Nat) : Int)) - 1 ∧ (((a0.length : Nat) : Int)) - 1 < ((a0.length : Nat) : Int)) (brk (decide (a1 ≥ (((pt a0 ((((a0.length : Nat) : Int)) - 1))).X))) (some (((pt a0 ((((a0.length : Nat) : Int)) - 1))).Y, 1)) (join (fun (x1 : Int) => chk (0 ≤ x1 ∧ x1 < ((a0.length : Nat) : Int)) (chk (InR (x1 + 1)) (chk (0 ≤ x1 + 1 ∧ x1 + 1 < ((a0.length : Nat) : Int)) (chk (InR ((((pt a0 (x1 + 1))).X) - a1)) (chk (InR ((((pt a0 x1)).Y) * ((((pt a0 (x1 + 1))).X) - a1))) (chk (InR (a1 - (((pt a0 x1)).X))) (chk (InR ((((pt a0 (x1 + 1))).Y) * (a1 - (((pt a0 x1)).X)))) (chk (InR (((((pt a0 x1)).Y) * ((((pt a0 (x1 + 1))).X) - a1)) + ((((pt a0 (x1 + 1))).Y) * (a1 - (((pt a0 x1)).X))))) (chk (InR ((((pt a0 (x1 + 1))).X) - (((pt a0 x1)).X))) (some (((((pt a0 x1)).Y) * ((((pt a0 (x1 + 1))).X) - a1)) + ((((pt a0 (x1 + 1))).Y) * (a1 - (((pt a0 x1)).X))), (((pt a0 (x1 + 1))).X) - (((pt a0 x1)).X)))))))))))) (fun k1 => loopC (fun (x2 : Int) n2 => chk (InR (x2 + 1)) (chk (0 ≤ x2 + 1 ∧ x2 + 1 < ((a0.length : Nat) : Int)) (brk (decide ((((pt a0 (x2 + 1))).X) ≤ a1)) (n2 (x2 + 1)) (k1 x2)))) F 0)))))

theorem c111 (F : Nat) (a0 : List Pt) (a0_s : SlV) (a1 : Int) (w : World) (ha0 : SlIs encPt 2 w a0_s a0) (r : Int × Int) (hm : m111 F a0 a1 = some r) : Calls Tryd.prog 111 #[.slice a0_s.p a0_s.n a0_s.c, .int .i64 a1] w fun e w' => e = .returned (.tuple #[.int .i64 r.1, .int .i64 r.2]) ∧ Below w.heap.size w w' := by
 obtain ⟨a0_p, a0_n, a0_c⟩ := a0_s
 have ha0_l : a0_n = a0.length := ha0.1
 subst ha0_l
 obtain ⟨a0_b, a0_o, ha0_p, ha0_L⟩ := SlAt.lies' ha0
 unfold m111 at hm
 refine enter (args := [.v (.slice a0_p a0.length a0_c), .i a1]) Tryd.func111 rfl (N := 64) rfl (Nat.le_of_ble_eq_true rfl) ?_
 refine aqS ?_
 refine aqT (rows := [_, _]) rfl (by kernel_rfl) ⟨
  okp rfl rfl (oqA (lN rfl) rfl),
  okp rfl rfl (oqA (lN rfl) rfl),
  trivial⟩ ?_
 refine fqK (s' := [kt 0 (.v (.slice a0_p a0.length a0_c)), kt 1 (.i a1)]) ?_ (kp rfl) rfl
 refine fqT ?_
 refine aqS ?_
 refine aqS ?_
 refine aqT (rows := [_, _, _]) rfl (by kernel_rfl) ⟨
  okp rfl rfl (oqM (lN rfl) rfl),
  okp rfl rfl (op_len (n := a0.length) (lN rfl) (by rw [ss_62]; rfl) rfl rfl),
  okp rfl rfl (oqB (lN rfl) rfl rfl rfl),
  trivial⟩ ?_
 refine fqK (s' := [kt 0 (.v (.slice a0_p a0.length a0_c)), kt 1 (.i a1), kt 12 (.B ((((a0.length : Nat) : Int)) == 0))]) ?_ (kp rfl) rfl
 refine fqT ?_
 refine aw_cond rfl (fun hz1 => ?_) (fun hz1 => ?_)
 ·have hm := brk_t hz1 hm
  refine aqS ?_
  refine aqT (rows := [_, _]) rfl (by kernel_rfl) ⟨
   okp rfl rfl (oqA (lN rfl) rfl),
   okp rfl rfl (oqA (lN rfl) rfl),
   trivial⟩ ?_
  refine fqK (s' := [kt 4 (.i 0), kt 5 (.i 1)]) ?_ (kp rfl) rfl
  refine fqT ?_
  refine aw_ret ?_
  refine fin_then_ret ?_
  refine post_ret (x := .t [.i 0, .i 1]) rfl rfl (rqT rfl (rqT rfl resOK_nil)) rfl (fun mm aa ww hr => ?_)
  have hm := Option.some.inj hm
  subst hm
  exact ⟨rfl, hr.below⟩
 ·have hm := brk_f hz1 hm
  refine aw_skip ?_
  refine fqT ?_
  refine aqS ?_
  obtain ⟨hp2, hm⟩ := chk_some hm
  obtain ⟨hp3, hm⟩ := chk_some hm
  refine aqT (rows := [_, _, _, _, _, _, _, _]) rfl (by kernel_rfl) ⟨
   okp rfl rfl (oqM (lN rfl) rfl),
   okp rfl rfl (oqM (lN rfl) rfl),
   okp rfl rfl (op_len (n := a0.length) (lN rfl) (by rw [ss_62]; rfl) rfl rfl),
   okp rfl rfl (oqB (lN rfl) rfl rfl (nw_sub hp2)),
   okp rfl rfl (op_ixB (lN rfl) rfl rfl ss_62 (ha0_p (ne_of_ix (i := (((a0.length : Nat) : Int)) - 1) hp3.1 hp3.2)) hp3.1 hp3.2),
   okp rfl rfl (op_loadB (y := .g [.i (((pt a0 ((((a0.length : Nat) : Int)) - 1))).X), .i (((pt a0 ((((a0.length : Nat) : Int)) - 1))).Y)]) (lN rfl) rfl (ldN (ha0_L (ne_of_ix (i := (((a0.length : Nat) : Int)) - 1) hp3.1 hp3.2)) ⟨0, 0⟩ (i := (((a0.length : Nat) : Int)) - 1) hp3.1 hp3.2 0 (vs := [(.int .i64 (((pt a0 ((((a0.length : Nat) : Int)) - 1))).X)), (.int .i64 (((pt a0 ((((a0.length : Nat) : Int)) - 1))).Y))]) (fun zq zv zh => sub_get (vs := [(.int .i64 (((pt a0 ((((a0.length : Nat) : Int)) - 1))).X)), (.int .i64 (((pt a0 ((((a0.length : Nat) : Int)) - 1))).Y))]) rfl zh) rfl sh_170 rfl)),
   okp rfl rfl (op_alloc (L := 1) (lN rfl) zl_170),
   okp rfl rfl (op_storeN sz_170 rfl rfl rfl rfl rfl (by decide)),
   trivial⟩ ?_
  refine fqK (s' := [kt 0 (.v (.slice a0_p a0.length a0_c)), kt 1 (.i a1), kt 6 (.p 1 0), kb 1 170 2, kc 1 0 (.i (((pt a0 ((((a0.length : Nat) : Int)) - 1))).X)), kc 1 1 (.i (((pt a0 ((((a0.length : Nat) : Int)) - 1))).Y))]) ?_ (kp rfl) rfl
  refine fqT ?_
  refine aqS ?_
  refine aqS ?_
  refine aqT (rows := [_, _, _, _]) rfl (by kernel_rfl) ⟨
   okp rfl rfl (oqM (lN rfl) rfl),
   okp rfl rfl (oqF (lN rfl) rfl fo_170_0),
   okp rfl rfl (oq1 (lN rfl) sh_3 rfl rfl),
   okp rfl rfl (oqB (lN rfl) rfl rfl rfl),
   trivial⟩ ?_
  refine fqK (s' := [kt 0 (.v (.slice a0_p a0.length a0_c)), kt 1 (.i a1), kt 6 (.p 1 0), kt 22 (.B (decide (a1 ≥ (((pt a0 ((((a0.length : Nat) : Int)) - 1))).X)))), kb 1 170 2, kc 1 0 (.i (((pt a0 ((((a0.length : Nat) : Int)) - 1))).X)), kc 1 1 (.i (((pt a0 ((((a0.length : Nat) : Int)) - 1))).Y))]) ?_ (kp rfl) rfl
  refine fqT ?_
  refine aw_cond rfl (fun hz4 => ?_) (fun hz4 => ?_)
  ·have hm := brk_t hz4 hm
   refine aqS ?_
   refine aqT (rows := [_, _, _, _]) rfl (by kernel_rfl) ⟨
    okp rfl rfl (oqF (lN rfl) rfl fo_170_1),
    okp rfl rfl (oq1 (lN rfl) sh_3 rfl rfl),
    okp rfl rfl (oqA (lN rfl) rfl),
    okp rfl rfl (oqA (lN rfl) rfl),
    trivial⟩ ?_
   refine fqK (s' := [kt 4 (.i (((pt a0 ((((a0.length : Nat) : Int)) - 1))).Y)), kt 5 (.i 1)]) ?_ (kp rfl) rfl
   refine fqT ?_
   refine aw_ret ?_
   refine fin_then_ret ?_
   refine post_ret (x := .t [.i (((pt a0 ((((a0.length : Nat) : Int)) - 1))).Y), .i 1]) rfl rfl (rqT rfl (rqT rfl resOK_nil)) rfl (fun mm aa ww hr => ?_)
   have hm := Option.some.inj hm
   subst hm
   exact ⟨rfl, hr.below⟩
  ·have hm := brk_f hz4 hm
   refine aw_skip ?_
   refine fqT ?_
   refine aqS ?_
   refine aqT (rows := [_]) rfl (by kernel_rfl) ⟨
    okp rfl rfl (oqA (lN rfl) rfl),
    trivial⟩ ?_
   refine fqK (s' := [kt 0 (.v (.slice a0_p a0.length a0_c)), kt 1 (.i a1), kt 7 (.i 0)]) ?_ (kp rfl) rfl
   refine fqT ?_
   refine aw_cutM (ι := Int) hm (fun x1 => [kt 0 (.v (.slice a0_p a0.length a0_c)), kt 1 (.i a1), kt 7 (.i x1)]) (fun hm => ?_) (fun x1 hm => ?_)
   ·have _z := hm
    refine aw_block ?_
    refine aw_loopC hm (fun x2 => [kt 0 (.v (.slice a0_p a0.length a0_c)), kt 1 (.i a1), kt 7 (.i x2)]) ⟨rfl, rfl, rfl, trivial⟩ rfl (fun x2 n2 hm => ?_)
    refine aqS ?_
    refine aqS ?_
    obtain ⟨hp5, hm⟩ := chk_some hm
    obtain ⟨hp6, hm⟩ := chk_some hm
    refine aqT (rows := [_, _, _, _, _, _, _, _]) rfl (by kernel_rfl) ⟨
     okp rfl rfl (oqM (lN rfl) rfl),
     okp rfl rfl (oqM (lN rfl) rfl),
     okp rfl rfl (oqB (lN rfl) rfl rfl (nw_add hp5)),
     okp rfl rfl (op_ixB (lN rfl) rfl rfl ss_62 (ha0_p (ne_of_ix (i := x2 + 1) hp6.1 hp6.2)) hp6.1 hp6.2),
     okp rfl rfl (op_fieldAddrB (lN rfl) rfl fo_170_0),
     okp rfl rfl (op_loadB (y := .i (((pt a0 (x2 + 1))).X)) (lN rfl) rfl (ld1 (ha0_L (ne_of_ix (i := x2 + 1) hp6.1 hp6.2)) ⟨0, 0⟩ (i := x2 + 1) hp6.1 hp6.2 0 rfl rfl sh_3)),
     okp rfl rfl (oqM (lN rfl) rfl),
     okp rfl rfl (oqB (lN rfl) rfl rfl rfl),
     trivial⟩ ?_
    refine fqK (s' := [kt 0 (.v (.slice a0_p a0.length a0_c)), kt 1 (.i a1), kt 7 (.i x2), kt 32 (.B (decide ((((pt a0 (x2 + 1))).X) ≤ a1)))]) ?_ (kp rfl) rfl
    refine fqT ?_
    refine aw_cond rfl (fun hz7 => ?_) (fun hz7 => ?_)
    ·have hm := brk_t hz7 hm
     refine aw_skip ?_
     refine fqT ?_
     refine aw_block ?_
     refine aqT (rows := [_, _, _]) rfl (by kernel_rfl) ⟨
      okp rfl rfl (oqM (lN rfl) rfl),
      okp rfl rfl (oqB (lN rfl) rfl rfl (nw_add hp5)),
      okp rfl rfl (oqA (lN rfl) rfl),
      trivial⟩ ?_
     refine fqK (s' := [kt 0 (.v (.slice a0_p a0.length a0_c)), kt 1 (.i a1), kt 7 (.i (x2 + 1))]) ?_ (kp rfl) rfl
     refine fin_block ?_
     exact fin_cut (x2 + 1) hm ⟨rfl, rfl, rfl, trivial⟩ rfl
    ·have hm := brk_f hz7 hm
     refine aw_exit ?_
     refine fin_then_exit ?_
     refine fin_then_exit ?_
     refine fin_block_exit ?_
     exact fin_cut x2 hm ⟨rfl, rfl, rfl, trivial⟩ rfl
   ·have _z := hm
    refine aqS ?_
    obtain ⟨hp8, hm⟩ := chk_some hm
    obtain ⟨hp9, hm⟩ := chk_some hm
    obtain ⟨hp10, hm⟩ := chk_some hm
    refine aw_any (rows := [_, _, _, _, _, _, _, _, _, _, _, _, _]) (M := [0, 0, 3, 7, 0, 0, 32, 112, 240, 0, 0, 1551, 4095]) Tryd_mixed (by kernel_rfl) rfl (by kernel_rfl) ⟨
     okp rfl rfl (oqM (lN rfl) rfl),
     okp rfl rfl (oqM (lN rfl) rfl),
     okp rfl rfl (op_ixB (lN rfl) rfl rfl ss_62 (ha0_p (ne_of_ix (i := x1) hp8.1 hp8.2)) hp8.1 hp8.2),
     okp rfl rfl (op_loadB (y := .g [.i (((pt a0 x1)).X), .i (((pt a0 x1)).Y)]) (lN rfl) rfl (ldN (ha0_L (ne_of_ix (i := x1) hp8.1 hp8.2)) ⟨0, 0⟩ (i := x1) hp8.1 hp8.2 0 (vs := [(.int .i64 (((pt a0 x1)).X)), (.int .i64 (((pt a0 x1)).Y))]) (fun zq zv zh => sub_get (vs := [(.int .i64 (((pt a0 x1)).X)), (.int .i64 (((pt a0 x1)).Y))]) rfl zh) rfl sh_170 rfl)),
     okp rfl rfl (oqM (lN rfl) rfl),
     okp rfl rfl (oqM (lN rfl) rfl),
     okp rfl rfl (oqB (lN rfl) rfl rfl (nw_add hp9)),
     okp rfl rfl (op_ixB (lN rfl) rfl rfl ss_62 (ha0_p (ne_of_ix (i := x1 + 1) hp10.1 hp10.2)) hp10.1 hp10.2),
     okp rfl rfl (op_loadB (y := .g [.i (((pt a0 (x1 + 1))).X), .i (((pt a0 (x1 + 1))).Y)]) (lN rfl) rfl (ldN (ha0_L (ne_of_ix (i := x1 + 1) hp10.1 hp10.2)) ⟨0, 0⟩ (i := x1 + 1) hp10.1 hp10.2 0 (vs := [(.int .i64 (((pt a0 (x1 + 1))).X)), (.int .i64 (((pt a0 (x1 + 1))).Y))]) (fun zq zv zh => sub_get (vs := [(.int .i64 (((pt a0 (x1 + 1))).X)), (.int .i64 (((pt a0 (x1 + 1))).Y))]) rfl zh) rfl sh_170 rfl)),
     okp rfl rfl (op_alloc (L := 2) (lN rfl) zl_170),
     okp rfl rfl (op_alloc (L := 3) (lN rfl) zl_170),
     okp rfl rfl (op_storeN sz_170 rfl rfl rfl rfl rfl (by decide)),
     okp rfl rfl (op_storeN sz_170 rfl rfl rfl rfl rfl (by decide)),
     trivial⟩ ?_
    refine fqK (s' := [kt 1 (.i a1), kt 8 (.p 2 0), kt 9 (.p 3 0), kb 2 170 2, kb 3 170 2, kc 2 0 (.i (((pt a0 x1)).X)), kc 2 1 (.i (((pt a0 x1)).Y)), kc 3 0 (.i (((pt a0 (x1 + 1))).X)), kc 3 1 (.i (((pt a0 (x1 + 1))).Y))]) ?_ (kp rfl) rfl
    refine fqT ?_
    refine aqS ?_
    obtain ⟨hp11, hm⟩ := chk_some hm
    obtain ⟨hp12, hm⟩ := chk_some hm
    obtain ⟨hp13, hm⟩ := chk_some hm
    obtain ⟨hp14, hm⟩ := chk_some hm
    obtain ⟨hp15, hm⟩ := chk_some hm
    obtain ⟨hp16, hm⟩ := chk_some hm
    refine aw_any (rows := [_, _, _, _, _, _, _, _, _, _, _, _, _, _, _, _, _, _, _, _, _, _]) (M := [0, 1, 0, 4, 0, 28, 63, 0, 128, 0, 0, 1024, 3584, 8064, 16383, 0, 32768, 0, 131072, 491520, 32767, 2097151]) Tryd_mixed (by kernel_rfl) rfl (by kernel_rfl) ⟨
     okp rfl rfl (oqF (lN rfl) rfl fo_170_1),
     okp rfl rfl (oq1 (lN rfl) sh_3 rfl rfl),
     okp rfl rfl (oqF (lN rfl) rfl fo_170_0),
     okp rfl rfl (oq1 (lN rfl) sh_3 rfl rfl),
     okp rfl rfl (oqM (lN rfl) rfl),
     okp rfl rfl (oqB (lN rfl) rfl rfl (nw_sub hp11)),
     okp rfl rfl (oqB (lN rfl) rfl rfl (nw_mul hp12)),
     okp rfl rfl (oqF (lN rfl) rfl fo_170_1),
     okp rfl rfl (oq1 (lN rfl) sh_3 rfl rfl),
     okp rfl rfl (oqM (lN rfl) rfl),
     okp rfl rfl (oqF (lN rfl) rfl fo_170_0),
     okp rfl rfl (oq1 (lN rfl) sh_3 rfl rfl),
     okp rfl rfl (oqB (lN rfl) rfl rfl (nw_sub hp13)),
     okp rfl rfl (oqB (lN rfl) rfl rfl (nw_mul hp14)),
     okp rfl rfl (oqB (lN rfl) rfl rfl (nw_add hp15)),
     okp rfl rfl (oqF (lN rfl) rfl fo_170_0),
     okp rfl rfl (oq1 (lN rfl) sh_3 rfl rfl),
     okp rfl rfl (oqF (lN rfl) rfl fo_170_0),
     okp rfl rfl (oq1 (lN rfl) sh_3 rfl rfl),
     okp rfl rfl (oqB (lN rfl) rfl rfl (nw_sub hp16)),
     okp rfl rfl (oqA (lN rfl) rfl),
     okp rfl rfl (oqA (lN rfl) rfl),
     trivial⟩ ?_
    refine fqK (s' := [kt 4 (.i (((((pt a0 x1)).Y) * ((((pt a0 (x1 + 1))).X) - a1)) + ((((pt a0 (x1 + 1))).Y) * (a1 - (((pt a0 x1)).X))))), kt 5 (.i ((((pt a0 (x1 + 1))).X) - (((pt a0 x1)).X)))]) ?_ (kp rfl) rfl
    refine fqT ?_
    refine aw_ret ?_
    refine post_ret (x := .t [.i (((((pt a0 x1)).Y) * ((((pt a0 (x1 + 1))).X) - a1)) + ((((pt a0 (x1 + 1))).Y) * (a1 - (((pt a0 x1)).X)))), .i ((((pt a0 (x1 + 1))).X) - (((pt a0 x1)).X))]) rfl rfl (rqT rfl (rqT rfl resOK_nil)) rfl (fun mm aa ww hr => ?_)
    have hm := Option.some.inj hm
    subst hm
    exact ⟨rfl, hr.below⟩

def m47 (F : Nat) (a0 : Ship) : Option (Int) :=
 bnd (m92 F a0.Class 1 6) (fun v1 => brk (!v1) (some 41) (bnd (m92 F a0.Power 100 100000) (fun v2 => bnd (brk ((!v2)) (some default) (m92 F a0.Draught 10 2000)) (fun v3 => bnd (brk (((!v2) || (!v3))) (some default) (m92 F a0.Tonnes 10 500000)) (fun v4 => brk (((!v2) || (!v3)) || (!v4)) (some 40) (bnd (m92 F a0.Slow 0 20) (fun v5 => bnd (brk ((!v5)) (some default) (m92 F a0.Brash 0 100)) (fun v6 => bnd (brk (((!v5) || (!v6))) (some default) (m92 F a0.Ridge 0 500)) (fun v7 => bnd (brk ((((!v5) || (!v6)) || (!v7))) (some default) (m92 F a0.Press 0 5000)) (fun v8 => brk ((((!v5) || (!v6)) || (!v7)) || (!v8)) (some 40) (bnd (m110 F a0.Thrust) (fun v9 => bnd (brk ((!v9)) (some default) (m110 F a0.Water)) (fun v10 => bnd (brk (((!v9) || (!v10))) (some default) (m110 F a0.Ice)) (fun v11 => brk (((!v9) || (!v10)) || (!v11)) (some 40) (join (fun (_ : Unit) => join (fun (_ : Unit) => join (fun (_ : Unit) => chk (InR ((((a0.Thrust.length : Nat) : Int)) - 1)) (chk (0 ≤ (((a0.Thrust.length : Nat) : Int)) - 1 ∧ (((a0.Thrust.length : Nat) : Int)) - 1 < ((a0.Thrust.length : Nat) : Int)) (bnd (m92 F (((pt a0.Thrust ((((a0.Thrust.length : Nat) : Int)) - 1))).X) 10 250) (fun v12 => chk ((!v12) = false → InR ((((a0.Water.length : Nat) : Int)) - 1)) (chk ((!v12) = false → 0 ≤ (((a0.Water.length : Nat) : Int)) - 1 ∧ (((a0.Water.length : Nat) : Int)) - 1 < ((a0.Water.length : Nat) : Int)) (chk (((!v12) || (decide ((((pt a0.Water ((((a0.Water.length : Nat) : Int)) - 1))).X) > 250))) = false → (0 : Int) ≤ 0 ∧ 0 < ((a0.Ice.length : Nat) : Int)) (chk ((((!v12) || (decide ((((pt a0.Water ((((a0.Water.length : Nat) : Int)) - 1))).X) > 250))) || ((((pt a0.Ice 0)).Y) != 0)) = false → InR ((((a0.Ice.length : Nat) : Int)) - 1)) (chk ((((!v12) || (decide ((((pt a0.Water ((((a0.Water.length : Nat) : Int)) - 1))).X) > 250))) || ((((pt a0.Ice 0)).Y) != 0)) = false → 0 ≤ (((a0.Ice.length : Nat) : Int)) - 1 ∧ (((a0.Ice.length : Nat) : Int)) - 1 < ((a0.Ice.length : Nat) : Int)) (brk ((((!v12) || (decide ((((pt a0.Water ((((a0.Water.length : Nat) : Int)) - 1))).X) > 250))) || ((((pt a0.Ice 0)).Y) != 0)) || ((((pt a0.Ice ((((a0.Ice.length : Nat) : Int)) - 1))).X) != 400)) (some 40) (some 0)))))))))) (fun k5 => loopC (fun (x6 : Int) n6 => brk (decide (x6 < (((a0.Ice.length : Nat) : Int)))) (chk (0 ≤ x6 ∧ x6 < ((a0.Ice.length : Nat) : Int)) (chk (InR (x6 - 1)) (chk (0 ≤ x6 - 1 ∧ x6 - 1 < ((a0.Ice.length : Nat) : Int)) (brk (decide ((((pt a0.Ice x6)).Y) < (((pt a0.Ice (x6 - 1))).Y))) (some 40) (chk (InR (x6 + 1)) (n6 (x6 + 1))))))) (k5 ())) F 1)) (fun k3 => loopC (fun (x4 : Int) n4 => brk (decide (x4 < (((a0.Water.length : Nat) : Int)))) (chk (0 ≤ x4 ∧ x4 < ((a0.Water.length : Nat) : Int)) (chk (InR (x4 - 1)) (chk (0 ≤ x4 - 1 ∧ x4 - 1 < ((a0.Water.length : Nat) : Int)) (brk (decide ((((pt a0.Water x4)).Y) < (((pt a0.Water (x4 - 1))).Y))) (some 40) (chk (InR (x4 + 1)) (n4 (x4 + 1))))))) (k3 ())) F 1)) (fun k1 => loopC (fun (x2 : Int) n2 => brk (decide (x2 < (((a0.Thrust.length : Nat) : Int)))) (chk (0 ≤ x2 ∧ x2 < ((a0.Thrust.length : Nat) : Int)) (chk (InR (x2 - 1)) (chk (0 ≤ x2 - 1 ∧ x2 - 1 < ((a0.Thrust.length : Nat) : Int)) (brk (decide ((((pt a0.Thrust x2)).Y) > (((pt a0.Thrust (x2 - 1))).Y))) (some 40) (chk (InR (x2 + 1)) (n2 (x2 + 1))))))) (k1 ())) F 1))))))))))))))))

theorem c47 (F : Nat) (a0 : Ship) (a0_Thrust_s : SlV) (a0_Water_s : SlV) (a0_Ice_s : SlV) (w : World) (ha0_Thrust : SlIs encPt 2 w a0_Thrust_s a0.Thrust) (ha0_Water : SlIs encPt 2 w a0_Water_s a0.Water) (ha0_Ice : SlIs encPt 2 w a0_Ice_s a0.Ice) (r : Int) (hm : m47 F a0 = some r) : Calls Tryd.prog 47 #[.agg #[.int .i64 a0.Class, .int .i64 a0.Power, .int .i64 a0.Draught, .int .i64 a0.Tonnes, .slice a0_Thrust_s.p a0_Thrust_s.n a0_Thrust_s.c, .slice a0_Water_s.p a0_Water_s.n a0_Water_s.c, .slice a0_Ice_s.p a0_Ice_s.n a0_Ice_s.c, .int .i64 a0.Slow, .int .i64 a0.Brash, .int .i64 a0.Ridge, .int .i64 a0.Press]] w fun e w' => e = .returned (.int .i64 r) ∧ Below w.heap.size w w' := by
 obtain ⟨a0Tp, a0Tn, a0Tc⟩ := a0_Thrust_s
 have ha0_Thrust_l : a0Tn = a0.Thrust.length := ha0_Thrust.1
 subst ha0_Thrust_l
 obtain ⟨a0_Thrust_b, a0To, ha0_Thrust_p, ha0_Thrust_L⟩ := SlAt.lies' ha0_Thrust
 obtain ⟨a0Wp, a0Wn, a0Wc⟩ := a0_Water_s
 have ha0_Water_l : a0Wn = a0.Water.length := ha0_Water.1
 subst ha0_Water_l
 obtain ⟨a0_Water_b, a0Wo, ha0_Water_p, ha0_Water_L⟩ := SlAt.lies' ha0_Water
 obtain ⟨a0Ip, a0In, a0Ic⟩ := a0_Ice_s
 have ha0_Ice_l : a0In = a0.Ice.length := ha0_Ice.1
 subst ha0_Ice_l
 obtain ⟨a0_Ice_b, a0Io, ha0_Ice_p, ha0_Ice_L⟩ := SlAt.lies' ha0_Ice
 unfold m47 at hm
 refine enter (args := [.g [.i a0.Class, .i a0.Power, .i a0.Draught, .i a0.Tonnes, .v (.slice a0Tp a0.Thrust.length a0Tc), .v (.slice a0Wp a0.Water.length a0Wc), .v (.slice a0Ip a0.Ice.length a0Ic), .i a0.Slow, .i a0.Brash, .i a0.Ridge, .i a0.Press]]) Tryd.func47 rfl (N := 170) rfl (Nat.le_of_ble_eq_true rfl) ?_
 refine aqS ?_
 refine aqT (rows := [_, _]) rfl (by kernel_rfl) ⟨
  okp rfl rfl (op_boxN (L := 1) (lN rfl) rfl rfl rfl),
  okp rfl rfl (oqA (lN rfl) rfl),
  trivial⟩ ?_
 refine fqK (s' := (kt 1 (.p 1 0) :: kb 1 64 11 :: sK 1 a0 (.v (.slice a0Tp a0.Thrust.length a0Tc)) (.v (.slice a0Wp a0.Water.length a0Wc)) (.v (.slice a0Ip a0.Ice.length a0Ic)) [])) ?_ (kp rfl) rfl
 refine fqT ?_
 refine aqS ?_
 refine aqS ?_
 obtain ⟨v1, hv1, hm⟩ := bnd_some hm
 refine aqT (rows := [_, _, _, _]) rfl (by kernel_rfl) ⟨
  okp rfl rfl (oqF (lN rfl) rfl fo_64_0),
  okp rfl rfl (oq1 (lN rfl) sh_3 rfl rfl),
  okp rfl rfl (oqC (x := .B v1) (fs := []) (caps := []) (extra := []) (lN rfl) en_92 rfl ⟨rfl, rfl, rfl⟩ (EvL.cons rfl (EvL.cons rfl (EvL.cons rfl EvL.nil))) (fun mm aa ww gg hr hrel => (c92 F a0.Class 1 6 ww v1 hv1))),
  okp rfl rfl (op_not (lN rfl) rfl),
  trivial⟩ ?_
 refine fqK (s' := (kt 1 (.p 1 0) :: kt 9 (.B (!v1)) :: kb 1 64 11 :: sK 1 a0 (.v (.slice a0Tp a0.Thrust.length a0Tc)) (.v (.slice a0Wp a0.Water.length a0Wc)) (.v (.slice a0Ip a0.Ice.length a0Ic)) [])) ?_ (kp rfl) rfl
 refine fqT ?_
 refine aw_cond rfl (fun hz1 => ?_) (fun hz1 => ?_)
 ·have hm := brk_t hz1 hm
  refine aqS ?_
  refine aqT (rows := [_]) rfl (by kernel_rfl) ⟨
   okp rfl rfl (oqA (lN rfl) rfl),
   trivial⟩ ?_
  refine fqK (s' := [kt 2 (.i 41)]) ?_ (kp rfl) rfl
  refine fqT ?_
  refine aw_ret ?_
  refine fin_then_ret ?_
  refine post_ret (x := .i 41) rfl rfl (rqT rfl resOK_nil) rfl (fun mm aa ww hr => ?_)
  have hm := Option.some.inj hm
  subst hm
  exact ⟨rfl, hr.below⟩
 ·have hm := brk_f hz1 hm
  refine aw_skip ?_
  refine fqT ?_
  refine aqS ?_
  refine aqS ?_
  obtain ⟨v2, hv2, hm⟩ := bnd_some hm
  obtain ⟨v3, hv3, hm⟩ := bnd_some hm
  obtain ⟨v4, hv4, hm⟩ := bnd_some hm
  refine aqT (rows := [_, _, _, _, _, _, _, _, _, _, _, _, _, _, _, _]) rfl (by kernel_rfl) ⟨
   okp rfl rfl (oqF (lN rfl) rfl fo_64_1),
   okp rfl rfl (oq1 (lN rfl) sh_3 rfl rfl),
   okp rfl rfl (oqC (x := .B v2) (fs := []) (caps := []) (extra := []) (lN rfl) en_92 rfl ⟨rfl, rfl, rfl⟩ (EvL.cons rfl (EvL.cons rfl (EvL.cons rfl EvL.nil))) (fun mm aa ww gg hr hrel => (c92 F a0.Power 100 100000 ww v2 hv2))),
   okp rfl rfl (op_not (lN rfl) rfl),
   okp rfl rfl (oqM (lN rfl) rfl),
   ok_if (lN rfl) rfl rfl rfl rfl rfl rfl (fun hg2 => oqF (lN rfl) (force_x rfl) fo_64_2),
   ok_if (lN rfl) rfl rfl rfl rfl rfl rfl (fun hg3 => oq1 (lN rfl) sh_3 (force_eq (beq_iff_eq.2 hg3) rfl) rfl),
   ok_if (lN rfl) rfl rfl rfl rfl rfl rfl (fun hg4 => oqC (x := .B v3) (fs := []) (caps := []) (extra := []) (lN rfl) en_92 rfl ⟨rfl, rfl, rfl⟩ (EvL.cons (force_eq (beq_iff_eq.2 hg4) rfl) (EvL.cons rfl (EvL.cons rfl EvL.nil))) (fun mm aa ww gg hr hrel => (c92 F a0.Draught 10 2000 ww v3 (brk_f hg4 hv3)))),
   ok_if (lN rfl) rfl rfl rfl rfl rfl rfl (fun hg5 => op_not (lN rfl) (force_eq (beq_iff_eq.2 hg5) rfl)),
   okp rfl rfl (op_or (lN rfl) rfl rfl),
   okp rfl rfl (oqM (lN rfl) rfl),
   ok_if (lN rfl) rfl rfl rfl rfl rfl rfl (fun hg6 => oqF (lN rfl) (force_x rfl) fo_64_3),
   ok_if (lN rfl) rfl rfl rfl rfl rfl rfl (fun hg7 => oq1 (lN rfl) sh_3 (force_eq (beq_iff_eq.2 hg7) rfl) rfl),
   ok_if (lN rfl) rfl rfl rfl rfl rfl rfl (fun hg8 => oqC (x := .B v4) (fs := []) (caps := []) (extra := []) (lN rfl) en_92 rfl ⟨rfl, rfl, rfl⟩ (EvL.cons (force_eq (beq_iff_eq.2 hg8) rfl) (EvL.cons rfl (EvL.cons rfl EvL.nil))) (fun mm aa ww gg hr hrel => (c92 F a0.Tonnes 10 500000 ww v4 (brk_f hg8 hv4)))),
   ok_if (lN rfl) rfl rfl rfl rfl rfl rfl (fun hg9 => op_not (lN rfl) (force_eq (beq_iff_eq.2 hg9) rfl)),
   okp rfl rfl (op_or (lN rfl) rfl rfl),
   trivial⟩ ?_
  refine fqK (s' := (kt 1 (.p 1 0) :: kt 25 (.B (((!v2) || (!v3)) || (!v4))) :: kb 1 64 11 :: sK 1 a0 (.v (.slice a0Tp a0.Thrust.length a0Tc)) (.v (.slice a0Wp a0.Water.length a0Wc)) (.v (.slice a0Ip a0.Ice.length a0Ic)) [])) ?_ (kp rfl) rfl
  refine fqT ?_
  refine aw_cond rfl (fun hz10 => ?_) (fun hz10 => ?_)
  ·have hm := brk_t hz10 hm
   refine aqS ?_
   refine aqT (rows := [_]) rfl (by kernel_rfl) ⟨
    okp rfl rfl (oqA (lN rfl) rfl),
    trivial⟩ ?_
   refine fqK (s' := [kt 2 (.i 40)]) ?_ (kp rfl) rfl
   refine fqT ?_
   refine aw_ret ?_
   refine fin_then_ret ?_
   refine post_ret (x := .i 40) rfl rfl (rqT rfl resOK_nil) rfl (fun mm aa ww hr => ?_)
   have hm := Option.some.inj hm
   subst hm
   exact ⟨rfl, hr.below⟩
  ·have hm := brk_f hz10 hm
   refine aw_skip ?_
   refine fqT ?_
   refine aqS ?_
   refine aqS ?_
   obtain ⟨v5, hv5, hm⟩ := bnd_some hm
   obtain ⟨v6, hv6, hm⟩ := bnd_some hm
   obtain ⟨v7, hv7, hm⟩ := bnd_some hm
   obtain ⟨v8, hv8, hm⟩ := bnd_some hm
   refine aqT (rows := [_, _, _, _, _, _, _, _, _, _, _, _, _, _, _, _, _, _, _, _, _, _]) rfl (by kernel_rfl) ⟨
    okp rfl rfl (oqF (lN rfl) rfl fo_64_7),
    okp rfl rfl (oq1 (lN rfl) sh_3 rfl rfl),
    okp rfl rfl (oqC (x := .B v5) (fs := []) (caps := []) (extra := []) (lN rfl) en_92 rfl ⟨rfl, rfl, rfl⟩ (EvL.cons rfl (EvL.cons rfl (EvL.cons rfl EvL.nil))) (fun mm aa ww gg hr hrel => (c92 F a0.Slow 0 20 ww v5 hv5))),
    okp rfl rfl (op_not (lN rfl) rfl),
    okp rfl rfl (oqM (lN rfl) rfl),
    ok_if (lN rfl) rfl rfl rfl rfl rfl rfl (fun hg11 => oqF (lN rfl) (force_x rfl) fo_64_8),
    ok_if (lN rfl) rfl rfl rfl rfl rfl rfl (fun hg12 => oq1 (lN rfl) sh_3 (force_eq (beq_iff_eq.2 hg12) rfl) rfl),
    ok_if (lN rfl) rfl rfl rfl rfl rfl rfl (fun hg13 => oqC (x := .B v6) (fs := []) (caps := []) (extra := []) (lN rfl) en_92 rfl ⟨rfl, rfl, rfl⟩ (EvL.cons (force_eq (beq_iff_eq.2 hg13) rfl) (EvL.cons rfl (EvL.cons rfl EvL.nil))) (fun mm aa ww gg hr hrel => (c92 F a0.Brash 0 100 ww v6 (brk_f hg13 hv6)))),
    ok_if (lN rfl) rfl rfl rfl rfl rfl rfl (fun hg14 => op_not (lN rfl) (force_eq (beq_iff_eq.2 hg14) rfl)),
    okp rfl rfl (op_or (lN rfl) rfl rfl),
    okp rfl rfl (oqM (lN rfl) rfl),
    ok_if (lN rfl) rfl rfl rfl rfl rfl rfl (fun hg15 => oqF (lN rfl) (force_x rfl) fo_64_9),
    ok_if (lN rfl) rfl rfl rfl rfl rfl rfl (fun hg16 => oq1 (lN rfl) sh_3 (force_eq (beq_iff_eq.2 hg16) rfl) rfl),
    ok_if (lN rfl) rfl rfl rfl rfl rfl rfl (fun hg17 => oqC (x := .B v7) (fs := []) (caps := []) (extra := []) (lN rfl) en_92 rfl ⟨rfl, rfl, rfl⟩ (EvL.cons (force_eq (beq_iff_eq.2 hg17) rfl) (EvL.cons rfl (EvL.cons rfl EvL.nil))) (fun mm aa ww gg hr hrel => (c92 F a0.Ridge 0 500 ww v7 (brk_f hg17 hv7)))),
    ok_if (lN rfl) rfl rfl rfl rfl rfl rfl (fun hg18 => op_not (lN rfl) (force_eq (beq_iff_eq.2 hg18) rfl)),
    okp rfl rfl (op_or (lN rfl) rfl rfl),
    okp rfl rfl (oqM (lN rfl) rfl),
    ok_if (lN rfl) rfl rfl rfl rfl rfl rfl (fun hg19 => oqF (lN rfl) (force_x rfl) fo_64_10),
    ok_if (lN rfl) rfl rfl rfl rfl rfl rfl (fun hg20 => oq1 (lN rfl) sh_3 (force_eq (beq_iff_eq.2 hg20) rfl) rfl),
    ok_if (lN rfl) rfl rfl rfl rfl rfl rfl (fun hg21 => oqC (x := .B v8) (fs := []) (caps := []) (extra := []) (lN rfl) en_92 rfl ⟨rfl, rfl, rfl⟩ (EvL.cons (force_eq (beq_iff_eq.2 hg21) rfl) (EvL.cons rfl (EvL.cons rfl EvL.nil))) (fun mm aa ww gg hr hrel => (c92 F a0.Press 0 5000 ww v8 (brk_f hg21 hv8)))),
    ok_if (lN rfl) rfl rfl rfl rfl rfl rfl (fun hg22 => op_not (lN rfl) (force_eq (beq_iff_eq.2 hg22) rfl)),
    okp rfl rfl (op_or (lN rfl) rfl rfl),
    trivial⟩ ?_
   refine fqK (s' := (kt 1 (.p 1 0) :: kt 47 (.B ((((!v5) || (!v6)) || (!v7)) || (!v8))) :: kb 1 64 11 :: sK 1 a0 (.v (.slice a0Tp a0.Thrust.length a0Tc)) (.v (.slice a0Wp a0.Water.length a0Wc)) (.v (.slice a0Ip a0.Ice.length a0Ic)) [])) ?_ (kp rfl) rfl
   refine fqT ?_
   refine aw_cond rfl (fun hz23 => ?_) (fun hz23 => ?_)
   ·have hm := brk_t hz23 hm
    refine aqS ?_
    refine aqT (rows := [_]) rfl (by kernel_rfl) ⟨
     okp rfl rfl (oqA (lN rfl) rfl),
     trivial⟩ ?_
    refine fqK (s' := [kt 2 (.i 40)]) ?_ (kp rfl) rfl
    refine fqT ?_
    refine aw_ret ?_
    refine fin_then_ret ?_
    refine post_ret (x := .i 40) rfl rfl (rqT rfl resOK_nil) rfl (fun mm aa ww hr => ?_)
    have hm := Option.some.inj hm
    subst hm
    exact ⟨rfl, hr.below⟩
   ·have hm := brk_f hz23 hm
    refine aw_skip ?_
    refine fqT ?_
    refine aqS ?_
    refine aqS ?_
    obtain ⟨v9, hv9, hm⟩ := bnd_some hm
    obtain ⟨v10, hv10, hm⟩ := bnd_some hm
    obtain ⟨v11, hv11, hm⟩ := bnd_some hm
    refine aqT (rows := [_, _, _, _, _, _, _, _, _, _, _, _, _, _, _, _]) rfl (by kernel_rfl) ⟨
     okp rfl rfl (oqF (lN rfl) rfl fo_64_4),
     okp rfl rfl (oq1 (lN rfl) sh_62 rfl rfl),
     okp rfl rfl (oqC (x := .B v9) (fs := []) (caps := []) (extra := []) (lN rfl) en_110 rfl ⟨rfl, rfl, rfl⟩ (EvL.cons rfl EvL.nil) (fun mm aa ww gg hr hrel => (c110 F a0.Thrust ⟨a0Tp, a0.Thrust.length, a0Tc⟩ ww (SlIs.mono ha0_Thrust hrel.below) v9 hv9))),
     okp rfl rfl (op_not (lN rfl) rfl),
     okp rfl rfl (oqM (lN rfl) rfl),
     ok_if (lN rfl) rfl rfl rfl rfl rfl rfl (fun hg24 => oqF (lN rfl) (force_x rfl) fo_64_5),
     ok_if (lN rfl) rfl rfl rfl rfl rfl rfl (fun hg25 => oq1 (lN rfl) sh_62 (force_eq (beq_iff_eq.2 hg25) rfl) rfl),
     ok_if (lN rfl) rfl rfl rfl rfl rfl rfl (fun hg26 => oqC (x := .B v10) (fs := []) (caps := []) (extra := []) (lN rfl) en_110 rfl ⟨rfl, rfl, rfl⟩ (EvL.cons (force_eq (beq_iff_eq.2 hg26) rfl) EvL.nil) (fun mm aa ww gg hr hrel => (c110 F a0.Water ⟨a0Wp, a0.Water.length, a0Wc⟩ ww (SlIs.mono ha0_Water hrel.below) v10 (brk_f hg26 hv10)))),
     ok_if (lN rfl) rfl rfl rfl rfl rfl rfl (fun hg27 => op_not (lN rfl) (force_eq (beq_iff_eq.2 hg27) rfl)),
     okp rfl rfl (op_or (lN rfl) rfl rfl),
     okp rfl rfl (oqM (lN rfl) rfl),
     ok_if (lN rfl) rfl rfl rfl rfl rfl rfl (fun hg28 => oqF (lN rfl) (force_x rfl) fo_64_6),
     ok_if (lN rfl) rfl rfl rfl rfl rfl rfl (fun hg29 => oq1 (lN rfl) sh_62 (force_eq (beq_iff_eq.2 hg29) rfl) rfl),
     ok_if (lN rfl) rfl rfl rfl rfl rfl rfl (fun hg30 => oqC (x := .B v11) (fs := []) (caps := []) (extra := []) (lN rfl) en_110 rfl ⟨rfl, rfl, rfl⟩ (EvL.cons (force_eq (beq_iff_eq.2 hg30) rfl) EvL.nil) (fun mm aa ww gg hr hrel => (c110 F a0.Ice ⟨a0Ip, a0.Ice.length, a0Ic⟩ ww (SlIs.mono ha0_Ice hrel.below) v11 (brk_f hg30 hv11)))),
     ok_if (lN rfl) rfl rfl rfl rfl rfl rfl (fun hg31 => op_not (lN rfl) (force_eq (beq_iff_eq.2 hg31) rfl)),
     okp rfl rfl (op_or (lN rfl) rfl rfl),
     trivial⟩ ?_
    refine fqK (s' := (kt 1 (.p 1 0) :: kt 63 (.B (((!v9) || (!v10)) || (!v11))) :: kb 1 64 11 :: sK 1 a0 (.v (.slice a0Tp a0.Thrust.length a0Tc)) (.v (.slice a0Wp a0.Water.length a0Wc)) (.v (.slice a0Ip a0.Ice.length a0Ic)) [])) ?_ (kp rfl) rfl
    refine fqT ?_
    refine aw_cond rfl (fun hz32 => ?_) (fun hz32 => ?_)
    ·have hm := brk_t hz32 hm
     refine aqS ?_
     refine aqT (rows := [_]) rfl (by kernel_rfl) ⟨
      okp rfl rfl (oqA (lN rfl) rfl),
      trivial⟩ ?_
     refine fqK (s' := [kt 2 (.i 40)]) ?_ (kp rfl) rfl
     refine fqT ?_
     refine aw_ret ?_
     refine fin_then_ret ?_
     refine post_ret (x := .i 40) rfl rfl (rqT rfl resOK_nil) rfl (fun mm aa ww hr => ?_)
     have hm := Option.some.inj hm
     subst hm
     exact ⟨rfl, hr.below⟩
    ·have hm := brk_f hz32 hm
     refine aw_skip ?_
     refine fqT ?_
     refine aw_cutM (ι := Unit) hm (fun x1 => (kt 1 (.p 1 0) :: kb 1 64 11 :: sK 1 a0 (.v (.slice a0Tp a0.Thrust.length a0Tc)) (.v (.slice a0Wp a0.Water.length a0Wc)) (.v (.slice a0Ip a0.Ice.length a0Ic)) [])) (fun hm => ?_) (fun x1 hm => ?_)
     ·have _z := hm
      refine aqS ?_
      refine aqT (rows := [_]) rfl (by kernel_rfl) ⟨
       okp rfl rfl (oqA (lN rfl) rfl),
       trivial⟩ ?_
      refine fqK (s' := (kt 1 (.p 1 0) :: kt 3 (.i 1) :: kb 1 64 11 :: sK 1 a0 (.v (.slice a0Tp a0.Thrust.length a0Tc)) (.v (.slice a0Wp a0.Water.length a0Wc)) (.v (.slice a0Ip a0.Ice.length a0Ic)) [])) ?_ (kp rfl) rfl
      refine fqT ?_
      refine aw_block ?_
      refine aw_loopC hm (fun x2 => (kt 1 (.p 1 0) :: kt 3 (.i x2) :: kb 1 64 11 :: sK 1 a0 (.v (.slice a0Tp a0.Thrust.length a0Tc)) (.v (.slice a0Wp a0.Water.length a0Wc)) (.v (.slice a0Ip a0.Ice.length a0Ic)) [])) ⟨rfl, rfl, rfl, rfl, rfl, rfl, rfl, rfl, rfl, rfl, rfl, rfl, rfl, rfl, trivial⟩ rfl (fun x2 n2 hm => ?_)
      refine aqS ?_
      refine aqS ?_
      refine aqT (rows := [_, _, _, _, _]) rfl (by kernel_rfl) ⟨
       okp rfl rfl (oqM (lN rfl) rfl),
       okp rfl rfl (oqF (lN rfl) rfl fo_64_4),
       okp rfl rfl (oq1 (lN rfl) sh_62 rfl rfl),
       okp rfl rfl (op_len (n := a0.Thrust.length) (lN rfl) (by rw [ss_62]; rfl) rfl rfl),
       okp rfl rfl (oqB (lN rfl) rfl rfl rfl),
       trivial⟩ ?_
      refine fqK (s' := (kt 1 (.p 1 0) :: kt 3 (.i x2) :: kt 68 (.B (decide (x2 < (((a0.Thrust.length : Nat) : Int))))) :: kb 1 64 11 :: sK 1 a0 (.v (.slice a0Tp a0.Thrust.length a0Tc)) (.v (.slice a0Wp a0.Water.length a0Wc)) (.v (.slice a0Ip a0.Ice.length a0Ic)) [])) ?_ (kp rfl) rfl
      refine fqT ?_
      refine aw_cond rfl (fun hz33 => ?_) (fun hz33 => ?_)
      ·have hm := brk_t hz33 hm
       refine aw_skip ?_
       refine fqT ?_
       refine aqS ?_
       refine aw_block ?_
       refine aqS ?_
       obtain ⟨hp34, hm⟩ := chk_some hm
       obtain ⟨hp35, hm⟩ := chk_some hm
       obtain ⟨hp36, hm⟩ := chk_some hm
       refine aw_any (rows := [_, _, _, _, _, _, _, _, _, _, _, _, _, _]) (M := [0, 1, 0, 7, 15, 31, 0, 64, 0, 256, 960, 1984, 4032, 8191]) Tryd_mixed (by kernel_rfl) rfl (by kernel_rfl) ⟨
        okp rfl rfl (oqF (lN rfl) rfl fo_64_4),
        okp rfl rfl (oq1 (lN rfl) sh_62 rfl rfl),
        okp rfl rfl (oqM (lN rfl) rfl),
        okp rfl rfl (op_ixB (lN rfl) rfl rfl ss_62 (ha0_Thrust_p (ne_of_ix (i := x2) hp34.1 hp34.2)) hp34.1 hp34.2),
        okp rfl rfl (op_fieldAddrB (lN rfl) rfl fo_170_1),
        okp rfl rfl (op_loadB (y := .i (((pt a0.Thrust x2)).Y)) (lN rfl) rfl (ld1 (ha0_Thrust_L (ne_of_ix (i := x2) hp34.1 hp34.2)) ⟨0, 0⟩ (i := x2) hp34.1 hp34.2 1 rfl rfl sh_3)),
        okp rfl rfl (oqF (lN rfl) rfl fo_64_4),
        okp rfl rfl (oq1 (lN rfl) sh_62 rfl rfl),
        okp rfl rfl (oqM (lN rfl) rfl),
        okp rfl rfl (oqB (lN rfl) rfl rfl (nw_sub hp35)),
        okp rfl rfl (op_ixB (lN rfl) rfl rfl ss_62 (ha0_Thrust_p (ne_of_ix (i := x2 - 1) hp36.1 hp36.2)) hp36.1 hp36.2),
        okp rfl rfl (op_fieldAddrB (lN rfl) rfl fo_170_1),
        okp rfl rfl (op_loadB (y := .i (((pt a0.Thrust (x2 - 1))).Y)) (lN rfl) rfl (ld1 (ha0_Thrust_L (ne_of_ix (i := x2 - 1) hp36.1 hp36.2)) ⟨0, 0⟩ (i := x2 - 1) hp36.1 hp36.2 1 rfl rfl sh_3)),
        okp rfl rfl (oqB (lN rfl) rfl rfl rfl),
        trivial⟩ ?_
       refine fqK (s' := (kt 1 (.p 1 0) :: kt 3 (.i x2) :: kt 84 (.B (decide ((((pt a0.Thrust x2)).Y) > (((pt a0.Thrust (x2 - 1))).Y)))) :: kb 1 64 11 :: sK 1 a0 (.v (.slice a0Tp a0.Thrust.length a0Tc)) (.v (.slice a0Wp a0.Water.length a0Wc)) (.v (.slice a0Ip a0.Ice.length a0Ic)) [])) ?_ (kp rfl) rfl
       refine fqT ?_
       refine aw_cond rfl (fun hz37 => ?_) (fun hz37 => ?_)
       ·have hm := brk_t hz37 hm
        refine aqS ?_
        refine aqT (rows := [_]) rfl (by kernel_rfl) ⟨
         okp rfl rfl (oqA (lN rfl) rfl),
         trivial⟩ ?_
        refine fqK (s' := [kt 2 (.i 40)]) ?_ (kp rfl) rfl
        refine fqT ?_
        refine aw_ret ?_
        refine fin_block_ret ?_
        refine fin_then_ret ?_
        refine fin_then_ret ?_
        refine fin_block_ret ?_
        refine fin_then_ret ?_
        refine post_ret (x := .i 40) rfl rfl (rqT rfl resOK_nil) rfl (fun mm aa ww hr => ?_)
        have hm := Option.some.inj hm
        subst hm
        exact ⟨rfl, hr.below⟩
       ·have hm := brk_f hz37 hm
        refine aw_skip ?_
        refine fin_block ?_
        refine fqT ?_
        obtain ⟨hp38, hm⟩ := chk_some hm
        refine aqT (rows := [_, _, _]) rfl (by kernel_rfl) ⟨
         okp rfl rfl (oqM (lN rfl) rfl),
         okp rfl rfl (oqB (lN rfl) rfl rfl (nw_add hp38)),
         okp rfl rfl (oqA (lN rfl) rfl),
         trivial⟩ ?_
        refine fqK (s' := (kt 1 (.p 1 0) :: kt 3 (.i (x2 + 1)) :: kb 1 64 11 :: sK 1 a0 (.v (.slice a0Tp a0.Thrust.length a0Tc)) (.v (.slice a0Wp a0.Water.length a0Wc)) (.v (.slice a0Ip a0.Ice.length a0Ic)) [])) ?_ (kp rfl) rfl
        exact fin_cut (x2 + 1) hm ⟨rfl, rfl, rfl, rfl, rfl, rfl, rfl, rfl, rfl, rfl, rfl, rfl, rfl, rfl, trivial⟩ rfl
      ·have hm := brk_f hz33 hm
       refine aw_exit ?_
       refine fin_then_exit ?_
       refine fin_then_exit ?_
       refine fin_block_exit ?_
       exact fin_cut () hm ⟨rfl, rfl, rfl, rfl, rfl, rfl, rfl, rfl, rfl, rfl, rfl, rfl, rfl, trivial⟩ rfl
     ·have _z := hm
      refine aw_cutM (ι := Unit) hm (fun x3 => (kt 1 (.p 1 0) :: kb 1 64 11 :: sK 1 a0 (.v (.slice a0Tp a0.Thrust.length a0Tc)) (.v (.slice a0Wp a0.Water.length a0Wc)) (.v (.slice a0Ip a0.Ice.length a0Ic)) [])) (fun hm => ?_) (fun x3 hm => ?_)
      ·have _z := hm
       refine aqS ?_
       refine aqT (rows := [_]) rfl (by kernel_rfl) ⟨
        okp rfl rfl (oqA (lN rfl) rfl),
        trivial⟩ ?_
       refine fqK (s' := (kt 1 (.p 1 0) :: kt 4 (.i 1) :: kb 1 64 11 :: sK 1 a0 (.v (.slice a0Tp a0.Thrust.length a0Tc)) (.v (.slice a0Wp a0.Water.length a0Wc)) (.v (.slice a0Ip a0.Ice.length a0Ic)) [])) ?_ (kp rfl) rfl
       refine fqT ?_
       refine aw_block ?_
       refine aw_loopC hm (fun x4 => (kt 1 (.p 1 0) :: kt 4 (.i x4) :: kb 1 64 11 :: sK 1 a0 (.v (.slice a0Tp a0.Thrust.length a0Tc)) (.v (.slice a0Wp a0.Water.length a0Wc)) (.v (.slice a0Ip a0.Ice.length a0Ic)) [])) ⟨rfl, rfl, rfl, rfl, rfl, rfl, rfl, rfl, rfl, rfl, rfl, rfl, rfl, rfl, trivial⟩ rfl (fun x4 n4 hm => ?_)
       refine aqS ?_
       refine aqS ?_
       refine aqT (rows := [_, _, _, _, _]) rfl (by kernel_rfl) ⟨
        okp rfl rfl (oqM (lN rfl) rfl),
        okp rfl rfl (oqF (lN rfl) rfl fo_64_5),
        okp rfl rfl (oq1 (lN rfl) sh_62 rfl rfl),
        okp rfl rfl (op_len (n := a0.Water.length) (lN rfl) (by rw [ss_62]; rfl) rfl rfl),
        okp rfl rfl (oqB (lN rfl) rfl rfl rfl),
        trivial⟩ ?_
       refine fqK (s' := (kt 1 (.p 1 0) :: kt 4 (.i x4) :: kt 89 (.B (decide (x4 < (((a0.Water.length : Nat) : Int))))) :: kb 1 64 11 :: sK 1 a0 (.v (.slice a0Tp a0.Thrust.length a0Tc)) (.v (.slice a0Wp a0.Water.length a0Wc)) (.v (.slice a0Ip a0.Ice.length a0Ic)) [])) ?_ (kp rfl) rfl
       refine fqT ?_
       refine aw_cond rfl (fun hz39 => ?_) (fun hz39 => ?_)
       ·have hm := brk_t hz39 hm
        refine aw_skip ?_
        refine fqT ?_
        refine aqS ?_
        refine aw_block ?_
        refine aqS ?_
        obtain ⟨hp40, hm⟩ := chk_some hm
        obtain ⟨hp41, hm⟩ := chk_some hm
        obtain ⟨hp42, hm⟩ := chk_some hm
        refine aw_any (rows := [_, _, _, _, _, _, _, _, _, _, _, _, _, _]) (M := [0, 1, 0, 7, 15, 31, 0, 64, 0, 256, 960, 1984, 4032, 8191]) Tryd_mixed (by kernel_rfl) rfl (by kernel_rfl) ⟨
         okp rfl rfl (oqF (lN rfl) rfl fo_64_5),
         okp rfl rfl (oq1 (lN rfl) sh_62 rfl rfl),
         okp rfl rfl (oqM (lN rfl) rfl),
         okp rfl rfl (op_ixB (lN rfl) rfl rfl ss_62 (ha0_Water_p (ne_of_ix (i := x4) hp40.1 hp40.2)) hp40.1 hp40.2),
         okp rfl rfl (op_fieldAddrB (lN rfl) rfl fo_170_1),
         okp rfl rfl (op_loadB (y := .i (((pt a0.Water x4)).Y)) (lN rfl) rfl (ld1 (ha0_Water_L (ne_of_ix (i := x4) hp40.1 hp40.2)) ⟨0, 0⟩ (i := x4) hp40.1 hp40.2 1 rfl rfl sh_3)),
         okp rfl rfl (oqF (lN rfl) rfl fo_64_5),
         okp rfl rfl (oq1 (lN rfl) sh_62 rfl rfl),
         okp rfl rfl (oqM (lN rfl) rfl),
         okp rfl rfl (oqB (lN rfl) rfl rfl (nw_sub hp41)),
         okp rfl rfl (op_ixB (lN rfl) rfl rfl ss_62 (ha0_Water_p (ne_of_ix (i := x4 - 1) hp42.1 hp42.2)) hp42.1 hp42.2),
         okp rfl rfl (op_fieldAddrB (lN rfl) rfl fo_170_1),
         okp rfl rfl (op_loadB (y := .i (((pt a0.Water (x4 - 1))).Y)) (lN rfl) rfl (ld1 (ha0_Water_L (ne_of_ix (i := x4 - 1) hp42.1 hp42.2)) ⟨0, 0⟩ (i := x4 - 1) hp42.1 hp42.2 1 rfl rfl sh_3)),
         okp rfl rfl (oqB (lN rfl) rfl rfl rfl),
         trivial⟩ ?_
        refine fqK (s' := (kt 1 (.p 1 0) :: kt 4 (.i x4) :: kt 105 (.B (decide ((((pt a0.Water x4)).Y) < (((pt a0.Water (x4 - 1))).Y)))) :: kb 1 64 11 :: sK 1 a0 (.v (.slice a0Tp a0.Thrust.length a0Tc)) (.v (.slice a0Wp a0.Water.length a0Wc)) (.v (.slice a0Ip a0.Ice.length a0Ic)) [])) ?_ (kp rfl) rfl
        refine fqT ?_
        refine aw_cond rfl (fun hz43 => ?_) (fun hz43 => ?_)
        ·have hm := brk_t hz43 hm
         refine aqS ?_
         refine aqT (rows := [_]) rfl (by kernel_rfl) ⟨
          okp rfl rfl (oqA (lN rfl) rfl),
          trivial⟩ ?_
         refine fqK (s' := [kt 2 (.i 40)]) ?_ (kp rfl) rfl
         refine fqT ?_
         refine aw_ret ?_
         refine fin_block_ret ?_
         refine fin_then_ret ?_
         refine fin_then_ret ?_
         refine fin_block_ret ?_
         refine fin_then_ret ?_
         refine post_ret (x := .i 40) rfl rfl (rqT rfl resOK_nil) rfl (fun mm aa ww hr => ?_)
         have hm := Option.some.inj hm
         subst hm
         exact ⟨rfl, hr.below⟩
        ·have hm := brk_f hz43 hm
         refine aw_skip ?_
         refine fin_block ?_
         refine fqT ?_
         obtain ⟨hp44, hm⟩ := chk_some hm
         refine aqT (rows := [_, _, _]) rfl (by kernel_rfl) ⟨
          okp rfl rfl (oqM (lN rfl) rfl),
          okp rfl rfl (oqB (lN rfl) rfl rfl (nw_add hp44)),
          okp rfl rfl (oqA (lN rfl) rfl),
          trivial⟩ ?_
         refine fqK (s' := (kt 1 (.p 1 0) :: kt 4 (.i (x4 + 1)) :: kb 1 64 11 :: sK 1 a0 (.v (.slice a0Tp a0.Thrust.length a0Tc)) (.v (.slice a0Wp a0.Water.length a0Wc)) (.v (.slice a0Ip a0.Ice.length a0Ic)) [])) ?_ (kp rfl) rfl
         exact fin_cut (x4 + 1) hm ⟨rfl, rfl, rfl, rfl, rfl, rfl, rfl, rfl, rfl, rfl, rfl, rfl, rfl, rfl, trivial⟩ rfl
       ·have hm := brk_f hz39 hm
        refine aw_exit ?_
        refine fin_then_exit ?_
        refine fin_then_exit ?_
        refine fin_block_exit ?_
        exact fin_cut () hm ⟨rfl, rfl, rfl, rfl, rfl, rfl, rfl, rfl, rfl, rfl, rfl, rfl, rfl, trivial⟩ rfl
      ·have _z := hm
       refine aw_cutM (ι := Unit) hm (fun x5 => (kt 1 (.p 1 0) :: kb 1 64 11 :: sK 1 a0 (.v (.slice a0Tp a0.Thrust.length a0Tc)) (.v (.slice a0Wp a0.Water.length a0Wc)) (.v (.slice a0Ip a0.Ice.length a0Ic)) [])) (fun hm => ?_) (fun x5 hm => ?_)
       ·have _z := hm
        refine aqS ?_
        refine aqT (rows := [_]) rfl (by kernel_rfl) ⟨
         okp rfl rfl (oqA (lN rfl) rfl),
         trivial⟩ ?_
        refine fqK (s' := (kt 1 (.p 1 0) :: kt 5 (.i 1) :: kb 1 64 11 :: sK 1 a0 (.v (.slice a0Tp a0.Thrust.length a0Tc)) (.v (.slice a0Wp a0.Water.length a0Wc)) (.v (.slice a0Ip a0.Ice.length a0Ic)) [])) ?_ (kp rfl) rfl
        refine fqT ?_
        refine aw_block ?_
        refine aw_loopC hm (fun x6 => (kt 1 (.p 1 0) :: kt 5 (.i x6) :: kb 1 64 11 :: sK 1 a0 (.v (.slice a0Tp a0.Thrust.length a0Tc)) (.v (.slice a0Wp a0.Water.length a0Wc)) (.v (.slice a0Ip a0.Ice.length a0Ic)) [])) ⟨rfl, rfl, rfl, rfl, rfl, rfl, rfl, rfl, rfl, rfl, rfl, rfl, rfl, rfl, trivial⟩ rfl (fun x6 n6 hm => ?_)
        refine aqS ?_
        refine aqS ?_
        refine aqT (rows := [_, _, _, _, _]) rfl (by kernel_rfl) ⟨
         okp rfl rfl (oqM (lN rfl) rfl),
         okp rfl rfl (oqF (lN rfl) rfl fo_64_6),
         okp rfl rfl (oq1 (lN rfl) sh_62 rfl rfl),
         okp rfl rfl (op_len (n := a0.Ice.length) (lN rfl) (by rw [ss_62]; rfl) rfl rfl),
         okp rfl rfl (oqB (lN rfl) rfl rfl rfl),
         trivial⟩ ?_
        refine fqK (s' := (kt 1 (.p 1 0) :: kt 5 (.i x6) :: kt 110 (.B (decide (x6 < (((a0.Ice.length : Nat) : Int))))) :: kb 1 64 11 :: sK 1 a0 (.v (.slice a0Tp a0.Thrust.length a0Tc)) (.v (.slice a0Wp a0.Water.length a0Wc)) (.v (.slice a0Ip a0.Ice.length a0Ic)) [])) ?_ (kp rfl) rfl
        refine fqT ?_
        refine aw_cond rfl (fun hz45 => ?_) (fun hz45 => ?_)
        ·have hm := brk_t hz45 hm
         refine aw_skip ?_
         refine fqT ?_
         refine aqS ?_
         refine aw_block ?_
         refine aqS ?_
         obtain ⟨hp46, hm⟩ := chk_some hm
         obtain ⟨hp47, hm⟩ := chk_some hm
         obtain ⟨hp48, hm⟩ := chk_some hm
         refine aw_any (rows := [_, _, _, _, _, _, _, _, _, _, _, _, _, _]) (M := [0, 1, 0, 7, 15, 31, 0, 64, 0, 256, 960, 1984, 4032, 8191]) Tryd_mixed (by kernel_rfl) rfl (by kernel_rfl) ⟨
          okp rfl rfl (oqF (lN rfl) rfl fo_64_6),
          okp rfl rfl (oq1 (lN rfl) sh_62 rfl rfl),
          okp rfl rfl (oqM (lN rfl) rfl),
          okp rfl rfl (op_ixB (lN rfl) rfl rfl ss_62 (ha0_Ice_p (ne_of_ix (i := x6) hp46.1 hp46.2)) hp46.1 hp46.2),
          okp rfl rfl (op_fieldAddrB (lN rfl) rfl fo_170_1),
          okp rfl rfl (op_loadB (y := .i (((pt a0.Ice x6)).Y)) (lN rfl) rfl (ld1 (ha0_Ice_L (ne_of_ix (i := x6) hp46.1 hp46.2)) ⟨0, 0⟩ (i := x6) hp46.1 hp46.2 1 rfl rfl sh_3)),
          okp rfl rfl (oqF (lN rfl) rfl fo_64_6),
          okp rfl rfl (oq1 (lN rfl) sh_62 rfl rfl),
          okp rfl rfl (oqM (lN rfl) rfl),
          okp rfl rfl (oqB (lN rfl) rfl rfl (nw_sub hp47)),
          okp rfl rfl (op_ixB (lN rfl) rfl rfl ss_62 (ha0_Ice_p (ne_of_ix (i := x6 - 1) hp48.1 hp48.2)) hp48.1 hp48.2),
          okp rfl rfl (op_fieldAddrB (lN rfl) rfl fo_170_1),
          okp rfl rfl (op_loadB (y := .i (((pt a0.Ice (x6 - 1))).Y)) (lN rfl) rfl (ld1 (ha0_Ice_L (ne_of_ix (i := x6 - 1) hp48.1 hp48.2)) ⟨0, 0⟩ (i := x6 - 1) hp48.1 hp48.2 1 rfl rfl sh_3)),
          okp rfl rfl (oqB (lN rfl) rfl rfl rfl),
          trivial⟩ ?_
         refine fqK (s' := (kt 1 (.p 1 0) :: kt 5 (.i x6) :: kt 126 (.B (decide ((((pt a0.Ice x6)).Y) < (((pt a0.Ice (x6 - 1))).Y)))) :: kb 1 64 11 :: sK 1 a0 (.v (.slice a0Tp a0.Thrust.length a0Tc)) (.v (.slice a0Wp a0.Water.length a0Wc)) (.v (.slice a0Ip a0.Ice.length a0Ic)) [])) ?_ (kp rfl) rfl
         refine fqT ?_
         refine aw_cond rfl (fun hz49 => ?_) (fun hz49 => ?_)
         ·have hm := brk_t hz49 hm
          refine aqS ?_
          refine aqT (rows := [_]) rfl (by kernel_rfl) ⟨
           okp rfl rfl (oqA (lN rfl) rfl),
           trivial⟩ ?_
          refine fqK (s' := [kt 2 (.i 40)]) ?_ (kp rfl) rfl
          refine fqT ?_
          refine aw_ret ?_
          refine fin_block_ret ?_
          refine fin_then_ret ?_
          refine fin_then_ret ?_
          refine fin_block_ret ?_
          refine fin_then_ret ?_
          refine post_ret (x := .i 40) rfl rfl (rqT rfl resOK_nil) rfl (fun mm aa ww hr => ?_)
          have hm := Option.some.inj hm
          subst hm
          exact ⟨rfl, hr.below⟩
         ·have hm := brk_f hz49 hm
          refine aw_skip ?_
          refine fin_block ?_
          refine fqT ?_
          obtain ⟨hp50, hm⟩ := chk_some hm
          refine aqT (rows := [_, _, _]) rfl (by kernel_rfl) ⟨
           okp rfl rfl (oqM (lN rfl) rfl),
           okp rfl rfl (oqB (lN rfl) rfl rfl (nw_add hp50)),
           okp rfl rfl (oqA (lN rfl) rfl),
           trivial⟩ ?_
          refine fqK (s' := (kt 1 (.p 1 0) :: kt 5 (.i (x6 + 1)) :: kb 1 64 11 :: sK 1 a0 (.v (.slice a0Tp a0.Thrust.length a0Tc)) (.v (.slice a0Wp a0.Water.length a0Wc)) (.v (.slice a0Ip a0.Ice.length a0Ic)) [])) ?_ (kp rfl) rfl
          exact fin_cut (x6 + 1) hm ⟨rfl, rfl, rfl, rfl, rfl, rfl, rfl, rfl, rfl, rfl, rfl, rfl, rfl, rfl, trivial⟩ rfl
        ·have hm := brk_f hz45 hm
         refine aw_exit ?_
         refine fin_then_exit ?_
         refine fin_then_exit ?_
         refine fin_block_exit ?_
         exact fin_cut () hm ⟨rfl, rfl, rfl, rfl, rfl, rfl, rfl, rfl, rfl, rfl, rfl, rfl, rfl, trivial⟩ rfl
       ·have _z := hm
        refine aqS ?_
        refine aqS ?_
        obtain ⟨hp51, hm⟩ := chk_some hm
        obtain ⟨hp52, hm⟩ := chk_some hm
        obtain ⟨v12, hv12, hm⟩ := bnd_some hm
        obtain ⟨hp59, hm⟩ := chk_some hm
        obtain ⟨hp61, hm⟩ := chk_some hm
        obtain ⟨hp68, hm⟩ := chk_some hm
        obtain ⟨hp78, hm⟩ := chk_some hm
        obtain ⟨hp80, hm⟩ := chk_some hm
        refine aqT (rows := [_, _, _, _, _, _, _, _, _, _, _, _, _, _, _, _, _, _, _, _, _, _, _, _, _, _, _, _, _, _, _, _, _, _, _, _, _, _, _, _, _, _, _]) rfl (by kernel_rfl) ⟨
         okp rfl rfl (oqF (lN rfl) rfl fo_64_4),
         okp rfl rfl (oq1 (lN rfl) sh_62 rfl rfl),
         okp rfl rfl (oqF (lN rfl) rfl fo_64_4),
         okp rfl rfl (oq1 (lN rfl) sh_62 rfl rfl),
         okp rfl rfl (op_len (n := a0.Thrust.length) (lN rfl) (by rw [ss_62]; rfl) rfl rfl),
         okp rfl rfl (oqB (lN rfl) rfl rfl (nw_sub hp51)),
         okp rfl rfl (op_ixB (lN rfl) rfl rfl ss_62 (ha0_Thrust_p (ne_of_ix (i := (((a0.Thrust.length : Nat) : Int)) - 1) hp52.1 hp52.2)) hp52.1 hp52.2),
         okp rfl rfl (op_fieldAddrB (lN rfl) rfl fo_170_0),
         okp rfl rfl (op_loadB (y := .i (((pt a0.Thrust ((((a0.Thrust.length : Nat) : Int)) - 1))).X)) (lN rfl) rfl (ld1 (ha0_Thrust_L (ne_of_ix (i := (((a0.Thrust.length : Nat) : Int)) - 1) hp52.1 hp52.2)) ⟨0, 0⟩ (i := (((a0.Thrust.length : Nat) : Int)) - 1) hp52.1 hp52.2 0 rfl rfl sh_3)),
         okp rfl rfl (oqC (x := .B v12) (fs := []) (caps := []) (extra := []) (lN rfl) en_92 rfl ⟨rfl, rfl, rfl⟩ (EvL.cons rfl (EvL.cons rfl (EvL.cons rfl EvL.nil))) (fun mm aa ww gg hr hrel => (c92 F (((pt a0.Thrust ((((a0.Thrust.length : Nat) : Int)) - 1))).X) 10 250 ww v12 hv12))),
         okp rfl rfl (op_not (lN rfl) rfl),
         okp rfl rfl (oqM (lN rfl) rfl),
         ok_if (lN rfl) rfl rfl rfl rfl rfl rfl (fun hg53 => oqF (lN rfl) (force_x rfl) fo_64_5),
         ok_if (lN rfl) rfl rfl rfl rfl rfl rfl (fun hg54 => oq1 (lN rfl) sh_62 (force_eq (beq_iff_eq.2 hg54) rfl) rfl),
         ok_if (lN rfl) rfl rfl rfl rfl rfl rfl (fun hg55 => oqF (lN rfl) (force_x rfl) fo_64_5),
         ok_if (lN rfl) rfl rfl rfl rfl rfl rfl (fun hg56 => oq1 (lN rfl) sh_62 (force_eq (beq_iff_eq.2 hg56) rfl) rfl),
         ok_if (lN rfl) rfl rfl rfl rfl rfl rfl (fun hg57 => op_len (n := a0.Water.length) (lN rfl) (by rw [ss_62]; rfl) (force_eq (beq_iff_eq.2 hg57) rfl) rfl),
         ok_if (lN rfl) rfl rfl rfl rfl rfl rfl (fun hg58 => oqB (lN rfl) (force_eq (beq_iff_eq.2 hg58) rfl) rfl (nw_sub (hp59 hg58))),
         ok_if (lN rfl) rfl rfl rfl rfl rfl rfl (fun hg60 => op_ixB (lN rfl) (force_eq (beq_iff_eq.2 hg60) rfl) (force_eq (beq_iff_eq.2 hg60) rfl) ss_62 (ha0_Water_p (ne_of_ix (i := (((a0.Water.length : Nat) : Int)) - 1) (hp61 hg60).1 (hp61 hg60).2)) (hp61 hg60).1 (hp61 hg60).2),
         ok_if (lN rfl) rfl rfl rfl rfl rfl rfl (fun hg62 => op_fieldAddrB (lN rfl) (force_eq (beq_iff_eq.2 hg62) rfl) fo_170_0),
         ok_if (lN rfl) rfl rfl rfl rfl rfl rfl (fun hg63 => op_loadB (y := .i (((pt a0.Water ((((a0.Water.length : Nat) : Int)) - 1))).X)) (lN rfl) (force_eq (beq_iff_eq.2 hg63) rfl) (ld1 (ha0_Water_L (ne_of_ix (i := (((a0.Water.length : Nat) : Int)) - 1) (hp61 hg63).1 (hp61 hg63).2)) ⟨0, 0⟩ (i := (((a0.Water.length : Nat) : Int)) - 1) (hp61 hg63).1 (hp61 hg63).2 0 rfl rfl sh_3)),
         ok_if (lN rfl) rfl rfl rfl rfl rfl rfl (fun hg64 => oqB (lN rfl) (force_eq (beq_iff_eq.2 hg64) rfl) rfl rfl),
         okp rfl rfl (op_or (lN rfl) rfl rfl),
         okp rfl rfl (oqM (lN rfl) rfl),
         ok_if (lN rfl) rfl rfl rfl rfl rfl rfl (fun hg65 => oqF (lN rfl) (force_x rfl) fo_64_6),
         ok_if (lN rfl) rfl rfl rfl rfl rfl rfl (fun hg66 => oq1 (lN rfl) sh_62 (force_eq (beq_iff_eq.2 hg66) rfl) rfl),
         ok_if (lN rfl) rfl rfl rfl rfl rfl rfl (fun hg67 => op_ixB (lN rfl) (force_eq (beq_iff_eq.2 hg67) rfl) rfl ss_62 (ha0_Ice_p (ne_of_ix (i := 0) (hp68 hg67).1 (hp68 hg67).2)) (hp68 hg67).1 (hp68 hg67).2),
         ok_if (lN rfl) rfl rfl rfl rfl rfl rfl (fun hg69 => op_fieldAddrB (lN rfl) (force_eq (beq_iff_eq.2 hg69) rfl) fo_170_1),
         ok_if (lN rfl) rfl rfl rfl rfl rfl rfl (fun hg70 => op_loadB (y := .i (((pt a0.Ice 0)).Y)) (lN rfl) (force_eq (beq_iff_eq.2 hg70) rfl) (ld1 (ha0_Ice_L (ne_of_ix (i := 0) (hp68 hg70).1 (hp68 hg70).2)) ⟨0, 0⟩ (i := 0) (hp68 hg70).1 (hp68 hg70).2 1 rfl rfl sh_3)),
         ok_if (lN rfl) rfl rfl rfl rfl rfl rfl (fun hg71 => oqB (lN rfl) (force_eq (beq_iff_eq.2 hg71) rfl) rfl rfl),
         okp rfl rfl (op_or (lN rfl) rfl rfl),
         okp rfl rfl (oqM (lN rfl) rfl),
         ok_if (lN rfl) rfl rfl rfl rfl rfl rfl (fun hg72 => oqF (lN rfl) (force_x rfl) fo_64_6),
         ok_if (lN rfl) rfl rfl rfl rfl rfl rfl (fun hg73 => oq1 (lN rfl) sh_62 (force_eq (beq_iff_eq.2 hg73) rfl) rfl),
         ok_if (lN rfl) rfl rfl rfl rfl rfl rfl (fun hg74 => oqF (lN rfl) (force_x rfl) fo_64_6),
         ok_if (lN rfl) rfl rfl rfl rfl rfl rfl (fun hg75 => oq1 (lN rfl) sh_62 (force_eq (beq_iff_eq.2 hg75) rfl) rfl),
         ok_if (lN rfl) rfl rfl rfl rfl rfl rfl (fun hg76 => op_len (n := a0.Ice.length) (lN rfl) (by rw [ss_62]; rfl) (force_eq (beq_iff_eq.2 hg76) rfl) rfl),
         ok_if (lN rfl) rfl rfl rfl rfl rfl rfl (fun hg77 => oqB (lN rfl) (force_eq (beq_iff_eq.2 hg77) rfl) rfl (nw_sub (hp78 hg77))),
         ok_if (lN rfl) rfl rfl rfl rfl rfl rfl (fun hg79 => op_ixB (lN rfl) (force_eq (beq_iff_eq.2 hg79) rfl) (force_eq (beq_iff_eq.2 hg79) rfl) ss_62 (ha0_Ice_p (ne_of_ix (i := (((a0.Ice.length : Nat) : Int)) - 1) (hp80 hg79).1 (hp80 hg79).2)) (hp80 hg79).1 (hp80 hg79).2),
         ok_if (lN rfl) rfl rfl rfl rfl rfl rfl (fun hg81 => op_fieldAddrB (lN rfl) (force_eq (beq_iff_eq.2 hg81) rfl) fo_170_0),
         ok_if (lN rfl) rfl rfl rfl rfl rfl rfl (fun hg82 => op_loadB (y := .i (((pt a0.Ice ((((a0.Ice.length : Nat) : Int)) - 1))).X)) (lN rfl) (force_eq (beq_iff_eq.2 hg82) rfl) (ld1 (ha0_Ice_L (ne_of_ix (i := (((a0.Ice.length : Nat) : Int)) - 1) (hp80 hg82).1 (hp80 hg82).2)) ⟨0, 0⟩ (i := (((a0.Ice.length : Nat) : Int)) - 1) (hp80 hg82).1 (hp80 hg82).2 0 rfl rfl sh_3)),
         ok_if (lN rfl) rfl rfl rfl rfl rfl rfl (fun hg83 => oqB (lN rfl) (force_eq (beq_iff_eq.2 hg83) rfl) rfl rfl),
         okp rfl rfl (op_or (lN rfl) rfl rfl),
         trivial⟩ ?_
        refine fqK (s' := [kt 169 (.B ((((!v12) || (decide ((((pt a0.Water ((((a0.Water.length : Nat) : Int)) - 1))).X) > 250))) || ((((pt a0.Ice 0)).Y) != 0)) || ((((pt a0.Ice ((((a0.Ice.length : Nat) : Int)) - 1))).X) != 400)))]) ?_ (kp rfl) rfl
        refine fqT ?_
        refine aw_cond rfl (fun hz84 => ?_) (fun hz84 => ?_)
        ·have hm := brk_t hz84 hm
         refine aqS ?_
         refine aqT (rows := [_]) rfl (by kernel_rfl) ⟨
          okp rfl rfl (oqA (lN rfl) rfl),
          trivial⟩ ?_
         refine fqK (s' := [kt 2 (.i 40)]) ?_ (kp rfl) rfl
         refine fqT ?_
         refine aw_ret ?_
         refine fin_then_ret ?_
         refine post_ret (x := .i 40) rfl rfl (rqT rfl resOK_nil) rfl (fun mm aa ww hr => ?_)
         have hm := Option.some.inj hm
         subst hm
         exact ⟨rfl, hr.below⟩
        ·have hm := brk_f hz84 hm
         refine aw_skip ?_
         refine fqT ?_
         refine aqS ?_
         refine aqT (rows := [_]) rfl (by kernel_rfl) ⟨
          okp rfl rfl (oqA (lN rfl) rfl),
          trivial⟩ ?_
         refine fqK (s' := [kt 2 (.i 0)]) ?_ (kp rfl) rfl
         refine fqT ?_
         refine aw_ret ?_
         refine post_ret (x := .i 0) rfl rfl (rqT rfl resOK_nil) rfl (fun mm aa ww hr => ?_)
         have hm := Option.some.inj hm
         subst hm
         exact ⟨rfl, hr.below⟩

def m115 (F : Nat) (a0 : Ship) (a1 : Int) : Option (Int) :=
 bnd (m111 F a0.Thrust a1) (fun v1 => chk ((0 ≤ v1.1 ∧ v1.1 ≤ 9223372036854775807) ∧ 0 < v1.2) (some (v1.1 / v1.2)))

theorem c115 (F : Nat) (a0 : Ship) (a0_Thrust_s : SlV) (a0_Water_s : SlV) (a0_Ice_s : SlV) (a1 : Int) (w : World) (ha0_Thrust : SlIs encPt 2 w a0_Thrust_s a0.Thrust) (ha0_Water : SlIs encPt 2 w a0_Water_s a0.Water) (ha0_Ice : SlIs encPt 2 w a0_Ice_s a0.Ice) (r : Int) (hm : m115 F a0 a1 = some r) : Calls Tryd.prog 115 #[.agg #[.int .i64 a0.Class, .int .i64 a0.Power, .int .i64 a0.Draught, .int .i64 a0.Tonnes, .slice a0_Thrust_s.p a0_Thrust_s.n a0_Thrust_s.c, .slice a0_Water_s.p a0_Water_s.n a0_Water_s.c, .slice a0_Ice_s.p a0_Ice_s.n a0_Ice_s.c, .int .i64 a0.Slow, .int .i64 a0.Brash, .int .i64 a0.Ridge, .int .i64 a0.Press], .int .i64 a1] w fun e w' => e = .returned (.int .i64 r) ∧ Below w.heap.size w w' := by
 obtain ⟨a0Tp, a0Tn, a0Tc⟩ := a0_Thrust_s
 have ha0_Thrust_l : a0Tn = a0.Thrust.length := ha0_Thrust.1
 subst ha0_Thrust_l
 obtain ⟨a0_Thrust_b, a0To, ha0_Thrust_p, ha0_Thrust_L⟩ := SlAt.lies' ha0_Thrust
 obtain ⟨a0Wp, a0Wn, a0Wc⟩ := a0_Water_s
 have ha0_Water_l : a0Wn = a0.Water.length := ha0_Water.1
 subst ha0_Water_l
 obtain ⟨a0_Water_b, a0Wo, ha0_Water_p, ha0_Water_L⟩ := SlAt.lies' ha0_Water
 obtain ⟨a0Ip, a0In, a0Ic⟩ := a0_Ice_s
 have ha0_Ice_l : a0In = a0.Ice.length := ha0_Ice.1
 subst ha0_Ice_l
 obtain ⟨a0_Ice_b, a0Io, ha0_Ice_p, ha0_Ice_L⟩ := SlAt.lies' ha0_Ice
 unfold m115 at hm
 refine enter (args := [.g [.i a0.Class, .i a0.Power, .i a0.Draught, .i a0.Tonnes, .v (.slice a0Tp a0.Thrust.length a0Tc), .v (.slice a0Wp a0.Water.length a0Wc), .v (.slice a0Ip a0.Ice.length a0Ic), .i a0.Slow, .i a0.Brash, .i a0.Ridge, .i a0.Press], .i a1]) Tryd.func115 rfl (N := 17) rfl (Nat.le_of_ble_eq_true rfl) ?_
 refine aqS ?_
 refine aqT (rows := [_, _]) rfl (by kernel_rfl) ⟨
  okp rfl rfl (op_boxN (L := 1) (lN rfl) rfl rfl rfl),
  okp rfl rfl (oqA (lN rfl) rfl),
  trivial⟩ ?_
 refine fqK (s' := (kt 1 (.i a1) :: kt 2 (.p 1 0) :: kb 1 64 11 :: sK 1 a0 (.v (.slice a0Tp a0.Thrust.length a0Tc)) (.v (.slice a0Wp a0.Water.length a0Wc)) (.v (.slice a0Ip a0.Ice.length a0Ic)) [])) ?_ (kp rfl) rfl
 refine fqT ?_
 refine aqS ?_
 obtain ⟨v1, hv1, hm⟩ := bnd_some hm
 refine aqT (rows := [_, _, _, _, _, _, _, _, _]) rfl (by kernel_rfl) ⟨
  okp rfl rfl (oqF (lN rfl) rfl fo_64_4),
  okp rfl rfl (oq1 (lN rfl) sh_62 rfl rfl),
  okp rfl rfl (oqM (lN rfl) rfl),
  okp rfl rfl (oqC (x := .t [.i v1.1, .i v1.2]) (fs := []) (caps := []) (extra := []) (lN rfl) en_111 rfl ⟨rfl, rfl, rfl⟩ (EvL.cons rfl (EvL.cons rfl EvL.nil)) (fun mm aa ww gg hr hrel => (c111 F a0.Thrust ⟨a0Tp, a0.Thrust.length, a0Tc⟩ a1 ww (SlIs.mono ha0_Thrust hrel.below) v1 hv1))),
  okp rfl rfl (oqM (lN rfl) rfl),
  okp rfl rfl (op_extract (lN rfl) rfl rfl),
  okp rfl rfl (op_extract (lN rfl) rfl rfl),
  okp rfl rfl (oqA (lN rfl) rfl),
  okp rfl rfl (oqA (lN rfl) rfl),
  trivial⟩ ?_
 refine fqK (s' := [kt 5 (.i v1.1), kt 6 (.i v1.2)]) ?_ (kp rfl) rfl
 refine fqT ?_
 refine aqS ?_
 obtain ⟨hp1, hm⟩ := chk_some hm
 refine aqT (rows := [_, _, _, _]) rfl (by kernel_rfl) ⟨
  okp rfl rfl (oqM (lN rfl) rfl),
  okp rfl rfl (oqM (lN rfl) rfl),
  okp rfl rfl (op_quo (lN rfl) rfl rfl (Int.ne_of_gt hp1.2) (quo_nn hp1.1.1 hp1.2 hp1.1.2)),
  okp rfl rfl (oqA (lN rfl) rfl),
  trivial⟩ ?_
 refine fqK (s' := [kt 4 (.i (v1.1 / v1.2))]) ?_ (kp rfl) rfl
 refine fqT ?_
 refine aw_ret ?_
 refine post_ret (x := .i (v1.1 / v1.2)) rfl rfl (rqT rfl resOK_nil) rfl (fun mm aa ww hr => ?_)
 have hm := Option.some.inj hm
 subst hm
 exact ⟨rfl, hr.below⟩

end Go.Proofs.T

namespace Go.Proofs.T
open Go Go.AX Go.RowKit Hull
theorem fo_108_0 : fieldOff Tryd.prog 108 0 = some 0 := by kernel_rfl
theorem fo_108_1 : fieldOff Tryd.prog 108 1 = some 1 := by kernel_rfl
theorem fo_108_3 : fieldOff Tryd.prog 108 3 = some 3 := by kernel_rfl
theorem fo_108_2 : fieldOff Tryd.prog 108 2 = some 2 := by kernel_rfl
theorem sh_108 : shapeOf Tryd.prog 108 = some (some 4) := by kernel_rfl
theorem en_120 : Proofs.Enters Tryd.prog 120 := Proofs.enters_of Tryd.func120 (by kernel_rfl) rfl
theorem en_96 : Proofs.Enters Tryd.prog 96 := Proofs.enters_of Tryd.func96 (by kernel_rfl) rfl
theorem en_121 : Proofs.Enters Tryd.prog 121 := Proofs.enters_of Tryd.func121 (by kernel_rfl) rfl
theorem fo_72_0 : fieldOff Tryd.prog 72 0 = some 0 := by kernel_rfl
theorem en_102 : Proofs.Enters Tryd.prog 102 := Proofs.enters_of Tryd.func102 (by kernel_rfl) rfl
theorem fo_72_1 : fieldOff Tryd.prog 72 1 = some 2 := by kernel_rfl
theorem fo_72_2 : fieldOff Tryd.prog 72 2 = some 4 := by kernel_rfl
theorem fo_72_3 : fieldOff Tryd.prog 72 3 = some 6 := by kernel_rfl
theorem sh_72 : shapeOf Tryd.prog 72 = some (some 8) := by kernel_rfl
theorem en_93 : Proofs.Enters Tryd.prog 93 := Proofs.enters_of Tryd.func93 (by kernel_rfl) rfl

def m98 (_F : Nat) (a0 : Int) : Option (Int) :=
 brk (a0 == 1) (some 4000) (brk (a0 == 2) (some 8000) (brk (a0 == 3) (some 14000) (brk (a0 == 4) (some 24000) (brk (a0 == 5) (some 40000) (some 90000)))))

theorem c98 (F : Nat) (a0 : Int) (w : World)  (r : Int) (hm : m98 F a0 = some r) : Calls Tryd.prog 98 #[.int .i64 a0] w fun e w' => e = .returned (.int .i64 r) ∧ Below w.heap.size w w' := by
 unfold m98 at hm
 refine enter (args := [.i a0]) Tryd.func98 rfl (N := 14) rfl (Nat.le_of_ble_eq_true rfl) ?_
 refine aqS ?_
 refine aqT (rows := [_]) rfl (by kernel_rfl) ⟨
  okp rfl rfl (oqA (lN rfl) rfl),
  trivial⟩ ?_
 refine fqK (s' := [kt 0 (.i a0)]) ?_ (kp rfl) rfl
 refine fqT ?_
 refine aqS ?_
 refine aqS ?_
 refine aqT (rows := [_]) rfl (by kernel_rfl) ⟨
  okp rfl rfl (oqM (lN rfl) rfl),
  trivial⟩ ?_
 refine fqK (s' := [kt 3 (.i a0)]) ?_ (kp rfl) rfl
 refine fqT ?_
 refine aw_block ?_
 refine aqS ?_
 refine aqT (rows := [_, _]) rfl (by kernel_rfl) ⟨
  okp rfl rfl (oqB (lN rfl) rfl rfl rfl),
  okp rfl rfl (oqA (lN rfl) rfl),
  trivial⟩ ?_
 refine fqK (s' := [kt 3 (.i a0), kt 4 (.B (a0 == 1))]) ?_ (kp rfl) rfl
 refine fqT ?_
 refine aw_cond rfl (fun hz1 => ?_) (fun hz1 => ?_)
 ·have hm := brk_t hz1 hm
  refine aqS ?_
  refine aqT (rows := [_]) rfl (by kernel_rfl) ⟨
   okp rfl rfl (oqA (lN rfl) rfl),
   trivial⟩ ?_
  refine fqK (s' := [kt 2 (.i 4000)]) ?_ (kp rfl) rfl
  refine fqT ?_
  refine aw_ret ?_
  refine fin_block_ret ?_
  refine fin_then_ret ?_
  refine post_ret (x := .i 4000) rfl rfl (rqT rfl resOK_nil) rfl (fun mm aa ww hr => ?_)
  have hm := Option.some.inj hm
  subst hm
  exact ⟨rfl, hr.below⟩
 ·have hm := brk_f hz1 hm
  refine aqS ?_
  refine aqT (rows := [_, _]) rfl (by kernel_rfl) ⟨
   okp rfl rfl (oqB (lN rfl) rfl rfl rfl),
   okp rfl rfl (oqA (lN rfl) rfl),
   trivial⟩ ?_
  refine fqK (s' := [kt 3 (.i a0), kt 6 (.B (a0 == 2))]) ?_ (kp rfl) rfl
  refine fqT ?_
  refine aw_cond rfl (fun hz2 => ?_) (fun hz2 => ?_)
  ·have hm := brk_t hz2 hm
   refine aqS ?_
   refine aqT (rows := [_]) rfl (by kernel_rfl) ⟨
    okp rfl rfl (oqA (lN rfl) rfl),
    trivial⟩ ?_
   refine fqK (s' := [kt 2 (.i 8000)]) ?_ (kp rfl) rfl
   refine fqT ?_
   refine aw_ret ?_
   refine fin_block_ret ?_
   refine fin_then_ret ?_
   refine post_ret (x := .i 8000) rfl rfl (rqT rfl resOK_nil) rfl (fun mm aa ww hr => ?_)
   have hm := Option.some.inj hm
   subst hm
   exact ⟨rfl, hr.below⟩
  ·have hm := brk_f hz2 hm
   refine aqS ?_
   refine aqT (rows := [_, _]) rfl (by kernel_rfl) ⟨
    okp rfl rfl (oqB (lN rfl) rfl rfl rfl),
    okp rfl rfl (oqA (lN rfl) rfl),
    trivial⟩ ?_
   refine fqK (s' := [kt 3 (.i a0), kt 8 (.B (a0 == 3))]) ?_ (kp rfl) rfl
   refine fqT ?_
   refine aw_cond rfl (fun hz3 => ?_) (fun hz3 => ?_)
   ·have hm := brk_t hz3 hm
    refine aqS ?_
    refine aqT (rows := [_]) rfl (by kernel_rfl) ⟨
     okp rfl rfl (oqA (lN rfl) rfl),
     trivial⟩ ?_
    refine fqK (s' := [kt 2 (.i 14000)]) ?_ (kp rfl) rfl
    refine fqT ?_
    refine aw_ret ?_
    refine fin_block_ret ?_
    refine fin_then_ret ?_
    refine post_ret (x := .i 14000) rfl rfl (rqT rfl resOK_nil) rfl (fun mm aa ww hr => ?_)
    have hm := Option.some.inj hm
    subst hm
    exact ⟨rfl, hr.below⟩
   ·have hm := brk_f hz3 hm
    refine aqS ?_
    refine aqT (rows := [_, _]) rfl (by kernel_rfl) ⟨
     okp rfl rfl (oqB (lN rfl) rfl rfl rfl),
     okp rfl rfl (oqA (lN rfl) rfl),
     trivial⟩ ?_
    refine fqK (s' := [kt 3 (.i a0), kt 10 (.B (a0 == 4))]) ?_ (kp rfl) rfl
    refine fqT ?_
    refine aw_cond rfl (fun hz4 => ?_) (fun hz4 => ?_)
    ·have hm := brk_t hz4 hm
     refine aqS ?_
     refine aqT (rows := [_]) rfl (by kernel_rfl) ⟨
      okp rfl rfl (oqA (lN rfl) rfl),
      trivial⟩ ?_
     refine fqK (s' := [kt 2 (.i 24000)]) ?_ (kp rfl) rfl
     refine fqT ?_
     refine aw_ret ?_
     refine fin_block_ret ?_
     refine fin_then_ret ?_
     refine post_ret (x := .i 24000) rfl rfl (rqT rfl resOK_nil) rfl (fun mm aa ww hr => ?_)
     have hm := Option.some.inj hm
     subst hm
     exact ⟨rfl, hr.below⟩
    ·have hm := brk_f hz4 hm
     refine aqS ?_
     refine aqT (rows := [_, _]) rfl (by kernel_rfl) ⟨
      okp rfl rfl (oqB (lN rfl) rfl rfl rfl),
      okp rfl rfl (oqA (lN rfl) rfl),
      trivial⟩ ?_
     refine fqK (s' := [kt 12 (.B (a0 == 5))]) ?_ (kp rfl) rfl
     refine fqT ?_
     refine aw_cond rfl (fun hz5 => ?_) (fun hz5 => ?_)
     ·have hm := brk_t hz5 hm
      refine aqS ?_
      refine aqT (rows := [_]) rfl (by kernel_rfl) ⟨
       okp rfl rfl (oqA (lN rfl) rfl),
       trivial⟩ ?_
      refine fqK (s' := [kt 2 (.i 40000)]) ?_ (kp rfl) rfl
      refine fqT ?_
      refine aw_ret ?_
      refine fin_block_ret ?_
      refine fin_then_ret ?_
      refine post_ret (x := .i 40000) rfl rfl (rqT rfl resOK_nil) rfl (fun mm aa ww hr => ?_)
      have hm := Option.some.inj hm
      subst hm
      exact ⟨rfl, hr.below⟩
     ·have hm := brk_f hz5 hm
      refine aw_skip ?_
      refine fin_block ?_
      refine fqT ?_
      refine aqS ?_
      refine aqT (rows := [_]) rfl (by kernel_rfl) ⟨
       okp rfl rfl (oqA (lN rfl) rfl),
       trivial⟩ ?_
      refine fqK (s' := [kt 2 (.i 90000)]) ?_ (kp rfl) rfl
      refine fqT ?_
      refine aw_ret ?_
      refine post_ret (x := .i 90000) rfl rfl (rqT rfl resOK_nil) rfl (fun mm aa ww hr => ?_)
      have hm := Option.some.inj hm
      subst hm
      exact ⟨rfl, hr.below⟩

def m97 (_F : Nat) (a0 : Ice) (a1 : Int) (a2 : Bool) : Option (Int) :=
 brk (a0.Conc == 0) (some 0) (chk (InR (100 + a1)) (chk (InR (a0.Thick * (100 + a1))) (brk (a2) (chk (0 ≤ (a0.Thick * (100 + a1)) ∧ (a0.Thick * (100 + a1)) ≤ 9223372036854775807) (chk (InR (((a0.Thick * (100 + a1)) / 2) + ((a0.Thick * (100 + a1)) % 2))) (chk (InR (2000 * a0.Press)) (chk (InR ((((a0.Thick * (100 + a1)) / 2) + ((a0.Thick * (100 + a1)) % 2)) + (2000 * a0.Press))) (some ((((a0.Thick * (100 + a1)) / 2) + ((a0.Thick * (100 + a1)) % 2)) + (2000 * a0.Press))))))) (chk (InR (300 * a0.Ridge)) (chk (InR ((a0.Thick * (100 + a1)) + (300 * a0.Ridge))) (chk (InR (2000 * a0.Press)) (chk (InR (((a0.Thick * (100 + a1)) + (300 * a0.Ridge)) + (2000 * a0.Press))) (some (((a0.Thick * (100 + a1)) + (300 * a0.Ridge)) + (2000 * a0.Press))))))))))

theorem c97 (F : Nat) (a0 : Ice) (a1 : Int) (a2 : Bool) (w : World)  (r : Int) (hm : m97 F a0 a1 a2 = some r) : Calls Tryd.prog 97 #[.agg #[.int .i64 a0.Conc, .int .i64 a0.Thick, .int .i64 a0.Ridge, .int .i64 a0.Press], .int .i64 a1, .bool a2] w fun e w' => e = .returned (.int .i64 r) ∧ Below w.heap.size w w' := by
 unfold m97 at hm
 refine enter (args := [.g [.i a0.Conc, .i a0.Thick, .i a0.Ridge, .i a0.Press], .i a1, .B a2]) Tryd.func97 rfl (N := 35) rfl (Nat.le_of_ble_eq_true rfl) ?_
 refine aqS ?_
 refine aqT (rows := [_, _]) rfl (by kernel_rfl) ⟨
  okp rfl rfl (op_boxN (L := 1) (lN rfl) rfl rfl rfl),
  okp rfl rfl (oqA (lN rfl) rfl),
  trivial⟩ ?_
 refine fqK (s' := [kt 1 (.i a1), kt 2 (.B a2), kt 3 (.p 1 0), kb 1 108 4, kc 1 0 (.i a0.Conc), kc 1 1 (.i a0.Thick), kc 1 2 (.i a0.Ridge), kc 1 3 (.i a0.Press)]) ?_ (kp rfl) rfl
 refine fqT ?_
 refine aqS ?_
 refine aqS ?_
 refine aqT (rows := [_, _, _]) rfl (by kernel_rfl) ⟨
  okp rfl rfl (oqF (lN rfl) rfl fo_108_0),
  okp rfl rfl (oq1 (lN rfl) sh_3 rfl rfl),
  okp rfl rfl (oqB (lN rfl) rfl rfl rfl),
  trivial⟩ ?_
 refine fqK (s' := [kt 1 (.i a1), kt 2 (.B a2), kt 3 (.p 1 0), kt 10 (.B (a0.Conc == 0)), kb 1 108 4, kc 1 0 (.i a0.Conc), kc 1 1 (.i a0.Thick), kc 1 2 (.i a0.Ridge), kc 1 3 (.i a0.Press)]) ?_ (kp rfl) rfl
 refine fqT ?_
 refine aw_cond rfl (fun hz1 => ?_) (fun hz1 => ?_)
 ·have hm := brk_t hz1 hm
  refine aqS ?_
  refine aqT (rows := [_]) rfl (by kernel_rfl) ⟨
   okp rfl rfl (oqA (lN rfl) rfl),
   trivial⟩ ?_
  refine fqK (s' := [kt 6 (.i 0)]) ?_ (kp rfl) rfl
  refine fqT ?_
  refine aw_ret ?_
  refine fin_then_ret ?_
  refine post_ret (x := .i 0) rfl rfl (rqT rfl resOK_nil) rfl (fun mm aa ww hr => ?_)
  have hm := Option.some.inj hm
  subst hm
  exact ⟨rfl, hr.below⟩
 ·have hm := brk_f hz1 hm
  refine aw_skip ?_
  refine fqT ?_
  refine aqS ?_
  obtain ⟨hp2, hm⟩ := chk_some hm
  obtain ⟨hp3, hm⟩ := chk_some hm
  refine aqT (rows := [_, _, _, _, _, _]) rfl (by kernel_rfl) ⟨
   okp rfl rfl (oqF (lN rfl) rfl fo_108_1),
   okp rfl rfl (oq1 (lN rfl) sh_3 rfl rfl),
   okp rfl rfl (oqM (lN rfl) rfl),
   okp rfl rfl (oqB (lN rfl) rfl rfl (nw_add hp2)),
   okp rfl rfl (oqB (lN rfl) rfl rfl (nw_mul hp3)),
   okp rfl rfl (oqA (lN rfl) rfl),
   trivial⟩ ?_
  refine fqK (s' := [kt 2 (.B a2), kt 3 (.p 1 0), kt 7 (.i (a0.Thick * (100 + a1))), kb 1 108 4, kc 1 0 (.i a0.Conc), kc 1 1 (.i a0.Thick), kc 1 2 (.i a0.Ridge), kc 1 3 (.i a0.Press)]) ?_ (kp rfl) rfl
  refine fqT ?_
  refine aqS ?_
  refine aqS ?_
  refine aqT (rows := [_]) rfl (by kernel_rfl) ⟨
   okp rfl rfl (oqM (lN rfl) rfl),
   trivial⟩ ?_
  refine fqK (s' := [kt 3 (.p 1 0), kt 7 (.i (a0.Thick * (100 + a1))), kt 16 (.B a2), kb 1 108 4, kc 1 0 (.i a0.Conc), kc 1 1 (.i a0.Thick), kc 1 2 (.i a0.Ridge), kc 1 3 (.i a0.Press)]) ?_ (kp rfl) rfl
  refine fqT ?_
  refine aw_cond rfl (fun hz4 => ?_) (fun hz4 => ?_)
  ·have hm := brk_t hz4 hm
   refine aqS ?_
   obtain ⟨hp5, hm⟩ := chk_some hm
   obtain ⟨hp6, hm⟩ := chk_some hm
   obtain ⟨hp7, hm⟩ := chk_some hm
   obtain ⟨hp8, hm⟩ := chk_some hm
   refine aqT (rows := [_, _, _, _, _, _, _, _, _, _]) rfl (by kernel_rfl) ⟨
    okp rfl rfl (oqM (lN rfl) rfl),
    okp rfl rfl (op_quo (lN rfl) rfl rfl (by decide) (quo_nn hp5.1 (by decide) hp5.2)),
    okp rfl rfl (oqM (lN rfl) rfl),
    okp rfl rfl (op_rem (lN rfl) rfl rfl (by decide) (rem_nn hp5.1 (by decide) hp5.2)),
    okp rfl rfl (oqB (lN rfl) rfl rfl (nw_add hp6)),
    okp rfl rfl (oqF (lN rfl) rfl fo_108_3),
    okp rfl rfl (oq1 (lN rfl) sh_3 rfl rfl),
    okp rfl rfl (oqB (lN rfl) rfl rfl (nw_mul hp7)),
    okp rfl rfl (oqB (lN rfl) rfl rfl (nw_add hp8)),
    okp rfl rfl (oqA (lN rfl) rfl),
    trivial⟩ ?_
   refine fqK (s' := [kt 6 (.i ((((a0.Thick * (100 + a1)) / 2) + ((a0.Thick * (100 + a1)) % 2)) + (2000 * a0.Press)))]) ?_ (kp rfl) rfl
   refine fqT ?_
   refine aw_ret ?_
   refine fin_then_ret ?_
   refine post_ret (x := .i ((((a0.Thick * (100 + a1)) / 2) + ((a0.Thick * (100 + a1)) % 2)) + (2000 * a0.Press))) rfl rfl (rqT rfl resOK_nil) rfl (fun mm aa ww hr => ?_)
   have hm := Option.some.inj hm
   subst hm
   exact ⟨rfl, hr.below⟩
  ·have hm := brk_f hz4 hm
   refine aw_skip ?_
   refine fqT ?_
   refine aqS ?_
   obtain ⟨hp9, hm⟩ := chk_some hm
   obtain ⟨hp10, hm⟩ := chk_some hm
   obtain ⟨hp11, hm⟩ := chk_some hm
   obtain ⟨hp12, hm⟩ := chk_some hm
   refine aqT (rows := [_, _, _, _, _, _, _, _, _, _]) rfl (by kernel_rfl) ⟨
    okp rfl rfl (oqM (lN rfl) rfl),
    okp rfl rfl (oqF (lN rfl) rfl fo_108_2),
    okp rfl rfl (oq1 (lN rfl) sh_3 rfl rfl),
    okp rfl rfl (oqB (lN rfl) rfl rfl (nw_mul hp9)),
    okp rfl rfl (oqB (lN rfl) rfl rfl (nw_add hp10)),
    okp rfl rfl (oqF (lN rfl) rfl fo_108_3),
    okp rfl rfl (oq1 (lN rfl) sh_3 rfl rfl),
    okp rfl rfl (oqB (lN rfl) rfl rfl (nw_mul hp11)),
    okp rfl rfl (oqB (lN rfl) rfl rfl (nw_add hp12)),
    okp rfl rfl (oqA (lN rfl) rfl),
    trivial⟩ ?_
   refine fqK (s' := [kt 6 (.i (((a0.Thick * (100 + a1)) + (300 * a0.Ridge)) + (2000 * a0.Press)))]) ?_ (kp rfl) rfl
   refine fqT ?_
   refine aw_ret ?_
   refine post_ret (x := .i (((a0.Thick * (100 + a1)) + (300 * a0.Ridge)) + (2000 * a0.Press))) rfl rfl (rqT rfl resOK_nil) rfl (fun mm aa ww hr => ?_)
   have hm := Option.some.inj hm
   subst hm
   exact ⟨rfl, hr.below⟩

def m120 (F : Nat) (a0 : Ship) (a1 : Ice) (a2 : Int) (a3 : Bool) : Option (Int) :=
 bnd (m111 F a0.Water a2) (fun v1 => bnd (m111 F a0.Ice a1.Thick) (fun v2 => join (fun (x1 : Int × Int) => chk (InR (v1.2 * v2.2)) (chk (InR ((v1.2 * v2.2) * 10000000)) (chk ((0 ≤ ((v1.2 * v2.2) * 10000000) ∧ ((v1.2 * v2.2) * 10000000) ≤ 9223372036854775807) ∧ 0 < v1.2) (chk (InR (v1.1 * (((v1.2 * v2.2) * 10000000) / v1.2))) (chk (InR (a1.Conc * v2.1)) (chk (InR (a0.Slow * a2)) (chk (InR (1000 + (a0.Slow * a2))) (chk (InR ((a1.Conc * v2.1) * (1000 + (a0.Slow * a2)))) (chk (InR (((a1.Conc * v2.1) * (1000 + (a0.Slow * a2))) * x1.1)) (chk (InR ((((a1.Conc * v2.1) * (1000 + (a0.Slow * a2))) * x1.1) * v1.2)) (chk (InR ((v1.1 * (((v1.2 * v2.2) * 10000000) / v1.2)) + ((((a1.Conc * v2.1) * (1000 + (a0.Slow * a2))) * x1.1) * v1.2))) (chk (InR (a1.Conc * a0.Ridge)) (chk (InR ((a1.Conc * a0.Ridge) * x1.2)) (chk (0 ≤ ((v1.2 * v2.2) * 10000000) ∧ ((v1.2 * v2.2) * 10000000) ≤ 9223372036854775807) (chk (InR (((a1.Conc * a0.Ridge) * x1.2) * (((v1.2 * v2.2) * 10000000) / 100))) (chk (InR (((v1.1 * (((v1.2 * v2.2) * 10000000) / v1.2)) + ((((a1.Conc * v2.1) * (1000 + (a0.Slow * a2))) * x1.1) * v1.2)) + (((a1.Conc * a0.Ridge) * x1.2) * (((v1.2 * v2.2) * 10000000) / 100)))) (chk (InR (a0.Press * a1.Press)) (chk (InR ((a0.Press * a1.Press) * ((v1.2 * v2.2) * 10000000))) (chk (InR ((((v1.1 * (((v1.2 * v2.2) * 10000000) / v1.2)) + ((((a1.Conc * v2.1) * (1000 + (a0.Slow * a2))) * x1.1) * v1.2)) + (((a1.Conc * a0.Ridge) * x1.2) * (((v1.2 * v2.2) * 10000000) / 100))) + ((a0.Press * a1.Press) * ((v1.2 * v2.2) * 10000000)))) (chk ((0 ≤ ((((v1.1 * (((v1.2 * v2.2) * 10000000) / v1.2)) + ((((a1.Conc * v2.1) * (1000 + (a0.Slow * a2))) * x1.1) * v1.2)) + (((a1.Conc * a0.Ridge) * x1.2) * (((v1.2 * v2.2) * 10000000) / 100))) + ((a0.Press * a1.Press) * ((v1.2 * v2.2) * 10000000))) ∧ ((((v1.1 * (((v1.2 * v2.2) * 10000000) / v1.2)) + ((((a1.Conc * v2.1) * (1000 + (a0.Slow * a2))) * x1.1) * v1.2)) + (((a1.Conc * a0.Ridge) * x1.2) * (((v1.2 * v2.2) * 10000000) / 100))) + ((a0.Press * a1.Press) * ((v1.2 * v2.2) * 10000000))) ≤ 9223372036854775807) ∧ 0 < ((v1.2 * v2.2) * 10000000)) (join (fun (x2 : Int) => some x2) (fun k2 => chk (InR ((((((v1.1 * (((v1.2 * v2.2) * 10000000) / v1.2)) + ((((a1.Conc * v2.1) * (1000 + (a0.Slow * a2))) * x1.1) * v1.2)) + (((a1.Conc * a0.Ridge) * x1.2) * (((v1.2 * v2.2) * 10000000) / 100))) + ((a0.Press * a1.Press) * ((v1.2 * v2.2) * 10000000))) / ((v1.2 * v2.2) * 10000000)) * ((v1.2 * v2.2) * 10000000))) (brk (decide (((((((v1.1 * (((v1.2 * v2.2) * 10000000) / v1.2)) + ((((a1.Conc * v2.1) * (1000 + (a0.Slow * a2))) * x1.1) * v1.2)) + (((a1.Conc * a0.Ridge) * x1.2) * (((v1.2 * v2.2) * 10000000) / 100))) + ((a0.Press * a1.Press) * ((v1.2 * v2.2) * 10000000))) / ((v1.2 * v2.2) * 10000000)) * ((v1.2 * v2.2) * 10000000)) < ((((v1.1 * (((v1.2 * v2.2) * 10000000) / v1.2)) + ((((a1.Conc * v2.1) * (1000 + (a0.Slow * a2))) * x1.1) * v1.2)) + (((a1.Conc * a0.Ridge) * x1.2) * (((v1.2 * v2.2) * 10000000) / 100))) + ((a0.Press * a1.Press) * ((v1.2 * v2.2) * 10000000))))) (chk (InR ((((((v1.1 * (((v1.2 * v2.2) * 10000000) / v1.2)) + ((((a1.Conc * v2.1) * (1000 + (a0.Slow * a2))) * x1.1) * v1.2)) + (((a1.Conc * a0.Ridge) * x1.2) * (((v1.2 * v2.2) * 10000000) / 100))) + ((a0.Press * a1.Press) * ((v1.2 * v2.2) * 10000000))) / ((v1.2 * v2.2) * 10000000)) + 1)) (k2 ((((((v1.1 * (((v1.2 * v2.2) * 10000000) / v1.2)) + ((((a1.Conc * v2.1) * (1000 + (a0.Slow * a2))) * x1.1) * v1.2)) + (((a1.Conc * a0.Ridge) * x1.2) * (((v1.2 * v2.2) * 10000000) / 100))) + ((a0.Press * a1.Press) * ((v1.2 * v2.2) * 10000000))) / ((v1.2 * v2.2) * 10000000)) + 1))) (k2 (((((v1.1 * (((v1.2 * v2.2) * 10000000) / v1.2)) + ((((a1.Conc * v2.1) * (1000 + (a0.Slow * a2))) * x1.1) * v1.2)) + (((a1.Conc * a0.Ridge) * x1.2) * (((v1.2 * v2.2) * 10000000) / 100))) + ((a0.Press * a1.Press) * ((v1.2 * v2.2) * 10000000))) / ((v1.2 * v2.2) * 10000000)))))))))))))))))))))))))) (fun k1 => brk (a3) (k1 (a0.Brash, 0)) (k1 (100, a1.Ridge)))))

theorem c120 (F : Nat) (a0 : Ship) (a0_Thrust_s : SlV) (a0_Water_s : SlV) (a0_Ice_s : SlV) (a1 : Ice) (a2 : Int) (a3 : Bool) (w : World) (ha0_Thrust : SlIs encPt 2 w a0_Thrust_s a0.Thrust) (ha0_Water : SlIs encPt 2 w a0_Water_s a0.Water) (ha0_Ice : SlIs encPt 2 w a0_Ice_s a0.Ice) (r : Int) (hm : m120 F a0 a1 a2 a3 = some r) : Calls Tryd.prog 120 #[.agg #[.int .i64 a0.Class, .int .i64 a0.Power, .int .i64 a0.Draught, .int .i64 a0.Tonnes, .slice a0_Thrust_s.p a0_Thrust_s.n a0_Thrust_s.c, .slice a0_Water_s.p a0_Water_s.n a0_Water_s.c, .slice a0_Ice_s.p a0_Ice_s.n a0_Ice_s.c, .int .i64 a0.Slow, .int .i64 a0.Brash, .int .i64 a0.Ridge, .int .i64 a0.Press], .agg #[.int .i64 a1.Conc, .int .i64 a1.Thick, .int .i64 a1.Ridge, .int .i64 a1.Press], .int .i64 a2, .bool a3] w fun e w' => e = .returned (.int .i64 r) ∧ Below w.heap.size w w' := by
 obtain ⟨a0Tp, a0Tn, a0Tc⟩ := a0_Thrust_s
 have ha0_Thrust_l : a0Tn = a0.Thrust.length := ha0_Thrust.1
 subst ha0_Thrust_l
 obtain ⟨a0_Thrust_b, a0To, ha0_Thrust_p, ha0_Thrust_L⟩ := SlAt.lies' ha0_Thrust
 obtain ⟨a0Wp, a0Wn, a0Wc⟩ := a0_Water_s
 have ha0_Water_l : a0Wn = a0.Water.length := ha0_Water.1
 subst ha0_Water_l
 obtain ⟨a0_Water_b, a0Wo, ha0_Water_p, ha0_Water_L⟩ := SlAt.lies' ha0_Water
 obtain ⟨a0Ip, a0In, a0Ic⟩ := a0_Ice_s
 have ha0_Ice_l : a0In = a0.Ice.length := ha0_Ice.1
 subst ha0_Ice_l
 obtain ⟨a0_Ice_b, a0Io, ha0_Ice_p, ha0_Ice_L⟩ := SlAt.lies' ha0_Ice
 unfold m120 at hm
 refine enter (args := [.g [.i a0.Class, .i a0.Power, .i a0.Draught, .i a0.Tonnes, .v (.slice a0Tp a0.Thrust.length a0Tc), .v (.slice a0Wp a0.Water.length a0Wc), .v (.slice a0Ip a0.Ice.length a0Ic), .i a0.Slow, .i a0.Brash, .i a0.Ridge, .i a0.Press], .g [.i a1.Conc, .i a1.Thick, .i a1.Ridge, .i a1.Press], .i a2, .B a3]) Tryd.func120 rfl (N := 95) rfl (Nat.le_of_ble_eq_true rfl) ?_
 refine aqS ?_
 refine aqT (rows := [_, _, _]) rfl (by kernel_rfl) ⟨
  okp rfl rfl (op_boxN (L := 1) (lN rfl) rfl rfl rfl),
  okp rfl rfl (op_boxN (L := 2) (lN rfl) rfl rfl rfl),
  okp rfl rfl (oqA (lN rfl) rfl),
  trivial⟩ ?_
 refine fqK (s' := (kt 2 (.i a2) :: kt 3 (.B a3) :: kt 4 (.p 1 0) :: kt 5 (.p 2 0) :: kb 1 64 11 :: kb 2 108 4 :: sK 1 a0 (.v (.slice a0Tp a0.Thrust.length a0Tc)) (.v (.slice a0Wp a0.Water.length a0Wc)) (.v (.slice a0Ip a0.Ice.length a0Ic)) [kc 2 0 (.i a1.Conc), kc 2 1 (.i a1.Thick), kc 2 2 (.i a1.Ridge), kc 2 3 (.i a1.Press)])) ?_ (kp rfl) rfl
 refine fqT ?_
 refine aqS ?_
 obtain ⟨v1, hv1, hm⟩ := bnd_some hm
 refine aqT (rows := [_, _, _, _, _, _, _, _, _]) rfl (by kernel_rfl) ⟨
  okp rfl rfl (oqF (lN rfl) rfl fo_64_5),
  okp rfl rfl (oq1 (lN rfl) sh_62 rfl rfl),
  okp rfl rfl (oqM (lN rfl) rfl),
  okp rfl rfl (oqC (x := .t [.i v1.1, .i v1.2]) (fs := []) (caps := []) (extra := []) (lN rfl) en_111 rfl ⟨rfl, rfl, rfl⟩ (EvL.cons rfl (EvL.cons rfl EvL.nil)) (fun mm aa ww gg hr hrel => (c111 F a0.Water ⟨a0Wp, a0.Water.length, a0Wc⟩ a2 ww (SlIs.mono ha0_Water hrel.below) v1 hv1))),
  okp rfl rfl (oqM (lN rfl) rfl),
  okp rfl rfl (op_extract (lN rfl) rfl rfl),
  okp rfl rfl (op_extract (lN rfl) rfl rfl),
  okp rfl rfl (oqA (lN rfl) rfl),
  okp rfl rfl (oqA (lN rfl) rfl),
  trivial⟩ ?_
 refine fqK (s' := (kt 2 (.i a2) :: kt 3 (.B a3) :: kt 4 (.p 1 0) :: kt 5 (.p 2 0) :: kt 9 (.i v1.1) :: kt 10 (.i v1.2) :: kb 1 64 11 :: kb 2 108 4 :: sK 1 a0 (.v (.slice a0Tp a0.Thrust.length a0Tc)) (.v (.slice a0Wp a0.Water.length a0Wc)) (.v (.slice a0Ip a0.Ice.length a0Ic)) [kc 2 0 (.i a1.Conc), kc 2 1 (.i a1.Thick), kc 2 2 (.i a1.Ridge), kc 2 3 (.i a1.Press)])) ?_ (kp rfl) rfl
 refine fqT ?_
 refine aqS ?_
 obtain ⟨v2, hv2, hm⟩ := bnd_some hm
 refine aqT (rows := [_, _, _, _, _, _, _, _, _, _]) rfl (by kernel_rfl) ⟨
  okp rfl rfl (oqF (lN rfl) rfl fo_64_6),
  okp rfl rfl (oq1 (lN rfl) sh_62 rfl rfl),
  okp rfl rfl (oqF (lN rfl) rfl fo_108_1),
  okp rfl rfl (oq1 (lN rfl) sh_3 rfl rfl),
  okp rfl rfl (oqC (x := .t [.i v2.1, .i v2.2]) (fs := []) (caps := []) (extra := []) (lN rfl) en_111 rfl ⟨rfl, rfl, rfl⟩ (EvL.cons rfl (EvL.cons rfl EvL.nil)) (fun mm aa ww gg hr hrel => (c111 F a0.Ice ⟨a0Ip, a0.Ice.length, a0Ic⟩ a1.Thick ww (SlIs.mono ha0_Ice hrel.below) v2 hv2))),
  okp rfl rfl (oqM (lN rfl) rfl),
  okp rfl rfl (op_extract (lN rfl) rfl rfl),
  okp rfl rfl (op_extract (lN rfl) rfl rfl),
  okp rfl rfl (oqA (lN rfl) rfl),
  okp rfl rfl (oqA (lN rfl) rfl),
  trivial⟩ ?_
 refine fqK (s' := (kt 2 (.i a2) :: kt 3 (.B a3) :: kt 4 (.p 1 0) :: kt 5 (.p 2 0) :: kt 9 (.i v1.1) :: kt 10 (.i v1.2) :: kt 11 (.i v2.1) :: kt 12 (.i v2.2) :: kb 1 64 11 :: kb 2 108 4 :: sK 1 a0 (.v (.slice a0Tp a0.Thrust.length a0Tc)) (.v (.slice a0Wp a0.Water.length a0Wc)) (.v (.slice a0Ip a0.Ice.length a0Ic)) [kc 2 0 (.i a1.Conc), kc 2 1 (.i a1.Thick), kc 2 2 (.i a1.Ridge), kc 2 3 (.i a1.Press)])) ?_ (kp rfl) rfl
 refine fqT ?_
 refine aqS ?_
 refine aw_any (rows := [_, _, _, _]) (M := [0, 1, 0, 7]) Tryd_mixed (by kernel_rfl) rfl (by kernel_rfl) ⟨
  okp rfl rfl (oqF (lN rfl) rfl fo_108_2),
  okp rfl rfl (oq1 (lN rfl) sh_3 rfl rfl),
  okp rfl rfl (oqA (lN rfl) rfl),
  okp rfl rfl (oqA (lN rfl) rfl),
  trivial⟩ ?_
 refine fqK (s' := (kt 2 (.i a2) :: kt 3 (.B a3) :: kt 4 (.p 1 0) :: kt 5 (.p 2 0) :: kt 9 (.i v1.1) :: kt 10 (.i v1.2) :: kt 11 (.i v2.1) :: kt 12 (.i v2.2) :: kt 13 (.i 100) :: kt 14 (.i a1.Ridge) :: kb 1 64 11 :: kb 2 108 4 :: sK 1 a0 (.v (.slice a0Tp a0.Thrust.length a0Tc)) (.v (.slice a0Wp a0.Water.length a0Wc)) (.v (.slice a0Ip a0.Ice.length a0Ic)) [kc 2 0 (.i a1.Conc), kc 2 1 (.i a1.Thick), kc 2 2 (.i a1.Ridge), kc 2 3 (.i a1.Press)])) ?_ (kp rfl) rfl
 refine fqT ?_
 refine aw_cutM (ι := Int × Int) hm (fun x1 => (kt 2 (.i a2) :: kt 4 (.p 1 0) :: kt 5 (.p 2 0) :: kt 9 (.i v1.1) :: kt 10 (.i v1.2) :: kt 11 (.i v2.1) :: kt 12 (.i v2.2) :: kt 13 (.i x1.1) :: kt 14 (.i x1.2) :: kb 1 64 11 :: kb 2 108 4 :: sK 1 a0 (.v (.slice a0Tp a0.Thrust.length a0Tc)) (.v (.slice a0Wp a0.Water.length a0Wc)) (.v (.slice a0Ip a0.Ice.length a0Ic)) [kc 2 0 (.i a1.Conc), kc 2 1 (.i a1.Thick), kc 2 2 (.i a1.Ridge), kc 2 3 (.i a1.Press)])) (fun hm => ?_) (fun x1 hm => ?_)
 ·have _z := hm
  refine aqS ?_
  refine aqT (rows := [_]) rfl (by kernel_rfl) ⟨
   okp rfl rfl (oqM (lN rfl) rfl),
   trivial⟩ ?_
  refine fqK (s' := (kt 2 (.i a2) :: kt 4 (.p 1 0) :: kt 5 (.p 2 0) :: kt 9 (.i v1.1) :: kt 10 (.i v1.2) :: kt 11 (.i v2.1) :: kt 12 (.i v2.2) :: kt 13 (.i 100) :: kt 14 (.i a1.Ridge) :: kt 35 (.B a3) :: kb 1 64 11 :: kb 2 108 4 :: sK 1 a0 (.v (.slice a0Tp a0.Thrust.length a0Tc)) (.v (.slice a0Wp a0.Water.length a0Wc)) (.v (.slice a0Ip a0.Ice.length a0Ic)) [kc 2 0 (.i a1.Conc), kc 2 1 (.i a1.Thick), kc 2 2 (.i a1.Ridge), kc 2 3 (.i a1.Press)])) ?_ (kp rfl) rfl
  refine fqT ?_
  refine aw_cond rfl (fun hz1 => ?_) (fun hz1 => ?_)
  ·have hm := brk_t hz1 hm
   refine aqS ?_
   refine aqT (rows := [_, _, _]) rfl (by kernel_rfl) ⟨
    okp rfl rfl (oqF (lN rfl) rfl fo_64_8),
    okp rfl rfl (oq1 (lN rfl) sh_3 rfl rfl),
    okp rfl rfl (oqA (lN rfl) rfl),
    trivial⟩ ?_
   refine fqK (s' := (kt 2 (.i a2) :: kt 4 (.p 1 0) :: kt 5 (.p 2 0) :: kt 9 (.i v1.1) :: kt 10 (.i v1.2) :: kt 11 (.i v2.1) :: kt 12 (.i v2.2) :: kt 13 (.i a0.Brash) :: kb 1 64 11 :: kb 2 108 4 :: sK 1 a0 (.v (.slice a0Tp a0.Thrust.length a0Tc)) (.v (.slice a0Wp a0.Water.length a0Wc)) (.v (.slice a0Ip a0.Ice.length a0Ic)) [kc 2 0 (.i a1.Conc), kc 2 1 (.i a1.Thick), kc 2 2 (.i a1.Ridge), kc 2 3 (.i a1.Press)])) ?_ (kp rfl) rfl
   refine fqT ?_
   refine aqT (rows := [_]) rfl (by kernel_rfl) ⟨
    okp rfl rfl (oqA (lN rfl) rfl),
    trivial⟩ ?_
   refine fqK (s' := (kt 2 (.i a2) :: kt 4 (.p 1 0) :: kt 5 (.p 2 0) :: kt 9 (.i v1.1) :: kt 10 (.i v1.2) :: kt 11 (.i v2.1) :: kt 12 (.i v2.2) :: kt 13 (.i a0.Brash) :: kt 14 (.i 0) :: kb 1 64 11 :: kb 2 108 4 :: sK 1 a0 (.v (.slice a0Tp a0.Thrust.length a0Tc)) (.v (.slice a0Wp a0.Water.length a0Wc)) (.v (.slice a0Ip a0.Ice.length a0Ic)) [kc 2 0 (.i a1.Conc), kc 2 1 (.i a1.Thick), kc 2 2 (.i a1.Ridge), kc 2 3 (.i a1.Press)])) ?_ (kp rfl) rfl
   exact fin_cut (a0.Brash, 0) hm ⟨rfl, rfl, rfl, rfl, rfl, rfl, rfl, rfl, rfl, rfl, rfl, rfl, rfl, rfl, rfl, rfl, rfl, rfl, rfl, rfl, rfl, rfl, rfl, rfl, rfl, rfl, trivial⟩ rfl
  ·have hm := brk_f hz1 hm
   refine aw_skip ?_
   exact fin_cut (100, a1.Ridge) hm ⟨rfl, rfl, rfl, rfl, rfl, rfl, rfl, rfl, rfl, rfl, rfl, rfl, rfl, rfl, rfl, rfl, rfl, rfl, rfl, rfl, rfl, rfl, rfl, rfl, rfl, rfl, trivial⟩ rfl
 ·have _z := hm
  refine aqS ?_
  obtain ⟨hp2, hm⟩ := chk_some hm
  obtain ⟨hp3, hm⟩ := chk_some hm
  refine aqT (rows := [_, _, _, _, _]) rfl (by kernel_rfl) ⟨
   okp rfl rfl (oqM (lN rfl) rfl),
   okp rfl rfl (oqM (lN rfl) rfl),
   okp rfl rfl (oqB (lN rfl) rfl rfl (nw_mul hp2)),
   okp rfl rfl (oqB (lN rfl) rfl rfl (nw_mul hp3)),
   okp rfl rfl (oqA (lN rfl) rfl),
   trivial⟩ ?_
  refine fqK (s' := (kt 2 (.i a2) :: kt 4 (.p 1 0) :: kt 5 (.p 2 0) :: kt 9 (.i v1.1) :: kt 10 (.i v1.2) :: kt 11 (.i v2.1) :: kt 13 (.i x1.1) :: kt 14 (.i x1.2) :: kt 15 (.i ((v1.2 * v2.2) * 10000000)) :: kb 1 64 11 :: kb 2 108 4 :: sK 1 a0 (.v (.slice a0Tp a0.Thrust.length a0Tc)) (.v (.slice a0Wp a0.Water.length a0Wc)) (.v (.slice a0Ip a0.Ice.length a0Ic)) [kc 2 0 (.i a1.Conc), kc 2 1 (.i a1.Thick), kc 2 2 (.i a1.Ridge), kc 2 3 (.i a1.Press)])) ?_ (kp rfl) rfl
  refine fqT ?_
  refine aqS ?_
  obtain ⟨hp4, hm⟩ := chk_some hm
  obtain ⟨hp5, hm⟩ := chk_some hm
  refine aqT (rows := [_, _, _, _, _, _]) rfl (by kernel_rfl) ⟨
   okp rfl rfl (oqM (lN rfl) rfl),
   okp rfl rfl (oqM (lN rfl) rfl),
   okp rfl rfl (oqM (lN rfl) rfl),
   okp rfl rfl (op_quo (lN rfl) rfl rfl (Int.ne_of_gt hp4.2) (quo_nn hp4.1.1 hp4.2 hp4.1.2)),
   okp rfl rfl (oqB (lN rfl) rfl rfl (nw_mul hp5)),
   okp rfl rfl (oqA (lN rfl) rfl),
   trivial⟩ ?_
  refine fqK (s' := (kt 2 (.i a2) :: kt 4 (.p 1 0) :: kt 5 (.p 2 0) :: kt 10 (.i v1.2) :: kt 11 (.i v2.1) :: kt 13 (.i x1.1) :: kt 14 (.i x1.2) :: kt 15 (.i ((v1.2 * v2.2) * 10000000)) :: kt 16 (.i (v1.1 * (((v1.2 * v2.2) * 10000000) / v1.2))) :: kb 1 64 11 :: kb 2 108 4 :: sK 1 a0 (.v (.slice a0Tp a0.Thrust.length a0Tc)) (.v (.slice a0Wp a0.Water.length a0Wc)) (.v (.slice a0Ip a0.Ice.length a0Ic)) [kc 2 0 (.i a1.Conc), kc 2 1 (.i a1.Thick), kc 2 2 (.i a1.Ridge), kc 2 3 (.i a1.Press)])) ?_ (kp rfl) rfl
  refine fqT ?_
  refine aqS ?_
  obtain ⟨hp6, hm⟩ := chk_some hm
  obtain ⟨hp7, hm⟩ := chk_some hm
  obtain ⟨hp8, hm⟩ := chk_some hm
  obtain ⟨hp9, hm⟩ := chk_some hm
  obtain ⟨hp10, hm⟩ := chk_some hm
  obtain ⟨hp11, hm⟩ := chk_some hm
  obtain ⟨hp12, hm⟩ := chk_some hm
  refine aqT (rows := [_, _, _, _, _, _, _, _, _, _, _, _, _, _, _, _, _]) rfl (by kernel_rfl) ⟨
   okp rfl rfl (oqM (lN rfl) rfl),
   okp rfl rfl (oqF (lN rfl) rfl fo_108_0),
   okp rfl rfl (oq1 (lN rfl) sh_3 rfl rfl),
   okp rfl rfl (oqM (lN rfl) rfl),
   okp rfl rfl (oqB (lN rfl) rfl rfl (nw_mul hp6)),
   okp rfl rfl (oqF (lN rfl) rfl fo_64_7),
   okp rfl rfl (oq1 (lN rfl) sh_3 rfl rfl),
   okp rfl rfl (oqM (lN rfl) rfl),
   okp rfl rfl (oqB (lN rfl) rfl rfl (nw_mul hp7)),
   okp rfl rfl (oqB (lN rfl) rfl rfl (nw_add hp8)),
   okp rfl rfl (oqB (lN rfl) rfl rfl (nw_mul hp9)),
   okp rfl rfl (oqM (lN rfl) rfl),
   okp rfl rfl (oqB (lN rfl) rfl rfl (nw_mul hp10)),
   okp rfl rfl (oqM (lN rfl) rfl),
   okp rfl rfl (oqB (lN rfl) rfl rfl (nw_mul hp11)),
   okp rfl rfl (oqB (lN rfl) rfl rfl (nw_add hp12)),
   okp rfl rfl (oqA (lN rfl) rfl),
   trivial⟩ ?_
  refine fqK (s' := (kt 4 (.p 1 0) :: kt 5 (.p 2 0) :: kt 14 (.i x1.2) :: kt 15 (.i ((v1.2 * v2.2) * 10000000)) :: kt 16 (.i ((v1.1 * (((v1.2 * v2.2) * 10000000) / v1.2)) + ((((a1.Conc * v2.1) * (1000 + (a0.Slow * a2))) * x1.1) * v1.2))) :: kb 1 64 11 :: kb 2 108 4 :: sK 1 a0 (.v (.slice a0Tp a0.Thrust.length a0Tc)) (.v (.slice a0Wp a0.Water.length a0Wc)) (.v (.slice a0Ip a0.Ice.length a0Ic)) [kc 2 0 (.i a1.Conc), kc 2 1 (.i a1.Thick), kc 2 2 (.i a1.Ridge), kc 2 3 (.i a1.Press)])) ?_ (kp rfl) rfl
  refine fqT ?_
  refine aqS ?_
  obtain ⟨hp13, hm⟩ := chk_some hm
  obtain ⟨hp14, hm⟩ := chk_some hm
  obtain ⟨hp15, hm⟩ := chk_some hm
  obtain ⟨hp16, hm⟩ := chk_some hm
  obtain ⟨hp17, hm⟩ := chk_some hm
  refine aqT (rows := [_, _, _, _, _, _, _, _, _, _, _, _, _]) rfl (by kernel_rfl) ⟨
   okp rfl rfl (oqM (lN rfl) rfl),
   okp rfl rfl (oqF (lN rfl) rfl fo_108_0),
   okp rfl rfl (oq1 (lN rfl) sh_3 rfl rfl),
   okp rfl rfl (oqF (lN rfl) rfl fo_64_9),
   okp rfl rfl (oq1 (lN rfl) sh_3 rfl rfl),
   okp rfl rfl (oqB (lN rfl) rfl rfl (nw_mul hp13)),
   okp rfl rfl (oqM (lN rfl) rfl),
   okp rfl rfl (oqB (lN rfl) rfl rfl (nw_mul hp14)),
   okp rfl rfl (oqM (lN rfl) rfl),
   okp rfl rfl (op_quo (lN rfl) rfl rfl (by decide) (quo_nn hp15.1 (by decide) hp15.2)),
   okp rfl rfl (oqB (lN rfl) rfl rfl (nw_mul hp16)),
   okp rfl rfl (oqB (lN rfl) rfl rfl (nw_add hp17)),
   okp rfl rfl (oqA (lN rfl) rfl),
   trivial⟩ ?_
  refine fqK (s' := (kt 4 (.p 1 0) :: kt 5 (.p 2 0) :: kt 15 (.i ((v1.2 * v2.2) * 10000000)) :: kt 16 (.i (((v1.1 * (((v1.2 * v2.2) * 10000000) / v1.2)) + ((((a1.Conc * v2.1) * (1000 + (a0.Slow * a2))) * x1.1) * v1.2)) + (((a1.Conc * a0.Ridge) * x1.2) * (((v1.2 * v2.2) * 10000000) / 100)))) :: kb 1 64 11 :: kb 2 108 4 :: sK 1 a0 (.v (.slice a0Tp a0.Thrust.length a0Tc)) (.v (.slice a0Wp a0.Water.length a0Wc)) (.v (.slice a0Ip a0.Ice.length a0Ic)) [kc 2 0 (.i a1.Conc), kc 2 1 (.i a1.Thick), kc 2 2 (.i a1.Ridge), kc 2 3 (.i a1.Press)])) ?_ (kp rfl) rfl
  refine fqT ?_
  refine aqS ?_
  obtain ⟨hp18, hm⟩ := chk_some hm
  obtain ⟨hp19, hm⟩ := chk_some hm
  obtain ⟨hp20, hm⟩ := chk_some hm
  refine aqT (rows := [_, _, _, _, _, _, _, _, _, _]) rfl (by kernel_rfl) ⟨
   okp rfl rfl (oqM (lN rfl) rfl),
   okp rfl rfl (oqF (lN rfl) rfl fo_64_10),
   okp rfl rfl (oq1 (lN rfl) sh_3 rfl rfl),
   okp rfl rfl (oqF (lN rfl) rfl fo_108_3),
   okp rfl rfl (oq1 (lN rfl) sh_3 rfl rfl),
   okp rfl rfl (oqB (lN rfl) rfl rfl (nw_mul hp18)),
   okp rfl rfl (oqM (lN rfl) rfl),
   okp rfl rfl (oqB (lN rfl) rfl rfl (nw_mul hp19)),
   okp rfl rfl (oqB (lN rfl) rfl rfl (nw_add hp20)),
   okp rfl rfl (oqA (lN rfl) rfl),
   trivial⟩ ?_
  refine fqK (s' := [kt 15 (.i ((v1.2 * v2.2) * 10000000)), kt 16 (.i ((((v1.1 * (((v1.2 * v2.2) * 10000000) / v1.2)) + ((((a1.Conc * v2.1) * (1000 + (a0.Slow * a2))) * x1.1) * v1.2)) + (((a1.Conc * a0.Ridge) * x1.2) * (((v1.2 * v2.2) * 10000000) / 100))) + ((a0.Press * a1.Press) * ((v1.2 * v2.2) * 10000000))))]) ?_ (kp rfl) rfl
  refine fqT ?_
  refine aqS ?_
  obtain ⟨hp21, hm⟩ := chk_some hm
  refine aqT (rows := [_, _, _, _]) rfl (by kernel_rfl) ⟨
   okp rfl rfl (oqM (lN rfl) rfl),
   okp rfl rfl (oqM (lN rfl) rfl),
   okp rfl rfl (op_quo (lN rfl) rfl rfl (Int.ne_of_gt hp21.2) (quo_nn hp21.1.1 hp21.2 hp21.1.2)),
   okp rfl rfl (oqA (lN rfl) rfl),
   trivial⟩ ?_
  refine fqK (s' := [kt 15 (.i ((v1.2 * v2.2) * 10000000)), kt 16 (.i ((((v1.1 * (((v1.2 * v2.2) * 10000000) / v1.2)) + ((((a1.Conc * v2.1) * (1000 + (a0.Slow * a2))) * x1.1) * v1.2)) + (((a1.Conc * a0.Ridge) * x1.2) * (((v1.2 * v2.2) * 10000000) / 100))) + ((a0.Press * a1.Press) * ((v1.2 * v2.2) * 10000000)))), kt 17 (.i (((((v1.1 * (((v1.2 * v2.2) * 10000000) / v1.2)) + ((((a1.Conc * v2.1) * (1000 + (a0.Slow * a2))) * x1.1) * v1.2)) + (((a1.Conc * a0.Ridge) * x1.2) * (((v1.2 * v2.2) * 10000000) / 100))) + ((a0.Press * a1.Press) * ((v1.2 * v2.2) * 10000000))) / ((v1.2 * v2.2) * 10000000)))]) ?_ (kp rfl) rfl
  refine fqT ?_
  refine aw_cutM (ι := Int) hm (fun x2 => [kt 17 (.i x2)]) (fun hm => ?_) (fun x2 hm => ?_)
  ·have _z := hm
   refine aqS ?_
   obtain ⟨hp22, hm⟩ := chk_some hm
   refine aqT (rows := [_, _, _, _, _]) rfl (by kernel_rfl) ⟨
    okp rfl rfl (oqM (lN rfl) rfl),
    okp rfl rfl (oqM (lN rfl) rfl),
    okp rfl rfl (oqB (lN rfl) rfl rfl (nw_mul hp22)),
    okp rfl rfl (oqM (lN rfl) rfl),
    okp rfl rfl (oqB (lN rfl) rfl rfl rfl),
    trivial⟩ ?_
   refine fqK (s' := [kt 17 (.i (((((v1.1 * (((v1.2 * v2.2) * 10000000) / v1.2)) + ((((a1.Conc * v2.1) * (1000 + (a0.Slow * a2))) * x1.1) * v1.2)) + (((a1.Conc * a0.Ridge) * x1.2) * (((v1.2 * v2.2) * 10000000) / 100))) + ((a0.Press * a1.Press) * ((v1.2 * v2.2) * 10000000))) / ((v1.2 * v2.2) * 10000000))), kt 91 (.B (decide (((((((v1.1 * (((v1.2 * v2.2) * 10000000) / v1.2)) + ((((a1.Conc * v2.1) * (1000 + (a0.Slow * a2))) * x1.1) * v1.2)) + (((a1.Conc * a0.Ridge) * x1.2) * (((v1.2 * v2.2) * 10000000) / 100))) + ((a0.Press * a1.Press) * ((v1.2 * v2.2) * 10000000))) / ((v1.2 * v2.2) * 10000000)) * ((v1.2 * v2.2) * 10000000)) < ((((v1.1 * (((v1.2 * v2.2) * 10000000) / v1.2)) + ((((a1.Conc * v2.1) * (1000 + (a0.Slow * a2))) * x1.1) * v1.2)) + (((a1.Conc * a0.Ridge) * x1.2) * (((v1.2 * v2.2) * 10000000) / 100))) + ((a0.Press * a1.Press) * ((v1.2 * v2.2) * 10000000))))))]) ?_ (kp rfl) rfl
   refine fqT ?_
   refine aw_cond rfl (fun hz23 => ?_) (fun hz23 => ?_)
   ·have hm := brk_t hz23 hm
    obtain ⟨hp24, hm⟩ := chk_some hm
    refine aqT (rows := [_, _, _]) rfl (by kernel_rfl) ⟨
     okp rfl rfl (oqM (lN rfl) rfl),
     okp rfl rfl (oqB (lN rfl) rfl rfl (nw_add hp24)),
     okp rfl rfl (oqA (lN rfl) rfl),
     trivial⟩ ?_
    refine fqK (s' := [kt 17 (.i ((((((v1.1 * (((v1.2 * v2.2) * 10000000) / v1.2)) + ((((a1.Conc * v2.1) * (1000 + (a0.Slow * a2))) * x1.1) * v1.2)) + (((a1.Conc * a0.Ridge) * x1.2) * (((v1.2 * v2.2) * 10000000) / 100))) + ((a0.Press * a1.Press) * ((v1.2 * v2.2) * 10000000))) / ((v1.2 * v2.2) * 10000000)) + 1))]) ?_ (kp rfl) rfl
    exact fin_cut ((((((v1.1 * (((v1.2 * v2.2) * 10000000) / v1.2)) + ((((a1.Conc * v2.1) * (1000 + (a0.Slow * a2))) * x1.1) * v1.2)) + (((a1.Conc * a0.Ridge) * x1.2) * (((v1.2 * v2.2) * 10000000) / 100))) + ((a0.Press * a1.Press) * ((v1.2 * v2.2) * 10000000))) / ((v1.2 * v2.2) * 10000000)) + 1) hm ⟨rfl, trivial⟩ rfl
   ·have hm := brk_f hz23 hm
    refine aw_skip ?_
    exact fin_cut (((((v1.1 * (((v1.2 * v2.2) * 10000000) / v1.2)) + ((((a1.Conc * v2.1) * (1000 + (a0.Slow * a2))) * x1.1) * v1.2)) + (((a1.Conc * a0.Ridge) * x1.2) * (((v1.2 * v2.2) * 10000000) / 100))) + ((a0.Press * a1.Press) * ((v1.2 * v2.2) * 10000000))) / ((v1.2 * v2.2) * 10000000)) hm ⟨rfl, trivial⟩ rfl
  ·have _z := hm
   refine aqS ?_
   refine aqT (rows := [_, _]) rfl (by kernel_rfl) ⟨
    okp rfl rfl (oqM (lN rfl) rfl),
    okp rfl rfl (oqA (lN rfl) rfl),
    trivial⟩ ?_
   refine fqK (s' := [kt 8 (.i x2)]) ?_ (kp rfl) rfl
   refine fqT ?_
   refine aw_ret ?_
   refine post_ret (x := .i x2) rfl rfl (rqT rfl resOK_nil) rfl (fun mm aa ww hr => ?_)
   have hm := Option.some.inj hm
   subst hm
   exact ⟨rfl, hr.below⟩

def m96 (F : Nat) (a0 : Ship) (a1 : Ice) (a2 : Int) (a3 : Bool) : Option (Bool) :=
 chk (InR ((((a0.Thrust.length : Nat) : Int)) - 1)) (chk (0 ≤ (((a0.Thrust.length : Nat) : Int)) - 1 ∧ (((a0.Thrust.length : Nat) : Int)) - 1 < ((a0.Thrust.length : Nat) : Int)) (bnd (brk ((decide (a2 ≤ (((pt a0.Thrust ((((a0.Thrust.length : Nat) : Int)) - 1))).X)))) (m115 F a0 a2) (some default)) (fun v1 => bnd (brk ((decide (a2 ≤ (((pt a0.Thrust ((((a0.Thrust.length : Nat) : Int)) - 1))).X)))) (m120 F a0 a1 a2 a3) (some default)) (fun v2 => some ((decide (a2 ≤ (((pt a0.Thrust ((((a0.Thrust.length : Nat) : Int)) - 1))).X))) && (decide (v1 ≥ v2)))))))

theorem c96 (F : Nat) (a0 : Ship) (a0_Thrust_s : SlV) (a0_Water_s : SlV) (a0_Ice_s : SlV) (a1 : Ice) (a2 : Int) (a3 : Bool) (w : World) (ha0_Thrust : SlIs encPt 2 w a0_Thrust_s a0.Thrust) (ha0_Water : SlIs encPt 2 w a0_Water_s a0.Water) (ha0_Ice : SlIs encPt 2 w a0_Ice_s a0.Ice) (r : Bool) (hm : m96 F a0 a1 a2 a3 = some r) : Calls Tryd.prog 96 #[.agg #[.int .i64 a0.Class, .int .i64 a0.Power, .int .i64 a0.Draught, .int .i64 a0.Tonnes, .slice a0_Thrust_s.p a0_Thrust_s.n a0_Thrust_s.c, .slice a0_Water_s.p a0_Water_s.n a0_Water_s.c, .slice a0_Ice_s.p a0_Ice_s.n a0_Ice_s.c, .int .i64 a0.Slow, .int .i64 a0.Brash, .int .i64 a0.Ridge, .int .i64 a0.Press], .agg #[.int .i64 a1.Conc, .int .i64 a1.Thick, .int .i64 a1.Ridge, .int .i64 a1.Press], .int .i64 a2, .bool a3] w fun e w' => e = .returned (.bool r) ∧ Below w.heap.size w w' := by
 obtain ⟨a0Tp, a0Tn, a0Tc⟩ := a0_Thrust_s
 have ha0_Thrust_l : a0Tn = a0.Thrust.length := ha0_Thrust.1
 subst ha0_Thrust_l
 obtain ⟨a0_Thrust_b, a0To, ha0_Thrust_p, ha0_Thrust_L⟩ := SlAt.lies' ha0_Thrust
 obtain ⟨a0Wp, a0Wn, a0Wc⟩ := a0_Water_s
 have ha0_Water_l : a0Wn = a0.Water.length := ha0_Water.1
 subst ha0_Water_l
 obtain ⟨a0_Water_b, a0Wo, ha0_Water_p, ha0_Water_L⟩ := SlAt.lies' ha0_Water
 obtain ⟨a0Ip, a0In, a0Ic⟩ := a0_Ice_s
 have ha0_Ice_l : a0In = a0.Ice.length := ha0_Ice.1
 subst ha0_Ice_l
 obtain ⟨a0_Ice_b, a0Io, ha0_Ice_p, ha0_Ice_L⟩ := SlAt.lies' ha0_Ice
 unfold m96 at hm
 refine enter (args := [.g [.i a0.Class, .i a0.Power, .i a0.Draught, .i a0.Tonnes, .v (.slice a0Tp a0.Thrust.length a0Tc), .v (.slice a0Wp a0.Water.length a0Wc), .v (.slice a0Ip a0.Ice.length a0Ic), .i a0.Slow, .i a0.Brash, .i a0.Ridge, .i a0.Press], .g [.i a1.Conc, .i a1.Thick, .i a1.Ridge, .i a1.Press], .i a2, .B a3]) Tryd.func96 rfl (N := 31) rfl (Nat.le_of_ble_eq_true rfl) ?_
 refine aqS ?_
 refine aqT (rows := [_, _, _]) rfl (by kernel_rfl) ⟨
  okp rfl rfl (op_boxN (L := 1) (lN rfl) rfl rfl rfl),
  okp rfl rfl (op_boxN (L := 2) (lN rfl) rfl rfl rfl),
  okp rfl rfl (oqA (lN rfl) rfl),
  trivial⟩ ?_
 refine fqK (s' := (kt 2 (.i a2) :: kt 3 (.B a3) :: kt 4 (.p 1 0) :: kt 5 (.p 2 0) :: kb 1 64 11 :: kb 2 108 4 :: sK 1 a0 (.v (.slice a0Tp a0.Thrust.length a0Tc)) (.v (.slice a0Wp a0.Water.length a0Wc)) (.v (.slice a0Ip a0.Ice.length a0Ic)) [kc 2 0 (.i a1.Conc), kc 2 1 (.i a1.Thick), kc 2 2 (.i a1.Ridge), kc 2 3 (.i a1.Press)])) ?_ (kp rfl) rfl
 refine fqT ?_
 refine aqS ?_
 obtain ⟨hp1, hm⟩ := chk_some hm
 obtain ⟨hp2, hm⟩ := chk_some hm
 obtain ⟨v1, hv1, hm⟩ := bnd_some hm
 obtain ⟨v2, hv2, hm⟩ := bnd_some hm
 refine aw_any (rows := [_, _, _, _, _, _, _, _, _, _, _, _, _, _, _, _, _, _, _, _, _, _, _]) (M := [0, 0, 2, 0, 8, 24, 56, 126, 254, 510, 1023, 2047, 4095, 4095, 16383, 4095, 4095, 4095, 4095, 524287, 1048575, 2097151, 4194303]) Tryd_mixed (by kernel_rfl) rfl (by kernel_rfl) ⟨
  okp rfl rfl (oqM (lN rfl) rfl),
  okp rfl rfl (oqF (lN rfl) rfl fo_64_4),
  okp rfl rfl (oq1 (lN rfl) sh_62 rfl rfl),
  okp rfl rfl (oqF (lN rfl) rfl fo_64_4),
  okp rfl rfl (oq1 (lN rfl) sh_62 rfl rfl),
  okp rfl rfl (op_len (n := a0.Thrust.length) (lN rfl) (by rw [ss_62]; rfl) rfl rfl),
  okp rfl rfl (oqB (lN rfl) rfl rfl (nw_sub hp1)),
  okp rfl rfl (op_ixB (lN rfl) rfl rfl ss_62 (ha0_Thrust_p (ne_of_ix (i := (((a0.Thrust.length : Nat) : Int)) - 1) hp2.1 hp2.2)) hp2.1 hp2.2),
  okp rfl rfl (op_fieldAddrB (lN rfl) rfl fo_170_0),
  okp rfl rfl (op_loadB (y := .i (((pt a0.Thrust ((((a0.Thrust.length : Nat) : Int)) - 1))).X)) (lN rfl) rfl (ld1 (ha0_Thrust_L (ne_of_ix (i := (((a0.Thrust.length : Nat) : Int)) - 1) hp2.1 hp2.2)) ⟨0, 0⟩ (i := (((a0.Thrust.length : Nat) : Int)) - 1) hp2.1 hp2.2 0 rfl rfl sh_3)),
  okp rfl rfl (oqB (lN rfl) rfl rfl rfl),
  okp rfl rfl (oqM (lN rfl) rfl),
  ok_if (lN rfl) rfl rfl rfl rfl rfl rfl (fun hg3 => oqL (ys := [.i a0.Class, .i a0.Power, .i a0.Draught, .i a0.Tonnes, .v (.slice a0Tp a0.Thrust.length a0Tc), .v (.slice a0Wp a0.Water.length a0Wc), .v (.slice a0Ip a0.Ice.length a0Ic), .i a0.Slow, .i a0.Brash, .i a0.Ridge, .i a0.Press]) (lN rfl) sh_64 (force_x rfl) rfl ⟨rfl, rfl, rfl, rfl, rfl, rfl, rfl, rfl, rfl, rfl, rfl, trivial⟩),
  ok_if (lN rfl) rfl rfl rfl rfl rfl rfl (fun hg4 => oqM (lN rfl) (force_x rfl)),
  ok_if (lN rfl) rfl rfl rfl rfl rfl rfl (fun hg5 => oqC (x := .i v1) (fs := []) (caps := []) (extra := []) (lN rfl) en_115 rfl ⟨rfl, rfl, rfl⟩ (EvL.cons (force_eq (beq_iff_eq.2 hg5) rfl) (EvL.cons (force_eq (beq_iff_eq.2 hg5) rfl) EvL.nil)) (fun mm aa ww gg hr hrel => (c115 F a0 ⟨a0Tp, a0.Thrust.length, a0Tc⟩ ⟨a0Wp, a0.Water.length, a0Wc⟩ ⟨a0Ip, a0.Ice.length, a0Ic⟩ a2 ww (SlIs.mono ha0_Thrust hrel.below) (SlIs.mono ha0_Water hrel.below) (SlIs.mono ha0_Ice hrel.below) v1 (brk_t hg5 hv1)))),
  ok_if (lN rfl) rfl rfl rfl rfl rfl rfl (fun hg6 => oqL (ys := [.i a0.Class, .i a0.Power, .i a0.Draught, .i a0.Tonnes, .v (.slice a0Tp a0.Thrust.length a0Tc), .v (.slice a0Wp a0.Water.length a0Wc), .v (.slice a0Ip a0.Ice.length a0Ic), .i a0.Slow, .i a0.Brash, .i a0.Ridge, .i a0.Press]) (lN rfl) sh_64 (force_x rfl) rfl ⟨rfl, rfl, rfl, rfl, rfl, rfl, rfl, rfl, rfl, rfl, rfl, trivial⟩),
  ok_if (lN rfl) rfl rfl rfl rfl rfl rfl (fun hg7 => oqL (ys := [.i a1.Conc, .i a1.Thick, .i a1.Ridge, .i a1.Press]) (lN rfl) sh_108 (force_x rfl) rfl ⟨rfl, rfl, rfl, rfl, trivial⟩),
  ok_if (lN rfl) rfl rfl rfl rfl rfl rfl (fun hg8 => oqM (lN rfl) (force_x rfl)),
  ok_if (lN rfl) rfl rfl rfl rfl rfl rfl (fun hg9 => oqM (lN rfl) (force_x rfl)),
  ok_if (lN rfl) rfl rfl rfl rfl rfl rfl (fun hg10 => oqC (x := .i v2) (fs := []) (caps := []) (extra := []) (lN rfl) en_120 rfl ⟨rfl, rfl, rfl⟩ (EvL.cons (force_eq (beq_iff_eq.2 hg10) rfl) (EvL.cons (force_eq (beq_iff_eq.2 hg10) rfl) (EvL.cons (force_eq (beq_iff_eq.2 hg10) rfl) (EvL.cons (force_eq (beq_iff_eq.2 hg10) rfl) EvL.nil)))) (fun mm aa ww gg hr hrel => (c120 F a0 ⟨a0Tp, a0.Thrust.length, a0Tc⟩ ⟨a0Wp, a0.Water.length, a0Wc⟩ ⟨a0Ip, a0.Ice.length, a0Ic⟩ a1 a2 a3 ww (SlIs.mono ha0_Thrust hrel.below) (SlIs.mono ha0_Water hrel.below) (SlIs.mono ha0_Ice hrel.below) v2 (brk_t hg10 hv2)))),
  ok_if (lN rfl) rfl rfl rfl rfl rfl rfl (fun hg11 => oqB (lN rfl) (force_eq (beq_iff_eq.2 hg11) rfl) (force_eq (beq_iff_eq.2 hg11) rfl) rfl),
  okp rfl rfl (op_and (lN rfl) rfl rfl),
  okp rfl rfl (oqA (lN rfl) rfl),
  trivial⟩ ?_
 refine fqK (s' := [kt 8 (.B ((decide (a2 ≤ (((pt a0.Thrust ((((a0.Thrust.length : Nat) : Int)) - 1))).X))) && (decide (v1 ≥ v2))))]) ?_ (kp rfl) rfl
 refine fqT ?_
 refine aw_ret ?_
 refine post_ret (x := .B ((decide (a2 ≤ (((pt a0.Thrust ((((a0.Thrust.length : Nat) : Int)) - 1))).X))) && (decide (v1 ≥ v2)))) rfl rfl (rqT rfl resOK_nil) rfl (fun mm aa ww hr => ?_)
 have hm := Option.some.inj hm
 subst hm
 exact ⟨rfl, hr.below⟩

def m117 (F : Nat) (a0 : Ship) (a1 : Ice) (a2 : Bool) : Option (Int) :=
 join (fun (x1 : Int) => some x1) (fun k1 => loopC (fun (x2 : Int × Int) n2 => brk (decide (x2.2 ≤ 250)) (join (fun (x3 : Int) => chk (InR (x2.2 + 1)) (n2 (x3, x2.2 + 1))) (fun k3 => bnd (m96 F a0 a1 x2.2 a2) (fun v1 => brk (v1) (k3 x2.2) (k3 x2.1)))) (k1 x2.1)) F (0, 0))

theorem c117 (F : Nat) (a0 : Ship) (a0_Thrust_s : SlV) (a0_Water_s : SlV) (a0_Ice_s : SlV) (a1 : Ice) (a2 : Bool) (w : World) (ha0_Thrust : SlIs encPt 2 w a0_Thrust_s a0.Thrust) (ha0_Water : SlIs encPt 2 w a0_Water_s a0.Water) (ha0_Ice : SlIs encPt 2 w a0_Ice_s a0.Ice) (r : Int) (hm : m117 F a0 a1 a2 = some r) : Calls Tryd.prog 117 #[.agg #[.int .i64 a0.Class, .int .i64 a0.Power, .int .i64 a0.Draught, .int .i64 a0.Tonnes, .slice a0_Thrust_s.p a0_Thrust_s.n a0_Thrust_s.c, .slice a0_Water_s.p a0_Water_s.n a0_Water_s.c, .slice a0_Ice_s.p a0_Ice_s.n a0_Ice_s.c, .int .i64 a0.Slow, .int .i64 a0.Brash, .int .i64 a0.Ridge, .int .i64 a0.Press], .agg #[.int .i64 a1.Conc, .int .i64 a1.Thick, .int .i64 a1.Ridge, .int .i64 a1.Press], .bool a2] w fun e w' => e = .returned (.int .i64 r) ∧ Below w.heap.size w w' := by
 obtain ⟨a0Tp, a0Tn, a0Tc⟩ := a0_Thrust_s
 have ha0_Thrust_l : a0Tn = a0.Thrust.length := ha0_Thrust.1
 subst ha0_Thrust_l
 obtain ⟨a0_Thrust_b, a0To, ha0_Thrust_p, ha0_Thrust_L⟩ := SlAt.lies' ha0_Thrust
 obtain ⟨a0Wp, a0Wn, a0Wc⟩ := a0_Water_s
 have ha0_Water_l : a0Wn = a0.Water.length := ha0_Water.1
 subst ha0_Water_l
 obtain ⟨a0_Water_b, a0Wo, ha0_Water_p, ha0_Water_L⟩ := SlAt.lies' ha0_Water
 obtain ⟨a0Ip, a0In, a0Ic⟩ := a0_Ice_s
 have ha0_Ice_l : a0In = a0.Ice.length := ha0_Ice.1
 subst ha0_Ice_l
 obtain ⟨a0_Ice_b, a0Io, ha0_Ice_p, ha0_Ice_L⟩ := SlAt.lies' ha0_Ice
 unfold m117 at hm
 refine enter (args := [.g [.i a0.Class, .i a0.Power, .i a0.Draught, .i a0.Tonnes, .v (.slice a0Tp a0.Thrust.length a0Tc), .v (.slice a0Wp a0.Water.length a0Wc), .v (.slice a0Ip a0.Ice.length a0Ic), .i a0.Slow, .i a0.Brash, .i a0.Ridge, .i a0.Press], .g [.i a1.Conc, .i a1.Thick, .i a1.Ridge, .i a1.Press], .B a2]) Tryd.func117 rfl (N := 20) rfl (Nat.le_of_ble_eq_true rfl) ?_
 refine aqS ?_
 refine aqT (rows := [_, _, _]) rfl (by kernel_rfl) ⟨
  okp rfl rfl (op_boxN (L := 1) (lN rfl) rfl rfl rfl),
  okp rfl rfl (op_boxN (L := 2) (lN rfl) rfl rfl rfl),
  okp rfl rfl (oqA (lN rfl) rfl),
  trivial⟩ ?_
 refine fqK (s' := (kt 2 (.B a2) :: kt 3 (.p 1 0) :: kt 4 (.p 2 0) :: kb 1 64 11 :: kb 2 108 4 :: sK 1 a0 (.v (.slice a0Tp a0.Thrust.length a0Tc)) (.v (.slice a0Wp a0.Water.length a0Wc)) (.v (.slice a0Ip a0.Ice.length a0Ic)) [kc 2 0 (.i a1.Conc), kc 2 1 (.i a1.Thick), kc 2 2 (.i a1.Ridge), kc 2 3 (.i a1.Press)])) ?_ (kp rfl) rfl
 refine fqT ?_
 refine aqS ?_
 refine aqT (rows := [_]) rfl (by kernel_rfl) ⟨
  okp rfl rfl (oqA (lN rfl) rfl),
  trivial⟩ ?_
 refine fqK (s' := (kt 2 (.B a2) :: kt 3 (.p 1 0) :: kt 4 (.p 2 0) :: kt 7 (.i 0) :: kb 1 64 11 :: kb 2 108 4 :: sK 1 a0 (.v (.slice a0Tp a0.Thrust.length a0Tc)) (.v (.slice a0Wp a0.Water.length a0Wc)) (.v (.slice a0Ip a0.Ice.length a0Ic)) [kc 2 0 (.i a1.Conc), kc 2 1 (.i a1.Thick), kc 2 2 (.i a1.Ridge), kc 2 3 (.i a1.Press)])) ?_ (kp rfl) rfl
 refine fqT ?_
 refine aw_cutM (ι := Int) hm (fun x1 => [kt 7 (.i x1)]) (fun hm => ?_) (fun x1 hm => ?_)
 ·have _z := hm
  refine aqS ?_
  refine aqT (rows := [_]) rfl (by kernel_rfl) ⟨
   okp rfl rfl (oqA (lN rfl) rfl),
   trivial⟩ ?_
  refine fqK (s' := (kt 2 (.B a2) :: kt 3 (.p 1 0) :: kt 4 (.p 2 0) :: kt 7 (.i 0) :: kt 8 (.i 0) :: kb 1 64 11 :: kb 2 108 4 :: sK 1 a0 (.v (.slice a0Tp a0.Thrust.length a0Tc)) (.v (.slice a0Wp a0.Water.length a0Wc)) (.v (.slice a0Ip a0.Ice.length a0Ic)) [kc 2 0 (.i a1.Conc), kc 2 1 (.i a1.Thick), kc 2 2 (.i a1.Ridge), kc 2 3 (.i a1.Press)])) ?_ (kp rfl) rfl
  refine fqT ?_
  refine aw_block ?_
  refine aw_loopC hm (fun x2 => (kt 2 (.B a2) :: kt 3 (.p 1 0) :: kt 4 (.p 2 0) :: kt 7 (.i x2.1) :: kt 8 (.i x2.2) :: kb 1 64 11 :: kb 2 108 4 :: sK 1 a0 (.v (.slice a0Tp a0.Thrust.length a0Tc)) (.v (.slice a0Wp a0.Water.length a0Wc)) (.v (.slice a0Ip a0.Ice.length a0Ic)) [kc 2 0 (.i a1.Conc), kc 2 1 (.i a1.Thick), kc 2 2 (.i a1.Ridge), kc 2 3 (.i a1.Press)])) ⟨rfl, rfl, rfl, rfl, rfl, rfl, rfl, rfl, rfl, rfl, rfl, rfl, rfl, rfl, rfl, rfl, rfl, rfl, rfl, rfl, rfl, rfl, trivial⟩ rfl (fun x2 n2 hm => ?_)
  refine aqS ?_
  refine aqS ?_
  refine aqT (rows := [_, _]) rfl (by kernel_rfl) ⟨
   okp rfl rfl (oqM (lN rfl) rfl),
   okp rfl rfl (oqB (lN rfl) rfl rfl rfl),
   trivial⟩ ?_
  refine fqK (s' := (kt 2 (.B a2) :: kt 3 (.p 1 0) :: kt 4 (.p 2 0) :: kt 7 (.i x2.1) :: kt 8 (.i x2.2) :: kt 10 (.B (decide (x2.2 ≤ 250))) :: kb 1 64 11 :: kb 2 108 4 :: sK 1 a0 (.v (.slice a0Tp a0.Thrust.length a0Tc)) (.v (.slice a0Wp a0.Water.length a0Wc)) (.v (.slice a0Ip a0.Ice.length a0Ic)) [kc 2 0 (.i a1.Conc), kc 2 1 (.i a1.Thick), kc 2 2 (.i a1.Ridge), kc 2 3 (.i a1.Press)])) ?_ (kp rfl) rfl
  refine fqT ?_
  refine aw_cond rfl (fun hz1 => ?_) (fun hz1 => ?_)
  ·have hm := brk_t hz1 hm
   refine aw_skip ?_
   refine fqT ?_
   refine aw_cutM (ι := Int) hm (fun x3 => (kt 2 (.B a2) :: kt 3 (.p 1 0) :: kt 4 (.p 2 0) :: kt 7 (.i x3) :: kt 8 (.i x2.2) :: kb 1 64 11 :: kb 2 108 4 :: sK 1 a0 (.v (.slice a0Tp a0.Thrust.length a0Tc)) (.v (.slice a0Wp a0.Water.length a0Wc)) (.v (.slice a0Ip a0.Ice.length a0Ic)) [kc 2 0 (.i a1.Conc), kc 2 1 (.i a1.Thick), kc 2 2 (.i a1.Ridge), kc 2 3 (.i a1.Press)])) (fun hm => ?_) (fun x3 hm => ?_)
   ·have _z := hm
    refine aw_block ?_
    refine aqS ?_
    obtain ⟨v1, hv1, hm⟩ := bnd_some hm
    refine aqT (rows := [_, _, _, _, _]) rfl (by kernel_rfl) ⟨
     okp rfl rfl (oqL (ys := [.i a0.Class, .i a0.Power, .i a0.Draught, .i a0.Tonnes, .v (.slice a0Tp a0.Thrust.length a0Tc), .v (.slice a0Wp a0.Water.length a0Wc), .v (.slice a0Ip a0.Ice.length a0Ic), .i a0.Slow, .i a0.Brash, .i a0.Ridge, .i a0.Press]) (lN rfl) sh_64 rfl rfl ⟨rfl, rfl, rfl, rfl, rfl, rfl, rfl, rfl, rfl, rfl, rfl, trivial⟩),
     okp rfl rfl (oqL (ys := [.i a1.Conc, .i a1.Thick, .i a1.Ridge, .i a1.Press]) (lN rfl) sh_108 rfl rfl ⟨rfl, rfl, rfl, rfl, trivial⟩),
     okp rfl rfl (oqM (lN rfl) rfl),
     okp rfl rfl (oqM (lN rfl) rfl),
     okp rfl rfl (oqC (x := .B v1) (fs := []) (caps := []) (extra := []) (lN rfl) en_96 rfl ⟨rfl, rfl, rfl⟩ (EvL.cons rfl (EvL.cons rfl (EvL.cons rfl (EvL.cons rfl EvL.nil)))) (fun mm aa ww gg hr hrel => (c96 F a0 ⟨a0Tp, a0.Thrust.length, a0Tc⟩ ⟨a0Wp, a0.Water.length, a0Wc⟩ ⟨a0Ip, a0.Ice.length, a0Ic⟩ a1 x2.2 a2 ww (SlIs.mono ha0_Thrust hrel.below) (SlIs.mono ha0_Water hrel.below) (SlIs.mono ha0_Ice hrel.below) v1 hv1))),
     trivial⟩ ?_
    refine fqK (s' := (kt 2 (.B a2) :: kt 3 (.p 1 0) :: kt 4 (.p 2 0) :: kt 7 (.i x2.1) :: kt 8 (.i x2.2) :: kt 17 (.B v1) :: kb 1 64 11 :: kb 2 108 4 :: sK 1 a0 (.v (.slice a0Tp a0.Thrust.length a0Tc)) (.v (.slice a0Wp a0.Water.length a0Wc)) (.v (.slice a0Ip a0.Ice.length a0Ic)) [kc 2 0 (.i a1.Conc), kc 2 1 (.i a1.Thick), kc 2 2 (.i a1.Ridge), kc 2 3 (.i a1.Press)])) ?_ (kp rfl) rfl
    refine fqT ?_
    refine aw_cond rfl (fun hz2 => ?_) (fun hz2 => ?_)
    ·have hm := brk_t hz2 hm
     refine aqT (rows := [_, _]) rfl (by kernel_rfl) ⟨
      okp rfl rfl (oqM (lN rfl) rfl),
      okp rfl rfl (oqA (lN rfl) rfl),
      trivial⟩ ?_
     refine fqK (s' := (kt 2 (.B a2) :: kt 3 (.p 1 0) :: kt 4 (.p 2 0) :: kt 7 (.i x2.2) :: kt 8 (.i x2.2) :: kb 1 64 11 :: kb 2 108 4 :: sK 1 a0 (.v (.slice a0Tp a0.Thrust.length a0Tc)) (.v (.slice a0Wp a0.Water.length a0Wc)) (.v (.slice a0Ip a0.Ice.length a0Ic)) [kc 2 0 (.i a1.Conc), kc 2 1 (.i a1.Thick), kc 2 2 (.i a1.Ridge), kc 2 3 (.i a1.Press)])) ?_ (kp rfl) rfl
     refine fin_block ?_
     exact fin_cut x2.2 hm ⟨rfl, rfl, rfl, rfl, rfl, rfl, rfl, rfl, rfl, rfl, rfl, rfl, rfl, rfl, rfl, rfl, rfl, rfl, rfl, rfl, rfl, rfl, trivial⟩ rfl
    ·have hm := brk_f hz2 hm
     refine aw_skip ?_
     refine fin_block ?_
     exact fin_cut x2.1 hm ⟨rfl, rfl, rfl, rfl, rfl, rfl, rfl, rfl, rfl, rfl, rfl, rfl, rfl, rfl, rfl, rfl, rfl, rfl, rfl, rfl, rfl, rfl, trivial⟩ rfl
   ·have _z := hm
    obtain ⟨hp3, hm⟩ := chk_some hm
    refine aqT (rows := [_, _, _]) rfl (by kernel_rfl) ⟨
     okp rfl rfl (oqM (lN rfl) rfl),
     okp rfl rfl (oqB (lN rfl) rfl rfl (nw_add hp3)),
     okp rfl rfl (oqA (lN rfl) rfl),
     trivial⟩ ?_
    refine fqK (s' := (kt 2 (.B a2) :: kt 3 (.p 1 0) :: kt 4 (.p 2 0) :: kt 7 (.i x3) :: kt 8 (.i (x2.2 + 1)) :: kb 1 64 11 :: kb 2 108 4 :: sK 1 a0 (.v (.slice a0Tp a0.Thrust.length a0Tc)) (.v (.slice a0Wp a0.Water.length a0Wc)) (.v (.slice a0Ip a0.Ice.length a0Ic)) [kc 2 0 (.i a1.Conc), kc 2 1 (.i a1.Thick), kc 2 2 (.i a1.Ridge), kc 2 3 (.i a1.Press)])) ?_ (kp rfl) rfl
    exact fin_cut (x3, x2.2 + 1) hm ⟨rfl, rfl, rfl, rfl, rfl, rfl, rfl, rfl, rfl, rfl, rfl, rfl, rfl, rfl, rfl, rfl, rfl, rfl, rfl, rfl, rfl, rfl, trivial⟩ rfl
  ·have hm := brk_f hz1 hm
   refine aw_exit ?_
   refine fin_then_exit ?_
   refine fin_then_exit ?_
   refine fin_block_exit ?_
   exact fin_cut x2.1 hm ⟨rfl, trivial⟩ rfl
 ·have _z := hm
  refine aqS ?_
  refine aqT (rows := [_, _]) rfl (by kernel_rfl) ⟨
   okp rfl rfl (oqM (lN rfl) rfl),
   okp rfl rfl (oqA (lN rfl) rfl),
   trivial⟩ ?_
  refine fqK (s' := [kt 6 (.i x1)]) ?_ (kp rfl) rfl
  refine fqT ?_
  refine aw_ret ?_
  refine post_ret (x := .i x1) rfl rfl (rqT rfl resOK_nil) rfl (fun mm aa ww hr => ?_)
  have hm := Option.some.inj hm
  subst hm
  exact ⟨rfl, hr.below⟩

def m121 (F : Nat) (a0 : Ice) : Option (Bool) :=
 bnd (m92 F a0.Conc 0 100) (fun v1 => bnd (brk (v1) (m92 F a0.Thick 0 400) (some default)) (fun v2 => bnd (brk ((v1 && v2)) (m92 F a0.Ridge 0 100) (some default)) (fun v3 => bnd (brk (((v1 && v2) && v3)) (m92 F a0.Press 0 3) (some default)) (fun v4 => some (((v1 && v2) && v3) && v4)))))

theorem c121 (F : Nat) (a0 : Ice) (w : World)  (r : Bool) (hm : m121 F a0 = some r) : Calls Tryd.prog 121 #[.agg #[.int .i64 a0.Conc, .int .i64 a0.Thick, .int .i64 a0.Ridge, .int .i64 a0.Press]] w fun e w' => e = .returned (.bool r) ∧ Below w.heap.size w w' := by
 unfold m121 at hm
 refine enter (args := [.g [.i a0.Conc, .i a0.Thick, .i a0.Ridge, .i a0.Press]]) Tryd.func121 rfl (N := 21) rfl (Nat.le_of_ble_eq_true rfl) ?_
 refine aqS ?_
 refine aqT (rows := [_, _]) rfl (by kernel_rfl) ⟨
  okp rfl rfl (op_boxN (L := 1) (lN rfl) rfl rfl rfl),
  okp rfl rfl (oqA (lN rfl) rfl),
  trivial⟩ ?_
 refine fqK (s' := [kt 1 (.p 1 0), kb 1 108 4, kc 1 0 (.i a0.Conc), kc 1 1 (.i a0.Thick), kc 1 2 (.i a0.Ridge), kc 1 3 (.i a0.Press)]) ?_ (kp rfl) rfl
 refine fqT ?_
 refine aqS ?_
 obtain ⟨v1, hv1, hm⟩ := bnd_some hm
 obtain ⟨v2, hv2, hm⟩ := bnd_some hm
 obtain ⟨v3, hv3, hm⟩ := bnd_some hm
 obtain ⟨v4, hv4, hm⟩ := bnd_some hm
 refine aqT (rows := [_, _, _, _, _, _, _, _, _, _, _, _, _, _, _, _, _, _, _]) rfl (by kernel_rfl) ⟨
  okp rfl rfl (oqF (lN rfl) rfl fo_108_0),
  okp rfl rfl (oq1 (lN rfl) sh_3 rfl rfl),
  okp rfl rfl (oqC (x := .B v1) (fs := []) (caps := []) (extra := []) (lN rfl) en_92 rfl ⟨rfl, rfl, rfl⟩ (EvL.cons rfl (EvL.cons rfl (EvL.cons rfl EvL.nil))) (fun mm aa ww gg hr hrel => (c92 F a0.Conc 0 100 ww v1 hv1))),
  okp rfl rfl (oqM (lN rfl) rfl),
  ok_if (lN rfl) rfl rfl rfl rfl rfl rfl (fun hg1 => oqF (lN rfl) (force_x rfl) fo_108_1),
  ok_if (lN rfl) rfl rfl rfl rfl rfl rfl (fun hg2 => oq1 (lN rfl) sh_3 (force_eq (beq_iff_eq.2 hg2) rfl) rfl),
  ok_if (lN rfl) rfl rfl rfl rfl rfl rfl (fun hg3 => oqC (x := .B v2) (fs := []) (caps := []) (extra := []) (lN rfl) en_92 rfl ⟨rfl, rfl, rfl⟩ (EvL.cons (force_eq (beq_iff_eq.2 hg3) rfl) (EvL.cons rfl (EvL.cons rfl EvL.nil))) (fun mm aa ww gg hr hrel => (c92 F a0.Thick 0 400 ww v2 (brk_t hg3 hv2)))),
  okp rfl rfl (op_and (lN rfl) rfl rfl),
  okp rfl rfl (oqM (lN rfl) rfl),
  ok_if (lN rfl) rfl rfl rfl rfl rfl rfl (fun hg4 => oqF (lN rfl) (force_x rfl) fo_108_2),
  ok_if (lN rfl) rfl rfl rfl rfl rfl rfl (fun hg5 => oq1 (lN rfl) sh_3 (force_eq (beq_iff_eq.2 hg5) rfl) rfl),
  ok_if (lN rfl) rfl rfl rfl rfl rfl rfl (fun hg6 => oqC (x := .B v3) (fs := []) (caps := []) (extra := []) (lN rfl) en_92 rfl ⟨rfl, rfl, rfl⟩ (EvL.cons (force_eq (beq_iff_eq.2 hg6) rfl) (EvL.cons rfl (EvL.cons rfl EvL.nil))) (fun mm aa ww gg hr hrel => (c92 F a0.Ridge 0 100 ww v3 (brk_t hg6 hv3)))),
  okp rfl rfl (op_and (lN rfl) rfl rfl),
  okp rfl rfl (oqM (lN rfl) rfl),
  ok_if (lN rfl) rfl rfl rfl rfl rfl rfl (fun hg7 => oqF (lN rfl) (force_x rfl) fo_108_3),
  ok_if (lN rfl) rfl rfl rfl rfl rfl rfl (fun hg8 => oq1 (lN rfl) sh_3 (force_eq (beq_iff_eq.2 hg8) rfl) rfl),
  ok_if (lN rfl) rfl rfl rfl rfl rfl rfl (fun hg9 => oqC (x := .B v4) (fs := []) (caps := []) (extra := []) (lN rfl) en_92 rfl ⟨rfl, rfl, rfl⟩ (EvL.cons (force_eq (beq_iff_eq.2 hg9) rfl) (EvL.cons rfl (EvL.cons rfl EvL.nil))) (fun mm aa ww gg hr hrel => (c92 F a0.Press 0 3 ww v4 (brk_t hg9 hv4)))),
  okp rfl rfl (op_and (lN rfl) rfl rfl),
  okp rfl rfl (oqA (lN rfl) rfl),
  trivial⟩ ?_
 refine fqK (s' := [kt 2 (.B (((v1 && v2) && v3) && v4))]) ?_ (kp rfl) rfl
 refine fqT ?_
 refine aw_ret ?_
 refine post_ret (x := .B (((v1 && v2) && v3) && v4)) rfl rfl (rqT rfl resOK_nil) rfl (fun mm aa ww hr => ?_)
 have hm := Option.some.inj hm
 subst hm
 exact ⟨rfl, hr.below⟩

def m116 (F : Nat) (a0 : Ship) (a1 : Ice) (a2 : Int) : Option (Int) :=
 bnd (m47 F a0) (fun v1 => brk (v1 != 0) (some v1) (bnd (m121 F a1) (fun v2 => brk (!v2) (some 20) (bnd (m92 F a2 0 250) (fun v3 => brk (!v3) (some 6) (some 0))))))

theorem c116 (F : Nat) (a0 : Ship) (a0_Thrust_s : SlV) (a0_Water_s : SlV) (a0_Ice_s : SlV) (a1 : Ice) (a2 : Int) (w : World) (ha0_Thrust : SlIs encPt 2 w a0_Thrust_s a0.Thrust) (ha0_Water : SlIs encPt 2 w a0_Water_s a0.Water) (ha0_Ice : SlIs encPt 2 w a0_Ice_s a0.Ice) (r : Int) (hm : m116 F a0 a1 a2 = some r) : Calls Tryd.prog 116 #[.agg #[.int .i64 a0.Class, .int .i64 a0.Power, .int .i64 a0.Draught, .int .i64 a0.Tonnes, .slice a0_Thrust_s.p a0_Thrust_s.n a0_Thrust_s.c, .slice a0_Water_s.p a0_Water_s.n a0_Water_s.c, .slice a0_Ice_s.p a0_Ice_s.n a0_Ice_s.c, .int .i64 a0.Slow, .int .i64 a0.Brash, .int .i64 a0.Ridge, .int .i64 a0.Press], .agg #[.int .i64 a1.Conc, .int .i64 a1.Thick, .int .i64 a1.Ridge, .int .i64 a1.Press], .int .i64 a2] w fun e w' => e = .returned (.int .i64 r) ∧ Below w.heap.size w w' := by
 obtain ⟨a0Tp, a0Tn, a0Tc⟩ := a0_Thrust_s
 have ha0_Thrust_l : a0Tn = a0.Thrust.length := ha0_Thrust.1
 subst ha0_Thrust_l
 obtain ⟨a0_Thrust_b, a0To, ha0_Thrust_p, ha0_Thrust_L⟩ := SlAt.lies' ha0_Thrust
 obtain ⟨a0Wp, a0Wn, a0Wc⟩ := a0_Water_s
 have ha0_Water_l : a0Wn = a0.Water.length := ha0_Water.1
 subst ha0_Water_l
 obtain ⟨a0_Water_b, a0Wo, ha0_Water_p, ha0_Water_L⟩ := SlAt.lies' ha0_Water
 obtain ⟨a0Ip, a0In, a0Ic⟩ := a0_Ice_s
 have ha0_Ice_l : a0In = a0.Ice.length := ha0_Ice.1
 subst ha0_Ice_l
 obtain ⟨a0_Ice_b, a0Io, ha0_Ice_p, ha0_Ice_L⟩ := SlAt.lies' ha0_Ice
 unfold m116 at hm
 refine enter (args := [.g [.i a0.Class, .i a0.Power, .i a0.Draught, .i a0.Tonnes, .v (.slice a0Tp a0.Thrust.length a0Tc), .v (.slice a0Wp a0.Water.length a0Wc), .v (.slice a0Ip a0.Ice.length a0Ic), .i a0.Slow, .i a0.Brash, .i a0.Ridge, .i a0.Press], .g [.i a1.Conc, .i a1.Thick, .i a1.Ridge, .i a1.Press], .i a2]) Tryd.func116 rfl (N := 19) rfl (Nat.le_of_ble_eq_true rfl) ?_
 refine aqS ?_
 refine aqT (rows := [_, _, _]) rfl (by kernel_rfl) ⟨
  okp rfl rfl (op_boxN (L := 1) (lN rfl) rfl rfl rfl),
  okp rfl rfl (op_boxN (L := 2) (lN rfl) rfl rfl rfl),
  okp rfl rfl (oqA (lN rfl) rfl),
  trivial⟩ ?_
 refine fqK (s' := (kt 2 (.i a2) :: kt 3 (.p 1 0) :: kt 4 (.p 2 0) :: kb 1 64 11 :: kb 2 108 4 :: sK 1 a0 (.v (.slice a0Tp a0.Thrust.length a0Tc)) (.v (.slice a0Wp a0.Water.length a0Wc)) (.v (.slice a0Ip a0.Ice.length a0Ic)) [kc 2 0 (.i a1.Conc), kc 2 1 (.i a1.Thick), kc 2 2 (.i a1.Ridge), kc 2 3 (.i a1.Press)])) ?_ (kp rfl) rfl
 refine fqT ?_
 refine aqS ?_
 refine aqS ?_
 obtain ⟨v1, hv1, hm⟩ := bnd_some hm
 refine aqT (rows := [_, _, _]) rfl (by kernel_rfl) ⟨
  okp rfl rfl (oqL (ys := [.i a0.Class, .i a0.Power, .i a0.Draught, .i a0.Tonnes, .v (.slice a0Tp a0.Thrust.length a0Tc), .v (.slice a0Wp a0.Water.length a0Wc), .v (.slice a0Ip a0.Ice.length a0Ic), .i a0.Slow, .i a0.Brash, .i a0.Ridge, .i a0.Press]) (lN rfl) sh_64 rfl rfl ⟨rfl, rfl, rfl, rfl, rfl, rfl, rfl, rfl, rfl, rfl, rfl, trivial⟩),
  okp rfl rfl (oqC (x := .i v1) (fs := []) (caps := []) (extra := []) (lN rfl) en_47 rfl ⟨rfl, rfl, rfl⟩ (EvL.cons rfl EvL.nil) (fun mm aa ww gg hr hrel => (c47 F a0 ⟨a0Tp, a0.Thrust.length, a0Tc⟩ ⟨a0Wp, a0.Water.length, a0Wc⟩ ⟨a0Ip, a0.Ice.length, a0Ic⟩ ww (SlIs.mono ha0_Thrust hrel.below) (SlIs.mono ha0_Water hrel.below) (SlIs.mono ha0_Ice hrel.below) v1 hv1))),
  okp rfl rfl (oqA (lN rfl) rfl),
  trivial⟩ ?_
 refine fqK (s' := [kt 2 (.i a2), kt 4 (.p 2 0), kt 7 (.i v1), kb 2 108 4, kc 2 0 (.i a1.Conc), kc 2 1 (.i a1.Thick), kc 2 2 (.i a1.Ridge), kc 2 3 (.i a1.Press)]) ?_ (kp rfl) rfl
 refine fqT ?_
 refine aqS ?_
 refine aqT (rows := [_, _]) rfl (by kernel_rfl) ⟨
  okp rfl rfl (oqM (lN rfl) rfl),
  okp rfl rfl (oqB (lN rfl) rfl rfl rfl),
  trivial⟩ ?_
 refine fqK (s' := [kt 2 (.i a2), kt 4 (.p 2 0), kt 7 (.i v1), kt 11 (.B (v1 != 0)), kb 2 108 4, kc 2 0 (.i a1.Conc), kc 2 1 (.i a1.Thick), kc 2 2 (.i a1.Ridge), kc 2 3 (.i a1.Press)]) ?_ (kp rfl) rfl
 refine fqT ?_
 refine aw_cond rfl (fun hz1 => ?_) (fun hz1 => ?_)
 ·have hm := brk_t hz1 hm
  refine aqS ?_
  refine aqT (rows := [_, _]) rfl (by kernel_rfl) ⟨
   okp rfl rfl (oqM (lN rfl) rfl),
   okp rfl rfl (oqA (lN rfl) rfl),
   trivial⟩ ?_
  refine fqK (s' := [kt 6 (.i v1)]) ?_ (kp rfl) rfl
  refine fqT ?_
  refine aw_ret ?_
  refine fin_then_ret ?_
  refine post_ret (x := .i v1) rfl rfl (rqT rfl resOK_nil) rfl (fun mm aa ww hr => ?_)
  have hm := Option.some.inj hm
  subst hm
  exact ⟨rfl, hr.below⟩
 ·have hm := brk_f hz1 hm
  refine aw_skip ?_
  refine fqT ?_
  refine aqS ?_
  refine aqS ?_
  obtain ⟨v2, hv2, hm⟩ := bnd_some hm
  refine aqT (rows := [_, _, _]) rfl (by kernel_rfl) ⟨
   okp rfl rfl (oqL (ys := [.i a1.Conc, .i a1.Thick, .i a1.Ridge, .i a1.Press]) (lN rfl) sh_108 rfl rfl ⟨rfl, rfl, rfl, rfl, trivial⟩),
   okp rfl rfl (oqC (x := .B v2) (fs := []) (caps := []) (extra := []) (lN rfl) en_121 rfl ⟨rfl, rfl, rfl⟩ (EvL.cons rfl EvL.nil) (fun mm aa ww gg hr hrel => (c121 F a1 ww v2 hv2))),
   okp rfl rfl (op_not (lN rfl) rfl),
   trivial⟩ ?_
  refine fqK (s' := [kt 2 (.i a2), kt 15 (.B (!v2))]) ?_ (kp rfl) rfl
  refine fqT ?_
  refine aw_cond rfl (fun hz2 => ?_) (fun hz2 => ?_)
  ·have hm := brk_t hz2 hm
   refine aqS ?_
   refine aqT (rows := [_]) rfl (by kernel_rfl) ⟨
    okp rfl rfl (oqA (lN rfl) rfl),
    trivial⟩ ?_
   refine fqK (s' := [kt 6 (.i 20)]) ?_ (kp rfl) rfl
   refine fqT ?_
   refine aw_ret ?_
   refine fin_then_ret ?_
   refine post_ret (x := .i 20) rfl rfl (rqT rfl resOK_nil) rfl (fun mm aa ww hr => ?_)
   have hm := Option.some.inj hm
   subst hm
   exact ⟨rfl, hr.below⟩
  ·have hm := brk_f hz2 hm
   refine aw_skip ?_
   refine fqT ?_
   refine aqS ?_
   refine aqS ?_
   obtain ⟨v3, hv3, hm⟩ := bnd_some hm
   refine aqT (rows := [_, _, _]) rfl (by kernel_rfl) ⟨
    okp rfl rfl (oqM (lN rfl) rfl),
    okp rfl rfl (oqC (x := .B v3) (fs := []) (caps := []) (extra := []) (lN rfl) en_92 rfl ⟨rfl, rfl, rfl⟩ (EvL.cons rfl (EvL.cons rfl (EvL.cons rfl EvL.nil))) (fun mm aa ww gg hr hrel => (c92 F a2 0 250 ww v3 hv3))),
    okp rfl rfl (op_not (lN rfl) rfl),
    trivial⟩ ?_
   refine fqK (s' := [kt 18 (.B (!v3))]) ?_ (kp rfl) rfl
   refine fqT ?_
   refine aw_cond rfl (fun hz3 => ?_) (fun hz3 => ?_)
   ·have hm := brk_t hz3 hm
    refine aqS ?_
    refine aqT (rows := [_]) rfl (by kernel_rfl) ⟨
     okp rfl rfl (oqA (lN rfl) rfl),
     trivial⟩ ?_
    refine fqK (s' := [kt 6 (.i 6)]) ?_ (kp rfl) rfl
    refine fqT ?_
    refine aw_ret ?_
    refine fin_then_ret ?_
    refine post_ret (x := .i 6) rfl rfl (rqT rfl resOK_nil) rfl (fun mm aa ww hr => ?_)
    have hm := Option.some.inj hm
    subst hm
    exact ⟨rfl, hr.below⟩
   ·have hm := brk_f hz3 hm
    refine aw_skip ?_
    refine fqT ?_
    refine aqS ?_
    refine aqT (rows := [_]) rfl (by kernel_rfl) ⟨
     okp rfl rfl (oqA (lN rfl) rfl),
     trivial⟩ ?_
    refine fqK (s' := [kt 6 (.i 0)]) ?_ (kp rfl) rfl
    refine fqT ?_
    refine aw_ret ?_
    refine post_ret (x := .i 0) rfl rfl (rqT rfl resOK_nil) rfl (fun mm aa ww hr => ?_)
    have hm := Option.some.inj hm
    subst hm
    exact ⟨rfl, hr.below⟩

def m102 (_F : Nat) (a0 : Span) (a1 : Int) : Option (Bool) :=
 some (((decide (a0.Lo ≥ 0)) && (decide (a0.Hi ≤ a1))) && (decide (a0.Lo ≤ a0.Hi)))

theorem c102 (F : Nat) (a0 : Span) (a1 : Int) (w : World)  (r : Bool) (hm : m102 F a0 a1 = some r) : Calls Tryd.prog 102 #[.agg #[.int .i64 a0.Lo, .int .i64 a0.Hi], .int .i64 a1] w fun e w' => e = .returned (.bool r) ∧ Below w.heap.size w w' := by
 unfold m102 at hm
 refine enter (args := [.g [.i a0.Lo, .i a0.Hi], .i a1]) Tryd.func102 rfl (N := 21) rfl (Nat.le_of_ble_eq_true rfl) ?_
 refine aqS ?_
 refine aqT (rows := [_, _]) rfl (by kernel_rfl) ⟨
  okp rfl rfl (op_boxN (L := 1) (lN rfl) rfl rfl rfl),
  okp rfl rfl (oqA (lN rfl) rfl),
  trivial⟩ ?_
 refine fqK (s' := [kt 1 (.i a1), kt 2 (.p 1 0), kb 1 32 2, kc 1 0 (.i a0.Lo), kc 1 1 (.i a0.Hi)]) ?_ (kp rfl) rfl
 refine fqT ?_
 refine aqS ?_
 refine aqT (rows := [_, _, _, _, _, _, _, _, _, _, _, _, _, _, _, _, _]) rfl (by kernel_rfl) ⟨
  okp rfl rfl (oqF (lN rfl) rfl fo_32_0),
  okp rfl rfl (oq1 (lN rfl) sh_3 rfl rfl),
  okp rfl rfl (oqB (lN rfl) rfl rfl rfl),
  okp rfl rfl (oqM (lN rfl) rfl),
  ok_if (lN rfl) rfl rfl rfl rfl rfl rfl (fun hg1 => oqF (lN rfl) (force_x rfl) fo_32_1),
  ok_if (lN rfl) rfl rfl rfl rfl rfl rfl (fun hg2 => oq1 (lN rfl) sh_3 (force_eq (beq_iff_eq.2 hg2) rfl) rfl),
  ok_if (lN rfl) rfl rfl rfl rfl rfl rfl (fun hg3 => oqM (lN rfl) (force_x rfl)),
  ok_if (lN rfl) rfl rfl rfl rfl rfl rfl (fun hg4 => oqB (lN rfl) (force_eq (beq_iff_eq.2 hg4) rfl) (force_eq (beq_iff_eq.2 hg4) rfl) rfl),
  okp rfl rfl (op_and (lN rfl) rfl rfl),
  okp rfl rfl (oqM (lN rfl) rfl),
  ok_if (lN rfl) rfl rfl rfl rfl rfl rfl (fun hg5 => oqF (lN rfl) (force_x rfl) fo_32_0),
  ok_if (lN rfl) rfl rfl rfl rfl rfl rfl (fun hg6 => oq1 (lN rfl) sh_3 (force_eq (beq_iff_eq.2 hg6) rfl) rfl),
  ok_if (lN rfl) rfl rfl rfl rfl rfl rfl (fun hg7 => oqF (lN rfl) (force_x rfl) fo_32_1),
  ok_if (lN rfl) rfl rfl rfl rfl rfl rfl (fun hg8 => oq1 (lN rfl) sh_3 (force_eq (beq_iff_eq.2 hg8) rfl) rfl),
  ok_if (lN rfl) rfl rfl rfl rfl rfl rfl (fun hg9 => oqB (lN rfl) (force_eq (beq_iff_eq.2 hg9) rfl) (force_eq (beq_iff_eq.2 hg9) rfl) rfl),
  okp rfl rfl (op_and (lN rfl) rfl rfl),
  okp rfl rfl (oqA (lN rfl) rfl),
  trivial⟩ ?_
 refine fqK (s' := [kt 4 (.B (((decide (a0.Lo ≥ 0)) && (decide (a0.Hi ≤ a1))) && (decide (a0.Lo ≤ a0.Hi))))]) ?_ (kp rfl) rfl
 refine fqT ?_
 refine aw_ret ?_
 refine post_ret (x := .B (((decide (a0.Lo ≥ 0)) && (decide (a0.Hi ≤ a1))) && (decide (a0.Lo ≤ a0.Hi)))) rfl rfl (rqT rfl resOK_nil) rfl (fun mm aa ww hr => ?_)
 have hm := Option.some.inj hm
 subst hm
 exact ⟨rfl, hr.below⟩

def m93 (F : Nat) (a0 : Cell) : Option (Bool) :=
 bnd (m102 F a0.Conc 100) (fun v1 => bnd (brk (v1) (m102 F a0.Thick 400) (some default)) (fun v2 => bnd (brk ((v1 && v2)) (m102 F a0.Ridge 100) (some default)) (fun v3 => bnd (brk (((v1 && v2) && v3)) (m102 F a0.Press 3) (some default)) (fun v4 => some (((v1 && v2) && v3) && v4)))))

theorem c93 (F : Nat) (a0 : Cell) (w : World)  (r : Bool) (hm : m93 F a0 = some r) : Calls Tryd.prog 93 #[.agg #[.int .i64 a0.Conc.Lo, .int .i64 a0.Conc.Hi, .int .i64 a0.Thick.Lo, .int .i64 a0.Thick.Hi, .int .i64 a0.Ridge.Lo, .int .i64 a0.Ridge.Hi, .int .i64 a0.Press.Lo, .int .i64 a0.Press.Hi]] w fun e w' => e = .returned (.bool r) ∧ Below w.heap.size w w' := by
 unfold m93 at hm
 refine enter (args := [.g [.i a0.Conc.Lo, .i a0.Conc.Hi, .i a0.Thick.Lo, .i a0.Thick.Hi, .i a0.Ridge.Lo, .i a0.Ridge.Hi, .i a0.Press.Lo, .i a0.Press.Hi]]) Tryd.func93 rfl (N := 21) rfl (Nat.le_of_ble_eq_true rfl) ?_
 refine aqS ?_
 refine aqT (rows := [_, _]) rfl (by kernel_rfl) ⟨
  okp rfl rfl (op_boxN (L := 1) (lN rfl) rfl rfl rfl),
  okp rfl rfl (oqA (lN rfl) rfl),
  trivial⟩ ?_
 refine fqK (s' := [kt 1 (.p 1 0), kb 1 72 8, kc 1 0 (.i a0.Conc.Lo), kc 1 1 (.i a0.Conc.Hi), kc 1 2 (.i a0.Thick.Lo), kc 1 3 (.i a0.Thick.Hi), kc 1 4 (.i a0.Ridge.Lo), kc 1 5 (.i a0.Ridge.Hi), kc 1 6 (.i a0.Press.Lo), kc 1 7 (.i a0.Press.Hi)]) ?_ (kp rfl) rfl
 refine fqT ?_
 refine aqS ?_
 obtain ⟨v1, hv1, hm⟩ := bnd_some hm
 obtain ⟨v2, hv2, hm⟩ := bnd_some hm
 obtain ⟨v3, hv3, hm⟩ := bnd_some hm
 obtain ⟨v4, hv4, hm⟩ := bnd_some hm
 refine aqT (rows := [_, _, _, _, _, _, _, _, _, _, _, _, _, _, _, _, _, _, _]) rfl (by kernel_rfl) ⟨
  okp rfl rfl (oqF (lN rfl) rfl fo_72_0),
  okp rfl rfl (oqL (ys := [.i a0.Conc.Lo, .i a0.Conc.Hi]) (lN rfl) sh_32 rfl rfl ⟨rfl, rfl, trivial⟩),
  okp rfl rfl (oqC (x := .B v1) (fs := []) (caps := []) (extra := []) (lN rfl) en_102 rfl ⟨rfl, rfl, rfl⟩ (EvL.cons rfl (EvL.cons rfl EvL.nil)) (fun mm aa ww gg hr hrel => (c102 F a0.Conc 100 ww v1 hv1))),
  okp rfl rfl (oqM (lN rfl) rfl),
  ok_if (lN rfl) rfl rfl rfl rfl rfl rfl (fun hg1 => oqF (lN rfl) (force_x rfl) fo_72_1),
  ok_if (lN rfl) rfl rfl rfl rfl rfl rfl (fun hg2 => oqL (ys := [.i a0.Thick.Lo, .i a0.Thick.Hi]) (lN rfl) sh_32 (force_eq (beq_iff_eq.2 hg2) rfl) rfl ⟨rfl, rfl, trivial⟩),
  ok_if (lN rfl) rfl rfl rfl rfl rfl rfl (fun hg3 => oqC (x := .B v2) (fs := []) (caps := []) (extra := []) (lN rfl) en_102 rfl ⟨rfl, rfl, rfl⟩ (EvL.cons (force_eq (beq_iff_eq.2 hg3) rfl) (EvL.cons rfl EvL.nil)) (fun mm aa ww gg hr hrel => (c102 F a0.Thick 400 ww v2 (brk_t hg3 hv2)))),
  okp rfl rfl (op_and (lN rfl) rfl rfl),
  okp rfl rfl (oqM (lN rfl) rfl),
  ok_if (lN rfl) rfl rfl rfl rfl rfl rfl (fun hg4 => oqF (lN rfl) (force_x rfl) fo_72_2),
  ok_if (lN rfl) rfl rfl rfl rfl rfl rfl (fun hg5 => oqL (ys := [.i a0.Ridge.Lo, .i a0.Ridge.Hi]) (lN rfl) sh_32 (force_eq (beq_iff_eq.2 hg5) rfl) rfl ⟨rfl, rfl, trivial⟩),
  ok_if (lN rfl) rfl rfl rfl rfl rfl rfl (fun hg6 => oqC (x := .B v3) (fs := []) (caps := []) (extra := []) (lN rfl) en_102 rfl ⟨rfl, rfl, rfl⟩ (EvL.cons (force_eq (beq_iff_eq.2 hg6) rfl) (EvL.cons rfl EvL.nil)) (fun mm aa ww gg hr hrel => (c102 F a0.Ridge 100 ww v3 (brk_t hg6 hv3)))),
  okp rfl rfl (op_and (lN rfl) rfl rfl),
  okp rfl rfl (oqM (lN rfl) rfl),
  ok_if (lN rfl) rfl rfl rfl rfl rfl rfl (fun hg7 => oqF (lN rfl) (force_x rfl) fo_72_3),
  ok_if (lN rfl) rfl rfl rfl rfl rfl rfl (fun hg8 => oqL (ys := [.i a0.Press.Lo, .i a0.Press.Hi]) (lN rfl) sh_32 (force_eq (beq_iff_eq.2 hg8) rfl) rfl ⟨rfl, rfl, trivial⟩),
  ok_if (lN rfl) rfl rfl rfl rfl rfl rfl (fun hg9 => oqC (x := .B v4) (fs := []) (caps := []) (extra := []) (lN rfl) en_102 rfl ⟨rfl, rfl, rfl⟩ (EvL.cons (force_eq (beq_iff_eq.2 hg9) rfl) (EvL.cons rfl EvL.nil)) (fun mm aa ww gg hr hrel => (c102 F a0.Press 3 ww v4 (brk_t hg9 hv4)))),
  okp rfl rfl (op_and (lN rfl) rfl rfl),
  okp rfl rfl (oqA (lN rfl) rfl),
  trivial⟩ ?_
 refine fqK (s' := [kt 2 (.B (((v1 && v2) && v3) && v4))]) ?_ (kp rfl) rfl
 refine fqT ?_
 refine aw_ret ?_
 refine post_ret (x := .B (((v1 && v2) && v3) && v4)) rfl rfl (rqT rfl resOK_nil) rfl (fun mm aa ww hr => ?_)
 have hm := Option.some.inj hm
 subst hm
 exact ⟨rfl, hr.below⟩

def m101 (F : Nat) (a0 : Ship) (a1 : Cell) : Option (Int) :=
 bnd (m47 F a0) (fun v1 => brk (v1 != 0) (some v1) (bnd (m93 F a1) (fun v2 => brk (!v2) (some 20) (some 0))))

theorem c101 (F : Nat) (a0 : Ship) (a0_Thrust_s : SlV) (a0_Water_s : SlV) (a0_Ice_s : SlV) (a1 : Cell) (w : World) (ha0_Thrust : SlIs encPt 2 w a0_Thrust_s a0.Thrust) (ha0_Water : SlIs encPt 2 w a0_Water_s a0.Water) (ha0_Ice : SlIs encPt 2 w a0_Ice_s a0.Ice) (r : Int) (hm : m101 F a0 a1 = some r) : Calls Tryd.prog 101 #[.agg #[.int .i64 a0.Class, .int .i64 a0.Power, .int .i64 a0.Draught, .int .i64 a0.Tonnes, .slice a0_Thrust_s.p a0_Thrust_s.n a0_Thrust_s.c, .slice a0_Water_s.p a0_Water_s.n a0_Water_s.c, .slice a0_Ice_s.p a0_Ice_s.n a0_Ice_s.c, .int .i64 a0.Slow, .int .i64 a0.Brash, .int .i64 a0.Ridge, .int .i64 a0.Press], .agg #[.int .i64 a1.Conc.Lo, .int .i64 a1.Conc.Hi, .int .i64 a1.Thick.Lo, .int .i64 a1.Thick.Hi, .int .i64 a1.Ridge.Lo, .int .i64 a1.Ridge.Hi, .int .i64 a1.Press.Lo, .int .i64 a1.Press.Hi]] w fun e w' => e = .returned (.int .i64 r) ∧ Below w.heap.size w w' := by
 obtain ⟨a0Tp, a0Tn, a0Tc⟩ := a0_Thrust_s
 have ha0_Thrust_l : a0Tn = a0.Thrust.length := ha0_Thrust.1
 subst ha0_Thrust_l
 obtain ⟨a0_Thrust_b, a0To, ha0_Thrust_p, ha0_Thrust_L⟩ := SlAt.lies' ha0_Thrust
 obtain ⟨a0Wp, a0Wn, a0Wc⟩ := a0_Water_s
 have ha0_Water_l : a0Wn = a0.Water.length := ha0_Water.1
 subst ha0_Water_l
 obtain ⟨a0_Water_b, a0Wo, ha0_Water_p, ha0_Water_L⟩ := SlAt.lies' ha0_Water
 obtain ⟨a0Ip, a0In, a0Ic⟩ := a0_Ice_s
 have ha0_Ice_l : a0In = a0.Ice.length := ha0_Ice.1
 subst ha0_Ice_l
 obtain ⟨a0_Ice_b, a0Io, ha0_Ice_p, ha0_Ice_L⟩ := SlAt.lies' ha0_Ice
 unfold m101 at hm
 refine enter (args := [.g [.i a0.Class, .i a0.Power, .i a0.Draught, .i a0.Tonnes, .v (.slice a0Tp a0.Thrust.length a0Tc), .v (.slice a0Wp a0.Water.length a0Wc), .v (.slice a0Ip a0.Ice.length a0Ic), .i a0.Slow, .i a0.Brash, .i a0.Ridge, .i a0.Press], .g [.i a1.Conc.Lo, .i a1.Conc.Hi, .i a1.Thick.Lo, .i a1.Thick.Hi, .i a1.Ridge.Lo, .i a1.Ridge.Hi, .i a1.Press.Lo, .i a1.Press.Hi]]) Tryd.func101 rfl (N := 14) rfl (Nat.le_of_ble_eq_true rfl) ?_
 refine aqS ?_
 refine aqT (rows := [_, _, _]) rfl (by kernel_rfl) ⟨
  okp rfl rfl (op_boxN (L := 1) (lN rfl) rfl rfl rfl),
  okp rfl rfl (op_boxN (L := 2) (lN rfl) rfl rfl rfl),
  okp rfl rfl (oqA (lN rfl) rfl),
  trivial⟩ ?_
 refine fqK (s' := (kt 2 (.p 1 0) :: kt 3 (.p 2 0) :: kb 1 64 11 :: kb 2 72 8 :: sK 1 a0 (.v (.slice a0Tp a0.Thrust.length a0Tc)) (.v (.slice a0Wp a0.Water.length a0Wc)) (.v (.slice a0Ip a0.Ice.length a0Ic)) [kc 2 0 (.i a1.Conc.Lo), kc 2 1 (.i a1.Conc.Hi), kc 2 2 (.i a1.Thick.Lo), kc 2 3 (.i a1.Thick.Hi), kc 2 4 (.i a1.Ridge.Lo), kc 2 5 (.i a1.Ridge.Hi), kc 2 6 (.i a1.Press.Lo), kc 2 7 (.i a1.Press.Hi)])) ?_ (kp rfl) rfl
 refine fqT ?_
 refine aqS ?_
 refine aqS ?_
 obtain ⟨v1, hv1, hm⟩ := bnd_some hm
 refine aqT (rows := [_, _, _]) rfl (by kernel_rfl) ⟨
  okp rfl rfl (oqL (ys := [.i a0.Class, .i a0.Power, .i a0.Draught, .i a0.Tonnes, .v (.slice a0Tp a0.Thrust.length a0Tc), .v (.slice a0Wp a0.Water.length a0Wc), .v (.slice a0Ip a0.Ice.length a0Ic), .i a0.Slow, .i a0.Brash, .i a0.Ridge, .i a0.Press]) (lN rfl) sh_64 rfl rfl ⟨rfl, rfl, rfl, rfl, rfl, rfl, rfl, rfl, rfl, rfl, rfl, trivial⟩),
  okp rfl rfl (oqC (x := .i v1) (fs := []) (caps := []) (extra := []) (lN rfl) en_47 rfl ⟨rfl, rfl, rfl⟩ (EvL.cons rfl EvL.nil) (fun mm aa ww gg hr hrel => (c47 F a0 ⟨a0Tp, a0.Thrust.length, a0Tc⟩ ⟨a0Wp, a0.Water.length, a0Wc⟩ ⟨a0Ip, a0.Ice.length, a0Ic⟩ ww (SlIs.mono ha0_Thrust hrel.below) (SlIs.mono ha0_Water hrel.below) (SlIs.mono ha0_Ice hrel.below) v1 hv1))),
  okp rfl rfl (oqA (lN rfl) rfl),
  trivial⟩ ?_
 refine fqK (s' := [kt 3 (.p 2 0), kt 5 (.i v1), kb 2 72 8, kc 2 0 (.i a1.Conc.Lo), kc 2 1 (.i a1.Conc.Hi), kc 2 2 (.i a1.Thick.Lo), kc 2 3 (.i a1.Thick.Hi), kc 2 4 (.i a1.Ridge.Lo), kc 2 5 (.i a1.Ridge.Hi), kc 2 6 (.i a1.Press.Lo), kc 2 7 (.i a1.Press.Hi)]) ?_ (kp rfl) rfl
 refine fqT ?_
 refine aqS ?_
 refine aqT (rows := [_, _]) rfl (by kernel_rfl) ⟨
  okp rfl rfl (oqM (lN rfl) rfl),
  okp rfl rfl (oqB (lN rfl) rfl rfl rfl),
  trivial⟩ ?_
 refine fqK (s' := [kt 3 (.p 2 0), kt 5 (.i v1), kt 9 (.B (v1 != 0)), kb 2 72 8, kc 2 0 (.i a1.Conc.Lo), kc 2 1 (.i a1.Conc.Hi), kc 2 2 (.i a1.Thick.Lo), kc 2 3 (.i a1.Thick.Hi), kc 2 4 (.i a1.Ridge.Lo), kc 2 5 (.i a1.Ridge.Hi), kc 2 6 (.i a1.Press.Lo), kc 2 7 (.i a1.Press.Hi)]) ?_ (kp rfl) rfl
 refine fqT ?_
 refine aw_cond rfl (fun hz1 => ?_) (fun hz1 => ?_)
 ·have hm := brk_t hz1 hm
  refine aqS ?_
  refine aqT (rows := [_, _]) rfl (by kernel_rfl) ⟨
   okp rfl rfl (oqM (lN rfl) rfl),
   okp rfl rfl (oqA (lN rfl) rfl),
   trivial⟩ ?_
  refine fqK (s' := [kt 4 (.i v1)]) ?_ (kp rfl) rfl
  refine fqT ?_
  refine aw_ret ?_
  refine fin_then_ret ?_
  refine post_ret (x := .i v1) rfl rfl (rqT rfl resOK_nil) rfl (fun mm aa ww hr => ?_)
  have hm := Option.some.inj hm
  subst hm
  exact ⟨rfl, hr.below⟩
 ·have hm := brk_f hz1 hm
  refine aw_skip ?_
  refine fqT ?_
  refine aqS ?_
  refine aqS ?_
  obtain ⟨v2, hv2, hm⟩ := bnd_some hm
  refine aqT (rows := [_, _, _]) rfl (by kernel_rfl) ⟨
   okp rfl rfl (oqL (ys := [.i a1.Conc.Lo, .i a1.Conc.Hi, .i a1.Thick.Lo, .i a1.Thick.Hi, .i a1.Ridge.Lo, .i a1.Ridge.Hi, .i a1.Press.Lo, .i a1.Press.Hi]) (lN rfl) sh_72 rfl rfl ⟨rfl, rfl, rfl, rfl, rfl, rfl, rfl, rfl, trivial⟩),
   okp rfl rfl (oqC (x := .B v2) (fs := []) (caps := []) (extra := []) (lN rfl) en_93 rfl ⟨rfl, rfl, rfl⟩ (EvL.cons rfl EvL.nil) (fun mm aa ww gg hr hrel => (c93 F a1 ww v2 hv2))),
   okp rfl rfl (op_not (lN rfl) rfl),
   trivial⟩ ?_
  refine fqK (s' := [kt 13 (.B (!v2))]) ?_ (kp rfl) rfl
  refine fqT ?_
  refine aw_cond rfl (fun hz2 => ?_) (fun hz2 => ?_)
  ·have hm := brk_t hz2 hm
   refine aqS ?_
   refine aqT (rows := [_]) rfl (by kernel_rfl) ⟨
    okp rfl rfl (oqA (lN rfl) rfl),
    trivial⟩ ?_
   refine fqK (s' := [kt 4 (.i 20)]) ?_ (kp rfl) rfl
   refine fqT ?_
   refine aw_ret ?_
   refine fin_then_ret ?_
   refine post_ret (x := .i 20) rfl rfl (rqT rfl resOK_nil) rfl (fun mm aa ww hr => ?_)
   have hm := Option.some.inj hm
   subst hm
   exact ⟨rfl, hr.below⟩
  ·have hm := brk_f hz2 hm
   refine aw_skip ?_
   refine fqT ?_
   refine aqS ?_
   refine aqT (rows := [_]) rfl (by kernel_rfl) ⟨
    okp rfl rfl (oqA (lN rfl) rfl),
    trivial⟩ ?_
   refine fqK (s' := [kt 4 (.i 0)]) ?_ (kp rfl) rfl
   refine fqT ?_
   refine aw_ret ?_
   refine post_ret (x := .i 0) rfl rfl (rqT rfl resOK_nil) rfl (fun mm aa ww hr => ?_)
   have hm := Option.some.inj hm
   subst hm
   exact ⟨rfl, hr.below⟩

end Go.Proofs.T

namespace Go.Proofs.T
open Go Go.AX Go.RowKit Hull
theorem en_116 : Proofs.Enters Tryd.prog 116 := Proofs.enters_of Tryd.func116 (by kernel_rfl) rfl
theorem zl_108 : zeroL Tryd.prog 108 = some [(.int .i64 0), (.int .i64 0), (.int .i64 0), (.int .i64 0)] := by kernel_rfl
theorem sz_108 : sizeIn Tryd.prog 108 = some 4 := by kernel_rfl
theorem en_117 : Proofs.Enters Tryd.prog 117 := Proofs.enters_of Tryd.func117 (by kernel_rfl) rfl
end Go.Proofs.T
