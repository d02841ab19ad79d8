/-
  This file has contracts of functions of the program: where the mirror gives a value, the call returns it. Conditions: those that each theorem names.
-/
import Derived.Test.YtgpcfckbcldokaaDoorSp4
set_option linter.unusedVariables false
namespace Go.Proofs.T
open Go Go.AX Go.RowKit Hull
theorem af_154 : appFact Tryd.prog 154 = some (108, 4, 32) := by kernel_rfl
theorem en_95 : Proofs.Enters Tryd.prog 95 := Proofs.enters_of Tryd.func95 (by kernel_rfl) rfl
theorem ss_154 : sliceSz Tryd.prog 154 = some 4 := by kernel_rfl
theorem en_97 : Proofs.Enters Tryd.prog 97 := Proofs.enters_of Tryd.func97 (by kernel_rfl) rfl
theorem en_98 : Proofs.Enters Tryd.prog 98 := Proofs.enters_of Tryd.func98 (by kernel_rfl) rfl
theorem en_101 : Proofs.Enters Tryd.prog 101 := Proofs.enters_of Tryd.func101 (by kernel_rfl) rfl
theorem en_94 : Proofs.Enters Tryd.prog 94 := Proofs.enters_of Tryd.func94 (by kernel_rfl) rfl
theorem en_63 : Proofs.Enters Tryd.prog 63 := Proofs.enters_of Tryd.func63 (by kernel_rfl) rfl
theorem en_64 : Proofs.Enters Tryd.prog 64 := Proofs.enters_of Tryd.func64 (by kernel_rfl) rfl
def m95 (F : Nat) (a0 : Cell) : Option (List Ice) :=
 join (fun (x1 : List Ice) => some x1) (fun k1 => loopC (fun (x2 : List Ice × Int) n2 => brk (decide (x2.2 < 16)) (join (fun (x3 : Int) => join (fun (x4 : Int) => join (fun (x5 : Int) => join (fun (x6 : Int) => chk (x2.1.length ≤ 1000000) (chk (InR (x2.2 + 1)) (n2 ((x2.1 ++ [(⟨x3, x4, x5, x6⟩ : Ice)]), x2.2 + 1)))) (fun k6 => chk (0 ≤ x2.2 ∧ x2.2 ≤ 9223372036854775807) (brk ((x2.2 / 8) == 1) (k6 a0.Press.Hi) (k6 a0.Press.Lo)))) (fun k5 => chk (0 ≤ x2.2 ∧ x2.2 ≤ 9223372036854775807) (chk (0 ≤ (x2.2 / 4) ∧ (x2.2 / 4) ≤ 9223372036854775807) (brk (((x2.2 / 4) % 2) == 1) (k5 a0.Ridge.Hi) (k5 a0.Ridge.Lo))))) (fun k4 => chk (0 ≤ x2.2 ∧ x2.2 ≤ 9223372036854775807) (chk (0 ≤ (x2.2 / 2) ∧ (x2.2 / 2) ≤ 9223372036854775807) (brk (((x2.2 / 2) % 2) == 1) (k4 a0.Thick.Hi) (k4 a0.Thick.Lo))))) (fun k3 => chk (0 ≤ x2.2 ∧ x2.2 ≤ 9223372036854775807) (brk ((x2.2 % 2) == 1) (k3 a0.Conc.Hi) (k3 a0.Conc.Lo)))) (k1 x2.1)) F ([], 0))

theorem c95 (F : Nat) (a0 : Cell) (w : World)  (r : List Ice) (hm : m95 F a0 = some r) : Calls Tryd.prog 95 #[.agg #[.int .i64 a0.Conc.Lo, .int .i64 a0.Conc.Hi, .int .i64 a0.Thick.Lo, .int .i64 a0.Thick.Hi, .int .i64 a0.Ridge.Lo, .int .i64 a0.Ridge.Hi, .int .i64 a0.Press.Lo, .int .i64 a0.Press.Hi]] w fun e w' => ∃ sl : List SlV, e = .returned ((fun vs => (vs.getD 0 (.bool false))) (sl.map SlV.val)) ∧ NewRowsD w w' sl [(r.length, 108, 4, r.flatMap encIce)] ∧ Below w.heap.size w w' := by
 unfold m95 at hm
 refine enter (args := [.g [.i a0.Conc.Lo, .i a0.Conc.Hi, .i a0.Thick.Lo, .i a0.Thick.Hi, .i a0.Ridge.Lo, .i a0.Ridge.Hi, .i a0.Press.Lo, .i a0.Press.Hi]]) Tryd.func95 rfl (N := 58) rfl (Nat.le_of_ble_eq_true rfl) ?_
 refine aqS ?_
 refine aqT (rows := [_, _]) rfl (by kernel_rfl) ⟨
  okp rfl rfl (op_boxN (L := 1) (lN rfl) rfl rfl rfl),
  okp rfl rfl (oqA (lN rfl) rfl),
  trivial⟩ ?_
 refine fqK (s' := [kt 1 (.p 1 0), kb 1 72 8, kc 1 0 (.i a0.Conc.Lo), kc 1 1 (.i a0.Conc.Hi), kc 1 2 (.i a0.Thick.Lo), kc 1 3 (.i a0.Thick.Hi), kc 1 4 (.i a0.Ridge.Lo), kc 1 5 (.i a0.Ridge.Hi), kc 1 6 (.i a0.Press.Lo), kc 1 7 (.i a0.Press.Hi)]) ?_ (kp rfl) rfl
 refine fqT ?_
 refine aqS ?_
 refine aqT (rows := [_]) rfl (by kernel_rfl) ⟨
  okp rfl rfl (oqA (lN rfl) rfl),
  trivial⟩ ?_
 refine fqK (s' := [kt 1 (.p 1 0), kt 3 (.v (.slice none 0 0)), kb 1 72 8, kc 1 0 (.i a0.Conc.Lo), kc 1 1 (.i a0.Conc.Hi), kc 1 2 (.i a0.Thick.Lo), kc 1 3 (.i a0.Thick.Hi), kc 1 4 (.i a0.Ridge.Lo), kc 1 5 (.i a0.Ridge.Hi), kc 1 6 (.i a0.Press.Lo), kc 1 7 (.i a0.Press.Hi)]) ?_ (kp rfl) rfl
 refine fqT ?_
 refine aw_cutM (ι := List Ice) hm (fun x1 => [kt 3 (.o 300 301 x1.length), (.r 300, some (.vec true 301 108 4 (x1.flatMap encIce)))]) (fun hm => ?_) (fun x1 hm => ?_)
 ·have _z := hm
  refine aqS ?_
  refine aqT (rows := [_]) rfl (by kernel_rfl) ⟨
   okp rfl rfl (oqA (lN rfl) rfl),
   trivial⟩ ?_
  refine fqK (s' := [kt 1 (.p 1 0), kt 3 (.v (.slice none 0 0)), kt 4 (.i 0), kb 1 72 8, kc 1 0 (.i a0.Conc.Lo), kc 1 1 (.i a0.Conc.Hi), kc 1 2 (.i a0.Thick.Lo), kc 1 3 (.i a0.Thick.Hi), kc 1 4 (.i a0.Ridge.Lo), kc 1 5 (.i a0.Ridge.Hi), kc 1 6 (.i a0.Press.Lo), kc 1 7 (.i a0.Press.Hi)]) ?_ (kp rfl) rfl
  refine fqT ?_
  refine aw_block ?_
  refine aw_nilRowK (.t 3) 2 3 108 4 rfl rfl rfl (by decide) ?_
  refine aw_swp [(2, 300), (3, 301)] rfl ?_
  refine aw_loopC hm (fun x2 => [kt 1 (.p 1 0), kt 3 (.o 300 301 x2.1.length), kt 4 (.i x2.2), kb 1 72 8, (.r 300, some (.vec true 301 108 4 (x2.1.flatMap encIce))), kc 1 0 (.i a0.Conc.Lo), kc 1 1 (.i a0.Conc.Hi), kc 1 2 (.i a0.Thick.Lo), kc 1 3 (.i a0.Thick.Hi), kc 1 4 (.i a0.Ridge.Lo), kc 1 5 (.i a0.Ridge.Hi), kc 1 6 (.i a0.Press.Lo), kc 1 7 (.i a0.Press.Hi)]) ⟨rfl, rfl, rfl, rfl, rfl, rfl, rfl, rfl, rfl, rfl, rfl, rfl, rfl, trivial⟩ rfl (fun x2 n2 hm => ?_)
  refine aqS ?_
  refine aqS ?_
  refine aqT (rows := [_, _]) rfl (by kernel_rfl) ⟨
   okp rfl rfl (oqM (lN rfl) rfl),
   okp rfl rfl (oqB (lN rfl) rfl rfl rfl),
   trivial⟩ ?_
  refine fqK (s' := [kt 1 (.p 1 0), kt 3 (.o 300 301 x2.1.length), kt 4 (.i x2.2), kt 7 (.B (decide (x2.2 < 16))), kb 1 72 8, (.r 300, some (.vec true 301 108 4 (x2.1.flatMap encIce))), kc 1 0 (.i a0.Conc.Lo), kc 1 1 (.i a0.Conc.Hi), kc 1 2 (.i a0.Thick.Lo), kc 1 3 (.i a0.Thick.Hi), kc 1 4 (.i a0.Ridge.Lo), kc 1 5 (.i a0.Ridge.Hi), kc 1 6 (.i a0.Press.Lo), kc 1 7 (.i a0.Press.Hi)]) ?_ (kp rfl) rfl
  refine fqT ?_
  refine aw_cond rfl (fun hz1 => ?_) (fun hz1 => ?_)
  ·have hm := brk_t hz1 hm
   refine aw_skip ?_
   refine fqT ?_
   refine aqS ?_
   refine aw_block ?_
   refine aqS ?_
   refine aqT (rows := [_, _, _, _, _, _, _, _, _, _, _, _, _, _, _]) rfl (by kernel_rfl) ⟨
    okp rfl rfl (oqF (lN rfl) rfl fo_72_0),
    okp rfl rfl (oqF (lN rfl) rfl fo_32_0),
    okp rfl rfl (oq1 (lN rfl) sh_3 rfl rfl),
    okp rfl rfl (oqF (lN rfl) rfl fo_72_1),
    okp rfl rfl (oqF (lN rfl) rfl fo_32_0),
    okp rfl rfl (oq1 (lN rfl) sh_3 rfl rfl),
    okp rfl rfl (oqF (lN rfl) rfl fo_72_2),
    okp rfl rfl (oqF (lN rfl) rfl fo_32_0),
    okp rfl rfl (oq1 (lN rfl) sh_3 rfl rfl),
    okp rfl rfl (oqF (lN rfl) rfl fo_72_3),
    okp rfl rfl (oqF (lN rfl) rfl fo_32_0),
    okp rfl rfl (oq1 (lN rfl) sh_3 rfl rfl),
    okp rfl rfl (op_build (x := .g [.i a0.Conc.Lo, .i a0.Thick.Lo, .i a0.Ridge.Lo, .i a0.Press.Lo]) (lN rfl) (EvL.cons rfl (EvL.cons rfl (EvL.cons rfl (EvL.cons rfl EvL.nil)))) (fun m w => by kernel_rfl)),
    okp rfl rfl (op_alloc (L := 4) (lN rfl) zl_108),
    okp rfl rfl (op_storeN sz_108 rfl rfl rfl rfl rfl (by decide)),
    trivial⟩ ?_
   refine fqK (s' := [kt 1 (.p 1 0), kt 3 (.o 300 301 x2.1.length), kt 4 (.i x2.2), kt 5 (.p 4 0), kb 1 72 8, kb 4 108 4, (.r 300, some (.vec true 301 108 4 (x2.1.flatMap encIce))), kc 1 0 (.i a0.Conc.Lo), kc 1 1 (.i a0.Conc.Hi), kc 1 2 (.i a0.Thick.Lo), kc 1 3 (.i a0.Thick.Hi), kc 1 4 (.i a0.Ridge.Lo), kc 1 5 (.i a0.Ridge.Hi), kc 1 6 (.i a0.Press.Lo), kc 1 7 (.i a0.Press.Hi), kc 4 0 (.i a0.Conc.Lo), kc 4 1 (.i a0.Thick.Lo), kc 4 2 (.i a0.Ridge.Lo), kc 4 3 (.i a0.Press.Lo)]) ?_ (kp rfl) rfl
   refine fqT ?_
   refine aw_cutM (ι := Int) hm (fun x3 => [kt 1 (.p 1 0), kt 3 (.o 300 301 x2.1.length), kt 4 (.i x2.2), kt 5 (.p 4 0), kb 1 72 8, kb 4 108 4, (.r 300, some (.vec true 301 108 4 (x2.1.flatMap encIce))), kc 1 0 (.i a0.Conc.Lo), kc 1 1 (.i a0.Conc.Hi), kc 1 2 (.i a0.Thick.Lo), kc 1 3 (.i a0.Thick.Hi), kc 1 4 (.i a0.Ridge.Lo), kc 1 5 (.i a0.Ridge.Hi), kc 1 6 (.i a0.Press.Lo), kc 1 7 (.i a0.Press.Hi), kc 4 0 (.i x3), kc 4 1 (.i a0.Thick.Lo), kc 4 2 (.i a0.Ridge.Lo), kc 4 3 (.i a0.Press.Lo)]) (fun hm => ?_) (fun x3 hm => ?_)
   ·have _z := hm
    refine aqS ?_
    obtain ⟨hp2, hm⟩ := chk_some hm
    refine aqT (rows := [_, _, _]) rfl (by kernel_rfl) ⟨
     okp rfl rfl (oqM (lN rfl) rfl),
     okp rfl rfl (op_rem (lN rfl) rfl rfl (by decide) (rem_nn hp2.1 (by decide) hp2.2)),
     okp rfl rfl (oqB (lN rfl) rfl rfl rfl),
     trivial⟩ ?_
    refine fqK (s' := [kt 1 (.p 1 0), kt 3 (.o 300 301 x2.1.length), kt 4 (.i x2.2), kt 5 (.p 4 0), kt 25 (.B ((x2.2 % 2) == 1)), kb 1 72 8, kb 4 108 4, (.r 300, some (.vec true 301 108 4 (x2.1.flatMap encIce))), kc 1 0 (.i a0.Conc.Lo), kc 1 1 (.i a0.Conc.Hi), kc 1 2 (.i a0.Thick.Lo), kc 1 3 (.i a0.Thick.Hi), kc 1 4 (.i a0.Ridge.Lo), kc 1 5 (.i a0.Ridge.Hi), kc 1 6 (.i a0.Press.Lo), kc 1 7 (.i a0.Press.Hi), kc 4 0 (.i a0.Conc.Lo), kc 4 1 (.i a0.Thick.Lo), kc 4 2 (.i a0.Ridge.Lo), kc 4 3 (.i a0.Press.Lo)]) ?_ (kp rfl) rfl
    refine fqT ?_
    refine aw_cond rfl (fun hz3 => ?_) (fun hz3 => ?_)
    ·have hm := brk_t hz3 hm
     refine aqT (rows := [_, _, _, _, _]) rfl (by kernel_rfl) ⟨
      okp rfl rfl (oqF (lN rfl) rfl fo_72_0),
      okp rfl rfl (oqF (lN rfl) rfl fo_32_1),
      okp rfl rfl (oq1 (lN rfl) sh_3 rfl rfl),
      okp rfl rfl (oqF (lN rfl) rfl fo_108_0),
      okp rfl rfl (op_store1 sz_3 rfl rfl rfl rfl (lN rfl)),
      trivial⟩ ?_
     refine fqK (s' := [kt 1 (.p 1 0), kt 3 (.o 300 301 x2.1.length), kt 4 (.i x2.2), kt 5 (.p 4 0), kb 1 72 8, kb 4 108 4, (.r 300, some (.vec true 301 108 4 (x2.1.flatMap encIce))), kc 1 0 (.i a0.Conc.Lo), kc 1 1 (.i a0.Conc.Hi), kc 1 2 (.i a0.Thick.Lo), kc 1 3 (.i a0.Thick.Hi), kc 1 4 (.i a0.Ridge.Lo), kc 1 5 (.i a0.Ridge.Hi), kc 1 6 (.i a0.Press.Lo), kc 1 7 (.i a0.Press.Hi), kc 4 0 (.i a0.Conc.Hi), kc 4 1 (.i a0.Thick.Lo), kc 4 2 (.i a0.Ridge.Lo), kc 4 3 (.i a0.Press.Lo)]) ?_ (kp rfl) rfl
     exact fin_cut a0.Conc.Hi hm ⟨rfl, rfl, rfl, rfl, rfl, rfl, rfl, rfl, rfl, rfl, rfl, rfl, rfl, rfl, rfl, rfl, rfl, rfl, rfl, trivial⟩ rfl
    ·have hm := brk_f hz3 hm
     refine aw_skip ?_
     exact fin_cut a0.Conc.Lo hm ⟨rfl, rfl, rfl, rfl, rfl, rfl, rfl, rfl, rfl, rfl, rfl, rfl, rfl, rfl, rfl, rfl, rfl, rfl, rfl, trivial⟩ rfl
   ·have _z := hm
    refine aw_cutM (ι := Int) hm (fun x4 => [kt 1 (.p 1 0), kt 3 (.o 300 301 x2.1.length), kt 4 (.i x2.2), kt 5 (.p 4 0), kb 1 72 8, kb 4 108 4, (.r 300, some (.vec true 301 108 4 (x2.1.flatMap encIce))), kc 1 0 (.i a0.Conc.Lo), kc 1 1 (.i a0.Conc.Hi), kc 1 2 (.i a0.Thick.Lo), kc 1 3 (.i a0.Thick.Hi), kc 1 4 (.i a0.Ridge.Lo), kc 1 5 (.i a0.Ridge.Hi), kc 1 6 (.i a0.Press.Lo), kc 1 7 (.i a0.Press.Hi), kc 4 0 (.i x3), kc 4 1 (.i x4), kc 4 2 (.i a0.Ridge.Lo), kc 4 3 (.i a0.Press.Lo)]) (fun hm => ?_) (fun x4 hm => ?_)
    ·have _z := hm
     refine aqS ?_
     obtain ⟨hp4, hm⟩ := chk_some hm
     obtain ⟨hp5, hm⟩ := chk_some hm
     refine aqT (rows := [_, _, _, _]) rfl (by kernel_rfl) ⟨
      okp rfl rfl (oqM (lN rfl) rfl),
      okp rfl rfl (op_quo (lN rfl) rfl rfl (by decide) (quo_nn hp4.1 (by decide) hp4.2)),
      okp rfl rfl (op_rem (lN rfl) rfl rfl (by decide) (rem_nn hp5.1 (by decide) hp5.2)),
      okp rfl rfl (oqB (lN rfl) rfl rfl rfl),
      trivial⟩ ?_
     refine fqK (s' := [kt 1 (.p 1 0), kt 3 (.o 300 301 x2.1.length), kt 4 (.i x2.2), kt 5 (.p 4 0), kt 33 (.B (((x2.2 / 2) % 2) == 1)), kb 1 72 8, kb 4 108 4, (.r 300, some (.vec true 301 108 4 (x2.1.flatMap encIce))), kc 1 0 (.i a0.Conc.Lo), kc 1 1 (.i a0.Conc.Hi), kc 1 2 (.i a0.Thick.Lo), kc 1 3 (.i a0.Thick.Hi), kc 1 4 (.i a0.Ridge.Lo), kc 1 5 (.i a0.Ridge.Hi), kc 1 6 (.i a0.Press.Lo), kc 1 7 (.i a0.Press.Hi), kc 4 0 (.i x3), kc 4 1 (.i a0.Thick.Lo), kc 4 2 (.i a0.Ridge.Lo), kc 4 3 (.i a0.Press.Lo)]) ?_ (kp rfl) rfl
     refine fqT ?_
     refine aw_cond rfl (fun hz6 => ?_) (fun hz6 => ?_)
     ·have hm := brk_t hz6 hm
      refine aqT (rows := [_, _, _, _, _]) rfl (by kernel_rfl) ⟨
       okp rfl rfl (oqF (lN rfl) rfl fo_72_1),
       okp rfl rfl (oqF (lN rfl) rfl fo_32_1),
       okp rfl rfl (oq1 (lN rfl) sh_3 rfl rfl),
       okp rfl rfl (oqF (lN rfl) rfl fo_108_1),
       okp rfl rfl (op_store1 sz_3 rfl rfl rfl rfl (lN rfl)),
       trivial⟩ ?_
      refine fqK (s' := [kt 1 (.p 1 0), kt 3 (.o 300 301 x2.1.length), kt 4 (.i x2.2), kt 5 (.p 4 0), kb 1 72 8, kb 4 108 4, (.r 300, some (.vec true 301 108 4 (x2.1.flatMap encIce))), kc 1 0 (.i a0.Conc.Lo), kc 1 1 (.i a0.Conc.Hi), kc 1 2 (.i a0.Thick.Lo), kc 1 3 (.i a0.Thick.Hi), kc 1 4 (.i a0.Ridge.Lo), kc 1 5 (.i a0.Ridge.Hi), kc 1 6 (.i a0.Press.Lo), kc 1 7 (.i a0.Press.Hi), kc 4 0 (.i x3), kc 4 1 (.i a0.Thick.Hi), kc 4 2 (.i a0.Ridge.Lo), kc 4 3 (.i a0.Press.Lo)]) ?_ (kp rfl) rfl
      exact fin_cut a0.Thick.Hi hm ⟨rfl, rfl, rfl, rfl, rfl, rfl, rfl, rfl, rfl, rfl, rfl, rfl, rfl, rfl, rfl, rfl, rfl, rfl, rfl, trivial⟩ rfl
     ·have hm := brk_f hz6 hm
      refine aw_skip ?_
      exact fin_cut a0.Thick.Lo hm ⟨rfl, rfl, rfl, rfl, rfl, rfl, rfl, rfl, rfl, rfl, rfl, rfl, rfl, rfl, rfl, rfl, rfl, rfl, rfl, trivial⟩ rfl
    ·have _z := hm
     refine aw_cutM (ι := Int) hm (fun x5 => [kt 1 (.p 1 0), kt 3 (.o 300 301 x2.1.length), kt 4 (.i x2.2), kt 5 (.p 4 0), kb 1 72 8, kb 4 108 4, (.r 300, some (.vec true 301 108 4 (x2.1.flatMap encIce))), kc 1 0 (.i a0.Conc.Lo), kc 1 1 (.i a0.Conc.Hi), kc 1 2 (.i a0.Thick.Lo), kc 1 3 (.i a0.Thick.Hi), kc 1 4 (.i a0.Ridge.Lo), kc 1 5 (.i a0.Ridge.Hi), kc 1 6 (.i a0.Press.Lo), kc 1 7 (.i a0.Press.Hi), kc 4 0 (.i x3), kc 4 1 (.i x4), kc 4 2 (.i x5), kc 4 3 (.i a0.Press.Lo)]) (fun hm => ?_) (fun x5 hm => ?_)
     ·have _z := hm
      refine aqS ?_
      obtain ⟨hp7, hm⟩ := chk_some hm
      obtain ⟨hp8, hm⟩ := chk_some hm
      refine aqT (rows := [_, _, _, _]) rfl (by kernel_rfl) ⟨
       okp rfl rfl (oqM (lN rfl) rfl),
       okp rfl rfl (op_quo (lN rfl) rfl rfl (by decide) (quo_nn hp7.1 (by decide) hp7.2)),
       okp rfl rfl (op_rem (lN rfl) rfl rfl (by decide) (rem_nn hp8.1 (by decide) hp8.2)),
       okp rfl rfl (oqB (lN rfl) rfl rfl rfl),
       trivial⟩ ?_
      refine fqK (s' := [kt 1 (.p 1 0), kt 3 (.o 300 301 x2.1.length), kt 4 (.i x2.2), kt 5 (.p 4 0), kt 41 (.B (((x2.2 / 4) % 2) == 1)), kb 1 72 8, kb 4 108 4, (.r 300, some (.vec true 301 108 4 (x2.1.flatMap encIce))), kc 1 0 (.i a0.Conc.Lo), kc 1 1 (.i a0.Conc.Hi), kc 1 2 (.i a0.Thick.Lo), kc 1 3 (.i a0.Thick.Hi), kc 1 4 (.i a0.Ridge.Lo), kc 1 5 (.i a0.Ridge.Hi), kc 1 6 (.i a0.Press.Lo), kc 1 7 (.i a0.Press.Hi), kc 4 0 (.i x3), kc 4 1 (.i x4), kc 4 2 (.i a0.Ridge.Lo), kc 4 3 (.i a0.Press.Lo)]) ?_ (kp rfl) rfl
      refine fqT ?_
      refine aw_cond rfl (fun hz9 => ?_) (fun hz9 => ?_)
      ·have hm := brk_t hz9 hm
       refine aqT (rows := [_, _, _, _, _]) rfl (by kernel_rfl) ⟨
        okp rfl rfl (oqF (lN rfl) rfl fo_72_2),
        okp rfl rfl (oqF (lN rfl) rfl fo_32_1),
        okp rfl rfl (oq1 (lN rfl) sh_3 rfl rfl),
        okp rfl rfl (oqF (lN rfl) rfl fo_108_2),
        okp rfl rfl (op_store1 sz_3 rfl rfl rfl rfl (lN rfl)),
        trivial⟩ ?_
       refine fqK (s' := [kt 1 (.p 1 0), kt 3 (.o 300 301 x2.1.length), kt 4 (.i x2.2), kt 5 (.p 4 0), kb 1 72 8, kb 4 108 4, (.r 300, some (.vec true 301 108 4 (x2.1.flatMap encIce))), kc 1 0 (.i a0.Conc.Lo), kc 1 1 (.i a0.Conc.Hi), kc 1 2 (.i a0.Thick.Lo), kc 1 3 (.i a0.Thick.Hi), kc 1 4 (.i a0.Ridge.Lo), kc 1 5 (.i a0.Ridge.Hi), kc 1 6 (.i a0.Press.Lo), kc 1 7 (.i a0.Press.Hi), kc 4 0 (.i x3), kc 4 1 (.i x4), kc 4 2 (.i a0.Ridge.Hi), kc 4 3 (.i a0.Press.Lo)]) ?_ (kp rfl) rfl
       exact fin_cut a0.Ridge.Hi hm ⟨rfl, rfl, rfl, rfl, rfl, rfl, rfl, rfl, rfl, rfl, rfl, rfl, rfl, rfl, rfl, rfl, rfl, rfl, rfl, trivial⟩ rfl
      ·have hm := brk_f hz9 hm
       refine aw_skip ?_
       exact fin_cut a0.Ridge.Lo hm ⟨rfl, rfl, rfl, rfl, rfl, rfl, rfl, rfl, rfl, rfl, rfl, rfl, rfl, rfl, rfl, rfl, rfl, rfl, rfl, trivial⟩ rfl
     ·have _z := hm
      refine aw_cutM (ι := Int) hm (fun x6 => [kt 1 (.p 1 0), kt 3 (.o 300 301 x2.1.length), kt 4 (.i x2.2), kt 5 (.p 4 0), kb 1 72 8, kb 4 108 4, (.r 300, some (.vec true 301 108 4 (x2.1.flatMap encIce))), kc 1 0 (.i a0.Conc.Lo), kc 1 1 (.i a0.Conc.Hi), kc 1 2 (.i a0.Thick.Lo), kc 1 3 (.i a0.Thick.Hi), kc 1 4 (.i a0.Ridge.Lo), kc 1 5 (.i a0.Ridge.Hi), kc 1 6 (.i a0.Press.Lo), kc 1 7 (.i a0.Press.Hi), kc 4 0 (.i x3), kc 4 1 (.i x4), kc 4 2 (.i x5), kc 4 3 (.i x6)]) (fun hm => ?_) (fun x6 hm => ?_)
      ·have _z := hm
       refine aqS ?_
       obtain ⟨hp10, hm⟩ := chk_some hm
       refine aqT (rows := [_, _, _]) rfl (by kernel_rfl) ⟨
        okp rfl rfl (oqM (lN rfl) rfl),
        okp rfl rfl (op_quo (lN rfl) rfl rfl (by decide) (quo_nn hp10.1 (by decide) hp10.2)),
        okp rfl rfl (oqB (lN rfl) rfl rfl rfl),
        trivial⟩ ?_
       refine fqK (s' := [kt 1 (.p 1 0), kt 3 (.o 300 301 x2.1.length), kt 4 (.i x2.2), kt 5 (.p 4 0), kt 48 (.B ((x2.2 / 8) == 1)), kb 1 72 8, kb 4 108 4, (.r 300, some (.vec true 301 108 4 (x2.1.flatMap encIce))), kc 1 0 (.i a0.Conc.Lo), kc 1 1 (.i a0.Conc.Hi), kc 1 2 (.i a0.Thick.Lo), kc 1 3 (.i a0.Thick.Hi), kc 1 4 (.i a0.Ridge.Lo), kc 1 5 (.i a0.Ridge.Hi), kc 1 6 (.i a0.Press.Lo), kc 1 7 (.i a0.Press.Hi), kc 4 0 (.i x3), kc 4 1 (.i x4), kc 4 2 (.i x5), kc 4 3 (.i a0.Press.Lo)]) ?_ (kp rfl) rfl
       refine fqT ?_
       refine aw_cond rfl (fun hz11 => ?_) (fun hz11 => ?_)
       ·have hm := brk_t hz11 hm
        refine aqT (rows := [_, _, _, _, _]) rfl (by kernel_rfl) ⟨
         okp rfl rfl (oqF (lN rfl) rfl fo_72_3),
         okp rfl rfl (oqF (lN rfl) rfl fo_32_1),
         okp rfl rfl (oq1 (lN rfl) sh_3 rfl rfl),
         okp rfl rfl (oqF (lN rfl) rfl fo_108_3),
         okp rfl rfl (op_store1 sz_3 rfl rfl rfl rfl (lN rfl)),
         trivial⟩ ?_
        refine fqK (s' := [kt 1 (.p 1 0), kt 3 (.o 300 301 x2.1.length), kt 4 (.i x2.2), kt 5 (.p 4 0), kb 1 72 8, kb 4 108 4, (.r 300, some (.vec true 301 108 4 (x2.1.flatMap encIce))), kc 1 0 (.i a0.Conc.Lo), kc 1 1 (.i a0.Conc.Hi), kc 1 2 (.i a0.Thick.Lo), kc 1 3 (.i a0.Thick.Hi), kc 1 4 (.i a0.Ridge.Lo), kc 1 5 (.i a0.Ridge.Hi), kc 1 6 (.i a0.Press.Lo), kc 1 7 (.i a0.Press.Hi), kc 4 0 (.i x3), kc 4 1 (.i x4), kc 4 2 (.i x5), kc 4 3 (.i a0.Press.Hi)]) ?_ (kp rfl) rfl
        exact fin_cut a0.Press.Hi hm ⟨rfl, rfl, rfl, rfl, rfl, rfl, rfl, rfl, rfl, rfl, rfl, rfl, rfl, rfl, rfl, rfl, rfl, rfl, rfl, trivial⟩ rfl
       ·have hm := brk_f hz11 hm
        refine aw_skip ?_
        exact fin_cut a0.Press.Lo hm ⟨rfl, rfl, rfl, rfl, rfl, rfl, rfl, rfl, rfl, rfl, rfl, rfl, rfl, rfl, rfl, rfl, rfl, rfl, rfl, trivial⟩ rfl
      ·have _z := hm
       obtain ⟨hp12, hm⟩ := chk_some hm
       refine aqT (rows := [_, _, _, _, _]) rfl (by kernel_rfl) ⟨
        okp rfl rfl (oqM (lN rfl) rfl),
        okp rfl rfl (oqL (ys := [.i x3, .i x4, .i x5, .i x6]) (lN rfl) sh_108 rfl rfl ⟨rfl, rfl, rfl, rfl, trivial⟩),
        okp rfl rfl (op_buildSlice (L := 5) (ety := 108) (cs := [.i x3, .i x4, .i x5, .i x6]) (lN rfl) (EvL.cons rfl EvL.nil) rfl (fun m w => by kernel_rfl)),
        okp rfl rfl (op_append (L' := 6) (C' := 7) (vs := [(.int .i64 x3), (.int .i64 x4), (.int .i64 x5), (.int .i64 x6)]) (lN rfl) af_154 rfl rfl (flat_length (enc := encIce) (fun _ => rfl) x2.1) rfl ⟨rfl, rfl, rfl, rfl, trivial⟩ rfl rfl (by decide) (by have := hp12; omega) (by have := hp12; omega) (by decide)),
        okp rfl rfl (oqA (lN rfl) rfl),
        trivial⟩ ?_
       refine fqK (s' := [kt 1 (.p 1 0), kt 3 (.o 6 7 ((x2.1 ++ [(⟨x3, x4, x5, x6⟩ : Ice)]).length)), kt 4 (.i x2.2), kb 1 72 8, (.r 6, some (.vec true 7 108 4 ((x2.1 ++ [(⟨x3, x4, x5, x6⟩ : Ice)]).flatMap encIce))), kc 1 0 (.i a0.Conc.Lo), kc 1 1 (.i a0.Conc.Hi), kc 1 2 (.i a0.Thick.Lo), kc 1 3 (.i a0.Thick.Hi), kc 1 4 (.i a0.Ridge.Lo), kc 1 5 (.i a0.Ridge.Hi), kc 1 6 (.i a0.Press.Lo), kc 1 7 (.i a0.Press.Hi)]) ?_ ⟨rfl, (congrArg (fun q => some (Val.x (SV.o 6 7 q))) (len_snoc x2.1 ((⟨x3, x4, x5, x6⟩ : Ice)))), rfl, rfl, (Eq.trans (b := some (Val.vec true 7 108 4 (x2.1.flatMap encIce ++ [(.int .i64 x3), (.int .i64 x4), (.int .i64 x5), (.int .i64 x6)]))) rfl (congrArg (fun q => some (Val.vec true 7 108 4 q)) (flat_snoc (enc := encIce) x2.1 ((⟨x3, x4, x5, x6⟩ : Ice))))), rfl, rfl, rfl, rfl, rfl, rfl, rfl, rfl, trivial⟩ rfl
       refine fin_block ?_
       refine fqT ?_
       obtain ⟨hp13, hm⟩ := chk_some hm
       refine aqT (rows := [_, _, _]) rfl (by kernel_rfl) ⟨
        okp rfl rfl (oqM (lN rfl) rfl),
        okp rfl rfl (oqB (lN rfl) rfl rfl (nw_add hp13)),
        okp rfl rfl (oqA (lN rfl) rfl),
        trivial⟩ ?_
       refine fqK (s' := [kt 1 (.p 1 0), kt 3 (.o 6 7 ((x2.1 ++ [(⟨x3, x4, x5, x6⟩ : Ice)]).length)), kt 4 (.i (x2.2 + 1)), kb 1 72 8, (.r 6, some (.vec true 7 108 4 ((x2.1 ++ [(⟨x3, x4, x5, x6⟩ : Ice)]).flatMap encIce))), kc 1 0 (.i a0.Conc.Lo), kc 1 1 (.i a0.Conc.Hi), kc 1 2 (.i a0.Thick.Lo), kc 1 3 (.i a0.Thick.Hi), kc 1 4 (.i a0.Ridge.Lo), kc 1 5 (.i a0.Ridge.Hi), kc 1 6 (.i a0.Press.Lo), kc 1 7 (.i a0.Press.Hi)]) ?_ (kp rfl) rfl
       refine fin_swp [(6, 300), (7, 301)] rfl ?_
       exact fin_cut ((x2.1 ++ [(⟨x3, x4, x5, x6⟩ : Ice)]), x2.2 + 1) hm ⟨rfl, rfl, rfl, rfl, rfl, rfl, rfl, rfl, rfl, rfl, rfl, rfl, rfl, trivial⟩ rfl
  ·have hm := brk_f hz1 hm
   refine aw_exit ?_
   refine fin_then_exit ?_
   refine fin_then_exit ?_
   refine fin_block_exit ?_
   exact fin_cut x2.1 hm ⟨rfl, rfl, trivial⟩ rfl
 ·have _z := hm
  refine aqS ?_
  refine aqT (rows := [_, _]) rfl (by kernel_rfl) ⟨
   okp rfl rfl (oqM (lN rfl) rfl),
   okp rfl rfl (oqA (lN rfl) rfl),
   trivial⟩ ?_
  refine fqK (s' := [kt 2 (.o 300 301 x1.length), (.r 300, some (.vec true 301 108 4 (x1.flatMap encIce)))]) ?_ (kp rfl) rfl
  refine fqT ?_
  refine aw_ret ?_
  refine post_ret (x := .o 300 301 x1.length) rfl rfl (rqT rfl resOK_nil) rfl (fun mm aa ww hr => ?_)
  have hm := Option.some.inj hm
  subst hm
  exact ⟨[⟨ptr0 (mm 300) (mm 301), x1.length, mm 301⟩], rfl, ⟨⟨rfl, newAt_row hr mine_nil rfl (flat_length (enc := encIce) (fun _ => rfl) _), trivial⟩, ⟨trivial, trivial⟩⟩, hr.below⟩

def m94 (F : Nat) (a0 : Ship) (a1 : Cell) (a2 : Bool) : Option (Int × Int) :=
 bnd (m95 F a1) (fun v1 => join (fun (_ : Unit) => join (fun (_ : Unit) => join (fun (x5 : Int) => some (x5, 0)) (fun k5 => loopC (fun (x6 : Int × Int) n6 => brk (decide (x6.2 ≤ 250)) (join (fun (x7 : Int) => chk (InR (x6.2 + 1)) (n6 (x7, x6.2 + 1))) (fun k7 => join (fun (x8 : Bool) => brk (x8) (k7 x6.2) (k7 x6.1)) (fun k8 => loopC (fun (x9 : Bool × Int) n9 => brk (decide (x9.2 < (((v1.length : Nat) : Int)))) (chk (x9.1 = true → 0 ≤ x9.2 ∧ x9.2 < ((v1.length : Nat) : Int)) (bnd (brk (x9.1) (m96 F a0 ((v1.getD x9.2.toNat default)) x6.2 a2) (some default)) (fun v5 => chk ((x9.1 && v5) = true → 0 ≤ x9.2 ∧ x9.2 < ((v1.length : Nat) : Int)) (bnd (brk ((x9.1 && v5)) (m97 F ((v1.getD x9.2.toNat default)) x6.2 a2) (some default)) (fun v6 => bnd (brk ((x9.1 && v5)) (m98 F a0.Class) (some default)) (fun v7 => chk (InR (x9.2 + 1)) (n9 ((x9.1 && v5) && (decide (v6 ≤ v7)), x9.2 + 1)))))))) (k8 x9.1)) F (true, 0)))) (k5 x6.1)) F (0, 0))) (fun k3 => loopC (fun (x4 : Int) n4 => brk (decide (x4 < (((v1.length : Nat) : Int)))) (chk (0 ≤ x4 ∧ x4 < ((v1.length : Nat) : Int)) (bnd (m97 F ((v1.getD x4.toNat default)) 10 a2) (fun v3 => bnd (m98 F a0.Class) (fun v4 => brk (decide (v3 > v4)) (some (0, 41)) (chk (InR (x4 + 1)) (n4 (x4 + 1))))))) (k3 ())) F 0)) (fun k1 => loopC (fun (x2 : Int) n2 => brk (decide (x2 < (((v1.length : Nat) : Int)))) (chk (0 ≤ x2 ∧ x2 < ((v1.length : Nat) : Int)) (bnd (m117 F a0 ((v1.getD x2.toNat default)) a2) (fun v2 => brk (decide (v2 < 10)) (some (0, 4)) (chk (InR (x2 + 1)) (n2 (x2 + 1)))))) (k1 ())) F 0))

theorem c94 (F : Nat) (a0 : Ship) (a0_Thrust_s : SlV) (a0_Water_s : SlV) (a0_Ice_s : SlV) (a1 : Cell) (a2 : Bool) (w : World) (ha0_Thrust : SlIs encPt 2 w a0_Thrust_s a0.Thrust) (ha0_Water : SlIs encPt 2 w a0_Water_s a0.Water) (ha0_Ice : SlIs encPt 2 w a0_Ice_s a0.Ice) (r : Int × Int) (hm : m94 F a0 a1 a2 = some r) : Calls Tryd.prog 94 #[.agg #[.int .i64 a0.Class, .int .i64 a0.Power, .int .i64 a0.Draught, .int .i64 a0.Tonnes, .slice a0_Thrust_s.p a0_Thrust_s.n a0_Thrust_s.c, .slice a0_Water_s.p a0_Water_s.n a0_Water_s.c, .slice a0_Ice_s.p a0_Ice_s.n a0_Ice_s.c, .int .i64 a0.Slow, .int .i64 a0.Brash, .int .i64 a0.Ridge, .int .i64 a0.Press], .agg #[.int .i64 a1.Conc.Lo, .int .i64 a1.Conc.Hi, .int .i64 a1.Thick.Lo, .int .i64 a1.Thick.Hi, .int .i64 a1.Ridge.Lo, .int .i64 a1.Ridge.Hi, .int .i64 a1.Press.Lo, .int .i64 a1.Press.Hi], .bool a2] w fun e w' => e = .returned (.tuple #[.int .i64 r.1, .int .i64 r.2]) ∧ Below w.heap.size w w' := by
 obtain ⟨a0Tp, a0Tn, a0Tc⟩ := a0_Thrust_s
 have ha0_Thrust_l : a0Tn = a0.Thrust.length := ha0_Thrust.1
 subst ha0_Thrust_l
 obtain ⟨a0_Thrust_b, a0To, ha0_Thrust_p, ha0_Thrust_L⟩ := SlAt.lies' ha0_Thrust
 obtain ⟨a0Wp, a0Wn, a0Wc⟩ := a0_Water_s
 have ha0_Water_l : a0Wn = a0.Water.length := ha0_Water.1
 subst ha0_Water_l
 obtain ⟨a0_Water_b, a0Wo, ha0_Water_p, ha0_Water_L⟩ := SlAt.lies' ha0_Water
 obtain ⟨a0Ip, a0In, a0Ic⟩ := a0_Ice_s
 have ha0_Ice_l : a0In = a0.Ice.length := ha0_Ice.1
 subst ha0_Ice_l
 obtain ⟨a0_Ice_b, a0Io, ha0_Ice_p, ha0_Ice_L⟩ := SlAt.lies' ha0_Ice
 unfold m94 at hm
 refine enter (args := [.g [.i a0.Class, .i a0.Power, .i a0.Draught, .i a0.Tonnes, .v (.slice a0Tp a0.Thrust.length a0Tc), .v (.slice a0Wp a0.Water.length a0Wc), .v (.slice a0Ip a0.Ice.length a0Ic), .i a0.Slow, .i a0.Brash, .i a0.Ridge, .i a0.Press], .g [.i a1.Conc.Lo, .i a1.Conc.Hi, .i a1.Thick.Lo, .i a1.Thick.Hi, .i a1.Ridge.Lo, .i a1.Ridge.Hi, .i a1.Press.Lo, .i a1.Press.Hi], .B a2]) Tryd.func94 rfl (N := 84) rfl (Nat.le_of_ble_eq_true rfl) ?_
 refine aqS ?_
 refine aqT (rows := [_, _, _, _]) rfl (by kernel_rfl) ⟨
  okp rfl rfl (op_boxN (L := 1) (lN rfl) rfl rfl rfl),
  okp rfl rfl (op_boxN (L := 2) (lN rfl) rfl rfl rfl),
  okp rfl rfl (oqA (lN rfl) rfl),
  okp rfl rfl (oqA (lN rfl) rfl),
  trivial⟩ ?_
 refine fqK (s' := (kt 2 (.B a2) :: kt 3 (.p 1 0) :: kt 4 (.p 2 0) :: kb 1 64 11 :: kb 2 72 8 :: sK 1 a0 (.v (.slice a0Tp a0.Thrust.length a0Tc)) (.v (.slice a0Wp a0.Water.length a0Wc)) (.v (.slice a0Ip a0.Ice.length a0Ic)) [kc 2 0 (.i a1.Conc.Lo), kc 2 1 (.i a1.Conc.Hi), kc 2 2 (.i a1.Thick.Lo), kc 2 3 (.i a1.Thick.Hi), kc 2 4 (.i a1.Ridge.Lo), kc 2 5 (.i a1.Ridge.Hi), kc 2 6 (.i a1.Press.Lo), kc 2 7 (.i a1.Press.Hi)])) ?_ (kp rfl) rfl
 refine fqT ?_
 refine aqS ?_
 obtain ⟨v1, hv1, hm⟩ := bnd_some hm
 refine aqT (rows := [_, _, _]) rfl (by kernel_rfl) ⟨
  okp rfl rfl (oqL (ys := [.i a1.Conc.Lo, .i a1.Conc.Hi, .i a1.Thick.Lo, .i a1.Thick.Hi, .i a1.Ridge.Lo, .i a1.Ridge.Hi, .i a1.Press.Lo, .i a1.Press.Hi]) (lN rfl) sh_72 rfl rfl ⟨rfl, rfl, rfl, rfl, rfl, rfl, rfl, rfl, trivial⟩),
  okp rfl rfl (op_callRowsD (x := .o 3 4 v1.length) (R := (fun vs => (vs.getD 0 (.bool false)))) (ls := [(3, 4)]) (ds := [(v1.length, 108, 4, v1.flatMap encIce)]) (fs := []) (caps := []) (extra := []) (lN rfl) en_95 rfl ⟨rfl, rfl, rfl⟩ (EvL.cons rfl EvL.nil) rfl rfl (fun _ => rfl) (fun mm aa ww gg hr hrel => (c95 F a1 ww v1 hv1))),
  okp rfl rfl (oqA (lN rfl) rfl),
  trivial⟩ ?_
 refine fqK (s' := (kt 2 (.B a2) :: kt 3 (.p 1 0) :: kt 8 (.o 3 4 v1.length) :: kb 1 64 11 :: (.r 3, some (.vec true 4 108 4 (v1.flatMap encIce))) :: sK 1 a0 (.v (.slice a0Tp a0.Thrust.length a0Tc)) (.v (.slice a0Wp a0.Water.length a0Wc)) (.v (.slice a0Ip a0.Ice.length a0Ic)) [])) ?_ (kp rfl) rfl
 refine fqT ?_
 refine aw_cutM (ι := Unit) hm (fun x1 => (kt 2 (.B a2) :: kt 3 (.p 1 0) :: kt 8 (.o 3 4 v1.length) :: kb 1 64 11 :: (.r 3, some (.vec true 4 108 4 (v1.flatMap encIce))) :: sK 1 a0 (.v (.slice a0Tp a0.Thrust.length a0Tc)) (.v (.slice a0Wp a0.Water.length a0Wc)) (.v (.slice a0Ip a0.Ice.length a0Ic)) [])) (fun hm => ?_) (fun x1 hm => ?_)
 ·have _z := hm
  refine aqS ?_
  refine aqT (rows := [_]) rfl (by kernel_rfl) ⟨
   okp rfl rfl (oqA (lN rfl) rfl),
   trivial⟩ ?_
  refine fqK (s' := (kt 2 (.B a2) :: kt 3 (.p 1 0) :: kt 8 (.o 3 4 v1.length) :: kt 9 (.i 0) :: kb 1 64 11 :: (.r 3, some (.vec true 4 108 4 (v1.flatMap encIce))) :: sK 1 a0 (.v (.slice a0Tp a0.Thrust.length a0Tc)) (.v (.slice a0Wp a0.Water.length a0Wc)) (.v (.slice a0Ip a0.Ice.length a0Ic)) [])) ?_ (kp rfl) rfl
  refine fqT ?_
  refine aw_block ?_
  refine aw_loopC hm (fun x2 => (kt 2 (.B a2) :: kt 3 (.p 1 0) :: kt 8 (.o 3 4 v1.length) :: kt 9 (.i x2) :: kb 1 64 11 :: (.r 3, some (.vec true 4 108 4 (v1.flatMap encIce))) :: sK 1 a0 (.v (.slice a0Tp a0.Thrust.length a0Tc)) (.v (.slice a0Wp a0.Water.length a0Wc)) (.v (.slice a0Ip a0.Ice.length a0Ic)) [])) ⟨rfl, rfl, rfl, rfl, rfl, rfl, rfl, rfl, rfl, rfl, rfl, rfl, rfl, rfl, rfl, rfl, rfl, trivial⟩ rfl (fun x2 n2 hm => ?_)
  refine aqS ?_
  refine aqS ?_
  refine aqT (rows := [_, _, _, _]) rfl (by kernel_rfl) ⟨
   okp rfl rfl (oqM (lN rfl) rfl),
   okp rfl rfl (oqM (lN rfl) rfl),
   okp rfl rfl (op_lenO (n := v1.length) (lN rfl) (by rw [ss_154]; rfl) rfl),
   okp rfl rfl (oqB (lN rfl) rfl rfl rfl),
   trivial⟩ ?_
  refine fqK (s' := (kt 2 (.B a2) :: kt 3 (.p 1 0) :: kt 8 (.o 3 4 v1.length) :: kt 9 (.i x2) :: kt 20 (.B (decide (x2 < (((v1.length : Nat) : Int))))) :: kb 1 64 11 :: (.r 3, some (.vec true 4 108 4 (v1.flatMap encIce))) :: sK 1 a0 (.v (.slice a0Tp a0.Thrust.length a0Tc)) (.v (.slice a0Wp a0.Water.length a0Wc)) (.v (.slice a0Ip a0.Ice.length a0Ic)) [])) ?_ (kp rfl) rfl
  refine fqT ?_
  refine aw_cond rfl (fun hz1 => ?_) (fun hz1 => ?_)
  ·have hm := brk_t hz1 hm
   refine aw_skip ?_
   refine fqT ?_
   refine aqS ?_
   refine aw_block ?_
   refine aqS ?_
   obtain ⟨hp2, hm⟩ := chk_some hm
   obtain ⟨v2, hv2, hm⟩ := bnd_some hm
   refine aw_any (rows := [_, _, _, _, _, _, _, _]) (M := [0, 0, 0, 6, 14, 0, 63, 127]) Tryd_mixed (by kernel_rfl) rfl (by kernel_rfl) ⟨
    okp rfl rfl (oqL (ys := [.i a0.Class, .i a0.Power, .i a0.Draught, .i a0.Tonnes, .v (.slice a0Tp a0.Thrust.length a0Tc), .v (.slice a0Wp a0.Water.length a0Wc), .v (.slice a0Ip a0.Ice.length a0Ic), .i a0.Slow, .i a0.Brash, .i a0.Ridge, .i a0.Press]) (lN rfl) sh_64 rfl rfl ⟨rfl, rfl, rfl, rfl, rfl, rfl, rfl, rfl, rfl, rfl, rfl, trivial⟩),
    okp rfl rfl (oqM (lN rfl) rfl),
    okp rfl rfl (oqM (lN rfl) rfl),
    okp rfl rfl (op_ixO (lN rfl) rfl rfl ss_154 rfl (flat_ne (enc := encIce) (k := 4) (fun _ => rfl) (by decide) (i := x2) hp2.1 hp2.2) hp2.1 hp2.2),
    okp rfl rfl (op_loadON (vs := [(.int .i64 (((v1.getD x2.toNat default)).Conc)), (.int .i64 (((v1.getD x2.toNat default)).Thick)), (.int .i64 (((v1.getD x2.toNat default)).Ridge)), (.int .i64 (((v1.getD x2.toNat default)).Press))]) (lN rfl) sh_108 rfl rfl rfl (fun zq zv zh => flat_sub (k := 4) (l := v1) (enc := encIce) (fun _ => rfl) default (i := x2) hp2.1 hp2.2 0 (vs := [(.int .i64 (((v1.getD x2.toNat default)).Conc)), (.int .i64 (((v1.getD x2.toNat default)).Thick)), (.int .i64 (((v1.getD x2.toNat default)).Ridge)), (.int .i64 (((v1.getD x2.toNat default)).Press))]) rfl zh)),
    okp rfl rfl (oqM (lN rfl) rfl),
    okp rfl rfl (oqC (x := .i v2) (fs := []) (caps := []) (extra := []) (lN rfl) en_117 rfl ⟨rfl, rfl, rfl⟩ (EvL.cons rfl (EvL.cons rfl (EvL.cons rfl EvL.nil))) (fun mm aa ww gg hr hrel => (c117 F a0 ⟨a0Tp, a0.Thrust.length, a0Tc⟩ ⟨a0Wp, a0.Water.length, a0Wc⟩ ⟨a0Ip, a0.Ice.length, a0Ic⟩ ((v1.getD x2.toNat default)) a2 ww (SlIs.mono ha0_Thrust hrel.below) (SlIs.mono ha0_Water hrel.below) (SlIs.mono ha0_Ice hrel.below) v2 hv2))),
    okp rfl rfl (oqB (lN rfl) rfl rfl rfl),
    trivial⟩ ?_
   refine fqK (s' := (kt 2 (.B a2) :: kt 3 (.p 1 0) :: kt 8 (.o 3 4 v1.length) :: kt 9 (.i x2) :: kt 30 (.B (decide (v2 < 10))) :: kb 1 64 11 :: (.r 3, some (.vec true 4 108 4 (v1.flatMap encIce))) :: sK 1 a0 (.v (.slice a0Tp a0.Thrust.length a0Tc)) (.v (.slice a0Wp a0.Water.length a0Wc)) (.v (.slice a0Ip a0.Ice.length a0Ic)) [])) ?_ (kp rfl) rfl
   refine fqT ?_
   refine aw_cond rfl (fun hz3 => ?_) (fun hz3 => ?_)
   ·have hm := brk_t hz3 hm
    refine aqS ?_
    refine aqT (rows := [_, _]) rfl (by kernel_rfl) ⟨
     okp rfl rfl (oqA (lN rfl) rfl),
     okp rfl rfl (oqA (lN rfl) rfl),
     trivial⟩ ?_
    refine fqK (s' := [kt 6 (.i 0), kt 7 (.i 4)]) ?_ (kp rfl) rfl
    refine fqT ?_
    refine aw_ret ?_
    refine fin_block_ret ?_
    refine fin_then_ret ?_
    refine fin_then_ret ?_
    refine fin_block_ret ?_
    refine fin_then_ret ?_
    refine post_ret (x := .t [.i 0, .i 4]) rfl rfl (rqT rfl (rqT rfl resOK_nil)) rfl (fun mm aa ww hr => ?_)
    have hm := Option.some.inj hm
    subst hm
    exact ⟨rfl, hr.below⟩
   ·have hm := brk_f hz3 hm
    refine aw_skip ?_
    refine fin_block ?_
    refine fqT ?_
    obtain ⟨hp4, hm⟩ := chk_some hm
    refine aqT (rows := [_, _, _]) rfl (by kernel_rfl) ⟨
     okp rfl rfl (oqM (lN rfl) rfl),
     okp rfl rfl (oqB (lN rfl) rfl rfl (nw_add hp4)),
     okp rfl rfl (oqA (lN rfl) rfl),
     trivial⟩ ?_
    refine fqK (s' := (kt 2 (.B a2) :: kt 3 (.p 1 0) :: kt 8 (.o 3 4 v1.length) :: kt 9 (.i (x2 + 1)) :: kb 1 64 11 :: (.r 3, some (.vec true 4 108 4 (v1.flatMap encIce))) :: sK 1 a0 (.v (.slice a0Tp a0.Thrust.length a0Tc)) (.v (.slice a0Wp a0.Water.length a0Wc)) (.v (.slice a0Ip a0.Ice.length a0Ic)) [])) ?_ (kp rfl) rfl
    exact fin_cut (x2 + 1) hm ⟨rfl, rfl, rfl, rfl, rfl, rfl, rfl, rfl, rfl, rfl, rfl, rfl, rfl, rfl, rfl, rfl, rfl, trivial⟩ rfl
  ·have hm := brk_f hz1 hm
   refine aw_exit ?_
   refine fin_then_exit ?_
   refine fin_then_exit ?_
   refine fin_block_exit ?_
   exact fin_cut () hm ⟨rfl, rfl, rfl, rfl, rfl, rfl, rfl, rfl, rfl, rfl, rfl, rfl, rfl, rfl, rfl, rfl, trivial⟩ rfl
 ·have _z := hm
  refine aw_cutM (ι := Unit) hm (fun x3 => (kt 2 (.B a2) :: kt 3 (.p 1 0) :: kt 8 (.o 3 4 v1.length) :: kb 1 64 11 :: (.r 3, some (.vec true 4 108 4 (v1.flatMap encIce))) :: sK 1 a0 (.v (.slice a0Tp a0.Thrust.length a0Tc)) (.v (.slice a0Wp a0.Water.length a0Wc)) (.v (.slice a0Ip a0.Ice.length a0Ic)) [])) (fun hm => ?_) (fun x3 hm => ?_)
  ·have _z := hm
   refine aqS ?_
   refine aqT (rows := [_]) rfl (by kernel_rfl) ⟨
    okp rfl rfl (oqA (lN rfl) rfl),
    trivial⟩ ?_
   refine fqK (s' := (kt 2 (.B a2) :: kt 3 (.p 1 0) :: kt 8 (.o 3 4 v1.length) :: kt 10 (.i 0) :: kb 1 64 11 :: (.r 3, some (.vec true 4 108 4 (v1.flatMap encIce))) :: sK 1 a0 (.v (.slice a0Tp a0.Thrust.length a0Tc)) (.v (.slice a0Wp a0.Water.length a0Wc)) (.v (.slice a0Ip a0.Ice.length a0Ic)) [])) ?_ (kp rfl) rfl
   refine fqT ?_
   refine aw_block ?_
   refine aw_loopC hm (fun x4 => (kt 2 (.B a2) :: kt 3 (.p 1 0) :: kt 8 (.o 3 4 v1.length) :: kt 10 (.i x4) :: kb 1 64 11 :: (.r 3, some (.vec true 4 108 4 (v1.flatMap encIce))) :: sK 1 a0 (.v (.slice a0Tp a0.Thrust.length a0Tc)) (.v (.slice a0Wp a0.Water.length a0Wc)) (.v (.slice a0Ip a0.Ice.length a0Ic)) [])) ⟨rfl, rfl, rfl, rfl, rfl, rfl, rfl, rfl, rfl, rfl, rfl, rfl, rfl, rfl, rfl, rfl, rfl, trivial⟩ rfl (fun x4 n4 hm => ?_)
   refine aqS ?_
   refine aqS ?_
   refine aqT (rows := [_, _, _, _]) rfl (by kernel_rfl) ⟨
    okp rfl rfl (oqM (lN rfl) rfl),
    okp rfl rfl (oqM (lN rfl) rfl),
    okp rfl rfl (op_lenO (n := v1.length) (lN rfl) (by rw [ss_154]; rfl) rfl),
    okp rfl rfl (oqB (lN rfl) rfl rfl rfl),
    trivial⟩ ?_
   refine fqK (s' := (kt 2 (.B a2) :: kt 3 (.p 1 0) :: kt 8 (.o 3 4 v1.length) :: kt 10 (.i x4) :: kt 34 (.B (decide (x4 < (((v1.length : Nat) : Int))))) :: kb 1 64 11 :: (.r 3, some (.vec true 4 108 4 (v1.flatMap encIce))) :: sK 1 a0 (.v (.slice a0Tp a0.Thrust.length a0Tc)) (.v (.slice a0Wp a0.Water.length a0Wc)) (.v (.slice a0Ip a0.Ice.length a0Ic)) [])) ?_ (kp rfl) rfl
   refine fqT ?_
   refine aw_cond rfl (fun hz5 => ?_) (fun hz5 => ?_)
   ·have hm := brk_t hz5 hm
    refine aw_skip ?_
    refine fqT ?_
    refine aqS ?_
    refine aw_block ?_
    refine aqS ?_
    obtain ⟨hp6, hm⟩ := chk_some hm
    obtain ⟨v3, hv3, hm⟩ := bnd_some hm
    obtain ⟨v4, hv4, hm⟩ := bnd_some hm
    refine aw_any (rows := [_, _, _, _, _, _, _, _, _, _]) (M := [0, 0, 3, 7, 0, 31, 0, 64, 255, 511]) Tryd_mixed (by kernel_rfl) rfl (by kernel_rfl) ⟨
     okp rfl rfl (oqM (lN rfl) rfl),
     okp rfl rfl (oqM (lN rfl) rfl),
     okp rfl rfl (op_ixO (lN rfl) rfl rfl ss_154 rfl (flat_ne (enc := encIce) (k := 4) (fun _ => rfl) (by decide) (i := x4) hp6.1 hp6.2) hp6.1 hp6.2),
     okp rfl rfl (op_loadON (vs := [(.int .i64 (((v1.getD x4.toNat default)).Conc)), (.int .i64 (((v1.getD x4.toNat default)).Thick)), (.int .i64 (((v1.getD x4.toNat default)).Ridge)), (.int .i64 (((v1.getD x4.toNat default)).Press))]) (lN rfl) sh_108 rfl rfl rfl (fun zq zv zh => flat_sub (k := 4) (l := v1) (enc := encIce) (fun _ => rfl) default (i := x4) hp6.1 hp6.2 0 (vs := [(.int .i64 (((v1.getD x4.toNat default)).Conc)), (.int .i64 (((v1.getD x4.toNat default)).Thick)), (.int .i64 (((v1.getD x4.toNat default)).Ridge)), (.int .i64 (((v1.getD x4.toNat default)).Press))]) rfl zh)),
     okp rfl rfl (oqM (lN rfl) rfl),
     okp rfl rfl (oqC (x := .i v3) (fs := []) (caps := []) (extra := []) (lN rfl) en_97 rfl ⟨rfl, rfl, rfl⟩ (EvL.cons rfl (EvL.cons rfl (EvL.cons rfl EvL.nil))) (fun mm aa ww gg hr hrel => (c97 F ((v1.getD x4.toNat default)) 10 a2 ww v3 hv3))),
     okp rfl rfl (oqF (lN rfl) rfl fo_64_0),
     okp rfl rfl (oq1 (lN rfl) sh_3 rfl rfl),
     okp rfl rfl (oqC (x := .i v4) (fs := []) (caps := []) (extra := []) (lN rfl) en_98 rfl ⟨rfl, rfl, rfl⟩ (EvL.cons rfl EvL.nil) (fun mm aa ww gg hr hrel => (c98 F a0.Class ww v4 hv4))),
     okp rfl rfl (oqB (lN rfl) rfl rfl rfl),
     trivial⟩ ?_
    refine fqK (s' := (kt 2 (.B a2) :: kt 3 (.p 1 0) :: kt 8 (.o 3 4 v1.length) :: kt 10 (.i x4) :: kt 46 (.B (decide (v3 > v4))) :: kb 1 64 11 :: (.r 3, some (.vec true 4 108 4 (v1.flatMap encIce))) :: sK 1 a0 (.v (.slice a0Tp a0.Thrust.length a0Tc)) (.v (.slice a0Wp a0.Water.length a0Wc)) (.v (.slice a0Ip a0.Ice.length a0Ic)) [])) ?_ (kp rfl) rfl
    refine fqT ?_
    refine aw_cond rfl (fun hz7 => ?_) (fun hz7 => ?_)
    ·have hm := brk_t hz7 hm
     refine aqS ?_
     refine aqT (rows := [_, _]) rfl (by kernel_rfl) ⟨
      okp rfl rfl (oqA (lN rfl) rfl),
      okp rfl rfl (oqA (lN rfl) rfl),
      trivial⟩ ?_
     refine fqK (s' := [kt 6 (.i 0), kt 7 (.i 41)]) ?_ (kp rfl) rfl
     refine fqT ?_
     refine aw_ret ?_
     refine fin_block_ret ?_
     refine fin_then_ret ?_
     refine fin_then_ret ?_
     refine fin_block_ret ?_
     refine fin_then_ret ?_
     refine post_ret (x := .t [.i 0, .i 41]) rfl rfl (rqT rfl (rqT rfl resOK_nil)) rfl (fun mm aa ww hr => ?_)
     have hm := Option.some.inj hm
     subst hm
     exact ⟨rfl, hr.below⟩
    ·have hm := brk_f hz7 hm
     refine aw_skip ?_
     refine fin_block ?_
     refine fqT ?_
     obtain ⟨hp8, hm⟩ := chk_some hm
     refine aqT (rows := [_, _, _]) rfl (by kernel_rfl) ⟨
      okp rfl rfl (oqM (lN rfl) rfl),
      okp rfl rfl (oqB (lN rfl) rfl rfl (nw_add hp8)),
      okp rfl rfl (oqA (lN rfl) rfl),
      trivial⟩ ?_
     refine fqK (s' := (kt 2 (.B a2) :: kt 3 (.p 1 0) :: kt 8 (.o 3 4 v1.length) :: kt 10 (.i (x4 + 1)) :: kb 1 64 11 :: (.r 3, some (.vec true 4 108 4 (v1.flatMap encIce))) :: sK 1 a0 (.v (.slice a0Tp a0.Thrust.length a0Tc)) (.v (.slice a0Wp a0.Water.length a0Wc)) (.v (.slice a0Ip a0.Ice.length a0Ic)) [])) ?_ (kp rfl) rfl
     exact fin_cut (x4 + 1) hm ⟨rfl, rfl, rfl, rfl, rfl, rfl, rfl, rfl, rfl, rfl, rfl, rfl, rfl, rfl, rfl, rfl, rfl, trivial⟩ rfl
   ·have hm := brk_f hz5 hm
    refine aw_exit ?_
    refine fin_then_exit ?_
    refine fin_then_exit ?_
    refine fin_block_exit ?_
    exact fin_cut () hm ⟨rfl, rfl, rfl, rfl, rfl, rfl, rfl, rfl, rfl, rfl, rfl, rfl, rfl, rfl, rfl, rfl, trivial⟩ rfl
  ·have _z := hm
   refine aqS ?_
   refine aqT (rows := [_]) rfl (by kernel_rfl) ⟨
    okp rfl rfl (oqA (lN rfl) rfl),
    trivial⟩ ?_
   refine fqK (s' := (kt 2 (.B a2) :: kt 3 (.p 1 0) :: kt 8 (.o 3 4 v1.length) :: kt 11 (.i 0) :: kb 1 64 11 :: (.r 3, some (.vec true 4 108 4 (v1.flatMap encIce))) :: sK 1 a0 (.v (.slice a0Tp a0.Thrust.length a0Tc)) (.v (.slice a0Wp a0.Water.length a0Wc)) (.v (.slice a0Ip a0.Ice.length a0Ic)) [])) ?_ (kp rfl) rfl
   refine fqT ?_
   refine aw_cutM (ι := Int) hm (fun x5 => [kt 11 (.i x5)]) (fun hm => ?_) (fun x5 hm => ?_)
   ·have _z := hm
    refine aqS ?_
    refine aqT (rows := [_]) rfl (by kernel_rfl) ⟨
     okp rfl rfl (oqA (lN rfl) rfl),
     trivial⟩ ?_
    refine fqK (s' := (kt 2 (.B a2) :: kt 3 (.p 1 0) :: kt 8 (.o 3 4 v1.length) :: kt 11 (.i 0) :: kt 12 (.i 0) :: kb 1 64 11 :: (.r 3, some (.vec true 4 108 4 (v1.flatMap encIce))) :: sK 1 a0 (.v (.slice a0Tp a0.Thrust.length a0Tc)) (.v (.slice a0Wp a0.Water.length a0Wc)) (.v (.slice a0Ip a0.Ice.length a0Ic)) [])) ?_ (kp rfl) rfl
    refine fqT ?_
    refine aw_block ?_
    refine aw_loopC hm (fun x6 => (kt 2 (.B a2) :: kt 3 (.p 1 0) :: kt 8 (.o 3 4 v1.length) :: kt 11 (.i x6.1) :: kt 12 (.i x6.2) :: kb 1 64 11 :: (.r 3, some (.vec true 4 108 4 (v1.flatMap encIce))) :: sK 1 a0 (.v (.slice a0Tp a0.Thrust.length a0Tc)) (.v (.slice a0Wp a0.Water.length a0Wc)) (.v (.slice a0Ip a0.Ice.length a0Ic)) [])) ⟨rfl, rfl, rfl, rfl, rfl, rfl, rfl, rfl, rfl, rfl, rfl, rfl, rfl, rfl, rfl, rfl, rfl, rfl, trivial⟩ rfl (fun x6 n6 hm => ?_)
    refine aqS ?_
    refine aqS ?_
    refine aqT (rows := [_, _]) rfl (by kernel_rfl) ⟨
     okp rfl rfl (oqM (lN rfl) rfl),
     okp rfl rfl (oqB (lN rfl) rfl rfl rfl),
     trivial⟩ ?_
    refine fqK (s' := (kt 2 (.B a2) :: kt 3 (.p 1 0) :: kt 8 (.o 3 4 v1.length) :: kt 11 (.i x6.1) :: kt 12 (.i x6.2) :: kt 48 (.B (decide (x6.2 ≤ 250))) :: kb 1 64 11 :: (.r 3, some (.vec true 4 108 4 (v1.flatMap encIce))) :: sK 1 a0 (.v (.slice a0Tp a0.Thrust.length a0Tc)) (.v (.slice a0Wp a0.Water.length a0Wc)) (.v (.slice a0Ip a0.Ice.length a0Ic)) [])) ?_ (kp rfl) rfl
    refine fqT ?_
    refine aw_cond rfl (fun hz9 => ?_) (fun hz9 => ?_)
    ·have hm := brk_t hz9 hm
     refine aw_skip ?_
     refine fqT ?_
     refine aw_cutM (ι := Int) hm (fun x7 => (kt 2 (.B a2) :: kt 3 (.p 1 0) :: kt 8 (.o 3 4 v1.length) :: kt 11 (.i x7) :: kt 12 (.i x6.2) :: kb 1 64 11 :: (.r 3, some (.vec true 4 108 4 (v1.flatMap encIce))) :: sK 1 a0 (.v (.slice a0Tp a0.Thrust.length a0Tc)) (.v (.slice a0Wp a0.Water.length a0Wc)) (.v (.slice a0Ip a0.Ice.length a0Ic)) [])) (fun hm => ?_) (fun x7 hm => ?_)
     ·have _z := hm
      refine aw_block ?_
      refine aqS ?_
      refine aqT (rows := [_]) rfl (by kernel_rfl) ⟨
       okp rfl rfl (oqA (lN rfl) rfl),
       trivial⟩ ?_
      refine fqK (s' := (kt 2 (.B a2) :: kt 3 (.p 1 0) :: kt 8 (.o 3 4 v1.length) :: kt 11 (.i x6.1) :: kt 12 (.i x6.2) :: kt 13 (.B true) :: kb 1 64 11 :: (.r 3, some (.vec true 4 108 4 (v1.flatMap encIce))) :: sK 1 a0 (.v (.slice a0Tp a0.Thrust.length a0Tc)) (.v (.slice a0Wp a0.Water.length a0Wc)) (.v (.slice a0Ip a0.Ice.length a0Ic)) [])) ?_ (kp rfl) rfl
      refine fqT ?_
      refine aw_cutM (ι := Bool) hm (fun x8 => (kt 2 (.B a2) :: kt 3 (.p 1 0) :: kt 8 (.o 3 4 v1.length) :: kt 11 (.i x6.1) :: kt 12 (.i x6.2) :: kt 13 (.B x8) :: kb 1 64 11 :: (.r 3, some (.vec true 4 108 4 (v1.flatMap encIce))) :: sK 1 a0 (.v (.slice a0Tp a0.Thrust.length a0Tc)) (.v (.slice a0Wp a0.Water.length a0Wc)) (.v (.slice a0Ip a0.Ice.length a0Ic)) [])) (fun hm => ?_) (fun x8 hm => ?_)
      ·have _z := hm
       refine aqS ?_
       refine aqT (rows := [_]) rfl (by kernel_rfl) ⟨
        okp rfl rfl (oqA (lN rfl) rfl),
        trivial⟩ ?_
       refine fqK (s' := (kt 2 (.B a2) :: kt 3 (.p 1 0) :: kt 8 (.o 3 4 v1.length) :: kt 11 (.i x6.1) :: kt 12 (.i x6.2) :: kt 13 (.B true) :: kt 14 (.i 0) :: kb 1 64 11 :: (.r 3, some (.vec true 4 108 4 (v1.flatMap encIce))) :: sK 1 a0 (.v (.slice a0Tp a0.Thrust.length a0Tc)) (.v (.slice a0Wp a0.Water.length a0Wc)) (.v (.slice a0Ip a0.Ice.length a0Ic)) [])) ?_ (kp rfl) rfl
       refine fqT ?_
       refine aw_block ?_
       refine aw_loopC hm (fun x9 => (kt 2 (.B a2) :: kt 3 (.p 1 0) :: kt 8 (.o 3 4 v1.length) :: kt 11 (.i x6.1) :: kt 12 (.i x6.2) :: kt 13 (.B x9.1) :: kt 14 (.i x9.2) :: kb 1 64 11 :: (.r 3, some (.vec true 4 108 4 (v1.flatMap encIce))) :: sK 1 a0 (.v (.slice a0Tp a0.Thrust.length a0Tc)) (.v (.slice a0Wp a0.Water.length a0Wc)) (.v (.slice a0Ip a0.Ice.length a0Ic)) [])) ⟨rfl, rfl, rfl, rfl, rfl, rfl, rfl, rfl, rfl, rfl, rfl, rfl, rfl, rfl, rfl, rfl, rfl, rfl, rfl, rfl, trivial⟩ rfl (fun x9 n9 hm => ?_)
       refine aqS ?_
       refine aqS ?_
       refine aqT (rows := [_, _, _, _]) rfl (by kernel_rfl) ⟨
        okp rfl rfl (oqM (lN rfl) rfl),
        okp rfl rfl (oqM (lN rfl) rfl),
        okp rfl rfl (op_lenO (n := v1.length) (lN rfl) (by rw [ss_154]; rfl) rfl),
        okp rfl rfl (oqB (lN rfl) rfl rfl rfl),
        trivial⟩ ?_
       refine fqK (s' := (kt 2 (.B a2) :: kt 3 (.p 1 0) :: kt 8 (.o 3 4 v1.length) :: kt 11 (.i x6.1) :: kt 12 (.i x6.2) :: kt 13 (.B x9.1) :: kt 14 (.i x9.2) :: kt 54 (.B (decide (x9.2 < (((v1.length : Nat) : Int))))) :: kb 1 64 11 :: (.r 3, some (.vec true 4 108 4 (v1.flatMap encIce))) :: sK 1 a0 (.v (.slice a0Tp a0.Thrust.length a0Tc)) (.v (.slice a0Wp a0.Water.length a0Wc)) (.v (.slice a0Ip a0.Ice.length a0Ic)) [])) ?_ (kp rfl) rfl
       refine fqT ?_
       refine aw_cond rfl (fun hz10 => ?_) (fun hz10 => ?_)
       ·have hm := brk_t hz10 hm
        refine aw_skip ?_
        refine fqT ?_
        refine aqS ?_
        refine aw_block ?_
        obtain ⟨hp15, hm⟩ := chk_some hm
        obtain ⟨v5, hv5, hm⟩ := bnd_some hm
        obtain ⟨hp23, hm⟩ := chk_some hm
        obtain ⟨v6, hv6, hm⟩ := bnd_some hm
        obtain ⟨v7, hv7, hm⟩ := bnd_some hm
        refine aw_any (rows := [_, _, _, _, _, _, _, _, _, _, _, _, _, _, _, _, _, _, _, _, _, _, _, _, _]) (M := [0, 1, 3, 3, 3, 27, 59, 3, 3, 511, 1023, 2047, 4095, 4095, 16383, 32767, 4095, 4095, 262143, 4095, 528383, 2097151, 4194303, 8388607, 16777215]) Tryd_mixed (by kernel_rfl) rfl (by kernel_rfl) ⟨
         okp rfl rfl (oqM (lN rfl) rfl),
         okp rfl rfl (oqM (lN rfl) rfl),
         ok_if (lN rfl) rfl rfl rfl rfl rfl rfl (fun hg11 => oqL (ys := [.i a0.Class, .i a0.Power, .i a0.Draught, .i a0.Tonnes, .v (.slice a0Tp a0.Thrust.length a0Tc), .v (.slice a0Wp a0.Water.length a0Wc), .v (.slice a0Ip a0.Ice.length a0Ic), .i a0.Slow, .i a0.Brash, .i a0.Ridge, .i a0.Press]) (lN rfl) sh_64 (force_x rfl) rfl ⟨rfl, rfl, rfl, rfl, rfl, rfl, rfl, rfl, rfl, rfl, rfl, trivial⟩),
         ok_if (lN rfl) rfl rfl rfl rfl rfl rfl (fun hg12 => oqM (lN rfl) (force_x rfl)),
         ok_if (lN rfl) rfl rfl rfl rfl rfl rfl (fun hg13 => oqM (lN rfl) (force_x rfl)),
         ok_if (lN rfl) rfl rfl rfl rfl rfl rfl (fun hg14 => op_ixO (lN rfl) (force_eq (beq_iff_eq.2 hg14) rfl) (force_eq (beq_iff_eq.2 hg14) rfl) ss_154 rfl (flat_ne (enc := encIce) (k := 4) (fun _ => rfl) (by decide) (i := x9.2) (hp15 hg14).1 (hp15 hg14).2) (hp15 hg14).1 (hp15 hg14).2),
         ok_if (lN rfl) rfl rfl rfl rfl rfl rfl (fun hg16 => op_loadON (vs := [(.int .i64 (((v1.getD x9.2.toNat default)).Conc)), (.int .i64 (((v1.getD x9.2.toNat default)).Thick)), (.int .i64 (((v1.getD x9.2.toNat default)).Ridge)), (.int .i64 (((v1.getD x9.2.toNat default)).Press))]) (lN rfl) sh_108 (force_eq (beq_iff_eq.2 hg16) rfl) rfl rfl (fun zq zv zh => flat_sub (k := 4) (l := v1) (enc := encIce) (fun _ => rfl) default (i := x9.2) (hp15 hg16).1 (hp15 hg16).2 0 (vs := [(.int .i64 (((v1.getD x9.2.toNat default)).Conc)), (.int .i64 (((v1.getD x9.2.toNat default)).Thick)), (.int .i64 (((v1.getD x9.2.toNat default)).Ridge)), (.int .i64 (((v1.getD x9.2.toNat default)).Press))]) rfl zh)),
         ok_if (lN rfl) rfl rfl rfl rfl rfl rfl (fun hg17 => oqM (lN rfl) (force_x rfl)),
         ok_if (lN rfl) rfl rfl rfl rfl rfl rfl (fun hg18 => oqM (lN rfl) (force_x rfl)),
         ok_if (lN rfl) rfl rfl rfl rfl rfl rfl (fun hg19 => oqC (x := .B v5) (fs := []) (caps := []) (extra := []) (lN rfl) en_96 rfl ⟨rfl, rfl, rfl⟩ (EvL.cons (force_eq (beq_iff_eq.2 hg19) rfl) (EvL.cons (force_eq (beq_iff_eq.2 hg19) rfl) (EvL.cons (force_eq (beq_iff_eq.2 hg19) rfl) (EvL.cons (force_eq (beq_iff_eq.2 hg19) rfl) EvL.nil)))) (fun mm aa ww gg hr hrel => (c96 F a0 ⟨a0Tp, a0.Thrust.length, a0Tc⟩ ⟨a0Wp, a0.Water.length, a0Wc⟩ ⟨a0Ip, a0.Ice.length, a0Ic⟩ ((v1.getD x9.2.toNat default)) x6.2 a2 ww (SlIs.mono ha0_Thrust hrel.below) (SlIs.mono ha0_Water hrel.below) (SlIs.mono ha0_Ice hrel.below) v5 (brk_t hg19 hv5)))),
         okp rfl rfl (op_and (lN rfl) rfl rfl),
         okp rfl rfl (oqM (lN rfl) rfl),
         ok_if (lN rfl) rfl rfl rfl rfl rfl rfl (fun hg20 => oqM (lN rfl) (force_x rfl)),
         ok_if (lN rfl) rfl rfl rfl rfl rfl rfl (fun hg21 => oqM (lN rfl) (force_x rfl)),
         ok_if (lN rfl) rfl rfl rfl rfl rfl rfl (fun hg22 => op_ixO (lN rfl) (force_eq (beq_iff_eq.2 hg22) rfl) (force_eq (beq_iff_eq.2 hg22) rfl) ss_154 rfl (flat_ne (enc := encIce) (k := 4) (fun _ => rfl) (by decide) (i := x9.2) (hp23 hg22).1 (hp23 hg22).2) (hp23 hg22).1 (hp23 hg22).2),
         ok_if (lN rfl) rfl rfl rfl rfl rfl rfl (fun hg24 => op_loadON (vs := [(.int .i64 (((v1.getD x9.2.toNat default)).Conc)), (.int .i64 (((v1.getD x9.2.toNat default)).Thick)), (.int .i64 (((v1.getD x9.2.toNat default)).Ridge)), (.int .i64 (((v1.getD x9.2.toNat default)).Press))]) (lN rfl) sh_108 (force_eq (beq_iff_eq.2 hg24) rfl) rfl rfl (fun zq zv zh => flat_sub (k := 4) (l := v1) (enc := encIce) (fun _ => rfl) default (i := x9.2) (hp23 hg24).1 (hp23 hg24).2 0 (vs := [(.int .i64 (((v1.getD x9.2.toNat default)).Conc)), (.int .i64 (((v1.getD x9.2.toNat default)).Thick)), (.int .i64 (((v1.getD x9.2.toNat default)).Ridge)), (.int .i64 (((v1.getD x9.2.toNat default)).Press))]) rfl zh)),
         ok_if (lN rfl) rfl rfl rfl rfl rfl rfl (fun hg25 => oqM (lN rfl) (force_x rfl)),
         ok_if (lN rfl) rfl rfl rfl rfl rfl rfl (fun hg26 => oqM (lN rfl) (force_x rfl)),
         ok_if (lN rfl) rfl rfl rfl rfl rfl rfl (fun hg27 => oqC (x := .i v6) (fs := []) (caps := []) (extra := []) (lN rfl) en_97 rfl ⟨rfl, rfl, rfl⟩ (EvL.cons (force_eq (beq_iff_eq.2 hg27) rfl) (EvL.cons (force_eq (beq_iff_eq.2 hg27) rfl) (EvL.cons (force_eq (beq_iff_eq.2 hg27) rfl) EvL.nil))) (fun mm aa ww gg hr hrel => (c97 F ((v1.getD x9.2.toNat default)) x6.2 a2 ww v6 (brk_t hg27 hv6)))),
         ok_if (lN rfl) rfl rfl rfl rfl rfl rfl (fun hg28 => oqF (lN rfl) (force_x rfl) fo_64_0),
         ok_if (lN rfl) rfl rfl rfl rfl rfl rfl (fun hg29 => oq1 (lN rfl) sh_3 (force_eq (beq_iff_eq.2 hg29) rfl) rfl),
         ok_if (lN rfl) rfl rfl rfl rfl rfl rfl (fun hg30 => oqC (x := .i v7) (fs := []) (caps := []) (extra := []) (lN rfl) en_98 rfl ⟨rfl, rfl, rfl⟩ (EvL.cons (force_eq (beq_iff_eq.2 hg30) rfl) EvL.nil) (fun mm aa ww gg hr hrel => (c98 F a0.Class ww v7 (brk_t hg30 hv7)))),
         ok_if (lN rfl) rfl rfl rfl rfl rfl rfl (fun hg31 => oqB (lN rfl) (force_eq (beq_iff_eq.2 hg31) rfl) (force_eq (beq_iff_eq.2 hg31) rfl) rfl),
         okp rfl rfl (op_and (lN rfl) rfl rfl),
         okp rfl rfl (oqA (lN rfl) rfl),
         trivial⟩ ?_
        refine fqK (s' := (kt 2 (.B a2) :: kt 3 (.p 1 0) :: kt 8 (.o 3 4 v1.length) :: kt 11 (.i x6.1) :: kt 12 (.i x6.2) :: kt 13 (.B ((x9.1 && v5) && (decide (v6 ≤ v7)))) :: kt 14 (.i x9.2) :: kb 1 64 11 :: (.r 3, some (.vec true 4 108 4 (v1.flatMap encIce))) :: sK 1 a0 (.v (.slice a0Tp a0.Thrust.length a0Tc)) (.v (.slice a0Wp a0.Water.length a0Wc)) (.v (.slice a0Ip a0.Ice.length a0Ic)) [])) ?_ (kp rfl) rfl
        refine fin_block ?_
        refine fqT ?_
        obtain ⟨hp32, hm⟩ := chk_some hm
        refine aqT (rows := [_, _, _]) rfl (by kernel_rfl) ⟨
         okp rfl rfl (oqM (lN rfl) rfl),
         okp rfl rfl (oqB (lN rfl) rfl rfl (nw_add hp32)),
         okp rfl rfl (oqA (lN rfl) rfl),
         trivial⟩ ?_
        refine fqK (s' := (kt 2 (.B a2) :: kt 3 (.p 1 0) :: kt 8 (.o 3 4 v1.length) :: kt 11 (.i x6.1) :: kt 12 (.i x6.2) :: kt 13 (.B ((x9.1 && v5) && (decide (v6 ≤ v7)))) :: kt 14 (.i (x9.2 + 1)) :: kb 1 64 11 :: (.r 3, some (.vec true 4 108 4 (v1.flatMap encIce))) :: sK 1 a0 (.v (.slice a0Tp a0.Thrust.length a0Tc)) (.v (.slice a0Wp a0.Water.length a0Wc)) (.v (.slice a0Ip a0.Ice.length a0Ic)) [])) ?_ (kp rfl) rfl
        exact fin_cut ((x9.1 && v5) && (decide (v6 ≤ v7)), x9.2 + 1) hm ⟨rfl, rfl, rfl, rfl, rfl, rfl, rfl, rfl, rfl, rfl, rfl, rfl, rfl, rfl, rfl, rfl, rfl, rfl, rfl, rfl, trivial⟩ rfl
       ·have hm := brk_f hz10 hm
        refine aw_exit ?_
        refine fin_then_exit ?_
        refine fin_then_exit ?_
        refine fin_block_exit ?_
        exact fin_cut x9.1 hm ⟨rfl, rfl, rfl, rfl, rfl, rfl, rfl, rfl, rfl, rfl, rfl, rfl, rfl, rfl, rfl, rfl, rfl, rfl, rfl, trivial⟩ rfl
      ·have _z := hm
       refine aqS ?_
       refine aqT (rows := [_]) rfl (by kernel_rfl) ⟨
        okp rfl rfl (oqM (lN rfl) rfl),
        trivial⟩ ?_
       refine fqK (s' := (kt 2 (.B a2) :: kt 3 (.p 1 0) :: kt 8 (.o 3 4 v1.length) :: kt 11 (.i x6.1) :: kt 12 (.i x6.2) :: kt 81 (.B x8) :: kb 1 64 11 :: (.r 3, some (.vec true 4 108 4 (v1.flatMap encIce))) :: sK 1 a0 (.v (.slice a0Tp a0.Thrust.length a0Tc)) (.v (.slice a0Wp a0.Water.length a0Wc)) (.v (.slice a0Ip a0.Ice.length a0Ic)) [])) ?_ (kp rfl) rfl
       refine fqT ?_
       refine aw_cond rfl (fun hz33 => ?_) (fun hz33 => ?_)
       ·have hm := brk_t hz33 hm
        refine aqT (rows := [_, _]) rfl (by kernel_rfl) ⟨
         okp rfl rfl (oqM (lN rfl) rfl),
         okp rfl rfl (oqA (lN rfl) rfl),
         trivial⟩ ?_
        refine fqK (s' := (kt 2 (.B a2) :: kt 3 (.p 1 0) :: kt 8 (.o 3 4 v1.length) :: kt 11 (.i x6.2) :: kt 12 (.i x6.2) :: kb 1 64 11 :: (.r 3, some (.vec true 4 108 4 (v1.flatMap encIce))) :: sK 1 a0 (.v (.slice a0Tp a0.Thrust.length a0Tc)) (.v (.slice a0Wp a0.Water.length a0Wc)) (.v (.slice a0Ip a0.Ice.length a0Ic)) [])) ?_ (kp rfl) rfl
        refine fin_block ?_
        exact fin_cut x6.2 hm ⟨rfl, rfl, rfl, rfl, rfl, rfl, rfl, rfl, rfl, rfl, rfl, rfl, rfl, rfl, rfl, rfl, rfl, rfl, trivial⟩ rfl
       ·have hm := brk_f hz33 hm
        refine aw_skip ?_
        refine fin_block ?_
        exact fin_cut x6.1 hm ⟨rfl, rfl, rfl, rfl, rfl, rfl, rfl, rfl, rfl, rfl, rfl, rfl, rfl, rfl, rfl, rfl, rfl, rfl, trivial⟩ rfl
     ·have _z := hm
      obtain ⟨hp34, hm⟩ := chk_some hm
      refine aqT (rows := [_, _, _]) rfl (by kernel_rfl) ⟨
       okp rfl rfl (oqM (lN rfl) rfl),
       okp rfl rfl (oqB (lN rfl) rfl rfl (nw_add hp34)),
       okp rfl rfl (oqA (lN rfl) rfl),
       trivial⟩ ?_
      refine fqK (s' := (kt 2 (.B a2) :: kt 3 (.p 1 0) :: kt 8 (.o 3 4 v1.length) :: kt 11 (.i x7) :: kt 12 (.i (x6.2 + 1)) :: kb 1 64 11 :: (.r 3, some (.vec true 4 108 4 (v1.flatMap encIce))) :: sK 1 a0 (.v (.slice a0Tp a0.Thrust.length a0Tc)) (.v (.slice a0Wp a0.Water.length a0Wc)) (.v (.slice a0Ip a0.Ice.length a0Ic)) [])) ?_ (kp rfl) rfl
      exact fin_cut (x7, x6.2 + 1) hm ⟨rfl, rfl, rfl, rfl, rfl, rfl, rfl, rfl, rfl, rfl, rfl, rfl, rfl, rfl, rfl, rfl, rfl, rfl, trivial⟩ rfl
    ·have hm := brk_f hz9 hm
     refine aw_exit ?_
     refine fin_then_exit ?_
     refine fin_then_exit ?_
     refine fin_block_exit ?_
     exact fin_cut x6.1 hm ⟨rfl, trivial⟩ rfl
   ·have _z := hm
    refine aqS ?_
    refine aqT (rows := [_, _, _]) rfl (by kernel_rfl) ⟨
     okp rfl rfl (oqM (lN rfl) rfl),
     okp rfl rfl (oqA (lN rfl) rfl),
     okp rfl rfl (oqA (lN rfl) rfl),
     trivial⟩ ?_
    refine fqK (s' := [kt 6 (.i x5), kt 7 (.i 0)]) ?_ (kp rfl) rfl
    refine fqT ?_
    refine aw_ret ?_
    refine post_ret (x := .t [.i x5, .i 0]) rfl rfl (rqT rfl (rqT rfl resOK_nil)) rfl (fun mm aa ww hr => ?_)
    have hm := Option.some.inj hm
    subst hm
    exact ⟨rfl, hr.below⟩

def m66 (F : Nat) (a0 : Ship) (a1 : Cell) (a2 : Bool) : Option (Int × Int) :=
 bnd (m101 F a0 a1) (fun v1 => brk (v1 != 0) (some (0, v1)) (bnd (m94 F a0 a1 a2) (fun v2 => some (v2.1, v2.2))))

theorem c66 (F : Nat) (a0 : Ship) (a0_Thrust_s : SlV) (a0_Water_s : SlV) (a0_Ice_s : SlV) (a1 : Cell) (a2 : Bool) (w : World) (ha0_Thrust : SlIs encPt 2 w a0_Thrust_s a0.Thrust) (ha0_Water : SlIs encPt 2 w a0_Water_s a0.Water) (ha0_Ice : SlIs encPt 2 w a0_Ice_s a0.Ice) (r : Int × Int) (hm : m66 F a0 a1 a2 = some r) : Calls Tryd.prog 66 #[.agg #[.int .i64 a0.Class, .int .i64 a0.Power, .int .i64 a0.Draught, .int .i64 a0.Tonnes, .slice a0_Thrust_s.p a0_Thrust_s.n a0_Thrust_s.c, .slice a0_Water_s.p a0_Water_s.n a0_Water_s.c, .slice a0_Ice_s.p a0_Ice_s.n a0_Ice_s.c, .int .i64 a0.Slow, .int .i64 a0.Brash, .int .i64 a0.Ridge, .int .i64 a0.Press], .agg #[.int .i64 a1.Conc.Lo, .int .i64 a1.Conc.Hi, .int .i64 a1.Thick.Lo, .int .i64 a1.Thick.Hi, .int .i64 a1.Ridge.Lo, .int .i64 a1.Ridge.Hi, .int .i64 a1.Press.Lo, .int .i64 a1.Press.Hi], .bool a2] w fun e w' => e = .returned (.tuple #[.int .i64 r.1, .int .i64 r.2]) ∧ Below w.heap.size w w' := by
 obtain ⟨a0Tp, a0Tn, a0Tc⟩ := a0_Thrust_s
 have ha0_Thrust_l : a0Tn = a0.Thrust.length := ha0_Thrust.1
 subst ha0_Thrust_l
 obtain ⟨a0_Thrust_b, a0To, ha0_Thrust_p, ha0_Thrust_L⟩ := SlAt.lies' ha0_Thrust
 obtain ⟨a0Wp, a0Wn, a0Wc⟩ := a0_Water_s
 have ha0_Water_l : a0Wn = a0.Water.length := ha0_Water.1
 subst ha0_Water_l
 obtain ⟨a0_Water_b, a0Wo, ha0_Water_p, ha0_Water_L⟩ := SlAt.lies' ha0_Water
 obtain ⟨a0Ip, a0In, a0Ic⟩ := a0_Ice_s
 have ha0_Ice_l : a0In = a0.Ice.length := ha0_Ice.1
 subst ha0_Ice_l
 obtain ⟨a0_Ice_b, a0Io, ha0_Ice_p, ha0_Ice_L⟩ := SlAt.lies' ha0_Ice
 unfold m66 at hm
 refine enter (args := [.g [.i a0.Class, .i a0.Power, .i a0.Draught, .i a0.Tonnes, .v (.slice a0Tp a0.Thrust.length a0Tc), .v (.slice a0Wp a0.Water.length a0Wc), .v (.slice a0Ip a0.Ice.length a0Ic), .i a0.Slow, .i a0.Brash, .i a0.Ridge, .i a0.Press], .g [.i a1.Conc.Lo, .i a1.Conc.Hi, .i a1.Thick.Lo, .i a1.Thick.Hi, .i a1.Ridge.Lo, .i a1.Ridge.Hi, .i a1.Press.Lo, .i a1.Press.Hi], .B a2]) Tryd.func66 rfl (N := 21) rfl (Nat.le_of_ble_eq_true rfl) ?_
 refine aqS ?_
 refine aqT (rows := [_, _, _, _]) rfl (by kernel_rfl) ⟨
  okp rfl rfl (op_boxN (L := 1) (lN rfl) rfl rfl rfl),
  okp rfl rfl (op_boxN (L := 2) (lN rfl) rfl rfl rfl),
  okp rfl rfl (oqA (lN rfl) rfl),
  okp rfl rfl (oqA (lN rfl) rfl),
  trivial⟩ ?_
 refine fqK (s' := (kt 2 (.B a2) :: kt 3 (.p 1 0) :: kt 4 (.p 2 0) :: kb 1 64 11 :: kb 2 72 8 :: sK 1 a0 (.v (.slice a0Tp a0.Thrust.length a0Tc)) (.v (.slice a0Wp a0.Water.length a0Wc)) (.v (.slice a0Ip a0.Ice.length a0Ic)) [kc 2 0 (.i a1.Conc.Lo), kc 2 1 (.i a1.Conc.Hi), kc 2 2 (.i a1.Thick.Lo), kc 2 3 (.i a1.Thick.Hi), kc 2 4 (.i a1.Ridge.Lo), kc 2 5 (.i a1.Ridge.Hi), kc 2 6 (.i a1.Press.Lo), kc 2 7 (.i a1.Press.Hi)])) ?_ (kp rfl) rfl
 refine fqT ?_
 refine aqS ?_
 refine aqS ?_
 obtain ⟨v1, hv1, hm⟩ := bnd_some hm
 refine aqT (rows := [_, _, _, _]) rfl (by kernel_rfl) ⟨
  okp rfl rfl (oqL (ys := [.i a0.Class, .i a0.Power, .i a0.Draught, .i a0.Tonnes, .v (.slice a0Tp a0.Thrust.length a0Tc), .v (.slice a0Wp a0.Water.length a0Wc), .v (.slice a0Ip a0.Ice.length a0Ic), .i a0.Slow, .i a0.Brash, .i a0.Ridge, .i a0.Press]) (lN rfl) sh_64 rfl rfl ⟨rfl, rfl, rfl, rfl, rfl, rfl, rfl, rfl, rfl, rfl, rfl, trivial⟩),
  okp rfl rfl (oqL (ys := [.i a1.Conc.Lo, .i a1.Conc.Hi, .i a1.Thick.Lo, .i a1.Thick.Hi, .i a1.Ridge.Lo, .i a1.Ridge.Hi, .i a1.Press.Lo, .i a1.Press.Hi]) (lN rfl) sh_72 rfl rfl ⟨rfl, rfl, rfl, rfl, rfl, rfl, rfl, rfl, trivial⟩),
  okp rfl rfl (oqC (x := .i v1) (fs := []) (caps := []) (extra := []) (lN rfl) en_101 rfl ⟨rfl, rfl, rfl⟩ (EvL.cons rfl (EvL.cons rfl EvL.nil)) (fun mm aa ww gg hr hrel => (c101 F a0 ⟨a0Tp, a0.Thrust.length, a0Tc⟩ ⟨a0Wp, a0.Water.length, a0Wc⟩ ⟨a0Ip, a0.Ice.length, a0Ic⟩ a1 ww (SlIs.mono ha0_Thrust hrel.below) (SlIs.mono ha0_Water hrel.below) (SlIs.mono ha0_Ice hrel.below) v1 hv1))),
  okp rfl rfl (oqA (lN rfl) rfl),
  trivial⟩ ?_
 refine fqK (s' := (kt 2 (.B a2) :: kt 3 (.p 1 0) :: kt 4 (.p 2 0) :: kt 8 (.i v1) :: kb 1 64 11 :: kb 2 72 8 :: sK 1 a0 (.v (.slice a0Tp a0.Thrust.length a0Tc)) (.v (.slice a0Wp a0.Water.length a0Wc)) (.v (.slice a0Ip a0.Ice.length a0Ic)) [kc 2 0 (.i a1.Conc.Lo), kc 2 1 (.i a1.Conc.Hi), kc 2 2 (.i a1.Thick.Lo), kc 2 3 (.i a1.Thick.Hi), kc 2 4 (.i a1.Ridge.Lo), kc 2 5 (.i a1.Ridge.Hi), kc 2 6 (.i a1.Press.Lo), kc 2 7 (.i a1.Press.Hi)])) ?_ (kp rfl) rfl
 refine fqT ?_
 refine aqS ?_
 refine aqT (rows := [_, _]) rfl (by kernel_rfl) ⟨
  okp rfl rfl (oqM (lN rfl) rfl),
  okp rfl rfl (oqB (lN rfl) rfl rfl rfl),
  trivial⟩ ?_
 refine fqK (s' := (kt 2 (.B a2) :: kt 3 (.p 1 0) :: kt 4 (.p 2 0) :: kt 8 (.i v1) :: kt 13 (.B (v1 != 0)) :: kb 1 64 11 :: kb 2 72 8 :: sK 1 a0 (.v (.slice a0Tp a0.Thrust.length a0Tc)) (.v (.slice a0Wp a0.Water.length a0Wc)) (.v (.slice a0Ip a0.Ice.length a0Ic)) [kc 2 0 (.i a1.Conc.Lo), kc 2 1 (.i a1.Conc.Hi), kc 2 2 (.i a1.Thick.Lo), kc 2 3 (.i a1.Thick.Hi), kc 2 4 (.i a1.Ridge.Lo), kc 2 5 (.i a1.Ridge.Hi), kc 2 6 (.i a1.Press.Lo), kc 2 7 (.i a1.Press.Hi)])) ?_ (kp rfl) rfl
 refine fqT ?_
 refine aw_cond rfl (fun hz1 => ?_) (fun hz1 => ?_)
 ·have hm := brk_t hz1 hm
  refine aqS ?_
  refine aqT (rows := [_, _, _]) rfl (by kernel_rfl) ⟨
   okp rfl rfl (oqM (lN rfl) rfl),
   okp rfl rfl (oqA (lN rfl) rfl),
   okp rfl rfl (oqA (lN rfl) rfl),
   trivial⟩ ?_
  refine fqK (s' := [kt 6 (.i 0), kt 7 (.i v1)]) ?_ (kp rfl) rfl
  refine fqT ?_
  refine aw_ret ?_
  refine fin_then_ret ?_
  refine post_ret (x := .t [.i 0, .i v1]) rfl rfl (rqT rfl (rqT rfl resOK_nil)) rfl (fun mm aa ww hr => ?_)
  have hm := Option.some.inj hm
  subst hm
  exact ⟨rfl, hr.below⟩
 ·have hm := brk_f hz1 hm
  refine aw_skip ?_
  refine fqT ?_
  refine aqS ?_
  obtain ⟨v2, hv2, hm⟩ := bnd_some hm
  refine aqT (rows := [_, _, _, _, _, _, _, _]) rfl (by kernel_rfl) ⟨
   okp rfl rfl (oqL (ys := [.i a0.Class, .i a0.Power, .i a0.Draught, .i a0.Tonnes, .v (.slice a0Tp a0.Thrust.length a0Tc), .v (.slice a0Wp a0.Water.length a0Wc), .v (.slice a0Ip a0.Ice.length a0Ic), .i a0.Slow, .i a0.Brash, .i a0.Ridge, .i a0.Press]) (lN rfl) sh_64 rfl rfl ⟨rfl, rfl, rfl, rfl, rfl, rfl, rfl, rfl, rfl, rfl, rfl, trivial⟩),
   okp rfl rfl (oqL (ys := [.i a1.Conc.Lo, .i a1.Conc.Hi, .i a1.Thick.Lo, .i a1.Thick.Hi, .i a1.Ridge.Lo, .i a1.Ridge.Hi, .i a1.Press.Lo, .i a1.Press.Hi]) (lN rfl) sh_72 rfl rfl ⟨rfl, rfl, rfl, rfl, rfl, rfl, rfl, rfl, trivial⟩),
   okp rfl rfl (oqM (lN rfl) rfl),
   okp rfl rfl (oqC (x := .t [.i v2.1, .i v2.2]) (fs := []) (caps := []) (extra := []) (lN rfl) en_94 rfl ⟨rfl, rfl, rfl⟩ (EvL.cons rfl (EvL.cons rfl (EvL.cons rfl EvL.nil))) (fun mm aa ww gg hr hrel => (c94 F a0 ⟨a0Tp, a0.Thrust.length, a0Tc⟩ ⟨a0Wp, a0.Water.length, a0Wc⟩ ⟨a0Ip, a0.Ice.length, a0Ic⟩ a1 a2 ww (SlIs.mono ha0_Thrust hrel.below) (SlIs.mono ha0_Water hrel.below) (SlIs.mono ha0_Ice hrel.below) v2 hv2))),
   okp rfl rfl (op_extract (lN rfl) rfl rfl),
   okp rfl rfl (op_extract (lN rfl) rfl rfl),
   okp rfl rfl (oqA (lN rfl) rfl),
   okp rfl rfl (oqA (lN rfl) rfl),
   trivial⟩ ?_
  refine fqK (s' := [kt 6 (.i v2.1), kt 7 (.i v2.2)]) ?_ (kp rfl) rfl
  refine fqT ?_
  refine aw_ret ?_
  refine post_ret (x := .t [.i v2.1, .i v2.2]) rfl rfl (rqT rfl (rqT rfl resOK_nil)) rfl (fun mm aa ww hr => ?_)
  have hm := Option.some.inj hm
  subst hm
  exact ⟨rfl, hr.below⟩

def m63 (F : Nat) (a0 : Ship) (a1 : Cell) (a2 : Bool) : Option (Span × Int) :=
 bnd (m101 F a0 a1) (fun v1 => brk (v1 != 0) (some ((⟨0, 0⟩ : Span), v1)) (bnd (m95 F a1) (fun v2 => join (fun (x1 : Int × Int) => some ((⟨x1.1, x1.2⟩ : Span), 0)) (fun k1 => loopC (fun (x2 : Int × Int × Int) n2 => brk (decide (x2.1 < (((v2.length : Nat) : Int)))) (chk (0 ≤ x2.1 ∧ x2.1 < ((v2.length : Nat) : Int)) (bnd (m117 F a0 ((v2.getD x2.1.toNat default)) a2) (fun v3 => chk (InR (x2.1 + 1)) (n2 (x2.1 + 1, if v3 < x2.2.1 then v3 else x2.2.1, if v3 > x2.2.2 then v3 else x2.2.2))))) (k1 (x2.2.1, x2.2.2))) F (0, 250, 0)))))

theorem c63 (F : Nat) (a0 : Ship) (a0_Thrust_s : SlV) (a0_Water_s : SlV) (a0_Ice_s : SlV) (a1 : Cell) (a2 : Bool) (w : World) (ha0_Thrust : SlIs encPt 2 w a0_Thrust_s a0.Thrust) (ha0_Water : SlIs encPt 2 w a0_Water_s a0.Water) (ha0_Ice : SlIs encPt 2 w a0_Ice_s a0.Ice) (r : Span × Int) (hm : m63 F a0 a1 a2 = some r) : Calls Tryd.prog 63 #[.agg #[.int .i64 a0.Class, .int .i64 a0.Power, .int .i64 a0.Draught, .int .i64 a0.Tonnes, .slice a0_Thrust_s.p a0_Thrust_s.n a0_Thrust_s.c, .slice a0_Water_s.p a0_Water_s.n a0_Water_s.c, .slice a0_Ice_s.p a0_Ice_s.n a0_Ice_s.c, .int .i64 a0.Slow, .int .i64 a0.Brash, .int .i64 a0.Ridge, .int .i64 a0.Press], .agg #[.int .i64 a1.Conc.Lo, .int .i64 a1.Conc.Hi, .int .i64 a1.Thick.Lo, .int .i64 a1.Thick.Hi, .int .i64 a1.Ridge.Lo, .int .i64 a1.Ridge.Hi, .int .i64 a1.Press.Lo, .int .i64 a1.Press.Hi], .bool a2] w fun e w' => e = .returned (.tuple #[.agg #[.int .i64 r.1.Lo, .int .i64 r.1.Hi], .int .i64 r.2]) ∧ Below w.heap.size w w' := by
 obtain ⟨a0Tp, a0Tn, a0Tc⟩ := a0_Thrust_s
 have ha0_Thrust_l : a0Tn = a0.Thrust.length := ha0_Thrust.1
 subst ha0_Thrust_l
 obtain ⟨a0_Thrust_b, a0To, ha0_Thrust_p, ha0_Thrust_L⟩ := SlAt.lies' ha0_Thrust
 obtain ⟨a0Wp, a0Wn, a0Wc⟩ := a0_Water_s
 have ha0_Water_l : a0Wn = a0.Water.length := ha0_Water.1
 subst ha0_Water_l
 obtain ⟨a0_Water_b, a0Wo, ha0_Water_p, ha0_Water_L⟩ := SlAt.lies' ha0_Water
 obtain ⟨a0Ip, a0In, a0Ic⟩ := a0_Ice_s
 have ha0_Ice_l : a0In = a0.Ice.length := ha0_Ice.1
 subst ha0_Ice_l
 obtain ⟨a0_Ice_b, a0Io, ha0_Ice_p, ha0_Ice_L⟩ := SlAt.lies' ha0_Ice
 unfold m63 at hm
 refine enter (args := [.g [.i a0.Class, .i a0.Power, .i a0.Draught, .i a0.Tonnes, .v (.slice a0Tp a0.Thrust.length a0Tc), .v (.slice a0Wp a0.Water.length a0Wc), .v (.slice a0Ip a0.Ice.length a0Ic), .i a0.Slow, .i a0.Brash, .i a0.Ridge, .i a0.Press], .g [.i a1.Conc.Lo, .i a1.Conc.Hi, .i a1.Thick.Lo, .i a1.Thick.Hi, .i a1.Ridge.Lo, .i a1.Ridge.Hi, .i a1.Press.Lo, .i a1.Press.Hi], .B a2]) Tryd.func63 rfl (N := 47) rfl (Nat.le_of_ble_eq_true rfl) ?_
 refine aqS ?_
 refine aqT (rows := [_, _, _, _]) rfl (by kernel_rfl) ⟨
  okp rfl rfl (op_boxN (L := 1) (lN rfl) rfl rfl rfl),
  okp rfl rfl (op_boxN (L := 2) (lN rfl) rfl rfl rfl),
  okp rfl rfl (op_alloc (L := 3) (lN rfl) zl_32),
  okp rfl rfl (oqA (lN rfl) rfl),
  trivial⟩ ?_
 refine fqK (s' := (kt 2 (.B a2) :: kt 3 (.p 1 0) :: kt 4 (.p 2 0) :: kt 6 (.p 3 0) :: kb 1 64 11 :: kb 2 72 8 :: kb 3 32 2 :: sK 1 a0 (.v (.slice a0Tp a0.Thrust.length a0Tc)) (.v (.slice a0Wp a0.Water.length a0Wc)) (.v (.slice a0Ip a0.Ice.length a0Ic)) [kc 2 0 (.i a1.Conc.Lo), kc 2 1 (.i a1.Conc.Hi), kc 2 2 (.i a1.Thick.Lo), kc 2 3 (.i a1.Thick.Hi), kc 2 4 (.i a1.Ridge.Lo), kc 2 5 (.i a1.Ridge.Hi), kc 2 6 (.i a1.Press.Lo), kc 2 7 (.i a1.Press.Hi), kc 3 0 (.i 0), kc 3 1 (.i 0)])) ?_ (kp rfl) rfl
 refine fqT ?_
 refine aqS ?_
 refine aqS ?_
 obtain ⟨v1, hv1, hm⟩ := bnd_some hm
 refine aqT (rows := [_, _, _, _]) rfl (by kernel_rfl) ⟨
  okp rfl rfl (oqL (ys := [.i a0.Class, .i a0.Power, .i a0.Draught, .i a0.Tonnes, .v (.slice a0Tp a0.Thrust.length a0Tc), .v (.slice a0Wp a0.Water.length a0Wc), .v (.slice a0Ip a0.Ice.length a0Ic), .i a0.Slow, .i a0.Brash, .i a0.Ridge, .i a0.Press]) (lN rfl) sh_64 rfl rfl ⟨rfl, rfl, rfl, rfl, rfl, rfl, rfl, rfl, rfl, rfl, rfl, trivial⟩),
  okp rfl rfl (oqL (ys := [.i a1.Conc.Lo, .i a1.Conc.Hi, .i a1.Thick.Lo, .i a1.Thick.Hi, .i a1.Ridge.Lo, .i a1.Ridge.Hi, .i a1.Press.Lo, .i a1.Press.Hi]) (lN rfl) sh_72 rfl rfl ⟨rfl, rfl, rfl, rfl, rfl, rfl, rfl, rfl, trivial⟩),
  okp rfl rfl (oqC (x := .i v1) (fs := []) (caps := []) (extra := []) (lN rfl) en_101 rfl ⟨rfl, rfl, rfl⟩ (EvL.cons rfl (EvL.cons rfl EvL.nil)) (fun mm aa ww gg hr hrel => (c101 F a0 ⟨a0Tp, a0.Thrust.length, a0Tc⟩ ⟨a0Wp, a0.Water.length, a0Wc⟩ ⟨a0Ip, a0.Ice.length, a0Ic⟩ a1 ww (SlIs.mono ha0_Thrust hrel.below) (SlIs.mono ha0_Water hrel.below) (SlIs.mono ha0_Ice hrel.below) v1 hv1))),
  okp rfl rfl (oqA (lN rfl) rfl),
  trivial⟩ ?_
 refine fqK (s' := (kt 2 (.B a2) :: kt 3 (.p 1 0) :: kt 4 (.p 2 0) :: kt 6 (.p 3 0) :: kt 8 (.i v1) :: kb 1 64 11 :: kb 2 72 8 :: kb 3 32 2 :: sK 1 a0 (.v (.slice a0Tp a0.Thrust.length a0Tc)) (.v (.slice a0Wp a0.Water.length a0Wc)) (.v (.slice a0Ip a0.Ice.length a0Ic)) [kc 2 0 (.i a1.Conc.Lo), kc 2 1 (.i a1.Conc.Hi), kc 2 2 (.i a1.Thick.Lo), kc 2 3 (.i a1.Thick.Hi), kc 2 4 (.i a1.Ridge.Lo), kc 2 5 (.i a1.Ridge.Hi), kc 2 6 (.i a1.Press.Lo), kc 2 7 (.i a1.Press.Hi), kc 3 0 (.i 0), kc 3 1 (.i 0)])) ?_ (kp rfl) rfl
 refine fqT ?_
 refine aqS ?_
 refine aqT (rows := [_, _]) rfl (by kernel_rfl) ⟨
  okp rfl rfl (oqM (lN rfl) rfl),
  okp rfl rfl (oqB (lN rfl) rfl rfl rfl),
  trivial⟩ ?_
 refine fqK (s' := (kt 2 (.B a2) :: kt 3 (.p 1 0) :: kt 4 (.p 2 0) :: kt 6 (.p 3 0) :: kt 8 (.i v1) :: kt 17 (.B (v1 != 0)) :: kb 1 64 11 :: kb 2 72 8 :: kb 3 32 2 :: sK 1 a0 (.v (.slice a0Tp a0.Thrust.length a0Tc)) (.v (.slice a0Wp a0.Water.length a0Wc)) (.v (.slice a0Ip a0.Ice.length a0Ic)) [kc 2 0 (.i a1.Conc.Lo), kc 2 1 (.i a1.Conc.Hi), kc 2 2 (.i a1.Thick.Lo), kc 2 3 (.i a1.Thick.Hi), kc 2 4 (.i a1.Ridge.Lo), kc 2 5 (.i a1.Ridge.Hi), kc 2 6 (.i a1.Press.Lo), kc 2 7 (.i a1.Press.Hi), kc 3 0 (.i 0), kc 3 1 (.i 0)])) ?_ (kp rfl) rfl
 refine fqT ?_
 refine aw_cond rfl (fun hz1 => ?_) (fun hz1 => ?_)
 ·have hm := brk_t hz1 hm
  refine aqS ?_
  refine aqT (rows := [_, _, _, _]) rfl (by kernel_rfl) ⟨
   okp rfl rfl (op_build (x := .g [.i 0, .i 0]) (lN rfl) EvL.nil (fun m w => by kernel_rfl)),
   okp rfl rfl (oqM (lN rfl) rfl),
   okp rfl rfl (op_storeN sz_32 rfl rfl rfl rfl rfl (by decide)),
   okp rfl rfl (oqA (lN rfl) rfl),
   trivial⟩ ?_
  refine fqK (s' := [kt 6 (.p 3 0), kt 7 (.i v1), kb 3 32 2, kc 3 0 (.i 0), kc 3 1 (.i 0)]) ?_ (kp rfl) rfl
  refine fqT ?_
  refine aw_ret ?_
  refine fin_then_ret ?_
  refine post_ret (x := .t [.g [.i 0, .i 0], .i v1]) rfl rfl (resOK_cellN (ys := [.i 0, .i 0]) rfl sh_32 rfl ⟨rfl, rfl, trivial⟩ (rqT rfl resOK_nil)) rfl (fun mm aa ww hr => ?_)
  have hm := Option.some.inj hm
  subst hm
  exact ⟨rfl, hr.below⟩
 ·have hm := brk_f hz1 hm
  refine aw_skip ?_
  refine fqT ?_
  refine aqS ?_
  obtain ⟨v2, hv2, hm⟩ := bnd_some hm
  refine aqT (rows := [_, _, _]) rfl (by kernel_rfl) ⟨
   okp rfl rfl (oqL (ys := [.i a1.Conc.Lo, .i a1.Conc.Hi, .i a1.Thick.Lo, .i a1.Thick.Hi, .i a1.Ridge.Lo, .i a1.Ridge.Hi, .i a1.Press.Lo, .i a1.Press.Hi]) (lN rfl) sh_72 rfl rfl ⟨rfl, rfl, rfl, rfl, rfl, rfl, rfl, rfl, trivial⟩),
   okp rfl rfl (op_callRowsD (x := .o 4 5 v2.length) (R := (fun vs => (vs.getD 0 (.bool false)))) (ls := [(4, 5)]) (ds := [(v2.length, 108, 4, v2.flatMap encIce)]) (fs := []) (caps := []) (extra := []) (lN rfl) en_95 rfl ⟨rfl, rfl, rfl⟩ (EvL.cons rfl EvL.nil) rfl rfl (fun _ => rfl) (fun mm aa ww gg hr hrel => (c95 F a1 ww v2 hv2))),
   okp rfl rfl (oqA (lN rfl) rfl),
   trivial⟩ ?_
  refine fqK (s' := (kt 2 (.B a2) :: kt 3 (.p 1 0) :: kt 6 (.p 3 0) :: kt 9 (.o 4 5 v2.length) :: kb 1 64 11 :: kb 3 32 2 :: (.r 4, some (.vec true 5 108 4 (v2.flatMap encIce))) :: sK 1 a0 (.v (.slice a0Tp a0.Thrust.length a0Tc)) (.v (.slice a0Wp a0.Water.length a0Wc)) (.v (.slice a0Ip a0.Ice.length a0Ic)) [kc 3 0 (.i 0), kc 3 1 (.i 0)])) ?_ (kp rfl) rfl
  refine fqT ?_
  refine aqS ?_
  refine aqT (rows := [_, _, _]) rfl (by kernel_rfl) ⟨
   okp rfl rfl (op_build (x := .g [.i 250, .i 0]) (lN rfl) (EvL.cons rfl EvL.nil) (fun m w => by kernel_rfl)),
   okp rfl rfl (op_alloc (L := 6) (lN rfl) zl_32),
   okp rfl rfl (op_storeN sz_32 rfl rfl rfl rfl rfl (by decide)),
   trivial⟩ ?_
  refine fqK (s' := (kt 2 (.B a2) :: kt 3 (.p 1 0) :: kt 6 (.p 3 0) :: kt 9 (.o 4 5 v2.length) :: kt 10 (.p 6 0) :: kb 1 64 11 :: kb 3 32 2 :: kb 6 32 2 :: (.r 4, some (.vec true 5 108 4 (v2.flatMap encIce))) :: sK 1 a0 (.v (.slice a0Tp a0.Thrust.length a0Tc)) (.v (.slice a0Wp a0.Water.length a0Wc)) (.v (.slice a0Ip a0.Ice.length a0Ic)) [kc 3 0 (.i 0), kc 3 1 (.i 0), kc 6 0 (.i 250), kc 6 1 (.i 0)])) ?_ (kp rfl) rfl
  refine fqT ?_
  refine aw_cutM (ι := Int × Int) hm (fun x1 => [kt 6 (.p 3 0), kt 10 (.p 6 0), kb 3 32 2, kb 6 32 2, kc 3 0 (.i 0), kc 3 1 (.i 0), kc 6 0 (.i x1.1), kc 6 1 (.i x1.2)]) (fun hm => ?_) (fun x1 hm => ?_)
  ·have _z := hm
   refine aqS ?_
   refine aqT (rows := [_]) rfl (by kernel_rfl) ⟨
    okp rfl rfl (oqA (lN rfl) rfl),
    trivial⟩ ?_
   refine fqK (s' := (kt 2 (.B a2) :: kt 3 (.p 1 0) :: kt 6 (.p 3 0) :: kt 9 (.o 4 5 v2.length) :: kt 10 (.p 6 0) :: kt 11 (.i 0) :: kb 1 64 11 :: kb 3 32 2 :: kb 6 32 2 :: (.r 4, some (.vec true 5 108 4 (v2.flatMap encIce))) :: sK 1 a0 (.v (.slice a0Tp a0.Thrust.length a0Tc)) (.v (.slice a0Wp a0.Water.length a0Wc)) (.v (.slice a0Ip a0.Ice.length a0Ic)) [kc 3 0 (.i 0), kc 3 1 (.i 0), kc 6 0 (.i 250), kc 6 1 (.i 0)])) ?_ (kp rfl) rfl
   refine fqT ?_
   refine aw_block ?_
   refine aw_loopC hm (fun x2 => (kt 2 (.B a2) :: kt 3 (.p 1 0) :: kt 6 (.p 3 0) :: kt 9 (.o 4 5 v2.length) :: kt 10 (.p 6 0) :: kt 11 (.i x2.1) :: kb 1 64 11 :: kb 3 32 2 :: kb 6 32 2 :: (.r 4, some (.vec true 5 108 4 (v2.flatMap encIce))) :: sK 1 a0 (.v (.slice a0Tp a0.Thrust.length a0Tc)) (.v (.slice a0Wp a0.Water.length a0Wc)) (.v (.slice a0Ip a0.Ice.length a0Ic)) [kc 3 0 (.i 0), kc 3 1 (.i 0), kc 6 0 (.i x2.2.1), kc 6 1 (.i x2.2.2)])) ⟨rfl, rfl, rfl, rfl, rfl, rfl, rfl, rfl, rfl, rfl, rfl, rfl, rfl, rfl, rfl, rfl, rfl, rfl, rfl, rfl, rfl, rfl, rfl, rfl, rfl, trivial⟩ rfl (fun x2 n2 hm => ?_)
   refine aqS ?_
   refine aqS ?_
   refine aqT (rows := [_, _, _, _]) rfl (by kernel_rfl) ⟨
    okp rfl rfl (oqM (lN rfl) rfl),
    okp rfl rfl (oqM (lN rfl) rfl),
    okp rfl rfl (op_lenO (n := v2.length) (lN rfl) (by rw [ss_154]; rfl) rfl),
    okp rfl rfl (oqB (lN rfl) rfl rfl rfl),
    trivial⟩ ?_
   refine fqK (s' := (kt 2 (.B a2) :: kt 3 (.p 1 0) :: kt 6 (.p 3 0) :: kt 9 (.o 4 5 v2.length) :: kt 10 (.p 6 0) :: kt 11 (.i x2.1) :: kt 26 (.B (decide (x2.1 < (((v2.length : Nat) : Int))))) :: kb 1 64 11 :: kb 3 32 2 :: kb 6 32 2 :: (.r 4, some (.vec true 5 108 4 (v2.flatMap encIce))) :: sK 1 a0 (.v (.slice a0Tp a0.Thrust.length a0Tc)) (.v (.slice a0Wp a0.Water.length a0Wc)) (.v (.slice a0Ip a0.Ice.length a0Ic)) [kc 3 0 (.i 0), kc 3 1 (.i 0), kc 6 0 (.i x2.2.1), kc 6 1 (.i x2.2.2)])) ?_ (kp rfl) rfl
   refine fqT ?_
   refine aw_cond rfl (fun hz2 => ?_) (fun hz2 => ?_)
   ·have hm := brk_t hz2 hm
    refine aw_skip ?_
    refine fqT ?_
    refine aqS ?_
    refine aw_block ?_
    refine aqS ?_
    obtain ⟨hp3, hm⟩ := chk_some hm
    obtain ⟨v3, hv3, hm⟩ := bnd_some hm
    refine aw_any (rows := [_, _, _, _, _, _, _, _]) (M := [0, 0, 0, 6, 14, 0, 63, 127]) Tryd_mixed (by kernel_rfl) rfl (by kernel_rfl) ⟨
     okp rfl rfl (oqL (ys := [.i a0.Class, .i a0.Power, .i a0.Draught, .i a0.Tonnes, .v (.slice a0Tp a0.Thrust.length a0Tc), .v (.slice a0Wp a0.Water.length a0Wc), .v (.slice a0Ip a0.Ice.length a0Ic), .i a0.Slow, .i a0.Brash, .i a0.Ridge, .i a0.Press]) (lN rfl) sh_64 rfl rfl ⟨rfl, rfl, rfl, rfl, rfl, rfl, rfl, rfl, rfl, rfl, rfl, trivial⟩),
     okp rfl rfl (oqM (lN rfl) rfl),
     okp rfl rfl (oqM (lN rfl) rfl),
     okp rfl rfl (op_ixO (lN rfl) rfl rfl ss_154 rfl (flat_ne (enc := encIce) (k := 4) (fun _ => rfl) (by decide) (i := x2.1) hp3.1 hp3.2) hp3.1 hp3.2),
     okp rfl rfl (op_loadON (vs := [(.int .i64 (((v2.getD x2.1.toNat default)).Conc)), (.int .i64 (((v2.getD x2.1.toNat default)).Thick)), (.int .i64 (((v2.getD x2.1.toNat default)).Ridge)), (.int .i64 (((v2.getD x2.1.toNat default)).Press))]) (lN rfl) sh_108 rfl rfl rfl (fun zq zv zh => flat_sub (k := 4) (l := v2) (enc := encIce) (fun _ => rfl) default (i := x2.1) hp3.1 hp3.2 0 (vs := [(.int .i64 (((v2.getD x2.1.toNat default)).Conc)), (.int .i64 (((v2.getD x2.1.toNat default)).Thick)), (.int .i64 (((v2.getD x2.1.toNat default)).Ridge)), (.int .i64 (((v2.getD x2.1.toNat default)).Press))]) rfl zh)),
     okp rfl rfl (oqM (lN rfl) rfl),
     okp rfl rfl (oqC (x := .i v3) (fs := []) (caps := []) (extra := []) (lN rfl) en_117 rfl ⟨rfl, rfl, rfl⟩ (EvL.cons rfl (EvL.cons rfl (EvL.cons rfl EvL.nil))) (fun mm aa ww gg hr hrel => (c117 F a0 ⟨a0Tp, a0.Thrust.length, a0Tc⟩ ⟨a0Wp, a0.Water.length, a0Wc⟩ ⟨a0Ip, a0.Ice.length, a0Ic⟩ ((v2.getD x2.1.toNat default)) a2 ww (SlIs.mono ha0_Thrust hrel.below) (SlIs.mono ha0_Water hrel.below) (SlIs.mono ha0_Ice hrel.below) v3 hv3))),
     okp rfl rfl (oqA (lN rfl) rfl),
     trivial⟩ ?_
    refine fqK (s' := (kt 2 (.B a2) :: kt 3 (.p 1 0) :: kt 6 (.p 3 0) :: kt 9 (.o 4 5 v2.length) :: kt 10 (.p 6 0) :: kt 11 (.i x2.1) :: kt 12 (.i v3) :: kb 1 64 11 :: kb 3 32 2 :: kb 6 32 2 :: (.r 4, some (.vec true 5 108 4 (v2.flatMap encIce))) :: sK 1 a0 (.v (.slice a0Tp a0.Thrust.length a0Tc)) (.v (.slice a0Wp a0.Water.length a0Wc)) (.v (.slice a0Ip a0.Ice.length a0Ic)) [kc 3 0 (.i 0), kc 3 1 (.i 0), kc 6 0 (.i x2.2.1), kc 6 1 (.i x2.2.2)])) ?_ (kp rfl) rfl
    refine fqT ?_
    refine aqS ?_
    refine aqT (rows := [_, _, _, _, _, _]) rfl (by kernel_rfl) ⟨
     okp rfl rfl (oqF (lN rfl) rfl fo_32_0),
     okp rfl rfl (oq1 (lN rfl) sh_3 rfl rfl),
     okp rfl rfl (oqM (lN rfl) rfl),
     okp rfl rfl (op_min (lN rfl) rfl rfl),
     okp rfl rfl (oqF (lN rfl) rfl fo_32_0),
     okp rfl rfl (op_store1 sz_3 rfl rfl rfl rfl (lN rfl)),
     trivial⟩ ?_
    refine fqK (s' := (kt 2 (.B a2) :: kt 3 (.p 1 0) :: kt 6 (.p 3 0) :: kt 9 (.o 4 5 v2.length) :: kt 10 (.p 6 0) :: kt 11 (.i x2.1) :: kt 12 (.i v3) :: kb 1 64 11 :: kb 3 32 2 :: kb 6 32 2 :: (.r 4, some (.vec true 5 108 4 (v2.flatMap encIce))) :: sK 1 a0 (.v (.slice a0Tp a0.Thrust.length a0Tc)) (.v (.slice a0Wp a0.Water.length a0Wc)) (.v (.slice a0Ip a0.Ice.length a0Ic)) [kc 3 0 (.i 0), kc 3 1 (.i 0), kc 6 0 (.i (if v3 < x2.2.1 then v3 else x2.2.1)), kc 6 1 (.i x2.2.2)])) ?_ (kp rfl) rfl
    refine fqT ?_
    refine aqT (rows := [_, _, _, _, _, _]) rfl (by kernel_rfl) ⟨
     okp rfl rfl (oqF (lN rfl) rfl fo_32_1),
     okp rfl rfl (oq1 (lN rfl) sh_3 rfl rfl),
     okp rfl rfl (oqM (lN rfl) rfl),
     okp rfl rfl (op_max (lN rfl) rfl rfl),
     okp rfl rfl (oqF (lN rfl) rfl fo_32_1),
     okp rfl rfl (op_store1 sz_3 rfl rfl rfl rfl (lN rfl)),
     trivial⟩ ?_
    refine fqK (s' := (kt 2 (.B a2) :: kt 3 (.p 1 0) :: kt 6 (.p 3 0) :: kt 9 (.o 4 5 v2.length) :: kt 10 (.p 6 0) :: kt 11 (.i x2.1) :: kb 1 64 11 :: kb 3 32 2 :: kb 6 32 2 :: (.r 4, some (.vec true 5 108 4 (v2.flatMap encIce))) :: sK 1 a0 (.v (.slice a0Tp a0.Thrust.length a0Tc)) (.v (.slice a0Wp a0.Water.length a0Wc)) (.v (.slice a0Ip a0.Ice.length a0Ic)) [kc 3 0 (.i 0), kc 3 1 (.i 0), kc 6 0 (.i (if v3 < x2.2.1 then v3 else x2.2.1)), kc 6 1 (.i (if v3 > x2.2.2 then v3 else x2.2.2))])) ?_ (kp rfl) rfl
    refine fin_block ?_
    refine fqT ?_
    obtain ⟨hp4, hm⟩ := chk_some hm
    refine aqT (rows := [_, _, _]) rfl (by kernel_rfl) ⟨
     okp rfl rfl (oqM (lN rfl) rfl),
     okp rfl rfl (oqB (lN rfl) rfl rfl (nw_add hp4)),
     okp rfl rfl (oqA (lN rfl) rfl),
     trivial⟩ ?_
    refine fqK (s' := (kt 2 (.B a2) :: kt 3 (.p 1 0) :: kt 6 (.p 3 0) :: kt 9 (.o 4 5 v2.length) :: kt 10 (.p 6 0) :: kt 11 (.i (x2.1 + 1)) :: kb 1 64 11 :: kb 3 32 2 :: kb 6 32 2 :: (.r 4, some (.vec true 5 108 4 (v2.flatMap encIce))) :: sK 1 a0 (.v (.slice a0Tp a0.Thrust.length a0Tc)) (.v (.slice a0Wp a0.Water.length a0Wc)) (.v (.slice a0Ip a0.Ice.length a0Ic)) [kc 3 0 (.i 0), kc 3 1 (.i 0), kc 6 0 (.i (if v3 < x2.2.1 then v3 else x2.2.1)), kc 6 1 (.i (if v3 > x2.2.2 then v3 else x2.2.2))])) ?_ (kp rfl) rfl
    exact fin_cut (x2.1 + 1, if v3 < x2.2.1 then v3 else x2.2.1, if v3 > x2.2.2 then v3 else x2.2.2) hm ⟨rfl, rfl, rfl, rfl, rfl, rfl, rfl, rfl, rfl, rfl, rfl, rfl, rfl, rfl, rfl, rfl, rfl, rfl, rfl, rfl, rfl, rfl, rfl, rfl, rfl, trivial⟩ rfl
   ·have hm := brk_f hz2 hm
    refine aw_exit ?_
    refine fin_then_exit ?_
    refine fin_then_exit ?_
    refine fin_block_exit ?_
    exact fin_cut (x2.2.1, x2.2.2) hm ⟨rfl, rfl, rfl, rfl, rfl, rfl, rfl, rfl, trivial⟩ rfl
  ·have _z := hm
   refine aqS ?_
   refine aqT (rows := [_, _, _]) rfl (by kernel_rfl) ⟨
    okp rfl rfl (oqL (ys := [.i x1.1, .i x1.2]) (lN rfl) sh_32 rfl rfl ⟨rfl, rfl, trivial⟩),
    okp rfl rfl (op_storeN sz_32 rfl rfl rfl rfl rfl (by decide)),
    okp rfl rfl (oqA (lN rfl) rfl),
    trivial⟩ ?_
   refine fqK (s' := [kt 6 (.p 3 0), kt 7 (.i 0), kb 3 32 2, kc 3 0 (.i x1.1), kc 3 1 (.i x1.2)]) ?_ (kp rfl) rfl
   refine fqT ?_
   refine aw_ret ?_
   refine post_ret (x := .t [.g [.i x1.1, .i x1.2], .i 0]) rfl rfl (resOK_cellN (ys := [.i x1.1, .i x1.2]) rfl sh_32 rfl ⟨rfl, rfl, trivial⟩ (rqT rfl resOK_nil)) rfl (fun mm aa ww hr => ?_)
   have hm := Option.some.inj hm
   subst hm
   exact ⟨rfl, hr.below⟩

def m64 (F : Nat) (a0 : Ship) (a1 : Cell) (a2 : Bool) : Option (Bool × Bool × Int) :=
 bnd (m63 F a0 a1 a2) (fun v1 => brk (v1.2 != 0) (some (false, false, v1.2)) (some (decide (v1.1.Lo < 10), decide (v1.1.Hi < 10), 0)))

theorem c64 (F : Nat) (a0 : Ship) (a0_Thrust_s : SlV) (a0_Water_s : SlV) (a0_Ice_s : SlV) (a1 : Cell) (a2 : Bool) (w : World) (ha0_Thrust : SlIs encPt 2 w a0_Thrust_s a0.Thrust) (ha0_Water : SlIs encPt 2 w a0_Water_s a0.Water) (ha0_Ice : SlIs encPt 2 w a0_Ice_s a0.Ice) (r : Bool × Bool × Int) (hm : m64 F a0 a1 a2 = some r) : Calls Tryd.prog 64 #[.agg #[.int .i64 a0.Class, .int .i64 a0.Power, .int .i64 a0.Draught, .int .i64 a0.Tonnes, .slice a0_Thrust_s.p a0_Thrust_s.n a0_Thrust_s.c, .slice a0_Water_s.p a0_Water_s.n a0_Water_s.c, .slice a0_Ice_s.p a0_Ice_s.n a0_Ice_s.c, .int .i64 a0.Slow, .int .i64 a0.Brash, .int .i64 a0.Ridge, .int .i64 a0.Press], .agg #[.int .i64 a1.Conc.Lo, .int .i64 a1.Conc.Hi, .int .i64 a1.Thick.Lo, .int .i64 a1.Thick.Hi, .int .i64 a1.Ridge.Lo, .int .i64 a1.Ridge.Hi, .int .i64 a1.Press.Lo, .int .i64 a1.Press.Hi], .bool a2] w fun e w' => e = .returned (.tuple #[.bool r.1, .bool r.2.1, .int .i64 r.2.2]) ∧ Below w.heap.size w w' := by
 obtain ⟨a0Tp, a0Tn, a0Tc⟩ := a0_Thrust_s
 have ha0_Thrust_l : a0Tn = a0.Thrust.length := ha0_Thrust.1
 subst ha0_Thrust_l
 obtain ⟨a0_Thrust_b, a0To, ha0_Thrust_p, ha0_Thrust_L⟩ := SlAt.lies' ha0_Thrust
 obtain ⟨a0Wp, a0Wn, a0Wc⟩ := a0_Water_s
 have ha0_Water_l : a0Wn = a0.Water.length := ha0_Water.1
 subst ha0_Water_l
 obtain ⟨a0_Water_b, a0Wo, ha0_Water_p, ha0_Water_L⟩ := SlAt.lies' ha0_Water
 obtain ⟨a0Ip, a0In, a0Ic⟩ := a0_Ice_s
 have ha0_Ice_l : a0In = a0.Ice.length := ha0_Ice.1
 subst ha0_Ice_l
 obtain ⟨a0_Ice_b, a0Io, ha0_Ice_p, ha0_Ice_L⟩ := SlAt.lies' ha0_Ice
 unfold m64 at hm
 refine enter (args := [.g [.i a0.Class, .i a0.Power, .i a0.Draught, .i a0.Tonnes, .v (.slice a0Tp a0.Thrust.length a0Tc), .v (.slice a0Wp a0.Water.length a0Wc), .v (.slice a0Ip a0.Ice.length a0Ic), .i a0.Slow, .i a0.Brash, .i a0.Ridge, .i a0.Press], .g [.i a1.Conc.Lo, .i a1.Conc.Hi, .i a1.Thick.Lo, .i a1.Thick.Hi, .i a1.Ridge.Lo, .i a1.Ridge.Hi, .i a1.Press.Lo, .i a1.Press.Hi], .B a2]) Tryd.func64 rfl (N := 27) rfl (Nat.le_of_ble_eq_true rfl) ?_
 refine aqS ?_
 refine aqT (rows := [_, _, _, _, _]) rfl (by kernel_rfl) ⟨
  okp rfl rfl (op_boxN (L := 1) (lN rfl) rfl rfl rfl),
  okp rfl rfl (op_boxN (L := 2) (lN rfl) rfl rfl rfl),
  okp rfl rfl (oqA (lN rfl) rfl),
  okp rfl rfl (oqA (lN rfl) rfl),
  okp rfl rfl (oqA (lN rfl) rfl),
  trivial⟩ ?_
 refine fqK (s' := (kt 2 (.B a2) :: kt 3 (.p 1 0) :: kt 4 (.p 2 0) :: kb 1 64 11 :: kb 2 72 8 :: sK 1 a0 (.v (.slice a0Tp a0.Thrust.length a0Tc)) (.v (.slice a0Wp a0.Water.length a0Wc)) (.v (.slice a0Ip a0.Ice.length a0Ic)) [kc 2 0 (.i a1.Conc.Lo), kc 2 1 (.i a1.Conc.Hi), kc 2 2 (.i a1.Thick.Lo), kc 2 3 (.i a1.Thick.Hi), kc 2 4 (.i a1.Ridge.Lo), kc 2 5 (.i a1.Ridge.Hi), kc 2 6 (.i a1.Press.Lo), kc 2 7 (.i a1.Press.Hi)])) ?_ (kp rfl) rfl
 refine fqT ?_
 refine aqS ?_
 obtain ⟨v1, hv1, hm⟩ := bnd_some hm
 refine aqT (rows := [_, _, _, _, _, _, _, _, _, _]) rfl (by kernel_rfl) ⟨
  okp rfl rfl (oqL (ys := [.i a0.Class, .i a0.Power, .i a0.Draught, .i a0.Tonnes, .v (.slice a0Tp a0.Thrust.length a0Tc), .v (.slice a0Wp a0.Water.length a0Wc), .v (.slice a0Ip a0.Ice.length a0Ic), .i a0.Slow, .i a0.Brash, .i a0.Ridge, .i a0.Press]) (lN rfl) sh_64 rfl rfl ⟨rfl, rfl, rfl, rfl, rfl, rfl, rfl, rfl, rfl, rfl, rfl, trivial⟩),
  okp rfl rfl (oqL (ys := [.i a1.Conc.Lo, .i a1.Conc.Hi, .i a1.Thick.Lo, .i a1.Thick.Hi, .i a1.Ridge.Lo, .i a1.Ridge.Hi, .i a1.Press.Lo, .i a1.Press.Hi]) (lN rfl) sh_72 rfl rfl ⟨rfl, rfl, rfl, rfl, rfl, rfl, rfl, rfl, trivial⟩),
  okp rfl rfl (oqM (lN rfl) rfl),
  okp rfl rfl (oqC (x := .t [.g [.i v1.1.Lo, .i v1.1.Hi], .i v1.2]) (fs := []) (caps := []) (extra := []) (lN rfl) en_63 rfl ⟨rfl, rfl, rfl⟩ (EvL.cons rfl (EvL.cons rfl (EvL.cons rfl EvL.nil))) (fun mm aa ww gg hr hrel => (c63 F a0 ⟨a0Tp, a0.Thrust.length, a0Tc⟩ ⟨a0Wp, a0.Water.length, a0Wc⟩ ⟨a0Ip, a0.Ice.length, a0Ic⟩ a1 a2 ww (SlIs.mono ha0_Thrust hrel.below) (SlIs.mono ha0_Water hrel.below) (SlIs.mono ha0_Ice hrel.below) v1 hv1))),
  okp rfl rfl (oqM (lN rfl) rfl),
  okp rfl rfl (op_extract (lN rfl) rfl rfl),
  okp rfl rfl (op_extract (lN rfl) rfl rfl),
  okp rfl rfl (op_alloc (L := 3) (lN rfl) zl_32),
  okp rfl rfl (op_storeN sz_32 rfl rfl rfl rfl rfl (by decide)),
  okp rfl rfl (oqA (lN rfl) rfl),
  trivial⟩ ?_
 refine fqK (s' := [kt 9 (.p 3 0), kt 10 (.i v1.2), kb 3 32 2, kc 3 0 (.i v1.1.Lo), kc 3 1 (.i v1.1.Hi)]) ?_ (kp rfl) rfl
 refine fqT ?_
 refine aqS ?_
 refine aqS ?_
 refine aqT (rows := [_, _]) rfl (by kernel_rfl) ⟨
  okp rfl rfl (oqM (lN rfl) rfl),
  okp rfl rfl (oqB (lN rfl) rfl rfl rfl),
  trivial⟩ ?_
 refine fqK (s' := [kt 9 (.p 3 0), kt 10 (.i v1.2), kt 19 (.B (v1.2 != 0)), kb 3 32 2, kc 3 0 (.i v1.1.Lo), kc 3 1 (.i v1.1.Hi)]) ?_ (kp rfl) rfl
 refine fqT ?_
 refine aw_cond rfl (fun hz1 => ?_) (fun hz1 => ?_)
 ·have hm := brk_t hz1 hm
  refine aqS ?_
  refine aqT (rows := [_, _, _, _]) rfl (by kernel_rfl) ⟨
   okp rfl rfl (oqM (lN rfl) rfl),
   okp rfl rfl (oqA (lN rfl) rfl),
   okp rfl rfl (oqA (lN rfl) rfl),
   okp rfl rfl (oqA (lN rfl) rfl),
   trivial⟩ ?_
  refine fqK (s' := [kt 6 (.B false), kt 7 (.B false), kt 8 (.i v1.2)]) ?_ (kp rfl) rfl
  refine fqT ?_
  refine aw_ret ?_
  refine fin_then_ret ?_
  refine post_ret (x := .t [.B false, .B false, .i v1.2]) rfl rfl (rqT rfl (rqT rfl (rqT rfl resOK_nil))) rfl (fun mm aa ww hr => ?_)
  have hm := Option.some.inj hm
  subst hm
  exact ⟨rfl, hr.below⟩
 ·have hm := brk_f hz1 hm
  refine aw_skip ?_
  refine fqT ?_
  refine aqS ?_
  refine aw_any (rows := [_, _, _, _, _, _, _, _, _]) (M := [0, 1, 3, 0, 8, 24, 7, 127, 255]) Tryd_mixed (by kernel_rfl) rfl (by kernel_rfl) ⟨
   okp rfl rfl (oqF (lN rfl) rfl fo_32_0),
   okp rfl rfl (oq1 (lN rfl) sh_3 rfl rfl),
   okp rfl rfl (oqB (lN rfl) rfl rfl rfl),
   okp rfl rfl (oqF (lN rfl) rfl fo_32_1),
   okp rfl rfl (oq1 (lN rfl) sh_3 rfl rfl),
   okp rfl rfl (oqB (lN rfl) rfl rfl rfl),
   okp rfl rfl (oqA (lN rfl) rfl),
   okp rfl rfl (oqA (lN rfl) rfl),
   okp rfl rfl (oqA (lN rfl) rfl),
   trivial⟩ ?_
  refine fqK (s' := [kt 6 (.B (decide (v1.1.Lo < 10))), kt 7 (.B (decide (v1.1.Hi < 10))), kt 8 (.i 0)]) ?_ (kp rfl) rfl
  refine fqT ?_
  refine aw_ret ?_
  refine post_ret (x := .t [.B (decide (v1.1.Lo < 10)), .B (decide (v1.1.Hi < 10)), .i 0]) rfl rfl (rqT rfl (rqT rfl (rqT rfl resOK_nil))) rfl (fun mm aa ww hr => ?_)
  have hm := Option.some.inj hm
  subst hm
  exact ⟨rfl, hr.below⟩

def m65 (F : Nat) (a0 : Ship) (a1 : Cell) (a2 : Int) (a3 : Bool) : Option (Bool × Bool × Int) :=
 bnd (m101 F a0 a1) (fun v1 => brk (v1 != 0) (some (false, false, v1)) (bnd (m92 F a2 0 250) (fun v2 => brk (!v2) (some (false, false, 6)) (bnd (m95 F a1) (fun v3 => join (fun (x1 : Int) => some (decide (x1 > 0), x1 == (((v3.length : Nat) : Int)), 0)) (fun k1 => loopC (fun (x2 : Int × Int) n2 => brk (decide (x2.2 < (((v3.length : Nat) : Int)))) (join (fun (x3 : Int) => chk (InR (x2.2 + 1)) (n2 (x3, x2.2 + 1))) (fun k3 => chk (0 ≤ x2.2 ∧ x2.2 < ((v3.length : Nat) : Int)) (bnd (m97 F ((v3.getD x2.2.toNat default)) a2 a3) (fun v4 => bnd (m98 F a0.Class) (fun v5 => brk (decide (v4 > v5)) (chk (InR (x2.1 + 1)) (k3 (x2.1 + 1))) (k3 x2.1)))))) (k1 x2.1)) F (0, 0)))))))

theorem c65 (F : Nat) (a0 : Ship) (a0_Thrust_s : SlV) (a0_Water_s : SlV) (a0_Ice_s : SlV) (a1 : Cell) (a2 : Int) (a3 : Bool) (w : World) (ha0_Thrust : SlIs encPt 2 w a0_Thrust_s a0.Thrust) (ha0_Water : SlIs encPt 2 w a0_Water_s a0.Water) (ha0_Ice : SlIs encPt 2 w a0_Ice_s a0.Ice) (r : Bool × Bool × Int) (hm : m65 F a0 a1 a2 a3 = some r) : Calls Tryd.prog 65 #[.agg #[.int .i64 a0.Class, .int .i64 a0.Power, .int .i64 a0.Draught, .int .i64 a0.Tonnes, .slice a0_Thrust_s.p a0_Thrust_s.n a0_Thrust_s.c, .slice a0_Water_s.p a0_Water_s.n a0_Water_s.c, .slice a0_Ice_s.p a0_Ice_s.n a0_Ice_s.c, .int .i64 a0.Slow, .int .i64 a0.Brash, .int .i64 a0.Ridge, .int .i64 a0.Press], .agg #[.int .i64 a1.Conc.Lo, .int .i64 a1.Conc.Hi, .int .i64 a1.Thick.Lo, .int .i64 a1.Thick.Hi, .int .i64 a1.Ridge.Lo, .int .i64 a1.Ridge.Hi, .int .i64 a1.Press.Lo, .int .i64 a1.Press.Hi], .int .i64 a2, .bool a3] w fun e w' => e = .returned (.tuple #[.bool r.1, .bool r.2.1, .int .i64 r.2.2]) ∧ Below w.heap.size w w' := by
 obtain ⟨a0Tp, a0Tn, a0Tc⟩ := a0_Thrust_s
 have ha0_Thrust_l : a0Tn = a0.Thrust.length := ha0_Thrust.1
 subst ha0_Thrust_l
 obtain ⟨a0_Thrust_b, a0To, ha0_Thrust_p, ha0_Thrust_L⟩ := SlAt.lies' ha0_Thrust
 obtain ⟨a0Wp, a0Wn, a0Wc⟩ := a0_Water_s
 have ha0_Water_l : a0Wn = a0.Water.length := ha0_Water.1
 subst ha0_Water_l
 obtain ⟨a0_Water_b, a0Wo, ha0_Water_p, ha0_Water_L⟩ := SlAt.lies' ha0_Water
 obtain ⟨a0Ip, a0In, a0Ic⟩ := a0_Ice_s
 have ha0_Ice_l : a0In = a0.Ice.length := ha0_Ice.1
 subst ha0_Ice_l
 obtain ⟨a0_Ice_b, a0Io, ha0_Ice_p, ha0_Ice_L⟩ := SlAt.lies' ha0_Ice
 unfold m65 at hm
 refine enter (args := [.g [.i a0.Class, .i a0.Power, .i a0.Draught, .i a0.Tonnes, .v (.slice a0Tp a0.Thrust.length a0Tc), .v (.slice a0Wp a0.Water.length a0Wc), .v (.slice a0Ip a0.Ice.length a0Ic), .i a0.Slow, .i a0.Brash, .i a0.Ridge, .i a0.Press], .g [.i a1.Conc.Lo, .i a1.Conc.Hi, .i a1.Thick.Lo, .i a1.Thick.Hi, .i a1.Ridge.Lo, .i a1.Ridge.Hi, .i a1.Press.Lo, .i a1.Press.Hi], .i a2, .B a3]) Tryd.func65 rfl (N := 51) rfl (Nat.le_of_ble_eq_true rfl) ?_
 refine aqS ?_
 refine aqT (rows := [_, _, _, _, _]) rfl (by kernel_rfl) ⟨
  okp rfl rfl (op_boxN (L := 1) (lN rfl) rfl rfl rfl),
  okp rfl rfl (op_boxN (L := 2) (lN rfl) rfl rfl rfl),
  okp rfl rfl (oqA (lN rfl) rfl),
  okp rfl rfl (oqA (lN rfl) rfl),
  okp rfl rfl (oqA (lN rfl) rfl),
  trivial⟩ ?_
 refine fqK (s' := (kt 2 (.i a2) :: kt 3 (.B a3) :: kt 4 (.p 1 0) :: kt 5 (.p 2 0) :: kb 1 64 11 :: kb 2 72 8 :: sK 1 a0 (.v (.slice a0Tp a0.Thrust.length a0Tc)) (.v (.slice a0Wp a0.Water.length a0Wc)) (.v (.slice a0Ip a0.Ice.length a0Ic)) [kc 2 0 (.i a1.Conc.Lo), kc 2 1 (.i a1.Conc.Hi), kc 2 2 (.i a1.Thick.Lo), kc 2 3 (.i a1.Thick.Hi), kc 2 4 (.i a1.Ridge.Lo), kc 2 5 (.i a1.Ridge.Hi), kc 2 6 (.i a1.Press.Lo), kc 2 7 (.i a1.Press.Hi)])) ?_ (kp rfl) rfl
 refine fqT ?_
 refine aqS ?_
 refine aqS ?_
 obtain ⟨v1, hv1, hm⟩ := bnd_some hm
 refine aqT (rows := [_, _, _, _]) rfl (by kernel_rfl) ⟨
  okp rfl rfl (oqL (ys := [.i a0.Class, .i a0.Power, .i a0.Draught, .i a0.Tonnes, .v (.slice a0Tp a0.Thrust.length a0Tc), .v (.slice a0Wp a0.Water.length a0Wc), .v (.slice a0Ip a0.Ice.length a0Ic), .i a0.Slow, .i a0.Brash, .i a0.Ridge, .i a0.Press]) (lN rfl) sh_64 rfl rfl ⟨rfl, rfl, rfl, rfl, rfl, rfl, rfl, rfl, rfl, rfl, rfl, trivial⟩),
  okp rfl rfl (oqL (ys := [.i a1.Conc.Lo, .i a1.Conc.Hi, .i a1.Thick.Lo, .i a1.Thick.Hi, .i a1.Ridge.Lo, .i a1.Ridge.Hi, .i a1.Press.Lo, .i a1.Press.Hi]) (lN rfl) sh_72 rfl rfl ⟨rfl, rfl, rfl, rfl, rfl, rfl, rfl, rfl, trivial⟩),
  okp rfl rfl (oqC (x := .i v1) (fs := []) (caps := []) (extra := []) (lN rfl) en_101 rfl ⟨rfl, rfl, rfl⟩ (EvL.cons rfl (EvL.cons rfl EvL.nil)) (fun mm aa ww gg hr hrel => (c101 F a0 ⟨a0Tp, a0.Thrust.length, a0Tc⟩ ⟨a0Wp, a0.Water.length, a0Wc⟩ ⟨a0Ip, a0.Ice.length, a0Ic⟩ a1 ww (SlIs.mono ha0_Thrust hrel.below) (SlIs.mono ha0_Water hrel.below) (SlIs.mono ha0_Ice hrel.below) v1 hv1))),
  okp rfl rfl (oqA (lN rfl) rfl),
  trivial⟩ ?_
 refine fqK (s' := (kt 2 (.i a2) :: kt 3 (.B a3) :: kt 4 (.p 1 0) :: kt 5 (.p 2 0) :: kt 11 (.i v1) :: kb 1 64 11 :: kb 2 72 8 :: sK 1 a0 (.v (.slice a0Tp a0.Thrust.length a0Tc)) (.v (.slice a0Wp a0.Water.length a0Wc)) (.v (.slice a0Ip a0.Ice.length a0Ic)) [kc 2 0 (.i a1.Conc.Lo), kc 2 1 (.i a1.Conc.Hi), kc 2 2 (.i a1.Thick.Lo), kc 2 3 (.i a1.Thick.Hi), kc 2 4 (.i a1.Ridge.Lo), kc 2 5 (.i a1.Ridge.Hi), kc 2 6 (.i a1.Press.Lo), kc 2 7 (.i a1.Press.Hi)])) ?_ (kp rfl) rfl
 refine fqT ?_
 refine aqS ?_
 refine aqT (rows := [_, _]) rfl (by kernel_rfl) ⟨
  okp rfl rfl (oqM (lN rfl) rfl),
  okp rfl rfl (oqB (lN rfl) rfl rfl rfl),
  trivial⟩ ?_
 refine fqK (s' := (kt 2 (.i a2) :: kt 3 (.B a3) :: kt 4 (.p 1 0) :: kt 5 (.p 2 0) :: kt 11 (.i v1) :: kt 19 (.B (v1 != 0)) :: kb 1 64 11 :: kb 2 72 8 :: sK 1 a0 (.v (.slice a0Tp a0.Thrust.length a0Tc)) (.v (.slice a0Wp a0.Water.length a0Wc)) (.v (.slice a0Ip a0.Ice.length a0Ic)) [kc 2 0 (.i a1.Conc.Lo), kc 2 1 (.i a1.Conc.Hi), kc 2 2 (.i a1.Thick.Lo), kc 2 3 (.i a1.Thick.Hi), kc 2 4 (.i a1.Ridge.Lo), kc 2 5 (.i a1.Ridge.Hi), kc 2 6 (.i a1.Press.Lo), kc 2 7 (.i a1.Press.Hi)])) ?_ (kp rfl) rfl
 refine fqT ?_
 refine aw_cond rfl (fun hz1 => ?_) (fun hz1 => ?_)
 ·have hm := brk_t hz1 hm
  refine aqS ?_
  refine aqT (rows := [_, _, _, _]) rfl (by kernel_rfl) ⟨
   okp rfl rfl (oqM (lN rfl) rfl),
   okp rfl rfl (oqA (lN rfl) rfl),
   okp rfl rfl (oqA (lN rfl) rfl),
   okp rfl rfl (oqA (lN rfl) rfl),
   trivial⟩ ?_
  refine fqK (s' := [kt 8 (.B false), kt 9 (.B false), kt 10 (.i v1)]) ?_ (kp rfl) rfl
  refine fqT ?_
  refine aw_ret ?_
  refine fin_then_ret ?_
  refine post_ret (x := .t [.B false, .B false, .i v1]) rfl rfl (rqT rfl (rqT rfl (rqT rfl resOK_nil))) rfl (fun mm aa ww hr => ?_)
  have hm := Option.some.inj hm
  subst hm
  exact ⟨rfl, hr.below⟩
 ·have hm := brk_f hz1 hm
  refine aw_skip ?_
  refine fqT ?_
  refine aqS ?_
  refine aqS ?_
  obtain ⟨v2, hv2, hm⟩ := bnd_some hm
  refine aqT (rows := [_, _, _]) rfl (by kernel_rfl) ⟨
   okp rfl rfl (oqM (lN rfl) rfl),
   okp rfl rfl (oqC (x := .B v2) (fs := []) (caps := []) (extra := []) (lN rfl) en_92 rfl ⟨rfl, rfl, rfl⟩ (EvL.cons rfl (EvL.cons rfl (EvL.cons rfl EvL.nil))) (fun mm aa ww gg hr hrel => (c92 F a2 0 250 ww v2 hv2))),
   okp rfl rfl (op_not (lN rfl) rfl),
   trivial⟩ ?_
  refine fqK (s' := (kt 2 (.i a2) :: kt 3 (.B a3) :: kt 4 (.p 1 0) :: kt 5 (.p 2 0) :: kt 23 (.B (!v2)) :: kb 1 64 11 :: kb 2 72 8 :: sK 1 a0 (.v (.slice a0Tp a0.Thrust.length a0Tc)) (.v (.slice a0Wp a0.Water.length a0Wc)) (.v (.slice a0Ip a0.Ice.length a0Ic)) [kc 2 0 (.i a1.Conc.Lo), kc 2 1 (.i a1.Conc.Hi), kc 2 2 (.i a1.Thick.Lo), kc 2 3 (.i a1.Thick.Hi), kc 2 4 (.i a1.Ridge.Lo), kc 2 5 (.i a1.Ridge.Hi), kc 2 6 (.i a1.Press.Lo), kc 2 7 (.i a1.Press.Hi)])) ?_ (kp rfl) rfl
  refine fqT ?_
  refine aw_cond rfl (fun hz2 => ?_) (fun hz2 => ?_)
  ·have hm := brk_t hz2 hm
   refine aqS ?_
   refine aqT (rows := [_, _, _]) rfl (by kernel_rfl) ⟨
    okp rfl rfl (oqA (lN rfl) rfl),
    okp rfl rfl (oqA (lN rfl) rfl),
    okp rfl rfl (oqA (lN rfl) rfl),
    trivial⟩ ?_
   refine fqK (s' := [kt 8 (.B false), kt 9 (.B false), kt 10 (.i 6)]) ?_ (kp rfl) rfl
   refine fqT ?_
   refine aw_ret ?_
   refine fin_then_ret ?_
   refine post_ret (x := .t [.B false, .B false, .i 6]) rfl rfl (rqT rfl (rqT rfl (rqT rfl resOK_nil))) rfl (fun mm aa ww hr => ?_)
   have hm := Option.some.inj hm
   subst hm
   exact ⟨rfl, hr.below⟩
  ·have hm := brk_f hz2 hm
   refine aw_skip ?_
   refine fqT ?_
   refine aqS ?_
   refine aqT (rows := [_]) rfl (by kernel_rfl) ⟨
    okp rfl rfl (oqA (lN rfl) rfl),
    trivial⟩ ?_
   refine fqK (s' := (kt 2 (.i a2) :: kt 3 (.B a3) :: kt 4 (.p 1 0) :: kt 5 (.p 2 0) :: kt 12 (.i 0) :: kb 1 64 11 :: kb 2 72 8 :: sK 1 a0 (.v (.slice a0Tp a0.Thrust.length a0Tc)) (.v (.slice a0Wp a0.Water.length a0Wc)) (.v (.slice a0Ip a0.Ice.length a0Ic)) [kc 2 0 (.i a1.Conc.Lo), kc 2 1 (.i a1.Conc.Hi), kc 2 2 (.i a1.Thick.Lo), kc 2 3 (.i a1.Thick.Hi), kc 2 4 (.i a1.Ridge.Lo), kc 2 5 (.i a1.Ridge.Hi), kc 2 6 (.i a1.Press.Lo), kc 2 7 (.i a1.Press.Hi)])) ?_ (kp rfl) rfl
   refine fqT ?_
   refine aqS ?_
   obtain ⟨v3, hv3, hm⟩ := bnd_some hm
   refine aqT (rows := [_, _, _]) rfl (by kernel_rfl) ⟨
    okp rfl rfl (oqL (ys := [.i a1.Conc.Lo, .i a1.Conc.Hi, .i a1.Thick.Lo, .i a1.Thick.Hi, .i a1.Ridge.Lo, .i a1.Ridge.Hi, .i a1.Press.Lo, .i a1.Press.Hi]) (lN rfl) sh_72 rfl rfl ⟨rfl, rfl, rfl, rfl, rfl, rfl, rfl, rfl, trivial⟩),
    okp rfl rfl (op_callRowsD (x := .o 3 4 v3.length) (R := (fun vs => (vs.getD 0 (.bool false)))) (ls := [(3, 4)]) (ds := [(v3.length, 108, 4, v3.flatMap encIce)]) (fs := []) (caps := []) (extra := []) (lN rfl) en_95 rfl ⟨rfl, rfl, rfl⟩ (EvL.cons rfl EvL.nil) rfl rfl (fun _ => rfl) (fun mm aa ww gg hr hrel => (c95 F a1 ww v3 hv3))),
    okp rfl rfl (oqA (lN rfl) rfl),
    trivial⟩ ?_
   refine fqK (s' := (kt 2 (.i a2) :: kt 3 (.B a3) :: kt 4 (.p 1 0) :: kt 12 (.i 0) :: kt 13 (.o 3 4 v3.length) :: kb 1 64 11 :: (.r 3, some (.vec true 4 108 4 (v3.flatMap encIce))) :: sK 1 a0 (.v (.slice a0Tp a0.Thrust.length a0Tc)) (.v (.slice a0Wp a0.Water.length a0Wc)) (.v (.slice a0Ip a0.Ice.length a0Ic)) [])) ?_ (kp rfl) rfl
   refine fqT ?_
   refine aw_cutM (ι := Int) hm (fun x1 => [kt 12 (.i x1), kt 13 (.o 3 4 v3.length), (.r 3, some (.vec true 4 108 4 (v3.flatMap encIce)))]) (fun hm => ?_) (fun x1 hm => ?_)
   ·have _z := hm
    refine aqS ?_
    refine aqT (rows := [_]) rfl (by kernel_rfl) ⟨
     okp rfl rfl (oqA (lN rfl) rfl),
     trivial⟩ ?_
    refine fqK (s' := (kt 2 (.i a2) :: kt 3 (.B a3) :: kt 4 (.p 1 0) :: kt 12 (.i 0) :: kt 13 (.o 3 4 v3.length) :: kt 14 (.i 0) :: kb 1 64 11 :: (.r 3, some (.vec true 4 108 4 (v3.flatMap encIce))) :: sK 1 a0 (.v (.slice a0Tp a0.Thrust.length a0Tc)) (.v (.slice a0Wp a0.Water.length a0Wc)) (.v (.slice a0Ip a0.Ice.length a0Ic)) [])) ?_ (kp rfl) rfl
    refine fqT ?_
    refine aw_block ?_
    refine aw_loopC hm (fun x2 => (kt 2 (.i a2) :: kt 3 (.B a3) :: kt 4 (.p 1 0) :: kt 12 (.i x2.1) :: kt 13 (.o 3 4 v3.length) :: kt 14 (.i x2.2) :: kb 1 64 11 :: (.r 3, some (.vec true 4 108 4 (v3.flatMap encIce))) :: sK 1 a0 (.v (.slice a0Tp a0.Thrust.length a0Tc)) (.v (.slice a0Wp a0.Water.length a0Wc)) (.v (.slice a0Ip a0.Ice.length a0Ic)) [])) ⟨rfl, rfl, rfl, rfl, rfl, rfl, rfl, rfl, rfl, rfl, rfl, rfl, rfl, rfl, rfl, rfl, rfl, rfl, rfl, trivial⟩ rfl (fun x2 n2 hm => ?_)
    refine aqS ?_
    refine aqS ?_
    refine aqT (rows := [_, _, _, _]) rfl (by kernel_rfl) ⟨
     okp rfl rfl (oqM (lN rfl) rfl),
     okp rfl rfl (oqM (lN rfl) rfl),
     okp rfl rfl (op_lenO (n := v3.length) (lN rfl) (by rw [ss_154]; rfl) rfl),
     okp rfl rfl (oqB (lN rfl) rfl rfl rfl),
     trivial⟩ ?_
    refine fqK (s' := (kt 2 (.i a2) :: kt 3 (.B a3) :: kt 4 (.p 1 0) :: kt 12 (.i x2.1) :: kt 13 (.o 3 4 v3.length) :: kt 14 (.i x2.2) :: kt 29 (.B (decide (x2.2 < (((v3.length : Nat) : Int))))) :: kb 1 64 11 :: (.r 3, some (.vec true 4 108 4 (v3.flatMap encIce))) :: sK 1 a0 (.v (.slice a0Tp a0.Thrust.length a0Tc)) (.v (.slice a0Wp a0.Water.length a0Wc)) (.v (.slice a0Ip a0.Ice.length a0Ic)) [])) ?_ (kp rfl) rfl
    refine fqT ?_
    refine aw_cond rfl (fun hz3 => ?_) (fun hz3 => ?_)
    ·have hm := brk_t hz3 hm
     refine aw_skip ?_
     refine fqT ?_
     refine aw_cutM (ι := Int) hm (fun x3 => (kt 2 (.i a2) :: kt 3 (.B a3) :: kt 4 (.p 1 0) :: kt 12 (.i x3) :: kt 13 (.o 3 4 v3.length) :: kt 14 (.i x2.2) :: kb 1 64 11 :: (.r 3, some (.vec true 4 108 4 (v3.flatMap encIce))) :: sK 1 a0 (.v (.slice a0Tp a0.Thrust.length a0Tc)) (.v (.slice a0Wp a0.Water.length a0Wc)) (.v (.slice a0Ip a0.Ice.length a0Ic)) [])) (fun hm => ?_) (fun x3 hm => ?_)
     ·have _z := hm
      refine aw_block ?_
      refine aqS ?_
      obtain ⟨hp4, hm⟩ := chk_some hm
      obtain ⟨v4, hv4, hm⟩ := bnd_some hm
      obtain ⟨v5, hv5, hm⟩ := bnd_some hm
      refine aw_any (rows := [_, _, _, _, _, _, _, _, _, _, _]) (M := [0, 0, 3, 7, 0, 0, 63, 0, 128, 511, 1023]) Tryd_mixed (by kernel_rfl) rfl (by kernel_rfl) ⟨
       okp rfl rfl (oqM (lN rfl) rfl),
       okp rfl rfl (oqM (lN rfl) rfl),
       okp rfl rfl (op_ixO (lN rfl) rfl rfl ss_154 rfl (flat_ne (enc := encIce) (k := 4) (fun _ => rfl) (by decide) (i := x2.2) hp4.1 hp4.2) hp4.1 hp4.2),
       okp rfl rfl (op_loadON (vs := [(.int .i64 (((v3.getD x2.2.toNat default)).Conc)), (.int .i64 (((v3.getD x2.2.toNat default)).Thick)), (.int .i64 (((v3.getD x2.2.toNat default)).Ridge)), (.int .i64 (((v3.getD x2.2.toNat default)).Press))]) (lN rfl) sh_108 rfl rfl rfl (fun zq zv zh => flat_sub (k := 4) (l := v3) (enc := encIce) (fun _ => rfl) default (i := x2.2) hp4.1 hp4.2 0 (vs := [(.int .i64 (((v3.getD x2.2.toNat default)).Conc)), (.int .i64 (((v3.getD x2.2.toNat default)).Thick)), (.int .i64 (((v3.getD x2.2.toNat default)).Ridge)), (.int .i64 (((v3.getD x2.2.toNat default)).Press))]) rfl zh)),
       okp rfl rfl (oqM (lN rfl) rfl),
       okp rfl rfl (oqM (lN rfl) rfl),
       okp rfl rfl (oqC (x := .i v4) (fs := []) (caps := []) (extra := []) (lN rfl) en_97 rfl ⟨rfl, rfl, rfl⟩ (EvL.cons rfl (EvL.cons rfl (EvL.cons rfl EvL.nil))) (fun mm aa ww gg hr hrel => (c97 F ((v3.getD x2.2.toNat default)) a2 a3 ww v4 hv4))),
       okp rfl rfl (oqF (lN rfl) rfl fo_64_0),
       okp rfl rfl (oq1 (lN rfl) sh_3 rfl rfl),
       okp rfl rfl (oqC (x := .i v5) (fs := []) (caps := []) (extra := []) (lN rfl) en_98 rfl ⟨rfl, rfl, rfl⟩ (EvL.cons rfl EvL.nil) (fun mm aa ww gg hr hrel => (c98 F a0.Class ww v5 hv5))),
       okp rfl rfl (oqB (lN rfl) rfl rfl rfl),
       trivial⟩ ?_
      refine fqK (s' := (kt 2 (.i a2) :: kt 3 (.B a3) :: kt 4 (.p 1 0) :: kt 12 (.i x2.1) :: kt 13 (.o 3 4 v3.length) :: kt 14 (.i x2.2) :: kt 42 (.B (decide (v4 > v5))) :: kb 1 64 11 :: (.r 3, some (.vec true 4 108 4 (v3.flatMap encIce))) :: sK 1 a0 (.v (.slice a0Tp a0.Thrust.length a0Tc)) (.v (.slice a0Wp a0.Water.length a0Wc)) (.v (.slice a0Ip a0.Ice.length a0Ic)) [])) ?_ (kp rfl) rfl
      refine fqT ?_
      refine aw_cond rfl (fun hz5 => ?_) (fun hz5 => ?_)
      ·have hm := brk_t hz5 hm
       obtain ⟨hp6, hm⟩ := chk_some hm
       refine aqT (rows := [_, _, _]) rfl (by kernel_rfl) ⟨
        okp rfl rfl (oqM (lN rfl) rfl),
        okp rfl rfl (oqB (lN rfl) rfl rfl (nw_add hp6)),
        okp rfl rfl (oqA (lN rfl) rfl),
        trivial⟩ ?_
       refine fqK (s' := (kt 2 (.i a2) :: kt 3 (.B a3) :: kt 4 (.p 1 0) :: kt 12 (.i (x2.1 + 1)) :: kt 13 (.o 3 4 v3.length) :: kt 14 (.i x2.2) :: kb 1 64 11 :: (.r 3, some (.vec true 4 108 4 (v3.flatMap encIce))) :: sK 1 a0 (.v (.slice a0Tp a0.Thrust.length a0Tc)) (.v (.slice a0Wp a0.Water.length a0Wc)) (.v (.slice a0Ip a0.Ice.length a0Ic)) [])) ?_ (kp rfl) rfl
       refine fin_block ?_
       exact fin_cut (x2.1 + 1) hm ⟨rfl, rfl, rfl, rfl, rfl, rfl, rfl, rfl, rfl, rfl, rfl, rfl, rfl, rfl, rfl, rfl, rfl, rfl, rfl, trivial⟩ rfl
      ·have hm := brk_f hz5 hm
       refine aw_skip ?_
       refine fin_block ?_
       exact fin_cut x2.1 hm ⟨rfl, rfl, rfl, rfl, rfl, rfl, rfl, rfl, rfl, rfl, rfl, rfl, rfl, rfl, rfl, rfl, rfl, rfl, rfl, trivial⟩ rfl
     ·have _z := hm
      obtain ⟨hp7, hm⟩ := chk_some hm
      refine aqT (rows := [_, _, _]) rfl (by kernel_rfl) ⟨
       okp rfl rfl (oqM (lN rfl) rfl),
       okp rfl rfl (oqB (lN rfl) rfl rfl (nw_add hp7)),
       okp rfl rfl (oqA (lN rfl) rfl),
       trivial⟩ ?_
      refine fqK (s' := (kt 2 (.i a2) :: kt 3 (.B a3) :: kt 4 (.p 1 0) :: kt 12 (.i x3) :: kt 13 (.o 3 4 v3.length) :: kt 14 (.i (x2.2 + 1)) :: kb 1 64 11 :: (.r 3, some (.vec true 4 108 4 (v3.flatMap encIce))) :: sK 1 a0 (.v (.slice a0Tp a0.Thrust.length a0Tc)) (.v (.slice a0Wp a0.Water.length a0Wc)) (.v (.slice a0Ip a0.Ice.length a0Ic)) [])) ?_ (kp rfl) rfl
      exact fin_cut (x3, x2.2 + 1) hm ⟨rfl, rfl, rfl, rfl, rfl, rfl, rfl, rfl, rfl, rfl, rfl, rfl, rfl, rfl, rfl, rfl, rfl, rfl, rfl, trivial⟩ rfl
    ·have hm := brk_f hz3 hm
     refine aw_exit ?_
     refine fin_then_exit ?_
     refine fin_then_exit ?_
     refine fin_block_exit ?_
     exact fin_cut x2.1 hm ⟨rfl, rfl, rfl, trivial⟩ rfl
   ·have _z := hm
    refine aqS ?_
    refine aqT (rows := [_, _, _, _, _, _, _, _, _]) rfl (by kernel_rfl) ⟨
     okp rfl rfl (oqM (lN rfl) rfl),
     okp rfl rfl (oqB (lN rfl) rfl rfl rfl),
     okp rfl rfl (oqM (lN rfl) rfl),
     okp rfl rfl (oqM (lN rfl) rfl),
     okp rfl rfl (op_lenO (n := v3.length) (lN rfl) (by rw [ss_154]; rfl) rfl),
     okp rfl rfl (oqB (lN rfl) rfl rfl rfl),
     okp rfl rfl (oqA (lN rfl) rfl),
     okp rfl rfl (oqA (lN rfl) rfl),
     okp rfl rfl (oqA (lN rfl) rfl),
     trivial⟩ ?_
    refine fqK (s' := [kt 8 (.B (decide (x1 > 0))), kt 9 (.B (x1 == (((v3.length : Nat) : Int)))), kt 10 (.i 0)]) ?_ (kp rfl) rfl
    refine fqT ?_
    refine aw_ret ?_
    refine post_ret (x := .t [.B (decide (x1 > 0)), .B (x1 == (((v3.length : Nat) : Int))), .i 0]) rfl rfl (rqT rfl (rqT rfl (rqT rfl resOK_nil))) rfl (fun mm aa ww hr => ?_)
    have hm := Option.some.inj hm
    subst hm
    exact ⟨rfl, hr.below⟩

end Go.Proofs.T

namespace Go.Proofs.T
open Go Go.AX Go.RowKit Hull
theorem en_27 : Proofs.Enters Tryd.prog 27 := Proofs.enters_of Tryd.func27 (by kernel_rfl) rfl
theorem en_21 : Proofs.Enters Tryd.prog 21 := Proofs.enters_of Tryd.func21 (by kernel_rfl) rfl
theorem en_28 : Proofs.Enters Tryd.prog 28 := Proofs.enters_of Tryd.func28 (by kernel_rfl) rfl
theorem en_32 : Proofs.Enters Tryd.prog 32 := Proofs.enters_of Tryd.func32 (by kernel_rfl) rfl
theorem en_39 : Proofs.Enters Tryd.prog 39 := Proofs.enters_of Tryd.func39 (by kernel_rfl) rfl
end Go.Proofs.T

namespace Go.Proofs.T
open Go Go.AX Go.RowKit Hull


def m118 (_F : Nat) (a0 : Cell) : Option (Unit) :=
 some ()

theorem c118 (F : Nat) (a0 : Cell) (w : World)  (r : Unit) (hm : m118 F a0 = some r) : Calls Tryd.prog 118 #[.agg #[.int .i64 a0.Conc.Lo, .int .i64 a0.Conc.Hi, .int .i64 a0.Thick.Lo, .int .i64 a0.Thick.Hi, .int .i64 a0.Ridge.Lo, .int .i64 a0.Ridge.Hi, .int .i64 a0.Press.Lo, .int .i64 a0.Press.Hi]] w fun e w' => ∃ bs : List Nat, e = .returned (.func (.func 145) #[] #[.pointer (some ⟨bs.getD 0 0, 0, none⟩)]) ∧ NewBoxes w w' bs [(34, [(.int .i64 a0.Conc.Lo), (.int .i64 a0.Conc.Hi), (.int .i64 a0.Thick.Lo), (.int .i64 a0.Thick.Hi), (.int .i64 a0.Ridge.Lo), (.int .i64 a0.Ridge.Hi), (.int .i64 a0.Press.Lo), (.int .i64 a0.Press.Hi)])] ∧ Below w.heap.size w w' := by
 unfold m118 at hm
 refine enter (args := [.g [.i a0.Conc.Lo, .i a0.Conc.Hi, .i a0.Thick.Lo, .i a0.Thick.Hi, .i a0.Ridge.Lo, .i a0.Ridge.Hi, .i a0.Press.Lo, .i a0.Press.Hi]]) Tryd.func118 rfl (N := 4) rfl (Nat.le_of_ble_eq_true rfl) ?_
 refine aqS ?_
 refine aqT (rows := [_, _]) rfl (by kernel_rfl) ⟨
  okp rfl rfl (op_boxN (L := 1) (lN rfl) rfl rfl rfl),
  okp rfl rfl (oqA (lN rfl) rfl),
  trivial⟩ ?_
 refine fqK (s' := [kt 1 (.p 1 0), kb 1 34 8, kc 1 0 (.i a0.Conc.Lo), kc 1 1 (.i a0.Conc.Hi), kc 1 2 (.i a0.Thick.Lo), kc 1 3 (.i a0.Thick.Hi), kc 1 4 (.i a0.Ridge.Lo), kc 1 5 (.i a0.Ridge.Hi), kc 1 6 (.i a0.Press.Lo), kc 1 7 (.i a0.Press.Hi)]) ?_ (kp rfl) rfl
 refine fqT ?_
 refine aqS ?_
 refine aqT (rows := [_, _]) rfl (by kernel_rfl) ⟨
  okp rfl rfl (op_mkfn (lN rfl) EvL.nil (EvL.cons rfl EvL.nil)),
  okp rfl rfl (oqA (lN rfl) rfl),
  trivial⟩ ?_
 refine fqK (s' := [kt 2 (.f (.func 145) [] [.p 1 0]), kb 1 34 8, kc 1 0 (.i a0.Conc.Lo), kc 1 1 (.i a0.Conc.Hi), kc 1 2 (.i a0.Thick.Lo), kc 1 3 (.i a0.Thick.Hi), kc 1 4 (.i a0.Ridge.Lo), kc 1 5 (.i a0.Ridge.Hi), kc 1 6 (.i a0.Press.Lo), kc 1 7 (.i a0.Press.Hi)]) ?_ (kp rfl) rfl
 refine fqT ?_
 refine aw_ret ?_
 refine post_ret (x := .f (.func 145) [] [.p 1 0]) rfl rfl (rqT rfl resOK_nil) rfl (fun mm aa ww hr => ?_)
 have hm := Option.some.inj hm
 subst hm
 exact ⟨[mm 1], rfl, ⟨box_hi hr rfl, cells_allS (ys := [.i a0.Conc.Lo, .i a0.Conc.Hi, .i a0.Thick.Lo, .i a0.Thick.Hi, .i a0.Ridge.Lo, .i a0.Ridge.Hi, .i a0.Press.Lo, .i a0.Press.Hi]) hr rfl rfl ⟨rfl, rfl, rfl, rfl, rfl, rfl, rfl, rfl, trivial⟩, ne_nil, trivial⟩, hr.below⟩

end Go.Proofs.T

namespace Go.Proofs.T
open Go Go.AX Go.RowKit Hull
theorem en_118 : Proofs.Enters Tryd.prog 118 := Proofs.enters_of Tryd.func118 (by kernel_rfl) rfl
theorem en_145 : Proofs.Enters Tryd.prog 145 := Proofs.enters_of Tryd.func145 (by kernel_rfl) rfl
theorem eqg_28 : Tryd.prog.eqGuardType Tryd.prog.depth 28 = false := by kernel_rfl
theorem Ice_eqd (a b : Ice) : ((a.Conc == b.Conc) && ((a.Thick == b.Thick) && ((a.Ridge == b.Ridge) && ((a.Press == b.Press) && true)))) = decide (a = b) := by cases a; cases b; rw [Bool.eq_iff_iff]; simp
theorem en_55 : Proofs.Enters Tryd.prog 55 := Proofs.enters_of Tryd.func55 (by kernel_rfl) rfl
theorem zl_4 : zeroL Tryd.prog 4 = some [(.bool false)] := by kernel_rfl
theorem sz_4 : sizeIn Tryd.prog 4 = some 1 := by kernel_rfl

def m55 (F : Nat) (a0 : Ship) (a1 : Cell) (a2 : Bool) : Option (Span × Int) :=
 brk ((met a0 a1) != 0) (some ((⟨0, 0⟩ : Span), met a0 a1)) (join (fun (x1 : Int × Int) => some ((⟨x1.1, x1.2⟩ : Span), 0)) (fun k1 => bnd (m118 F a1) (fun v1 => bnd (chk (check a0 = 0) (chk (goodIce ((firstI a1))) (some (if (speed a0 ((firstI a1)) a2) < 250 then speed a0 ((firstI a1)) a2 else 250, if (speed a0 ((firstI a1)) a2) > 0 then speed a0 ((firstI a1)) a2 else 0)))) (fun v2 => brk (!decide ((firstI a1) = (lastI a1))) (bnd (chk (check a0 = 0) (chk (goodIce ((lastI a1))) (some (if (speed a0 ((lastI a1)) a2) < v2.1 then speed a0 ((lastI a1)) a2 else v2.1, if (speed a0 ((lastI a1)) a2) > v2.2 then speed a0 ((lastI a1)) a2 else v2.2)))) (fun v3 => k1 (v3.1, v3.2))) (k1 (v2.1, v2.2))))))

set_option maxHeartbeats 1000000 in
set_option maxRecDepth 8000 in
theorem c55 (F : Nat) (a0 : Ship) (a0_Thrust_s : SlV) (a0_Water_s : SlV) (a0_Ice_s : SlV) (a1 : Cell) (a2 : Bool) (w : World) (ha0_Thrust : SlIs encPt 2 w a0_Thrust_s a0.Thrust) (ha0_Water : SlIs encPt 2 w a0_Water_s a0.Water) (ha0_Ice : SlIs encPt 2 w a0_Ice_s a0.Ice) (hG : BoxAt w 0 (strengths.map (fun n => Value.int .i64 n))) (r : Span × Int) (hm : m55 F a0 a1 a2 = some r) : Calls Tryd.prog 55 #[.agg #[.int .i64 a0.Class, .int .i64 a0.Power, .int .i64 a0.Draught, .int .i64 a0.Tonnes, .slice a0_Thrust_s.p a0_Thrust_s.n a0_Thrust_s.c, .slice a0_Water_s.p a0_Water_s.n a0_Water_s.c, .slice a0_Ice_s.p a0_Ice_s.n a0_Ice_s.c, .int .i64 a0.Slow, .int .i64 a0.Brash, .int .i64 a0.Ridge, .int .i64 a0.Press], .agg #[.int .i64 a1.Conc.Lo, .int .i64 a1.Conc.Hi, .int .i64 a1.Thick.Lo, .int .i64 a1.Thick.Hi, .int .i64 a1.Ridge.Lo, .int .i64 a1.Ridge.Hi, .int .i64 a1.Press.Lo, .int .i64 a1.Press.Hi], .bool a2] w fun e w' => e = .returned (.tuple #[.agg #[.int .i64 r.1.Lo, .int .i64 r.1.Hi], .int .i64 r.2]) ∧ Below w.heap.size w w' := by
 obtain ⟨a0Tp, a0Tn, a0Tc⟩ := a0_Thrust_s
 have ha0_Thrust_l : a0Tn = a0.Thrust.length := ha0_Thrust.1
 subst ha0_Thrust_l
 obtain ⟨a0_Thrust_b, a0To, ha0_Thrust_p, ha0_Thrust_L⟩ := SlAt.lies' ha0_Thrust
 obtain ⟨a0Wp, a0Wn, a0Wc⟩ := a0_Water_s
 have ha0_Water_l : a0Wn = a0.Water.length := ha0_Water.1
 subst ha0_Water_l
 obtain ⟨a0_Water_b, a0Wo, ha0_Water_p, ha0_Water_L⟩ := SlAt.lies' ha0_Water
 obtain ⟨a0Ip, a0In, a0Ic⟩ := a0_Ice_s
 have ha0_Ice_l : a0In = a0.Ice.length := ha0_Ice.1
 subst ha0_Ice_l
 obtain ⟨a0_Ice_b, a0Io, ha0_Ice_p, ha0_Ice_L⟩ := SlAt.lies' ha0_Ice
 unfold m55 at hm
 refine enterM (args := [.g [.i a0.Class, .i a0.Power, .i a0.Draught, .i a0.Tonnes, .v (.slice a0Tp a0.Thrust.length a0Tc), .v (.slice a0Wp a0.Water.length a0Wc), .v (.slice a0Ip a0.Ice.length a0Ic), .i a0.Slow, .i a0.Brash, .i a0.Ridge, .i a0.Press], .g [.i a1.Conc.Lo, .i a1.Conc.Hi, .i a1.Thick.Lo, .i a1.Thick.Hi, .i a1.Ridge.Lo, .i a1.Ridge.Hi, .i a1.Press.Lo, .i a1.Press.Hi], .B a2]) Tryd.func55 rfl (N := 38) rfl (Nat.le_of_ble_eq_true rfl) ?_
 refine aqS ?_
 refine aqT (rows := [_, _, _, _, _]) rfl (by kernel_rfl) ⟨
  okp rfl rfl (op_boxN (L := 1) (lN rfl) rfl rfl rfl),
  okp rfl rfl (op_boxN (L := 2) (lN rfl) rfl rfl rfl),
  okp rfl rfl (op_box1 (L := 3) (lN rfl) rfl rfl rfl),
  okp rfl rfl (op_alloc (L := 4) (lN rfl) zl_32),
  okp rfl rfl (oqA (lN rfl) rfl),
  trivial⟩ ?_
 refine fqK (s' := (kt 3 (.p 1 0) :: kt 4 (.p 2 0) :: kt 5 (.p 3 0) :: kt 6 (.p 4 0) :: kb 1 25 11 :: kb 2 34 8 :: kb 3 4 1 :: kb 4 32 2 :: sK 1 a0 (.v (.slice a0Tp a0.Thrust.length a0Tc)) (.v (.slice a0Wp a0.Water.length a0Wc)) (.v (.slice a0Ip a0.Ice.length a0Ic)) [kc 2 0 (.i a1.Conc.Lo), kc 2 1 (.i a1.Conc.Hi), kc 2 2 (.i a1.Thick.Lo), kc 2 3 (.i a1.Thick.Hi), kc 2 4 (.i a1.Ridge.Lo), kc 2 5 (.i a1.Ridge.Hi), kc 2 6 (.i a1.Press.Lo), kc 2 7 (.i a1.Press.Hi), kc 3 0 (.B a2), kc 4 0 (.i 0), kc 4 1 (.i 0)])) ?_ (kp rfl) rfl
 refine fqT ?_
 refine aqS ?_
 refine aqS ?_
 refine aqT (rows := [_, _, _, _]) rfl (by kernel_rfl) ⟨
  okp rfl rfl (oqL (ys := [.i a0.Class, .i a0.Power, .i a0.Draught, .i a0.Tonnes, .v (.slice a0Tp a0.Thrust.length a0Tc), .v (.slice a0Wp a0.Water.length a0Wc), .v (.slice a0Ip a0.Ice.length a0Ic), .i a0.Slow, .i a0.Brash, .i a0.Ridge, .i a0.Press]) (lN rfl) sh_25 rfl rfl ⟨rfl, rfl, rfl, rfl, rfl, rfl, rfl, rfl, rfl, rfl, rfl, trivial⟩),
  okp rfl rfl (oqL (ys := [.i a1.Conc.Lo, .i a1.Conc.Hi, .i a1.Thick.Lo, .i a1.Thick.Hi, .i a1.Ridge.Lo, .i a1.Ridge.Hi, .i a1.Press.Lo, .i a1.Press.Hi]) (lN rfl) sh_34 rfl rfl ⟨rfl, rfl, rfl, rfl, rfl, rfl, rfl, rfl, trivial⟩),
  okp rfl rfl (oqC (x := .i (met a0 a1)) (fs := []) (caps := []) (extra := []) (lN rfl) en_90 rfl ⟨rfl, rfl, rfl⟩ (EvL.cons rfl (EvL.cons rfl EvL.nil)) (fun mm aa ww gg hr hrel => (c90 a0 ⟨a0Tp, a0.Thrust.length, a0Tc⟩ ⟨a0Wp, a0.Water.length, a0Wc⟩ ⟨a0Ip, a0.Ice.length, a0Ic⟩ a1 ww (SlIs.mono ha0_Thrust hrel.below) (SlIs.mono ha0_Water hrel.below) (SlIs.mono ha0_Ice hrel.below)))),
  okp rfl rfl (oqA (lN rfl) rfl),
  trivial⟩ ?_
 refine fqK (s' := (kt 3 (.p 1 0) :: kt 4 (.p 2 0) :: kt 5 (.p 3 0) :: kt 6 (.p 4 0) :: kt 8 (.i (met a0 a1)) :: kb 1 25 11 :: kb 2 34 8 :: kb 3 4 1 :: kb 4 32 2 :: sK 1 a0 (.v (.slice a0Tp a0.Thrust.length a0Tc)) (.v (.slice a0Wp a0.Water.length a0Wc)) (.v (.slice a0Ip a0.Ice.length a0Ic)) [kc 2 0 (.i a1.Conc.Lo), kc 2 1 (.i a1.Conc.Hi), kc 2 2 (.i a1.Thick.Lo), kc 2 3 (.i a1.Thick.Hi), kc 2 4 (.i a1.Ridge.Lo), kc 2 5 (.i a1.Ridge.Hi), kc 2 6 (.i a1.Press.Lo), kc 2 7 (.i a1.Press.Hi), kc 3 0 (.B a2), kc 4 0 (.i 0), kc 4 1 (.i 0)])) ?_ (kp rfl) rfl
 refine fqT ?_
 refine aqS ?_
 refine aqT (rows := [_, _]) rfl (by kernel_rfl) ⟨
  okp rfl rfl (oqM (lN rfl) rfl),
  okp rfl rfl (oqB (lN rfl) rfl rfl rfl),
  trivial⟩ ?_
 refine fqK (s' := (kt 3 (.p 1 0) :: kt 4 (.p 2 0) :: kt 5 (.p 3 0) :: kt 6 (.p 4 0) :: kt 8 (.i (met a0 a1)) :: kt 16 (.B ((met a0 a1) != 0)) :: kb 1 25 11 :: kb 2 34 8 :: kb 3 4 1 :: kb 4 32 2 :: sK 1 a0 (.v (.slice a0Tp a0.Thrust.length a0Tc)) (.v (.slice a0Wp a0.Water.length a0Wc)) (.v (.slice a0Ip a0.Ice.length a0Ic)) [kc 2 0 (.i a1.Conc.Lo), kc 2 1 (.i a1.Conc.Hi), kc 2 2 (.i a1.Thick.Lo), kc 2 3 (.i a1.Thick.Hi), kc 2 4 (.i a1.Ridge.Lo), kc 2 5 (.i a1.Ridge.Hi), kc 2 6 (.i a1.Press.Lo), kc 2 7 (.i a1.Press.Hi), kc 3 0 (.B a2), kc 4 0 (.i 0), kc 4 1 (.i 0)])) ?_ (kp rfl) rfl
 refine fqT ?_
 refine aw_cond rfl (fun hz1 => ?_) (fun hz1 => ?_)
 ·have hm := brk_t hz1 hm
  refine aqS ?_
  refine aqT (rows := [_, _, _, _]) rfl (by kernel_rfl) ⟨
   okp rfl rfl (op_build (x := .g [.i 0, .i 0]) (lN rfl) EvL.nil (fun m w => by kernel_rfl)),
   okp rfl rfl (oqM (lN rfl) rfl),
   okp rfl rfl (op_storeN sz_32 rfl rfl rfl rfl rfl (by decide)),
   okp rfl rfl (oqA (lN rfl) rfl),
   trivial⟩ ?_
  refine fqK (s' := [kt 6 (.p 4 0), kt 7 (.i (met a0 a1)), kb 4 32 2, kc 4 0 (.i 0), kc 4 1 (.i 0)]) ?_ (kp rfl) rfl
  refine fqT ?_
  refine aw_ret ?_
  refine fin_then_ret ?_
  refine post_retM (x := .t [.g [.i 0, .i 0], .i (met a0 a1)]) rfl (resOK_cellN (ys := [.i 0, .i 0]) rfl sh_32 rfl ⟨rfl, rfl, trivial⟩ (rqT rfl resOK_nil)) rfl (fun mm aa ww hr => ?_) (.inl rfl)
  have hm := Option.some.inj hm
  subst hm
  exact ⟨rfl, hr.below⟩
 ·have hm := brk_f hz1 hm
  refine aw_skip ?_
  refine fqT ?_
  refine aqS ?_
  refine aqT (rows := [_, _, _]) rfl (by kernel_rfl) ⟨
   okp rfl rfl (op_build (x := .g [.i 250, .i 0]) (lN rfl) (EvL.cons rfl EvL.nil) (fun m w => by kernel_rfl)),
   okp rfl rfl (op_alloc (L := 5) (lN rfl) zl_32),
   okp rfl rfl (op_storeN sz_32 rfl rfl rfl rfl rfl (by decide)),
   trivial⟩ ?_
  refine fqK (s' := (kt 3 (.p 1 0) :: kt 4 (.p 2 0) :: kt 5 (.p 3 0) :: kt 6 (.p 4 0) :: kt 9 (.p 5 0) :: kb 1 25 11 :: kb 2 34 8 :: kb 3 4 1 :: kb 4 32 2 :: kb 5 32 2 :: sK 1 a0 (.v (.slice a0Tp a0.Thrust.length a0Tc)) (.v (.slice a0Wp a0.Water.length a0Wc)) (.v (.slice a0Ip a0.Ice.length a0Ic)) [kc 2 0 (.i a1.Conc.Lo), kc 2 1 (.i a1.Conc.Hi), kc 2 2 (.i a1.Thick.Lo), kc 2 3 (.i a1.Thick.Hi), kc 2 4 (.i a1.Ridge.Lo), kc 2 5 (.i a1.Ridge.Hi), kc 2 6 (.i a1.Press.Lo), kc 2 7 (.i a1.Press.Hi), kc 3 0 (.B a2), kc 4 0 (.i 0), kc 4 1 (.i 0), kc 5 0 (.i 250), kc 5 1 (.i 0)])) ?_ (kp rfl) rfl
  refine fqT ?_
  refine aw_cutM (ι := Int × Int) hm (fun x1 => [kt 6 (.p 4 0), kt 9 (.p 5 0), kb 4 32 2, kb 5 32 2, kc 4 0 (.i 0), kc 4 1 (.i 0), kc 5 0 (.i x1.1), kc 5 1 (.i x1.2)]) (fun hm => ?_) (fun x1 hm => ?_)
  ·have _z := hm
   refine aqS ?_
   obtain ⟨v1, hv1, hm⟩ := bnd_some hm
   refine aqT (rows := [_, _]) rfl (by kernel_rfl) ⟨
    okp rfl rfl (oqL (ys := [.i a1.Conc.Lo, .i a1.Conc.Hi, .i a1.Thick.Lo, .i a1.Thick.Hi, .i a1.Ridge.Lo, .i a1.Ridge.Hi, .i a1.Press.Lo, .i a1.Press.Hi]) (lN rfl) sh_34 rfl rfl ⟨rfl, rfl, rfl, rfl, rfl, rfl, rfl, rfl, trivial⟩),
    okp rfl rfl (op_callNew (ls := [⟨6, 34, [.i a1.Conc.Lo, .i a1.Conc.Hi, .i a1.Thick.Lo, .i a1.Thick.Hi, .i a1.Ridge.Lo, .i a1.Ridge.Hi, .i a1.Press.Lo, .i a1.Press.Hi]⟩]) (R := fun bs => .func (.func 145) #[] #[.pointer (some ⟨bs.getD 0 0, 0, none⟩)]) (x := .f (.func 145) [] [.p 6 0]) (fs := []) (caps := []) (extra := []) (lN rfl) en_118 rfl ⟨rfl, rfl, rfl⟩ (EvL.cons rfl EvL.nil) rfl (fun _ => rfl) (fun mm aa ww gg hr hrel => (c118 F a1 ww v1 hv1))),
    trivial⟩ ?_
   refine fqK (s' := (kt 3 (.p 1 0) :: kt 5 (.p 3 0) :: kt 6 (.p 4 0) :: kt 9 (.p 5 0) :: kt 21 (.f (.func 145) [] [.p 6 0]) :: kb 1 25 11 :: kb 3 4 1 :: kb 4 32 2 :: kb 5 32 2 :: kb 6 34 8 :: sK 1 a0 (.v (.slice a0Tp a0.Thrust.length a0Tc)) (.v (.slice a0Wp a0.Water.length a0Wc)) (.v (.slice a0Ip a0.Ice.length a0Ic)) [kc 3 0 (.B a2), kc 4 0 (.i 0), kc 4 1 (.i 0), kc 5 0 (.i 250), kc 5 1 (.i 0), kc 6 0 (.i a1.Conc.Lo), kc 6 1 (.i a1.Conc.Hi), kc 6 2 (.i a1.Thick.Lo), kc 6 3 (.i a1.Thick.Hi), kc 6 4 (.i a1.Ridge.Lo), kc 6 5 (.i a1.Ridge.Hi), kc 6 6 (.i a1.Press.Lo), kc 6 7 (.i a1.Press.Hi)])) ?_ (kp rfl) rfl
   refine fqT ?_
   refine aw_block ?_
   refine aw_rangeFunc (N' := 18) 0 [(3, .p 1 0), (5, .p 3 0), (6, .p 4 0), (9, .p 5 0), (21, .f (.func 145) [] [.p 6 0])] (kb 1 25 11 :: kb 3 4 1 :: kb 4 32 2 :: kb 5 32 2 :: kb 6 34 8 :: sK 1 a0 (.v (.slice a0Tp a0.Thrust.length a0Tc)) (.v (.slice a0Wp a0.Water.length a0Wc)) (.v (.slice a0Ip a0.Ice.length a0Ic)) [kc 3 0 (.B a2), kc 4 0 (.i 0), kc 4 1 (.i 0), kc 5 0 (.i 250), kc 5 1 (.i 0), kc 6 0 (.i a1.Conc.Lo), kc 6 1 (.i a1.Conc.Hi), kc 6 2 (.i a1.Thick.Lo), kc 6 3 (.i a1.Thick.Hi), kc 6 4 (.i a1.Ridge.Lo), kc 6 5 (.i a1.Ridge.Hi), kc 6 6 (.i a1.Press.Lo), kc 6 7 (.i a1.Press.Hi)]) rfl ⟨rfl, rfl, rfl⟩ Tryd.func145 rfl rfl en_145 (by decide) ⟨rfl, rfl, rfl, rfl, rfl, trivial⟩ ⟨rfl, rfl, rfl, rfl, rfl, rfl, rfl, rfl, rfl, rfl, rfl, rfl, rfl, rfl, rfl, rfl, rfl, rfl, rfl, rfl, rfl, rfl, rfl, rfl, rfl, rfl, rfl, rfl, rfl, trivial⟩ rfl rfl (fun l1 D1 fn1 aT1 aD1 K1 hB1 hK1 hM1 hs1 hz1 => ?_)
   refine AW.keep (s' := (kt 0 (.v (.func (.yield l1) #[] #[])) :: kt 1 (.p 6 0) :: (.u 0 3, some (.x (.p 1 0))) :: (.u 0 5, some (.x (.p 3 0))) :: (.u 0 6, some (.x (.p 4 0))) :: (.u 0 9, some (.x (.p 5 0))) :: (.u 0 21, some (.x (.f (.func 145) [] [.p 6 0]))) :: kb 1 25 11 :: kb 3 4 1 :: kb 4 32 2 :: kb 5 32 2 :: kb 6 34 8 :: sK 1 a0 (.v (.slice a0Tp a0.Thrust.length a0Tc)) (.v (.slice a0Wp a0.Water.length a0Wc)) (.v (.slice a0Ip a0.Ice.length a0Ic)) [kc 3 0 (.B a2), kc 4 0 (.i 0), kc 4 1 (.i 0), kc 5 0 (.i 250), kc 5 1 (.i 0), kc 6 0 (.i a1.Conc.Lo), kc 6 1 (.i a1.Conc.Hi), kc 6 2 (.i a1.Thick.Lo), kc 6 3 (.i a1.Thick.Hi), kc 6 4 (.i a1.Ridge.Lo), kc 6 5 (.i a1.Ridge.Hi), kc 6 6 (.i a1.Press.Lo), kc 6 7 (.i a1.Press.Hi)])) ?_ (kp rfl) rfl
   refine aqS ?_
   obtain ⟨v2, hv2, hm⟩ := bnd_some hm
   refine aw_any (rows := [_, _, _, _, _, _, _, _, _, _, _]) (M := [0, 0, 2, 7, 15, 31, 63, 31, 255, 511, 1023]) Tryd_mixed (by kernel_rfl) rfl (by kernel_rfl) ⟨
    okp rfl rfl (oqM (lN rfl) rfl),
    okp rfl rfl (oqL (ys := [.i a1.Conc.Lo, .i a1.Conc.Hi, .i a1.Thick.Lo, .i a1.Thick.Hi, .i a1.Ridge.Lo, .i a1.Ridge.Hi, .i a1.Press.Lo, .i a1.Press.Hi]) (lN rfl) sh_34 rfl rfl ⟨rfl, rfl, rfl, rfl, rfl, rfl, rfl, rfl, trivial⟩),
    okp rfl rfl (oqC (x := .g [.i ((firstI a1).Conc), .i ((firstI a1).Thick), .i ((firstI a1).Ridge), .i ((firstI a1).Press)]) (fs := []) (caps := []) (extra := []) (lN rfl) en_88 rfl ⟨rfl, rfl, rfl⟩ (EvL.cons rfl EvL.nil) (fun mm aa ww gg hr hrel => (c88 a1 ww))),
    okp rfl rfl (op_yieldIn (N := 38) (tmpSt [(0, .v (.func (.yield l1) #[] #[])), (1, .p 6 0), (3, .v (.func (.yield l1) #[] #[])), (4, .g [.i a1.Conc.Lo, .i a1.Conc.Hi, .i a1.Thick.Lo, .i a1.Thick.Hi, .i a1.Ridge.Lo, .i a1.Ridge.Hi, .i a1.Press.Lo, .i a1.Press.Hi]), (5, .g [.i ((firstI a1).Conc), .i ((firstI a1).Thick), .i ((firstI a1).Ridge), .i ((firstI a1).Press)])] ++ (((((.u 0 3, some (.x (.p 1 0))) :: (.u 0 5, some (.x (.p 3 0))) :: (.u 0 6, some (.x (.p 4 0))) :: (.u 0 9, some (.x (.p 5 0))) :: (.u 0 21, some (.x (.f (.func 145) [] [.p 6 0]))) :: kb 1 25 11 :: kb 3 4 1 :: kb 4 32 2 :: kb 5 32 2 :: kb 6 34 8 :: sK 1 a0 (.v (.slice a0Tp a0.Thrust.length a0Tc)) (.v (.slice a0Wp a0.Water.length a0Wc)) (.v (.slice a0Ip a0.Ice.length a0Ic)) [kc 3 0 (.B a2), kc 4 0 (.i 0), kc 4 1 (.i 0)]) : St) ++ (([kc 5 0 (.i v2.1), kc 5 1 (.i v2.2), kc 6 0 (.i a1.Conc.Lo), kc 6 1 (.i a1.Conc.Hi), kc 6 2 (.i a1.Thick.Lo), kc 6 3 (.i a1.Thick.Hi), kc 6 4 (.i a1.Ridge.Lo), kc 6 5 (.i a1.Ridge.Hi), kc 6 6 (.i a1.Press.Lo), kc 6 7 (.i a1.Press.Hi)] : St))) ++ dropSt [.b 7, .c 7 0, .c 7 1, .c 7 2, .c 7 3, .t 10, .t 11, .t 23, .t 24, .t 25, .t 26, .t 27, .t 28, .t 29, .t 30, .t 31, .t 32, .t 33, .t 34, .t 35, .t 36])) 1 [(0, .v (.func (.yield l1) #[] #[])), (1, .p 6 0), (3, .v (.func (.yield l1) #[] #[])), (4, .g [.i a1.Conc.Lo, .i a1.Conc.Hi, .i a1.Thick.Lo, .i a1.Thick.Hi, .i a1.Ridge.Lo, .i a1.Ridge.Hi, .i a1.Press.Lo, .i a1.Press.Hi]), (5, .g [.i ((firstI a1).Conc), .i ((firstI a1).Thick), .i ((firstI a1).Ridge), .i ((firstI a1).Press)])] [(3, .p 1 0), (5, .p 3 0), (6, .p 4 0), (9, .p 5 0), (21, .f (.func 145) [] [.p 6 0])] ((.u 0 3, some (.x (.p 1 0))) :: (.u 0 5, some (.x (.p 3 0))) :: (.u 0 6, some (.x (.p 4 0))) :: (.u 0 9, some (.x (.p 5 0))) :: (.u 0 21, some (.x (.f (.func 145) [] [.p 6 0]))) :: kb 1 25 11 :: kb 3 4 1 :: kb 4 32 2 :: kb 5 32 2 :: kb 6 34 8 :: sK 1 a0 (.v (.slice a0Tp a0.Thrust.length a0Tc)) (.v (.slice a0Wp a0.Water.length a0Wc)) (.v (.slice a0Ip a0.Ice.length a0Ic)) [kc 3 0 (.B a2), kc 4 0 (.i 0), kc 4 1 (.i 0), kc 5 0 (.i 250), kc 5 1 (.i 0), kc 6 0 (.i a1.Conc.Lo), kc 6 1 (.i a1.Conc.Hi), kc 6 2 (.i a1.Thick.Lo), kc 6 3 (.i a1.Thick.Hi), kc 6 4 (.i a1.Ridge.Lo), kc 6 5 (.i a1.Ridge.Hi), kc 6 6 (.i a1.Press.Lo), kc 6 7 (.i a1.Press.Hi)]) (lN rfl) rfl (EvL.cons rfl EvL.nil) rfl (by decide) hz1 ⟨rfl, rfl, rfl, rfl, rfl, trivial⟩ ⟨rfl, rfl, rfl, rfl, rfl, trivial⟩ ⟨rfl, rfl, rfl, rfl, rfl, rfl, rfl, rfl, rfl, rfl, rfl, rfl, rfl, rfl, rfl, rfl, rfl, rfl, rfl, rfl, rfl, rfl, rfl, rfl, rfl, rfl, rfl, rfl, rfl, rfl, rfl, rfl, rfl, rfl, trivial⟩ rfl rfl (by decide) rfl (fun aIv2 hIv2 => ?_)),
    okp rfl rfl (oqM (lN rfl) rfl),
    oqy rfl rfl rfl rfl rfl rfl (oqL (ys := [.i a1.Conc.Lo, .i a1.Conc.Hi, .i a1.Thick.Lo, .i a1.Thick.Hi, .i a1.Ridge.Lo, .i a1.Ridge.Hi, .i a1.Press.Lo, .i a1.Press.Hi]) (lN rfl) sh_34 rfl rfl ⟨rfl, rfl, rfl, rfl, rfl, rfl, rfl, rfl, trivial⟩),
    oqy rfl rfl rfl rfl rfl rfl (oqC (x := .g [.i ((firstI a1).Conc), .i ((firstI a1).Thick), .i ((firstI a1).Ridge), .i ((firstI a1).Press)]) (fs := []) (caps := []) (extra := []) (lN rfl) en_88 rfl ⟨rfl, rfl, rfl⟩ (EvL.cons rfl EvL.nil) (fun mm aa ww gg hr hrel => (c88 a1 ww))),
    oqy rfl rfl rfl rfl rfl rfl (oqL (ys := [.i a1.Conc.Lo, .i a1.Conc.Hi, .i a1.Thick.Lo, .i a1.Thick.Hi, .i a1.Ridge.Lo, .i a1.Ridge.Hi, .i a1.Press.Lo, .i a1.Press.Hi]) (lN rfl) sh_34 rfl rfl ⟨rfl, rfl, rfl, rfl, rfl, rfl, rfl, rfl, trivial⟩),
    oqy rfl rfl rfl rfl rfl rfl (oqC (x := .g [.i ((lastI a1).Conc), .i ((lastI a1).Thick), .i ((lastI a1).Ridge), .i ((lastI a1).Press)]) (fs := []) (caps := []) (extra := []) (lN rfl) en_100 rfl ⟨rfl, rfl, rfl⟩ (EvL.cons rfl EvL.nil) (fun mm aa ww gg hr hrel => (c100 a1 ww))),
    oqy rfl rfl rfl rfl rfl rfl (op_neS (r := decide ((firstI a1) = (lastI a1))) (lN rfl) rfl rfl eqg_28 (fun _ => Eq.trans (by kernel_rfl) (congrArg some (Ice_eqd ((firstI a1)) ((lastI a1)))))),
    okp rfl rfl (op_pickT (lN rfl) rfl rfl),
    trivial⟩ ?_
   ·have hm := hv2
    refine AW.keep (s' := (kt 3 (.p 1 0) :: kt 5 (.p 3 0) :: kt 6 (.p 4 0) :: kt 9 (.p 5 0) :: kt 21 (.f (.func 145) [] [.p 6 0]) :: kt 22 (.g [.i ((firstI a1).Conc), .i ((firstI a1).Thick), .i ((firstI a1).Ridge), .i ((firstI a1).Press)]) :: (.u 0 3, some (.x (.p 1 0))) :: (.u 0 5, some (.x (.p 3 0))) :: (.u 0 6, some (.x (.p 4 0))) :: (.u 0 9, some (.x (.p 5 0))) :: (.u 0 21, some (.x (.f (.func 145) [] [.p 6 0]))) :: (.u 1 0, some (.x (.v (.func (.yield l1) #[] #[])))) :: (.u 1 1, some (.x (.p 6 0))) :: (.u 1 3, some (.x (.v (.func (.yield l1) #[] #[])))) :: (.u 1 4, some (.x (.g [.i a1.Conc.Lo, .i a1.Conc.Hi, .i a1.Thick.Lo, .i a1.Thick.Hi, .i a1.Ridge.Lo, .i a1.Ridge.Hi, .i a1.Press.Lo, .i a1.Press.Hi]))) :: (.u 1 5, some (.x (.g [.i ((firstI a1).Conc), .i ((firstI a1).Thick), .i ((firstI a1).Ridge), .i ((firstI a1).Press)]))) :: kb 1 25 11 :: kb 3 4 1 :: kb 4 32 2 :: kb 5 32 2 :: kb 6 34 8 :: sK 1 a0 (.v (.slice a0Tp a0.Thrust.length a0Tc)) (.v (.slice a0Wp a0.Water.length a0Wc)) (.v (.slice a0Ip a0.Ice.length a0Ic)) [kc 3 0 (.B a2), kc 4 0 (.i 0), kc 4 1 (.i 0), kc 5 0 (.i 250), kc 5 1 (.i 0), kc 6 0 (.i a1.Conc.Lo), kc 6 1 (.i a1.Conc.Hi), kc 6 2 (.i a1.Thick.Lo), kc 6 3 (.i a1.Thick.Hi), kc 6 4 (.i a1.Ridge.Lo), kc 6 5 (.i a1.Ridge.Hi), kc 6 6 (.i a1.Press.Lo), kc 6 7 (.i a1.Press.Hi)])) ?_ (kp rfl) rfl
    refine aqT (rows := [_, _]) rfl (by kernel_rfl) ⟨
     okp rfl rfl (op_alloc (L := 7) (lN rfl) zl_28),
     okp rfl rfl (op_storeN sz_28 rfl rfl rfl rfl rfl (by decide)),
     trivial⟩ ?_
    refine fqK (s' := (kt 3 (.p 1 0) :: kt 5 (.p 3 0) :: kt 9 (.p 5 0) :: kt 10 (.p 7 0) :: (.u 0 3, some (.x (.p 1 0))) :: (.u 0 5, some (.x (.p 3 0))) :: (.u 0 6, some (.x (.p 4 0))) :: (.u 0 9, some (.x (.p 5 0))) :: (.u 0 21, some (.x (.f (.func 145) [] [.p 6 0]))) :: (.u 1 0, some (.x (.v (.func (.yield l1) #[] #[])))) :: (.u 1 1, some (.x (.p 6 0))) :: (.u 1 3, some (.x (.v (.func (.yield l1) #[] #[])))) :: (.u 1 4, some (.x (.g [.i a1.Conc.Lo, .i a1.Conc.Hi, .i a1.Thick.Lo, .i a1.Thick.Hi, .i a1.Ridge.Lo, .i a1.Ridge.Hi, .i a1.Press.Lo, .i a1.Press.Hi]))) :: (.u 1 5, some (.x (.g [.i ((firstI a1).Conc), .i ((firstI a1).Thick), .i ((firstI a1).Ridge), .i ((firstI a1).Press)]))) :: kb 1 25 11 :: kb 3 4 1 :: kb 4 32 2 :: kb 5 32 2 :: kb 6 34 8 :: kb 7 28 4 :: sK 1 a0 (.v (.slice a0Tp a0.Thrust.length a0Tc)) (.v (.slice a0Wp a0.Water.length a0Wc)) (.v (.slice a0Ip a0.Ice.length a0Ic)) [kc 3 0 (.B a2), kc 4 0 (.i 0), kc 4 1 (.i 0), kc 5 0 (.i 250), kc 5 1 (.i 0), kc 6 0 (.i a1.Conc.Lo), kc 6 1 (.i a1.Conc.Hi), kc 6 2 (.i a1.Thick.Lo), kc 6 3 (.i a1.Thick.Hi), kc 6 4 (.i a1.Ridge.Lo), kc 6 5 (.i a1.Ridge.Hi), kc 6 6 (.i a1.Press.Lo), kc 6 7 (.i a1.Press.Hi), kc 7 0 (.i ((firstI a1).Conc)), kc 7 1 (.i ((firstI a1).Thick)), kc 7 2 (.i ((firstI a1).Ridge)), kc 7 3 (.i ((firstI a1).Press))])) ?_ (kp rfl) rfl
    refine fin_begin hB1 hK1 ?_
    refine aw_block ?_
    refine aqS ?_
    obtain ⟨hp2, hm⟩ := chk_some hm
    obtain ⟨hp3, hm⟩ := chk_some hm
    refine aqT (rows := [_, _, _, _, _]) rfl (by kernel_rfl) ⟨
     okp rfl rfl (oqL (ys := [.i ((firstI a1).Conc), .i ((firstI a1).Thick), .i ((firstI a1).Ridge), .i ((firstI a1).Press)]) (lN rfl) sh_28 rfl rfl ⟨rfl, rfl, rfl, rfl, trivial⟩),
     okp rfl rfl (oq1 (lN rfl) sh_4 rfl rfl),
     okp rfl rfl (op_build (x := .g [.p 1 0, .i ((firstI a1).Conc), .i ((firstI a1).Thick), .i ((firstI a1).Ridge), .i ((firstI a1).Press), .B a2]) (lN rfl) (EvL.cons rfl (EvL.cons rfl (EvL.cons rfl EvL.nil))) (fun m w => by kernel_rfl)),
     okp rfl rfl (oqC (x := .i (speed a0 ((firstI a1)) a2)) (fs := []) (caps := []) (extra := (kapp ((.b 1 :: cellKeys 1 0 11)) [])) (lN rfl) en_76 rfl ⟨rfl, rfl, rfl⟩ (EvL.cons rfl EvL.nil) (fun mm aa ww gg hr hrel => (c76 a0 ⟨a0Tp, a0.Thrust.length, a0Tc⟩ ⟨a0Wp, a0.Water.length, a0Wc⟩ ⟨a0Ip, a0.Ice.length, a0Ic⟩ (mm 1) ((firstI a1)) a2 ww (SlIs.mono ha0_Thrust hrel.below) (SlIs.mono ha0_Water hrel.below) (SlIs.mono ha0_Ice hrel.below) (boxAt (L := 1) (vs := [(.int .i64 a0.Class), (.int .i64 a0.Power), (.int .i64 a0.Draught), (.int .i64 a0.Tonnes), (.slice a0Tp a0.Thrust.length a0Tc), (.slice a0Wp a0.Water.length a0Wc), (.slice a0Ip a0.Ice.length a0Ic), (.int .i64 a0.Slow), (.int .i64 a0.Brash), (.int .i64 a0.Ridge), (.int .i64 a0.Press)]) hrel (fun k hk => hr k (List.mem_append_left _ hk)) rfl ⟨rfl, rfl, rfl, rfl, rfl, rfl, rfl, rfl, rfl, rfl, rfl, trivial⟩) hp2 hp3))),
     okp rfl rfl (oqA (lN rfl) rfl),
     trivial⟩ ?_
    refine fqK (s' := (kt 9 (.p 5 0) :: kt 11 (.i (speed a0 ((firstI a1)) a2)) :: (.u 0 3, some (.x (.p 1 0))) :: (.u 0 5, some (.x (.p 3 0))) :: (.u 0 6, some (.x (.p 4 0))) :: (.u 0 9, some (.x (.p 5 0))) :: (.u 0 21, some (.x (.f (.func 145) [] [.p 6 0]))) :: (.u 1 0, some (.x (.v (.func (.yield l1) #[] #[])))) :: (.u 1 1, some (.x (.p 6 0))) :: (.u 1 3, some (.x (.v (.func (.yield l1) #[] #[])))) :: (.u 1 4, some (.x (.g [.i a1.Conc.Lo, .i a1.Conc.Hi, .i a1.Thick.Lo, .i a1.Thick.Hi, .i a1.Ridge.Lo, .i a1.Ridge.Hi, .i a1.Press.Lo, .i a1.Press.Hi]))) :: (.u 1 5, some (.x (.g [.i ((firstI a1).Conc), .i ((firstI a1).Thick), .i ((firstI a1).Ridge), .i ((firstI a1).Press)]))) :: kb 1 25 11 :: kb 3 4 1 :: kb 4 32 2 :: kb 5 32 2 :: kb 6 34 8 :: sK 1 a0 (.v (.slice a0Tp a0.Thrust.length a0Tc)) (.v (.slice a0Wp a0.Water.length a0Wc)) (.v (.slice a0Ip a0.Ice.length a0Ic)) [kc 3 0 (.B a2), kc 4 0 (.i 0), kc 4 1 (.i 0), kc 5 0 (.i 250), kc 5 1 (.i 0), kc 6 0 (.i a1.Conc.Lo), kc 6 1 (.i a1.Conc.Hi), kc 6 2 (.i a1.Thick.Lo), kc 6 3 (.i a1.Thick.Hi), kc 6 4 (.i a1.Ridge.Lo), kc 6 5 (.i a1.Ridge.Hi), kc 6 6 (.i a1.Press.Lo), kc 6 7 (.i a1.Press.Hi)])) ?_ (kp rfl) rfl
    refine fqT ?_
    refine aqT (rows := [_, _, _, _, _, _, _, _, _, _, _, _]) rfl (by kernel_rfl) ⟨
     okp rfl rfl (oqF (lN rfl) rfl fo_32_0),
     okp rfl rfl (oq1 (lN rfl) sh_3 rfl rfl),
     okp rfl rfl (oqM (lN rfl) rfl),
     okp rfl rfl (op_min (lN rfl) rfl rfl),
     okp rfl rfl (oqF (lN rfl) rfl fo_32_1),
     okp rfl rfl (oq1 (lN rfl) sh_3 rfl rfl),
     okp rfl rfl (oqM (lN rfl) rfl),
     okp rfl rfl (op_max (lN rfl) rfl rfl),
     okp rfl rfl (oqF (lN rfl) rfl fo_32_0),
     okp rfl rfl (op_store1 sz_3 rfl rfl rfl rfl (lN rfl)),
     okp rfl rfl (oqF (lN rfl) rfl fo_32_1),
     okp rfl rfl (op_store1 sz_3 rfl rfl rfl rfl (lN rfl)),
     trivial⟩ ?_
    refine fqK (s' := ((.u 0 3, some (.x (.p 1 0))) :: (.u 0 5, some (.x (.p 3 0))) :: (.u 0 6, some (.x (.p 4 0))) :: (.u 0 9, some (.x (.p 5 0))) :: (.u 0 21, some (.x (.f (.func 145) [] [.p 6 0]))) :: (.u 1 0, some (.x (.v (.func (.yield l1) #[] #[])))) :: (.u 1 1, some (.x (.p 6 0))) :: (.u 1 3, some (.x (.v (.func (.yield l1) #[] #[])))) :: (.u 1 4, some (.x (.g [.i a1.Conc.Lo, .i a1.Conc.Hi, .i a1.Thick.Lo, .i a1.Thick.Hi, .i a1.Ridge.Lo, .i a1.Ridge.Hi, .i a1.Press.Lo, .i a1.Press.Hi]))) :: (.u 1 5, some (.x (.g [.i ((firstI a1).Conc), .i ((firstI a1).Thick), .i ((firstI a1).Ridge), .i ((firstI a1).Press)]))) :: kb 1 25 11 :: kb 3 4 1 :: kb 4 32 2 :: kb 5 32 2 :: kb 6 34 8 :: sK 1 a0 (.v (.slice a0Tp a0.Thrust.length a0Tc)) (.v (.slice a0Wp a0.Water.length a0Wc)) (.v (.slice a0Ip a0.Ice.length a0Ic)) [kc 3 0 (.B a2), kc 4 0 (.i 0), kc 4 1 (.i 0), kc 5 0 (.i (if (speed a0 ((firstI a1)) a2) < 250 then speed a0 ((firstI a1)) a2 else 250)), kc 5 1 (.i (if (speed a0 ((firstI a1)) a2) > 0 then speed a0 ((firstI a1)) a2 else 0)), kc 6 0 (.i a1.Conc.Lo), kc 6 1 (.i a1.Conc.Hi), kc 6 2 (.i a1.Thick.Lo), kc 6 3 (.i a1.Thick.Hi), kc 6 4 (.i a1.Ridge.Lo), kc 6 5 (.i a1.Ridge.Hi), kc 6 6 (.i a1.Press.Lo), kc 6 7 (.i a1.Press.Hi)])) ?_ (kp rfl) rfl
    refine fin_block ?_
    have hm := Option.some.inj hm
    subst hm
    exact fin_roundEnd _ _ _ rfl hB1 hK1 hIv2 ⟨rfl, rfl, rfl, rfl, rfl, trivial⟩ ⟨rfl, rfl, rfl, rfl, rfl, rfl, rfl, rfl, rfl, rfl, rfl, rfl, rfl, rfl, rfl, rfl, rfl, rfl, rfl, rfl, rfl, rfl, rfl, rfl, rfl, rfl, rfl, rfl, rfl, rfl, rfl, rfl, rfl, rfl, trivial⟩ rfl rfl
   refine fqK (s' := (kt 0 (.v (.func (.yield l1) #[] #[])) :: kt 1 (.p 6 0) :: kt 13 (.B (!decide ((firstI a1) = (lastI a1)))) :: (.u 0 3, some (.x (.p 1 0))) :: (.u 0 5, some (.x (.p 3 0))) :: (.u 0 6, some (.x (.p 4 0))) :: (.u 0 9, some (.x (.p 5 0))) :: (.u 0 21, some (.x (.f (.func 145) [] [.p 6 0]))) :: kb 1 25 11 :: kb 3 4 1 :: kb 4 32 2 :: kb 5 32 2 :: kb 6 34 8 :: sK 1 a0 (.v (.slice a0Tp a0.Thrust.length a0Tc)) (.v (.slice a0Wp a0.Water.length a0Wc)) (.v (.slice a0Ip a0.Ice.length a0Ic)) [kc 3 0 (.B a2), kc 4 0 (.i 0), kc 4 1 (.i 0), kc 5 0 (.i v2.1), kc 5 1 (.i v2.2), kc 6 0 (.i a1.Conc.Lo), kc 6 1 (.i a1.Conc.Hi), kc 6 2 (.i a1.Thick.Lo), kc 6 3 (.i a1.Thick.Hi), kc 6 4 (.i a1.Ridge.Lo), kc 6 5 (.i a1.Ridge.Hi), kc 6 6 (.i a1.Press.Lo), kc 6 7 (.i a1.Press.Hi)])) ?_ (kp rfl) rfl
   refine fqT ?_
   refine aw_cond rfl (fun hz4 => ?_) (fun hz4 => ?_)
   ·have hm := brk_t hz4 hm
    obtain ⟨v3, hv3, hm⟩ := bnd_some hm
    refine aqT (rows := [_, _, _, _]) rfl (by kernel_rfl) ⟨
     okp rfl rfl (oqM (lN rfl) rfl),
     okp rfl rfl (oqL (ys := [.i a1.Conc.Lo, .i a1.Conc.Hi, .i a1.Thick.Lo, .i a1.Thick.Hi, .i a1.Ridge.Lo, .i a1.Ridge.Hi, .i a1.Press.Lo, .i a1.Press.Hi]) (lN rfl) sh_34 rfl rfl ⟨rfl, rfl, rfl, rfl, rfl, rfl, rfl, rfl, trivial⟩),
     okp rfl rfl (oqC (x := .g [.i ((lastI a1).Conc), .i ((lastI a1).Thick), .i ((lastI a1).Ridge), .i ((lastI a1).Press)]) (fs := []) (caps := []) (extra := []) (lN rfl) en_100 rfl ⟨rfl, rfl, rfl⟩ (EvL.cons rfl EvL.nil) (fun mm aa ww gg hr hrel => (c100 a1 ww))),
     okp rfl rfl (op_yieldIn (N := 38) (tmpSt [(0, .v (.func (.yield l1) #[] #[])), (1, .p 6 0), (13, .B (!decide ((firstI a1) = (lastI a1)))), (14, .v (.func (.yield l1) #[] #[])), (15, .g [.i a1.Conc.Lo, .i a1.Conc.Hi, .i a1.Thick.Lo, .i a1.Thick.Hi, .i a1.Ridge.Lo, .i a1.Ridge.Hi, .i a1.Press.Lo, .i a1.Press.Hi]), (16, .g [.i ((lastI a1).Conc), .i ((lastI a1).Thick), .i ((lastI a1).Ridge), .i ((lastI a1).Press)])] ++ (((((.u 0 3, some (.x (.p 1 0))) :: (.u 0 5, some (.x (.p 3 0))) :: (.u 0 6, some (.x (.p 4 0))) :: (.u 0 9, some (.x (.p 5 0))) :: (.u 0 21, some (.x (.f (.func 145) [] [.p 6 0]))) :: kb 1 25 11 :: kb 3 4 1 :: kb 4 32 2 :: kb 5 32 2 :: kb 6 34 8 :: sK 1 a0 (.v (.slice a0Tp a0.Thrust.length a0Tc)) (.v (.slice a0Wp a0.Water.length a0Wc)) (.v (.slice a0Ip a0.Ice.length a0Ic)) [kc 3 0 (.B a2), kc 4 0 (.i 0), kc 4 1 (.i 0)]) : St) ++ (([kc 5 0 (.i v3.1), kc 5 1 (.i v3.2), kc 6 0 (.i a1.Conc.Lo), kc 6 1 (.i a1.Conc.Hi), kc 6 2 (.i a1.Thick.Lo), kc 6 3 (.i a1.Thick.Hi), kc 6 4 (.i a1.Ridge.Lo), kc 6 5 (.i a1.Ridge.Hi), kc 6 6 (.i a1.Press.Lo), kc 6 7 (.i a1.Press.Hi)] : St))) ++ dropSt [.b 8, .c 8 0, .c 8 1, .c 8 2, .c 8 3, .t 10, .t 11, .t 23, .t 24, .t 25, .t 26, .t 27, .t 28, .t 29, .t 30, .t 31, .t 32, .t 33, .t 34, .t 35, .t 36])) 1 [(0, .v (.func (.yield l1) #[] #[])), (1, .p 6 0), (13, .B (!decide ((firstI a1) = (lastI a1)))), (14, .v (.func (.yield l1) #[] #[])), (15, .g [.i a1.Conc.Lo, .i a1.Conc.Hi, .i a1.Thick.Lo, .i a1.Thick.Hi, .i a1.Ridge.Lo, .i a1.Ridge.Hi, .i a1.Press.Lo, .i a1.Press.Hi]), (16, .g [.i ((lastI a1).Conc), .i ((lastI a1).Thick), .i ((lastI a1).Ridge), .i ((lastI a1).Press)])] [(3, .p 1 0), (5, .p 3 0), (6, .p 4 0), (9, .p 5 0), (21, .f (.func 145) [] [.p 6 0])] ((.u 0 3, some (.x (.p 1 0))) :: (.u 0 5, some (.x (.p 3 0))) :: (.u 0 6, some (.x (.p 4 0))) :: (.u 0 9, some (.x (.p 5 0))) :: (.u 0 21, some (.x (.f (.func 145) [] [.p 6 0]))) :: kb 1 25 11 :: kb 3 4 1 :: kb 4 32 2 :: kb 5 32 2 :: kb 6 34 8 :: sK 1 a0 (.v (.slice a0Tp a0.Thrust.length a0Tc)) (.v (.slice a0Wp a0.Water.length a0Wc)) (.v (.slice a0Ip a0.Ice.length a0Ic)) [kc 3 0 (.B a2), kc 4 0 (.i 0), kc 4 1 (.i 0), kc 5 0 (.i v2.1), kc 5 1 (.i v2.2), kc 6 0 (.i a1.Conc.Lo), kc 6 1 (.i a1.Conc.Hi), kc 6 2 (.i a1.Thick.Lo), kc 6 3 (.i a1.Thick.Hi), kc 6 4 (.i a1.Ridge.Lo), kc 6 5 (.i a1.Ridge.Hi), kc 6 6 (.i a1.Press.Lo), kc 6 7 (.i a1.Press.Hi)]) (lN rfl) rfl (EvL.cons rfl EvL.nil) rfl (by decide) hz1 ⟨rfl, rfl, rfl, rfl, rfl, rfl, trivial⟩ ⟨rfl, rfl, rfl, rfl, rfl, trivial⟩ ⟨rfl, rfl, rfl, rfl, rfl, rfl, rfl, rfl, rfl, rfl, rfl, rfl, rfl, rfl, rfl, rfl, rfl, rfl, rfl, rfl, rfl, rfl, rfl, rfl, rfl, rfl, rfl, rfl, rfl, rfl, rfl, rfl, rfl, rfl, trivial⟩ rfl rfl (by decide) rfl (fun aIv3 hIv3 => ?_)),
     trivial⟩ ?_
    ·have hm := hv3
     refine AW.keep (s' := (kt 3 (.p 1 0) :: kt 5 (.p 3 0) :: kt 6 (.p 4 0) :: kt 9 (.p 5 0) :: kt 21 (.f (.func 145) [] [.p 6 0]) :: kt 22 (.g [.i ((lastI a1).Conc), .i ((lastI a1).Thick), .i ((lastI a1).Ridge), .i ((lastI a1).Press)]) :: (.u 0 3, some (.x (.p 1 0))) :: (.u 0 5, some (.x (.p 3 0))) :: (.u 0 6, some (.x (.p 4 0))) :: (.u 0 9, some (.x (.p 5 0))) :: (.u 0 21, some (.x (.f (.func 145) [] [.p 6 0]))) :: (.u 1 0, some (.x (.v (.func (.yield l1) #[] #[])))) :: (.u 1 1, some (.x (.p 6 0))) :: (.u 1 13, some (.x (.B (!decide ((firstI a1) = (lastI a1)))))) :: (.u 1 14, some (.x (.v (.func (.yield l1) #[] #[])))) :: (.u 1 15, some (.x (.g [.i a1.Conc.Lo, .i a1.Conc.Hi, .i a1.Thick.Lo, .i a1.Thick.Hi, .i a1.Ridge.Lo, .i a1.Ridge.Hi, .i a1.Press.Lo, .i a1.Press.Hi]))) :: (.u 1 16, some (.x (.g [.i ((lastI a1).Conc), .i ((lastI a1).Thick), .i ((lastI a1).Ridge), .i ((lastI a1).Press)]))) :: kb 1 25 11 :: kb 3 4 1 :: kb 4 32 2 :: kb 5 32 2 :: kb 6 34 8 :: sK 1 a0 (.v (.slice a0Tp a0.Thrust.length a0Tc)) (.v (.slice a0Wp a0.Water.length a0Wc)) (.v (.slice a0Ip a0.Ice.length a0Ic)) [kc 3 0 (.B a2), kc 4 0 (.i 0), kc 4 1 (.i 0), kc 5 0 (.i v2.1), kc 5 1 (.i v2.2), kc 6 0 (.i a1.Conc.Lo), kc 6 1 (.i a1.Conc.Hi), kc 6 2 (.i a1.Thick.Lo), kc 6 3 (.i a1.Thick.Hi), kc 6 4 (.i a1.Ridge.Lo), kc 6 5 (.i a1.Ridge.Hi), kc 6 6 (.i a1.Press.Lo), kc 6 7 (.i a1.Press.Hi)])) ?_ (kp rfl) rfl
     refine aqT (rows := [_, _]) rfl (by kernel_rfl) ⟨
      okp rfl rfl (op_alloc (L := 8) (lN rfl) zl_28),
      okp rfl rfl (op_storeN sz_28 rfl rfl rfl rfl rfl (by decide)),
      trivial⟩ ?_
     refine fqK (s' := (kt 3 (.p 1 0) :: kt 5 (.p 3 0) :: kt 9 (.p 5 0) :: kt 10 (.p 8 0) :: (.u 0 3, some (.x (.p 1 0))) :: (.u 0 5, some (.x (.p 3 0))) :: (.u 0 6, some (.x (.p 4 0))) :: (.u 0 9, some (.x (.p 5 0))) :: (.u 0 21, some (.x (.f (.func 145) [] [.p 6 0]))) :: (.u 1 0, some (.x (.v (.func (.yield l1) #[] #[])))) :: (.u 1 1, some (.x (.p 6 0))) :: (.u 1 13, some (.x (.B (!decide ((firstI a1) = (lastI a1)))))) :: (.u 1 14, some (.x (.v (.func (.yield l1) #[] #[])))) :: (.u 1 15, some (.x (.g [.i a1.Conc.Lo, .i a1.Conc.Hi, .i a1.Thick.Lo, .i a1.Thick.Hi, .i a1.Ridge.Lo, .i a1.Ridge.Hi, .i a1.Press.Lo, .i a1.Press.Hi]))) :: (.u 1 16, some (.x (.g [.i ((lastI a1).Conc), .i ((lastI a1).Thick), .i ((lastI a1).Ridge), .i ((lastI a1).Press)]))) :: kb 1 25 11 :: kb 3 4 1 :: kb 4 32 2 :: kb 5 32 2 :: kb 6 34 8 :: kb 8 28 4 :: sK 1 a0 (.v (.slice a0Tp a0.Thrust.length a0Tc)) (.v (.slice a0Wp a0.Water.length a0Wc)) (.v (.slice a0Ip a0.Ice.length a0Ic)) [kc 3 0 (.B a2), kc 4 0 (.i 0), kc 4 1 (.i 0), kc 5 0 (.i v2.1), kc 5 1 (.i v2.2), kc 6 0 (.i a1.Conc.Lo), kc 6 1 (.i a1.Conc.Hi), kc 6 2 (.i a1.Thick.Lo), kc 6 3 (.i a1.Thick.Hi), kc 6 4 (.i a1.Ridge.Lo), kc 6 5 (.i a1.Ridge.Hi), kc 6 6 (.i a1.Press.Lo), kc 6 7 (.i a1.Press.Hi), kc 8 0 (.i ((lastI a1).Conc)), kc 8 1 (.i ((lastI a1).Thick)), kc 8 2 (.i ((lastI a1).Ridge)), kc 8 3 (.i ((lastI a1).Press))])) ?_ (kp rfl) rfl
     refine fin_begin hB1 hK1 ?_
     refine aw_block ?_
     refine aqS ?_
     obtain ⟨hp5, hm⟩ := chk_some hm
     obtain ⟨hp6, hm⟩ := chk_some hm
     refine aqT (rows := [_, _, _, _, _]) rfl (by kernel_rfl) ⟨
      okp rfl rfl (oqL (ys := [.i ((lastI a1).Conc), .i ((lastI a1).Thick), .i ((lastI a1).Ridge), .i ((lastI a1).Press)]) (lN rfl) sh_28 rfl rfl ⟨rfl, rfl, rfl, rfl, trivial⟩),
      okp rfl rfl (oq1 (lN rfl) sh_4 rfl rfl),
      okp rfl rfl (op_build (x := .g [.p 1 0, .i ((lastI a1).Conc), .i ((lastI a1).Thick), .i ((lastI a1).Ridge), .i ((lastI a1).Press), .B a2]) (lN rfl) (EvL.cons rfl (EvL.cons rfl (EvL.cons rfl EvL.nil))) (fun m w => by kernel_rfl)),
      okp rfl rfl (oqC (x := .i (speed a0 ((lastI a1)) a2)) (fs := []) (caps := []) (extra := (kapp ((.b 1 :: cellKeys 1 0 11)) [])) (lN rfl) en_76 rfl ⟨rfl, rfl, rfl⟩ (EvL.cons rfl EvL.nil) (fun mm aa ww gg hr hrel => (c76 a0 ⟨a0Tp, a0.Thrust.length, a0Tc⟩ ⟨a0Wp, a0.Water.length, a0Wc⟩ ⟨a0Ip, a0.Ice.length, a0Ic⟩ (mm 1) ((lastI a1)) a2 ww (SlIs.mono ha0_Thrust hrel.below) (SlIs.mono ha0_Water hrel.below) (SlIs.mono ha0_Ice hrel.below) (boxAt (L := 1) (vs := [(.int .i64 a0.Class), (.int .i64 a0.Power), (.int .i64 a0.Draught), (.int .i64 a0.Tonnes), (.slice a0Tp a0.Thrust.length a0Tc), (.slice a0Wp a0.Water.length a0Wc), (.slice a0Ip a0.Ice.length a0Ic), (.int .i64 a0.Slow), (.int .i64 a0.Brash), (.int .i64 a0.Ridge), (.int .i64 a0.Press)]) hrel (fun k hk => hr k (List.mem_append_left _ hk)) rfl ⟨rfl, rfl, rfl, rfl, rfl, rfl, rfl, rfl, rfl, rfl, rfl, trivial⟩) hp5 hp6))),
      okp rfl rfl (oqA (lN rfl) rfl),
      trivial⟩ ?_
     refine fqK (s' := (kt 9 (.p 5 0) :: kt 11 (.i (speed a0 ((lastI a1)) a2)) :: (.u 0 3, some (.x (.p 1 0))) :: (.u 0 5, some (.x (.p 3 0))) :: (.u 0 6, some (.x (.p 4 0))) :: (.u 0 9, some (.x (.p 5 0))) :: (.u 0 21, some (.x (.f (.func 145) [] [.p 6 0]))) :: (.u 1 0, some (.x (.v (.func (.yield l1) #[] #[])))) :: (.u 1 1, some (.x (.p 6 0))) :: (.u 1 13, some (.x (.B (!decide ((firstI a1) = (lastI a1)))))) :: (.u 1 14, some (.x (.v (.func (.yield l1) #[] #[])))) :: (.u 1 15, some (.x (.g [.i a1.Conc.Lo, .i a1.Conc.Hi, .i a1.Thick.Lo, .i a1.Thick.Hi, .i a1.Ridge.Lo, .i a1.Ridge.Hi, .i a1.Press.Lo, .i a1.Press.Hi]))) :: (.u 1 16, some (.x (.g [.i ((lastI a1).Conc), .i ((lastI a1).Thick), .i ((lastI a1).Ridge), .i ((lastI a1).Press)]))) :: kb 1 25 11 :: kb 3 4 1 :: kb 4 32 2 :: kb 5 32 2 :: kb 6 34 8 :: sK 1 a0 (.v (.slice a0Tp a0.Thrust.length a0Tc)) (.v (.slice a0Wp a0.Water.length a0Wc)) (.v (.slice a0Ip a0.Ice.length a0Ic)) [kc 3 0 (.B a2), kc 4 0 (.i 0), kc 4 1 (.i 0), kc 5 0 (.i v2.1), kc 5 1 (.i v2.2), kc 6 0 (.i a1.Conc.Lo), kc 6 1 (.i a1.Conc.Hi), kc 6 2 (.i a1.Thick.Lo), kc 6 3 (.i a1.Thick.Hi), kc 6 4 (.i a1.Ridge.Lo), kc 6 5 (.i a1.Ridge.Hi), kc 6 6 (.i a1.Press.Lo), kc 6 7 (.i a1.Press.Hi)])) ?_ (kp rfl) rfl
     refine fqT ?_
     refine aqT (rows := [_, _, _, _, _, _, _, _, _, _, _, _]) rfl (by kernel_rfl) ⟨
      okp rfl rfl (oqF (lN rfl) rfl fo_32_0),
      okp rfl rfl (oq1 (lN rfl) sh_3 rfl rfl),
      okp rfl rfl (oqM (lN rfl) rfl),
      okp rfl rfl (op_min (lN rfl) rfl rfl),
      okp rfl rfl (oqF (lN rfl) rfl fo_32_1),
      okp rfl rfl (oq1 (lN rfl) sh_3 rfl rfl),
      okp rfl rfl (oqM (lN rfl) rfl),
      okp rfl rfl (op_max (lN rfl) rfl rfl),
      okp rfl rfl (oqF (lN rfl) rfl fo_32_0),
      okp rfl rfl (op_store1 sz_3 rfl rfl rfl rfl (lN rfl)),
      okp rfl rfl (oqF (lN rfl) rfl fo_32_1),
      okp rfl rfl (op_store1 sz_3 rfl rfl rfl rfl (lN rfl)),
      trivial⟩ ?_
     refine fqK (s' := ((.u 0 3, some (.x (.p 1 0))) :: (.u 0 5, some (.x (.p 3 0))) :: (.u 0 6, some (.x (.p 4 0))) :: (.u 0 9, some (.x (.p 5 0))) :: (.u 0 21, some (.x (.f (.func 145) [] [.p 6 0]))) :: (.u 1 0, some (.x (.v (.func (.yield l1) #[] #[])))) :: (.u 1 1, some (.x (.p 6 0))) :: (.u 1 13, some (.x (.B (!decide ((firstI a1) = (lastI a1)))))) :: (.u 1 14, some (.x (.v (.func (.yield l1) #[] #[])))) :: (.u 1 15, some (.x (.g [.i a1.Conc.Lo, .i a1.Conc.Hi, .i a1.Thick.Lo, .i a1.Thick.Hi, .i a1.Ridge.Lo, .i a1.Ridge.Hi, .i a1.Press.Lo, .i a1.Press.Hi]))) :: (.u 1 16, some (.x (.g [.i ((lastI a1).Conc), .i ((lastI a1).Thick), .i ((lastI a1).Ridge), .i ((lastI a1).Press)]))) :: kb 1 25 11 :: kb 3 4 1 :: kb 4 32 2 :: kb 5 32 2 :: kb 6 34 8 :: sK 1 a0 (.v (.slice a0Tp a0.Thrust.length a0Tc)) (.v (.slice a0Wp a0.Water.length a0Wc)) (.v (.slice a0Ip a0.Ice.length a0Ic)) [kc 3 0 (.B a2), kc 4 0 (.i 0), kc 4 1 (.i 0), kc 5 0 (.i (if (speed a0 ((lastI a1)) a2) < v2.1 then speed a0 ((lastI a1)) a2 else v2.1)), kc 5 1 (.i (if (speed a0 ((lastI a1)) a2) > v2.2 then speed a0 ((lastI a1)) a2 else v2.2)), kc 6 0 (.i a1.Conc.Lo), kc 6 1 (.i a1.Conc.Hi), kc 6 2 (.i a1.Thick.Lo), kc 6 3 (.i a1.Thick.Hi), kc 6 4 (.i a1.Ridge.Lo), kc 6 5 (.i a1.Ridge.Hi), kc 6 6 (.i a1.Press.Lo), kc 6 7 (.i a1.Press.Hi)])) ?_ (kp rfl) rfl
     refine fin_block ?_
     have hm := Option.some.inj hm
     subst hm
     exact fin_roundEnd _ _ _ rfl hB1 hK1 hIv3 ⟨rfl, rfl, rfl, rfl, rfl, rfl, trivial⟩ ⟨rfl, rfl, rfl, rfl, rfl, rfl, rfl, rfl, rfl, rfl, rfl, rfl, rfl, rfl, rfl, rfl, rfl, rfl, rfl, rfl, rfl, rfl, rfl, rfl, rfl, rfl, rfl, rfl, rfl, rfl, rfl, rfl, rfl, rfl, trivial⟩ rfl rfl
    refine fqK (s' := ((.u 0 3, some (.x (.p 1 0))) :: (.u 0 5, some (.x (.p 3 0))) :: (.u 0 6, some (.x (.p 4 0))) :: (.u 0 9, some (.x (.p 5 0))) :: (.u 0 21, some (.x (.f (.func 145) [] [.p 6 0]))) :: kb 1 25 11 :: kb 3 4 1 :: kb 4 32 2 :: kb 5 32 2 :: kb 6 34 8 :: sK 1 a0 (.v (.slice a0Tp a0.Thrust.length a0Tc)) (.v (.slice a0Wp a0.Water.length a0Wc)) (.v (.slice a0Ip a0.Ice.length a0Ic)) [kc 3 0 (.B a2), kc 4 0 (.i 0), kc 4 1 (.i 0), kc 5 0 (.i v3.1), kc 5 1 (.i v3.2), kc 6 0 (.i a1.Conc.Lo), kc 6 1 (.i a1.Conc.Hi), kc 6 2 (.i a1.Thick.Lo), kc 6 3 (.i a1.Thick.Hi), kc 6 4 (.i a1.Ridge.Lo), kc 6 5 (.i a1.Ridge.Hi), kc 6 6 (.i a1.Press.Lo), kc 6 7 (.i a1.Press.Hi)])) ?_ (kp rfl) rfl
    refine fin_rangeEnd [(3, .p 1 0), (5, .p 3 0), (6, .p 4 0), (9, .p 5 0), (21, .f (.func 145) [] [.p 6 0])] (kb 1 25 11 :: kb 3 4 1 :: kb 4 32 2 :: kb 5 32 2 :: kb 6 34 8 :: sK 1 a0 (.v (.slice a0Tp a0.Thrust.length a0Tc)) (.v (.slice a0Wp a0.Water.length a0Wc)) (.v (.slice a0Ip a0.Ice.length a0Ic)) [kc 3 0 (.B a2), kc 4 0 (.i 0), kc 4 1 (.i 0), kc 5 0 (.i v3.1), kc 5 1 (.i v3.2), kc 6 0 (.i a1.Conc.Lo), kc 6 1 (.i a1.Conc.Hi), kc 6 2 (.i a1.Thick.Lo), kc 6 3 (.i a1.Thick.Hi), kc 6 4 (.i a1.Ridge.Lo), kc 6 5 (.i a1.Ridge.Hi), kc 6 6 (.i a1.Press.Lo), kc 6 7 (.i a1.Press.Hi)]) (.inr rfl) hB1 hK1 hM1 hs1 hz1 rfl ⟨rfl, rfl, rfl, rfl, rfl, trivial⟩ ⟨rfl, rfl, rfl, rfl, rfl, rfl, rfl, rfl, rfl, rfl, rfl, rfl, rfl, rfl, rfl, rfl, rfl, rfl, rfl, rfl, rfl, rfl, rfl, rfl, rfl, rfl, rfl, rfl, rfl, trivial⟩ rfl rfl ?_
    refine fqK (s' := (kt 3 (.p 1 0) :: kt 5 (.p 3 0) :: kt 6 (.p 4 0) :: kt 9 (.p 5 0) :: kt 21 (.f (.func 145) [] [.p 6 0]) :: kb 1 25 11 :: kb 3 4 1 :: kb 4 32 2 :: kb 5 32 2 :: kb 6 34 8 :: sK 1 a0 (.v (.slice a0Tp a0.Thrust.length a0Tc)) (.v (.slice a0Wp a0.Water.length a0Wc)) (.v (.slice a0Ip a0.Ice.length a0Ic)) [kc 3 0 (.B a2), kc 4 0 (.i 0), kc 4 1 (.i 0), kc 5 0 (.i v3.1), kc 5 1 (.i v3.2), kc 6 0 (.i a1.Conc.Lo), kc 6 1 (.i a1.Conc.Hi), kc 6 2 (.i a1.Thick.Lo), kc 6 3 (.i a1.Thick.Hi), kc 6 4 (.i a1.Ridge.Lo), kc 6 5 (.i a1.Ridge.Hi), kc 6 6 (.i a1.Press.Lo), kc 6 7 (.i a1.Press.Hi)])) ?_ (kp rfl) rfl
    refine fin_block ?_
    exact fin_cut (v3.1, v3.2) hm ⟨rfl, rfl, rfl, rfl, rfl, rfl, rfl, rfl, trivial⟩ rfl
   ·have hm := brk_f hz4 hm
    refine aw_skip ?_
    refine fin_rangeEnd [(3, .p 1 0), (5, .p 3 0), (6, .p 4 0), (9, .p 5 0), (21, .f (.func 145) [] [.p 6 0])] (kb 1 25 11 :: kb 3 4 1 :: kb 4 32 2 :: kb 5 32 2 :: kb 6 34 8 :: sK 1 a0 (.v (.slice a0Tp a0.Thrust.length a0Tc)) (.v (.slice a0Wp a0.Water.length a0Wc)) (.v (.slice a0Ip a0.Ice.length a0Ic)) [kc 3 0 (.B a2), kc 4 0 (.i 0), kc 4 1 (.i 0), kc 5 0 (.i v2.1), kc 5 1 (.i v2.2), kc 6 0 (.i a1.Conc.Lo), kc 6 1 (.i a1.Conc.Hi), kc 6 2 (.i a1.Thick.Lo), kc 6 3 (.i a1.Thick.Hi), kc 6 4 (.i a1.Ridge.Lo), kc 6 5 (.i a1.Ridge.Hi), kc 6 6 (.i a1.Press.Lo), kc 6 7 (.i a1.Press.Hi)]) (.inr rfl) hB1 hK1 hM1 hs1 hz1 rfl ⟨rfl, rfl, rfl, rfl, rfl, trivial⟩ ⟨rfl, rfl, rfl, rfl, rfl, rfl, rfl, rfl, rfl, rfl, rfl, rfl, rfl, rfl, rfl, rfl, rfl, rfl, rfl, rfl, rfl, rfl, rfl, rfl, rfl, rfl, rfl, rfl, rfl, trivial⟩ rfl rfl ?_
    refine fqK (s' := (kt 3 (.p 1 0) :: kt 5 (.p 3 0) :: kt 6 (.p 4 0) :: kt 9 (.p 5 0) :: kt 21 (.f (.func 145) [] [.p 6 0]) :: kb 1 25 11 :: kb 3 4 1 :: kb 4 32 2 :: kb 5 32 2 :: kb 6 34 8 :: sK 1 a0 (.v (.slice a0Tp a0.Thrust.length a0Tc)) (.v (.slice a0Wp a0.Water.length a0Wc)) (.v (.slice a0Ip a0.Ice.length a0Ic)) [kc 3 0 (.B a2), kc 4 0 (.i 0), kc 4 1 (.i 0), kc 5 0 (.i v2.1), kc 5 1 (.i v2.2), kc 6 0 (.i a1.Conc.Lo), kc 6 1 (.i a1.Conc.Hi), kc 6 2 (.i a1.Thick.Lo), kc 6 3 (.i a1.Thick.Hi), kc 6 4 (.i a1.Ridge.Lo), kc 6 5 (.i a1.Ridge.Hi), kc 6 6 (.i a1.Press.Lo), kc 6 7 (.i a1.Press.Hi)])) ?_ (kp rfl) rfl
    refine fin_block ?_
    exact fin_cut (v2.1, v2.2) hm ⟨rfl, rfl, rfl, rfl, rfl, rfl, rfl, rfl, trivial⟩ rfl
  ·have _z := hm
   refine aqS ?_
   refine aqT (rows := [_, _, _]) rfl (by kernel_rfl) ⟨
    okp rfl rfl (oqL (ys := [.i x1.1, .i x1.2]) (lN rfl) sh_32 rfl rfl ⟨rfl, rfl, trivial⟩),
    okp rfl rfl (op_storeN sz_32 rfl rfl rfl rfl rfl (by decide)),
    okp rfl rfl (oqA (lN rfl) rfl),
    trivial⟩ ?_
   refine fqK (s' := [kt 6 (.p 4 0), kt 7 (.i 0), kb 4 32 2, kc 4 0 (.i x1.1), kc 4 1 (.i x1.2)]) ?_ (kp rfl) rfl
   refine fqT ?_
   refine aw_ret ?_
   refine post_retM (x := .t [.g [.i x1.1, .i x1.2], .i 0]) rfl (resOK_cellN (ys := [.i x1.1, .i x1.2]) rfl sh_32 rfl ⟨rfl, rfl, trivial⟩ (rqT rfl resOK_nil)) rfl (fun mm aa ww hr => ?_) (.inl rfl)
   have hm := Option.some.inj hm
   subst hm
   exact ⟨rfl, hr.below⟩

def m52 (F : Nat) (a0 : Ship) (a1 : Cell) (a2 : Bool) : Option (Bool × Bool × Int) :=
 bnd (m55 F a0 a1 a2) (fun v1 => brk (v1.2 != 0) (some (false, false, v1.2)) (some (decide (v1.1.Lo < 10), decide (v1.1.Hi < 10), 0)))

set_option maxHeartbeats 1000000 in
set_option maxRecDepth 8000 in
theorem c52 (F : Nat) (a0 : Ship) (a0_Thrust_s : SlV) (a0_Water_s : SlV) (a0_Ice_s : SlV) (a1 : Cell) (a2 : Bool) (w : World) (ha0_Thrust : SlIs encPt 2 w a0_Thrust_s a0.Thrust) (ha0_Water : SlIs encPt 2 w a0_Water_s a0.Water) (ha0_Ice : SlIs encPt 2 w a0_Ice_s a0.Ice) (hG : BoxAt w 0 (strengths.map (fun n => Value.int .i64 n))) (r : Bool × Bool × Int) (hm : m52 F a0 a1 a2 = some r) : Calls Tryd.prog 52 #[.agg #[.int .i64 a0.Class, .int .i64 a0.Power, .int .i64 a0.Draught, .int .i64 a0.Tonnes, .slice a0_Thrust_s.p a0_Thrust_s.n a0_Thrust_s.c, .slice a0_Water_s.p a0_Water_s.n a0_Water_s.c, .slice a0_Ice_s.p a0_Ice_s.n a0_Ice_s.c, .int .i64 a0.Slow, .int .i64 a0.Brash, .int .i64 a0.Ridge, .int .i64 a0.Press], .agg #[.int .i64 a1.Conc.Lo, .int .i64 a1.Conc.Hi, .int .i64 a1.Thick.Lo, .int .i64 a1.Thick.Hi, .int .i64 a1.Ridge.Lo, .int .i64 a1.Ridge.Hi, .int .i64 a1.Press.Lo, .int .i64 a1.Press.Hi], .bool a2] w fun e w' => e = .returned (.tuple #[.bool r.1, .bool r.2.1, .int .i64 r.2.2]) ∧ Below w.heap.size w w' := by
 obtain ⟨a0Tp, a0Tn, a0Tc⟩ := a0_Thrust_s
 have ha0_Thrust_l : a0Tn = a0.Thrust.length := ha0_Thrust.1
 subst ha0_Thrust_l
 obtain ⟨a0_Thrust_b, a0To, ha0_Thrust_p, ha0_Thrust_L⟩ := SlAt.lies' ha0_Thrust
 obtain ⟨a0Wp, a0Wn, a0Wc⟩ := a0_Water_s
 have ha0_Water_l : a0Wn = a0.Water.length := ha0_Water.1
 subst ha0_Water_l
 obtain ⟨a0_Water_b, a0Wo, ha0_Water_p, ha0_Water_L⟩ := SlAt.lies' ha0_Water
 obtain ⟨a0Ip, a0In, a0Ic⟩ := a0_Ice_s
 have ha0_Ice_l : a0In = a0.Ice.length := ha0_Ice.1
 subst ha0_Ice_l
 obtain ⟨a0_Ice_b, a0Io, ha0_Ice_p, ha0_Ice_L⟩ := SlAt.lies' ha0_Ice
 unfold m52 at hm
 refine enter (args := [.g [.i a0.Class, .i a0.Power, .i a0.Draught, .i a0.Tonnes, .v (.slice a0Tp a0.Thrust.length a0Tc), .v (.slice a0Wp a0.Water.length a0Wc), .v (.slice a0Ip a0.Ice.length a0Ic), .i a0.Slow, .i a0.Brash, .i a0.Ridge, .i a0.Press], .g [.i a1.Conc.Lo, .i a1.Conc.Hi, .i a1.Thick.Lo, .i a1.Thick.Hi, .i a1.Ridge.Lo, .i a1.Ridge.Hi, .i a1.Press.Lo, .i a1.Press.Hi], .B a2]) Tryd.func52 rfl (N := 27) rfl (Nat.le_of_ble_eq_true rfl) ?_
 refine aqS ?_
 refine aqT (rows := [_, _, _, _, _]) rfl (by kernel_rfl) ⟨
  okp rfl rfl (op_boxN (L := 1) (lN rfl) rfl rfl rfl),
  okp rfl rfl (op_boxN (L := 2) (lN rfl) rfl rfl rfl),
  okp rfl rfl (oqA (lN rfl) rfl),
  okp rfl rfl (oqA (lN rfl) rfl),
  okp rfl rfl (oqA (lN rfl) rfl),
  trivial⟩ ?_
 refine fqK (s' := (kt 2 (.B a2) :: kt 3 (.p 1 0) :: kt 4 (.p 2 0) :: kb 1 25 11 :: kb 2 34 8 :: sK 1 a0 (.v (.slice a0Tp a0.Thrust.length a0Tc)) (.v (.slice a0Wp a0.Water.length a0Wc)) (.v (.slice a0Ip a0.Ice.length a0Ic)) [kc 2 0 (.i a1.Conc.Lo), kc 2 1 (.i a1.Conc.Hi), kc 2 2 (.i a1.Thick.Lo), kc 2 3 (.i a1.Thick.Hi), kc 2 4 (.i a1.Ridge.Lo), kc 2 5 (.i a1.Ridge.Hi), kc 2 6 (.i a1.Press.Lo), kc 2 7 (.i a1.Press.Hi)])) ?_ (kp rfl) rfl
 refine fqT ?_
 refine aqS ?_
 obtain ⟨v1, hv1, hm⟩ := bnd_some hm
 refine aqT (rows := [_, _, _, _, _, _, _, _, _, _]) rfl (by kernel_rfl) ⟨
  okp rfl rfl (oqL (ys := [.i a0.Class, .i a0.Power, .i a0.Draught, .i a0.Tonnes, .v (.slice a0Tp a0.Thrust.length a0Tc), .v (.slice a0Wp a0.Water.length a0Wc), .v (.slice a0Ip a0.Ice.length a0Ic), .i a0.Slow, .i a0.Brash, .i a0.Ridge, .i a0.Press]) (lN rfl) sh_25 rfl rfl ⟨rfl, rfl, rfl, rfl, rfl, rfl, rfl, rfl, rfl, rfl, rfl, trivial⟩),
  okp rfl rfl (oqL (ys := [.i a1.Conc.Lo, .i a1.Conc.Hi, .i a1.Thick.Lo, .i a1.Thick.Hi, .i a1.Ridge.Lo, .i a1.Ridge.Hi, .i a1.Press.Lo, .i a1.Press.Hi]) (lN rfl) sh_34 rfl rfl ⟨rfl, rfl, rfl, rfl, rfl, rfl, rfl, rfl, trivial⟩),
  okp rfl rfl (oqM (lN rfl) rfl),
  okp rfl rfl (oqC (x := .t [.g [.i v1.1.Lo, .i v1.1.Hi], .i v1.2]) (fs := []) (caps := []) (extra := []) (lN rfl) en_55 rfl ⟨rfl, rfl, rfl⟩ (EvL.cons rfl (EvL.cons rfl (EvL.cons rfl EvL.nil))) (fun mm aa ww gg hr hrel => (c55 F a0 ⟨a0Tp, a0.Thrust.length, a0Tc⟩ ⟨a0Wp, a0.Water.length, a0Wc⟩ ⟨a0Ip, a0.Ice.length, a0Ic⟩ a1 a2 ww (SlIs.mono ha0_Thrust hrel.below) (SlIs.mono ha0_Water hrel.below) (SlIs.mono ha0_Ice hrel.below) (BoxAt.mono hG hrel.below) v1 hv1))),
  okp rfl rfl (oqM (lN rfl) rfl),
  okp rfl rfl (op_extract (lN rfl) rfl rfl),
  okp rfl rfl (op_extract (lN rfl) rfl rfl),
  okp rfl rfl (op_alloc (L := 3) (lN rfl) zl_32),
  okp rfl rfl (op_storeN sz_32 rfl rfl rfl rfl rfl (by decide)),
  okp rfl rfl (oqA (lN rfl) rfl),
  trivial⟩ ?_
 refine fqK (s' := [kt 9 (.p 3 0), kt 10 (.i v1.2), kb 3 32 2, kc 3 0 (.i v1.1.Lo), kc 3 1 (.i v1.1.Hi)]) ?_ (kp rfl) rfl
 refine fqT ?_
 refine aqS ?_
 refine aqS ?_
 refine aqT (rows := [_, _]) rfl (by kernel_rfl) ⟨
  okp rfl rfl (oqM (lN rfl) rfl),
  okp rfl rfl (oqB (lN rfl) rfl rfl rfl),
  trivial⟩ ?_
 refine fqK (s' := [kt 9 (.p 3 0), kt 10 (.i v1.2), kt 19 (.B (v1.2 != 0)), kb 3 32 2, kc 3 0 (.i v1.1.Lo), kc 3 1 (.i v1.1.Hi)]) ?_ (kp rfl) rfl
 refine fqT ?_
 refine aw_cond rfl (fun hz1 => ?_) (fun hz1 => ?_)
 ·have hm := brk_t hz1 hm
  refine aqS ?_
  refine aqT (rows := [_, _, _, _]) rfl (by kernel_rfl) ⟨
   okp rfl rfl (oqM (lN rfl) rfl),
   okp rfl rfl (oqA (lN rfl) rfl),
   okp rfl rfl (oqA (lN rfl) rfl),
   okp rfl rfl (oqA (lN rfl) rfl),
   trivial⟩ ?_
  refine fqK (s' := [kt 6 (.B false), kt 7 (.B false), kt 8 (.i v1.2)]) ?_ (kp rfl) rfl
  refine fqT ?_
  refine aw_ret ?_
  refine fin_then_ret ?_
  refine post_ret (x := .t [.B false, .B false, .i v1.2]) rfl rfl (rqT rfl (rqT rfl (rqT rfl resOK_nil))) rfl (fun mm aa ww hr => ?_)
  have hm := Option.some.inj hm
  subst hm
  exact ⟨rfl, hr.below⟩
 ·have hm := brk_f hz1 hm
  refine aw_skip ?_
  refine fqT ?_
  refine aqS ?_
  refine aw_any (rows := [_, _, _, _, _, _, _, _, _]) (M := [0, 1, 3, 0, 8, 24, 7, 127, 255]) Tryd_mixed (by kernel_rfl) rfl (by kernel_rfl) ⟨
   okp rfl rfl (oqF (lN rfl) rfl fo_32_0),
   okp rfl rfl (oq1 (lN rfl) sh_3 rfl rfl),
   okp rfl rfl (oqB (lN rfl) rfl rfl rfl),
   okp rfl rfl (oqF (lN rfl) rfl fo_32_1),
   okp rfl rfl (oq1 (lN rfl) sh_3 rfl rfl),
   okp rfl rfl (oqB (lN rfl) rfl rfl rfl),
   okp rfl rfl (oqA (lN rfl) rfl),
   okp rfl rfl (oqA (lN rfl) rfl),
   okp rfl rfl (oqA (lN rfl) rfl),
   trivial⟩ ?_
  refine fqK (s' := [kt 6 (.B (decide (v1.1.Lo < 10))), kt 7 (.B (decide (v1.1.Hi < 10))), kt 8 (.i 0)]) ?_ (kp rfl) rfl
  refine fqT ?_
  refine aw_ret ?_
  refine post_ret (x := .t [.B (decide (v1.1.Lo < 10)), .B (decide (v1.1.Hi < 10)), .i 0]) rfl rfl (rqT rfl (rqT rfl (rqT rfl resOK_nil))) rfl (fun mm aa ww hr => ?_)
  have hm := Option.some.inj hm
  subst hm
  exact ⟨rfl, hr.below⟩

def m56 (F : Nat) (a0 : Ship) (a1 : Cell) (a2 : Int) (a3 : Bool) : Option (Bool × Bool × Int) :=
 brk ((met a0 a1) != 0) (some (false, false, met a0 a1)) (brk (!(within a2 0 250)) (some (false, false, 6)) (join (fun (x1 : Bool × Bool) => some (x1.2, x1.1, 0)) (fun k1 => bnd (m118 F a1) (fun v1 => bnd (chk (check a0 = 0) (chk (goodIce ((firstI a1))) (chk (0 ≤ a2 ∧ a2 ≤ 255) (some (!(bears a0 ((firstI a1)) a3 a2), !(bears a0 ((firstI a1)) a3 a2)))))) (fun v2 => brk (!decide ((firstI a1) = (lastI a1))) (bnd (chk (check a0 = 0) (chk (goodIce ((lastI a1))) (chk (0 ≤ a2 ∧ a2 ≤ 255) (some (v2.1 && (!(bears a0 ((lastI a1)) a3 a2)), v2.2 || (!(bears a0 ((lastI a1)) a3 a2))))))) (fun v3 => k1 (v3.1, v3.2))) (k1 (v2.1, v2.2)))))))

set_option maxHeartbeats 1000000 in
set_option maxRecDepth 8000 in
theorem c56 (F : Nat) (a0 : Ship) (a0_Thrust_s : SlV) (a0_Water_s : SlV) (a0_Ice_s : SlV) (a1 : Cell) (a2 : Int) (a3 : Bool) (w : World) (ha0_Thrust : SlIs encPt 2 w a0_Thrust_s a0.Thrust) (ha0_Water : SlIs encPt 2 w a0_Water_s a0.Water) (ha0_Ice : SlIs encPt 2 w a0_Ice_s a0.Ice) (hG : BoxAt w 0 (strengths.map (fun n => Value.int .i64 n))) (r : Bool × Bool × Int) (hm : m56 F a0 a1 a2 a3 = some r) : Calls Tryd.prog 56 #[.agg #[.int .i64 a0.Class, .int .i64 a0.Power, .int .i64 a0.Draught, .int .i64 a0.Tonnes, .slice a0_Thrust_s.p a0_Thrust_s.n a0_Thrust_s.c, .slice a0_Water_s.p a0_Water_s.n a0_Water_s.c, .slice a0_Ice_s.p a0_Ice_s.n a0_Ice_s.c, .int .i64 a0.Slow, .int .i64 a0.Brash, .int .i64 a0.Ridge, .int .i64 a0.Press], .agg #[.int .i64 a1.Conc.Lo, .int .i64 a1.Conc.Hi, .int .i64 a1.Thick.Lo, .int .i64 a1.Thick.Hi, .int .i64 a1.Ridge.Lo, .int .i64 a1.Ridge.Hi, .int .i64 a1.Press.Lo, .int .i64 a1.Press.Hi], .int .i64 a2, .bool a3] w fun e w' => e = .returned (.tuple #[.bool r.1, .bool r.2.1, .int .i64 r.2.2]) ∧ Below w.heap.size w w' := by
 obtain ⟨a0Tp, a0Tn, a0Tc⟩ := a0_Thrust_s
 have ha0_Thrust_l : a0Tn = a0.Thrust.length := ha0_Thrust.1
 subst ha0_Thrust_l
 obtain ⟨a0_Thrust_b, a0To, ha0_Thrust_p, ha0_Thrust_L⟩ := SlAt.lies' ha0_Thrust
 obtain ⟨a0Wp, a0Wn, a0Wc⟩ := a0_Water_s
 have ha0_Water_l : a0Wn = a0.Water.length := ha0_Water.1
 subst ha0_Water_l
 obtain ⟨a0_Water_b, a0Wo, ha0_Water_p, ha0_Water_L⟩ := SlAt.lies' ha0_Water
 obtain ⟨a0Ip, a0In, a0Ic⟩ := a0_Ice_s
 have ha0_Ice_l : a0In = a0.Ice.length := ha0_Ice.1
 subst ha0_Ice_l
 obtain ⟨a0_Ice_b, a0Io, ha0_Ice_p, ha0_Ice_L⟩ := SlAt.lies' ha0_Ice
 unfold m56 at hm
 refine enterM (args := [.g [.i a0.Class, .i a0.Power, .i a0.Draught, .i a0.Tonnes, .v (.slice a0Tp a0.Thrust.length a0Tc), .v (.slice a0Wp a0.Water.length a0Wc), .v (.slice a0Ip a0.Ice.length a0Ic), .i a0.Slow, .i a0.Brash, .i a0.Ridge, .i a0.Press], .g [.i a1.Conc.Lo, .i a1.Conc.Hi, .i a1.Thick.Lo, .i a1.Thick.Hi, .i a1.Ridge.Lo, .i a1.Ridge.Hi, .i a1.Press.Lo, .i a1.Press.Hi], .i a2, .B a3]) Tryd.func56 rfl (N := 44) rfl (Nat.le_of_ble_eq_true rfl) ?_
 refine aqS ?_
 refine aqT (rows := [_, _, _, _, _, _, _]) rfl (by kernel_rfl) ⟨
  okp rfl rfl (op_boxN (L := 1) (lN rfl) rfl rfl rfl),
  okp rfl rfl (op_boxN (L := 2) (lN rfl) rfl rfl rfl),
  okp rfl rfl (op_box1 (L := 3) (lN rfl) rfl rfl rfl),
  okp rfl rfl (op_box1 (L := 4) (lN rfl) rfl rfl rfl),
  okp rfl rfl (oqA (lN rfl) rfl),
  okp rfl rfl (oqA (lN rfl) rfl),
  okp rfl rfl (oqA (lN rfl) rfl),
  trivial⟩ ?_
 refine fqK (s' := (kt 4 (.p 1 0) :: kt 5 (.p 2 0) :: kt 6 (.p 3 0) :: kt 7 (.p 4 0) :: kb 1 25 11 :: kb 2 34 8 :: kb 3 3 1 :: kb 4 4 1 :: sK 1 a0 (.v (.slice a0Tp a0.Thrust.length a0Tc)) (.v (.slice a0Wp a0.Water.length a0Wc)) (.v (.slice a0Ip a0.Ice.length a0Ic)) [kc 2 0 (.i a1.Conc.Lo), kc 2 1 (.i a1.Conc.Hi), kc 2 2 (.i a1.Thick.Lo), kc 2 3 (.i a1.Thick.Hi), kc 2 4 (.i a1.Ridge.Lo), kc 2 5 (.i a1.Ridge.Hi), kc 2 6 (.i a1.Press.Lo), kc 2 7 (.i a1.Press.Hi), kc 3 0 (.i a2), kc 4 0 (.B a3)])) ?_ (kp rfl) rfl
 refine fqT ?_
 refine aqS ?_
 refine aqS ?_
 refine aqT (rows := [_, _, _, _]) rfl (by kernel_rfl) ⟨
  okp rfl rfl (oqL (ys := [.i a0.Class, .i a0.Power, .i a0.Draught, .i a0.Tonnes, .v (.slice a0Tp a0.Thrust.length a0Tc), .v (.slice a0Wp a0.Water.length a0Wc), .v (.slice a0Ip a0.Ice.length a0Ic), .i a0.Slow, .i a0.Brash, .i a0.Ridge, .i a0.Press]) (lN rfl) sh_25 rfl rfl ⟨rfl, rfl, rfl, rfl, rfl, rfl, rfl, rfl, rfl, rfl, rfl, trivial⟩),
  okp rfl rfl (oqL (ys := [.i a1.Conc.Lo, .i a1.Conc.Hi, .i a1.Thick.Lo, .i a1.Thick.Hi, .i a1.Ridge.Lo, .i a1.Ridge.Hi, .i a1.Press.Lo, .i a1.Press.Hi]) (lN rfl) sh_34 rfl rfl ⟨rfl, rfl, rfl, rfl, rfl, rfl, rfl, rfl, trivial⟩),
  okp rfl rfl (oqC (x := .i (met a0 a1)) (fs := []) (caps := []) (extra := []) (lN rfl) en_90 rfl ⟨rfl, rfl, rfl⟩ (EvL.cons rfl (EvL.cons rfl EvL.nil)) (fun mm aa ww gg hr hrel => (c90 a0 ⟨a0Tp, a0.Thrust.length, a0Tc⟩ ⟨a0Wp, a0.Water.length, a0Wc⟩ ⟨a0Ip, a0.Ice.length, a0Ic⟩ a1 ww (SlIs.mono ha0_Thrust hrel.below) (SlIs.mono ha0_Water hrel.below) (SlIs.mono ha0_Ice hrel.below)))),
  okp rfl rfl (oqA (lN rfl) rfl),
  trivial⟩ ?_
 refine fqK (s' := (kt 4 (.p 1 0) :: kt 5 (.p 2 0) :: kt 6 (.p 3 0) :: kt 7 (.p 4 0) :: kt 11 (.i (met a0 a1)) :: kb 1 25 11 :: kb 2 34 8 :: kb 3 3 1 :: kb 4 4 1 :: sK 1 a0 (.v (.slice a0Tp a0.Thrust.length a0Tc)) (.v (.slice a0Wp a0.Water.length a0Wc)) (.v (.slice a0Ip a0.Ice.length a0Ic)) [kc 2 0 (.i a1.Conc.Lo), kc 2 1 (.i a1.Conc.Hi), kc 2 2 (.i a1.Thick.Lo), kc 2 3 (.i a1.Thick.Hi), kc 2 4 (.i a1.Ridge.Lo), kc 2 5 (.i a1.Ridge.Hi), kc 2 6 (.i a1.Press.Lo), kc 2 7 (.i a1.Press.Hi), kc 3 0 (.i a2), kc 4 0 (.B a3)])) ?_ (kp rfl) rfl
 refine fqT ?_
 refine aqS ?_
 refine aqT (rows := [_, _]) rfl (by kernel_rfl) ⟨
  okp rfl rfl (oqM (lN rfl) rfl),
  okp rfl rfl (oqB (lN rfl) rfl rfl rfl),
  trivial⟩ ?_
 refine fqK (s' := (kt 4 (.p 1 0) :: kt 5 (.p 2 0) :: kt 6 (.p 3 0) :: kt 7 (.p 4 0) :: kt 11 (.i (met a0 a1)) :: kt 20 (.B ((met a0 a1) != 0)) :: kb 1 25 11 :: kb 2 34 8 :: kb 3 3 1 :: kb 4 4 1 :: sK 1 a0 (.v (.slice a0Tp a0.Thrust.length a0Tc)) (.v (.slice a0Wp a0.Water.length a0Wc)) (.v (.slice a0Ip a0.Ice.length a0Ic)) [kc 2 0 (.i a1.Conc.Lo), kc 2 1 (.i a1.Conc.Hi), kc 2 2 (.i a1.Thick.Lo), kc 2 3 (.i a1.Thick.Hi), kc 2 4 (.i a1.Ridge.Lo), kc 2 5 (.i a1.Ridge.Hi), kc 2 6 (.i a1.Press.Lo), kc 2 7 (.i a1.Press.Hi), kc 3 0 (.i a2), kc 4 0 (.B a3)])) ?_ (kp rfl) rfl
 refine fqT ?_
 refine aw_cond rfl (fun hz1 => ?_) (fun hz1 => ?_)
 ·have hm := brk_t hz1 hm
  refine aqS ?_
  refine aqT (rows := [_, _, _, _]) rfl (by kernel_rfl) ⟨
   okp rfl rfl (oqM (lN rfl) rfl),
   okp rfl rfl (oqA (lN rfl) rfl),
   okp rfl rfl (oqA (lN rfl) rfl),
   okp rfl rfl (oqA (lN rfl) rfl),
   trivial⟩ ?_
  refine fqK (s' := [kt 8 (.B false), kt 9 (.B false), kt 10 (.i (met a0 a1))]) ?_ (kp rfl) rfl
  refine fqT ?_
  refine aw_ret ?_
  refine fin_then_ret ?_
  refine post_retM (x := .t [.B false, .B false, .i (met a0 a1)]) rfl (rqT rfl (rqT rfl (rqT rfl resOK_nil))) rfl (fun mm aa ww hr => ?_) (.inl rfl)
  have hm := Option.some.inj hm
  subst hm
  exact ⟨rfl, hr.below⟩
 ·have hm := brk_f hz1 hm
  refine aw_skip ?_
  refine fqT ?_
  refine aqS ?_
  refine aqS ?_
  refine aqT (rows := [_, _, _]) rfl (by kernel_rfl) ⟨
   okp rfl rfl (oq1 (lN rfl) sh_3 rfl rfl),
   okp rfl rfl (oqC (x := .B (within a2 0 250)) (fs := []) (caps := []) (extra := []) (lN rfl) en_84 rfl ⟨rfl, rfl, rfl⟩ (EvL.cons rfl (EvL.cons rfl (EvL.cons rfl EvL.nil))) (fun mm aa ww gg hr hrel => (c84 a2 0 250 ww))),
   okp rfl rfl (op_not (lN rfl) rfl),
   trivial⟩ ?_
  refine fqK (s' := (kt 4 (.p 1 0) :: kt 5 (.p 2 0) :: kt 6 (.p 3 0) :: kt 7 (.p 4 0) :: kt 24 (.B (!(within a2 0 250))) :: kb 1 25 11 :: kb 2 34 8 :: kb 3 3 1 :: kb 4 4 1 :: sK 1 a0 (.v (.slice a0Tp a0.Thrust.length a0Tc)) (.v (.slice a0Wp a0.Water.length a0Wc)) (.v (.slice a0Ip a0.Ice.length a0Ic)) [kc 2 0 (.i a1.Conc.Lo), kc 2 1 (.i a1.Conc.Hi), kc 2 2 (.i a1.Thick.Lo), kc 2 3 (.i a1.Thick.Hi), kc 2 4 (.i a1.Ridge.Lo), kc 2 5 (.i a1.Ridge.Hi), kc 2 6 (.i a1.Press.Lo), kc 2 7 (.i a1.Press.Hi), kc 3 0 (.i a2), kc 4 0 (.B a3)])) ?_ (kp rfl) rfl
  refine fqT ?_
  refine aw_cond rfl (fun hz2 => ?_) (fun hz2 => ?_)
  ·have hm := brk_t hz2 hm
   refine aqS ?_
   refine aqT (rows := [_, _, _]) rfl (by kernel_rfl) ⟨
    okp rfl rfl (oqA (lN rfl) rfl),
    okp rfl rfl (oqA (lN rfl) rfl),
    okp rfl rfl (oqA (lN rfl) rfl),
    trivial⟩ ?_
   refine fqK (s' := [kt 8 (.B false), kt 9 (.B false), kt 10 (.i 6)]) ?_ (kp rfl) rfl
   refine fqT ?_
   refine aw_ret ?_
   refine fin_then_ret ?_
   refine post_retM (x := .t [.B false, .B false, .i 6]) rfl (rqT rfl (rqT rfl (rqT rfl resOK_nil))) rfl (fun mm aa ww hr => ?_) (.inl rfl)
   have hm := Option.some.inj hm
   subst hm
   exact ⟨rfl, hr.below⟩
  ·have hm := brk_f hz2 hm
   refine aw_skip ?_
   refine fqT ?_
   refine aqS ?_
   refine aqT (rows := [_, _, _, _]) rfl (by kernel_rfl) ⟨
    okp rfl rfl (op_alloc (L := 5) (lN rfl) zl_4),
    okp rfl rfl (op_alloc (L := 6) (lN rfl) zl_4),
    okp rfl rfl (op_store1 sz_4 rfl rfl rfl rfl (lN rfl)),
    okp rfl rfl (op_store1 sz_4 rfl rfl rfl rfl (lN rfl)),
    trivial⟩ ?_
   refine fqK (s' := (kt 4 (.p 1 0) :: kt 5 (.p 2 0) :: kt 6 (.p 3 0) :: kt 7 (.p 4 0) :: kt 12 (.p 5 0) :: kt 13 (.p 6 0) :: kb 1 25 11 :: kb 2 34 8 :: kb 3 3 1 :: kb 4 4 1 :: kb 5 4 1 :: kb 6 4 1 :: sK 1 a0 (.v (.slice a0Tp a0.Thrust.length a0Tc)) (.v (.slice a0Wp a0.Water.length a0Wc)) (.v (.slice a0Ip a0.Ice.length a0Ic)) [kc 2 0 (.i a1.Conc.Lo), kc 2 1 (.i a1.Conc.Hi), kc 2 2 (.i a1.Thick.Lo), kc 2 3 (.i a1.Thick.Hi), kc 2 4 (.i a1.Ridge.Lo), kc 2 5 (.i a1.Ridge.Hi), kc 2 6 (.i a1.Press.Lo), kc 2 7 (.i a1.Press.Hi), kc 3 0 (.i a2), kc 4 0 (.B a3), kc 5 0 (.B false), kc 6 0 (.B true)])) ?_ (kp rfl) rfl
   refine fqT ?_
   refine aw_cutM (ι := Bool × Bool) hm (fun x1 => [kt 12 (.p 5 0), kt 13 (.p 6 0), kb 5 4 1, kb 6 4 1, kc 5 0 (.B x1.2), kc 6 0 (.B x1.1)]) (fun hm => ?_) (fun x1 hm => ?_)
   ·have _z := hm
    refine aqS ?_
    obtain ⟨v1, hv1, hm⟩ := bnd_some hm
    refine aqT (rows := [_, _]) rfl (by kernel_rfl) ⟨
     okp rfl rfl (oqL (ys := [.i a1.Conc.Lo, .i a1.Conc.Hi, .i a1.Thick.Lo, .i a1.Thick.Hi, .i a1.Ridge.Lo, .i a1.Ridge.Hi, .i a1.Press.Lo, .i a1.Press.Hi]) (lN rfl) sh_34 rfl rfl ⟨rfl, rfl, rfl, rfl, rfl, rfl, rfl, rfl, trivial⟩),
     okp rfl rfl (op_callNew (ls := [⟨7, 34, [.i a1.Conc.Lo, .i a1.Conc.Hi, .i a1.Thick.Lo, .i a1.Thick.Hi, .i a1.Ridge.Lo, .i a1.Ridge.Hi, .i a1.Press.Lo, .i a1.Press.Hi]⟩]) (R := fun bs => .func (.func 145) #[] #[.pointer (some ⟨bs.getD 0 0, 0, none⟩)]) (x := .f (.func 145) [] [.p 7 0]) (fs := []) (caps := []) (extra := []) (lN rfl) en_118 rfl ⟨rfl, rfl, rfl⟩ (EvL.cons rfl EvL.nil) rfl (fun _ => rfl) (fun mm aa ww gg hr hrel => (c118 F a1 ww v1 hv1))),
     trivial⟩ ?_
    refine fqK (s' := (kt 4 (.p 1 0) :: kt 6 (.p 3 0) :: kt 7 (.p 4 0) :: kt 12 (.p 5 0) :: kt 13 (.p 6 0) :: kt 26 (.f (.func 145) [] [.p 7 0]) :: kb 1 25 11 :: kb 3 3 1 :: kb 4 4 1 :: kb 5 4 1 :: kb 6 4 1 :: kb 7 34 8 :: sK 1 a0 (.v (.slice a0Tp a0.Thrust.length a0Tc)) (.v (.slice a0Wp a0.Water.length a0Wc)) (.v (.slice a0Ip a0.Ice.length a0Ic)) [kc 3 0 (.i a2), kc 4 0 (.B a3), kc 5 0 (.B false), kc 6 0 (.B true), kc 7 0 (.i a1.Conc.Lo), kc 7 1 (.i a1.Conc.Hi), kc 7 2 (.i a1.Thick.Lo), kc 7 3 (.i a1.Thick.Hi), kc 7 4 (.i a1.Ridge.Lo), kc 7 5 (.i a1.Ridge.Hi), kc 7 6 (.i a1.Press.Lo), kc 7 7 (.i a1.Press.Hi)])) ?_ (kp rfl) rfl
    refine fqT ?_
    refine aw_block ?_
    refine aw_rangeFunc (N' := 18) 0 [(4, .p 1 0), (6, .p 3 0), (7, .p 4 0), (12, .p 5 0), (13, .p 6 0), (26, .f (.func 145) [] [.p 7 0])] (kb 1 25 11 :: kb 3 3 1 :: kb 4 4 1 :: kb 5 4 1 :: kb 6 4 1 :: kb 7 34 8 :: sK 1 a0 (.v (.slice a0Tp a0.Thrust.length a0Tc)) (.v (.slice a0Wp a0.Water.length a0Wc)) (.v (.slice a0Ip a0.Ice.length a0Ic)) [kc 3 0 (.i a2), kc 4 0 (.B a3), kc 5 0 (.B false), kc 6 0 (.B true), kc 7 0 (.i a1.Conc.Lo), kc 7 1 (.i a1.Conc.Hi), kc 7 2 (.i a1.Thick.Lo), kc 7 3 (.i a1.Thick.Hi), kc 7 4 (.i a1.Ridge.Lo), kc 7 5 (.i a1.Ridge.Hi), kc 7 6 (.i a1.Press.Lo), kc 7 7 (.i a1.Press.Hi)]) rfl ⟨rfl, rfl, rfl⟩ Tryd.func145 rfl rfl en_145 (by decide) ⟨rfl, rfl, rfl, rfl, rfl, rfl, trivial⟩ ⟨rfl, rfl, rfl, rfl, rfl, rfl, rfl, rfl, rfl, rfl, rfl, rfl, rfl, rfl, rfl, rfl, rfl, rfl, rfl, rfl, rfl, rfl, rfl, rfl, rfl, rfl, rfl, rfl, rfl, trivial⟩ rfl rfl (fun l1 D1 fn1 aT1 aD1 K1 hB1 hK1 hM1 hs1 hz1 => ?_)
    refine AW.keep (s' := (kt 0 (.v (.func (.yield l1) #[] #[])) :: kt 1 (.p 7 0) :: (.u 0 4, some (.x (.p 1 0))) :: (.u 0 6, some (.x (.p 3 0))) :: (.u 0 7, some (.x (.p 4 0))) :: (.u 0 12, some (.x (.p 5 0))) :: (.u 0 13, some (.x (.p 6 0))) :: (.u 0 26, some (.x (.f (.func 145) [] [.p 7 0]))) :: kb 1 25 11 :: kb 3 3 1 :: kb 4 4 1 :: kb 5 4 1 :: kb 6 4 1 :: kb 7 34 8 :: sK 1 a0 (.v (.slice a0Tp a0.Thrust.length a0Tc)) (.v (.slice a0Wp a0.Water.length a0Wc)) (.v (.slice a0Ip a0.Ice.length a0Ic)) [kc 3 0 (.i a2), kc 4 0 (.B a3), kc 5 0 (.B false), kc 6 0 (.B true), kc 7 0 (.i a1.Conc.Lo), kc 7 1 (.i a1.Conc.Hi), kc 7 2 (.i a1.Thick.Lo), kc 7 3 (.i a1.Thick.Hi), kc 7 4 (.i a1.Ridge.Lo), kc 7 5 (.i a1.Ridge.Hi), kc 7 6 (.i a1.Press.Lo), kc 7 7 (.i a1.Press.Hi)])) ?_ (kp rfl) rfl
    refine aqS ?_
    obtain ⟨v2, hv2, hm⟩ := bnd_some hm
    refine aw_any (rows := [_, _, _, _, _, _, _, _, _, _, _]) (M := [0, 0, 2, 7, 15, 31, 63, 31, 255, 511, 1023]) Tryd_mixed (by kernel_rfl) rfl (by kernel_rfl) ⟨
     okp rfl rfl (oqM (lN rfl) rfl),
     okp rfl rfl (oqL (ys := [.i a1.Conc.Lo, .i a1.Conc.Hi, .i a1.Thick.Lo, .i a1.Thick.Hi, .i a1.Ridge.Lo, .i a1.Ridge.Hi, .i a1.Press.Lo, .i a1.Press.Hi]) (lN rfl) sh_34 rfl rfl ⟨rfl, rfl, rfl, rfl, rfl, rfl, rfl, rfl, trivial⟩),
     okp rfl rfl (oqC (x := .g [.i ((firstI a1).Conc), .i ((firstI a1).Thick), .i ((firstI a1).Ridge), .i ((firstI a1).Press)]) (fs := []) (caps := []) (extra := []) (lN rfl) en_88 rfl ⟨rfl, rfl, rfl⟩ (EvL.cons rfl EvL.nil) (fun mm aa ww gg hr hrel => (c88 a1 ww))),
     okp rfl rfl (op_yieldIn (N := 44) (tmpSt [(0, .v (.func (.yield l1) #[] #[])), (1, .p 7 0), (3, .v (.func (.yield l1) #[] #[])), (4, .g [.i a1.Conc.Lo, .i a1.Conc.Hi, .i a1.Thick.Lo, .i a1.Thick.Hi, .i a1.Ridge.Lo, .i a1.Ridge.Hi, .i a1.Press.Lo, .i a1.Press.Hi]), (5, .g [.i ((firstI a1).Conc), .i ((firstI a1).Thick), .i ((firstI a1).Ridge), .i ((firstI a1).Press)])] ++ (((((.u 0 4, some (.x (.p 1 0))) :: (.u 0 6, some (.x (.p 3 0))) :: (.u 0 7, some (.x (.p 4 0))) :: (.u 0 12, some (.x (.p 5 0))) :: (.u 0 13, some (.x (.p 6 0))) :: (.u 0 26, some (.x (.f (.func 145) [] [.p 7 0]))) :: kb 1 25 11 :: kb 3 3 1 :: kb 4 4 1 :: kb 5 4 1 :: kb 6 4 1 :: kb 7 34 8 :: sK 1 a0 (.v (.slice a0Tp a0.Thrust.length a0Tc)) (.v (.slice a0Wp a0.Water.length a0Wc)) (.v (.slice a0Ip a0.Ice.length a0Ic)) [kc 3 0 (.i a2)]) : St) ++ (([kc 4 0 (.B a3), kc 5 0 (.B v2.2), kc 6 0 (.B v2.1), kc 7 0 (.i a1.Conc.Lo), kc 7 1 (.i a1.Conc.Hi), kc 7 2 (.i a1.Thick.Lo), kc 7 3 (.i a1.Thick.Hi), kc 7 4 (.i a1.Ridge.Lo), kc 7 5 (.i a1.Ridge.Hi), kc 7 6 (.i a1.Press.Lo), kc 7 7 (.i a1.Press.Hi)] : St))) ++ dropSt [.b 8, .c 8 0, .c 8 1, .c 8 2, .c 8 3, .t 14, .t 15, .t 28, .t 29, .t 30, .t 31, .t 32, .t 33, .t 34, .t 35, .t 36, .t 37, .t 38, .t 39, .t 40, .t 41])) 1 [(0, .v (.func (.yield l1) #[] #[])), (1, .p 7 0), (3, .v (.func (.yield l1) #[] #[])), (4, .g [.i a1.Conc.Lo, .i a1.Conc.Hi, .i a1.Thick.Lo, .i a1.Thick.Hi, .i a1.Ridge.Lo, .i a1.Ridge.Hi, .i a1.Press.Lo, .i a1.Press.Hi]), (5, .g [.i ((firstI a1).Conc), .i ((firstI a1).Thick), .i ((firstI a1).Ridge), .i ((firstI a1).Press)])] [(4, .p 1 0), (6, .p 3 0), (7, .p 4 0), (12, .p 5 0), (13, .p 6 0), (26, .f (.func 145) [] [.p 7 0])] ((.u 0 4, some (.x (.p 1 0))) :: (.u 0 6, some (.x (.p 3 0))) :: (.u 0 7, some (.x (.p 4 0))) :: (.u 0 12, some (.x (.p 5 0))) :: (.u 0 13, some (.x (.p 6 0))) :: (.u 0 26, some (.x (.f (.func 145) [] [.p 7 0]))) :: kb 1 25 11 :: kb 3 3 1 :: kb 4 4 1 :: kb 5 4 1 :: kb 6 4 1 :: kb 7 34 8 :: sK 1 a0 (.v (.slice a0Tp a0.Thrust.length a0Tc)) (.v (.slice a0Wp a0.Water.length a0Wc)) (.v (.slice a0Ip a0.Ice.length a0Ic)) [kc 3 0 (.i a2), kc 4 0 (.B a3), kc 5 0 (.B false), kc 6 0 (.B true), kc 7 0 (.i a1.Conc.Lo), kc 7 1 (.i a1.Conc.Hi), kc 7 2 (.i a1.Thick.Lo), kc 7 3 (.i a1.Thick.Hi), kc 7 4 (.i a1.Ridge.Lo), kc 7 5 (.i a1.Ridge.Hi), kc 7 6 (.i a1.Press.Lo), kc 7 7 (.i a1.Press.Hi)]) (lN rfl) rfl (EvL.cons rfl EvL.nil) rfl (by decide) hz1 ⟨rfl, rfl, rfl, rfl, rfl, trivial⟩ ⟨rfl, rfl, rfl, rfl, rfl, rfl, trivial⟩ ⟨rfl, rfl, rfl, rfl, rfl, rfl, rfl, rfl, rfl, rfl, rfl, rfl, rfl, rfl, rfl, rfl, rfl, rfl, rfl, rfl, rfl, rfl, rfl, rfl, rfl, rfl, rfl, rfl, rfl, rfl, rfl, rfl, rfl, rfl, rfl, trivial⟩ rfl rfl (by decide) rfl (fun aIv2 hIv2 => ?_)),
     okp rfl rfl (oqM (lN rfl) rfl),
     oqy rfl rfl rfl rfl rfl rfl (oqL (ys := [.i a1.Conc.Lo, .i a1.Conc.Hi, .i a1.Thick.Lo, .i a1.Thick.Hi, .i a1.Ridge.Lo, .i a1.Ridge.Hi, .i a1.Press.Lo, .i a1.Press.Hi]) (lN rfl) sh_34 rfl rfl ⟨rfl, rfl, rfl, rfl, rfl, rfl, rfl, rfl, trivial⟩),
     oqy rfl rfl rfl rfl rfl rfl (oqC (x := .g [.i ((firstI a1).Conc), .i ((firstI a1).Thick), .i ((firstI a1).Ridge), .i ((firstI a1).Press)]) (fs := []) (caps := []) (extra := []) (lN rfl) en_88 rfl ⟨rfl, rfl, rfl⟩ (EvL.cons rfl EvL.nil) (fun mm aa ww gg hr hrel => (c88 a1 ww))),
     oqy rfl rfl rfl rfl rfl rfl (oqL (ys := [.i a1.Conc.Lo, .i a1.Conc.Hi, .i a1.Thick.Lo, .i a1.Thick.Hi, .i a1.Ridge.Lo, .i a1.Ridge.Hi, .i a1.Press.Lo, .i a1.Press.Hi]) (lN rfl) sh_34 rfl rfl ⟨rfl, rfl, rfl, rfl, rfl, rfl, rfl, rfl, trivial⟩),
     oqy rfl rfl rfl rfl rfl rfl (oqC (x := .g [.i ((lastI a1).Conc), .i ((lastI a1).Thick), .i ((lastI a1).Ridge), .i ((lastI a1).Press)]) (fs := []) (caps := []) (extra := []) (lN rfl) en_100 rfl ⟨rfl, rfl, rfl⟩ (EvL.cons rfl EvL.nil) (fun mm aa ww gg hr hrel => (c100 a1 ww))),
     oqy rfl rfl rfl rfl rfl rfl (op_neS (r := decide ((firstI a1) = (lastI a1))) (lN rfl) rfl rfl eqg_28 (fun _ => Eq.trans (by kernel_rfl) (congrArg some (Ice_eqd ((firstI a1)) ((lastI a1)))))),
     okp rfl rfl (op_pickT (lN rfl) rfl rfl),
     trivial⟩ ?_
    ·have hm := hv2
     refine AW.keep (s' := (kt 4 (.p 1 0) :: kt 6 (.p 3 0) :: kt 7 (.p 4 0) :: kt 12 (.p 5 0) :: kt 13 (.p 6 0) :: kt 26 (.f (.func 145) [] [.p 7 0]) :: kt 27 (.g [.i ((firstI a1).Conc), .i ((firstI a1).Thick), .i ((firstI a1).Ridge), .i ((firstI a1).Press)]) :: (.u 0 4, some (.x (.p 1 0))) :: (.u 0 6, some (.x (.p 3 0))) :: (.u 0 7, some (.x (.p 4 0))) :: (.u 0 12, some (.x (.p 5 0))) :: (.u 0 13, some (.x (.p 6 0))) :: (.u 0 26, some (.x (.f (.func 145) [] [.p 7 0]))) :: (.u 1 0, some (.x (.v (.func (.yield l1) #[] #[])))) :: (.u 1 1, some (.x (.p 7 0))) :: (.u 1 3, some (.x (.v (.func (.yield l1) #[] #[])))) :: (.u 1 4, some (.x (.g [.i a1.Conc.Lo, .i a1.Conc.Hi, .i a1.Thick.Lo, .i a1.Thick.Hi, .i a1.Ridge.Lo, .i a1.Ridge.Hi, .i a1.Press.Lo, .i a1.Press.Hi]))) :: (.u 1 5, some (.x (.g [.i ((firstI a1).Conc), .i ((firstI a1).Thick), .i ((firstI a1).Ridge), .i ((firstI a1).Press)]))) :: kb 1 25 11 :: kb 3 3 1 :: kb 4 4 1 :: kb 5 4 1 :: kb 6 4 1 :: kb 7 34 8 :: sK 1 a0 (.v (.slice a0Tp a0.Thrust.length a0Tc)) (.v (.slice a0Wp a0.Water.length a0Wc)) (.v (.slice a0Ip a0.Ice.length a0Ic)) [kc 3 0 (.i a2), kc 4 0 (.B a3), kc 5 0 (.B false), kc 6 0 (.B true), kc 7 0 (.i a1.Conc.Lo), kc 7 1 (.i a1.Conc.Hi), kc 7 2 (.i a1.Thick.Lo), kc 7 3 (.i a1.Thick.Hi), kc 7 4 (.i a1.Ridge.Lo), kc 7 5 (.i a1.Ridge.Hi), kc 7 6 (.i a1.Press.Lo), kc 7 7 (.i a1.Press.Hi)])) ?_ (kp rfl) rfl
     refine aqT (rows := [_, _]) rfl (by kernel_rfl) ⟨
      okp rfl rfl (op_alloc (L := 8) (lN rfl) zl_28),
      okp rfl rfl (op_storeN sz_28 rfl rfl rfl rfl rfl (by decide)),
      trivial⟩ ?_
     refine fqK (s' := (kt 4 (.p 1 0) :: kt 6 (.p 3 0) :: kt 7 (.p 4 0) :: kt 12 (.p 5 0) :: kt 13 (.p 6 0) :: kt 14 (.p 8 0) :: (.u 0 4, some (.x (.p 1 0))) :: (.u 0 6, some (.x (.p 3 0))) :: (.u 0 7, some (.x (.p 4 0))) :: (.u 0 12, some (.x (.p 5 0))) :: (.u 0 13, some (.x (.p 6 0))) :: (.u 0 26, some (.x (.f (.func 145) [] [.p 7 0]))) :: (.u 1 0, some (.x (.v (.func (.yield l1) #[] #[])))) :: (.u 1 1, some (.x (.p 7 0))) :: (.u 1 3, some (.x (.v (.func (.yield l1) #[] #[])))) :: (.u 1 4, some (.x (.g [.i a1.Conc.Lo, .i a1.Conc.Hi, .i a1.Thick.Lo, .i a1.Thick.Hi, .i a1.Ridge.Lo, .i a1.Ridge.Hi, .i a1.Press.Lo, .i a1.Press.Hi]))) :: (.u 1 5, some (.x (.g [.i ((firstI a1).Conc), .i ((firstI a1).Thick), .i ((firstI a1).Ridge), .i ((firstI a1).Press)]))) :: kb 1 25 11 :: kb 3 3 1 :: kb 4 4 1 :: kb 5 4 1 :: kb 6 4 1 :: kb 7 34 8 :: kb 8 28 4 :: sK 1 a0 (.v (.slice a0Tp a0.Thrust.length a0Tc)) (.v (.slice a0Wp a0.Water.length a0Wc)) (.v (.slice a0Ip a0.Ice.length a0Ic)) [kc 3 0 (.i a2), kc 4 0 (.B a3), kc 5 0 (.B false), kc 6 0 (.B true), kc 7 0 (.i a1.Conc.Lo), kc 7 1 (.i a1.Conc.Hi), kc 7 2 (.i a1.Thick.Lo), kc 7 3 (.i a1.Thick.Hi), kc 7 4 (.i a1.Ridge.Lo), kc 7 5 (.i a1.Ridge.Hi), kc 7 6 (.i a1.Press.Lo), kc 7 7 (.i a1.Press.Hi), kc 8 0 (.i ((firstI a1).Conc)), kc 8 1 (.i ((firstI a1).Thick)), kc 8 2 (.i ((firstI a1).Ridge)), kc 8 3 (.i ((firstI a1).Press))])) ?_ (kp rfl) rfl
     refine fin_begin hB1 hK1 ?_
     refine aw_block ?_
     refine aqS ?_
     obtain ⟨hp3, hm⟩ := chk_some hm
     obtain ⟨hp4, hm⟩ := chk_some hm
     obtain ⟨hp5, hm⟩ := chk_some hm
     refine aqT (rows := [_, _, _, _, _, _, _]) rfl (by kernel_rfl) ⟨
      okp rfl rfl (oqL (ys := [.i ((firstI a1).Conc), .i ((firstI a1).Thick), .i ((firstI a1).Ridge), .i ((firstI a1).Press)]) (lN rfl) sh_28 rfl rfl ⟨rfl, rfl, rfl, rfl, trivial⟩),
      okp rfl rfl (oq1 (lN rfl) sh_4 rfl rfl),
      okp rfl rfl (op_build (x := .g [.p 1 0, .i ((firstI a1).Conc), .i ((firstI a1).Thick), .i ((firstI a1).Ridge), .i ((firstI a1).Press), .B a3]) (lN rfl) (EvL.cons rfl (EvL.cons rfl (EvL.cons rfl EvL.nil))) (fun m w => by kernel_rfl)),
      okp rfl rfl (oq1 (lN rfl) sh_3 rfl rfl),
      okp rfl rfl (oqC (x := .B (bears a0 ((firstI a1)) a3 a2)) (fs := []) (caps := []) (extra := (kapp ((.b 1 :: cellKeys 1 0 11)) [])) (lN rfl) en_119 rfl ⟨rfl, rfl, rfl⟩ (EvL.cons rfl (EvL.cons rfl EvL.nil)) (fun mm aa ww gg hr hrel => (c119 a0 ⟨a0Tp, a0.Thrust.length, a0Tc⟩ ⟨a0Wp, a0.Water.length, a0Wc⟩ ⟨a0Ip, a0.Ice.length, a0Ic⟩ (mm 1) ((firstI a1)) a3 a2 ww (SlIs.mono ha0_Thrust hrel.below) (SlIs.mono ha0_Water hrel.below) (SlIs.mono ha0_Ice hrel.below) (boxAt (L := 1) (vs := [(.int .i64 a0.Class), (.int .i64 a0.Power), (.int .i64 a0.Draught), (.int .i64 a0.Tonnes), (.slice a0Tp a0.Thrust.length a0Tc), (.slice a0Wp a0.Water.length a0Wc), (.slice a0Ip a0.Ice.length a0Ic), (.int .i64 a0.Slow), (.int .i64 a0.Brash), (.int .i64 a0.Ridge), (.int .i64 a0.Press)]) hrel (fun k hk => hr k (List.mem_append_left _ hk)) rfl ⟨rfl, rfl, rfl, rfl, rfl, rfl, rfl, rfl, rfl, rfl, rfl, trivial⟩) (BoxAt.mono hG hrel.below) hp3 hp4 hp5))),
      okp rfl rfl (op_not (lN rfl) rfl),
      okp rfl rfl (oqA (lN rfl) rfl),
      trivial⟩ ?_
     refine fqK (s' := (kt 12 (.p 5 0) :: kt 13 (.p 6 0) :: kt 15 (.B (!(bears a0 ((firstI a1)) a3 a2))) :: (.u 0 4, some (.x (.p 1 0))) :: (.u 0 6, some (.x (.p 3 0))) :: (.u 0 7, some (.x (.p 4 0))) :: (.u 0 12, some (.x (.p 5 0))) :: (.u 0 13, some (.x (.p 6 0))) :: (.u 0 26, some (.x (.f (.func 145) [] [.p 7 0]))) :: (.u 1 0, some (.x (.v (.func (.yield l1) #[] #[])))) :: (.u 1 1, some (.x (.p 7 0))) :: (.u 1 3, some (.x (.v (.func (.yield l1) #[] #[])))) :: (.u 1 4, some (.x (.g [.i a1.Conc.Lo, .i a1.Conc.Hi, .i a1.Thick.Lo, .i a1.Thick.Hi, .i a1.Ridge.Lo, .i a1.Ridge.Hi, .i a1.Press.Lo, .i a1.Press.Hi]))) :: (.u 1 5, some (.x (.g [.i ((firstI a1).Conc), .i ((firstI a1).Thick), .i ((firstI a1).Ridge), .i ((firstI a1).Press)]))) :: kb 1 25 11 :: kb 3 3 1 :: kb 4 4 1 :: kb 5 4 1 :: kb 6 4 1 :: kb 7 34 8 :: sK 1 a0 (.v (.slice a0Tp a0.Thrust.length a0Tc)) (.v (.slice a0Wp a0.Water.length a0Wc)) (.v (.slice a0Ip a0.Ice.length a0Ic)) [kc 3 0 (.i a2), kc 4 0 (.B a3), kc 5 0 (.B false), kc 6 0 (.B true), kc 7 0 (.i a1.Conc.Lo), kc 7 1 (.i a1.Conc.Hi), kc 7 2 (.i a1.Thick.Lo), kc 7 3 (.i a1.Thick.Hi), kc 7 4 (.i a1.Ridge.Lo), kc 7 5 (.i a1.Ridge.Hi), kc 7 6 (.i a1.Press.Lo), kc 7 7 (.i a1.Press.Hi)])) ?_ (kp rfl) rfl
     refine fqT ?_
     refine aqT (rows := [_, _, _, _, _, _, _, _, _, _]) rfl (by kernel_rfl) ⟨
      okp rfl rfl (oq1 (lN rfl) sh_4 rfl rfl),
      okp rfl rfl (oqM (lN rfl) rfl),
      oqy rfl rfl rfl rfl rfl rfl (oqM (lN rfl) rfl),
      okp rfl rfl (op_pickF (lN rfl) rfl rfl),
      okp rfl rfl (oq1 (lN rfl) sh_4 rfl rfl),
      okp rfl rfl (oqM (lN rfl) rfl),
      oqy rfl rfl rfl rfl rfl rfl (oqM (lN rfl) rfl),
      okp rfl rfl (op_pickT (lN rfl) rfl rfl),
      okp rfl rfl (op_store1 sz_4 rfl rfl rfl rfl (lN rfl)),
      okp rfl rfl (op_store1 sz_4 rfl rfl rfl rfl (lN rfl)),
      trivial⟩ ?_
     refine fqK (s' := ((.u 0 4, some (.x (.p 1 0))) :: (.u 0 6, some (.x (.p 3 0))) :: (.u 0 7, some (.x (.p 4 0))) :: (.u 0 12, some (.x (.p 5 0))) :: (.u 0 13, some (.x (.p 6 0))) :: (.u 0 26, some (.x (.f (.func 145) [] [.p 7 0]))) :: (.u 1 0, some (.x (.v (.func (.yield l1) #[] #[])))) :: (.u 1 1, some (.x (.p 7 0))) :: (.u 1 3, some (.x (.v (.func (.yield l1) #[] #[])))) :: (.u 1 4, some (.x (.g [.i a1.Conc.Lo, .i a1.Conc.Hi, .i a1.Thick.Lo, .i a1.Thick.Hi, .i a1.Ridge.Lo, .i a1.Ridge.Hi, .i a1.Press.Lo, .i a1.Press.Hi]))) :: (.u 1 5, some (.x (.g [.i ((firstI a1).Conc), .i ((firstI a1).Thick), .i ((firstI a1).Ridge), .i ((firstI a1).Press)]))) :: kb 1 25 11 :: kb 3 3 1 :: kb 4 4 1 :: kb 5 4 1 :: kb 6 4 1 :: kb 7 34 8 :: sK 1 a0 (.v (.slice a0Tp a0.Thrust.length a0Tc)) (.v (.slice a0Wp a0.Water.length a0Wc)) (.v (.slice a0Ip a0.Ice.length a0Ic)) [kc 3 0 (.i a2), kc 4 0 (.B a3), kc 5 0 (.B (!(bears a0 ((firstI a1)) a3 a2))), kc 6 0 (.B (!(bears a0 ((firstI a1)) a3 a2))), kc 7 0 (.i a1.Conc.Lo), kc 7 1 (.i a1.Conc.Hi), kc 7 2 (.i a1.Thick.Lo), kc 7 3 (.i a1.Thick.Hi), kc 7 4 (.i a1.Ridge.Lo), kc 7 5 (.i a1.Ridge.Hi), kc 7 6 (.i a1.Press.Lo), kc 7 7 (.i a1.Press.Hi)])) ?_ (kp rfl) rfl
     refine fin_block ?_
     have hm := Option.some.inj hm
     subst hm
     exact fin_roundEnd _ _ _ rfl hB1 hK1 hIv2 ⟨rfl, rfl, rfl, rfl, rfl, trivial⟩ ⟨rfl, rfl, rfl, rfl, rfl, rfl, rfl, rfl, rfl, rfl, rfl, rfl, rfl, rfl, rfl, rfl, rfl, rfl, rfl, rfl, rfl, rfl, rfl, rfl, rfl, rfl, rfl, rfl, rfl, rfl, rfl, rfl, rfl, rfl, rfl, trivial⟩ rfl rfl
    refine fqK (s' := (kt 0 (.v (.func (.yield l1) #[] #[])) :: kt 1 (.p 7 0) :: kt 13 (.B (!decide ((firstI a1) = (lastI a1)))) :: (.u 0 4, some (.x (.p 1 0))) :: (.u 0 6, some (.x (.p 3 0))) :: (.u 0 7, some (.x (.p 4 0))) :: (.u 0 12, some (.x (.p 5 0))) :: (.u 0 13, some (.x (.p 6 0))) :: (.u 0 26, some (.x (.f (.func 145) [] [.p 7 0]))) :: kb 1 25 11 :: kb 3 3 1 :: kb 4 4 1 :: kb 5 4 1 :: kb 6 4 1 :: kb 7 34 8 :: sK 1 a0 (.v (.slice a0Tp a0.Thrust.length a0Tc)) (.v (.slice a0Wp a0.Water.length a0Wc)) (.v (.slice a0Ip a0.Ice.length a0Ic)) [kc 3 0 (.i a2), kc 4 0 (.B a3), kc 5 0 (.B v2.2), kc 6 0 (.B v2.1), kc 7 0 (.i a1.Conc.Lo), kc 7 1 (.i a1.Conc.Hi), kc 7 2 (.i a1.Thick.Lo), kc 7 3 (.i a1.Thick.Hi), kc 7 4 (.i a1.Ridge.Lo), kc 7 5 (.i a1.Ridge.Hi), kc 7 6 (.i a1.Press.Lo), kc 7 7 (.i a1.Press.Hi)])) ?_ (kp rfl) rfl
    refine fqT ?_
    refine aw_cond rfl (fun hz6 => ?_) (fun hz6 => ?_)
    ·have hm := brk_t hz6 hm
     obtain ⟨v3, hv3, hm⟩ := bnd_some hm
     refine aqT (rows := [_, _, _, _]) rfl (by kernel_rfl) ⟨
      okp rfl rfl (oqM (lN rfl) rfl),
      okp rfl rfl (oqL (ys := [.i a1.Conc.Lo, .i a1.Conc.Hi, .i a1.Thick.Lo, .i a1.Thick.Hi, .i a1.Ridge.Lo, .i a1.Ridge.Hi, .i a1.Press.Lo, .i a1.Press.Hi]) (lN rfl) sh_34 rfl rfl ⟨rfl, rfl, rfl, rfl, rfl, rfl, rfl, rfl, trivial⟩),
      okp rfl rfl (oqC (x := .g [.i ((lastI a1).Conc), .i ((lastI a1).Thick), .i ((lastI a1).Ridge), .i ((lastI a1).Press)]) (fs := []) (caps := []) (extra := []) (lN rfl) en_100 rfl ⟨rfl, rfl, rfl⟩ (EvL.cons rfl EvL.nil) (fun mm aa ww gg hr hrel => (c100 a1 ww))),
      okp rfl rfl (op_yieldIn (N := 44) (tmpSt [(0, .v (.func (.yield l1) #[] #[])), (1, .p 7 0), (13, .B (!decide ((firstI a1) = (lastI a1)))), (14, .v (.func (.yield l1) #[] #[])), (15, .g [.i a1.Conc.Lo, .i a1.Conc.Hi, .i a1.Thick.Lo, .i a1.Thick.Hi, .i a1.Ridge.Lo, .i a1.Ridge.Hi, .i a1.Press.Lo, .i a1.Press.Hi]), (16, .g [.i ((lastI a1).Conc), .i ((lastI a1).Thick), .i ((lastI a1).Ridge), .i ((lastI a1).Press)])] ++ (((((.u 0 4, some (.x (.p 1 0))) :: (.u 0 6, some (.x (.p 3 0))) :: (.u 0 7, some (.x (.p 4 0))) :: (.u 0 12, some (.x (.p 5 0))) :: (.u 0 13, some (.x (.p 6 0))) :: (.u 0 26, some (.x (.f (.func 145) [] [.p 7 0]))) :: kb 1 25 11 :: kb 3 3 1 :: kb 4 4 1 :: kb 5 4 1 :: kb 6 4 1 :: kb 7 34 8 :: sK 1 a0 (.v (.slice a0Tp a0.Thrust.length a0Tc)) (.v (.slice a0Wp a0.Water.length a0Wc)) (.v (.slice a0Ip a0.Ice.length a0Ic)) [kc 3 0 (.i a2)]) : St) ++ (([kc 4 0 (.B a3), kc 5 0 (.B v3.2), kc 6 0 (.B v3.1), kc 7 0 (.i a1.Conc.Lo), kc 7 1 (.i a1.Conc.Hi), kc 7 2 (.i a1.Thick.Lo), kc 7 3 (.i a1.Thick.Hi), kc 7 4 (.i a1.Ridge.Lo), kc 7 5 (.i a1.Ridge.Hi), kc 7 6 (.i a1.Press.Lo), kc 7 7 (.i a1.Press.Hi)] : St))) ++ dropSt [.b 9, .c 9 0, .c 9 1, .c 9 2, .c 9 3, .t 28, .t 29, .t 30, .t 31, .t 32, .t 33, .t 34, .t 35, .t 37, .t 38, .t 39, .t 41])) 1 [(0, .v (.func (.yield l1) #[] #[])), (1, .p 7 0), (13, .B (!decide ((firstI a1) = (lastI a1)))), (14, .v (.func (.yield l1) #[] #[])), (15, .g [.i a1.Conc.Lo, .i a1.Conc.Hi, .i a1.Thick.Lo, .i a1.Thick.Hi, .i a1.Ridge.Lo, .i a1.Ridge.Hi, .i a1.Press.Lo, .i a1.Press.Hi]), (16, .g [.i ((lastI a1).Conc), .i ((lastI a1).Thick), .i ((lastI a1).Ridge), .i ((lastI a1).Press)])] [(4, .p 1 0), (6, .p 3 0), (7, .p 4 0), (12, .p 5 0), (13, .p 6 0), (26, .f (.func 145) [] [.p 7 0])] ((.u 0 4, some (.x (.p 1 0))) :: (.u 0 6, some (.x (.p 3 0))) :: (.u 0 7, some (.x (.p 4 0))) :: (.u 0 12, some (.x (.p 5 0))) :: (.u 0 13, some (.x (.p 6 0))) :: (.u 0 26, some (.x (.f (.func 145) [] [.p 7 0]))) :: kb 1 25 11 :: kb 3 3 1 :: kb 4 4 1 :: kb 5 4 1 :: kb 6 4 1 :: kb 7 34 8 :: sK 1 a0 (.v (.slice a0Tp a0.Thrust.length a0Tc)) (.v (.slice a0Wp a0.Water.length a0Wc)) (.v (.slice a0Ip a0.Ice.length a0Ic)) [kc 3 0 (.i a2), kc 4 0 (.B a3), kc 5 0 (.B v2.2), kc 6 0 (.B v2.1), kc 7 0 (.i a1.Conc.Lo), kc 7 1 (.i a1.Conc.Hi), kc 7 2 (.i a1.Thick.Lo), kc 7 3 (.i a1.Thick.Hi), kc 7 4 (.i a1.Ridge.Lo), kc 7 5 (.i a1.Ridge.Hi), kc 7 6 (.i a1.Press.Lo), kc 7 7 (.i a1.Press.Hi)]) (lN rfl) rfl (EvL.cons rfl EvL.nil) rfl (by decide) hz1 ⟨rfl, rfl, rfl, rfl, rfl, rfl, trivial⟩ ⟨rfl, rfl, rfl, rfl, rfl, rfl, trivial⟩ ⟨rfl, rfl, rfl, rfl, rfl, rfl, rfl, rfl, rfl, rfl, rfl, rfl, rfl, rfl, rfl, rfl, rfl, rfl, rfl, rfl, rfl, rfl, rfl, rfl, rfl, rfl, rfl, rfl, rfl, rfl, rfl, rfl, rfl, rfl, rfl, trivial⟩ rfl rfl (by decide) rfl (fun aIv3 hIv3 => ?_)),
      trivial⟩ ?_
     ·have hm := hv3
      refine AW.keep (s' := (kt 4 (.p 1 0) :: kt 6 (.p 3 0) :: kt 7 (.p 4 0) :: kt 12 (.p 5 0) :: kt 13 (.p 6 0) :: kt 26 (.f (.func 145) [] [.p 7 0]) :: kt 27 (.g [.i ((lastI a1).Conc), .i ((lastI a1).Thick), .i ((lastI a1).Ridge), .i ((lastI a1).Press)]) :: (.u 0 4, some (.x (.p 1 0))) :: (.u 0 6, some (.x (.p 3 0))) :: (.u 0 7, some (.x (.p 4 0))) :: (.u 0 12, some (.x (.p 5 0))) :: (.u 0 13, some (.x (.p 6 0))) :: (.u 0 26, some (.x (.f (.func 145) [] [.p 7 0]))) :: (.u 1 0, some (.x (.v (.func (.yield l1) #[] #[])))) :: (.u 1 1, some (.x (.p 7 0))) :: (.u 1 13, some (.x (.B (!decide ((firstI a1) = (lastI a1)))))) :: (.u 1 14, some (.x (.v (.func (.yield l1) #[] #[])))) :: (.u 1 15, some (.x (.g [.i a1.Conc.Lo, .i a1.Conc.Hi, .i a1.Thick.Lo, .i a1.Thick.Hi, .i a1.Ridge.Lo, .i a1.Ridge.Hi, .i a1.Press.Lo, .i a1.Press.Hi]))) :: (.u 1 16, some (.x (.g [.i ((lastI a1).Conc), .i ((lastI a1).Thick), .i ((lastI a1).Ridge), .i ((lastI a1).Press)]))) :: kb 1 25 11 :: kb 3 3 1 :: kb 4 4 1 :: kb 5 4 1 :: kb 6 4 1 :: kb 7 34 8 :: sK 1 a0 (.v (.slice a0Tp a0.Thrust.length a0Tc)) (.v (.slice a0Wp a0.Water.length a0Wc)) (.v (.slice a0Ip a0.Ice.length a0Ic)) [kc 3 0 (.i a2), kc 4 0 (.B a3), kc 5 0 (.B v2.2), kc 6 0 (.B v2.1), kc 7 0 (.i a1.Conc.Lo), kc 7 1 (.i a1.Conc.Hi), kc 7 2 (.i a1.Thick.Lo), kc 7 3 (.i a1.Thick.Hi), kc 7 4 (.i a1.Ridge.Lo), kc 7 5 (.i a1.Ridge.Hi), kc 7 6 (.i a1.Press.Lo), kc 7 7 (.i a1.Press.Hi)])) ?_ (kp rfl) rfl
      refine aqT (rows := [_, _]) rfl (by kernel_rfl) ⟨
       okp rfl rfl (op_alloc (L := 9) (lN rfl) zl_28),
       okp rfl rfl (op_storeN sz_28 rfl rfl rfl rfl rfl (by decide)),
       trivial⟩ ?_
      refine fqK (s' := (kt 4 (.p 1 0) :: kt 6 (.p 3 0) :: kt 7 (.p 4 0) :: kt 12 (.p 5 0) :: kt 13 (.p 6 0) :: kt 14 (.p 9 0) :: (.u 0 4, some (.x (.p 1 0))) :: (.u 0 6, some (.x (.p 3 0))) :: (.u 0 7, some (.x (.p 4 0))) :: (.u 0 12, some (.x (.p 5 0))) :: (.u 0 13, some (.x (.p 6 0))) :: (.u 0 26, some (.x (.f (.func 145) [] [.p 7 0]))) :: (.u 1 0, some (.x (.v (.func (.yield l1) #[] #[])))) :: (.u 1 1, some (.x (.p 7 0))) :: (.u 1 13, some (.x (.B (!decide ((firstI a1) = (lastI a1)))))) :: (.u 1 14, some (.x (.v (.func (.yield l1) #[] #[])))) :: (.u 1 15, some (.x (.g [.i a1.Conc.Lo, .i a1.Conc.Hi, .i a1.Thick.Lo, .i a1.Thick.Hi, .i a1.Ridge.Lo, .i a1.Ridge.Hi, .i a1.Press.Lo, .i a1.Press.Hi]))) :: (.u 1 16, some (.x (.g [.i ((lastI a1).Conc), .i ((lastI a1).Thick), .i ((lastI a1).Ridge), .i ((lastI a1).Press)]))) :: kb 1 25 11 :: kb 3 3 1 :: kb 4 4 1 :: kb 5 4 1 :: kb 6 4 1 :: kb 7 34 8 :: kb 9 28 4 :: sK 1 a0 (.v (.slice a0Tp a0.Thrust.length a0Tc)) (.v (.slice a0Wp a0.Water.length a0Wc)) (.v (.slice a0Ip a0.Ice.length a0Ic)) [kc 3 0 (.i a2), kc 4 0 (.B a3), kc 5 0 (.B v2.2), kc 6 0 (.B v2.1), kc 7 0 (.i a1.Conc.Lo), kc 7 1 (.i a1.Conc.Hi), kc 7 2 (.i a1.Thick.Lo), kc 7 3 (.i a1.Thick.Hi), kc 7 4 (.i a1.Ridge.Lo), kc 7 5 (.i a1.Ridge.Hi), kc 7 6 (.i a1.Press.Lo), kc 7 7 (.i a1.Press.Hi), kc 9 0 (.i ((lastI a1).Conc)), kc 9 1 (.i ((lastI a1).Thick)), kc 9 2 (.i ((lastI a1).Ridge)), kc 9 3 (.i ((lastI a1).Press))])) ?_ (kp rfl) rfl
      refine fin_begin hB1 hK1 ?_
      refine aw_block ?_
      refine aqS ?_
      obtain ⟨hp7, hm⟩ := chk_some hm
      obtain ⟨hp8, hm⟩ := chk_some hm
      obtain ⟨hp9, hm⟩ := chk_some hm
      refine aqT (rows := [_, _, _, _, _, _, _]) rfl (by kernel_rfl) ⟨
       okp rfl rfl (oqL (ys := [.i ((lastI a1).Conc), .i ((lastI a1).Thick), .i ((lastI a1).Ridge), .i ((lastI a1).Press)]) (lN rfl) sh_28 rfl rfl ⟨rfl, rfl, rfl, rfl, trivial⟩),
       okp rfl rfl (oq1 (lN rfl) sh_4 rfl rfl),
       okp rfl rfl (op_build (x := .g [.p 1 0, .i ((lastI a1).Conc), .i ((lastI a1).Thick), .i ((lastI a1).Ridge), .i ((lastI a1).Press), .B a3]) (lN rfl) (EvL.cons rfl (EvL.cons rfl (EvL.cons rfl EvL.nil))) (fun m w => by kernel_rfl)),
       okp rfl rfl (oq1 (lN rfl) sh_3 rfl rfl),
       okp rfl rfl (oqC (x := .B (bears a0 ((lastI a1)) a3 a2)) (fs := []) (caps := []) (extra := (kapp ((.b 1 :: cellKeys 1 0 11)) [])) (lN rfl) en_119 rfl ⟨rfl, rfl, rfl⟩ (EvL.cons rfl (EvL.cons rfl EvL.nil)) (fun mm aa ww gg hr hrel => (c119 a0 ⟨a0Tp, a0.Thrust.length, a0Tc⟩ ⟨a0Wp, a0.Water.length, a0Wc⟩ ⟨a0Ip, a0.Ice.length, a0Ic⟩ (mm 1) ((lastI a1)) a3 a2 ww (SlIs.mono ha0_Thrust hrel.below) (SlIs.mono ha0_Water hrel.below) (SlIs.mono ha0_Ice hrel.below) (boxAt (L := 1) (vs := [(.int .i64 a0.Class), (.int .i64 a0.Power), (.int .i64 a0.Draught), (.int .i64 a0.Tonnes), (.slice a0Tp a0.Thrust.length a0Tc), (.slice a0Wp a0.Water.length a0Wc), (.slice a0Ip a0.Ice.length a0Ic), (.int .i64 a0.Slow), (.int .i64 a0.Brash), (.int .i64 a0.Ridge), (.int .i64 a0.Press)]) hrel (fun k hk => hr k (List.mem_append_left _ hk)) rfl ⟨rfl, rfl, rfl, rfl, rfl, rfl, rfl, rfl, rfl, rfl, rfl, trivial⟩) (BoxAt.mono hG hrel.below) hp7 hp8 hp9))),
       okp rfl rfl (op_not (lN rfl) rfl),
       okp rfl rfl (oqA (lN rfl) rfl),
       trivial⟩ ?_
      refine fqK (s' := (kt 12 (.p 5 0) :: kt 13 (.p 6 0) :: kt 15 (.B (!(bears a0 ((lastI a1)) a3 a2))) :: (.u 0 4, some (.x (.p 1 0))) :: (.u 0 6, some (.x (.p 3 0))) :: (.u 0 7, some (.x (.p 4 0))) :: (.u 0 12, some (.x (.p 5 0))) :: (.u 0 13, some (.x (.p 6 0))) :: (.u 0 26, some (.x (.f (.func 145) [] [.p 7 0]))) :: (.u 1 0, some (.x (.v (.func (.yield l1) #[] #[])))) :: (.u 1 1, some (.x (.p 7 0))) :: (.u 1 13, some (.x (.B (!decide ((firstI a1) = (lastI a1)))))) :: (.u 1 14, some (.x (.v (.func (.yield l1) #[] #[])))) :: (.u 1 15, some (.x (.g [.i a1.Conc.Lo, .i a1.Conc.Hi, .i a1.Thick.Lo, .i a1.Thick.Hi, .i a1.Ridge.Lo, .i a1.Ridge.Hi, .i a1.Press.Lo, .i a1.Press.Hi]))) :: (.u 1 16, some (.x (.g [.i ((lastI a1).Conc), .i ((lastI a1).Thick), .i ((lastI a1).Ridge), .i ((lastI a1).Press)]))) :: kb 1 25 11 :: kb 3 3 1 :: kb 4 4 1 :: kb 5 4 1 :: kb 6 4 1 :: kb 7 34 8 :: sK 1 a0 (.v (.slice a0Tp a0.Thrust.length a0Tc)) (.v (.slice a0Wp a0.Water.length a0Wc)) (.v (.slice a0Ip a0.Ice.length a0Ic)) [kc 3 0 (.i a2), kc 4 0 (.B a3), kc 5 0 (.B v2.2), kc 6 0 (.B v2.1), kc 7 0 (.i a1.Conc.Lo), kc 7 1 (.i a1.Conc.Hi), kc 7 2 (.i a1.Thick.Lo), kc 7 3 (.i a1.Thick.Hi), kc 7 4 (.i a1.Ridge.Lo), kc 7 5 (.i a1.Ridge.Hi), kc 7 6 (.i a1.Press.Lo), kc 7 7 (.i a1.Press.Hi)])) ?_ (kp rfl) rfl
      refine fqT ?_
      refine aqT (rows := [_, _, _, _, _, _, _, _, _, _]) rfl (by kernel_rfl) ⟨
       okp rfl rfl (oq1 (lN rfl) sh_4 rfl rfl),
       okp rfl rfl (oqM (lN rfl) rfl),
       ok_if (lN rfl) rfl rfl rfl rfl rfl rfl (fun hg10 => oqM (lN rfl) (force_x rfl)),
       okp rfl rfl (op_or (lN rfl) rfl rfl),
       okp rfl rfl (oq1 (lN rfl) sh_4 rfl rfl),
       okp rfl rfl (oqM (lN rfl) rfl),
       ok_if (lN rfl) rfl rfl rfl rfl rfl rfl (fun hg11 => oqM (lN rfl) (force_x rfl)),
       okp rfl rfl (op_and (lN rfl) rfl rfl),
       okp rfl rfl (op_store1 sz_4 rfl rfl rfl rfl (lN rfl)),
       okp rfl rfl (op_store1 sz_4 rfl rfl rfl rfl (lN rfl)),
       trivial⟩ ?_
      refine fqK (s' := ((.u 0 4, some (.x (.p 1 0))) :: (.u 0 6, some (.x (.p 3 0))) :: (.u 0 7, some (.x (.p 4 0))) :: (.u 0 12, some (.x (.p 5 0))) :: (.u 0 13, some (.x (.p 6 0))) :: (.u 0 26, some (.x (.f (.func 145) [] [.p 7 0]))) :: (.u 1 0, some (.x (.v (.func (.yield l1) #[] #[])))) :: (.u 1 1, some (.x (.p 7 0))) :: (.u 1 13, some (.x (.B (!decide ((firstI a1) = (lastI a1)))))) :: (.u 1 14, some (.x (.v (.func (.yield l1) #[] #[])))) :: (.u 1 15, some (.x (.g [.i a1.Conc.Lo, .i a1.Conc.Hi, .i a1.Thick.Lo, .i a1.Thick.Hi, .i a1.Ridge.Lo, .i a1.Ridge.Hi, .i a1.Press.Lo, .i a1.Press.Hi]))) :: (.u 1 16, some (.x (.g [.i ((lastI a1).Conc), .i ((lastI a1).Thick), .i ((lastI a1).Ridge), .i ((lastI a1).Press)]))) :: kb 1 25 11 :: kb 3 3 1 :: kb 4 4 1 :: kb 5 4 1 :: kb 6 4 1 :: kb 7 34 8 :: sK 1 a0 (.v (.slice a0Tp a0.Thrust.length a0Tc)) (.v (.slice a0Wp a0.Water.length a0Wc)) (.v (.slice a0Ip a0.Ice.length a0Ic)) [kc 3 0 (.i a2), kc 4 0 (.B a3), kc 5 0 (.B (v2.2 || (!(bears a0 ((lastI a1)) a3 a2)))), kc 6 0 (.B (v2.1 && (!(bears a0 ((lastI a1)) a3 a2)))), kc 7 0 (.i a1.Conc.Lo), kc 7 1 (.i a1.Conc.Hi), kc 7 2 (.i a1.Thick.Lo), kc 7 3 (.i a1.Thick.Hi), kc 7 4 (.i a1.Ridge.Lo), kc 7 5 (.i a1.Ridge.Hi), kc 7 6 (.i a1.Press.Lo), kc 7 7 (.i a1.Press.Hi)])) ?_ (kp rfl) rfl
      refine fin_block ?_
      have hm := Option.some.inj hm
      subst hm
      exact fin_roundEnd _ _ _ rfl hB1 hK1 hIv3 ⟨rfl, rfl, rfl, rfl, rfl, rfl, trivial⟩ ⟨rfl, rfl, rfl, rfl, rfl, rfl, rfl, rfl, rfl, rfl, rfl, rfl, rfl, rfl, rfl, rfl, rfl, rfl, rfl, rfl, rfl, rfl, rfl, rfl, rfl, rfl, rfl, rfl, rfl, rfl, rfl, rfl, rfl, rfl, rfl, trivial⟩ rfl rfl
     refine fqK (s' := ((.u 0 4, some (.x (.p 1 0))) :: (.u 0 6, some (.x (.p 3 0))) :: (.u 0 7, some (.x (.p 4 0))) :: (.u 0 12, some (.x (.p 5 0))) :: (.u 0 13, some (.x (.p 6 0))) :: (.u 0 26, some (.x (.f (.func 145) [] [.p 7 0]))) :: kb 1 25 11 :: kb 3 3 1 :: kb 4 4 1 :: kb 5 4 1 :: kb 6 4 1 :: kb 7 34 8 :: sK 1 a0 (.v (.slice a0Tp a0.Thrust.length a0Tc)) (.v (.slice a0Wp a0.Water.length a0Wc)) (.v (.slice a0Ip a0.Ice.length a0Ic)) [kc 3 0 (.i a2), kc 4 0 (.B a3), kc 5 0 (.B v3.2), kc 6 0 (.B v3.1), kc 7 0 (.i a1.Conc.Lo), kc 7 1 (.i a1.Conc.Hi), kc 7 2 (.i a1.Thick.Lo), kc 7 3 (.i a1.Thick.Hi), kc 7 4 (.i a1.Ridge.Lo), kc 7 5 (.i a1.Ridge.Hi), kc 7 6 (.i a1.Press.Lo), kc 7 7 (.i a1.Press.Hi)])) ?_ (kp rfl) rfl
     refine fin_rangeEnd [(4, .p 1 0), (6, .p 3 0), (7, .p 4 0), (12, .p 5 0), (13, .p 6 0), (26, .f (.func 145) [] [.p 7 0])] (kb 1 25 11 :: kb 3 3 1 :: kb 4 4 1 :: kb 5 4 1 :: kb 6 4 1 :: kb 7 34 8 :: sK 1 a0 (.v (.slice a0Tp a0.Thrust.length a0Tc)) (.v (.slice a0Wp a0.Water.length a0Wc)) (.v (.slice a0Ip a0.Ice.length a0Ic)) [kc 3 0 (.i a2), kc 4 0 (.B a3), kc 5 0 (.B v3.2), kc 6 0 (.B v3.1), kc 7 0 (.i a1.Conc.Lo), kc 7 1 (.i a1.Conc.Hi), kc 7 2 (.i a1.Thick.Lo), kc 7 3 (.i a1.Thick.Hi), kc 7 4 (.i a1.Ridge.Lo), kc 7 5 (.i a1.Ridge.Hi), kc 7 6 (.i a1.Press.Lo), kc 7 7 (.i a1.Press.Hi)]) (.inr rfl) hB1 hK1 hM1 hs1 hz1 rfl ⟨rfl, rfl, rfl, rfl, rfl, rfl, trivial⟩ ⟨rfl, rfl, rfl, rfl, rfl, rfl, rfl, rfl, rfl, rfl, rfl, rfl, rfl, rfl, rfl, rfl, rfl, rfl, rfl, rfl, rfl, rfl, rfl, rfl, rfl, rfl, rfl, rfl, rfl, trivial⟩ rfl rfl ?_
     refine fqK (s' := (kt 4 (.p 1 0) :: kt 6 (.p 3 0) :: kt 7 (.p 4 0) :: kt 12 (.p 5 0) :: kt 13 (.p 6 0) :: kt 26 (.f (.func 145) [] [.p 7 0]) :: kb 1 25 11 :: kb 3 3 1 :: kb 4 4 1 :: kb 5 4 1 :: kb 6 4 1 :: kb 7 34 8 :: sK 1 a0 (.v (.slice a0Tp a0.Thrust.length a0Tc)) (.v (.slice a0Wp a0.Water.length a0Wc)) (.v (.slice a0Ip a0.Ice.length a0Ic)) [kc 3 0 (.i a2), kc 4 0 (.B a3), kc 5 0 (.B v3.2), kc 6 0 (.B v3.1), kc 7 0 (.i a1.Conc.Lo), kc 7 1 (.i a1.Conc.Hi), kc 7 2 (.i a1.Thick.Lo), kc 7 3 (.i a1.Thick.Hi), kc 7 4 (.i a1.Ridge.Lo), kc 7 5 (.i a1.Ridge.Hi), kc 7 6 (.i a1.Press.Lo), kc 7 7 (.i a1.Press.Hi)])) ?_ (kp rfl) rfl
     refine fin_block ?_
     exact fin_cut (v3.1, v3.2) hm ⟨rfl, rfl, rfl, rfl, rfl, rfl, trivial⟩ rfl
    ·have hm := brk_f hz6 hm
     refine aw_skip ?_
     refine fin_rangeEnd [(4, .p 1 0), (6, .p 3 0), (7, .p 4 0), (12, .p 5 0), (13, .p 6 0), (26, .f (.func 145) [] [.p 7 0])] (kb 1 25 11 :: kb 3 3 1 :: kb 4 4 1 :: kb 5 4 1 :: kb 6 4 1 :: kb 7 34 8 :: sK 1 a0 (.v (.slice a0Tp a0.Thrust.length a0Tc)) (.v (.slice a0Wp a0.Water.length a0Wc)) (.v (.slice a0Ip a0.Ice.length a0Ic)) [kc 3 0 (.i a2), kc 4 0 (.B a3), kc 5 0 (.B v2.2), kc 6 0 (.B v2.1), kc 7 0 (.i a1.Conc.Lo), kc 7 1 (.i a1.Conc.Hi), kc 7 2 (.i a1.Thick.Lo), kc 7 3 (.i a1.Thick.Hi), kc 7 4 (.i a1.Ridge.Lo), kc 7 5 (.i a1.Ridge.Hi), kc 7 6 (.i a1.Press.Lo), kc 7 7 (.i a1.Press.Hi)]) (.inr rfl) hB1 hK1 hM1 hs1 hz1 rfl ⟨rfl, rfl, rfl, rfl, rfl, rfl, trivial⟩ ⟨rfl, rfl, rfl, rfl, rfl, rfl, rfl, rfl, rfl, rfl, rfl, rfl, rfl, rfl, rfl, rfl, rfl, rfl, rfl, rfl, rfl, rfl, rfl, rfl, rfl, rfl, rfl, rfl, rfl, trivial⟩ rfl rfl ?_
     refine fqK (s' := (kt 4 (.p 1 0) :: kt 6 (.p 3 0) :: kt 7 (.p 4 0) :: kt 12 (.p 5 0) :: kt 13 (.p 6 0) :: kt 26 (.f (.func 145) [] [.p 7 0]) :: kb 1 25 11 :: kb 3 3 1 :: kb 4 4 1 :: kb 5 4 1 :: kb 6 4 1 :: kb 7 34 8 :: sK 1 a0 (.v (.slice a0Tp a0.Thrust.length a0Tc)) (.v (.slice a0Wp a0.Water.length a0Wc)) (.v (.slice a0Ip a0.Ice.length a0Ic)) [kc 3 0 (.i a2), kc 4 0 (.B a3), kc 5 0 (.B v2.2), kc 6 0 (.B v2.1), kc 7 0 (.i a1.Conc.Lo), kc 7 1 (.i a1.Conc.Hi), kc 7 2 (.i a1.Thick.Lo), kc 7 3 (.i a1.Thick.Hi), kc 7 4 (.i a1.Ridge.Lo), kc 7 5 (.i a1.Ridge.Hi), kc 7 6 (.i a1.Press.Lo), kc 7 7 (.i a1.Press.Hi)])) ?_ (kp rfl) rfl
     refine fin_block ?_
     exact fin_cut (v2.1, v2.2) hm ⟨rfl, rfl, rfl, rfl, rfl, rfl, trivial⟩ rfl
   ·have _z := hm
    refine aqS ?_
    refine aw_any (rows := [_, _, _, _, _]) (M := [0, 0, 1, 7, 15]) Tryd_mixed (by kernel_rfl) rfl (by kernel_rfl) ⟨
     okp rfl rfl (oq1 (lN rfl) sh_4 rfl rfl),
     okp rfl rfl (oq1 (lN rfl) sh_4 rfl rfl),
     okp rfl rfl (oqA (lN rfl) rfl),
     okp rfl rfl (oqA (lN rfl) rfl),
     okp rfl rfl (oqA (lN rfl) rfl),
     trivial⟩ ?_
    refine fqK (s' := [kt 8 (.B x1.2), kt 9 (.B x1.1), kt 10 (.i 0)]) ?_ (kp rfl) rfl
    refine fqT ?_
    refine aw_ret ?_
    refine post_retM (x := .t [.B x1.2, .B x1.1, .i 0]) rfl (rqT rfl (rqT rfl (rqT rfl resOK_nil))) rfl (fun mm aa ww hr => ?_) (.inl rfl)
    have hm := Option.some.inj hm
    subst hm
    exact ⟨rfl, hr.below⟩

def m61 (_F : Nat) (a0 : Ship) (a1 : Ice) (a2 : Int) (a3 : Bool) : Option (Int × Int) :=
 brk ((asked a0 a1 a2) != 0) (some (0, asked a0 a1 a2)) (chk (check a0 = 0) (chk (goodIce a1) (chk (0 ≤ a2 ∧ a2 ≤ 255) (brk (!(makes a0 a1 a3 a2)) (some (0, 4)) (chk (0 ≤ a0.Power ∧ a0.Power ≤ 9223372036854775807) (chk (InR ((resistance a0 a1 a3 a2) * a2)) (chk (InR (((resistance a0 a1 a3 a2) * a2) + 49)) (chk (0 ≤ (((resistance a0 a1 a3 a2) * a2) + 49) ∧ (((resistance a0 a1 a3 a2) * a2) + 49) ≤ 9223372036854775807) (chk (InR ((a0.Power / 10) + ((((resistance a0 a1 a3 a2) * a2) + 49) / 50))) (some ((a0.Power / 10) + ((((resistance a0 a1 a3 a2) * a2) + 49) / 50), 0)))))))))))

theorem c61 (F : Nat) (a0 : Ship) (a0_Thrust_s : SlV) (a0_Water_s : SlV) (a0_Ice_s : SlV) (a1 : Ice) (a2 : Int) (a3 : Bool) (w : World) (ha0_Thrust : SlIs encPt 2 w a0_Thrust_s a0.Thrust) (ha0_Water : SlIs encPt 2 w a0_Water_s a0.Water) (ha0_Ice : SlIs encPt 2 w a0_Ice_s a0.Ice) (r : Int × Int) (hm : m61 F a0 a1 a2 a3 = some r) : Calls Tryd.prog 61 #[.agg #[.int .i64 a0.Class, .int .i64 a0.Power, .int .i64 a0.Draught, .int .i64 a0.Tonnes, .slice a0_Thrust_s.p a0_Thrust_s.n a0_Thrust_s.c, .slice a0_Water_s.p a0_Water_s.n a0_Water_s.c, .slice a0_Ice_s.p a0_Ice_s.n a0_Ice_s.c, .int .i64 a0.Slow, .int .i64 a0.Brash, .int .i64 a0.Ridge, .int .i64 a0.Press], .agg #[.int .i64 a1.Conc, .int .i64 a1.Thick, .int .i64 a1.Ridge, .int .i64 a1.Press], .int .i64 a2, .bool a3] w fun e w' => e = .returned (.tuple #[.int .i64 r.1, .int .i64 r.2]) ∧ Below w.heap.size w w' := by
 obtain ⟨a0Tp, a0Tn, a0Tc⟩ := a0_Thrust_s
 have ha0_Thrust_l : a0Tn = a0.Thrust.length := ha0_Thrust.1
 subst ha0_Thrust_l
 obtain ⟨a0_Thrust_b, a0To, ha0_Thrust_p, ha0_Thrust_L⟩ := SlAt.lies' ha0_Thrust
 obtain ⟨a0Wp, a0Wn, a0Wc⟩ := a0_Water_s
 have ha0_Water_l : a0Wn = a0.Water.length := ha0_Water.1
 subst ha0_Water_l
 obtain ⟨a0_Water_b, a0Wo, ha0_Water_p, ha0_Water_L⟩ := SlAt.lies' ha0_Water
 obtain ⟨a0Ip, a0In, a0Ic⟩ := a0_Ice_s
 have ha0_Ice_l : a0In = a0.Ice.length := ha0_Ice.1
 subst ha0_Ice_l
 obtain ⟨a0_Ice_b, a0Io, ha0_Ice_p, ha0_Ice_L⟩ := SlAt.lies' ha0_Ice
 unfold m61 at hm
 refine enter (args := [.g [.i a0.Class, .i a0.Power, .i a0.Draught, .i a0.Tonnes, .v (.slice a0Tp a0.Thrust.length a0Tc), .v (.slice a0Wp a0.Water.length a0Wc), .v (.slice a0Ip a0.Ice.length a0Ic), .i a0.Slow, .i a0.Brash, .i a0.Ridge, .i a0.Press], .g [.i a1.Conc, .i a1.Thick, .i a1.Ridge, .i a1.Press], .i a2, .B a3]) Tryd.func61 rfl (N := 37) rfl (Nat.le_of_ble_eq_true rfl) ?_
 refine aqS ?_
 refine aqT (rows := [_, _, _, _]) rfl (by kernel_rfl) ⟨
  okp rfl rfl (op_boxN (L := 1) (lN rfl) rfl rfl rfl),
  okp rfl rfl (op_boxN (L := 2) (lN rfl) rfl rfl rfl),
  okp rfl rfl (oqA (lN rfl) rfl),
  okp rfl rfl (oqA (lN rfl) rfl),
  trivial⟩ ?_
 refine fqK (s' := (kt 2 (.i a2) :: kt 3 (.B a3) :: kt 4 (.p 1 0) :: kt 5 (.p 2 0) :: kb 1 25 11 :: kb 2 28 4 :: sK 1 a0 (.v (.slice a0Tp a0.Thrust.length a0Tc)) (.v (.slice a0Wp a0.Water.length a0Wc)) (.v (.slice a0Ip a0.Ice.length a0Ic)) [kc 2 0 (.i a1.Conc), kc 2 1 (.i a1.Thick), kc 2 2 (.i a1.Ridge), kc 2 3 (.i a1.Press)])) ?_ (kp rfl) rfl
 refine fqT ?_
 refine aqS ?_
 refine aqS ?_
 refine aqT (rows := [_, _, _, _, _]) rfl (by kernel_rfl) ⟨
  okp rfl rfl (oqL (ys := [.i a0.Class, .i a0.Power, .i a0.Draught, .i a0.Tonnes, .v (.slice a0Tp a0.Thrust.length a0Tc), .v (.slice a0Wp a0.Water.length a0Wc), .v (.slice a0Ip a0.Ice.length a0Ic), .i a0.Slow, .i a0.Brash, .i a0.Ridge, .i a0.Press]) (lN rfl) sh_25 rfl rfl ⟨rfl, rfl, rfl, rfl, rfl, rfl, rfl, rfl, rfl, rfl, rfl, trivial⟩),
  okp rfl rfl (oqL (ys := [.i a1.Conc, .i a1.Thick, .i a1.Ridge, .i a1.Press]) (lN rfl) sh_28 rfl rfl ⟨rfl, rfl, rfl, rfl, trivial⟩),
  okp rfl rfl (oqM (lN rfl) rfl),
  okp rfl rfl (oqC (x := .i (asked a0 a1 a2)) (fs := []) (caps := []) (extra := []) (lN rfl) en_75 rfl ⟨rfl, rfl, rfl⟩ (EvL.cons rfl (EvL.cons rfl (EvL.cons rfl EvL.nil))) (fun mm aa ww gg hr hrel => (c75 a0 ⟨a0Tp, a0.Thrust.length, a0Tc⟩ ⟨a0Wp, a0.Water.length, a0Wc⟩ ⟨a0Ip, a0.Ice.length, a0Ic⟩ a1 a2 ww (SlIs.mono ha0_Thrust hrel.below) (SlIs.mono ha0_Water hrel.below) (SlIs.mono ha0_Ice hrel.below)))),
  okp rfl rfl (oqA (lN rfl) rfl),
  trivial⟩ ?_
 refine fqK (s' := (kt 2 (.i a2) :: kt 3 (.B a3) :: kt 4 (.p 1 0) :: kt 5 (.p 2 0) :: kt 10 (.i (asked a0 a1 a2)) :: kb 1 25 11 :: kb 2 28 4 :: sK 1 a0 (.v (.slice a0Tp a0.Thrust.length a0Tc)) (.v (.slice a0Wp a0.Water.length a0Wc)) (.v (.slice a0Ip a0.Ice.length a0Ic)) [kc 2 0 (.i a1.Conc), kc 2 1 (.i a1.Thick), kc 2 2 (.i a1.Ridge), kc 2 3 (.i a1.Press)])) ?_ (kp rfl) rfl
 refine fqT ?_
 refine aqS ?_
 refine aqT (rows := [_, _]) rfl (by kernel_rfl) ⟨
  okp rfl rfl (oqM (lN rfl) rfl),
  okp rfl rfl (oqB (lN rfl) rfl rfl rfl),
  trivial⟩ ?_
 refine fqK (s' := (kt 2 (.i a2) :: kt 3 (.B a3) :: kt 4 (.p 1 0) :: kt 5 (.p 2 0) :: kt 10 (.i (asked a0 a1 a2)) :: kt 17 (.B ((asked a0 a1 a2) != 0)) :: kb 1 25 11 :: kb 2 28 4 :: sK 1 a0 (.v (.slice a0Tp a0.Thrust.length a0Tc)) (.v (.slice a0Wp a0.Water.length a0Wc)) (.v (.slice a0Ip a0.Ice.length a0Ic)) [kc 2 0 (.i a1.Conc), kc 2 1 (.i a1.Thick), kc 2 2 (.i a1.Ridge), kc 2 3 (.i a1.Press)])) ?_ (kp rfl) rfl
 refine fqT ?_
 refine aw_cond rfl (fun hz1 => ?_) (fun hz1 => ?_)
 ·have hm := brk_t hz1 hm
  refine aqS ?_
  refine aqT (rows := [_, _, _]) rfl (by kernel_rfl) ⟨
   okp rfl rfl (oqM (lN rfl) rfl),
   okp rfl rfl (oqA (lN rfl) rfl),
   okp rfl rfl (oqA (lN rfl) rfl),
   trivial⟩ ?_
  refine fqK (s' := [kt 8 (.i 0), kt 9 (.i (asked a0 a1 a2))]) ?_ (kp rfl) rfl
  refine fqT ?_
  refine aw_ret ?_
  refine fin_then_ret ?_
  refine post_ret (x := .t [.i 0, .i (asked a0 a1 a2)]) rfl rfl (rqT rfl (rqT rfl resOK_nil)) rfl (fun mm aa ww hr => ?_)
  have hm := Option.some.inj hm
  subst hm
  exact ⟨rfl, hr.below⟩
 ·have hm := brk_f hz1 hm
  refine aw_skip ?_
  refine fqT ?_
  refine aqS ?_
  refine aqT (rows := [_, _, _, _, _]) rfl (by kernel_rfl) ⟨
   okp rfl rfl (oqL (ys := [.i a1.Conc, .i a1.Thick, .i a1.Ridge, .i a1.Press]) (lN rfl) sh_28 rfl rfl ⟨rfl, rfl, rfl, rfl, trivial⟩),
   okp rfl rfl (oqM (lN rfl) rfl),
   okp rfl rfl (op_build (x := .g [.p 1 0, .i a1.Conc, .i a1.Thick, .i a1.Ridge, .i a1.Press, .B a3]) (lN rfl) (EvL.cons rfl (EvL.cons rfl (EvL.cons rfl EvL.nil))) (fun m w => by kernel_rfl)),
   okp rfl rfl (op_alloc (L := 3) (lN rfl) zl_136),
   okp rfl rfl (op_storeN sz_136 rfl rfl rfl rfl rfl (by decide)),
   trivial⟩ ?_
  refine fqK (s' := (kt 2 (.i a2) :: kt 4 (.p 1 0) :: kt 11 (.p 3 0) :: kb 1 25 11 :: kb 3 136 6 :: sK 1 a0 (.v (.slice a0Tp a0.Thrust.length a0Tc)) (.v (.slice a0Wp a0.Water.length a0Wc)) (.v (.slice a0Ip a0.Ice.length a0Ic)) [kc 3 0 (.p 1 0), kc 3 1 (.i a1.Conc), kc 3 2 (.i a1.Thick), kc 3 3 (.i a1.Ridge), kc 3 4 (.i a1.Press), kc 3 5 (.B a3)])) ?_ (kp rfl) rfl
  refine fqT ?_
  refine aqS ?_
  refine aqS ?_
  obtain ⟨hp2, hm⟩ := chk_some hm
  obtain ⟨hp3, hm⟩ := chk_some hm
  obtain ⟨hp4, hm⟩ := chk_some hm
  refine aqT (rows := [_, _, _, _]) rfl (by kernel_rfl) ⟨
   okp rfl rfl (oqL (ys := [.p 1 0, .i a1.Conc, .i a1.Thick, .i a1.Ridge, .i a1.Press, .B a3]) (lN rfl) sh_136 rfl rfl ⟨rfl, rfl, rfl, rfl, rfl, rfl, trivial⟩),
   okp rfl rfl (oqM (lN rfl) rfl),
   okp rfl rfl (oqC (x := .B (makes a0 a1 a3 a2)) (fs := []) (caps := []) (extra := (kapp ((.b 1 :: cellKeys 1 0 11)) [])) (lN rfl) en_106 rfl ⟨rfl, rfl, rfl⟩ (EvL.cons rfl (EvL.cons rfl EvL.nil)) (fun mm aa ww gg hr hrel => (c106 a0 ⟨a0Tp, a0.Thrust.length, a0Tc⟩ ⟨a0Wp, a0.Water.length, a0Wc⟩ ⟨a0Ip, a0.Ice.length, a0Ic⟩ (mm 1) a1 a3 a2 ww (SlIs.mono ha0_Thrust hrel.below) (SlIs.mono ha0_Water hrel.below) (SlIs.mono ha0_Ice hrel.below) (boxAt (L := 1) (vs := [(.int .i64 a0.Class), (.int .i64 a0.Power), (.int .i64 a0.Draught), (.int .i64 a0.Tonnes), (.slice a0Tp a0.Thrust.length a0Tc), (.slice a0Wp a0.Water.length a0Wc), (.slice a0Ip a0.Ice.length a0Ic), (.int .i64 a0.Slow), (.int .i64 a0.Brash), (.int .i64 a0.Ridge), (.int .i64 a0.Press)]) hrel (fun k hk => hr k (List.mem_append_left _ hk)) rfl ⟨rfl, rfl, rfl, rfl, rfl, rfl, rfl, rfl, rfl, rfl, rfl, trivial⟩) hp2 hp3 hp4))),
   okp rfl rfl (op_not (lN rfl) rfl),
   trivial⟩ ?_
  refine fqK (s' := (kt 2 (.i a2) :: kt 4 (.p 1 0) :: kt 11 (.p 3 0) :: kt 25 (.B (!(makes a0 a1 a3 a2))) :: kb 1 25 11 :: kb 3 136 6 :: sK 1 a0 (.v (.slice a0Tp a0.Thrust.length a0Tc)) (.v (.slice a0Wp a0.Water.length a0Wc)) (.v (.slice a0Ip a0.Ice.length a0Ic)) [kc 3 0 (.p 1 0), kc 3 1 (.i a1.Conc), kc 3 2 (.i a1.Thick), kc 3 3 (.i a1.Ridge), kc 3 4 (.i a1.Press), kc 3 5 (.B a3)])) ?_ (kp rfl) rfl
  refine fqT ?_
  refine aw_cond rfl (fun hz5 => ?_) (fun hz5 => ?_)
  ·have hm := brk_t hz5 hm
   refine aqS ?_
   refine aqT (rows := [_, _]) rfl (by kernel_rfl) ⟨
    okp rfl rfl (oqA (lN rfl) rfl),
    okp rfl rfl (oqA (lN rfl) rfl),
    trivial⟩ ?_
   refine fqK (s' := [kt 8 (.i 0), kt 9 (.i 4)]) ?_ (kp rfl) rfl
   refine fqT ?_
   refine aw_ret ?_
   refine fin_then_ret ?_
   refine post_ret (x := .t [.i 0, .i 4]) rfl rfl (rqT rfl (rqT rfl resOK_nil)) rfl (fun mm aa ww hr => ?_)
   have hm := Option.some.inj hm
   subst hm
   exact ⟨rfl, hr.below⟩
  ·have hm := brk_f hz5 hm
   refine aw_skip ?_
   refine fqT ?_
   refine aqS ?_
   obtain ⟨hp6, hm⟩ := chk_some hm
   obtain ⟨hp7, hm⟩ := chk_some hm
   obtain ⟨hp8, hm⟩ := chk_some hm
   obtain ⟨hp9, hm⟩ := chk_some hm
   obtain ⟨hp10, hm⟩ := chk_some hm
   refine aw_any (rows := [_, _, _, _, _, _, _, _, _, _, _, _, _]) (M := [0, 1, 3, 0, 0, 24, 0, 120, 248, 504, 1023, 2047, 4095]) Tryd_mixed (by kernel_rfl) rfl (by kernel_rfl) ⟨
    okp rfl rfl (oqF (lN rfl) rfl fo_25_1),
    okp rfl rfl (oq1 (lN rfl) sh_3 rfl rfl),
    okp rfl rfl (op_quo (lN rfl) rfl rfl (by decide) (quo_nn hp6.1 (by decide) hp6.2)),
    okp rfl rfl (oqL (ys := [.p 1 0, .i a1.Conc, .i a1.Thick, .i a1.Ridge, .i a1.Press, .B a3]) (lN rfl) sh_136 rfl rfl ⟨rfl, rfl, rfl, rfl, rfl, rfl, trivial⟩),
    okp rfl rfl (oqM (lN rfl) rfl),
    okp rfl rfl (oqC (x := .i (resistance a0 a1 a3 a2)) (fs := []) (caps := []) (extra := (kapp ((.b 1 :: cellKeys 1 0 11)) [])) (lN rfl) en_77 rfl ⟨rfl, rfl, rfl⟩ (EvL.cons rfl (EvL.cons rfl EvL.nil)) (fun mm aa ww gg hr hrel => (c77 a0 ⟨a0Tp, a0.Thrust.length, a0Tc⟩ ⟨a0Wp, a0.Water.length, a0Wc⟩ ⟨a0Ip, a0.Ice.length, a0Ic⟩ (mm 1) a1 a3 a2 ww (SlIs.mono ha0_Thrust hrel.below) (SlIs.mono ha0_Water hrel.below) (SlIs.mono ha0_Ice hrel.below) (boxAt (L := 1) (vs := [(.int .i64 a0.Class), (.int .i64 a0.Power), (.int .i64 a0.Draught), (.int .i64 a0.Tonnes), (.slice a0Tp a0.Thrust.length a0Tc), (.slice a0Wp a0.Water.length a0Wc), (.slice a0Ip a0.Ice.length a0Ic), (.int .i64 a0.Slow), (.int .i64 a0.Brash), (.int .i64 a0.Ridge), (.int .i64 a0.Press)]) hrel (fun k hk => hr k (List.mem_append_left _ hk)) rfl ⟨rfl, rfl, rfl, rfl, rfl, rfl, rfl, rfl, rfl, rfl, rfl, trivial⟩) hp2 hp3 hp4))),
    okp rfl rfl (oqM (lN rfl) rfl),
    okp rfl rfl (oqB (lN rfl) rfl rfl (nw_mul hp7)),
    okp rfl rfl (oqB (lN rfl) rfl rfl (nw_add hp8)),
    okp rfl rfl (op_quo (lN rfl) rfl rfl (by decide) (quo_nn hp9.1 (by decide) hp9.2)),
    okp rfl rfl (oqB (lN rfl) rfl rfl (nw_add hp10)),
    okp rfl rfl (oqA (lN rfl) rfl),
    okp rfl rfl (oqA (lN rfl) rfl),
    trivial⟩ ?_
   refine fqK (s' := [kt 8 (.i ((a0.Power / 10) + ((((resistance a0 a1 a3 a2) * a2) + 49) / 50))), kt 9 (.i 0)]) ?_ (kp rfl) rfl
   refine fqT ?_
   refine aw_ret ?_
   refine post_ret (x := .t [.i ((a0.Power / 10) + ((((resistance a0 a1 a3 a2) * a2) + 49) / 50)), .i 0]) rfl rfl (rqT rfl (rqT rfl resOK_nil)) rfl (fun mm aa ww hr => ?_)
   have hm := Option.some.inj hm
   subst hm
   exact ⟨rfl, hr.below⟩

end Go.Proofs.T

namespace Go.Proofs.T
open Go Go.AX Go.RowKit Hull
theorem en_52 : Proofs.Enters Tryd.prog 52 := Proofs.enters_of Tryd.func52 (by kernel_rfl) rfl
theorem un_4 : Tryd.prog.underlying 4 = some .bool := by kernel_rfl
theorem en_56 : Proofs.Enters Tryd.prog 56 := Proofs.enters_of Tryd.func56 (by kernel_rfl) rfl
theorem en_24 : Proofs.Enters Tryd.prog 24 := Proofs.enters_of Tryd.func24 (by kernel_rfl) rfl
theorem en_41 : Proofs.Enters Tryd.prog 41 := Proofs.enters_of Tryd.func41 (by kernel_rfl) rfl

end Go.Proofs.T
