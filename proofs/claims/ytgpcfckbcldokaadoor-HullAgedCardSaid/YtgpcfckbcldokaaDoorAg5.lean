/-
  This file has contracts of functions of the program: where the mirror gives a value, the call returns it. Conditions: those that each theorem names.
-/
import Derived.Test.YtgpcfckbcldokaaDoorAg4
set_option linter.unusedVariables false
namespace Go.Proofs.T
open Go Go.AX Go.RowKit Hull
theorem en_149 : Proofs.Enters Tryd.prog 149 := Proofs.enters_of Tryd.func149 (by kernel_rfl) rfl
theorem en_150 : Proofs.Enters Tryd.prog 150 := Proofs.enters_of Tryd.func150 (by kernel_rfl) rfl
def m150 (_F : Nat) (a0 : Int) (a1 : Int) : Option (Int) :=
 chk (InR (a0 * a1)) (chk (InR ((a0 * a1) + 24)) (chk (InR (((a0 * a1) + 24) - 1)) (chk (0 ≤ (((a0 * a1) + 24) - 1) ∧ (((a0 * a1) + 24) - 1) ≤ 9223372036854775807) (some ((((a0 * a1) + 24) - 1) / 24)))))
theorem c150 (F : Nat) (a0 : Int) (a1 : Int) (w : World)  (r : Int) (hm : m150 F a0 a1 = some r) : Calls Tryd.prog 150 #[.int .i64 a0, .int .i64 a1] w fun e w' => e = .returned (.int .i64 r) ∧ Below w.heap.size w w' := by
 unfold m150 at hm
 refine enter (args := [.i a0, .i a1]) Tryd.func150 rfl (N := 11) rfl (Nat.le_of_ble_eq_true rfl) ?_
 refine aqS ?_
 refine aqT (rows := [_]) rfl (by kernel_rfl) ⟨
  okp rfl rfl (oqA (lN rfl) rfl),
  trivial⟩ ?_
 refine fqK (s' := [kt 0 (.i a0), kt 1 (.i a1)]) ?_ (kp rfl) rfl
 refine fqT ?_
 refine aqS ?_
 obtain ⟨hp1, hm⟩ := chk_some hm
 obtain ⟨hp2, hm⟩ := chk_some hm
 obtain ⟨hp3, hm⟩ := chk_some hm
 obtain ⟨hp4, hm⟩ := chk_some hm
 refine aqT (rows := [_, _, _, _, _, _, _]) rfl (by kernel_rfl) ⟨
  okp rfl rfl (oqM (lN rfl) rfl),
  okp rfl rfl (oqM (lN rfl) rfl),
  okp rfl rfl (oqB (lN rfl) rfl rfl (nw_mul hp1)),
  okp rfl rfl (oqB (lN rfl) rfl rfl (nw_add hp2)),
  okp rfl rfl (oqB (lN rfl) rfl rfl (nw_sub hp3)),
  okp rfl rfl (op_quo (lN rfl) rfl rfl (by decide) (quo_nn hp4.1 (by decide) hp4.2)),
  okp rfl rfl (oqA (lN rfl) rfl),
  trivial⟩ ?_
 refine fqK (s' := [kt 4 (.i ((((a0 * a1) + 24) - 1) / 24))]) ?_ (kp rfl) rfl
 refine fqT ?_
 refine aqr ?_
 refine pqr (x := .i ((((a0 * a1) + 24) - 1) / 24)) rfl rfl (rqT rfl rqN) rfl (fun mm aa ww hr => ?_)
 have hm := Option.some.inj hm
 subst hm
 exact ⟨rfl, hr.below⟩
def m126 (F : Nat) (a0 : Spans) (a1 : Rates) (a2 : Int) : Option (Spans) :=
 bnd (join (fun (x1 : Int × Int × Int × Int × Int × Int × Int × Int) => some (x1.1, x1.2.1, x1.2.2.1, x1.2.2.2.1, x1.2.2.2.2.1, x1.2.2.2.2.2.1, x1.2.2.2.2.2.2.1, x1.2.2.2.2.2.2.2)) (fun k1 => bnd (bnd (m150 F a1.Down.Conc a2) (fun v3 => chk (InR (a0.A.Lo - v3)) (bnd (m150 F a1.Up.Conc a2) (fun v4 => chk (InR (a0.A.Hi + v4)) (some (if 0 > (a0.A.Lo - v3) then 0 else a0.A.Lo - v3, if 100 < (a0.A.Hi + v4) then 100 else a0.A.Hi + v4)))))) (fun v2 => bnd (bnd (m150 F a1.Down.Thick a2) (fun v6 => chk (InR (a0.B.Lo - v6)) (bnd (m150 F a1.Up.Thick a2) (fun v7 => chk (InR (a0.B.Hi + v7)) (some (if 0 > (a0.B.Lo - v6) then 0 else a0.B.Lo - v6, if 400 < (a0.B.Hi + v7) then 400 else a0.B.Hi + v7)))))) (fun v5 => bnd (bnd (m150 F a1.Down.Ridge a2) (fun v9 => chk (InR (a0.C.Lo - v9)) (bnd (m150 F a1.Up.Ridge a2) (fun v10 => chk (InR (a0.C.Hi + v10)) (some (if 0 > (a0.C.Lo - v9) then 0 else a0.C.Lo - v9, if 100 < (a0.C.Hi + v10) then 100 else a0.C.Hi + v10)))))) (fun v8 => bnd (bnd (m150 F a1.Down.Press a2) (fun v12 => chk (InR (a0.D.Lo - v12)) (bnd (m150 F a1.Up.Press a2) (fun v13 => chk (InR (a0.D.Hi + v13)) (some (if 0 > (a0.D.Lo - v12) then 0 else a0.D.Lo - v12, if 3 < (a0.D.Hi + v13) then 3 else a0.D.Hi + v13)))))) (fun v11 => k1 (v2.1, v2.2, v5.1, v5.2, v8.1, v8.2, v11.1, v11.2))))))) (fun v1 => some ((⟨(⟨v1.1, v1.2.1⟩ : Span), (⟨v1.2.2.1, v1.2.2.2.1⟩ : Span), (⟨v1.2.2.2.2.1, v1.2.2.2.2.2.1⟩ : Span), (⟨v1.2.2.2.2.2.2.1, v1.2.2.2.2.2.2.2⟩ : Span)⟩ : Spans)))
set_option maxHeartbeats 4000000 in
set_option maxRecDepth 8000 in
theorem c126 (F : Nat) (a0 : Spans) (a1 : Rates) (a2 : Int) (w : World)  (r : Spans) (hm : m126 F a0 a1 a2 = some r) : Calls Tryd.prog 126 #[.agg #[.int .i64 a0.A.Lo, .int .i64 a0.A.Hi, .int .i64 a0.B.Lo, .int .i64 a0.B.Hi, .int .i64 a0.C.Lo, .int .i64 a0.C.Hi, .int .i64 a0.D.Lo, .int .i64 a0.D.Hi], .agg #[.int .i64 a1.Up.Conc, .int .i64 a1.Up.Thick, .int .i64 a1.Up.Ridge, .int .i64 a1.Up.Press, .int .i64 a1.Down.Conc, .int .i64 a1.Down.Thick, .int .i64 a1.Down.Ridge, .int .i64 a1.Down.Press], .int .i64 a2] w fun e w' => e = .returned (.agg #[.int .i64 r.A.Lo, .int .i64 r.A.Hi, .int .i64 r.B.Lo, .int .i64 r.B.Hi, .int .i64 r.C.Lo, .int .i64 r.C.Hi, .int .i64 r.D.Lo, .int .i64 r.D.Hi]) ∧ Below w.heap.size w w' := by
 unfold m126 at hm
 refine enter (args := [.g [.i a0.A.Lo, .i a0.A.Hi, .i a0.B.Lo, .i a0.B.Hi, .i a0.C.Lo, .i a0.C.Hi, .i a0.D.Lo, .i a0.D.Hi], .g [.i a1.Up.Conc, .i a1.Up.Thick, .i a1.Up.Ridge, .i a1.Up.Press, .i a1.Down.Conc, .i a1.Down.Thick, .i a1.Down.Ridge, .i a1.Down.Press], .i a2]) Tryd.func126 rfl (N := 17) rfl (Nat.le_of_ble_eq_true rfl) ?_
 refine aqS ?_
 refine aqT (rows := [_, _, _, _]) rfl (by kernel_rfl) ⟨
  okp rfl rfl (op_boxN (L := 1) (lN rfl) rfl rfl rfl),
  okp rfl rfl (op_boxN (L := 2) (lN rfl) rfl rfl rfl),
  okp rfl rfl (op_box1 (L := 3) (lN rfl) rfl rfl rfl),
  okp rfl rfl (oqa (L := 4) (lN rfl) zl_187),
  trivial⟩ ?_
 refine fqK (s' := [kt 3 (.p 1 0), kt 4 (.p 2 0), kt 5 (.p 3 0), kt 6 (.p 4 0), kb 1 187 8, kb 2 122 8, kb 3 3 1, kb 4 187 8, kc 1 0 (.i a0.A.Lo), kc 1 1 (.i a0.A.Hi), kc 1 2 (.i a0.B.Lo), kc 1 3 (.i a0.B.Hi), kc 1 4 (.i a0.C.Lo), kc 1 5 (.i a0.C.Hi), kc 1 6 (.i a0.D.Lo), kc 1 7 (.i a0.D.Hi), kc 2 0 (.i a1.Up.Conc), kc 2 1 (.i a1.Up.Thick), kc 2 2 (.i a1.Up.Ridge), kc 2 3 (.i a1.Up.Press), kc 2 4 (.i a1.Down.Conc), kc 2 5 (.i a1.Down.Thick), kc 2 6 (.i a1.Down.Ridge), kc 2 7 (.i a1.Down.Press), kc 3 0 (.i a2), kc 4 0 (.i 0), kc 4 1 (.i 0), kc 4 2 (.i 0), kc 4 3 (.i 0), kc 4 4 (.i 0), kc 4 5 (.i 0), kc 4 6 (.i 0), kc 4 7 (.i 0)]) ?_ (kp rfl) rfl
 refine fqT ?_
 refine aqS ?_
 refine aw_any (rows := [_, _, _, _, _, _, _, _, _, _]) (M := [0, 1, 3, 0, 8, 31, 0, 0, 255, 511]) Tryd_mixed (by kernel_rfl) rfl (by kernel_rfl) ⟨
  okp rfl rfl (oqF (lN rfl) rfl fo_122_0),
  okp rfl rfl (oqL (ys := [.i a1.Up.Conc, .i a1.Up.Thick, .i a1.Up.Ridge, .i a1.Up.Press]) (lN rfl) sh_28 rfl rfl ⟨rfl, rfl, rfl, rfl, trivial⟩),
  okp rfl rfl (oqC (x := .g [.i a1.Up.Conc, .i a1.Up.Thick, .i a1.Up.Ridge, .i a1.Up.Press]) (fs := []) (caps := []) (extra := []) (lN rfl) en_146 rfl ⟨rfl, rfl, rfl⟩ (EvL.cons rfl EvL.nil) (fun mm aa ww gg hr hrel => (c146 a1.Up ww))),
  okp rfl rfl (oqF (lN rfl) rfl fo_122_1),
  okp rfl rfl (oqL (ys := [.i a1.Down.Conc, .i a1.Down.Thick, .i a1.Down.Ridge, .i a1.Down.Press]) (lN rfl) sh_28 rfl rfl ⟨rfl, rfl, rfl, rfl, trivial⟩),
  okp rfl rfl (oqC (x := .g [.i a1.Down.Conc, .i a1.Down.Thick, .i a1.Down.Ridge, .i a1.Down.Press]) (fs := []) (caps := []) (extra := []) (lN rfl) en_146 rfl ⟨rfl, rfl, rfl⟩ (EvL.cons rfl EvL.nil) (fun mm aa ww gg hr hrel => (c146 a1.Down ww))),
  okp rfl rfl (oqa (L := 5) (lN rfl) zl_206),
  okp rfl rfl (oqa (L := 6) (lN rfl) zl_206),
  okp rfl rfl (oqS sz_206 rfl rfl rfl rfl rfl (by decide)),
  okp rfl rfl (oqS sz_206 rfl rfl rfl rfl rfl (by decide)),
  trivial⟩ ?_
 refine fqK (s' := [kt 3 (.p 1 0), kt 5 (.p 3 0), kt 6 (.p 4 0), kt 7 (.p 5 0), kt 8 (.p 6 0), kb 1 187 8, kb 3 3 1, kb 4 187 8, kb 5 206 4, kb 6 206 4, kc 1 0 (.i a0.A.Lo), kc 1 1 (.i a0.A.Hi), kc 1 2 (.i a0.B.Lo), kc 1 3 (.i a0.B.Hi), kc 1 4 (.i a0.C.Lo), kc 1 5 (.i a0.C.Hi), kc 1 6 (.i a0.D.Lo), kc 1 7 (.i a0.D.Hi), kc 3 0 (.i a2), kc 4 0 (.i 0), kc 4 1 (.i 0), kc 4 2 (.i 0), kc 4 3 (.i 0), kc 4 4 (.i 0), kc 4 5 (.i 0), kc 4 6 (.i 0), kc 4 7 (.i 0), kc 5 0 (.i a1.Up.Conc), kc 5 1 (.i a1.Up.Thick), kc 5 2 (.i a1.Up.Ridge), kc 5 3 (.i a1.Up.Press), kc 6 0 (.i a1.Down.Conc), kc 6 1 (.i a1.Down.Thick), kc 6 2 (.i a1.Down.Ridge), kc 6 3 (.i a1.Down.Press)]) ?_ (kp rfl) rfl
 refine fqT ?_
 refine aqS ?_
 obtain ⟨v1, hv1, hm⟩ := bnd_some hm
 refine aqT (rows := [_, _, _]) rfl (by kernel_rfl) ⟨
  okp rfl rfl (op_mkfn (lN rfl) EvL.nil (EvL.cons rfl (EvL.cons rfl (EvL.cons rfl (EvL.cons rfl EvL.nil))))),
  okp rfl rfl (oqN (fs := []) (caps := []) (xs := [.f (.func 149) [] [.p 1 0, .p 6 0, .p 3 0, .p 5 0]]) (Nk := 15) (.g [.i v1.1, .i v1.2.1, .i v1.2.2.1, .i v1.2.2.2.1, .i v1.2.2.2.2.1, .i v1.2.2.2.2.2.1, .i v1.2.2.2.2.2.2.1, .i v1.2.2.2.2.2.2.2]) (tqS [(3, .p 1 0), (5, .p 3 0), (6, .p 4 0), (7, .p 5 0), (8, .p 6 0), (15, .f (.func 149) [] [.p 1 0, .p 6 0, .p 3 0, .p 5 0])] ++ ((([kb 1 187 8, kb 3 3 1, kb 4 187 8, kb 5 206 4, kb 6 206 4, kc 1 0 (.i a0.A.Lo), kc 1 1 (.i a0.A.Hi), kc 1 2 (.i a0.B.Lo), kc 1 3 (.i a0.B.Hi), kc 1 4 (.i a0.C.Lo), kc 1 5 (.i a0.C.Hi), kc 1 6 (.i a0.D.Lo), kc 1 7 (.i a0.D.Hi), kc 3 0 (.i a2), kc 4 0 (.i 0), kc 4 1 (.i 0), kc 4 2 (.i 0), kc 4 3 (.i 0), kc 4 4 (.i 0), kc 4 5 (.i 0), kc 4 6 (.i 0), kc 4 7 (.i 0), kc 5 0 (.i a1.Up.Conc), kc 5 1 (.i a1.Up.Thick)] : St) ++ (([kc 5 2 (.i a1.Up.Ridge), kc 5 3 (.i a1.Up.Press), kc 6 0 (.i a1.Down.Conc), kc 6 1 (.i a1.Down.Thick), kc 6 2 (.i a1.Down.Ridge), kc 6 3 (.i a1.Down.Press)] : St))) ++ dqS [])) 0 [(3, .p 1 0), (5, .p 3 0), (6, .p 4 0), (7, .p 5 0), (8, .p 6 0), (15, .f (.func 149) [] [.p 1 0, .p 6 0, .p 3 0, .p 5 0])] [kb 1 187 8, kb 3 3 1, kb 4 187 8, kb 5 206 4, kb 6 206 4, kc 1 0 (.i a0.A.Lo), kc 1 1 (.i a0.A.Hi), kc 1 2 (.i a0.B.Lo), kc 1 3 (.i a0.B.Hi), kc 1 4 (.i a0.C.Lo), kc 1 5 (.i a0.C.Hi), kc 1 6 (.i a0.D.Lo), kc 1 7 (.i a0.D.Hi), kc 3 0 (.i a2), kc 4 0 (.i 0), kc 4 1 (.i 0), kc 4 2 (.i 0), kc 4 3 (.i 0), kc 4 4 (.i 0), kc 4 5 (.i 0), kc 4 6 (.i 0), kc 4 7 (.i 0), kc 5 0 (.i a1.Up.Conc), kc 5 1 (.i a1.Up.Thick), kc 5 2 (.i a1.Up.Ridge), kc 5 3 (.i a1.Up.Press), kc 6 0 (.i a1.Down.Conc), kc 6 1 (.i a1.Down.Thick), kc 6 2 (.i a1.Down.Ridge), kc 6 3 (.i a1.Down.Press)] (lN rfl) en_148 Tryd.func148 rfl rfl (Nat.le_of_ble_eq_true rfl) rfl ⟨rfl, rfl, rfl⟩ (EvL.cons rfl EvL.nil) ⟨rfl, rfl, rfl, rfl, rfl, rfl, trivial⟩ ⟨rfl, rfl, rfl, rfl, rfl, rfl, rfl, rfl, rfl, rfl, rfl, rfl, rfl, rfl, rfl, rfl, rfl, rfl, rfl, rfl, rfl, rfl, rfl, rfl, rfl, rfl, rfl, rfl, rfl, rfl, trivial⟩ rfl rfl rfl (fun aIv1 hIv1 => ?_)),
  okp rfl rfl (oqS sz_187 rfl rfl rfl rfl rfl (by decide)),
  trivial⟩ ?_
 ·have hm := hv1
  refine AW.keep (s' := [kt 0 (.f (.func 149) [] [.p 1 0, .p 6 0, .p 3 0, .p 5 0]), (.u 0 3, some (.x (.p 1 0))), (.u 0 5, some (.x (.p 3 0))), (.u 0 6, some (.x (.p 4 0))), (.u 0 7, some (.x (.p 5 0))), (.u 0 8, some (.x (.p 6 0))), (.u 0 15, some (.x (.f (.func 149) [] [.p 1 0, .p 6 0, .p 3 0, .p 5 0]))), kb 1 187 8, kb 3 3 1, kb 4 187 8, kb 5 206 4, kb 6 206 4, kc 1 0 (.i a0.A.Lo), kc 1 1 (.i a0.A.Hi), kc 1 2 (.i a0.B.Lo), kc 1 3 (.i a0.B.Hi), kc 1 4 (.i a0.C.Lo), kc 1 5 (.i a0.C.Hi), kc 1 6 (.i a0.D.Lo), kc 1 7 (.i a0.D.Hi), kc 3 0 (.i a2), kc 4 0 (.i 0), kc 4 1 (.i 0), kc 4 2 (.i 0), kc 4 3 (.i 0), kc 4 4 (.i 0), kc 4 5 (.i 0), kc 4 6 (.i 0), kc 4 7 (.i 0), kc 5 0 (.i a1.Up.Conc), kc 5 1 (.i a1.Up.Thick), kc 5 2 (.i a1.Up.Ridge), kc 5 3 (.i a1.Up.Press), kc 6 0 (.i a1.Down.Conc), kc 6 1 (.i a1.Down.Thick), kc 6 2 (.i a1.Down.Ridge), kc 6 3 (.i a1.Down.Press)]) ?_ (kp rfl) rfl
  refine aqS ?_
  refine aqT (rows := [_]) rfl (by kernel_rfl) ⟨
   okp rfl rfl (oqa (L := 7) (lN rfl) zl_187),
   trivial⟩ ?_
  refine fqK (s' := [kt 0 (.f (.func 149) [] [.p 1 0, .p 6 0, .p 3 0, .p 5 0]), kt 2 (.p 7 0), (.u 0 3, some (.x (.p 1 0))), (.u 0 5, some (.x (.p 3 0))), (.u 0 6, some (.x (.p 4 0))), (.u 0 7, some (.x (.p 5 0))), (.u 0 8, some (.x (.p 6 0))), (.u 0 15, some (.x (.f (.func 149) [] [.p 1 0, .p 6 0, .p 3 0, .p 5 0]))), kb 1 187 8, kb 3 3 1, kb 4 187 8, kb 5 206 4, kb 6 206 4, kb 7 187 8, kc 1 0 (.i a0.A.Lo), kc 1 1 (.i a0.A.Hi), kc 1 2 (.i a0.B.Lo), kc 1 3 (.i a0.B.Hi), kc 1 4 (.i a0.C.Lo), kc 1 5 (.i a0.C.Hi), kc 1 6 (.i a0.D.Lo), kc 1 7 (.i a0.D.Hi), kc 3 0 (.i a2), kc 4 0 (.i 0), kc 4 1 (.i 0), kc 4 2 (.i 0), kc 4 3 (.i 0), kc 4 4 (.i 0), kc 4 5 (.i 0), kc 4 6 (.i 0), kc 4 7 (.i 0), kc 5 0 (.i a1.Up.Conc), kc 5 1 (.i a1.Up.Thick), kc 5 2 (.i a1.Up.Ridge), kc 5 3 (.i a1.Up.Press), kc 6 0 (.i a1.Down.Conc), kc 6 1 (.i a1.Down.Thick), kc 6 2 (.i a1.Down.Ridge), kc 6 3 (.i a1.Down.Press), kc 7 0 (.i 0), kc 7 1 (.i 0), kc 7 2 (.i 0), kc 7 3 (.i 0), kc 7 4 (.i 0), kc 7 5 (.i 0), kc 7 6 (.i 0), kc 7 7 (.i 0)]) ?_ (kp rfl) rfl
  refine fqT ?_
  refine aqS ?_
  refine aqT (rows := [_]) rfl (by kernel_rfl) ⟨
   okp rfl rfl (oqa (L := 8) (lN rfl) zl_187),
   trivial⟩ ?_
  refine fqK (s' := [kt 0 (.f (.func 149) [] [.p 1 0, .p 6 0, .p 3 0, .p 5 0]), kt 2 (.p 7 0), kt 3 (.p 8 0), (.u 0 3, some (.x (.p 1 0))), (.u 0 5, some (.x (.p 3 0))), (.u 0 6, some (.x (.p 4 0))), (.u 0 7, some (.x (.p 5 0))), (.u 0 8, some (.x (.p 6 0))), (.u 0 15, some (.x (.f (.func 149) [] [.p 1 0, .p 6 0, .p 3 0, .p 5 0]))), kb 1 187 8, kb 3 3 1, kb 4 187 8, kb 5 206 4, kb 6 206 4, kb 7 187 8, kb 8 187 8, kc 1 0 (.i a0.A.Lo), kc 1 1 (.i a0.A.Hi), kc 1 2 (.i a0.B.Lo), kc 1 3 (.i a0.B.Hi), kc 1 4 (.i a0.C.Lo), kc 1 5 (.i a0.C.Hi), kc 1 6 (.i a0.D.Lo), kc 1 7 (.i a0.D.Hi), kc 3 0 (.i a2), kc 4 0 (.i 0), kc 4 1 (.i 0), kc 4 2 (.i 0), kc 4 3 (.i 0), kc 4 4 (.i 0), kc 4 5 (.i 0), kc 4 6 (.i 0), kc 4 7 (.i 0), kc 5 0 (.i a1.Up.Conc), kc 5 1 (.i a1.Up.Thick), kc 5 2 (.i a1.Up.Ridge), kc 5 3 (.i a1.Up.Press), kc 6 0 (.i a1.Down.Conc), kc 6 1 (.i a1.Down.Thick), kc 6 2 (.i a1.Down.Ridge), kc 6 3 (.i a1.Down.Press), kc 7 0 (.i 0), kc 7 1 (.i 0), kc 7 2 (.i 0), kc 7 3 (.i 0), kc 7 4 (.i 0), kc 7 5 (.i 0), kc 7 6 (.i 0), kc 7 7 (.i 0), kc 8 0 (.i 0), kc 8 1 (.i 0), kc 8 2 (.i 0), kc 8 3 (.i 0), kc 8 4 (.i 0), kc 8 5 (.i 0), kc 8 6 (.i 0), kc 8 7 (.i 0)]) ?_ (kp rfl) rfl
  refine fqT ?_
  refine aw_cutM (ι := Int × Int × Int × Int × Int × Int × Int × Int) hm (fun x1 => [kt 2 (.p 7 0), kt 3 (.p 8 0), (.u 0 3, some (.x (.p 1 0))), (.u 0 5, some (.x (.p 3 0))), (.u 0 6, some (.x (.p 4 0))), (.u 0 7, some (.x (.p 5 0))), (.u 0 8, some (.x (.p 6 0))), (.u 0 15, some (.x (.f (.func 149) [] [.p 1 0, .p 6 0, .p 3 0, .p 5 0]))), kb 1 187 8, kb 3 3 1, kb 4 187 8, kb 5 206 4, kb 6 206 4, kb 7 187 8, kb 8 187 8, kc 1 0 (.i a0.A.Lo), kc 1 1 (.i a0.A.Hi), kc 1 2 (.i a0.B.Lo), kc 1 3 (.i a0.B.Hi), kc 1 4 (.i a0.C.Lo), kc 1 5 (.i a0.C.Hi), kc 1 6 (.i a0.D.Lo), kc 1 7 (.i a0.D.Hi), kc 3 0 (.i a2), kc 4 0 (.i 0), kc 4 1 (.i 0), kc 4 2 (.i 0), kc 4 3 (.i 0), kc 4 4 (.i 0), kc 4 5 (.i 0), kc 4 6 (.i 0), kc 4 7 (.i 0), kc 5 0 (.i a1.Up.Conc), kc 5 1 (.i a1.Up.Thick), kc 5 2 (.i a1.Up.Ridge), kc 5 3 (.i a1.Up.Press), kc 6 0 (.i a1.Down.Conc), kc 6 1 (.i a1.Down.Thick), kc 6 2 (.i a1.Down.Ridge), kc 6 3 (.i a1.Down.Press), kc 7 0 (.i 0), kc 7 1 (.i 0), kc 7 2 (.i 0), kc 7 3 (.i 0), kc 7 4 (.i 0), kc 7 5 (.i 0), kc 7 6 (.i 0), kc 7 7 (.i 0), kc 8 0 (.i x1.1), kc 8 1 (.i x1.2.1), kc 8 2 (.i x1.2.2.1), kc 8 3 (.i x1.2.2.2.1), kc 8 4 (.i x1.2.2.2.2.1), kc 8 5 (.i x1.2.2.2.2.2.1), kc 8 6 (.i x1.2.2.2.2.2.2.1), kc 8 7 (.i x1.2.2.2.2.2.2.2)]) (fun hm => ?_) (fun x1 hm => ?_)
  ·have _z := hm
   refine aqS ?_
   refine aqT (rows := [_]) rfl (by kernel_rfl) ⟨
    okp rfl rfl (oqM (lN rfl) rfl),
    trivial⟩ ?_
   refine fqK (s' := [kt 0 (.f (.func 149) [] [.p 1 0, .p 6 0, .p 3 0, .p 5 0]), kt 2 (.p 7 0), kt 3 (.p 8 0), kt 5 (.i 0), (.u 0 3, some (.x (.p 1 0))), (.u 0 5, some (.x (.p 3 0))), (.u 0 6, some (.x (.p 4 0))), (.u 0 7, some (.x (.p 5 0))), (.u 0 8, some (.x (.p 6 0))), (.u 0 15, some (.x (.f (.func 149) [] [.p 1 0, .p 6 0, .p 3 0, .p 5 0]))), kb 1 187 8, kb 3 3 1, kb 4 187 8, kb 5 206 4, kb 6 206 4, kb 7 187 8, kb 8 187 8, kc 1 0 (.i a0.A.Lo), kc 1 1 (.i a0.A.Hi), kc 1 2 (.i a0.B.Lo), kc 1 3 (.i a0.B.Hi), kc 1 4 (.i a0.C.Lo), kc 1 5 (.i a0.C.Hi), kc 1 6 (.i a0.D.Lo), kc 1 7 (.i a0.D.Hi), kc 3 0 (.i a2), kc 4 0 (.i 0), kc 4 1 (.i 0), kc 4 2 (.i 0), kc 4 3 (.i 0), kc 4 4 (.i 0), kc 4 5 (.i 0), kc 4 6 (.i 0), kc 4 7 (.i 0), kc 5 0 (.i a1.Up.Conc), kc 5 1 (.i a1.Up.Thick), kc 5 2 (.i a1.Up.Ridge), kc 5 3 (.i a1.Up.Press), kc 6 0 (.i a1.Down.Conc), kc 6 1 (.i a1.Down.Thick), kc 6 2 (.i a1.Down.Ridge), kc 6 3 (.i a1.Down.Press), kc 7 0 (.i 0), kc 7 1 (.i 0), kc 7 2 (.i 0), kc 7 3 (.i 0), kc 7 4 (.i 0), kc 7 5 (.i 0), kc 7 6 (.i 0), kc 7 7 (.i 0), kc 8 0 (.i 0), kc 8 1 (.i 0), kc 8 2 (.i 0), kc 8 3 (.i 0), kc 8 4 (.i 0), kc 8 5 (.i 0), kc 8 6 (.i 0), kc 8 7 (.i 0)]) ?_ (kp rfl) rfl
   refine fqT ?_
   refine aw_block ?_
   refine aw_rounds 4 ?_
   refine aqS ?_
   refine aqT (rows := [_]) rfl (by kernel_rfl) ⟨
    okp rfl rfl (oqB (r := .bool true) (lN rfl) rfl rfl rfl),
    trivial⟩ ?_
   refine fqK (s' := [kt 0 (.f (.func 149) [] [.p 1 0, .p 6 0, .p 3 0, .p 5 0]), kt 2 (.p 7 0), kt 3 (.p 8 0), kt 5 (.i 0), kt 6 (.B true), (.u 0 3, some (.x (.p 1 0))), (.u 0 5, some (.x (.p 3 0))), (.u 0 6, some (.x (.p 4 0))), (.u 0 7, some (.x (.p 5 0))), (.u 0 8, some (.x (.p 6 0))), (.u 0 15, some (.x (.f (.func 149) [] [.p 1 0, .p 6 0, .p 3 0, .p 5 0]))), kb 1 187 8, kb 3 3 1, kb 4 187 8, kb 5 206 4, kb 6 206 4, kb 7 187 8, kb 8 187 8, kc 1 0 (.i a0.A.Lo), kc 1 1 (.i a0.A.Hi), kc 1 2 (.i a0.B.Lo), kc 1 3 (.i a0.B.Hi), kc 1 4 (.i a0.C.Lo), kc 1 5 (.i a0.C.Hi), kc 1 6 (.i a0.D.Lo), kc 1 7 (.i a0.D.Hi), kc 3 0 (.i a2), kc 4 0 (.i 0), kc 4 1 (.i 0), kc 4 2 (.i 0), kc 4 3 (.i 0), kc 4 4 (.i 0), kc 4 5 (.i 0), kc 4 6 (.i 0), kc 4 7 (.i 0), kc 5 0 (.i a1.Up.Conc), kc 5 1 (.i a1.Up.Thick), kc 5 2 (.i a1.Up.Ridge), kc 5 3 (.i a1.Up.Press), kc 6 0 (.i a1.Down.Conc), kc 6 1 (.i a1.Down.Thick), kc 6 2 (.i a1.Down.Ridge), kc 6 3 (.i a1.Down.Press), kc 7 0 (.i 0), kc 7 1 (.i 0), kc 7 2 (.i 0), kc 7 3 (.i 0), kc 7 4 (.i 0), kc 7 5 (.i 0), kc 7 6 (.i 0), kc 7 7 (.i 0), kc 8 0 (.i 0), kc 8 1 (.i 0), kc 8 2 (.i 0), kc 8 3 (.i 0), kc 8 4 (.i 0), kc 8 5 (.i 0), kc 8 6 (.i 0), kc 8 7 (.i 0)]) ?_ (kp rfl) rfl
   refine fqT ?_
   refine aqS ?_
   refine aqc rfl (fun hz1 => ?_) (fun hz1 => by cases hz1)
   refine aqk ?_
   refine fqT ?_
   refine aqS ?_
   refine aw_block ?_
   refine aqS ?_
   refine aqT (rows := [_, _]) rfl (by kernel_rfl) ⟨
    okp rfl rfl (oqM (lN rfl) rfl),
    okp rfl rfl (oqA (lN rfl) rfl),
    trivial⟩ ?_
   refine fqK (s' := [kt 0 (.f (.func 149) [] [.p 1 0, .p 6 0, .p 3 0, .p 5 0]), kt 2 (.p 7 0), kt 3 (.p 8 0), kt 4 (.i 0), kt 5 (.i 0), (.u 0 3, some (.x (.p 1 0))), (.u 0 5, some (.x (.p 3 0))), (.u 0 6, some (.x (.p 4 0))), (.u 0 7, some (.x (.p 5 0))), (.u 0 8, some (.x (.p 6 0))), (.u 0 15, some (.x (.f (.func 149) [] [.p 1 0, .p 6 0, .p 3 0, .p 5 0]))), kb 1 187 8, kb 3 3 1, kb 4 187 8, kb 5 206 4, kb 6 206 4, kb 7 187 8, kb 8 187 8, kc 1 0 (.i a0.A.Lo), kc 1 1 (.i a0.A.Hi), kc 1 2 (.i a0.B.Lo), kc 1 3 (.i a0.B.Hi), kc 1 4 (.i a0.C.Lo), kc 1 5 (.i a0.C.Hi), kc 1 6 (.i a0.D.Lo), kc 1 7 (.i a0.D.Hi), kc 3 0 (.i a2), kc 4 0 (.i 0), kc 4 1 (.i 0), kc 4 2 (.i 0), kc 4 3 (.i 0), kc 4 4 (.i 0), kc 4 5 (.i 0), kc 4 6 (.i 0), kc 4 7 (.i 0), kc 5 0 (.i a1.Up.Conc), kc 5 1 (.i a1.Up.Thick), kc 5 2 (.i a1.Up.Ridge), kc 5 3 (.i a1.Up.Press), kc 6 0 (.i a1.Down.Conc), kc 6 1 (.i a1.Down.Thick), kc 6 2 (.i a1.Down.Ridge), kc 6 3 (.i a1.Down.Press), kc 7 0 (.i 0), kc 7 1 (.i 0), kc 7 2 (.i 0), kc 7 3 (.i 0), kc 7 4 (.i 0), kc 7 5 (.i 0), kc 7 6 (.i 0), kc 7 7 (.i 0), kc 8 0 (.i 0), kc 8 1 (.i 0), kc 8 2 (.i 0), kc 8 3 (.i 0), kc 8 4 (.i 0), kc 8 5 (.i 0), kc 8 6 (.i 0), kc 8 7 (.i 0)]) ?_ (kp rfl) rfl
   refine fqT ?_
   obtain ⟨v2, hv2, hm⟩ := bnd_some hm
   refine aqT (rows := [_, _, _, _, _, _]) rfl (by kernel_rfl) ⟨
    okp rfl rfl (oqM (lN rfl) rfl),
    okp rfl rfl (oqM (lN rfl) rfl),
    okp rfl rfl (oqM (lN rfl) rfl),
    okp rfl rfl (oqN (fs := []) (caps := [.p 1 0, .p 6 0, .p 3 0, .p 5 0]) (xs := [.i 0]) (Nk := 33) (.g [.i v2.1, .i v2.2]) (tqS [(0, .f (.func 149) [] [.p 1 0, .p 6 0, .p 3 0, .p 5 0]), (2, .p 7 0), (3, .p 8 0), (4, .i 0), (5, .i 0), (8, .i 0), (9, .f (.func 149) [] [.p 1 0, .p 6 0, .p 3 0, .p 5 0]), (10, .i 0)] ++ ((([(.u 0 3, some (.x (.p 1 0))), (.u 0 5, some (.x (.p 3 0))), (.u 0 6, some (.x (.p 4 0))), (.u 0 7, some (.x (.p 5 0))), (.u 0 8, some (.x (.p 6 0))), (.u 0 15, some (.x (.f (.func 149) [] [.p 1 0, .p 6 0, .p 3 0, .p 5 0]))), kb 1 187 8, kb 3 3 1, kb 4 187 8, kb 5 206 4, kb 6 206 4, kb 7 187 8, kb 8 187 8, kc 1 0 (.i a0.A.Lo), kc 1 1 (.i a0.A.Hi), kc 1 2 (.i a0.B.Lo), kc 1 3 (.i a0.B.Hi), kc 1 4 (.i a0.C.Lo), kc 1 5 (.i a0.C.Hi), kc 1 6 (.i a0.D.Lo), kc 1 7 (.i a0.D.Hi), kc 3 0 (.i a2), kc 4 0 (.i 0), kc 4 1 (.i 0)] : St) ++ (([kc 4 2 (.i 0), kc 4 3 (.i 0), kc 4 4 (.i 0), kc 4 5 (.i 0), kc 4 6 (.i 0), kc 4 7 (.i 0), kc 5 0 (.i a1.Up.Conc), kc 5 1 (.i a1.Up.Thick), kc 5 2 (.i a1.Up.Ridge), kc 5 3 (.i a1.Up.Press), kc 6 0 (.i a1.Down.Conc), kc 6 1 (.i a1.Down.Thick), kc 6 2 (.i a1.Down.Ridge), kc 6 3 (.i a1.Down.Press), kc 7 0 (.i 0), kc 7 1 (.i 0), kc 7 2 (.i 0), kc 7 3 (.i 0), kc 7 4 (.i 0), kc 7 5 (.i 0), kc 7 6 (.i 0), kc 7 7 (.i 0), kc 8 0 (.i 0), kc 8 1 (.i 0)] : St) ++ (([kc 8 2 (.i 0), kc 8 3 (.i 0), kc 8 4 (.i 0), kc 8 5 (.i 0), kc 8 6 (.i 0), kc 8 7 (.i 0)] : St)))) ++ dqS [])) 1 [(0, .f (.func 149) [] [.p 1 0, .p 6 0, .p 3 0, .p 5 0]), (2, .p 7 0), (3, .p 8 0), (4, .i 0), (5, .i 0), (8, .i 0), (9, .f (.func 149) [] [.p 1 0, .p 6 0, .p 3 0, .p 5 0]), (10, .i 0)] [(.u 0 3, some (.x (.p 1 0))), (.u 0 5, some (.x (.p 3 0))), (.u 0 6, some (.x (.p 4 0))), (.u 0 7, some (.x (.p 5 0))), (.u 0 8, some (.x (.p 6 0))), (.u 0 15, some (.x (.f (.func 149) [] [.p 1 0, .p 6 0, .p 3 0, .p 5 0]))), kb 1 187 8, kb 3 3 1, kb 4 187 8, kb 5 206 4, kb 6 206 4, kb 7 187 8, kb 8 187 8, kc 1 0 (.i a0.A.Lo), kc 1 1 (.i a0.A.Hi), kc 1 2 (.i a0.B.Lo), kc 1 3 (.i a0.B.Hi), kc 1 4 (.i a0.C.Lo), kc 1 5 (.i a0.C.Hi), kc 1 6 (.i a0.D.Lo), kc 1 7 (.i a0.D.Hi), kc 3 0 (.i a2), kc 4 0 (.i 0), kc 4 1 (.i 0), kc 4 2 (.i 0), kc 4 3 (.i 0), kc 4 4 (.i 0), kc 4 5 (.i 0), kc 4 6 (.i 0), kc 4 7 (.i 0), kc 5 0 (.i a1.Up.Conc), kc 5 1 (.i a1.Up.Thick), kc 5 2 (.i a1.Up.Ridge), kc 5 3 (.i a1.Up.Press), kc 6 0 (.i a1.Down.Conc), kc 6 1 (.i a1.Down.Thick), kc 6 2 (.i a1.Down.Ridge), kc 6 3 (.i a1.Down.Press), kc 7 0 (.i 0), kc 7 1 (.i 0), kc 7 2 (.i 0), kc 7 3 (.i 0), kc 7 4 (.i 0), kc 7 5 (.i 0), kc 7 6 (.i 0), kc 7 7 (.i 0), kc 8 0 (.i 0), kc 8 1 (.i 0), kc 8 2 (.i 0), kc 8 3 (.i 0), kc 8 4 (.i 0), kc 8 5 (.i 0), kc 8 6 (.i 0), kc 8 7 (.i 0)] (lN rfl) en_149 Tryd.func149 rfl rfl (Nat.le_of_ble_eq_true rfl) rfl ⟨rfl, rfl, rfl⟩ (EvL.cons rfl EvL.nil) ⟨rfl, rfl, rfl, rfl, rfl, rfl, rfl, rfl, trivial⟩ ⟨rfl, rfl, rfl, rfl, rfl, rfl, rfl, rfl, rfl, rfl, rfl, rfl, rfl, rfl, rfl, rfl, rfl, rfl, rfl, rfl, rfl, rfl, rfl, rfl, rfl, rfl, rfl, rfl, rfl, rfl, rfl, rfl, rfl, rfl, rfl, rfl, rfl, rfl, rfl, rfl, rfl, rfl, rfl, rfl, rfl, rfl, rfl, rfl, rfl, rfl, rfl, rfl, rfl, rfl, trivial⟩ rfl rfl rfl (fun aIv2 hIv2 => ?_)),
    okp rfl rfl (op_ixA (lN rfl) rfl rfl ar_187 (by decide) (by decide)),
    okp rfl rfl (oqS sz_32 rfl rfl rfl rfl rfl (by decide)),
    trivial⟩ ?_
   ·have hm := hv2
    refine AW.keep (s' := [kt 0 (.i 0), kt 1 (.p 1 0), kt 2 (.p 6 0), kt 3 (.p 3 0), kt 4 (.p 5 0), (.u 0 3, some (.x (.p 1 0))), (.u 0 5, some (.x (.p 3 0))), (.u 0 6, some (.x (.p 4 0))), (.u 0 7, some (.x (.p 5 0))), (.u 0 8, some (.x (.p 6 0))), (.u 0 15, some (.x (.f (.func 149) [] [.p 1 0, .p 6 0, .p 3 0, .p 5 0]))), (.u 1 0, some (.x (.f (.func 149) [] [.p 1 0, .p 6 0, .p 3 0, .p 5 0]))), (.u 1 2, some (.x (.p 7 0))), (.u 1 3, some (.x (.p 8 0))), (.u 1 4, some (.x (.i 0))), (.u 1 5, some (.x (.i 0))), (.u 1 8, some (.x (.i 0))), (.u 1 9, some (.x (.f (.func 149) [] [.p 1 0, .p 6 0, .p 3 0, .p 5 0]))), (.u 1 10, some (.x (.i 0))), kb 1 187 8, kb 3 3 1, kb 4 187 8, kb 5 206 4, kb 6 206 4, kb 7 187 8, kb 8 187 8, kc 1 0 (.i a0.A.Lo), kc 1 1 (.i a0.A.Hi), kc 1 2 (.i a0.B.Lo), kc 1 3 (.i a0.B.Hi), kc 1 4 (.i a0.C.Lo), kc 1 5 (.i a0.C.Hi), kc 1 6 (.i a0.D.Lo), kc 1 7 (.i a0.D.Hi), kc 3 0 (.i a2), kc 4 0 (.i 0), kc 4 1 (.i 0), kc 4 2 (.i 0), kc 4 3 (.i 0), kc 4 4 (.i 0), kc 4 5 (.i 0), kc 4 6 (.i 0), kc 4 7 (.i 0), kc 5 0 (.i a1.Up.Conc), kc 5 1 (.i a1.Up.Thick), kc 5 2 (.i a1.Up.Ridge), kc 5 3 (.i a1.Up.Press), kc 6 0 (.i a1.Down.Conc), kc 6 1 (.i a1.Down.Thick), kc 6 2 (.i a1.Down.Ridge), kc 6 3 (.i a1.Down.Press), kc 7 0 (.i 0), kc 7 1 (.i 0), kc 7 2 (.i 0), kc 7 3 (.i 0), kc 7 4 (.i 0), kc 7 5 (.i 0), kc 7 6 (.i 0), kc 7 7 (.i 0), kc 8 0 (.i 0), kc 8 1 (.i 0), kc 8 2 (.i 0), kc 8 3 (.i 0), kc 8 4 (.i 0), kc 8 5 (.i 0), kc 8 6 (.i 0), kc 8 7 (.i 0)]) ?_ (kp rfl) rfl
    refine aqS ?_
    refine aqT (rows := [_]) rfl (by kernel_rfl) ⟨
     okp rfl rfl (oqa (L := 9) (lN rfl) zl_32),
     trivial⟩ ?_
    refine fqK (s' := [kt 0 (.i 0), kt 1 (.p 1 0), kt 2 (.p 6 0), kt 3 (.p 3 0), kt 4 (.p 5 0), kt 6 (.p 9 0), (.u 0 3, some (.x (.p 1 0))), (.u 0 5, some (.x (.p 3 0))), (.u 0 6, some (.x (.p 4 0))), (.u 0 7, some (.x (.p 5 0))), (.u 0 8, some (.x (.p 6 0))), (.u 0 15, some (.x (.f (.func 149) [] [.p 1 0, .p 6 0, .p 3 0, .p 5 0]))), (.u 1 0, some (.x (.f (.func 149) [] [.p 1 0, .p 6 0, .p 3 0, .p 5 0]))), (.u 1 2, some (.x (.p 7 0))), (.u 1 3, some (.x (.p 8 0))), (.u 1 4, some (.x (.i 0))), (.u 1 5, some (.x (.i 0))), (.u 1 8, some (.x (.i 0))), (.u 1 9, some (.x (.f (.func 149) [] [.p 1 0, .p 6 0, .p 3 0, .p 5 0]))), (.u 1 10, some (.x (.i 0))), kb 1 187 8, kb 3 3 1, kb 4 187 8, kb 5 206 4, kb 6 206 4, kb 7 187 8, kb 8 187 8, kb 9 32 2, kc 1 0 (.i a0.A.Lo), kc 1 1 (.i a0.A.Hi), kc 1 2 (.i a0.B.Lo), kc 1 3 (.i a0.B.Hi), kc 1 4 (.i a0.C.Lo), kc 1 5 (.i a0.C.Hi), kc 1 6 (.i a0.D.Lo), kc 1 7 (.i a0.D.Hi), kc 3 0 (.i a2), kc 4 0 (.i 0), kc 4 1 (.i 0), kc 4 2 (.i 0), kc 4 3 (.i 0), kc 4 4 (.i 0), kc 4 5 (.i 0), kc 4 6 (.i 0), kc 4 7 (.i 0), kc 5 0 (.i a1.Up.Conc), kc 5 1 (.i a1.Up.Thick), kc 5 2 (.i a1.Up.Ridge), kc 5 3 (.i a1.Up.Press), kc 6 0 (.i a1.Down.Conc), kc 6 1 (.i a1.Down.Thick), kc 6 2 (.i a1.Down.Ridge), kc 6 3 (.i a1.Down.Press), kc 7 0 (.i 0), kc 7 1 (.i 0), kc 7 2 (.i 0), kc 7 3 (.i 0), kc 7 4 (.i 0), kc 7 5 (.i 0), kc 7 6 (.i 0), kc 7 7 (.i 0), kc 8 0 (.i 0), kc 8 1 (.i 0), kc 8 2 (.i 0), kc 8 3 (.i 0), kc 8 4 (.i 0), kc 8 5 (.i 0), kc 8 6 (.i 0), kc 8 7 (.i 0), kc 9 0 (.i 0), kc 9 1 (.i 0)]) ?_ (kp rfl) rfl
    refine fqT ?_
    refine aqS ?_
    obtain ⟨v3, hv3, hm⟩ := bnd_some hm
    obtain ⟨hp2, hm⟩ := chk_some hm
    obtain ⟨v4, hv4, hm⟩ := bnd_some hm
    obtain ⟨hp3, hm⟩ := chk_some hm
    refine aw_any (rows := [_, _, _, _, _, _, _, _, _, _, _, _, _, _, _, _, _, _, _, _, _, _, _, _, _, _, _]) (M := [0, 1, 3, 7, 0, 16, 48, 0, 240, 511, 1023, 0, 2048, 6144, 14336, 0, 32768, 98304, 0, 492016, 1047024, 1016304, 0, 7307760, 16775664, 33554431, 67108863]) Tryd_mixed (by kernel_rfl) rfl (by kernel_rfl) ⟨
     okp rfl rfl (oqM (lN rfl) rfl),
     okp rfl rfl (op_ixA (lN rfl) rfl rfl ar_187 (by decide) (by decide)),
     okp rfl rfl (oqF (lN rfl) rfl fo_32_0),
     okp rfl rfl (oq1 (lN rfl) sh_3 rfl rfl),
     okp rfl rfl (oqM (lN rfl) rfl),
     okp rfl rfl (op_ixA (lN rfl) rfl rfl ar_206 (by decide) (by decide)),
     okp rfl rfl (oq1 (lN rfl) sh_3 rfl rfl),
     okp rfl rfl (oq1 (lN rfl) sh_3 rfl rfl),
     okp rfl rfl (oqC (x := .i v3) (fs := []) (caps := []) (extra := []) (lN rfl) en_150 rfl ⟨rfl, rfl, rfl⟩ (EvL.cons rfl (EvL.cons rfl EvL.nil)) (fun mm aa ww gg hr hrel => (c150 F a1.Down.Conc a2 ww v3 hv3))),
     okp rfl rfl (oqB (lN rfl) rfl rfl (nw_sub hp2)),
     okp rfl rfl (op_max (lN rfl) rfl rfl),
     okp rfl rfl (oqM (lN rfl) rfl),
     okp rfl rfl (op_ixA (lN rfl) rfl rfl ar_187 (by decide) (by decide)),
     okp rfl rfl (oqF (lN rfl) rfl fo_32_1),
     okp rfl rfl (oq1 (lN rfl) sh_3 rfl rfl),
     okp rfl rfl (oqM (lN rfl) rfl),
     okp rfl rfl (op_ixA (lN rfl) rfl rfl ar_206 (by decide) (by decide)),
     okp rfl rfl (oq1 (lN rfl) sh_3 rfl rfl),
     okp rfl rfl (oq1 (lN rfl) sh_3 rfl rfl),
     okp rfl rfl (oqC (x := .i v4) (fs := []) (caps := []) (extra := []) (lN rfl) en_150 rfl ⟨rfl, rfl, rfl⟩ (EvL.cons rfl (EvL.cons rfl EvL.nil)) (fun mm aa ww gg hr hrel => (c150 F a1.Up.Conc a2 ww v4 hv4))),
     okp rfl rfl (oqB (lN rfl) rfl rfl (nw_add hp3)),
     okp rfl rfl (oqC (x := .g [.i 100, .i 400, .i 100, .i 3]) (fs := []) (caps := []) (extra := []) (lN rfl) en_151 rfl ⟨rfl, rfl, rfl⟩ EvL.nil (fun mm aa ww gg hr hrel => (c151 ww))),
     okp rfl rfl (oqM (lN rfl) rfl),
     okp rfl rfl (oqI (lN rfl) rfl rfl ar_206 ⟨_, _, un_206, sh_3⟩ (by decide) (by decide) rfl),
     okp rfl rfl (op_min (lN rfl) rfl rfl),
     okp rfl rfl (op_build (x := .g [.i (if 0 > (a0.A.Lo - v3) then 0 else a0.A.Lo - v3), .i (if 100 < (a0.A.Hi + v4) then 100 else a0.A.Hi + v4)]) (lN rfl) (EvL.cons rfl (EvL.cons rfl EvL.nil)) (fun m w => by kernel_rfl)),
     okp rfl rfl (oqS sz_32 rfl rfl rfl rfl rfl (by decide)),
     trivial⟩ ?_
    refine fqK (s' := [kt 6 (.p 9 0), (.u 0 3, some (.x (.p 1 0))), (.u 0 5, some (.x (.p 3 0))), (.u 0 6, some (.x (.p 4 0))), (.u 0 7, some (.x (.p 5 0))), (.u 0 8, some (.x (.p 6 0))), (.u 0 15, some (.x (.f (.func 149) [] [.p 1 0, .p 6 0, .p 3 0, .p 5 0]))), (.u 1 0, some (.x (.f (.func 149) [] [.p 1 0, .p 6 0, .p 3 0, .p 5 0]))), (.u 1 2, some (.x (.p 7 0))), (.u 1 3, some (.x (.p 8 0))), (.u 1 4, some (.x (.i 0))), (.u 1 5, some (.x (.i 0))), (.u 1 8, some (.x (.i 0))), (.u 1 9, some (.x (.f (.func 149) [] [.p 1 0, .p 6 0, .p 3 0, .p 5 0]))), (.u 1 10, some (.x (.i 0))), kb 1 187 8, kb 3 3 1, kb 4 187 8, kb 5 206 4, kb 6 206 4, kb 7 187 8, kb 8 187 8, kb 9 32 2, kc 1 0 (.i a0.A.Lo), kc 1 1 (.i a0.A.Hi), kc 1 2 (.i a0.B.Lo), kc 1 3 (.i a0.B.Hi), kc 1 4 (.i a0.C.Lo), kc 1 5 (.i a0.C.Hi), kc 1 6 (.i a0.D.Lo), kc 1 7 (.i a0.D.Hi), kc 3 0 (.i a2), kc 4 0 (.i 0), kc 4 1 (.i 0), kc 4 2 (.i 0), kc 4 3 (.i 0), kc 4 4 (.i 0), kc 4 5 (.i 0), kc 4 6 (.i 0), kc 4 7 (.i 0), kc 5 0 (.i a1.Up.Conc), kc 5 1 (.i a1.Up.Thick), kc 5 2 (.i a1.Up.Ridge), kc 5 3 (.i a1.Up.Press), kc 6 0 (.i a1.Down.Conc), kc 6 1 (.i a1.Down.Thick), kc 6 2 (.i a1.Down.Ridge), kc 6 3 (.i a1.Down.Press), kc 7 0 (.i 0), kc 7 1 (.i 0), kc 7 2 (.i 0), kc 7 3 (.i 0), kc 7 4 (.i 0), kc 7 5 (.i 0), kc 7 6 (.i 0), kc 7 7 (.i 0), kc 8 0 (.i 0), kc 8 1 (.i 0), kc 8 2 (.i 0), kc 8 3 (.i 0), kc 8 4 (.i 0), kc 8 5 (.i 0), kc 8 6 (.i 0), kc 8 7 (.i 0), kc 9 0 (.i (if 0 > (a0.A.Lo - v3) then 0 else a0.A.Lo - v3)), kc 9 1 (.i (if 100 < (a0.A.Hi + v4) then 100 else a0.A.Hi + v4))]) ?_ (kp rfl) rfl
    refine fqT ?_
    refine aqr ?_
    have hm := Option.some.inj hm
    subst hm
    exact fin_callEnd _ _ _ (.inl rfl) rfl rfl (rqC (ys := [.i (if 0 > (a0.A.Lo - v3) then 0 else a0.A.Lo - v3), .i (if 100 < (a0.A.Hi + v4) then 100 else a0.A.Hi + v4)]) rfl sh_32 rfl ⟨rfl, rfl, trivial⟩ rqN) rfl hIv2 ⟨rfl, rfl, rfl, rfl, rfl, rfl, rfl, rfl, trivial⟩ ⟨rfl, rfl, rfl, rfl, rfl, rfl, rfl, rfl, rfl, rfl, rfl, rfl, rfl, rfl, rfl, rfl, rfl, rfl, rfl, rfl, rfl, rfl, rfl, rfl, rfl, rfl, rfl, rfl, rfl, rfl, rfl, rfl, rfl, rfl, rfl, rfl, rfl, rfl, rfl, rfl, rfl, rfl, rfl, rfl, rfl, rfl, rfl, rfl, rfl, rfl, rfl, rfl, rfl, rfl, trivial⟩ rfl rfl
   refine fqK (s' := [kt 0 (.f (.func 149) [] [.p 1 0, .p 6 0, .p 3 0, .p 5 0]), kt 2 (.p 7 0), kt 3 (.p 8 0), kt 5 (.i 0), (.u 0 3, some (.x (.p 1 0))), (.u 0 5, some (.x (.p 3 0))), (.u 0 6, some (.x (.p 4 0))), (.u 0 7, some (.x (.p 5 0))), (.u 0 8, some (.x (.p 6 0))), (.u 0 15, some (.x (.f (.func 149) [] [.p 1 0, .p 6 0, .p 3 0, .p 5 0]))), kb 1 187 8, kb 3 3 1, kb 4 187 8, kb 5 206 4, kb 6 206 4, kb 7 187 8, kb 8 187 8, kc 1 0 (.i a0.A.Lo), kc 1 1 (.i a0.A.Hi), kc 1 2 (.i a0.B.Lo), kc 1 3 (.i a0.B.Hi), kc 1 4 (.i a0.C.Lo), kc 1 5 (.i a0.C.Hi), kc 1 6 (.i a0.D.Lo), kc 1 7 (.i a0.D.Hi), kc 3 0 (.i a2), kc 4 0 (.i 0), kc 4 1 (.i 0), kc 4 2 (.i 0), kc 4 3 (.i 0), kc 4 4 (.i 0), kc 4 5 (.i 0), kc 4 6 (.i 0), kc 4 7 (.i 0), kc 5 0 (.i a1.Up.Conc), kc 5 1 (.i a1.Up.Thick), kc 5 2 (.i a1.Up.Ridge), kc 5 3 (.i a1.Up.Press), kc 6 0 (.i a1.Down.Conc), kc 6 1 (.i a1.Down.Thick), kc 6 2 (.i a1.Down.Ridge), kc 6 3 (.i a1.Down.Press), kc 7 0 (.i 0), kc 7 1 (.i 0), kc 7 2 (.i 0), kc 7 3 (.i 0), kc 7 4 (.i 0), kc 7 5 (.i 0), kc 7 6 (.i 0), kc 7 7 (.i 0), kc 8 0 (.i v2.1), kc 8 1 (.i v2.2), kc 8 2 (.i 0), kc 8 3 (.i 0), kc 8 4 (.i 0), kc 8 5 (.i 0), kc 8 6 (.i 0), kc 8 7 (.i 0)]) ?_ (kp rfl) rfl
   refine fqB ?_
   refine fqT ?_
   refine aqT (rows := [_, _]) rfl (by kernel_rfl) ⟨
    okp rfl rfl (oqB (r := .int .i64 1) (lN rfl) rfl rfl rfl),
    okp rfl rfl (oqM (lN rfl) rfl),
    trivial⟩ ?_
   refine fqK (s' := [kt 0 (.f (.func 149) [] [.p 1 0, .p 6 0, .p 3 0, .p 5 0]), kt 2 (.p 7 0), kt 3 (.p 8 0), kt 5 (.i 1), (.u 0 3, some (.x (.p 1 0))), (.u 0 5, some (.x (.p 3 0))), (.u 0 6, some (.x (.p 4 0))), (.u 0 7, some (.x (.p 5 0))), (.u 0 8, some (.x (.p 6 0))), (.u 0 15, some (.x (.f (.func 149) [] [.p 1 0, .p 6 0, .p 3 0, .p 5 0]))), kb 1 187 8, kb 3 3 1, kb 4 187 8, kb 5 206 4, kb 6 206 4, kb 7 187 8, kb 8 187 8, kc 1 0 (.i a0.A.Lo), kc 1 1 (.i a0.A.Hi), kc 1 2 (.i a0.B.Lo), kc 1 3 (.i a0.B.Hi), kc 1 4 (.i a0.C.Lo), kc 1 5 (.i a0.C.Hi), kc 1 6 (.i a0.D.Lo), kc 1 7 (.i a0.D.Hi), kc 3 0 (.i a2), kc 4 0 (.i 0), kc 4 1 (.i 0), kc 4 2 (.i 0), kc 4 3 (.i 0), kc 4 4 (.i 0), kc 4 5 (.i 0), kc 4 6 (.i 0), kc 4 7 (.i 0), kc 5 0 (.i a1.Up.Conc), kc 5 1 (.i a1.Up.Thick), kc 5 2 (.i a1.Up.Ridge), kc 5 3 (.i a1.Up.Press), kc 6 0 (.i a1.Down.Conc), kc 6 1 (.i a1.Down.Thick), kc 6 2 (.i a1.Down.Ridge), kc 6 3 (.i a1.Down.Press), kc 7 0 (.i 0), kc 7 1 (.i 0), kc 7 2 (.i 0), kc 7 3 (.i 0), kc 7 4 (.i 0), kc 7 5 (.i 0), kc 7 6 (.i 0), kc 7 7 (.i 0), kc 8 0 (.i v2.1), kc 8 1 (.i v2.2), kc 8 2 (.i 0), kc 8 3 (.i 0), kc 8 4 (.i 0), kc 8 5 (.i 0), kc 8 6 (.i 0), kc 8 7 (.i 0)]) ?_ (kp rfl) rfl
   refine fin_round ?_
   refine aqS ?_
   refine aqT (rows := [_]) rfl (by kernel_rfl) ⟨
    okp rfl rfl (oqB (r := .bool true) (lN rfl) rfl rfl rfl),
    trivial⟩ ?_
   refine fqK (s' := [kt 0 (.f (.func 149) [] [.p 1 0, .p 6 0, .p 3 0, .p 5 0]), kt 2 (.p 7 0), kt 3 (.p 8 0), kt 5 (.i 1), kt 6 (.B true), (.u 0 3, some (.x (.p 1 0))), (.u 0 5, some (.x (.p 3 0))), (.u 0 6, some (.x (.p 4 0))), (.u 0 7, some (.x (.p 5 0))), (.u 0 8, some (.x (.p 6 0))), (.u 0 15, some (.x (.f (.func 149) [] [.p 1 0, .p 6 0, .p 3 0, .p 5 0]))), kb 1 187 8, kb 3 3 1, kb 4 187 8, kb 5 206 4, kb 6 206 4, kb 7 187 8, kb 8 187 8, kc 1 0 (.i a0.A.Lo), kc 1 1 (.i a0.A.Hi), kc 1 2 (.i a0.B.Lo), kc 1 3 (.i a0.B.Hi), kc 1 4 (.i a0.C.Lo), kc 1 5 (.i a0.C.Hi), kc 1 6 (.i a0.D.Lo), kc 1 7 (.i a0.D.Hi), kc 3 0 (.i a2), kc 4 0 (.i 0), kc 4 1 (.i 0), kc 4 2 (.i 0), kc 4 3 (.i 0), kc 4 4 (.i 0), kc 4 5 (.i 0), kc 4 6 (.i 0), kc 4 7 (.i 0), kc 5 0 (.i a1.Up.Conc), kc 5 1 (.i a1.Up.Thick), kc 5 2 (.i a1.Up.Ridge), kc 5 3 (.i a1.Up.Press), kc 6 0 (.i a1.Down.Conc), kc 6 1 (.i a1.Down.Thick), kc 6 2 (.i a1.Down.Ridge), kc 6 3 (.i a1.Down.Press), kc 7 0 (.i 0), kc 7 1 (.i 0), kc 7 2 (.i 0), kc 7 3 (.i 0), kc 7 4 (.i 0), kc 7 5 (.i 0), kc 7 6 (.i 0), kc 7 7 (.i 0), kc 8 0 (.i v2.1), kc 8 1 (.i v2.2), kc 8 2 (.i 0), kc 8 3 (.i 0), kc 8 4 (.i 0), kc 8 5 (.i 0), kc 8 6 (.i 0), kc 8 7 (.i 0)]) ?_ (kp rfl) rfl
   refine fqT ?_
   refine aqS ?_
   refine aqc rfl (fun hz4 => ?_) (fun hz4 => by cases hz4)
   refine aqk ?_
   refine fqT ?_
   refine aqS ?_
   refine aw_block ?_
   refine aqS ?_
   refine aqT (rows := [_, _]) rfl (by kernel_rfl) ⟨
    okp rfl rfl (oqM (lN rfl) rfl),
    okp rfl rfl (oqA (lN rfl) rfl),
    trivial⟩ ?_
   refine fqK (s' := [kt 0 (.f (.func 149) [] [.p 1 0, .p 6 0, .p 3 0, .p 5 0]), kt 2 (.p 7 0), kt 3 (.p 8 0), kt 4 (.i 1), kt 5 (.i 1), (.u 0 3, some (.x (.p 1 0))), (.u 0 5, some (.x (.p 3 0))), (.u 0 6, some (.x (.p 4 0))), (.u 0 7, some (.x (.p 5 0))), (.u 0 8, some (.x (.p 6 0))), (.u 0 15, some (.x (.f (.func 149) [] [.p 1 0, .p 6 0, .p 3 0, .p 5 0]))), kb 1 187 8, kb 3 3 1, kb 4 187 8, kb 5 206 4, kb 6 206 4, kb 7 187 8, kb 8 187 8, kc 1 0 (.i a0.A.Lo), kc 1 1 (.i a0.A.Hi), kc 1 2 (.i a0.B.Lo), kc 1 3 (.i a0.B.Hi), kc 1 4 (.i a0.C.Lo), kc 1 5 (.i a0.C.Hi), kc 1 6 (.i a0.D.Lo), kc 1 7 (.i a0.D.Hi), kc 3 0 (.i a2), kc 4 0 (.i 0), kc 4 1 (.i 0), kc 4 2 (.i 0), kc 4 3 (.i 0), kc 4 4 (.i 0), kc 4 5 (.i 0), kc 4 6 (.i 0), kc 4 7 (.i 0), kc 5 0 (.i a1.Up.Conc), kc 5 1 (.i a1.Up.Thick), kc 5 2 (.i a1.Up.Ridge), kc 5 3 (.i a1.Up.Press), kc 6 0 (.i a1.Down.Conc), kc 6 1 (.i a1.Down.Thick), kc 6 2 (.i a1.Down.Ridge), kc 6 3 (.i a1.Down.Press), kc 7 0 (.i 0), kc 7 1 (.i 0), kc 7 2 (.i 0), kc 7 3 (.i 0), kc 7 4 (.i 0), kc 7 5 (.i 0), kc 7 6 (.i 0), kc 7 7 (.i 0), kc 8 0 (.i v2.1), kc 8 1 (.i v2.2), kc 8 2 (.i 0), kc 8 3 (.i 0), kc 8 4 (.i 0), kc 8 5 (.i 0), kc 8 6 (.i 0), kc 8 7 (.i 0)]) ?_ (kp rfl) rfl
   refine fqT ?_
   obtain ⟨v5, hv5, hm⟩ := bnd_some hm
   refine aqT (rows := [_, _, _, _, _, _]) rfl (by kernel_rfl) ⟨
    okp rfl rfl (oqM (lN rfl) rfl),
    okp rfl rfl (oqM (lN rfl) rfl),
    okp rfl rfl (oqM (lN rfl) rfl),
    okp rfl rfl (oqN (fs := []) (caps := [.p 1 0, .p 6 0, .p 3 0, .p 5 0]) (xs := [.i 1]) (Nk := 33) (.g [.i v5.1, .i v5.2]) (tqS [(0, .f (.func 149) [] [.p 1 0, .p 6 0, .p 3 0, .p 5 0]), (2, .p 7 0), (3, .p 8 0), (4, .i 1), (5, .i 1), (8, .i 1), (9, .f (.func 149) [] [.p 1 0, .p 6 0, .p 3 0, .p 5 0]), (10, .i 1)] ++ ((([(.u 0 3, some (.x (.p 1 0))), (.u 0 5, some (.x (.p 3 0))), (.u 0 6, some (.x (.p 4 0))), (.u 0 7, some (.x (.p 5 0))), (.u 0 8, some (.x (.p 6 0))), (.u 0 15, some (.x (.f (.func 149) [] [.p 1 0, .p 6 0, .p 3 0, .p 5 0]))), kb 1 187 8, kb 3 3 1, kb 4 187 8, kb 5 206 4, kb 6 206 4, kb 7 187 8, kb 8 187 8, kc 1 0 (.i a0.A.Lo), kc 1 1 (.i a0.A.Hi), kc 1 2 (.i a0.B.Lo), kc 1 3 (.i a0.B.Hi), kc 1 4 (.i a0.C.Lo), kc 1 5 (.i a0.C.Hi), kc 1 6 (.i a0.D.Lo), kc 1 7 (.i a0.D.Hi), kc 3 0 (.i a2), kc 4 0 (.i 0), kc 4 1 (.i 0)] : St) ++ (([kc 4 2 (.i 0), kc 4 3 (.i 0), kc 4 4 (.i 0), kc 4 5 (.i 0), kc 4 6 (.i 0), kc 4 7 (.i 0), kc 5 0 (.i a1.Up.Conc), kc 5 1 (.i a1.Up.Thick), kc 5 2 (.i a1.Up.Ridge), kc 5 3 (.i a1.Up.Press), kc 6 0 (.i a1.Down.Conc), kc 6 1 (.i a1.Down.Thick), kc 6 2 (.i a1.Down.Ridge), kc 6 3 (.i a1.Down.Press), kc 7 0 (.i 0), kc 7 1 (.i 0), kc 7 2 (.i 0), kc 7 3 (.i 0), kc 7 4 (.i 0), kc 7 5 (.i 0), kc 7 6 (.i 0), kc 7 7 (.i 0), kc 8 0 (.i v2.1), kc 8 1 (.i v2.2)] : St) ++ (([kc 8 2 (.i 0), kc 8 3 (.i 0), kc 8 4 (.i 0), kc 8 5 (.i 0), kc 8 6 (.i 0), kc 8 7 (.i 0)] : St)))) ++ dqS [])) 1 [(0, .f (.func 149) [] [.p 1 0, .p 6 0, .p 3 0, .p 5 0]), (2, .p 7 0), (3, .p 8 0), (4, .i 1), (5, .i 1), (8, .i 1), (9, .f (.func 149) [] [.p 1 0, .p 6 0, .p 3 0, .p 5 0]), (10, .i 1)] [(.u 0 3, some (.x (.p 1 0))), (.u 0 5, some (.x (.p 3 0))), (.u 0 6, some (.x (.p 4 0))), (.u 0 7, some (.x (.p 5 0))), (.u 0 8, some (.x (.p 6 0))), (.u 0 15, some (.x (.f (.func 149) [] [.p 1 0, .p 6 0, .p 3 0, .p 5 0]))), kb 1 187 8, kb 3 3 1, kb 4 187 8, kb 5 206 4, kb 6 206 4, kb 7 187 8, kb 8 187 8, kc 1 0 (.i a0.A.Lo), kc 1 1 (.i a0.A.Hi), kc 1 2 (.i a0.B.Lo), kc 1 3 (.i a0.B.Hi), kc 1 4 (.i a0.C.Lo), kc 1 5 (.i a0.C.Hi), kc 1 6 (.i a0.D.Lo), kc 1 7 (.i a0.D.Hi), kc 3 0 (.i a2), kc 4 0 (.i 0), kc 4 1 (.i 0), kc 4 2 (.i 0), kc 4 3 (.i 0), kc 4 4 (.i 0), kc 4 5 (.i 0), kc 4 6 (.i 0), kc 4 7 (.i 0), kc 5 0 (.i a1.Up.Conc), kc 5 1 (.i a1.Up.Thick), kc 5 2 (.i a1.Up.Ridge), kc 5 3 (.i a1.Up.Press), kc 6 0 (.i a1.Down.Conc), kc 6 1 (.i a1.Down.Thick), kc 6 2 (.i a1.Down.Ridge), kc 6 3 (.i a1.Down.Press), kc 7 0 (.i 0), kc 7 1 (.i 0), kc 7 2 (.i 0), kc 7 3 (.i 0), kc 7 4 (.i 0), kc 7 5 (.i 0), kc 7 6 (.i 0), kc 7 7 (.i 0), kc 8 0 (.i v2.1), kc 8 1 (.i v2.2), kc 8 2 (.i 0), kc 8 3 (.i 0), kc 8 4 (.i 0), kc 8 5 (.i 0), kc 8 6 (.i 0), kc 8 7 (.i 0)] (lN rfl) en_149 Tryd.func149 rfl rfl (Nat.le_of_ble_eq_true rfl) rfl ⟨rfl, rfl, rfl⟩ (EvL.cons rfl EvL.nil) ⟨rfl, rfl, rfl, rfl, rfl, rfl, rfl, rfl, trivial⟩ ⟨rfl, rfl, rfl, rfl, rfl, rfl, rfl, rfl, rfl, rfl, rfl, rfl, rfl, rfl, rfl, rfl, rfl, rfl, rfl, rfl, rfl, rfl, rfl, rfl, rfl, rfl, rfl, rfl, rfl, rfl, rfl, rfl, rfl, rfl, rfl, rfl, rfl, rfl, rfl, rfl, rfl, rfl, rfl, rfl, rfl, rfl, rfl, rfl, rfl, rfl, rfl, rfl, rfl, rfl, trivial⟩ rfl rfl rfl (fun aIv5 hIv5 => ?_)),
    okp rfl rfl (op_ixA (lN rfl) rfl rfl ar_187 (by decide) (by decide)),
    okp rfl rfl (oqS sz_32 rfl rfl rfl rfl rfl (by decide)),
    trivial⟩ ?_
   ·have hm := hv5
    refine AW.keep (s' := [kt 0 (.i 1), kt 1 (.p 1 0), kt 2 (.p 6 0), kt 3 (.p 3 0), kt 4 (.p 5 0), (.u 0 3, some (.x (.p 1 0))), (.u 0 5, some (.x (.p 3 0))), (.u 0 6, some (.x (.p 4 0))), (.u 0 7, some (.x (.p 5 0))), (.u 0 8, some (.x (.p 6 0))), (.u 0 15, some (.x (.f (.func 149) [] [.p 1 0, .p 6 0, .p 3 0, .p 5 0]))), (.u 1 0, some (.x (.f (.func 149) [] [.p 1 0, .p 6 0, .p 3 0, .p 5 0]))), (.u 1 2, some (.x (.p 7 0))), (.u 1 3, some (.x (.p 8 0))), (.u 1 4, some (.x (.i 1))), (.u 1 5, some (.x (.i 1))), (.u 1 8, some (.x (.i 1))), (.u 1 9, some (.x (.f (.func 149) [] [.p 1 0, .p 6 0, .p 3 0, .p 5 0]))), (.u 1 10, some (.x (.i 1))), kb 1 187 8, kb 3 3 1, kb 4 187 8, kb 5 206 4, kb 6 206 4, kb 7 187 8, kb 8 187 8, kc 1 0 (.i a0.A.Lo), kc 1 1 (.i a0.A.Hi), kc 1 2 (.i a0.B.Lo), kc 1 3 (.i a0.B.Hi), kc 1 4 (.i a0.C.Lo), kc 1 5 (.i a0.C.Hi), kc 1 6 (.i a0.D.Lo), kc 1 7 (.i a0.D.Hi), kc 3 0 (.i a2), kc 4 0 (.i 0), kc 4 1 (.i 0), kc 4 2 (.i 0), kc 4 3 (.i 0), kc 4 4 (.i 0), kc 4 5 (.i 0), kc 4 6 (.i 0), kc 4 7 (.i 0), kc 5 0 (.i a1.Up.Conc), kc 5 1 (.i a1.Up.Thick), kc 5 2 (.i a1.Up.Ridge), kc 5 3 (.i a1.Up.Press), kc 6 0 (.i a1.Down.Conc), kc 6 1 (.i a1.Down.Thick), kc 6 2 (.i a1.Down.Ridge), kc 6 3 (.i a1.Down.Press), kc 7 0 (.i 0), kc 7 1 (.i 0), kc 7 2 (.i 0), kc 7 3 (.i 0), kc 7 4 (.i 0), kc 7 5 (.i 0), kc 7 6 (.i 0), kc 7 7 (.i 0), kc 8 0 (.i v2.1), kc 8 1 (.i v2.2), kc 8 2 (.i 0), kc 8 3 (.i 0), kc 8 4 (.i 0), kc 8 5 (.i 0), kc 8 6 (.i 0), kc 8 7 (.i 0)]) ?_ (kp rfl) rfl
    refine aqS ?_
    refine aqT (rows := [_]) rfl (by kernel_rfl) ⟨
     okp rfl rfl (oqa (L := 10) (lN rfl) zl_32),
     trivial⟩ ?_
    refine fqK (s' := [kt 0 (.i 1), kt 1 (.p 1 0), kt 2 (.p 6 0), kt 3 (.p 3 0), kt 4 (.p 5 0), kt 6 (.p 10 0), (.u 0 3, some (.x (.p 1 0))), (.u 0 5, some (.x (.p 3 0))), (.u 0 6, some (.x (.p 4 0))), (.u 0 7, some (.x (.p 5 0))), (.u 0 8, some (.x (.p 6 0))), (.u 0 15, some (.x (.f (.func 149) [] [.p 1 0, .p 6 0, .p 3 0, .p 5 0]))), (.u 1 0, some (.x (.f (.func 149) [] [.p 1 0, .p 6 0, .p 3 0, .p 5 0]))), (.u 1 2, some (.x (.p 7 0))), (.u 1 3, some (.x (.p 8 0))), (.u 1 4, some (.x (.i 1))), (.u 1 5, some (.x (.i 1))), (.u 1 8, some (.x (.i 1))), (.u 1 9, some (.x (.f (.func 149) [] [.p 1 0, .p 6 0, .p 3 0, .p 5 0]))), (.u 1 10, some (.x (.i 1))), kb 1 187 8, kb 3 3 1, kb 4 187 8, kb 5 206 4, kb 6 206 4, kb 7 187 8, kb 8 187 8, kb 10 32 2, kc 1 0 (.i a0.A.Lo), kc 1 1 (.i a0.A.Hi), kc 1 2 (.i a0.B.Lo), kc 1 3 (.i a0.B.Hi), kc 1 4 (.i a0.C.Lo), kc 1 5 (.i a0.C.Hi), kc 1 6 (.i a0.D.Lo), kc 1 7 (.i a0.D.Hi), kc 3 0 (.i a2), kc 4 0 (.i 0), kc 4 1 (.i 0), kc 4 2 (.i 0), kc 4 3 (.i 0), kc 4 4 (.i 0), kc 4 5 (.i 0), kc 4 6 (.i 0), kc 4 7 (.i 0), kc 5 0 (.i a1.Up.Conc), kc 5 1 (.i a1.Up.Thick), kc 5 2 (.i a1.Up.Ridge), kc 5 3 (.i a1.Up.Press), kc 6 0 (.i a1.Down.Conc), kc 6 1 (.i a1.Down.Thick), kc 6 2 (.i a1.Down.Ridge), kc 6 3 (.i a1.Down.Press), kc 7 0 (.i 0), kc 7 1 (.i 0), kc 7 2 (.i 0), kc 7 3 (.i 0), kc 7 4 (.i 0), kc 7 5 (.i 0), kc 7 6 (.i 0), kc 7 7 (.i 0), kc 8 0 (.i v2.1), kc 8 1 (.i v2.2), kc 8 2 (.i 0), kc 8 3 (.i 0), kc 8 4 (.i 0), kc 8 5 (.i 0), kc 8 6 (.i 0), kc 8 7 (.i 0), kc 10 0 (.i 0), kc 10 1 (.i 0)]) ?_ (kp rfl) rfl
    refine fqT ?_
    refine aqS ?_
    obtain ⟨v6, hv6, hm⟩ := bnd_some hm
    obtain ⟨hp5, hm⟩ := chk_some hm
    obtain ⟨v7, hv7, hm⟩ := bnd_some hm
    obtain ⟨hp6, hm⟩ := chk_some hm
    refine aw_any (rows := [_, _, _, _, _, _, _, _, _, _, _, _, _, _, _, _, _, _, _, _, _, _, _, _, _, _, _]) (M := [0, 1, 3, 7, 0, 16, 48, 0, 240, 511, 1023, 0, 2048, 6144, 14336, 0, 32768, 98304, 0, 492016, 1047024, 1016304, 0, 7307760, 16775664, 33554431, 67108863]) Tryd_mixed (by kernel_rfl) rfl (by kernel_rfl) ⟨
     okp rfl rfl (oqM (lN rfl) rfl),
     okp rfl rfl (op_ixA (lN rfl) rfl rfl ar_187 (by decide) (by decide)),
     okp rfl rfl (oqF (lN rfl) rfl fo_32_0),
     okp rfl rfl (oq1 (lN rfl) sh_3 rfl rfl),
     okp rfl rfl (oqM (lN rfl) rfl),
     okp rfl rfl (op_ixA (lN rfl) rfl rfl ar_206 (by decide) (by decide)),
     okp rfl rfl (oq1 (lN rfl) sh_3 rfl rfl),
     okp rfl rfl (oq1 (lN rfl) sh_3 rfl rfl),
     okp rfl rfl (oqC (x := .i v6) (fs := []) (caps := []) (extra := []) (lN rfl) en_150 rfl ⟨rfl, rfl, rfl⟩ (EvL.cons rfl (EvL.cons rfl EvL.nil)) (fun mm aa ww gg hr hrel => (c150 F a1.Down.Thick a2 ww v6 hv6))),
     okp rfl rfl (oqB (lN rfl) rfl rfl (nw_sub hp5)),
     okp rfl rfl (op_max (lN rfl) rfl rfl),
     okp rfl rfl (oqM (lN rfl) rfl),
     okp rfl rfl (op_ixA (lN rfl) rfl rfl ar_187 (by decide) (by decide)),
     okp rfl rfl (oqF (lN rfl) rfl fo_32_1),
     okp rfl rfl (oq1 (lN rfl) sh_3 rfl rfl),
     okp rfl rfl (oqM (lN rfl) rfl),
     okp rfl rfl (op_ixA (lN rfl) rfl rfl ar_206 (by decide) (by decide)),
     okp rfl rfl (oq1 (lN rfl) sh_3 rfl rfl),
     okp rfl rfl (oq1 (lN rfl) sh_3 rfl rfl),
     okp rfl rfl (oqC (x := .i v7) (fs := []) (caps := []) (extra := []) (lN rfl) en_150 rfl ⟨rfl, rfl, rfl⟩ (EvL.cons rfl (EvL.cons rfl EvL.nil)) (fun mm aa ww gg hr hrel => (c150 F a1.Up.Thick a2 ww v7 hv7))),
     okp rfl rfl (oqB (lN rfl) rfl rfl (nw_add hp6)),
     okp rfl rfl (oqC (x := .g [.i 100, .i 400, .i 100, .i 3]) (fs := []) (caps := []) (extra := []) (lN rfl) en_151 rfl ⟨rfl, rfl, rfl⟩ EvL.nil (fun mm aa ww gg hr hrel => (c151 ww))),
     okp rfl rfl (oqM (lN rfl) rfl),
     okp rfl rfl (oqI (lN rfl) rfl rfl ar_206 ⟨_, _, un_206, sh_3⟩ (by decide) (by decide) rfl),
     okp rfl rfl (op_min (lN rfl) rfl rfl),
     okp rfl rfl (op_build (x := .g [.i (if 0 > (a0.B.Lo - v6) then 0 else a0.B.Lo - v6), .i (if 400 < (a0.B.Hi + v7) then 400 else a0.B.Hi + v7)]) (lN rfl) (EvL.cons rfl (EvL.cons rfl EvL.nil)) (fun m w => by kernel_rfl)),
     okp rfl rfl (oqS sz_32 rfl rfl rfl rfl rfl (by decide)),
     trivial⟩ ?_
    refine fqK (s' := [kt 6 (.p 10 0), (.u 0 3, some (.x (.p 1 0))), (.u 0 5, some (.x (.p 3 0))), (.u 0 6, some (.x (.p 4 0))), (.u 0 7, some (.x (.p 5 0))), (.u 0 8, some (.x (.p 6 0))), (.u 0 15, some (.x (.f (.func 149) [] [.p 1 0, .p 6 0, .p 3 0, .p 5 0]))), (.u 1 0, some (.x (.f (.func 149) [] [.p 1 0, .p 6 0, .p 3 0, .p 5 0]))), (.u 1 2, some (.x (.p 7 0))), (.u 1 3, some (.x (.p 8 0))), (.u 1 4, some (.x (.i 1))), (.u 1 5, some (.x (.i 1))), (.u 1 8, some (.x (.i 1))), (.u 1 9, some (.x (.f (.func 149) [] [.p 1 0, .p 6 0, .p 3 0, .p 5 0]))), (.u 1 10, some (.x (.i 1))), kb 1 187 8, kb 3 3 1, kb 4 187 8, kb 5 206 4, kb 6 206 4, kb 7 187 8, kb 8 187 8, kb 10 32 2, kc 1 0 (.i a0.A.Lo), kc 1 1 (.i a0.A.Hi), kc 1 2 (.i a0.B.Lo), kc 1 3 (.i a0.B.Hi), kc 1 4 (.i a0.C.Lo), kc 1 5 (.i a0.C.Hi), kc 1 6 (.i a0.D.Lo), kc 1 7 (.i a0.D.Hi), kc 3 0 (.i a2), kc 4 0 (.i 0), kc 4 1 (.i 0), kc 4 2 (.i 0), kc 4 3 (.i 0), kc 4 4 (.i 0), kc 4 5 (.i 0), kc 4 6 (.i 0), kc 4 7 (.i 0), kc 5 0 (.i a1.Up.Conc), kc 5 1 (.i a1.Up.Thick), kc 5 2 (.i a1.Up.Ridge), kc 5 3 (.i a1.Up.Press), kc 6 0 (.i a1.Down.Conc), kc 6 1 (.i a1.Down.Thick), kc 6 2 (.i a1.Down.Ridge), kc 6 3 (.i a1.Down.Press), kc 7 0 (.i 0), kc 7 1 (.i 0), kc 7 2 (.i 0), kc 7 3 (.i 0), kc 7 4 (.i 0), kc 7 5 (.i 0), kc 7 6 (.i 0), kc 7 7 (.i 0), kc 8 0 (.i v2.1), kc 8 1 (.i v2.2), kc 8 2 (.i 0), kc 8 3 (.i 0), kc 8 4 (.i 0), kc 8 5 (.i 0), kc 8 6 (.i 0), kc 8 7 (.i 0), kc 10 0 (.i (if 0 > (a0.B.Lo - v6) then 0 else a0.B.Lo - v6)), kc 10 1 (.i (if 400 < (a0.B.Hi + v7) then 400 else a0.B.Hi + v7))]) ?_ (kp rfl) rfl
    refine fqT ?_
    refine aqr ?_
    have hm := Option.some.inj hm
    subst hm
    exact fin_callEnd _ _ _ (.inl rfl) rfl rfl (rqC (ys := [.i (if 0 > (a0.B.Lo - v6) then 0 else a0.B.Lo - v6), .i (if 400 < (a0.B.Hi + v7) then 400 else a0.B.Hi + v7)]) rfl sh_32 rfl ⟨rfl, rfl, trivial⟩ rqN) rfl hIv5 ⟨rfl, rfl, rfl, rfl, rfl, rfl, rfl, rfl, trivial⟩ ⟨rfl, rfl, rfl, rfl, rfl, rfl, rfl, rfl, rfl, rfl, rfl, rfl, rfl, rfl, rfl, rfl, rfl, rfl, rfl, rfl, rfl, rfl, rfl, rfl, rfl, rfl, rfl, rfl, rfl, rfl, rfl, rfl, rfl, rfl, rfl, rfl, rfl, rfl, rfl, rfl, rfl, rfl, rfl, rfl, rfl, rfl, rfl, rfl, rfl, rfl, rfl, rfl, rfl, rfl, trivial⟩ rfl rfl
   refine fqK (s' := [kt 0 (.f (.func 149) [] [.p 1 0, .p 6 0, .p 3 0, .p 5 0]), kt 2 (.p 7 0), kt 3 (.p 8 0), kt 5 (.i 1), (.u 0 3, some (.x (.p 1 0))), (.u 0 5, some (.x (.p 3 0))), (.u 0 6, some (.x (.p 4 0))), (.u 0 7, some (.x (.p 5 0))), (.u 0 8, some (.x (.p 6 0))), (.u 0 15, some (.x (.f (.func 149) [] [.p 1 0, .p 6 0, .p 3 0, .p 5 0]))), kb 1 187 8, kb 3 3 1, kb 4 187 8, kb 5 206 4, kb 6 206 4, kb 7 187 8, kb 8 187 8, kc 1 0 (.i a0.A.Lo), kc 1 1 (.i a0.A.Hi), kc 1 2 (.i a0.B.Lo), kc 1 3 (.i a0.B.Hi), kc 1 4 (.i a0.C.Lo), kc 1 5 (.i a0.C.Hi), kc 1 6 (.i a0.D.Lo), kc 1 7 (.i a0.D.Hi), kc 3 0 (.i a2), kc 4 0 (.i 0), kc 4 1 (.i 0), kc 4 2 (.i 0), kc 4 3 (.i 0), kc 4 4 (.i 0), kc 4 5 (.i 0), kc 4 6 (.i 0), kc 4 7 (.i 0), kc 5 0 (.i a1.Up.Conc), kc 5 1 (.i a1.Up.Thick), kc 5 2 (.i a1.Up.Ridge), kc 5 3 (.i a1.Up.Press), kc 6 0 (.i a1.Down.Conc), kc 6 1 (.i a1.Down.Thick), kc 6 2 (.i a1.Down.Ridge), kc 6 3 (.i a1.Down.Press), kc 7 0 (.i 0), kc 7 1 (.i 0), kc 7 2 (.i 0), kc 7 3 (.i 0), kc 7 4 (.i 0), kc 7 5 (.i 0), kc 7 6 (.i 0), kc 7 7 (.i 0), kc 8 0 (.i v2.1), kc 8 1 (.i v2.2), kc 8 2 (.i v5.1), kc 8 3 (.i v5.2), kc 8 4 (.i 0), kc 8 5 (.i 0), kc 8 6 (.i 0), kc 8 7 (.i 0)]) ?_ (kp rfl) rfl
   refine fqB ?_
   refine fqT ?_
   refine aqT (rows := [_, _]) rfl (by kernel_rfl) ⟨
    okp rfl rfl (oqB (r := .int .i64 2) (lN rfl) rfl rfl rfl),
    okp rfl rfl (oqM (lN rfl) rfl),
    trivial⟩ ?_
   refine fqK (s' := [kt 0 (.f (.func 149) [] [.p 1 0, .p 6 0, .p 3 0, .p 5 0]), kt 2 (.p 7 0), kt 3 (.p 8 0), kt 5 (.i 2), (.u 0 3, some (.x (.p 1 0))), (.u 0 5, some (.x (.p 3 0))), (.u 0 6, some (.x (.p 4 0))), (.u 0 7, some (.x (.p 5 0))), (.u 0 8, some (.x (.p 6 0))), (.u 0 15, some (.x (.f (.func 149) [] [.p 1 0, .p 6 0, .p 3 0, .p 5 0]))), kb 1 187 8, kb 3 3 1, kb 4 187 8, kb 5 206 4, kb 6 206 4, kb 7 187 8, kb 8 187 8, kc 1 0 (.i a0.A.Lo), kc 1 1 (.i a0.A.Hi), kc 1 2 (.i a0.B.Lo), kc 1 3 (.i a0.B.Hi), kc 1 4 (.i a0.C.Lo), kc 1 5 (.i a0.C.Hi), kc 1 6 (.i a0.D.Lo), kc 1 7 (.i a0.D.Hi), kc 3 0 (.i a2), kc 4 0 (.i 0), kc 4 1 (.i 0), kc 4 2 (.i 0), kc 4 3 (.i 0), kc 4 4 (.i 0), kc 4 5 (.i 0), kc 4 6 (.i 0), kc 4 7 (.i 0), kc 5 0 (.i a1.Up.Conc), kc 5 1 (.i a1.Up.Thick), kc 5 2 (.i a1.Up.Ridge), kc 5 3 (.i a1.Up.Press), kc 6 0 (.i a1.Down.Conc), kc 6 1 (.i a1.Down.Thick), kc 6 2 (.i a1.Down.Ridge), kc 6 3 (.i a1.Down.Press), kc 7 0 (.i 0), kc 7 1 (.i 0), kc 7 2 (.i 0), kc 7 3 (.i 0), kc 7 4 (.i 0), kc 7 5 (.i 0), kc 7 6 (.i 0), kc 7 7 (.i 0), kc 8 0 (.i v2.1), kc 8 1 (.i v2.2), kc 8 2 (.i v5.1), kc 8 3 (.i v5.2), kc 8 4 (.i 0), kc 8 5 (.i 0), kc 8 6 (.i 0), kc 8 7 (.i 0)]) ?_ (kp rfl) rfl
   refine fin_round ?_
   refine aqS ?_
   refine aqT (rows := [_]) rfl (by kernel_rfl) ⟨
    okp rfl rfl (oqB (r := .bool true) (lN rfl) rfl rfl rfl),
    trivial⟩ ?_
   refine fqK (s' := [kt 0 (.f (.func 149) [] [.p 1 0, .p 6 0, .p 3 0, .p 5 0]), kt 2 (.p 7 0), kt 3 (.p 8 0), kt 5 (.i 2), kt 6 (.B true), (.u 0 3, some (.x (.p 1 0))), (.u 0 5, some (.x (.p 3 0))), (.u 0 6, some (.x (.p 4 0))), (.u 0 7, some (.x (.p 5 0))), (.u 0 8, some (.x (.p 6 0))), (.u 0 15, some (.x (.f (.func 149) [] [.p 1 0, .p 6 0, .p 3 0, .p 5 0]))), kb 1 187 8, kb 3 3 1, kb 4 187 8, kb 5 206 4, kb 6 206 4, kb 7 187 8, kb 8 187 8, kc 1 0 (.i a0.A.Lo), kc 1 1 (.i a0.A.Hi), kc 1 2 (.i a0.B.Lo), kc 1 3 (.i a0.B.Hi), kc 1 4 (.i a0.C.Lo), kc 1 5 (.i a0.C.Hi), kc 1 6 (.i a0.D.Lo), kc 1 7 (.i a0.D.Hi), kc 3 0 (.i a2), kc 4 0 (.i 0), kc 4 1 (.i 0), kc 4 2 (.i 0), kc 4 3 (.i 0), kc 4 4 (.i 0), kc 4 5 (.i 0), kc 4 6 (.i 0), kc 4 7 (.i 0), kc 5 0 (.i a1.Up.Conc), kc 5 1 (.i a1.Up.Thick), kc 5 2 (.i a1.Up.Ridge), kc 5 3 (.i a1.Up.Press), kc 6 0 (.i a1.Down.Conc), kc 6 1 (.i a1.Down.Thick), kc 6 2 (.i a1.Down.Ridge), kc 6 3 (.i a1.Down.Press), kc 7 0 (.i 0), kc 7 1 (.i 0), kc 7 2 (.i 0), kc 7 3 (.i 0), kc 7 4 (.i 0), kc 7 5 (.i 0), kc 7 6 (.i 0), kc 7 7 (.i 0), kc 8 0 (.i v2.1), kc 8 1 (.i v2.2), kc 8 2 (.i v5.1), kc 8 3 (.i v5.2), kc 8 4 (.i 0), kc 8 5 (.i 0), kc 8 6 (.i 0), kc 8 7 (.i 0)]) ?_ (kp rfl) rfl
   refine fqT ?_
   refine aqS ?_
   refine aqc rfl (fun hz7 => ?_) (fun hz7 => by cases hz7)
   refine aqk ?_
   refine fqT ?_
   refine aqS ?_
   refine aw_block ?_
   refine aqS ?_
   refine aqT (rows := [_, _]) rfl (by kernel_rfl) ⟨
    okp rfl rfl (oqM (lN rfl) rfl),
    okp rfl rfl (oqA (lN rfl) rfl),
    trivial⟩ ?_
   refine fqK (s' := [kt 0 (.f (.func 149) [] [.p 1 0, .p 6 0, .p 3 0, .p 5 0]), kt 2 (.p 7 0), kt 3 (.p 8 0), kt 4 (.i 2), kt 5 (.i 2), (.u 0 3, some (.x (.p 1 0))), (.u 0 5, some (.x (.p 3 0))), (.u 0 6, some (.x (.p 4 0))), (.u 0 7, some (.x (.p 5 0))), (.u 0 8, some (.x (.p 6 0))), (.u 0 15, some (.x (.f (.func 149) [] [.p 1 0, .p 6 0, .p 3 0, .p 5 0]))), kb 1 187 8, kb 3 3 1, kb 4 187 8, kb 5 206 4, kb 6 206 4, kb 7 187 8, kb 8 187 8, kc 1 0 (.i a0.A.Lo), kc 1 1 (.i a0.A.Hi), kc 1 2 (.i a0.B.Lo), kc 1 3 (.i a0.B.Hi), kc 1 4 (.i a0.C.Lo), kc 1 5 (.i a0.C.Hi), kc 1 6 (.i a0.D.Lo), kc 1 7 (.i a0.D.Hi), kc 3 0 (.i a2), kc 4 0 (.i 0), kc 4 1 (.i 0), kc 4 2 (.i 0), kc 4 3 (.i 0), kc 4 4 (.i 0), kc 4 5 (.i 0), kc 4 6 (.i 0), kc 4 7 (.i 0), kc 5 0 (.i a1.Up.Conc), kc 5 1 (.i a1.Up.Thick), kc 5 2 (.i a1.Up.Ridge), kc 5 3 (.i a1.Up.Press), kc 6 0 (.i a1.Down.Conc), kc 6 1 (.i a1.Down.Thick), kc 6 2 (.i a1.Down.Ridge), kc 6 3 (.i a1.Down.Press), kc 7 0 (.i 0), kc 7 1 (.i 0), kc 7 2 (.i 0), kc 7 3 (.i 0), kc 7 4 (.i 0), kc 7 5 (.i 0), kc 7 6 (.i 0), kc 7 7 (.i 0), kc 8 0 (.i v2.1), kc 8 1 (.i v2.2), kc 8 2 (.i v5.1), kc 8 3 (.i v5.2), kc 8 4 (.i 0), kc 8 5 (.i 0), kc 8 6 (.i 0), kc 8 7 (.i 0)]) ?_ (kp rfl) rfl
   refine fqT ?_
   obtain ⟨v8, hv8, hm⟩ := bnd_some hm
   refine aqT (rows := [_, _, _, _, _, _]) rfl (by kernel_rfl) ⟨
    okp rfl rfl (oqM (lN rfl) rfl),
    okp rfl rfl (oqM (lN rfl) rfl),
    okp rfl rfl (oqM (lN rfl) rfl),
    okp rfl rfl (oqN (fs := []) (caps := [.p 1 0, .p 6 0, .p 3 0, .p 5 0]) (xs := [.i 2]) (Nk := 33) (.g [.i v8.1, .i v8.2]) (tqS [(0, .f (.func 149) [] [.p 1 0, .p 6 0, .p 3 0, .p 5 0]), (2, .p 7 0), (3, .p 8 0), (4, .i 2), (5, .i 2), (8, .i 2), (9, .f (.func 149) [] [.p 1 0, .p 6 0, .p 3 0, .p 5 0]), (10, .i 2)] ++ ((([(.u 0 3, some (.x (.p 1 0))), (.u 0 5, some (.x (.p 3 0))), (.u 0 6, some (.x (.p 4 0))), (.u 0 7, some (.x (.p 5 0))), (.u 0 8, some (.x (.p 6 0))), (.u 0 15, some (.x (.f (.func 149) [] [.p 1 0, .p 6 0, .p 3 0, .p 5 0]))), kb 1 187 8, kb 3 3 1, kb 4 187 8, kb 5 206 4, kb 6 206 4, kb 7 187 8, kb 8 187 8, kc 1 0 (.i a0.A.Lo), kc 1 1 (.i a0.A.Hi), kc 1 2 (.i a0.B.Lo), kc 1 3 (.i a0.B.Hi), kc 1 4 (.i a0.C.Lo), kc 1 5 (.i a0.C.Hi), kc 1 6 (.i a0.D.Lo), kc 1 7 (.i a0.D.Hi), kc 3 0 (.i a2), kc 4 0 (.i 0), kc 4 1 (.i 0)] : St) ++ (([kc 4 2 (.i 0), kc 4 3 (.i 0), kc 4 4 (.i 0), kc 4 5 (.i 0), kc 4 6 (.i 0), kc 4 7 (.i 0), kc 5 0 (.i a1.Up.Conc), kc 5 1 (.i a1.Up.Thick), kc 5 2 (.i a1.Up.Ridge), kc 5 3 (.i a1.Up.Press), kc 6 0 (.i a1.Down.Conc), kc 6 1 (.i a1.Down.Thick), kc 6 2 (.i a1.Down.Ridge), kc 6 3 (.i a1.Down.Press), kc 7 0 (.i 0), kc 7 1 (.i 0), kc 7 2 (.i 0), kc 7 3 (.i 0), kc 7 4 (.i 0), kc 7 5 (.i 0), kc 7 6 (.i 0), kc 7 7 (.i 0), kc 8 0 (.i v2.1), kc 8 1 (.i v2.2)] : St) ++ (([kc 8 2 (.i v5.1), kc 8 3 (.i v5.2), kc 8 4 (.i 0), kc 8 5 (.i 0), kc 8 6 (.i 0), kc 8 7 (.i 0)] : St)))) ++ dqS [])) 1 [(0, .f (.func 149) [] [.p 1 0, .p 6 0, .p 3 0, .p 5 0]), (2, .p 7 0), (3, .p 8 0), (4, .i 2), (5, .i 2), (8, .i 2), (9, .f (.func 149) [] [.p 1 0, .p 6 0, .p 3 0, .p 5 0]), (10, .i 2)] [(.u 0 3, some (.x (.p 1 0))), (.u 0 5, some (.x (.p 3 0))), (.u 0 6, some (.x (.p 4 0))), (.u 0 7, some (.x (.p 5 0))), (.u 0 8, some (.x (.p 6 0))), (.u 0 15, some (.x (.f (.func 149) [] [.p 1 0, .p 6 0, .p 3 0, .p 5 0]))), kb 1 187 8, kb 3 3 1, kb 4 187 8, kb 5 206 4, kb 6 206 4, kb 7 187 8, kb 8 187 8, kc 1 0 (.i a0.A.Lo), kc 1 1 (.i a0.A.Hi), kc 1 2 (.i a0.B.Lo), kc 1 3 (.i a0.B.Hi), kc 1 4 (.i a0.C.Lo), kc 1 5 (.i a0.C.Hi), kc 1 6 (.i a0.D.Lo), kc 1 7 (.i a0.D.Hi), kc 3 0 (.i a2), kc 4 0 (.i 0), kc 4 1 (.i 0), kc 4 2 (.i 0), kc 4 3 (.i 0), kc 4 4 (.i 0), kc 4 5 (.i 0), kc 4 6 (.i 0), kc 4 7 (.i 0), kc 5 0 (.i a1.Up.Conc), kc 5 1 (.i a1.Up.Thick), kc 5 2 (.i a1.Up.Ridge), kc 5 3 (.i a1.Up.Press), kc 6 0 (.i a1.Down.Conc), kc 6 1 (.i a1.Down.Thick), kc 6 2 (.i a1.Down.Ridge), kc 6 3 (.i a1.Down.Press), kc 7 0 (.i 0), kc 7 1 (.i 0), kc 7 2 (.i 0), kc 7 3 (.i 0), kc 7 4 (.i 0), kc 7 5 (.i 0), kc 7 6 (.i 0), kc 7 7 (.i 0), kc 8 0 (.i v2.1), kc 8 1 (.i v2.2), kc 8 2 (.i v5.1), kc 8 3 (.i v5.2), kc 8 4 (.i 0), kc 8 5 (.i 0), kc 8 6 (.i 0), kc 8 7 (.i 0)] (lN rfl) en_149 Tryd.func149 rfl rfl (Nat.le_of_ble_eq_true rfl) rfl ⟨rfl, rfl, rfl⟩ (EvL.cons rfl EvL.nil) ⟨rfl, rfl, rfl, rfl, rfl, rfl, rfl, rfl, trivial⟩ ⟨rfl, rfl, rfl, rfl, rfl, rfl, rfl, rfl, rfl, rfl, rfl, rfl, rfl, rfl, rfl, rfl, rfl, rfl, rfl, rfl, rfl, rfl, rfl, rfl, rfl, rfl, rfl, rfl, rfl, rfl, rfl, rfl, rfl, rfl, rfl, rfl, rfl, rfl, rfl, rfl, rfl, rfl, rfl, rfl, rfl, rfl, rfl, rfl, rfl, rfl, rfl, rfl, rfl, rfl, trivial⟩ rfl rfl rfl (fun aIv8 hIv8 => ?_)),
    okp rfl rfl (op_ixA (lN rfl) rfl rfl ar_187 (by decide) (by decide)),
    okp rfl rfl (oqS sz_32 rfl rfl rfl rfl rfl (by decide)),
    trivial⟩ ?_
   ·have hm := hv8
    refine AW.keep (s' := [kt 0 (.i 2), kt 1 (.p 1 0), kt 2 (.p 6 0), kt 3 (.p 3 0), kt 4 (.p 5 0), (.u 0 3, some (.x (.p 1 0))), (.u 0 5, some (.x (.p 3 0))), (.u 0 6, some (.x (.p 4 0))), (.u 0 7, some (.x (.p 5 0))), (.u 0 8, some (.x (.p 6 0))), (.u 0 15, some (.x (.f (.func 149) [] [.p 1 0, .p 6 0, .p 3 0, .p 5 0]))), (.u 1 0, some (.x (.f (.func 149) [] [.p 1 0, .p 6 0, .p 3 0, .p 5 0]))), (.u 1 2, some (.x (.p 7 0))), (.u 1 3, some (.x (.p 8 0))), (.u 1 4, some (.x (.i 2))), (.u 1 5, some (.x (.i 2))), (.u 1 8, some (.x (.i 2))), (.u 1 9, some (.x (.f (.func 149) [] [.p 1 0, .p 6 0, .p 3 0, .p 5 0]))), (.u 1 10, some (.x (.i 2))), kb 1 187 8, kb 3 3 1, kb 4 187 8, kb 5 206 4, kb 6 206 4, kb 7 187 8, kb 8 187 8, kc 1 0 (.i a0.A.Lo), kc 1 1 (.i a0.A.Hi), kc 1 2 (.i a0.B.Lo), kc 1 3 (.i a0.B.Hi), kc 1 4 (.i a0.C.Lo), kc 1 5 (.i a0.C.Hi), kc 1 6 (.i a0.D.Lo), kc 1 7 (.i a0.D.Hi), kc 3 0 (.i a2), kc 4 0 (.i 0), kc 4 1 (.i 0), kc 4 2 (.i 0), kc 4 3 (.i 0), kc 4 4 (.i 0), kc 4 5 (.i 0), kc 4 6 (.i 0), kc 4 7 (.i 0), kc 5 0 (.i a1.Up.Conc), kc 5 1 (.i a1.Up.Thick), kc 5 2 (.i a1.Up.Ridge), kc 5 3 (.i a1.Up.Press), kc 6 0 (.i a1.Down.Conc), kc 6 1 (.i a1.Down.Thick), kc 6 2 (.i a1.Down.Ridge), kc 6 3 (.i a1.Down.Press), kc 7 0 (.i 0), kc 7 1 (.i 0), kc 7 2 (.i 0), kc 7 3 (.i 0), kc 7 4 (.i 0), kc 7 5 (.i 0), kc 7 6 (.i 0), kc 7 7 (.i 0), kc 8 0 (.i v2.1), kc 8 1 (.i v2.2), kc 8 2 (.i v5.1), kc 8 3 (.i v5.2), kc 8 4 (.i 0), kc 8 5 (.i 0), kc 8 6 (.i 0), kc 8 7 (.i 0)]) ?_ (kp rfl) rfl
    refine aqS ?_
    refine aqT (rows := [_]) rfl (by kernel_rfl) ⟨
     okp rfl rfl (oqa (L := 11) (lN rfl) zl_32),
     trivial⟩ ?_
    refine fqK (s' := [kt 0 (.i 2), kt 1 (.p 1 0), kt 2 (.p 6 0), kt 3 (.p 3 0), kt 4 (.p 5 0), kt 6 (.p 11 0), (.u 0 3, some (.x (.p 1 0))), (.u 0 5, some (.x (.p 3 0))), (.u 0 6, some (.x (.p 4 0))), (.u 0 7, some (.x (.p 5 0))), (.u 0 8, some (.x (.p 6 0))), (.u 0 15, some (.x (.f (.func 149) [] [.p 1 0, .p 6 0, .p 3 0, .p 5 0]))), (.u 1 0, some (.x (.f (.func 149) [] [.p 1 0, .p 6 0, .p 3 0, .p 5 0]))), (.u 1 2, some (.x (.p 7 0))), (.u 1 3, some (.x (.p 8 0))), (.u 1 4, some (.x (.i 2))), (.u 1 5, some (.x (.i 2))), (.u 1 8, some (.x (.i 2))), (.u 1 9, some (.x (.f (.func 149) [] [.p 1 0, .p 6 0, .p 3 0, .p 5 0]))), (.u 1 10, some (.x (.i 2))), kb 1 187 8, kb 3 3 1, kb 4 187 8, kb 5 206 4, kb 6 206 4, kb 7 187 8, kb 8 187 8, kb 11 32 2, kc 1 0 (.i a0.A.Lo), kc 1 1 (.i a0.A.Hi), kc 1 2 (.i a0.B.Lo), kc 1 3 (.i a0.B.Hi), kc 1 4 (.i a0.C.Lo), kc 1 5 (.i a0.C.Hi), kc 1 6 (.i a0.D.Lo), kc 1 7 (.i a0.D.Hi), kc 3 0 (.i a2), kc 4 0 (.i 0), kc 4 1 (.i 0), kc 4 2 (.i 0), kc 4 3 (.i 0), kc 4 4 (.i 0), kc 4 5 (.i 0), kc 4 6 (.i 0), kc 4 7 (.i 0), kc 5 0 (.i a1.Up.Conc), kc 5 1 (.i a1.Up.Thick), kc 5 2 (.i a1.Up.Ridge), kc 5 3 (.i a1.Up.Press), kc 6 0 (.i a1.Down.Conc), kc 6 1 (.i a1.Down.Thick), kc 6 2 (.i a1.Down.Ridge), kc 6 3 (.i a1.Down.Press), kc 7 0 (.i 0), kc 7 1 (.i 0), kc 7 2 (.i 0), kc 7 3 (.i 0), kc 7 4 (.i 0), kc 7 5 (.i 0), kc 7 6 (.i 0), kc 7 7 (.i 0), kc 8 0 (.i v2.1), kc 8 1 (.i v2.2), kc 8 2 (.i v5.1), kc 8 3 (.i v5.2), kc 8 4 (.i 0), kc 8 5 (.i 0), kc 8 6 (.i 0), kc 8 7 (.i 0), kc 11 0 (.i 0), kc 11 1 (.i 0)]) ?_ (kp rfl) rfl
    refine fqT ?_
    refine aqS ?_
    obtain ⟨v9, hv9, hm⟩ := bnd_some hm
    obtain ⟨hp8, hm⟩ := chk_some hm
    obtain ⟨v10, hv10, hm⟩ := bnd_some hm
    obtain ⟨hp9, hm⟩ := chk_some hm
    refine aw_any (rows := [_, _, _, _, _, _, _, _, _, _, _, _, _, _, _, _, _, _, _, _, _, _, _, _, _, _, _]) (M := [0, 1, 3, 7, 0, 16, 48, 0, 240, 511, 1023, 0, 2048, 6144, 14336, 0, 32768, 98304, 0, 492016, 1047024, 1016304, 0, 7307760, 16775664, 33554431, 67108863]) Tryd_mixed (by kernel_rfl) rfl (by kernel_rfl) ⟨
     okp rfl rfl (oqM (lN rfl) rfl),
     okp rfl rfl (op_ixA (lN rfl) rfl rfl ar_187 (by decide) (by decide)),
     okp rfl rfl (oqF (lN rfl) rfl fo_32_0),
     okp rfl rfl (oq1 (lN rfl) sh_3 rfl rfl),
     okp rfl rfl (oqM (lN rfl) rfl),
     okp rfl rfl (op_ixA (lN rfl) rfl rfl ar_206 (by decide) (by decide)),
     okp rfl rfl (oq1 (lN rfl) sh_3 rfl rfl),
     okp rfl rfl (oq1 (lN rfl) sh_3 rfl rfl),
     okp rfl rfl (oqC (x := .i v9) (fs := []) (caps := []) (extra := []) (lN rfl) en_150 rfl ⟨rfl, rfl, rfl⟩ (EvL.cons rfl (EvL.cons rfl EvL.nil)) (fun mm aa ww gg hr hrel => (c150 F a1.Down.Ridge a2 ww v9 hv9))),
     okp rfl rfl (oqB (lN rfl) rfl rfl (nw_sub hp8)),
     okp rfl rfl (op_max (lN rfl) rfl rfl),
     okp rfl rfl (oqM (lN rfl) rfl),
     okp rfl rfl (op_ixA (lN rfl) rfl rfl ar_187 (by decide) (by decide)),
     okp rfl rfl (oqF (lN rfl) rfl fo_32_1),
     okp rfl rfl (oq1 (lN rfl) sh_3 rfl rfl),
     okp rfl rfl (oqM (lN rfl) rfl),
     okp rfl rfl (op_ixA (lN rfl) rfl rfl ar_206 (by decide) (by decide)),
     okp rfl rfl (oq1 (lN rfl) sh_3 rfl rfl),
     okp rfl rfl (oq1 (lN rfl) sh_3 rfl rfl),
     okp rfl rfl (oqC (x := .i v10) (fs := []) (caps := []) (extra := []) (lN rfl) en_150 rfl ⟨rfl, rfl, rfl⟩ (EvL.cons rfl (EvL.cons rfl EvL.nil)) (fun mm aa ww gg hr hrel => (c150 F a1.Up.Ridge a2 ww v10 hv10))),
     okp rfl rfl (oqB (lN rfl) rfl rfl (nw_add hp9)),
     okp rfl rfl (oqC (x := .g [.i 100, .i 400, .i 100, .i 3]) (fs := []) (caps := []) (extra := []) (lN rfl) en_151 rfl ⟨rfl, rfl, rfl⟩ EvL.nil (fun mm aa ww gg hr hrel => (c151 ww))),
     okp rfl rfl (oqM (lN rfl) rfl),
     okp rfl rfl (oqI (lN rfl) rfl rfl ar_206 ⟨_, _, un_206, sh_3⟩ (by decide) (by decide) rfl),
     okp rfl rfl (op_min (lN rfl) rfl rfl),
     okp rfl rfl (op_build (x := .g [.i (if 0 > (a0.C.Lo - v9) then 0 else a0.C.Lo - v9), .i (if 100 < (a0.C.Hi + v10) then 100 else a0.C.Hi + v10)]) (lN rfl) (EvL.cons rfl (EvL.cons rfl EvL.nil)) (fun m w => by kernel_rfl)),
     okp rfl rfl (oqS sz_32 rfl rfl rfl rfl rfl (by decide)),
     trivial⟩ ?_
    refine fqK (s' := [kt 6 (.p 11 0), (.u 0 3, some (.x (.p 1 0))), (.u 0 5, some (.x (.p 3 0))), (.u 0 6, some (.x (.p 4 0))), (.u 0 7, some (.x (.p 5 0))), (.u 0 8, some (.x (.p 6 0))), (.u 0 15, some (.x (.f (.func 149) [] [.p 1 0, .p 6 0, .p 3 0, .p 5 0]))), (.u 1 0, some (.x (.f (.func 149) [] [.p 1 0, .p 6 0, .p 3 0, .p 5 0]))), (.u 1 2, some (.x (.p 7 0))), (.u 1 3, some (.x (.p 8 0))), (.u 1 4, some (.x (.i 2))), (.u 1 5, some (.x (.i 2))), (.u 1 8, some (.x (.i 2))), (.u 1 9, some (.x (.f (.func 149) [] [.p 1 0, .p 6 0, .p 3 0, .p 5 0]))), (.u 1 10, some (.x (.i 2))), kb 1 187 8, kb 3 3 1, kb 4 187 8, kb 5 206 4, kb 6 206 4, kb 7 187 8, kb 8 187 8, kb 11 32 2, kc 1 0 (.i a0.A.Lo), kc 1 1 (.i a0.A.Hi), kc 1 2 (.i a0.B.Lo), kc 1 3 (.i a0.B.Hi), kc 1 4 (.i a0.C.Lo), kc 1 5 (.i a0.C.Hi), kc 1 6 (.i a0.D.Lo), kc 1 7 (.i a0.D.Hi), kc 3 0 (.i a2), kc 4 0 (.i 0), kc 4 1 (.i 0), kc 4 2 (.i 0), kc 4 3 (.i 0), kc 4 4 (.i 0), kc 4 5 (.i 0), kc 4 6 (.i 0), kc 4 7 (.i 0), kc 5 0 (.i a1.Up.Conc), kc 5 1 (.i a1.Up.Thick), kc 5 2 (.i a1.Up.Ridge), kc 5 3 (.i a1.Up.Press), kc 6 0 (.i a1.Down.Conc), kc 6 1 (.i a1.Down.Thick), kc 6 2 (.i a1.Down.Ridge), kc 6 3 (.i a1.Down.Press), kc 7 0 (.i 0), kc 7 1 (.i 0), kc 7 2 (.i 0), kc 7 3 (.i 0), kc 7 4 (.i 0), kc 7 5 (.i 0), kc 7 6 (.i 0), kc 7 7 (.i 0), kc 8 0 (.i v2.1), kc 8 1 (.i v2.2), kc 8 2 (.i v5.1), kc 8 3 (.i v5.2), kc 8 4 (.i 0), kc 8 5 (.i 0), kc 8 6 (.i 0), kc 8 7 (.i 0), kc 11 0 (.i (if 0 > (a0.C.Lo - v9) then 0 else a0.C.Lo - v9)), kc 11 1 (.i (if 100 < (a0.C.Hi + v10) then 100 else a0.C.Hi + v10))]) ?_ (kp rfl) rfl
    refine fqT ?_
    refine aqr ?_
    have hm := Option.some.inj hm
    subst hm
    exact fin_callEnd _ _ _ (.inl rfl) rfl rfl (rqC (ys := [.i (if 0 > (a0.C.Lo - v9) then 0 else a0.C.Lo - v9), .i (if 100 < (a0.C.Hi + v10) then 100 else a0.C.Hi + v10)]) rfl sh_32 rfl ⟨rfl, rfl, trivial⟩ rqN) rfl hIv8 ⟨rfl, rfl, rfl, rfl, rfl, rfl, rfl, rfl, trivial⟩ ⟨rfl, rfl, rfl, rfl, rfl, rfl, rfl, rfl, rfl, rfl, rfl, rfl, rfl, rfl, rfl, rfl, rfl, rfl, rfl, rfl, rfl, rfl, rfl, rfl, rfl, rfl, rfl, rfl, rfl, rfl, rfl, rfl, rfl, rfl, rfl, rfl, rfl, rfl, rfl, rfl, rfl, rfl, rfl, rfl, rfl, rfl, rfl, rfl, rfl, rfl, rfl, rfl, rfl, rfl, trivial⟩ rfl rfl
   refine fqK (s' := [kt 0 (.f (.func 149) [] [.p 1 0, .p 6 0, .p 3 0, .p 5 0]), kt 2 (.p 7 0), kt 3 (.p 8 0), kt 5 (.i 2), (.u 0 3, some (.x (.p 1 0))), (.u 0 5, some (.x (.p 3 0))), (.u 0 6, some (.x (.p 4 0))), (.u 0 7, some (.x (.p 5 0))), (.u 0 8, some (.x (.p 6 0))), (.u 0 15, some (.x (.f (.func 149) [] [.p 1 0, .p 6 0, .p 3 0, .p 5 0]))), kb 1 187 8, kb 3 3 1, kb 4 187 8, kb 5 206 4, kb 6 206 4, kb 7 187 8, kb 8 187 8, kc 1 0 (.i a0.A.Lo), kc 1 1 (.i a0.A.Hi), kc 1 2 (.i a0.B.Lo), kc 1 3 (.i a0.B.Hi), kc 1 4 (.i a0.C.Lo), kc 1 5 (.i a0.C.Hi), kc 1 6 (.i a0.D.Lo), kc 1 7 (.i a0.D.Hi), kc 3 0 (.i a2), kc 4 0 (.i 0), kc 4 1 (.i 0), kc 4 2 (.i 0), kc 4 3 (.i 0), kc 4 4 (.i 0), kc 4 5 (.i 0), kc 4 6 (.i 0), kc 4 7 (.i 0), kc 5 0 (.i a1.Up.Conc), kc 5 1 (.i a1.Up.Thick), kc 5 2 (.i a1.Up.Ridge), kc 5 3 (.i a1.Up.Press), kc 6 0 (.i a1.Down.Conc), kc 6 1 (.i a1.Down.Thick), kc 6 2 (.i a1.Down.Ridge), kc 6 3 (.i a1.Down.Press), kc 7 0 (.i 0), kc 7 1 (.i 0), kc 7 2 (.i 0), kc 7 3 (.i 0), kc 7 4 (.i 0), kc 7 5 (.i 0), kc 7 6 (.i 0), kc 7 7 (.i 0), kc 8 0 (.i v2.1), kc 8 1 (.i v2.2), kc 8 2 (.i v5.1), kc 8 3 (.i v5.2), kc 8 4 (.i v8.1), kc 8 5 (.i v8.2), kc 8 6 (.i 0), kc 8 7 (.i 0)]) ?_ (kp rfl) rfl
   refine fqB ?_
   refine fqT ?_
   refine aqT (rows := [_, _]) rfl (by kernel_rfl) ⟨
    okp rfl rfl (oqB (r := .int .i64 3) (lN rfl) rfl rfl rfl),
    okp rfl rfl (oqM (lN rfl) rfl),
    trivial⟩ ?_
   refine fqK (s' := [kt 0 (.f (.func 149) [] [.p 1 0, .p 6 0, .p 3 0, .p 5 0]), kt 2 (.p 7 0), kt 3 (.p 8 0), kt 5 (.i 3), (.u 0 3, some (.x (.p 1 0))), (.u 0 5, some (.x (.p 3 0))), (.u 0 6, some (.x (.p 4 0))), (.u 0 7, some (.x (.p 5 0))), (.u 0 8, some (.x (.p 6 0))), (.u 0 15, some (.x (.f (.func 149) [] [.p 1 0, .p 6 0, .p 3 0, .p 5 0]))), kb 1 187 8, kb 3 3 1, kb 4 187 8, kb 5 206 4, kb 6 206 4, kb 7 187 8, kb 8 187 8, kc 1 0 (.i a0.A.Lo), kc 1 1 (.i a0.A.Hi), kc 1 2 (.i a0.B.Lo), kc 1 3 (.i a0.B.Hi), kc 1 4 (.i a0.C.Lo), kc 1 5 (.i a0.C.Hi), kc 1 6 (.i a0.D.Lo), kc 1 7 (.i a0.D.Hi), kc 3 0 (.i a2), kc 4 0 (.i 0), kc 4 1 (.i 0), kc 4 2 (.i 0), kc 4 3 (.i 0), kc 4 4 (.i 0), kc 4 5 (.i 0), kc 4 6 (.i 0), kc 4 7 (.i 0), kc 5 0 (.i a1.Up.Conc), kc 5 1 (.i a1.Up.Thick), kc 5 2 (.i a1.Up.Ridge), kc 5 3 (.i a1.Up.Press), kc 6 0 (.i a1.Down.Conc), kc 6 1 (.i a1.Down.Thick), kc 6 2 (.i a1.Down.Ridge), kc 6 3 (.i a1.Down.Press), kc 7 0 (.i 0), kc 7 1 (.i 0), kc 7 2 (.i 0), kc 7 3 (.i 0), kc 7 4 (.i 0), kc 7 5 (.i 0), kc 7 6 (.i 0), kc 7 7 (.i 0), kc 8 0 (.i v2.1), kc 8 1 (.i v2.2), kc 8 2 (.i v5.1), kc 8 3 (.i v5.2), kc 8 4 (.i v8.1), kc 8 5 (.i v8.2), kc 8 6 (.i 0), kc 8 7 (.i 0)]) ?_ (kp rfl) rfl
   refine fin_round ?_
   refine aqS ?_
   refine aqT (rows := [_]) rfl (by kernel_rfl) ⟨
    okp rfl rfl (oqB (r := .bool true) (lN rfl) rfl rfl rfl),
    trivial⟩ ?_
   refine fqK (s' := [kt 0 (.f (.func 149) [] [.p 1 0, .p 6 0, .p 3 0, .p 5 0]), kt 2 (.p 7 0), kt 3 (.p 8 0), kt 5 (.i 3), kt 6 (.B true), (.u 0 3, some (.x (.p 1 0))), (.u 0 5, some (.x (.p 3 0))), (.u 0 6, some (.x (.p 4 0))), (.u 0 7, some (.x (.p 5 0))), (.u 0 8, some (.x (.p 6 0))), (.u 0 15, some (.x (.f (.func 149) [] [.p 1 0, .p 6 0, .p 3 0, .p 5 0]))), kb 1 187 8, kb 3 3 1, kb 4 187 8, kb 5 206 4, kb 6 206 4, kb 7 187 8, kb 8 187 8, kc 1 0 (.i a0.A.Lo), kc 1 1 (.i a0.A.Hi), kc 1 2 (.i a0.B.Lo), kc 1 3 (.i a0.B.Hi), kc 1 4 (.i a0.C.Lo), kc 1 5 (.i a0.C.Hi), kc 1 6 (.i a0.D.Lo), kc 1 7 (.i a0.D.Hi), kc 3 0 (.i a2), kc 4 0 (.i 0), kc 4 1 (.i 0), kc 4 2 (.i 0), kc 4 3 (.i 0), kc 4 4 (.i 0), kc 4 5 (.i 0), kc 4 6 (.i 0), kc 4 7 (.i 0), kc 5 0 (.i a1.Up.Conc), kc 5 1 (.i a1.Up.Thick), kc 5 2 (.i a1.Up.Ridge), kc 5 3 (.i a1.Up.Press), kc 6 0 (.i a1.Down.Conc), kc 6 1 (.i a1.Down.Thick), kc 6 2 (.i a1.Down.Ridge), kc 6 3 (.i a1.Down.Press), kc 7 0 (.i 0), kc 7 1 (.i 0), kc 7 2 (.i 0), kc 7 3 (.i 0), kc 7 4 (.i 0), kc 7 5 (.i 0), kc 7 6 (.i 0), kc 7 7 (.i 0), kc 8 0 (.i v2.1), kc 8 1 (.i v2.2), kc 8 2 (.i v5.1), kc 8 3 (.i v5.2), kc 8 4 (.i v8.1), kc 8 5 (.i v8.2), kc 8 6 (.i 0), kc 8 7 (.i 0)]) ?_ (kp rfl) rfl
   refine fqT ?_
   refine aqS ?_
   refine aqc rfl (fun hz10 => ?_) (fun hz10 => by cases hz10)
   refine aqk ?_
   refine fqT ?_
   refine aqS ?_
   refine aw_block ?_
   refine aqS ?_
   refine aqT (rows := [_, _]) rfl (by kernel_rfl) ⟨
    okp rfl rfl (oqM (lN rfl) rfl),
    okp rfl rfl (oqA (lN rfl) rfl),
    trivial⟩ ?_
   refine fqK (s' := [kt 0 (.f (.func 149) [] [.p 1 0, .p 6 0, .p 3 0, .p 5 0]), kt 2 (.p 7 0), kt 3 (.p 8 0), kt 4 (.i 3), kt 5 (.i 3), (.u 0 3, some (.x (.p 1 0))), (.u 0 5, some (.x (.p 3 0))), (.u 0 6, some (.x (.p 4 0))), (.u 0 7, some (.x (.p 5 0))), (.u 0 8, some (.x (.p 6 0))), (.u 0 15, some (.x (.f (.func 149) [] [.p 1 0, .p 6 0, .p 3 0, .p 5 0]))), kb 1 187 8, kb 3 3 1, kb 4 187 8, kb 5 206 4, kb 6 206 4, kb 7 187 8, kb 8 187 8, kc 1 0 (.i a0.A.Lo), kc 1 1 (.i a0.A.Hi), kc 1 2 (.i a0.B.Lo), kc 1 3 (.i a0.B.Hi), kc 1 4 (.i a0.C.Lo), kc 1 5 (.i a0.C.Hi), kc 1 6 (.i a0.D.Lo), kc 1 7 (.i a0.D.Hi), kc 3 0 (.i a2), kc 4 0 (.i 0), kc 4 1 (.i 0), kc 4 2 (.i 0), kc 4 3 (.i 0), kc 4 4 (.i 0), kc 4 5 (.i 0), kc 4 6 (.i 0), kc 4 7 (.i 0), kc 5 0 (.i a1.Up.Conc), kc 5 1 (.i a1.Up.Thick), kc 5 2 (.i a1.Up.Ridge), kc 5 3 (.i a1.Up.Press), kc 6 0 (.i a1.Down.Conc), kc 6 1 (.i a1.Down.Thick), kc 6 2 (.i a1.Down.Ridge), kc 6 3 (.i a1.Down.Press), kc 7 0 (.i 0), kc 7 1 (.i 0), kc 7 2 (.i 0), kc 7 3 (.i 0), kc 7 4 (.i 0), kc 7 5 (.i 0), kc 7 6 (.i 0), kc 7 7 (.i 0), kc 8 0 (.i v2.1), kc 8 1 (.i v2.2), kc 8 2 (.i v5.1), kc 8 3 (.i v5.2), kc 8 4 (.i v8.1), kc 8 5 (.i v8.2), kc 8 6 (.i 0), kc 8 7 (.i 0)]) ?_ (kp rfl) rfl
   refine fqT ?_
   obtain ⟨v11, hv11, hm⟩ := bnd_some hm
   refine aqT (rows := [_, _, _, _, _, _]) rfl (by kernel_rfl) ⟨
    okp rfl rfl (oqM (lN rfl) rfl),
    okp rfl rfl (oqM (lN rfl) rfl),
    okp rfl rfl (oqM (lN rfl) rfl),
    okp rfl rfl (oqN (fs := []) (caps := [.p 1 0, .p 6 0, .p 3 0, .p 5 0]) (xs := [.i 3]) (Nk := 33) (.g [.i v11.1, .i v11.2]) (tqS [(0, .f (.func 149) [] [.p 1 0, .p 6 0, .p 3 0, .p 5 0]), (2, .p 7 0), (3, .p 8 0), (4, .i 3), (5, .i 3), (8, .i 3), (9, .f (.func 149) [] [.p 1 0, .p 6 0, .p 3 0, .p 5 0]), (10, .i 3)] ++ ((([(.u 0 3, some (.x (.p 1 0))), (.u 0 5, some (.x (.p 3 0))), (.u 0 6, some (.x (.p 4 0))), (.u 0 7, some (.x (.p 5 0))), (.u 0 8, some (.x (.p 6 0))), (.u 0 15, some (.x (.f (.func 149) [] [.p 1 0, .p 6 0, .p 3 0, .p 5 0]))), kb 1 187 8, kb 3 3 1, kb 4 187 8, kb 5 206 4, kb 6 206 4, kb 7 187 8, kb 8 187 8, kc 1 0 (.i a0.A.Lo), kc 1 1 (.i a0.A.Hi), kc 1 2 (.i a0.B.Lo), kc 1 3 (.i a0.B.Hi), kc 1 4 (.i a0.C.Lo), kc 1 5 (.i a0.C.Hi), kc 1 6 (.i a0.D.Lo), kc 1 7 (.i a0.D.Hi), kc 3 0 (.i a2), kc 4 0 (.i 0), kc 4 1 (.i 0)] : St) ++ (([kc 4 2 (.i 0), kc 4 3 (.i 0), kc 4 4 (.i 0), kc 4 5 (.i 0), kc 4 6 (.i 0), kc 4 7 (.i 0), kc 5 0 (.i a1.Up.Conc), kc 5 1 (.i a1.Up.Thick), kc 5 2 (.i a1.Up.Ridge), kc 5 3 (.i a1.Up.Press), kc 6 0 (.i a1.Down.Conc), kc 6 1 (.i a1.Down.Thick), kc 6 2 (.i a1.Down.Ridge), kc 6 3 (.i a1.Down.Press), kc 7 0 (.i 0), kc 7 1 (.i 0), kc 7 2 (.i 0), kc 7 3 (.i 0), kc 7 4 (.i 0), kc 7 5 (.i 0), kc 7 6 (.i 0), kc 7 7 (.i 0), kc 8 0 (.i v2.1), kc 8 1 (.i v2.2)] : St) ++ (([kc 8 2 (.i v5.1), kc 8 3 (.i v5.2), kc 8 4 (.i v8.1), kc 8 5 (.i v8.2), kc 8 6 (.i 0), kc 8 7 (.i 0)] : St)))) ++ dqS [])) 1 [(0, .f (.func 149) [] [.p 1 0, .p 6 0, .p 3 0, .p 5 0]), (2, .p 7 0), (3, .p 8 0), (4, .i 3), (5, .i 3), (8, .i 3), (9, .f (.func 149) [] [.p 1 0, .p 6 0, .p 3 0, .p 5 0]), (10, .i 3)] [(.u 0 3, some (.x (.p 1 0))), (.u 0 5, some (.x (.p 3 0))), (.u 0 6, some (.x (.p 4 0))), (.u 0 7, some (.x (.p 5 0))), (.u 0 8, some (.x (.p 6 0))), (.u 0 15, some (.x (.f (.func 149) [] [.p 1 0, .p 6 0, .p 3 0, .p 5 0]))), kb 1 187 8, kb 3 3 1, kb 4 187 8, kb 5 206 4, kb 6 206 4, kb 7 187 8, kb 8 187 8, kc 1 0 (.i a0.A.Lo), kc 1 1 (.i a0.A.Hi), kc 1 2 (.i a0.B.Lo), kc 1 3 (.i a0.B.Hi), kc 1 4 (.i a0.C.Lo), kc 1 5 (.i a0.C.Hi), kc 1 6 (.i a0.D.Lo), kc 1 7 (.i a0.D.Hi), kc 3 0 (.i a2), kc 4 0 (.i 0), kc 4 1 (.i 0), kc 4 2 (.i 0), kc 4 3 (.i 0), kc 4 4 (.i 0), kc 4 5 (.i 0), kc 4 6 (.i 0), kc 4 7 (.i 0), kc 5 0 (.i a1.Up.Conc), kc 5 1 (.i a1.Up.Thick), kc 5 2 (.i a1.Up.Ridge), kc 5 3 (.i a1.Up.Press), kc 6 0 (.i a1.Down.Conc), kc 6 1 (.i a1.Down.Thick), kc 6 2 (.i a1.Down.Ridge), kc 6 3 (.i a1.Down.Press), kc 7 0 (.i 0), kc 7 1 (.i 0), kc 7 2 (.i 0), kc 7 3 (.i 0), kc 7 4 (.i 0), kc 7 5 (.i 0), kc 7 6 (.i 0), kc 7 7 (.i 0), kc 8 0 (.i v2.1), kc 8 1 (.i v2.2), kc 8 2 (.i v5.1), kc 8 3 (.i v5.2), kc 8 4 (.i v8.1), kc 8 5 (.i v8.2), kc 8 6 (.i 0), kc 8 7 (.i 0)] (lN rfl) en_149 Tryd.func149 rfl rfl (Nat.le_of_ble_eq_true rfl) rfl ⟨rfl, rfl, rfl⟩ (EvL.cons rfl EvL.nil) ⟨rfl, rfl, rfl, rfl, rfl, rfl, rfl, rfl, trivial⟩ ⟨rfl, rfl, rfl, rfl, rfl, rfl, rfl, rfl, rfl, rfl, rfl, rfl, rfl, rfl, rfl, rfl, rfl, rfl, rfl, rfl, rfl, rfl, rfl, rfl, rfl, rfl, rfl, rfl, rfl, rfl, rfl, rfl, rfl, rfl, rfl, rfl, rfl, rfl, rfl, rfl, rfl, rfl, rfl, rfl, rfl, rfl, rfl, rfl, rfl, rfl, rfl, rfl, rfl, rfl, trivial⟩ rfl rfl rfl (fun aIv11 hIv11 => ?_)),
    okp rfl rfl (op_ixA (lN rfl) rfl rfl ar_187 (by decide) (by decide)),
    okp rfl rfl (oqS sz_32 rfl rfl rfl rfl rfl (by decide)),
    trivial⟩ ?_
   ·have hm := hv11
    refine AW.keep (s' := [kt 0 (.i 3), kt 1 (.p 1 0), kt 2 (.p 6 0), kt 3 (.p 3 0), kt 4 (.p 5 0), (.u 0 3, some (.x (.p 1 0))), (.u 0 5, some (.x (.p 3 0))), (.u 0 6, some (.x (.p 4 0))), (.u 0 7, some (.x (.p 5 0))), (.u 0 8, some (.x (.p 6 0))), (.u 0 15, some (.x (.f (.func 149) [] [.p 1 0, .p 6 0, .p 3 0, .p 5 0]))), (.u 1 0, some (.x (.f (.func 149) [] [.p 1 0, .p 6 0, .p 3 0, .p 5 0]))), (.u 1 2, some (.x (.p 7 0))), (.u 1 3, some (.x (.p 8 0))), (.u 1 4, some (.x (.i 3))), (.u 1 5, some (.x (.i 3))), (.u 1 8, some (.x (.i 3))), (.u 1 9, some (.x (.f (.func 149) [] [.p 1 0, .p 6 0, .p 3 0, .p 5 0]))), (.u 1 10, some (.x (.i 3))), kb 1 187 8, kb 3 3 1, kb 4 187 8, kb 5 206 4, kb 6 206 4, kb 7 187 8, kb 8 187 8, kc 1 0 (.i a0.A.Lo), kc 1 1 (.i a0.A.Hi), kc 1 2 (.i a0.B.Lo), kc 1 3 (.i a0.B.Hi), kc 1 4 (.i a0.C.Lo), kc 1 5 (.i a0.C.Hi), kc 1 6 (.i a0.D.Lo), kc 1 7 (.i a0.D.Hi), kc 3 0 (.i a2), kc 4 0 (.i 0), kc 4 1 (.i 0), kc 4 2 (.i 0), kc 4 3 (.i 0), kc 4 4 (.i 0), kc 4 5 (.i 0), kc 4 6 (.i 0), kc 4 7 (.i 0), kc 5 0 (.i a1.Up.Conc), kc 5 1 (.i a1.Up.Thick), kc 5 2 (.i a1.Up.Ridge), kc 5 3 (.i a1.Up.Press), kc 6 0 (.i a1.Down.Conc), kc 6 1 (.i a1.Down.Thick), kc 6 2 (.i a1.Down.Ridge), kc 6 3 (.i a1.Down.Press), kc 7 0 (.i 0), kc 7 1 (.i 0), kc 7 2 (.i 0), kc 7 3 (.i 0), kc 7 4 (.i 0), kc 7 5 (.i 0), kc 7 6 (.i 0), kc 7 7 (.i 0), kc 8 0 (.i v2.1), kc 8 1 (.i v2.2), kc 8 2 (.i v5.1), kc 8 3 (.i v5.2), kc 8 4 (.i v8.1), kc 8 5 (.i v8.2), kc 8 6 (.i 0), kc 8 7 (.i 0)]) ?_ (kp rfl) rfl
    refine aqS ?_
    refine aqT (rows := [_]) rfl (by kernel_rfl) ⟨
     okp rfl rfl (oqa (L := 12) (lN rfl) zl_32),
     trivial⟩ ?_
    refine fqK (s' := [kt 0 (.i 3), kt 1 (.p 1 0), kt 2 (.p 6 0), kt 3 (.p 3 0), kt 4 (.p 5 0), kt 6 (.p 12 0), (.u 0 3, some (.x (.p 1 0))), (.u 0 5, some (.x (.p 3 0))), (.u 0 6, some (.x (.p 4 0))), (.u 0 7, some (.x (.p 5 0))), (.u 0 8, some (.x (.p 6 0))), (.u 0 15, some (.x (.f (.func 149) [] [.p 1 0, .p 6 0, .p 3 0, .p 5 0]))), (.u 1 0, some (.x (.f (.func 149) [] [.p 1 0, .p 6 0, .p 3 0, .p 5 0]))), (.u 1 2, some (.x (.p 7 0))), (.u 1 3, some (.x (.p 8 0))), (.u 1 4, some (.x (.i 3))), (.u 1 5, some (.x (.i 3))), (.u 1 8, some (.x (.i 3))), (.u 1 9, some (.x (.f (.func 149) [] [.p 1 0, .p 6 0, .p 3 0, .p 5 0]))), (.u 1 10, some (.x (.i 3))), kb 1 187 8, kb 3 3 1, kb 4 187 8, kb 5 206 4, kb 6 206 4, kb 7 187 8, kb 8 187 8, kb 12 32 2, kc 1 0 (.i a0.A.Lo), kc 1 1 (.i a0.A.Hi), kc 1 2 (.i a0.B.Lo), kc 1 3 (.i a0.B.Hi), kc 1 4 (.i a0.C.Lo), kc 1 5 (.i a0.C.Hi), kc 1 6 (.i a0.D.Lo), kc 1 7 (.i a0.D.Hi), kc 3 0 (.i a2), kc 4 0 (.i 0), kc 4 1 (.i 0), kc 4 2 (.i 0), kc 4 3 (.i 0), kc 4 4 (.i 0), kc 4 5 (.i 0), kc 4 6 (.i 0), kc 4 7 (.i 0), kc 5 0 (.i a1.Up.Conc), kc 5 1 (.i a1.Up.Thick), kc 5 2 (.i a1.Up.Ridge), kc 5 3 (.i a1.Up.Press), kc 6 0 (.i a1.Down.Conc), kc 6 1 (.i a1.Down.Thick), kc 6 2 (.i a1.Down.Ridge), kc 6 3 (.i a1.Down.Press), kc 7 0 (.i 0), kc 7 1 (.i 0), kc 7 2 (.i 0), kc 7 3 (.i 0), kc 7 4 (.i 0), kc 7 5 (.i 0), kc 7 6 (.i 0), kc 7 7 (.i 0), kc 8 0 (.i v2.1), kc 8 1 (.i v2.2), kc 8 2 (.i v5.1), kc 8 3 (.i v5.2), kc 8 4 (.i v8.1), kc 8 5 (.i v8.2), kc 8 6 (.i 0), kc 8 7 (.i 0), kc 12 0 (.i 0), kc 12 1 (.i 0)]) ?_ (kp rfl) rfl
    refine fqT ?_
    refine aqS ?_
    obtain ⟨v12, hv12, hm⟩ := bnd_some hm
    obtain ⟨hp11, hm⟩ := chk_some hm
    obtain ⟨v13, hv13, hm⟩ := bnd_some hm
    obtain ⟨hp12, hm⟩ := chk_some hm
    refine aw_any (rows := [_, _, _, _, _, _, _, _, _, _, _, _, _, _, _, _, _, _, _, _, _, _, _, _, _, _, _]) (M := [0, 1, 3, 7, 0, 16, 48, 0, 240, 511, 1023, 0, 2048, 6144, 14336, 0, 32768, 98304, 0, 492016, 1047024, 1016304, 0, 7307760, 16775664, 33554431, 67108863]) Tryd_mixed (by kernel_rfl) rfl (by kernel_rfl) ⟨
     okp rfl rfl (oqM (lN rfl) rfl),
     okp rfl rfl (op_ixA (lN rfl) rfl rfl ar_187 (by decide) (by decide)),
     okp rfl rfl (oqF (lN rfl) rfl fo_32_0),
     okp rfl rfl (oq1 (lN rfl) sh_3 rfl rfl),
     okp rfl rfl (oqM (lN rfl) rfl),
     okp rfl rfl (op_ixA (lN rfl) rfl rfl ar_206 (by decide) (by decide)),
     okp rfl rfl (oq1 (lN rfl) sh_3 rfl rfl),
     okp rfl rfl (oq1 (lN rfl) sh_3 rfl rfl),
     okp rfl rfl (oqC (x := .i v12) (fs := []) (caps := []) (extra := []) (lN rfl) en_150 rfl ⟨rfl, rfl, rfl⟩ (EvL.cons rfl (EvL.cons rfl EvL.nil)) (fun mm aa ww gg hr hrel => (c150 F a1.Down.Press a2 ww v12 hv12))),
     okp rfl rfl (oqB (lN rfl) rfl rfl (nw_sub hp11)),
     okp rfl rfl (op_max (lN rfl) rfl rfl),
     okp rfl rfl (oqM (lN rfl) rfl),
     okp rfl rfl (op_ixA (lN rfl) rfl rfl ar_187 (by decide) (by decide)),
     okp rfl rfl (oqF (lN rfl) rfl fo_32_1),
     okp rfl rfl (oq1 (lN rfl) sh_3 rfl rfl),
     okp rfl rfl (oqM (lN rfl) rfl),
     okp rfl rfl (op_ixA (lN rfl) rfl rfl ar_206 (by decide) (by decide)),
     okp rfl rfl (oq1 (lN rfl) sh_3 rfl rfl),
     okp rfl rfl (oq1 (lN rfl) sh_3 rfl rfl),
     okp rfl rfl (oqC (x := .i v13) (fs := []) (caps := []) (extra := []) (lN rfl) en_150 rfl ⟨rfl, rfl, rfl⟩ (EvL.cons rfl (EvL.cons rfl EvL.nil)) (fun mm aa ww gg hr hrel => (c150 F a1.Up.Press a2 ww v13 hv13))),
     okp rfl rfl (oqB (lN rfl) rfl rfl (nw_add hp12)),
     okp rfl rfl (oqC (x := .g [.i 100, .i 400, .i 100, .i 3]) (fs := []) (caps := []) (extra := []) (lN rfl) en_151 rfl ⟨rfl, rfl, rfl⟩ EvL.nil (fun mm aa ww gg hr hrel => (c151 ww))),
     okp rfl rfl (oqM (lN rfl) rfl),
     okp rfl rfl (oqI (lN rfl) rfl rfl ar_206 ⟨_, _, un_206, sh_3⟩ (by decide) (by decide) rfl),
     okp rfl rfl (op_min (lN rfl) rfl rfl),
     okp rfl rfl (op_build (x := .g [.i (if 0 > (a0.D.Lo - v12) then 0 else a0.D.Lo - v12), .i (if 3 < (a0.D.Hi + v13) then 3 else a0.D.Hi + v13)]) (lN rfl) (EvL.cons rfl (EvL.cons rfl EvL.nil)) (fun m w => by kernel_rfl)),
     okp rfl rfl (oqS sz_32 rfl rfl rfl rfl rfl (by decide)),
     trivial⟩ ?_
    refine fqK (s' := [kt 6 (.p 12 0), (.u 0 3, some (.x (.p 1 0))), (.u 0 5, some (.x (.p 3 0))), (.u 0 6, some (.x (.p 4 0))), (.u 0 7, some (.x (.p 5 0))), (.u 0 8, some (.x (.p 6 0))), (.u 0 15, some (.x (.f (.func 149) [] [.p 1 0, .p 6 0, .p 3 0, .p 5 0]))), (.u 1 0, some (.x (.f (.func 149) [] [.p 1 0, .p 6 0, .p 3 0, .p 5 0]))), (.u 1 2, some (.x (.p 7 0))), (.u 1 3, some (.x (.p 8 0))), (.u 1 4, some (.x (.i 3))), (.u 1 5, some (.x (.i 3))), (.u 1 8, some (.x (.i 3))), (.u 1 9, some (.x (.f (.func 149) [] [.p 1 0, .p 6 0, .p 3 0, .p 5 0]))), (.u 1 10, some (.x (.i 3))), kb 1 187 8, kb 3 3 1, kb 4 187 8, kb 5 206 4, kb 6 206 4, kb 7 187 8, kb 8 187 8, kb 12 32 2, kc 1 0 (.i a0.A.Lo), kc 1 1 (.i a0.A.Hi), kc 1 2 (.i a0.B.Lo), kc 1 3 (.i a0.B.Hi), kc 1 4 (.i a0.C.Lo), kc 1 5 (.i a0.C.Hi), kc 1 6 (.i a0.D.Lo), kc 1 7 (.i a0.D.Hi), kc 3 0 (.i a2), kc 4 0 (.i 0), kc 4 1 (.i 0), kc 4 2 (.i 0), kc 4 3 (.i 0), kc 4 4 (.i 0), kc 4 5 (.i 0), kc 4 6 (.i 0), kc 4 7 (.i 0), kc 5 0 (.i a1.Up.Conc), kc 5 1 (.i a1.Up.Thick), kc 5 2 (.i a1.Up.Ridge), kc 5 3 (.i a1.Up.Press), kc 6 0 (.i a1.Down.Conc), kc 6 1 (.i a1.Down.Thick), kc 6 2 (.i a1.Down.Ridge), kc 6 3 (.i a1.Down.Press), kc 7 0 (.i 0), kc 7 1 (.i 0), kc 7 2 (.i 0), kc 7 3 (.i 0), kc 7 4 (.i 0), kc 7 5 (.i 0), kc 7 6 (.i 0), kc 7 7 (.i 0), kc 8 0 (.i v2.1), kc 8 1 (.i v2.2), kc 8 2 (.i v5.1), kc 8 3 (.i v5.2), kc 8 4 (.i v8.1), kc 8 5 (.i v8.2), kc 8 6 (.i 0), kc 8 7 (.i 0), kc 12 0 (.i (if 0 > (a0.D.Lo - v12) then 0 else a0.D.Lo - v12)), kc 12 1 (.i (if 3 < (a0.D.Hi + v13) then 3 else a0.D.Hi + v13))]) ?_ (kp rfl) rfl
    refine fqT ?_
    refine aqr ?_
    have hm := Option.some.inj hm
    subst hm
    exact fin_callEnd _ _ _ (.inl rfl) rfl rfl (rqC (ys := [.i (if 0 > (a0.D.Lo - v12) then 0 else a0.D.Lo - v12), .i (if 3 < (a0.D.Hi + v13) then 3 else a0.D.Hi + v13)]) rfl sh_32 rfl ⟨rfl, rfl, trivial⟩ rqN) rfl hIv11 ⟨rfl, rfl, rfl, rfl, rfl, rfl, rfl, rfl, trivial⟩ ⟨rfl, rfl, rfl, rfl, rfl, rfl, rfl, rfl, rfl, rfl, rfl, rfl, rfl, rfl, rfl, rfl, rfl, rfl, rfl, rfl, rfl, rfl, rfl, rfl, rfl, rfl, rfl, rfl, rfl, rfl, rfl, rfl, rfl, rfl, rfl, rfl, rfl, rfl, rfl, rfl, rfl, rfl, rfl, rfl, rfl, rfl, rfl, rfl, rfl, rfl, rfl, rfl, rfl, rfl, trivial⟩ rfl rfl
   refine fqK (s' := [kt 0 (.f (.func 149) [] [.p 1 0, .p 6 0, .p 3 0, .p 5 0]), kt 2 (.p 7 0), kt 3 (.p 8 0), kt 5 (.i 3), (.u 0 3, some (.x (.p 1 0))), (.u 0 5, some (.x (.p 3 0))), (.u 0 6, some (.x (.p 4 0))), (.u 0 7, some (.x (.p 5 0))), (.u 0 8, some (.x (.p 6 0))), (.u 0 15, some (.x (.f (.func 149) [] [.p 1 0, .p 6 0, .p 3 0, .p 5 0]))), kb 1 187 8, kb 3 3 1, kb 4 187 8, kb 5 206 4, kb 6 206 4, kb 7 187 8, kb 8 187 8, kc 1 0 (.i a0.A.Lo), kc 1 1 (.i a0.A.Hi), kc 1 2 (.i a0.B.Lo), kc 1 3 (.i a0.B.Hi), kc 1 4 (.i a0.C.Lo), kc 1 5 (.i a0.C.Hi), kc 1 6 (.i a0.D.Lo), kc 1 7 (.i a0.D.Hi), kc 3 0 (.i a2), kc 4 0 (.i 0), kc 4 1 (.i 0), kc 4 2 (.i 0), kc 4 3 (.i 0), kc 4 4 (.i 0), kc 4 5 (.i 0), kc 4 6 (.i 0), kc 4 7 (.i 0), kc 5 0 (.i a1.Up.Conc), kc 5 1 (.i a1.Up.Thick), kc 5 2 (.i a1.Up.Ridge), kc 5 3 (.i a1.Up.Press), kc 6 0 (.i a1.Down.Conc), kc 6 1 (.i a1.Down.Thick), kc 6 2 (.i a1.Down.Ridge), kc 6 3 (.i a1.Down.Press), kc 7 0 (.i 0), kc 7 1 (.i 0), kc 7 2 (.i 0), kc 7 3 (.i 0), kc 7 4 (.i 0), kc 7 5 (.i 0), kc 7 6 (.i 0), kc 7 7 (.i 0), kc 8 0 (.i v2.1), kc 8 1 (.i v2.2), kc 8 2 (.i v5.1), kc 8 3 (.i v5.2), kc 8 4 (.i v8.1), kc 8 5 (.i v8.2), kc 8 6 (.i v11.1), kc 8 7 (.i v11.2)]) ?_ (kp rfl) rfl
   refine fqB ?_
   refine fqT ?_
   refine aqT (rows := [_, _]) rfl (by kernel_rfl) ⟨
    okp rfl rfl (oqB (r := .int .i64 4) (lN rfl) rfl rfl rfl),
    okp rfl rfl (oqM (lN rfl) rfl),
    trivial⟩ ?_
   refine fqK (s' := [kt 0 (.f (.func 149) [] [.p 1 0, .p 6 0, .p 3 0, .p 5 0]), kt 2 (.p 7 0), kt 3 (.p 8 0), kt 5 (.i 4), (.u 0 3, some (.x (.p 1 0))), (.u 0 5, some (.x (.p 3 0))), (.u 0 6, some (.x (.p 4 0))), (.u 0 7, some (.x (.p 5 0))), (.u 0 8, some (.x (.p 6 0))), (.u 0 15, some (.x (.f (.func 149) [] [.p 1 0, .p 6 0, .p 3 0, .p 5 0]))), kb 1 187 8, kb 3 3 1, kb 4 187 8, kb 5 206 4, kb 6 206 4, kb 7 187 8, kb 8 187 8, kc 1 0 (.i a0.A.Lo), kc 1 1 (.i a0.A.Hi), kc 1 2 (.i a0.B.Lo), kc 1 3 (.i a0.B.Hi), kc 1 4 (.i a0.C.Lo), kc 1 5 (.i a0.C.Hi), kc 1 6 (.i a0.D.Lo), kc 1 7 (.i a0.D.Hi), kc 3 0 (.i a2), kc 4 0 (.i 0), kc 4 1 (.i 0), kc 4 2 (.i 0), kc 4 3 (.i 0), kc 4 4 (.i 0), kc 4 5 (.i 0), kc 4 6 (.i 0), kc 4 7 (.i 0), kc 5 0 (.i a1.Up.Conc), kc 5 1 (.i a1.Up.Thick), kc 5 2 (.i a1.Up.Ridge), kc 5 3 (.i a1.Up.Press), kc 6 0 (.i a1.Down.Conc), kc 6 1 (.i a1.Down.Thick), kc 6 2 (.i a1.Down.Ridge), kc 6 3 (.i a1.Down.Press), kc 7 0 (.i 0), kc 7 1 (.i 0), kc 7 2 (.i 0), kc 7 3 (.i 0), kc 7 4 (.i 0), kc 7 5 (.i 0), kc 7 6 (.i 0), kc 7 7 (.i 0), kc 8 0 (.i v2.1), kc 8 1 (.i v2.2), kc 8 2 (.i v5.1), kc 8 3 (.i v5.2), kc 8 4 (.i v8.1), kc 8 5 (.i v8.2), kc 8 6 (.i v11.1), kc 8 7 (.i v11.2)]) ?_ (kp rfl) rfl
   refine fin_round ?_
   refine aqS ?_
   refine aqT (rows := [_]) rfl (by kernel_rfl) ⟨
    okp rfl rfl (oqB (r := .bool false) (lN rfl) rfl rfl rfl),
    trivial⟩ ?_
   refine fqK (s' := [kt 0 (.f (.func 149) [] [.p 1 0, .p 6 0, .p 3 0, .p 5 0]), kt 2 (.p 7 0), kt 3 (.p 8 0), kt 5 (.i 4), kt 6 (.B false), (.u 0 3, some (.x (.p 1 0))), (.u 0 5, some (.x (.p 3 0))), (.u 0 6, some (.x (.p 4 0))), (.u 0 7, some (.x (.p 5 0))), (.u 0 8, some (.x (.p 6 0))), (.u 0 15, some (.x (.f (.func 149) [] [.p 1 0, .p 6 0, .p 3 0, .p 5 0]))), kb 1 187 8, kb 3 3 1, kb 4 187 8, kb 5 206 4, kb 6 206 4, kb 7 187 8, kb 8 187 8, kc 1 0 (.i a0.A.Lo), kc 1 1 (.i a0.A.Hi), kc 1 2 (.i a0.B.Lo), kc 1 3 (.i a0.B.Hi), kc 1 4 (.i a0.C.Lo), kc 1 5 (.i a0.C.Hi), kc 1 6 (.i a0.D.Lo), kc 1 7 (.i a0.D.Hi), kc 3 0 (.i a2), kc 4 0 (.i 0), kc 4 1 (.i 0), kc 4 2 (.i 0), kc 4 3 (.i 0), kc 4 4 (.i 0), kc 4 5 (.i 0), kc 4 6 (.i 0), kc 4 7 (.i 0), kc 5 0 (.i a1.Up.Conc), kc 5 1 (.i a1.Up.Thick), kc 5 2 (.i a1.Up.Ridge), kc 5 3 (.i a1.Up.Press), kc 6 0 (.i a1.Down.Conc), kc 6 1 (.i a1.Down.Thick), kc 6 2 (.i a1.Down.Ridge), kc 6 3 (.i a1.Down.Press), kc 7 0 (.i 0), kc 7 1 (.i 0), kc 7 2 (.i 0), kc 7 3 (.i 0), kc 7 4 (.i 0), kc 7 5 (.i 0), kc 7 6 (.i 0), kc 7 7 (.i 0), kc 8 0 (.i v2.1), kc 8 1 (.i v2.2), kc 8 2 (.i v5.1), kc 8 3 (.i v5.2), kc 8 4 (.i v8.1), kc 8 5 (.i v8.2), kc 8 6 (.i v11.1), kc 8 7 (.i v11.2)]) ?_ (kp rfl) rfl
   refine fqT ?_
   refine aqS ?_
   refine aqc rfl (fun hz13 => by cases hz13) (fun hz13 => ?_)
   refine aw_exit ?_
   refine fqE ?_
   refine fqE ?_
   refine fin_block_exit ?_
   exact fqc (v2.1, v2.2, v5.1, v5.2, v8.1, v8.2, v11.1, v11.2) hm ⟨rfl, rfl, rfl, rfl, rfl, rfl, rfl, rfl, rfl, rfl, rfl, rfl, rfl, rfl, rfl, rfl, rfl, rfl, rfl, rfl, rfl, rfl, rfl, rfl, rfl, rfl, rfl, rfl, rfl, rfl, rfl, rfl, rfl, rfl, rfl, rfl, rfl, rfl, rfl, rfl, rfl, rfl, rfl, rfl, rfl, rfl, rfl, rfl, rfl, rfl, rfl, rfl, rfl, rfl, rfl, rfl, trivial⟩ rfl
  ·have _z := hm
   refine aqS ?_
   refine aqT (rows := [_, _]) rfl (by kernel_rfl) ⟨
    okp rfl rfl (oqL (ys := [.i x1.1, .i x1.2.1, .i x1.2.2.1, .i x1.2.2.2.1, .i x1.2.2.2.2.1, .i x1.2.2.2.2.2.1, .i x1.2.2.2.2.2.2.1, .i x1.2.2.2.2.2.2.2]) (lN rfl) sh_187 rfl rfl ⟨rfl, rfl, rfl, rfl, rfl, rfl, rfl, rfl, trivial⟩),
    okp rfl rfl (oqS sz_187 rfl rfl rfl rfl rfl (by decide)),
    trivial⟩ ?_
   refine fqK (s' := [kt 2 (.p 7 0), (.u 0 3, some (.x (.p 1 0))), (.u 0 5, some (.x (.p 3 0))), (.u 0 6, some (.x (.p 4 0))), (.u 0 7, some (.x (.p 5 0))), (.u 0 8, some (.x (.p 6 0))), (.u 0 15, some (.x (.f (.func 149) [] [.p 1 0, .p 6 0, .p 3 0, .p 5 0]))), kb 1 187 8, kb 3 3 1, kb 4 187 8, kb 5 206 4, kb 6 206 4, kb 7 187 8, kc 1 0 (.i a0.A.Lo), kc 1 1 (.i a0.A.Hi), kc 1 2 (.i a0.B.Lo), kc 1 3 (.i a0.B.Hi), kc 1 4 (.i a0.C.Lo), kc 1 5 (.i a0.C.Hi), kc 1 6 (.i a0.D.Lo), kc 1 7 (.i a0.D.Hi), kc 3 0 (.i a2), kc 4 0 (.i 0), kc 4 1 (.i 0), kc 4 2 (.i 0), kc 4 3 (.i 0), kc 4 4 (.i 0), kc 4 5 (.i 0), kc 4 6 (.i 0), kc 4 7 (.i 0), kc 5 0 (.i a1.Up.Conc), kc 5 1 (.i a1.Up.Thick), kc 5 2 (.i a1.Up.Ridge), kc 5 3 (.i a1.Up.Press), kc 6 0 (.i a1.Down.Conc), kc 6 1 (.i a1.Down.Thick), kc 6 2 (.i a1.Down.Ridge), kc 6 3 (.i a1.Down.Press), kc 7 0 (.i x1.1), kc 7 1 (.i x1.2.1), kc 7 2 (.i x1.2.2.1), kc 7 3 (.i x1.2.2.2.1), kc 7 4 (.i x1.2.2.2.2.1), kc 7 5 (.i x1.2.2.2.2.2.1), kc 7 6 (.i x1.2.2.2.2.2.2.1), kc 7 7 (.i x1.2.2.2.2.2.2.2)]) ?_ (kp rfl) rfl
   refine fqT ?_
   refine aqr ?_
   have hm := Option.some.inj hm
   subst hm
   exact fin_callEnd _ _ _ (.inl rfl) rfl rfl (rqC (ys := [.i x1.1, .i x1.2.1, .i x1.2.2.1, .i x1.2.2.2.1, .i x1.2.2.2.2.1, .i x1.2.2.2.2.2.1, .i x1.2.2.2.2.2.2.1, .i x1.2.2.2.2.2.2.2]) rfl sh_187 rfl ⟨rfl, rfl, rfl, rfl, rfl, rfl, rfl, rfl, trivial⟩ rqN) rfl hIv1 ⟨rfl, rfl, rfl, rfl, rfl, rfl, trivial⟩ ⟨rfl, rfl, rfl, rfl, rfl, rfl, rfl, rfl, rfl, rfl, rfl, rfl, rfl, rfl, rfl, rfl, rfl, rfl, rfl, rfl, rfl, rfl, rfl, rfl, rfl, rfl, rfl, rfl, rfl, rfl, trivial⟩ rfl rfl
 refine fqK (s' := [kt 6 (.p 4 0), kb 4 187 8, kc 4 0 (.i v1.1), kc 4 1 (.i v1.2.1), kc 4 2 (.i v1.2.2.1), kc 4 3 (.i v1.2.2.2.1), kc 4 4 (.i v1.2.2.2.2.1), kc 4 5 (.i v1.2.2.2.2.2.1), kc 4 6 (.i v1.2.2.2.2.2.2.1), kc 4 7 (.i v1.2.2.2.2.2.2.2)]) ?_ (kp rfl) rfl
 refine fqT ?_
 refine aqr ?_
 refine pqr (x := .g [.i v1.1, .i v1.2.1, .i v1.2.2.1, .i v1.2.2.2.1, .i v1.2.2.2.2.1, .i v1.2.2.2.2.2.1, .i v1.2.2.2.2.2.2.1, .i v1.2.2.2.2.2.2.2]) rfl rfl (rqC (ys := [.i v1.1, .i v1.2.1, .i v1.2.2.1, .i v1.2.2.2.1, .i v1.2.2.2.2.1, .i v1.2.2.2.2.2.1, .i v1.2.2.2.2.2.2.1, .i v1.2.2.2.2.2.2.2]) rfl sh_187 rfl ⟨rfl, rfl, rfl, rfl, rfl, rfl, rfl, rfl, trivial⟩ rqN) rfl (fun mm aa ww hr => ?_)
 have hm := Option.some.inj hm
 subst hm
 exact ⟨rfl, hr.below⟩
end Go.Proofs.T
namespace Go.Proofs.T
open Go Go.AX Go.RowKit Hull
theorem en_153 : Proofs.Enters Tryd.prog 153 := Proofs.enters_of Tryd.func153 (by kernel_rfl) rfl
theorem en_154 : Proofs.Enters Tryd.prog 154 := Proofs.enters_of Tryd.func154 (by kernel_rfl) rfl
def m133_0 (_F : Nat) (c0_0 : Int) (c0_1 : Int) (c0_2 : Int) (c0_3 : Int) (c0_4 : Int) (c0_5 : Int) (c0_6 : Int) (c0_7 : Int) : Option (Bool) :=
 join (fun (_ : Unit) => some true) (fun k1 => bnd (some (decide (c0_0 ≤ c0_1))) (fun v1 => brk (!v1) (some false) (bnd (some (decide (c0_2 ≤ c0_3))) (fun v2 => brk (!v2) (some false) (bnd (some (decide (c0_4 ≤ c0_5))) (fun v3 => brk (!v3) (some false) (bnd (some (decide (c0_6 ≤ c0_7))) (fun v4 => brk (!v4) (some false) (k1 ())))))))))
set_option maxHeartbeats 4000000 in
set_option maxRecDepth 8000 in
theorem c133_0 (F : Nat) (b0 : Nat) (c0_0 : Int) (c0_1 : Int) (c0_2 : Int) (c0_3 : Int) (c0_4 : Int) (c0_5 : Int) (c0_6 : Int) (c0_7 : Int) (w : World) (hb0 : w.heap[b0]? = some (.cells ([.int .i64 c0_0, .int .i64 c0_1, .int .i64 c0_2, .int .i64 c0_3, .int .i64 c0_4, .int .i64 c0_5, .int .i64 c0_6, .int .i64 c0_7] : List Value).toArray 187 (0, 0))) (r : Bool) (hm : m133_0 F c0_0 c0_1 c0_2 c0_3 c0_4 c0_5 c0_6 c0_7 = some r) : Calls Tryd.prog 133 #[.func (.func 154) #[] #[.pointer (some ⟨b0, 0, none⟩)]] w fun e w' => e = .returned (.bool r) ∧ LentL w w' [(b0, 187, [.int .i64 c0_0, .int .i64 c0_1, .int .i64 c0_2, .int .i64 c0_3, .int .i64 c0_4, .int .i64 c0_5, .int .i64 c0_6, .int .i64 c0_7])] := by
 unfold m133_0 at hm
 refine enterG (args := [.v (.func (.func 154) #[] #[.pointer (some ⟨b0, 0, none⟩)])]) Tryd.func133 rfl (N := 13) rfl (Nat.le_of_ble_eq_true rfl) [(900, b0, 187, [.int .i64 c0_0, .int .i64 c0_1, .int .i64 c0_2, .int .i64 c0_3, .int .i64 c0_4, .int .i64 c0_5, .int .i64 c0_6, .int .i64 c0_7])] ⟨hb0, (by simp [loans2]), trivial⟩ rfl ?_
 refine aw_rex (k := .t 0) (.f (.func 154) [] [.p 900 0]) rfl (fun m hm => by have h0 := hm ((900, b0) : Nat × Nat) (by simp [loans2]); simp only [den, denL]; rw [h0]) ?_
 refine AW.keep (s' := [kt 0 (.f (.func 154) [] [.p 900 0]), kb 900 187 8, kc 900 0 (.i c0_0), kc 900 1 (.i c0_1), kc 900 2 (.i c0_2), kc 900 3 (.i c0_3), kc 900 4 (.i c0_4), kc 900 5 (.i c0_5), kc 900 6 (.i c0_6), kc 900 7 (.i c0_7)]) ?_ (kp rfl) rfl
 refine aqS ?_
 refine aqT (rows := [_]) rfl (by kernel_rfl) ⟨
  okp rfl rfl (oqA (lN rfl) rfl),
  trivial⟩ ?_
 refine fqK (s' := [kt 0 (.f (.func 154) [] [.p 900 0]), kb 900 187 8, kc 900 0 (.i c0_0), kc 900 1 (.i c0_1), kc 900 2 (.i c0_2), kc 900 3 (.i c0_3), kc 900 4 (.i c0_4), kc 900 5 (.i c0_5), kc 900 6 (.i c0_6), kc 900 7 (.i c0_7)]) ?_ (kp rfl) rfl
 refine fqT ?_
 refine aw_cutM (ι := Unit) hm (fun x1 => [kb 900 187 8, kc 900 0 (.i c0_0), kc 900 1 (.i c0_1), kc 900 2 (.i c0_2), kc 900 3 (.i c0_3), kc 900 4 (.i c0_4), kc 900 5 (.i c0_5), kc 900 6 (.i c0_6), kc 900 7 (.i c0_7)]) (fun hm => ?_) (fun x1 hm => ?_)
 ·have _z := hm
  refine aqS ?_
  refine aqT (rows := [_, _]) rfl (by kernel_rfl) ⟨
   okp rfl rfl (oqC (x := .g [.i 100, .i 400, .i 100, .i 3]) (fs := []) (caps := []) (extra := []) (lN rfl) en_151 rfl ⟨rfl, rfl, rfl⟩ EvL.nil (fun mm aa ww gg hr hrel => (c151 ww))),
   okp rfl rfl (oqM (lN rfl) rfl),
   trivial⟩ ?_
  refine fqK (s' := [kt 0 (.f (.func 154) [] [.p 900 0]), kt 5 (.i 0), kb 900 187 8, kc 900 0 (.i c0_0), kc 900 1 (.i c0_1), kc 900 2 (.i c0_2), kc 900 3 (.i c0_3), kc 900 4 (.i c0_4), kc 900 5 (.i c0_5), kc 900 6 (.i c0_6), kc 900 7 (.i c0_7)]) ?_ (kp rfl) rfl
  refine fqT ?_
  refine aw_block ?_
  refine aw_rounds 4 ?_
  refine aqS ?_
  refine aqT (rows := [_]) rfl (by kernel_rfl) ⟨
   okp rfl rfl (oqB (r := .bool true) (lN rfl) rfl rfl rfl),
   trivial⟩ ?_
  refine fqK (s' := [kt 0 (.f (.func 154) [] [.p 900 0]), kt 5 (.i 0), kt 6 (.B true), kb 900 187 8, kc 900 0 (.i c0_0), kc 900 1 (.i c0_1), kc 900 2 (.i c0_2), kc 900 3 (.i c0_3), kc 900 4 (.i c0_4), kc 900 5 (.i c0_5), kc 900 6 (.i c0_6), kc 900 7 (.i c0_7)]) ?_ (kp rfl) rfl
  refine fqT ?_
  refine aqS ?_
  refine aqc rfl (fun hz1 => ?_) (fun hz1 => by cases hz1)
  refine aqk ?_
  refine fqT ?_
  refine aqS ?_
  refine aw_block ?_
  refine aqS ?_
  refine aqT (rows := [_, _]) rfl (by kernel_rfl) ⟨
   okp rfl rfl (oqM (lN rfl) rfl),
   okp rfl rfl (oqA (lN rfl) rfl),
   trivial⟩ ?_
  refine fqK (s' := [kt 0 (.f (.func 154) [] [.p 900 0]), kt 3 (.i 0), kt 5 (.i 0), kb 900 187 8, kc 900 0 (.i c0_0), kc 900 1 (.i c0_1), kc 900 2 (.i c0_2), kc 900 3 (.i c0_3), kc 900 4 (.i c0_4), kc 900 5 (.i c0_5), kc 900 6 (.i c0_6), kc 900 7 (.i c0_7)]) ?_ (kp rfl) rfl
  refine fqT ?_
  refine aqS ?_
  obtain ⟨v1, hv1, hm⟩ := bnd_some hm
  refine aqT (rows := [_, _, _, _]) rfl (by kernel_rfl) ⟨
   okp rfl rfl (oqM (lN rfl) rfl),
   okp rfl rfl (oqM (lN rfl) rfl),
   okp rfl rfl (oqN (fs := []) (caps := [.p 900 0]) (xs := [.i 0]) (Nk := 13) (.B v1) (tqS [(0, .f (.func 154) [] [.p 900 0]), (3, .i 0), (5, .i 0), (8, .f (.func 154) [] [.p 900 0]), (9, .i 0)] ++ ((([kb 900 187 8, kc 900 0 (.i c0_0), kc 900 1 (.i c0_1), kc 900 2 (.i c0_2), kc 900 3 (.i c0_3), kc 900 4 (.i c0_4), kc 900 5 (.i c0_5), kc 900 6 (.i c0_6), kc 900 7 (.i c0_7)] : St)) ++ dqS [])) 0 [(0, .f (.func 154) [] [.p 900 0]), (3, .i 0), (5, .i 0), (8, .f (.func 154) [] [.p 900 0]), (9, .i 0)] [kb 900 187 8, kc 900 0 (.i c0_0), kc 900 1 (.i c0_1), kc 900 2 (.i c0_2), kc 900 3 (.i c0_3), kc 900 4 (.i c0_4), kc 900 5 (.i c0_5), kc 900 6 (.i c0_6), kc 900 7 (.i c0_7)] (lN rfl) en_154 Tryd.func154 rfl rfl (Nat.le_of_ble_eq_true rfl) rfl ⟨rfl, rfl, rfl⟩ (EvL.cons rfl EvL.nil) ⟨rfl, rfl, rfl, rfl, rfl, trivial⟩ ⟨rfl, rfl, rfl, rfl, rfl, rfl, rfl, rfl, rfl, trivial⟩ rfl rfl rfl (fun aIv1 hIv1 => ?_)),
   okp rfl rfl (oqn (lN rfl) rfl),
   trivial⟩ ?_
  ·have hm := hv1
   refine AW.keep (s' := [kt 0 (.i 0), kt 1 (.p 900 0), (.u 0 0, some (.x (.f (.func 154) [] [.p 900 0]))), (.u 0 3, some (.x (.i 0))), (.u 0 5, some (.x (.i 0))), (.u 0 8, some (.x (.f (.func 154) [] [.p 900 0]))), (.u 0 9, some (.x (.i 0))), kb 900 187 8, kc 900 0 (.i c0_0), kc 900 1 (.i c0_1), kc 900 2 (.i c0_2), kc 900 3 (.i c0_3), kc 900 4 (.i c0_4), kc 900 5 (.i c0_5), kc 900 6 (.i c0_6), kc 900 7 (.i c0_7)]) ?_ (kp rfl) rfl
   refine aqS ?_
   refine aqT (rows := [_]) rfl (by kernel_rfl) ⟨
    okp rfl rfl (oqA (lN rfl) rfl),
    trivial⟩ ?_
   refine fqK (s' := [kt 0 (.i 0), kt 1 (.p 900 0), (.u 0 0, some (.x (.f (.func 154) [] [.p 900 0]))), (.u 0 3, some (.x (.i 0))), (.u 0 5, some (.x (.i 0))), (.u 0 8, some (.x (.f (.func 154) [] [.p 900 0]))), (.u 0 9, some (.x (.i 0))), kb 900 187 8, kc 900 0 (.i c0_0), kc 900 1 (.i c0_1), kc 900 2 (.i c0_2), kc 900 3 (.i c0_3), kc 900 4 (.i c0_4), kc 900 5 (.i c0_5), kc 900 6 (.i c0_6), kc 900 7 (.i c0_7)]) ?_ (kp rfl) rfl
   refine fqT ?_
   refine aqS ?_
   refine aw_any (rows := [_, _, _, _, _, _, _, _, _, _]) (M := [0, 1, 3, 7, 0, 16, 48, 112, 255, 511]) Tryd_mixed (by kernel_rfl) rfl (by kernel_rfl) ⟨
    okp rfl rfl (oqM (lN rfl) rfl),
    okp rfl rfl (op_ixA (lN rfl) rfl rfl ar_187 (by decide) (by decide)),
    okp rfl rfl (oqF (lN rfl) rfl fo_32_0),
    okp rfl rfl (oq1 (lN rfl) sh_3 rfl rfl),
    okp rfl rfl (oqM (lN rfl) rfl),
    okp rfl rfl (op_ixA (lN rfl) rfl rfl ar_187 (by decide) (by decide)),
    okp rfl rfl (oqF (lN rfl) rfl fo_32_1),
    okp rfl rfl (oq1 (lN rfl) sh_3 rfl rfl),
    okp rfl rfl (oqB (lN rfl) rfl rfl rfl),
    okp rfl rfl (oqA (lN rfl) rfl),
    trivial⟩ ?_
   refine fqK (s' := [kt 3 (.B (decide (c0_0 ≤ c0_1))), (.u 0 0, some (.x (.f (.func 154) [] [.p 900 0]))), (.u 0 3, some (.x (.i 0))), (.u 0 5, some (.x (.i 0))), (.u 0 8, some (.x (.f (.func 154) [] [.p 900 0]))), (.u 0 9, some (.x (.i 0))), kb 900 187 8, kc 900 0 (.i c0_0), kc 900 1 (.i c0_1), kc 900 2 (.i c0_2), kc 900 3 (.i c0_3), kc 900 4 (.i c0_4), kc 900 5 (.i c0_5), kc 900 6 (.i c0_6), kc 900 7 (.i c0_7)]) ?_ (kp rfl) rfl
   refine fqT ?_
   refine aqr ?_
   have hm := Option.some.inj hm
   subst hm
   exact fin_callEnd _ _ _ (.inl rfl) rfl rfl (rqT rfl rqN) rfl hIv1 ⟨rfl, rfl, rfl, rfl, rfl, trivial⟩ ⟨rfl, rfl, rfl, rfl, rfl, rfl, rfl, rfl, rfl, trivial⟩ rfl rfl
  refine fqK (s' := [kt 0 (.f (.func 154) [] [.p 900 0]), kt 5 (.i 0), kt 11 (.B (!v1)), kb 900 187 8, kc 900 0 (.i c0_0), kc 900 1 (.i c0_1), kc 900 2 (.i c0_2), kc 900 3 (.i c0_3), kc 900 4 (.i c0_4), kc 900 5 (.i c0_5), kc 900 6 (.i c0_6), kc 900 7 (.i c0_7)]) ?_ (kp rfl) rfl
  refine fqT ?_
  refine aqc rfl (fun hz2 => ?_) (fun hz2 => ?_)
  ·have hm := brk_t hz2 hm
   refine aqS ?_
   refine aqT (rows := [_]) rfl (by kernel_rfl) ⟨
    okp rfl rfl (oqA (lN rfl) rfl),
    trivial⟩ ?_
   refine fqK (s' := [kt 2 (.B false), kb 900 187 8, kc 900 0 (.i c0_0), kc 900 1 (.i c0_1), kc 900 2 (.i c0_2), kc 900 3 (.i c0_3), kc 900 4 (.i c0_4), kc 900 5 (.i c0_5), kc 900 6 (.i c0_6), kc 900 7 (.i c0_7)]) ?_ (kp rfl) rfl
   refine fqT ?_
   refine aqr ?_
   refine fin_block_ret ?_
   refine fqR ?_
   refine fqR ?_
   refine fin_block_ret ?_
   refine fqR ?_
   refine pqr (x := .B false) rfl rfl (rqT rfl rqN) rfl (fun mm aa ww hr => ?_)
   have hm := Option.some.inj hm
   subst hm
   exact ⟨rfl, lentL_end hr [(900, b0, 187, [(.int .i64 c0_0), (.int .i64 c0_1), (.int .i64 c0_2), (.int .i64 c0_3), (.int .i64 c0_4), (.int .i64 c0_5), (.int .i64 c0_6), (.int .i64 c0_7)])] rfl ⟨rfl, ⟨rfl, rfl, rfl, rfl, rfl, rfl, rfl, rfl, trivial⟩, trivial⟩⟩
  ·have hm := brk_f hz2 hm
   refine aqk ?_
   refine fqB ?_
   refine fqT ?_
   refine aqT (rows := [_, _]) rfl (by kernel_rfl) ⟨
    okp rfl rfl (oqB (r := .int .i64 1) (lN rfl) rfl rfl rfl),
    okp rfl rfl (oqM (lN rfl) rfl),
    trivial⟩ ?_
   refine fqK (s' := [kt 0 (.f (.func 154) [] [.p 900 0]), kt 5 (.i 1), kb 900 187 8, kc 900 0 (.i c0_0), kc 900 1 (.i c0_1), kc 900 2 (.i c0_2), kc 900 3 (.i c0_3), kc 900 4 (.i c0_4), kc 900 5 (.i c0_5), kc 900 6 (.i c0_6), kc 900 7 (.i c0_7)]) ?_ (kp rfl) rfl
   refine fin_round ?_
   refine aqS ?_
   refine aqT (rows := [_]) rfl (by kernel_rfl) ⟨
    okp rfl rfl (oqB (r := .bool true) (lN rfl) rfl rfl rfl),
    trivial⟩ ?_
   refine fqK (s' := [kt 0 (.f (.func 154) [] [.p 900 0]), kt 5 (.i 1), kt 6 (.B true), kb 900 187 8, kc 900 0 (.i c0_0), kc 900 1 (.i c0_1), kc 900 2 (.i c0_2), kc 900 3 (.i c0_3), kc 900 4 (.i c0_4), kc 900 5 (.i c0_5), kc 900 6 (.i c0_6), kc 900 7 (.i c0_7)]) ?_ (kp rfl) rfl
   refine fqT ?_
   refine aqS ?_
   refine aqc rfl (fun hz3 => ?_) (fun hz3 => by cases hz3)
   refine aqk ?_
   refine fqT ?_
   refine aqS ?_
   refine aw_block ?_
   refine aqS ?_
   refine aqT (rows := [_, _]) rfl (by kernel_rfl) ⟨
    okp rfl rfl (oqM (lN rfl) rfl),
    okp rfl rfl (oqA (lN rfl) rfl),
    trivial⟩ ?_
   refine fqK (s' := [kt 0 (.f (.func 154) [] [.p 900 0]), kt 3 (.i 1), kt 5 (.i 1), kb 900 187 8, kc 900 0 (.i c0_0), kc 900 1 (.i c0_1), kc 900 2 (.i c0_2), kc 900 3 (.i c0_3), kc 900 4 (.i c0_4), kc 900 5 (.i c0_5), kc 900 6 (.i c0_6), kc 900 7 (.i c0_7)]) ?_ (kp rfl) rfl
   refine fqT ?_
   refine aqS ?_
   obtain ⟨v2, hv2, hm⟩ := bnd_some hm
   refine aqT (rows := [_, _, _, _]) rfl (by kernel_rfl) ⟨
    okp rfl rfl (oqM (lN rfl) rfl),
    okp rfl rfl (oqM (lN rfl) rfl),
    okp rfl rfl (oqN (fs := []) (caps := [.p 900 0]) (xs := [.i 1]) (Nk := 13) (.B v2) (tqS [(0, .f (.func 154) [] [.p 900 0]), (3, .i 1), (5, .i 1), (8, .f (.func 154) [] [.p 900 0]), (9, .i 1)] ++ ((([kb 900 187 8, kc 900 0 (.i c0_0), kc 900 1 (.i c0_1), kc 900 2 (.i c0_2), kc 900 3 (.i c0_3), kc 900 4 (.i c0_4), kc 900 5 (.i c0_5), kc 900 6 (.i c0_6), kc 900 7 (.i c0_7)] : St)) ++ dqS [])) 0 [(0, .f (.func 154) [] [.p 900 0]), (3, .i 1), (5, .i 1), (8, .f (.func 154) [] [.p 900 0]), (9, .i 1)] [kb 900 187 8, kc 900 0 (.i c0_0), kc 900 1 (.i c0_1), kc 900 2 (.i c0_2), kc 900 3 (.i c0_3), kc 900 4 (.i c0_4), kc 900 5 (.i c0_5), kc 900 6 (.i c0_6), kc 900 7 (.i c0_7)] (lN rfl) en_154 Tryd.func154 rfl rfl (Nat.le_of_ble_eq_true rfl) rfl ⟨rfl, rfl, rfl⟩ (EvL.cons rfl EvL.nil) ⟨rfl, rfl, rfl, rfl, rfl, trivial⟩ ⟨rfl, rfl, rfl, rfl, rfl, rfl, rfl, rfl, rfl, trivial⟩ rfl rfl rfl (fun aIv2 hIv2 => ?_)),
    okp rfl rfl (oqn (lN rfl) rfl),
    trivial⟩ ?_
   ·have hm := hv2
    refine AW.keep (s' := [kt 0 (.i 1), kt 1 (.p 900 0), (.u 0 0, some (.x (.f (.func 154) [] [.p 900 0]))), (.u 0 3, some (.x (.i 1))), (.u 0 5, some (.x (.i 1))), (.u 0 8, some (.x (.f (.func 154) [] [.p 900 0]))), (.u 0 9, some (.x (.i 1))), kb 900 187 8, kc 900 0 (.i c0_0), kc 900 1 (.i c0_1), kc 900 2 (.i c0_2), kc 900 3 (.i c0_3), kc 900 4 (.i c0_4), kc 900 5 (.i c0_5), kc 900 6 (.i c0_6), kc 900 7 (.i c0_7)]) ?_ (kp rfl) rfl
    refine aqS ?_
    refine aqT (rows := [_]) rfl (by kernel_rfl) ⟨
     okp rfl rfl (oqA (lN rfl) rfl),
     trivial⟩ ?_
    refine fqK (s' := [kt 0 (.i 1), kt 1 (.p 900 0), (.u 0 0, some (.x (.f (.func 154) [] [.p 900 0]))), (.u 0 3, some (.x (.i 1))), (.u 0 5, some (.x (.i 1))), (.u 0 8, some (.x (.f (.func 154) [] [.p 900 0]))), (.u 0 9, some (.x (.i 1))), kb 900 187 8, kc 900 0 (.i c0_0), kc 900 1 (.i c0_1), kc 900 2 (.i c0_2), kc 900 3 (.i c0_3), kc 900 4 (.i c0_4), kc 900 5 (.i c0_5), kc 900 6 (.i c0_6), kc 900 7 (.i c0_7)]) ?_ (kp rfl) rfl
    refine fqT ?_
    refine aqS ?_
    refine aw_any (rows := [_, _, _, _, _, _, _, _, _, _]) (M := [0, 1, 3, 7, 0, 16, 48, 112, 255, 511]) Tryd_mixed (by kernel_rfl) rfl (by kernel_rfl) ⟨
     okp rfl rfl (oqM (lN rfl) rfl),
     okp rfl rfl (op_ixA (lN rfl) rfl rfl ar_187 (by decide) (by decide)),
     okp rfl rfl (oqF (lN rfl) rfl fo_32_0),
     okp rfl rfl (oq1 (lN rfl) sh_3 rfl rfl),
     okp rfl rfl (oqM (lN rfl) rfl),
     okp rfl rfl (op_ixA (lN rfl) rfl rfl ar_187 (by decide) (by decide)),
     okp rfl rfl (oqF (lN rfl) rfl fo_32_1),
     okp rfl rfl (oq1 (lN rfl) sh_3 rfl rfl),
     okp rfl rfl (oqB (lN rfl) rfl rfl rfl),
     okp rfl rfl (oqA (lN rfl) rfl),
     trivial⟩ ?_
    refine fqK (s' := [kt 3 (.B (decide (c0_2 ≤ c0_3))), (.u 0 0, some (.x (.f (.func 154) [] [.p 900 0]))), (.u 0 3, some (.x (.i 1))), (.u 0 5, some (.x (.i 1))), (.u 0 8, some (.x (.f (.func 154) [] [.p 900 0]))), (.u 0 9, some (.x (.i 1))), kb 900 187 8, kc 900 0 (.i c0_0), kc 900 1 (.i c0_1), kc 900 2 (.i c0_2), kc 900 3 (.i c0_3), kc 900 4 (.i c0_4), kc 900 5 (.i c0_5), kc 900 6 (.i c0_6), kc 900 7 (.i c0_7)]) ?_ (kp rfl) rfl
    refine fqT ?_
    refine aqr ?_
    have hm := Option.some.inj hm
    subst hm
    exact fin_callEnd _ _ _ (.inl rfl) rfl rfl (rqT rfl rqN) rfl hIv2 ⟨rfl, rfl, rfl, rfl, rfl, trivial⟩ ⟨rfl, rfl, rfl, rfl, rfl, rfl, rfl, rfl, rfl, trivial⟩ rfl rfl
   refine fqK (s' := [kt 0 (.f (.func 154) [] [.p 900 0]), kt 5 (.i 1), kt 11 (.B (!v2)), kb 900 187 8, kc 900 0 (.i c0_0), kc 900 1 (.i c0_1), kc 900 2 (.i c0_2), kc 900 3 (.i c0_3), kc 900 4 (.i c0_4), kc 900 5 (.i c0_5), kc 900 6 (.i c0_6), kc 900 7 (.i c0_7)]) ?_ (kp rfl) rfl
   refine fqT ?_
   refine aqc rfl (fun hz4 => ?_) (fun hz4 => ?_)
   ·have hm := brk_t hz4 hm
    refine aqS ?_
    refine aqT (rows := [_]) rfl (by kernel_rfl) ⟨
     okp rfl rfl (oqA (lN rfl) rfl),
     trivial⟩ ?_
    refine fqK (s' := [kt 2 (.B false), kb 900 187 8, kc 900 0 (.i c0_0), kc 900 1 (.i c0_1), kc 900 2 (.i c0_2), kc 900 3 (.i c0_3), kc 900 4 (.i c0_4), kc 900 5 (.i c0_5), kc 900 6 (.i c0_6), kc 900 7 (.i c0_7)]) ?_ (kp rfl) rfl
    refine fqT ?_
    refine aqr ?_
    refine fin_block_ret ?_
    refine fqR ?_
    refine fqR ?_
    refine fin_block_ret ?_
    refine fqR ?_
    refine pqr (x := .B false) rfl rfl (rqT rfl rqN) rfl (fun mm aa ww hr => ?_)
    have hm := Option.some.inj hm
    subst hm
    exact ⟨rfl, lentL_end hr [(900, b0, 187, [(.int .i64 c0_0), (.int .i64 c0_1), (.int .i64 c0_2), (.int .i64 c0_3), (.int .i64 c0_4), (.int .i64 c0_5), (.int .i64 c0_6), (.int .i64 c0_7)])] rfl ⟨rfl, ⟨rfl, rfl, rfl, rfl, rfl, rfl, rfl, rfl, trivial⟩, trivial⟩⟩
   ·have hm := brk_f hz4 hm
    refine aqk ?_
    refine fqB ?_
    refine fqT ?_
    refine aqT (rows := [_, _]) rfl (by kernel_rfl) ⟨
     okp rfl rfl (oqB (r := .int .i64 2) (lN rfl) rfl rfl rfl),
     okp rfl rfl (oqM (lN rfl) rfl),
     trivial⟩ ?_
    refine fqK (s' := [kt 0 (.f (.func 154) [] [.p 900 0]), kt 5 (.i 2), kb 900 187 8, kc 900 0 (.i c0_0), kc 900 1 (.i c0_1), kc 900 2 (.i c0_2), kc 900 3 (.i c0_3), kc 900 4 (.i c0_4), kc 900 5 (.i c0_5), kc 900 6 (.i c0_6), kc 900 7 (.i c0_7)]) ?_ (kp rfl) rfl
    refine fin_round ?_
    refine aqS ?_
    refine aqT (rows := [_]) rfl (by kernel_rfl) ⟨
     okp rfl rfl (oqB (r := .bool true) (lN rfl) rfl rfl rfl),
     trivial⟩ ?_
    refine fqK (s' := [kt 0 (.f (.func 154) [] [.p 900 0]), kt 5 (.i 2), kt 6 (.B true), kb 900 187 8, kc 900 0 (.i c0_0), kc 900 1 (.i c0_1), kc 900 2 (.i c0_2), kc 900 3 (.i c0_3), kc 900 4 (.i c0_4), kc 900 5 (.i c0_5), kc 900 6 (.i c0_6), kc 900 7 (.i c0_7)]) ?_ (kp rfl) rfl
    refine fqT ?_
    refine aqS ?_
    refine aqc rfl (fun hz5 => ?_) (fun hz5 => by cases hz5)
    refine aqk ?_
    refine fqT ?_
    refine aqS ?_
    refine aw_block ?_
    refine aqS ?_
    refine aqT (rows := [_, _]) rfl (by kernel_rfl) ⟨
     okp rfl rfl (oqM (lN rfl) rfl),
     okp rfl rfl (oqA (lN rfl) rfl),
     trivial⟩ ?_
    refine fqK (s' := [kt 0 (.f (.func 154) [] [.p 900 0]), kt 3 (.i 2), kt 5 (.i 2), kb 900 187 8, kc 900 0 (.i c0_0), kc 900 1 (.i c0_1), kc 900 2 (.i c0_2), kc 900 3 (.i c0_3), kc 900 4 (.i c0_4), kc 900 5 (.i c0_5), kc 900 6 (.i c0_6), kc 900 7 (.i c0_7)]) ?_ (kp rfl) rfl
    refine fqT ?_
    refine aqS ?_
    obtain ⟨v3, hv3, hm⟩ := bnd_some hm
    refine aqT (rows := [_, _, _, _]) rfl (by kernel_rfl) ⟨
     okp rfl rfl (oqM (lN rfl) rfl),
     okp rfl rfl (oqM (lN rfl) rfl),
     okp rfl rfl (oqN (fs := []) (caps := [.p 900 0]) (xs := [.i 2]) (Nk := 13) (.B v3) (tqS [(0, .f (.func 154) [] [.p 900 0]), (3, .i 2), (5, .i 2), (8, .f (.func 154) [] [.p 900 0]), (9, .i 2)] ++ ((([kb 900 187 8, kc 900 0 (.i c0_0), kc 900 1 (.i c0_1), kc 900 2 (.i c0_2), kc 900 3 (.i c0_3), kc 900 4 (.i c0_4), kc 900 5 (.i c0_5), kc 900 6 (.i c0_6), kc 900 7 (.i c0_7)] : St)) ++ dqS [])) 0 [(0, .f (.func 154) [] [.p 900 0]), (3, .i 2), (5, .i 2), (8, .f (.func 154) [] [.p 900 0]), (9, .i 2)] [kb 900 187 8, kc 900 0 (.i c0_0), kc 900 1 (.i c0_1), kc 900 2 (.i c0_2), kc 900 3 (.i c0_3), kc 900 4 (.i c0_4), kc 900 5 (.i c0_5), kc 900 6 (.i c0_6), kc 900 7 (.i c0_7)] (lN rfl) en_154 Tryd.func154 rfl rfl (Nat.le_of_ble_eq_true rfl) rfl ⟨rfl, rfl, rfl⟩ (EvL.cons rfl EvL.nil) ⟨rfl, rfl, rfl, rfl, rfl, trivial⟩ ⟨rfl, rfl, rfl, rfl, rfl, rfl, rfl, rfl, rfl, trivial⟩ rfl rfl rfl (fun aIv3 hIv3 => ?_)),
     okp rfl rfl (oqn (lN rfl) rfl),
     trivial⟩ ?_
    ·have hm := hv3
     refine AW.keep (s' := [kt 0 (.i 2), kt 1 (.p 900 0), (.u 0 0, some (.x (.f (.func 154) [] [.p 900 0]))), (.u 0 3, some (.x (.i 2))), (.u 0 5, some (.x (.i 2))), (.u 0 8, some (.x (.f (.func 154) [] [.p 900 0]))), (.u 0 9, some (.x (.i 2))), kb 900 187 8, kc 900 0 (.i c0_0), kc 900 1 (.i c0_1), kc 900 2 (.i c0_2), kc 900 3 (.i c0_3), kc 900 4 (.i c0_4), kc 900 5 (.i c0_5), kc 900 6 (.i c0_6), kc 900 7 (.i c0_7)]) ?_ (kp rfl) rfl
     refine aqS ?_
     refine aqT (rows := [_]) rfl (by kernel_rfl) ⟨
      okp rfl rfl (oqA (lN rfl) rfl),
      trivial⟩ ?_
     refine fqK (s' := [kt 0 (.i 2), kt 1 (.p 900 0), (.u 0 0, some (.x (.f (.func 154) [] [.p 900 0]))), (.u 0 3, some (.x (.i 2))), (.u 0 5, some (.x (.i 2))), (.u 0 8, some (.x (.f (.func 154) [] [.p 900 0]))), (.u 0 9, some (.x (.i 2))), kb 900 187 8, kc 900 0 (.i c0_0), kc 900 1 (.i c0_1), kc 900 2 (.i c0_2), kc 900 3 (.i c0_3), kc 900 4 (.i c0_4), kc 900 5 (.i c0_5), kc 900 6 (.i c0_6), kc 900 7 (.i c0_7)]) ?_ (kp rfl) rfl
     refine fqT ?_
     refine aqS ?_
     refine aw_any (rows := [_, _, _, _, _, _, _, _, _, _]) (M := [0, 1, 3, 7, 0, 16, 48, 112, 255, 511]) Tryd_mixed (by kernel_rfl) rfl (by kernel_rfl) ⟨
      okp rfl rfl (oqM (lN rfl) rfl),
      okp rfl rfl (op_ixA (lN rfl) rfl rfl ar_187 (by decide) (by decide)),
      okp rfl rfl (oqF (lN rfl) rfl fo_32_0),
      okp rfl rfl (oq1 (lN rfl) sh_3 rfl rfl),
      okp rfl rfl (oqM (lN rfl) rfl),
      okp rfl rfl (op_ixA (lN rfl) rfl rfl ar_187 (by decide) (by decide)),
      okp rfl rfl (oqF (lN rfl) rfl fo_32_1),
      okp rfl rfl (oq1 (lN rfl) sh_3 rfl rfl),
      okp rfl rfl (oqB (lN rfl) rfl rfl rfl),
      okp rfl rfl (oqA (lN rfl) rfl),
      trivial⟩ ?_
     refine fqK (s' := [kt 3 (.B (decide (c0_4 ≤ c0_5))), (.u 0 0, some (.x (.f (.func 154) [] [.p 900 0]))), (.u 0 3, some (.x (.i 2))), (.u 0 5, some (.x (.i 2))), (.u 0 8, some (.x (.f (.func 154) [] [.p 900 0]))), (.u 0 9, some (.x (.i 2))), kb 900 187 8, kc 900 0 (.i c0_0), kc 900 1 (.i c0_1), kc 900 2 (.i c0_2), kc 900 3 (.i c0_3), kc 900 4 (.i c0_4), kc 900 5 (.i c0_5), kc 900 6 (.i c0_6), kc 900 7 (.i c0_7)]) ?_ (kp rfl) rfl
     refine fqT ?_
     refine aqr ?_
     have hm := Option.some.inj hm
     subst hm
     exact fin_callEnd _ _ _ (.inl rfl) rfl rfl (rqT rfl rqN) rfl hIv3 ⟨rfl, rfl, rfl, rfl, rfl, trivial⟩ ⟨rfl, rfl, rfl, rfl, rfl, rfl, rfl, rfl, rfl, trivial⟩ rfl rfl
    refine fqK (s' := [kt 0 (.f (.func 154) [] [.p 900 0]), kt 5 (.i 2), kt 11 (.B (!v3)), kb 900 187 8, kc 900 0 (.i c0_0), kc 900 1 (.i c0_1), kc 900 2 (.i c0_2), kc 900 3 (.i c0_3), kc 900 4 (.i c0_4), kc 900 5 (.i c0_5), kc 900 6 (.i c0_6), kc 900 7 (.i c0_7)]) ?_ (kp rfl) rfl
    refine fqT ?_
    refine aqc rfl (fun hz6 => ?_) (fun hz6 => ?_)
    ·have hm := brk_t hz6 hm
     refine aqS ?_
     refine aqT (rows := [_]) rfl (by kernel_rfl) ⟨
      okp rfl rfl (oqA (lN rfl) rfl),
      trivial⟩ ?_
     refine fqK (s' := [kt 2 (.B false), kb 900 187 8, kc 900 0 (.i c0_0), kc 900 1 (.i c0_1), kc 900 2 (.i c0_2), kc 900 3 (.i c0_3), kc 900 4 (.i c0_4), kc 900 5 (.i c0_5), kc 900 6 (.i c0_6), kc 900 7 (.i c0_7)]) ?_ (kp rfl) rfl
     refine fqT ?_
     refine aqr ?_
     refine fin_block_ret ?_
     refine fqR ?_
     refine fqR ?_
     refine fin_block_ret ?_
     refine fqR ?_
     refine pqr (x := .B false) rfl rfl (rqT rfl rqN) rfl (fun mm aa ww hr => ?_)
     have hm := Option.some.inj hm
     subst hm
     exact ⟨rfl, lentL_end hr [(900, b0, 187, [(.int .i64 c0_0), (.int .i64 c0_1), (.int .i64 c0_2), (.int .i64 c0_3), (.int .i64 c0_4), (.int .i64 c0_5), (.int .i64 c0_6), (.int .i64 c0_7)])] rfl ⟨rfl, ⟨rfl, rfl, rfl, rfl, rfl, rfl, rfl, rfl, trivial⟩, trivial⟩⟩
    ·have hm := brk_f hz6 hm
     refine aqk ?_
     refine fqB ?_
     refine fqT ?_
     refine aqT (rows := [_, _]) rfl (by kernel_rfl) ⟨
      okp rfl rfl (oqB (r := .int .i64 3) (lN rfl) rfl rfl rfl),
      okp rfl rfl (oqM (lN rfl) rfl),
      trivial⟩ ?_
     refine fqK (s' := [kt 0 (.f (.func 154) [] [.p 900 0]), kt 5 (.i 3), kb 900 187 8, kc 900 0 (.i c0_0), kc 900 1 (.i c0_1), kc 900 2 (.i c0_2), kc 900 3 (.i c0_3), kc 900 4 (.i c0_4), kc 900 5 (.i c0_5), kc 900 6 (.i c0_6), kc 900 7 (.i c0_7)]) ?_ (kp rfl) rfl
     refine fin_round ?_
     refine aqS ?_
     refine aqT (rows := [_]) rfl (by kernel_rfl) ⟨
      okp rfl rfl (oqB (r := .bool true) (lN rfl) rfl rfl rfl),
      trivial⟩ ?_
     refine fqK (s' := [kt 0 (.f (.func 154) [] [.p 900 0]), kt 5 (.i 3), kt 6 (.B true), kb 900 187 8, kc 900 0 (.i c0_0), kc 900 1 (.i c0_1), kc 900 2 (.i c0_2), kc 900 3 (.i c0_3), kc 900 4 (.i c0_4), kc 900 5 (.i c0_5), kc 900 6 (.i c0_6), kc 900 7 (.i c0_7)]) ?_ (kp rfl) rfl
     refine fqT ?_
     refine aqS ?_
     refine aqc rfl (fun hz7 => ?_) (fun hz7 => by cases hz7)
     refine aqk ?_
     refine fqT ?_
     refine aqS ?_
     refine aw_block ?_
     refine aqS ?_
     refine aqT (rows := [_, _]) rfl (by kernel_rfl) ⟨
      okp rfl rfl (oqM (lN rfl) rfl),
      okp rfl rfl (oqA (lN rfl) rfl),
      trivial⟩ ?_
     refine fqK (s' := [kt 0 (.f (.func 154) [] [.p 900 0]), kt 3 (.i 3), kt 5 (.i 3), kb 900 187 8, kc 900 0 (.i c0_0), kc 900 1 (.i c0_1), kc 900 2 (.i c0_2), kc 900 3 (.i c0_3), kc 900 4 (.i c0_4), kc 900 5 (.i c0_5), kc 900 6 (.i c0_6), kc 900 7 (.i c0_7)]) ?_ (kp rfl) rfl
     refine fqT ?_
     refine aqS ?_
     obtain ⟨v4, hv4, hm⟩ := bnd_some hm
     refine aqT (rows := [_, _, _, _]) rfl (by kernel_rfl) ⟨
      okp rfl rfl (oqM (lN rfl) rfl),
      okp rfl rfl (oqM (lN rfl) rfl),
      okp rfl rfl (oqN (fs := []) (caps := [.p 900 0]) (xs := [.i 3]) (Nk := 13) (.B v4) (tqS [(0, .f (.func 154) [] [.p 900 0]), (3, .i 3), (5, .i 3), (8, .f (.func 154) [] [.p 900 0]), (9, .i 3)] ++ ((([kb 900 187 8, kc 900 0 (.i c0_0), kc 900 1 (.i c0_1), kc 900 2 (.i c0_2), kc 900 3 (.i c0_3), kc 900 4 (.i c0_4), kc 900 5 (.i c0_5), kc 900 6 (.i c0_6), kc 900 7 (.i c0_7)] : St)) ++ dqS [])) 0 [(0, .f (.func 154) [] [.p 900 0]), (3, .i 3), (5, .i 3), (8, .f (.func 154) [] [.p 900 0]), (9, .i 3)] [kb 900 187 8, kc 900 0 (.i c0_0), kc 900 1 (.i c0_1), kc 900 2 (.i c0_2), kc 900 3 (.i c0_3), kc 900 4 (.i c0_4), kc 900 5 (.i c0_5), kc 900 6 (.i c0_6), kc 900 7 (.i c0_7)] (lN rfl) en_154 Tryd.func154 rfl rfl (Nat.le_of_ble_eq_true rfl) rfl ⟨rfl, rfl, rfl⟩ (EvL.cons rfl EvL.nil) ⟨rfl, rfl, rfl, rfl, rfl, trivial⟩ ⟨rfl, rfl, rfl, rfl, rfl, rfl, rfl, rfl, rfl, trivial⟩ rfl rfl rfl (fun aIv4 hIv4 => ?_)),
      okp rfl rfl (oqn (lN rfl) rfl),
      trivial⟩ ?_
     ·have hm := hv4
      refine AW.keep (s' := [kt 0 (.i 3), kt 1 (.p 900 0), (.u 0 0, some (.x (.f (.func 154) [] [.p 900 0]))), (.u 0 3, some (.x (.i 3))), (.u 0 5, some (.x (.i 3))), (.u 0 8, some (.x (.f (.func 154) [] [.p 900 0]))), (.u 0 9, some (.x (.i 3))), kb 900 187 8, kc 900 0 (.i c0_0), kc 900 1 (.i c0_1), kc 900 2 (.i c0_2), kc 900 3 (.i c0_3), kc 900 4 (.i c0_4), kc 900 5 (.i c0_5), kc 900 6 (.i c0_6), kc 900 7 (.i c0_7)]) ?_ (kp rfl) rfl
      refine aqS ?_
      refine aqT (rows := [_]) rfl (by kernel_rfl) ⟨
       okp rfl rfl (oqA (lN rfl) rfl),
       trivial⟩ ?_
      refine fqK (s' := [kt 0 (.i 3), kt 1 (.p 900 0), (.u 0 0, some (.x (.f (.func 154) [] [.p 900 0]))), (.u 0 3, some (.x (.i 3))), (.u 0 5, some (.x (.i 3))), (.u 0 8, some (.x (.f (.func 154) [] [.p 900 0]))), (.u 0 9, some (.x (.i 3))), kb 900 187 8, kc 900 0 (.i c0_0), kc 900 1 (.i c0_1), kc 900 2 (.i c0_2), kc 900 3 (.i c0_3), kc 900 4 (.i c0_4), kc 900 5 (.i c0_5), kc 900 6 (.i c0_6), kc 900 7 (.i c0_7)]) ?_ (kp rfl) rfl
      refine fqT ?_
      refine aqS ?_
      refine aw_any (rows := [_, _, _, _, _, _, _, _, _, _]) (M := [0, 1, 3, 7, 0, 16, 48, 112, 255, 511]) Tryd_mixed (by kernel_rfl) rfl (by kernel_rfl) ⟨
       okp rfl rfl (oqM (lN rfl) rfl),
       okp rfl rfl (op_ixA (lN rfl) rfl rfl ar_187 (by decide) (by decide)),
       okp rfl rfl (oqF (lN rfl) rfl fo_32_0),
       okp rfl rfl (oq1 (lN rfl) sh_3 rfl rfl),
       okp rfl rfl (oqM (lN rfl) rfl),
       okp rfl rfl (op_ixA (lN rfl) rfl rfl ar_187 (by decide) (by decide)),
       okp rfl rfl (oqF (lN rfl) rfl fo_32_1),
       okp rfl rfl (oq1 (lN rfl) sh_3 rfl rfl),
       okp rfl rfl (oqB (lN rfl) rfl rfl rfl),
       okp rfl rfl (oqA (lN rfl) rfl),
       trivial⟩ ?_
      refine fqK (s' := [kt 3 (.B (decide (c0_6 ≤ c0_7))), (.u 0 0, some (.x (.f (.func 154) [] [.p 900 0]))), (.u 0 3, some (.x (.i 3))), (.u 0 5, some (.x (.i 3))), (.u 0 8, some (.x (.f (.func 154) [] [.p 900 0]))), (.u 0 9, some (.x (.i 3))), kb 900 187 8, kc 900 0 (.i c0_0), kc 900 1 (.i c0_1), kc 900 2 (.i c0_2), kc 900 3 (.i c0_3), kc 900 4 (.i c0_4), kc 900 5 (.i c0_5), kc 900 6 (.i c0_6), kc 900 7 (.i c0_7)]) ?_ (kp rfl) rfl
      refine fqT ?_
      refine aqr ?_
      have hm := Option.some.inj hm
      subst hm
      exact fin_callEnd _ _ _ (.inl rfl) rfl rfl (rqT rfl rqN) rfl hIv4 ⟨rfl, rfl, rfl, rfl, rfl, trivial⟩ ⟨rfl, rfl, rfl, rfl, rfl, rfl, rfl, rfl, rfl, trivial⟩ rfl rfl
     refine fqK (s' := [kt 0 (.f (.func 154) [] [.p 900 0]), kt 5 (.i 3), kt 11 (.B (!v4)), kb 900 187 8, kc 900 0 (.i c0_0), kc 900 1 (.i c0_1), kc 900 2 (.i c0_2), kc 900 3 (.i c0_3), kc 900 4 (.i c0_4), kc 900 5 (.i c0_5), kc 900 6 (.i c0_6), kc 900 7 (.i c0_7)]) ?_ (kp rfl) rfl
     refine fqT ?_
     refine aqc rfl (fun hz8 => ?_) (fun hz8 => ?_)
     ·have hm := brk_t hz8 hm
      refine aqS ?_
      refine aqT (rows := [_]) rfl (by kernel_rfl) ⟨
       okp rfl rfl (oqA (lN rfl) rfl),
       trivial⟩ ?_
      refine fqK (s' := [kt 2 (.B false), kb 900 187 8, kc 900 0 (.i c0_0), kc 900 1 (.i c0_1), kc 900 2 (.i c0_2), kc 900 3 (.i c0_3), kc 900 4 (.i c0_4), kc 900 5 (.i c0_5), kc 900 6 (.i c0_6), kc 900 7 (.i c0_7)]) ?_ (kp rfl) rfl
      refine fqT ?_
      refine aqr ?_
      refine fin_block_ret ?_
      refine fqR ?_
      refine fqR ?_
      refine fin_block_ret ?_
      refine fqR ?_
      refine pqr (x := .B false) rfl rfl (rqT rfl rqN) rfl (fun mm aa ww hr => ?_)
      have hm := Option.some.inj hm
      subst hm
      exact ⟨rfl, lentL_end hr [(900, b0, 187, [(.int .i64 c0_0), (.int .i64 c0_1), (.int .i64 c0_2), (.int .i64 c0_3), (.int .i64 c0_4), (.int .i64 c0_5), (.int .i64 c0_6), (.int .i64 c0_7)])] rfl ⟨rfl, ⟨rfl, rfl, rfl, rfl, rfl, rfl, rfl, rfl, trivial⟩, trivial⟩⟩
     ·have hm := brk_f hz8 hm
      refine aqk ?_
      refine fqB ?_
      refine fqT ?_
      refine aqT (rows := [_, _]) rfl (by kernel_rfl) ⟨
       okp rfl rfl (oqB (r := .int .i64 4) (lN rfl) rfl rfl rfl),
       okp rfl rfl (oqM (lN rfl) rfl),
       trivial⟩ ?_
      refine fqK (s' := [kt 0 (.f (.func 154) [] [.p 900 0]), kt 5 (.i 4), kb 900 187 8, kc 900 0 (.i c0_0), kc 900 1 (.i c0_1), kc 900 2 (.i c0_2), kc 900 3 (.i c0_3), kc 900 4 (.i c0_4), kc 900 5 (.i c0_5), kc 900 6 (.i c0_6), kc 900 7 (.i c0_7)]) ?_ (kp rfl) rfl
      refine fin_round ?_
      refine aqS ?_
      refine aqT (rows := [_]) rfl (by kernel_rfl) ⟨
       okp rfl rfl (oqB (r := .bool false) (lN rfl) rfl rfl rfl),
       trivial⟩ ?_
      refine fqK (s' := [kt 0 (.f (.func 154) [] [.p 900 0]), kt 5 (.i 4), kt 6 (.B false), kb 900 187 8, kc 900 0 (.i c0_0), kc 900 1 (.i c0_1), kc 900 2 (.i c0_2), kc 900 3 (.i c0_3), kc 900 4 (.i c0_4), kc 900 5 (.i c0_5), kc 900 6 (.i c0_6), kc 900 7 (.i c0_7)]) ?_ (kp rfl) rfl
      refine fqT ?_
      refine aqS ?_
      refine aqc rfl (fun hz9 => by cases hz9) (fun hz9 => ?_)
      refine aw_exit ?_
      refine fqE ?_
      refine fqE ?_
      refine fin_block_exit ?_
      exact fqc () hm ⟨rfl, rfl, rfl, rfl, rfl, rfl, rfl, rfl, rfl, trivial⟩ rfl
 ·have _z := hm
  refine aqS ?_
  refine aqT (rows := [_]) rfl (by kernel_rfl) ⟨
   okp rfl rfl (oqA (lN rfl) rfl),
   trivial⟩ ?_
  refine fqK (s' := [kt 2 (.B true), kb 900 187 8, kc 900 0 (.i c0_0), kc 900 1 (.i c0_1), kc 900 2 (.i c0_2), kc 900 3 (.i c0_3), kc 900 4 (.i c0_4), kc 900 5 (.i c0_5), kc 900 6 (.i c0_6), kc 900 7 (.i c0_7)]) ?_ (kp rfl) rfl
  refine fqT ?_
  refine aqr ?_
  refine pqr (x := .B true) rfl rfl (rqT rfl rqN) rfl (fun mm aa ww hr => ?_)
  have hm := Option.some.inj hm
  subst hm
  exact ⟨rfl, lentL_end hr [(900, b0, 187, [(.int .i64 c0_0), (.int .i64 c0_1), (.int .i64 c0_2), (.int .i64 c0_3), (.int .i64 c0_4), (.int .i64 c0_5), (.int .i64 c0_6), (.int .i64 c0_7)])] rfl ⟨rfl, ⟨rfl, rfl, rfl, rfl, rfl, rfl, rfl, rfl, trivial⟩, trivial⟩⟩
def m129 (F : Nat) (a0 : Spans) (a1 : Spans) : Option (Spans × Bool) :=
 bnd (join (fun (x1 : Int × Int × Int × Int × Int × Int × Int × Int) => some (x1.1, x1.2.1, x1.2.2.1, x1.2.2.2.1, x1.2.2.2.2.1, x1.2.2.2.2.2.1, x1.2.2.2.2.2.2.1, x1.2.2.2.2.2.2.2)) (fun k1 => bnd (some (if a1.A.Lo > a0.A.Lo then a1.A.Lo else a0.A.Lo, if a1.A.Hi < a0.A.Hi then a1.A.Hi else a0.A.Hi)) (fun v2 => bnd (some (if a1.B.Lo > a0.B.Lo then a1.B.Lo else a0.B.Lo, if a1.B.Hi < a0.B.Hi then a1.B.Hi else a0.B.Hi)) (fun v3 => bnd (some (if a1.C.Lo > a0.C.Lo then a1.C.Lo else a0.C.Lo, if a1.C.Hi < a0.C.Hi then a1.C.Hi else a0.C.Hi)) (fun v4 => bnd (some (if a1.D.Lo > a0.D.Lo then a1.D.Lo else a0.D.Lo, if a1.D.Hi < a0.D.Hi then a1.D.Hi else a0.D.Hi)) (fun v5 => k1 (v2.1, v2.2, v3.1, v3.2, v4.1, v4.2, v5.1, v5.2))))))) (fun v1 => bnd (m133_0 F v1.1 v1.2.1 v1.2.2.1 v1.2.2.2.1 v1.2.2.2.2.1 v1.2.2.2.2.2.1 v1.2.2.2.2.2.2.1 v1.2.2.2.2.2.2.2) (fun v6 => some ((⟨(⟨v1.1, v1.2.1⟩ : Span), (⟨v1.2.2.1, v1.2.2.2.1⟩ : Span), (⟨v1.2.2.2.2.1, v1.2.2.2.2.2.1⟩ : Span), (⟨v1.2.2.2.2.2.2.1, v1.2.2.2.2.2.2.2⟩ : Span)⟩ : Spans), v6)))
set_option maxHeartbeats 8000000 in
set_option maxRecDepth 8000 in
theorem c129 (F : Nat) (a0 : Spans) (a1 : Spans) (w : World)  (r : Spans × Bool) (hm : m129 F a0 a1 = some r) : Calls Tryd.prog 129 #[.agg #[.int .i64 a0.A.Lo, .int .i64 a0.A.Hi, .int .i64 a0.B.Lo, .int .i64 a0.B.Hi, .int .i64 a0.C.Lo, .int .i64 a0.C.Hi, .int .i64 a0.D.Lo, .int .i64 a0.D.Hi], .agg #[.int .i64 a1.A.Lo, .int .i64 a1.A.Hi, .int .i64 a1.B.Lo, .int .i64 a1.B.Hi, .int .i64 a1.C.Lo, .int .i64 a1.C.Hi, .int .i64 a1.D.Lo, .int .i64 a1.D.Hi]] w fun e w' => e = .returned (.tuple #[.agg #[.int .i64 r.1.A.Lo, .int .i64 r.1.A.Hi, .int .i64 r.1.B.Lo, .int .i64 r.1.B.Hi, .int .i64 r.1.C.Lo, .int .i64 r.1.C.Hi, .int .i64 r.1.D.Lo, .int .i64 r.1.D.Hi], .bool r.2]) ∧ Below w.heap.size w w' := by
 unfold m129 at hm
 refine enter (args := [.g [.i a0.A.Lo, .i a0.A.Hi, .i a0.B.Lo, .i a0.B.Hi, .i a0.C.Lo, .i a0.C.Hi, .i a0.D.Lo, .i a0.D.Hi], .g [.i a1.A.Lo, .i a1.A.Hi, .i a1.B.Lo, .i a1.B.Hi, .i a1.C.Lo, .i a1.C.Hi, .i a1.D.Lo, .i a1.D.Hi]]) Tryd.func129 rfl (N := 12) rfl (Nat.le_of_ble_eq_true rfl) ?_
 refine aqS ?_
 refine aqT (rows := [_, _, _, _]) rfl (by kernel_rfl) ⟨
  okp rfl rfl (op_boxN (L := 1) (lN rfl) rfl rfl rfl),
  okp rfl rfl (op_boxN (L := 2) (lN rfl) rfl rfl rfl),
  okp rfl rfl (oqa (L := 3) (lN rfl) zl_187),
  okp rfl rfl (oqA (lN rfl) rfl),
  trivial⟩ ?_
 refine fqK (s' := [kt 2 (.p 1 0), kt 3 (.p 2 0), kt 4 (.p 3 0), kb 1 187 8, kb 2 187 8, kb 3 187 8, kc 1 0 (.i a0.A.Lo), kc 1 1 (.i a0.A.Hi), kc 1 2 (.i a0.B.Lo), kc 1 3 (.i a0.B.Hi), kc 1 4 (.i a0.C.Lo), kc 1 5 (.i a0.C.Hi), kc 1 6 (.i a0.D.Lo), kc 1 7 (.i a0.D.Hi), kc 2 0 (.i a1.A.Lo), kc 2 1 (.i a1.A.Hi), kc 2 2 (.i a1.B.Lo), kc 2 3 (.i a1.B.Hi), kc 2 4 (.i a1.C.Lo), kc 2 5 (.i a1.C.Hi), kc 2 6 (.i a1.D.Lo), kc 2 7 (.i a1.D.Hi), kc 3 0 (.i 0), kc 3 1 (.i 0), kc 3 2 (.i 0), kc 3 3 (.i 0), kc 3 4 (.i 0), kc 3 5 (.i 0), kc 3 6 (.i 0), kc 3 7 (.i 0)]) ?_ (kp rfl) rfl
 refine fqT ?_
 refine aqS ?_
 obtain ⟨v1, hv1, hm⟩ := bnd_some hm
 refine aqT (rows := [_, _, _, _]) rfl (by kernel_rfl) ⟨
  okp rfl rfl (op_mkfn (lN rfl) EvL.nil (EvL.cons rfl (EvL.cons rfl EvL.nil))),
  okp rfl rfl (oqN (fs := []) (caps := []) (xs := [.f (.func 153) [] [.p 1 0, .p 2 0]]) (Nk := 15) (.g [.i v1.1, .i v1.2.1, .i v1.2.2.1, .i v1.2.2.2.1, .i v1.2.2.2.2.1, .i v1.2.2.2.2.2.1, .i v1.2.2.2.2.2.2.1, .i v1.2.2.2.2.2.2.2]) (tqS [(2, .p 1 0), (3, .p 2 0), (4, .p 3 0), (7, .f (.func 153) [] [.p 1 0, .p 2 0])] ++ ((([kb 1 187 8, kb 2 187 8, kb 3 187 8, kc 1 0 (.i a0.A.Lo), kc 1 1 (.i a0.A.Hi), kc 1 2 (.i a0.B.Lo), kc 1 3 (.i a0.B.Hi), kc 1 4 (.i a0.C.Lo), kc 1 5 (.i a0.C.Hi), kc 1 6 (.i a0.D.Lo), kc 1 7 (.i a0.D.Hi), kc 2 0 (.i a1.A.Lo), kc 2 1 (.i a1.A.Hi), kc 2 2 (.i a1.B.Lo), kc 2 3 (.i a1.B.Hi), kc 2 4 (.i a1.C.Lo), kc 2 5 (.i a1.C.Hi), kc 2 6 (.i a1.D.Lo), kc 2 7 (.i a1.D.Hi), kc 3 0 (.i 0), kc 3 1 (.i 0), kc 3 2 (.i 0), kc 3 3 (.i 0), kc 3 4 (.i 0)] : St) ++ (([kc 3 5 (.i 0), kc 3 6 (.i 0), kc 3 7 (.i 0)] : St))) ++ dqS [])) 0 [(2, .p 1 0), (3, .p 2 0), (4, .p 3 0), (7, .f (.func 153) [] [.p 1 0, .p 2 0])] [kb 1 187 8, kb 2 187 8, kb 3 187 8, kc 1 0 (.i a0.A.Lo), kc 1 1 (.i a0.A.Hi), kc 1 2 (.i a0.B.Lo), kc 1 3 (.i a0.B.Hi), kc 1 4 (.i a0.C.Lo), kc 1 5 (.i a0.C.Hi), kc 1 6 (.i a0.D.Lo), kc 1 7 (.i a0.D.Hi), kc 2 0 (.i a1.A.Lo), kc 2 1 (.i a1.A.Hi), kc 2 2 (.i a1.B.Lo), kc 2 3 (.i a1.B.Hi), kc 2 4 (.i a1.C.Lo), kc 2 5 (.i a1.C.Hi), kc 2 6 (.i a1.D.Lo), kc 2 7 (.i a1.D.Hi), kc 3 0 (.i 0), kc 3 1 (.i 0), kc 3 2 (.i 0), kc 3 3 (.i 0), kc 3 4 (.i 0), kc 3 5 (.i 0), kc 3 6 (.i 0), kc 3 7 (.i 0)] (lN rfl) en_148 Tryd.func148 rfl rfl (Nat.le_of_ble_eq_true rfl) rfl ⟨rfl, rfl, rfl⟩ (EvL.cons rfl EvL.nil) ⟨rfl, rfl, rfl, rfl, trivial⟩ ⟨rfl, rfl, rfl, rfl, rfl, rfl, rfl, rfl, rfl, rfl, rfl, rfl, rfl, rfl, rfl, rfl, rfl, rfl, rfl, rfl, rfl, rfl, rfl, rfl, rfl, rfl, rfl, trivial⟩ rfl rfl rfl (fun aIv1 hIv1 => ?_)),
  okp rfl rfl (oqa (L := 10) (lN rfl) zl_187),
  okp rfl rfl (oqS sz_187 rfl rfl rfl rfl rfl (by decide)),
  trivial⟩ ?_
 ·have hm := hv1
  refine AW.keep (s' := [kt 0 (.f (.func 153) [] [.p 1 0, .p 2 0]), (.u 0 2, some (.x (.p 1 0))), (.u 0 3, some (.x (.p 2 0))), (.u 0 4, some (.x (.p 3 0))), (.u 0 7, some (.x (.f (.func 153) [] [.p 1 0, .p 2 0]))), kb 1 187 8, kb 2 187 8, kb 3 187 8, kc 1 0 (.i a0.A.Lo), kc 1 1 (.i a0.A.Hi), kc 1 2 (.i a0.B.Lo), kc 1 3 (.i a0.B.Hi), kc 1 4 (.i a0.C.Lo), kc 1 5 (.i a0.C.Hi), kc 1 6 (.i a0.D.Lo), kc 1 7 (.i a0.D.Hi), kc 2 0 (.i a1.A.Lo), kc 2 1 (.i a1.A.Hi), kc 2 2 (.i a1.B.Lo), kc 2 3 (.i a1.B.Hi), kc 2 4 (.i a1.C.Lo), kc 2 5 (.i a1.C.Hi), kc 2 6 (.i a1.D.Lo), kc 2 7 (.i a1.D.Hi), kc 3 0 (.i 0), kc 3 1 (.i 0), kc 3 2 (.i 0), kc 3 3 (.i 0), kc 3 4 (.i 0), kc 3 5 (.i 0), kc 3 6 (.i 0), kc 3 7 (.i 0)]) ?_ (kp rfl) rfl
  refine aqS ?_
  refine aqT (rows := [_]) rfl (by kernel_rfl) ⟨
   okp rfl rfl (oqa (L := 4) (lN rfl) zl_187),
   trivial⟩ ?_
  refine fqK (s' := [kt 0 (.f (.func 153) [] [.p 1 0, .p 2 0]), kt 2 (.p 4 0), (.u 0 2, some (.x (.p 1 0))), (.u 0 3, some (.x (.p 2 0))), (.u 0 4, some (.x (.p 3 0))), (.u 0 7, some (.x (.f (.func 153) [] [.p 1 0, .p 2 0]))), kb 1 187 8, kb 2 187 8, kb 3 187 8, kb 4 187 8, kc 1 0 (.i a0.A.Lo), kc 1 1 (.i a0.A.Hi), kc 1 2 (.i a0.B.Lo), kc 1 3 (.i a0.B.Hi), kc 1 4 (.i a0.C.Lo), kc 1 5 (.i a0.C.Hi), kc 1 6 (.i a0.D.Lo), kc 1 7 (.i a0.D.Hi), kc 2 0 (.i a1.A.Lo), kc 2 1 (.i a1.A.Hi), kc 2 2 (.i a1.B.Lo), kc 2 3 (.i a1.B.Hi), kc 2 4 (.i a1.C.Lo), kc 2 5 (.i a1.C.Hi), kc 2 6 (.i a1.D.Lo), kc 2 7 (.i a1.D.Hi), kc 3 0 (.i 0), kc 3 1 (.i 0), kc 3 2 (.i 0), kc 3 3 (.i 0), kc 3 4 (.i 0), kc 3 5 (.i 0), kc 3 6 (.i 0), kc 3 7 (.i 0), kc 4 0 (.i 0), kc 4 1 (.i 0), kc 4 2 (.i 0), kc 4 3 (.i 0), kc 4 4 (.i 0), kc 4 5 (.i 0), kc 4 6 (.i 0), kc 4 7 (.i 0)]) ?_ (kp rfl) rfl
  refine fqT ?_
  refine aqS ?_
  refine aqT (rows := [_]) rfl (by kernel_rfl) ⟨
   okp rfl rfl (oqa (L := 5) (lN rfl) zl_187),
   trivial⟩ ?_
  refine fqK (s' := [kt 0 (.f (.func 153) [] [.p 1 0, .p 2 0]), kt 2 (.p 4 0), kt 3 (.p 5 0), (.u 0 2, some (.x (.p 1 0))), (.u 0 3, some (.x (.p 2 0))), (.u 0 4, some (.x (.p 3 0))), (.u 0 7, some (.x (.f (.func 153) [] [.p 1 0, .p 2 0]))), kb 1 187 8, kb 2 187 8, kb 3 187 8, kb 4 187 8, kb 5 187 8, kc 1 0 (.i a0.A.Lo), kc 1 1 (.i a0.A.Hi), kc 1 2 (.i a0.B.Lo), kc 1 3 (.i a0.B.Hi), kc 1 4 (.i a0.C.Lo), kc 1 5 (.i a0.C.Hi), kc 1 6 (.i a0.D.Lo), kc 1 7 (.i a0.D.Hi), kc 2 0 (.i a1.A.Lo), kc 2 1 (.i a1.A.Hi), kc 2 2 (.i a1.B.Lo), kc 2 3 (.i a1.B.Hi), kc 2 4 (.i a1.C.Lo), kc 2 5 (.i a1.C.Hi), kc 2 6 (.i a1.D.Lo), kc 2 7 (.i a1.D.Hi), kc 3 0 (.i 0), kc 3 1 (.i 0), kc 3 2 (.i 0), kc 3 3 (.i 0), kc 3 4 (.i 0), kc 3 5 (.i 0), kc 3 6 (.i 0), kc 3 7 (.i 0), kc 4 0 (.i 0), kc 4 1 (.i 0), kc 4 2 (.i 0), kc 4 3 (.i 0), kc 4 4 (.i 0), kc 4 5 (.i 0), kc 4 6 (.i 0), kc 4 7 (.i 0), kc 5 0 (.i 0), kc 5 1 (.i 0), kc 5 2 (.i 0), kc 5 3 (.i 0), kc 5 4 (.i 0), kc 5 5 (.i 0), kc 5 6 (.i 0), kc 5 7 (.i 0)]) ?_ (kp rfl) rfl
  refine fqT ?_
  refine aw_cutM (ι := Int × Int × Int × Int × Int × Int × Int × Int) hm (fun x1 => [kt 2 (.p 4 0), kt 3 (.p 5 0), (.u 0 2, some (.x (.p 1 0))), (.u 0 3, some (.x (.p 2 0))), (.u 0 4, some (.x (.p 3 0))), (.u 0 7, some (.x (.f (.func 153) [] [.p 1 0, .p 2 0]))), kb 1 187 8, kb 2 187 8, kb 3 187 8, kb 4 187 8, kb 5 187 8, kc 1 0 (.i a0.A.Lo), kc 1 1 (.i a0.A.Hi), kc 1 2 (.i a0.B.Lo), kc 1 3 (.i a0.B.Hi), kc 1 4 (.i a0.C.Lo), kc 1 5 (.i a0.C.Hi), kc 1 6 (.i a0.D.Lo), kc 1 7 (.i a0.D.Hi), kc 2 0 (.i a1.A.Lo), kc 2 1 (.i a1.A.Hi), kc 2 2 (.i a1.B.Lo), kc 2 3 (.i a1.B.Hi), kc 2 4 (.i a1.C.Lo), kc 2 5 (.i a1.C.Hi), kc 2 6 (.i a1.D.Lo), kc 2 7 (.i a1.D.Hi), kc 3 0 (.i 0), kc 3 1 (.i 0), kc 3 2 (.i 0), kc 3 3 (.i 0), kc 3 4 (.i 0), kc 3 5 (.i 0), kc 3 6 (.i 0), kc 3 7 (.i 0), kc 4 0 (.i 0), kc 4 1 (.i 0), kc 4 2 (.i 0), kc 4 3 (.i 0), kc 4 4 (.i 0), kc 4 5 (.i 0), kc 4 6 (.i 0), kc 4 7 (.i 0), kc 5 0 (.i x1.1), kc 5 1 (.i x1.2.1), kc 5 2 (.i x1.2.2.1), kc 5 3 (.i x1.2.2.2.1), kc 5 4 (.i x1.2.2.2.2.1), kc 5 5 (.i x1.2.2.2.2.2.1), kc 5 6 (.i x1.2.2.2.2.2.2.1), kc 5 7 (.i x1.2.2.2.2.2.2.2)]) (fun hm => ?_) (fun x1 hm => ?_)
  ·have _z := hm
   refine aqS ?_
   refine aqT (rows := [_]) rfl (by kernel_rfl) ⟨
    okp rfl rfl (oqM (lN rfl) rfl),
    trivial⟩ ?_
   refine fqK (s' := [kt 0 (.f (.func 153) [] [.p 1 0, .p 2 0]), kt 2 (.p 4 0), kt 3 (.p 5 0), kt 5 (.i 0), (.u 0 2, some (.x (.p 1 0))), (.u 0 3, some (.x (.p 2 0))), (.u 0 4, some (.x (.p 3 0))), (.u 0 7, some (.x (.f (.func 153) [] [.p 1 0, .p 2 0]))), kb 1 187 8, kb 2 187 8, kb 3 187 8, kb 4 187 8, kb 5 187 8, kc 1 0 (.i a0.A.Lo), kc 1 1 (.i a0.A.Hi), kc 1 2 (.i a0.B.Lo), kc 1 3 (.i a0.B.Hi), kc 1 4 (.i a0.C.Lo), kc 1 5 (.i a0.C.Hi), kc 1 6 (.i a0.D.Lo), kc 1 7 (.i a0.D.Hi), kc 2 0 (.i a1.A.Lo), kc 2 1 (.i a1.A.Hi), kc 2 2 (.i a1.B.Lo), kc 2 3 (.i a1.B.Hi), kc 2 4 (.i a1.C.Lo), kc 2 5 (.i a1.C.Hi), kc 2 6 (.i a1.D.Lo), kc 2 7 (.i a1.D.Hi), kc 3 0 (.i 0), kc 3 1 (.i 0), kc 3 2 (.i 0), kc 3 3 (.i 0), kc 3 4 (.i 0), kc 3 5 (.i 0), kc 3 6 (.i 0), kc 3 7 (.i 0), kc 4 0 (.i 0), kc 4 1 (.i 0), kc 4 2 (.i 0), kc 4 3 (.i 0), kc 4 4 (.i 0), kc 4 5 (.i 0), kc 4 6 (.i 0), kc 4 7 (.i 0), kc 5 0 (.i 0), kc 5 1 (.i 0), kc 5 2 (.i 0), kc 5 3 (.i 0), kc 5 4 (.i 0), kc 5 5 (.i 0), kc 5 6 (.i 0), kc 5 7 (.i 0)]) ?_ (kp rfl) rfl
   refine fqT ?_
   refine aw_block ?_
   refine aw_rounds 4 ?_
   refine aqS ?_
   refine aqT (rows := [_]) rfl (by kernel_rfl) ⟨
    okp rfl rfl (oqB (r := .bool true) (lN rfl) rfl rfl rfl),
    trivial⟩ ?_
   refine fqK (s' := [kt 0 (.f (.func 153) [] [.p 1 0, .p 2 0]), kt 2 (.p 4 0), kt 3 (.p 5 0), kt 5 (.i 0), kt 6 (.B true), (.u 0 2, some (.x (.p 1 0))), (.u 0 3, some (.x (.p 2 0))), (.u 0 4, some (.x (.p 3 0))), (.u 0 7, some (.x (.f (.func 153) [] [.p 1 0, .p 2 0]))), kb 1 187 8, kb 2 187 8, kb 3 187 8, kb 4 187 8, kb 5 187 8, kc 1 0 (.i a0.A.Lo), kc 1 1 (.i a0.A.Hi), kc 1 2 (.i a0.B.Lo), kc 1 3 (.i a0.B.Hi), kc 1 4 (.i a0.C.Lo), kc 1 5 (.i a0.C.Hi), kc 1 6 (.i a0.D.Lo), kc 1 7 (.i a0.D.Hi), kc 2 0 (.i a1.A.Lo), kc 2 1 (.i a1.A.Hi), kc 2 2 (.i a1.B.Lo), kc 2 3 (.i a1.B.Hi), kc 2 4 (.i a1.C.Lo), kc 2 5 (.i a1.C.Hi), kc 2 6 (.i a1.D.Lo), kc 2 7 (.i a1.D.Hi), kc 3 0 (.i 0), kc 3 1 (.i 0), kc 3 2 (.i 0), kc 3 3 (.i 0), kc 3 4 (.i 0), kc 3 5 (.i 0), kc 3 6 (.i 0), kc 3 7 (.i 0), kc 4 0 (.i 0), kc 4 1 (.i 0), kc 4 2 (.i 0), kc 4 3 (.i 0), kc 4 4 (.i 0), kc 4 5 (.i 0), kc 4 6 (.i 0), kc 4 7 (.i 0), kc 5 0 (.i 0), kc 5 1 (.i 0), kc 5 2 (.i 0), kc 5 3 (.i 0), kc 5 4 (.i 0), kc 5 5 (.i 0), kc 5 6 (.i 0), kc 5 7 (.i 0)]) ?_ (kp rfl) rfl
   refine fqT ?_
   refine aqS ?_
   refine aqc rfl (fun hz1 => ?_) (fun hz1 => by cases hz1)
   refine aqk ?_
   refine fqT ?_
   refine aqS ?_
   refine aw_block ?_
   refine aqS ?_
   refine aqT (rows := [_, _]) rfl (by kernel_rfl) ⟨
    okp rfl rfl (oqM (lN rfl) rfl),
    okp rfl rfl (oqA (lN rfl) rfl),
    trivial⟩ ?_
   refine fqK (s' := [kt 0 (.f (.func 153) [] [.p 1 0, .p 2 0]), kt 2 (.p 4 0), kt 3 (.p 5 0), kt 4 (.i 0), kt 5 (.i 0), (.u 0 2, some (.x (.p 1 0))), (.u 0 3, some (.x (.p 2 0))), (.u 0 4, some (.x (.p 3 0))), (.u 0 7, some (.x (.f (.func 153) [] [.p 1 0, .p 2 0]))), kb 1 187 8, kb 2 187 8, kb 3 187 8, kb 4 187 8, kb 5 187 8, kc 1 0 (.i a0.A.Lo), kc 1 1 (.i a0.A.Hi), kc 1 2 (.i a0.B.Lo), kc 1 3 (.i a0.B.Hi), kc 1 4 (.i a0.C.Lo), kc 1 5 (.i a0.C.Hi), kc 1 6 (.i a0.D.Lo), kc 1 7 (.i a0.D.Hi), kc 2 0 (.i a1.A.Lo), kc 2 1 (.i a1.A.Hi), kc 2 2 (.i a1.B.Lo), kc 2 3 (.i a1.B.Hi), kc 2 4 (.i a1.C.Lo), kc 2 5 (.i a1.C.Hi), kc 2 6 (.i a1.D.Lo), kc 2 7 (.i a1.D.Hi), kc 3 0 (.i 0), kc 3 1 (.i 0), kc 3 2 (.i 0), kc 3 3 (.i 0), kc 3 4 (.i 0), kc 3 5 (.i 0), kc 3 6 (.i 0), kc 3 7 (.i 0), kc 4 0 (.i 0), kc 4 1 (.i 0), kc 4 2 (.i 0), kc 4 3 (.i 0), kc 4 4 (.i 0), kc 4 5 (.i 0), kc 4 6 (.i 0), kc 4 7 (.i 0), kc 5 0 (.i 0), kc 5 1 (.i 0), kc 5 2 (.i 0), kc 5 3 (.i 0), kc 5 4 (.i 0), kc 5 5 (.i 0), kc 5 6 (.i 0), kc 5 7 (.i 0)]) ?_ (kp rfl) rfl
   refine fqT ?_
   obtain ⟨v2, hv2, hm⟩ := bnd_some hm
   refine aqT (rows := [_, _, _, _, _, _]) rfl (by kernel_rfl) ⟨
    okp rfl rfl (oqM (lN rfl) rfl),
    okp rfl rfl (oqM (lN rfl) rfl),
    okp rfl rfl (oqM (lN rfl) rfl),
    okp rfl rfl (oqN (fs := []) (caps := [.p 1 0, .p 2 0]) (xs := [.i 0]) (Nk := 24) (.g [.i v2.1, .i v2.2]) (tqS [(0, .f (.func 153) [] [.p 1 0, .p 2 0]), (2, .p 4 0), (3, .p 5 0), (4, .i 0), (5, .i 0), (8, .i 0), (9, .f (.func 153) [] [.p 1 0, .p 2 0]), (10, .i 0)] ++ ((([(.u 0 2, some (.x (.p 1 0))), (.u 0 3, some (.x (.p 2 0))), (.u 0 4, some (.x (.p 3 0))), (.u 0 7, some (.x (.f (.func 153) [] [.p 1 0, .p 2 0]))), kb 1 187 8, kb 2 187 8, kb 3 187 8, kb 4 187 8, kb 5 187 8, kc 1 0 (.i a0.A.Lo), kc 1 1 (.i a0.A.Hi), kc 1 2 (.i a0.B.Lo), kc 1 3 (.i a0.B.Hi), kc 1 4 (.i a0.C.Lo), kc 1 5 (.i a0.C.Hi), kc 1 6 (.i a0.D.Lo), kc 1 7 (.i a0.D.Hi), kc 2 0 (.i a1.A.Lo), kc 2 1 (.i a1.A.Hi), kc 2 2 (.i a1.B.Lo), kc 2 3 (.i a1.B.Hi), kc 2 4 (.i a1.C.Lo), kc 2 5 (.i a1.C.Hi), kc 2 6 (.i a1.D.Lo)] : St) ++ (([kc 2 7 (.i a1.D.Hi), kc 3 0 (.i 0), kc 3 1 (.i 0), kc 3 2 (.i 0), kc 3 3 (.i 0), kc 3 4 (.i 0), kc 3 5 (.i 0), kc 3 6 (.i 0), kc 3 7 (.i 0), kc 4 0 (.i 0), kc 4 1 (.i 0), kc 4 2 (.i 0), kc 4 3 (.i 0), kc 4 4 (.i 0), kc 4 5 (.i 0), kc 4 6 (.i 0), kc 4 7 (.i 0), kc 5 0 (.i 0), kc 5 1 (.i 0), kc 5 2 (.i 0), kc 5 3 (.i 0), kc 5 4 (.i 0), kc 5 5 (.i 0), kc 5 6 (.i 0)] : St) ++ (([kc 5 7 (.i 0)] : St)))) ++ dqS [])) 1 [(0, .f (.func 153) [] [.p 1 0, .p 2 0]), (2, .p 4 0), (3, .p 5 0), (4, .i 0), (5, .i 0), (8, .i 0), (9, .f (.func 153) [] [.p 1 0, .p 2 0]), (10, .i 0)] [(.u 0 2, some (.x (.p 1 0))), (.u 0 3, some (.x (.p 2 0))), (.u 0 4, some (.x (.p 3 0))), (.u 0 7, some (.x (.f (.func 153) [] [.p 1 0, .p 2 0]))), kb 1 187 8, kb 2 187 8, kb 3 187 8, kb 4 187 8, kb 5 187 8, kc 1 0 (.i a0.A.Lo), kc 1 1 (.i a0.A.Hi), kc 1 2 (.i a0.B.Lo), kc 1 3 (.i a0.B.Hi), kc 1 4 (.i a0.C.Lo), kc 1 5 (.i a0.C.Hi), kc 1 6 (.i a0.D.Lo), kc 1 7 (.i a0.D.Hi), kc 2 0 (.i a1.A.Lo), kc 2 1 (.i a1.A.Hi), kc 2 2 (.i a1.B.Lo), kc 2 3 (.i a1.B.Hi), kc 2 4 (.i a1.C.Lo), kc 2 5 (.i a1.C.Hi), kc 2 6 (.i a1.D.Lo), kc 2 7 (.i a1.D.Hi), kc 3 0 (.i 0), kc 3 1 (.i 0), kc 3 2 (.i 0), kc 3 3 (.i 0), kc 3 4 (.i 0), kc 3 5 (.i 0), kc 3 6 (.i 0), kc 3 7 (.i 0), kc 4 0 (.i 0), kc 4 1 (.i 0), kc 4 2 (.i 0), kc 4 3 (.i 0), kc 4 4 (.i 0), kc 4 5 (.i 0), kc 4 6 (.i 0), kc 4 7 (.i 0), kc 5 0 (.i 0), kc 5 1 (.i 0), kc 5 2 (.i 0), kc 5 3 (.i 0), kc 5 4 (.i 0), kc 5 5 (.i 0), kc 5 6 (.i 0), kc 5 7 (.i 0)] (lN rfl) en_153 Tryd.func153 rfl rfl (Nat.le_of_ble_eq_true rfl) rfl ⟨rfl, rfl, rfl⟩ (EvL.cons rfl EvL.nil) ⟨rfl, rfl, rfl, rfl, rfl, rfl, rfl, rfl, trivial⟩ ⟨rfl, rfl, rfl, rfl, rfl, rfl, rfl, rfl, rfl, rfl, rfl, rfl, rfl, rfl, rfl, rfl, rfl, rfl, rfl, rfl, rfl, rfl, rfl, rfl, rfl, rfl, rfl, rfl, rfl, rfl, rfl, rfl, rfl, rfl, rfl, rfl, rfl, rfl, rfl, rfl, rfl, rfl, rfl, rfl, rfl, rfl, rfl, rfl, rfl, trivial⟩ rfl rfl rfl (fun aIv2 hIv2 => ?_)),
    okp rfl rfl (op_ixA (lN rfl) rfl rfl ar_187 (by decide) (by decide)),
    okp rfl rfl (oqS sz_32 rfl rfl rfl rfl rfl (by decide)),
    trivial⟩ ?_
   ·have hm := hv2
    refine AW.keep (s' := [kt 0 (.i 0), kt 1 (.p 1 0), kt 2 (.p 2 0), (.u 0 2, some (.x (.p 1 0))), (.u 0 3, some (.x (.p 2 0))), (.u 0 4, some (.x (.p 3 0))), (.u 0 7, some (.x (.f (.func 153) [] [.p 1 0, .p 2 0]))), (.u 1 0, some (.x (.f (.func 153) [] [.p 1 0, .p 2 0]))), (.u 1 2, some (.x (.p 4 0))), (.u 1 3, some (.x (.p 5 0))), (.u 1 4, some (.x (.i 0))), (.u 1 5, some (.x (.i 0))), (.u 1 8, some (.x (.i 0))), (.u 1 9, some (.x (.f (.func 153) [] [.p 1 0, .p 2 0]))), (.u 1 10, some (.x (.i 0))), kb 1 187 8, kb 2 187 8, kb 3 187 8, kb 4 187 8, kb 5 187 8, kc 1 0 (.i a0.A.Lo), kc 1 1 (.i a0.A.Hi), kc 1 2 (.i a0.B.Lo), kc 1 3 (.i a0.B.Hi), kc 1 4 (.i a0.C.Lo), kc 1 5 (.i a0.C.Hi), kc 1 6 (.i a0.D.Lo), kc 1 7 (.i a0.D.Hi), kc 2 0 (.i a1.A.Lo), kc 2 1 (.i a1.A.Hi), kc 2 2 (.i a1.B.Lo), kc 2 3 (.i a1.B.Hi), kc 2 4 (.i a1.C.Lo), kc 2 5 (.i a1.C.Hi), kc 2 6 (.i a1.D.Lo), kc 2 7 (.i a1.D.Hi), kc 3 0 (.i 0), kc 3 1 (.i 0), kc 3 2 (.i 0), kc 3 3 (.i 0), kc 3 4 (.i 0), kc 3 5 (.i 0), kc 3 6 (.i 0), kc 3 7 (.i 0), kc 4 0 (.i 0), kc 4 1 (.i 0), kc 4 2 (.i 0), kc 4 3 (.i 0), kc 4 4 (.i 0), kc 4 5 (.i 0), kc 4 6 (.i 0), kc 4 7 (.i 0), kc 5 0 (.i 0), kc 5 1 (.i 0), kc 5 2 (.i 0), kc 5 3 (.i 0), kc 5 4 (.i 0), kc 5 5 (.i 0), kc 5 6 (.i 0), kc 5 7 (.i 0)]) ?_ (kp rfl) rfl
    refine aqS ?_
    refine aqT (rows := [_]) rfl (by kernel_rfl) ⟨
     okp rfl rfl (oqa (L := 6) (lN rfl) zl_32),
     trivial⟩ ?_
    refine fqK (s' := [kt 0 (.i 0), kt 1 (.p 1 0), kt 2 (.p 2 0), kt 4 (.p 6 0), (.u 0 2, some (.x (.p 1 0))), (.u 0 3, some (.x (.p 2 0))), (.u 0 4, some (.x (.p 3 0))), (.u 0 7, some (.x (.f (.func 153) [] [.p 1 0, .p 2 0]))), (.u 1 0, some (.x (.f (.func 153) [] [.p 1 0, .p 2 0]))), (.u 1 2, some (.x (.p 4 0))), (.u 1 3, some (.x (.p 5 0))), (.u 1 4, some (.x (.i 0))), (.u 1 5, some (.x (.i 0))), (.u 1 8, some (.x (.i 0))), (.u 1 9, some (.x (.f (.func 153) [] [.p 1 0, .p 2 0]))), (.u 1 10, some (.x (.i 0))), kb 1 187 8, kb 2 187 8, kb 3 187 8, kb 4 187 8, kb 5 187 8, kb 6 32 2, kc 1 0 (.i a0.A.Lo), kc 1 1 (.i a0.A.Hi), kc 1 2 (.i a0.B.Lo), kc 1 3 (.i a0.B.Hi), kc 1 4 (.i a0.C.Lo), kc 1 5 (.i a0.C.Hi), kc 1 6 (.i a0.D.Lo), kc 1 7 (.i a0.D.Hi), kc 2 0 (.i a1.A.Lo), kc 2 1 (.i a1.A.Hi), kc 2 2 (.i a1.B.Lo), kc 2 3 (.i a1.B.Hi), kc 2 4 (.i a1.C.Lo), kc 2 5 (.i a1.C.Hi), kc 2 6 (.i a1.D.Lo), kc 2 7 (.i a1.D.Hi), kc 3 0 (.i 0), kc 3 1 (.i 0), kc 3 2 (.i 0), kc 3 3 (.i 0), kc 3 4 (.i 0), kc 3 5 (.i 0), kc 3 6 (.i 0), kc 3 7 (.i 0), kc 4 0 (.i 0), kc 4 1 (.i 0), kc 4 2 (.i 0), kc 4 3 (.i 0), kc 4 4 (.i 0), kc 4 5 (.i 0), kc 4 6 (.i 0), kc 4 7 (.i 0), kc 5 0 (.i 0), kc 5 1 (.i 0), kc 5 2 (.i 0), kc 5 3 (.i 0), kc 5 4 (.i 0), kc 5 5 (.i 0), kc 5 6 (.i 0), kc 5 7 (.i 0), kc 6 0 (.i 0), kc 6 1 (.i 0)]) ?_ (kp rfl) rfl
    refine fqT ?_
    refine aqS ?_
    refine aw_any (rows := [_, _, _, _, _, _, _, _, _, _, _, _, _, _, _, _, _, _, _, _]) (M := [0, 1, 3, 7, 0, 16, 48, 112, 255, 0, 512, 1536, 3584, 0, 8192, 24576, 57344, 130560, 262143, 524287]) Tryd_mixed (by kernel_rfl) rfl (by kernel_rfl) ⟨
     okp rfl rfl (oqM (lN rfl) rfl),
     okp rfl rfl (op_ixA (lN rfl) rfl rfl ar_187 (by decide) (by decide)),
     okp rfl rfl (oqF (lN rfl) rfl fo_32_0),
     okp rfl rfl (oq1 (lN rfl) sh_3 rfl rfl),
     okp rfl rfl (oqM (lN rfl) rfl),
     okp rfl rfl (op_ixA (lN rfl) rfl rfl ar_187 (by decide) (by decide)),
     okp rfl rfl (oqF (lN rfl) rfl fo_32_0),
     okp rfl rfl (oq1 (lN rfl) sh_3 rfl rfl),
     okp rfl rfl (op_max (lN rfl) rfl rfl),
     okp rfl rfl (oqM (lN rfl) rfl),
     okp rfl rfl (op_ixA (lN rfl) rfl rfl ar_187 (by decide) (by decide)),
     okp rfl rfl (oqF (lN rfl) rfl fo_32_1),
     okp rfl rfl (oq1 (lN rfl) sh_3 rfl rfl),
     okp rfl rfl (oqM (lN rfl) rfl),
     okp rfl rfl (op_ixA (lN rfl) rfl rfl ar_187 (by decide) (by decide)),
     okp rfl rfl (oqF (lN rfl) rfl fo_32_1),
     okp rfl rfl (oq1 (lN rfl) sh_3 rfl rfl),
     okp rfl rfl (op_min (lN rfl) rfl rfl),
     okp rfl rfl (op_build (x := .g [.i (if a1.A.Lo > a0.A.Lo then a1.A.Lo else a0.A.Lo), .i (if a1.A.Hi < a0.A.Hi then a1.A.Hi else a0.A.Hi)]) (lN rfl) (EvL.cons rfl (EvL.cons rfl EvL.nil)) (fun m w => by kernel_rfl)),
     okp rfl rfl (oqS sz_32 rfl rfl rfl rfl rfl (by decide)),
     trivial⟩ ?_
    refine fqK (s' := [kt 4 (.p 6 0), (.u 0 2, some (.x (.p 1 0))), (.u 0 3, some (.x (.p 2 0))), (.u 0 4, some (.x (.p 3 0))), (.u 0 7, some (.x (.f (.func 153) [] [.p 1 0, .p 2 0]))), (.u 1 0, some (.x (.f (.func 153) [] [.p 1 0, .p 2 0]))), (.u 1 2, some (.x (.p 4 0))), (.u 1 3, some (.x (.p 5 0))), (.u 1 4, some (.x (.i 0))), (.u 1 5, some (.x (.i 0))), (.u 1 8, some (.x (.i 0))), (.u 1 9, some (.x (.f (.func 153) [] [.p 1 0, .p 2 0]))), (.u 1 10, some (.x (.i 0))), kb 1 187 8, kb 2 187 8, kb 3 187 8, kb 4 187 8, kb 5 187 8, kb 6 32 2, kc 1 0 (.i a0.A.Lo), kc 1 1 (.i a0.A.Hi), kc 1 2 (.i a0.B.Lo), kc 1 3 (.i a0.B.Hi), kc 1 4 (.i a0.C.Lo), kc 1 5 (.i a0.C.Hi), kc 1 6 (.i a0.D.Lo), kc 1 7 (.i a0.D.Hi), kc 2 0 (.i a1.A.Lo), kc 2 1 (.i a1.A.Hi), kc 2 2 (.i a1.B.Lo), kc 2 3 (.i a1.B.Hi), kc 2 4 (.i a1.C.Lo), kc 2 5 (.i a1.C.Hi), kc 2 6 (.i a1.D.Lo), kc 2 7 (.i a1.D.Hi), kc 3 0 (.i 0), kc 3 1 (.i 0), kc 3 2 (.i 0), kc 3 3 (.i 0), kc 3 4 (.i 0), kc 3 5 (.i 0), kc 3 6 (.i 0), kc 3 7 (.i 0), kc 4 0 (.i 0), kc 4 1 (.i 0), kc 4 2 (.i 0), kc 4 3 (.i 0), kc 4 4 (.i 0), kc 4 5 (.i 0), kc 4 6 (.i 0), kc 4 7 (.i 0), kc 5 0 (.i 0), kc 5 1 (.i 0), kc 5 2 (.i 0), kc 5 3 (.i 0), kc 5 4 (.i 0), kc 5 5 (.i 0), kc 5 6 (.i 0), kc 5 7 (.i 0), kc 6 0 (.i (if a1.A.Lo > a0.A.Lo then a1.A.Lo else a0.A.Lo)), kc 6 1 (.i (if a1.A.Hi < a0.A.Hi then a1.A.Hi else a0.A.Hi))]) ?_ (kp rfl) rfl
    refine fqT ?_
    refine aqr ?_
    have hm := Option.some.inj hm
    subst hm
    exact fin_callEnd _ _ _ (.inl rfl) rfl rfl (rqC (ys := [.i (if a1.A.Lo > a0.A.Lo then a1.A.Lo else a0.A.Lo), .i (if a1.A.Hi < a0.A.Hi then a1.A.Hi else a0.A.Hi)]) rfl sh_32 rfl ⟨rfl, rfl, trivial⟩ rqN) rfl hIv2 ⟨rfl, rfl, rfl, rfl, rfl, rfl, rfl, rfl, trivial⟩ ⟨rfl, rfl, rfl, rfl, rfl, rfl, rfl, rfl, rfl, rfl, rfl, rfl, rfl, rfl, rfl, rfl, rfl, rfl, rfl, rfl, rfl, rfl, rfl, rfl, rfl, rfl, rfl, rfl, rfl, rfl, rfl, rfl, rfl, rfl, rfl, rfl, rfl, rfl, rfl, rfl, rfl, rfl, rfl, rfl, rfl, rfl, rfl, rfl, rfl, trivial⟩ rfl rfl
   refine fqK (s' := [kt 0 (.f (.func 153) [] [.p 1 0, .p 2 0]), kt 2 (.p 4 0), kt 3 (.p 5 0), kt 5 (.i 0), (.u 0 2, some (.x (.p 1 0))), (.u 0 3, some (.x (.p 2 0))), (.u 0 4, some (.x (.p 3 0))), (.u 0 7, some (.x (.f (.func 153) [] [.p 1 0, .p 2 0]))), kb 1 187 8, kb 2 187 8, kb 3 187 8, kb 4 187 8, kb 5 187 8, kc 1 0 (.i a0.A.Lo), kc 1 1 (.i a0.A.Hi), kc 1 2 (.i a0.B.Lo), kc 1 3 (.i a0.B.Hi), kc 1 4 (.i a0.C.Lo), kc 1 5 (.i a0.C.Hi), kc 1 6 (.i a0.D.Lo), kc 1 7 (.i a0.D.Hi), kc 2 0 (.i a1.A.Lo), kc 2 1 (.i a1.A.Hi), kc 2 2 (.i a1.B.Lo), kc 2 3 (.i a1.B.Hi), kc 2 4 (.i a1.C.Lo), kc 2 5 (.i a1.C.Hi), kc 2 6 (.i a1.D.Lo), kc 2 7 (.i a1.D.Hi), kc 3 0 (.i 0), kc 3 1 (.i 0), kc 3 2 (.i 0), kc 3 3 (.i 0), kc 3 4 (.i 0), kc 3 5 (.i 0), kc 3 6 (.i 0), kc 3 7 (.i 0), kc 4 0 (.i 0), kc 4 1 (.i 0), kc 4 2 (.i 0), kc 4 3 (.i 0), kc 4 4 (.i 0), kc 4 5 (.i 0), kc 4 6 (.i 0), kc 4 7 (.i 0), kc 5 0 (.i v2.1), kc 5 1 (.i v2.2), kc 5 2 (.i 0), kc 5 3 (.i 0), kc 5 4 (.i 0), kc 5 5 (.i 0), kc 5 6 (.i 0), kc 5 7 (.i 0)]) ?_ (kp rfl) rfl
   refine fqB ?_
   refine fqT ?_
   refine aqT (rows := [_, _]) rfl (by kernel_rfl) ⟨
    okp rfl rfl (oqB (r := .int .i64 1) (lN rfl) rfl rfl rfl),
    okp rfl rfl (oqM (lN rfl) rfl),
    trivial⟩ ?_
   refine fqK (s' := [kt 0 (.f (.func 153) [] [.p 1 0, .p 2 0]), kt 2 (.p 4 0), kt 3 (.p 5 0), kt 5 (.i 1), (.u 0 2, some (.x (.p 1 0))), (.u 0 3, some (.x (.p 2 0))), (.u 0 4, some (.x (.p 3 0))), (.u 0 7, some (.x (.f (.func 153) [] [.p 1 0, .p 2 0]))), kb 1 187 8, kb 2 187 8, kb 3 187 8, kb 4 187 8, kb 5 187 8, kc 1 0 (.i a0.A.Lo), kc 1 1 (.i a0.A.Hi), kc 1 2 (.i a0.B.Lo), kc 1 3 (.i a0.B.Hi), kc 1 4 (.i a0.C.Lo), kc 1 5 (.i a0.C.Hi), kc 1 6 (.i a0.D.Lo), kc 1 7 (.i a0.D.Hi), kc 2 0 (.i a1.A.Lo), kc 2 1 (.i a1.A.Hi), kc 2 2 (.i a1.B.Lo), kc 2 3 (.i a1.B.Hi), kc 2 4 (.i a1.C.Lo), kc 2 5 (.i a1.C.Hi), kc 2 6 (.i a1.D.Lo), kc 2 7 (.i a1.D.Hi), kc 3 0 (.i 0), kc 3 1 (.i 0), kc 3 2 (.i 0), kc 3 3 (.i 0), kc 3 4 (.i 0), kc 3 5 (.i 0), kc 3 6 (.i 0), kc 3 7 (.i 0), kc 4 0 (.i 0), kc 4 1 (.i 0), kc 4 2 (.i 0), kc 4 3 (.i 0), kc 4 4 (.i 0), kc 4 5 (.i 0), kc 4 6 (.i 0), kc 4 7 (.i 0), kc 5 0 (.i v2.1), kc 5 1 (.i v2.2), kc 5 2 (.i 0), kc 5 3 (.i 0), kc 5 4 (.i 0), kc 5 5 (.i 0), kc 5 6 (.i 0), kc 5 7 (.i 0)]) ?_ (kp rfl) rfl
   refine fin_round ?_
   refine aqS ?_
   refine aqT (rows := [_]) rfl (by kernel_rfl) ⟨
    okp rfl rfl (oqB (r := .bool true) (lN rfl) rfl rfl rfl),
    trivial⟩ ?_
   refine fqK (s' := [kt 0 (.f (.func 153) [] [.p 1 0, .p 2 0]), kt 2 (.p 4 0), kt 3 (.p 5 0), kt 5 (.i 1), kt 6 (.B true), (.u 0 2, some (.x (.p 1 0))), (.u 0 3, some (.x (.p 2 0))), (.u 0 4, some (.x (.p 3 0))), (.u 0 7, some (.x (.f (.func 153) [] [.p 1 0, .p 2 0]))), kb 1 187 8, kb 2 187 8, kb 3 187 8, kb 4 187 8, kb 5 187 8, kc 1 0 (.i a0.A.Lo), kc 1 1 (.i a0.A.Hi), kc 1 2 (.i a0.B.Lo), kc 1 3 (.i a0.B.Hi), kc 1 4 (.i a0.C.Lo), kc 1 5 (.i a0.C.Hi), kc 1 6 (.i a0.D.Lo), kc 1 7 (.i a0.D.Hi), kc 2 0 (.i a1.A.Lo), kc 2 1 (.i a1.A.Hi), kc 2 2 (.i a1.B.Lo), kc 2 3 (.i a1.B.Hi), kc 2 4 (.i a1.C.Lo), kc 2 5 (.i a1.C.Hi), kc 2 6 (.i a1.D.Lo), kc 2 7 (.i a1.D.Hi), kc 3 0 (.i 0), kc 3 1 (.i 0), kc 3 2 (.i 0), kc 3 3 (.i 0), kc 3 4 (.i 0), kc 3 5 (.i 0), kc 3 6 (.i 0), kc 3 7 (.i 0), kc 4 0 (.i 0), kc 4 1 (.i 0), kc 4 2 (.i 0), kc 4 3 (.i 0), kc 4 4 (.i 0), kc 4 5 (.i 0), kc 4 6 (.i 0), kc 4 7 (.i 0), kc 5 0 (.i v2.1), kc 5 1 (.i v2.2), kc 5 2 (.i 0), kc 5 3 (.i 0), kc 5 4 (.i 0), kc 5 5 (.i 0), kc 5 6 (.i 0), kc 5 7 (.i 0)]) ?_ (kp rfl) rfl
   refine fqT ?_
   refine aqS ?_
   refine aqc rfl (fun hz2 => ?_) (fun hz2 => by cases hz2)
   refine aqk ?_
   refine fqT ?_
   refine aqS ?_
   refine aw_block ?_
   refine aqS ?_
   refine aqT (rows := [_, _]) rfl (by kernel_rfl) ⟨
    okp rfl rfl (oqM (lN rfl) rfl),
    okp rfl rfl (oqA (lN rfl) rfl),
    trivial⟩ ?_
   refine fqK (s' := [kt 0 (.f (.func 153) [] [.p 1 0, .p 2 0]), kt 2 (.p 4 0), kt 3 (.p 5 0), kt 4 (.i 1), kt 5 (.i 1), (.u 0 2, some (.x (.p 1 0))), (.u 0 3, some (.x (.p 2 0))), (.u 0 4, some (.x (.p 3 0))), (.u 0 7, some (.x (.f (.func 153) [] [.p 1 0, .p 2 0]))), kb 1 187 8, kb 2 187 8, kb 3 187 8, kb 4 187 8, kb 5 187 8, kc 1 0 (.i a0.A.Lo), kc 1 1 (.i a0.A.Hi), kc 1 2 (.i a0.B.Lo), kc 1 3 (.i a0.B.Hi), kc 1 4 (.i a0.C.Lo), kc 1 5 (.i a0.C.Hi), kc 1 6 (.i a0.D.Lo), kc 1 7 (.i a0.D.Hi), kc 2 0 (.i a1.A.Lo), kc 2 1 (.i a1.A.Hi), kc 2 2 (.i a1.B.Lo), kc 2 3 (.i a1.B.Hi), kc 2 4 (.i a1.C.Lo), kc 2 5 (.i a1.C.Hi), kc 2 6 (.i a1.D.Lo), kc 2 7 (.i a1.D.Hi), kc 3 0 (.i 0), kc 3 1 (.i 0), kc 3 2 (.i 0), kc 3 3 (.i 0), kc 3 4 (.i 0), kc 3 5 (.i 0), kc 3 6 (.i 0), kc 3 7 (.i 0), kc 4 0 (.i 0), kc 4 1 (.i 0), kc 4 2 (.i 0), kc 4 3 (.i 0), kc 4 4 (.i 0), kc 4 5 (.i 0), kc 4 6 (.i 0), kc 4 7 (.i 0), kc 5 0 (.i v2.1), kc 5 1 (.i v2.2), kc 5 2 (.i 0), kc 5 3 (.i 0), kc 5 4 (.i 0), kc 5 5 (.i 0), kc 5 6 (.i 0), kc 5 7 (.i 0)]) ?_ (kp rfl) rfl
   refine fqT ?_
   obtain ⟨v3, hv3, hm⟩ := bnd_some hm
   refine aqT (rows := [_, _, _, _, _, _]) rfl (by kernel_rfl) ⟨
    okp rfl rfl (oqM (lN rfl) rfl),
    okp rfl rfl (oqM (lN rfl) rfl),
    okp rfl rfl (oqM (lN rfl) rfl),
    okp rfl rfl (oqN (fs := []) (caps := [.p 1 0, .p 2 0]) (xs := [.i 1]) (Nk := 24) (.g [.i v3.1, .i v3.2]) (tqS [(0, .f (.func 153) [] [.p 1 0, .p 2 0]), (2, .p 4 0), (3, .p 5 0), (4, .i 1), (5, .i 1), (8, .i 1), (9, .f (.func 153) [] [.p 1 0, .p 2 0]), (10, .i 1)] ++ ((([(.u 0 2, some (.x (.p 1 0))), (.u 0 3, some (.x (.p 2 0))), (.u 0 4, some (.x (.p 3 0))), (.u 0 7, some (.x (.f (.func 153) [] [.p 1 0, .p 2 0]))), kb 1 187 8, kb 2 187 8, kb 3 187 8, kb 4 187 8, kb 5 187 8, kc 1 0 (.i a0.A.Lo), kc 1 1 (.i a0.A.Hi), kc 1 2 (.i a0.B.Lo), kc 1 3 (.i a0.B.Hi), kc 1 4 (.i a0.C.Lo), kc 1 5 (.i a0.C.Hi), kc 1 6 (.i a0.D.Lo), kc 1 7 (.i a0.D.Hi), kc 2 0 (.i a1.A.Lo), kc 2 1 (.i a1.A.Hi), kc 2 2 (.i a1.B.Lo), kc 2 3 (.i a1.B.Hi), kc 2 4 (.i a1.C.Lo), kc 2 5 (.i a1.C.Hi), kc 2 6 (.i a1.D.Lo)] : St) ++ (([kc 2 7 (.i a1.D.Hi), kc 3 0 (.i 0), kc 3 1 (.i 0), kc 3 2 (.i 0), kc 3 3 (.i 0), kc 3 4 (.i 0), kc 3 5 (.i 0), kc 3 6 (.i 0), kc 3 7 (.i 0), kc 4 0 (.i 0), kc 4 1 (.i 0), kc 4 2 (.i 0), kc 4 3 (.i 0), kc 4 4 (.i 0), kc 4 5 (.i 0), kc 4 6 (.i 0), kc 4 7 (.i 0), kc 5 0 (.i v2.1), kc 5 1 (.i v2.2), kc 5 2 (.i 0), kc 5 3 (.i 0), kc 5 4 (.i 0), kc 5 5 (.i 0), kc 5 6 (.i 0)] : St) ++ (([kc 5 7 (.i 0)] : St)))) ++ dqS [])) 1 [(0, .f (.func 153) [] [.p 1 0, .p 2 0]), (2, .p 4 0), (3, .p 5 0), (4, .i 1), (5, .i 1), (8, .i 1), (9, .f (.func 153) [] [.p 1 0, .p 2 0]), (10, .i 1)] [(.u 0 2, some (.x (.p 1 0))), (.u 0 3, some (.x (.p 2 0))), (.u 0 4, some (.x (.p 3 0))), (.u 0 7, some (.x (.f (.func 153) [] [.p 1 0, .p 2 0]))), kb 1 187 8, kb 2 187 8, kb 3 187 8, kb 4 187 8, kb 5 187 8, kc 1 0 (.i a0.A.Lo), kc 1 1 (.i a0.A.Hi), kc 1 2 (.i a0.B.Lo), kc 1 3 (.i a0.B.Hi), kc 1 4 (.i a0.C.Lo), kc 1 5 (.i a0.C.Hi), kc 1 6 (.i a0.D.Lo), kc 1 7 (.i a0.D.Hi), kc 2 0 (.i a1.A.Lo), kc 2 1 (.i a1.A.Hi), kc 2 2 (.i a1.B.Lo), kc 2 3 (.i a1.B.Hi), kc 2 4 (.i a1.C.Lo), kc 2 5 (.i a1.C.Hi), kc 2 6 (.i a1.D.Lo), kc 2 7 (.i a1.D.Hi), kc 3 0 (.i 0), kc 3 1 (.i 0), kc 3 2 (.i 0), kc 3 3 (.i 0), kc 3 4 (.i 0), kc 3 5 (.i 0), kc 3 6 (.i 0), kc 3 7 (.i 0), kc 4 0 (.i 0), kc 4 1 (.i 0), kc 4 2 (.i 0), kc 4 3 (.i 0), kc 4 4 (.i 0), kc 4 5 (.i 0), kc 4 6 (.i 0), kc 4 7 (.i 0), kc 5 0 (.i v2.1), kc 5 1 (.i v2.2), kc 5 2 (.i 0), kc 5 3 (.i 0), kc 5 4 (.i 0), kc 5 5 (.i 0), kc 5 6 (.i 0), kc 5 7 (.i 0)] (lN rfl) en_153 Tryd.func153 rfl rfl (Nat.le_of_ble_eq_true rfl) rfl ⟨rfl, rfl, rfl⟩ (EvL.cons rfl EvL.nil) ⟨rfl, rfl, rfl, rfl, rfl, rfl, rfl, rfl, trivial⟩ ⟨rfl, rfl, rfl, rfl, rfl, rfl, rfl, rfl, rfl, rfl, rfl, rfl, rfl, rfl, rfl, rfl, rfl, rfl, rfl, rfl, rfl, rfl, rfl, rfl, rfl, rfl, rfl, rfl, rfl, rfl, rfl, rfl, rfl, rfl, rfl, rfl, rfl, rfl, rfl, rfl, rfl, rfl, rfl, rfl, rfl, rfl, rfl, rfl, rfl, trivial⟩ rfl rfl rfl (fun aIv3 hIv3 => ?_)),
    okp rfl rfl (op_ixA (lN rfl) rfl rfl ar_187 (by decide) (by decide)),
    okp rfl rfl (oqS sz_32 rfl rfl rfl rfl rfl (by decide)),
    trivial⟩ ?_
   ·have hm := hv3
    refine AW.keep (s' := [kt 0 (.i 1), kt 1 (.p 1 0), kt 2 (.p 2 0), (.u 0 2, some (.x (.p 1 0))), (.u 0 3, some (.x (.p 2 0))), (.u 0 4, some (.x (.p 3 0))), (.u 0 7, some (.x (.f (.func 153) [] [.p 1 0, .p 2 0]))), (.u 1 0, some (.x (.f (.func 153) [] [.p 1 0, .p 2 0]))), (.u 1 2, some (.x (.p 4 0))), (.u 1 3, some (.x (.p 5 0))), (.u 1 4, some (.x (.i 1))), (.u 1 5, some (.x (.i 1))), (.u 1 8, some (.x (.i 1))), (.u 1 9, some (.x (.f (.func 153) [] [.p 1 0, .p 2 0]))), (.u 1 10, some (.x (.i 1))), kb 1 187 8, kb 2 187 8, kb 3 187 8, kb 4 187 8, kb 5 187 8, kc 1 0 (.i a0.A.Lo), kc 1 1 (.i a0.A.Hi), kc 1 2 (.i a0.B.Lo), kc 1 3 (.i a0.B.Hi), kc 1 4 (.i a0.C.Lo), kc 1 5 (.i a0.C.Hi), kc 1 6 (.i a0.D.Lo), kc 1 7 (.i a0.D.Hi), kc 2 0 (.i a1.A.Lo), kc 2 1 (.i a1.A.Hi), kc 2 2 (.i a1.B.Lo), kc 2 3 (.i a1.B.Hi), kc 2 4 (.i a1.C.Lo), kc 2 5 (.i a1.C.Hi), kc 2 6 (.i a1.D.Lo), kc 2 7 (.i a1.D.Hi), kc 3 0 (.i 0), kc 3 1 (.i 0), kc 3 2 (.i 0), kc 3 3 (.i 0), kc 3 4 (.i 0), kc 3 5 (.i 0), kc 3 6 (.i 0), kc 3 7 (.i 0), kc 4 0 (.i 0), kc 4 1 (.i 0), kc 4 2 (.i 0), kc 4 3 (.i 0), kc 4 4 (.i 0), kc 4 5 (.i 0), kc 4 6 (.i 0), kc 4 7 (.i 0), kc 5 0 (.i v2.1), kc 5 1 (.i v2.2), kc 5 2 (.i 0), kc 5 3 (.i 0), kc 5 4 (.i 0), kc 5 5 (.i 0), kc 5 6 (.i 0), kc 5 7 (.i 0)]) ?_ (kp rfl) rfl
    refine aqS ?_
    refine aqT (rows := [_]) rfl (by kernel_rfl) ⟨
     okp rfl rfl (oqa (L := 7) (lN rfl) zl_32),
     trivial⟩ ?_
    refine fqK (s' := [kt 0 (.i 1), kt 1 (.p 1 0), kt 2 (.p 2 0), kt 4 (.p 7 0), (.u 0 2, some (.x (.p 1 0))), (.u 0 3, some (.x (.p 2 0))), (.u 0 4, some (.x (.p 3 0))), (.u 0 7, some (.x (.f (.func 153) [] [.p 1 0, .p 2 0]))), (.u 1 0, some (.x (.f (.func 153) [] [.p 1 0, .p 2 0]))), (.u 1 2, some (.x (.p 4 0))), (.u 1 3, some (.x (.p 5 0))), (.u 1 4, some (.x (.i 1))), (.u 1 5, some (.x (.i 1))), (.u 1 8, some (.x (.i 1))), (.u 1 9, some (.x (.f (.func 153) [] [.p 1 0, .p 2 0]))), (.u 1 10, some (.x (.i 1))), kb 1 187 8, kb 2 187 8, kb 3 187 8, kb 4 187 8, kb 5 187 8, kb 7 32 2, kc 1 0 (.i a0.A.Lo), kc 1 1 (.i a0.A.Hi), kc 1 2 (.i a0.B.Lo), kc 1 3 (.i a0.B.Hi), kc 1 4 (.i a0.C.Lo), kc 1 5 (.i a0.C.Hi), kc 1 6 (.i a0.D.Lo), kc 1 7 (.i a0.D.Hi), kc 2 0 (.i a1.A.Lo), kc 2 1 (.i a1.A.Hi), kc 2 2 (.i a1.B.Lo), kc 2 3 (.i a1.B.Hi), kc 2 4 (.i a1.C.Lo), kc 2 5 (.i a1.C.Hi), kc 2 6 (.i a1.D.Lo), kc 2 7 (.i a1.D.Hi), kc 3 0 (.i 0), kc 3 1 (.i 0), kc 3 2 (.i 0), kc 3 3 (.i 0), kc 3 4 (.i 0), kc 3 5 (.i 0), kc 3 6 (.i 0), kc 3 7 (.i 0), kc 4 0 (.i 0), kc 4 1 (.i 0), kc 4 2 (.i 0), kc 4 3 (.i 0), kc 4 4 (.i 0), kc 4 5 (.i 0), kc 4 6 (.i 0), kc 4 7 (.i 0), kc 5 0 (.i v2.1), kc 5 1 (.i v2.2), kc 5 2 (.i 0), kc 5 3 (.i 0), kc 5 4 (.i 0), kc 5 5 (.i 0), kc 5 6 (.i 0), kc 5 7 (.i 0), kc 7 0 (.i 0), kc 7 1 (.i 0)]) ?_ (kp rfl) rfl
    refine fqT ?_
    refine aqS ?_
    refine aw_any (rows := [_, _, _, _, _, _, _, _, _, _, _, _, _, _, _, _, _, _, _, _]) (M := [0, 1, 3, 7, 0, 16, 48, 112, 255, 0, 512, 1536, 3584, 0, 8192, 24576, 57344, 130560, 262143, 524287]) Tryd_mixed (by kernel_rfl) rfl (by kernel_rfl) ⟨
     okp rfl rfl (oqM (lN rfl) rfl),
     okp rfl rfl (op_ixA (lN rfl) rfl rfl ar_187 (by decide) (by decide)),
     okp rfl rfl (oqF (lN rfl) rfl fo_32_0),
     okp rfl rfl (oq1 (lN rfl) sh_3 rfl rfl),
     okp rfl rfl (oqM (lN rfl) rfl),
     okp rfl rfl (op_ixA (lN rfl) rfl rfl ar_187 (by decide) (by decide)),
     okp rfl rfl (oqF (lN rfl) rfl fo_32_0),
     okp rfl rfl (oq1 (lN rfl) sh_3 rfl rfl),
     okp rfl rfl (op_max (lN rfl) rfl rfl),
     okp rfl rfl (oqM (lN rfl) rfl),
     okp rfl rfl (op_ixA (lN rfl) rfl rfl ar_187 (by decide) (by decide)),
     okp rfl rfl (oqF (lN rfl) rfl fo_32_1),
     okp rfl rfl (oq1 (lN rfl) sh_3 rfl rfl),
     okp rfl rfl (oqM (lN rfl) rfl),
     okp rfl rfl (op_ixA (lN rfl) rfl rfl ar_187 (by decide) (by decide)),
     okp rfl rfl (oqF (lN rfl) rfl fo_32_1),
     okp rfl rfl (oq1 (lN rfl) sh_3 rfl rfl),
     okp rfl rfl (op_min (lN rfl) rfl rfl),
     okp rfl rfl (op_build (x := .g [.i (if a1.B.Lo > a0.B.Lo then a1.B.Lo else a0.B.Lo), .i (if a1.B.Hi < a0.B.Hi then a1.B.Hi else a0.B.Hi)]) (lN rfl) (EvL.cons rfl (EvL.cons rfl EvL.nil)) (fun m w => by kernel_rfl)),
     okp rfl rfl (oqS sz_32 rfl rfl rfl rfl rfl (by decide)),
     trivial⟩ ?_
    refine fqK (s' := [kt 4 (.p 7 0), (.u 0 2, some (.x (.p 1 0))), (.u 0 3, some (.x (.p 2 0))), (.u 0 4, some (.x (.p 3 0))), (.u 0 7, some (.x (.f (.func 153) [] [.p 1 0, .p 2 0]))), (.u 1 0, some (.x (.f (.func 153) [] [.p 1 0, .p 2 0]))), (.u 1 2, some (.x (.p 4 0))), (.u 1 3, some (.x (.p 5 0))), (.u 1 4, some (.x (.i 1))), (.u 1 5, some (.x (.i 1))), (.u 1 8, some (.x (.i 1))), (.u 1 9, some (.x (.f (.func 153) [] [.p 1 0, .p 2 0]))), (.u 1 10, some (.x (.i 1))), kb 1 187 8, kb 2 187 8, kb 3 187 8, kb 4 187 8, kb 5 187 8, kb 7 32 2, kc 1 0 (.i a0.A.Lo), kc 1 1 (.i a0.A.Hi), kc 1 2 (.i a0.B.Lo), kc 1 3 (.i a0.B.Hi), kc 1 4 (.i a0.C.Lo), kc 1 5 (.i a0.C.Hi), kc 1 6 (.i a0.D.Lo), kc 1 7 (.i a0.D.Hi), kc 2 0 (.i a1.A.Lo), kc 2 1 (.i a1.A.Hi), kc 2 2 (.i a1.B.Lo), kc 2 3 (.i a1.B.Hi), kc 2 4 (.i a1.C.Lo), kc 2 5 (.i a1.C.Hi), kc 2 6 (.i a1.D.Lo), kc 2 7 (.i a1.D.Hi), kc 3 0 (.i 0), kc 3 1 (.i 0), kc 3 2 (.i 0), kc 3 3 (.i 0), kc 3 4 (.i 0), kc 3 5 (.i 0), kc 3 6 (.i 0), kc 3 7 (.i 0), kc 4 0 (.i 0), kc 4 1 (.i 0), kc 4 2 (.i 0), kc 4 3 (.i 0), kc 4 4 (.i 0), kc 4 5 (.i 0), kc 4 6 (.i 0), kc 4 7 (.i 0), kc 5 0 (.i v2.1), kc 5 1 (.i v2.2), kc 5 2 (.i 0), kc 5 3 (.i 0), kc 5 4 (.i 0), kc 5 5 (.i 0), kc 5 6 (.i 0), kc 5 7 (.i 0), kc 7 0 (.i (if a1.B.Lo > a0.B.Lo then a1.B.Lo else a0.B.Lo)), kc 7 1 (.i (if a1.B.Hi < a0.B.Hi then a1.B.Hi else a0.B.Hi))]) ?_ (kp rfl) rfl
    refine fqT ?_
    refine aqr ?_
    have hm := Option.some.inj hm
    subst hm
    exact fin_callEnd _ _ _ (.inl rfl) rfl rfl (rqC (ys := [.i (if a1.B.Lo > a0.B.Lo then a1.B.Lo else a0.B.Lo), .i (if a1.B.Hi < a0.B.Hi then a1.B.Hi else a0.B.Hi)]) rfl sh_32 rfl ⟨rfl, rfl, trivial⟩ rqN) rfl hIv3 ⟨rfl, rfl, rfl, rfl, rfl, rfl, rfl, rfl, trivial⟩ ⟨rfl, rfl, rfl, rfl, rfl, rfl, rfl, rfl, rfl, rfl, rfl, rfl, rfl, rfl, rfl, rfl, rfl, rfl, rfl, rfl, rfl, rfl, rfl, rfl, rfl, rfl, rfl, rfl, rfl, rfl, rfl, rfl, rfl, rfl, rfl, rfl, rfl, rfl, rfl, rfl, rfl, rfl, rfl, rfl, rfl, rfl, rfl, rfl, rfl, trivial⟩ rfl rfl
   refine fqK (s' := [kt 0 (.f (.func 153) [] [.p 1 0, .p 2 0]), kt 2 (.p 4 0), kt 3 (.p 5 0), kt 5 (.i 1), (.u 0 2, some (.x (.p 1 0))), (.u 0 3, some (.x (.p 2 0))), (.u 0 4, some (.x (.p 3 0))), (.u 0 7, some (.x (.f (.func 153) [] [.p 1 0, .p 2 0]))), kb 1 187 8, kb 2 187 8, kb 3 187 8, kb 4 187 8, kb 5 187 8, kc 1 0 (.i a0.A.Lo), kc 1 1 (.i a0.A.Hi), kc 1 2 (.i a0.B.Lo), kc 1 3 (.i a0.B.Hi), kc 1 4 (.i a0.C.Lo), kc 1 5 (.i a0.C.Hi), kc 1 6 (.i a0.D.Lo), kc 1 7 (.i a0.D.Hi), kc 2 0 (.i a1.A.Lo), kc 2 1 (.i a1.A.Hi), kc 2 2 (.i a1.B.Lo), kc 2 3 (.i a1.B.Hi), kc 2 4 (.i a1.C.Lo), kc 2 5 (.i a1.C.Hi), kc 2 6 (.i a1.D.Lo), kc 2 7 (.i a1.D.Hi), kc 3 0 (.i 0), kc 3 1 (.i 0), kc 3 2 (.i 0), kc 3 3 (.i 0), kc 3 4 (.i 0), kc 3 5 (.i 0), kc 3 6 (.i 0), kc 3 7 (.i 0), kc 4 0 (.i 0), kc 4 1 (.i 0), kc 4 2 (.i 0), kc 4 3 (.i 0), kc 4 4 (.i 0), kc 4 5 (.i 0), kc 4 6 (.i 0), kc 4 7 (.i 0), kc 5 0 (.i v2.1), kc 5 1 (.i v2.2), kc 5 2 (.i v3.1), kc 5 3 (.i v3.2), kc 5 4 (.i 0), kc 5 5 (.i 0), kc 5 6 (.i 0), kc 5 7 (.i 0)]) ?_ (kp rfl) rfl
   refine fqB ?_
   refine fqT ?_
   refine aqT (rows := [_, _]) rfl (by kernel_rfl) ⟨
    okp rfl rfl (oqB (r := .int .i64 2) (lN rfl) rfl rfl rfl),
    okp rfl rfl (oqM (lN rfl) rfl),
    trivial⟩ ?_
   refine fqK (s' := [kt 0 (.f (.func 153) [] [.p 1 0, .p 2 0]), kt 2 (.p 4 0), kt 3 (.p 5 0), kt 5 (.i 2), (.u 0 2, some (.x (.p 1 0))), (.u 0 3, some (.x (.p 2 0))), (.u 0 4, some (.x (.p 3 0))), (.u 0 7, some (.x (.f (.func 153) [] [.p 1 0, .p 2 0]))), kb 1 187 8, kb 2 187 8, kb 3 187 8, kb 4 187 8, kb 5 187 8, kc 1 0 (.i a0.A.Lo), kc 1 1 (.i a0.A.Hi), kc 1 2 (.i a0.B.Lo), kc 1 3 (.i a0.B.Hi), kc 1 4 (.i a0.C.Lo), kc 1 5 (.i a0.C.Hi), kc 1 6 (.i a0.D.Lo), kc 1 7 (.i a0.D.Hi), kc 2 0 (.i a1.A.Lo), kc 2 1 (.i a1.A.Hi), kc 2 2 (.i a1.B.Lo), kc 2 3 (.i a1.B.Hi), kc 2 4 (.i a1.C.Lo), kc 2 5 (.i a1.C.Hi), kc 2 6 (.i a1.D.Lo), kc 2 7 (.i a1.D.Hi), kc 3 0 (.i 0), kc 3 1 (.i 0), kc 3 2 (.i 0), kc 3 3 (.i 0), kc 3 4 (.i 0), kc 3 5 (.i 0), kc 3 6 (.i 0), kc 3 7 (.i 0), kc 4 0 (.i 0), kc 4 1 (.i 0), kc 4 2 (.i 0), kc 4 3 (.i 0), kc 4 4 (.i 0), kc 4 5 (.i 0), kc 4 6 (.i 0), kc 4 7 (.i 0), kc 5 0 (.i v2.1), kc 5 1 (.i v2.2), kc 5 2 (.i v3.1), kc 5 3 (.i v3.2), kc 5 4 (.i 0), kc 5 5 (.i 0), kc 5 6 (.i 0), kc 5 7 (.i 0)]) ?_ (kp rfl) rfl
   refine fin_round ?_
   refine aqS ?_
   refine aqT (rows := [_]) rfl (by kernel_rfl) ⟨
    okp rfl rfl (oqB (r := .bool true) (lN rfl) rfl rfl rfl),
    trivial⟩ ?_
   refine fqK (s' := [kt 0 (.f (.func 153) [] [.p 1 0, .p 2 0]), kt 2 (.p 4 0), kt 3 (.p 5 0), kt 5 (.i 2), kt 6 (.B true), (.u 0 2, some (.x (.p 1 0))), (.u 0 3, some (.x (.p 2 0))), (.u 0 4, some (.x (.p 3 0))), (.u 0 7, some (.x (.f (.func 153) [] [.p 1 0, .p 2 0]))), kb 1 187 8, kb 2 187 8, kb 3 187 8, kb 4 187 8, kb 5 187 8, kc 1 0 (.i a0.A.Lo), kc 1 1 (.i a0.A.Hi), kc 1 2 (.i a0.B.Lo), kc 1 3 (.i a0.B.Hi), kc 1 4 (.i a0.C.Lo), kc 1 5 (.i a0.C.Hi), kc 1 6 (.i a0.D.Lo), kc 1 7 (.i a0.D.Hi), kc 2 0 (.i a1.A.Lo), kc 2 1 (.i a1.A.Hi), kc 2 2 (.i a1.B.Lo), kc 2 3 (.i a1.B.Hi), kc 2 4 (.i a1.C.Lo), kc 2 5 (.i a1.C.Hi), kc 2 6 (.i a1.D.Lo), kc 2 7 (.i a1.D.Hi), kc 3 0 (.i 0), kc 3 1 (.i 0), kc 3 2 (.i 0), kc 3 3 (.i 0), kc 3 4 (.i 0), kc 3 5 (.i 0), kc 3 6 (.i 0), kc 3 7 (.i 0), kc 4 0 (.i 0), kc 4 1 (.i 0), kc 4 2 (.i 0), kc 4 3 (.i 0), kc 4 4 (.i 0), kc 4 5 (.i 0), kc 4 6 (.i 0), kc 4 7 (.i 0), kc 5 0 (.i v2.1), kc 5 1 (.i v2.2), kc 5 2 (.i v3.1), kc 5 3 (.i v3.2), kc 5 4 (.i 0), kc 5 5 (.i 0), kc 5 6 (.i 0), kc 5 7 (.i 0)]) ?_ (kp rfl) rfl
   refine fqT ?_
   refine aqS ?_
   refine aqc rfl (fun hz3 => ?_) (fun hz3 => by cases hz3)
   refine aqk ?_
   refine fqT ?_
   refine aqS ?_
   refine aw_block ?_
   refine aqS ?_
   refine aqT (rows := [_, _]) rfl (by kernel_rfl) ⟨
    okp rfl rfl (oqM (lN rfl) rfl),
    okp rfl rfl (oqA (lN rfl) rfl),
    trivial⟩ ?_
   refine fqK (s' := [kt 0 (.f (.func 153) [] [.p 1 0, .p 2 0]), kt 2 (.p 4 0), kt 3 (.p 5 0), kt 4 (.i 2), kt 5 (.i 2), (.u 0 2, some (.x (.p 1 0))), (.u 0 3, some (.x (.p 2 0))), (.u 0 4, some (.x (.p 3 0))), (.u 0 7, some (.x (.f (.func 153) [] [.p 1 0, .p 2 0]))), kb 1 187 8, kb 2 187 8, kb 3 187 8, kb 4 187 8, kb 5 187 8, kc 1 0 (.i a0.A.Lo), kc 1 1 (.i a0.A.Hi), kc 1 2 (.i a0.B.Lo), kc 1 3 (.i a0.B.Hi), kc 1 4 (.i a0.C.Lo), kc 1 5 (.i a0.C.Hi), kc 1 6 (.i a0.D.Lo), kc 1 7 (.i a0.D.Hi), kc 2 0 (.i a1.A.Lo), kc 2 1 (.i a1.A.Hi), kc 2 2 (.i a1.B.Lo), kc 2 3 (.i a1.B.Hi), kc 2 4 (.i a1.C.Lo), kc 2 5 (.i a1.C.Hi), kc 2 6 (.i a1.D.Lo), kc 2 7 (.i a1.D.Hi), kc 3 0 (.i 0), kc 3 1 (.i 0), kc 3 2 (.i 0), kc 3 3 (.i 0), kc 3 4 (.i 0), kc 3 5 (.i 0), kc 3 6 (.i 0), kc 3 7 (.i 0), kc 4 0 (.i 0), kc 4 1 (.i 0), kc 4 2 (.i 0), kc 4 3 (.i 0), kc 4 4 (.i 0), kc 4 5 (.i 0), kc 4 6 (.i 0), kc 4 7 (.i 0), kc 5 0 (.i v2.1), kc 5 1 (.i v2.2), kc 5 2 (.i v3.1), kc 5 3 (.i v3.2), kc 5 4 (.i 0), kc 5 5 (.i 0), kc 5 6 (.i 0), kc 5 7 (.i 0)]) ?_ (kp rfl) rfl
   refine fqT ?_
   obtain ⟨v4, hv4, hm⟩ := bnd_some hm
   refine aqT (rows := [_, _, _, _, _, _]) rfl (by kernel_rfl) ⟨
    okp rfl rfl (oqM (lN rfl) rfl),
    okp rfl rfl (oqM (lN rfl) rfl),
    okp rfl rfl (oqM (lN rfl) rfl),
    okp rfl rfl (oqN (fs := []) (caps := [.p 1 0, .p 2 0]) (xs := [.i 2]) (Nk := 24) (.g [.i v4.1, .i v4.2]) (tqS [(0, .f (.func 153) [] [.p 1 0, .p 2 0]), (2, .p 4 0), (3, .p 5 0), (4, .i 2), (5, .i 2), (8, .i 2), (9, .f (.func 153) [] [.p 1 0, .p 2 0]), (10, .i 2)] ++ ((([(.u 0 2, some (.x (.p 1 0))), (.u 0 3, some (.x (.p 2 0))), (.u 0 4, some (.x (.p 3 0))), (.u 0 7, some (.x (.f (.func 153) [] [.p 1 0, .p 2 0]))), kb 1 187 8, kb 2 187 8, kb 3 187 8, kb 4 187 8, kb 5 187 8, kc 1 0 (.i a0.A.Lo), kc 1 1 (.i a0.A.Hi), kc 1 2 (.i a0.B.Lo), kc 1 3 (.i a0.B.Hi), kc 1 4 (.i a0.C.Lo), kc 1 5 (.i a0.C.Hi), kc 1 6 (.i a0.D.Lo), kc 1 7 (.i a0.D.Hi), kc 2 0 (.i a1.A.Lo), kc 2 1 (.i a1.A.Hi), kc 2 2 (.i a1.B.Lo), kc 2 3 (.i a1.B.Hi), kc 2 4 (.i a1.C.Lo), kc 2 5 (.i a1.C.Hi), kc 2 6 (.i a1.D.Lo)] : St) ++ (([kc 2 7 (.i a1.D.Hi), kc 3 0 (.i 0), kc 3 1 (.i 0), kc 3 2 (.i 0), kc 3 3 (.i 0), kc 3 4 (.i 0), kc 3 5 (.i 0), kc 3 6 (.i 0), kc 3 7 (.i 0), kc 4 0 (.i 0), kc 4 1 (.i 0), kc 4 2 (.i 0), kc 4 3 (.i 0), kc 4 4 (.i 0), kc 4 5 (.i 0), kc 4 6 (.i 0), kc 4 7 (.i 0), kc 5 0 (.i v2.1), kc 5 1 (.i v2.2), kc 5 2 (.i v3.1), kc 5 3 (.i v3.2), kc 5 4 (.i 0), kc 5 5 (.i 0), kc 5 6 (.i 0)] : St) ++ (([kc 5 7 (.i 0)] : St)))) ++ dqS [])) 1 [(0, .f (.func 153) [] [.p 1 0, .p 2 0]), (2, .p 4 0), (3, .p 5 0), (4, .i 2), (5, .i 2), (8, .i 2), (9, .f (.func 153) [] [.p 1 0, .p 2 0]), (10, .i 2)] [(.u 0 2, some (.x (.p 1 0))), (.u 0 3, some (.x (.p 2 0))), (.u 0 4, some (.x (.p 3 0))), (.u 0 7, some (.x (.f (.func 153) [] [.p 1 0, .p 2 0]))), kb 1 187 8, kb 2 187 8, kb 3 187 8, kb 4 187 8, kb 5 187 8, kc 1 0 (.i a0.A.Lo), kc 1 1 (.i a0.A.Hi), kc 1 2 (.i a0.B.Lo), kc 1 3 (.i a0.B.Hi), kc 1 4 (.i a0.C.Lo), kc 1 5 (.i a0.C.Hi), kc 1 6 (.i a0.D.Lo), kc 1 7 (.i a0.D.Hi), kc 2 0 (.i a1.A.Lo), kc 2 1 (.i a1.A.Hi), kc 2 2 (.i a1.B.Lo), kc 2 3 (.i a1.B.Hi), kc 2 4 (.i a1.C.Lo), kc 2 5 (.i a1.C.Hi), kc 2 6 (.i a1.D.Lo), kc 2 7 (.i a1.D.Hi), kc 3 0 (.i 0), kc 3 1 (.i 0), kc 3 2 (.i 0), kc 3 3 (.i 0), kc 3 4 (.i 0), kc 3 5 (.i 0), kc 3 6 (.i 0), kc 3 7 (.i 0), kc 4 0 (.i 0), kc 4 1 (.i 0), kc 4 2 (.i 0), kc 4 3 (.i 0), kc 4 4 (.i 0), kc 4 5 (.i 0), kc 4 6 (.i 0), kc 4 7 (.i 0), kc 5 0 (.i v2.1), kc 5 1 (.i v2.2), kc 5 2 (.i v3.1), kc 5 3 (.i v3.2), kc 5 4 (.i 0), kc 5 5 (.i 0), kc 5 6 (.i 0), kc 5 7 (.i 0)] (lN rfl) en_153 Tryd.func153 rfl rfl (Nat.le_of_ble_eq_true rfl) rfl ⟨rfl, rfl, rfl⟩ (EvL.cons rfl EvL.nil) ⟨rfl, rfl, rfl, rfl, rfl, rfl, rfl, rfl, trivial⟩ ⟨rfl, rfl, rfl, rfl, rfl, rfl, rfl, rfl, rfl, rfl, rfl, rfl, rfl, rfl, rfl, rfl, rfl, rfl, rfl, rfl, rfl, rfl, rfl, rfl, rfl, rfl, rfl, rfl, rfl, rfl, rfl, rfl, rfl, rfl, rfl, rfl, rfl, rfl, rfl, rfl, rfl, rfl, rfl, rfl, rfl, rfl, rfl, rfl, rfl, trivial⟩ rfl rfl rfl (fun aIv4 hIv4 => ?_)),
    okp rfl rfl (op_ixA (lN rfl) rfl rfl ar_187 (by decide) (by decide)),
    okp rfl rfl (oqS sz_32 rfl rfl rfl rfl rfl (by decide)),
    trivial⟩ ?_
   ·have hm := hv4
    refine AW.keep (s' := [kt 0 (.i 2), kt 1 (.p 1 0), kt 2 (.p 2 0), (.u 0 2, some (.x (.p 1 0))), (.u 0 3, some (.x (.p 2 0))), (.u 0 4, some (.x (.p 3 0))), (.u 0 7, some (.x (.f (.func 153) [] [.p 1 0, .p 2 0]))), (.u 1 0, some (.x (.f (.func 153) [] [.p 1 0, .p 2 0]))), (.u 1 2, some (.x (.p 4 0))), (.u 1 3, some (.x (.p 5 0))), (.u 1 4, some (.x (.i 2))), (.u 1 5, some (.x (.i 2))), (.u 1 8, some (.x (.i 2))), (.u 1 9, some (.x (.f (.func 153) [] [.p 1 0, .p 2 0]))), (.u 1 10, some (.x (.i 2))), kb 1 187 8, kb 2 187 8, kb 3 187 8, kb 4 187 8, kb 5 187 8, kc 1 0 (.i a0.A.Lo), kc 1 1 (.i a0.A.Hi), kc 1 2 (.i a0.B.Lo), kc 1 3 (.i a0.B.Hi), kc 1 4 (.i a0.C.Lo), kc 1 5 (.i a0.C.Hi), kc 1 6 (.i a0.D.Lo), kc 1 7 (.i a0.D.Hi), kc 2 0 (.i a1.A.Lo), kc 2 1 (.i a1.A.Hi), kc 2 2 (.i a1.B.Lo), kc 2 3 (.i a1.B.Hi), kc 2 4 (.i a1.C.Lo), kc 2 5 (.i a1.C.Hi), kc 2 6 (.i a1.D.Lo), kc 2 7 (.i a1.D.Hi), kc 3 0 (.i 0), kc 3 1 (.i 0), kc 3 2 (.i 0), kc 3 3 (.i 0), kc 3 4 (.i 0), kc 3 5 (.i 0), kc 3 6 (.i 0), kc 3 7 (.i 0), kc 4 0 (.i 0), kc 4 1 (.i 0), kc 4 2 (.i 0), kc 4 3 (.i 0), kc 4 4 (.i 0), kc 4 5 (.i 0), kc 4 6 (.i 0), kc 4 7 (.i 0), kc 5 0 (.i v2.1), kc 5 1 (.i v2.2), kc 5 2 (.i v3.1), kc 5 3 (.i v3.2), kc 5 4 (.i 0), kc 5 5 (.i 0), kc 5 6 (.i 0), kc 5 7 (.i 0)]) ?_ (kp rfl) rfl
    refine aqS ?_
    refine aqT (rows := [_]) rfl (by kernel_rfl) ⟨
     okp rfl rfl (oqa (L := 8) (lN rfl) zl_32),
     trivial⟩ ?_
    refine fqK (s' := [kt 0 (.i 2), kt 1 (.p 1 0), kt 2 (.p 2 0), kt 4 (.p 8 0), (.u 0 2, some (.x (.p 1 0))), (.u 0 3, some (.x (.p 2 0))), (.u 0 4, some (.x (.p 3 0))), (.u 0 7, some (.x (.f (.func 153) [] [.p 1 0, .p 2 0]))), (.u 1 0, some (.x (.f (.func 153) [] [.p 1 0, .p 2 0]))), (.u 1 2, some (.x (.p 4 0))), (.u 1 3, some (.x (.p 5 0))), (.u 1 4, some (.x (.i 2))), (.u 1 5, some (.x (.i 2))), (.u 1 8, some (.x (.i 2))), (.u 1 9, some (.x (.f (.func 153) [] [.p 1 0, .p 2 0]))), (.u 1 10, some (.x (.i 2))), kb 1 187 8, kb 2 187 8, kb 3 187 8, kb 4 187 8, kb 5 187 8, kb 8 32 2, kc 1 0 (.i a0.A.Lo), kc 1 1 (.i a0.A.Hi), kc 1 2 (.i a0.B.Lo), kc 1 3 (.i a0.B.Hi), kc 1 4 (.i a0.C.Lo), kc 1 5 (.i a0.C.Hi), kc 1 6 (.i a0.D.Lo), kc 1 7 (.i a0.D.Hi), kc 2 0 (.i a1.A.Lo), kc 2 1 (.i a1.A.Hi), kc 2 2 (.i a1.B.Lo), kc 2 3 (.i a1.B.Hi), kc 2 4 (.i a1.C.Lo), kc 2 5 (.i a1.C.Hi), kc 2 6 (.i a1.D.Lo), kc 2 7 (.i a1.D.Hi), kc 3 0 (.i 0), kc 3 1 (.i 0), kc 3 2 (.i 0), kc 3 3 (.i 0), kc 3 4 (.i 0), kc 3 5 (.i 0), kc 3 6 (.i 0), kc 3 7 (.i 0), kc 4 0 (.i 0), kc 4 1 (.i 0), kc 4 2 (.i 0), kc 4 3 (.i 0), kc 4 4 (.i 0), kc 4 5 (.i 0), kc 4 6 (.i 0), kc 4 7 (.i 0), kc 5 0 (.i v2.1), kc 5 1 (.i v2.2), kc 5 2 (.i v3.1), kc 5 3 (.i v3.2), kc 5 4 (.i 0), kc 5 5 (.i 0), kc 5 6 (.i 0), kc 5 7 (.i 0), kc 8 0 (.i 0), kc 8 1 (.i 0)]) ?_ (kp rfl) rfl
    refine fqT ?_
    refine aqS ?_
    refine aw_any (rows := [_, _, _, _, _, _, _, _, _, _, _, _, _, _, _, _, _, _, _, _]) (M := [0, 1, 3, 7, 0, 16, 48, 112, 255, 0, 512, 1536, 3584, 0, 8192, 24576, 57344, 130560, 262143, 524287]) Tryd_mixed (by kernel_rfl) rfl (by kernel_rfl) ⟨
     okp rfl rfl (oqM (lN rfl) rfl),
     okp rfl rfl (op_ixA (lN rfl) rfl rfl ar_187 (by decide) (by decide)),
     okp rfl rfl (oqF (lN rfl) rfl fo_32_0),
     okp rfl rfl (oq1 (lN rfl) sh_3 rfl rfl),
     okp rfl rfl (oqM (lN rfl) rfl),
     okp rfl rfl (op_ixA (lN rfl) rfl rfl ar_187 (by decide) (by decide)),
     okp rfl rfl (oqF (lN rfl) rfl fo_32_0),
     okp rfl rfl (oq1 (lN rfl) sh_3 rfl rfl),
     okp rfl rfl (op_max (lN rfl) rfl rfl),
     okp rfl rfl (oqM (lN rfl) rfl),
     okp rfl rfl (op_ixA (lN rfl) rfl rfl ar_187 (by decide) (by decide)),
     okp rfl rfl (oqF (lN rfl) rfl fo_32_1),
     okp rfl rfl (oq1 (lN rfl) sh_3 rfl rfl),
     okp rfl rfl (oqM (lN rfl) rfl),
     okp rfl rfl (op_ixA (lN rfl) rfl rfl ar_187 (by decide) (by decide)),
     okp rfl rfl (oqF (lN rfl) rfl fo_32_1),
     okp rfl rfl (oq1 (lN rfl) sh_3 rfl rfl),
     okp rfl rfl (op_min (lN rfl) rfl rfl),
     okp rfl rfl (op_build (x := .g [.i (if a1.C.Lo > a0.C.Lo then a1.C.Lo else a0.C.Lo), .i (if a1.C.Hi < a0.C.Hi then a1.C.Hi else a0.C.Hi)]) (lN rfl) (EvL.cons rfl (EvL.cons rfl EvL.nil)) (fun m w => by kernel_rfl)),
     okp rfl rfl (oqS sz_32 rfl rfl rfl rfl rfl (by decide)),
     trivial⟩ ?_
    refine fqK (s' := [kt 4 (.p 8 0), (.u 0 2, some (.x (.p 1 0))), (.u 0 3, some (.x (.p 2 0))), (.u 0 4, some (.x (.p 3 0))), (.u 0 7, some (.x (.f (.func 153) [] [.p 1 0, .p 2 0]))), (.u 1 0, some (.x (.f (.func 153) [] [.p 1 0, .p 2 0]))), (.u 1 2, some (.x (.p 4 0))), (.u 1 3, some (.x (.p 5 0))), (.u 1 4, some (.x (.i 2))), (.u 1 5, some (.x (.i 2))), (.u 1 8, some (.x (.i 2))), (.u 1 9, some (.x (.f (.func 153) [] [.p 1 0, .p 2 0]))), (.u 1 10, some (.x (.i 2))), kb 1 187 8, kb 2 187 8, kb 3 187 8, kb 4 187 8, kb 5 187 8, kb 8 32 2, kc 1 0 (.i a0.A.Lo), kc 1 1 (.i a0.A.Hi), kc 1 2 (.i a0.B.Lo), kc 1 3 (.i a0.B.Hi), kc 1 4 (.i a0.C.Lo), kc 1 5 (.i a0.C.Hi), kc 1 6 (.i a0.D.Lo), kc 1 7 (.i a0.D.Hi), kc 2 0 (.i a1.A.Lo), kc 2 1 (.i a1.A.Hi), kc 2 2 (.i a1.B.Lo), kc 2 3 (.i a1.B.Hi), kc 2 4 (.i a1.C.Lo), kc 2 5 (.i a1.C.Hi), kc 2 6 (.i a1.D.Lo), kc 2 7 (.i a1.D.Hi), kc 3 0 (.i 0), kc 3 1 (.i 0), kc 3 2 (.i 0), kc 3 3 (.i 0), kc 3 4 (.i 0), kc 3 5 (.i 0), kc 3 6 (.i 0), kc 3 7 (.i 0), kc 4 0 (.i 0), kc 4 1 (.i 0), kc 4 2 (.i 0), kc 4 3 (.i 0), kc 4 4 (.i 0), kc 4 5 (.i 0), kc 4 6 (.i 0), kc 4 7 (.i 0), kc 5 0 (.i v2.1), kc 5 1 (.i v2.2), kc 5 2 (.i v3.1), kc 5 3 (.i v3.2), kc 5 4 (.i 0), kc 5 5 (.i 0), kc 5 6 (.i 0), kc 5 7 (.i 0), kc 8 0 (.i (if a1.C.Lo > a0.C.Lo then a1.C.Lo else a0.C.Lo)), kc 8 1 (.i (if a1.C.Hi < a0.C.Hi then a1.C.Hi else a0.C.Hi))]) ?_ (kp rfl) rfl
    refine fqT ?_
    refine aqr ?_
    have hm := Option.some.inj hm
    subst hm
    exact fin_callEnd _ _ _ (.inl rfl) rfl rfl (rqC (ys := [.i (if a1.C.Lo > a0.C.Lo then a1.C.Lo else a0.C.Lo), .i (if a1.C.Hi < a0.C.Hi then a1.C.Hi else a0.C.Hi)]) rfl sh_32 rfl ⟨rfl, rfl, trivial⟩ rqN) rfl hIv4 ⟨rfl, rfl, rfl, rfl, rfl, rfl, rfl, rfl, trivial⟩ ⟨rfl, rfl, rfl, rfl, rfl, rfl, rfl, rfl, rfl, rfl, rfl, rfl, rfl, rfl, rfl, rfl, rfl, rfl, rfl, rfl, rfl, rfl, rfl, rfl, rfl, rfl, rfl, rfl, rfl, rfl, rfl, rfl, rfl, rfl, rfl, rfl, rfl, rfl, rfl, rfl, rfl, rfl, rfl, rfl, rfl, rfl, rfl, rfl, rfl, trivial⟩ rfl rfl
   refine fqK (s' := [kt 0 (.f (.func 153) [] [.p 1 0, .p 2 0]), kt 2 (.p 4 0), kt 3 (.p 5 0), kt 5 (.i 2), (.u 0 2, some (.x (.p 1 0))), (.u 0 3, some (.x (.p 2 0))), (.u 0 4, some (.x (.p 3 0))), (.u 0 7, some (.x (.f (.func 153) [] [.p 1 0, .p 2 0]))), kb 1 187 8, kb 2 187 8, kb 3 187 8, kb 4 187 8, kb 5 187 8, kc 1 0 (.i a0.A.Lo), kc 1 1 (.i a0.A.Hi), kc 1 2 (.i a0.B.Lo), kc 1 3 (.i a0.B.Hi), kc 1 4 (.i a0.C.Lo), kc 1 5 (.i a0.C.Hi), kc 1 6 (.i a0.D.Lo), kc 1 7 (.i a0.D.Hi), kc 2 0 (.i a1.A.Lo), kc 2 1 (.i a1.A.Hi), kc 2 2 (.i a1.B.Lo), kc 2 3 (.i a1.B.Hi), kc 2 4 (.i a1.C.Lo), kc 2 5 (.i a1.C.Hi), kc 2 6 (.i a1.D.Lo), kc 2 7 (.i a1.D.Hi), kc 3 0 (.i 0), kc 3 1 (.i 0), kc 3 2 (.i 0), kc 3 3 (.i 0), kc 3 4 (.i 0), kc 3 5 (.i 0), kc 3 6 (.i 0), kc 3 7 (.i 0), kc 4 0 (.i 0), kc 4 1 (.i 0), kc 4 2 (.i 0), kc 4 3 (.i 0), kc 4 4 (.i 0), kc 4 5 (.i 0), kc 4 6 (.i 0), kc 4 7 (.i 0), kc 5 0 (.i v2.1), kc 5 1 (.i v2.2), kc 5 2 (.i v3.1), kc 5 3 (.i v3.2), kc 5 4 (.i v4.1), kc 5 5 (.i v4.2), kc 5 6 (.i 0), kc 5 7 (.i 0)]) ?_ (kp rfl) rfl
   refine fqB ?_
   refine fqT ?_
   refine aqT (rows := [_, _]) rfl (by kernel_rfl) ⟨
    okp rfl rfl (oqB (r := .int .i64 3) (lN rfl) rfl rfl rfl),
    okp rfl rfl (oqM (lN rfl) rfl),
    trivial⟩ ?_
   refine fqK (s' := [kt 0 (.f (.func 153) [] [.p 1 0, .p 2 0]), kt 2 (.p 4 0), kt 3 (.p 5 0), kt 5 (.i 3), (.u 0 2, some (.x (.p 1 0))), (.u 0 3, some (.x (.p 2 0))), (.u 0 4, some (.x (.p 3 0))), (.u 0 7, some (.x (.f (.func 153) [] [.p 1 0, .p 2 0]))), kb 1 187 8, kb 2 187 8, kb 3 187 8, kb 4 187 8, kb 5 187 8, kc 1 0 (.i a0.A.Lo), kc 1 1 (.i a0.A.Hi), kc 1 2 (.i a0.B.Lo), kc 1 3 (.i a0.B.Hi), kc 1 4 (.i a0.C.Lo), kc 1 5 (.i a0.C.Hi), kc 1 6 (.i a0.D.Lo), kc 1 7 (.i a0.D.Hi), kc 2 0 (.i a1.A.Lo), kc 2 1 (.i a1.A.Hi), kc 2 2 (.i a1.B.Lo), kc 2 3 (.i a1.B.Hi), kc 2 4 (.i a1.C.Lo), kc 2 5 (.i a1.C.Hi), kc 2 6 (.i a1.D.Lo), kc 2 7 (.i a1.D.Hi), kc 3 0 (.i 0), kc 3 1 (.i 0), kc 3 2 (.i 0), kc 3 3 (.i 0), kc 3 4 (.i 0), kc 3 5 (.i 0), kc 3 6 (.i 0), kc 3 7 (.i 0), kc 4 0 (.i 0), kc 4 1 (.i 0), kc 4 2 (.i 0), kc 4 3 (.i 0), kc 4 4 (.i 0), kc 4 5 (.i 0), kc 4 6 (.i 0), kc 4 7 (.i 0), kc 5 0 (.i v2.1), kc 5 1 (.i v2.2), kc 5 2 (.i v3.1), kc 5 3 (.i v3.2), kc 5 4 (.i v4.1), kc 5 5 (.i v4.2), kc 5 6 (.i 0), kc 5 7 (.i 0)]) ?_ (kp rfl) rfl
   refine fin_round ?_
   refine aqS ?_
   refine aqT (rows := [_]) rfl (by kernel_rfl) ⟨
    okp rfl rfl (oqB (r := .bool true) (lN rfl) rfl rfl rfl),
    trivial⟩ ?_
   refine fqK (s' := [kt 0 (.f (.func 153) [] [.p 1 0, .p 2 0]), kt 2 (.p 4 0), kt 3 (.p 5 0), kt 5 (.i 3), kt 6 (.B true), (.u 0 2, some (.x (.p 1 0))), (.u 0 3, some (.x (.p 2 0))), (.u 0 4, some (.x (.p 3 0))), (.u 0 7, some (.x (.f (.func 153) [] [.p 1 0, .p 2 0]))), kb 1 187 8, kb 2 187 8, kb 3 187 8, kb 4 187 8, kb 5 187 8, kc 1 0 (.i a0.A.Lo), kc 1 1 (.i a0.A.Hi), kc 1 2 (.i a0.B.Lo), kc 1 3 (.i a0.B.Hi), kc 1 4 (.i a0.C.Lo), kc 1 5 (.i a0.C.Hi), kc 1 6 (.i a0.D.Lo), kc 1 7 (.i a0.D.Hi), kc 2 0 (.i a1.A.Lo), kc 2 1 (.i a1.A.Hi), kc 2 2 (.i a1.B.Lo), kc 2 3 (.i a1.B.Hi), kc 2 4 (.i a1.C.Lo), kc 2 5 (.i a1.C.Hi), kc 2 6 (.i a1.D.Lo), kc 2 7 (.i a1.D.Hi), kc 3 0 (.i 0), kc 3 1 (.i 0), kc 3 2 (.i 0), kc 3 3 (.i 0), kc 3 4 (.i 0), kc 3 5 (.i 0), kc 3 6 (.i 0), kc 3 7 (.i 0), kc 4 0 (.i 0), kc 4 1 (.i 0), kc 4 2 (.i 0), kc 4 3 (.i 0), kc 4 4 (.i 0), kc 4 5 (.i 0), kc 4 6 (.i 0), kc 4 7 (.i 0), kc 5 0 (.i v2.1), kc 5 1 (.i v2.2), kc 5 2 (.i v3.1), kc 5 3 (.i v3.2), kc 5 4 (.i v4.1), kc 5 5 (.i v4.2), kc 5 6 (.i 0), kc 5 7 (.i 0)]) ?_ (kp rfl) rfl
   refine fqT ?_
   refine aqS ?_
   refine aqc rfl (fun hz4 => ?_) (fun hz4 => by cases hz4)
   refine aqk ?_
   refine fqT ?_
   refine aqS ?_
   refine aw_block ?_
   refine aqS ?_
   refine aqT (rows := [_, _]) rfl (by kernel_rfl) ⟨
    okp rfl rfl (oqM (lN rfl) rfl),
    okp rfl rfl (oqA (lN rfl) rfl),
    trivial⟩ ?_
   refine fqK (s' := [kt 0 (.f (.func 153) [] [.p 1 0, .p 2 0]), kt 2 (.p 4 0), kt 3 (.p 5 0), kt 4 (.i 3), kt 5 (.i 3), (.u 0 2, some (.x (.p 1 0))), (.u 0 3, some (.x (.p 2 0))), (.u 0 4, some (.x (.p 3 0))), (.u 0 7, some (.x (.f (.func 153) [] [.p 1 0, .p 2 0]))), kb 1 187 8, kb 2 187 8, kb 3 187 8, kb 4 187 8, kb 5 187 8, kc 1 0 (.i a0.A.Lo), kc 1 1 (.i a0.A.Hi), kc 1 2 (.i a0.B.Lo), kc 1 3 (.i a0.B.Hi), kc 1 4 (.i a0.C.Lo), kc 1 5 (.i a0.C.Hi), kc 1 6 (.i a0.D.Lo), kc 1 7 (.i a0.D.Hi), kc 2 0 (.i a1.A.Lo), kc 2 1 (.i a1.A.Hi), kc 2 2 (.i a1.B.Lo), kc 2 3 (.i a1.B.Hi), kc 2 4 (.i a1.C.Lo), kc 2 5 (.i a1.C.Hi), kc 2 6 (.i a1.D.Lo), kc 2 7 (.i a1.D.Hi), kc 3 0 (.i 0), kc 3 1 (.i 0), kc 3 2 (.i 0), kc 3 3 (.i 0), kc 3 4 (.i 0), kc 3 5 (.i 0), kc 3 6 (.i 0), kc 3 7 (.i 0), kc 4 0 (.i 0), kc 4 1 (.i 0), kc 4 2 (.i 0), kc 4 3 (.i 0), kc 4 4 (.i 0), kc 4 5 (.i 0), kc 4 6 (.i 0), kc 4 7 (.i 0), kc 5 0 (.i v2.1), kc 5 1 (.i v2.2), kc 5 2 (.i v3.1), kc 5 3 (.i v3.2), kc 5 4 (.i v4.1), kc 5 5 (.i v4.2), kc 5 6 (.i 0), kc 5 7 (.i 0)]) ?_ (kp rfl) rfl
   refine fqT ?_
   obtain ⟨v5, hv5, hm⟩ := bnd_some hm
   refine aqT (rows := [_, _, _, _, _, _]) rfl (by kernel_rfl) ⟨
    okp rfl rfl (oqM (lN rfl) rfl),
    okp rfl rfl (oqM (lN rfl) rfl),
    okp rfl rfl (oqM (lN rfl) rfl),
    okp rfl rfl (oqN (fs := []) (caps := [.p 1 0, .p 2 0]) (xs := [.i 3]) (Nk := 24) (.g [.i v5.1, .i v5.2]) (tqS [(0, .f (.func 153) [] [.p 1 0, .p 2 0]), (2, .p 4 0), (3, .p 5 0), (4, .i 3), (5, .i 3), (8, .i 3), (9, .f (.func 153) [] [.p 1 0, .p 2 0]), (10, .i 3)] ++ ((([(.u 0 2, some (.x (.p 1 0))), (.u 0 3, some (.x (.p 2 0))), (.u 0 4, some (.x (.p 3 0))), (.u 0 7, some (.x (.f (.func 153) [] [.p 1 0, .p 2 0]))), kb 1 187 8, kb 2 187 8, kb 3 187 8, kb 4 187 8, kb 5 187 8, kc 1 0 (.i a0.A.Lo), kc 1 1 (.i a0.A.Hi), kc 1 2 (.i a0.B.Lo), kc 1 3 (.i a0.B.Hi), kc 1 4 (.i a0.C.Lo), kc 1 5 (.i a0.C.Hi), kc 1 6 (.i a0.D.Lo), kc 1 7 (.i a0.D.Hi), kc 2 0 (.i a1.A.Lo), kc 2 1 (.i a1.A.Hi), kc 2 2 (.i a1.B.Lo), kc 2 3 (.i a1.B.Hi), kc 2 4 (.i a1.C.Lo), kc 2 5 (.i a1.C.Hi), kc 2 6 (.i a1.D.Lo)] : St) ++ (([kc 2 7 (.i a1.D.Hi), kc 3 0 (.i 0), kc 3 1 (.i 0), kc 3 2 (.i 0), kc 3 3 (.i 0), kc 3 4 (.i 0), kc 3 5 (.i 0), kc 3 6 (.i 0), kc 3 7 (.i 0), kc 4 0 (.i 0), kc 4 1 (.i 0), kc 4 2 (.i 0), kc 4 3 (.i 0), kc 4 4 (.i 0), kc 4 5 (.i 0), kc 4 6 (.i 0), kc 4 7 (.i 0), kc 5 0 (.i v2.1), kc 5 1 (.i v2.2), kc 5 2 (.i v3.1), kc 5 3 (.i v3.2), kc 5 4 (.i v4.1), kc 5 5 (.i v4.2), kc 5 6 (.i 0)] : St) ++ (([kc 5 7 (.i 0)] : St)))) ++ dqS [])) 1 [(0, .f (.func 153) [] [.p 1 0, .p 2 0]), (2, .p 4 0), (3, .p 5 0), (4, .i 3), (5, .i 3), (8, .i 3), (9, .f (.func 153) [] [.p 1 0, .p 2 0]), (10, .i 3)] [(.u 0 2, some (.x (.p 1 0))), (.u 0 3, some (.x (.p 2 0))), (.u 0 4, some (.x (.p 3 0))), (.u 0 7, some (.x (.f (.func 153) [] [.p 1 0, .p 2 0]))), kb 1 187 8, kb 2 187 8, kb 3 187 8, kb 4 187 8, kb 5 187 8, kc 1 0 (.i a0.A.Lo), kc 1 1 (.i a0.A.Hi), kc 1 2 (.i a0.B.Lo), kc 1 3 (.i a0.B.Hi), kc 1 4 (.i a0.C.Lo), kc 1 5 (.i a0.C.Hi), kc 1 6 (.i a0.D.Lo), kc 1 7 (.i a0.D.Hi), kc 2 0 (.i a1.A.Lo), kc 2 1 (.i a1.A.Hi), kc 2 2 (.i a1.B.Lo), kc 2 3 (.i a1.B.Hi), kc 2 4 (.i a1.C.Lo), kc 2 5 (.i a1.C.Hi), kc 2 6 (.i a1.D.Lo), kc 2 7 (.i a1.D.Hi), kc 3 0 (.i 0), kc 3 1 (.i 0), kc 3 2 (.i 0), kc 3 3 (.i 0), kc 3 4 (.i 0), kc 3 5 (.i 0), kc 3 6 (.i 0), kc 3 7 (.i 0), kc 4 0 (.i 0), kc 4 1 (.i 0), kc 4 2 (.i 0), kc 4 3 (.i 0), kc 4 4 (.i 0), kc 4 5 (.i 0), kc 4 6 (.i 0), kc 4 7 (.i 0), kc 5 0 (.i v2.1), kc 5 1 (.i v2.2), kc 5 2 (.i v3.1), kc 5 3 (.i v3.2), kc 5 4 (.i v4.1), kc 5 5 (.i v4.2), kc 5 6 (.i 0), kc 5 7 (.i 0)] (lN rfl) en_153 Tryd.func153 rfl rfl (Nat.le_of_ble_eq_true rfl) rfl ⟨rfl, rfl, rfl⟩ (EvL.cons rfl EvL.nil) ⟨rfl, rfl, rfl, rfl, rfl, rfl, rfl, rfl, trivial⟩ ⟨rfl, rfl, rfl, rfl, rfl, rfl, rfl, rfl, rfl, rfl, rfl, rfl, rfl, rfl, rfl, rfl, rfl, rfl, rfl, rfl, rfl, rfl, rfl, rfl, rfl, rfl, rfl, rfl, rfl, rfl, rfl, rfl, rfl, rfl, rfl, rfl, rfl, rfl, rfl, rfl, rfl, rfl, rfl, rfl, rfl, rfl, rfl, rfl, rfl, trivial⟩ rfl rfl rfl (fun aIv5 hIv5 => ?_)),
    okp rfl rfl (op_ixA (lN rfl) rfl rfl ar_187 (by decide) (by decide)),
    okp rfl rfl (oqS sz_32 rfl rfl rfl rfl rfl (by decide)),
    trivial⟩ ?_
   ·have hm := hv5
    refine AW.keep (s' := [kt 0 (.i 3), kt 1 (.p 1 0), kt 2 (.p 2 0), (.u 0 2, some (.x (.p 1 0))), (.u 0 3, some (.x (.p 2 0))), (.u 0 4, some (.x (.p 3 0))), (.u 0 7, some (.x (.f (.func 153) [] [.p 1 0, .p 2 0]))), (.u 1 0, some (.x (.f (.func 153) [] [.p 1 0, .p 2 0]))), (.u 1 2, some (.x (.p 4 0))), (.u 1 3, some (.x (.p 5 0))), (.u 1 4, some (.x (.i 3))), (.u 1 5, some (.x (.i 3))), (.u 1 8, some (.x (.i 3))), (.u 1 9, some (.x (.f (.func 153) [] [.p 1 0, .p 2 0]))), (.u 1 10, some (.x (.i 3))), kb 1 187 8, kb 2 187 8, kb 3 187 8, kb 4 187 8, kb 5 187 8, kc 1 0 (.i a0.A.Lo), kc 1 1 (.i a0.A.Hi), kc 1 2 (.i a0.B.Lo), kc 1 3 (.i a0.B.Hi), kc 1 4 (.i a0.C.Lo), kc 1 5 (.i a0.C.Hi), kc 1 6 (.i a0.D.Lo), kc 1 7 (.i a0.D.Hi), kc 2 0 (.i a1.A.Lo), kc 2 1 (.i a1.A.Hi), kc 2 2 (.i a1.B.Lo), kc 2 3 (.i a1.B.Hi), kc 2 4 (.i a1.C.Lo), kc 2 5 (.i a1.C.Hi), kc 2 6 (.i a1.D.Lo), kc 2 7 (.i a1.D.Hi), kc 3 0 (.i 0), kc 3 1 (.i 0), kc 3 2 (.i 0), kc 3 3 (.i 0), kc 3 4 (.i 0), kc 3 5 (.i 0), kc 3 6 (.i 0), kc 3 7 (.i 0), kc 4 0 (.i 0), kc 4 1 (.i 0), kc 4 2 (.i 0), kc 4 3 (.i 0), kc 4 4 (.i 0), kc 4 5 (.i 0), kc 4 6 (.i 0), kc 4 7 (.i 0), kc 5 0 (.i v2.1), kc 5 1 (.i v2.2), kc 5 2 (.i v3.1), kc 5 3 (.i v3.2), kc 5 4 (.i v4.1), kc 5 5 (.i v4.2), kc 5 6 (.i 0), kc 5 7 (.i 0)]) ?_ (kp rfl) rfl
    refine aqS ?_
    refine aqT (rows := [_]) rfl (by kernel_rfl) ⟨
     okp rfl rfl (oqa (L := 9) (lN rfl) zl_32),
     trivial⟩ ?_
    refine fqK (s' := [kt 0 (.i 3), kt 1 (.p 1 0), kt 2 (.p 2 0), kt 4 (.p 9 0), (.u 0 2, some (.x (.p 1 0))), (.u 0 3, some (.x (.p 2 0))), (.u 0 4, some (.x (.p 3 0))), (.u 0 7, some (.x (.f (.func 153) [] [.p 1 0, .p 2 0]))), (.u 1 0, some (.x (.f (.func 153) [] [.p 1 0, .p 2 0]))), (.u 1 2, some (.x (.p 4 0))), (.u 1 3, some (.x (.p 5 0))), (.u 1 4, some (.x (.i 3))), (.u 1 5, some (.x (.i 3))), (.u 1 8, some (.x (.i 3))), (.u 1 9, some (.x (.f (.func 153) [] [.p 1 0, .p 2 0]))), (.u 1 10, some (.x (.i 3))), kb 1 187 8, kb 2 187 8, kb 3 187 8, kb 4 187 8, kb 5 187 8, kb 9 32 2, kc 1 0 (.i a0.A.Lo), kc 1 1 (.i a0.A.Hi), kc 1 2 (.i a0.B.Lo), kc 1 3 (.i a0.B.Hi), kc 1 4 (.i a0.C.Lo), kc 1 5 (.i a0.C.Hi), kc 1 6 (.i a0.D.Lo), kc 1 7 (.i a0.D.Hi), kc 2 0 (.i a1.A.Lo), kc 2 1 (.i a1.A.Hi), kc 2 2 (.i a1.B.Lo), kc 2 3 (.i a1.B.Hi), kc 2 4 (.i a1.C.Lo), kc 2 5 (.i a1.C.Hi), kc 2 6 (.i a1.D.Lo), kc 2 7 (.i a1.D.Hi), kc 3 0 (.i 0), kc 3 1 (.i 0), kc 3 2 (.i 0), kc 3 3 (.i 0), kc 3 4 (.i 0), kc 3 5 (.i 0), kc 3 6 (.i 0), kc 3 7 (.i 0), kc 4 0 (.i 0), kc 4 1 (.i 0), kc 4 2 (.i 0), kc 4 3 (.i 0), kc 4 4 (.i 0), kc 4 5 (.i 0), kc 4 6 (.i 0), kc 4 7 (.i 0), kc 5 0 (.i v2.1), kc 5 1 (.i v2.2), kc 5 2 (.i v3.1), kc 5 3 (.i v3.2), kc 5 4 (.i v4.1), kc 5 5 (.i v4.2), kc 5 6 (.i 0), kc 5 7 (.i 0), kc 9 0 (.i 0), kc 9 1 (.i 0)]) ?_ (kp rfl) rfl
    refine fqT ?_
    refine aqS ?_
    refine aw_any (rows := [_, _, _, _, _, _, _, _, _, _, _, _, _, _, _, _, _, _, _, _]) (M := [0, 1, 3, 7, 0, 16, 48, 112, 255, 0, 512, 1536, 3584, 0, 8192, 24576, 57344, 130560, 262143, 524287]) Tryd_mixed (by kernel_rfl) rfl (by kernel_rfl) ⟨
     okp rfl rfl (oqM (lN rfl) rfl),
     okp rfl rfl (op_ixA (lN rfl) rfl rfl ar_187 (by decide) (by decide)),
     okp rfl rfl (oqF (lN rfl) rfl fo_32_0),
     okp rfl rfl (oq1 (lN rfl) sh_3 rfl rfl),
     okp rfl rfl (oqM (lN rfl) rfl),
     okp rfl rfl (op_ixA (lN rfl) rfl rfl ar_187 (by decide) (by decide)),
     okp rfl rfl (oqF (lN rfl) rfl fo_32_0),
     okp rfl rfl (oq1 (lN rfl) sh_3 rfl rfl),
     okp rfl rfl (op_max (lN rfl) rfl rfl),
     okp rfl rfl (oqM (lN rfl) rfl),
     okp rfl rfl (op_ixA (lN rfl) rfl rfl ar_187 (by decide) (by decide)),
     okp rfl rfl (oqF (lN rfl) rfl fo_32_1),
     okp rfl rfl (oq1 (lN rfl) sh_3 rfl rfl),
     okp rfl rfl (oqM (lN rfl) rfl),
     okp rfl rfl (op_ixA (lN rfl) rfl rfl ar_187 (by decide) (by decide)),
     okp rfl rfl (oqF (lN rfl) rfl fo_32_1),
     okp rfl rfl (oq1 (lN rfl) sh_3 rfl rfl),
     okp rfl rfl (op_min (lN rfl) rfl rfl),
     okp rfl rfl (op_build (x := .g [.i (if a1.D.Lo > a0.D.Lo then a1.D.Lo else a0.D.Lo), .i (if a1.D.Hi < a0.D.Hi then a1.D.Hi else a0.D.Hi)]) (lN rfl) (EvL.cons rfl (EvL.cons rfl EvL.nil)) (fun m w => by kernel_rfl)),
     okp rfl rfl (oqS sz_32 rfl rfl rfl rfl rfl (by decide)),
     trivial⟩ ?_
    refine fqK (s' := [kt 4 (.p 9 0), (.u 0 2, some (.x (.p 1 0))), (.u 0 3, some (.x (.p 2 0))), (.u 0 4, some (.x (.p 3 0))), (.u 0 7, some (.x (.f (.func 153) [] [.p 1 0, .p 2 0]))), (.u 1 0, some (.x (.f (.func 153) [] [.p 1 0, .p 2 0]))), (.u 1 2, some (.x (.p 4 0))), (.u 1 3, some (.x (.p 5 0))), (.u 1 4, some (.x (.i 3))), (.u 1 5, some (.x (.i 3))), (.u 1 8, some (.x (.i 3))), (.u 1 9, some (.x (.f (.func 153) [] [.p 1 0, .p 2 0]))), (.u 1 10, some (.x (.i 3))), kb 1 187 8, kb 2 187 8, kb 3 187 8, kb 4 187 8, kb 5 187 8, kb 9 32 2, kc 1 0 (.i a0.A.Lo), kc 1 1 (.i a0.A.Hi), kc 1 2 (.i a0.B.Lo), kc 1 3 (.i a0.B.Hi), kc 1 4 (.i a0.C.Lo), kc 1 5 (.i a0.C.Hi), kc 1 6 (.i a0.D.Lo), kc 1 7 (.i a0.D.Hi), kc 2 0 (.i a1.A.Lo), kc 2 1 (.i a1.A.Hi), kc 2 2 (.i a1.B.Lo), kc 2 3 (.i a1.B.Hi), kc 2 4 (.i a1.C.Lo), kc 2 5 (.i a1.C.Hi), kc 2 6 (.i a1.D.Lo), kc 2 7 (.i a1.D.Hi), kc 3 0 (.i 0), kc 3 1 (.i 0), kc 3 2 (.i 0), kc 3 3 (.i 0), kc 3 4 (.i 0), kc 3 5 (.i 0), kc 3 6 (.i 0), kc 3 7 (.i 0), kc 4 0 (.i 0), kc 4 1 (.i 0), kc 4 2 (.i 0), kc 4 3 (.i 0), kc 4 4 (.i 0), kc 4 5 (.i 0), kc 4 6 (.i 0), kc 4 7 (.i 0), kc 5 0 (.i v2.1), kc 5 1 (.i v2.2), kc 5 2 (.i v3.1), kc 5 3 (.i v3.2), kc 5 4 (.i v4.1), kc 5 5 (.i v4.2), kc 5 6 (.i 0), kc 5 7 (.i 0), kc 9 0 (.i (if a1.D.Lo > a0.D.Lo then a1.D.Lo else a0.D.Lo)), kc 9 1 (.i (if a1.D.Hi < a0.D.Hi then a1.D.Hi else a0.D.Hi))]) ?_ (kp rfl) rfl
    refine fqT ?_
    refine aqr ?_
    have hm := Option.some.inj hm
    subst hm
    exact fin_callEnd _ _ _ (.inl rfl) rfl rfl (rqC (ys := [.i (if a1.D.Lo > a0.D.Lo then a1.D.Lo else a0.D.Lo), .i (if a1.D.Hi < a0.D.Hi then a1.D.Hi else a0.D.Hi)]) rfl sh_32 rfl ⟨rfl, rfl, trivial⟩ rqN) rfl hIv5 ⟨rfl, rfl, rfl, rfl, rfl, rfl, rfl, rfl, trivial⟩ ⟨rfl, rfl, rfl, rfl, rfl, rfl, rfl, rfl, rfl, rfl, rfl, rfl, rfl, rfl, rfl, rfl, rfl, rfl, rfl, rfl, rfl, rfl, rfl, rfl, rfl, rfl, rfl, rfl, rfl, rfl, rfl, rfl, rfl, rfl, rfl, rfl, rfl, rfl, rfl, rfl, rfl, rfl, rfl, rfl, rfl, rfl, rfl, rfl, rfl, trivial⟩ rfl rfl
   refine fqK (s' := [kt 0 (.f (.func 153) [] [.p 1 0, .p 2 0]), kt 2 (.p 4 0), kt 3 (.p 5 0), kt 5 (.i 3), (.u 0 2, some (.x (.p 1 0))), (.u 0 3, some (.x (.p 2 0))), (.u 0 4, some (.x (.p 3 0))), (.u 0 7, some (.x (.f (.func 153) [] [.p 1 0, .p 2 0]))), kb 1 187 8, kb 2 187 8, kb 3 187 8, kb 4 187 8, kb 5 187 8, kc 1 0 (.i a0.A.Lo), kc 1 1 (.i a0.A.Hi), kc 1 2 (.i a0.B.Lo), kc 1 3 (.i a0.B.Hi), kc 1 4 (.i a0.C.Lo), kc 1 5 (.i a0.C.Hi), kc 1 6 (.i a0.D.Lo), kc 1 7 (.i a0.D.Hi), kc 2 0 (.i a1.A.Lo), kc 2 1 (.i a1.A.Hi), kc 2 2 (.i a1.B.Lo), kc 2 3 (.i a1.B.Hi), kc 2 4 (.i a1.C.Lo), kc 2 5 (.i a1.C.Hi), kc 2 6 (.i a1.D.Lo), kc 2 7 (.i a1.D.Hi), kc 3 0 (.i 0), kc 3 1 (.i 0), kc 3 2 (.i 0), kc 3 3 (.i 0), kc 3 4 (.i 0), kc 3 5 (.i 0), kc 3 6 (.i 0), kc 3 7 (.i 0), kc 4 0 (.i 0), kc 4 1 (.i 0), kc 4 2 (.i 0), kc 4 3 (.i 0), kc 4 4 (.i 0), kc 4 5 (.i 0), kc 4 6 (.i 0), kc 4 7 (.i 0), kc 5 0 (.i v2.1), kc 5 1 (.i v2.2), kc 5 2 (.i v3.1), kc 5 3 (.i v3.2), kc 5 4 (.i v4.1), kc 5 5 (.i v4.2), kc 5 6 (.i v5.1), kc 5 7 (.i v5.2)]) ?_ (kp rfl) rfl
   refine fqB ?_
   refine fqT ?_
   refine aqT (rows := [_, _]) rfl (by kernel_rfl) ⟨
    okp rfl rfl (oqB (r := .int .i64 4) (lN rfl) rfl rfl rfl),
    okp rfl rfl (oqM (lN rfl) rfl),
    trivial⟩ ?_
   refine fqK (s' := [kt 0 (.f (.func 153) [] [.p 1 0, .p 2 0]), kt 2 (.p 4 0), kt 3 (.p 5 0), kt 5 (.i 4), (.u 0 2, some (.x (.p 1 0))), (.u 0 3, some (.x (.p 2 0))), (.u 0 4, some (.x (.p 3 0))), (.u 0 7, some (.x (.f (.func 153) [] [.p 1 0, .p 2 0]))), kb 1 187 8, kb 2 187 8, kb 3 187 8, kb 4 187 8, kb 5 187 8, kc 1 0 (.i a0.A.Lo), kc 1 1 (.i a0.A.Hi), kc 1 2 (.i a0.B.Lo), kc 1 3 (.i a0.B.Hi), kc 1 4 (.i a0.C.Lo), kc 1 5 (.i a0.C.Hi), kc 1 6 (.i a0.D.Lo), kc 1 7 (.i a0.D.Hi), kc 2 0 (.i a1.A.Lo), kc 2 1 (.i a1.A.Hi), kc 2 2 (.i a1.B.Lo), kc 2 3 (.i a1.B.Hi), kc 2 4 (.i a1.C.Lo), kc 2 5 (.i a1.C.Hi), kc 2 6 (.i a1.D.Lo), kc 2 7 (.i a1.D.Hi), kc 3 0 (.i 0), kc 3 1 (.i 0), kc 3 2 (.i 0), kc 3 3 (.i 0), kc 3 4 (.i 0), kc 3 5 (.i 0), kc 3 6 (.i 0), kc 3 7 (.i 0), kc 4 0 (.i 0), kc 4 1 (.i 0), kc 4 2 (.i 0), kc 4 3 (.i 0), kc 4 4 (.i 0), kc 4 5 (.i 0), kc 4 6 (.i 0), kc 4 7 (.i 0), kc 5 0 (.i v2.1), kc 5 1 (.i v2.2), kc 5 2 (.i v3.1), kc 5 3 (.i v3.2), kc 5 4 (.i v4.1), kc 5 5 (.i v4.2), kc 5 6 (.i v5.1), kc 5 7 (.i v5.2)]) ?_ (kp rfl) rfl
   refine fin_round ?_
   refine aqS ?_
   refine aqT (rows := [_]) rfl (by kernel_rfl) ⟨
    okp rfl rfl (oqB (r := .bool false) (lN rfl) rfl rfl rfl),
    trivial⟩ ?_
   refine fqK (s' := [kt 0 (.f (.func 153) [] [.p 1 0, .p 2 0]), kt 2 (.p 4 0), kt 3 (.p 5 0), kt 5 (.i 4), kt 6 (.B false), (.u 0 2, some (.x (.p 1 0))), (.u 0 3, some (.x (.p 2 0))), (.u 0 4, some (.x (.p 3 0))), (.u 0 7, some (.x (.f (.func 153) [] [.p 1 0, .p 2 0]))), kb 1 187 8, kb 2 187 8, kb 3 187 8, kb 4 187 8, kb 5 187 8, kc 1 0 (.i a0.A.Lo), kc 1 1 (.i a0.A.Hi), kc 1 2 (.i a0.B.Lo), kc 1 3 (.i a0.B.Hi), kc 1 4 (.i a0.C.Lo), kc 1 5 (.i a0.C.Hi), kc 1 6 (.i a0.D.Lo), kc 1 7 (.i a0.D.Hi), kc 2 0 (.i a1.A.Lo), kc 2 1 (.i a1.A.Hi), kc 2 2 (.i a1.B.Lo), kc 2 3 (.i a1.B.Hi), kc 2 4 (.i a1.C.Lo), kc 2 5 (.i a1.C.Hi), kc 2 6 (.i a1.D.Lo), kc 2 7 (.i a1.D.Hi), kc 3 0 (.i 0), kc 3 1 (.i 0), kc 3 2 (.i 0), kc 3 3 (.i 0), kc 3 4 (.i 0), kc 3 5 (.i 0), kc 3 6 (.i 0), kc 3 7 (.i 0), kc 4 0 (.i 0), kc 4 1 (.i 0), kc 4 2 (.i 0), kc 4 3 (.i 0), kc 4 4 (.i 0), kc 4 5 (.i 0), kc 4 6 (.i 0), kc 4 7 (.i 0), kc 5 0 (.i v2.1), kc 5 1 (.i v2.2), kc 5 2 (.i v3.1), kc 5 3 (.i v3.2), kc 5 4 (.i v4.1), kc 5 5 (.i v4.2), kc 5 6 (.i v5.1), kc 5 7 (.i v5.2)]) ?_ (kp rfl) rfl
   refine fqT ?_
   refine aqS ?_
   refine aqc rfl (fun hz5 => by cases hz5) (fun hz5 => ?_)
   refine aw_exit ?_
   refine fqE ?_
   refine fqE ?_
   refine fin_block_exit ?_
   exact fqc (v2.1, v2.2, v3.1, v3.2, v4.1, v4.2, v5.1, v5.2) hm ⟨rfl, rfl, rfl, rfl, rfl, rfl, rfl, rfl, rfl, rfl, rfl, rfl, rfl, rfl, rfl, rfl, rfl, rfl, rfl, rfl, rfl, rfl, rfl, rfl, rfl, rfl, rfl, rfl, rfl, rfl, rfl, rfl, rfl, rfl, rfl, rfl, rfl, rfl, rfl, rfl, rfl, rfl, rfl, rfl, rfl, rfl, rfl, rfl, rfl, rfl, rfl, trivial⟩ rfl
  ·have _z := hm
   refine aqS ?_
   refine aqT (rows := [_, _]) rfl (by kernel_rfl) ⟨
    okp rfl rfl (oqL (ys := [.i x1.1, .i x1.2.1, .i x1.2.2.1, .i x1.2.2.2.1, .i x1.2.2.2.2.1, .i x1.2.2.2.2.2.1, .i x1.2.2.2.2.2.2.1, .i x1.2.2.2.2.2.2.2]) (lN rfl) sh_187 rfl rfl ⟨rfl, rfl, rfl, rfl, rfl, rfl, rfl, rfl, trivial⟩),
    okp rfl rfl (oqS sz_187 rfl rfl rfl rfl rfl (by decide)),
    trivial⟩ ?_
   refine fqK (s' := [kt 2 (.p 4 0), (.u 0 2, some (.x (.p 1 0))), (.u 0 3, some (.x (.p 2 0))), (.u 0 4, some (.x (.p 3 0))), (.u 0 7, some (.x (.f (.func 153) [] [.p 1 0, .p 2 0]))), kb 1 187 8, kb 2 187 8, kb 3 187 8, kb 4 187 8, kc 1 0 (.i a0.A.Lo), kc 1 1 (.i a0.A.Hi), kc 1 2 (.i a0.B.Lo), kc 1 3 (.i a0.B.Hi), kc 1 4 (.i a0.C.Lo), kc 1 5 (.i a0.C.Hi), kc 1 6 (.i a0.D.Lo), kc 1 7 (.i a0.D.Hi), kc 2 0 (.i a1.A.Lo), kc 2 1 (.i a1.A.Hi), kc 2 2 (.i a1.B.Lo), kc 2 3 (.i a1.B.Hi), kc 2 4 (.i a1.C.Lo), kc 2 5 (.i a1.C.Hi), kc 2 6 (.i a1.D.Lo), kc 2 7 (.i a1.D.Hi), kc 3 0 (.i 0), kc 3 1 (.i 0), kc 3 2 (.i 0), kc 3 3 (.i 0), kc 3 4 (.i 0), kc 3 5 (.i 0), kc 3 6 (.i 0), kc 3 7 (.i 0), kc 4 0 (.i x1.1), kc 4 1 (.i x1.2.1), kc 4 2 (.i x1.2.2.1), kc 4 3 (.i x1.2.2.2.1), kc 4 4 (.i x1.2.2.2.2.1), kc 4 5 (.i x1.2.2.2.2.2.1), kc 4 6 (.i x1.2.2.2.2.2.2.1), kc 4 7 (.i x1.2.2.2.2.2.2.2)]) ?_ (kp rfl) rfl
   refine fqT ?_
   refine aqr ?_
   have hm := Option.some.inj hm
   subst hm
   exact fin_callEnd _ _ _ (.inl rfl) rfl rfl (rqC (ys := [.i x1.1, .i x1.2.1, .i x1.2.2.1, .i x1.2.2.2.1, .i x1.2.2.2.2.1, .i x1.2.2.2.2.2.1, .i x1.2.2.2.2.2.2.1, .i x1.2.2.2.2.2.2.2]) rfl sh_187 rfl ⟨rfl, rfl, rfl, rfl, rfl, rfl, rfl, rfl, trivial⟩ rqN) rfl hIv1 ⟨rfl, rfl, rfl, rfl, trivial⟩ ⟨rfl, rfl, rfl, rfl, rfl, rfl, rfl, rfl, rfl, rfl, rfl, rfl, rfl, rfl, rfl, rfl, rfl, rfl, rfl, rfl, rfl, rfl, rfl, rfl, rfl, rfl, rfl, trivial⟩ rfl rfl
 refine fqK (s' := [kt 4 (.p 3 0), kt 6 (.p 10 0), kb 3 187 8, kb 10 187 8, kc 3 0 (.i 0), kc 3 1 (.i 0), kc 3 2 (.i 0), kc 3 3 (.i 0), kc 3 4 (.i 0), kc 3 5 (.i 0), kc 3 6 (.i 0), kc 3 7 (.i 0), kc 10 0 (.i v1.1), kc 10 1 (.i v1.2.1), kc 10 2 (.i v1.2.2.1), kc 10 3 (.i v1.2.2.2.1), kc 10 4 (.i v1.2.2.2.2.1), kc 10 5 (.i v1.2.2.2.2.2.1), kc 10 6 (.i v1.2.2.2.2.2.2.1), kc 10 7 (.i v1.2.2.2.2.2.2.2)]) ?_ (kp rfl) rfl
 refine fqT ?_
 refine aqS ?_
 obtain ⟨v6, hv6, hm⟩ := bnd_some hm
 refine aw_any (rows := [_, _, _, _, _]) (M := [0, 0, 2, 7, 15]) Tryd_mixed (by kernel_rfl) rfl (by kernel_rfl) ⟨
  okp rfl rfl (oqL (ys := [.i v1.1, .i v1.2.1, .i v1.2.2.1, .i v1.2.2.2.1, .i v1.2.2.2.2.1, .i v1.2.2.2.2.2.1, .i v1.2.2.2.2.2.2.1, .i v1.2.2.2.2.2.2.2]) (lN rfl) sh_187 rfl rfl ⟨rfl, rfl, rfl, rfl, rfl, rfl, rfl, rfl, trivial⟩),
  okp rfl rfl (op_mkfn (lN rfl) EvL.nil (EvL.cons rfl EvL.nil)),
  okp rfl rfl (op_callLentR (ls := [⟨10, 187, [.i v1.1, .i v1.2.1, .i v1.2.2.1, .i v1.2.2.2.1, .i v1.2.2.2.2.1, .i v1.2.2.2.2.2.1, .i v1.2.2.2.2.2.2.1, .i v1.2.2.2.2.2.2.2], [.i v1.1, .i v1.2.1, .i v1.2.2.1, .i v1.2.2.2.1, .i v1.2.2.2.2.1, .i v1.2.2.2.2.2.1, .i v1.2.2.2.2.2.2.1, .i v1.2.2.2.2.2.2.2]⟩]) (x := .B v6) (fs := []) (caps := []) (extra := []) (lN rfl) en_133 rfl ⟨rfl, rfl, rfl⟩ (EvL.cons rfl EvL.nil) ⟨rfl, ⟨rfl, rfl, rfl, rfl, rfl, rfl, rfl, rfl, trivial⟩, rfl, lb_ne rfl, trivial⟩ rfl (fun mm aa ww gg hr hrel hbx hlo => (c133_0 F (mm 10) v1.1 v1.2.1 v1.2.2.1 v1.2.2.2.1 v1.2.2.2.2.1 v1.2.2.2.2.2.1 v1.2.2.2.2.2.2.1 v1.2.2.2.2.2.2.2 ww (hbx _ (.head _)) v6 hv6))),
  okp rfl rfl (oqS sz_187 rfl rfl rfl rfl rfl (by decide)),
  okp rfl rfl (oqA (lN rfl) rfl),
  trivial⟩ ?_
 refine fqK (s' := [kt 4 (.p 3 0), kt 5 (.B v6), kb 3 187 8, kc 3 0 (.i v1.1), kc 3 1 (.i v1.2.1), kc 3 2 (.i v1.2.2.1), kc 3 3 (.i v1.2.2.2.1), kc 3 4 (.i v1.2.2.2.2.1), kc 3 5 (.i v1.2.2.2.2.2.1), kc 3 6 (.i v1.2.2.2.2.2.2.1), kc 3 7 (.i v1.2.2.2.2.2.2.2)]) ?_ (kp rfl) rfl
 refine fqT ?_
 refine aqr ?_
 refine pqr (x := .t [.g [.i v1.1, .i v1.2.1, .i v1.2.2.1, .i v1.2.2.2.1, .i v1.2.2.2.2.1, .i v1.2.2.2.2.2.1, .i v1.2.2.2.2.2.2.1, .i v1.2.2.2.2.2.2.2], .B v6]) rfl rfl (rqC (ys := [.i v1.1, .i v1.2.1, .i v1.2.2.1, .i v1.2.2.2.1, .i v1.2.2.2.2.1, .i v1.2.2.2.2.2.1, .i v1.2.2.2.2.2.2.1, .i v1.2.2.2.2.2.2.2]) rfl sh_187 rfl ⟨rfl, rfl, rfl, rfl, rfl, rfl, rfl, rfl, trivial⟩ (rqT rfl rqN)) rfl (fun mm aa ww hr => ?_)
 have hm := Option.some.inj hm
 subst hm
 exact ⟨rfl, hr.below⟩
end Go.Proofs.T
namespace Go.Proofs.T
open Go Go.AX Go.RowKit Hull
theorem sh_122 : shapeOf Tryd.prog 122 = some (some 8) := by kernel_rfl
theorem en_123 : Proofs.Enters Tryd.prog 123 := Proofs.enters_of Tryd.func123 (by kernel_rfl) rfl
theorem en_122 : Proofs.Enters Tryd.prog 122 := Proofs.enters_of Tryd.func122 (by kernel_rfl) rfl
theorem en_126 : Proofs.Enters Tryd.prog 126 := Proofs.enters_of Tryd.func126 (by kernel_rfl) rfl
theorem en_127 : Proofs.Enters Tryd.prog 127 := Proofs.enters_of Tryd.func127 (by kernel_rfl) rfl
theorem en_128 : Proofs.Enters Tryd.prog 128 := Proofs.enters_of Tryd.func128 (by kernel_rfl) rfl
theorem en_129 : Proofs.Enters Tryd.prog 129 := Proofs.enters_of Tryd.func129 (by kernel_rfl) rfl
def m68 (F : Nat) (a0 : Cell) (a1 : Rates) (a2 : Int) : Option (Cell × Int) :=
 bnd (m123 F a1) (fun v1 => bnd (m122 F ([checkCell a0, v1])) (fun v2 => brk (v2 != 0) (some ((⟨(⟨0, 0⟩ : Span), (⟨0, 0⟩ : Span), (⟨0, 0⟩ : Span), (⟨0, 0⟩ : Span)⟩ : Cell), v2)) (brk (!(inI a2 0 10000)) (some ((⟨(⟨0, 0⟩ : Span), (⟨0, 0⟩ : Span), (⟨0, 0⟩ : Span), (⟨0, 0⟩ : Span)⟩ : Cell), 6)) (bnd (m126 F ((⟨a0.Conc, a0.Thick, a0.Ridge, a0.Press⟩ : Spans)) a1 a2) (fun v3 => bnd (m127 F v3) (fun v4 => some (v4, 0)))))))
set_option maxHeartbeats 1000000 in
set_option maxRecDepth 8000 in
theorem c68 (F : Nat) (a0 : Cell) (a1 : Rates) (a2 : Int) (w : World)  (r : Cell × Int) (hm : m68 F a0 a1 a2 = some r) : Calls Tryd.prog 68 #[.agg #[.int .i64 a0.Conc.Lo, .int .i64 a0.Conc.Hi, .int .i64 a0.Thick.Lo, .int .i64 a0.Thick.Hi, .int .i64 a0.Ridge.Lo, .int .i64 a0.Ridge.Hi, .int .i64 a0.Press.Lo, .int .i64 a0.Press.Hi], .agg #[.int .i64 a1.Up.Conc, .int .i64 a1.Up.Thick, .int .i64 a1.Up.Ridge, .int .i64 a1.Up.Press, .int .i64 a1.Down.Conc, .int .i64 a1.Down.Thick, .int .i64 a1.Down.Ridge, .int .i64 a1.Down.Press], .int .i64 a2] w fun e w' => e = .returned (.tuple #[.agg #[.int .i64 r.1.Conc.Lo, .int .i64 r.1.Conc.Hi, .int .i64 r.1.Thick.Lo, .int .i64 r.1.Thick.Hi, .int .i64 r.1.Ridge.Lo, .int .i64 r.1.Ridge.Hi, .int .i64 r.1.Press.Lo, .int .i64 r.1.Press.Hi], .int .i64 r.2]) ∧ Below w.heap.size w w' := by
 unfold m68 at hm
 refine enter (args := [.g [.i a0.Conc.Lo, .i a0.Conc.Hi, .i a0.Thick.Lo, .i a0.Thick.Hi, .i a0.Ridge.Lo, .i a0.Ridge.Hi, .i a0.Press.Lo, .i a0.Press.Hi], .g [.i a1.Up.Conc, .i a1.Up.Thick, .i a1.Up.Ridge, .i a1.Up.Press, .i a1.Down.Conc, .i a1.Down.Thick, .i a1.Down.Ridge, .i a1.Down.Press], .i a2]) Tryd.func68 rfl (N := 29) rfl (Nat.le_of_ble_eq_true rfl) ?_
 refine aqS ?_
 refine aqT (rows := [_, _, _, _]) rfl (by kernel_rfl) ⟨
  okp rfl rfl (op_boxN (L := 1) (lN rfl) rfl rfl rfl),
  okp rfl rfl (op_boxN (L := 2) (lN rfl) rfl rfl rfl),
  okp rfl rfl (oqa (L := 3) (lN rfl) zl_34),
  okp rfl rfl (oqA (lN rfl) rfl),
  trivial⟩ ?_
 refine fqK (s' := [kt 2 (.i a2), kt 3 (.p 1 0), kt 4 (.p 2 0), kt 6 (.p 3 0), kb 1 34 8, kb 2 122 8, kb 3 34 8, kc 1 0 (.i a0.Conc.Lo), kc 1 1 (.i a0.Conc.Hi), kc 1 2 (.i a0.Thick.Lo), kc 1 3 (.i a0.Thick.Hi), kc 1 4 (.i a0.Ridge.Lo), kc 1 5 (.i a0.Ridge.Hi), kc 1 6 (.i a0.Press.Lo), kc 1 7 (.i a0.Press.Hi), kc 2 0 (.i a1.Up.Conc), kc 2 1 (.i a1.Up.Thick), kc 2 2 (.i a1.Up.Ridge), kc 2 3 (.i a1.Up.Press), kc 2 4 (.i a1.Down.Conc), kc 2 5 (.i a1.Down.Thick), kc 2 6 (.i a1.Down.Ridge), kc 2 7 (.i a1.Down.Press), kc 3 0 (.i 0), kc 3 1 (.i 0), kc 3 2 (.i 0), kc 3 3 (.i 0), kc 3 4 (.i 0), kc 3 5 (.i 0), kc 3 6 (.i 0), kc 3 7 (.i 0)]) ?_ (kp rfl) rfl
 refine fqT ?_
 refine aqS ?_
 refine aqS ?_
 obtain ⟨v1, hv1, hm⟩ := bnd_some hm
 obtain ⟨v2, hv2, hm⟩ := bnd_some hm
 refine aw_any (rows := [_, _, _, _, _, _, _]) (M := [0, 1, 0, 7, 15, 31, 63]) Tryd_mixed (by kernel_rfl) rfl (by kernel_rfl) ⟨
  okp rfl rfl (oqL (ys := [.i a0.Conc.Lo, .i a0.Conc.Hi, .i a0.Thick.Lo, .i a0.Thick.Hi, .i a0.Ridge.Lo, .i a0.Ridge.Hi, .i a0.Press.Lo, .i a0.Press.Hi]) (lN rfl) sh_34 rfl rfl ⟨rfl, rfl, rfl, rfl, rfl, rfl, rfl, rfl, trivial⟩),
  okp rfl rfl (oqC (x := .i (checkCell a0)) (fs := []) (caps := []) (extra := []) (lN rfl) en_85 rfl ⟨rfl, rfl, rfl⟩ (EvL.cons rfl EvL.nil) (fun mm aa ww gg hr hrel => (c85 a0 ww))),
  okp rfl rfl (oqL (ys := [.i a1.Up.Conc, .i a1.Up.Thick, .i a1.Up.Ridge, .i a1.Up.Press, .i a1.Down.Conc, .i a1.Down.Thick, .i a1.Down.Ridge, .i a1.Down.Press]) (lN rfl) sh_122 rfl rfl ⟨rfl, rfl, rfl, rfl, rfl, rfl, rfl, rfl, trivial⟩),
  okp rfl rfl (oqC (x := .i v1) (fs := []) (caps := []) (extra := []) (lN rfl) en_123 rfl ⟨rfl, rfl, rfl⟩ (EvL.cons rfl EvL.nil) (fun mm aa ww gg hr hrel => (c123 F a1 ww v1 hv1))),
  okp rfl rfl (op_buildSlice (L := 4) (ety := 36) (cs := [.i (checkCell a0), .i v1]) (lN rfl) (EvL.cons rfl (EvL.cons rfl EvL.nil)) rfl (fun m w => by kernel_rfl)),
  okp rfl rfl (oqC (x := .i v2) (fs := []) (caps := []) (extra := (kapp ((.b 4 :: cqK 4 0 (([checkCell a0, v1] : List Int).length * 1))) [])) (lN rfl) en_122 rfl ⟨rfl, rfl, rfl⟩ (EvL.cons rfl EvL.nil) (fun mm aa ww gg hr hrel => (c122 F ([checkCell a0, v1]) ⟨some ⟨mm 4, 0, none⟩, 2, 2⟩ ww (slAt_own (enc := encInt) (l := [checkCell a0, v1]) (fun _ => rfl) hrel (fun k hk => hr k (List.mem_append_left _ hk)) rfl ⟨rfl, rfl, trivial⟩ (Nat.le_of_ble_eq_true rfl)) v2 hv2))),
  okp rfl rfl (oqA (lN rfl) rfl),
  trivial⟩ ?_
 refine fqK (s' := [kt 2 (.i a2), kt 3 (.p 1 0), kt 4 (.p 2 0), kt 6 (.p 3 0), kt 8 (.i v2), kb 1 34 8, kb 2 122 8, kb 3 34 8, kc 1 0 (.i a0.Conc.Lo), kc 1 1 (.i a0.Conc.Hi), kc 1 2 (.i a0.Thick.Lo), kc 1 3 (.i a0.Thick.Hi), kc 1 4 (.i a0.Ridge.Lo), kc 1 5 (.i a0.Ridge.Hi), kc 1 6 (.i a0.Press.Lo), kc 1 7 (.i a0.Press.Hi), kc 2 0 (.i a1.Up.Conc), kc 2 1 (.i a1.Up.Thick), kc 2 2 (.i a1.Up.Ridge), kc 2 3 (.i a1.Up.Press), kc 2 4 (.i a1.Down.Conc), kc 2 5 (.i a1.Down.Thick), kc 2 6 (.i a1.Down.Ridge), kc 2 7 (.i a1.Down.Press), kc 3 0 (.i 0), kc 3 1 (.i 0), kc 3 2 (.i 0), kc 3 3 (.i 0), kc 3 4 (.i 0), kc 3 5 (.i 0), kc 3 6 (.i 0), kc 3 7 (.i 0)]) ?_ (kp rfl) rfl
 refine fqT ?_
 refine aqS ?_
 refine aqT (rows := [_, _]) rfl (by kernel_rfl) ⟨
  okp rfl rfl (oqM (lN rfl) rfl),
  okp rfl rfl (oqB (lN rfl) rfl rfl rfl),
  trivial⟩ ?_
 refine fqK (s' := [kt 2 (.i a2), kt 3 (.p 1 0), kt 4 (.p 2 0), kt 6 (.p 3 0), kt 8 (.i v2), kt 16 (.B (v2 != 0)), kb 1 34 8, kb 2 122 8, kb 3 34 8, kc 1 0 (.i a0.Conc.Lo), kc 1 1 (.i a0.Conc.Hi), kc 1 2 (.i a0.Thick.Lo), kc 1 3 (.i a0.Thick.Hi), kc 1 4 (.i a0.Ridge.Lo), kc 1 5 (.i a0.Ridge.Hi), kc 1 6 (.i a0.Press.Lo), kc 1 7 (.i a0.Press.Hi), kc 2 0 (.i a1.Up.Conc), kc 2 1 (.i a1.Up.Thick), kc 2 2 (.i a1.Up.Ridge), kc 2 3 (.i a1.Up.Press), kc 2 4 (.i a1.Down.Conc), kc 2 5 (.i a1.Down.Thick), kc 2 6 (.i a1.Down.Ridge), kc 2 7 (.i a1.Down.Press), kc 3 0 (.i 0), kc 3 1 (.i 0), kc 3 2 (.i 0), kc 3 3 (.i 0), kc 3 4 (.i 0), kc 3 5 (.i 0), kc 3 6 (.i 0), kc 3 7 (.i 0)]) ?_ (kp rfl) rfl
 refine fqT ?_
 refine aqc rfl (fun hz1 => ?_) (fun hz1 => ?_)
 ·have hm := brk_t hz1 hm
  refine aqS ?_
  refine aqT (rows := [_, _, _, _]) rfl (by kernel_rfl) ⟨
   okp rfl rfl (op_build (x := .g [.i 0, .i 0, .i 0, .i 0, .i 0, .i 0, .i 0, .i 0]) (lN rfl) EvL.nil (fun m w => by kernel_rfl)),
   okp rfl rfl (oqM (lN rfl) rfl),
   okp rfl rfl (oqS sz_34 rfl rfl rfl rfl rfl (by decide)),
   okp rfl rfl (oqA (lN rfl) rfl),
   trivial⟩ ?_
  refine fqK (s' := [kt 6 (.p 3 0), kt 7 (.i v2), kb 3 34 8, kc 3 0 (.i 0), kc 3 1 (.i 0), kc 3 2 (.i 0), kc 3 3 (.i 0), kc 3 4 (.i 0), kc 3 5 (.i 0), kc 3 6 (.i 0), kc 3 7 (.i 0)]) ?_ (kp rfl) rfl
  refine fqT ?_
  refine aqr ?_
  refine fqR ?_
  refine pqr (x := .t [.g [.i 0, .i 0, .i 0, .i 0, .i 0, .i 0, .i 0, .i 0], .i v2]) rfl rfl (rqC (ys := [.i 0, .i 0, .i 0, .i 0, .i 0, .i 0, .i 0, .i 0]) rfl sh_34 rfl ⟨rfl, rfl, rfl, rfl, rfl, rfl, rfl, rfl, trivial⟩ (rqT rfl rqN)) rfl (fun mm aa ww hr => ?_)
  have hm := Option.some.inj hm
  subst hm
  exact ⟨rfl, hr.below⟩
 ·have hm := brk_f hz1 hm
  refine aqk ?_
  refine fqT ?_
  refine aqS ?_
  refine aqS ?_
  refine aqT (rows := [_, _, _]) rfl (by kernel_rfl) ⟨
   okp rfl rfl (oqM (lN rfl) rfl),
   okp rfl rfl (oqC (x := .B (inI a2 0 10000)) (fs := []) (caps := []) (extra := []) (lN rfl) en_124 rfl ⟨rfl, rfl, rfl⟩ (EvL.cons rfl (EvL.cons rfl (EvL.cons rfl EvL.nil))) (fun mm aa ww gg hr hrel => (c124 a2 0 10000 ww))),
   okp rfl rfl (oqn (lN rfl) rfl),
   trivial⟩ ?_
  refine fqK (s' := [kt 2 (.i a2), kt 3 (.p 1 0), kt 4 (.p 2 0), kt 6 (.p 3 0), kt 21 (.B (!(inI a2 0 10000))), kb 1 34 8, kb 2 122 8, kb 3 34 8, kc 1 0 (.i a0.Conc.Lo), kc 1 1 (.i a0.Conc.Hi), kc 1 2 (.i a0.Thick.Lo), kc 1 3 (.i a0.Thick.Hi), kc 1 4 (.i a0.Ridge.Lo), kc 1 5 (.i a0.Ridge.Hi), kc 1 6 (.i a0.Press.Lo), kc 1 7 (.i a0.Press.Hi), kc 2 0 (.i a1.Up.Conc), kc 2 1 (.i a1.Up.Thick), kc 2 2 (.i a1.Up.Ridge), kc 2 3 (.i a1.Up.Press), kc 2 4 (.i a1.Down.Conc), kc 2 5 (.i a1.Down.Thick), kc 2 6 (.i a1.Down.Ridge), kc 2 7 (.i a1.Down.Press), kc 3 0 (.i 0), kc 3 1 (.i 0), kc 3 2 (.i 0), kc 3 3 (.i 0), kc 3 4 (.i 0), kc 3 5 (.i 0), kc 3 6 (.i 0), kc 3 7 (.i 0)]) ?_ (kp rfl) rfl
  refine fqT ?_
  refine aqc rfl (fun hz2 => ?_) (fun hz2 => ?_)
  ·have hm := brk_t hz2 hm
   refine aqS ?_
   refine aqT (rows := [_, _, _]) rfl (by kernel_rfl) ⟨
    okp rfl rfl (op_build (x := .g [.i 0, .i 0, .i 0, .i 0, .i 0, .i 0, .i 0, .i 0]) (lN rfl) EvL.nil (fun m w => by kernel_rfl)),
    okp rfl rfl (oqS sz_34 rfl rfl rfl rfl rfl (by decide)),
    okp rfl rfl (oqA (lN rfl) rfl),
    trivial⟩ ?_
   refine fqK (s' := [kt 6 (.p 3 0), kt 7 (.i 6), kb 3 34 8, kc 3 0 (.i 0), kc 3 1 (.i 0), kc 3 2 (.i 0), kc 3 3 (.i 0), kc 3 4 (.i 0), kc 3 5 (.i 0), kc 3 6 (.i 0), kc 3 7 (.i 0)]) ?_ (kp rfl) rfl
   refine fqT ?_
   refine aqr ?_
   refine fqR ?_
   refine pqr (x := .t [.g [.i 0, .i 0, .i 0, .i 0, .i 0, .i 0, .i 0, .i 0], .i 6]) rfl rfl (rqC (ys := [.i 0, .i 0, .i 0, .i 0, .i 0, .i 0, .i 0, .i 0]) rfl sh_34 rfl ⟨rfl, rfl, rfl, rfl, rfl, rfl, rfl, rfl, trivial⟩ (rqT rfl rqN)) rfl (fun mm aa ww hr => ?_)
   have hm := Option.some.inj hm
   subst hm
   exact ⟨rfl, hr.below⟩
  ·have hm := brk_f hz2 hm
   refine aqk ?_
   refine fqT ?_
   refine aqS ?_
   obtain ⟨v3, hv3, hm⟩ := bnd_some hm
   obtain ⟨v4, hv4, hm⟩ := bnd_some hm
   refine aw_any (rows := [_, _, _, _, _, _, _, _]) (M := [0, 1, 0, 0, 15, 31, 63, 127]) Tryd_mixed (by kernel_rfl) rfl (by kernel_rfl) ⟨
    okp rfl rfl (oqL (ys := [.i a0.Conc.Lo, .i a0.Conc.Hi, .i a0.Thick.Lo, .i a0.Thick.Hi, .i a0.Ridge.Lo, .i a0.Ridge.Hi, .i a0.Press.Lo, .i a0.Press.Hi]) (lN rfl) sh_34 rfl rfl ⟨rfl, rfl, rfl, rfl, rfl, rfl, rfl, rfl, trivial⟩),
    okp rfl rfl (oqC (x := .g [.i a0.Conc.Lo, .i a0.Conc.Hi, .i a0.Thick.Lo, .i a0.Thick.Hi, .i a0.Ridge.Lo, .i a0.Ridge.Hi, .i a0.Press.Lo, .i a0.Press.Hi]) (fs := []) (caps := []) (extra := []) (lN rfl) en_125 rfl ⟨rfl, rfl, rfl⟩ (EvL.cons rfl EvL.nil) (fun mm aa ww gg hr hrel => (c125 a0 ww))),
    okp rfl rfl (oqL (ys := [.i a1.Up.Conc, .i a1.Up.Thick, .i a1.Up.Ridge, .i a1.Up.Press, .i a1.Down.Conc, .i a1.Down.Thick, .i a1.Down.Ridge, .i a1.Down.Press]) (lN rfl) sh_122 rfl rfl ⟨rfl, rfl, rfl, rfl, rfl, rfl, rfl, rfl, trivial⟩),
    okp rfl rfl (oqM (lN rfl) rfl),
    okp rfl rfl (oqC (x := .g [.i v3.A.Lo, .i v3.A.Hi, .i v3.B.Lo, .i v3.B.Hi, .i v3.C.Lo, .i v3.C.Hi, .i v3.D.Lo, .i v3.D.Hi]) (fs := []) (caps := []) (extra := []) (lN rfl) en_126 rfl ⟨rfl, rfl, rfl⟩ (EvL.cons rfl (EvL.cons rfl (EvL.cons rfl EvL.nil))) (fun mm aa ww gg hr hrel => (c126 F ((⟨a0.Conc, a0.Thick, a0.Ridge, a0.Press⟩ : Spans)) a1 a2 ww v3 hv3))),
    okp rfl rfl (oqC (x := .g [.i v4.Conc.Lo, .i v4.Conc.Hi, .i v4.Thick.Lo, .i v4.Thick.Hi, .i v4.Ridge.Lo, .i v4.Ridge.Hi, .i v4.Press.Lo, .i v4.Press.Hi]) (fs := []) (caps := []) (extra := []) (lN rfl) en_127 rfl ⟨rfl, rfl, rfl⟩ (EvL.cons rfl EvL.nil) (fun mm aa ww gg hr hrel => (c127 F v3 ww v4 hv4))),
    okp rfl rfl (oqS sz_34 rfl rfl rfl rfl rfl (by decide)),
    okp rfl rfl (oqA (lN rfl) rfl),
    trivial⟩ ?_
   refine fqK (s' := [kt 6 (.p 3 0), kt 7 (.i 0), kb 3 34 8, kc 3 0 (.i v4.Conc.Lo), kc 3 1 (.i v4.Conc.Hi), kc 3 2 (.i v4.Thick.Lo), kc 3 3 (.i v4.Thick.Hi), kc 3 4 (.i v4.Ridge.Lo), kc 3 5 (.i v4.Ridge.Hi), kc 3 6 (.i v4.Press.Lo), kc 3 7 (.i v4.Press.Hi)]) ?_ (kp rfl) rfl
   refine fqT ?_
   refine aqr ?_
   refine pqr (x := .t [.g [.i v4.Conc.Lo, .i v4.Conc.Hi, .i v4.Thick.Lo, .i v4.Thick.Hi, .i v4.Ridge.Lo, .i v4.Ridge.Hi, .i v4.Press.Lo, .i v4.Press.Hi], .i 0]) rfl rfl (rqC (ys := [.i v4.Conc.Lo, .i v4.Conc.Hi, .i v4.Thick.Lo, .i v4.Thick.Hi, .i v4.Ridge.Lo, .i v4.Ridge.Hi, .i v4.Press.Lo, .i v4.Press.Hi]) rfl sh_34 rfl ⟨rfl, rfl, rfl, rfl, rfl, rfl, rfl, rfl, trivial⟩ (rqT rfl rqN)) rfl (fun mm aa ww hr => ?_)
   have hm := Option.some.inj hm
   subst hm
   exact ⟨rfl, hr.below⟩
def m69 (F : Nat) (a0 : Cell) (a1 : Cell) : Option (Cell × Int) :=
 bnd (m122 F ([checkCell a0, checkCell a1])) (fun v1 => brk (v1 != 0) (some ((⟨(⟨0, 0⟩ : Span), (⟨0, 0⟩ : Span), (⟨0, 0⟩ : Span), (⟨0, 0⟩ : Span)⟩ : Cell), v1)) (bnd (m128 F ((⟨a0.Conc, a0.Thick, a0.Ridge, a0.Press⟩ : Spans)) ((⟨a1.Conc, a1.Thick, a1.Ridge, a1.Press⟩ : Spans))) (fun v2 => bnd (m127 F v2) (fun v3 => some (v3, 0)))))
set_option maxHeartbeats 1000000 in
set_option maxRecDepth 8000 in
theorem c69 (F : Nat) (a0 : Cell) (a1 : Cell) (w : World)  (r : Cell × Int) (hm : m69 F a0 a1 = some r) : Calls Tryd.prog 69 #[.agg #[.int .i64 a0.Conc.Lo, .int .i64 a0.Conc.Hi, .int .i64 a0.Thick.Lo, .int .i64 a0.Thick.Hi, .int .i64 a0.Ridge.Lo, .int .i64 a0.Ridge.Hi, .int .i64 a0.Press.Lo, .int .i64 a0.Press.Hi], .agg #[.int .i64 a1.Conc.Lo, .int .i64 a1.Conc.Hi, .int .i64 a1.Thick.Lo, .int .i64 a1.Thick.Hi, .int .i64 a1.Ridge.Lo, .int .i64 a1.Ridge.Hi, .int .i64 a1.Press.Lo, .int .i64 a1.Press.Hi]] w fun e w' => e = .returned (.tuple #[.agg #[.int .i64 r.1.Conc.Lo, .int .i64 r.1.Conc.Hi, .int .i64 r.1.Thick.Lo, .int .i64 r.1.Thick.Hi, .int .i64 r.1.Ridge.Lo, .int .i64 r.1.Ridge.Hi, .int .i64 r.1.Press.Lo, .int .i64 r.1.Press.Hi], .int .i64 r.2]) ∧ Below w.heap.size w w' := by
 unfold m69 at hm
 refine enter (args := [.g [.i a0.Conc.Lo, .i a0.Conc.Hi, .i a0.Thick.Lo, .i a0.Thick.Hi, .i a0.Ridge.Lo, .i a0.Ridge.Hi, .i a0.Press.Lo, .i a0.Press.Hi], .g [.i a1.Conc.Lo, .i a1.Conc.Hi, .i a1.Thick.Lo, .i a1.Thick.Hi, .i a1.Ridge.Lo, .i a1.Ridge.Hi, .i a1.Press.Lo, .i a1.Press.Hi]]) Tryd.func69 rfl (N := 23) rfl (Nat.le_of_ble_eq_true rfl) ?_
 refine aqS ?_
 refine aqT (rows := [_, _, _, _]) rfl (by kernel_rfl) ⟨
  okp rfl rfl (op_boxN (L := 1) (lN rfl) rfl rfl rfl),
  okp rfl rfl (op_boxN (L := 2) (lN rfl) rfl rfl rfl),
  okp rfl rfl (oqa (L := 3) (lN rfl) zl_34),
  okp rfl rfl (oqA (lN rfl) rfl),
  trivial⟩ ?_
 refine fqK (s' := [kt 2 (.p 1 0), kt 3 (.p 2 0), kt 4 (.p 3 0), kb 1 34 8, kb 2 34 8, kb 3 34 8, kc 1 0 (.i a0.Conc.Lo), kc 1 1 (.i a0.Conc.Hi), kc 1 2 (.i a0.Thick.Lo), kc 1 3 (.i a0.Thick.Hi), kc 1 4 (.i a0.Ridge.Lo), kc 1 5 (.i a0.Ridge.Hi), kc 1 6 (.i a0.Press.Lo), kc 1 7 (.i a0.Press.Hi), kc 2 0 (.i a1.Conc.Lo), kc 2 1 (.i a1.Conc.Hi), kc 2 2 (.i a1.Thick.Lo), kc 2 3 (.i a1.Thick.Hi), kc 2 4 (.i a1.Ridge.Lo), kc 2 5 (.i a1.Ridge.Hi), kc 2 6 (.i a1.Press.Lo), kc 2 7 (.i a1.Press.Hi), kc 3 0 (.i 0), kc 3 1 (.i 0), kc 3 2 (.i 0), kc 3 3 (.i 0), kc 3 4 (.i 0), kc 3 5 (.i 0), kc 3 6 (.i 0), kc 3 7 (.i 0)]) ?_ (kp rfl) rfl
 refine fqT ?_
 refine aqS ?_
 refine aqS ?_
 obtain ⟨v1, hv1, hm⟩ := bnd_some hm
 refine aw_any (rows := [_, _, _, _, _, _, _]) (M := [0, 1, 0, 7, 15, 31, 63]) Tryd_mixed (by kernel_rfl) rfl (by kernel_rfl) ⟨
  okp rfl rfl (oqL (ys := [.i a0.Conc.Lo, .i a0.Conc.Hi, .i a0.Thick.Lo, .i a0.Thick.Hi, .i a0.Ridge.Lo, .i a0.Ridge.Hi, .i a0.Press.Lo, .i a0.Press.Hi]) (lN rfl) sh_34 rfl rfl ⟨rfl, rfl, rfl, rfl, rfl, rfl, rfl, rfl, trivial⟩),
  okp rfl rfl (oqC (x := .i (checkCell a0)) (fs := []) (caps := []) (extra := []) (lN rfl) en_85 rfl ⟨rfl, rfl, rfl⟩ (EvL.cons rfl EvL.nil) (fun mm aa ww gg hr hrel => (c85 a0 ww))),
  okp rfl rfl (oqL (ys := [.i a1.Conc.Lo, .i a1.Conc.Hi, .i a1.Thick.Lo, .i a1.Thick.Hi, .i a1.Ridge.Lo, .i a1.Ridge.Hi, .i a1.Press.Lo, .i a1.Press.Hi]) (lN rfl) sh_34 rfl rfl ⟨rfl, rfl, rfl, rfl, rfl, rfl, rfl, rfl, trivial⟩),
  okp rfl rfl (oqC (x := .i (checkCell a1)) (fs := []) (caps := []) (extra := []) (lN rfl) en_85 rfl ⟨rfl, rfl, rfl⟩ (EvL.cons rfl EvL.nil) (fun mm aa ww gg hr hrel => (c85 a1 ww))),
  okp rfl rfl (op_buildSlice (L := 4) (ety := 36) (cs := [.i (checkCell a0), .i (checkCell a1)]) (lN rfl) (EvL.cons rfl (EvL.cons rfl EvL.nil)) rfl (fun m w => by kernel_rfl)),
  okp rfl rfl (oqC (x := .i v1) (fs := []) (caps := []) (extra := (kapp ((.b 4 :: cqK 4 0 (([checkCell a0, checkCell a1] : List Int).length * 1))) [])) (lN rfl) en_122 rfl ⟨rfl, rfl, rfl⟩ (EvL.cons rfl EvL.nil) (fun mm aa ww gg hr hrel => (c122 F ([checkCell a0, checkCell a1]) ⟨some ⟨mm 4, 0, none⟩, 2, 2⟩ ww (slAt_own (enc := encInt) (l := [checkCell a0, checkCell a1]) (fun _ => rfl) hrel (fun k hk => hr k (List.mem_append_left _ hk)) rfl ⟨rfl, rfl, trivial⟩ (Nat.le_of_ble_eq_true rfl)) v1 hv1))),
  okp rfl rfl (oqA (lN rfl) rfl),
  trivial⟩ ?_
 refine fqK (s' := [kt 2 (.p 1 0), kt 3 (.p 2 0), kt 4 (.p 3 0), kt 6 (.i v1), kb 1 34 8, kb 2 34 8, kb 3 34 8, kc 1 0 (.i a0.Conc.Lo), kc 1 1 (.i a0.Conc.Hi), kc 1 2 (.i a0.Thick.Lo), kc 1 3 (.i a0.Thick.Hi), kc 1 4 (.i a0.Ridge.Lo), kc 1 5 (.i a0.Ridge.Hi), kc 1 6 (.i a0.Press.Lo), kc 1 7 (.i a0.Press.Hi), kc 2 0 (.i a1.Conc.Lo), kc 2 1 (.i a1.Conc.Hi), kc 2 2 (.i a1.Thick.Lo), kc 2 3 (.i a1.Thick.Hi), kc 2 4 (.i a1.Ridge.Lo), kc 2 5 (.i a1.Ridge.Hi), kc 2 6 (.i a1.Press.Lo), kc 2 7 (.i a1.Press.Hi), kc 3 0 (.i 0), kc 3 1 (.i 0), kc 3 2 (.i 0), kc 3 3 (.i 0), kc 3 4 (.i 0), kc 3 5 (.i 0), kc 3 6 (.i 0), kc 3 7 (.i 0)]) ?_ (kp rfl) rfl
 refine fqT ?_
 refine aqS ?_
 refine aqT (rows := [_, _]) rfl (by kernel_rfl) ⟨
  okp rfl rfl (oqM (lN rfl) rfl),
  okp rfl rfl (oqB (lN rfl) rfl rfl rfl),
  trivial⟩ ?_
 refine fqK (s' := [kt 2 (.p 1 0), kt 3 (.p 2 0), kt 4 (.p 3 0), kt 6 (.i v1), kt 14 (.B (v1 != 0)), kb 1 34 8, kb 2 34 8, kb 3 34 8, kc 1 0 (.i a0.Conc.Lo), kc 1 1 (.i a0.Conc.Hi), kc 1 2 (.i a0.Thick.Lo), kc 1 3 (.i a0.Thick.Hi), kc 1 4 (.i a0.Ridge.Lo), kc 1 5 (.i a0.Ridge.Hi), kc 1 6 (.i a0.Press.Lo), kc 1 7 (.i a0.Press.Hi), kc 2 0 (.i a1.Conc.Lo), kc 2 1 (.i a1.Conc.Hi), kc 2 2 (.i a1.Thick.Lo), kc 2 3 (.i a1.Thick.Hi), kc 2 4 (.i a1.Ridge.Lo), kc 2 5 (.i a1.Ridge.Hi), kc 2 6 (.i a1.Press.Lo), kc 2 7 (.i a1.Press.Hi), kc 3 0 (.i 0), kc 3 1 (.i 0), kc 3 2 (.i 0), kc 3 3 (.i 0), kc 3 4 (.i 0), kc 3 5 (.i 0), kc 3 6 (.i 0), kc 3 7 (.i 0)]) ?_ (kp rfl) rfl
 refine fqT ?_
 refine aqc rfl (fun hz1 => ?_) (fun hz1 => ?_)
 ·have hm := brk_t hz1 hm
  refine aqS ?_
  refine aqT (rows := [_, _, _, _]) rfl (by kernel_rfl) ⟨
   okp rfl rfl (op_build (x := .g [.i 0, .i 0, .i 0, .i 0, .i 0, .i 0, .i 0, .i 0]) (lN rfl) EvL.nil (fun m w => by kernel_rfl)),
   okp rfl rfl (oqM (lN rfl) rfl),
   okp rfl rfl (oqS sz_34 rfl rfl rfl rfl rfl (by decide)),
   okp rfl rfl (oqA (lN rfl) rfl),
   trivial⟩ ?_
  refine fqK (s' := [kt 4 (.p 3 0), kt 5 (.i v1), kb 3 34 8, kc 3 0 (.i 0), kc 3 1 (.i 0), kc 3 2 (.i 0), kc 3 3 (.i 0), kc 3 4 (.i 0), kc 3 5 (.i 0), kc 3 6 (.i 0), kc 3 7 (.i 0)]) ?_ (kp rfl) rfl
  refine fqT ?_
  refine aqr ?_
  refine fqR ?_
  refine pqr (x := .t [.g [.i 0, .i 0, .i 0, .i 0, .i 0, .i 0, .i 0, .i 0], .i v1]) rfl rfl (rqC (ys := [.i 0, .i 0, .i 0, .i 0, .i 0, .i 0, .i 0, .i 0]) rfl sh_34 rfl ⟨rfl, rfl, rfl, rfl, rfl, rfl, rfl, rfl, trivial⟩ (rqT rfl rqN)) rfl (fun mm aa ww hr => ?_)
  have hm := Option.some.inj hm
  subst hm
  exact ⟨rfl, hr.below⟩
 ·have hm := brk_f hz1 hm
  refine aqk ?_
  refine fqT ?_
  refine aqS ?_
  obtain ⟨v2, hv2, hm⟩ := bnd_some hm
  obtain ⟨v3, hv3, hm⟩ := bnd_some hm
  refine aw_any (rows := [_, _, _, _, _, _, _, _]) (M := [0, 1, 0, 7, 15, 31, 63, 127]) Tryd_mixed (by kernel_rfl) rfl (by kernel_rfl) ⟨
   okp rfl rfl (oqL (ys := [.i a0.Conc.Lo, .i a0.Conc.Hi, .i a0.Thick.Lo, .i a0.Thick.Hi, .i a0.Ridge.Lo, .i a0.Ridge.Hi, .i a0.Press.Lo, .i a0.Press.Hi]) (lN rfl) sh_34 rfl rfl ⟨rfl, rfl, rfl, rfl, rfl, rfl, rfl, rfl, trivial⟩),
   okp rfl rfl (oqC (x := .g [.i a0.Conc.Lo, .i a0.Conc.Hi, .i a0.Thick.Lo, .i a0.Thick.Hi, .i a0.Ridge.Lo, .i a0.Ridge.Hi, .i a0.Press.Lo, .i a0.Press.Hi]) (fs := []) (caps := []) (extra := []) (lN rfl) en_125 rfl ⟨rfl, rfl, rfl⟩ (EvL.cons rfl EvL.nil) (fun mm aa ww gg hr hrel => (c125 a0 ww))),
   okp rfl rfl (oqL (ys := [.i a1.Conc.Lo, .i a1.Conc.Hi, .i a1.Thick.Lo, .i a1.Thick.Hi, .i a1.Ridge.Lo, .i a1.Ridge.Hi, .i a1.Press.Lo, .i a1.Press.Hi]) (lN rfl) sh_34 rfl rfl ⟨rfl, rfl, rfl, rfl, rfl, rfl, rfl, rfl, trivial⟩),
   okp rfl rfl (oqC (x := .g [.i a1.Conc.Lo, .i a1.Conc.Hi, .i a1.Thick.Lo, .i a1.Thick.Hi, .i a1.Ridge.Lo, .i a1.Ridge.Hi, .i a1.Press.Lo, .i a1.Press.Hi]) (fs := []) (caps := []) (extra := []) (lN rfl) en_125 rfl ⟨rfl, rfl, rfl⟩ (EvL.cons rfl EvL.nil) (fun mm aa ww gg hr hrel => (c125 a1 ww))),
   okp rfl rfl (oqC (x := .g [.i v2.A.Lo, .i v2.A.Hi, .i v2.B.Lo, .i v2.B.Hi, .i v2.C.Lo, .i v2.C.Hi, .i v2.D.Lo, .i v2.D.Hi]) (fs := []) (caps := []) (extra := []) (lN rfl) en_128 rfl ⟨rfl, rfl, rfl⟩ (EvL.cons rfl (EvL.cons rfl EvL.nil)) (fun mm aa ww gg hr hrel => (c128 F ((⟨a0.Conc, a0.Thick, a0.Ridge, a0.Press⟩ : Spans)) ((⟨a1.Conc, a1.Thick, a1.Ridge, a1.Press⟩ : Spans)) ww v2 hv2))),
   okp rfl rfl (oqC (x := .g [.i v3.Conc.Lo, .i v3.Conc.Hi, .i v3.Thick.Lo, .i v3.Thick.Hi, .i v3.Ridge.Lo, .i v3.Ridge.Hi, .i v3.Press.Lo, .i v3.Press.Hi]) (fs := []) (caps := []) (extra := []) (lN rfl) en_127 rfl ⟨rfl, rfl, rfl⟩ (EvL.cons rfl EvL.nil) (fun mm aa ww gg hr hrel => (c127 F v2 ww v3 hv3))),
   okp rfl rfl (oqS sz_34 rfl rfl rfl rfl rfl (by decide)),
   okp rfl rfl (oqA (lN rfl) rfl),
   trivial⟩ ?_
  refine fqK (s' := [kt 4 (.p 3 0), kt 5 (.i 0), kb 3 34 8, kc 3 0 (.i v3.Conc.Lo), kc 3 1 (.i v3.Conc.Hi), kc 3 2 (.i v3.Thick.Lo), kc 3 3 (.i v3.Thick.Hi), kc 3 4 (.i v3.Ridge.Lo), kc 3 5 (.i v3.Ridge.Hi), kc 3 6 (.i v3.Press.Lo), kc 3 7 (.i v3.Press.Hi)]) ?_ (kp rfl) rfl
  refine fqT ?_
  refine aqr ?_
  refine pqr (x := .t [.g [.i v3.Conc.Lo, .i v3.Conc.Hi, .i v3.Thick.Lo, .i v3.Thick.Hi, .i v3.Ridge.Lo, .i v3.Ridge.Hi, .i v3.Press.Lo, .i v3.Press.Hi], .i 0]) rfl rfl (rqC (ys := [.i v3.Conc.Lo, .i v3.Conc.Hi, .i v3.Thick.Lo, .i v3.Thick.Hi, .i v3.Ridge.Lo, .i v3.Ridge.Hi, .i v3.Press.Lo, .i v3.Press.Hi]) rfl sh_34 rfl ⟨rfl, rfl, rfl, rfl, rfl, rfl, rfl, rfl, trivial⟩ (rqT rfl rqN)) rfl (fun mm aa ww hr => ?_)
  have hm := Option.some.inj hm
  subst hm
  exact ⟨rfl, hr.below⟩
def m70 (F : Nat) (a0 : Cell) (a1 : Cell) : Option (Cell × Int) :=
 bnd (m122 F ([checkCell a0, checkCell a1])) (fun v1 => brk (v1 != 0) (some ((⟨(⟨0, 0⟩ : Span), (⟨0, 0⟩ : Span), (⟨0, 0⟩ : Span), (⟨0, 0⟩ : Span)⟩ : Cell), v1)) (bnd (m129 F ((⟨a0.Conc, a0.Thick, a0.Ridge, a0.Press⟩ : Spans)) ((⟨a1.Conc, a1.Thick, a1.Ridge, a1.Press⟩ : Spans))) (fun v2 => brk (!v2.2) (some ((⟨(⟨0, 0⟩ : Span), (⟨0, 0⟩ : Span), (⟨0, 0⟩ : Span), (⟨0, 0⟩ : Span)⟩ : Cell), 21)) (bnd (m127 F v2.1) (fun v3 => some (v3, 0))))))
set_option maxHeartbeats 1000000 in
set_option maxRecDepth 8000 in
theorem c70 (F : Nat) (a0 : Cell) (a1 : Cell) (w : World)  (r : Cell × Int) (hm : m70 F a0 a1 = some r) : Calls Tryd.prog 70 #[.agg #[.int .i64 a0.Conc.Lo, .int .i64 a0.Conc.Hi, .int .i64 a0.Thick.Lo, .int .i64 a0.Thick.Hi, .int .i64 a0.Ridge.Lo, .int .i64 a0.Ridge.Hi, .int .i64 a0.Press.Lo, .int .i64 a0.Press.Hi], .agg #[.int .i64 a1.Conc.Lo, .int .i64 a1.Conc.Hi, .int .i64 a1.Thick.Lo, .int .i64 a1.Thick.Hi, .int .i64 a1.Ridge.Lo, .int .i64 a1.Ridge.Hi, .int .i64 a1.Press.Lo, .int .i64 a1.Press.Hi]] w fun e w' => e = .returned (.tuple #[.agg #[.int .i64 r.1.Conc.Lo, .int .i64 r.1.Conc.Hi, .int .i64 r.1.Thick.Lo, .int .i64 r.1.Thick.Hi, .int .i64 r.1.Ridge.Lo, .int .i64 r.1.Ridge.Hi, .int .i64 r.1.Press.Lo, .int .i64 r.1.Press.Hi], .int .i64 r.2]) ∧ Below w.heap.size w w' := by
 unfold m70 at hm
 refine enter (args := [.g [.i a0.Conc.Lo, .i a0.Conc.Hi, .i a0.Thick.Lo, .i a0.Thick.Hi, .i a0.Ridge.Lo, .i a0.Ridge.Hi, .i a0.Press.Lo, .i a0.Press.Hi], .g [.i a1.Conc.Lo, .i a1.Conc.Hi, .i a1.Thick.Lo, .i a1.Thick.Hi, .i a1.Ridge.Lo, .i a1.Ridge.Hi, .i a1.Press.Lo, .i a1.Press.Hi]]) Tryd.func70 rfl (N := 32) rfl (Nat.le_of_ble_eq_true rfl) ?_
 refine aqS ?_
 refine aqT (rows := [_, _, _, _]) rfl (by kernel_rfl) ⟨
  okp rfl rfl (op_boxN (L := 1) (lN rfl) rfl rfl rfl),
  okp rfl rfl (op_boxN (L := 2) (lN rfl) rfl rfl rfl),
  okp rfl rfl (oqa (L := 3) (lN rfl) zl_34),
  okp rfl rfl (oqA (lN rfl) rfl),
  trivial⟩ ?_
 refine fqK (s' := [kt 2 (.p 1 0), kt 3 (.p 2 0), kt 4 (.p 3 0), kb 1 34 8, kb 2 34 8, kb 3 34 8, kc 1 0 (.i a0.Conc.Lo), kc 1 1 (.i a0.Conc.Hi), kc 1 2 (.i a0.Thick.Lo), kc 1 3 (.i a0.Thick.Hi), kc 1 4 (.i a0.Ridge.Lo), kc 1 5 (.i a0.Ridge.Hi), kc 1 6 (.i a0.Press.Lo), kc 1 7 (.i a0.Press.Hi), kc 2 0 (.i a1.Conc.Lo), kc 2 1 (.i a1.Conc.Hi), kc 2 2 (.i a1.Thick.Lo), kc 2 3 (.i a1.Thick.Hi), kc 2 4 (.i a1.Ridge.Lo), kc 2 5 (.i a1.Ridge.Hi), kc 2 6 (.i a1.Press.Lo), kc 2 7 (.i a1.Press.Hi), kc 3 0 (.i 0), kc 3 1 (.i 0), kc 3 2 (.i 0), kc 3 3 (.i 0), kc 3 4 (.i 0), kc 3 5 (.i 0), kc 3 6 (.i 0), kc 3 7 (.i 0)]) ?_ (kp rfl) rfl
 refine fqT ?_
 refine aqS ?_
 refine aqS ?_
 obtain ⟨v1, hv1, hm⟩ := bnd_some hm
 refine aw_any (rows := [_, _, _, _, _, _, _]) (M := [0, 1, 0, 7, 15, 31, 63]) Tryd_mixed (by kernel_rfl) rfl (by kernel_rfl) ⟨
  okp rfl rfl (oqL (ys := [.i a0.Conc.Lo, .i a0.Conc.Hi, .i a0.Thick.Lo, .i a0.Thick.Hi, .i a0.Ridge.Lo, .i a0.Ridge.Hi, .i a0.Press.Lo, .i a0.Press.Hi]) (lN rfl) sh_34 rfl rfl ⟨rfl, rfl, rfl, rfl, rfl, rfl, rfl, rfl, trivial⟩),
  okp rfl rfl (oqC (x := .i (checkCell a0)) (fs := []) (caps := []) (extra := []) (lN rfl) en_85 rfl ⟨rfl, rfl, rfl⟩ (EvL.cons rfl EvL.nil) (fun mm aa ww gg hr hrel => (c85 a0 ww))),
  okp rfl rfl (oqL (ys := [.i a1.Conc.Lo, .i a1.Conc.Hi, .i a1.Thick.Lo, .i a1.Thick.Hi, .i a1.Ridge.Lo, .i a1.Ridge.Hi, .i a1.Press.Lo, .i a1.Press.Hi]) (lN rfl) sh_34 rfl rfl ⟨rfl, rfl, rfl, rfl, rfl, rfl, rfl, rfl, trivial⟩),
  okp rfl rfl (oqC (x := .i (checkCell a1)) (fs := []) (caps := []) (extra := []) (lN rfl) en_85 rfl ⟨rfl, rfl, rfl⟩ (EvL.cons rfl EvL.nil) (fun mm aa ww gg hr hrel => (c85 a1 ww))),
  okp rfl rfl (op_buildSlice (L := 4) (ety := 36) (cs := [.i (checkCell a0), .i (checkCell a1)]) (lN rfl) (EvL.cons rfl (EvL.cons rfl EvL.nil)) rfl (fun m w => by kernel_rfl)),
  okp rfl rfl (oqC (x := .i v1) (fs := []) (caps := []) (extra := (kapp ((.b 4 :: cqK 4 0 (([checkCell a0, checkCell a1] : List Int).length * 1))) [])) (lN rfl) en_122 rfl ⟨rfl, rfl, rfl⟩ (EvL.cons rfl EvL.nil) (fun mm aa ww gg hr hrel => (c122 F ([checkCell a0, checkCell a1]) ⟨some ⟨mm 4, 0, none⟩, 2, 2⟩ ww (slAt_own (enc := encInt) (l := [checkCell a0, checkCell a1]) (fun _ => rfl) hrel (fun k hk => hr k (List.mem_append_left _ hk)) rfl ⟨rfl, rfl, trivial⟩ (Nat.le_of_ble_eq_true rfl)) v1 hv1))),
  okp rfl rfl (oqA (lN rfl) rfl),
  trivial⟩ ?_
 refine fqK (s' := [kt 2 (.p 1 0), kt 3 (.p 2 0), kt 4 (.p 3 0), kt 6 (.i v1), kb 1 34 8, kb 2 34 8, kb 3 34 8, kc 1 0 (.i a0.Conc.Lo), kc 1 1 (.i a0.Conc.Hi), kc 1 2 (.i a0.Thick.Lo), kc 1 3 (.i a0.Thick.Hi), kc 1 4 (.i a0.Ridge.Lo), kc 1 5 (.i a0.Ridge.Hi), kc 1 6 (.i a0.Press.Lo), kc 1 7 (.i a0.Press.Hi), kc 2 0 (.i a1.Conc.Lo), kc 2 1 (.i a1.Conc.Hi), kc 2 2 (.i a1.Thick.Lo), kc 2 3 (.i a1.Thick.Hi), kc 2 4 (.i a1.Ridge.Lo), kc 2 5 (.i a1.Ridge.Hi), kc 2 6 (.i a1.Press.Lo), kc 2 7 (.i a1.Press.Hi), kc 3 0 (.i 0), kc 3 1 (.i 0), kc 3 2 (.i 0), kc 3 3 (.i 0), kc 3 4 (.i 0), kc 3 5 (.i 0), kc 3 6 (.i 0), kc 3 7 (.i 0)]) ?_ (kp rfl) rfl
 refine fqT ?_
 refine aqS ?_
 refine aqT (rows := [_, _]) rfl (by kernel_rfl) ⟨
  okp rfl rfl (oqM (lN rfl) rfl),
  okp rfl rfl (oqB (lN rfl) rfl rfl rfl),
  trivial⟩ ?_
 refine fqK (s' := [kt 2 (.p 1 0), kt 3 (.p 2 0), kt 4 (.p 3 0), kt 6 (.i v1), kt 16 (.B (v1 != 0)), kb 1 34 8, kb 2 34 8, kb 3 34 8, kc 1 0 (.i a0.Conc.Lo), kc 1 1 (.i a0.Conc.Hi), kc 1 2 (.i a0.Thick.Lo), kc 1 3 (.i a0.Thick.Hi), kc 1 4 (.i a0.Ridge.Lo), kc 1 5 (.i a0.Ridge.Hi), kc 1 6 (.i a0.Press.Lo), kc 1 7 (.i a0.Press.Hi), kc 2 0 (.i a1.Conc.Lo), kc 2 1 (.i a1.Conc.Hi), kc 2 2 (.i a1.Thick.Lo), kc 2 3 (.i a1.Thick.Hi), kc 2 4 (.i a1.Ridge.Lo), kc 2 5 (.i a1.Ridge.Hi), kc 2 6 (.i a1.Press.Lo), kc 2 7 (.i a1.Press.Hi), kc 3 0 (.i 0), kc 3 1 (.i 0), kc 3 2 (.i 0), kc 3 3 (.i 0), kc 3 4 (.i 0), kc 3 5 (.i 0), kc 3 6 (.i 0), kc 3 7 (.i 0)]) ?_ (kp rfl) rfl
 refine fqT ?_
 refine aqc rfl (fun hz1 => ?_) (fun hz1 => ?_)
 ·have hm := brk_t hz1 hm
  refine aqS ?_
  refine aqT (rows := [_, _, _, _]) rfl (by kernel_rfl) ⟨
   okp rfl rfl (op_build (x := .g [.i 0, .i 0, .i 0, .i 0, .i 0, .i 0, .i 0, .i 0]) (lN rfl) EvL.nil (fun m w => by kernel_rfl)),
   okp rfl rfl (oqM (lN rfl) rfl),
   okp rfl rfl (oqS sz_34 rfl rfl rfl rfl rfl (by decide)),
   okp rfl rfl (oqA (lN rfl) rfl),
   trivial⟩ ?_
  refine fqK (s' := [kt 4 (.p 3 0), kt 5 (.i v1), kb 3 34 8, kc 3 0 (.i 0), kc 3 1 (.i 0), kc 3 2 (.i 0), kc 3 3 (.i 0), kc 3 4 (.i 0), kc 3 5 (.i 0), kc 3 6 (.i 0), kc 3 7 (.i 0)]) ?_ (kp rfl) rfl
  refine fqT ?_
  refine aqr ?_
  refine fqR ?_
  refine pqr (x := .t [.g [.i 0, .i 0, .i 0, .i 0, .i 0, .i 0, .i 0, .i 0], .i v1]) rfl rfl (rqC (ys := [.i 0, .i 0, .i 0, .i 0, .i 0, .i 0, .i 0, .i 0]) rfl sh_34 rfl ⟨rfl, rfl, rfl, rfl, rfl, rfl, rfl, rfl, trivial⟩ (rqT rfl rqN)) rfl (fun mm aa ww hr => ?_)
  have hm := Option.some.inj hm
  subst hm
  exact ⟨rfl, hr.below⟩
 ·have hm := brk_f hz1 hm
  refine aqk ?_
  refine fqT ?_
  refine aqS ?_
  obtain ⟨v2, hv2, hm⟩ := bnd_some hm
  refine aw_any (rows := [_, _, _, _, _, _, _, _, _, _, _]) (M := [0, 1, 0, 7, 15, 31, 63, 63, 0, 383, 1023]) Tryd_mixed (by kernel_rfl) rfl (by kernel_rfl) ⟨
   okp rfl rfl (oqL (ys := [.i a0.Conc.Lo, .i a0.Conc.Hi, .i a0.Thick.Lo, .i a0.Thick.Hi, .i a0.Ridge.Lo, .i a0.Ridge.Hi, .i a0.Press.Lo, .i a0.Press.Hi]) (lN rfl) sh_34 rfl rfl ⟨rfl, rfl, rfl, rfl, rfl, rfl, rfl, rfl, trivial⟩),
   okp rfl rfl (oqC (x := .g [.i a0.Conc.Lo, .i a0.Conc.Hi, .i a0.Thick.Lo, .i a0.Thick.Hi, .i a0.Ridge.Lo, .i a0.Ridge.Hi, .i a0.Press.Lo, .i a0.Press.Hi]) (fs := []) (caps := []) (extra := []) (lN rfl) en_125 rfl ⟨rfl, rfl, rfl⟩ (EvL.cons rfl EvL.nil) (fun mm aa ww gg hr hrel => (c125 a0 ww))),
   okp rfl rfl (oqL (ys := [.i a1.Conc.Lo, .i a1.Conc.Hi, .i a1.Thick.Lo, .i a1.Thick.Hi, .i a1.Ridge.Lo, .i a1.Ridge.Hi, .i a1.Press.Lo, .i a1.Press.Hi]) (lN rfl) sh_34 rfl rfl ⟨rfl, rfl, rfl, rfl, rfl, rfl, rfl, rfl, trivial⟩),
   okp rfl rfl (oqC (x := .g [.i a1.Conc.Lo, .i a1.Conc.Hi, .i a1.Thick.Lo, .i a1.Thick.Hi, .i a1.Ridge.Lo, .i a1.Ridge.Hi, .i a1.Press.Lo, .i a1.Press.Hi]) (fs := []) (caps := []) (extra := []) (lN rfl) en_125 rfl ⟨rfl, rfl, rfl⟩ (EvL.cons rfl EvL.nil) (fun mm aa ww gg hr hrel => (c125 a1 ww))),
   okp rfl rfl (oqC (x := .t [.g [.i v2.1.A.Lo, .i v2.1.A.Hi, .i v2.1.B.Lo, .i v2.1.B.Hi, .i v2.1.C.Lo, .i v2.1.C.Hi, .i v2.1.D.Lo, .i v2.1.D.Hi], .B v2.2]) (fs := []) (caps := []) (extra := []) (lN rfl) en_129 rfl ⟨rfl, rfl, rfl⟩ (EvL.cons rfl (EvL.cons rfl EvL.nil)) (fun mm aa ww gg hr hrel => (c129 F ((⟨a0.Conc, a0.Thick, a0.Ridge, a0.Press⟩ : Spans)) ((⟨a1.Conc, a1.Thick, a1.Ridge, a1.Press⟩ : Spans)) ww v2 hv2))),
   okp rfl rfl (oqM (lN rfl) rfl),
   okp rfl rfl (oqx (lN rfl) rfl rfl),
   okp rfl rfl (oqx (lN rfl) rfl rfl),
   okp rfl rfl (oqa (L := 5) (lN rfl) zl_187),
   okp rfl rfl (oqS sz_187 rfl rfl rfl rfl rfl (by decide)),
   okp rfl rfl (oqA (lN rfl) rfl),
   trivial⟩ ?_
  refine fqK (s' := [kt 4 (.p 3 0), kt 7 (.p 5 0), kt 8 (.B v2.2), kb 3 34 8, kb 5 187 8, kc 3 0 (.i 0), kc 3 1 (.i 0), kc 3 2 (.i 0), kc 3 3 (.i 0), kc 3 4 (.i 0), kc 3 5 (.i 0), kc 3 6 (.i 0), kc 3 7 (.i 0), kc 5 0 (.i v2.1.A.Lo), kc 5 1 (.i v2.1.A.Hi), kc 5 2 (.i v2.1.B.Lo), kc 5 3 (.i v2.1.B.Hi), kc 5 4 (.i v2.1.C.Lo), kc 5 5 (.i v2.1.C.Hi), kc 5 6 (.i v2.1.D.Lo), kc 5 7 (.i v2.1.D.Hi)]) ?_ (kp rfl) rfl
  refine fqT ?_
  refine aqS ?_
  refine aqS ?_
  refine aqT (rows := [_, _]) rfl (by kernel_rfl) ⟨
   okp rfl rfl (oqM (lN rfl) rfl),
   okp rfl rfl (oqn (lN rfl) rfl),
   trivial⟩ ?_
  refine fqK (s' := [kt 4 (.p 3 0), kt 7 (.p 5 0), kt 28 (.B (!v2.2)), kb 3 34 8, kb 5 187 8, kc 3 0 (.i 0), kc 3 1 (.i 0), kc 3 2 (.i 0), kc 3 3 (.i 0), kc 3 4 (.i 0), kc 3 5 (.i 0), kc 3 6 (.i 0), kc 3 7 (.i 0), kc 5 0 (.i v2.1.A.Lo), kc 5 1 (.i v2.1.A.Hi), kc 5 2 (.i v2.1.B.Lo), kc 5 3 (.i v2.1.B.Hi), kc 5 4 (.i v2.1.C.Lo), kc 5 5 (.i v2.1.C.Hi), kc 5 6 (.i v2.1.D.Lo), kc 5 7 (.i v2.1.D.Hi)]) ?_ (kp rfl) rfl
  refine fqT ?_
  refine aqc rfl (fun hz2 => ?_) (fun hz2 => ?_)
  ·have hm := brk_t hz2 hm
   refine aqS ?_
   refine aqT (rows := [_, _, _]) rfl (by kernel_rfl) ⟨
    okp rfl rfl (op_build (x := .g [.i 0, .i 0, .i 0, .i 0, .i 0, .i 0, .i 0, .i 0]) (lN rfl) EvL.nil (fun m w => by kernel_rfl)),
    okp rfl rfl (oqS sz_34 rfl rfl rfl rfl rfl (by decide)),
    okp rfl rfl (oqA (lN rfl) rfl),
    trivial⟩ ?_
   refine fqK (s' := [kt 4 (.p 3 0), kt 5 (.i 21), kb 3 34 8, kc 3 0 (.i 0), kc 3 1 (.i 0), kc 3 2 (.i 0), kc 3 3 (.i 0), kc 3 4 (.i 0), kc 3 5 (.i 0), kc 3 6 (.i 0), kc 3 7 (.i 0)]) ?_ (kp rfl) rfl
   refine fqT ?_
   refine aqr ?_
   refine fqR ?_
   refine pqr (x := .t [.g [.i 0, .i 0, .i 0, .i 0, .i 0, .i 0, .i 0, .i 0], .i 21]) rfl rfl (rqC (ys := [.i 0, .i 0, .i 0, .i 0, .i 0, .i 0, .i 0, .i 0]) rfl sh_34 rfl ⟨rfl, rfl, rfl, rfl, rfl, rfl, rfl, rfl, trivial⟩ (rqT rfl rqN)) rfl (fun mm aa ww hr => ?_)
   have hm := Option.some.inj hm
   subst hm
   exact ⟨rfl, hr.below⟩
  ·have hm := brk_f hz2 hm
   refine aqk ?_
   refine fqT ?_
   refine aqS ?_
   obtain ⟨v3, hv3, hm⟩ := bnd_some hm
   refine aqT (rows := [_, _, _, _]) rfl (by kernel_rfl) ⟨
    okp rfl rfl (oqL (ys := [.i v2.1.A.Lo, .i v2.1.A.Hi, .i v2.1.B.Lo, .i v2.1.B.Hi, .i v2.1.C.Lo, .i v2.1.C.Hi, .i v2.1.D.Lo, .i v2.1.D.Hi]) (lN rfl) sh_187 rfl rfl ⟨rfl, rfl, rfl, rfl, rfl, rfl, rfl, rfl, trivial⟩),
    okp rfl rfl (oqC (x := .g [.i v3.Conc.Lo, .i v3.Conc.Hi, .i v3.Thick.Lo, .i v3.Thick.Hi, .i v3.Ridge.Lo, .i v3.Ridge.Hi, .i v3.Press.Lo, .i v3.Press.Hi]) (fs := []) (caps := []) (extra := []) (lN rfl) en_127 rfl ⟨rfl, rfl, rfl⟩ (EvL.cons rfl EvL.nil) (fun mm aa ww gg hr hrel => (c127 F v2.1 ww v3 hv3))),
    okp rfl rfl (oqS sz_34 rfl rfl rfl rfl rfl (by decide)),
    okp rfl rfl (oqA (lN rfl) rfl),
    trivial⟩ ?_
   refine fqK (s' := [kt 4 (.p 3 0), kt 5 (.i 0), kb 3 34 8, kc 3 0 (.i v3.Conc.Lo), kc 3 1 (.i v3.Conc.Hi), kc 3 2 (.i v3.Thick.Lo), kc 3 3 (.i v3.Thick.Hi), kc 3 4 (.i v3.Ridge.Lo), kc 3 5 (.i v3.Ridge.Hi), kc 3 6 (.i v3.Press.Lo), kc 3 7 (.i v3.Press.Hi)]) ?_ (kp rfl) rfl
   refine fqT ?_
   refine aqr ?_
   refine pqr (x := .t [.g [.i v3.Conc.Lo, .i v3.Conc.Hi, .i v3.Thick.Lo, .i v3.Thick.Hi, .i v3.Ridge.Lo, .i v3.Ridge.Hi, .i v3.Press.Lo, .i v3.Press.Hi], .i 0]) rfl rfl (rqC (ys := [.i v3.Conc.Lo, .i v3.Conc.Hi, .i v3.Thick.Lo, .i v3.Thick.Hi, .i v3.Ridge.Lo, .i v3.Ridge.Hi, .i v3.Press.Lo, .i v3.Press.Hi]) rfl sh_34 rfl ⟨rfl, rfl, rfl, rfl, rfl, rfl, rfl, rfl, trivial⟩ (rqT rfl rqN)) rfl (fun mm aa ww hr => ?_)
   have hm := Option.some.inj hm
   subst hm
   exact ⟨rfl, hr.below⟩
end Go.Proofs.T
