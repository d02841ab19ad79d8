/-
  This file has contracts of functions of the program: where the mirror gives a value, the call returns it. Conditions: those that each theorem names.
-/
import Derived.Test.YtgpcfckbcldokaaDoorAg3
set_option linter.unusedVariables false
namespace Go.Proofs.T
open Go Go.AX Go.RowKit Hull
theorem sz_23 : sizeIn Tryd.prog 23 = some 1 := by kernel_rfl
theorem af_23 : appFact Tryd.prog 23 = some (84, 2, 16) := by kernel_rfl
def m15 (F : Nat) (a0 : List Int) : Option (Ship) :=
 chk (InR (1 + (dv a0 0 6))) (chk (InR (390 * (dv a0 1 256))) (chk (InR (100 + (390 * (dv a0 1 256)))) (chk (InR (7 * (dv a0 2 256))) (chk (InR (10 + (7 * (dv a0 2 256)))) (chk (InR (1900 * (dv a0 3 256))) (chk (InR (10 + (1900 * (dv a0 3 256)))) (chk (InR (2 * (dv a0 6 240))) (chk (InR (4 * (dv a0 7 256))) (chk (InR (20 * (dv a0 8 256))) (chk (InR (200 + (20 * (dv a0 8 256)))) (join (fun (x1 : List Pt × Nat) => join (fun (x3 : List Pt × Nat) => join (fun (x5 : Int × List Pt × Nat) => chk (InR (4 * (dv a0 x5.2.2 256))) (chk (InR (x5.1 + (4 * (dv a0 x5.2.2 256)))) (chk (x5.2.1.length ≤ 1000000) (some ((⟨1 + (dv a0 0 6), 100 + (390 * (dv a0 1 256)), 10 + (7 * (dv a0 2 256)), 10 + (1900 * (dv a0 3 256)), x1.1, x3.1, (x5.2.1 ++ [(⟨400, x5.1 + (4 * (dv a0 x5.2.2 256))⟩ : Pt)]), dv a0 4 21, dv a0 5 101, 2 * (dv a0 6 240), 4 * (dv a0 7 256)⟩ : Ship)))))) (fun k5 => lpC (fun (x6 : Int × Int × Int × List Pt × Nat) n6 => brk (decide (x6.2.2.1 < (dv a0 x3.2 4))) (chk (InR (x6.1 + 1)) (chk (InR ((x6.1 + 1) + (dv a0 x6.2.2.2.2 90))) (chk (InR (3 * (dv a0 ((x6.2.2.2.2 + 1)) 256))) (chk (InR (x6.2.1 + (3 * (dv a0 ((x6.2.2.2.2 + 1)) 256)))) (chk (x6.2.2.2.1.length ≤ 1000000) (chk (InR (x6.2.2.1 + 1)) (n6 ((x6.1 + 1) + (dv a0 x6.2.2.2.2 90), x6.2.1 + (3 * (dv a0 ((x6.2.2.2.2 + 1)) 256)), x6.2.2.1 + 1, (x6.2.2.2.1 ++ [(⟨(x6.1 + 1) + (dv a0 x6.2.2.2.2 90), x6.2.1 + (3 * (dv a0 ((x6.2.2.2.2 + 1)) 256))⟩ : Pt)]), ((x6.2.2.2.2 + 1) + 1))))))))) (k5 (x6.2.1, x6.2.2.2.1, x6.2.2.2.2))) F (0, 0, 0, [(⟨0, 0⟩ : Pt)], (x3.2 + 1)))) (fun k3 => chk (InR (1 + (dv a0 ((x1.2 + 1)) 3))) (lpC (fun (x4 : Int × Int × Int × List Pt × Nat) n4 => brk (decide (x4.2.2.1 < (1 + (dv a0 ((x1.2 + 1)) 3)))) (chk (InR (x4.1 + 1)) (chk (InR ((x4.1 + 1) + (dv a0 x4.2.2.2.2 80))) (chk (InR (3 * (dv a0 ((x4.2.2.2.2 + 1)) 256))) (chk (InR (x4.2.1 + (3 * (dv a0 ((x4.2.2.2.2 + 1)) 256)))) (chk (x4.2.2.2.1.length ≤ 1000000) (chk (InR (x4.2.2.1 + 1)) (n4 ((x4.1 + 1) + (dv a0 x4.2.2.2.2 80), x4.2.1 + (3 * (dv a0 ((x4.2.2.2.2 + 1)) 256)), x4.2.2.1 + 1, (x4.2.2.2.1 ++ [(⟨(x4.1 + 1) + (dv a0 x4.2.2.2.2 80), x4.2.1 + (3 * (dv a0 ((x4.2.2.2.2 + 1)) 256))⟩ : Pt)]), ((x4.2.2.2.2 + 1) + 1))))))))) (k3 (x4.2.2.2.1, x4.2.2.2.2))) F (0, dv a0 x1.2 50, 0, [(⟨0, dv a0 x1.2 50⟩ : Pt)], ((x1.2 + 1) + 1))))) (fun k1 => chk (InR (1 + (dv a0 9 4))) (lpC (fun (x2 : Int × Int × Int × List Pt × Nat) n2 => brk (decide (x2.2.2.1 < (1 + (dv a0 9 4)))) (chk (InR (x2.1 + 10)) (chk (InR ((x2.1 + 10) + (dv a0 x2.2.2.2.2 40))) (chk (InR (x2.2.1 * (dv a0 ((x2.2.2.2.2 + 1)) 101))) (chk (0 ≤ (x2.2.1 * (dv a0 ((x2.2.2.2.2 + 1)) 101)) ∧ (x2.2.1 * (dv a0 ((x2.2.2.2.2 + 1)) 101)) ≤ 9223372036854775807) (chk (x2.2.2.2.1.length ≤ 1000000) (chk (InR (x2.2.2.1 + 1)) (n2 ((x2.1 + 10) + (dv a0 x2.2.2.2.2 40), (x2.2.1 * (dv a0 ((x2.2.2.2.2 + 1)) 101)) / 100, x2.2.2.1 + 1, (x2.2.2.2.1 ++ [(⟨(x2.1 + 10) + (dv a0 x2.2.2.2.2 40), (x2.2.1 * (dv a0 ((x2.2.2.2.2 + 1)) 101)) / 100⟩ : Pt)]), ((x2.2.2.2.2 + 1) + 1))))))))) (k1 (x2.2.2.2.1, x2.2.2.2.2))) F (0, 200 + (20 * (dv a0 8 256)), 0, [(⟨0, 200 + (20 * (dv a0 8 256))⟩ : Pt)], 10))))))))))))))
set_option maxHeartbeats 4000000 in
set_option maxRecDepth 8000 in
theorem c15 (F : Nat) (a0 : List Int) (a0_s : SlV) (w : World) (ha0 : SlIs encU8 1 w a0_s a0) (h8a0 : ∀ x ∈ a0, 0 ≤ x ∧ x ≤ 255) (hlena0 : a0.length ≤ 9223372036854775807) (r : Ship) (hm : m15 F a0 = some r) : Calls Tryd.prog 15 #[.slice a0_s.p a0_s.n a0_s.c] w fun e w' => ∃ sl : List SlV, e = .returned ((fun vs => .agg #[.int .i64 r.Class, .int .i64 r.Power, .int .i64 r.Draught, .int .i64 r.Tonnes, (vs.getD 0 (.bool false)), (vs.getD 1 (.bool false)), (vs.getD 2 (.bool false)), .int .i64 r.Slow, .int .i64 r.Brash, .int .i64 r.Ridge, .int .i64 r.Press]) (sl.map SlV.val)) ∧ NewRowsD w w' sl [(r.Thrust.length, 84, 2, r.Thrust.flatMap ePt), (r.Water.length, 84, 2, r.Water.flatMap ePt), (r.Ice.length, 84, 2, r.Ice.flatMap ePt)] ∧ Below w.heap.size w w' := by
 obtain ⟨a0_p, a0_n, a0_c⟩ := a0_s
 have ha0_l : a0_n = a0.length := ha0.1
 subst ha0_l
 obtain ⟨a0_b, a0_o, ha0_p, ha0_L⟩ := SlAt.lies' ha0
 unfold m15 at hm
 refine enter (args := [.v (.slice a0_p a0.length a0_c)]) Tryd.func15 rfl (N := 135) rfl (Nat.le_of_ble_eq_true rfl) ?_
 refine aqS ?_
 refine aqT (rows := [_]) rfl (by kernel_rfl) ⟨
  okp rfl rfl (oqa (L := 1) (lN rfl) zl_25),
  trivial⟩ ?_
 refine fqK (s' := [kt 0 (.v (.slice a0_p a0.length a0_c)), kt 2 (.p 1 0), kb 1 25 11, kc 1 0 (.i 0), kc 1 1 (.i 0), kc 1 2 (.i 0), kc 1 3 (.i 0), kc 1 4 (.v (.slice none 0 0)), kc 1 5 (.v (.slice none 0 0)), kc 1 6 (.v (.slice none 0 0)), kc 1 7 (.i 0), kc 1 8 (.i 0), kc 1 9 (.i 0), kc 1 10 (.i 0)]) ?_ (kp rfl) rfl
 refine fqT ?_
 refine aqS ?_
 refine aqT (rows := [_, _, _]) rfl (by kernel_rfl) ⟨
  okp rfl rfl (oqM (lN rfl) rfl),
  okp rfl rfl (op_callTwo (L1 := 2) (L2 := 3) (ty1 := 3) (ty2 := 22) (v1 := [.int .i64 (idx a0 0)]) (v2 := [(.slice a0_p a0.length a0_c)]) (R := fun b1 b2 => .func (.func 83) #[] #[.pointer (some ⟨b1, 0, none⟩), .pointer (some ⟨b2, 0, none⟩)]) (x := .f (.func 83) [] [.p 2 0, .p 3 0]) (fs := []) (caps := []) (extra := []) (lN rfl) en_22 rfl ⟨rfl, rfl, rfl⟩ (EvL.cons rfl EvL.nil) (by decide) (fun _ => rfl) (fun mm aa ww gg hr hrel => (c22 a0 ⟨a0_p, a0.length, a0_c⟩ ww (SlIs.mono ha0 hrel.below)))),
  okp rfl rfl (oqA (lN rfl) rfl),
  trivial⟩ ?_
 refine fqK (s' := [kt 2 (.p 1 0), kt 3 (.f (.func 83) [] [.p 2 0, .p 3 0]), kb 1 25 11, kb 2 3 1, kb 3 22 1, kc 1 0 (.i 0), kc 1 1 (.i 0), kc 1 2 (.i 0), kc 1 3 (.i 0), kc 1 4 (.v (.slice none 0 0)), kc 1 5 (.v (.slice none 0 0)), kc 1 6 (.v (.slice none 0 0)), kc 1 7 (.i 0), kc 1 8 (.i 0), kc 1 9 (.i 0), kc 1 10 (.i 0), kc 2 0 (.i (idx a0 0)), kc 3 0 (.v (.slice a0_p a0.length a0_c))]) ?_ (kp rfl) rfl
 refine fqT ?_
 refine aqS ?_
 obtain ⟨hp1, hm⟩ := chk_some hm
 obtain ⟨hp2, hm⟩ := chk_some hm
 obtain ⟨hp3, hm⟩ := chk_some hm
 obtain ⟨hp4, hm⟩ := chk_some hm
 obtain ⟨hp5, hm⟩ := chk_some hm
 obtain ⟨hp6, hm⟩ := chk_some hm
 obtain ⟨hp7, hm⟩ := chk_some hm
 obtain ⟨hp8, hm⟩ := chk_some hm
 obtain ⟨hp9, hm⟩ := chk_some hm
 refine aqT (rows := [_, _, _, _, _, _, _, _, _, _, _, _, _, _, _, _, _, _, _, _, _, _, _, _, _, _, _, _]) rfl (by kernel_rfl) ⟨
  okp rfl rfl (oqM (lN rfl) rfl),
  okp rfl rfl (op_callLentL (ls := [⟨2, 3, [.i (idx a0 0)], [.i (idx a0 1)]⟩, ⟨3, 22, [.v (.slice a0_p a0.length a0_c)], [.v (.slice a0_p a0.length a0_c)]⟩]) (x := .i (dv a0 0 6)) (fs := []) (caps := [.p 2 0, .p 3 0]) (extra := []) (lN rfl) en_83 rfl ⟨rfl, rfl, rfl⟩ (EvL.cons rfl EvL.nil) ⟨rfl, ⟨rfl, trivial⟩, rfl, lb_ne rfl, ⟨rfl, ⟨rfl, trivial⟩, rfl, lb_ne rfl, trivial⟩⟩ (fun mm aa ww gg hr hrel hbx hlo => c83L 6 0 (mm 2) a0 ⟨a0_p, a0.length, a0_c⟩ (mm 3) ww (hbx _ (.head _)) (hbx _ (.tail _ (.head _))) (SlIs.mono ha0 hrel.below) (sl_ne ha0 (box_hi hrel hlo.1)) (box_ne hrel hlo.2.2.2.2.1 hlo.1 (by decide)) (by decide) h8a0 hlena0)),
  okp rfl rfl (oqB (lN rfl) rfl rfl (nw_add hp1)),
  okp rfl rfl (oqM (lN rfl) rfl),
  okp rfl rfl (op_callLentL (ls := [⟨2, 3, [.i (idx a0 1)], [.i (idx a0 2)]⟩, ⟨3, 22, [.v (.slice a0_p a0.length a0_c)], [.v (.slice a0_p a0.length a0_c)]⟩]) (x := .i (dv a0 1 256)) (fs := []) (caps := [.p 2 0, .p 3 0]) (extra := []) (lN rfl) en_83 rfl ⟨rfl, rfl, rfl⟩ (EvL.cons rfl EvL.nil) ⟨rfl, ⟨rfl, trivial⟩, rfl, lb_ne rfl, ⟨rfl, ⟨rfl, trivial⟩, rfl, lb_ne rfl, trivial⟩⟩ (fun mm aa ww gg hr hrel hbx hlo => c83L 256 1 (mm 2) a0 ⟨a0_p, a0.length, a0_c⟩ (mm 3) ww (hbx _ (.head _)) (hbx _ (.tail _ (.head _))) (SlIs.mono ha0 hrel.below) (sl_ne ha0 (box_hi hrel hlo.1)) (box_ne hrel hlo.2.2.2.2.1 hlo.1 (by decide)) (by decide) h8a0 hlena0)),
  okp rfl rfl (oqB (lN rfl) rfl rfl (nw_mul hp2)),
  okp rfl rfl (oqB (lN rfl) rfl rfl (nw_add hp3)),
  okp rfl rfl (oqM (lN rfl) rfl),
  okp rfl rfl (op_callLentL (ls := [⟨2, 3, [.i (idx a0 2)], [.i (idx a0 3)]⟩, ⟨3, 22, [.v (.slice a0_p a0.length a0_c)], [.v (.slice a0_p a0.length a0_c)]⟩]) (x := .i (dv a0 2 256)) (fs := []) (caps := [.p 2 0, .p 3 0]) (extra := []) (lN rfl) en_83 rfl ⟨rfl, rfl, rfl⟩ (EvL.cons rfl EvL.nil) ⟨rfl, ⟨rfl, trivial⟩, rfl, lb_ne rfl, ⟨rfl, ⟨rfl, trivial⟩, rfl, lb_ne rfl, trivial⟩⟩ (fun mm aa ww gg hr hrel hbx hlo => c83L 256 2 (mm 2) a0 ⟨a0_p, a0.length, a0_c⟩ (mm 3) ww (hbx _ (.head _)) (hbx _ (.tail _ (.head _))) (SlIs.mono ha0 hrel.below) (sl_ne ha0 (box_hi hrel hlo.1)) (box_ne hrel hlo.2.2.2.2.1 hlo.1 (by decide)) (by decide) h8a0 hlena0)),
  okp rfl rfl (oqB (lN rfl) rfl rfl (nw_mul hp4)),
  okp rfl rfl (oqB (lN rfl) rfl rfl (nw_add hp5)),
  okp rfl rfl (oqM (lN rfl) rfl),
  okp rfl rfl (op_callLentL (ls := [⟨2, 3, [.i (idx a0 3)], [.i (idx a0 4)]⟩, ⟨3, 22, [.v (.slice a0_p a0.length a0_c)], [.v (.slice a0_p a0.length a0_c)]⟩]) (x := .i (dv a0 3 256)) (fs := []) (caps := [.p 2 0, .p 3 0]) (extra := []) (lN rfl) en_83 rfl ⟨rfl, rfl, rfl⟩ (EvL.cons rfl EvL.nil) ⟨rfl, ⟨rfl, trivial⟩, rfl, lb_ne rfl, ⟨rfl, ⟨rfl, trivial⟩, rfl, lb_ne rfl, trivial⟩⟩ (fun mm aa ww gg hr hrel hbx hlo => c83L 256 3 (mm 2) a0 ⟨a0_p, a0.length, a0_c⟩ (mm 3) ww (hbx _ (.head _)) (hbx _ (.tail _ (.head _))) (SlIs.mono ha0 hrel.below) (sl_ne ha0 (box_hi hrel hlo.1)) (box_ne hrel hlo.2.2.2.2.1 hlo.1 (by decide)) (by decide) h8a0 hlena0)),
  okp rfl rfl (oqB (lN rfl) rfl rfl (nw_mul hp6)),
  okp rfl rfl (oqB (lN rfl) rfl rfl (nw_add hp7)),
  okp rfl rfl (oqM (lN rfl) rfl),
  okp rfl rfl (op_callLentL (ls := [⟨2, 3, [.i (idx a0 4)], [.i (idx a0 5)]⟩, ⟨3, 22, [.v (.slice a0_p a0.length a0_c)], [.v (.slice a0_p a0.length a0_c)]⟩]) (x := .i (dv a0 4 21)) (fs := []) (caps := [.p 2 0, .p 3 0]) (extra := []) (lN rfl) en_83 rfl ⟨rfl, rfl, rfl⟩ (EvL.cons rfl EvL.nil) ⟨rfl, ⟨rfl, trivial⟩, rfl, lb_ne rfl, ⟨rfl, ⟨rfl, trivial⟩, rfl, lb_ne rfl, trivial⟩⟩ (fun mm aa ww gg hr hrel hbx hlo => c83L 21 4 (mm 2) a0 ⟨a0_p, a0.length, a0_c⟩ (mm 3) ww (hbx _ (.head _)) (hbx _ (.tail _ (.head _))) (SlIs.mono ha0 hrel.below) (sl_ne ha0 (box_hi hrel hlo.1)) (box_ne hrel hlo.2.2.2.2.1 hlo.1 (by decide)) (by decide) h8a0 hlena0)),
  okp rfl rfl (oqM (lN rfl) rfl),
  okp rfl rfl (op_callLentL (ls := [⟨2, 3, [.i (idx a0 5)], [.i (idx a0 6)]⟩, ⟨3, 22, [.v (.slice a0_p a0.length a0_c)], [.v (.slice a0_p a0.length a0_c)]⟩]) (x := .i (dv a0 5 101)) (fs := []) (caps := [.p 2 0, .p 3 0]) (extra := []) (lN rfl) en_83 rfl ⟨rfl, rfl, rfl⟩ (EvL.cons rfl EvL.nil) ⟨rfl, ⟨rfl, trivial⟩, rfl, lb_ne rfl, ⟨rfl, ⟨rfl, trivial⟩, rfl, lb_ne rfl, trivial⟩⟩ (fun mm aa ww gg hr hrel hbx hlo => c83L 101 5 (mm 2) a0 ⟨a0_p, a0.length, a0_c⟩ (mm 3) ww (hbx _ (.head _)) (hbx _ (.tail _ (.head _))) (SlIs.mono ha0 hrel.below) (sl_ne ha0 (box_hi hrel hlo.1)) (box_ne hrel hlo.2.2.2.2.1 hlo.1 (by decide)) (by decide) h8a0 hlena0)),
  okp rfl rfl (oqM (lN rfl) rfl),
  okp rfl rfl (op_callLentL (ls := [⟨2, 3, [.i (idx a0 6)], [.i (idx a0 7)]⟩, ⟨3, 22, [.v (.slice a0_p a0.length a0_c)], [.v (.slice a0_p a0.length a0_c)]⟩]) (x := .i (dv a0 6 240)) (fs := []) (caps := [.p 2 0, .p 3 0]) (extra := []) (lN rfl) en_83 rfl ⟨rfl, rfl, rfl⟩ (EvL.cons rfl EvL.nil) ⟨rfl, ⟨rfl, trivial⟩, rfl, lb_ne rfl, ⟨rfl, ⟨rfl, trivial⟩, rfl, lb_ne rfl, trivial⟩⟩ (fun mm aa ww gg hr hrel hbx hlo => c83L 240 6 (mm 2) a0 ⟨a0_p, a0.length, a0_c⟩ (mm 3) ww (hbx _ (.head _)) (hbx _ (.tail _ (.head _))) (SlIs.mono ha0 hrel.below) (sl_ne ha0 (box_hi hrel hlo.1)) (box_ne hrel hlo.2.2.2.2.1 hlo.1 (by decide)) (by decide) h8a0 hlena0)),
  okp rfl rfl (oqB (lN rfl) rfl rfl (nw_mul hp8)),
  okp rfl rfl (oqM (lN rfl) rfl),
  okp rfl rfl (op_callLentL (ls := [⟨2, 3, [.i (idx a0 7)], [.i (idx a0 8)]⟩, ⟨3, 22, [.v (.slice a0_p a0.length a0_c)], [.v (.slice a0_p a0.length a0_c)]⟩]) (x := .i (dv a0 7 256)) (fs := []) (caps := [.p 2 0, .p 3 0]) (extra := []) (lN rfl) en_83 rfl ⟨rfl, rfl, rfl⟩ (EvL.cons rfl EvL.nil) ⟨rfl, ⟨rfl, trivial⟩, rfl, lb_ne rfl, ⟨rfl, ⟨rfl, trivial⟩, rfl, lb_ne rfl, trivial⟩⟩ (fun mm aa ww gg hr hrel hbx hlo => c83L 256 7 (mm 2) a0 ⟨a0_p, a0.length, a0_c⟩ (mm 3) ww (hbx _ (.head _)) (hbx _ (.tail _ (.head _))) (SlIs.mono ha0 hrel.below) (sl_ne ha0 (box_hi hrel hlo.1)) (box_ne hrel hlo.2.2.2.2.1 hlo.1 (by decide)) (by decide) h8a0 hlena0)),
  okp rfl rfl (oqB (lN rfl) rfl rfl (nw_mul hp9)),
  okp rfl rfl (op_build (x := .g [.i (1 + (dv a0 0 6)), .i (100 + (390 * (dv a0 1 256))), .i (10 + (7 * (dv a0 2 256))), .i (10 + (1900 * (dv a0 3 256))), .v (.slice none 0 0), .v (.slice none 0 0), .v (.slice none 0 0), .i (dv a0 4 21), .i (dv a0 5 101), .i (2 * (dv a0 6 240)), .i (4 * (dv a0 7 256))]) (lN rfl) (EvL.cons rfl (EvL.cons rfl (EvL.cons rfl (EvL.cons rfl (EvL.cons rfl (EvL.cons rfl (EvL.cons rfl (EvL.cons rfl EvL.nil)))))))) (fun m w => by kernel_rfl)),
  okp rfl rfl (oqa (L := 4) (lN rfl) zl_25),
  okp rfl rfl (oqS sz_25 rfl rfl rfl rfl rfl (by decide)),
  trivial⟩ ?_
 refine fqK (s' := [kt 2 (.p 1 0), kt 3 (.f (.func 83) [] [.p 2 0, .p 3 0]), kt 4 (.p 4 0), kb 1 25 11, kb 2 3 1, kb 3 22 1, kb 4 25 11, kc 1 0 (.i 0), kc 1 1 (.i 0), kc 1 2 (.i 0), kc 1 3 (.i 0), kc 1 4 (.v (.slice none 0 0)), kc 1 5 (.v (.slice none 0 0)), kc 1 6 (.v (.slice none 0 0)), kc 1 7 (.i 0), kc 1 8 (.i 0), kc 1 9 (.i 0), kc 1 10 (.i 0), kc 2 0 (.i (idx a0 8)), kc 3 0 (.v (.slice a0_p a0.length a0_c)), kc 4 0 (.i (1 + (dv a0 0 6))), kc 4 1 (.i (100 + (390 * (dv a0 1 256)))), kc 4 2 (.i (10 + (7 * (dv a0 2 256)))), kc 4 3 (.i (10 + (1900 * (dv a0 3 256)))), kc 4 4 (.v (.slice none 0 0)), kc 4 5 (.v (.slice none 0 0)), kc 4 6 (.v (.slice none 0 0)), kc 4 7 (.i (dv a0 4 21)), kc 4 8 (.i (dv a0 5 101)), kc 4 9 (.i (2 * (dv a0 6 240))), kc 4 10 (.i (4 * (dv a0 7 256)))]) ?_ (kp rfl) rfl
 refine fqT ?_
 refine aqS ?_
 obtain ⟨hp10, hm⟩ := chk_some hm
 obtain ⟨hp11, hm⟩ := chk_some hm
 refine aqT (rows := [_, _, _, _, _, _]) rfl (by kernel_rfl) ⟨
  okp rfl rfl (oqM (lN rfl) rfl),
  okp rfl rfl (op_callLentL (ls := [⟨2, 3, [.i (idx a0 8)], [.i (idx a0 9)]⟩, ⟨3, 22, [.v (.slice a0_p a0.length a0_c)], [.v (.slice a0_p a0.length a0_c)]⟩]) (x := .i (dv a0 8 256)) (fs := []) (caps := [.p 2 0, .p 3 0]) (extra := []) (lN rfl) en_83 rfl ⟨rfl, rfl, rfl⟩ (EvL.cons rfl EvL.nil) ⟨rfl, ⟨rfl, trivial⟩, rfl, lb_ne rfl, ⟨rfl, ⟨rfl, trivial⟩, rfl, lb_ne rfl, trivial⟩⟩ (fun mm aa ww gg hr hrel hbx hlo => c83L 256 8 (mm 2) a0 ⟨a0_p, a0.length, a0_c⟩ (mm 3) ww (hbx _ (.head _)) (hbx _ (.tail _ (.head _))) (SlIs.mono ha0 hrel.below) (sl_ne ha0 (box_hi hrel hlo.1)) (box_ne hrel hlo.2.2.2.2.1 hlo.1 (by decide)) (by decide) h8a0 hlena0)),
  okp rfl rfl (oqB (lN rfl) rfl rfl (nw_mul hp10)),
  okp rfl rfl (oqB (lN rfl) rfl rfl (nw_add hp11)),
  okp rfl rfl (oqA (lN rfl) rfl),
  okp rfl rfl (oqA (lN rfl) rfl),
  trivial⟩ ?_
 refine fqK (s' := [kt 2 (.p 1 0), kt 3 (.f (.func 83) [] [.p 2 0, .p 3 0]), kt 4 (.p 4 0), kt 5 (.i 0), kt 6 (.i (200 + (20 * (dv a0 8 256)))), kb 1 25 11, kb 2 3 1, kb 3 22 1, kb 4 25 11, kc 1 0 (.i 0), kc 1 1 (.i 0), kc 1 2 (.i 0), kc 1 3 (.i 0), kc 1 4 (.v (.slice none 0 0)), kc 1 5 (.v (.slice none 0 0)), kc 1 6 (.v (.slice none 0 0)), kc 1 7 (.i 0), kc 1 8 (.i 0), kc 1 9 (.i 0), kc 1 10 (.i 0), kc 2 0 (.i (idx a0 9)), kc 3 0 (.v (.slice a0_p a0.length a0_c)), kc 4 0 (.i (1 + (dv a0 0 6))), kc 4 1 (.i (100 + (390 * (dv a0 1 256)))), kc 4 2 (.i (10 + (7 * (dv a0 2 256)))), kc 4 3 (.i (10 + (1900 * (dv a0 3 256)))), kc 4 4 (.v (.slice none 0 0)), kc 4 5 (.v (.slice none 0 0)), kc 4 6 (.v (.slice none 0 0)), kc 4 7 (.i (dv a0 4 21)), kc 4 8 (.i (dv a0 5 101)), kc 4 9 (.i (2 * (dv a0 6 240))), kc 4 10 (.i (4 * (dv a0 7 256)))]) ?_ (kp rfl) rfl
 refine fqT ?_
 refine aqS ?_
 refine aqT (rows := [_, _, _, _, _]) rfl (by kernel_rfl) ⟨
  okp rfl rfl (oqM (lN rfl) rfl),
  okp rfl rfl (op_build (x := .g [.i 0, .i (200 + (20 * (dv a0 8 256)))]) (lN rfl) (EvL.cons rfl (EvL.cons rfl EvL.nil)) (fun m w => by kernel_rfl)),
  okp rfl rfl (op_buildSlice (L := 5) (ety := 84) (cs := [.i 0, .i (200 + (20 * (dv a0 8 256)))]) (lN rfl) (EvL.cons rfl EvL.nil) rfl (fun m w => by kernel_rfl)),
  okp rfl rfl (oqF (lN rfl) rfl fo_25_4),
  okp rfl rfl (oqs sz_23 rfl rfl rfl rfl (lN rfl)),
  trivial⟩ ?_
 refine fqK (s' := [kt 2 (.p 1 0), kt 3 (.f (.func 83) [] [.p 2 0, .p 3 0]), kt 4 (.p 4 0), kt 5 (.i 0), kt 6 (.i (200 + (20 * (dv a0 8 256)))), kb 1 25 11, kb 2 3 1, kb 3 22 1, kb 4 25 11, kb 5 84 2, kc 1 0 (.i 0), kc 1 1 (.i 0), kc 1 2 (.i 0), kc 1 3 (.i 0), kc 1 4 (.v (.slice none 0 0)), kc 1 5 (.v (.slice none 0 0)), kc 1 6 (.v (.slice none 0 0)), kc 1 7 (.i 0), kc 1 8 (.i 0), kc 1 9 (.i 0), kc 1 10 (.i 0), kc 2 0 (.i (idx a0 9)), kc 3 0 (.v (.slice a0_p a0.length a0_c)), kc 4 0 (.i (1 + (dv a0 0 6))), kc 4 1 (.i (100 + (390 * (dv a0 1 256)))), kc 4 2 (.i (10 + (7 * (dv a0 2 256)))), kc 4 3 (.i (10 + (1900 * (dv a0 3 256)))), kc 4 4 (.s 5 0 1 1), kc 4 5 (.v (.slice none 0 0)), kc 4 6 (.v (.slice none 0 0)), kc 4 7 (.i (dv a0 4 21)), kc 4 8 (.i (dv a0 5 101)), kc 4 9 (.i (2 * (dv a0 6 240))), kc 4 10 (.i (4 * (dv a0 7 256))), kc 5 0 (.i 0), kc 5 1 (.i (200 + (20 * (dv a0 8 256))))]) ?_ (kp rfl) rfl
 refine fqT ?_
 refine aw_cutM (ι := List Pt × Nat) hm (fun x1 => [kt 2 (.p 1 0), kt 3 (.f (.func 83) [] [.p 2 0, .p 3 0]), kt 4 (.p 4 0), kb 1 25 11, kb 2 3 1, kb 3 22 1, kb 4 25 11, (.r 300, some (.vec true 301 84 2 (x1.1.flatMap ePt))), kc 1 0 (.i 0), kc 1 1 (.i 0), kc 1 2 (.i 0), kc 1 3 (.i 0), kc 1 4 (.v (.slice none 0 0)), kc 1 5 (.v (.slice none 0 0)), kc 1 6 (.v (.slice none 0 0)), kc 1 7 (.i 0), kc 1 8 (.i 0), kc 1 9 (.i 0), kc 1 10 (.i 0), kc 2 0 (.i (idx a0 x1.2)), kc 3 0 (.v (.slice a0_p a0.length a0_c)), kc 4 0 (.i (1 + (dv a0 0 6))), kc 4 1 (.i (100 + (390 * (dv a0 1 256)))), kc 4 2 (.i (10 + (7 * (dv a0 2 256)))), kc 4 3 (.i (10 + (1900 * (dv a0 3 256)))), kc 4 4 (.o 300 301 x1.1.length), kc 4 5 (.v (.slice none 0 0)), kc 4 6 (.v (.slice none 0 0)), kc 4 7 (.i (dv a0 4 21)), kc 4 8 (.i (dv a0 5 101)), kc 4 9 (.i (2 * (dv a0 6 240))), kc 4 10 (.i (4 * (dv a0 7 256)))]) (fun hm => ?_) (fun x1 hm => ?_)
 ·have _z := hm
  refine aqS ?_
  obtain ⟨hp12, hm⟩ := chk_some hm
  refine aqT (rows := [_, _, _, _]) rfl (by kernel_rfl) ⟨
   okp rfl rfl (oqM (lN rfl) rfl),
   okp rfl rfl (op_callLentL (ls := [⟨2, 3, [.i (idx a0 9)], [.i (idx a0 10)]⟩, ⟨3, 22, [.v (.slice a0_p a0.length a0_c)], [.v (.slice a0_p a0.length a0_c)]⟩]) (x := .i (dv a0 9 4)) (fs := []) (caps := [.p 2 0, .p 3 0]) (extra := []) (lN rfl) en_83 rfl ⟨rfl, rfl, rfl⟩ (EvL.cons rfl EvL.nil) ⟨rfl, ⟨rfl, trivial⟩, rfl, lb_ne rfl, ⟨rfl, ⟨rfl, trivial⟩, rfl, lb_ne rfl, trivial⟩⟩ (fun mm aa ww gg hr hrel hbx hlo => c83L 4 9 (mm 2) a0 ⟨a0_p, a0.length, a0_c⟩ (mm 3) ww (hbx _ (.head _)) (hbx _ (.tail _ (.head _))) (SlIs.mono ha0 hrel.below) (sl_ne ha0 (box_hi hrel hlo.1)) (box_ne hrel hlo.2.2.2.2.1 hlo.1 (by decide)) (by decide) h8a0 hlena0)),
   okp rfl rfl (oqB (lN rfl) rfl rfl (nw_add hp12)),
   okp rfl rfl (oqM (lN rfl) rfl),
   trivial⟩ ?_
  refine fqK (s' := [kt 2 (.p 1 0), kt 3 (.f (.func 83) [] [.p 2 0, .p 3 0]), kt 4 (.p 4 0), kt 5 (.i 0), kt 6 (.i (200 + (20 * (dv a0 8 256)))), kt 45 (.i (1 + (dv a0 9 4))), kt 46 (.i 0), kb 1 25 11, kb 2 3 1, kb 3 22 1, kb 4 25 11, kb 5 84 2, kc 1 0 (.i 0), kc 1 1 (.i 0), kc 1 2 (.i 0), kc 1 3 (.i 0), kc 1 4 (.v (.slice none 0 0)), kc 1 5 (.v (.slice none 0 0)), kc 1 6 (.v (.slice none 0 0)), kc 1 7 (.i 0), kc 1 8 (.i 0), kc 1 9 (.i 0), kc 1 10 (.i 0), kc 2 0 (.i (idx a0 10)), kc 3 0 (.v (.slice a0_p a0.length a0_c)), kc 4 0 (.i (1 + (dv a0 0 6))), kc 4 1 (.i (100 + (390 * (dv a0 1 256)))), kc 4 2 (.i (10 + (7 * (dv a0 2 256)))), kc 4 3 (.i (10 + (1900 * (dv a0 3 256)))), kc 4 4 (.s 5 0 1 1), kc 4 5 (.v (.slice none 0 0)), kc 4 6 (.v (.slice none 0 0)), kc 4 7 (.i (dv a0 4 21)), kc 4 8 (.i (dv a0 5 101)), kc 4 9 (.i (2 * (dv a0 6 240))), kc 4 10 (.i (4 * (dv a0 7 256))), kc 5 0 (.i 0), kc 5 1 (.i (200 + (20 * (dv a0 8 256))))]) ?_ (kp rfl) rfl
  refine fqT ?_
  refine aw_block ?_
  refine aw_toRow (.c 4 4) 5 6 1 2 [(.int .i64 0), (.int .i64 (200 + (20 * (dv a0 8 256))))] rfl rfl rfl rfl (by decide) ⟨rfl, rfl, trivial⟩ rfl (by decide) rfl ?_
  refine aw_swp [(5, 300), (6, 301)] rfl ?_
  refine aw_loopC hm (fun x2 => [kt 2 (.p 1 0), kt 3 (.f (.func 83) [] [.p 2 0, .p 3 0]), kt 4 (.p 4 0), kt 5 (.i x2.1), kt 6 (.i x2.2.1), kt 45 (.i (1 + (dv a0 9 4))), kt 46 (.i x2.2.2.1), kb 1 25 11, kb 2 3 1, kb 3 22 1, kb 4 25 11, (.r 300, some (.vec true 301 84 2 (x2.2.2.2.1.flatMap ePt))), kc 1 0 (.i 0), kc 1 1 (.i 0), kc 1 2 (.i 0), kc 1 3 (.i 0), kc 1 4 (.v (.slice none 0 0)), kc 1 5 (.v (.slice none 0 0)), kc 1 6 (.v (.slice none 0 0)), kc 1 7 (.i 0), kc 1 8 (.i 0), kc 1 9 (.i 0), kc 1 10 (.i 0), kc 2 0 (.i (idx a0 x2.2.2.2.2)), kc 3 0 (.v (.slice a0_p a0.length a0_c)), kc 4 0 (.i (1 + (dv a0 0 6))), kc 4 1 (.i (100 + (390 * (dv a0 1 256)))), kc 4 2 (.i (10 + (7 * (dv a0 2 256)))), kc 4 3 (.i (10 + (1900 * (dv a0 3 256)))), kc 4 4 (.o 300 301 x2.2.2.2.1.length), kc 4 5 (.v (.slice none 0 0)), kc 4 6 (.v (.slice none 0 0)), kc 4 7 (.i (dv a0 4 21)), kc 4 8 (.i (dv a0 5 101)), kc 4 9 (.i (2 * (dv a0 6 240))), kc 4 10 (.i (4 * (dv a0 7 256)))]) ⟨rfl, rfl, rfl, rfl, rfl, rfl, rfl, rfl, rfl, rfl, rfl, rfl, rfl, rfl, rfl, rfl, rfl, rfl, rfl, rfl, rfl, rfl, rfl, rfl, rfl, rfl, rfl, rfl, rfl, rfl, rfl, rfl, rfl, rfl, rfl, rfl, trivial⟩ rfl (fun x2 n2 hm => ?_)
  refine aqS ?_
  refine aqT (rows := [_]) rfl (by kernel_rfl) ⟨
   okp rfl rfl (oqB (lN rfl) rfl rfl rfl),
   trivial⟩ ?_
  refine fqK (s' := [kt 2 (.p 1 0), kt 3 (.f (.func 83) [] [.p 2 0, .p 3 0]), kt 4 (.p 4 0), kt 5 (.i x2.1), kt 6 (.i x2.2.1), kt 45 (.i (1 + (dv a0 9 4))), kt 46 (.i x2.2.2.1), kt 47 (.B (decide (x2.2.2.1 < (1 + (dv a0 9 4))))), kb 1 25 11, kb 2 3 1, kb 3 22 1, kb 4 25 11, (.r 300, some (.vec true 301 84 2 (x2.2.2.2.1.flatMap ePt))), kc 1 0 (.i 0), kc 1 1 (.i 0), kc 1 2 (.i 0), kc 1 3 (.i 0), kc 1 4 (.v (.slice none 0 0)), kc 1 5 (.v (.slice none 0 0)), kc 1 6 (.v (.slice none 0 0)), kc 1 7 (.i 0), kc 1 8 (.i 0), kc 1 9 (.i 0), kc 1 10 (.i 0), kc 2 0 (.i (idx a0 x2.2.2.2.2)), kc 3 0 (.v (.slice a0_p a0.length a0_c)), kc 4 0 (.i (1 + (dv a0 0 6))), kc 4 1 (.i (100 + (390 * (dv a0 1 256)))), kc 4 2 (.i (10 + (7 * (dv a0 2 256)))), kc 4 3 (.i (10 + (1900 * (dv a0 3 256)))), kc 4 4 (.o 300 301 x2.2.2.2.1.length), kc 4 5 (.v (.slice none 0 0)), kc 4 6 (.v (.slice none 0 0)), kc 4 7 (.i (dv a0 4 21)), kc 4 8 (.i (dv a0 5 101)), kc 4 9 (.i (2 * (dv a0 6 240))), kc 4 10 (.i (4 * (dv a0 7 256)))]) ?_ (kp rfl) rfl
  refine fqT ?_
  refine aqS ?_
  refine aqc rfl (fun hz13 => ?_) (fun hz13 => ?_)
  ·have hm := brk_t hz13 hm
   refine aqk ?_
   refine fqT ?_
   refine aqS ?_
   refine aw_block ?_
   refine aqS ?_
   obtain ⟨hp14, hm⟩ := chk_some hm
   obtain ⟨hp15, hm⟩ := chk_some hm
   obtain ⟨hp16, hm⟩ := chk_some hm
   obtain ⟨hp17, hm⟩ := chk_some hm
   refine aqT (rows := [_, _, _, _, _, _, _, _, _, _, _, _]) rfl (by kernel_rfl) ⟨
    okp rfl rfl (oqM (lN rfl) rfl),
    okp rfl rfl (oqB (lN rfl) rfl rfl (nw_add hp14)),
    okp rfl rfl (oqM (lN rfl) rfl),
    okp rfl rfl (op_callLentL (ls := [⟨2, 3, [.i (idx a0 x2.2.2.2.2)], [.i (idx a0 (x2.2.2.2.2 + 1))]⟩, ⟨3, 22, [.v (.slice a0_p a0.length a0_c)], [.v (.slice a0_p a0.length a0_c)]⟩]) (x := .i (dv a0 x2.2.2.2.2 40)) (fs := []) (caps := [.p 2 0, .p 3 0]) (extra := []) (lN rfl) en_83 rfl ⟨rfl, rfl, rfl⟩ (EvL.cons rfl EvL.nil) ⟨rfl, ⟨rfl, trivial⟩, rfl, lb_ne rfl, ⟨rfl, ⟨rfl, trivial⟩, rfl, lb_ne rfl, trivial⟩⟩ (fun mm aa ww gg hr hrel hbx hlo => c83L 40 x2.2.2.2.2 (mm 2) a0 ⟨a0_p, a0.length, a0_c⟩ (mm 3) ww (hbx _ (.head _)) (hbx _ (.tail _ (.head _))) (SlIs.mono ha0 hrel.below) (sl_ne ha0 (box_hi hrel hlo.1)) (box_ne hrel hlo.2.2.2.2.1 hlo.1 (by decide)) (by decide) h8a0 hlena0)),
    okp rfl rfl (oqB (lN rfl) rfl rfl (nw_add hp15)),
    okp rfl rfl (oqM (lN rfl) rfl),
    okp rfl rfl (oqM (lN rfl) rfl),
    okp rfl rfl (op_callLentL (ls := [⟨2, 3, [.i (idx a0 (x2.2.2.2.2 + 1))], [.i (idx a0 ((x2.2.2.2.2 + 1) + 1))]⟩, ⟨3, 22, [.v (.slice a0_p a0.length a0_c)], [.v (.slice a0_p a0.length a0_c)]⟩]) (x := .i (dv a0 ((x2.2.2.2.2 + 1)) 101)) (fs := []) (caps := [.p 2 0, .p 3 0]) (extra := []) (lN rfl) en_83 rfl ⟨rfl, rfl, rfl⟩ (EvL.cons rfl EvL.nil) ⟨rfl, ⟨rfl, trivial⟩, rfl, lb_ne rfl, ⟨rfl, ⟨rfl, trivial⟩, rfl, lb_ne rfl, trivial⟩⟩ (fun mm aa ww gg hr hrel hbx hlo => c83L 101 ((x2.2.2.2.2 + 1)) (mm 2) a0 ⟨a0_p, a0.length, a0_c⟩ (mm 3) ww (hbx _ (.head _)) (hbx _ (.tail _ (.head _))) (SlIs.mono ha0 hrel.below) (sl_ne ha0 (box_hi hrel hlo.1)) (box_ne hrel hlo.2.2.2.2.1 hlo.1 (by decide)) (by decide) h8a0 hlena0)),
    okp rfl rfl (oqB (lN rfl) rfl rfl (nw_mul hp16)),
    okp rfl rfl (op_quo (lN rfl) rfl rfl (by decide) (quo_nn hp17.1 (by decide) hp17.2)),
    okp rfl rfl (oqA (lN rfl) rfl),
    okp rfl rfl (oqA (lN rfl) rfl),
    trivial⟩ ?_
   refine fqK (s' := [kt 2 (.p 1 0), kt 3 (.f (.func 83) [] [.p 2 0, .p 3 0]), kt 4 (.p 4 0), kt 5 (.i ((x2.1 + 10) + (dv a0 x2.2.2.2.2 40))), kt 6 (.i ((x2.2.1 * (dv a0 ((x2.2.2.2.2 + 1)) 101)) / 100)), kt 45 (.i (1 + (dv a0 9 4))), kt 46 (.i x2.2.2.1), kb 1 25 11, kb 2 3 1, kb 3 22 1, kb 4 25 11, (.r 300, some (.vec true 301 84 2 (x2.2.2.2.1.flatMap ePt))), kc 1 0 (.i 0), kc 1 1 (.i 0), kc 1 2 (.i 0), kc 1 3 (.i 0), kc 1 4 (.v (.slice none 0 0)), kc 1 5 (.v (.slice none 0 0)), kc 1 6 (.v (.slice none 0 0)), kc 1 7 (.i 0), kc 1 8 (.i 0), kc 1 9 (.i 0), kc 1 10 (.i 0), kc 2 0 (.i (idx a0 ((x2.2.2.2.2 + 1) + 1))), kc 3 0 (.v (.slice a0_p a0.length a0_c)), kc 4 0 (.i (1 + (dv a0 0 6))), kc 4 1 (.i (100 + (390 * (dv a0 1 256)))), kc 4 2 (.i (10 + (7 * (dv a0 2 256)))), kc 4 3 (.i (10 + (1900 * (dv a0 3 256)))), kc 4 4 (.o 300 301 x2.2.2.2.1.length), kc 4 5 (.v (.slice none 0 0)), kc 4 6 (.v (.slice none 0 0)), kc 4 7 (.i (dv a0 4 21)), kc 4 8 (.i (dv a0 5 101)), kc 4 9 (.i (2 * (dv a0 6 240))), kc 4 10 (.i (4 * (dv a0 7 256)))]) ?_ (kp rfl) rfl
   refine fqT ?_
   obtain ⟨hp18, hm⟩ := chk_some hm
   refine aqT (rows := [_, _, _, _, _, _, _, _, _]) rfl (by kernel_rfl) ⟨
    okp rfl rfl (oqF (lN rfl) rfl fo_25_4),
    okp rfl rfl (oq1 (lN rfl) sh_23 rfl rfl),
    okp rfl rfl (oqM (lN rfl) rfl),
    okp rfl rfl (oqM (lN rfl) rfl),
    okp rfl rfl (op_build (x := .g [.i ((x2.1 + 10) + (dv a0 x2.2.2.2.2 40)), .i ((x2.2.1 * (dv a0 ((x2.2.2.2.2 + 1)) 101)) / 100)]) (lN rfl) (EvL.cons rfl (EvL.cons rfl EvL.nil)) (fun m w => by kernel_rfl)),
    okp rfl rfl (op_buildSlice (L := 7) (ety := 84) (cs := [.i ((x2.1 + 10) + (dv a0 x2.2.2.2.2 40)), .i ((x2.2.1 * (dv a0 ((x2.2.2.2.2 + 1)) 101)) / 100)]) (lN rfl) (EvL.cons rfl EvL.nil) rfl (fun m w => by kernel_rfl)),
    okp rfl rfl (op_append (L' := 8) (C' := 9) (vs := [(.int .i64 ((x2.1 + 10) + (dv a0 x2.2.2.2.2 40))), (.int .i64 ((x2.2.1 * (dv a0 ((x2.2.2.2.2 + 1)) 101)) / 100))]) (lN rfl) af_23 rfl rfl (flat_length (enc := ePt) (fun _ => rfl) x2.2.2.2.1) rfl ⟨rfl, rfl, trivial⟩ rfl rfl (by decide) (by have := hp18; omega) (by have := hp18; omega) (by decide)),
    okp rfl rfl (oqF (lN rfl) rfl fo_25_4),
    okp rfl rfl (oqs sz_23 rfl rfl rfl rfl (lN rfl)),
    trivial⟩ ?_
   refine fqK (s' := [kt 2 (.p 1 0), kt 3 (.f (.func 83) [] [.p 2 0, .p 3 0]), kt 4 (.p 4 0), kt 5 (.i ((x2.1 + 10) + (dv a0 x2.2.2.2.2 40))), kt 6 (.i ((x2.2.1 * (dv a0 ((x2.2.2.2.2 + 1)) 101)) / 100)), kt 45 (.i (1 + (dv a0 9 4))), kt 46 (.i x2.2.2.1), kb 1 25 11, kb 2 3 1, kb 3 22 1, kb 4 25 11, (.r 8, some (.vec true 9 84 2 ((x2.2.2.2.1 ++ [(⟨(x2.1 + 10) + (dv a0 x2.2.2.2.2 40), (x2.2.1 * (dv a0 ((x2.2.2.2.2 + 1)) 101)) / 100⟩ : Pt)]).flatMap ePt))), kc 1 0 (.i 0), kc 1 1 (.i 0), kc 1 2 (.i 0), kc 1 3 (.i 0), kc 1 4 (.v (.slice none 0 0)), kc 1 5 (.v (.slice none 0 0)), kc 1 6 (.v (.slice none 0 0)), kc 1 7 (.i 0), kc 1 8 (.i 0), kc 1 9 (.i 0), kc 1 10 (.i 0), kc 2 0 (.i (idx a0 ((x2.2.2.2.2 + 1) + 1))), kc 3 0 (.v (.slice a0_p a0.length a0_c)), kc 4 0 (.i (1 + (dv a0 0 6))), kc 4 1 (.i (100 + (390 * (dv a0 1 256)))), kc 4 2 (.i (10 + (7 * (dv a0 2 256)))), kc 4 3 (.i (10 + (1900 * (dv a0 3 256)))), kc 4 4 (.o 8 9 ((x2.2.2.2.1 ++ [(⟨(x2.1 + 10) + (dv a0 x2.2.2.2.2 40), (x2.2.1 * (dv a0 ((x2.2.2.2.2 + 1)) 101)) / 100⟩ : Pt)]).length)), kc 4 5 (.v (.slice none 0 0)), kc 4 6 (.v (.slice none 0 0)), kc 4 7 (.i (dv a0 4 21)), kc 4 8 (.i (dv a0 5 101)), kc 4 9 (.i (2 * (dv a0 6 240))), kc 4 10 (.i (4 * (dv a0 7 256)))]) ?_ ⟨rfl, rfl, rfl, rfl, rfl, rfl, rfl, rfl, rfl, rfl, rfl, (Eq.trans (b := some (Val.vec true 9 84 2 (x2.2.2.2.1.flatMap ePt ++ [(.int .i64 ((x2.1 + 10) + (dv a0 x2.2.2.2.2 40))), (.int .i64 ((x2.2.1 * (dv a0 ((x2.2.2.2.2 + 1)) 101)) / 100))]))) rfl (congrArg (fun q => some (Val.vec true 9 84 2 q)) (flat_snoc (enc := ePt) x2.2.2.2.1 ((⟨(x2.1 + 10) + (dv a0 x2.2.2.2.2 40), (x2.2.1 * (dv a0 ((x2.2.2.2.2 + 1)) 101)) / 100⟩ : Pt))))), rfl, rfl, rfl, rfl, rfl, rfl, rfl, rfl, rfl, rfl, rfl, rfl, rfl, rfl, rfl, rfl, rfl, (congrArg (fun q => some (Val.x (SV.o 8 9 q))) (len_snoc x2.2.2.2.1 ((⟨(x2.1 + 10) + (dv a0 x2.2.2.2.2 40), (x2.2.1 * (dv a0 ((x2.2.2.2.2 + 1)) 101)) / 100⟩ : Pt)))), rfl, rfl, rfl, rfl, rfl, rfl, trivial⟩ rfl
   refine fqB ?_
   refine fqT ?_
   obtain ⟨hp19, hm⟩ := chk_some hm
   refine aqT (rows := [_, _]) rfl (by kernel_rfl) ⟨
    okp rfl rfl (oqB (lN rfl) rfl rfl (nw_add hp19)),
    okp rfl rfl (oqM (lN rfl) rfl),
    trivial⟩ ?_
   refine fqK (s' := [kt 2 (.p 1 0), kt 3 (.f (.func 83) [] [.p 2 0, .p 3 0]), kt 4 (.p 4 0), kt 5 (.i ((x2.1 + 10) + (dv a0 x2.2.2.2.2 40))), kt 6 (.i ((x2.2.1 * (dv a0 ((x2.2.2.2.2 + 1)) 101)) / 100)), kt 45 (.i (1 + (dv a0 9 4))), kt 46 (.i (x2.2.2.1 + 1)), kb 1 25 11, kb 2 3 1, kb 3 22 1, kb 4 25 11, (.r 8, some (.vec true 9 84 2 ((x2.2.2.2.1 ++ [(⟨(x2.1 + 10) + (dv a0 x2.2.2.2.2 40), (x2.2.1 * (dv a0 ((x2.2.2.2.2 + 1)) 101)) / 100⟩ : Pt)]).flatMap ePt))), kc 1 0 (.i 0), kc 1 1 (.i 0), kc 1 2 (.i 0), kc 1 3 (.i 0), kc 1 4 (.v (.slice none 0 0)), kc 1 5 (.v (.slice none 0 0)), kc 1 6 (.v (.slice none 0 0)), kc 1 7 (.i 0), kc 1 8 (.i 0), kc 1 9 (.i 0), kc 1 10 (.i 0), kc 2 0 (.i (idx a0 ((x2.2.2.2.2 + 1) + 1))), kc 3 0 (.v (.slice a0_p a0.length a0_c)), kc 4 0 (.i (1 + (dv a0 0 6))), kc 4 1 (.i (100 + (390 * (dv a0 1 256)))), kc 4 2 (.i (10 + (7 * (dv a0 2 256)))), kc 4 3 (.i (10 + (1900 * (dv a0 3 256)))), kc 4 4 (.o 8 9 ((x2.2.2.2.1 ++ [(⟨(x2.1 + 10) + (dv a0 x2.2.2.2.2 40), (x2.2.1 * (dv a0 ((x2.2.2.2.2 + 1)) 101)) / 100⟩ : Pt)]).length)), kc 4 5 (.v (.slice none 0 0)), kc 4 6 (.v (.slice none 0 0)), kc 4 7 (.i (dv a0 4 21)), kc 4 8 (.i (dv a0 5 101)), kc 4 9 (.i (2 * (dv a0 6 240))), kc 4 10 (.i (4 * (dv a0 7 256)))]) ?_ (kp rfl) rfl
   refine fin_swp [(8, 300), (9, 301)] rfl ?_
   exact fqc ((x2.1 + 10) + (dv a0 x2.2.2.2.2 40), (x2.2.1 * (dv a0 ((x2.2.2.2.2 + 1)) 101)) / 100, x2.2.2.1 + 1, (x2.2.2.2.1 ++ [(⟨(x2.1 + 10) + (dv a0 x2.2.2.2.2 40), (x2.2.1 * (dv a0 ((x2.2.2.2.2 + 1)) 101)) / 100⟩ : Pt)]), ((x2.2.2.2.2 + 1) + 1)) hm ⟨rfl, rfl, rfl, rfl, rfl, rfl, rfl, rfl, rfl, rfl, rfl, rfl, rfl, rfl, rfl, rfl, rfl, rfl, rfl, rfl, rfl, rfl, rfl, rfl, rfl, rfl, rfl, rfl, rfl, rfl, rfl, rfl, rfl, rfl, rfl, rfl, trivial⟩ rfl
  ·have hm := brk_f hz13 hm
   refine aw_exit ?_
   refine fqE ?_
   refine fqE ?_
   refine fin_block_exit ?_
   exact fqc (x2.2.2.2.1, x2.2.2.2.2) hm ⟨rfl, rfl, rfl, rfl, rfl, rfl, rfl, rfl, rfl, rfl, rfl, rfl, rfl, rfl, rfl, rfl, rfl, rfl, rfl, rfl, rfl, rfl, rfl, rfl, rfl, rfl, rfl, rfl, rfl, rfl, rfl, rfl, trivial⟩ rfl
 ·have _z := hm
  refine aqS ?_
  refine aqT (rows := [_, _, _, _]) rfl (by kernel_rfl) ⟨
   okp rfl rfl (oqM (lN rfl) rfl),
   okp rfl rfl (op_callLentL (ls := [⟨2, 3, [.i (idx a0 x1.2)], [.i (idx a0 (x1.2 + 1))]⟩, ⟨3, 22, [.v (.slice a0_p a0.length a0_c)], [.v (.slice a0_p a0.length a0_c)]⟩]) (x := .i (dv a0 x1.2 50)) (fs := []) (caps := [.p 2 0, .p 3 0]) (extra := []) (lN rfl) en_83 rfl ⟨rfl, rfl, rfl⟩ (EvL.cons rfl EvL.nil) ⟨rfl, ⟨rfl, trivial⟩, rfl, lb_ne rfl, ⟨rfl, ⟨rfl, trivial⟩, rfl, lb_ne rfl, trivial⟩⟩ (fun mm aa ww gg hr hrel hbx hlo => c83L 50 x1.2 (mm 2) a0 ⟨a0_p, a0.length, a0_c⟩ (mm 3) ww (hbx _ (.head _)) (hbx _ (.tail _ (.head _))) (SlIs.mono ha0 hrel.below) (sl_ne ha0 (box_hi hrel hlo.1)) (box_ne hrel hlo.2.2.2.2.1 hlo.1 (by decide)) (by decide) h8a0 hlena0)),
   okp rfl rfl (oqA (lN rfl) rfl),
   okp rfl rfl (oqA (lN rfl) rfl),
   trivial⟩ ?_
  refine fqK (s' := [kt 2 (.p 1 0), kt 3 (.f (.func 83) [] [.p 2 0, .p 3 0]), kt 4 (.p 4 0), kt 5 (.i 0), kt 6 (.i (dv a0 x1.2 50)), kb 1 25 11, kb 2 3 1, kb 3 22 1, kb 4 25 11, (.r 300, some (.vec true 301 84 2 (x1.1.flatMap ePt))), kc 1 0 (.i 0), kc 1 1 (.i 0), kc 1 2 (.i 0), kc 1 3 (.i 0), kc 1 4 (.v (.slice none 0 0)), kc 1 5 (.v (.slice none 0 0)), kc 1 6 (.v (.slice none 0 0)), kc 1 7 (.i 0), kc 1 8 (.i 0), kc 1 9 (.i 0), kc 1 10 (.i 0), kc 2 0 (.i (idx a0 (x1.2 + 1))), kc 3 0 (.v (.slice a0_p a0.length a0_c)), kc 4 0 (.i (1 + (dv a0 0 6))), kc 4 1 (.i (100 + (390 * (dv a0 1 256)))), kc 4 2 (.i (10 + (7 * (dv a0 2 256)))), kc 4 3 (.i (10 + (1900 * (dv a0 3 256)))), kc 4 4 (.o 300 301 x1.1.length), kc 4 5 (.v (.slice none 0 0)), kc 4 6 (.v (.slice none 0 0)), kc 4 7 (.i (dv a0 4 21)), kc 4 8 (.i (dv a0 5 101)), kc 4 9 (.i (2 * (dv a0 6 240))), kc 4 10 (.i (4 * (dv a0 7 256)))]) ?_ (kp rfl) rfl
  refine fqT ?_
  refine aqS ?_
  refine aqT (rows := [_, _, _, _, _]) rfl (by kernel_rfl) ⟨
   okp rfl rfl (oqM (lN rfl) rfl),
   okp rfl rfl (op_build (x := .g [.i 0, .i (dv a0 x1.2 50)]) (lN rfl) (EvL.cons rfl (EvL.cons rfl EvL.nil)) (fun m w => by kernel_rfl)),
   okp rfl rfl (op_buildSlice (L := 10) (ety := 84) (cs := [.i 0, .i (dv a0 x1.2 50)]) (lN rfl) (EvL.cons rfl EvL.nil) rfl (fun m w => by kernel_rfl)),
   okp rfl rfl (oqF (lN rfl) rfl fo_25_5),
   okp rfl rfl (oqs sz_23 rfl rfl rfl rfl (lN rfl)),
   trivial⟩ ?_
  refine fqK (s' := [kt 2 (.p 1 0), kt 3 (.f (.func 83) [] [.p 2 0, .p 3 0]), kt 4 (.p 4 0), kt 5 (.i 0), kt 6 (.i (dv a0 x1.2 50)), kb 1 25 11, kb 2 3 1, kb 3 22 1, kb 4 25 11, kb 10 84 2, (.r 300, some (.vec true 301 84 2 (x1.1.flatMap ePt))), kc 1 0 (.i 0), kc 1 1 (.i 0), kc 1 2 (.i 0), kc 1 3 (.i 0), kc 1 4 (.v (.slice none 0 0)), kc 1 5 (.v (.slice none 0 0)), kc 1 6 (.v (.slice none 0 0)), kc 1 7 (.i 0), kc 1 8 (.i 0), kc 1 9 (.i 0), kc 1 10 (.i 0), kc 2 0 (.i (idx a0 (x1.2 + 1))), kc 3 0 (.v (.slice a0_p a0.length a0_c)), kc 4 0 (.i (1 + (dv a0 0 6))), kc 4 1 (.i (100 + (390 * (dv a0 1 256)))), kc 4 2 (.i (10 + (7 * (dv a0 2 256)))), kc 4 3 (.i (10 + (1900 * (dv a0 3 256)))), kc 4 4 (.o 300 301 x1.1.length), kc 4 5 (.s 10 0 1 1), kc 4 6 (.v (.slice none 0 0)), kc 4 7 (.i (dv a0 4 21)), kc 4 8 (.i (dv a0 5 101)), kc 4 9 (.i (2 * (dv a0 6 240))), kc 4 10 (.i (4 * (dv a0 7 256))), kc 10 0 (.i 0), kc 10 1 (.i (dv a0 x1.2 50))]) ?_ (kp rfl) rfl
  refine fqT ?_
  refine aw_cutM (ι := List Pt × Nat) hm (fun x3 => [kt 2 (.p 1 0), kt 3 (.f (.func 83) [] [.p 2 0, .p 3 0]), kt 4 (.p 4 0), kb 1 25 11, kb 2 3 1, kb 3 22 1, kb 4 25 11, (.r 300, some (.vec true 301 84 2 (x1.1.flatMap ePt))), (.r 302, some (.vec true 303 84 2 (x3.1.flatMap ePt))), kc 1 0 (.i 0), kc 1 1 (.i 0), kc 1 2 (.i 0), kc 1 3 (.i 0), kc 1 4 (.v (.slice none 0 0)), kc 1 5 (.v (.slice none 0 0)), kc 1 6 (.v (.slice none 0 0)), kc 1 7 (.i 0), kc 1 8 (.i 0), kc 1 9 (.i 0), kc 1 10 (.i 0), kc 2 0 (.i (idx a0 x3.2)), kc 3 0 (.v (.slice a0_p a0.length a0_c)), kc 4 0 (.i (1 + (dv a0 0 6))), kc 4 1 (.i (100 + (390 * (dv a0 1 256)))), kc 4 2 (.i (10 + (7 * (dv a0 2 256)))), kc 4 3 (.i (10 + (1900 * (dv a0 3 256)))), kc 4 4 (.o 300 301 x1.1.length), kc 4 5 (.o 302 303 x3.1.length), kc 4 6 (.v (.slice none 0 0)), kc 4 7 (.i (dv a0 4 21)), kc 4 8 (.i (dv a0 5 101)), kc 4 9 (.i (2 * (dv a0 6 240))), kc 4 10 (.i (4 * (dv a0 7 256)))]) (fun hm => ?_) (fun x3 hm => ?_)
  ·have _z := hm
   refine aqS ?_
   obtain ⟨hp20, hm⟩ := chk_some hm
   refine aqT (rows := [_, _, _, _]) rfl (by kernel_rfl) ⟨
    okp rfl rfl (oqM (lN rfl) rfl),
    okp rfl rfl (op_callLentL (ls := [⟨2, 3, [.i (idx a0 (x1.2 + 1))], [.i (idx a0 ((x1.2 + 1) + 1))]⟩, ⟨3, 22, [.v (.slice a0_p a0.length a0_c)], [.v (.slice a0_p a0.length a0_c)]⟩]) (x := .i (dv a0 ((x1.2 + 1)) 3)) (fs := []) (caps := [.p 2 0, .p 3 0]) (extra := []) (lN rfl) en_83 rfl ⟨rfl, rfl, rfl⟩ (EvL.cons rfl EvL.nil) ⟨rfl, ⟨rfl, trivial⟩, rfl, lb_ne rfl, ⟨rfl, ⟨rfl, trivial⟩, rfl, lb_ne rfl, trivial⟩⟩ (fun mm aa ww gg hr hrel hbx hlo => c83L 3 ((x1.2 + 1)) (mm 2) a0 ⟨a0_p, a0.length, a0_c⟩ (mm 3) ww (hbx _ (.head _)) (hbx _ (.tail _ (.head _))) (SlIs.mono ha0 hrel.below) (sl_ne ha0 (box_hi hrel hlo.1)) (box_ne hrel hlo.2.2.2.2.1 hlo.1 (by decide)) (by decide) h8a0 hlena0)),
    okp rfl rfl (oqB (lN rfl) rfl rfl (nw_add hp20)),
    okp rfl rfl (oqM (lN rfl) rfl),
    trivial⟩ ?_
   refine fqK (s' := [kt 2 (.p 1 0), kt 3 (.f (.func 83) [] [.p 2 0, .p 3 0]), kt 4 (.p 4 0), kt 5 (.i 0), kt 6 (.i (dv a0 x1.2 50)), kt 75 (.i (1 + (dv a0 ((x1.2 + 1)) 3))), kt 76 (.i 0), kb 1 25 11, kb 2 3 1, kb 3 22 1, kb 4 25 11, kb 10 84 2, (.r 300, some (.vec true 301 84 2 (x1.1.flatMap ePt))), kc 1 0 (.i 0), kc 1 1 (.i 0), kc 1 2 (.i 0), kc 1 3 (.i 0), kc 1 4 (.v (.slice none 0 0)), kc 1 5 (.v (.slice none 0 0)), kc 1 6 (.v (.slice none 0 0)), kc 1 7 (.i 0), kc 1 8 (.i 0), kc 1 9 (.i 0), kc 1 10 (.i 0), kc 2 0 (.i (idx a0 ((x1.2 + 1) + 1))), kc 3 0 (.v (.slice a0_p a0.length a0_c)), kc 4 0 (.i (1 + (dv a0 0 6))), kc 4 1 (.i (100 + (390 * (dv a0 1 256)))), kc 4 2 (.i (10 + (7 * (dv a0 2 256)))), kc 4 3 (.i (10 + (1900 * (dv a0 3 256)))), kc 4 4 (.o 300 301 x1.1.length), kc 4 5 (.s 10 0 1 1), kc 4 6 (.v (.slice none 0 0)), kc 4 7 (.i (dv a0 4 21)), kc 4 8 (.i (dv a0 5 101)), kc 4 9 (.i (2 * (dv a0 6 240))), kc 4 10 (.i (4 * (dv a0 7 256))), kc 10 0 (.i 0), kc 10 1 (.i (dv a0 x1.2 50))]) ?_ (kp rfl) rfl
   refine fqT ?_
   refine aw_block ?_
   refine aw_toRow (.c 4 5) 10 11 1 2 [(.int .i64 0), (.int .i64 (dv a0 x1.2 50))] rfl rfl rfl rfl (by decide) ⟨rfl, rfl, trivial⟩ rfl (by decide) rfl ?_
   refine aw_swp [(10, 302), (11, 303)] rfl ?_
   refine aw_loopC hm (fun x4 => [kt 2 (.p 1 0), kt 3 (.f (.func 83) [] [.p 2 0, .p 3 0]), kt 4 (.p 4 0), kt 5 (.i x4.1), kt 6 (.i x4.2.1), kt 75 (.i (1 + (dv a0 ((x1.2 + 1)) 3))), kt 76 (.i x4.2.2.1), kb 1 25 11, kb 2 3 1, kb 3 22 1, kb 4 25 11, (.r 300, some (.vec true 301 84 2 (x1.1.flatMap ePt))), (.r 302, some (.vec true 303 84 2 (x4.2.2.2.1.flatMap ePt))), kc 1 0 (.i 0), kc 1 1 (.i 0), kc 1 2 (.i 0), kc 1 3 (.i 0), kc 1 4 (.v (.slice none 0 0)), kc 1 5 (.v (.slice none 0 0)), kc 1 6 (.v (.slice none 0 0)), kc 1 7 (.i 0), kc 1 8 (.i 0), kc 1 9 (.i 0), kc 1 10 (.i 0), kc 2 0 (.i (idx a0 x4.2.2.2.2)), kc 3 0 (.v (.slice a0_p a0.length a0_c)), kc 4 0 (.i (1 + (dv a0 0 6))), kc 4 1 (.i (100 + (390 * (dv a0 1 256)))), kc 4 2 (.i (10 + (7 * (dv a0 2 256)))), kc 4 3 (.i (10 + (1900 * (dv a0 3 256)))), kc 4 4 (.o 300 301 x1.1.length), kc 4 5 (.o 302 303 x4.2.2.2.1.length), kc 4 6 (.v (.slice none 0 0)), kc 4 7 (.i (dv a0 4 21)), kc 4 8 (.i (dv a0 5 101)), kc 4 9 (.i (2 * (dv a0 6 240))), kc 4 10 (.i (4 * (dv a0 7 256)))]) ⟨rfl, rfl, rfl, rfl, rfl, rfl, rfl, rfl, rfl, rfl, rfl, rfl, rfl, rfl, rfl, rfl, rfl, rfl, rfl, rfl, rfl, rfl, rfl, rfl, rfl, rfl, rfl, rfl, rfl, rfl, rfl, rfl, rfl, rfl, rfl, rfl, rfl, trivial⟩ rfl (fun x4 n4 hm => ?_)
   refine aqS ?_
   refine aqT (rows := [_]) rfl (by kernel_rfl) ⟨
    okp rfl rfl (oqB (lN rfl) rfl rfl rfl),
    trivial⟩ ?_
   refine fqK (s' := [kt 2 (.p 1 0), kt 3 (.f (.func 83) [] [.p 2 0, .p 3 0]), kt 4 (.p 4 0), kt 5 (.i x4.1), kt 6 (.i x4.2.1), kt 75 (.i (1 + (dv a0 ((x1.2 + 1)) 3))), kt 76 (.i x4.2.2.1), kt 77 (.B (decide (x4.2.2.1 < (1 + (dv a0 ((x1.2 + 1)) 3))))), kb 1 25 11, kb 2 3 1, kb 3 22 1, kb 4 25 11, (.r 300, some (.vec true 301 84 2 (x1.1.flatMap ePt))), (.r 302, some (.vec true 303 84 2 (x4.2.2.2.1.flatMap ePt))), kc 1 0 (.i 0), kc 1 1 (.i 0), kc 1 2 (.i 0), kc 1 3 (.i 0), kc 1 4 (.v (.slice none 0 0)), kc 1 5 (.v (.slice none 0 0)), kc 1 6 (.v (.slice none 0 0)), kc 1 7 (.i 0), kc 1 8 (.i 0), kc 1 9 (.i 0), kc 1 10 (.i 0), kc 2 0 (.i (idx a0 x4.2.2.2.2)), kc 3 0 (.v (.slice a0_p a0.length a0_c)), kc 4 0 (.i (1 + (dv a0 0 6))), kc 4 1 (.i (100 + (390 * (dv a0 1 256)))), kc 4 2 (.i (10 + (7 * (dv a0 2 256)))), kc 4 3 (.i (10 + (1900 * (dv a0 3 256)))), kc 4 4 (.o 300 301 x1.1.length), kc 4 5 (.o 302 303 x4.2.2.2.1.length), kc 4 6 (.v (.slice none 0 0)), kc 4 7 (.i (dv a0 4 21)), kc 4 8 (.i (dv a0 5 101)), kc 4 9 (.i (2 * (dv a0 6 240))), kc 4 10 (.i (4 * (dv a0 7 256)))]) ?_ (kp rfl) rfl
   refine fqT ?_
   refine aqS ?_
   refine aqc rfl (fun hz21 => ?_) (fun hz21 => ?_)
   ·have hm := brk_t hz21 hm
    refine aqk ?_
    refine fqT ?_
    refine aqS ?_
    refine aw_block ?_
    refine aqS ?_
    obtain ⟨hp22, hm⟩ := chk_some hm
    obtain ⟨hp23, hm⟩ := chk_some hm
    obtain ⟨hp24, hm⟩ := chk_some hm
    obtain ⟨hp25, hm⟩ := chk_some hm
    refine aqT (rows := [_, _, _, _, _, _, _, _, _, _, _, _]) rfl (by kernel_rfl) ⟨
     okp rfl rfl (oqM (lN rfl) rfl),
     okp rfl rfl (oqB (lN rfl) rfl rfl (nw_add hp22)),
     okp rfl rfl (oqM (lN rfl) rfl),
     okp rfl rfl (op_callLentL (ls := [⟨2, 3, [.i (idx a0 x4.2.2.2.2)], [.i (idx a0 (x4.2.2.2.2 + 1))]⟩, ⟨3, 22, [.v (.slice a0_p a0.length a0_c)], [.v (.slice a0_p a0.length a0_c)]⟩]) (x := .i (dv a0 x4.2.2.2.2 80)) (fs := []) (caps := [.p 2 0, .p 3 0]) (extra := []) (lN rfl) en_83 rfl ⟨rfl, rfl, rfl⟩ (EvL.cons rfl EvL.nil) ⟨rfl, ⟨rfl, trivial⟩, rfl, lb_ne rfl, ⟨rfl, ⟨rfl, trivial⟩, rfl, lb_ne rfl, trivial⟩⟩ (fun mm aa ww gg hr hrel hbx hlo => c83L 80 x4.2.2.2.2 (mm 2) a0 ⟨a0_p, a0.length, a0_c⟩ (mm 3) ww (hbx _ (.head _)) (hbx _ (.tail _ (.head _))) (SlIs.mono ha0 hrel.below) (sl_ne ha0 (box_hi hrel hlo.1)) (box_ne hrel hlo.2.2.2.2.1 hlo.1 (by decide)) (by decide) h8a0 hlena0)),
     okp rfl rfl (oqB (lN rfl) rfl rfl (nw_add hp23)),
     okp rfl rfl (oqM (lN rfl) rfl),
     okp rfl rfl (oqM (lN rfl) rfl),
     okp rfl rfl (op_callLentL (ls := [⟨2, 3, [.i (idx a0 (x4.2.2.2.2 + 1))], [.i (idx a0 ((x4.2.2.2.2 + 1) + 1))]⟩, ⟨3, 22, [.v (.slice a0_p a0.length a0_c)], [.v (.slice a0_p a0.length a0_c)]⟩]) (x := .i (dv a0 ((x4.2.2.2.2 + 1)) 256)) (fs := []) (caps := [.p 2 0, .p 3 0]) (extra := []) (lN rfl) en_83 rfl ⟨rfl, rfl, rfl⟩ (EvL.cons rfl EvL.nil) ⟨rfl, ⟨rfl, trivial⟩, rfl, lb_ne rfl, ⟨rfl, ⟨rfl, trivial⟩, rfl, lb_ne rfl, trivial⟩⟩ (fun mm aa ww gg hr hrel hbx hlo => c83L 256 ((x4.2.2.2.2 + 1)) (mm 2) a0 ⟨a0_p, a0.length, a0_c⟩ (mm 3) ww (hbx _ (.head _)) (hbx _ (.tail _ (.head _))) (SlIs.mono ha0 hrel.below) (sl_ne ha0 (box_hi hrel hlo.1)) (box_ne hrel hlo.2.2.2.2.1 hlo.1 (by decide)) (by decide) h8a0 hlena0)),
     okp rfl rfl (oqB (lN rfl) rfl rfl (nw_mul hp24)),
     okp rfl rfl (oqB (lN rfl) rfl rfl (nw_add hp25)),
     okp rfl rfl (oqA (lN rfl) rfl),
     okp rfl rfl (oqA (lN rfl) rfl),
     trivial⟩ ?_
    refine fqK (s' := [kt 2 (.p 1 0), kt 3 (.f (.func 83) [] [.p 2 0, .p 3 0]), kt 4 (.p 4 0), kt 5 (.i ((x4.1 + 1) + (dv a0 x4.2.2.2.2 80))), kt 6 (.i (x4.2.1 + (3 * (dv a0 ((x4.2.2.2.2 + 1)) 256)))), kt 75 (.i (1 + (dv a0 ((x1.2 + 1)) 3))), kt 76 (.i x4.2.2.1), kb 1 25 11, kb 2 3 1, kb 3 22 1, kb 4 25 11, (.r 300, some (.vec true 301 84 2 (x1.1.flatMap ePt))), (.r 302, some (.vec true 303 84 2 (x4.2.2.2.1.flatMap ePt))), kc 1 0 (.i 0), kc 1 1 (.i 0), kc 1 2 (.i 0), kc 1 3 (.i 0), kc 1 4 (.v (.slice none 0 0)), kc 1 5 (.v (.slice none 0 0)), kc 1 6 (.v (.slice none 0 0)), kc 1 7 (.i 0), kc 1 8 (.i 0), kc 1 9 (.i 0), kc 1 10 (.i 0), kc 2 0 (.i (idx a0 ((x4.2.2.2.2 + 1) + 1))), kc 3 0 (.v (.slice a0_p a0.length a0_c)), kc 4 0 (.i (1 + (dv a0 0 6))), kc 4 1 (.i (100 + (390 * (dv a0 1 256)))), kc 4 2 (.i (10 + (7 * (dv a0 2 256)))), kc 4 3 (.i (10 + (1900 * (dv a0 3 256)))), kc 4 4 (.o 300 301 x1.1.length), kc 4 5 (.o 302 303 x4.2.2.2.1.length), kc 4 6 (.v (.slice none 0 0)), kc 4 7 (.i (dv a0 4 21)), kc 4 8 (.i (dv a0 5 101)), kc 4 9 (.i (2 * (dv a0 6 240))), kc 4 10 (.i (4 * (dv a0 7 256)))]) ?_ (kp rfl) rfl
    refine fqT ?_
    obtain ⟨hp26, hm⟩ := chk_some hm
    refine aqT (rows := [_, _, _, _, _, _, _, _, _]) rfl (by kernel_rfl) ⟨
     okp rfl rfl (oqF (lN rfl) rfl fo_25_5),
     okp rfl rfl (oq1 (lN rfl) sh_23 rfl rfl),
     okp rfl rfl (oqM (lN rfl) rfl),
     okp rfl rfl (oqM (lN rfl) rfl),
     okp rfl rfl (op_build (x := .g [.i ((x4.1 + 1) + (dv a0 x4.2.2.2.2 80)), .i (x4.2.1 + (3 * (dv a0 ((x4.2.2.2.2 + 1)) 256)))]) (lN rfl) (EvL.cons rfl (EvL.cons rfl EvL.nil)) (fun m w => by kernel_rfl)),
     okp rfl rfl (op_buildSlice (L := 12) (ety := 84) (cs := [.i ((x4.1 + 1) + (dv a0 x4.2.2.2.2 80)), .i (x4.2.1 + (3 * (dv a0 ((x4.2.2.2.2 + 1)) 256)))]) (lN rfl) (EvL.cons rfl EvL.nil) rfl (fun m w => by kernel_rfl)),
     okp rfl rfl (op_append (L' := 13) (C' := 14) (vs := [(.int .i64 ((x4.1 + 1) + (dv a0 x4.2.2.2.2 80))), (.int .i64 (x4.2.1 + (3 * (dv a0 ((x4.2.2.2.2 + 1)) 256))))]) (lN rfl) af_23 rfl rfl (flat_length (enc := ePt) (fun _ => rfl) x4.2.2.2.1) rfl ⟨rfl, rfl, trivial⟩ rfl rfl (by decide) (by have := hp26; omega) (by have := hp26; omega) (by decide)),
     okp rfl rfl (oqF (lN rfl) rfl fo_25_5),
     okp rfl rfl (oqs sz_23 rfl rfl rfl rfl (lN rfl)),
     trivial⟩ ?_
    refine fqK (s' := [kt 2 (.p 1 0), kt 3 (.f (.func 83) [] [.p 2 0, .p 3 0]), kt 4 (.p 4 0), kt 5 (.i ((x4.1 + 1) + (dv a0 x4.2.2.2.2 80))), kt 6 (.i (x4.2.1 + (3 * (dv a0 ((x4.2.2.2.2 + 1)) 256)))), kt 75 (.i (1 + (dv a0 ((x1.2 + 1)) 3))), kt 76 (.i x4.2.2.1), kb 1 25 11, kb 2 3 1, kb 3 22 1, kb 4 25 11, (.r 13, some (.vec true 14 84 2 ((x4.2.2.2.1 ++ [(⟨(x4.1 + 1) + (dv a0 x4.2.2.2.2 80), x4.2.1 + (3 * (dv a0 ((x4.2.2.2.2 + 1)) 256))⟩ : Pt)]).flatMap ePt))), (.r 300, some (.vec true 301 84 2 (x1.1.flatMap ePt))), kc 1 0 (.i 0), kc 1 1 (.i 0), kc 1 2 (.i 0), kc 1 3 (.i 0), kc 1 4 (.v (.slice none 0 0)), kc 1 5 (.v (.slice none 0 0)), kc 1 6 (.v (.slice none 0 0)), kc 1 7 (.i 0), kc 1 8 (.i 0), kc 1 9 (.i 0), kc 1 10 (.i 0), kc 2 0 (.i (idx a0 ((x4.2.2.2.2 + 1) + 1))), kc 3 0 (.v (.slice a0_p a0.length a0_c)), kc 4 0 (.i (1 + (dv a0 0 6))), kc 4 1 (.i (100 + (390 * (dv a0 1 256)))), kc 4 2 (.i (10 + (7 * (dv a0 2 256)))), kc 4 3 (.i (10 + (1900 * (dv a0 3 256)))), kc 4 4 (.o 300 301 x1.1.length), kc 4 5 (.o 13 14 ((x4.2.2.2.1 ++ [(⟨(x4.1 + 1) + (dv a0 x4.2.2.2.2 80), x4.2.1 + (3 * (dv a0 ((x4.2.2.2.2 + 1)) 256))⟩ : Pt)]).length)), kc 4 6 (.v (.slice none 0 0)), kc 4 7 (.i (dv a0 4 21)), kc 4 8 (.i (dv a0 5 101)), kc 4 9 (.i (2 * (dv a0 6 240))), kc 4 10 (.i (4 * (dv a0 7 256)))]) ?_ ⟨rfl, rfl, rfl, rfl, rfl, rfl, rfl, rfl, rfl, rfl, rfl, (Eq.trans (b := some (Val.vec true 14 84 2 (x4.2.2.2.1.flatMap ePt ++ [(.int .i64 ((x4.1 + 1) + (dv a0 x4.2.2.2.2 80))), (.int .i64 (x4.2.1 + (3 * (dv a0 ((x4.2.2.2.2 + 1)) 256))))]))) rfl (congrArg (fun q => some (Val.vec true 14 84 2 q)) (flat_snoc (enc := ePt) x4.2.2.2.1 ((⟨(x4.1 + 1) + (dv a0 x4.2.2.2.2 80), x4.2.1 + (3 * (dv a0 ((x4.2.2.2.2 + 1)) 256))⟩ : Pt))))), rfl, rfl, rfl, rfl, rfl, rfl, rfl, rfl, rfl, rfl, rfl, rfl, rfl, rfl, rfl, rfl, rfl, rfl, rfl, (congrArg (fun q => some (Val.x (SV.o 13 14 q))) (len_snoc x4.2.2.2.1 ((⟨(x4.1 + 1) + (dv a0 x4.2.2.2.2 80), x4.2.1 + (3 * (dv a0 ((x4.2.2.2.2 + 1)) 256))⟩ : Pt)))), rfl, rfl, rfl, rfl, rfl, trivial⟩ rfl
    refine fqB ?_
    refine fqT ?_
    obtain ⟨hp27, hm⟩ := chk_some hm
    refine aqT (rows := [_, _]) rfl (by kernel_rfl) ⟨
     okp rfl rfl (oqB (lN rfl) rfl rfl (nw_add hp27)),
     okp rfl rfl (oqM (lN rfl) rfl),
     trivial⟩ ?_
    refine fqK (s' := [kt 2 (.p 1 0), kt 3 (.f (.func 83) [] [.p 2 0, .p 3 0]), kt 4 (.p 4 0), kt 5 (.i ((x4.1 + 1) + (dv a0 x4.2.2.2.2 80))), kt 6 (.i (x4.2.1 + (3 * (dv a0 ((x4.2.2.2.2 + 1)) 256)))), kt 75 (.i (1 + (dv a0 ((x1.2 + 1)) 3))), kt 76 (.i (x4.2.2.1 + 1)), kb 1 25 11, kb 2 3 1, kb 3 22 1, kb 4 25 11, (.r 13, some (.vec true 14 84 2 ((x4.2.2.2.1 ++ [(⟨(x4.1 + 1) + (dv a0 x4.2.2.2.2 80), x4.2.1 + (3 * (dv a0 ((x4.2.2.2.2 + 1)) 256))⟩ : Pt)]).flatMap ePt))), (.r 300, some (.vec true 301 84 2 (x1.1.flatMap ePt))), kc 1 0 (.i 0), kc 1 1 (.i 0), kc 1 2 (.i 0), kc 1 3 (.i 0), kc 1 4 (.v (.slice none 0 0)), kc 1 5 (.v (.slice none 0 0)), kc 1 6 (.v (.slice none 0 0)), kc 1 7 (.i 0), kc 1 8 (.i 0), kc 1 9 (.i 0), kc 1 10 (.i 0), kc 2 0 (.i (idx a0 ((x4.2.2.2.2 + 1) + 1))), kc 3 0 (.v (.slice a0_p a0.length a0_c)), kc 4 0 (.i (1 + (dv a0 0 6))), kc 4 1 (.i (100 + (390 * (dv a0 1 256)))), kc 4 2 (.i (10 + (7 * (dv a0 2 256)))), kc 4 3 (.i (10 + (1900 * (dv a0 3 256)))), kc 4 4 (.o 300 301 x1.1.length), kc 4 5 (.o 13 14 ((x4.2.2.2.1 ++ [(⟨(x4.1 + 1) + (dv a0 x4.2.2.2.2 80), x4.2.1 + (3 * (dv a0 ((x4.2.2.2.2 + 1)) 256))⟩ : Pt)]).length)), kc 4 6 (.v (.slice none 0 0)), kc 4 7 (.i (dv a0 4 21)), kc 4 8 (.i (dv a0 5 101)), kc 4 9 (.i (2 * (dv a0 6 240))), kc 4 10 (.i (4 * (dv a0 7 256)))]) ?_ (kp rfl) rfl
    refine fin_swp [(13, 302), (14, 303)] rfl ?_
    exact fqc ((x4.1 + 1) + (dv a0 x4.2.2.2.2 80), x4.2.1 + (3 * (dv a0 ((x4.2.2.2.2 + 1)) 256)), x4.2.2.1 + 1, (x4.2.2.2.1 ++ [(⟨(x4.1 + 1) + (dv a0 x4.2.2.2.2 80), x4.2.1 + (3 * (dv a0 ((x4.2.2.2.2 + 1)) 256))⟩ : Pt)]), ((x4.2.2.2.2 + 1) + 1)) hm ⟨rfl, rfl, rfl, rfl, rfl, rfl, rfl, rfl, rfl, rfl, rfl, rfl, rfl, rfl, rfl, rfl, rfl, rfl, rfl, rfl, rfl, rfl, rfl, rfl, rfl, rfl, rfl, rfl, rfl, rfl, rfl, rfl, rfl, rfl, rfl, rfl, rfl, trivial⟩ rfl
   ·have hm := brk_f hz21 hm
    refine aw_exit ?_
    refine fqE ?_
    refine fqE ?_
    refine fin_block_exit ?_
    exact fqc (x4.2.2.2.1, x4.2.2.2.2) hm ⟨rfl, rfl, rfl, rfl, rfl, rfl, rfl, rfl, rfl, rfl, rfl, rfl, rfl, rfl, rfl, rfl, rfl, rfl, rfl, rfl, rfl, rfl, rfl, rfl, rfl, rfl, rfl, rfl, rfl, rfl, rfl, rfl, rfl, trivial⟩ rfl
  ·have _z := hm
   refine aqS ?_
   refine aqT (rows := [_, _]) rfl (by kernel_rfl) ⟨
    okp rfl rfl (oqA (lN rfl) rfl),
    okp rfl rfl (oqA (lN rfl) rfl),
    trivial⟩ ?_
   refine fqK (s' := [kt 2 (.p 1 0), kt 3 (.f (.func 83) [] [.p 2 0, .p 3 0]), kt 4 (.p 4 0), kt 5 (.i 0), kt 6 (.i 0), kb 1 25 11, kb 2 3 1, kb 3 22 1, kb 4 25 11, (.r 300, some (.vec true 301 84 2 (x1.1.flatMap ePt))), (.r 302, some (.vec true 303 84 2 (x3.1.flatMap ePt))), kc 1 0 (.i 0), kc 1 1 (.i 0), kc 1 2 (.i 0), kc 1 3 (.i 0), kc 1 4 (.v (.slice none 0 0)), kc 1 5 (.v (.slice none 0 0)), kc 1 6 (.v (.slice none 0 0)), kc 1 7 (.i 0), kc 1 8 (.i 0), kc 1 9 (.i 0), kc 1 10 (.i 0), kc 2 0 (.i (idx a0 x3.2)), kc 3 0 (.v (.slice a0_p a0.length a0_c)), kc 4 0 (.i (1 + (dv a0 0 6))), kc 4 1 (.i (100 + (390 * (dv a0 1 256)))), kc 4 2 (.i (10 + (7 * (dv a0 2 256)))), kc 4 3 (.i (10 + (1900 * (dv a0 3 256)))), kc 4 4 (.o 300 301 x1.1.length), kc 4 5 (.o 302 303 x3.1.length), kc 4 6 (.v (.slice none 0 0)), kc 4 7 (.i (dv a0 4 21)), kc 4 8 (.i (dv a0 5 101)), kc 4 9 (.i (2 * (dv a0 6 240))), kc 4 10 (.i (4 * (dv a0 7 256)))]) ?_ (kp rfl) rfl
   refine fqT ?_
   refine aqS ?_
   refine aqT (rows := [_, _, _, _]) rfl (by kernel_rfl) ⟨
    okp rfl rfl (op_build (x := .g [.i 0, .i 0]) (lN rfl) EvL.nil (fun m w => by kernel_rfl)),
    okp rfl rfl (op_buildSlice (L := 15) (ety := 84) (cs := [.i 0, .i 0]) (lN rfl) (EvL.cons rfl EvL.nil) rfl (fun m w => by kernel_rfl)),
    okp rfl rfl (oqF (lN rfl) rfl fo_25_6),
    okp rfl rfl (oqs sz_23 rfl rfl rfl rfl (lN rfl)),
    trivial⟩ ?_
   refine fqK (s' := [kt 2 (.p 1 0), kt 3 (.f (.func 83) [] [.p 2 0, .p 3 0]), kt 4 (.p 4 0), kt 5 (.i 0), kt 6 (.i 0), kb 1 25 11, kb 2 3 1, kb 3 22 1, kb 4 25 11, kb 15 84 2, (.r 300, some (.vec true 301 84 2 (x1.1.flatMap ePt))), (.r 302, some (.vec true 303 84 2 (x3.1.flatMap ePt))), kc 1 0 (.i 0), kc 1 1 (.i 0), kc 1 2 (.i 0), kc 1 3 (.i 0), kc 1 4 (.v (.slice none 0 0)), kc 1 5 (.v (.slice none 0 0)), kc 1 6 (.v (.slice none 0 0)), kc 1 7 (.i 0), kc 1 8 (.i 0), kc 1 9 (.i 0), kc 1 10 (.i 0), kc 2 0 (.i (idx a0 x3.2)), kc 3 0 (.v (.slice a0_p a0.length a0_c)), kc 4 0 (.i (1 + (dv a0 0 6))), kc 4 1 (.i (100 + (390 * (dv a0 1 256)))), kc 4 2 (.i (10 + (7 * (dv a0 2 256)))), kc 4 3 (.i (10 + (1900 * (dv a0 3 256)))), kc 4 4 (.o 300 301 x1.1.length), kc 4 5 (.o 302 303 x3.1.length), kc 4 6 (.s 15 0 1 1), kc 4 7 (.i (dv a0 4 21)), kc 4 8 (.i (dv a0 5 101)), kc 4 9 (.i (2 * (dv a0 6 240))), kc 4 10 (.i (4 * (dv a0 7 256))), kc 15 0 (.i 0), kc 15 1 (.i 0)]) ?_ (kp rfl) rfl
   refine fqT ?_
   refine aw_cutM (ι := Int × List Pt × Nat) hm (fun x5 => [kt 2 (.p 1 0), kt 3 (.f (.func 83) [] [.p 2 0, .p 3 0]), kt 4 (.p 4 0), kt 6 (.i x5.1), kb 1 25 11, kb 2 3 1, kb 3 22 1, kb 4 25 11, (.r 300, some (.vec true 301 84 2 (x1.1.flatMap ePt))), (.r 302, some (.vec true 303 84 2 (x3.1.flatMap ePt))), (.r 304, some (.vec true 305 84 2 (x5.2.1.flatMap ePt))), kc 1 0 (.i 0), kc 1 1 (.i 0), kc 1 2 (.i 0), kc 1 3 (.i 0), kc 1 4 (.v (.slice none 0 0)), kc 1 5 (.v (.slice none 0 0)), kc 1 6 (.v (.slice none 0 0)), kc 1 7 (.i 0), kc 1 8 (.i 0), kc 1 9 (.i 0), kc 1 10 (.i 0), kc 2 0 (.i (idx a0 x5.2.2)), kc 3 0 (.v (.slice a0_p a0.length a0_c)), kc 4 0 (.i (1 + (dv a0 0 6))), kc 4 1 (.i (100 + (390 * (dv a0 1 256)))), kc 4 2 (.i (10 + (7 * (dv a0 2 256)))), kc 4 3 (.i (10 + (1900 * (dv a0 3 256)))), kc 4 4 (.o 300 301 x1.1.length), kc 4 5 (.o 302 303 x3.1.length), kc 4 6 (.o 304 305 x5.2.1.length), kc 4 7 (.i (dv a0 4 21)), kc 4 8 (.i (dv a0 5 101)), kc 4 9 (.i (2 * (dv a0 6 240))), kc 4 10 (.i (4 * (dv a0 7 256)))]) (fun hm => ?_) (fun x5 hm => ?_)
   ·have _z := hm
    refine aqS ?_
    refine aqT (rows := [_, _, _]) rfl (by kernel_rfl) ⟨
     okp rfl rfl (oqM (lN rfl) rfl),
     okp rfl rfl (op_callLentL (ls := [⟨2, 3, [.i (idx a0 x3.2)], [.i (idx a0 (x3.2 + 1))]⟩, ⟨3, 22, [.v (.slice a0_p a0.length a0_c)], [.v (.slice a0_p a0.length a0_c)]⟩]) (x := .i (dv a0 x3.2 4)) (fs := []) (caps := [.p 2 0, .p 3 0]) (extra := []) (lN rfl) en_83 rfl ⟨rfl, rfl, rfl⟩ (EvL.cons rfl EvL.nil) ⟨rfl, ⟨rfl, trivial⟩, rfl, lb_ne rfl, ⟨rfl, ⟨rfl, trivial⟩, rfl, lb_ne rfl, trivial⟩⟩ (fun mm aa ww gg hr hrel hbx hlo => c83L 4 x3.2 (mm 2) a0 ⟨a0_p, a0.length, a0_c⟩ (mm 3) ww (hbx _ (.head _)) (hbx _ (.tail _ (.head _))) (SlIs.mono ha0 hrel.below) (sl_ne ha0 (box_hi hrel hlo.1)) (box_ne hrel hlo.2.2.2.2.1 hlo.1 (by decide)) (by decide) h8a0 hlena0)),
     okp rfl rfl (oqM (lN rfl) rfl),
     trivial⟩ ?_
    refine fqK (s' := [kt 2 (.p 1 0), kt 3 (.f (.func 83) [] [.p 2 0, .p 3 0]), kt 4 (.p 4 0), kt 5 (.i 0), kt 6 (.i 0), kt 101 (.i (dv a0 x3.2 4)), kt 102 (.i 0), kb 1 25 11, kb 2 3 1, kb 3 22 1, kb 4 25 11, kb 15 84 2, (.r 300, some (.vec true 301 84 2 (x1.1.flatMap ePt))), (.r 302, some (.vec true 303 84 2 (x3.1.flatMap ePt))), kc 1 0 (.i 0), kc 1 1 (.i 0), kc 1 2 (.i 0), kc 1 3 (.i 0), kc 1 4 (.v (.slice none 0 0)), kc 1 5 (.v (.slice none 0 0)), kc 1 6 (.v (.slice none 0 0)), kc 1 7 (.i 0), kc 1 8 (.i 0), kc 1 9 (.i 0), kc 1 10 (.i 0), kc 2 0 (.i (idx a0 (x3.2 + 1))), kc 3 0 (.v (.slice a0_p a0.length a0_c)), kc 4 0 (.i (1 + (dv a0 0 6))), kc 4 1 (.i (100 + (390 * (dv a0 1 256)))), kc 4 2 (.i (10 + (7 * (dv a0 2 256)))), kc 4 3 (.i (10 + (1900 * (dv a0 3 256)))), kc 4 4 (.o 300 301 x1.1.length), kc 4 5 (.o 302 303 x3.1.length), kc 4 6 (.s 15 0 1 1), kc 4 7 (.i (dv a0 4 21)), kc 4 8 (.i (dv a0 5 101)), kc 4 9 (.i (2 * (dv a0 6 240))), kc 4 10 (.i (4 * (dv a0 7 256))), kc 15 0 (.i 0), kc 15 1 (.i 0)]) ?_ (kp rfl) rfl
    refine fqT ?_
    refine aw_block ?_
    refine aw_toRow (.c 4 6) 15 16 1 2 [(.int .i64 0), (.int .i64 0)] rfl rfl rfl rfl (by decide) ⟨rfl, rfl, trivial⟩ rfl (by decide) rfl ?_
    refine aw_swp [(15, 304), (16, 305)] rfl ?_
    refine aw_loopC hm (fun x6 => [kt 2 (.p 1 0), kt 3 (.f (.func 83) [] [.p 2 0, .p 3 0]), kt 4 (.p 4 0), kt 5 (.i x6.1), kt 6 (.i x6.2.1), kt 101 (.i (dv a0 x3.2 4)), kt 102 (.i x6.2.2.1), kb 1 25 11, kb 2 3 1, kb 3 22 1, kb 4 25 11, (.r 300, some (.vec true 301 84 2 (x1.1.flatMap ePt))), (.r 302, some (.vec true 303 84 2 (x3.1.flatMap ePt))), (.r 304, some (.vec true 305 84 2 (x6.2.2.2.1.flatMap ePt))), kc 1 0 (.i 0), kc 1 1 (.i 0), kc 1 2 (.i 0), kc 1 3 (.i 0), kc 1 4 (.v (.slice none 0 0)), kc 1 5 (.v (.slice none 0 0)), kc 1 6 (.v (.slice none 0 0)), kc 1 7 (.i 0), kc 1 8 (.i 0), kc 1 9 (.i 0), kc 1 10 (.i 0), kc 2 0 (.i (idx a0 x6.2.2.2.2)), kc 3 0 (.v (.slice a0_p a0.length a0_c)), kc 4 0 (.i (1 + (dv a0 0 6))), kc 4 1 (.i (100 + (390 * (dv a0 1 256)))), kc 4 2 (.i (10 + (7 * (dv a0 2 256)))), kc 4 3 (.i (10 + (1900 * (dv a0 3 256)))), kc 4 4 (.o 300 301 x1.1.length), kc 4 5 (.o 302 303 x3.1.length), kc 4 6 (.o 304 305 x6.2.2.2.1.length), kc 4 7 (.i (dv a0 4 21)), kc 4 8 (.i (dv a0 5 101)), kc 4 9 (.i (2 * (dv a0 6 240))), kc 4 10 (.i (4 * (dv a0 7 256)))]) ⟨rfl, rfl, rfl, rfl, rfl, rfl, rfl, rfl, rfl, rfl, rfl, rfl, rfl, rfl, rfl, rfl, rfl, rfl, rfl, rfl, rfl, rfl, rfl, rfl, rfl, rfl, rfl, rfl, rfl, rfl, rfl, rfl, rfl, rfl, rfl, rfl, rfl, rfl, trivial⟩ rfl (fun x6 n6 hm => ?_)
    refine aqS ?_
    refine aqT (rows := [_]) rfl (by kernel_rfl) ⟨
     okp rfl rfl (oqB (lN rfl) rfl rfl rfl),
     trivial⟩ ?_
    refine fqK (s' := [kt 2 (.p 1 0), kt 3 (.f (.func 83) [] [.p 2 0, .p 3 0]), kt 4 (.p 4 0), kt 5 (.i x6.1), kt 6 (.i x6.2.1), kt 101 (.i (dv a0 x3.2 4)), kt 102 (.i x6.2.2.1), kt 103 (.B (decide (x6.2.2.1 < (dv a0 x3.2 4)))), kb 1 25 11, kb 2 3 1, kb 3 22 1, kb 4 25 11, (.r 300, some (.vec true 301 84 2 (x1.1.flatMap ePt))), (.r 302, some (.vec true 303 84 2 (x3.1.flatMap ePt))), (.r 304, some (.vec true 305 84 2 (x6.2.2.2.1.flatMap ePt))), kc 1 0 (.i 0), kc 1 1 (.i 0), kc 1 2 (.i 0), kc 1 3 (.i 0), kc 1 4 (.v (.slice none 0 0)), kc 1 5 (.v (.slice none 0 0)), kc 1 6 (.v (.slice none 0 0)), kc 1 7 (.i 0), kc 1 8 (.i 0), kc 1 9 (.i 0), kc 1 10 (.i 0), kc 2 0 (.i (idx a0 x6.2.2.2.2)), kc 3 0 (.v (.slice a0_p a0.length a0_c)), kc 4 0 (.i (1 + (dv a0 0 6))), kc 4 1 (.i (100 + (390 * (dv a0 1 256)))), kc 4 2 (.i (10 + (7 * (dv a0 2 256)))), kc 4 3 (.i (10 + (1900 * (dv a0 3 256)))), kc 4 4 (.o 300 301 x1.1.length), kc 4 5 (.o 302 303 x3.1.length), kc 4 6 (.o 304 305 x6.2.2.2.1.length), kc 4 7 (.i (dv a0 4 21)), kc 4 8 (.i (dv a0 5 101)), kc 4 9 (.i (2 * (dv a0 6 240))), kc 4 10 (.i (4 * (dv a0 7 256)))]) ?_ (kp rfl) rfl
    refine fqT ?_
    refine aqS ?_
    refine aqc rfl (fun hz28 => ?_) (fun hz28 => ?_)
    ·have hm := brk_t hz28 hm
     refine aqk ?_
     refine fqT ?_
     refine aqS ?_
     refine aw_block ?_
     refine aqS ?_
     obtain ⟨hp29, hm⟩ := chk_some hm
     obtain ⟨hp30, hm⟩ := chk_some hm
     obtain ⟨hp31, hm⟩ := chk_some hm
     obtain ⟨hp32, hm⟩ := chk_some hm
     refine aqT (rows := [_, _, _, _, _, _, _, _, _, _, _, _]) rfl (by kernel_rfl) ⟨
      okp rfl rfl (oqM (lN rfl) rfl),
      okp rfl rfl (oqB (lN rfl) rfl rfl (nw_add hp29)),
      okp rfl rfl (oqM (lN rfl) rfl),
      okp rfl rfl (op_callLentL (ls := [⟨2, 3, [.i (idx a0 x6.2.2.2.2)], [.i (idx a0 (x6.2.2.2.2 + 1))]⟩, ⟨3, 22, [.v (.slice a0_p a0.length a0_c)], [.v (.slice a0_p a0.length a0_c)]⟩]) (x := .i (dv a0 x6.2.2.2.2 90)) (fs := []) (caps := [.p 2 0, .p 3 0]) (extra := []) (lN rfl) en_83 rfl ⟨rfl, rfl, rfl⟩ (EvL.cons rfl EvL.nil) ⟨rfl, ⟨rfl, trivial⟩, rfl, lb_ne rfl, ⟨rfl, ⟨rfl, trivial⟩, rfl, lb_ne rfl, trivial⟩⟩ (fun mm aa ww gg hr hrel hbx hlo => c83L 90 x6.2.2.2.2 (mm 2) a0 ⟨a0_p, a0.length, a0_c⟩ (mm 3) ww (hbx _ (.head _)) (hbx _ (.tail _ (.head _))) (SlIs.mono ha0 hrel.below) (sl_ne ha0 (box_hi hrel hlo.1)) (box_ne hrel hlo.2.2.2.2.1 hlo.1 (by decide)) (by decide) h8a0 hlena0)),
      okp rfl rfl (oqB (lN rfl) rfl rfl (nw_add hp30)),
      okp rfl rfl (oqM (lN rfl) rfl),
      okp rfl rfl (oqM (lN rfl) rfl),
      okp rfl rfl (op_callLentL (ls := [⟨2, 3, [.i (idx a0 (x6.2.2.2.2 + 1))], [.i (idx a0 ((x6.2.2.2.2 + 1) + 1))]⟩, ⟨3, 22, [.v (.slice a0_p a0.length a0_c)], [.v (.slice a0_p a0.length a0_c)]⟩]) (x := .i (dv a0 ((x6.2.2.2.2 + 1)) 256)) (fs := []) (caps := [.p 2 0, .p 3 0]) (extra := []) (lN rfl) en_83 rfl ⟨rfl, rfl, rfl⟩ (EvL.cons rfl EvL.nil) ⟨rfl, ⟨rfl, trivial⟩, rfl, lb_ne rfl, ⟨rfl, ⟨rfl, trivial⟩, rfl, lb_ne rfl, trivial⟩⟩ (fun mm aa ww gg hr hrel hbx hlo => c83L 256 ((x6.2.2.2.2 + 1)) (mm 2) a0 ⟨a0_p, a0.length, a0_c⟩ (mm 3) ww (hbx _ (.head _)) (hbx _ (.tail _ (.head _))) (SlIs.mono ha0 hrel.below) (sl_ne ha0 (box_hi hrel hlo.1)) (box_ne hrel hlo.2.2.2.2.1 hlo.1 (by decide)) (by decide) h8a0 hlena0)),
      okp rfl rfl (oqB (lN rfl) rfl rfl (nw_mul hp31)),
      okp rfl rfl (oqB (lN rfl) rfl rfl (nw_add hp32)),
      okp rfl rfl (oqA (lN rfl) rfl),
      okp rfl rfl (oqA (lN rfl) rfl),
      trivial⟩ ?_
     refine fqK (s' := [kt 2 (.p 1 0), kt 3 (.f (.func 83) [] [.p 2 0, .p 3 0]), kt 4 (.p 4 0), kt 5 (.i ((x6.1 + 1) + (dv a0 x6.2.2.2.2 90))), kt 6 (.i (x6.2.1 + (3 * (dv a0 ((x6.2.2.2.2 + 1)) 256)))), kt 101 (.i (dv a0 x3.2 4)), kt 102 (.i x6.2.2.1), kb 1 25 11, kb 2 3 1, kb 3 22 1, kb 4 25 11, (.r 300, some (.vec true 301 84 2 (x1.1.flatMap ePt))), (.r 302, some (.vec true 303 84 2 (x3.1.flatMap ePt))), (.r 304, some (.vec true 305 84 2 (x6.2.2.2.1.flatMap ePt))), kc 1 0 (.i 0), kc 1 1 (.i 0), kc 1 2 (.i 0), kc 1 3 (.i 0), kc 1 4 (.v (.slice none 0 0)), kc 1 5 (.v (.slice none 0 0)), kc 1 6 (.v (.slice none 0 0)), kc 1 7 (.i 0), kc 1 8 (.i 0), kc 1 9 (.i 0), kc 1 10 (.i 0), kc 2 0 (.i (idx a0 ((x6.2.2.2.2 + 1) + 1))), kc 3 0 (.v (.slice a0_p a0.length a0_c)), kc 4 0 (.i (1 + (dv a0 0 6))), kc 4 1 (.i (100 + (390 * (dv a0 1 256)))), kc 4 2 (.i (10 + (7 * (dv a0 2 256)))), kc 4 3 (.i (10 + (1900 * (dv a0 3 256)))), kc 4 4 (.o 300 301 x1.1.length), kc 4 5 (.o 302 303 x3.1.length), kc 4 6 (.o 304 305 x6.2.2.2.1.length), kc 4 7 (.i (dv a0 4 21)), kc 4 8 (.i (dv a0 5 101)), kc 4 9 (.i (2 * (dv a0 6 240))), kc 4 10 (.i (4 * (dv a0 7 256)))]) ?_ (kp rfl) rfl
     refine fqT ?_
     obtain ⟨hp33, hm⟩ := chk_some hm
     refine aqT (rows := [_, _, _, _, _, _, _, _, _]) rfl (by kernel_rfl) ⟨
      okp rfl rfl (oqF (lN rfl) rfl fo_25_6),
      okp rfl rfl (oq1 (lN rfl) sh_23 rfl rfl),
      okp rfl rfl (oqM (lN rfl) rfl),
      okp rfl rfl (oqM (lN rfl) rfl),
      okp rfl rfl (op_build (x := .g [.i ((x6.1 + 1) + (dv a0 x6.2.2.2.2 90)), .i (x6.2.1 + (3 * (dv a0 ((x6.2.2.2.2 + 1)) 256)))]) (lN rfl) (EvL.cons rfl (EvL.cons rfl EvL.nil)) (fun m w => by kernel_rfl)),
      okp rfl rfl (op_buildSlice (L := 17) (ety := 84) (cs := [.i ((x6.1 + 1) + (dv a0 x6.2.2.2.2 90)), .i (x6.2.1 + (3 * (dv a0 ((x6.2.2.2.2 + 1)) 256)))]) (lN rfl) (EvL.cons rfl EvL.nil) rfl (fun m w => by kernel_rfl)),
      okp rfl rfl (op_append (L' := 18) (C' := 19) (vs := [(.int .i64 ((x6.1 + 1) + (dv a0 x6.2.2.2.2 90))), (.int .i64 (x6.2.1 + (3 * (dv a0 ((x6.2.2.2.2 + 1)) 256))))]) (lN rfl) af_23 rfl rfl (flat_length (enc := ePt) (fun _ => rfl) x6.2.2.2.1) rfl ⟨rfl, rfl, trivial⟩ rfl rfl (by decide) (by have := hp33; omega) (by have := hp33; omega) (by decide)),
      okp rfl rfl (oqF (lN rfl) rfl fo_25_6),
      okp rfl rfl (oqs sz_23 rfl rfl rfl rfl (lN rfl)),
      trivial⟩ ?_
     refine fqK (s' := [kt 2 (.p 1 0), kt 3 (.f (.func 83) [] [.p 2 0, .p 3 0]), kt 4 (.p 4 0), kt 5 (.i ((x6.1 + 1) + (dv a0 x6.2.2.2.2 90))), kt 6 (.i (x6.2.1 + (3 * (dv a0 ((x6.2.2.2.2 + 1)) 256)))), kt 101 (.i (dv a0 x3.2 4)), kt 102 (.i x6.2.2.1), kb 1 25 11, kb 2 3 1, kb 3 22 1, kb 4 25 11, (.r 18, some (.vec true 19 84 2 ((x6.2.2.2.1 ++ [(⟨(x6.1 + 1) + (dv a0 x6.2.2.2.2 90), x6.2.1 + (3 * (dv a0 ((x6.2.2.2.2 + 1)) 256))⟩ : Pt)]).flatMap ePt))), (.r 300, some (.vec true 301 84 2 (x1.1.flatMap ePt))), (.r 302, some (.vec true 303 84 2 (x3.1.flatMap ePt))), kc 1 0 (.i 0), kc 1 1 (.i 0), kc 1 2 (.i 0), kc 1 3 (.i 0), kc 1 4 (.v (.slice none 0 0)), kc 1 5 (.v (.slice none 0 0)), kc 1 6 (.v (.slice none 0 0)), kc 1 7 (.i 0), kc 1 8 (.i 0), kc 1 9 (.i 0), kc 1 10 (.i 0), kc 2 0 (.i (idx a0 ((x6.2.2.2.2 + 1) + 1))), kc 3 0 (.v (.slice a0_p a0.length a0_c)), kc 4 0 (.i (1 + (dv a0 0 6))), kc 4 1 (.i (100 + (390 * (dv a0 1 256)))), kc 4 2 (.i (10 + (7 * (dv a0 2 256)))), kc 4 3 (.i (10 + (1900 * (dv a0 3 256)))), kc 4 4 (.o 300 301 x1.1.length), kc 4 5 (.o 302 303 x3.1.length), kc 4 6 (.o 18 19 ((x6.2.2.2.1 ++ [(⟨(x6.1 + 1) + (dv a0 x6.2.2.2.2 90), x6.2.1 + (3 * (dv a0 ((x6.2.2.2.2 + 1)) 256))⟩ : Pt)]).length)), kc 4 7 (.i (dv a0 4 21)), kc 4 8 (.i (dv a0 5 101)), kc 4 9 (.i (2 * (dv a0 6 240))), kc 4 10 (.i (4 * (dv a0 7 256)))]) ?_ ⟨rfl, rfl, rfl, rfl, rfl, rfl, rfl, rfl, rfl, rfl, rfl, (Eq.trans (b := some (Val.vec true 19 84 2 (x6.2.2.2.1.flatMap ePt ++ [(.int .i64 ((x6.1 + 1) + (dv a0 x6.2.2.2.2 90))), (.int .i64 (x6.2.1 + (3 * (dv a0 ((x6.2.2.2.2 + 1)) 256))))]))) rfl (congrArg (fun q => some (Val.vec true 19 84 2 q)) (flat_snoc (enc := ePt) x6.2.2.2.1 ((⟨(x6.1 + 1) + (dv a0 x6.2.2.2.2 90), x6.2.1 + (3 * (dv a0 ((x6.2.2.2.2 + 1)) 256))⟩ : Pt))))), rfl, rfl, rfl, rfl, rfl, rfl, rfl, rfl, rfl, rfl, rfl, rfl, rfl, rfl, rfl, rfl, rfl, rfl, rfl, rfl, rfl, (congrArg (fun q => some (Val.x (SV.o 18 19 q))) (len_snoc x6.2.2.2.1 ((⟨(x6.1 + 1) + (dv a0 x6.2.2.2.2 90), x6.2.1 + (3 * (dv a0 ((x6.2.2.2.2 + 1)) 256))⟩ : Pt)))), rfl, rfl, rfl, rfl, trivial⟩ rfl
     refine fqB ?_
     refine fqT ?_
     obtain ⟨hp34, hm⟩ := chk_some hm
     refine aqT (rows := [_, _]) rfl (by kernel_rfl) ⟨
      okp rfl rfl (oqB (lN rfl) rfl rfl (nw_add hp34)),
      okp rfl rfl (oqM (lN rfl) rfl),
      trivial⟩ ?_
     refine fqK (s' := [kt 2 (.p 1 0), kt 3 (.f (.func 83) [] [.p 2 0, .p 3 0]), kt 4 (.p 4 0), kt 5 (.i ((x6.1 + 1) + (dv a0 x6.2.2.2.2 90))), kt 6 (.i (x6.2.1 + (3 * (dv a0 ((x6.2.2.2.2 + 1)) 256)))), kt 101 (.i (dv a0 x3.2 4)), kt 102 (.i (x6.2.2.1 + 1)), kb 1 25 11, kb 2 3 1, kb 3 22 1, kb 4 25 11, (.r 18, some (.vec true 19 84 2 ((x6.2.2.2.1 ++ [(⟨(x6.1 + 1) + (dv a0 x6.2.2.2.2 90), x6.2.1 + (3 * (dv a0 ((x6.2.2.2.2 + 1)) 256))⟩ : Pt)]).flatMap ePt))), (.r 300, some (.vec true 301 84 2 (x1.1.flatMap ePt))), (.r 302, some (.vec true 303 84 2 (x3.1.flatMap ePt))), kc 1 0 (.i 0), kc 1 1 (.i 0), kc 1 2 (.i 0), kc 1 3 (.i 0), kc 1 4 (.v (.slice none 0 0)), kc 1 5 (.v (.slice none 0 0)), kc 1 6 (.v (.slice none 0 0)), kc 1 7 (.i 0), kc 1 8 (.i 0), kc 1 9 (.i 0), kc 1 10 (.i 0), kc 2 0 (.i (idx a0 ((x6.2.2.2.2 + 1) + 1))), kc 3 0 (.v (.slice a0_p a0.length a0_c)), kc 4 0 (.i (1 + (dv a0 0 6))), kc 4 1 (.i (100 + (390 * (dv a0 1 256)))), kc 4 2 (.i (10 + (7 * (dv a0 2 256)))), kc 4 3 (.i (10 + (1900 * (dv a0 3 256)))), kc 4 4 (.o 300 301 x1.1.length), kc 4 5 (.o 302 303 x3.1.length), kc 4 6 (.o 18 19 ((x6.2.2.2.1 ++ [(⟨(x6.1 + 1) + (dv a0 x6.2.2.2.2 90), x6.2.1 + (3 * (dv a0 ((x6.2.2.2.2 + 1)) 256))⟩ : Pt)]).length)), kc 4 7 (.i (dv a0 4 21)), kc 4 8 (.i (dv a0 5 101)), kc 4 9 (.i (2 * (dv a0 6 240))), kc 4 10 (.i (4 * (dv a0 7 256)))]) ?_ (kp rfl) rfl
     refine fin_swp [(18, 304), (19, 305)] rfl ?_
     exact fqc ((x6.1 + 1) + (dv a0 x6.2.2.2.2 90), x6.2.1 + (3 * (dv a0 ((x6.2.2.2.2 + 1)) 256)), x6.2.2.1 + 1, (x6.2.2.2.1 ++ [(⟨(x6.1 + 1) + (dv a0 x6.2.2.2.2 90), x6.2.1 + (3 * (dv a0 ((x6.2.2.2.2 + 1)) 256))⟩ : Pt)]), ((x6.2.2.2.2 + 1) + 1)) hm ⟨rfl, rfl, rfl, rfl, rfl, rfl, rfl, rfl, rfl, rfl, rfl, rfl, rfl, rfl, rfl, rfl, rfl, rfl, rfl, rfl, rfl, rfl, rfl, rfl, rfl, rfl, rfl, rfl, rfl, rfl, rfl, rfl, rfl, rfl, rfl, rfl, rfl, rfl, trivial⟩ rfl
    ·have hm := brk_f hz28 hm
     refine aw_exit ?_
     refine fqE ?_
     refine fqE ?_
     refine fin_block_exit ?_
     exact fqc (x6.2.1, x6.2.2.2.1, x6.2.2.2.2) hm ⟨rfl, rfl, rfl, rfl, rfl, rfl, rfl, rfl, rfl, rfl, rfl, rfl, rfl, rfl, rfl, rfl, rfl, rfl, rfl, rfl, rfl, rfl, rfl, rfl, rfl, rfl, rfl, rfl, rfl, rfl, rfl, rfl, rfl, rfl, rfl, trivial⟩ rfl
   ·have _z := hm
    refine aqS ?_
    obtain ⟨hp35, hm⟩ := chk_some hm
    obtain ⟨hp36, hm⟩ := chk_some hm
    obtain ⟨hp37, hm⟩ := chk_some hm
    refine aw_any (rows := [_, _, _, _, _, _, _, _, _, _, _, _]) (M := [0, 1, 0, 0, 8, 24, 60, 124, 252, 511, 1023, 2047]) Tryd_mixed (by kernel_rfl) rfl (by kernel_rfl) ⟨
     okp rfl rfl (oqF (lN rfl) rfl fo_25_6),
     okp rfl rfl (oq1 (lN rfl) sh_23 rfl rfl),
     okp rfl rfl (oqM (lN rfl) rfl),
     okp rfl rfl (oqM (lN rfl) rfl),
     okp rfl rfl (op_callLentL (ls := [⟨2, 3, [.i (idx a0 x5.2.2)], [.i (idx a0 (x5.2.2 + 1))]⟩, ⟨3, 22, [.v (.slice a0_p a0.length a0_c)], [.v (.slice a0_p a0.length a0_c)]⟩]) (x := .i (dv a0 x5.2.2 256)) (fs := []) (caps := [.p 2 0, .p 3 0]) (extra := []) (lN rfl) en_83 rfl ⟨rfl, rfl, rfl⟩ (EvL.cons rfl EvL.nil) ⟨rfl, ⟨rfl, trivial⟩, rfl, lb_ne rfl, ⟨rfl, ⟨rfl, trivial⟩, rfl, lb_ne rfl, trivial⟩⟩ (fun mm aa ww gg hr hrel hbx hlo => c83L 256 x5.2.2 (mm 2) a0 ⟨a0_p, a0.length, a0_c⟩ (mm 3) ww (hbx _ (.head _)) (hbx _ (.tail _ (.head _))) (SlIs.mono ha0 hrel.below) (sl_ne ha0 (box_hi hrel hlo.1)) (box_ne hrel hlo.2.2.2.2.1 hlo.1 (by decide)) (by decide) h8a0 hlena0)),
     okp rfl rfl (oqB (lN rfl) rfl rfl (nw_mul hp35)),
     okp rfl rfl (oqB (lN rfl) rfl rfl (nw_add hp36)),
     okp rfl rfl (op_build (x := .g [.i 400, .i (x5.1 + (4 * (dv a0 x5.2.2 256)))]) (lN rfl) (EvL.cons rfl (EvL.cons rfl EvL.nil)) (fun m w => by kernel_rfl)),
     okp rfl rfl (op_buildSlice (L := 20) (ety := 84) (cs := [.i 400, .i (x5.1 + (4 * (dv a0 x5.2.2 256)))]) (lN rfl) (EvL.cons rfl EvL.nil) rfl (fun m w => by kernel_rfl)),
     okp rfl rfl (op_append (L' := 21) (C' := 22) (vs := [(.int .i64 400), (.int .i64 (x5.1 + (4 * (dv a0 x5.2.2 256))))]) (lN rfl) af_23 rfl rfl (flat_length (enc := ePt) (fun _ => rfl) x5.2.1) rfl ⟨rfl, rfl, trivial⟩ rfl rfl (by decide) (by have := hp37; omega) (by have := hp37; omega) (by decide)),
     okp rfl rfl (oqF (lN rfl) rfl fo_25_6),
     okp rfl rfl (oqs sz_23 rfl rfl rfl rfl (lN rfl)),
     trivial⟩ ?_
    refine fqK (s' := [kt 2 (.p 1 0), kt 4 (.p 4 0), kb 1 25 11, kb 4 25 11, (.r 21, some (.vec true 22 84 2 ((x5.2.1 ++ [(⟨400, x5.1 + (4 * (dv a0 x5.2.2 256))⟩ : Pt)]).flatMap ePt))), (.r 300, some (.vec true 301 84 2 (x1.1.flatMap ePt))), (.r 302, some (.vec true 303 84 2 (x3.1.flatMap ePt))), kc 1 0 (.i 0), kc 1 1 (.i 0), kc 1 2 (.i 0), kc 1 3 (.i 0), kc 1 4 (.v (.slice none 0 0)), kc 1 5 (.v (.slice none 0 0)), kc 1 6 (.v (.slice none 0 0)), kc 1 7 (.i 0), kc 1 8 (.i 0), kc 1 9 (.i 0), kc 1 10 (.i 0), kc 4 0 (.i (1 + (dv a0 0 6))), kc 4 1 (.i (100 + (390 * (dv a0 1 256)))), kc 4 2 (.i (10 + (7 * (dv a0 2 256)))), kc 4 3 (.i (10 + (1900 * (dv a0 3 256)))), kc 4 4 (.o 300 301 x1.1.length), kc 4 5 (.o 302 303 x3.1.length), kc 4 6 (.o 21 22 ((x5.2.1 ++ [(⟨400, x5.1 + (4 * (dv a0 x5.2.2 256))⟩ : Pt)]).length)), kc 4 7 (.i (dv a0 4 21)), kc 4 8 (.i (dv a0 5 101)), kc 4 9 (.i (2 * (dv a0 6 240))), kc 4 10 (.i (4 * (dv a0 7 256)))]) ?_ ⟨rfl, rfl, rfl, rfl, (Eq.trans (b := some (Val.vec true 22 84 2 (x5.2.1.flatMap ePt ++ [(.int .i64 400), (.int .i64 (x5.1 + (4 * (dv a0 x5.2.2 256))))]))) rfl (congrArg (fun q => some (Val.vec true 22 84 2 q)) (flat_snoc (enc := ePt) x5.2.1 ((⟨400, x5.1 + (4 * (dv a0 x5.2.2 256))⟩ : Pt))))), rfl, rfl, rfl, rfl, rfl, rfl, rfl, rfl, rfl, rfl, rfl, rfl, rfl, rfl, rfl, rfl, rfl, rfl, rfl, (congrArg (fun q => some (Val.x (SV.o 21 22 q))) (len_snoc x5.2.1 ((⟨400, x5.1 + (4 * (dv a0 x5.2.2 256))⟩ : Pt)))), rfl, rfl, rfl, rfl, trivial⟩ rfl
    refine fqT ?_
    refine aqS ?_
    refine aqT (rows := [_, _]) rfl (by kernel_rfl) ⟨
     okp rfl rfl (oqL (ys := [.i (1 + (dv a0 0 6)), .i (100 + (390 * (dv a0 1 256))), .i (10 + (7 * (dv a0 2 256))), .i (10 + (1900 * (dv a0 3 256))), .o 300 301 x1.1.length, .o 302 303 x3.1.length, .o 21 22 ((x5.2.1 ++ [(⟨400, x5.1 + (4 * (dv a0 x5.2.2 256))⟩ : Pt)]).length), .i (dv a0 4 21), .i (dv a0 5 101), .i (2 * (dv a0 6 240)), .i (4 * (dv a0 7 256))]) (lN rfl) sh_25 rfl rfl ⟨rfl, rfl, rfl, rfl, rfl, rfl, rfl, rfl, rfl, rfl, rfl, trivial⟩),
     okp rfl rfl (oqS sz_25 rfl rfl rfl rfl rfl (by decide)),
     trivial⟩ ?_
    refine fqK (s' := [kt 2 (.p 1 0), kb 1 25 11, (.r 21, some (.vec true 22 84 2 ((x5.2.1 ++ [(⟨400, x5.1 + (4 * (dv a0 x5.2.2 256))⟩ : Pt)]).flatMap ePt))), (.r 300, some (.vec true 301 84 2 (x1.1.flatMap ePt))), (.r 302, some (.vec true 303 84 2 (x3.1.flatMap ePt))), kc 1 0 (.i (1 + (dv a0 0 6))), kc 1 1 (.i (100 + (390 * (dv a0 1 256)))), kc 1 2 (.i (10 + (7 * (dv a0 2 256)))), kc 1 3 (.i (10 + (1900 * (dv a0 3 256)))), kc 1 4 (.o 300 301 x1.1.length), kc 1 5 (.o 302 303 x3.1.length), kc 1 6 (.o 21 22 ((x5.2.1 ++ [(⟨400, x5.1 + (4 * (dv a0 x5.2.2 256))⟩ : Pt)]).length)), kc 1 7 (.i (dv a0 4 21)), kc 1 8 (.i (dv a0 5 101)), kc 1 9 (.i (2 * (dv a0 6 240))), kc 1 10 (.i (4 * (dv a0 7 256)))]) ?_ (kp rfl) rfl
    refine fqT ?_
    refine aqr ?_
    refine pqr (x := .g [.i (1 + (dv a0 0 6)), .i (100 + (390 * (dv a0 1 256))), .i (10 + (7 * (dv a0 2 256))), .i (10 + (1900 * (dv a0 3 256))), .o 300 301 x1.1.length, .o 302 303 x3.1.length, .o 21 22 ((x5.2.1 ++ [(⟨400, x5.1 + (4 * (dv a0 x5.2.2 256))⟩ : Pt)]).length), .i (dv a0 4 21), .i (dv a0 5 101), .i (2 * (dv a0 6 240)), .i (4 * (dv a0 7 256))]) rfl rfl (rqC (ys := [.i (1 + (dv a0 0 6)), .i (100 + (390 * (dv a0 1 256))), .i (10 + (7 * (dv a0 2 256))), .i (10 + (1900 * (dv a0 3 256))), .o 300 301 x1.1.length, .o 302 303 x3.1.length, .o 21 22 ((x5.2.1 ++ [(⟨400, x5.1 + (4 * (dv a0 x5.2.2 256))⟩ : Pt)]).length), .i (dv a0 4 21), .i (dv a0 5 101), .i (2 * (dv a0 6 240)), .i (4 * (dv a0 7 256))]) rfl sh_25 rfl ⟨rfl, rfl, rfl, rfl, rfl, rfl, rfl, rfl, rfl, rfl, rfl, trivial⟩ rqN) rfl (fun mm aa ww hr => ?_)
    have hm := Option.some.inj hm
    subst hm
    exact ⟨[⟨ptr0 (mm 300) (mm 301), x1.1.length, mm 301⟩, ⟨ptr0 (mm 302) (mm 303), x3.1.length, mm 303⟩, ⟨ptr0 (mm 21) (mm 22), ((x5.2.1 ++ [(⟨400, x5.1 + (4 * (dv a0 x5.2.2 256))⟩ : Pt)]).length), mm 22⟩], rfl, ⟨⟨rfl, newAt_row hr mine_nil rfl (flat_length (enc := ePt) (fun _ => rfl) _), rfl, newAt_row hr mine_nil rfl (flat_length (enc := ePt) (fun _ => rfl) _), rfl, newAt_row hr mine_nil rfl (flat_length (enc := ePt) (fun _ => rfl) _), trivial⟩, ⟨⟨apart_rr hr rfl rfl (by decide), apart_rr hr rfl rfl (by decide), trivial⟩, ⟨⟨apart_rr hr rfl rfl (by decide), trivial⟩, ⟨trivial, trivial⟩⟩⟩⟩, hr.below⟩
end Go.Proofs.T
namespace Go.Proofs.T
open Go Go.AX Go.RowKit Hull
theorem c24 (s : Ship) (s_Thrust_s : SlV) (s_Water_s : SlV) (s_Ice_s : SlV) (c : Cell) (ch : Bool) (w : World) (hs_Thrust : SlIs ePt 2 w s_Thrust_s s.Thrust) (hs_Water : SlIs ePt 2 w s_Water_s s.Water) (hs_Ice : SlIs ePt 2 w s_Ice_s s.Ice) (hG : BoxAt w 0 (strengths.map (fun n => Value.int .i64 n))) : Calls Tryd.prog 24 #[.agg #[.int .i64 s.Class, .int .i64 s.Power, .int .i64 s.Draught, .int .i64 s.Tonnes, .slice s_Thrust_s.p s_Thrust_s.n s_Thrust_s.c, .slice s_Water_s.p s_Water_s.n s_Water_s.c, .slice s_Ice_s.p s_Ice_s.n s_Ice_s.c, .int .i64 s.Slow, .int .i64 s.Brash, .int .i64 s.Ridge, .int .i64 s.Press], .agg #[.int .i64 c.Conc.Lo, .int .i64 c.Conc.Hi, .int .i64 c.Thick.Lo, .int .i64 c.Thick.Hi, .int .i64 c.Ridge.Lo, .int .i64 c.Ridge.Hi, .int .i64 c.Press.Lo, .int .i64 c.Press.Hi], .bool ch] w fun e w' => e = .returned (.tuple #[.int .i64 ((safeE s c ch).1), .int .i64 ((safeE s c ch).2)]) ∧ Below w.heap.size w w' := by
 obtain ⟨s0Tp, s0Tn, s0Tc⟩ := s_Thrust_s
 have hs_Thrust_l : s0Tn = s.Thrust.length := hs_Thrust.1
 subst hs_Thrust_l
 obtain ⟨s_Thrust_b, s0To, hs_Thrust_p, hs_Thrust_L⟩ := SlAt.lies' hs_Thrust
 obtain ⟨s0Wp, s0Wn, s0Wc⟩ := s_Water_s
 have hs_Water_l : s0Wn = s.Water.length := hs_Water.1
 subst hs_Water_l
 obtain ⟨s_Water_b, s0Wo, hs_Water_p, hs_Water_L⟩ := SlAt.lies' hs_Water
 obtain ⟨s0Ip, s0In, s0Ic⟩ := s_Ice_s
 have hs_Ice_l : s0In = s.Ice.length := hs_Ice.1
 subst hs_Ice_l
 obtain ⟨s_Ice_b, s0Io, hs_Ice_p, hs_Ice_L⟩ := SlAt.lies' hs_Ice
 refine enter (args := [.g [.i s.Class, .i s.Power, .i s.Draught, .i s.Tonnes, .v (.slice s0Tp s.Thrust.length s0Tc), .v (.slice s0Wp s.Water.length s0Wc), .v (.slice s0Ip s.Ice.length s0Ic), .i s.Slow, .i s.Brash, .i s.Ridge, .i s.Press], .g [.i c.Conc.Lo, .i c.Conc.Hi, .i c.Thick.Lo, .i c.Thick.Hi, .i c.Ridge.Lo, .i c.Ridge.Hi, .i c.Press.Lo, .i c.Press.Hi], .B ch]) Tryd.func24 rfl (N := 20) rfl (Nat.le_of_ble_eq_true rfl) ?_
 refine aqS ?_
 refine aqT (rows := [_, _, _, _]) rfl (by kernel_rfl) ⟨
  okp rfl rfl (op_boxN (L := 1) (lN rfl) rfl rfl rfl),
  okp rfl rfl (op_boxN (L := 2) (lN rfl) rfl rfl rfl),
  okp rfl rfl (oqA (lN rfl) rfl),
  okp rfl rfl (oqA (lN rfl) rfl),
  trivial⟩ ?_
 refine fqK (s' := (kt 2 (.B ch) :: kt 3 (.p 1 0) :: kt 4 (.p 2 0) :: kb 1 25 11 :: kb 2 34 8 :: sK 1 s (.v (.slice s0Tp s.Thrust.length s0Tc)) (.v (.slice s0Wp s.Water.length s0Wc)) (.v (.slice s0Ip s.Ice.length s0Ic)) [kc 2 0 (.i c.Conc.Lo), kc 2 1 (.i c.Conc.Hi), kc 2 2 (.i c.Thick.Lo), kc 2 3 (.i c.Thick.Hi), kc 2 4 (.i c.Ridge.Lo), kc 2 5 (.i c.Ridge.Hi), kc 2 6 (.i c.Press.Lo), kc 2 7 (.i c.Press.Hi)])) ?_ (kp rfl) rfl
 refine fqT ?_
 refine aqS ?_
 refine aqS ?_
 refine aqT (rows := [_, _, _, _]) rfl (by kernel_rfl) ⟨
  okp rfl rfl (oqL (ys := [.i s.Class, .i s.Power, .i s.Draught, .i s.Tonnes, .v (.slice s0Tp s.Thrust.length s0Tc), .v (.slice s0Wp s.Water.length s0Wc), .v (.slice s0Ip s.Ice.length s0Ic), .i s.Slow, .i s.Brash, .i s.Ridge, .i s.Press]) (lN rfl) sh_25 rfl rfl ⟨rfl, rfl, rfl, rfl, rfl, rfl, rfl, rfl, rfl, rfl, rfl, trivial⟩),
  okp rfl rfl (oqL (ys := [.i c.Conc.Lo, .i c.Conc.Hi, .i c.Thick.Lo, .i c.Thick.Hi, .i c.Ridge.Lo, .i c.Ridge.Hi, .i c.Press.Lo, .i c.Press.Hi]) (lN rfl) sh_34 rfl rfl ⟨rfl, rfl, rfl, rfl, rfl, rfl, rfl, rfl, trivial⟩),
  okp rfl rfl (oqC (x := .i (met s c)) (fs := []) (caps := []) (extra := []) (lN rfl) en_90 rfl ⟨rfl, rfl, rfl⟩ (EvL.cons rfl (EvL.cons rfl EvL.nil)) (fun mm aa ww gg hr hrel => (c90 s ⟨s0Tp, s.Thrust.length, s0Tc⟩ ⟨s0Wp, s.Water.length, s0Wc⟩ ⟨s0Ip, s.Ice.length, s0Ic⟩ c ww (SlIs.mono hs_Thrust hrel.below) (SlIs.mono hs_Water hrel.below) (SlIs.mono hs_Ice hrel.below)))),
  okp rfl rfl (oqA (lN rfl) rfl),
  trivial⟩ ?_
 refine fqK (s' := (kt 2 (.B ch) :: kt 3 (.p 1 0) :: kt 4 (.p 2 0) :: kt 8 (.i (met s c)) :: kb 1 25 11 :: kb 2 34 8 :: sK 1 s (.v (.slice s0Tp s.Thrust.length s0Tc)) (.v (.slice s0Wp s.Water.length s0Wc)) (.v (.slice s0Ip s.Ice.length s0Ic)) [kc 2 0 (.i c.Conc.Lo), kc 2 1 (.i c.Conc.Hi), kc 2 2 (.i c.Thick.Lo), kc 2 3 (.i c.Thick.Hi), kc 2 4 (.i c.Ridge.Lo), kc 2 5 (.i c.Ridge.Hi), kc 2 6 (.i c.Press.Lo), kc 2 7 (.i c.Press.Hi)])) ?_ (kp rfl) rfl
 refine fqT ?_
 refine aqS ?_
 refine aqT (rows := [_, _]) rfl (by kernel_rfl) ⟨
  okp rfl rfl (oqM (lN rfl) rfl),
  okp rfl rfl (oqB (lN rfl) rfl rfl rfl),
  trivial⟩ ?_
 refine fqK (s' := (kt 2 (.B ch) :: kt 3 (.p 1 0) :: kt 4 (.p 2 0) :: kt 8 (.i (met s c)) :: kt 13 (.B ((met s c) != 0)) :: kb 1 25 11 :: kb 2 34 8 :: sK 1 s (.v (.slice s0Tp s.Thrust.length s0Tc)) (.v (.slice s0Wp s.Water.length s0Wc)) (.v (.slice s0Ip s.Ice.length s0Ic)) [kc 2 0 (.i c.Conc.Lo), kc 2 1 (.i c.Conc.Hi), kc 2 2 (.i c.Thick.Lo), kc 2 3 (.i c.Thick.Hi), kc 2 4 (.i c.Ridge.Lo), kc 2 5 (.i c.Ridge.Hi), kc 2 6 (.i c.Press.Lo), kc 2 7 (.i c.Press.Hi)])) ?_ (kp rfl) rfl
 refine fqT ?_
 refine aqc rfl (fun hz1 => ?_) (fun hz1 => ?_)
 ·have _z := hz1
  have q2 := ne_t hz1
  refine aqS ?_
  refine aqT (rows := [_, _, _]) rfl (by kernel_rfl) ⟨
   okp rfl rfl (oqM (lN rfl) rfl),
   okp rfl rfl (oqA (lN rfl) rfl),
   okp rfl rfl (oqA (lN rfl) rfl),
   trivial⟩ ?_
  refine fqK (s' := [kt 6 (.i 0), kt 7 (.i (met s c))]) ?_ (kp rfl) rfl
  refine fqT ?_
  refine aqr ?_
  refine fqR ?_
  refine pqr (x := .t [.i 0, .i (met s c)]) rfl rfl (rqT rfl (rqT rfl rqN)) rfl (fun mm aa ww hr => ?_)
  show Ending.returned (.tuple #[.int .i64 0, .int .i64 (met s c)]) = _ ∧ _
  exact ⟨by rw [safeE, if_pos (ne_t hz1)], hr.below⟩
 ·have _z := hz1
  have q3 := ne_f hz1
  refine aqk ?_
  refine fqT ?_
  refine aqS ?_
  have hmet := met_ok (ne_f hz1)
  have hc := hmet.1
  have hg := hmet.2
  refine aqT (rows := [_, _, _, _, _, _, _]) rfl (by kernel_rfl) ⟨
   okp rfl rfl (oqL (ys := [.i c.Conc.Lo, .i c.Conc.Hi, .i c.Thick.Lo, .i c.Thick.Hi, .i c.Ridge.Lo, .i c.Ridge.Hi, .i c.Press.Lo, .i c.Press.Hi]) (lN rfl) sh_34 rfl rfl ⟨rfl, rfl, rfl, rfl, rfl, rfl, rfl, rfl, trivial⟩),
   okp rfl rfl (oqM (lN rfl) rfl),
   okp rfl rfl (oqC (x := .t [.i ((safe s c ch).1), .i ((safe s c ch).2)]) (fs := []) (caps := []) (extra := (kapp ((.b 1 :: cqK 1 0 11)) [])) (lN rfl) en_87 rfl ⟨rfl, rfl, rfl⟩ (EvL.cons rfl (EvL.cons rfl (EvL.cons rfl EvL.nil))) (fun mm aa ww gg hr hrel => (c87 s ⟨s0Tp, s.Thrust.length, s0Tc⟩ ⟨s0Wp, s.Water.length, s0Wc⟩ ⟨s0Ip, s.Ice.length, s0Ic⟩ (mm 1) c ch ww (SlIs.mono hs_Thrust hrel.below) (SlIs.mono hs_Water hrel.below) (SlIs.mono hs_Ice hrel.below) (bqA (L := 1) (vs := [(.int .i64 s.Class), (.int .i64 s.Power), (.int .i64 s.Draught), (.int .i64 s.Tonnes), (.slice s0Tp s.Thrust.length s0Tc), (.slice s0Wp s.Water.length s0Wc), (.slice s0Ip s.Ice.length s0Ic), (.int .i64 s.Slow), (.int .i64 s.Brash), (.int .i64 s.Ridge), (.int .i64 s.Press)]) hrel (fun k hk => hr k (List.mem_append_left _ hk)) rfl ⟨rfl, rfl, rfl, rfl, rfl, rfl, rfl, rfl, rfl, rfl, rfl, trivial⟩) (BoxAt.mono hG hrel.below) (by first | assumption | omega) (by first | assumption | omega)))),
   okp rfl rfl (oqx (lN rfl) rfl rfl),
   okp rfl rfl (oqx (lN rfl) rfl rfl),
   okp rfl rfl (oqA (lN rfl) rfl),
   okp rfl rfl (oqA (lN rfl) rfl),
   trivial⟩ ?_
  refine fqK (s' := [kt 6 (.i ((safe s c ch).1)), kt 7 (.i ((safe s c ch).2))]) ?_ (kp rfl) rfl
  refine fqT ?_
  refine aqr ?_
  refine pqr (x := .t [.i ((safe s c ch).1), .i ((safe s c ch).2)]) rfl rfl (rqT rfl (rqT rfl rqN)) rfl (fun mm aa ww hr => ?_)
  show Ending.returned (.tuple #[.int .i64 ((safe s c ch).1), .int .i64 ((safe s c ch).2)]) = _ ∧ _
  exact ⟨by rw [safeE, if_neg (by rw [ne_f hz1]; decide)], hr.below⟩
end Go.Proofs.T
namespace Go.Proofs.T
open Go Go.AX Go.RowKit Hull
instance (i : Ice) : Decidable (goodIce i) := by unfold goodIce; infer_instance
instance (c : Cell) : Decidable (goodCell c) := by unfold goodCell goodSpan; infer_instance
end Go.Proofs.T
namespace Go.Proofs.T
open Go Go.AX Go.RowKit Hull
theorem en_21 : Proofs.Enters Tryd.prog 21 := Proofs.enters_of Tryd.func21 (by kernel_rfl) rfl
end Go.Proofs.T
namespace Go.Proofs.T
open Go Go.AX Go.RowKit Hull
def m118 (_F : Nat) (a0 : Cell) : Option (Unit) :=
 some ()
theorem c118 (F : Nat) (a0 : Cell) (w : World)  (r : Unit) (hm : m118 F a0 = some r) : Calls Tryd.prog 118 #[.agg #[.int .i64 a0.Conc.Lo, .int .i64 a0.Conc.Hi, .int .i64 a0.Thick.Lo, .int .i64 a0.Thick.Hi, .int .i64 a0.Ridge.Lo, .int .i64 a0.Ridge.Hi, .int .i64 a0.Press.Lo, .int .i64 a0.Press.Hi]] w fun e w' => ∃ bs : List Nat, e = .returned (.func (.func 145) #[] #[.pointer (some ⟨bs.getD 0 0, 0, none⟩)]) ∧ NewBoxes w w' bs [(34, [(.int .i64 a0.Conc.Lo), (.int .i64 a0.Conc.Hi), (.int .i64 a0.Thick.Lo), (.int .i64 a0.Thick.Hi), (.int .i64 a0.Ridge.Lo), (.int .i64 a0.Ridge.Hi), (.int .i64 a0.Press.Lo), (.int .i64 a0.Press.Hi)])] ∧ Below w.heap.size w w' := by
 unfold m118 at hm
 refine enter (args := [.g [.i a0.Conc.Lo, .i a0.Conc.Hi, .i a0.Thick.Lo, .i a0.Thick.Hi, .i a0.Ridge.Lo, .i a0.Ridge.Hi, .i a0.Press.Lo, .i a0.Press.Hi]]) Tryd.func118 rfl (N := 4) rfl (Nat.le_of_ble_eq_true rfl) ?_
 refine aqS ?_
 refine aqT (rows := [_, _]) rfl (by kernel_rfl) ⟨
  okp rfl rfl (op_boxN (L := 1) (lN rfl) rfl rfl rfl),
  okp rfl rfl (oqA (lN rfl) rfl),
  trivial⟩ ?_
 refine fqK (s' := [kt 1 (.p 1 0), kb 1 34 8, kc 1 0 (.i a0.Conc.Lo), kc 1 1 (.i a0.Conc.Hi), kc 1 2 (.i a0.Thick.Lo), kc 1 3 (.i a0.Thick.Hi), kc 1 4 (.i a0.Ridge.Lo), kc 1 5 (.i a0.Ridge.Hi), kc 1 6 (.i a0.Press.Lo), kc 1 7 (.i a0.Press.Hi)]) ?_ (kp rfl) rfl
 refine fqT ?_
 refine aqS ?_
 refine aqT (rows := [_, _]) rfl (by kernel_rfl) ⟨
  okp rfl rfl (op_mkfn (lN rfl) EvL.nil (EvL.cons rfl EvL.nil)),
  okp rfl rfl (oqA (lN rfl) rfl),
  trivial⟩ ?_
 refine fqK (s' := [kt 2 (.f (.func 145) [] [.p 1 0]), kb 1 34 8, kc 1 0 (.i a0.Conc.Lo), kc 1 1 (.i a0.Conc.Hi), kc 1 2 (.i a0.Thick.Lo), kc 1 3 (.i a0.Thick.Hi), kc 1 4 (.i a0.Ridge.Lo), kc 1 5 (.i a0.Ridge.Hi), kc 1 6 (.i a0.Press.Lo), kc 1 7 (.i a0.Press.Hi)]) ?_ (kp rfl) rfl
 refine fqT ?_
 refine aqr ?_
 refine pqr (x := .f (.func 145) [] [.p 1 0]) rfl rfl (rqT rfl rqN) rfl (fun mm aa ww hr => ?_)
 have hm := Option.some.inj hm
 subst hm
 exact ⟨[mm 1], rfl, ⟨box_hi hr rfl, cells_allS (ys := [.i a0.Conc.Lo, .i a0.Conc.Hi, .i a0.Thick.Lo, .i a0.Thick.Hi, .i a0.Ridge.Lo, .i a0.Ridge.Hi, .i a0.Press.Lo, .i a0.Press.Hi]) hr rfl rfl ⟨rfl, rfl, rfl, rfl, rfl, rfl, rfl, rfl, trivial⟩, ne_nil, trivial⟩, hr.below⟩
end Go.Proofs.T
namespace Go.Proofs.T
open Go Go.AX Go.RowKit Hull
theorem en_118 : Proofs.Enters Tryd.prog 118 := Proofs.enters_of Tryd.func118 (by kernel_rfl) rfl
theorem en_145 : Proofs.Enters Tryd.prog 145 := Proofs.enters_of Tryd.func145 (by kernel_rfl) rfl
theorem eqg_28 : Tryd.prog.eqGuardType Tryd.prog.depth 28 = false := by kernel_rfl
theorem Ice_eqd (a b : Ice) : ((a.Conc == b.Conc) && ((a.Thick == b.Thick) && ((a.Ridge == b.Ridge) && ((a.Press == b.Press) && true)))) = decide (a = b) := by cases a; cases b; rw [Bool.eq_iff_iff]; simp
theorem en_55 : Proofs.Enters Tryd.prog 55 := Proofs.enters_of Tryd.func55 (by kernel_rfl) rfl
def m55 (F : Nat) (a0 : Ship) (a1 : Cell) (a2 : Bool) : Option (Span × Int) :=
 brk ((met a0 a1) != 0) (some ((⟨0, 0⟩ : Span), met a0 a1)) (join (fun (x1 : Int × Int) => some ((⟨x1.1, x1.2⟩ : Span), 0)) (fun k1 => bnd (m118 F a1) (fun v1 => bnd (chk (check a0 = 0) (chk (goodIce ((firstI a1))) (some (if (speed a0 ((firstI a1)) a2) < 250 then speed a0 ((firstI a1)) a2 else 250, if (speed a0 ((firstI a1)) a2) > 0 then speed a0 ((firstI a1)) a2 else 0)))) (fun v2 => brk (!decide ((firstI a1) = (lastI a1))) (bnd (chk (check a0 = 0) (chk (goodIce ((lastI a1))) (some (if (speed a0 ((lastI a1)) a2) < v2.1 then speed a0 ((lastI a1)) a2 else v2.1, if (speed a0 ((lastI a1)) a2) > v2.2 then speed a0 ((lastI a1)) a2 else v2.2)))) (fun v3 => k1 (v3.1, v3.2))) (k1 (v2.1, v2.2))))))
set_option maxHeartbeats 1000000 in
set_option maxRecDepth 8000 in
theorem c55 (F : Nat) (a0 : Ship) (a0_Thrust_s : SlV) (a0_Water_s : SlV) (a0_Ice_s : SlV) (a1 : Cell) (a2 : Bool) (w : World) (ha0_Thrust : SlIs ePt 2 w a0_Thrust_s a0.Thrust) (ha0_Water : SlIs ePt 2 w a0_Water_s a0.Water) (ha0_Ice : SlIs ePt 2 w a0_Ice_s a0.Ice) (hG : BoxAt w 0 (strengths.map (fun n => Value.int .i64 n))) (r : Span × Int) (hm : m55 F a0 a1 a2 = some r) : Calls Tryd.prog 55 #[.agg #[.int .i64 a0.Class, .int .i64 a0.Power, .int .i64 a0.Draught, .int .i64 a0.Tonnes, .slice a0_Thrust_s.p a0_Thrust_s.n a0_Thrust_s.c, .slice a0_Water_s.p a0_Water_s.n a0_Water_s.c, .slice a0_Ice_s.p a0_Ice_s.n a0_Ice_s.c, .int .i64 a0.Slow, .int .i64 a0.Brash, .int .i64 a0.Ridge, .int .i64 a0.Press], .agg #[.int .i64 a1.Conc.Lo, .int .i64 a1.Conc.Hi, .int .i64 a1.Thick.Lo, .int .i64 a1.Thick.Hi, .int .i64 a1.Ridge.Lo, .int .i64 a1.Ridge.Hi, .int .i64 a1.Press.Lo, .int .i64 a1.Press.Hi], .bool a2] w fun e w' => e = .returned (.tuple #[.agg #[.int .i64 r.1.Lo, .int .i64 r.1.Hi], .int .i64 r.2]) ∧ Below w.heap.size w w' := by
 obtain ⟨a0Tp, a0Tn, a0Tc⟩ := a0_Thrust_s
 have ha0_Thrust_l : a0Tn = a0.Thrust.length := ha0_Thrust.1
 subst ha0_Thrust_l
 obtain ⟨a0_Thrust_b, a0To, ha0_Thrust_p, ha0_Thrust_L⟩ := SlAt.lies' ha0_Thrust
 obtain ⟨a0Wp, a0Wn, a0Wc⟩ := a0_Water_s
 have ha0_Water_l : a0Wn = a0.Water.length := ha0_Water.1
 subst ha0_Water_l
 obtain ⟨a0_Water_b, a0Wo, ha0_Water_p, ha0_Water_L⟩ := SlAt.lies' ha0_Water
 obtain ⟨a0Ip, a0In, a0Ic⟩ := a0_Ice_s
 have ha0_Ice_l : a0In = a0.Ice.length := ha0_Ice.1
 subst ha0_Ice_l
 obtain ⟨a0_Ice_b, a0Io, ha0_Ice_p, ha0_Ice_L⟩ := SlAt.lies' ha0_Ice
 unfold m55 at hm
 refine enterM (args := [.g [.i a0.Class, .i a0.Power, .i a0.Draught, .i a0.Tonnes, .v (.slice a0Tp a0.Thrust.length a0Tc), .v (.slice a0Wp a0.Water.length a0Wc), .v (.slice a0Ip a0.Ice.length a0Ic), .i a0.Slow, .i a0.Brash, .i a0.Ridge, .i a0.Press], .g [.i a1.Conc.Lo, .i a1.Conc.Hi, .i a1.Thick.Lo, .i a1.Thick.Hi, .i a1.Ridge.Lo, .i a1.Ridge.Hi, .i a1.Press.Lo, .i a1.Press.Hi], .B a2]) Tryd.func55 rfl (N := 38) rfl (Nat.le_of_ble_eq_true rfl) ?_
 refine aqS ?_
 refine aqT (rows := [_, _, _, _, _]) rfl (by kernel_rfl) ⟨
  okp rfl rfl (op_boxN (L := 1) (lN rfl) rfl rfl rfl),
  okp rfl rfl (op_boxN (L := 2) (lN rfl) rfl rfl rfl),
  okp rfl rfl (op_box1 (L := 3) (lN rfl) rfl rfl rfl),
  okp rfl rfl (oqa (L := 4) (lN rfl) zl_32),
  okp rfl rfl (oqA (lN rfl) rfl),
  trivial⟩ ?_
 refine fqK (s' := (kt 3 (.p 1 0) :: kt 4 (.p 2 0) :: kt 5 (.p 3 0) :: kt 6 (.p 4 0) :: kb 1 25 11 :: kb 2 34 8 :: kb 3 4 1 :: kb 4 32 2 :: sK 1 a0 (.v (.slice a0Tp a0.Thrust.length a0Tc)) (.v (.slice a0Wp a0.Water.length a0Wc)) (.v (.slice a0Ip a0.Ice.length a0Ic)) [kc 2 0 (.i a1.Conc.Lo), kc 2 1 (.i a1.Conc.Hi), kc 2 2 (.i a1.Thick.Lo), kc 2 3 (.i a1.Thick.Hi), kc 2 4 (.i a1.Ridge.Lo), kc 2 5 (.i a1.Ridge.Hi), kc 2 6 (.i a1.Press.Lo), kc 2 7 (.i a1.Press.Hi), kc 3 0 (.B a2), kc 4 0 (.i 0), kc 4 1 (.i 0)])) ?_ (kp rfl) rfl
 refine fqT ?_
 refine aqS ?_
 refine aqS ?_
 refine aqT (rows := [_, _, _, _]) rfl (by kernel_rfl) ⟨
  okp rfl rfl (oqL (ys := [.i a0.Class, .i a0.Power, .i a0.Draught, .i a0.Tonnes, .v (.slice a0Tp a0.Thrust.length a0Tc), .v (.slice a0Wp a0.Water.length a0Wc), .v (.slice a0Ip a0.Ice.length a0Ic), .i a0.Slow, .i a0.Brash, .i a0.Ridge, .i a0.Press]) (lN rfl) sh_25 rfl rfl ⟨rfl, rfl, rfl, rfl, rfl, rfl, rfl, rfl, rfl, rfl, rfl, trivial⟩),
  okp rfl rfl (oqL (ys := [.i a1.Conc.Lo, .i a1.Conc.Hi, .i a1.Thick.Lo, .i a1.Thick.Hi, .i a1.Ridge.Lo, .i a1.Ridge.Hi, .i a1.Press.Lo, .i a1.Press.Hi]) (lN rfl) sh_34 rfl rfl ⟨rfl, rfl, rfl, rfl, rfl, rfl, rfl, rfl, trivial⟩),
  okp rfl rfl (oqC (x := .i (met a0 a1)) (fs := []) (caps := []) (extra := []) (lN rfl) en_90 rfl ⟨rfl, rfl, rfl⟩ (EvL.cons rfl (EvL.cons rfl EvL.nil)) (fun mm aa ww gg hr hrel => (c90 a0 ⟨a0Tp, a0.Thrust.length, a0Tc⟩ ⟨a0Wp, a0.Water.length, a0Wc⟩ ⟨a0Ip, a0.Ice.length, a0Ic⟩ a1 ww (SlIs.mono ha0_Thrust hrel.below) (SlIs.mono ha0_Water hrel.below) (SlIs.mono ha0_Ice hrel.below)))),
  okp rfl rfl (oqA (lN rfl) rfl),
  trivial⟩ ?_
 refine fqK (s' := (kt 3 (.p 1 0) :: kt 4 (.p 2 0) :: kt 5 (.p 3 0) :: kt 6 (.p 4 0) :: kt 8 (.i (met a0 a1)) :: kb 1 25 11 :: kb 2 34 8 :: kb 3 4 1 :: kb 4 32 2 :: sK 1 a0 (.v (.slice a0Tp a0.Thrust.length a0Tc)) (.v (.slice a0Wp a0.Water.length a0Wc)) (.v (.slice a0Ip a0.Ice.length a0Ic)) [kc 2 0 (.i a1.Conc.Lo), kc 2 1 (.i a1.Conc.Hi), kc 2 2 (.i a1.Thick.Lo), kc 2 3 (.i a1.Thick.Hi), kc 2 4 (.i a1.Ridge.Lo), kc 2 5 (.i a1.Ridge.Hi), kc 2 6 (.i a1.Press.Lo), kc 2 7 (.i a1.Press.Hi), kc 3 0 (.B a2), kc 4 0 (.i 0), kc 4 1 (.i 0)])) ?_ (kp rfl) rfl
 refine fqT ?_
 refine aqS ?_
 refine aqT (rows := [_, _]) rfl (by kernel_rfl) ⟨
  okp rfl rfl (oqM (lN rfl) rfl),
  okp rfl rfl (oqB (lN rfl) rfl rfl rfl),
  trivial⟩ ?_
 refine fqK (s' := (kt 3 (.p 1 0) :: kt 4 (.p 2 0) :: kt 5 (.p 3 0) :: kt 6 (.p 4 0) :: kt 8 (.i (met a0 a1)) :: kt 16 (.B ((met a0 a1) != 0)) :: kb 1 25 11 :: kb 2 34 8 :: kb 3 4 1 :: kb 4 32 2 :: sK 1 a0 (.v (.slice a0Tp a0.Thrust.length a0Tc)) (.v (.slice a0Wp a0.Water.length a0Wc)) (.v (.slice a0Ip a0.Ice.length a0Ic)) [kc 2 0 (.i a1.Conc.Lo), kc 2 1 (.i a1.Conc.Hi), kc 2 2 (.i a1.Thick.Lo), kc 2 3 (.i a1.Thick.Hi), kc 2 4 (.i a1.Ridge.Lo), kc 2 5 (.i a1.Ridge.Hi), kc 2 6 (.i a1.Press.Lo), kc 2 7 (.i a1.Press.Hi), kc 3 0 (.B a2), kc 4 0 (.i 0), kc 4 1 (.i 0)])) ?_ (kp rfl) rfl
 refine fqT ?_
 refine aqc rfl (fun hz1 => ?_) (fun hz1 => ?_)
 ·have hm := brk_t hz1 hm
  refine aqS ?_
  refine aqT (rows := [_, _, _, _]) rfl (by kernel_rfl) ⟨
   okp rfl rfl (op_build (x := .g [.i 0, .i 0]) (lN rfl) EvL.nil (fun m w => by kernel_rfl)),
   okp rfl rfl (oqM (lN rfl) rfl),
   okp rfl rfl (oqS sz_32 rfl rfl rfl rfl rfl (by decide)),
   okp rfl rfl (oqA (lN rfl) rfl),
   trivial⟩ ?_
  refine fqK (s' := [kt 6 (.p 4 0), kt 7 (.i (met a0 a1)), kb 4 32 2, kc 4 0 (.i 0), kc 4 1 (.i 0)]) ?_ (kp rfl) rfl
  refine fqT ?_
  refine aqr ?_
  refine fqR ?_
  refine post_retM (x := .t [.g [.i 0, .i 0], .i (met a0 a1)]) rfl (rqC (ys := [.i 0, .i 0]) rfl sh_32 rfl ⟨rfl, rfl, trivial⟩ (rqT rfl rqN)) rfl (fun mm aa ww hr => ?_) (.inl rfl)
  have hm := Option.some.inj hm
  subst hm
  exact ⟨rfl, hr.below⟩
 ·have hm := brk_f hz1 hm
  refine aqk ?_
  refine fqT ?_
  refine aqS ?_
  refine aqT (rows := [_, _, _]) rfl (by kernel_rfl) ⟨
   okp rfl rfl (op_build (x := .g [.i 250, .i 0]) (lN rfl) (EvL.cons rfl EvL.nil) (fun m w => by kernel_rfl)),
   okp rfl rfl (oqa (L := 5) (lN rfl) zl_32),
   okp rfl rfl (oqS sz_32 rfl rfl rfl rfl rfl (by decide)),
   trivial⟩ ?_
  refine fqK (s' := (kt 3 (.p 1 0) :: kt 4 (.p 2 0) :: kt 5 (.p 3 0) :: kt 6 (.p 4 0) :: kt 9 (.p 5 0) :: kb 1 25 11 :: kb 2 34 8 :: kb 3 4 1 :: kb 4 32 2 :: kb 5 32 2 :: sK 1 a0 (.v (.slice a0Tp a0.Thrust.length a0Tc)) (.v (.slice a0Wp a0.Water.length a0Wc)) (.v (.slice a0Ip a0.Ice.length a0Ic)) [kc 2 0 (.i a1.Conc.Lo), kc 2 1 (.i a1.Conc.Hi), kc 2 2 (.i a1.Thick.Lo), kc 2 3 (.i a1.Thick.Hi), kc 2 4 (.i a1.Ridge.Lo), kc 2 5 (.i a1.Ridge.Hi), kc 2 6 (.i a1.Press.Lo), kc 2 7 (.i a1.Press.Hi), kc 3 0 (.B a2), kc 4 0 (.i 0), kc 4 1 (.i 0), kc 5 0 (.i 250), kc 5 1 (.i 0)])) ?_ (kp rfl) rfl
  refine fqT ?_
  refine aw_cutM (ι := Int × Int) hm (fun x1 => [kt 6 (.p 4 0), kt 9 (.p 5 0), kb 4 32 2, kb 5 32 2, kc 4 0 (.i 0), kc 4 1 (.i 0), kc 5 0 (.i x1.1), kc 5 1 (.i x1.2)]) (fun hm => ?_) (fun x1 hm => ?_)
  ·have _z := hm
   refine aqS ?_
   obtain ⟨v1, hv1, hm⟩ := bnd_some hm
   refine aqT (rows := [_, _]) rfl (by kernel_rfl) ⟨
    okp rfl rfl (oqL (ys := [.i a1.Conc.Lo, .i a1.Conc.Hi, .i a1.Thick.Lo, .i a1.Thick.Hi, .i a1.Ridge.Lo, .i a1.Ridge.Hi, .i a1.Press.Lo, .i a1.Press.Hi]) (lN rfl) sh_34 rfl rfl ⟨rfl, rfl, rfl, rfl, rfl, rfl, rfl, rfl, trivial⟩),
    okp rfl rfl (op_callNew (ls := [⟨6, 34, [.i a1.Conc.Lo, .i a1.Conc.Hi, .i a1.Thick.Lo, .i a1.Thick.Hi, .i a1.Ridge.Lo, .i a1.Ridge.Hi, .i a1.Press.Lo, .i a1.Press.Hi]⟩]) (R := fun bs => .func (.func 145) #[] #[.pointer (some ⟨bs.getD 0 0, 0, none⟩)]) (x := .f (.func 145) [] [.p 6 0]) (fs := []) (caps := []) (extra := []) (lN rfl) en_118 rfl ⟨rfl, rfl, rfl⟩ (EvL.cons rfl EvL.nil) rfl (fun _ => rfl) (fun mm aa ww gg hr hrel => (c118 F a1 ww v1 hv1))),
    trivial⟩ ?_
   refine fqK (s' := (kt 3 (.p 1 0) :: kt 5 (.p 3 0) :: kt 6 (.p 4 0) :: kt 9 (.p 5 0) :: kt 21 (.f (.func 145) [] [.p 6 0]) :: kb 1 25 11 :: kb 3 4 1 :: kb 4 32 2 :: kb 5 32 2 :: kb 6 34 8 :: sK 1 a0 (.v (.slice a0Tp a0.Thrust.length a0Tc)) (.v (.slice a0Wp a0.Water.length a0Wc)) (.v (.slice a0Ip a0.Ice.length a0Ic)) [kc 3 0 (.B a2), kc 4 0 (.i 0), kc 4 1 (.i 0), kc 5 0 (.i 250), kc 5 1 (.i 0), kc 6 0 (.i a1.Conc.Lo), kc 6 1 (.i a1.Conc.Hi), kc 6 2 (.i a1.Thick.Lo), kc 6 3 (.i a1.Thick.Hi), kc 6 4 (.i a1.Ridge.Lo), kc 6 5 (.i a1.Ridge.Hi), kc 6 6 (.i a1.Press.Lo), kc 6 7 (.i a1.Press.Hi)])) ?_ (kp rfl) rfl
   refine fqT ?_
   refine aw_block ?_
   refine aw_rangeFunc (N' := 18) 0 [(3, .p 1 0), (5, .p 3 0), (6, .p 4 0), (9, .p 5 0), (21, .f (.func 145) [] [.p 6 0])] (kb 1 25 11 :: kb 3 4 1 :: kb 4 32 2 :: kb 5 32 2 :: kb 6 34 8 :: sK 1 a0 (.v (.slice a0Tp a0.Thrust.length a0Tc)) (.v (.slice a0Wp a0.Water.length a0Wc)) (.v (.slice a0Ip a0.Ice.length a0Ic)) [kc 3 0 (.B a2), kc 4 0 (.i 0), kc 4 1 (.i 0), kc 5 0 (.i 250), kc 5 1 (.i 0), kc 6 0 (.i a1.Conc.Lo), kc 6 1 (.i a1.Conc.Hi), kc 6 2 (.i a1.Thick.Lo), kc 6 3 (.i a1.Thick.Hi), kc 6 4 (.i a1.Ridge.Lo), kc 6 5 (.i a1.Ridge.Hi), kc 6 6 (.i a1.Press.Lo), kc 6 7 (.i a1.Press.Hi)]) rfl ⟨rfl, rfl, rfl⟩ Tryd.func145 rfl rfl en_145 (by decide) ⟨rfl, rfl, rfl, rfl, rfl, trivial⟩ ⟨rfl, rfl, rfl, rfl, rfl, rfl, rfl, rfl, rfl, rfl, rfl, rfl, rfl, rfl, rfl, rfl, rfl, rfl, rfl, rfl, rfl, rfl, rfl, rfl, rfl, rfl, rfl, rfl, rfl, trivial⟩ rfl rfl (fun l1 D1 fn1 aT1 aD1 K1 hB1 hK1 hM1 hs1 hz1 => ?_)
   refine AW.keep (s' := (kt 0 (.v (.func (.yield l1) #[] #[])) :: kt 1 (.p 6 0) :: (.u 0 3, some (.x (.p 1 0))) :: (.u 0 5, some (.x (.p 3 0))) :: (.u 0 6, some (.x (.p 4 0))) :: (.u 0 9, some (.x (.p 5 0))) :: (.u 0 21, some (.x (.f (.func 145) [] [.p 6 0]))) :: kb 1 25 11 :: kb 3 4 1 :: kb 4 32 2 :: kb 5 32 2 :: kb 6 34 8 :: sK 1 a0 (.v (.slice a0Tp a0.Thrust.length a0Tc)) (.v (.slice a0Wp a0.Water.length a0Wc)) (.v (.slice a0Ip a0.Ice.length a0Ic)) [kc 3 0 (.B a2), kc 4 0 (.i 0), kc 4 1 (.i 0), kc 5 0 (.i 250), kc 5 1 (.i 0), kc 6 0 (.i a1.Conc.Lo), kc 6 1 (.i a1.Conc.Hi), kc 6 2 (.i a1.Thick.Lo), kc 6 3 (.i a1.Thick.Hi), kc 6 4 (.i a1.Ridge.Lo), kc 6 5 (.i a1.Ridge.Hi), kc 6 6 (.i a1.Press.Lo), kc 6 7 (.i a1.Press.Hi)])) ?_ (kp rfl) rfl
   refine aqS ?_
   obtain ⟨v2, hv2, hm⟩ := bnd_some hm
   refine aw_any (rows := [_, _, _, _, _, _, _, _, _, _, _]) (M := [0, 0, 2, 7, 15, 31, 63, 31, 255, 511, 1023]) Tryd_mixed (by kernel_rfl) rfl (by kernel_rfl) ⟨
    okp rfl rfl (oqM (lN rfl) rfl),
    okp rfl rfl (oqL (ys := [.i a1.Conc.Lo, .i a1.Conc.Hi, .i a1.Thick.Lo, .i a1.Thick.Hi, .i a1.Ridge.Lo, .i a1.Ridge.Hi, .i a1.Press.Lo, .i a1.Press.Hi]) (lN rfl) sh_34 rfl rfl ⟨rfl, rfl, rfl, rfl, rfl, rfl, rfl, rfl, trivial⟩),
    okp rfl rfl (oqC (x := .g [.i ((firstI a1).Conc), .i ((firstI a1).Thick), .i ((firstI a1).Ridge), .i ((firstI a1).Press)]) (fs := []) (caps := []) (extra := []) (lN rfl) en_88 rfl ⟨rfl, rfl, rfl⟩ (EvL.cons rfl EvL.nil) (fun mm aa ww gg hr hrel => (c88 a1 ww))),
    okp rfl rfl (op_yieldIn (N := 38) (tqS [(0, .v (.func (.yield l1) #[] #[])), (1, .p 6 0), (3, .v (.func (.yield l1) #[] #[])), (4, .g [.i a1.Conc.Lo, .i a1.Conc.Hi, .i a1.Thick.Lo, .i a1.Thick.Hi, .i a1.Ridge.Lo, .i a1.Ridge.Hi, .i a1.Press.Lo, .i a1.Press.Hi]), (5, .g [.i ((firstI a1).Conc), .i ((firstI a1).Thick), .i ((firstI a1).Ridge), .i ((firstI a1).Press)])] ++ (((((.u 0 3, some (.x (.p 1 0))) :: (.u 0 5, some (.x (.p 3 0))) :: (.u 0 6, some (.x (.p 4 0))) :: (.u 0 9, some (.x (.p 5 0))) :: (.u 0 21, some (.x (.f (.func 145) [] [.p 6 0]))) :: kb 1 25 11 :: kb 3 4 1 :: kb 4 32 2 :: kb 5 32 2 :: kb 6 34 8 :: sK 1 a0 (.v (.slice a0Tp a0.Thrust.length a0Tc)) (.v (.slice a0Wp a0.Water.length a0Wc)) (.v (.slice a0Ip a0.Ice.length a0Ic)) [kc 3 0 (.B a2), kc 4 0 (.i 0), kc 4 1 (.i 0)]) : St) ++ (([kc 5 0 (.i v2.1), kc 5 1 (.i v2.2), kc 6 0 (.i a1.Conc.Lo), kc 6 1 (.i a1.Conc.Hi), kc 6 2 (.i a1.Thick.Lo), kc 6 3 (.i a1.Thick.Hi), kc 6 4 (.i a1.Ridge.Lo), kc 6 5 (.i a1.Ridge.Hi), kc 6 6 (.i a1.Press.Lo), kc 6 7 (.i a1.Press.Hi)] : St))) ++ dqS [.b 7, .c 7 0, .c 7 1, .c 7 2, .c 7 3, .t 10, .t 11, .t 23, .t 24, .t 25, .t 26, .t 27, .t 28, .t 29, .t 30, .t 31, .t 32, .t 33, .t 34, .t 35, .t 36])) 1 [(0, .v (.func (.yield l1) #[] #[])), (1, .p 6 0), (3, .v (.func (.yield l1) #[] #[])), (4, .g [.i a1.Conc.Lo, .i a1.Conc.Hi, .i a1.Thick.Lo, .i a1.Thick.Hi, .i a1.Ridge.Lo, .i a1.Ridge.Hi, .i a1.Press.Lo, .i a1.Press.Hi]), (5, .g [.i ((firstI a1).Conc), .i ((firstI a1).Thick), .i ((firstI a1).Ridge), .i ((firstI a1).Press)])] [(3, .p 1 0), (5, .p 3 0), (6, .p 4 0), (9, .p 5 0), (21, .f (.func 145) [] [.p 6 0])] ((.u 0 3, some (.x (.p 1 0))) :: (.u 0 5, some (.x (.p 3 0))) :: (.u 0 6, some (.x (.p 4 0))) :: (.u 0 9, some (.x (.p 5 0))) :: (.u 0 21, some (.x (.f (.func 145) [] [.p 6 0]))) :: kb 1 25 11 :: kb 3 4 1 :: kb 4 32 2 :: kb 5 32 2 :: kb 6 34 8 :: sK 1 a0 (.v (.slice a0Tp a0.Thrust.length a0Tc)) (.v (.slice a0Wp a0.Water.length a0Wc)) (.v (.slice a0Ip a0.Ice.length a0Ic)) [kc 3 0 (.B a2), kc 4 0 (.i 0), kc 4 1 (.i 0), kc 5 0 (.i 250), kc 5 1 (.i 0), kc 6 0 (.i a1.Conc.Lo), kc 6 1 (.i a1.Conc.Hi), kc 6 2 (.i a1.Thick.Lo), kc 6 3 (.i a1.Thick.Hi), kc 6 4 (.i a1.Ridge.Lo), kc 6 5 (.i a1.Ridge.Hi), kc 6 6 (.i a1.Press.Lo), kc 6 7 (.i a1.Press.Hi)]) (lN rfl) rfl (EvL.cons rfl EvL.nil) rfl (by decide) hz1 ⟨rfl, rfl, rfl, rfl, rfl, trivial⟩ ⟨rfl, rfl, rfl, rfl, rfl, trivial⟩ ⟨rfl, rfl, rfl, rfl, rfl, rfl, rfl, rfl, rfl, rfl, rfl, rfl, rfl, rfl, rfl, rfl, rfl, rfl, rfl, rfl, rfl, rfl, rfl, rfl, rfl, rfl, rfl, rfl, rfl, rfl, rfl, rfl, rfl, rfl, trivial⟩ rfl rfl (by decide) rfl (fun aIv2 hIv2 => ?_)),
    okp rfl rfl (oqM (lN rfl) rfl),
    oqy rfl rfl rfl rfl rfl rfl (oqL (ys := [.i a1.Conc.Lo, .i a1.Conc.Hi, .i a1.Thick.Lo, .i a1.Thick.Hi, .i a1.Ridge.Lo, .i a1.Ridge.Hi, .i a1.Press.Lo, .i a1.Press.Hi]) (lN rfl) sh_34 rfl rfl ⟨rfl, rfl, rfl, rfl, rfl, rfl, rfl, rfl, trivial⟩),
    oqy rfl rfl rfl rfl rfl rfl (oqC (x := .g [.i ((firstI a1).Conc), .i ((firstI a1).Thick), .i ((firstI a1).Ridge), .i ((firstI a1).Press)]) (fs := []) (caps := []) (extra := []) (lN rfl) en_88 rfl ⟨rfl, rfl, rfl⟩ (EvL.cons rfl EvL.nil) (fun mm aa ww gg hr hrel => (c88 a1 ww))),
    oqy rfl rfl rfl rfl rfl rfl (oqL (ys := [.i a1.Conc.Lo, .i a1.Conc.Hi, .i a1.Thick.Lo, .i a1.Thick.Hi, .i a1.Ridge.Lo, .i a1.Ridge.Hi, .i a1.Press.Lo, .i a1.Press.Hi]) (lN rfl) sh_34 rfl rfl ⟨rfl, rfl, rfl, rfl, rfl, rfl, rfl, rfl, trivial⟩),
    oqy rfl rfl rfl rfl rfl rfl (oqC (x := .g [.i ((lastI a1).Conc), .i ((lastI a1).Thick), .i ((lastI a1).Ridge), .i ((lastI a1).Press)]) (fs := []) (caps := []) (extra := []) (lN rfl) en_100 rfl ⟨rfl, rfl, rfl⟩ (EvL.cons rfl EvL.nil) (fun mm aa ww gg hr hrel => (c100 a1 ww))),
    oqy rfl rfl rfl rfl rfl rfl (op_neS (r := decide ((firstI a1) = (lastI a1))) (lN rfl) rfl rfl eqg_28 (fun _ => Eq.trans (by kernel_rfl) (congrArg some (Ice_eqd ((firstI a1)) ((lastI a1)))))),
    okp rfl rfl (oqP (lN rfl) rfl rfl),
    trivial⟩ ?_
   ·have hm := hv2
    refine AW.keep (s' := (kt 3 (.p 1 0) :: kt 5 (.p 3 0) :: kt 6 (.p 4 0) :: kt 9 (.p 5 0) :: kt 21 (.f (.func 145) [] [.p 6 0]) :: kt 22 (.g [.i ((firstI a1).Conc), .i ((firstI a1).Thick), .i ((firstI a1).Ridge), .i ((firstI a1).Press)]) :: (.u 0 3, some (.x (.p 1 0))) :: (.u 0 5, some (.x (.p 3 0))) :: (.u 0 6, some (.x (.p 4 0))) :: (.u 0 9, some (.x (.p 5 0))) :: (.u 0 21, some (.x (.f (.func 145) [] [.p 6 0]))) :: (.u 1 0, some (.x (.v (.func (.yield l1) #[] #[])))) :: (.u 1 1, some (.x (.p 6 0))) :: (.u 1 3, some (.x (.v (.func (.yield l1) #[] #[])))) :: (.u 1 4, some (.x (.g [.i a1.Conc.Lo, .i a1.Conc.Hi, .i a1.Thick.Lo, .i a1.Thick.Hi, .i a1.Ridge.Lo, .i a1.Ridge.Hi, .i a1.Press.Lo, .i a1.Press.Hi]))) :: (.u 1 5, some (.x (.g [.i ((firstI a1).Conc), .i ((firstI a1).Thick), .i ((firstI a1).Ridge), .i ((firstI a1).Press)]))) :: kb 1 25 11 :: kb 3 4 1 :: kb 4 32 2 :: kb 5 32 2 :: kb 6 34 8 :: sK 1 a0 (.v (.slice a0Tp a0.Thrust.length a0Tc)) (.v (.slice a0Wp a0.Water.length a0Wc)) (.v (.slice a0Ip a0.Ice.length a0Ic)) [kc 3 0 (.B a2), kc 4 0 (.i 0), kc 4 1 (.i 0), kc 5 0 (.i 250), kc 5 1 (.i 0), kc 6 0 (.i a1.Conc.Lo), kc 6 1 (.i a1.Conc.Hi), kc 6 2 (.i a1.Thick.Lo), kc 6 3 (.i a1.Thick.Hi), kc 6 4 (.i a1.Ridge.Lo), kc 6 5 (.i a1.Ridge.Hi), kc 6 6 (.i a1.Press.Lo), kc 6 7 (.i a1.Press.Hi)])) ?_ (kp rfl) rfl
    refine aqT (rows := [_, _]) rfl (by kernel_rfl) ⟨
     okp rfl rfl (oqa (L := 7) (lN rfl) zl_28),
     okp rfl rfl (oqS sz_28 rfl rfl rfl rfl rfl (by decide)),
     trivial⟩ ?_
    refine fqK (s' := (kt 3 (.p 1 0) :: kt 5 (.p 3 0) :: kt 9 (.p 5 0) :: kt 10 (.p 7 0) :: (.u 0 3, some (.x (.p 1 0))) :: (.u 0 5, some (.x (.p 3 0))) :: (.u 0 6, some (.x (.p 4 0))) :: (.u 0 9, some (.x (.p 5 0))) :: (.u 0 21, some (.x (.f (.func 145) [] [.p 6 0]))) :: (.u 1 0, some (.x (.v (.func (.yield l1) #[] #[])))) :: (.u 1 1, some (.x (.p 6 0))) :: (.u 1 3, some (.x (.v (.func (.yield l1) #[] #[])))) :: (.u 1 4, some (.x (.g [.i a1.Conc.Lo, .i a1.Conc.Hi, .i a1.Thick.Lo, .i a1.Thick.Hi, .i a1.Ridge.Lo, .i a1.Ridge.Hi, .i a1.Press.Lo, .i a1.Press.Hi]))) :: (.u 1 5, some (.x (.g [.i ((firstI a1).Conc), .i ((firstI a1).Thick), .i ((firstI a1).Ridge), .i ((firstI a1).Press)]))) :: kb 1 25 11 :: kb 3 4 1 :: kb 4 32 2 :: kb 5 32 2 :: kb 6 34 8 :: kb 7 28 4 :: sK 1 a0 (.v (.slice a0Tp a0.Thrust.length a0Tc)) (.v (.slice a0Wp a0.Water.length a0Wc)) (.v (.slice a0Ip a0.Ice.length a0Ic)) [kc 3 0 (.B a2), kc 4 0 (.i 0), kc 4 1 (.i 0), kc 5 0 (.i 250), kc 5 1 (.i 0), kc 6 0 (.i a1.Conc.Lo), kc 6 1 (.i a1.Conc.Hi), kc 6 2 (.i a1.Thick.Lo), kc 6 3 (.i a1.Thick.Hi), kc 6 4 (.i a1.Ridge.Lo), kc 6 5 (.i a1.Ridge.Hi), kc 6 6 (.i a1.Press.Lo), kc 6 7 (.i a1.Press.Hi), kc 7 0 (.i ((firstI a1).Conc)), kc 7 1 (.i ((firstI a1).Thick)), kc 7 2 (.i ((firstI a1).Ridge)), kc 7 3 (.i ((firstI a1).Press))])) ?_ (kp rfl) rfl
    refine fin_begin hB1 hK1 ?_
    refine aw_block ?_
    refine aqS ?_
    obtain ⟨hp2, hm⟩ := chk_some hm
    obtain ⟨hp3, hm⟩ := chk_some hm
    refine aqT (rows := [_, _, _, _, _]) rfl (by kernel_rfl) ⟨
     okp rfl rfl (oqL (ys := [.i ((firstI a1).Conc), .i ((firstI a1).Thick), .i ((firstI a1).Ridge), .i ((firstI a1).Press)]) (lN rfl) sh_28 rfl rfl ⟨rfl, rfl, rfl, rfl, trivial⟩),
     okp rfl rfl (oq1 (lN rfl) sh_4 rfl rfl),
     okp rfl rfl (op_build (x := .g [.p 1 0, .i ((firstI a1).Conc), .i ((firstI a1).Thick), .i ((firstI a1).Ridge), .i ((firstI a1).Press), .B a2]) (lN rfl) (EvL.cons rfl (EvL.cons rfl (EvL.cons rfl EvL.nil))) (fun m w => by kernel_rfl)),
     okp rfl rfl (oqC (x := .i (speed a0 ((firstI a1)) a2)) (fs := []) (caps := []) (extra := (kapp ((.b 1 :: cqK 1 0 11)) [])) (lN rfl) en_76 rfl ⟨rfl, rfl, rfl⟩ (EvL.cons rfl EvL.nil) (fun mm aa ww gg hr hrel => (c76 a0 ⟨a0Tp, a0.Thrust.length, a0Tc⟩ ⟨a0Wp, a0.Water.length, a0Wc⟩ ⟨a0Ip, a0.Ice.length, a0Ic⟩ (mm 1) ((firstI a1)) a2 ww (SlIs.mono ha0_Thrust hrel.below) (SlIs.mono ha0_Water hrel.below) (SlIs.mono ha0_Ice hrel.below) (bqA (L := 1) (vs := [(.int .i64 a0.Class), (.int .i64 a0.Power), (.int .i64 a0.Draught), (.int .i64 a0.Tonnes), (.slice a0Tp a0.Thrust.length a0Tc), (.slice a0Wp a0.Water.length a0Wc), (.slice a0Ip a0.Ice.length a0Ic), (.int .i64 a0.Slow), (.int .i64 a0.Brash), (.int .i64 a0.Ridge), (.int .i64 a0.Press)]) hrel (fun k hk => hr k (List.mem_append_left _ hk)) rfl ⟨rfl, rfl, rfl, rfl, rfl, rfl, rfl, rfl, rfl, rfl, rfl, trivial⟩) hp2 hp3))),
     okp rfl rfl (oqA (lN rfl) rfl),
     trivial⟩ ?_
    refine fqK (s' := (kt 9 (.p 5 0) :: kt 11 (.i (speed a0 ((firstI a1)) a2)) :: (.u 0 3, some (.x (.p 1 0))) :: (.u 0 5, some (.x (.p 3 0))) :: (.u 0 6, some (.x (.p 4 0))) :: (.u 0 9, some (.x (.p 5 0))) :: (.u 0 21, some (.x (.f (.func 145) [] [.p 6 0]))) :: (.u 1 0, some (.x (.v (.func (.yield l1) #[] #[])))) :: (.u 1 1, some (.x (.p 6 0))) :: (.u 1 3, some (.x (.v (.func (.yield l1) #[] #[])))) :: (.u 1 4, some (.x (.g [.i a1.Conc.Lo, .i a1.Conc.Hi, .i a1.Thick.Lo, .i a1.Thick.Hi, .i a1.Ridge.Lo, .i a1.Ridge.Hi, .i a1.Press.Lo, .i a1.Press.Hi]))) :: (.u 1 5, some (.x (.g [.i ((firstI a1).Conc), .i ((firstI a1).Thick), .i ((firstI a1).Ridge), .i ((firstI a1).Press)]))) :: kb 1 25 11 :: kb 3 4 1 :: kb 4 32 2 :: kb 5 32 2 :: kb 6 34 8 :: sK 1 a0 (.v (.slice a0Tp a0.Thrust.length a0Tc)) (.v (.slice a0Wp a0.Water.length a0Wc)) (.v (.slice a0Ip a0.Ice.length a0Ic)) [kc 3 0 (.B a2), kc 4 0 (.i 0), kc 4 1 (.i 0), kc 5 0 (.i 250), kc 5 1 (.i 0), kc 6 0 (.i a1.Conc.Lo), kc 6 1 (.i a1.Conc.Hi), kc 6 2 (.i a1.Thick.Lo), kc 6 3 (.i a1.Thick.Hi), kc 6 4 (.i a1.Ridge.Lo), kc 6 5 (.i a1.Ridge.Hi), kc 6 6 (.i a1.Press.Lo), kc 6 7 (.i a1.Press.Hi)])) ?_ (kp rfl) rfl
    refine fqT ?_
    refine aqT (rows := [_, _, _, _, _, _, _, _, _, _, _, _]) rfl (by kernel_rfl) ⟨
     okp rfl rfl (oqF (lN rfl) rfl fo_32_0),
     okp rfl rfl (oq1 (lN rfl) sh_3 rfl rfl),
     okp rfl rfl (oqM (lN rfl) rfl),
     okp rfl rfl (op_min (lN rfl) rfl rfl),
     okp rfl rfl (oqF (lN rfl) rfl fo_32_1),
     okp rfl rfl (oq1 (lN rfl) sh_3 rfl rfl),
     okp rfl rfl (oqM (lN rfl) rfl),
     okp rfl rfl (op_max (lN rfl) rfl rfl),
     okp rfl rfl (oqF (lN rfl) rfl fo_32_0),
     okp rfl rfl (oqs sz_3 rfl rfl rfl rfl (lN rfl)),
     okp rfl rfl (oqF (lN rfl) rfl fo_32_1),
     okp rfl rfl (oqs sz_3 rfl rfl rfl rfl (lN rfl)),
     trivial⟩ ?_
    refine fqK (s' := ((.u 0 3, some (.x (.p 1 0))) :: (.u 0 5, some (.x (.p 3 0))) :: (.u 0 6, some (.x (.p 4 0))) :: (.u 0 9, some (.x (.p 5 0))) :: (.u 0 21, some (.x (.f (.func 145) [] [.p 6 0]))) :: (.u 1 0, some (.x (.v (.func (.yield l1) #[] #[])))) :: (.u 1 1, some (.x (.p 6 0))) :: (.u 1 3, some (.x (.v (.func (.yield l1) #[] #[])))) :: (.u 1 4, some (.x (.g [.i a1.Conc.Lo, .i a1.Conc.Hi, .i a1.Thick.Lo, .i a1.Thick.Hi, .i a1.Ridge.Lo, .i a1.Ridge.Hi, .i a1.Press.Lo, .i a1.Press.Hi]))) :: (.u 1 5, some (.x (.g [.i ((firstI a1).Conc), .i ((firstI a1).Thick), .i ((firstI a1).Ridge), .i ((firstI a1).Press)]))) :: kb 1 25 11 :: kb 3 4 1 :: kb 4 32 2 :: kb 5 32 2 :: kb 6 34 8 :: sK 1 a0 (.v (.slice a0Tp a0.Thrust.length a0Tc)) (.v (.slice a0Wp a0.Water.length a0Wc)) (.v (.slice a0Ip a0.Ice.length a0Ic)) [kc 3 0 (.B a2), kc 4 0 (.i 0), kc 4 1 (.i 0), kc 5 0 (.i (if (speed a0 ((firstI a1)) a2) < 250 then speed a0 ((firstI a1)) a2 else 250)), kc 5 1 (.i (if (speed a0 ((firstI a1)) a2) > 0 then speed a0 ((firstI a1)) a2 else 0)), kc 6 0 (.i a1.Conc.Lo), kc 6 1 (.i a1.Conc.Hi), kc 6 2 (.i a1.Thick.Lo), kc 6 3 (.i a1.Thick.Hi), kc 6 4 (.i a1.Ridge.Lo), kc 6 5 (.i a1.Ridge.Hi), kc 6 6 (.i a1.Press.Lo), kc 6 7 (.i a1.Press.Hi)])) ?_ (kp rfl) rfl
    refine fqB ?_
    have hm := Option.some.inj hm
    subst hm
    exact fin_roundEnd _ _ _ rfl hB1 hK1 hIv2 ⟨rfl, rfl, rfl, rfl, rfl, trivial⟩ ⟨rfl, rfl, rfl, rfl, rfl, rfl, rfl, rfl, rfl, rfl, rfl, rfl, rfl, rfl, rfl, rfl, rfl, rfl, rfl, rfl, rfl, rfl, rfl, rfl, rfl, rfl, rfl, rfl, rfl, rfl, rfl, rfl, rfl, rfl, trivial⟩ rfl rfl
   refine fqK (s' := (kt 0 (.v (.func (.yield l1) #[] #[])) :: kt 1 (.p 6 0) :: kt 13 (.B (!decide ((firstI a1) = (lastI a1)))) :: (.u 0 3, some (.x (.p 1 0))) :: (.u 0 5, some (.x (.p 3 0))) :: (.u 0 6, some (.x (.p 4 0))) :: (.u 0 9, some (.x (.p 5 0))) :: (.u 0 21, some (.x (.f (.func 145) [] [.p 6 0]))) :: kb 1 25 11 :: kb 3 4 1 :: kb 4 32 2 :: kb 5 32 2 :: kb 6 34 8 :: sK 1 a0 (.v (.slice a0Tp a0.Thrust.length a0Tc)) (.v (.slice a0Wp a0.Water.length a0Wc)) (.v (.slice a0Ip a0.Ice.length a0Ic)) [kc 3 0 (.B a2), kc 4 0 (.i 0), kc 4 1 (.i 0), kc 5 0 (.i v2.1), kc 5 1 (.i v2.2), kc 6 0 (.i a1.Conc.Lo), kc 6 1 (.i a1.Conc.Hi), kc 6 2 (.i a1.Thick.Lo), kc 6 3 (.i a1.Thick.Hi), kc 6 4 (.i a1.Ridge.Lo), kc 6 5 (.i a1.Ridge.Hi), kc 6 6 (.i a1.Press.Lo), kc 6 7 (.i a1.Press.Hi)])) ?_ (kp rfl) rfl
   refine fqT ?_
   refine aqc rfl (fun hz4 => ?_) (fun hz4 => ?_)
   ·have hm := brk_t hz4 hm
    obtain ⟨v3, hv3, hm⟩ := bnd_some hm
    refine aqT (rows := [_, _, _, _]) rfl (by kernel_rfl) ⟨
     okp rfl rfl (oqM (lN rfl) rfl),
     okp rfl rfl (oqL (ys := [.i a1.Conc.Lo, .i a1.Conc.Hi, .i a1.Thick.Lo, .i a1.Thick.Hi, .i a1.Ridge.Lo, .i a1.Ridge.Hi, .i a1.Press.Lo, .i a1.Press.Hi]) (lN rfl) sh_34 rfl rfl ⟨rfl, rfl, rfl, rfl, rfl, rfl, rfl, rfl, trivial⟩),
     okp rfl rfl (oqC (x := .g [.i ((lastI a1).Conc), .i ((lastI a1).Thick), .i ((lastI a1).Ridge), .i ((lastI a1).Press)]) (fs := []) (caps := []) (extra := []) (lN rfl) en_100 rfl ⟨rfl, rfl, rfl⟩ (EvL.cons rfl EvL.nil) (fun mm aa ww gg hr hrel => (c100 a1 ww))),
     okp rfl rfl (op_yieldIn (N := 38) (tqS [(0, .v (.func (.yield l1) #[] #[])), (1, .p 6 0), (13, .B (!decide ((firstI a1) = (lastI a1)))), (14, .v (.func (.yield l1) #[] #[])), (15, .g [.i a1.Conc.Lo, .i a1.Conc.Hi, .i a1.Thick.Lo, .i a1.Thick.Hi, .i a1.Ridge.Lo, .i a1.Ridge.Hi, .i a1.Press.Lo, .i a1.Press.Hi]), (16, .g [.i ((lastI a1).Conc), .i ((lastI a1).Thick), .i ((lastI a1).Ridge), .i ((lastI a1).Press)])] ++ (((((.u 0 3, some (.x (.p 1 0))) :: (.u 0 5, some (.x (.p 3 0))) :: (.u 0 6, some (.x (.p 4 0))) :: (.u 0 9, some (.x (.p 5 0))) :: (.u 0 21, some (.x (.f (.func 145) [] [.p 6 0]))) :: kb 1 25 11 :: kb 3 4 1 :: kb 4 32 2 :: kb 5 32 2 :: kb 6 34 8 :: sK 1 a0 (.v (.slice a0Tp a0.Thrust.length a0Tc)) (.v (.slice a0Wp a0.Water.length a0Wc)) (.v (.slice a0Ip a0.Ice.length a0Ic)) [kc 3 0 (.B a2), kc 4 0 (.i 0), kc 4 1 (.i 0)]) : St) ++ (([kc 5 0 (.i v3.1), kc 5 1 (.i v3.2), kc 6 0 (.i a1.Conc.Lo), kc 6 1 (.i a1.Conc.Hi), kc 6 2 (.i a1.Thick.Lo), kc 6 3 (.i a1.Thick.Hi), kc 6 4 (.i a1.Ridge.Lo), kc 6 5 (.i a1.Ridge.Hi), kc 6 6 (.i a1.Press.Lo), kc 6 7 (.i a1.Press.Hi)] : St))) ++ dqS [.b 8, .c 8 0, .c 8 1, .c 8 2, .c 8 3, .t 10, .t 11, .t 23, .t 24, .t 25, .t 26, .t 27, .t 28, .t 29, .t 30, .t 31, .t 32, .t 33, .t 34, .t 35, .t 36])) 1 [(0, .v (.func (.yield l1) #[] #[])), (1, .p 6 0), (13, .B (!decide ((firstI a1) = (lastI a1)))), (14, .v (.func (.yield l1) #[] #[])), (15, .g [.i a1.Conc.Lo, .i a1.Conc.Hi, .i a1.Thick.Lo, .i a1.Thick.Hi, .i a1.Ridge.Lo, .i a1.Ridge.Hi, .i a1.Press.Lo, .i a1.Press.Hi]), (16, .g [.i ((lastI a1).Conc), .i ((lastI a1).Thick), .i ((lastI a1).Ridge), .i ((lastI a1).Press)])] [(3, .p 1 0), (5, .p 3 0), (6, .p 4 0), (9, .p 5 0), (21, .f (.func 145) [] [.p 6 0])] ((.u 0 3, some (.x (.p 1 0))) :: (.u 0 5, some (.x (.p 3 0))) :: (.u 0 6, some (.x (.p 4 0))) :: (.u 0 9, some (.x (.p 5 0))) :: (.u 0 21, some (.x (.f (.func 145) [] [.p 6 0]))) :: kb 1 25 11 :: kb 3 4 1 :: kb 4 32 2 :: kb 5 32 2 :: kb 6 34 8 :: sK 1 a0 (.v (.slice a0Tp a0.Thrust.length a0Tc)) (.v (.slice a0Wp a0.Water.length a0Wc)) (.v (.slice a0Ip a0.Ice.length a0Ic)) [kc 3 0 (.B a2), kc 4 0 (.i 0), kc 4 1 (.i 0), kc 5 0 (.i v2.1), kc 5 1 (.i v2.2), kc 6 0 (.i a1.Conc.Lo), kc 6 1 (.i a1.Conc.Hi), kc 6 2 (.i a1.Thick.Lo), kc 6 3 (.i a1.Thick.Hi), kc 6 4 (.i a1.Ridge.Lo), kc 6 5 (.i a1.Ridge.Hi), kc 6 6 (.i a1.Press.Lo), kc 6 7 (.i a1.Press.Hi)]) (lN rfl) rfl (EvL.cons rfl EvL.nil) rfl (by decide) hz1 ⟨rfl, rfl, rfl, rfl, rfl, rfl, trivial⟩ ⟨rfl, rfl, rfl, rfl, rfl, trivial⟩ ⟨rfl, rfl, rfl, rfl, rfl, rfl, rfl, rfl, rfl, rfl, rfl, rfl, rfl, rfl, rfl, rfl, rfl, rfl, rfl, rfl, rfl, rfl, rfl, rfl, rfl, rfl, rfl, rfl, rfl, rfl, rfl, rfl, rfl, rfl, trivial⟩ rfl rfl (by decide) rfl (fun aIv3 hIv3 => ?_)),
     trivial⟩ ?_
    ·have hm := hv3
     refine AW.keep (s' := (kt 3 (.p 1 0) :: kt 5 (.p 3 0) :: kt 6 (.p 4 0) :: kt 9 (.p 5 0) :: kt 21 (.f (.func 145) [] [.p 6 0]) :: kt 22 (.g [.i ((lastI a1).Conc), .i ((lastI a1).Thick), .i ((lastI a1).Ridge), .i ((lastI a1).Press)]) :: (.u 0 3, some (.x (.p 1 0))) :: (.u 0 5, some (.x (.p 3 0))) :: (.u 0 6, some (.x (.p 4 0))) :: (.u 0 9, some (.x (.p 5 0))) :: (.u 0 21, some (.x (.f (.func 145) [] [.p 6 0]))) :: (.u 1 0, some (.x (.v (.func (.yield l1) #[] #[])))) :: (.u 1 1, some (.x (.p 6 0))) :: (.u 1 13, some (.x (.B (!decide ((firstI a1) = (lastI a1)))))) :: (.u 1 14, some (.x (.v (.func (.yield l1) #[] #[])))) :: (.u 1 15, some (.x (.g [.i a1.Conc.Lo, .i a1.Conc.Hi, .i a1.Thick.Lo, .i a1.Thick.Hi, .i a1.Ridge.Lo, .i a1.Ridge.Hi, .i a1.Press.Lo, .i a1.Press.Hi]))) :: (.u 1 16, some (.x (.g [.i ((lastI a1).Conc), .i ((lastI a1).Thick), .i ((lastI a1).Ridge), .i ((lastI a1).Press)]))) :: kb 1 25 11 :: kb 3 4 1 :: kb 4 32 2 :: kb 5 32 2 :: kb 6 34 8 :: sK 1 a0 (.v (.slice a0Tp a0.Thrust.length a0Tc)) (.v (.slice a0Wp a0.Water.length a0Wc)) (.v (.slice a0Ip a0.Ice.length a0Ic)) [kc 3 0 (.B a2), kc 4 0 (.i 0), kc 4 1 (.i 0), kc 5 0 (.i v2.1), kc 5 1 (.i v2.2), kc 6 0 (.i a1.Conc.Lo), kc 6 1 (.i a1.Conc.Hi), kc 6 2 (.i a1.Thick.Lo), kc 6 3 (.i a1.Thick.Hi), kc 6 4 (.i a1.Ridge.Lo), kc 6 5 (.i a1.Ridge.Hi), kc 6 6 (.i a1.Press.Lo), kc 6 7 (.i a1.Press.Hi)])) ?_ (kp rfl) rfl
     refine aqT (rows := [_, _]) rfl (by kernel_rfl) ⟨
      okp rfl rfl (oqa (L := 8) (lN rfl) zl_28),
      okp rfl rfl (oqS sz_28 rfl rfl rfl rfl rfl (by decide)),
      trivial⟩ ?_
     refine fqK (s' := (kt 3 (.p 1 0) :: kt 5 (.p 3 0) :: kt 9 (.p 5 0) :: kt 10 (.p 8 0) :: (.u 0 3, some (.x (.p 1 0))) :: (.u 0 5, some (.x (.p 3 0))) :: (.u 0 6, some (.x (.p 4 0))) :: (.u 0 9, some (.x (.p 5 0))) :: (.u 0 21, some (.x (.f (.func 145) [] [.p 6 0]))) :: (.u 1 0, some (.x (.v (.func (.yield l1) #[] #[])))) :: (.u 1 1, some (.x (.p 6 0))) :: (.u 1 13, some (.x (.B (!decide ((firstI a1) = (lastI a1)))))) :: (.u 1 14, some (.x (.v (.func (.yield l1) #[] #[])))) :: (.u 1 15, some (.x (.g [.i a1.Conc.Lo, .i a1.Conc.Hi, .i a1.Thick.Lo, .i a1.Thick.Hi, .i a1.Ridge.Lo, .i a1.Ridge.Hi, .i a1.Press.Lo, .i a1.Press.Hi]))) :: (.u 1 16, some (.x (.g [.i ((lastI a1).Conc), .i ((lastI a1).Thick), .i ((lastI a1).Ridge), .i ((lastI a1).Press)]))) :: kb 1 25 11 :: kb 3 4 1 :: kb 4 32 2 :: kb 5 32 2 :: kb 6 34 8 :: kb 8 28 4 :: sK 1 a0 (.v (.slice a0Tp a0.Thrust.length a0Tc)) (.v (.slice a0Wp a0.Water.length a0Wc)) (.v (.slice a0Ip a0.Ice.length a0Ic)) [kc 3 0 (.B a2), kc 4 0 (.i 0), kc 4 1 (.i 0), kc 5 0 (.i v2.1), kc 5 1 (.i v2.2), kc 6 0 (.i a1.Conc.Lo), kc 6 1 (.i a1.Conc.Hi), kc 6 2 (.i a1.Thick.Lo), kc 6 3 (.i a1.Thick.Hi), kc 6 4 (.i a1.Ridge.Lo), kc 6 5 (.i a1.Ridge.Hi), kc 6 6 (.i a1.Press.Lo), kc 6 7 (.i a1.Press.Hi), kc 8 0 (.i ((lastI a1).Conc)), kc 8 1 (.i ((lastI a1).Thick)), kc 8 2 (.i ((lastI a1).Ridge)), kc 8 3 (.i ((lastI a1).Press))])) ?_ (kp rfl) rfl
     refine fin_begin hB1 hK1 ?_
     refine aw_block ?_
     refine aqS ?_
     obtain ⟨hp5, hm⟩ := chk_some hm
     obtain ⟨hp6, hm⟩ := chk_some hm
     refine aqT (rows := [_, _, _, _, _]) rfl (by kernel_rfl) ⟨
      okp rfl rfl (oqL (ys := [.i ((lastI a1).Conc), .i ((lastI a1).Thick), .i ((lastI a1).Ridge), .i ((lastI a1).Press)]) (lN rfl) sh_28 rfl rfl ⟨rfl, rfl, rfl, rfl, trivial⟩),
      okp rfl rfl (oq1 (lN rfl) sh_4 rfl rfl),
      okp rfl rfl (op_build (x := .g [.p 1 0, .i ((lastI a1).Conc), .i ((lastI a1).Thick), .i ((lastI a1).Ridge), .i ((lastI a1).Press), .B a2]) (lN rfl) (EvL.cons rfl (EvL.cons rfl (EvL.cons rfl EvL.nil))) (fun m w => by kernel_rfl)),
      okp rfl rfl (oqC (x := .i (speed a0 ((lastI a1)) a2)) (fs := []) (caps := []) (extra := (kapp ((.b 1 :: cqK 1 0 11)) [])) (lN rfl) en_76 rfl ⟨rfl, rfl, rfl⟩ (EvL.cons rfl EvL.nil) (fun mm aa ww gg hr hrel => (c76 a0 ⟨a0Tp, a0.Thrust.length, a0Tc⟩ ⟨a0Wp, a0.Water.length, a0Wc⟩ ⟨a0Ip, a0.Ice.length, a0Ic⟩ (mm 1) ((lastI a1)) a2 ww (SlIs.mono ha0_Thrust hrel.below) (SlIs.mono ha0_Water hrel.below) (SlIs.mono ha0_Ice hrel.below) (bqA (L := 1) (vs := [(.int .i64 a0.Class), (.int .i64 a0.Power), (.int .i64 a0.Draught), (.int .i64 a0.Tonnes), (.slice a0Tp a0.Thrust.length a0Tc), (.slice a0Wp a0.Water.length a0Wc), (.slice a0Ip a0.Ice.length a0Ic), (.int .i64 a0.Slow), (.int .i64 a0.Brash), (.int .i64 a0.Ridge), (.int .i64 a0.Press)]) hrel (fun k hk => hr k (List.mem_append_left _ hk)) rfl ⟨rfl, rfl, rfl, rfl, rfl, rfl, rfl, rfl, rfl, rfl, rfl, trivial⟩) hp5 hp6))),
      okp rfl rfl (oqA (lN rfl) rfl),
      trivial⟩ ?_
     refine fqK (s' := (kt 9 (.p 5 0) :: kt 11 (.i (speed a0 ((lastI a1)) a2)) :: (.u 0 3, some (.x (.p 1 0))) :: (.u 0 5, some (.x (.p 3 0))) :: (.u 0 6, some (.x (.p 4 0))) :: (.u 0 9, some (.x (.p 5 0))) :: (.u 0 21, some (.x (.f (.func 145) [] [.p 6 0]))) :: (.u 1 0, some (.x (.v (.func (.yield l1) #[] #[])))) :: (.u 1 1, some (.x (.p 6 0))) :: (.u 1 13, some (.x (.B (!decide ((firstI a1) = (lastI a1)))))) :: (.u 1 14, some (.x (.v (.func (.yield l1) #[] #[])))) :: (.u 1 15, some (.x (.g [.i a1.Conc.Lo, .i a1.Conc.Hi, .i a1.Thick.Lo, .i a1.Thick.Hi, .i a1.Ridge.Lo, .i a1.Ridge.Hi, .i a1.Press.Lo, .i a1.Press.Hi]))) :: (.u 1 16, some (.x (.g [.i ((lastI a1).Conc), .i ((lastI a1).Thick), .i ((lastI a1).Ridge), .i ((lastI a1).Press)]))) :: kb 1 25 11 :: kb 3 4 1 :: kb 4 32 2 :: kb 5 32 2 :: kb 6 34 8 :: sK 1 a0 (.v (.slice a0Tp a0.Thrust.length a0Tc)) (.v (.slice a0Wp a0.Water.length a0Wc)) (.v (.slice a0Ip a0.Ice.length a0Ic)) [kc 3 0 (.B a2), kc 4 0 (.i 0), kc 4 1 (.i 0), kc 5 0 (.i v2.1), kc 5 1 (.i v2.2), kc 6 0 (.i a1.Conc.Lo), kc 6 1 (.i a1.Conc.Hi), kc 6 2 (.i a1.Thick.Lo), kc 6 3 (.i a1.Thick.Hi), kc 6 4 (.i a1.Ridge.Lo), kc 6 5 (.i a1.Ridge.Hi), kc 6 6 (.i a1.Press.Lo), kc 6 7 (.i a1.Press.Hi)])) ?_ (kp rfl) rfl
     refine fqT ?_
     refine aqT (rows := [_, _, _, _, _, _, _, _, _, _, _, _]) rfl (by kernel_rfl) ⟨
      okp rfl rfl (oqF (lN rfl) rfl fo_32_0),
      okp rfl rfl (oq1 (lN rfl) sh_3 rfl rfl),
      okp rfl rfl (oqM (lN rfl) rfl),
      okp rfl rfl (op_min (lN rfl) rfl rfl),
      okp rfl rfl (oqF (lN rfl) rfl fo_32_1),
      okp rfl rfl (oq1 (lN rfl) sh_3 rfl rfl),
      okp rfl rfl (oqM (lN rfl) rfl),
      okp rfl rfl (op_max (lN rfl) rfl rfl),
      okp rfl rfl (oqF (lN rfl) rfl fo_32_0),
      okp rfl rfl (oqs sz_3 rfl rfl rfl rfl (lN rfl)),
      okp rfl rfl (oqF (lN rfl) rfl fo_32_1),
      okp rfl rfl (oqs sz_3 rfl rfl rfl rfl (lN rfl)),
      trivial⟩ ?_
     refine fqK (s' := ((.u 0 3, some (.x (.p 1 0))) :: (.u 0 5, some (.x (.p 3 0))) :: (.u 0 6, some (.x (.p 4 0))) :: (.u 0 9, some (.x (.p 5 0))) :: (.u 0 21, some (.x (.f (.func 145) [] [.p 6 0]))) :: (.u 1 0, some (.x (.v (.func (.yield l1) #[] #[])))) :: (.u 1 1, some (.x (.p 6 0))) :: (.u 1 13, some (.x (.B (!decide ((firstI a1) = (lastI a1)))))) :: (.u 1 14, some (.x (.v (.func (.yield l1) #[] #[])))) :: (.u 1 15, some (.x (.g [.i a1.Conc.Lo, .i a1.Conc.Hi, .i a1.Thick.Lo, .i a1.Thick.Hi, .i a1.Ridge.Lo, .i a1.Ridge.Hi, .i a1.Press.Lo, .i a1.Press.Hi]))) :: (.u 1 16, some (.x (.g [.i ((lastI a1).Conc), .i ((lastI a1).Thick), .i ((lastI a1).Ridge), .i ((lastI a1).Press)]))) :: kb 1 25 11 :: kb 3 4 1 :: kb 4 32 2 :: kb 5 32 2 :: kb 6 34 8 :: sK 1 a0 (.v (.slice a0Tp a0.Thrust.length a0Tc)) (.v (.slice a0Wp a0.Water.length a0Wc)) (.v (.slice a0Ip a0.Ice.length a0Ic)) [kc 3 0 (.B a2), kc 4 0 (.i 0), kc 4 1 (.i 0), kc 5 0 (.i (if (speed a0 ((lastI a1)) a2) < v2.1 then speed a0 ((lastI a1)) a2 else v2.1)), kc 5 1 (.i (if (speed a0 ((lastI a1)) a2) > v2.2 then speed a0 ((lastI a1)) a2 else v2.2)), kc 6 0 (.i a1.Conc.Lo), kc 6 1 (.i a1.Conc.Hi), kc 6 2 (.i a1.Thick.Lo), kc 6 3 (.i a1.Thick.Hi), kc 6 4 (.i a1.Ridge.Lo), kc 6 5 (.i a1.Ridge.Hi), kc 6 6 (.i a1.Press.Lo), kc 6 7 (.i a1.Press.Hi)])) ?_ (kp rfl) rfl
     refine fqB ?_
     have hm := Option.some.inj hm
     subst hm
     exact fin_roundEnd _ _ _ rfl hB1 hK1 hIv3 ⟨rfl, rfl, rfl, rfl, rfl, rfl, trivial⟩ ⟨rfl, rfl, rfl, rfl, rfl, rfl, rfl, rfl, rfl, rfl, rfl, rfl, rfl, rfl, rfl, rfl, rfl, rfl, rfl, rfl, rfl, rfl, rfl, rfl, rfl, rfl, rfl, rfl, rfl, rfl, rfl, rfl, rfl, rfl, trivial⟩ rfl rfl
    refine fqK (s' := ((.u 0 3, some (.x (.p 1 0))) :: (.u 0 5, some (.x (.p 3 0))) :: (.u 0 6, some (.x (.p 4 0))) :: (.u 0 9, some (.x (.p 5 0))) :: (.u 0 21, some (.x (.f (.func 145) [] [.p 6 0]))) :: kb 1 25 11 :: kb 3 4 1 :: kb 4 32 2 :: kb 5 32 2 :: kb 6 34 8 :: sK 1 a0 (.v (.slice a0Tp a0.Thrust.length a0Tc)) (.v (.slice a0Wp a0.Water.length a0Wc)) (.v (.slice a0Ip a0.Ice.length a0Ic)) [kc 3 0 (.B a2), kc 4 0 (.i 0), kc 4 1 (.i 0), kc 5 0 (.i v3.1), kc 5 1 (.i v3.2), kc 6 0 (.i a1.Conc.Lo), kc 6 1 (.i a1.Conc.Hi), kc 6 2 (.i a1.Thick.Lo), kc 6 3 (.i a1.Thick.Hi), kc 6 4 (.i a1.Ridge.Lo), kc 6 5 (.i a1.Ridge.Hi), kc 6 6 (.i a1.Press.Lo), kc 6 7 (.i a1.Press.Hi)])) ?_ (kp rfl) rfl
    refine fin_rangeEnd [(3, .p 1 0), (5, .p 3 0), (6, .p 4 0), (9, .p 5 0), (21, .f (.func 145) [] [.p 6 0])] (kb 1 25 11 :: kb 3 4 1 :: kb 4 32 2 :: kb 5 32 2 :: kb 6 34 8 :: sK 1 a0 (.v (.slice a0Tp a0.Thrust.length a0Tc)) (.v (.slice a0Wp a0.Water.length a0Wc)) (.v (.slice a0Ip a0.Ice.length a0Ic)) [kc 3 0 (.B a2), kc 4 0 (.i 0), kc 4 1 (.i 0), kc 5 0 (.i v3.1), kc 5 1 (.i v3.2), kc 6 0 (.i a1.Conc.Lo), kc 6 1 (.i a1.Conc.Hi), kc 6 2 (.i a1.Thick.Lo), kc 6 3 (.i a1.Thick.Hi), kc 6 4 (.i a1.Ridge.Lo), kc 6 5 (.i a1.Ridge.Hi), kc 6 6 (.i a1.Press.Lo), kc 6 7 (.i a1.Press.Hi)]) (.inr rfl) hB1 hK1 hM1 hs1 hz1 rfl ⟨rfl, rfl, rfl, rfl, rfl, trivial⟩ ⟨rfl, rfl, rfl, rfl, rfl, rfl, rfl, rfl, rfl, rfl, rfl, rfl, rfl, rfl, rfl, rfl, rfl, rfl, rfl, rfl, rfl, rfl, rfl, rfl, rfl, rfl, rfl, rfl, rfl, trivial⟩ rfl rfl ?_
    refine fqK (s' := (kt 3 (.p 1 0) :: kt 5 (.p 3 0) :: kt 6 (.p 4 0) :: kt 9 (.p 5 0) :: kt 21 (.f (.func 145) [] [.p 6 0]) :: kb 1 25 11 :: kb 3 4 1 :: kb 4 32 2 :: kb 5 32 2 :: kb 6 34 8 :: sK 1 a0 (.v (.slice a0Tp a0.Thrust.length a0Tc)) (.v (.slice a0Wp a0.Water.length a0Wc)) (.v (.slice a0Ip a0.Ice.length a0Ic)) [kc 3 0 (.B a2), kc 4 0 (.i 0), kc 4 1 (.i 0), kc 5 0 (.i v3.1), kc 5 1 (.i v3.2), kc 6 0 (.i a1.Conc.Lo), kc 6 1 (.i a1.Conc.Hi), kc 6 2 (.i a1.Thick.Lo), kc 6 3 (.i a1.Thick.Hi), kc 6 4 (.i a1.Ridge.Lo), kc 6 5 (.i a1.Ridge.Hi), kc 6 6 (.i a1.Press.Lo), kc 6 7 (.i a1.Press.Hi)])) ?_ (kp rfl) rfl
    refine fqB ?_
    exact fqc (v3.1, v3.2) hm ⟨rfl, rfl, rfl, rfl, rfl, rfl, rfl, rfl, trivial⟩ rfl
   ·have hm := brk_f hz4 hm
    refine aqk ?_
    refine fin_rangeEnd [(3, .p 1 0), (5, .p 3 0), (6, .p 4 0), (9, .p 5 0), (21, .f (.func 145) [] [.p 6 0])] (kb 1 25 11 :: kb 3 4 1 :: kb 4 32 2 :: kb 5 32 2 :: kb 6 34 8 :: sK 1 a0 (.v (.slice a0Tp a0.Thrust.length a0Tc)) (.v (.slice a0Wp a0.Water.length a0Wc)) (.v (.slice a0Ip a0.Ice.length a0Ic)) [kc 3 0 (.B a2), kc 4 0 (.i 0), kc 4 1 (.i 0), kc 5 0 (.i v2.1), kc 5 1 (.i v2.2), kc 6 0 (.i a1.Conc.Lo), kc 6 1 (.i a1.Conc.Hi), kc 6 2 (.i a1.Thick.Lo), kc 6 3 (.i a1.Thick.Hi), kc 6 4 (.i a1.Ridge.Lo), kc 6 5 (.i a1.Ridge.Hi), kc 6 6 (.i a1.Press.Lo), kc 6 7 (.i a1.Press.Hi)]) (.inr rfl) hB1 hK1 hM1 hs1 hz1 rfl ⟨rfl, rfl, rfl, rfl, rfl, trivial⟩ ⟨rfl, rfl, rfl, rfl, rfl, rfl, rfl, rfl, rfl, rfl, rfl, rfl, rfl, rfl, rfl, rfl, rfl, rfl, rfl, rfl, rfl, rfl, rfl, rfl, rfl, rfl, rfl, rfl, rfl, trivial⟩ rfl rfl ?_
    refine fqK (s' := (kt 3 (.p 1 0) :: kt 5 (.p 3 0) :: kt 6 (.p 4 0) :: kt 9 (.p 5 0) :: kt 21 (.f (.func 145) [] [.p 6 0]) :: kb 1 25 11 :: kb 3 4 1 :: kb 4 32 2 :: kb 5 32 2 :: kb 6 34 8 :: sK 1 a0 (.v (.slice a0Tp a0.Thrust.length a0Tc)) (.v (.slice a0Wp a0.Water.length a0Wc)) (.v (.slice a0Ip a0.Ice.length a0Ic)) [kc 3 0 (.B a2), kc 4 0 (.i 0), kc 4 1 (.i 0), kc 5 0 (.i v2.1), kc 5 1 (.i v2.2), kc 6 0 (.i a1.Conc.Lo), kc 6 1 (.i a1.Conc.Hi), kc 6 2 (.i a1.Thick.Lo), kc 6 3 (.i a1.Thick.Hi), kc 6 4 (.i a1.Ridge.Lo), kc 6 5 (.i a1.Ridge.Hi), kc 6 6 (.i a1.Press.Lo), kc 6 7 (.i a1.Press.Hi)])) ?_ (kp rfl) rfl
    refine fqB ?_
    exact fqc (v2.1, v2.2) hm ⟨rfl, rfl, rfl, rfl, rfl, rfl, rfl, rfl, trivial⟩ rfl
  ·have _z := hm
   refine aqS ?_
   refine aqT (rows := [_, _, _]) rfl (by kernel_rfl) ⟨
    okp rfl rfl (oqL (ys := [.i x1.1, .i x1.2]) (lN rfl) sh_32 rfl rfl ⟨rfl, rfl, trivial⟩),
    okp rfl rfl (oqS sz_32 rfl rfl rfl rfl rfl (by decide)),
    okp rfl rfl (oqA (lN rfl) rfl),
    trivial⟩ ?_
   refine fqK (s' := [kt 6 (.p 4 0), kt 7 (.i 0), kb 4 32 2, kc 4 0 (.i x1.1), kc 4 1 (.i x1.2)]) ?_ (kp rfl) rfl
   refine fqT ?_
   refine aqr ?_
   refine post_retM (x := .t [.g [.i x1.1, .i x1.2], .i 0]) rfl (rqC (ys := [.i x1.1, .i x1.2]) rfl sh_32 rfl ⟨rfl, rfl, trivial⟩ (rqT rfl rqN)) rfl (fun mm aa ww hr => ?_) (.inl rfl)
   have hm := Option.some.inj hm
   subst hm
   exact ⟨rfl, hr.below⟩
end Go.Proofs.T
namespace Go.Proofs.T
open Go Go.AX Go.RowKit Hull
theorem en_15 : Proofs.Enters Tryd.prog 15 := Proofs.enters_of Tryd.func15 (by kernel_rfl) rfl
theorem en_17 : Proofs.Enters Tryd.prog 17 := Proofs.enters_of Tryd.func17 (by kernel_rfl) rfl
theorem en_24 : Proofs.Enters Tryd.prog 24 := Proofs.enters_of Tryd.func24 (by kernel_rfl) rfl
end Go.Proofs.T
namespace Go.Proofs.T
open Go Go.AX Go.RowKit Hull
theorem ss_204 : sliceSz Tryd.prog 204 = some 1 := by kernel_rfl
structure Rates where
 Up : Ice
 Down : Ice
deriving DecidableEq
structure Spans where
 A : Span
 B : Span
 C : Span
 D : Span
deriving DecidableEq
def m122 (F : Nat) (a0 : List Int) : Option (Int) :=
 join (fun (_ : Unit) => some 0) (fun k1 => lpC (fun (x2 : Int) n2 => brk (decide (x2 < (((a0.length : Nat) : Int)))) (chk (0 ≤ x2 ∧ x2 < ((a0.length : Nat) : Int)) (brk (((a0.getD x2.toNat 0)) != 0) (some ((a0.getD x2.toNat 0))) (chk (InR (x2 + 1)) (n2 (x2 + 1))))) (k1 ())) F 0)
theorem c122 (F : Nat) (a0 : List Int) (a0_s : SlV) (w : World) (ha0 : SlIs encInt 1 w a0_s a0) (r : Int) (hm : m122 F a0 = some r) : Calls Tryd.prog 122 #[.slice a0_s.p a0_s.n a0_s.c] w fun e w' => e = .returned (.int .i64 r) ∧ Below w.heap.size w w' := by
 obtain ⟨a0_p, a0_n, a0_c⟩ := a0_s
 have ha0_l : a0_n = a0.length := ha0.1
 subst ha0_l
 obtain ⟨a0_b, a0_o, ha0_p, ha0_L⟩ := SlAt.lies' ha0
 unfold m122 at hm
 refine enter (args := [.v (.slice a0_p a0.length a0_c)]) Tryd.func122 rfl (N := 15) rfl (Nat.le_of_ble_eq_true rfl) ?_
 refine aqS ?_
 refine aqT (rows := [_]) rfl (by kernel_rfl) ⟨
  okp rfl rfl (oqA (lN rfl) rfl),
  trivial⟩ ?_
 refine fqK (s' := [kt 0 (.v (.slice a0_p a0.length a0_c))]) ?_ (kp rfl) rfl
 refine fqT ?_
 refine aw_cutM (ι := Unit) hm (fun x1 => []) (fun hm => ?_) (fun x1 hm => ?_)
 ·have _z := hm
  refine aqS ?_
  refine aqT (rows := [_, _, _]) rfl (by kernel_rfl) ⟨
   okp rfl rfl (oqM (lN rfl) rfl),
   okp rfl rfl (op_len (n := a0.length) (lN rfl) (by rw [ss_204]; rfl) rfl rfl),
   okp rfl rfl (oqM (lN rfl) rfl),
   trivial⟩ ?_
  refine fqK (s' := [kt 5 (.v (.slice a0_p a0.length a0_c)), kt 6 (.i (((a0.length : Nat) : Int))), kt 7 (.i 0)]) ?_ (kp rfl) rfl
  refine fqT ?_
  refine aw_block ?_
  refine aw_loopC hm (fun x2 => [kt 5 (.v (.slice a0_p a0.length a0_c)), kt 6 (.i (((a0.length : Nat) : Int))), kt 7 (.i x2)]) ⟨rfl, rfl, rfl, trivial⟩ rfl (fun x2 n2 hm => ?_)
  refine aqS ?_
  refine aqT (rows := [_]) rfl (by kernel_rfl) ⟨
   okp rfl rfl (oqB (lN rfl) rfl rfl rfl),
   trivial⟩ ?_
  refine fqK (s' := [kt 5 (.v (.slice a0_p a0.length a0_c)), kt 6 (.i (((a0.length : Nat) : Int))), kt 7 (.i x2), kt 8 (.B (decide (x2 < (((a0.length : Nat) : Int)))))]) ?_ (kp rfl) rfl
  refine fqT ?_
  refine aqS ?_
  refine aqc rfl (fun hz1 => ?_) (fun hz1 => ?_)
  ·have hm := brk_t hz1 hm
   refine aqk ?_
   refine fqT ?_
   refine aqS ?_
   refine aw_block ?_
   refine aqS ?_
   obtain ⟨hp2, hm⟩ := chk_some hm
   refine aqT (rows := [_, _, _]) rfl (by kernel_rfl) ⟨
    okp rfl rfl (op_ixB (lN rfl) rfl rfl ss_204 (ha0_p (ne_of_ix (i := x2) hp2.1 hp2.2)) hp2.1 hp2.2),
    okp rfl rfl (oqW (y := .i ((a0.getD x2.toNat 0))) (lN rfl) rfl (ld1 (ha0_L (ne_of_ix (i := x2) hp2.1 hp2.2)) 0 (i := x2) hp2.1 hp2.2 0 rfl rfl sh_36)),
    okp rfl rfl (oqA (lN rfl) rfl),
    trivial⟩ ?_
   refine fqK (s' := [kt 4 (.i ((a0.getD x2.toNat 0))), kt 5 (.v (.slice a0_p a0.length a0_c)), kt 6 (.i (((a0.length : Nat) : Int))), kt 7 (.i x2)]) ?_ (kp rfl) rfl
   refine fqT ?_
   refine aqS ?_
   refine aqT (rows := [_, _]) rfl (by kernel_rfl) ⟨
    okp rfl rfl (oqM (lN rfl) rfl),
    okp rfl rfl (oqB (lN rfl) rfl rfl rfl),
    trivial⟩ ?_
   refine fqK (s' := [kt 4 (.i ((a0.getD x2.toNat 0))), kt 5 (.v (.slice a0_p a0.length a0_c)), kt 6 (.i (((a0.length : Nat) : Int))), kt 7 (.i x2), kt 12 (.B (((a0.getD x2.toNat 0)) != 0))]) ?_ (kp rfl) rfl
   refine fqT ?_
   refine aqc rfl (fun hz3 => ?_) (fun hz3 => ?_)
   ·have hm := brk_t hz3 hm
    refine aqS ?_
    refine aqT (rows := [_, _]) rfl (by kernel_rfl) ⟨
     okp rfl rfl (oqM (lN rfl) rfl),
     okp rfl rfl (oqA (lN rfl) rfl),
     trivial⟩ ?_
    refine fqK (s' := [kt 2 (.i ((a0.getD x2.toNat 0)))]) ?_ (kp rfl) rfl
    refine fqT ?_
    refine aqr ?_
    refine fin_block_ret ?_
    refine fqR ?_
    refine fqR ?_
    refine fin_block_ret ?_
    refine fqR ?_
    refine pqr (x := .i ((a0.getD x2.toNat 0))) rfl rfl (rqT rfl rqN) rfl (fun mm aa ww hr => ?_)
    have hm := Option.some.inj hm
    subst hm
    exact ⟨rfl, hr.below⟩
   ·have hm := brk_f hz3 hm
    refine aqk ?_
    refine fqB ?_
    refine fqT ?_
    obtain ⟨hp4, hm⟩ := chk_some hm
    refine aqT (rows := [_, _]) rfl (by kernel_rfl) ⟨
     okp rfl rfl (oqB (lN rfl) rfl rfl (nw_add hp4)),
     okp rfl rfl (oqM (lN rfl) rfl),
     trivial⟩ ?_
    refine fqK (s' := [kt 5 (.v (.slice a0_p a0.length a0_c)), kt 6 (.i (((a0.length : Nat) : Int))), kt 7 (.i (x2 + 1))]) ?_ (kp rfl) rfl
    exact fqc (x2 + 1) hm ⟨rfl, rfl, rfl, trivial⟩ rfl
  ·have hm := brk_f hz1 hm
   refine aw_exit ?_
   refine fqE ?_
   refine fqE ?_
   refine fin_block_exit ?_
   exact fqc () hm trivial rfl
 ·have _z := hm
  refine aqS ?_
  refine aqT (rows := [_]) rfl (by kernel_rfl) ⟨
   okp rfl rfl (oqA (lN rfl) rfl),
   trivial⟩ ?_
  refine fqK (s' := [kt 2 (.i 0)]) ?_ (kp rfl) rfl
  refine fqT ?_
  refine aqr ?_
  refine pqr (x := .i 0) rfl rfl (rqT rfl rqN) rfl (fun mm aa ww hr => ?_)
  have hm := Option.some.inj hm
  subst hm
  exact ⟨rfl, hr.below⟩
def m127 (_F : Nat) (a0 : Spans) : Option (Cell) :=
 some ((⟨a0.A, a0.B, a0.C, a0.D⟩ : Cell))
theorem c127 (F : Nat) (a0 : Spans) (w : World)  (r : Cell) (hm : m127 F a0 = some r) : Calls Tryd.prog 127 #[.agg #[.int .i64 a0.A.Lo, .int .i64 a0.A.Hi, .int .i64 a0.B.Lo, .int .i64 a0.B.Hi, .int .i64 a0.C.Lo, .int .i64 a0.C.Hi, .int .i64 a0.D.Lo, .int .i64 a0.D.Hi]] w fun e w' => e = .returned (.agg #[.int .i64 r.Conc.Lo, .int .i64 r.Conc.Hi, .int .i64 r.Thick.Lo, .int .i64 r.Thick.Hi, .int .i64 r.Ridge.Lo, .int .i64 r.Ridge.Hi, .int .i64 r.Press.Lo, .int .i64 r.Press.Hi]) ∧ Below w.heap.size w w' := by
 unfold m127 at hm
 refine enter (args := [.g [.i a0.A.Lo, .i a0.A.Hi, .i a0.B.Lo, .i a0.B.Hi, .i a0.C.Lo, .i a0.C.Hi, .i a0.D.Lo, .i a0.D.Hi]]) Tryd.func127 rfl (N := 12) rfl (Nat.le_of_ble_eq_true rfl) ?_
 refine aqS ?_
 refine aqT (rows := [_, _]) rfl (by kernel_rfl) ⟨
  okp rfl rfl (op_boxN (L := 1) (lN rfl) rfl rfl rfl),
  okp rfl rfl (oqa (L := 2) (lN rfl) zl_34),
  trivial⟩ ?_
 refine fqK (s' := [kt 1 (.p 1 0), kt 2 (.p 2 0), kb 1 187 8, kb 2 34 8, kc 1 0 (.i a0.A.Lo), kc 1 1 (.i a0.A.Hi), kc 1 2 (.i a0.B.Lo), kc 1 3 (.i a0.B.Hi), kc 1 4 (.i a0.C.Lo), kc 1 5 (.i a0.C.Hi), kc 1 6 (.i a0.D.Lo), kc 1 7 (.i a0.D.Hi), kc 2 0 (.i 0), kc 2 1 (.i 0), kc 2 2 (.i 0), kc 2 3 (.i 0), kc 2 4 (.i 0), kc 2 5 (.i 0), kc 2 6 (.i 0), kc 2 7 (.i 0)]) ?_ (kp rfl) rfl
 refine fqT ?_
 refine aqS ?_
 refine aqT (rows := [_, _, _, _, _, _, _, _, _, _]) rfl (by kernel_rfl) ⟨
  okp rfl rfl (op_ixA (lN rfl) rfl rfl ar_187 (by decide) (by decide)),
  okp rfl rfl (oqL (ys := [.i a0.A.Lo, .i a0.A.Hi]) (lN rfl) sh_32 rfl rfl ⟨rfl, rfl, trivial⟩),
  okp rfl rfl (op_ixA (lN rfl) rfl rfl ar_187 (by decide) (by decide)),
  okp rfl rfl (oqL (ys := [.i a0.B.Lo, .i a0.B.Hi]) (lN rfl) sh_32 rfl rfl ⟨rfl, rfl, trivial⟩),
  okp rfl rfl (op_ixA (lN rfl) rfl rfl ar_187 (by decide) (by decide)),
  okp rfl rfl (oqL (ys := [.i a0.C.Lo, .i a0.C.Hi]) (lN rfl) sh_32 rfl rfl ⟨rfl, rfl, trivial⟩),
  okp rfl rfl (op_ixA (lN rfl) rfl rfl ar_187 (by decide) (by decide)),
  okp rfl rfl (oqL (ys := [.i a0.D.Lo, .i a0.D.Hi]) (lN rfl) sh_32 rfl rfl ⟨rfl, rfl, trivial⟩),
  okp rfl rfl (op_build (x := .g [.i a0.A.Lo, .i a0.A.Hi, .i a0.B.Lo, .i a0.B.Hi, .i a0.C.Lo, .i a0.C.Hi, .i a0.D.Lo, .i a0.D.Hi]) (lN rfl) (EvL.cons rfl (EvL.cons rfl (EvL.cons rfl (EvL.cons rfl EvL.nil)))) (fun m w => by kernel_rfl)),
  okp rfl rfl (oqS sz_34 rfl rfl rfl rfl rfl (by decide)),
  trivial⟩ ?_
 refine fqK (s' := [kt 2 (.p 2 0), kb 2 34 8, kc 2 0 (.i a0.A.Lo), kc 2 1 (.i a0.A.Hi), kc 2 2 (.i a0.B.Lo), kc 2 3 (.i a0.B.Hi), kc 2 4 (.i a0.C.Lo), kc 2 5 (.i a0.C.Hi), kc 2 6 (.i a0.D.Lo), kc 2 7 (.i a0.D.Hi)]) ?_ (kp rfl) rfl
 refine fqT ?_
 refine aqr ?_
 refine pqr (x := .g [.i a0.A.Lo, .i a0.A.Hi, .i a0.B.Lo, .i a0.B.Hi, .i a0.C.Lo, .i a0.C.Hi, .i a0.D.Lo, .i a0.D.Hi]) rfl rfl (rqC (ys := [.i a0.A.Lo, .i a0.A.Hi, .i a0.B.Lo, .i a0.B.Hi, .i a0.C.Lo, .i a0.C.Hi, .i a0.D.Lo, .i a0.D.Hi]) rfl sh_34 rfl ⟨rfl, rfl, rfl, rfl, rfl, rfl, rfl, rfl, trivial⟩ rqN) rfl (fun mm aa ww hr => ?_)
 have hm := Option.some.inj hm
 subst hm
 exact ⟨rfl, hr.below⟩
end Go.Proofs.T
namespace Go.Proofs.T
open Go Go.AX Go.RowKit Hull
theorem en_148 : Proofs.Enters Tryd.prog 148 := Proofs.enters_of Tryd.func148 (by kernel_rfl) rfl
theorem en_152 : Proofs.Enters Tryd.prog 152 := Proofs.enters_of Tryd.func152 (by kernel_rfl) rfl
def m128 (_F : Nat) (a0 : Spans) (a1 : Spans) : Option (Spans) :=
 bnd (join (fun (x1 : Int × Int × Int × Int × Int × Int × Int × Int) => some (x1.1, x1.2.1, x1.2.2.1, x1.2.2.2.1, x1.2.2.2.2.1, x1.2.2.2.2.2.1, x1.2.2.2.2.2.2.1, x1.2.2.2.2.2.2.2)) (fun k1 => bnd (some (if a1.A.Lo < a0.A.Lo then a1.A.Lo else a0.A.Lo, if a1.A.Hi > a0.A.Hi then a1.A.Hi else a0.A.Hi)) (fun v2 => bnd (some (if a1.B.Lo < a0.B.Lo then a1.B.Lo else a0.B.Lo, if a1.B.Hi > a0.B.Hi then a1.B.Hi else a0.B.Hi)) (fun v3 => bnd (some (if a1.C.Lo < a0.C.Lo then a1.C.Lo else a0.C.Lo, if a1.C.Hi > a0.C.Hi then a1.C.Hi else a0.C.Hi)) (fun v4 => bnd (some (if a1.D.Lo < a0.D.Lo then a1.D.Lo else a0.D.Lo, if a1.D.Hi > a0.D.Hi then a1.D.Hi else a0.D.Hi)) (fun v5 => k1 (v2.1, v2.2, v3.1, v3.2, v4.1, v4.2, v5.1, v5.2))))))) (fun v1 => some ((⟨(⟨v1.1, v1.2.1⟩ : Span), (⟨v1.2.2.1, v1.2.2.2.1⟩ : Span), (⟨v1.2.2.2.2.1, v1.2.2.2.2.2.1⟩ : Span), (⟨v1.2.2.2.2.2.2.1, v1.2.2.2.2.2.2.2⟩ : Span)⟩ : Spans)))
set_option maxHeartbeats 4000000 in
set_option maxRecDepth 8000 in
theorem c128 (F : Nat) (a0 : Spans) (a1 : Spans) (w : World)  (r : Spans) (hm : m128 F a0 a1 = some r) : Calls Tryd.prog 128 #[.agg #[.int .i64 a0.A.Lo, .int .i64 a0.A.Hi, .int .i64 a0.B.Lo, .int .i64 a0.B.Hi, .int .i64 a0.C.Lo, .int .i64 a0.C.Hi, .int .i64 a0.D.Lo, .int .i64 a0.D.Hi], .agg #[.int .i64 a1.A.Lo, .int .i64 a1.A.Hi, .int .i64 a1.B.Lo, .int .i64 a1.B.Hi, .int .i64 a1.C.Lo, .int .i64 a1.C.Hi, .int .i64 a1.D.Lo, .int .i64 a1.D.Hi]] w fun e w' => e = .returned (.agg #[.int .i64 r.A.Lo, .int .i64 r.A.Hi, .int .i64 r.B.Lo, .int .i64 r.B.Hi, .int .i64 r.C.Lo, .int .i64 r.C.Hi, .int .i64 r.D.Lo, .int .i64 r.D.Hi]) ∧ Below w.heap.size w w' := by
 unfold m128 at hm
 refine enter (args := [.g [.i a0.A.Lo, .i a0.A.Hi, .i a0.B.Lo, .i a0.B.Hi, .i a0.C.Lo, .i a0.C.Hi, .i a0.D.Lo, .i a0.D.Hi], .g [.i a1.A.Lo, .i a1.A.Hi, .i a1.B.Lo, .i a1.B.Hi, .i a1.C.Lo, .i a1.C.Hi, .i a1.D.Lo, .i a1.D.Hi]]) Tryd.func128 rfl (N := 7) rfl (Nat.le_of_ble_eq_true rfl) ?_
 refine aqS ?_
 refine aqT (rows := [_, _, _]) rfl (by kernel_rfl) ⟨
  okp rfl rfl (op_boxN (L := 1) (lN rfl) rfl rfl rfl),
  okp rfl rfl (op_boxN (L := 2) (lN rfl) rfl rfl rfl),
  okp rfl rfl (oqa (L := 3) (lN rfl) zl_187),
  trivial⟩ ?_
 refine fqK (s' := [kt 2 (.p 1 0), kt 3 (.p 2 0), kt 4 (.p 3 0), kb 1 187 8, kb 2 187 8, kb 3 187 8, kc 1 0 (.i a0.A.Lo), kc 1 1 (.i a0.A.Hi), kc 1 2 (.i a0.B.Lo), kc 1 3 (.i a0.B.Hi), kc 1 4 (.i a0.C.Lo), kc 1 5 (.i a0.C.Hi), kc 1 6 (.i a0.D.Lo), kc 1 7 (.i a0.D.Hi), kc 2 0 (.i a1.A.Lo), kc 2 1 (.i a1.A.Hi), kc 2 2 (.i a1.B.Lo), kc 2 3 (.i a1.B.Hi), kc 2 4 (.i a1.C.Lo), kc 2 5 (.i a1.C.Hi), kc 2 6 (.i a1.D.Lo), kc 2 7 (.i a1.D.Hi), kc 3 0 (.i 0), kc 3 1 (.i 0), kc 3 2 (.i 0), kc 3 3 (.i 0), kc 3 4 (.i 0), kc 3 5 (.i 0), kc 3 6 (.i 0), kc 3 7 (.i 0)]) ?_ (kp rfl) rfl
 refine fqT ?_
 refine aqS ?_
 obtain ⟨v1, hv1, hm⟩ := bnd_some hm
 refine aqT (rows := [_, _, _]) rfl (by kernel_rfl) ⟨
  okp rfl rfl (op_mkfn (lN rfl) EvL.nil (EvL.cons rfl (EvL.cons rfl EvL.nil))),
  okp rfl rfl (oqN (fs := []) (caps := []) (xs := [.f (.func 152) [] [.p 1 0, .p 2 0]]) (Nk := 15) (.g [.i v1.1, .i v1.2.1, .i v1.2.2.1, .i v1.2.2.2.1, .i v1.2.2.2.2.1, .i v1.2.2.2.2.2.1, .i v1.2.2.2.2.2.2.1, .i v1.2.2.2.2.2.2.2]) (tqS [(2, .p 1 0), (3, .p 2 0), (4, .p 3 0), (5, .f (.func 152) [] [.p 1 0, .p 2 0])] ++ ((([kb 1 187 8, kb 2 187 8, kb 3 187 8, kc 1 0 (.i a0.A.Lo), kc 1 1 (.i a0.A.Hi), kc 1 2 (.i a0.B.Lo), kc 1 3 (.i a0.B.Hi), kc 1 4 (.i a0.C.Lo), kc 1 5 (.i a0.C.Hi), kc 1 6 (.i a0.D.Lo), kc 1 7 (.i a0.D.Hi), kc 2 0 (.i a1.A.Lo), kc 2 1 (.i a1.A.Hi), kc 2 2 (.i a1.B.Lo), kc 2 3 (.i a1.B.Hi), kc 2 4 (.i a1.C.Lo), kc 2 5 (.i a1.C.Hi), kc 2 6 (.i a1.D.Lo), kc 2 7 (.i a1.D.Hi), kc 3 0 (.i 0), kc 3 1 (.i 0), kc 3 2 (.i 0), kc 3 3 (.i 0), kc 3 4 (.i 0)] : St) ++ (([kc 3 5 (.i 0), kc 3 6 (.i 0), kc 3 7 (.i 0)] : St))) ++ dqS [])) 0 [(2, .p 1 0), (3, .p 2 0), (4, .p 3 0), (5, .f (.func 152) [] [.p 1 0, .p 2 0])] [kb 1 187 8, kb 2 187 8, kb 3 187 8, kc 1 0 (.i a0.A.Lo), kc 1 1 (.i a0.A.Hi), kc 1 2 (.i a0.B.Lo), kc 1 3 (.i a0.B.Hi), kc 1 4 (.i a0.C.Lo), kc 1 5 (.i a0.C.Hi), kc 1 6 (.i a0.D.Lo), kc 1 7 (.i a0.D.Hi), kc 2 0 (.i a1.A.Lo), kc 2 1 (.i a1.A.Hi), kc 2 2 (.i a1.B.Lo), kc 2 3 (.i a1.B.Hi), kc 2 4 (.i a1.C.Lo), kc 2 5 (.i a1.C.Hi), kc 2 6 (.i a1.D.Lo), kc 2 7 (.i a1.D.Hi), kc 3 0 (.i 0), kc 3 1 (.i 0), kc 3 2 (.i 0), kc 3 3 (.i 0), kc 3 4 (.i 0), kc 3 5 (.i 0), kc 3 6 (.i 0), kc 3 7 (.i 0)] (lN rfl) en_148 Tryd.func148 rfl rfl (Nat.le_of_ble_eq_true rfl) rfl ⟨rfl, rfl, rfl⟩ (EvL.cons rfl EvL.nil) ⟨rfl, rfl, rfl, rfl, trivial⟩ ⟨rfl, rfl, rfl, rfl, rfl, rfl, rfl, rfl, rfl, rfl, rfl, rfl, rfl, rfl, rfl, rfl, rfl, rfl, rfl, rfl, rfl, rfl, rfl, rfl, rfl, rfl, rfl, trivial⟩ rfl rfl rfl (fun aIv1 hIv1 => ?_)),
  okp rfl rfl (oqS sz_187 rfl rfl rfl rfl rfl (by decide)),
  trivial⟩ ?_
 ·have hm := hv1
  refine AW.keep (s' := [kt 0 (.f (.func 152) [] [.p 1 0, .p 2 0]), (.u 0 2, some (.x (.p 1 0))), (.u 0 3, some (.x (.p 2 0))), (.u 0 4, some (.x (.p 3 0))), (.u 0 5, some (.x (.f (.func 152) [] [.p 1 0, .p 2 0]))), kb 1 187 8, kb 2 187 8, kb 3 187 8, kc 1 0 (.i a0.A.Lo), kc 1 1 (.i a0.A.Hi), kc 1 2 (.i a0.B.Lo), kc 1 3 (.i a0.B.Hi), kc 1 4 (.i a0.C.Lo), kc 1 5 (.i a0.C.Hi), kc 1 6 (.i a0.D.Lo), kc 1 7 (.i a0.D.Hi), kc 2 0 (.i a1.A.Lo), kc 2 1 (.i a1.A.Hi), kc 2 2 (.i a1.B.Lo), kc 2 3 (.i a1.B.Hi), kc 2 4 (.i a1.C.Lo), kc 2 5 (.i a1.C.Hi), kc 2 6 (.i a1.D.Lo), kc 2 7 (.i a1.D.Hi), kc 3 0 (.i 0), kc 3 1 (.i 0), kc 3 2 (.i 0), kc 3 3 (.i 0), kc 3 4 (.i 0), kc 3 5 (.i 0), kc 3 6 (.i 0), kc 3 7 (.i 0)]) ?_ (kp rfl) rfl
  refine aqS ?_
  refine aqT (rows := [_]) rfl (by kernel_rfl) ⟨
   okp rfl rfl (oqa (L := 4) (lN rfl) zl_187),
   trivial⟩ ?_
  refine fqK (s' := [kt 0 (.f (.func 152) [] [.p 1 0, .p 2 0]), kt 2 (.p 4 0), (.u 0 2, some (.x (.p 1 0))), (.u 0 3, some (.x (.p 2 0))), (.u 0 4, some (.x (.p 3 0))), (.u 0 5, some (.x (.f (.func 152) [] [.p 1 0, .p 2 0]))), kb 1 187 8, kb 2 187 8, kb 3 187 8, kb 4 187 8, kc 1 0 (.i a0.A.Lo), kc 1 1 (.i a0.A.Hi), kc 1 2 (.i a0.B.Lo), kc 1 3 (.i a0.B.Hi), kc 1 4 (.i a0.C.Lo), kc 1 5 (.i a0.C.Hi), kc 1 6 (.i a0.D.Lo), kc 1 7 (.i a0.D.Hi), kc 2 0 (.i a1.A.Lo), kc 2 1 (.i a1.A.Hi), kc 2 2 (.i a1.B.Lo), kc 2 3 (.i a1.B.Hi), kc 2 4 (.i a1.C.Lo), kc 2 5 (.i a1.C.Hi), kc 2 6 (.i a1.D.Lo), kc 2 7 (.i a1.D.Hi), kc 3 0 (.i 0), kc 3 1 (.i 0), kc 3 2 (.i 0), kc 3 3 (.i 0), kc 3 4 (.i 0), kc 3 5 (.i 0), kc 3 6 (.i 0), kc 3 7 (.i 0), kc 4 0 (.i 0), kc 4 1 (.i 0), kc 4 2 (.i 0), kc 4 3 (.i 0), kc 4 4 (.i 0), kc 4 5 (.i 0), kc 4 6 (.i 0), kc 4 7 (.i 0)]) ?_ (kp rfl) rfl
  refine fqT ?_
  refine aqS ?_
  refine aqT (rows := [_]) rfl (by kernel_rfl) ⟨
   okp rfl rfl (oqa (L := 5) (lN rfl) zl_187),
   trivial⟩ ?_
  refine fqK (s' := [kt 0 (.f (.func 152) [] [.p 1 0, .p 2 0]), kt 2 (.p 4 0), kt 3 (.p 5 0), (.u 0 2, some (.x (.p 1 0))), (.u 0 3, some (.x (.p 2 0))), (.u 0 4, some (.x (.p 3 0))), (.u 0 5, some (.x (.f (.func 152) [] [.p 1 0, .p 2 0]))), kb 1 187 8, kb 2 187 8, kb 3 187 8, kb 4 187 8, kb 5 187 8, kc 1 0 (.i a0.A.Lo), kc 1 1 (.i a0.A.Hi), kc 1 2 (.i a0.B.Lo), kc 1 3 (.i a0.B.Hi), kc 1 4 (.i a0.C.Lo), kc 1 5 (.i a0.C.Hi), kc 1 6 (.i a0.D.Lo), kc 1 7 (.i a0.D.Hi), kc 2 0 (.i a1.A.Lo), kc 2 1 (.i a1.A.Hi), kc 2 2 (.i a1.B.Lo), kc 2 3 (.i a1.B.Hi), kc 2 4 (.i a1.C.Lo), kc 2 5 (.i a1.C.Hi), kc 2 6 (.i a1.D.Lo), kc 2 7 (.i a1.D.Hi), kc 3 0 (.i 0), kc 3 1 (.i 0), kc 3 2 (.i 0), kc 3 3 (.i 0), kc 3 4 (.i 0), kc 3 5 (.i 0), kc 3 6 (.i 0), kc 3 7 (.i 0), kc 4 0 (.i 0), kc 4 1 (.i 0), kc 4 2 (.i 0), kc 4 3 (.i 0), kc 4 4 (.i 0), kc 4 5 (.i 0), kc 4 6 (.i 0), kc 4 7 (.i 0), kc 5 0 (.i 0), kc 5 1 (.i 0), kc 5 2 (.i 0), kc 5 3 (.i 0), kc 5 4 (.i 0), kc 5 5 (.i 0), kc 5 6 (.i 0), kc 5 7 (.i 0)]) ?_ (kp rfl) rfl
  refine fqT ?_
  refine aw_cutM (ι := Int × Int × Int × Int × Int × Int × Int × Int) hm (fun x1 => [kt 2 (.p 4 0), kt 3 (.p 5 0), (.u 0 2, some (.x (.p 1 0))), (.u 0 3, some (.x (.p 2 0))), (.u 0 4, some (.x (.p 3 0))), (.u 0 5, some (.x (.f (.func 152) [] [.p 1 0, .p 2 0]))), kb 1 187 8, kb 2 187 8, kb 3 187 8, kb 4 187 8, kb 5 187 8, kc 1 0 (.i a0.A.Lo), kc 1 1 (.i a0.A.Hi), kc 1 2 (.i a0.B.Lo), kc 1 3 (.i a0.B.Hi), kc 1 4 (.i a0.C.Lo), kc 1 5 (.i a0.C.Hi), kc 1 6 (.i a0.D.Lo), kc 1 7 (.i a0.D.Hi), kc 2 0 (.i a1.A.Lo), kc 2 1 (.i a1.A.Hi), kc 2 2 (.i a1.B.Lo), kc 2 3 (.i a1.B.Hi), kc 2 4 (.i a1.C.Lo), kc 2 5 (.i a1.C.Hi), kc 2 6 (.i a1.D.Lo), kc 2 7 (.i a1.D.Hi), kc 3 0 (.i 0), kc 3 1 (.i 0), kc 3 2 (.i 0), kc 3 3 (.i 0), kc 3 4 (.i 0), kc 3 5 (.i 0), kc 3 6 (.i 0), kc 3 7 (.i 0), kc 4 0 (.i 0), kc 4 1 (.i 0), kc 4 2 (.i 0), kc 4 3 (.i 0), kc 4 4 (.i 0), kc 4 5 (.i 0), kc 4 6 (.i 0), kc 4 7 (.i 0), kc 5 0 (.i x1.1), kc 5 1 (.i x1.2.1), kc 5 2 (.i x1.2.2.1), kc 5 3 (.i x1.2.2.2.1), kc 5 4 (.i x1.2.2.2.2.1), kc 5 5 (.i x1.2.2.2.2.2.1), kc 5 6 (.i x1.2.2.2.2.2.2.1), kc 5 7 (.i x1.2.2.2.2.2.2.2)]) (fun hm => ?_) (fun x1 hm => ?_)
  ·have _z := hm
   refine aqS ?_
   refine aqT (rows := [_]) rfl (by kernel_rfl) ⟨
    okp rfl rfl (oqM (lN rfl) rfl),
    trivial⟩ ?_
   refine fqK (s' := [kt 0 (.f (.func 152) [] [.p 1 0, .p 2 0]), kt 2 (.p 4 0), kt 3 (.p 5 0), kt 5 (.i 0), (.u 0 2, some (.x (.p 1 0))), (.u 0 3, some (.x (.p 2 0))), (.u 0 4, some (.x (.p 3 0))), (.u 0 5, some (.x (.f (.func 152) [] [.p 1 0, .p 2 0]))), kb 1 187 8, kb 2 187 8, kb 3 187 8, kb 4 187 8, kb 5 187 8, kc 1 0 (.i a0.A.Lo), kc 1 1 (.i a0.A.Hi), kc 1 2 (.i a0.B.Lo), kc 1 3 (.i a0.B.Hi), kc 1 4 (.i a0.C.Lo), kc 1 5 (.i a0.C.Hi), kc 1 6 (.i a0.D.Lo), kc 1 7 (.i a0.D.Hi), kc 2 0 (.i a1.A.Lo), kc 2 1 (.i a1.A.Hi), kc 2 2 (.i a1.B.Lo), kc 2 3 (.i a1.B.Hi), kc 2 4 (.i a1.C.Lo), kc 2 5 (.i a1.C.Hi), kc 2 6 (.i a1.D.Lo), kc 2 7 (.i a1.D.Hi), kc 3 0 (.i 0), kc 3 1 (.i 0), kc 3 2 (.i 0), kc 3 3 (.i 0), kc 3 4 (.i 0), kc 3 5 (.i 0), kc 3 6 (.i 0), kc 3 7 (.i 0), kc 4 0 (.i 0), kc 4 1 (.i 0), kc 4 2 (.i 0), kc 4 3 (.i 0), kc 4 4 (.i 0), kc 4 5 (.i 0), kc 4 6 (.i 0), kc 4 7 (.i 0), kc 5 0 (.i 0), kc 5 1 (.i 0), kc 5 2 (.i 0), kc 5 3 (.i 0), kc 5 4 (.i 0), kc 5 5 (.i 0), kc 5 6 (.i 0), kc 5 7 (.i 0)]) ?_ (kp rfl) rfl
   refine fqT ?_
   refine aw_block ?_
   refine aw_rounds 4 ?_
   refine aqS ?_
   refine aqT (rows := [_]) rfl (by kernel_rfl) ⟨
    okp rfl rfl (oqB (r := .bool true) (lN rfl) rfl rfl rfl),
    trivial⟩ ?_
   refine fqK (s' := [kt 0 (.f (.func 152) [] [.p 1 0, .p 2 0]), kt 2 (.p 4 0), kt 3 (.p 5 0), kt 5 (.i 0), kt 6 (.B true), (.u 0 2, some (.x (.p 1 0))), (.u 0 3, some (.x (.p 2 0))), (.u 0 4, some (.x (.p 3 0))), (.u 0 5, some (.x (.f (.func 152) [] [.p 1 0, .p 2 0]))), kb 1 187 8, kb 2 187 8, kb 3 187 8, kb 4 187 8, kb 5 187 8, kc 1 0 (.i a0.A.Lo), kc 1 1 (.i a0.A.Hi), kc 1 2 (.i a0.B.Lo), kc 1 3 (.i a0.B.Hi), kc 1 4 (.i a0.C.Lo), kc 1 5 (.i a0.C.Hi), kc 1 6 (.i a0.D.Lo), kc 1 7 (.i a0.D.Hi), kc 2 0 (.i a1.A.Lo), kc 2 1 (.i a1.A.Hi), kc 2 2 (.i a1.B.Lo), kc 2 3 (.i a1.B.Hi), kc 2 4 (.i a1.C.Lo), kc 2 5 (.i a1.C.Hi), kc 2 6 (.i a1.D.Lo), kc 2 7 (.i a1.D.Hi), kc 3 0 (.i 0), kc 3 1 (.i 0), kc 3 2 (.i 0), kc 3 3 (.i 0), kc 3 4 (.i 0), kc 3 5 (.i 0), kc 3 6 (.i 0), kc 3 7 (.i 0), kc 4 0 (.i 0), kc 4 1 (.i 0), kc 4 2 (.i 0), kc 4 3 (.i 0), kc 4 4 (.i 0), kc 4 5 (.i 0), kc 4 6 (.i 0), kc 4 7 (.i 0), kc 5 0 (.i 0), kc 5 1 (.i 0), kc 5 2 (.i 0), kc 5 3 (.i 0), kc 5 4 (.i 0), kc 5 5 (.i 0), kc 5 6 (.i 0), kc 5 7 (.i 0)]) ?_ (kp rfl) rfl
   refine fqT ?_
   refine aqS ?_
   refine aqc rfl (fun hz1 => ?_) (fun hz1 => by cases hz1)
   refine aqk ?_
   refine fqT ?_
   refine aqS ?_
   refine aw_block ?_
   refine aqS ?_
   refine aqT (rows := [_, _]) rfl (by kernel_rfl) ⟨
    okp rfl rfl (oqM (lN rfl) rfl),
    okp rfl rfl (oqA (lN rfl) rfl),
    trivial⟩ ?_
   refine fqK (s' := [kt 0 (.f (.func 152) [] [.p 1 0, .p 2 0]), kt 2 (.p 4 0), kt 3 (.p 5 0), kt 4 (.i 0), kt 5 (.i 0), (.u 0 2, some (.x (.p 1 0))), (.u 0 3, some (.x (.p 2 0))), (.u 0 4, some (.x (.p 3 0))), (.u 0 5, some (.x (.f (.func 152) [] [.p 1 0, .p 2 0]))), kb 1 187 8, kb 2 187 8, kb 3 187 8, kb 4 187 8, kb 5 187 8, kc 1 0 (.i a0.A.Lo), kc 1 1 (.i a0.A.Hi), kc 1 2 (.i a0.B.Lo), kc 1 3 (.i a0.B.Hi), kc 1 4 (.i a0.C.Lo), kc 1 5 (.i a0.C.Hi), kc 1 6 (.i a0.D.Lo), kc 1 7 (.i a0.D.Hi), kc 2 0 (.i a1.A.Lo), kc 2 1 (.i a1.A.Hi), kc 2 2 (.i a1.B.Lo), kc 2 3 (.i a1.B.Hi), kc 2 4 (.i a1.C.Lo), kc 2 5 (.i a1.C.Hi), kc 2 6 (.i a1.D.Lo), kc 2 7 (.i a1.D.Hi), kc 3 0 (.i 0), kc 3 1 (.i 0), kc 3 2 (.i 0), kc 3 3 (.i 0), kc 3 4 (.i 0), kc 3 5 (.i 0), kc 3 6 (.i 0), kc 3 7 (.i 0), kc 4 0 (.i 0), kc 4 1 (.i 0), kc 4 2 (.i 0), kc 4 3 (.i 0), kc 4 4 (.i 0), kc 4 5 (.i 0), kc 4 6 (.i 0), kc 4 7 (.i 0), kc 5 0 (.i 0), kc 5 1 (.i 0), kc 5 2 (.i 0), kc 5 3 (.i 0), kc 5 4 (.i 0), kc 5 5 (.i 0), kc 5 6 (.i 0), kc 5 7 (.i 0)]) ?_ (kp rfl) rfl
   refine fqT ?_
   obtain ⟨v2, hv2, hm⟩ := bnd_some hm
   refine aqT (rows := [_, _, _, _, _, _]) rfl (by kernel_rfl) ⟨
    okp rfl rfl (oqM (lN rfl) rfl),
    okp rfl rfl (oqM (lN rfl) rfl),
    okp rfl rfl (oqM (lN rfl) rfl),
    okp rfl rfl (oqN (fs := []) (caps := [.p 1 0, .p 2 0]) (xs := [.i 0]) (Nk := 24) (.g [.i v2.1, .i v2.2]) (tqS [(0, .f (.func 152) [] [.p 1 0, .p 2 0]), (2, .p 4 0), (3, .p 5 0), (4, .i 0), (5, .i 0), (8, .i 0), (9, .f (.func 152) [] [.p 1 0, .p 2 0]), (10, .i 0)] ++ ((([(.u 0 2, some (.x (.p 1 0))), (.u 0 3, some (.x (.p 2 0))), (.u 0 4, some (.x (.p 3 0))), (.u 0 5, some (.x (.f (.func 152) [] [.p 1 0, .p 2 0]))), kb 1 187 8, kb 2 187 8, kb 3 187 8, kb 4 187 8, kb 5 187 8, kc 1 0 (.i a0.A.Lo), kc 1 1 (.i a0.A.Hi), kc 1 2 (.i a0.B.Lo), kc 1 3 (.i a0.B.Hi), kc 1 4 (.i a0.C.Lo), kc 1 5 (.i a0.C.Hi), kc 1 6 (.i a0.D.Lo), kc 1 7 (.i a0.D.Hi), kc 2 0 (.i a1.A.Lo), kc 2 1 (.i a1.A.Hi), kc 2 2 (.i a1.B.Lo), kc 2 3 (.i a1.B.Hi), kc 2 4 (.i a1.C.Lo), kc 2 5 (.i a1.C.Hi), kc 2 6 (.i a1.D.Lo)] : St) ++ (([kc 2 7 (.i a1.D.Hi), kc 3 0 (.i 0), kc 3 1 (.i 0), kc 3 2 (.i 0), kc 3 3 (.i 0), kc 3 4 (.i 0), kc 3 5 (.i 0), kc 3 6 (.i 0), kc 3 7 (.i 0), kc 4 0 (.i 0), kc 4 1 (.i 0), kc 4 2 (.i 0), kc 4 3 (.i 0), kc 4 4 (.i 0), kc 4 5 (.i 0), kc 4 6 (.i 0), kc 4 7 (.i 0), kc 5 0 (.i 0), kc 5 1 (.i 0), kc 5 2 (.i 0), kc 5 3 (.i 0), kc 5 4 (.i 0), kc 5 5 (.i 0), kc 5 6 (.i 0)] : St) ++ (([kc 5 7 (.i 0)] : St)))) ++ dqS [])) 1 [(0, .f (.func 152) [] [.p 1 0, .p 2 0]), (2, .p 4 0), (3, .p 5 0), (4, .i 0), (5, .i 0), (8, .i 0), (9, .f (.func 152) [] [.p 1 0, .p 2 0]), (10, .i 0)] [(.u 0 2, some (.x (.p 1 0))), (.u 0 3, some (.x (.p 2 0))), (.u 0 4, some (.x (.p 3 0))), (.u 0 5, some (.x (.f (.func 152) [] [.p 1 0, .p 2 0]))), kb 1 187 8, kb 2 187 8, kb 3 187 8, kb 4 187 8, kb 5 187 8, kc 1 0 (.i a0.A.Lo), kc 1 1 (.i a0.A.Hi), kc 1 2 (.i a0.B.Lo), kc 1 3 (.i a0.B.Hi), kc 1 4 (.i a0.C.Lo), kc 1 5 (.i a0.C.Hi), kc 1 6 (.i a0.D.Lo), kc 1 7 (.i a0.D.Hi), kc 2 0 (.i a1.A.Lo), kc 2 1 (.i a1.A.Hi), kc 2 2 (.i a1.B.Lo), kc 2 3 (.i a1.B.Hi), kc 2 4 (.i a1.C.Lo), kc 2 5 (.i a1.C.Hi), kc 2 6 (.i a1.D.Lo), kc 2 7 (.i a1.D.Hi), kc 3 0 (.i 0), kc 3 1 (.i 0), kc 3 2 (.i 0), kc 3 3 (.i 0), kc 3 4 (.i 0), kc 3 5 (.i 0), kc 3 6 (.i 0), kc 3 7 (.i 0), kc 4 0 (.i 0), kc 4 1 (.i 0), kc 4 2 (.i 0), kc 4 3 (.i 0), kc 4 4 (.i 0), kc 4 5 (.i 0), kc 4 6 (.i 0), kc 4 7 (.i 0), kc 5 0 (.i 0), kc 5 1 (.i 0), kc 5 2 (.i 0), kc 5 3 (.i 0), kc 5 4 (.i 0), kc 5 5 (.i 0), kc 5 6 (.i 0), kc 5 7 (.i 0)] (lN rfl) en_152 Tryd.func152 rfl rfl (Nat.le_of_ble_eq_true rfl) rfl ⟨rfl, rfl, rfl⟩ (EvL.cons rfl EvL.nil) ⟨rfl, rfl, rfl, rfl, rfl, rfl, rfl, rfl, trivial⟩ ⟨rfl, rfl, rfl, rfl, rfl, rfl, rfl, rfl, rfl, rfl, rfl, rfl, rfl, rfl, rfl, rfl, rfl, rfl, rfl, rfl, rfl, rfl, rfl, rfl, rfl, rfl, rfl, rfl, rfl, rfl, rfl, rfl, rfl, rfl, rfl, rfl, rfl, rfl, rfl, rfl, rfl, rfl, rfl, rfl, rfl, rfl, rfl, rfl, rfl, trivial⟩ rfl rfl rfl (fun aIv2 hIv2 => ?_)),
    okp rfl rfl (op_ixA (lN rfl) rfl rfl ar_187 (by decide) (by decide)),
    okp rfl rfl (oqS sz_32 rfl rfl rfl rfl rfl (by decide)),
    trivial⟩ ?_
   ·have hm := hv2
    refine AW.keep (s' := [kt 0 (.i 0), kt 1 (.p 1 0), kt 2 (.p 2 0), (.u 0 2, some (.x (.p 1 0))), (.u 0 3, some (.x (.p 2 0))), (.u 0 4, some (.x (.p 3 0))), (.u 0 5, some (.x (.f (.func 152) [] [.p 1 0, .p 2 0]))), (.u 1 0, some (.x (.f (.func 152) [] [.p 1 0, .p 2 0]))), (.u 1 2, some (.x (.p 4 0))), (.u 1 3, some (.x (.p 5 0))), (.u 1 4, some (.x (.i 0))), (.u 1 5, some (.x (.i 0))), (.u 1 8, some (.x (.i 0))), (.u 1 9, some (.x (.f (.func 152) [] [.p 1 0, .p 2 0]))), (.u 1 10, some (.x (.i 0))), kb 1 187 8, kb 2 187 8, kb 3 187 8, kb 4 187 8, kb 5 187 8, kc 1 0 (.i a0.A.Lo), kc 1 1 (.i a0.A.Hi), kc 1 2 (.i a0.B.Lo), kc 1 3 (.i a0.B.Hi), kc 1 4 (.i a0.C.Lo), kc 1 5 (.i a0.C.Hi), kc 1 6 (.i a0.D.Lo), kc 1 7 (.i a0.D.Hi), kc 2 0 (.i a1.A.Lo), kc 2 1 (.i a1.A.Hi), kc 2 2 (.i a1.B.Lo), kc 2 3 (.i a1.B.Hi), kc 2 4 (.i a1.C.Lo), kc 2 5 (.i a1.C.Hi), kc 2 6 (.i a1.D.Lo), kc 2 7 (.i a1.D.Hi), kc 3 0 (.i 0), kc 3 1 (.i 0), kc 3 2 (.i 0), kc 3 3 (.i 0), kc 3 4 (.i 0), kc 3 5 (.i 0), kc 3 6 (.i 0), kc 3 7 (.i 0), kc 4 0 (.i 0), kc 4 1 (.i 0), kc 4 2 (.i 0), kc 4 3 (.i 0), kc 4 4 (.i 0), kc 4 5 (.i 0), kc 4 6 (.i 0), kc 4 7 (.i 0), kc 5 0 (.i 0), kc 5 1 (.i 0), kc 5 2 (.i 0), kc 5 3 (.i 0), kc 5 4 (.i 0), kc 5 5 (.i 0), kc 5 6 (.i 0), kc 5 7 (.i 0)]) ?_ (kp rfl) rfl
    refine aqS ?_
    refine aqT (rows := [_]) rfl (by kernel_rfl) ⟨
     okp rfl rfl (oqa (L := 6) (lN rfl) zl_32),
     trivial⟩ ?_
    refine fqK (s' := [kt 0 (.i 0), kt 1 (.p 1 0), kt 2 (.p 2 0), kt 4 (.p 6 0), (.u 0 2, some (.x (.p 1 0))), (.u 0 3, some (.x (.p 2 0))), (.u 0 4, some (.x (.p 3 0))), (.u 0 5, some (.x (.f (.func 152) [] [.p 1 0, .p 2 0]))), (.u 1 0, some (.x (.f (.func 152) [] [.p 1 0, .p 2 0]))), (.u 1 2, some (.x (.p 4 0))), (.u 1 3, some (.x (.p 5 0))), (.u 1 4, some (.x (.i 0))), (.u 1 5, some (.x (.i 0))), (.u 1 8, some (.x (.i 0))), (.u 1 9, some (.x (.f (.func 152) [] [.p 1 0, .p 2 0]))), (.u 1 10, some (.x (.i 0))), kb 1 187 8, kb 2 187 8, kb 3 187 8, kb 4 187 8, kb 5 187 8, kb 6 32 2, kc 1 0 (.i a0.A.Lo), kc 1 1 (.i a0.A.Hi), kc 1 2 (.i a0.B.Lo), kc 1 3 (.i a0.B.Hi), kc 1 4 (.i a0.C.Lo), kc 1 5 (.i a0.C.Hi), kc 1 6 (.i a0.D.Lo), kc 1 7 (.i a0.D.Hi), kc 2 0 (.i a1.A.Lo), kc 2 1 (.i a1.A.Hi), kc 2 2 (.i a1.B.Lo), kc 2 3 (.i a1.B.Hi), kc 2 4 (.i a1.C.Lo), kc 2 5 (.i a1.C.Hi), kc 2 6 (.i a1.D.Lo), kc 2 7 (.i a1.D.Hi), kc 3 0 (.i 0), kc 3 1 (.i 0), kc 3 2 (.i 0), kc 3 3 (.i 0), kc 3 4 (.i 0), kc 3 5 (.i 0), kc 3 6 (.i 0), kc 3 7 (.i 0), kc 4 0 (.i 0), kc 4 1 (.i 0), kc 4 2 (.i 0), kc 4 3 (.i 0), kc 4 4 (.i 0), kc 4 5 (.i 0), kc 4 6 (.i 0), kc 4 7 (.i 0), kc 5 0 (.i 0), kc 5 1 (.i 0), kc 5 2 (.i 0), kc 5 3 (.i 0), kc 5 4 (.i 0), kc 5 5 (.i 0), kc 5 6 (.i 0), kc 5 7 (.i 0), kc 6 0 (.i 0), kc 6 1 (.i 0)]) ?_ (kp rfl) rfl
    refine fqT ?_
    refine aqS ?_
    refine aw_any (rows := [_, _, _, _, _, _, _, _, _, _, _, _, _, _, _, _, _, _, _, _]) (M := [0, 1, 3, 7, 0, 16, 48, 112, 255, 0, 512, 1536, 3584, 0, 8192, 24576, 57344, 130560, 262143, 524287]) Tryd_mixed (by kernel_rfl) rfl (by kernel_rfl) ⟨
     okp rfl rfl (oqM (lN rfl) rfl),
     okp rfl rfl (op_ixA (lN rfl) rfl rfl ar_187 (by decide) (by decide)),
     okp rfl rfl (oqF (lN rfl) rfl fo_32_0),
     okp rfl rfl (oq1 (lN rfl) sh_3 rfl rfl),
     okp rfl rfl (oqM (lN rfl) rfl),
     okp rfl rfl (op_ixA (lN rfl) rfl rfl ar_187 (by decide) (by decide)),
     okp rfl rfl (oqF (lN rfl) rfl fo_32_0),
     okp rfl rfl (oq1 (lN rfl) sh_3 rfl rfl),
     okp rfl rfl (op_min (lN rfl) rfl rfl),
     okp rfl rfl (oqM (lN rfl) rfl),
     okp rfl rfl (op_ixA (lN rfl) rfl rfl ar_187 (by decide) (by decide)),
     okp rfl rfl (oqF (lN rfl) rfl fo_32_1),
     okp rfl rfl (oq1 (lN rfl) sh_3 rfl rfl),
     okp rfl rfl (oqM (lN rfl) rfl),
     okp rfl rfl (op_ixA (lN rfl) rfl rfl ar_187 (by decide) (by decide)),
     okp rfl rfl (oqF (lN rfl) rfl fo_32_1),
     okp rfl rfl (oq1 (lN rfl) sh_3 rfl rfl),
     okp rfl rfl (op_max (lN rfl) rfl rfl),
     okp rfl rfl (op_build (x := .g [.i (if a1.A.Lo < a0.A.Lo then a1.A.Lo else a0.A.Lo), .i (if a1.A.Hi > a0.A.Hi then a1.A.Hi else a0.A.Hi)]) (lN rfl) (EvL.cons rfl (EvL.cons rfl EvL.nil)) (fun m w => by kernel_rfl)),
     okp rfl rfl (oqS sz_32 rfl rfl rfl rfl rfl (by decide)),
     trivial⟩ ?_
    refine fqK (s' := [kt 4 (.p 6 0), (.u 0 2, some (.x (.p 1 0))), (.u 0 3, some (.x (.p 2 0))), (.u 0 4, some (.x (.p 3 0))), (.u 0 5, some (.x (.f (.func 152) [] [.p 1 0, .p 2 0]))), (.u 1 0, some (.x (.f (.func 152) [] [.p 1 0, .p 2 0]))), (.u 1 2, some (.x (.p 4 0))), (.u 1 3, some (.x (.p 5 0))), (.u 1 4, some (.x (.i 0))), (.u 1 5, some (.x (.i 0))), (.u 1 8, some (.x (.i 0))), (.u 1 9, some (.x (.f (.func 152) [] [.p 1 0, .p 2 0]))), (.u 1 10, some (.x (.i 0))), kb 1 187 8, kb 2 187 8, kb 3 187 8, kb 4 187 8, kb 5 187 8, kb 6 32 2, kc 1 0 (.i a0.A.Lo), kc 1 1 (.i a0.A.Hi), kc 1 2 (.i a0.B.Lo), kc 1 3 (.i a0.B.Hi), kc 1 4 (.i a0.C.Lo), kc 1 5 (.i a0.C.Hi), kc 1 6 (.i a0.D.Lo), kc 1 7 (.i a0.D.Hi), kc 2 0 (.i a1.A.Lo), kc 2 1 (.i a1.A.Hi), kc 2 2 (.i a1.B.Lo), kc 2 3 (.i a1.B.Hi), kc 2 4 (.i a1.C.Lo), kc 2 5 (.i a1.C.Hi), kc 2 6 (.i a1.D.Lo), kc 2 7 (.i a1.D.Hi), kc 3 0 (.i 0), kc 3 1 (.i 0), kc 3 2 (.i 0), kc 3 3 (.i 0), kc 3 4 (.i 0), kc 3 5 (.i 0), kc 3 6 (.i 0), kc 3 7 (.i 0), kc 4 0 (.i 0), kc 4 1 (.i 0), kc 4 2 (.i 0), kc 4 3 (.i 0), kc 4 4 (.i 0), kc 4 5 (.i 0), kc 4 6 (.i 0), kc 4 7 (.i 0), kc 5 0 (.i 0), kc 5 1 (.i 0), kc 5 2 (.i 0), kc 5 3 (.i 0), kc 5 4 (.i 0), kc 5 5 (.i 0), kc 5 6 (.i 0), kc 5 7 (.i 0), kc 6 0 (.i (if a1.A.Lo < a0.A.Lo then a1.A.Lo else a0.A.Lo)), kc 6 1 (.i (if a1.A.Hi > a0.A.Hi then a1.A.Hi else a0.A.Hi))]) ?_ (kp rfl) rfl
    refine fqT ?_
    refine aqr ?_
    have hm := Option.some.inj hm
    subst hm
    exact fin_callEnd _ _ _ (.inl rfl) rfl rfl (rqC (ys := [.i (if a1.A.Lo < a0.A.Lo then a1.A.Lo else a0.A.Lo), .i (if a1.A.Hi > a0.A.Hi then a1.A.Hi else a0.A.Hi)]) rfl sh_32 rfl ⟨rfl, rfl, trivial⟩ rqN) rfl hIv2 ⟨rfl, rfl, rfl, rfl, rfl, rfl, rfl, rfl, trivial⟩ ⟨rfl, rfl, rfl, rfl, rfl, rfl, rfl, rfl, rfl, rfl, rfl, rfl, rfl, rfl, rfl, rfl, rfl, rfl, rfl, rfl, rfl, rfl, rfl, rfl, rfl, rfl, rfl, rfl, rfl, rfl, rfl, rfl, rfl, rfl, rfl, rfl, rfl, rfl, rfl, rfl, rfl, rfl, rfl, rfl, rfl, rfl, rfl, rfl, rfl, trivial⟩ rfl rfl
   refine fqK (s' := [kt 0 (.f (.func 152) [] [.p 1 0, .p 2 0]), kt 2 (.p 4 0), kt 3 (.p 5 0), kt 5 (.i 0), (.u 0 2, some (.x (.p 1 0))), (.u 0 3, some (.x (.p 2 0))), (.u 0 4, some (.x (.p 3 0))), (.u 0 5, some (.x (.f (.func 152) [] [.p 1 0, .p 2 0]))), kb 1 187 8, kb 2 187 8, kb 3 187 8, kb 4 187 8, kb 5 187 8, kc 1 0 (.i a0.A.Lo), kc 1 1 (.i a0.A.Hi), kc 1 2 (.i a0.B.Lo), kc 1 3 (.i a0.B.Hi), kc 1 4 (.i a0.C.Lo), kc 1 5 (.i a0.C.Hi), kc 1 6 (.i a0.D.Lo), kc 1 7 (.i a0.D.Hi), kc 2 0 (.i a1.A.Lo), kc 2 1 (.i a1.A.Hi), kc 2 2 (.i a1.B.Lo), kc 2 3 (.i a1.B.Hi), kc 2 4 (.i a1.C.Lo), kc 2 5 (.i a1.C.Hi), kc 2 6 (.i a1.D.Lo), kc 2 7 (.i a1.D.Hi), kc 3 0 (.i 0), kc 3 1 (.i 0), kc 3 2 (.i 0), kc 3 3 (.i 0), kc 3 4 (.i 0), kc 3 5 (.i 0), kc 3 6 (.i 0), kc 3 7 (.i 0), kc 4 0 (.i 0), kc 4 1 (.i 0), kc 4 2 (.i 0), kc 4 3 (.i 0), kc 4 4 (.i 0), kc 4 5 (.i 0), kc 4 6 (.i 0), kc 4 7 (.i 0), kc 5 0 (.i v2.1), kc 5 1 (.i v2.2), kc 5 2 (.i 0), kc 5 3 (.i 0), kc 5 4 (.i 0), kc 5 5 (.i 0), kc 5 6 (.i 0), kc 5 7 (.i 0)]) ?_ (kp rfl) rfl
   refine fqB ?_
   refine fqT ?_
   refine aqT (rows := [_, _]) rfl (by kernel_rfl) ⟨
    okp rfl rfl (oqB (r := .int .i64 1) (lN rfl) rfl rfl rfl),
    okp rfl rfl (oqM (lN rfl) rfl),
    trivial⟩ ?_
   refine fqK (s' := [kt 0 (.f (.func 152) [] [.p 1 0, .p 2 0]), kt 2 (.p 4 0), kt 3 (.p 5 0), kt 5 (.i 1), (.u 0 2, some (.x (.p 1 0))), (.u 0 3, some (.x (.p 2 0))), (.u 0 4, some (.x (.p 3 0))), (.u 0 5, some (.x (.f (.func 152) [] [.p 1 0, .p 2 0]))), kb 1 187 8, kb 2 187 8, kb 3 187 8, kb 4 187 8, kb 5 187 8, kc 1 0 (.i a0.A.Lo), kc 1 1 (.i a0.A.Hi), kc 1 2 (.i a0.B.Lo), kc 1 3 (.i a0.B.Hi), kc 1 4 (.i a0.C.Lo), kc 1 5 (.i a0.C.Hi), kc 1 6 (.i a0.D.Lo), kc 1 7 (.i a0.D.Hi), kc 2 0 (.i a1.A.Lo), kc 2 1 (.i a1.A.Hi), kc 2 2 (.i a1.B.Lo), kc 2 3 (.i a1.B.Hi), kc 2 4 (.i a1.C.Lo), kc 2 5 (.i a1.C.Hi), kc 2 6 (.i a1.D.Lo), kc 2 7 (.i a1.D.Hi), kc 3 0 (.i 0), kc 3 1 (.i 0), kc 3 2 (.i 0), kc 3 3 (.i 0), kc 3 4 (.i 0), kc 3 5 (.i 0), kc 3 6 (.i 0), kc 3 7 (.i 0), kc 4 0 (.i 0), kc 4 1 (.i 0), kc 4 2 (.i 0), kc 4 3 (.i 0), kc 4 4 (.i 0), kc 4 5 (.i 0), kc 4 6 (.i 0), kc 4 7 (.i 0), kc 5 0 (.i v2.1), kc 5 1 (.i v2.2), kc 5 2 (.i 0), kc 5 3 (.i 0), kc 5 4 (.i 0), kc 5 5 (.i 0), kc 5 6 (.i 0), kc 5 7 (.i 0)]) ?_ (kp rfl) rfl
   refine fin_round ?_
   refine aqS ?_
   refine aqT (rows := [_]) rfl (by kernel_rfl) ⟨
    okp rfl rfl (oqB (r := .bool true) (lN rfl) rfl rfl rfl),
    trivial⟩ ?_
   refine fqK (s' := [kt 0 (.f (.func 152) [] [.p 1 0, .p 2 0]), kt 2 (.p 4 0), kt 3 (.p 5 0), kt 5 (.i 1), kt 6 (.B true), (.u 0 2, some (.x (.p 1 0))), (.u 0 3, some (.x (.p 2 0))), (.u 0 4, some (.x (.p 3 0))), (.u 0 5, some (.x (.f (.func 152) [] [.p 1 0, .p 2 0]))), kb 1 187 8, kb 2 187 8, kb 3 187 8, kb 4 187 8, kb 5 187 8, kc 1 0 (.i a0.A.Lo), kc 1 1 (.i a0.A.Hi), kc 1 2 (.i a0.B.Lo), kc 1 3 (.i a0.B.Hi), kc 1 4 (.i a0.C.Lo), kc 1 5 (.i a0.C.Hi), kc 1 6 (.i a0.D.Lo), kc 1 7 (.i a0.D.Hi), kc 2 0 (.i a1.A.Lo), kc 2 1 (.i a1.A.Hi), kc 2 2 (.i a1.B.Lo), kc 2 3 (.i a1.B.Hi), kc 2 4 (.i a1.C.Lo), kc 2 5 (.i a1.C.Hi), kc 2 6 (.i a1.D.Lo), kc 2 7 (.i a1.D.Hi), kc 3 0 (.i 0), kc 3 1 (.i 0), kc 3 2 (.i 0), kc 3 3 (.i 0), kc 3 4 (.i 0), kc 3 5 (.i 0), kc 3 6 (.i 0), kc 3 7 (.i 0), kc 4 0 (.i 0), kc 4 1 (.i 0), kc 4 2 (.i 0), kc 4 3 (.i 0), kc 4 4 (.i 0), kc 4 5 (.i 0), kc 4 6 (.i 0), kc 4 7 (.i 0), kc 5 0 (.i v2.1), kc 5 1 (.i v2.2), kc 5 2 (.i 0), kc 5 3 (.i 0), kc 5 4 (.i 0), kc 5 5 (.i 0), kc 5 6 (.i 0), kc 5 7 (.i 0)]) ?_ (kp rfl) rfl
   refine fqT ?_
   refine aqS ?_
   refine aqc rfl (fun hz2 => ?_) (fun hz2 => by cases hz2)
   refine aqk ?_
   refine fqT ?_
   refine aqS ?_
   refine aw_block ?_
   refine aqS ?_
   refine aqT (rows := [_, _]) rfl (by kernel_rfl) ⟨
    okp rfl rfl (oqM (lN rfl) rfl),
    okp rfl rfl (oqA (lN rfl) rfl),
    trivial⟩ ?_
   refine fqK (s' := [kt 0 (.f (.func 152) [] [.p 1 0, .p 2 0]), kt 2 (.p 4 0), kt 3 (.p 5 0), kt 4 (.i 1), kt 5 (.i 1), (.u 0 2, some (.x (.p 1 0))), (.u 0 3, some (.x (.p 2 0))), (.u 0 4, some (.x (.p 3 0))), (.u 0 5, some (.x (.f (.func 152) [] [.p 1 0, .p 2 0]))), kb 1 187 8, kb 2 187 8, kb 3 187 8, kb 4 187 8, kb 5 187 8, kc 1 0 (.i a0.A.Lo), kc 1 1 (.i a0.A.Hi), kc 1 2 (.i a0.B.Lo), kc 1 3 (.i a0.B.Hi), kc 1 4 (.i a0.C.Lo), kc 1 5 (.i a0.C.Hi), kc 1 6 (.i a0.D.Lo), kc 1 7 (.i a0.D.Hi), kc 2 0 (.i a1.A.Lo), kc 2 1 (.i a1.A.Hi), kc 2 2 (.i a1.B.Lo), kc 2 3 (.i a1.B.Hi), kc 2 4 (.i a1.C.Lo), kc 2 5 (.i a1.C.Hi), kc 2 6 (.i a1.D.Lo), kc 2 7 (.i a1.D.Hi), kc 3 0 (.i 0), kc 3 1 (.i 0), kc 3 2 (.i 0), kc 3 3 (.i 0), kc 3 4 (.i 0), kc 3 5 (.i 0), kc 3 6 (.i 0), kc 3 7 (.i 0), kc 4 0 (.i 0), kc 4 1 (.i 0), kc 4 2 (.i 0), kc 4 3 (.i 0), kc 4 4 (.i 0), kc 4 5 (.i 0), kc 4 6 (.i 0), kc 4 7 (.i 0), kc 5 0 (.i v2.1), kc 5 1 (.i v2.2), kc 5 2 (.i 0), kc 5 3 (.i 0), kc 5 4 (.i 0), kc 5 5 (.i 0), kc 5 6 (.i 0), kc 5 7 (.i 0)]) ?_ (kp rfl) rfl
   refine fqT ?_
   obtain ⟨v3, hv3, hm⟩ := bnd_some hm
   refine aqT (rows := [_, _, _, _, _, _]) rfl (by kernel_rfl) ⟨
    okp rfl rfl (oqM (lN rfl) rfl),
    okp rfl rfl (oqM (lN rfl) rfl),
    okp rfl rfl (oqM (lN rfl) rfl),
    okp rfl rfl (oqN (fs := []) (caps := [.p 1 0, .p 2 0]) (xs := [.i 1]) (Nk := 24) (.g [.i v3.1, .i v3.2]) (tqS [(0, .f (.func 152) [] [.p 1 0, .p 2 0]), (2, .p 4 0), (3, .p 5 0), (4, .i 1), (5, .i 1), (8, .i 1), (9, .f (.func 152) [] [.p 1 0, .p 2 0]), (10, .i 1)] ++ ((([(.u 0 2, some (.x (.p 1 0))), (.u 0 3, some (.x (.p 2 0))), (.u 0 4, some (.x (.p 3 0))), (.u 0 5, some (.x (.f (.func 152) [] [.p 1 0, .p 2 0]))), kb 1 187 8, kb 2 187 8, kb 3 187 8, kb 4 187 8, kb 5 187 8, kc 1 0 (.i a0.A.Lo), kc 1 1 (.i a0.A.Hi), kc 1 2 (.i a0.B.Lo), kc 1 3 (.i a0.B.Hi), kc 1 4 (.i a0.C.Lo), kc 1 5 (.i a0.C.Hi), kc 1 6 (.i a0.D.Lo), kc 1 7 (.i a0.D.Hi), kc 2 0 (.i a1.A.Lo), kc 2 1 (.i a1.A.Hi), kc 2 2 (.i a1.B.Lo), kc 2 3 (.i a1.B.Hi), kc 2 4 (.i a1.C.Lo), kc 2 5 (.i a1.C.Hi), kc 2 6 (.i a1.D.Lo)] : St) ++ (([kc 2 7 (.i a1.D.Hi), kc 3 0 (.i 0), kc 3 1 (.i 0), kc 3 2 (.i 0), kc 3 3 (.i 0), kc 3 4 (.i 0), kc 3 5 (.i 0), kc 3 6 (.i 0), kc 3 7 (.i 0), kc 4 0 (.i 0), kc 4 1 (.i 0), kc 4 2 (.i 0), kc 4 3 (.i 0), kc 4 4 (.i 0), kc 4 5 (.i 0), kc 4 6 (.i 0), kc 4 7 (.i 0), kc 5 0 (.i v2.1), kc 5 1 (.i v2.2), kc 5 2 (.i 0), kc 5 3 (.i 0), kc 5 4 (.i 0), kc 5 5 (.i 0), kc 5 6 (.i 0)] : St) ++ (([kc 5 7 (.i 0)] : St)))) ++ dqS [])) 1 [(0, .f (.func 152) [] [.p 1 0, .p 2 0]), (2, .p 4 0), (3, .p 5 0), (4, .i 1), (5, .i 1), (8, .i 1), (9, .f (.func 152) [] [.p 1 0, .p 2 0]), (10, .i 1)] [(.u 0 2, some (.x (.p 1 0))), (.u 0 3, some (.x (.p 2 0))), (.u 0 4, some (.x (.p 3 0))), (.u 0 5, some (.x (.f (.func 152) [] [.p 1 0, .p 2 0]))), kb 1 187 8, kb 2 187 8, kb 3 187 8, kb 4 187 8, kb 5 187 8, kc 1 0 (.i a0.A.Lo), kc 1 1 (.i a0.A.Hi), kc 1 2 (.i a0.B.Lo), kc 1 3 (.i a0.B.Hi), kc 1 4 (.i a0.C.Lo), kc 1 5 (.i a0.C.Hi), kc 1 6 (.i a0.D.Lo), kc 1 7 (.i a0.D.Hi), kc 2 0 (.i a1.A.Lo), kc 2 1 (.i a1.A.Hi), kc 2 2 (.i a1.B.Lo), kc 2 3 (.i a1.B.Hi), kc 2 4 (.i a1.C.Lo), kc 2 5 (.i a1.C.Hi), kc 2 6 (.i a1.D.Lo), kc 2 7 (.i a1.D.Hi), kc 3 0 (.i 0), kc 3 1 (.i 0), kc 3 2 (.i 0), kc 3 3 (.i 0), kc 3 4 (.i 0), kc 3 5 (.i 0), kc 3 6 (.i 0), kc 3 7 (.i 0), kc 4 0 (.i 0), kc 4 1 (.i 0), kc 4 2 (.i 0), kc 4 3 (.i 0), kc 4 4 (.i 0), kc 4 5 (.i 0), kc 4 6 (.i 0), kc 4 7 (.i 0), kc 5 0 (.i v2.1), kc 5 1 (.i v2.2), kc 5 2 (.i 0), kc 5 3 (.i 0), kc 5 4 (.i 0), kc 5 5 (.i 0), kc 5 6 (.i 0), kc 5 7 (.i 0)] (lN rfl) en_152 Tryd.func152 rfl rfl (Nat.le_of_ble_eq_true rfl) rfl ⟨rfl, rfl, rfl⟩ (EvL.cons rfl EvL.nil) ⟨rfl, rfl, rfl, rfl, rfl, rfl, rfl, rfl, trivial⟩ ⟨rfl, rfl, rfl, rfl, rfl, rfl, rfl, rfl, rfl, rfl, rfl, rfl, rfl, rfl, rfl, rfl, rfl, rfl, rfl, rfl, rfl, rfl, rfl, rfl, rfl, rfl, rfl, rfl, rfl, rfl, rfl, rfl, rfl, rfl, rfl, rfl, rfl, rfl, rfl, rfl, rfl, rfl, rfl, rfl, rfl, rfl, rfl, rfl, rfl, trivial⟩ rfl rfl rfl (fun aIv3 hIv3 => ?_)),
    okp rfl rfl (op_ixA (lN rfl) rfl rfl ar_187 (by decide) (by decide)),
    okp rfl rfl (oqS sz_32 rfl rfl rfl rfl rfl (by decide)),
    trivial⟩ ?_
   ·have hm := hv3
    refine AW.keep (s' := [kt 0 (.i 1), kt 1 (.p 1 0), kt 2 (.p 2 0), (.u 0 2, some (.x (.p 1 0))), (.u 0 3, some (.x (.p 2 0))), (.u 0 4, some (.x (.p 3 0))), (.u 0 5, some (.x (.f (.func 152) [] [.p 1 0, .p 2 0]))), (.u 1 0, some (.x (.f (.func 152) [] [.p 1 0, .p 2 0]))), (.u 1 2, some (.x (.p 4 0))), (.u 1 3, some (.x (.p 5 0))), (.u 1 4, some (.x (.i 1))), (.u 1 5, some (.x (.i 1))), (.u 1 8, some (.x (.i 1))), (.u 1 9, some (.x (.f (.func 152) [] [.p 1 0, .p 2 0]))), (.u 1 10, some (.x (.i 1))), kb 1 187 8, kb 2 187 8, kb 3 187 8, kb 4 187 8, kb 5 187 8, kc 1 0 (.i a0.A.Lo), kc 1 1 (.i a0.A.Hi), kc 1 2 (.i a0.B.Lo), kc 1 3 (.i a0.B.Hi), kc 1 4 (.i a0.C.Lo), kc 1 5 (.i a0.C.Hi), kc 1 6 (.i a0.D.Lo), kc 1 7 (.i a0.D.Hi), kc 2 0 (.i a1.A.Lo), kc 2 1 (.i a1.A.Hi), kc 2 2 (.i a1.B.Lo), kc 2 3 (.i a1.B.Hi), kc 2 4 (.i a1.C.Lo), kc 2 5 (.i a1.C.Hi), kc 2 6 (.i a1.D.Lo), kc 2 7 (.i a1.D.Hi), kc 3 0 (.i 0), kc 3 1 (.i 0), kc 3 2 (.i 0), kc 3 3 (.i 0), kc 3 4 (.i 0), kc 3 5 (.i 0), kc 3 6 (.i 0), kc 3 7 (.i 0), kc 4 0 (.i 0), kc 4 1 (.i 0), kc 4 2 (.i 0), kc 4 3 (.i 0), kc 4 4 (.i 0), kc 4 5 (.i 0), kc 4 6 (.i 0), kc 4 7 (.i 0), kc 5 0 (.i v2.1), kc 5 1 (.i v2.2), kc 5 2 (.i 0), kc 5 3 (.i 0), kc 5 4 (.i 0), kc 5 5 (.i 0), kc 5 6 (.i 0), kc 5 7 (.i 0)]) ?_ (kp rfl) rfl
    refine aqS ?_
    refine aqT (rows := [_]) rfl (by kernel_rfl) ⟨
     okp rfl rfl (oqa (L := 7) (lN rfl) zl_32),
     trivial⟩ ?_
    refine fqK (s' := [kt 0 (.i 1), kt 1 (.p 1 0), kt 2 (.p 2 0), kt 4 (.p 7 0), (.u 0 2, some (.x (.p 1 0))), (.u 0 3, some (.x (.p 2 0))), (.u 0 4, some (.x (.p 3 0))), (.u 0 5, some (.x (.f (.func 152) [] [.p 1 0, .p 2 0]))), (.u 1 0, some (.x (.f (.func 152) [] [.p 1 0, .p 2 0]))), (.u 1 2, some (.x (.p 4 0))), (.u 1 3, some (.x (.p 5 0))), (.u 1 4, some (.x (.i 1))), (.u 1 5, some (.x (.i 1))), (.u 1 8, some (.x (.i 1))), (.u 1 9, some (.x (.f (.func 152) [] [.p 1 0, .p 2 0]))), (.u 1 10, some (.x (.i 1))), kb 1 187 8, kb 2 187 8, kb 3 187 8, kb 4 187 8, kb 5 187 8, kb 7 32 2, kc 1 0 (.i a0.A.Lo), kc 1 1 (.i a0.A.Hi), kc 1 2 (.i a0.B.Lo), kc 1 3 (.i a0.B.Hi), kc 1 4 (.i a0.C.Lo), kc 1 5 (.i a0.C.Hi), kc 1 6 (.i a0.D.Lo), kc 1 7 (.i a0.D.Hi), kc 2 0 (.i a1.A.Lo), kc 2 1 (.i a1.A.Hi), kc 2 2 (.i a1.B.Lo), kc 2 3 (.i a1.B.Hi), kc 2 4 (.i a1.C.Lo), kc 2 5 (.i a1.C.Hi), kc 2 6 (.i a1.D.Lo), kc 2 7 (.i a1.D.Hi), kc 3 0 (.i 0), kc 3 1 (.i 0), kc 3 2 (.i 0), kc 3 3 (.i 0), kc 3 4 (.i 0), kc 3 5 (.i 0), kc 3 6 (.i 0), kc 3 7 (.i 0), kc 4 0 (.i 0), kc 4 1 (.i 0), kc 4 2 (.i 0), kc 4 3 (.i 0), kc 4 4 (.i 0), kc 4 5 (.i 0), kc 4 6 (.i 0), kc 4 7 (.i 0), kc 5 0 (.i v2.1), kc 5 1 (.i v2.2), kc 5 2 (.i 0), kc 5 3 (.i 0), kc 5 4 (.i 0), kc 5 5 (.i 0), kc 5 6 (.i 0), kc 5 7 (.i 0), kc 7 0 (.i 0), kc 7 1 (.i 0)]) ?_ (kp rfl) rfl
    refine fqT ?_
    refine aqS ?_
    refine aw_any (rows := [_, _, _, _, _, _, _, _, _, _, _, _, _, _, _, _, _, _, _, _]) (M := [0, 1, 3, 7, 0, 16, 48, 112, 255, 0, 512, 1536, 3584, 0, 8192, 24576, 57344, 130560, 262143, 524287]) Tryd_mixed (by kernel_rfl) rfl (by kernel_rfl) ⟨
     okp rfl rfl (oqM (lN rfl) rfl),
     okp rfl rfl (op_ixA (lN rfl) rfl rfl ar_187 (by decide) (by decide)),
     okp rfl rfl (oqF (lN rfl) rfl fo_32_0),
     okp rfl rfl (oq1 (lN rfl) sh_3 rfl rfl),
     okp rfl rfl (oqM (lN rfl) rfl),
     okp rfl rfl (op_ixA (lN rfl) rfl rfl ar_187 (by decide) (by decide)),
     okp rfl rfl (oqF (lN rfl) rfl fo_32_0),
     okp rfl rfl (oq1 (lN rfl) sh_3 rfl rfl),
     okp rfl rfl (op_min (lN rfl) rfl rfl),
     okp rfl rfl (oqM (lN rfl) rfl),
     okp rfl rfl (op_ixA (lN rfl) rfl rfl ar_187 (by decide) (by decide)),
     okp rfl rfl (oqF (lN rfl) rfl fo_32_1),
     okp rfl rfl (oq1 (lN rfl) sh_3 rfl rfl),
     okp rfl rfl (oqM (lN rfl) rfl),
     okp rfl rfl (op_ixA (lN rfl) rfl rfl ar_187 (by decide) (by decide)),
     okp rfl rfl (oqF (lN rfl) rfl fo_32_1),
     okp rfl rfl (oq1 (lN rfl) sh_3 rfl rfl),
     okp rfl rfl (op_max (lN rfl) rfl rfl),
     okp rfl rfl (op_build (x := .g [.i (if a1.B.Lo < a0.B.Lo then a1.B.Lo else a0.B.Lo), .i (if a1.B.Hi > a0.B.Hi then a1.B.Hi else a0.B.Hi)]) (lN rfl) (EvL.cons rfl (EvL.cons rfl EvL.nil)) (fun m w => by kernel_rfl)),
     okp rfl rfl (oqS sz_32 rfl rfl rfl rfl rfl (by decide)),
     trivial⟩ ?_
    refine fqK (s' := [kt 4 (.p 7 0), (.u 0 2, some (.x (.p 1 0))), (.u 0 3, some (.x (.p 2 0))), (.u 0 4, some (.x (.p 3 0))), (.u 0 5, some (.x (.f (.func 152) [] [.p 1 0, .p 2 0]))), (.u 1 0, some (.x (.f (.func 152) [] [.p 1 0, .p 2 0]))), (.u 1 2, some (.x (.p 4 0))), (.u 1 3, some (.x (.p 5 0))), (.u 1 4, some (.x (.i 1))), (.u 1 5, some (.x (.i 1))), (.u 1 8, some (.x (.i 1))), (.u 1 9, some (.x (.f (.func 152) [] [.p 1 0, .p 2 0]))), (.u 1 10, some (.x (.i 1))), kb 1 187 8, kb 2 187 8, kb 3 187 8, kb 4 187 8, kb 5 187 8, kb 7 32 2, kc 1 0 (.i a0.A.Lo), kc 1 1 (.i a0.A.Hi), kc 1 2 (.i a0.B.Lo), kc 1 3 (.i a0.B.Hi), kc 1 4 (.i a0.C.Lo), kc 1 5 (.i a0.C.Hi), kc 1 6 (.i a0.D.Lo), kc 1 7 (.i a0.D.Hi), kc 2 0 (.i a1.A.Lo), kc 2 1 (.i a1.A.Hi), kc 2 2 (.i a1.B.Lo), kc 2 3 (.i a1.B.Hi), kc 2 4 (.i a1.C.Lo), kc 2 5 (.i a1.C.Hi), kc 2 6 (.i a1.D.Lo), kc 2 7 (.i a1.D.Hi), kc 3 0 (.i 0), kc 3 1 (.i 0), kc 3 2 (.i 0), kc 3 3 (.i 0), kc 3 4 (.i 0), kc 3 5 (.i 0), kc 3 6 (.i 0), kc 3 7 (.i 0), kc 4 0 (.i 0), kc 4 1 (.i 0), kc 4 2 (.i 0), kc 4 3 (.i 0), kc 4 4 (.i 0), kc 4 5 (.i 0), kc 4 6 (.i 0), kc 4 7 (.i 0), kc 5 0 (.i v2.1), kc 5 1 (.i v2.2), kc 5 2 (.i 0), kc 5 3 (.i 0), kc 5 4 (.i 0), kc 5 5 (.i 0), kc 5 6 (.i 0), kc 5 7 (.i 0), kc 7 0 (.i (if a1.B.Lo < a0.B.Lo then a1.B.Lo else a0.B.Lo)), kc 7 1 (.i (if a1.B.Hi > a0.B.Hi then a1.B.Hi else a0.B.Hi))]) ?_ (kp rfl) rfl
    refine fqT ?_
    refine aqr ?_
    have hm := Option.some.inj hm
    subst hm
    exact fin_callEnd _ _ _ (.inl rfl) rfl rfl (rqC (ys := [.i (if a1.B.Lo < a0.B.Lo then a1.B.Lo else a0.B.Lo), .i (if a1.B.Hi > a0.B.Hi then a1.B.Hi else a0.B.Hi)]) rfl sh_32 rfl ⟨rfl, rfl, trivial⟩ rqN) rfl hIv3 ⟨rfl, rfl, rfl, rfl, rfl, rfl, rfl, rfl, trivial⟩ ⟨rfl, rfl, rfl, rfl, rfl, rfl, rfl, rfl, rfl, rfl, rfl, rfl, rfl, rfl, rfl, rfl, rfl, rfl, rfl, rfl, rfl, rfl, rfl, rfl, rfl, rfl, rfl, rfl, rfl, rfl, rfl, rfl, rfl, rfl, rfl, rfl, rfl, rfl, rfl, rfl, rfl, rfl, rfl, rfl, rfl, rfl, rfl, rfl, rfl, trivial⟩ rfl rfl
   refine fqK (s' := [kt 0 (.f (.func 152) [] [.p 1 0, .p 2 0]), kt 2 (.p 4 0), kt 3 (.p 5 0), kt 5 (.i 1), (.u 0 2, some (.x (.p 1 0))), (.u 0 3, some (.x (.p 2 0))), (.u 0 4, some (.x (.p 3 0))), (.u 0 5, some (.x (.f (.func 152) [] [.p 1 0, .p 2 0]))), kb 1 187 8, kb 2 187 8, kb 3 187 8, kb 4 187 8, kb 5 187 8, kc 1 0 (.i a0.A.Lo), kc 1 1 (.i a0.A.Hi), kc 1 2 (.i a0.B.Lo), kc 1 3 (.i a0.B.Hi), kc 1 4 (.i a0.C.Lo), kc 1 5 (.i a0.C.Hi), kc 1 6 (.i a0.D.Lo), kc 1 7 (.i a0.D.Hi), kc 2 0 (.i a1.A.Lo), kc 2 1 (.i a1.A.Hi), kc 2 2 (.i a1.B.Lo), kc 2 3 (.i a1.B.Hi), kc 2 4 (.i a1.C.Lo), kc 2 5 (.i a1.C.Hi), kc 2 6 (.i a1.D.Lo), kc 2 7 (.i a1.D.Hi), kc 3 0 (.i 0), kc 3 1 (.i 0), kc 3 2 (.i 0), kc 3 3 (.i 0), kc 3 4 (.i 0), kc 3 5 (.i 0), kc 3 6 (.i 0), kc 3 7 (.i 0), kc 4 0 (.i 0), kc 4 1 (.i 0), kc 4 2 (.i 0), kc 4 3 (.i 0), kc 4 4 (.i 0), kc 4 5 (.i 0), kc 4 6 (.i 0), kc 4 7 (.i 0), kc 5 0 (.i v2.1), kc 5 1 (.i v2.2), kc 5 2 (.i v3.1), kc 5 3 (.i v3.2), kc 5 4 (.i 0), kc 5 5 (.i 0), kc 5 6 (.i 0), kc 5 7 (.i 0)]) ?_ (kp rfl) rfl
   refine fqB ?_
   refine fqT ?_
   refine aqT (rows := [_, _]) rfl (by kernel_rfl) ⟨
    okp rfl rfl (oqB (r := .int .i64 2) (lN rfl) rfl rfl rfl),
    okp rfl rfl (oqM (lN rfl) rfl),
    trivial⟩ ?_
   refine fqK (s' := [kt 0 (.f (.func 152) [] [.p 1 0, .p 2 0]), kt 2 (.p 4 0), kt 3 (.p 5 0), kt 5 (.i 2), (.u 0 2, some (.x (.p 1 0))), (.u 0 3, some (.x (.p 2 0))), (.u 0 4, some (.x (.p 3 0))), (.u 0 5, some (.x (.f (.func 152) [] [.p 1 0, .p 2 0]))), kb 1 187 8, kb 2 187 8, kb 3 187 8, kb 4 187 8, kb 5 187 8, kc 1 0 (.i a0.A.Lo), kc 1 1 (.i a0.A.Hi), kc 1 2 (.i a0.B.Lo), kc 1 3 (.i a0.B.Hi), kc 1 4 (.i a0.C.Lo), kc 1 5 (.i a0.C.Hi), kc 1 6 (.i a0.D.Lo), kc 1 7 (.i a0.D.Hi), kc 2 0 (.i a1.A.Lo), kc 2 1 (.i a1.A.Hi), kc 2 2 (.i a1.B.Lo), kc 2 3 (.i a1.B.Hi), kc 2 4 (.i a1.C.Lo), kc 2 5 (.i a1.C.Hi), kc 2 6 (.i a1.D.Lo), kc 2 7 (.i a1.D.Hi), kc 3 0 (.i 0), kc 3 1 (.i 0), kc 3 2 (.i 0), kc 3 3 (.i 0), kc 3 4 (.i 0), kc 3 5 (.i 0), kc 3 6 (.i 0), kc 3 7 (.i 0), kc 4 0 (.i 0), kc 4 1 (.i 0), kc 4 2 (.i 0), kc 4 3 (.i 0), kc 4 4 (.i 0), kc 4 5 (.i 0), kc 4 6 (.i 0), kc 4 7 (.i 0), kc 5 0 (.i v2.1), kc 5 1 (.i v2.2), kc 5 2 (.i v3.1), kc 5 3 (.i v3.2), kc 5 4 (.i 0), kc 5 5 (.i 0), kc 5 6 (.i 0), kc 5 7 (.i 0)]) ?_ (kp rfl) rfl
   refine fin_round ?_
   refine aqS ?_
   refine aqT (rows := [_]) rfl (by kernel_rfl) ⟨
    okp rfl rfl (oqB (r := .bool true) (lN rfl) rfl rfl rfl),
    trivial⟩ ?_
   refine fqK (s' := [kt 0 (.f (.func 152) [] [.p 1 0, .p 2 0]), kt 2 (.p 4 0), kt 3 (.p 5 0), kt 5 (.i 2), kt 6 (.B true), (.u 0 2, some (.x (.p 1 0))), (.u 0 3, some (.x (.p 2 0))), (.u 0 4, some (.x (.p 3 0))), (.u 0 5, some (.x (.f (.func 152) [] [.p 1 0, .p 2 0]))), kb 1 187 8, kb 2 187 8, kb 3 187 8, kb 4 187 8, kb 5 187 8, kc 1 0 (.i a0.A.Lo), kc 1 1 (.i a0.A.Hi), kc 1 2 (.i a0.B.Lo), kc 1 3 (.i a0.B.Hi), kc 1 4 (.i a0.C.Lo), kc 1 5 (.i a0.C.Hi), kc 1 6 (.i a0.D.Lo), kc 1 7 (.i a0.D.Hi), kc 2 0 (.i a1.A.Lo), kc 2 1 (.i a1.A.Hi), kc 2 2 (.i a1.B.Lo), kc 2 3 (.i a1.B.Hi), kc 2 4 (.i a1.C.Lo), kc 2 5 (.i a1.C.Hi), kc 2 6 (.i a1.D.Lo), kc 2 7 (.i a1.D.Hi), kc 3 0 (.i 0), kc 3 1 (.i 0), kc 3 2 (.i 0), kc 3 3 (.i 0), kc 3 4 (.i 0), kc 3 5 (.i 0), kc 3 6 (.i 0), kc 3 7 (.i 0), kc 4 0 (.i 0), kc 4 1 (.i 0), kc 4 2 (.i 0), kc 4 3 (.i 0), kc 4 4 (.i 0), kc 4 5 (.i 0), kc 4 6 (.i 0), kc 4 7 (.i 0), kc 5 0 (.i v2.1), kc 5 1 (.i v2.2), kc 5 2 (.i v3.1), kc 5 3 (.i v3.2), kc 5 4 (.i 0), kc 5 5 (.i 0), kc 5 6 (.i 0), kc 5 7 (.i 0)]) ?_ (kp rfl) rfl
   refine fqT ?_
   refine aqS ?_
   refine aqc rfl (fun hz3 => ?_) (fun hz3 => by cases hz3)
   refine aqk ?_
   refine fqT ?_
   refine aqS ?_
   refine aw_block ?_
   refine aqS ?_
   refine aqT (rows := [_, _]) rfl (by kernel_rfl) ⟨
    okp rfl rfl (oqM (lN rfl) rfl),
    okp rfl rfl (oqA (lN rfl) rfl),
    trivial⟩ ?_
   refine fqK (s' := [kt 0 (.f (.func 152) [] [.p 1 0, .p 2 0]), kt 2 (.p 4 0), kt 3 (.p 5 0), kt 4 (.i 2), kt 5 (.i 2), (.u 0 2, some (.x (.p 1 0))), (.u 0 3, some (.x (.p 2 0))), (.u 0 4, some (.x (.p 3 0))), (.u 0 5, some (.x (.f (.func 152) [] [.p 1 0, .p 2 0]))), kb 1 187 8, kb 2 187 8, kb 3 187 8, kb 4 187 8, kb 5 187 8, kc 1 0 (.i a0.A.Lo), kc 1 1 (.i a0.A.Hi), kc 1 2 (.i a0.B.Lo), kc 1 3 (.i a0.B.Hi), kc 1 4 (.i a0.C.Lo), kc 1 5 (.i a0.C.Hi), kc 1 6 (.i a0.D.Lo), kc 1 7 (.i a0.D.Hi), kc 2 0 (.i a1.A.Lo), kc 2 1 (.i a1.A.Hi), kc 2 2 (.i a1.B.Lo), kc 2 3 (.i a1.B.Hi), kc 2 4 (.i a1.C.Lo), kc 2 5 (.i a1.C.Hi), kc 2 6 (.i a1.D.Lo), kc 2 7 (.i a1.D.Hi), kc 3 0 (.i 0), kc 3 1 (.i 0), kc 3 2 (.i 0), kc 3 3 (.i 0), kc 3 4 (.i 0), kc 3 5 (.i 0), kc 3 6 (.i 0), kc 3 7 (.i 0), kc 4 0 (.i 0), kc 4 1 (.i 0), kc 4 2 (.i 0), kc 4 3 (.i 0), kc 4 4 (.i 0), kc 4 5 (.i 0), kc 4 6 (.i 0), kc 4 7 (.i 0), kc 5 0 (.i v2.1), kc 5 1 (.i v2.2), kc 5 2 (.i v3.1), kc 5 3 (.i v3.2), kc 5 4 (.i 0), kc 5 5 (.i 0), kc 5 6 (.i 0), kc 5 7 (.i 0)]) ?_ (kp rfl) rfl
   refine fqT ?_
   obtain ⟨v4, hv4, hm⟩ := bnd_some hm
   refine aqT (rows := [_, _, _, _, _, _]) rfl (by kernel_rfl) ⟨
    okp rfl rfl (oqM (lN rfl) rfl),
    okp rfl rfl (oqM (lN rfl) rfl),
    okp rfl rfl (oqM (lN rfl) rfl),
    okp rfl rfl (oqN (fs := []) (caps := [.p 1 0, .p 2 0]) (xs := [.i 2]) (Nk := 24) (.g [.i v4.1, .i v4.2]) (tqS [(0, .f (.func 152) [] [.p 1 0, .p 2 0]), (2, .p 4 0), (3, .p 5 0), (4, .i 2), (5, .i 2), (8, .i 2), (9, .f (.func 152) [] [.p 1 0, .p 2 0]), (10, .i 2)] ++ ((([(.u 0 2, some (.x (.p 1 0))), (.u 0 3, some (.x (.p 2 0))), (.u 0 4, some (.x (.p 3 0))), (.u 0 5, some (.x (.f (.func 152) [] [.p 1 0, .p 2 0]))), kb 1 187 8, kb 2 187 8, kb 3 187 8, kb 4 187 8, kb 5 187 8, kc 1 0 (.i a0.A.Lo), kc 1 1 (.i a0.A.Hi), kc 1 2 (.i a0.B.Lo), kc 1 3 (.i a0.B.Hi), kc 1 4 (.i a0.C.Lo), kc 1 5 (.i a0.C.Hi), kc 1 6 (.i a0.D.Lo), kc 1 7 (.i a0.D.Hi), kc 2 0 (.i a1.A.Lo), kc 2 1 (.i a1.A.Hi), kc 2 2 (.i a1.B.Lo), kc 2 3 (.i a1.B.Hi), kc 2 4 (.i a1.C.Lo), kc 2 5 (.i a1.C.Hi), kc 2 6 (.i a1.D.Lo)] : St) ++ (([kc 2 7 (.i a1.D.Hi), kc 3 0 (.i 0), kc 3 1 (.i 0), kc 3 2 (.i 0), kc 3 3 (.i 0), kc 3 4 (.i 0), kc 3 5 (.i 0), kc 3 6 (.i 0), kc 3 7 (.i 0), kc 4 0 (.i 0), kc 4 1 (.i 0), kc 4 2 (.i 0), kc 4 3 (.i 0), kc 4 4 (.i 0), kc 4 5 (.i 0), kc 4 6 (.i 0), kc 4 7 (.i 0), kc 5 0 (.i v2.1), kc 5 1 (.i v2.2), kc 5 2 (.i v3.1), kc 5 3 (.i v3.2), kc 5 4 (.i 0), kc 5 5 (.i 0), kc 5 6 (.i 0)] : St) ++ (([kc 5 7 (.i 0)] : St)))) ++ dqS [])) 1 [(0, .f (.func 152) [] [.p 1 0, .p 2 0]), (2, .p 4 0), (3, .p 5 0), (4, .i 2), (5, .i 2), (8, .i 2), (9, .f (.func 152) [] [.p 1 0, .p 2 0]), (10, .i 2)] [(.u 0 2, some (.x (.p 1 0))), (.u 0 3, some (.x (.p 2 0))), (.u 0 4, some (.x (.p 3 0))), (.u 0 5, some (.x (.f (.func 152) [] [.p 1 0, .p 2 0]))), kb 1 187 8, kb 2 187 8, kb 3 187 8, kb 4 187 8, kb 5 187 8, kc 1 0 (.i a0.A.Lo), kc 1 1 (.i a0.A.Hi), kc 1 2 (.i a0.B.Lo), kc 1 3 (.i a0.B.Hi), kc 1 4 (.i a0.C.Lo), kc 1 5 (.i a0.C.Hi), kc 1 6 (.i a0.D.Lo), kc 1 7 (.i a0.D.Hi), kc 2 0 (.i a1.A.Lo), kc 2 1 (.i a1.A.Hi), kc 2 2 (.i a1.B.Lo), kc 2 3 (.i a1.B.Hi), kc 2 4 (.i a1.C.Lo), kc 2 5 (.i a1.C.Hi), kc 2 6 (.i a1.D.Lo), kc 2 7 (.i a1.D.Hi), kc 3 0 (.i 0), kc 3 1 (.i 0), kc 3 2 (.i 0), kc 3 3 (.i 0), kc 3 4 (.i 0), kc 3 5 (.i 0), kc 3 6 (.i 0), kc 3 7 (.i 0), kc 4 0 (.i 0), kc 4 1 (.i 0), kc 4 2 (.i 0), kc 4 3 (.i 0), kc 4 4 (.i 0), kc 4 5 (.i 0), kc 4 6 (.i 0), kc 4 7 (.i 0), kc 5 0 (.i v2.1), kc 5 1 (.i v2.2), kc 5 2 (.i v3.1), kc 5 3 (.i v3.2), kc 5 4 (.i 0), kc 5 5 (.i 0), kc 5 6 (.i 0), kc 5 7 (.i 0)] (lN rfl) en_152 Tryd.func152 rfl rfl (Nat.le_of_ble_eq_true rfl) rfl ⟨rfl, rfl, rfl⟩ (EvL.cons rfl EvL.nil) ⟨rfl, rfl, rfl, rfl, rfl, rfl, rfl, rfl, trivial⟩ ⟨rfl, rfl, rfl, rfl, rfl, rfl, rfl, rfl, rfl, rfl, rfl, rfl, rfl, rfl, rfl, rfl, rfl, rfl, rfl, rfl, rfl, rfl, rfl, rfl, rfl, rfl, rfl, rfl, rfl, rfl, rfl, rfl, rfl, rfl, rfl, rfl, rfl, rfl, rfl, rfl, rfl, rfl, rfl, rfl, rfl, rfl, rfl, rfl, rfl, trivial⟩ rfl rfl rfl (fun aIv4 hIv4 => ?_)),
    okp rfl rfl (op_ixA (lN rfl) rfl rfl ar_187 (by decide) (by decide)),
    okp rfl rfl (oqS sz_32 rfl rfl rfl rfl rfl (by decide)),
    trivial⟩ ?_
   ·have hm := hv4
    refine AW.keep (s' := [kt 0 (.i 2), kt 1 (.p 1 0), kt 2 (.p 2 0), (.u 0 2, some (.x (.p 1 0))), (.u 0 3, some (.x (.p 2 0))), (.u 0 4, some (.x (.p 3 0))), (.u 0 5, some (.x (.f (.func 152) [] [.p 1 0, .p 2 0]))), (.u 1 0, some (.x (.f (.func 152) [] [.p 1 0, .p 2 0]))), (.u 1 2, some (.x (.p 4 0))), (.u 1 3, some (.x (.p 5 0))), (.u 1 4, some (.x (.i 2))), (.u 1 5, some (.x (.i 2))), (.u 1 8, some (.x (.i 2))), (.u 1 9, some (.x (.f (.func 152) [] [.p 1 0, .p 2 0]))), (.u 1 10, some (.x (.i 2))), kb 1 187 8, kb 2 187 8, kb 3 187 8, kb 4 187 8, kb 5 187 8, kc 1 0 (.i a0.A.Lo), kc 1 1 (.i a0.A.Hi), kc 1 2 (.i a0.B.Lo), kc 1 3 (.i a0.B.Hi), kc 1 4 (.i a0.C.Lo), kc 1 5 (.i a0.C.Hi), kc 1 6 (.i a0.D.Lo), kc 1 7 (.i a0.D.Hi), kc 2 0 (.i a1.A.Lo), kc 2 1 (.i a1.A.Hi), kc 2 2 (.i a1.B.Lo), kc 2 3 (.i a1.B.Hi), kc 2 4 (.i a1.C.Lo), kc 2 5 (.i a1.C.Hi), kc 2 6 (.i a1.D.Lo), kc 2 7 (.i a1.D.Hi), kc 3 0 (.i 0), kc 3 1 (.i 0), kc 3 2 (.i 0), kc 3 3 (.i 0), kc 3 4 (.i 0), kc 3 5 (.i 0), kc 3 6 (.i 0), kc 3 7 (.i 0), kc 4 0 (.i 0), kc 4 1 (.i 0), kc 4 2 (.i 0), kc 4 3 (.i 0), kc 4 4 (.i 0), kc 4 5 (.i 0), kc 4 6 (.i 0), kc 4 7 (.i 0), kc 5 0 (.i v2.1), kc 5 1 (.i v2.2), kc 5 2 (.i v3.1), kc 5 3 (.i v3.2), kc 5 4 (.i 0), kc 5 5 (.i 0), kc 5 6 (.i 0), kc 5 7 (.i 0)]) ?_ (kp rfl) rfl
    refine aqS ?_
    refine aqT (rows := [_]) rfl (by kernel_rfl) ⟨
     okp rfl rfl (oqa (L := 8) (lN rfl) zl_32),
     trivial⟩ ?_
    refine fqK (s' := [kt 0 (.i 2), kt 1 (.p 1 0), kt 2 (.p 2 0), kt 4 (.p 8 0), (.u 0 2, some (.x (.p 1 0))), (.u 0 3, some (.x (.p 2 0))), (.u 0 4, some (.x (.p 3 0))), (.u 0 5, some (.x (.f (.func 152) [] [.p 1 0, .p 2 0]))), (.u 1 0, some (.x (.f (.func 152) [] [.p 1 0, .p 2 0]))), (.u 1 2, some (.x (.p 4 0))), (.u 1 3, some (.x (.p 5 0))), (.u 1 4, some (.x (.i 2))), (.u 1 5, some (.x (.i 2))), (.u 1 8, some (.x (.i 2))), (.u 1 9, some (.x (.f (.func 152) [] [.p 1 0, .p 2 0]))), (.u 1 10, some (.x (.i 2))), kb 1 187 8, kb 2 187 8, kb 3 187 8, kb 4 187 8, kb 5 187 8, kb 8 32 2, kc 1 0 (.i a0.A.Lo), kc 1 1 (.i a0.A.Hi), kc 1 2 (.i a0.B.Lo), kc 1 3 (.i a0.B.Hi), kc 1 4 (.i a0.C.Lo), kc 1 5 (.i a0.C.Hi), kc 1 6 (.i a0.D.Lo), kc 1 7 (.i a0.D.Hi), kc 2 0 (.i a1.A.Lo), kc 2 1 (.i a1.A.Hi), kc 2 2 (.i a1.B.Lo), kc 2 3 (.i a1.B.Hi), kc 2 4 (.i a1.C.Lo), kc 2 5 (.i a1.C.Hi), kc 2 6 (.i a1.D.Lo), kc 2 7 (.i a1.D.Hi), kc 3 0 (.i 0), kc 3 1 (.i 0), kc 3 2 (.i 0), kc 3 3 (.i 0), kc 3 4 (.i 0), kc 3 5 (.i 0), kc 3 6 (.i 0), kc 3 7 (.i 0), kc 4 0 (.i 0), kc 4 1 (.i 0), kc 4 2 (.i 0), kc 4 3 (.i 0), kc 4 4 (.i 0), kc 4 5 (.i 0), kc 4 6 (.i 0), kc 4 7 (.i 0), kc 5 0 (.i v2.1), kc 5 1 (.i v2.2), kc 5 2 (.i v3.1), kc 5 3 (.i v3.2), kc 5 4 (.i 0), kc 5 5 (.i 0), kc 5 6 (.i 0), kc 5 7 (.i 0), kc 8 0 (.i 0), kc 8 1 (.i 0)]) ?_ (kp rfl) rfl
    refine fqT ?_
    refine aqS ?_
    refine aw_any (rows := [_, _, _, _, _, _, _, _, _, _, _, _, _, _, _, _, _, _, _, _]) (M := [0, 1, 3, 7, 0, 16, 48, 112, 255, 0, 512, 1536, 3584, 0, 8192, 24576, 57344, 130560, 262143, 524287]) Tryd_mixed (by kernel_rfl) rfl (by kernel_rfl) ⟨
     okp rfl rfl (oqM (lN rfl) rfl),
     okp rfl rfl (op_ixA (lN rfl) rfl rfl ar_187 (by decide) (by decide)),
     okp rfl rfl (oqF (lN rfl) rfl fo_32_0),
     okp rfl rfl (oq1 (lN rfl) sh_3 rfl rfl),
     okp rfl rfl (oqM (lN rfl) rfl),
     okp rfl rfl (op_ixA (lN rfl) rfl rfl ar_187 (by decide) (by decide)),
     okp rfl rfl (oqF (lN rfl) rfl fo_32_0),
     okp rfl rfl (oq1 (lN rfl) sh_3 rfl rfl),
     okp rfl rfl (op_min (lN rfl) rfl rfl),
     okp rfl rfl (oqM (lN rfl) rfl),
     okp rfl rfl (op_ixA (lN rfl) rfl rfl ar_187 (by decide) (by decide)),
     okp rfl rfl (oqF (lN rfl) rfl fo_32_1),
     okp rfl rfl (oq1 (lN rfl) sh_3 rfl rfl),
     okp rfl rfl (oqM (lN rfl) rfl),
     okp rfl rfl (op_ixA (lN rfl) rfl rfl ar_187 (by decide) (by decide)),
     okp rfl rfl (oqF (lN rfl) rfl fo_32_1),
     okp rfl rfl (oq1 (lN rfl) sh_3 rfl rfl),
     okp rfl rfl (op_max (lN rfl) rfl rfl),
     okp rfl rfl (op_build (x := .g [.i (if a1.C.Lo < a0.C.Lo then a1.C.Lo else a0.C.Lo), .i (if a1.C.Hi > a0.C.Hi then a1.C.Hi else a0.C.Hi)]) (lN rfl) (EvL.cons rfl (EvL.cons rfl EvL.nil)) (fun m w => by kernel_rfl)),
     okp rfl rfl (oqS sz_32 rfl rfl rfl rfl rfl (by decide)),
     trivial⟩ ?_
    refine fqK (s' := [kt 4 (.p 8 0), (.u 0 2, some (.x (.p 1 0))), (.u 0 3, some (.x (.p 2 0))), (.u 0 4, some (.x (.p 3 0))), (.u 0 5, some (.x (.f (.func 152) [] [.p 1 0, .p 2 0]))), (.u 1 0, some (.x (.f (.func 152) [] [.p 1 0, .p 2 0]))), (.u 1 2, some (.x (.p 4 0))), (.u 1 3, some (.x (.p 5 0))), (.u 1 4, some (.x (.i 2))), (.u 1 5, some (.x (.i 2))), (.u 1 8, some (.x (.i 2))), (.u 1 9, some (.x (.f (.func 152) [] [.p 1 0, .p 2 0]))), (.u 1 10, some (.x (.i 2))), kb 1 187 8, kb 2 187 8, kb 3 187 8, kb 4 187 8, kb 5 187 8, kb 8 32 2, kc 1 0 (.i a0.A.Lo), kc 1 1 (.i a0.A.Hi), kc 1 2 (.i a0.B.Lo), kc 1 3 (.i a0.B.Hi), kc 1 4 (.i a0.C.Lo), kc 1 5 (.i a0.C.Hi), kc 1 6 (.i a0.D.Lo), kc 1 7 (.i a0.D.Hi), kc 2 0 (.i a1.A.Lo), kc 2 1 (.i a1.A.Hi), kc 2 2 (.i a1.B.Lo), kc 2 3 (.i a1.B.Hi), kc 2 4 (.i a1.C.Lo), kc 2 5 (.i a1.C.Hi), kc 2 6 (.i a1.D.Lo), kc 2 7 (.i a1.D.Hi), kc 3 0 (.i 0), kc 3 1 (.i 0), kc 3 2 (.i 0), kc 3 3 (.i 0), kc 3 4 (.i 0), kc 3 5 (.i 0), kc 3 6 (.i 0), kc 3 7 (.i 0), kc 4 0 (.i 0), kc 4 1 (.i 0), kc 4 2 (.i 0), kc 4 3 (.i 0), kc 4 4 (.i 0), kc 4 5 (.i 0), kc 4 6 (.i 0), kc 4 7 (.i 0), kc 5 0 (.i v2.1), kc 5 1 (.i v2.2), kc 5 2 (.i v3.1), kc 5 3 (.i v3.2), kc 5 4 (.i 0), kc 5 5 (.i 0), kc 5 6 (.i 0), kc 5 7 (.i 0), kc 8 0 (.i (if a1.C.Lo < a0.C.Lo then a1.C.Lo else a0.C.Lo)), kc 8 1 (.i (if a1.C.Hi > a0.C.Hi then a1.C.Hi else a0.C.Hi))]) ?_ (kp rfl) rfl
    refine fqT ?_
    refine aqr ?_
    have hm := Option.some.inj hm
    subst hm
    exact fin_callEnd _ _ _ (.inl rfl) rfl rfl (rqC (ys := [.i (if a1.C.Lo < a0.C.Lo then a1.C.Lo else a0.C.Lo), .i (if a1.C.Hi > a0.C.Hi then a1.C.Hi else a0.C.Hi)]) rfl sh_32 rfl ⟨rfl, rfl, trivial⟩ rqN) rfl hIv4 ⟨rfl, rfl, rfl, rfl, rfl, rfl, rfl, rfl, trivial⟩ ⟨rfl, rfl, rfl, rfl, rfl, rfl, rfl, rfl, rfl, rfl, rfl, rfl, rfl, rfl, rfl, rfl, rfl, rfl, rfl, rfl, rfl, rfl, rfl, rfl, rfl, rfl, rfl, rfl, rfl, rfl, rfl, rfl, rfl, rfl, rfl, rfl, rfl, rfl, rfl, rfl, rfl, rfl, rfl, rfl, rfl, rfl, rfl, rfl, rfl, trivial⟩ rfl rfl
   refine fqK (s' := [kt 0 (.f (.func 152) [] [.p 1 0, .p 2 0]), kt 2 (.p 4 0), kt 3 (.p 5 0), kt 5 (.i 2), (.u 0 2, some (.x (.p 1 0))), (.u 0 3, some (.x (.p 2 0))), (.u 0 4, some (.x (.p 3 0))), (.u 0 5, some (.x (.f (.func 152) [] [.p 1 0, .p 2 0]))), kb 1 187 8, kb 2 187 8, kb 3 187 8, kb 4 187 8, kb 5 187 8, kc 1 0 (.i a0.A.Lo), kc 1 1 (.i a0.A.Hi), kc 1 2 (.i a0.B.Lo), kc 1 3 (.i a0.B.Hi), kc 1 4 (.i a0.C.Lo), kc 1 5 (.i a0.C.Hi), kc 1 6 (.i a0.D.Lo), kc 1 7 (.i a0.D.Hi), kc 2 0 (.i a1.A.Lo), kc 2 1 (.i a1.A.Hi), kc 2 2 (.i a1.B.Lo), kc 2 3 (.i a1.B.Hi), kc 2 4 (.i a1.C.Lo), kc 2 5 (.i a1.C.Hi), kc 2 6 (.i a1.D.Lo), kc 2 7 (.i a1.D.Hi), kc 3 0 (.i 0), kc 3 1 (.i 0), kc 3 2 (.i 0), kc 3 3 (.i 0), kc 3 4 (.i 0), kc 3 5 (.i 0), kc 3 6 (.i 0), kc 3 7 (.i 0), kc 4 0 (.i 0), kc 4 1 (.i 0), kc 4 2 (.i 0), kc 4 3 (.i 0), kc 4 4 (.i 0), kc 4 5 (.i 0), kc 4 6 (.i 0), kc 4 7 (.i 0), kc 5 0 (.i v2.1), kc 5 1 (.i v2.2), kc 5 2 (.i v3.1), kc 5 3 (.i v3.2), kc 5 4 (.i v4.1), kc 5 5 (.i v4.2), kc 5 6 (.i 0), kc 5 7 (.i 0)]) ?_ (kp rfl) rfl
   refine fqB ?_
   refine fqT ?_
   refine aqT (rows := [_, _]) rfl (by kernel_rfl) ⟨
    okp rfl rfl (oqB (r := .int .i64 3) (lN rfl) rfl rfl rfl),
    okp rfl rfl (oqM (lN rfl) rfl),
    trivial⟩ ?_
   refine fqK (s' := [kt 0 (.f (.func 152) [] [.p 1 0, .p 2 0]), kt 2 (.p 4 0), kt 3 (.p 5 0), kt 5 (.i 3), (.u 0 2, some (.x (.p 1 0))), (.u 0 3, some (.x (.p 2 0))), (.u 0 4, some (.x (.p 3 0))), (.u 0 5, some (.x (.f (.func 152) [] [.p 1 0, .p 2 0]))), kb 1 187 8, kb 2 187 8, kb 3 187 8, kb 4 187 8, kb 5 187 8, kc 1 0 (.i a0.A.Lo), kc 1 1 (.i a0.A.Hi), kc 1 2 (.i a0.B.Lo), kc 1 3 (.i a0.B.Hi), kc 1 4 (.i a0.C.Lo), kc 1 5 (.i a0.C.Hi), kc 1 6 (.i a0.D.Lo), kc 1 7 (.i a0.D.Hi), kc 2 0 (.i a1.A.Lo), kc 2 1 (.i a1.A.Hi), kc 2 2 (.i a1.B.Lo), kc 2 3 (.i a1.B.Hi), kc 2 4 (.i a1.C.Lo), kc 2 5 (.i a1.C.Hi), kc 2 6 (.i a1.D.Lo), kc 2 7 (.i a1.D.Hi), kc 3 0 (.i 0), kc 3 1 (.i 0), kc 3 2 (.i 0), kc 3 3 (.i 0), kc 3 4 (.i 0), kc 3 5 (.i 0), kc 3 6 (.i 0), kc 3 7 (.i 0), kc 4 0 (.i 0), kc 4 1 (.i 0), kc 4 2 (.i 0), kc 4 3 (.i 0), kc 4 4 (.i 0), kc 4 5 (.i 0), kc 4 6 (.i 0), kc 4 7 (.i 0), kc 5 0 (.i v2.1), kc 5 1 (.i v2.2), kc 5 2 (.i v3.1), kc 5 3 (.i v3.2), kc 5 4 (.i v4.1), kc 5 5 (.i v4.2), kc 5 6 (.i 0), kc 5 7 (.i 0)]) ?_ (kp rfl) rfl
   refine fin_round ?_
   refine aqS ?_
   refine aqT (rows := [_]) rfl (by kernel_rfl) ⟨
    okp rfl rfl (oqB (r := .bool true) (lN rfl) rfl rfl rfl),
    trivial⟩ ?_
   refine fqK (s' := [kt 0 (.f (.func 152) [] [.p 1 0, .p 2 0]), kt 2 (.p 4 0), kt 3 (.p 5 0), kt 5 (.i 3), kt 6 (.B true), (.u 0 2, some (.x (.p 1 0))), (.u 0 3, some (.x (.p 2 0))), (.u 0 4, some (.x (.p 3 0))), (.u 0 5, some (.x (.f (.func 152) [] [.p 1 0, .p 2 0]))), kb 1 187 8, kb 2 187 8, kb 3 187 8, kb 4 187 8, kb 5 187 8, kc 1 0 (.i a0.A.Lo), kc 1 1 (.i a0.A.Hi), kc 1 2 (.i a0.B.Lo), kc 1 3 (.i a0.B.Hi), kc 1 4 (.i a0.C.Lo), kc 1 5 (.i a0.C.Hi), kc 1 6 (.i a0.D.Lo), kc 1 7 (.i a0.D.Hi), kc 2 0 (.i a1.A.Lo), kc 2 1 (.i a1.A.Hi), kc 2 2 (.i a1.B.Lo), kc 2 3 (.i a1.B.Hi), kc 2 4 (.i a1.C.Lo), kc 2 5 (.i a1.C.Hi), kc 2 6 (.i a1.D.Lo), kc 2 7 (.i a1.D.Hi), kc 3 0 (.i 0), kc 3 1 (.i 0), kc 3 2 (.i 0), kc 3 3 (.i 0), kc 3 4 (.i 0), kc 3 5 (.i 0), kc 3 6 (.i 0), kc 3 7 (.i 0), kc 4 0 (.i 0), kc 4 1 (.i 0), kc 4 2 (.i 0), kc 4 3 (.i 0), kc 4 4 (.i 0), kc 4 5 (.i 0), kc 4 6 (.i 0), kc 4 7 (.i 0), kc 5 0 (.i v2.1), kc 5 1 (.i v2.2), kc 5 2 (.i v3.1), kc 5 3 (.i v3.2), kc 5 4 (.i v4.1), kc 5 5 (.i v4.2), kc 5 6 (.i 0), kc 5 7 (.i 0)]) ?_ (kp rfl) rfl
   refine fqT ?_
   refine aqS ?_
   refine aqc rfl (fun hz4 => ?_) (fun hz4 => by cases hz4)
   refine aqk ?_
   refine fqT ?_
   refine aqS ?_
   refine aw_block ?_
   refine aqS ?_
   refine aqT (rows := [_, _]) rfl (by kernel_rfl) ⟨
    okp rfl rfl (oqM (lN rfl) rfl),
    okp rfl rfl (oqA (lN rfl) rfl),
    trivial⟩ ?_
   refine fqK (s' := [kt 0 (.f (.func 152) [] [.p 1 0, .p 2 0]), kt 2 (.p 4 0), kt 3 (.p 5 0), kt 4 (.i 3), kt 5 (.i 3), (.u 0 2, some (.x (.p 1 0))), (.u 0 3, some (.x (.p 2 0))), (.u 0 4, some (.x (.p 3 0))), (.u 0 5, some (.x (.f (.func 152) [] [.p 1 0, .p 2 0]))), kb 1 187 8, kb 2 187 8, kb 3 187 8, kb 4 187 8, kb 5 187 8, kc 1 0 (.i a0.A.Lo), kc 1 1 (.i a0.A.Hi), kc 1 2 (.i a0.B.Lo), kc 1 3 (.i a0.B.Hi), kc 1 4 (.i a0.C.Lo), kc 1 5 (.i a0.C.Hi), kc 1 6 (.i a0.D.Lo), kc 1 7 (.i a0.D.Hi), kc 2 0 (.i a1.A.Lo), kc 2 1 (.i a1.A.Hi), kc 2 2 (.i a1.B.Lo), kc 2 3 (.i a1.B.Hi), kc 2 4 (.i a1.C.Lo), kc 2 5 (.i a1.C.Hi), kc 2 6 (.i a1.D.Lo), kc 2 7 (.i a1.D.Hi), kc 3 0 (.i 0), kc 3 1 (.i 0), kc 3 2 (.i 0), kc 3 3 (.i 0), kc 3 4 (.i 0), kc 3 5 (.i 0), kc 3 6 (.i 0), kc 3 7 (.i 0), kc 4 0 (.i 0), kc 4 1 (.i 0), kc 4 2 (.i 0), kc 4 3 (.i 0), kc 4 4 (.i 0), kc 4 5 (.i 0), kc 4 6 (.i 0), kc 4 7 (.i 0), kc 5 0 (.i v2.1), kc 5 1 (.i v2.2), kc 5 2 (.i v3.1), kc 5 3 (.i v3.2), kc 5 4 (.i v4.1), kc 5 5 (.i v4.2), kc 5 6 (.i 0), kc 5 7 (.i 0)]) ?_ (kp rfl) rfl
   refine fqT ?_
   obtain ⟨v5, hv5, hm⟩ := bnd_some hm
   refine aqT (rows := [_, _, _, _, _, _]) rfl (by kernel_rfl) ⟨
    okp rfl rfl (oqM (lN rfl) rfl),
    okp rfl rfl (oqM (lN rfl) rfl),
    okp rfl rfl (oqM (lN rfl) rfl),
    okp rfl rfl (oqN (fs := []) (caps := [.p 1 0, .p 2 0]) (xs := [.i 3]) (Nk := 24) (.g [.i v5.1, .i v5.2]) (tqS [(0, .f (.func 152) [] [.p 1 0, .p 2 0]), (2, .p 4 0), (3, .p 5 0), (4, .i 3), (5, .i 3), (8, .i 3), (9, .f (.func 152) [] [.p 1 0, .p 2 0]), (10, .i 3)] ++ ((([(.u 0 2, some (.x (.p 1 0))), (.u 0 3, some (.x (.p 2 0))), (.u 0 4, some (.x (.p 3 0))), (.u 0 5, some (.x (.f (.func 152) [] [.p 1 0, .p 2 0]))), kb 1 187 8, kb 2 187 8, kb 3 187 8, kb 4 187 8, kb 5 187 8, kc 1 0 (.i a0.A.Lo), kc 1 1 (.i a0.A.Hi), kc 1 2 (.i a0.B.Lo), kc 1 3 (.i a0.B.Hi), kc 1 4 (.i a0.C.Lo), kc 1 5 (.i a0.C.Hi), kc 1 6 (.i a0.D.Lo), kc 1 7 (.i a0.D.Hi), kc 2 0 (.i a1.A.Lo), kc 2 1 (.i a1.A.Hi), kc 2 2 (.i a1.B.Lo), kc 2 3 (.i a1.B.Hi), kc 2 4 (.i a1.C.Lo), kc 2 5 (.i a1.C.Hi), kc 2 6 (.i a1.D.Lo)] : St) ++ (([kc 2 7 (.i a1.D.Hi), kc 3 0 (.i 0), kc 3 1 (.i 0), kc 3 2 (.i 0), kc 3 3 (.i 0), kc 3 4 (.i 0), kc 3 5 (.i 0), kc 3 6 (.i 0), kc 3 7 (.i 0), kc 4 0 (.i 0), kc 4 1 (.i 0), kc 4 2 (.i 0), kc 4 3 (.i 0), kc 4 4 (.i 0), kc 4 5 (.i 0), kc 4 6 (.i 0), kc 4 7 (.i 0), kc 5 0 (.i v2.1), kc 5 1 (.i v2.2), kc 5 2 (.i v3.1), kc 5 3 (.i v3.2), kc 5 4 (.i v4.1), kc 5 5 (.i v4.2), kc 5 6 (.i 0)] : St) ++ (([kc 5 7 (.i 0)] : St)))) ++ dqS [])) 1 [(0, .f (.func 152) [] [.p 1 0, .p 2 0]), (2, .p 4 0), (3, .p 5 0), (4, .i 3), (5, .i 3), (8, .i 3), (9, .f (.func 152) [] [.p 1 0, .p 2 0]), (10, .i 3)] [(.u 0 2, some (.x (.p 1 0))), (.u 0 3, some (.x (.p 2 0))), (.u 0 4, some (.x (.p 3 0))), (.u 0 5, some (.x (.f (.func 152) [] [.p 1 0, .p 2 0]))), kb 1 187 8, kb 2 187 8, kb 3 187 8, kb 4 187 8, kb 5 187 8, kc 1 0 (.i a0.A.Lo), kc 1 1 (.i a0.A.Hi), kc 1 2 (.i a0.B.Lo), kc 1 3 (.i a0.B.Hi), kc 1 4 (.i a0.C.Lo), kc 1 5 (.i a0.C.Hi), kc 1 6 (.i a0.D.Lo), kc 1 7 (.i a0.D.Hi), kc 2 0 (.i a1.A.Lo), kc 2 1 (.i a1.A.Hi), kc 2 2 (.i a1.B.Lo), kc 2 3 (.i a1.B.Hi), kc 2 4 (.i a1.C.Lo), kc 2 5 (.i a1.C.Hi), kc 2 6 (.i a1.D.Lo), kc 2 7 (.i a1.D.Hi), kc 3 0 (.i 0), kc 3 1 (.i 0), kc 3 2 (.i 0), kc 3 3 (.i 0), kc 3 4 (.i 0), kc 3 5 (.i 0), kc 3 6 (.i 0), kc 3 7 (.i 0), kc 4 0 (.i 0), kc 4 1 (.i 0), kc 4 2 (.i 0), kc 4 3 (.i 0), kc 4 4 (.i 0), kc 4 5 (.i 0), kc 4 6 (.i 0), kc 4 7 (.i 0), kc 5 0 (.i v2.1), kc 5 1 (.i v2.2), kc 5 2 (.i v3.1), kc 5 3 (.i v3.2), kc 5 4 (.i v4.1), kc 5 5 (.i v4.2), kc 5 6 (.i 0), kc 5 7 (.i 0)] (lN rfl) en_152 Tryd.func152 rfl rfl (Nat.le_of_ble_eq_true rfl) rfl ⟨rfl, rfl, rfl⟩ (EvL.cons rfl EvL.nil) ⟨rfl, rfl, rfl, rfl, rfl, rfl, rfl, rfl, trivial⟩ ⟨rfl, rfl, rfl, rfl, rfl, rfl, rfl, rfl, rfl, rfl, rfl, rfl, rfl, rfl, rfl, rfl, rfl, rfl, rfl, rfl, rfl, rfl, rfl, rfl, rfl, rfl, rfl, rfl, rfl, rfl, rfl, rfl, rfl, rfl, rfl, rfl, rfl, rfl, rfl, rfl, rfl, rfl, rfl, rfl, rfl, rfl, rfl, rfl, rfl, trivial⟩ rfl rfl rfl (fun aIv5 hIv5 => ?_)),
    okp rfl rfl (op_ixA (lN rfl) rfl rfl ar_187 (by decide) (by decide)),
    okp rfl rfl (oqS sz_32 rfl rfl rfl rfl rfl (by decide)),
    trivial⟩ ?_
   ·have hm := hv5
    refine AW.keep (s' := [kt 0 (.i 3), kt 1 (.p 1 0), kt 2 (.p 2 0), (.u 0 2, some (.x (.p 1 0))), (.u 0 3, some (.x (.p 2 0))), (.u 0 4, some (.x (.p 3 0))), (.u 0 5, some (.x (.f (.func 152) [] [.p 1 0, .p 2 0]))), (.u 1 0, some (.x (.f (.func 152) [] [.p 1 0, .p 2 0]))), (.u 1 2, some (.x (.p 4 0))), (.u 1 3, some (.x (.p 5 0))), (.u 1 4, some (.x (.i 3))), (.u 1 5, some (.x (.i 3))), (.u 1 8, some (.x (.i 3))), (.u 1 9, some (.x (.f (.func 152) [] [.p 1 0, .p 2 0]))), (.u 1 10, some (.x (.i 3))), kb 1 187 8, kb 2 187 8, kb 3 187 8, kb 4 187 8, kb 5 187 8, kc 1 0 (.i a0.A.Lo), kc 1 1 (.i a0.A.Hi), kc 1 2 (.i a0.B.Lo), kc 1 3 (.i a0.B.Hi), kc 1 4 (.i a0.C.Lo), kc 1 5 (.i a0.C.Hi), kc 1 6 (.i a0.D.Lo), kc 1 7 (.i a0.D.Hi), kc 2 0 (.i a1.A.Lo), kc 2 1 (.i a1.A.Hi), kc 2 2 (.i a1.B.Lo), kc 2 3 (.i a1.B.Hi), kc 2 4 (.i a1.C.Lo), kc 2 5 (.i a1.C.Hi), kc 2 6 (.i a1.D.Lo), kc 2 7 (.i a1.D.Hi), kc 3 0 (.i 0), kc 3 1 (.i 0), kc 3 2 (.i 0), kc 3 3 (.i 0), kc 3 4 (.i 0), kc 3 5 (.i 0), kc 3 6 (.i 0), kc 3 7 (.i 0), kc 4 0 (.i 0), kc 4 1 (.i 0), kc 4 2 (.i 0), kc 4 3 (.i 0), kc 4 4 (.i 0), kc 4 5 (.i 0), kc 4 6 (.i 0), kc 4 7 (.i 0), kc 5 0 (.i v2.1), kc 5 1 (.i v2.2), kc 5 2 (.i v3.1), kc 5 3 (.i v3.2), kc 5 4 (.i v4.1), kc 5 5 (.i v4.2), kc 5 6 (.i 0), kc 5 7 (.i 0)]) ?_ (kp rfl) rfl
    refine aqS ?_
    refine aqT (rows := [_]) rfl (by kernel_rfl) ⟨
     okp rfl rfl (oqa (L := 9) (lN rfl) zl_32),
     trivial⟩ ?_
    refine fqK (s' := [kt 0 (.i 3), kt 1 (.p 1 0), kt 2 (.p 2 0), kt 4 (.p 9 0), (.u 0 2, some (.x (.p 1 0))), (.u 0 3, some (.x (.p 2 0))), (.u 0 4, some (.x (.p 3 0))), (.u 0 5, some (.x (.f (.func 152) [] [.p 1 0, .p 2 0]))), (.u 1 0, some (.x (.f (.func 152) [] [.p 1 0, .p 2 0]))), (.u 1 2, some (.x (.p 4 0))), (.u 1 3, some (.x (.p 5 0))), (.u 1 4, some (.x (.i 3))), (.u 1 5, some (.x (.i 3))), (.u 1 8, some (.x (.i 3))), (.u 1 9, some (.x (.f (.func 152) [] [.p 1 0, .p 2 0]))), (.u 1 10, some (.x (.i 3))), kb 1 187 8, kb 2 187 8, kb 3 187 8, kb 4 187 8, kb 5 187 8, kb 9 32 2, kc 1 0 (.i a0.A.Lo), kc 1 1 (.i a0.A.Hi), kc 1 2 (.i a0.B.Lo), kc 1 3 (.i a0.B.Hi), kc 1 4 (.i a0.C.Lo), kc 1 5 (.i a0.C.Hi), kc 1 6 (.i a0.D.Lo), kc 1 7 (.i a0.D.Hi), kc 2 0 (.i a1.A.Lo), kc 2 1 (.i a1.A.Hi), kc 2 2 (.i a1.B.Lo), kc 2 3 (.i a1.B.Hi), kc 2 4 (.i a1.C.Lo), kc 2 5 (.i a1.C.Hi), kc 2 6 (.i a1.D.Lo), kc 2 7 (.i a1.D.Hi), kc 3 0 (.i 0), kc 3 1 (.i 0), kc 3 2 (.i 0), kc 3 3 (.i 0), kc 3 4 (.i 0), kc 3 5 (.i 0), kc 3 6 (.i 0), kc 3 7 (.i 0), kc 4 0 (.i 0), kc 4 1 (.i 0), kc 4 2 (.i 0), kc 4 3 (.i 0), kc 4 4 (.i 0), kc 4 5 (.i 0), kc 4 6 (.i 0), kc 4 7 (.i 0), kc 5 0 (.i v2.1), kc 5 1 (.i v2.2), kc 5 2 (.i v3.1), kc 5 3 (.i v3.2), kc 5 4 (.i v4.1), kc 5 5 (.i v4.2), kc 5 6 (.i 0), kc 5 7 (.i 0), kc 9 0 (.i 0), kc 9 1 (.i 0)]) ?_ (kp rfl) rfl
    refine fqT ?_
    refine aqS ?_
    refine aw_any (rows := [_, _, _, _, _, _, _, _, _, _, _, _, _, _, _, _, _, _, _, _]) (M := [0, 1, 3, 7, 0, 16, 48, 112, 255, 0, 512, 1536, 3584, 0, 8192, 24576, 57344, 130560, 262143, 524287]) Tryd_mixed (by kernel_rfl) rfl (by kernel_rfl) ⟨
     okp rfl rfl (oqM (lN rfl) rfl),
     okp rfl rfl (op_ixA (lN rfl) rfl rfl ar_187 (by decide) (by decide)),
     okp rfl rfl (oqF (lN rfl) rfl fo_32_0),
     okp rfl rfl (oq1 (lN rfl) sh_3 rfl rfl),
     okp rfl rfl (oqM (lN rfl) rfl),
     okp rfl rfl (op_ixA (lN rfl) rfl rfl ar_187 (by decide) (by decide)),
     okp rfl rfl (oqF (lN rfl) rfl fo_32_0),
     okp rfl rfl (oq1 (lN rfl) sh_3 rfl rfl),
     okp rfl rfl (op_min (lN rfl) rfl rfl),
     okp rfl rfl (oqM (lN rfl) rfl),
     okp rfl rfl (op_ixA (lN rfl) rfl rfl ar_187 (by decide) (by decide)),
     okp rfl rfl (oqF (lN rfl) rfl fo_32_1),
     okp rfl rfl (oq1 (lN rfl) sh_3 rfl rfl),
     okp rfl rfl (oqM (lN rfl) rfl),
     okp rfl rfl (op_ixA (lN rfl) rfl rfl ar_187 (by decide) (by decide)),
     okp rfl rfl (oqF (lN rfl) rfl fo_32_1),
     okp rfl rfl (oq1 (lN rfl) sh_3 rfl rfl),
     okp rfl rfl (op_max (lN rfl) rfl rfl),
     okp rfl rfl (op_build (x := .g [.i (if a1.D.Lo < a0.D.Lo then a1.D.Lo else a0.D.Lo), .i (if a1.D.Hi > a0.D.Hi then a1.D.Hi else a0.D.Hi)]) (lN rfl) (EvL.cons rfl (EvL.cons rfl EvL.nil)) (fun m w => by kernel_rfl)),
     okp rfl rfl (oqS sz_32 rfl rfl rfl rfl rfl (by decide)),
     trivial⟩ ?_
    refine fqK (s' := [kt 4 (.p 9 0), (.u 0 2, some (.x (.p 1 0))), (.u 0 3, some (.x (.p 2 0))), (.u 0 4, some (.x (.p 3 0))), (.u 0 5, some (.x (.f (.func 152) [] [.p 1 0, .p 2 0]))), (.u 1 0, some (.x (.f (.func 152) [] [.p 1 0, .p 2 0]))), (.u 1 2, some (.x (.p 4 0))), (.u 1 3, some (.x (.p 5 0))), (.u 1 4, some (.x (.i 3))), (.u 1 5, some (.x (.i 3))), (.u 1 8, some (.x (.i 3))), (.u 1 9, some (.x (.f (.func 152) [] [.p 1 0, .p 2 0]))), (.u 1 10, some (.x (.i 3))), kb 1 187 8, kb 2 187 8, kb 3 187 8, kb 4 187 8, kb 5 187 8, kb 9 32 2, kc 1 0 (.i a0.A.Lo), kc 1 1 (.i a0.A.Hi), kc 1 2 (.i a0.B.Lo), kc 1 3 (.i a0.B.Hi), kc 1 4 (.i a0.C.Lo), kc 1 5 (.i a0.C.Hi), kc 1 6 (.i a0.D.Lo), kc 1 7 (.i a0.D.Hi), kc 2 0 (.i a1.A.Lo), kc 2 1 (.i a1.A.Hi), kc 2 2 (.i a1.B.Lo), kc 2 3 (.i a1.B.Hi), kc 2 4 (.i a1.C.Lo), kc 2 5 (.i a1.C.Hi), kc 2 6 (.i a1.D.Lo), kc 2 7 (.i a1.D.Hi), kc 3 0 (.i 0), kc 3 1 (.i 0), kc 3 2 (.i 0), kc 3 3 (.i 0), kc 3 4 (.i 0), kc 3 5 (.i 0), kc 3 6 (.i 0), kc 3 7 (.i 0), kc 4 0 (.i 0), kc 4 1 (.i 0), kc 4 2 (.i 0), kc 4 3 (.i 0), kc 4 4 (.i 0), kc 4 5 (.i 0), kc 4 6 (.i 0), kc 4 7 (.i 0), kc 5 0 (.i v2.1), kc 5 1 (.i v2.2), kc 5 2 (.i v3.1), kc 5 3 (.i v3.2), kc 5 4 (.i v4.1), kc 5 5 (.i v4.2), kc 5 6 (.i 0), kc 5 7 (.i 0), kc 9 0 (.i (if a1.D.Lo < a0.D.Lo then a1.D.Lo else a0.D.Lo)), kc 9 1 (.i (if a1.D.Hi > a0.D.Hi then a1.D.Hi else a0.D.Hi))]) ?_ (kp rfl) rfl
    refine fqT ?_
    refine aqr ?_
    have hm := Option.some.inj hm
    subst hm
    exact fin_callEnd _ _ _ (.inl rfl) rfl rfl (rqC (ys := [.i (if a1.D.Lo < a0.D.Lo then a1.D.Lo else a0.D.Lo), .i (if a1.D.Hi > a0.D.Hi then a1.D.Hi else a0.D.Hi)]) rfl sh_32 rfl ⟨rfl, rfl, trivial⟩ rqN) rfl hIv5 ⟨rfl, rfl, rfl, rfl, rfl, rfl, rfl, rfl, trivial⟩ ⟨rfl, rfl, rfl, rfl, rfl, rfl, rfl, rfl, rfl, rfl, rfl, rfl, rfl, rfl, rfl, rfl, rfl, rfl, rfl, rfl, rfl, rfl, rfl, rfl, rfl, rfl, rfl, rfl, rfl, rfl, rfl, rfl, rfl, rfl, rfl, rfl, rfl, rfl, rfl, rfl, rfl, rfl, rfl, rfl, rfl, rfl, rfl, rfl, rfl, trivial⟩ rfl rfl
   refine fqK (s' := [kt 0 (.f (.func 152) [] [.p 1 0, .p 2 0]), kt 2 (.p 4 0), kt 3 (.p 5 0), kt 5 (.i 3), (.u 0 2, some (.x (.p 1 0))), (.u 0 3, some (.x (.p 2 0))), (.u 0 4, some (.x (.p 3 0))), (.u 0 5, some (.x (.f (.func 152) [] [.p 1 0, .p 2 0]))), kb 1 187 8, kb 2 187 8, kb 3 187 8, kb 4 187 8, kb 5 187 8, kc 1 0 (.i a0.A.Lo), kc 1 1 (.i a0.A.Hi), kc 1 2 (.i a0.B.Lo), kc 1 3 (.i a0.B.Hi), kc 1 4 (.i a0.C.Lo), kc 1 5 (.i a0.C.Hi), kc 1 6 (.i a0.D.Lo), kc 1 7 (.i a0.D.Hi), kc 2 0 (.i a1.A.Lo), kc 2 1 (.i a1.A.Hi), kc 2 2 (.i a1.B.Lo), kc 2 3 (.i a1.B.Hi), kc 2 4 (.i a1.C.Lo), kc 2 5 (.i a1.C.Hi), kc 2 6 (.i a1.D.Lo), kc 2 7 (.i a1.D.Hi), kc 3 0 (.i 0), kc 3 1 (.i 0), kc 3 2 (.i 0), kc 3 3 (.i 0), kc 3 4 (.i 0), kc 3 5 (.i 0), kc 3 6 (.i 0), kc 3 7 (.i 0), kc 4 0 (.i 0), kc 4 1 (.i 0), kc 4 2 (.i 0), kc 4 3 (.i 0), kc 4 4 (.i 0), kc 4 5 (.i 0), kc 4 6 (.i 0), kc 4 7 (.i 0), kc 5 0 (.i v2.1), kc 5 1 (.i v2.2), kc 5 2 (.i v3.1), kc 5 3 (.i v3.2), kc 5 4 (.i v4.1), kc 5 5 (.i v4.2), kc 5 6 (.i v5.1), kc 5 7 (.i v5.2)]) ?_ (kp rfl) rfl
   refine fqB ?_
   refine fqT ?_
   refine aqT (rows := [_, _]) rfl (by kernel_rfl) ⟨
    okp rfl rfl (oqB (r := .int .i64 4) (lN rfl) rfl rfl rfl),
    okp rfl rfl (oqM (lN rfl) rfl),
    trivial⟩ ?_
   refine fqK (s' := [kt 0 (.f (.func 152) [] [.p 1 0, .p 2 0]), kt 2 (.p 4 0), kt 3 (.p 5 0), kt 5 (.i 4), (.u 0 2, some (.x (.p 1 0))), (.u 0 3, some (.x (.p 2 0))), (.u 0 4, some (.x (.p 3 0))), (.u 0 5, some (.x (.f (.func 152) [] [.p 1 0, .p 2 0]))), kb 1 187 8, kb 2 187 8, kb 3 187 8, kb 4 187 8, kb 5 187 8, kc 1 0 (.i a0.A.Lo), kc 1 1 (.i a0.A.Hi), kc 1 2 (.i a0.B.Lo), kc 1 3 (.i a0.B.Hi), kc 1 4 (.i a0.C.Lo), kc 1 5 (.i a0.C.Hi), kc 1 6 (.i a0.D.Lo), kc 1 7 (.i a0.D.Hi), kc 2 0 (.i a1.A.Lo), kc 2 1 (.i a1.A.Hi), kc 2 2 (.i a1.B.Lo), kc 2 3 (.i a1.B.Hi), kc 2 4 (.i a1.C.Lo), kc 2 5 (.i a1.C.Hi), kc 2 6 (.i a1.D.Lo), kc 2 7 (.i a1.D.Hi), kc 3 0 (.i 0), kc 3 1 (.i 0), kc 3 2 (.i 0), kc 3 3 (.i 0), kc 3 4 (.i 0), kc 3 5 (.i 0), kc 3 6 (.i 0), kc 3 7 (.i 0), kc 4 0 (.i 0), kc 4 1 (.i 0), kc 4 2 (.i 0), kc 4 3 (.i 0), kc 4 4 (.i 0), kc 4 5 (.i 0), kc 4 6 (.i 0), kc 4 7 (.i 0), kc 5 0 (.i v2.1), kc 5 1 (.i v2.2), kc 5 2 (.i v3.1), kc 5 3 (.i v3.2), kc 5 4 (.i v4.1), kc 5 5 (.i v4.2), kc 5 6 (.i v5.1), kc 5 7 (.i v5.2)]) ?_ (kp rfl) rfl
   refine fin_round ?_
   refine aqS ?_
   refine aqT (rows := [_]) rfl (by kernel_rfl) ⟨
    okp rfl rfl (oqB (r := .bool false) (lN rfl) rfl rfl rfl),
    trivial⟩ ?_
   refine fqK (s' := [kt 0 (.f (.func 152) [] [.p 1 0, .p 2 0]), kt 2 (.p 4 0), kt 3 (.p 5 0), kt 5 (.i 4), kt 6 (.B false), (.u 0 2, some (.x (.p 1 0))), (.u 0 3, some (.x (.p 2 0))), (.u 0 4, some (.x (.p 3 0))), (.u 0 5, some (.x (.f (.func 152) [] [.p 1 0, .p 2 0]))), kb 1 187 8, kb 2 187 8, kb 3 187 8, kb 4 187 8, kb 5 187 8, kc 1 0 (.i a0.A.Lo), kc 1 1 (.i a0.A.Hi), kc 1 2 (.i a0.B.Lo), kc 1 3 (.i a0.B.Hi), kc 1 4 (.i a0.C.Lo), kc 1 5 (.i a0.C.Hi), kc 1 6 (.i a0.D.Lo), kc 1 7 (.i a0.D.Hi), kc 2 0 (.i a1.A.Lo), kc 2 1 (.i a1.A.Hi), kc 2 2 (.i a1.B.Lo), kc 2 3 (.i a1.B.Hi), kc 2 4 (.i a1.C.Lo), kc 2 5 (.i a1.C.Hi), kc 2 6 (.i a1.D.Lo), kc 2 7 (.i a1.D.Hi), kc 3 0 (.i 0), kc 3 1 (.i 0), kc 3 2 (.i 0), kc 3 3 (.i 0), kc 3 4 (.i 0), kc 3 5 (.i 0), kc 3 6 (.i 0), kc 3 7 (.i 0), kc 4 0 (.i 0), kc 4 1 (.i 0), kc 4 2 (.i 0), kc 4 3 (.i 0), kc 4 4 (.i 0), kc 4 5 (.i 0), kc 4 6 (.i 0), kc 4 7 (.i 0), kc 5 0 (.i v2.1), kc 5 1 (.i v2.2), kc 5 2 (.i v3.1), kc 5 3 (.i v3.2), kc 5 4 (.i v4.1), kc 5 5 (.i v4.2), kc 5 6 (.i v5.1), kc 5 7 (.i v5.2)]) ?_ (kp rfl) rfl
   refine fqT ?_
   refine aqS ?_
   refine aqc rfl (fun hz5 => by cases hz5) (fun hz5 => ?_)
   refine aw_exit ?_
   refine fqE ?_
   refine fqE ?_
   refine fin_block_exit ?_
   exact fqc (v2.1, v2.2, v3.1, v3.2, v4.1, v4.2, v5.1, v5.2) hm ⟨rfl, rfl, rfl, rfl, rfl, rfl, rfl, rfl, rfl, rfl, rfl, rfl, rfl, rfl, rfl, rfl, rfl, rfl, rfl, rfl, rfl, rfl, rfl, rfl, rfl, rfl, rfl, rfl, rfl, rfl, rfl, rfl, rfl, rfl, rfl, rfl, rfl, rfl, rfl, rfl, rfl, rfl, rfl, rfl, rfl, rfl, rfl, rfl, rfl, rfl, rfl, trivial⟩ rfl
  ·have _z := hm
   refine aqS ?_
   refine aqT (rows := [_, _]) rfl (by kernel_rfl) ⟨
    okp rfl rfl (oqL (ys := [.i x1.1, .i x1.2.1, .i x1.2.2.1, .i x1.2.2.2.1, .i x1.2.2.2.2.1, .i x1.2.2.2.2.2.1, .i x1.2.2.2.2.2.2.1, .i x1.2.2.2.2.2.2.2]) (lN rfl) sh_187 rfl rfl ⟨rfl, rfl, rfl, rfl, rfl, rfl, rfl, rfl, trivial⟩),
    okp rfl rfl (oqS sz_187 rfl rfl rfl rfl rfl (by decide)),
    trivial⟩ ?_
   refine fqK (s' := [kt 2 (.p 4 0), (.u 0 2, some (.x (.p 1 0))), (.u 0 3, some (.x (.p 2 0))), (.u 0 4, some (.x (.p 3 0))), (.u 0 5, some (.x (.f (.func 152) [] [.p 1 0, .p 2 0]))), kb 1 187 8, kb 2 187 8, kb 3 187 8, kb 4 187 8, kc 1 0 (.i a0.A.Lo), kc 1 1 (.i a0.A.Hi), kc 1 2 (.i a0.B.Lo), kc 1 3 (.i a0.B.Hi), kc 1 4 (.i a0.C.Lo), kc 1 5 (.i a0.C.Hi), kc 1 6 (.i a0.D.Lo), kc 1 7 (.i a0.D.Hi), kc 2 0 (.i a1.A.Lo), kc 2 1 (.i a1.A.Hi), kc 2 2 (.i a1.B.Lo), kc 2 3 (.i a1.B.Hi), kc 2 4 (.i a1.C.Lo), kc 2 5 (.i a1.C.Hi), kc 2 6 (.i a1.D.Lo), kc 2 7 (.i a1.D.Hi), kc 3 0 (.i 0), kc 3 1 (.i 0), kc 3 2 (.i 0), kc 3 3 (.i 0), kc 3 4 (.i 0), kc 3 5 (.i 0), kc 3 6 (.i 0), kc 3 7 (.i 0), kc 4 0 (.i x1.1), kc 4 1 (.i x1.2.1), kc 4 2 (.i x1.2.2.1), kc 4 3 (.i x1.2.2.2.1), kc 4 4 (.i x1.2.2.2.2.1), kc 4 5 (.i x1.2.2.2.2.2.1), kc 4 6 (.i x1.2.2.2.2.2.2.1), kc 4 7 (.i x1.2.2.2.2.2.2.2)]) ?_ (kp rfl) rfl
   refine fqT ?_
   refine aqr ?_
   have hm := Option.some.inj hm
   subst hm
   exact fin_callEnd _ _ _ (.inl rfl) rfl rfl (rqC (ys := [.i x1.1, .i x1.2.1, .i x1.2.2.1, .i x1.2.2.2.1, .i x1.2.2.2.2.1, .i x1.2.2.2.2.2.1, .i x1.2.2.2.2.2.2.1, .i x1.2.2.2.2.2.2.2]) rfl sh_187 rfl ⟨rfl, rfl, rfl, rfl, rfl, rfl, rfl, rfl, trivial⟩ rqN) rfl hIv1 ⟨rfl, rfl, rfl, rfl, trivial⟩ ⟨rfl, rfl, rfl, rfl, rfl, rfl, rfl, rfl, rfl, rfl, rfl, rfl, rfl, rfl, rfl, rfl, rfl, rfl, rfl, rfl, rfl, rfl, rfl, rfl, rfl, rfl, rfl, trivial⟩ rfl rfl
 refine fqK (s' := [kt 4 (.p 3 0), kb 3 187 8, kc 3 0 (.i v1.1), kc 3 1 (.i v1.2.1), kc 3 2 (.i v1.2.2.1), kc 3 3 (.i v1.2.2.2.1), kc 3 4 (.i v1.2.2.2.2.1), kc 3 5 (.i v1.2.2.2.2.2.1), kc 3 6 (.i v1.2.2.2.2.2.2.1), kc 3 7 (.i v1.2.2.2.2.2.2.2)]) ?_ (kp rfl) rfl
 refine fqT ?_
 refine aqr ?_
 refine pqr (x := .g [.i v1.1, .i v1.2.1, .i v1.2.2.1, .i v1.2.2.2.1, .i v1.2.2.2.2.1, .i v1.2.2.2.2.2.1, .i v1.2.2.2.2.2.2.1, .i v1.2.2.2.2.2.2.2]) rfl rfl (rqC (ys := [.i v1.1, .i v1.2.1, .i v1.2.2.1, .i v1.2.2.2.1, .i v1.2.2.2.2.1, .i v1.2.2.2.2.2.1, .i v1.2.2.2.2.2.2.1, .i v1.2.2.2.2.2.2.2]) rfl sh_187 rfl ⟨rfl, rfl, rfl, rfl, rfl, rfl, rfl, rfl, trivial⟩ rqN) rfl (fun mm aa ww hr => ?_)
 have hm := Option.some.inj hm
 subst hm
 exact ⟨rfl, hr.below⟩
end Go.Proofs.T
namespace Go.Proofs.T
open Go Go.AX Go.RowKit Hull
theorem fo_122_0 : fieldOff Tryd.prog 122 0 = some 0 := by kernel_rfl
theorem fo_122_1 : fieldOff Tryd.prog 122 1 = some 4 := by kernel_rfl
theorem en_147 : Proofs.Enters Tryd.prog 147 := Proofs.enters_of Tryd.func147 (by kernel_rfl) rfl
def m123 (_F : Nat) (a0 : Rates) : Option (Int) :=
 bnd (join (fun (_ : Unit) => some true) (fun k1 => bnd (some ((inI a0.Up.Conc 0 1000) && (inI a0.Down.Conc 0 1000))) (fun v2 => brk (!v2) (some false) (bnd (some ((inI a0.Up.Thick 0 1000) && (inI a0.Down.Thick 0 1000))) (fun v3 => brk (!v3) (some false) (bnd (some ((inI a0.Up.Ridge 0 1000) && (inI a0.Down.Ridge 0 1000))) (fun v4 => brk (!v4) (some false) (bnd (some ((inI a0.Up.Press 0 1000) && (inI a0.Down.Press 0 1000))) (fun v5 => brk (!v5) (some false) (k1 ())))))))))) (fun v1 => brk (!v1) (some 6) (some 0))
set_option maxHeartbeats 4000000 in
set_option maxRecDepth 8000 in
theorem c123 (F : Nat) (a0 : Rates) (w : World)  (r : Int) (hm : m123 F a0 = some r) : Calls Tryd.prog 123 #[.agg #[.int .i64 a0.Up.Conc, .int .i64 a0.Up.Thick, .int .i64 a0.Up.Ridge, .int .i64 a0.Up.Press, .int .i64 a0.Down.Conc, .int .i64 a0.Down.Thick, .int .i64 a0.Down.Ridge, .int .i64 a0.Down.Press]] w fun e w' => e = .returned (.int .i64 r) ∧ Below w.heap.size w w' := by
 unfold m123 at hm
 refine enter (args := [.g [.i a0.Up.Conc, .i a0.Up.Thick, .i a0.Up.Ridge, .i a0.Up.Press, .i a0.Down.Conc, .i a0.Down.Thick, .i a0.Down.Ridge, .i a0.Down.Press]]) Tryd.func123 rfl (N := 14) rfl (Nat.le_of_ble_eq_true rfl) ?_
 refine aqS ?_
 refine aqT (rows := [_, _]) rfl (by kernel_rfl) ⟨
  okp rfl rfl (op_boxN (L := 1) (lN rfl) rfl rfl rfl),
  okp rfl rfl (oqA (lN rfl) rfl),
  trivial⟩ ?_
 refine fqK (s' := [kt 1 (.p 1 0), kb 1 122 8, kc 1 0 (.i a0.Up.Conc), kc 1 1 (.i a0.Up.Thick), kc 1 2 (.i a0.Up.Ridge), kc 1 3 (.i a0.Up.Press), kc 1 4 (.i a0.Down.Conc), kc 1 5 (.i a0.Down.Thick), kc 1 6 (.i a0.Down.Ridge), kc 1 7 (.i a0.Down.Press)]) ?_ (kp rfl) rfl
 refine fqT ?_
 refine aqS ?_
 refine aw_any (rows := [_, _, _, _, _, _, _, _, _, _]) (M := [0, 1, 3, 0, 8, 31, 0, 0, 255, 511]) Tryd_mixed (by kernel_rfl) rfl (by kernel_rfl) ⟨
  okp rfl rfl (oqF (lN rfl) rfl fo_122_0),
  okp rfl rfl (oqL (ys := [.i a0.Up.Conc, .i a0.Up.Thick, .i a0.Up.Ridge, .i a0.Up.Press]) (lN rfl) sh_28 rfl rfl ⟨rfl, rfl, rfl, rfl, trivial⟩),
  okp rfl rfl (oqC (x := .g [.i a0.Up.Conc, .i a0.Up.Thick, .i a0.Up.Ridge, .i a0.Up.Press]) (fs := []) (caps := []) (extra := []) (lN rfl) en_146 rfl ⟨rfl, rfl, rfl⟩ (EvL.cons rfl EvL.nil) (fun mm aa ww gg hr hrel => (c146 a0.Up ww))),
  okp rfl rfl (oqF (lN rfl) rfl fo_122_1),
  okp rfl rfl (oqL (ys := [.i a0.Down.Conc, .i a0.Down.Thick, .i a0.Down.Ridge, .i a0.Down.Press]) (lN rfl) sh_28 rfl rfl ⟨rfl, rfl, rfl, rfl, trivial⟩),
  okp rfl rfl (oqC (x := .g [.i a0.Down.Conc, .i a0.Down.Thick, .i a0.Down.Ridge, .i a0.Down.Press]) (fs := []) (caps := []) (extra := []) (lN rfl) en_146 rfl ⟨rfl, rfl, rfl⟩ (EvL.cons rfl EvL.nil) (fun mm aa ww gg hr hrel => (c146 a0.Down ww))),
  okp rfl rfl (oqa (L := 2) (lN rfl) zl_206),
  okp rfl rfl (oqa (L := 3) (lN rfl) zl_206),
  okp rfl rfl (oqS sz_206 rfl rfl rfl rfl rfl (by decide)),
  okp rfl rfl (oqS sz_206 rfl rfl rfl rfl rfl (by decide)),
  trivial⟩ ?_
 refine fqK (s' := [kt 3 (.p 2 0), kt 4 (.p 3 0), kb 2 206 4, kb 3 206 4, kc 2 0 (.i a0.Up.Conc), kc 2 1 (.i a0.Up.Thick), kc 2 2 (.i a0.Up.Ridge), kc 2 3 (.i a0.Up.Press), kc 3 0 (.i a0.Down.Conc), kc 3 1 (.i a0.Down.Thick), kc 3 2 (.i a0.Down.Ridge), kc 3 3 (.i a0.Down.Press)]) ?_ (kp rfl) rfl
 refine fqT ?_
 refine aqS ?_
 refine aqS ?_
 obtain ⟨v1, hv1, hm⟩ := bnd_some hm
 refine aqT (rows := [_, _, _]) rfl (by kernel_rfl) ⟨
  okp rfl rfl (op_mkfn (lN rfl) EvL.nil (EvL.cons rfl (EvL.cons rfl EvL.nil))),
  okp rfl rfl (oqN (fs := []) (caps := []) (xs := [.f (.func 147) [] [.p 2 0, .p 3 0]]) (Nk := 13) (.B v1) (tqS [(3, .p 2 0), (4, .p 3 0), (11, .f (.func 147) [] [.p 2 0, .p 3 0])] ++ ((([kb 2 206 4, kb 3 206 4, kc 2 0 (.i a0.Up.Conc), kc 2 1 (.i a0.Up.Thick), kc 2 2 (.i a0.Up.Ridge), kc 2 3 (.i a0.Up.Press), kc 3 0 (.i a0.Down.Conc), kc 3 1 (.i a0.Down.Thick), kc 3 2 (.i a0.Down.Ridge), kc 3 3 (.i a0.Down.Press)] : St)) ++ dqS [])) 0 [(3, .p 2 0), (4, .p 3 0), (11, .f (.func 147) [] [.p 2 0, .p 3 0])] [kb 2 206 4, kb 3 206 4, kc 2 0 (.i a0.Up.Conc), kc 2 1 (.i a0.Up.Thick), kc 2 2 (.i a0.Up.Ridge), kc 2 3 (.i a0.Up.Press), kc 3 0 (.i a0.Down.Conc), kc 3 1 (.i a0.Down.Thick), kc 3 2 (.i a0.Down.Ridge), kc 3 3 (.i a0.Down.Press)] (lN rfl) en_133 Tryd.func133 rfl rfl (Nat.le_of_ble_eq_true rfl) rfl ⟨rfl, rfl, rfl⟩ (EvL.cons rfl EvL.nil) ⟨rfl, rfl, rfl, trivial⟩ ⟨rfl, rfl, rfl, rfl, rfl, rfl, rfl, rfl, rfl, rfl, trivial⟩ rfl rfl rfl (fun aIv1 hIv1 => ?_)),
  okp rfl rfl (oqn (lN rfl) rfl),
  trivial⟩ ?_
 ·have hm := hv1
  refine AW.keep (s' := [kt 0 (.f (.func 147) [] [.p 2 0, .p 3 0]), (.u 0 3, some (.x (.p 2 0))), (.u 0 4, some (.x (.p 3 0))), (.u 0 11, some (.x (.f (.func 147) [] [.p 2 0, .p 3 0]))), kb 2 206 4, kb 3 206 4, kc 2 0 (.i a0.Up.Conc), kc 2 1 (.i a0.Up.Thick), kc 2 2 (.i a0.Up.Ridge), kc 2 3 (.i a0.Up.Press), kc 3 0 (.i a0.Down.Conc), kc 3 1 (.i a0.Down.Thick), kc 3 2 (.i a0.Down.Ridge), kc 3 3 (.i a0.Down.Press)]) ?_ (kp rfl) rfl
  refine aqS ?_
  refine aqT (rows := [_]) rfl (by kernel_rfl) ⟨
   okp rfl rfl (oqA (lN rfl) rfl),
   trivial⟩ ?_
  refine fqK (s' := [kt 0 (.f (.func 147) [] [.p 2 0, .p 3 0]), (.u 0 3, some (.x (.p 2 0))), (.u 0 4, some (.x (.p 3 0))), (.u 0 11, some (.x (.f (.func 147) [] [.p 2 0, .p 3 0]))), kb 2 206 4, kb 3 206 4, kc 2 0 (.i a0.Up.Conc), kc 2 1 (.i a0.Up.Thick), kc 2 2 (.i a0.Up.Ridge), kc 2 3 (.i a0.Up.Press), kc 3 0 (.i a0.Down.Conc), kc 3 1 (.i a0.Down.Thick), kc 3 2 (.i a0.Down.Ridge), kc 3 3 (.i a0.Down.Press)]) ?_ (kp rfl) rfl
  refine fqT ?_
  refine aw_cutM (ι := Unit) hm (fun x1 => [(.u 0 3, some (.x (.p 2 0))), (.u 0 4, some (.x (.p 3 0))), (.u 0 11, some (.x (.f (.func 147) [] [.p 2 0, .p 3 0]))), kb 2 206 4, kb 3 206 4, kc 2 0 (.i a0.Up.Conc), kc 2 1 (.i a0.Up.Thick), kc 2 2 (.i a0.Up.Ridge), kc 2 3 (.i a0.Up.Press), kc 3 0 (.i a0.Down.Conc), kc 3 1 (.i a0.Down.Thick), kc 3 2 (.i a0.Down.Ridge), kc 3 3 (.i a0.Down.Press)]) (fun hm => ?_) (fun x1 hm => ?_)
  ·have _z := hm
   refine aqS ?_
   refine aqT (rows := [_, _]) rfl (by kernel_rfl) ⟨
    okp rfl rfl (oqC (x := .g [.i 100, .i 400, .i 100, .i 3]) (fs := []) (caps := []) (extra := []) (lN rfl) en_151 rfl ⟨rfl, rfl, rfl⟩ EvL.nil (fun mm aa ww gg hr hrel => (c151 ww))),
    okp rfl rfl (oqM (lN rfl) rfl),
    trivial⟩ ?_
   refine fqK (s' := [kt 0 (.f (.func 147) [] [.p 2 0, .p 3 0]), kt 5 (.i 0), (.u 0 3, some (.x (.p 2 0))), (.u 0 4, some (.x (.p 3 0))), (.u 0 11, some (.x (.f (.func 147) [] [.p 2 0, .p 3 0]))), kb 2 206 4, kb 3 206 4, kc 2 0 (.i a0.Up.Conc), kc 2 1 (.i a0.Up.Thick), kc 2 2 (.i a0.Up.Ridge), kc 2 3 (.i a0.Up.Press), kc 3 0 (.i a0.Down.Conc), kc 3 1 (.i a0.Down.Thick), kc 3 2 (.i a0.Down.Ridge), kc 3 3 (.i a0.Down.Press)]) ?_ (kp rfl) rfl
   refine fqT ?_
   refine aw_block ?_
   refine aw_rounds 4 ?_
   refine aqS ?_
   refine aqT (rows := [_]) rfl (by kernel_rfl) ⟨
    okp rfl rfl (oqB (r := .bool true) (lN rfl) rfl rfl rfl),
    trivial⟩ ?_
   refine fqK (s' := [kt 0 (.f (.func 147) [] [.p 2 0, .p 3 0]), kt 5 (.i 0), kt 6 (.B true), (.u 0 3, some (.x (.p 2 0))), (.u 0 4, some (.x (.p 3 0))), (.u 0 11, some (.x (.f (.func 147) [] [.p 2 0, .p 3 0]))), kb 2 206 4, kb 3 206 4, kc 2 0 (.i a0.Up.Conc), kc 2 1 (.i a0.Up.Thick), kc 2 2 (.i a0.Up.Ridge), kc 2 3 (.i a0.Up.Press), kc 3 0 (.i a0.Down.Conc), kc 3 1 (.i a0.Down.Thick), kc 3 2 (.i a0.Down.Ridge), kc 3 3 (.i a0.Down.Press)]) ?_ (kp rfl) rfl
   refine fqT ?_
   refine aqS ?_
   refine aqc rfl (fun hz1 => ?_) (fun hz1 => by cases hz1)
   refine aqk ?_
   refine fqT ?_
   refine aqS ?_
   refine aw_block ?_
   refine aqS ?_
   refine aqT (rows := [_, _]) rfl (by kernel_rfl) ⟨
    okp rfl rfl (oqM (lN rfl) rfl),
    okp rfl rfl (oqA (lN rfl) rfl),
    trivial⟩ ?_
   refine fqK (s' := [kt 0 (.f (.func 147) [] [.p 2 0, .p 3 0]), kt 3 (.i 0), kt 5 (.i 0), (.u 0 3, some (.x (.p 2 0))), (.u 0 4, some (.x (.p 3 0))), (.u 0 11, some (.x (.f (.func 147) [] [.p 2 0, .p 3 0]))), kb 2 206 4, kb 3 206 4, kc 2 0 (.i a0.Up.Conc), kc 2 1 (.i a0.Up.Thick), kc 2 2 (.i a0.Up.Ridge), kc 2 3 (.i a0.Up.Press), kc 3 0 (.i a0.Down.Conc), kc 3 1 (.i a0.Down.Thick), kc 3 2 (.i a0.Down.Ridge), kc 3 3 (.i a0.Down.Press)]) ?_ (kp rfl) rfl
   refine fqT ?_
   refine aqS ?_
   obtain ⟨v2, hv2, hm⟩ := bnd_some hm
   refine aqT (rows := [_, _, _, _]) rfl (by kernel_rfl) ⟨
    okp rfl rfl (oqM (lN rfl) rfl),
    okp rfl rfl (oqM (lN rfl) rfl),
    okp rfl rfl (oqN (fs := []) (caps := [.p 2 0, .p 3 0]) (xs := [.i 0]) (Nk := 15) (.B v2) (tqS [(0, .f (.func 147) [] [.p 2 0, .p 3 0]), (3, .i 0), (5, .i 0), (8, .f (.func 147) [] [.p 2 0, .p 3 0]), (9, .i 0)] ++ ((([(.u 0 3, some (.x (.p 2 0))), (.u 0 4, some (.x (.p 3 0))), (.u 0 11, some (.x (.f (.func 147) [] [.p 2 0, .p 3 0]))), kb 2 206 4, kb 3 206 4, kc 2 0 (.i a0.Up.Conc), kc 2 1 (.i a0.Up.Thick), kc 2 2 (.i a0.Up.Ridge), kc 2 3 (.i a0.Up.Press), kc 3 0 (.i a0.Down.Conc), kc 3 1 (.i a0.Down.Thick), kc 3 2 (.i a0.Down.Ridge), kc 3 3 (.i a0.Down.Press)] : St)) ++ dqS [])) 1 [(0, .f (.func 147) [] [.p 2 0, .p 3 0]), (3, .i 0), (5, .i 0), (8, .f (.func 147) [] [.p 2 0, .p 3 0]), (9, .i 0)] [(.u 0 3, some (.x (.p 2 0))), (.u 0 4, some (.x (.p 3 0))), (.u 0 11, some (.x (.f (.func 147) [] [.p 2 0, .p 3 0]))), kb 2 206 4, kb 3 206 4, kc 2 0 (.i a0.Up.Conc), kc 2 1 (.i a0.Up.Thick), kc 2 2 (.i a0.Up.Ridge), kc 2 3 (.i a0.Up.Press), kc 3 0 (.i a0.Down.Conc), kc 3 1 (.i a0.Down.Thick), kc 3 2 (.i a0.Down.Ridge), kc 3 3 (.i a0.Down.Press)] (lN rfl) en_147 Tryd.func147 rfl rfl (Nat.le_of_ble_eq_true rfl) rfl ⟨rfl, rfl, rfl⟩ (EvL.cons rfl EvL.nil) ⟨rfl, rfl, rfl, rfl, rfl, trivial⟩ ⟨rfl, rfl, rfl, rfl, rfl, rfl, rfl, rfl, rfl, rfl, rfl, rfl, rfl, trivial⟩ rfl rfl rfl (fun aIv2 hIv2 => ?_)),
    okp rfl rfl (oqn (lN rfl) rfl),
    trivial⟩ ?_
   ·have hm := hv2
    refine AW.keep (s' := [kt 0 (.i 0), kt 1 (.p 2 0), kt 2 (.p 3 0), (.u 0 3, some (.x (.p 2 0))), (.u 0 4, some (.x (.p 3 0))), (.u 0 11, some (.x (.f (.func 147) [] [.p 2 0, .p 3 0]))), (.u 1 0, some (.x (.f (.func 147) [] [.p 2 0, .p 3 0]))), (.u 1 3, some (.x (.i 0))), (.u 1 5, some (.x (.i 0))), (.u 1 8, some (.x (.f (.func 147) [] [.p 2 0, .p 3 0]))), (.u 1 9, some (.x (.i 0))), kb 2 206 4, kb 3 206 4, kc 2 0 (.i a0.Up.Conc), kc 2 1 (.i a0.Up.Thick), kc 2 2 (.i a0.Up.Ridge), kc 2 3 (.i a0.Up.Press), kc 3 0 (.i a0.Down.Conc), kc 3 1 (.i a0.Down.Thick), kc 3 2 (.i a0.Down.Ridge), kc 3 3 (.i a0.Down.Press)]) ?_ (kp rfl) rfl
    refine aqS ?_
    refine aqT (rows := [_]) rfl (by kernel_rfl) ⟨
     okp rfl rfl (oqA (lN rfl) rfl),
     trivial⟩ ?_
    refine fqK (s' := [kt 0 (.i 0), kt 1 (.p 2 0), kt 2 (.p 3 0), (.u 0 3, some (.x (.p 2 0))), (.u 0 4, some (.x (.p 3 0))), (.u 0 11, some (.x (.f (.func 147) [] [.p 2 0, .p 3 0]))), (.u 1 0, some (.x (.f (.func 147) [] [.p 2 0, .p 3 0]))), (.u 1 3, some (.x (.i 0))), (.u 1 5, some (.x (.i 0))), (.u 1 8, some (.x (.f (.func 147) [] [.p 2 0, .p 3 0]))), (.u 1 9, some (.x (.i 0))), kb 2 206 4, kb 3 206 4, kc 2 0 (.i a0.Up.Conc), kc 2 1 (.i a0.Up.Thick), kc 2 2 (.i a0.Up.Ridge), kc 2 3 (.i a0.Up.Press), kc 3 0 (.i a0.Down.Conc), kc 3 1 (.i a0.Down.Thick), kc 3 2 (.i a0.Down.Ridge), kc 3 3 (.i a0.Down.Press)]) ?_ (kp rfl) rfl
    refine fqT ?_
    refine aqS ?_
    refine aqT (rows := [_, _, _, _, _, _, _, _, _, _, _]) rfl (by kernel_rfl) ⟨
     okp rfl rfl (oqM (lN rfl) rfl),
     okp rfl rfl (op_ixA (lN rfl) rfl rfl ar_206 (by decide) (by decide)),
     okp rfl rfl (oq1 (lN rfl) sh_3 rfl rfl),
     okp rfl rfl (oqC (x := .B (inI a0.Up.Conc 0 1000)) (fs := []) (caps := []) (extra := []) (lN rfl) en_124 rfl ⟨rfl, rfl, rfl⟩ (EvL.cons rfl (EvL.cons rfl (EvL.cons rfl EvL.nil))) (fun mm aa ww gg hr hrel => (c124 a0.Up.Conc 0 1000 ww))),
     okp rfl rfl (oqM (lN rfl) rfl),
     ok_if (lN rfl) rfl rfl rfl rfl rfl rfl (fun hg2 => oqM (lN rfl) (force_x rfl)),
     ok_if (lN rfl) rfl rfl rfl rfl rfl rfl (fun hg3 => op_ixA (lN rfl) (force_x rfl) (force_eq (beq_iff_eq.2 hg3) rfl) ar_206 (by decide) (by decide)),
     ok_if (lN rfl) rfl rfl rfl rfl rfl rfl (fun hg4 => oq1 (lN rfl) sh_3 (force_eq (beq_iff_eq.2 hg4) rfl) rfl),
     ok_if (lN rfl) rfl rfl rfl rfl rfl rfl (fun hg5 => oqC (x := .B (inI a0.Down.Conc 0 1000)) (fs := []) (caps := []) (extra := []) (lN rfl) en_124 rfl ⟨rfl, rfl, rfl⟩ (EvL.cons (force_eq (beq_iff_eq.2 hg5) rfl) (EvL.cons rfl (EvL.cons rfl EvL.nil))) (fun mm aa ww gg hr hrel => (c124 a0.Down.Conc 0 1000 ww))),
     okp rfl rfl (op_and (lN rfl) rfl rfl),
     okp rfl rfl (oqA (lN rfl) rfl),
     trivial⟩ ?_
    refine fqK (s' := [kt 4 (.B ((inI a0.Up.Conc 0 1000) && (inI a0.Down.Conc 0 1000))), (.u 0 3, some (.x (.p 2 0))), (.u 0 4, some (.x (.p 3 0))), (.u 0 11, some (.x (.f (.func 147) [] [.p 2 0, .p 3 0]))), (.u 1 0, some (.x (.f (.func 147) [] [.p 2 0, .p 3 0]))), (.u 1 3, some (.x (.i 0))), (.u 1 5, some (.x (.i 0))), (.u 1 8, some (.x (.f (.func 147) [] [.p 2 0, .p 3 0]))), (.u 1 9, some (.x (.i 0))), kb 2 206 4, kb 3 206 4, kc 2 0 (.i a0.Up.Conc), kc 2 1 (.i a0.Up.Thick), kc 2 2 (.i a0.Up.Ridge), kc 2 3 (.i a0.Up.Press), kc 3 0 (.i a0.Down.Conc), kc 3 1 (.i a0.Down.Thick), kc 3 2 (.i a0.Down.Ridge), kc 3 3 (.i a0.Down.Press)]) ?_ (kp rfl) rfl
    refine fqT ?_
    refine aqr ?_
    have hm := Option.some.inj hm
    subst hm
    exact fin_callEnd _ _ _ (.inl rfl) rfl rfl (rqT rfl rqN) rfl hIv2 ⟨rfl, rfl, rfl, rfl, rfl, trivial⟩ ⟨rfl, rfl, rfl, rfl, rfl, rfl, rfl, rfl, rfl, rfl, rfl, rfl, rfl, trivial⟩ rfl rfl
   refine fqK (s' := [kt 0 (.f (.func 147) [] [.p 2 0, .p 3 0]), kt 5 (.i 0), kt 11 (.B (!v2)), (.u 0 3, some (.x (.p 2 0))), (.u 0 4, some (.x (.p 3 0))), (.u 0 11, some (.x (.f (.func 147) [] [.p 2 0, .p 3 0]))), kb 2 206 4, kb 3 206 4, kc 2 0 (.i a0.Up.Conc), kc 2 1 (.i a0.Up.Thick), kc 2 2 (.i a0.Up.Ridge), kc 2 3 (.i a0.Up.Press), kc 3 0 (.i a0.Down.Conc), kc 3 1 (.i a0.Down.Thick), kc 3 2 (.i a0.Down.Ridge), kc 3 3 (.i a0.Down.Press)]) ?_ (kp rfl) rfl
   refine fqT ?_
   refine aqc rfl (fun hz6 => ?_) (fun hz6 => ?_)
   ·have hm := brk_t hz6 hm
    refine aqS ?_
    refine aqT (rows := [_]) rfl (by kernel_rfl) ⟨
     okp rfl rfl (oqA (lN rfl) rfl),
     trivial⟩ ?_
    refine fqK (s' := [kt 2 (.B false), (.u 0 3, some (.x (.p 2 0))), (.u 0 4, some (.x (.p 3 0))), (.u 0 11, some (.x (.f (.func 147) [] [.p 2 0, .p 3 0]))), kb 2 206 4, kb 3 206 4, kc 2 0 (.i a0.Up.Conc), kc 2 1 (.i a0.Up.Thick), kc 2 2 (.i a0.Up.Ridge), kc 2 3 (.i a0.Up.Press), kc 3 0 (.i a0.Down.Conc), kc 3 1 (.i a0.Down.Thick), kc 3 2 (.i a0.Down.Ridge), kc 3 3 (.i a0.Down.Press)]) ?_ (kp rfl) rfl
    refine fqT ?_
    refine aqr ?_
    refine fin_block_ret ?_
    refine fqR ?_
    refine fqR ?_
    refine fin_block_ret ?_
    refine fqR ?_
    have hm := Option.some.inj hm
    subst hm
    exact fin_callEnd _ _ _ (.inl rfl) rfl rfl (rqT rfl rqN) rfl hIv1 ⟨rfl, rfl, rfl, trivial⟩ ⟨rfl, rfl, rfl, rfl, rfl, rfl, rfl, rfl, rfl, rfl, trivial⟩ rfl rfl
   ·have hm := brk_f hz6 hm
    refine aqk ?_
    refine fqB ?_
    refine fqT ?_
    refine aqT (rows := [_, _]) rfl (by kernel_rfl) ⟨
     okp rfl rfl (oqB (r := .int .i64 1) (lN rfl) rfl rfl rfl),
     okp rfl rfl (oqM (lN rfl) rfl),
     trivial⟩ ?_
    refine fqK (s' := [kt 0 (.f (.func 147) [] [.p 2 0, .p 3 0]), kt 5 (.i 1), (.u 0 3, some (.x (.p 2 0))), (.u 0 4, some (.x (.p 3 0))), (.u 0 11, some (.x (.f (.func 147) [] [.p 2 0, .p 3 0]))), kb 2 206 4, kb 3 206 4, kc 2 0 (.i a0.Up.Conc), kc 2 1 (.i a0.Up.Thick), kc 2 2 (.i a0.Up.Ridge), kc 2 3 (.i a0.Up.Press), kc 3 0 (.i a0.Down.Conc), kc 3 1 (.i a0.Down.Thick), kc 3 2 (.i a0.Down.Ridge), kc 3 3 (.i a0.Down.Press)]) ?_ (kp rfl) rfl
    refine fin_round ?_
    refine aqS ?_
    refine aqT (rows := [_]) rfl (by kernel_rfl) ⟨
     okp rfl rfl (oqB (r := .bool true) (lN rfl) rfl rfl rfl),
     trivial⟩ ?_
    refine fqK (s' := [kt 0 (.f (.func 147) [] [.p 2 0, .p 3 0]), kt 5 (.i 1), kt 6 (.B true), (.u 0 3, some (.x (.p 2 0))), (.u 0 4, some (.x (.p 3 0))), (.u 0 11, some (.x (.f (.func 147) [] [.p 2 0, .p 3 0]))), kb 2 206 4, kb 3 206 4, kc 2 0 (.i a0.Up.Conc), kc 2 1 (.i a0.Up.Thick), kc 2 2 (.i a0.Up.Ridge), kc 2 3 (.i a0.Up.Press), kc 3 0 (.i a0.Down.Conc), kc 3 1 (.i a0.Down.Thick), kc 3 2 (.i a0.Down.Ridge), kc 3 3 (.i a0.Down.Press)]) ?_ (kp rfl) rfl
    refine fqT ?_
    refine aqS ?_
    refine aqc rfl (fun hz7 => ?_) (fun hz7 => by cases hz7)
    refine aqk ?_
    refine fqT ?_
    refine aqS ?_
    refine aw_block ?_
    refine aqS ?_
    refine aqT (rows := [_, _]) rfl (by kernel_rfl) ⟨
     okp rfl rfl (oqM (lN rfl) rfl),
     okp rfl rfl (oqA (lN rfl) rfl),
     trivial⟩ ?_
    refine fqK (s' := [kt 0 (.f (.func 147) [] [.p 2 0, .p 3 0]), kt 3 (.i 1), kt 5 (.i 1), (.u 0 3, some (.x (.p 2 0))), (.u 0 4, some (.x (.p 3 0))), (.u 0 11, some (.x (.f (.func 147) [] [.p 2 0, .p 3 0]))), kb 2 206 4, kb 3 206 4, kc 2 0 (.i a0.Up.Conc), kc 2 1 (.i a0.Up.Thick), kc 2 2 (.i a0.Up.Ridge), kc 2 3 (.i a0.Up.Press), kc 3 0 (.i a0.Down.Conc), kc 3 1 (.i a0.Down.Thick), kc 3 2 (.i a0.Down.Ridge), kc 3 3 (.i a0.Down.Press)]) ?_ (kp rfl) rfl
    refine fqT ?_
    refine aqS ?_
    obtain ⟨v3, hv3, hm⟩ := bnd_some hm
    refine aqT (rows := [_, _, _, _]) rfl (by kernel_rfl) ⟨
     okp rfl rfl (oqM (lN rfl) rfl),
     okp rfl rfl (oqM (lN rfl) rfl),
     okp rfl rfl (oqN (fs := []) (caps := [.p 2 0, .p 3 0]) (xs := [.i 1]) (Nk := 15) (.B v3) (tqS [(0, .f (.func 147) [] [.p 2 0, .p 3 0]), (3, .i 1), (5, .i 1), (8, .f (.func 147) [] [.p 2 0, .p 3 0]), (9, .i 1)] ++ ((([(.u 0 3, some (.x (.p 2 0))), (.u 0 4, some (.x (.p 3 0))), (.u 0 11, some (.x (.f (.func 147) [] [.p 2 0, .p 3 0]))), kb 2 206 4, kb 3 206 4, kc 2 0 (.i a0.Up.Conc), kc 2 1 (.i a0.Up.Thick), kc 2 2 (.i a0.Up.Ridge), kc 2 3 (.i a0.Up.Press), kc 3 0 (.i a0.Down.Conc), kc 3 1 (.i a0.Down.Thick), kc 3 2 (.i a0.Down.Ridge), kc 3 3 (.i a0.Down.Press)] : St)) ++ dqS [])) 1 [(0, .f (.func 147) [] [.p 2 0, .p 3 0]), (3, .i 1), (5, .i 1), (8, .f (.func 147) [] [.p 2 0, .p 3 0]), (9, .i 1)] [(.u 0 3, some (.x (.p 2 0))), (.u 0 4, some (.x (.p 3 0))), (.u 0 11, some (.x (.f (.func 147) [] [.p 2 0, .p 3 0]))), kb 2 206 4, kb 3 206 4, kc 2 0 (.i a0.Up.Conc), kc 2 1 (.i a0.Up.Thick), kc 2 2 (.i a0.Up.Ridge), kc 2 3 (.i a0.Up.Press), kc 3 0 (.i a0.Down.Conc), kc 3 1 (.i a0.Down.Thick), kc 3 2 (.i a0.Down.Ridge), kc 3 3 (.i a0.Down.Press)] (lN rfl) en_147 Tryd.func147 rfl rfl (Nat.le_of_ble_eq_true rfl) rfl ⟨rfl, rfl, rfl⟩ (EvL.cons rfl EvL.nil) ⟨rfl, rfl, rfl, rfl, rfl, trivial⟩ ⟨rfl, rfl, rfl, rfl, rfl, rfl, rfl, rfl, rfl, rfl, rfl, rfl, rfl, trivial⟩ rfl rfl rfl (fun aIv3 hIv3 => ?_)),
     okp rfl rfl (oqn (lN rfl) rfl),
     trivial⟩ ?_
    ·have hm := hv3
     refine AW.keep (s' := [kt 0 (.i 1), kt 1 (.p 2 0), kt 2 (.p 3 0), (.u 0 3, some (.x (.p 2 0))), (.u 0 4, some (.x (.p 3 0))), (.u 0 11, some (.x (.f (.func 147) [] [.p 2 0, .p 3 0]))), (.u 1 0, some (.x (.f (.func 147) [] [.p 2 0, .p 3 0]))), (.u 1 3, some (.x (.i 1))), (.u 1 5, some (.x (.i 1))), (.u 1 8, some (.x (.f (.func 147) [] [.p 2 0, .p 3 0]))), (.u 1 9, some (.x (.i 1))), kb 2 206 4, kb 3 206 4, kc 2 0 (.i a0.Up.Conc), kc 2 1 (.i a0.Up.Thick), kc 2 2 (.i a0.Up.Ridge), kc 2 3 (.i a0.Up.Press), kc 3 0 (.i a0.Down.Conc), kc 3 1 (.i a0.Down.Thick), kc 3 2 (.i a0.Down.Ridge), kc 3 3 (.i a0.Down.Press)]) ?_ (kp rfl) rfl
     refine aqS ?_
     refine aqT (rows := [_]) rfl (by kernel_rfl) ⟨
      okp rfl rfl (oqA (lN rfl) rfl),
      trivial⟩ ?_
     refine fqK (s' := [kt 0 (.i 1), kt 1 (.p 2 0), kt 2 (.p 3 0), (.u 0 3, some (.x (.p 2 0))), (.u 0 4, some (.x (.p 3 0))), (.u 0 11, some (.x (.f (.func 147) [] [.p 2 0, .p 3 0]))), (.u 1 0, some (.x (.f (.func 147) [] [.p 2 0, .p 3 0]))), (.u 1 3, some (.x (.i 1))), (.u 1 5, some (.x (.i 1))), (.u 1 8, some (.x (.f (.func 147) [] [.p 2 0, .p 3 0]))), (.u 1 9, some (.x (.i 1))), kb 2 206 4, kb 3 206 4, kc 2 0 (.i a0.Up.Conc), kc 2 1 (.i a0.Up.Thick), kc 2 2 (.i a0.Up.Ridge), kc 2 3 (.i a0.Up.Press), kc 3 0 (.i a0.Down.Conc), kc 3 1 (.i a0.Down.Thick), kc 3 2 (.i a0.Down.Ridge), kc 3 3 (.i a0.Down.Press)]) ?_ (kp rfl) rfl
     refine fqT ?_
     refine aqS ?_
     refine aqT (rows := [_, _, _, _, _, _, _, _, _, _, _]) rfl (by kernel_rfl) ⟨
      okp rfl rfl (oqM (lN rfl) rfl),
      okp rfl rfl (op_ixA (lN rfl) rfl rfl ar_206 (by decide) (by decide)),
      okp rfl rfl (oq1 (lN rfl) sh_3 rfl rfl),
      okp rfl rfl (oqC (x := .B (inI a0.Up.Thick 0 1000)) (fs := []) (caps := []) (extra := []) (lN rfl) en_124 rfl ⟨rfl, rfl, rfl⟩ (EvL.cons rfl (EvL.cons rfl (EvL.cons rfl EvL.nil))) (fun mm aa ww gg hr hrel => (c124 a0.Up.Thick 0 1000 ww))),
      okp rfl rfl (oqM (lN rfl) rfl),
      ok_if (lN rfl) rfl rfl rfl rfl rfl rfl (fun hg8 => oqM (lN rfl) (force_x rfl)),
      ok_if (lN rfl) rfl rfl rfl rfl rfl rfl (fun hg9 => op_ixA (lN rfl) (force_x rfl) (force_eq (beq_iff_eq.2 hg9) rfl) ar_206 (by decide) (by decide)),
      ok_if (lN rfl) rfl rfl rfl rfl rfl rfl (fun hg10 => oq1 (lN rfl) sh_3 (force_eq (beq_iff_eq.2 hg10) rfl) rfl),
      ok_if (lN rfl) rfl rfl rfl rfl rfl rfl (fun hg11 => oqC (x := .B (inI a0.Down.Thick 0 1000)) (fs := []) (caps := []) (extra := []) (lN rfl) en_124 rfl ⟨rfl, rfl, rfl⟩ (EvL.cons (force_eq (beq_iff_eq.2 hg11) rfl) (EvL.cons rfl (EvL.cons rfl EvL.nil))) (fun mm aa ww gg hr hrel => (c124 a0.Down.Thick 0 1000 ww))),
      okp rfl rfl (op_and (lN rfl) rfl rfl),
      okp rfl rfl (oqA (lN rfl) rfl),
      trivial⟩ ?_
     refine fqK (s' := [kt 4 (.B ((inI a0.Up.Thick 0 1000) && (inI a0.Down.Thick 0 1000))), (.u 0 3, some (.x (.p 2 0))), (.u 0 4, some (.x (.p 3 0))), (.u 0 11, some (.x (.f (.func 147) [] [.p 2 0, .p 3 0]))), (.u 1 0, some (.x (.f (.func 147) [] [.p 2 0, .p 3 0]))), (.u 1 3, some (.x (.i 1))), (.u 1 5, some (.x (.i 1))), (.u 1 8, some (.x (.f (.func 147) [] [.p 2 0, .p 3 0]))), (.u 1 9, some (.x (.i 1))), kb 2 206 4, kb 3 206 4, kc 2 0 (.i a0.Up.Conc), kc 2 1 (.i a0.Up.Thick), kc 2 2 (.i a0.Up.Ridge), kc 2 3 (.i a0.Up.Press), kc 3 0 (.i a0.Down.Conc), kc 3 1 (.i a0.Down.Thick), kc 3 2 (.i a0.Down.Ridge), kc 3 3 (.i a0.Down.Press)]) ?_ (kp rfl) rfl
     refine fqT ?_
     refine aqr ?_
     have hm := Option.some.inj hm
     subst hm
     exact fin_callEnd _ _ _ (.inl rfl) rfl rfl (rqT rfl rqN) rfl hIv3 ⟨rfl, rfl, rfl, rfl, rfl, trivial⟩ ⟨rfl, rfl, rfl, rfl, rfl, rfl, rfl, rfl, rfl, rfl, rfl, rfl, rfl, trivial⟩ rfl rfl
    refine fqK (s' := [kt 0 (.f (.func 147) [] [.p 2 0, .p 3 0]), kt 5 (.i 1), kt 11 (.B (!v3)), (.u 0 3, some (.x (.p 2 0))), (.u 0 4, some (.x (.p 3 0))), (.u 0 11, some (.x (.f (.func 147) [] [.p 2 0, .p 3 0]))), kb 2 206 4, kb 3 206 4, kc 2 0 (.i a0.Up.Conc), kc 2 1 (.i a0.Up.Thick), kc 2 2 (.i a0.Up.Ridge), kc 2 3 (.i a0.Up.Press), kc 3 0 (.i a0.Down.Conc), kc 3 1 (.i a0.Down.Thick), kc 3 2 (.i a0.Down.Ridge), kc 3 3 (.i a0.Down.Press)]) ?_ (kp rfl) rfl
    refine fqT ?_
    refine aqc rfl (fun hz12 => ?_) (fun hz12 => ?_)
    ·have hm := brk_t hz12 hm
     refine aqS ?_
     refine aqT (rows := [_]) rfl (by kernel_rfl) ⟨
      okp rfl rfl (oqA (lN rfl) rfl),
      trivial⟩ ?_
     refine fqK (s' := [kt 2 (.B false), (.u 0 3, some (.x (.p 2 0))), (.u 0 4, some (.x (.p 3 0))), (.u 0 11, some (.x (.f (.func 147) [] [.p 2 0, .p 3 0]))), kb 2 206 4, kb 3 206 4, kc 2 0 (.i a0.Up.Conc), kc 2 1 (.i a0.Up.Thick), kc 2 2 (.i a0.Up.Ridge), kc 2 3 (.i a0.Up.Press), kc 3 0 (.i a0.Down.Conc), kc 3 1 (.i a0.Down.Thick), kc 3 2 (.i a0.Down.Ridge), kc 3 3 (.i a0.Down.Press)]) ?_ (kp rfl) rfl
     refine fqT ?_
     refine aqr ?_
     refine fin_block_ret ?_
     refine fqR ?_
     refine fqR ?_
     refine fin_block_ret ?_
     refine fqR ?_
     have hm := Option.some.inj hm
     subst hm
     exact fin_callEnd _ _ _ (.inl rfl) rfl rfl (rqT rfl rqN) rfl hIv1 ⟨rfl, rfl, rfl, trivial⟩ ⟨rfl, rfl, rfl, rfl, rfl, rfl, rfl, rfl, rfl, rfl, trivial⟩ rfl rfl
    ·have hm := brk_f hz12 hm
     refine aqk ?_
     refine fqB ?_
     refine fqT ?_
     refine aqT (rows := [_, _]) rfl (by kernel_rfl) ⟨
      okp rfl rfl (oqB (r := .int .i64 2) (lN rfl) rfl rfl rfl),
      okp rfl rfl (oqM (lN rfl) rfl),
      trivial⟩ ?_
     refine fqK (s' := [kt 0 (.f (.func 147) [] [.p 2 0, .p 3 0]), kt 5 (.i 2), (.u 0 3, some (.x (.p 2 0))), (.u 0 4, some (.x (.p 3 0))), (.u 0 11, some (.x (.f (.func 147) [] [.p 2 0, .p 3 0]))), kb 2 206 4, kb 3 206 4, kc 2 0 (.i a0.Up.Conc), kc 2 1 (.i a0.Up.Thick), kc 2 2 (.i a0.Up.Ridge), kc 2 3 (.i a0.Up.Press), kc 3 0 (.i a0.Down.Conc), kc 3 1 (.i a0.Down.Thick), kc 3 2 (.i a0.Down.Ridge), kc 3 3 (.i a0.Down.Press)]) ?_ (kp rfl) rfl
     refine fin_round ?_
     refine aqS ?_
     refine aqT (rows := [_]) rfl (by kernel_rfl) ⟨
      okp rfl rfl (oqB (r := .bool true) (lN rfl) rfl rfl rfl),
      trivial⟩ ?_
     refine fqK (s' := [kt 0 (.f (.func 147) [] [.p 2 0, .p 3 0]), kt 5 (.i 2), kt 6 (.B true), (.u 0 3, some (.x (.p 2 0))), (.u 0 4, some (.x (.p 3 0))), (.u 0 11, some (.x (.f (.func 147) [] [.p 2 0, .p 3 0]))), kb 2 206 4, kb 3 206 4, kc 2 0 (.i a0.Up.Conc), kc 2 1 (.i a0.Up.Thick), kc 2 2 (.i a0.Up.Ridge), kc 2 3 (.i a0.Up.Press), kc 3 0 (.i a0.Down.Conc), kc 3 1 (.i a0.Down.Thick), kc 3 2 (.i a0.Down.Ridge), kc 3 3 (.i a0.Down.Press)]) ?_ (kp rfl) rfl
     refine fqT ?_
     refine aqS ?_
     refine aqc rfl (fun hz13 => ?_) (fun hz13 => by cases hz13)
     refine aqk ?_
     refine fqT ?_
     refine aqS ?_
     refine aw_block ?_
     refine aqS ?_
     refine aqT (rows := [_, _]) rfl (by kernel_rfl) ⟨
      okp rfl rfl (oqM (lN rfl) rfl),
      okp rfl rfl (oqA (lN rfl) rfl),
      trivial⟩ ?_
     refine fqK (s' := [kt 0 (.f (.func 147) [] [.p 2 0, .p 3 0]), kt 3 (.i 2), kt 5 (.i 2), (.u 0 3, some (.x (.p 2 0))), (.u 0 4, some (.x (.p 3 0))), (.u 0 11, some (.x (.f (.func 147) [] [.p 2 0, .p 3 0]))), kb 2 206 4, kb 3 206 4, kc 2 0 (.i a0.Up.Conc), kc 2 1 (.i a0.Up.Thick), kc 2 2 (.i a0.Up.Ridge), kc 2 3 (.i a0.Up.Press), kc 3 0 (.i a0.Down.Conc), kc 3 1 (.i a0.Down.Thick), kc 3 2 (.i a0.Down.Ridge), kc 3 3 (.i a0.Down.Press)]) ?_ (kp rfl) rfl
     refine fqT ?_
     refine aqS ?_
     obtain ⟨v4, hv4, hm⟩ := bnd_some hm
     refine aqT (rows := [_, _, _, _]) rfl (by kernel_rfl) ⟨
      okp rfl rfl (oqM (lN rfl) rfl),
      okp rfl rfl (oqM (lN rfl) rfl),
      okp rfl rfl (oqN (fs := []) (caps := [.p 2 0, .p 3 0]) (xs := [.i 2]) (Nk := 15) (.B v4) (tqS [(0, .f (.func 147) [] [.p 2 0, .p 3 0]), (3, .i 2), (5, .i 2), (8, .f (.func 147) [] [.p 2 0, .p 3 0]), (9, .i 2)] ++ ((([(.u 0 3, some (.x (.p 2 0))), (.u 0 4, some (.x (.p 3 0))), (.u 0 11, some (.x (.f (.func 147) [] [.p 2 0, .p 3 0]))), kb 2 206 4, kb 3 206 4, kc 2 0 (.i a0.Up.Conc), kc 2 1 (.i a0.Up.Thick), kc 2 2 (.i a0.Up.Ridge), kc 2 3 (.i a0.Up.Press), kc 3 0 (.i a0.Down.Conc), kc 3 1 (.i a0.Down.Thick), kc 3 2 (.i a0.Down.Ridge), kc 3 3 (.i a0.Down.Press)] : St)) ++ dqS [])) 1 [(0, .f (.func 147) [] [.p 2 0, .p 3 0]), (3, .i 2), (5, .i 2), (8, .f (.func 147) [] [.p 2 0, .p 3 0]), (9, .i 2)] [(.u 0 3, some (.x (.p 2 0))), (.u 0 4, some (.x (.p 3 0))), (.u 0 11, some (.x (.f (.func 147) [] [.p 2 0, .p 3 0]))), kb 2 206 4, kb 3 206 4, kc 2 0 (.i a0.Up.Conc), kc 2 1 (.i a0.Up.Thick), kc 2 2 (.i a0.Up.Ridge), kc 2 3 (.i a0.Up.Press), kc 3 0 (.i a0.Down.Conc), kc 3 1 (.i a0.Down.Thick), kc 3 2 (.i a0.Down.Ridge), kc 3 3 (.i a0.Down.Press)] (lN rfl) en_147 Tryd.func147 rfl rfl (Nat.le_of_ble_eq_true rfl) rfl ⟨rfl, rfl, rfl⟩ (EvL.cons rfl EvL.nil) ⟨rfl, rfl, rfl, rfl, rfl, trivial⟩ ⟨rfl, rfl, rfl, rfl, rfl, rfl, rfl, rfl, rfl, rfl, rfl, rfl, rfl, trivial⟩ rfl rfl rfl (fun aIv4 hIv4 => ?_)),
      okp rfl rfl (oqn (lN rfl) rfl),
      trivial⟩ ?_
     ·have hm := hv4
      refine AW.keep (s' := [kt 0 (.i 2), kt 1 (.p 2 0), kt 2 (.p 3 0), (.u 0 3, some (.x (.p 2 0))), (.u 0 4, some (.x (.p 3 0))), (.u 0 11, some (.x (.f (.func 147) [] [.p 2 0, .p 3 0]))), (.u 1 0, some (.x (.f (.func 147) [] [.p 2 0, .p 3 0]))), (.u 1 3, some (.x (.i 2))), (.u 1 5, some (.x (.i 2))), (.u 1 8, some (.x (.f (.func 147) [] [.p 2 0, .p 3 0]))), (.u 1 9, some (.x (.i 2))), kb 2 206 4, kb 3 206 4, kc 2 0 (.i a0.Up.Conc), kc 2 1 (.i a0.Up.Thick), kc 2 2 (.i a0.Up.Ridge), kc 2 3 (.i a0.Up.Press), kc 3 0 (.i a0.Down.Conc), kc 3 1 (.i a0.Down.Thick), kc 3 2 (.i a0.Down.Ridge), kc 3 3 (.i a0.Down.Press)]) ?_ (kp rfl) rfl
      refine aqS ?_
      refine aqT (rows := [_]) rfl (by kernel_rfl) ⟨
       okp rfl rfl (oqA (lN rfl) rfl),
       trivial⟩ ?_
      refine fqK (s' := [kt 0 (.i 2), kt 1 (.p 2 0), kt 2 (.p 3 0), (.u 0 3, some (.x (.p 2 0))), (.u 0 4, some (.x (.p 3 0))), (.u 0 11, some (.x (.f (.func 147) [] [.p 2 0, .p 3 0]))), (.u 1 0, some (.x (.f (.func 147) [] [.p 2 0, .p 3 0]))), (.u 1 3, some (.x (.i 2))), (.u 1 5, some (.x (.i 2))), (.u 1 8, some (.x (.f (.func 147) [] [.p 2 0, .p 3 0]))), (.u 1 9, some (.x (.i 2))), kb 2 206 4, kb 3 206 4, kc 2 0 (.i a0.Up.Conc), kc 2 1 (.i a0.Up.Thick), kc 2 2 (.i a0.Up.Ridge), kc 2 3 (.i a0.Up.Press), kc 3 0 (.i a0.Down.Conc), kc 3 1 (.i a0.Down.Thick), kc 3 2 (.i a0.Down.Ridge), kc 3 3 (.i a0.Down.Press)]) ?_ (kp rfl) rfl
      refine fqT ?_
      refine aqS ?_
      refine aqT (rows := [_, _, _, _, _, _, _, _, _, _, _]) rfl (by kernel_rfl) ⟨
       okp rfl rfl (oqM (lN rfl) rfl),
       okp rfl rfl (op_ixA (lN rfl) rfl rfl ar_206 (by decide) (by decide)),
       okp rfl rfl (oq1 (lN rfl) sh_3 rfl rfl),
       okp rfl rfl (oqC (x := .B (inI a0.Up.Ridge 0 1000)) (fs := []) (caps := []) (extra := []) (lN rfl) en_124 rfl ⟨rfl, rfl, rfl⟩ (EvL.cons rfl (EvL.cons rfl (EvL.cons rfl EvL.nil))) (fun mm aa ww gg hr hrel => (c124 a0.Up.Ridge 0 1000 ww))),
       okp rfl rfl (oqM (lN rfl) rfl),
       ok_if (lN rfl) rfl rfl rfl rfl rfl rfl (fun hg14 => oqM (lN rfl) (force_x rfl)),
       ok_if (lN rfl) rfl rfl rfl rfl rfl rfl (fun hg15 => op_ixA (lN rfl) (force_x rfl) (force_eq (beq_iff_eq.2 hg15) rfl) ar_206 (by decide) (by decide)),
       ok_if (lN rfl) rfl rfl rfl rfl rfl rfl (fun hg16 => oq1 (lN rfl) sh_3 (force_eq (beq_iff_eq.2 hg16) rfl) rfl),
       ok_if (lN rfl) rfl rfl rfl rfl rfl rfl (fun hg17 => oqC (x := .B (inI a0.Down.Ridge 0 1000)) (fs := []) (caps := []) (extra := []) (lN rfl) en_124 rfl ⟨rfl, rfl, rfl⟩ (EvL.cons (force_eq (beq_iff_eq.2 hg17) rfl) (EvL.cons rfl (EvL.cons rfl EvL.nil))) (fun mm aa ww gg hr hrel => (c124 a0.Down.Ridge 0 1000 ww))),
       okp rfl rfl (op_and (lN rfl) rfl rfl),
       okp rfl rfl (oqA (lN rfl) rfl),
       trivial⟩ ?_
      refine fqK (s' := [kt 4 (.B ((inI a0.Up.Ridge 0 1000) && (inI a0.Down.Ridge 0 1000))), (.u 0 3, some (.x (.p 2 0))), (.u 0 4, some (.x (.p 3 0))), (.u 0 11, some (.x (.f (.func 147) [] [.p 2 0, .p 3 0]))), (.u 1 0, some (.x (.f (.func 147) [] [.p 2 0, .p 3 0]))), (.u 1 3, some (.x (.i 2))), (.u 1 5, some (.x (.i 2))), (.u 1 8, some (.x (.f (.func 147) [] [.p 2 0, .p 3 0]))), (.u 1 9, some (.x (.i 2))), kb 2 206 4, kb 3 206 4, kc 2 0 (.i a0.Up.Conc), kc 2 1 (.i a0.Up.Thick), kc 2 2 (.i a0.Up.Ridge), kc 2 3 (.i a0.Up.Press), kc 3 0 (.i a0.Down.Conc), kc 3 1 (.i a0.Down.Thick), kc 3 2 (.i a0.Down.Ridge), kc 3 3 (.i a0.Down.Press)]) ?_ (kp rfl) rfl
      refine fqT ?_
      refine aqr ?_
      have hm := Option.some.inj hm
      subst hm
      exact fin_callEnd _ _ _ (.inl rfl) rfl rfl (rqT rfl rqN) rfl hIv4 ⟨rfl, rfl, rfl, rfl, rfl, trivial⟩ ⟨rfl, rfl, rfl, rfl, rfl, rfl, rfl, rfl, rfl, rfl, rfl, rfl, rfl, trivial⟩ rfl rfl
     refine fqK (s' := [kt 0 (.f (.func 147) [] [.p 2 0, .p 3 0]), kt 5 (.i 2), kt 11 (.B (!v4)), (.u 0 3, some (.x (.p 2 0))), (.u 0 4, some (.x (.p 3 0))), (.u 0 11, some (.x (.f (.func 147) [] [.p 2 0, .p 3 0]))), kb 2 206 4, kb 3 206 4, kc 2 0 (.i a0.Up.Conc), kc 2 1 (.i a0.Up.Thick), kc 2 2 (.i a0.Up.Ridge), kc 2 3 (.i a0.Up.Press), kc 3 0 (.i a0.Down.Conc), kc 3 1 (.i a0.Down.Thick), kc 3 2 (.i a0.Down.Ridge), kc 3 3 (.i a0.Down.Press)]) ?_ (kp rfl) rfl
     refine fqT ?_
     refine aqc rfl (fun hz18 => ?_) (fun hz18 => ?_)
     ·have hm := brk_t hz18 hm
      refine aqS ?_
      refine aqT (rows := [_]) rfl (by kernel_rfl) ⟨
       okp rfl rfl (oqA (lN rfl) rfl),
       trivial⟩ ?_
      refine fqK (s' := [kt 2 (.B false), (.u 0 3, some (.x (.p 2 0))), (.u 0 4, some (.x (.p 3 0))), (.u 0 11, some (.x (.f (.func 147) [] [.p 2 0, .p 3 0]))), kb 2 206 4, kb 3 206 4, kc 2 0 (.i a0.Up.Conc), kc 2 1 (.i a0.Up.Thick), kc 2 2 (.i a0.Up.Ridge), kc 2 3 (.i a0.Up.Press), kc 3 0 (.i a0.Down.Conc), kc 3 1 (.i a0.Down.Thick), kc 3 2 (.i a0.Down.Ridge), kc 3 3 (.i a0.Down.Press)]) ?_ (kp rfl) rfl
      refine fqT ?_
      refine aqr ?_
      refine fin_block_ret ?_
      refine fqR ?_
      refine fqR ?_
      refine fin_block_ret ?_
      refine fqR ?_
      have hm := Option.some.inj hm
      subst hm
      exact fin_callEnd _ _ _ (.inl rfl) rfl rfl (rqT rfl rqN) rfl hIv1 ⟨rfl, rfl, rfl, trivial⟩ ⟨rfl, rfl, rfl, rfl, rfl, rfl, rfl, rfl, rfl, rfl, trivial⟩ rfl rfl
     ·have hm := brk_f hz18 hm
      refine aqk ?_
      refine fqB ?_
      refine fqT ?_
      refine aqT (rows := [_, _]) rfl (by kernel_rfl) ⟨
       okp rfl rfl (oqB (r := .int .i64 3) (lN rfl) rfl rfl rfl),
       okp rfl rfl (oqM (lN rfl) rfl),
       trivial⟩ ?_
      refine fqK (s' := [kt 0 (.f (.func 147) [] [.p 2 0, .p 3 0]), kt 5 (.i 3), (.u 0 3, some (.x (.p 2 0))), (.u 0 4, some (.x (.p 3 0))), (.u 0 11, some (.x (.f (.func 147) [] [.p 2 0, .p 3 0]))), kb 2 206 4, kb 3 206 4, kc 2 0 (.i a0.Up.Conc), kc 2 1 (.i a0.Up.Thick), kc 2 2 (.i a0.Up.Ridge), kc 2 3 (.i a0.Up.Press), kc 3 0 (.i a0.Down.Conc), kc 3 1 (.i a0.Down.Thick), kc 3 2 (.i a0.Down.Ridge), kc 3 3 (.i a0.Down.Press)]) ?_ (kp rfl) rfl
      refine fin_round ?_
      refine aqS ?_
      refine aqT (rows := [_]) rfl (by kernel_rfl) ⟨
       okp rfl rfl (oqB (r := .bool true) (lN rfl) rfl rfl rfl),
       trivial⟩ ?_
      refine fqK (s' := [kt 0 (.f (.func 147) [] [.p 2 0, .p 3 0]), kt 5 (.i 3), kt 6 (.B true), (.u 0 3, some (.x (.p 2 0))), (.u 0 4, some (.x (.p 3 0))), (.u 0 11, some (.x (.f (.func 147) [] [.p 2 0, .p 3 0]))), kb 2 206 4, kb 3 206 4, kc 2 0 (.i a0.Up.Conc), kc 2 1 (.i a0.Up.Thick), kc 2 2 (.i a0.Up.Ridge), kc 2 3 (.i a0.Up.Press), kc 3 0 (.i a0.Down.Conc), kc 3 1 (.i a0.Down.Thick), kc 3 2 (.i a0.Down.Ridge), kc 3 3 (.i a0.Down.Press)]) ?_ (kp rfl) rfl
      refine fqT ?_
      refine aqS ?_
      refine aqc rfl (fun hz19 => ?_) (fun hz19 => by cases hz19)
      refine aqk ?_
      refine fqT ?_
      refine aqS ?_
      refine aw_block ?_
      refine aqS ?_
      refine aqT (rows := [_, _]) rfl (by kernel_rfl) ⟨
       okp rfl rfl (oqM (lN rfl) rfl),
       okp rfl rfl (oqA (lN rfl) rfl),
       trivial⟩ ?_
      refine fqK (s' := [kt 0 (.f (.func 147) [] [.p 2 0, .p 3 0]), kt 3 (.i 3), kt 5 (.i 3), (.u 0 3, some (.x (.p 2 0))), (.u 0 4, some (.x (.p 3 0))), (.u 0 11, some (.x (.f (.func 147) [] [.p 2 0, .p 3 0]))), kb 2 206 4, kb 3 206 4, kc 2 0 (.i a0.Up.Conc), kc 2 1 (.i a0.Up.Thick), kc 2 2 (.i a0.Up.Ridge), kc 2 3 (.i a0.Up.Press), kc 3 0 (.i a0.Down.Conc), kc 3 1 (.i a0.Down.Thick), kc 3 2 (.i a0.Down.Ridge), kc 3 3 (.i a0.Down.Press)]) ?_ (kp rfl) rfl
      refine fqT ?_
      refine aqS ?_
      obtain ⟨v5, hv5, hm⟩ := bnd_some hm
      refine aqT (rows := [_, _, _, _]) rfl (by kernel_rfl) ⟨
       okp rfl rfl (oqM (lN rfl) rfl),
       okp rfl rfl (oqM (lN rfl) rfl),
       okp rfl rfl (oqN (fs := []) (caps := [.p 2 0, .p 3 0]) (xs := [.i 3]) (Nk := 15) (.B v5) (tqS [(0, .f (.func 147) [] [.p 2 0, .p 3 0]), (3, .i 3), (5, .i 3), (8, .f (.func 147) [] [.p 2 0, .p 3 0]), (9, .i 3)] ++ ((([(.u 0 3, some (.x (.p 2 0))), (.u 0 4, some (.x (.p 3 0))), (.u 0 11, some (.x (.f (.func 147) [] [.p 2 0, .p 3 0]))), kb 2 206 4, kb 3 206 4, kc 2 0 (.i a0.Up.Conc), kc 2 1 (.i a0.Up.Thick), kc 2 2 (.i a0.Up.Ridge), kc 2 3 (.i a0.Up.Press), kc 3 0 (.i a0.Down.Conc), kc 3 1 (.i a0.Down.Thick), kc 3 2 (.i a0.Down.Ridge), kc 3 3 (.i a0.Down.Press)] : St)) ++ dqS [])) 1 [(0, .f (.func 147) [] [.p 2 0, .p 3 0]), (3, .i 3), (5, .i 3), (8, .f (.func 147) [] [.p 2 0, .p 3 0]), (9, .i 3)] [(.u 0 3, some (.x (.p 2 0))), (.u 0 4, some (.x (.p 3 0))), (.u 0 11, some (.x (.f (.func 147) [] [.p 2 0, .p 3 0]))), kb 2 206 4, kb 3 206 4, kc 2 0 (.i a0.Up.Conc), kc 2 1 (.i a0.Up.Thick), kc 2 2 (.i a0.Up.Ridge), kc 2 3 (.i a0.Up.Press), kc 3 0 (.i a0.Down.Conc), kc 3 1 (.i a0.Down.Thick), kc 3 2 (.i a0.Down.Ridge), kc 3 3 (.i a0.Down.Press)] (lN rfl) en_147 Tryd.func147 rfl rfl (Nat.le_of_ble_eq_true rfl) rfl ⟨rfl, rfl, rfl⟩ (EvL.cons rfl EvL.nil) ⟨rfl, rfl, rfl, rfl, rfl, trivial⟩ ⟨rfl, rfl, rfl, rfl, rfl, rfl, rfl, rfl, rfl, rfl, rfl, rfl, rfl, trivial⟩ rfl rfl rfl (fun aIv5 hIv5 => ?_)),
       okp rfl rfl (oqn (lN rfl) rfl),
       trivial⟩ ?_
      ·have hm := hv5
       refine AW.keep (s' := [kt 0 (.i 3), kt 1 (.p 2 0), kt 2 (.p 3 0), (.u 0 3, some (.x (.p 2 0))), (.u 0 4, some (.x (.p 3 0))), (.u 0 11, some (.x (.f (.func 147) [] [.p 2 0, .p 3 0]))), (.u 1 0, some (.x (.f (.func 147) [] [.p 2 0, .p 3 0]))), (.u 1 3, some (.x (.i 3))), (.u 1 5, some (.x (.i 3))), (.u 1 8, some (.x (.f (.func 147) [] [.p 2 0, .p 3 0]))), (.u 1 9, some (.x (.i 3))), kb 2 206 4, kb 3 206 4, kc 2 0 (.i a0.Up.Conc), kc 2 1 (.i a0.Up.Thick), kc 2 2 (.i a0.Up.Ridge), kc 2 3 (.i a0.Up.Press), kc 3 0 (.i a0.Down.Conc), kc 3 1 (.i a0.Down.Thick), kc 3 2 (.i a0.Down.Ridge), kc 3 3 (.i a0.Down.Press)]) ?_ (kp rfl) rfl
       refine aqS ?_
       refine aqT (rows := [_]) rfl (by kernel_rfl) ⟨
        okp rfl rfl (oqA (lN rfl) rfl),
        trivial⟩ ?_
       refine fqK (s' := [kt 0 (.i 3), kt 1 (.p 2 0), kt 2 (.p 3 0), (.u 0 3, some (.x (.p 2 0))), (.u 0 4, some (.x (.p 3 0))), (.u 0 11, some (.x (.f (.func 147) [] [.p 2 0, .p 3 0]))), (.u 1 0, some (.x (.f (.func 147) [] [.p 2 0, .p 3 0]))), (.u 1 3, some (.x (.i 3))), (.u 1 5, some (.x (.i 3))), (.u 1 8, some (.x (.f (.func 147) [] [.p 2 0, .p 3 0]))), (.u 1 9, some (.x (.i 3))), kb 2 206 4, kb 3 206 4, kc 2 0 (.i a0.Up.Conc), kc 2 1 (.i a0.Up.Thick), kc 2 2 (.i a0.Up.Ridge), kc 2 3 (.i a0.Up.Press), kc 3 0 (.i a0.Down.Conc), kc 3 1 (.i a0.Down.Thick), kc 3 2 (.i a0.Down.Ridge), kc 3 3 (.i a0.Down.Press)]) ?_ (kp rfl) rfl
       refine fqT ?_
       refine aqS ?_
       refine aqT (rows := [_, _, _, _, _, _, _, _, _, _, _]) rfl (by kernel_rfl) ⟨
        okp rfl rfl (oqM (lN rfl) rfl),
        okp rfl rfl (op_ixA (lN rfl) rfl rfl ar_206 (by decide) (by decide)),
        okp rfl rfl (oq1 (lN rfl) sh_3 rfl rfl),
        okp rfl rfl (oqC (x := .B (inI a0.Up.Press 0 1000)) (fs := []) (caps := []) (extra := []) (lN rfl) en_124 rfl ⟨rfl, rfl, rfl⟩ (EvL.cons rfl (EvL.cons rfl (EvL.cons rfl EvL.nil))) (fun mm aa ww gg hr hrel => (c124 a0.Up.Press 0 1000 ww))),
        okp rfl rfl (oqM (lN rfl) rfl),
        ok_if (lN rfl) rfl rfl rfl rfl rfl rfl (fun hg20 => oqM (lN rfl) (force_x rfl)),
        ok_if (lN rfl) rfl rfl rfl rfl rfl rfl (fun hg21 => op_ixA (lN rfl) (force_x rfl) (force_eq (beq_iff_eq.2 hg21) rfl) ar_206 (by decide) (by decide)),
        ok_if (lN rfl) rfl rfl rfl rfl rfl rfl (fun hg22 => oq1 (lN rfl) sh_3 (force_eq (beq_iff_eq.2 hg22) rfl) rfl),
        ok_if (lN rfl) rfl rfl rfl rfl rfl rfl (fun hg23 => oqC (x := .B (inI a0.Down.Press 0 1000)) (fs := []) (caps := []) (extra := []) (lN rfl) en_124 rfl ⟨rfl, rfl, rfl⟩ (EvL.cons (force_eq (beq_iff_eq.2 hg23) rfl) (EvL.cons rfl (EvL.cons rfl EvL.nil))) (fun mm aa ww gg hr hrel => (c124 a0.Down.Press 0 1000 ww))),
        okp rfl rfl (op_and (lN rfl) rfl rfl),
        okp rfl rfl (oqA (lN rfl) rfl),
        trivial⟩ ?_
       refine fqK (s' := [kt 4 (.B ((inI a0.Up.Press 0 1000) && (inI a0.Down.Press 0 1000))), (.u 0 3, some (.x (.p 2 0))), (.u 0 4, some (.x (.p 3 0))), (.u 0 11, some (.x (.f (.func 147) [] [.p 2 0, .p 3 0]))), (.u 1 0, some (.x (.f (.func 147) [] [.p 2 0, .p 3 0]))), (.u 1 3, some (.x (.i 3))), (.u 1 5, some (.x (.i 3))), (.u 1 8, some (.x (.f (.func 147) [] [.p 2 0, .p 3 0]))), (.u 1 9, some (.x (.i 3))), kb 2 206 4, kb 3 206 4, kc 2 0 (.i a0.Up.Conc), kc 2 1 (.i a0.Up.Thick), kc 2 2 (.i a0.Up.Ridge), kc 2 3 (.i a0.Up.Press), kc 3 0 (.i a0.Down.Conc), kc 3 1 (.i a0.Down.Thick), kc 3 2 (.i a0.Down.Ridge), kc 3 3 (.i a0.Down.Press)]) ?_ (kp rfl) rfl
       refine fqT ?_
       refine aqr ?_
       have hm := Option.some.inj hm
       subst hm
       exact fin_callEnd _ _ _ (.inl rfl) rfl rfl (rqT rfl rqN) rfl hIv5 ⟨rfl, rfl, rfl, rfl, rfl, trivial⟩ ⟨rfl, rfl, rfl, rfl, rfl, rfl, rfl, rfl, rfl, rfl, rfl, rfl, rfl, trivial⟩ rfl rfl
      refine fqK (s' := [kt 0 (.f (.func 147) [] [.p 2 0, .p 3 0]), kt 5 (.i 3), kt 11 (.B (!v5)), (.u 0 3, some (.x (.p 2 0))), (.u 0 4, some (.x (.p 3 0))), (.u 0 11, some (.x (.f (.func 147) [] [.p 2 0, .p 3 0]))), kb 2 206 4, kb 3 206 4, kc 2 0 (.i a0.Up.Conc), kc 2 1 (.i a0.Up.Thick), kc 2 2 (.i a0.Up.Ridge), kc 2 3 (.i a0.Up.Press), kc 3 0 (.i a0.Down.Conc), kc 3 1 (.i a0.Down.Thick), kc 3 2 (.i a0.Down.Ridge), kc 3 3 (.i a0.Down.Press)]) ?_ (kp rfl) rfl
      refine fqT ?_
      refine aqc rfl (fun hz24 => ?_) (fun hz24 => ?_)
      ·have hm := brk_t hz24 hm
       refine aqS ?_
       refine aqT (rows := [_]) rfl (by kernel_rfl) ⟨
        okp rfl rfl (oqA (lN rfl) rfl),
        trivial⟩ ?_
       refine fqK (s' := [kt 2 (.B false), (.u 0 3, some (.x (.p 2 0))), (.u 0 4, some (.x (.p 3 0))), (.u 0 11, some (.x (.f (.func 147) [] [.p 2 0, .p 3 0]))), kb 2 206 4, kb 3 206 4, kc 2 0 (.i a0.Up.Conc), kc 2 1 (.i a0.Up.Thick), kc 2 2 (.i a0.Up.Ridge), kc 2 3 (.i a0.Up.Press), kc 3 0 (.i a0.Down.Conc), kc 3 1 (.i a0.Down.Thick), kc 3 2 (.i a0.Down.Ridge), kc 3 3 (.i a0.Down.Press)]) ?_ (kp rfl) rfl
       refine fqT ?_
       refine aqr ?_
       refine fin_block_ret ?_
       refine fqR ?_
       refine fqR ?_
       refine fin_block_ret ?_
       refine fqR ?_
       have hm := Option.some.inj hm
       subst hm
       exact fin_callEnd _ _ _ (.inl rfl) rfl rfl (rqT rfl rqN) rfl hIv1 ⟨rfl, rfl, rfl, trivial⟩ ⟨rfl, rfl, rfl, rfl, rfl, rfl, rfl, rfl, rfl, rfl, trivial⟩ rfl rfl
      ·have hm := brk_f hz24 hm
       refine aqk ?_
       refine fqB ?_
       refine fqT ?_
       refine aqT (rows := [_, _]) rfl (by kernel_rfl) ⟨
        okp rfl rfl (oqB (r := .int .i64 4) (lN rfl) rfl rfl rfl),
        okp rfl rfl (oqM (lN rfl) rfl),
        trivial⟩ ?_
       refine fqK (s' := [kt 0 (.f (.func 147) [] [.p 2 0, .p 3 0]), kt 5 (.i 4), (.u 0 3, some (.x (.p 2 0))), (.u 0 4, some (.x (.p 3 0))), (.u 0 11, some (.x (.f (.func 147) [] [.p 2 0, .p 3 0]))), kb 2 206 4, kb 3 206 4, kc 2 0 (.i a0.Up.Conc), kc 2 1 (.i a0.Up.Thick), kc 2 2 (.i a0.Up.Ridge), kc 2 3 (.i a0.Up.Press), kc 3 0 (.i a0.Down.Conc), kc 3 1 (.i a0.Down.Thick), kc 3 2 (.i a0.Down.Ridge), kc 3 3 (.i a0.Down.Press)]) ?_ (kp rfl) rfl
       refine fin_round ?_
       refine aqS ?_
       refine aqT (rows := [_]) rfl (by kernel_rfl) ⟨
        okp rfl rfl (oqB (r := .bool false) (lN rfl) rfl rfl rfl),
        trivial⟩ ?_
       refine fqK (s' := [kt 0 (.f (.func 147) [] [.p 2 0, .p 3 0]), kt 5 (.i 4), kt 6 (.B false), (.u 0 3, some (.x (.p 2 0))), (.u 0 4, some (.x (.p 3 0))), (.u 0 11, some (.x (.f (.func 147) [] [.p 2 0, .p 3 0]))), kb 2 206 4, kb 3 206 4, kc 2 0 (.i a0.Up.Conc), kc 2 1 (.i a0.Up.Thick), kc 2 2 (.i a0.Up.Ridge), kc 2 3 (.i a0.Up.Press), kc 3 0 (.i a0.Down.Conc), kc 3 1 (.i a0.Down.Thick), kc 3 2 (.i a0.Down.Ridge), kc 3 3 (.i a0.Down.Press)]) ?_ (kp rfl) rfl
       refine fqT ?_
       refine aqS ?_
       refine aqc rfl (fun hz25 => by cases hz25) (fun hz25 => ?_)
       refine aw_exit ?_
       refine fqE ?_
       refine fqE ?_
       refine fin_block_exit ?_
       exact fqc () hm ⟨rfl, rfl, rfl, rfl, rfl, rfl, rfl, rfl, rfl, rfl, rfl, rfl, rfl, trivial⟩ rfl
  ·have _z := hm
   refine aqS ?_
   refine aqT (rows := [_]) rfl (by kernel_rfl) ⟨
    okp rfl rfl (oqA (lN rfl) rfl),
    trivial⟩ ?_
   refine fqK (s' := [kt 2 (.B true), (.u 0 3, some (.x (.p 2 0))), (.u 0 4, some (.x (.p 3 0))), (.u 0 11, some (.x (.f (.func 147) [] [.p 2 0, .p 3 0]))), kb 2 206 4, kb 3 206 4, kc 2 0 (.i a0.Up.Conc), kc 2 1 (.i a0.Up.Thick), kc 2 2 (.i a0.Up.Ridge), kc 2 3 (.i a0.Up.Press), kc 3 0 (.i a0.Down.Conc), kc 3 1 (.i a0.Down.Thick), kc 3 2 (.i a0.Down.Ridge), kc 3 3 (.i a0.Down.Press)]) ?_ (kp rfl) rfl
   refine fqT ?_
   refine aqr ?_
   have hm := Option.some.inj hm
   subst hm
   exact fin_callEnd _ _ _ (.inl rfl) rfl rfl (rqT rfl rqN) rfl hIv1 ⟨rfl, rfl, rfl, trivial⟩ ⟨rfl, rfl, rfl, rfl, rfl, rfl, rfl, rfl, rfl, rfl, trivial⟩ rfl rfl
 refine fqK (s' := [kt 13 (.B (!v1))]) ?_ (kp rfl) rfl
 refine fqT ?_
 refine aqc rfl (fun hz26 => ?_) (fun hz26 => ?_)
 ·have hm := brk_t hz26 hm
  refine aqS ?_
  refine aqT (rows := [_]) rfl (by kernel_rfl) ⟨
   okp rfl rfl (oqA (lN rfl) rfl),
   trivial⟩ ?_
  refine fqK (s' := [kt 2 (.i 6)]) ?_ (kp rfl) rfl
  refine fqT ?_
  refine aqr ?_
  refine fqR ?_
  refine pqr (x := .i 6) rfl rfl (rqT rfl rqN) rfl (fun mm aa ww hr => ?_)
  have hm := Option.some.inj hm
  subst hm
  exact ⟨rfl, hr.below⟩
 ·have hm := brk_f hz26 hm
  refine aqk ?_
  refine fqT ?_
  refine aqS ?_
  refine aqT (rows := [_]) rfl (by kernel_rfl) ⟨
   okp rfl rfl (oqA (lN rfl) rfl),
   trivial⟩ ?_
  refine fqK (s' := [kt 2 (.i 0)]) ?_ (kp rfl) rfl
  refine fqT ?_
  refine aqr ?_
  refine pqr (x := .i 0) rfl rfl (rqT rfl rqN) rfl (fun mm aa ww hr => ?_)
  have hm := Option.some.inj hm
  subst hm
  exact ⟨rfl, hr.below⟩
end Go.Proofs.T
