/-
  This file has contracts of functions of the program: where the mirror gives a value, the call returns it. Conditions: those that each theorem names.
-/
import Derived.Test.YtgpcfckbcldokaaDoorPa3
set_option linter.unusedVariables false
namespace Go.Proofs.T
open Go Go.AX Go.RowKit Hull
theorem sz_23 : sizeIn Tryd.prog 23 = some 1 := by kernel_rfl
theorem af_23 : appFact Tryd.prog 23 = some (84, 2, 16) := by kernel_rfl

def m15 (F : Nat) (a0 : List Int) : Option (Ship) :=
 chk (InR (1 + (dv a0 0 6))) (chk (InR (390 * (dv a0 1 256))) (chk (InR (100 + (390 * (dv a0 1 256)))) (chk (InR (7 * (dv a0 2 256))) (chk (InR (10 + (7 * (dv a0 2 256)))) (chk (InR (1900 * (dv a0 3 256))) (chk (InR (10 + (1900 * (dv a0 3 256)))) (chk (InR (2 * (dv a0 6 240))) (chk (InR (4 * (dv a0 7 256))) (chk (InR (20 * (dv a0 8 256))) (chk (InR (200 + (20 * (dv a0 8 256)))) (join (fun (x1 : List Pt × Nat) => join (fun (x3 : List Pt × Nat) => join (fun (x5 : Int × List Pt × Nat) => chk (InR (4 * (dv a0 x5.2.2 256))) (chk (InR (x5.1 + (4 * (dv a0 x5.2.2 256)))) (chk (x5.2.1.length ≤ 1000000) (some ((⟨1 + (dv a0 0 6), 100 + (390 * (dv a0 1 256)), 10 + (7 * (dv a0 2 256)), 10 + (1900 * (dv a0 3 256)), x1.1, x3.1, (x5.2.1 ++ [(⟨400, x5.1 + (4 * (dv a0 x5.2.2 256))⟩ : Pt)]), dv a0 4 21, dv a0 5 101, 2 * (dv a0 6 240), 4 * (dv a0 7 256)⟩ : Ship)))))) (fun k5 => loopC (fun (x6 : Int × Int × Int × List Pt × Nat) n6 => brk (decide (x6.2.2.1 < (dv a0 x3.2 4))) (chk (InR (x6.1 + 1)) (chk (InR ((x6.1 + 1) + (dv a0 x6.2.2.2.2 90))) (chk (InR (3 * (dv a0 ((x6.2.2.2.2 + 1)) 256))) (chk (InR (x6.2.1 + (3 * (dv a0 ((x6.2.2.2.2 + 1)) 256)))) (chk (x6.2.2.2.1.length ≤ 1000000) (chk (InR (x6.2.2.1 + 1)) (n6 ((x6.1 + 1) + (dv a0 x6.2.2.2.2 90), x6.2.1 + (3 * (dv a0 ((x6.2.2.2.2 + 1)) 256)), x6.2.2.1 + 1, (x6.2.2.2.1 ++ [(⟨(x6.1 + 1) + (dv a0 x6.2.2.2.2 90), x6.2.1 + (3 * (dv a0 ((x6.2.2.2.2 + 1)) 256))⟩ : Pt)]), ((x6.2.2.2.2 + 1) + 1))))))))) (k5 (x6.2.1, x6.2.2.2.1, x6.2.2.2.2))) F (0, 0, 0, [(⟨0, 0⟩ : Pt)], (x3.2 + 1)))) (fun k3 => chk (InR (1 + (dv a0 ((x1.2 + 1)) 3))) (loopC (fun (x4 : Int × Int × Int × List Pt × Nat) n4 => brk (decide (x4.2.2.1 < (1 + (dv a0 ((x1.2 + 1)) 3)))) (chk (InR (x4.1 + 1)) (chk (InR ((x4.1 + 1) + (dv a0 x4.2.2.2.2 80))) (chk (InR (3 * (dv a0 ((x4.2.2.2.2 + 1)) 256))) (chk (InR (x4.2.1 + (3 * (dv a0 ((x4.2.2.2.2 + 1)) 256)))) (chk (x4.2.2.2.1.length ≤ 1000000) (chk (InR (x4.2.2.1 + 1)) (n4 ((x4.1 + 1) + (dv a0 x4.2.2.2.2 80), x4.2.1 + (3 * (dv a0 ((x4.2.2.2.2 + 1)) 256)), x4.2.2.1 + 1, (x4.2.2.2.1 ++ [(⟨(x4.1 + 1) + (dv a0 x4.2.2.2.2 80), x4.2.1 + (3 * (dv a0 ((x4.2.2.2.2 + 1)) 256))⟩ : Pt)]), ((x4.2.2.2.2 + 1) + 1))))))))) (k3 (x4.2.2.2.1, x4.2.2.2.2))) F (0, dv a0 x1.2 50, 0, [(⟨0, dv a0 x1.2 50⟩ : Pt)], ((x1.2 + 1) + 1))))) (fun k1 => chk (InR (1 + (dv a0 9 4))) (loopC (fun (x2 : Int × Int × Int × List Pt × Nat) n2 => brk (decide (x2.2.2.1 < (1 + (dv a0 9 4)))) (chk (InR (x2.1 + 10)) (chk (InR ((x2.1 + 10) + (dv a0 x2.2.2.2.2 40))) (chk (InR (x2.2.1 * (dv a0 ((x2.2.2.2.2 + 1)) 101))) (chk (0 ≤ (x2.2.1 * (dv a0 ((x2.2.2.2.2 + 1)) 101)) ∧ (x2.2.1 * (dv a0 ((x2.2.2.2.2 + 1)) 101)) ≤ 9223372036854775807) (chk (x2.2.2.2.1.length ≤ 1000000) (chk (InR (x2.2.2.1 + 1)) (n2 ((x2.1 + 10) + (dv a0 x2.2.2.2.2 40), (x2.2.1 * (dv a0 ((x2.2.2.2.2 + 1)) 101)) / 100, x2.2.2.1 + 1, (x2.2.2.2.1 ++ [(⟨(x2.1 + 10) + (dv a0 x2.2.2.2.2 40), (x2.2.1 * (dv a0 ((x2.2.2.2.2 + 1)) 101)) / 100⟩ : Pt)]), ((x2.2.2.2.2 + 1) + 1))))))))) (k1 (x2.2.2.2.1, x2.2.2.2.2))) F (0, 200 + (20 * (dv a0 8 256)), 0, [(⟨0, 200 + (20 * (dv a0 8 256))⟩ : Pt)], 10))))))))))))))

set_option maxHeartbeats 4000000 in
set_option maxRecDepth 8000 in
theorem c15 (F : Nat) (a0 : List Int) (a0_s : SlV) (w : World) (ha0 : SlIs encU8 1 w a0_s a0) (h8a0 : ∀ x ∈ a0, 0 ≤ x ∧ x ≤ 255) (hlena0 : a0.length ≤ 9223372036854775807) (r : Ship) (hm : m15 F a0 = some r) : Calls Tryd.prog 15 #[.slice a0_s.p a0_s.n a0_s.c] w fun e w' => ∃ sl : List SlV, e = .returned ((fun vs => .agg #[.int .i64 r.Class, .int .i64 r.Power, .int .i64 r.Draught, .int .i64 r.Tonnes, (vs.getD 0 (.bool false)), (vs.getD 1 (.bool false)), (vs.getD 2 (.bool false)), .int .i64 r.Slow, .int .i64 r.Brash, .int .i64 r.Ridge, .int .i64 r.Press]) (sl.map SlV.val)) ∧ NewRowsD w w' sl [(r.Thrust.length, 84, 2, r.Thrust.flatMap encPt), (r.Water.length, 84, 2, r.Water.flatMap encPt), (r.Ice.length, 84, 2, r.Ice.flatMap encPt)] ∧ Below w.heap.size w w' := by
 obtain ⟨a0_p, a0_n, a0_c⟩ := a0_s
 have ha0_l : a0_n = a0.length := ha0.1
 subst ha0_l
 obtain ⟨a0_b, a0_o, ha0_p, ha0_L⟩ := SlAt.lies' ha0
 unfold m15 at hm
 refine enter (args := [.v (.slice a0_p a0.length a0_c)]) Tryd.func15 rfl (N := 135) rfl (Nat.le_of_ble_eq_true rfl) ?_
 refine aw_seq ?_
 refine aw_text (rows := [_]) rfl (by kernel_rfl) ⟨
  ok_plain rfl rfl (op_alloc (L := 1) (ltN rfl) zl_25),
  trivial⟩ ?_
 refine fin_keep (s' := [kt 0 (.v (.slice a0_p a0.length a0_c)), kt 2 (.p 1 0), kb 1 25 11, kc 1 0 (.i 0), kc 1 1 (.i 0), kc 1 2 (.i 0), kc 1 3 (.i 0), kc 1 4 (.v (.slice none 0 0)), kc 1 5 (.v (.slice none 0 0)), kc 1 6 (.v (.slice none 0 0)), kc 1 7 (.i 0), kc 1 8 (.i 0), kc 1 9 (.i 0), kc 1 10 (.i 0)]) ?_ (kp rfl) rfl
 refine fin_then ?_
 refine aw_seq ?_
 refine aw_text (rows := [_, _, _]) rfl (by kernel_rfl) ⟨
  ok_plain rfl rfl (op_move (ltN rfl) rfl),
  ok_plain rfl rfl (op_callTwo (L1 := 2) (L2 := 3) (ty1 := 3) (ty2 := 22) (v1 := [.int .i64 (idx a0 0)]) (v2 := [(.slice a0_p a0.length a0_c)]) (R := fun b1 b2 => .func (.func 83) #[] #[.pointer (some ⟨b1, 0, none⟩), .pointer (some ⟨b2, 0, none⟩)]) (x := .f (.func 83) [] [.p 2 0, .p 3 0]) (fs := []) (caps := []) (extra := []) (ltN rfl) en_22 rfl ⟨rfl, rfl, rfl⟩ (EvL.cons rfl EvL.nil) (by decide) (fun _ => rfl) (fun mm aa ww gg hr hrel => (c22 a0 ⟨a0_p, a0.length, a0_c⟩ ww (SlIs.mono ha0 hrel.below)))),
  ok_plain rfl rfl (op_assign (ltN rfl) rfl),
  trivial⟩ ?_
 refine fin_keep (s' := [kt 2 (.p 1 0), kt 3 (.f (.func 83) [] [.p 2 0, .p 3 0]), kb 1 25 11, kb 2 3 1, kb 3 22 1, kc 1 0 (.i 0), kc 1 1 (.i 0), kc 1 2 (.i 0), kc 1 3 (.i 0), kc 1 4 (.v (.slice none 0 0)), kc 1 5 (.v (.slice none 0 0)), kc 1 6 (.v (.slice none 0 0)), kc 1 7 (.i 0), kc 1 8 (.i 0), kc 1 9 (.i 0), kc 1 10 (.i 0), kc 2 0 (.i (idx a0 0)), kc 3 0 (.v (.slice a0_p a0.length a0_c))]) ?_ (kp rfl) rfl
 refine fin_then ?_
 refine aw_seq ?_
 obtain ⟨hp1, hm⟩ := chk_some hm
 obtain ⟨hp2, hm⟩ := chk_some hm
 obtain ⟨hp3, hm⟩ := chk_some hm
 obtain ⟨hp4, hm⟩ := chk_some hm
 obtain ⟨hp5, hm⟩ := chk_some hm
 obtain ⟨hp6, hm⟩ := chk_some hm
 obtain ⟨hp7, hm⟩ := chk_some hm
 obtain ⟨hp8, hm⟩ := chk_some hm
 obtain ⟨hp9, hm⟩ := chk_some hm
 refine aw_text (rows := [_, _, _, _, _, _, _, _, _, _, _, _, _, _, _, _, _, _, _, _, _, _, _, _, _, _, _, _]) rfl (by kernel_rfl) ⟨
  ok_plain rfl rfl (op_move (ltN rfl) rfl),
  ok_plain rfl rfl (op_callLentL (ls := [⟨2, 3, [.i (idx a0 0)], [.i (idx a0 1)]⟩, ⟨3, 22, [.v (.slice a0_p a0.length a0_c)], [.v (.slice a0_p a0.length a0_c)]⟩]) (x := .i (dv a0 0 6)) (fs := []) (caps := [.p 2 0, .p 3 0]) (extra := []) (ltN rfl) en_83 rfl ⟨rfl, rfl, rfl⟩ (EvL.cons rfl EvL.nil) ⟨rfl, ⟨rfl, trivial⟩, rfl, lb_ne rfl, ⟨rfl, ⟨rfl, trivial⟩, rfl, lb_ne rfl, trivial⟩⟩ (fun mm aa ww gg hr hrel hbx hlo => c83L 6 0 (mm 2) a0 ⟨a0_p, a0.length, a0_c⟩ (mm 3) ww (hbx _ (.head _)) (hbx _ (.tail _ (.head _))) (SlIs.mono ha0 hrel.below) (sl_ne ha0 (box_hi hrel hlo.1)) (box_ne hrel hlo.2.2.2.2.1 hlo.1 (by decide)) (by decide) h8a0 hlena0)),
  ok_plain rfl rfl (op_bin (ltN rfl) rfl rfl (nw_add hp1)),
  ok_plain rfl rfl (op_move (ltN rfl) rfl),
  ok_plain rfl rfl (op_callLentL (ls := [⟨2, 3, [.i (idx a0 1)], [.i (idx a0 2)]⟩, ⟨3, 22, [.v (.slice a0_p a0.length a0_c)], [.v (.slice a0_p a0.length a0_c)]⟩]) (x := .i (dv a0 1 256)) (fs := []) (caps := [.p 2 0, .p 3 0]) (extra := []) (ltN rfl) en_83 rfl ⟨rfl, rfl, rfl⟩ (EvL.cons rfl EvL.nil) ⟨rfl, ⟨rfl, trivial⟩, rfl, lb_ne rfl, ⟨rfl, ⟨rfl, trivial⟩, rfl, lb_ne rfl, trivial⟩⟩ (fun mm aa ww gg hr hrel hbx hlo => c83L 256 1 (mm 2) a0 ⟨a0_p, a0.length, a0_c⟩ (mm 3) ww (hbx _ (.head _)) (hbx _ (.tail _ (.head _))) (SlIs.mono ha0 hrel.below) (sl_ne ha0 (box_hi hrel hlo.1)) (box_ne hrel hlo.2.2.2.2.1 hlo.1 (by decide)) (by decide) h8a0 hlena0)),
  ok_plain rfl rfl (op_bin (ltN rfl) rfl rfl (nw_mul hp2)),
  ok_plain rfl rfl (op_bin (ltN rfl) rfl rfl (nw_add hp3)),
  ok_plain rfl rfl (op_move (ltN rfl) rfl),
  ok_plain rfl rfl (op_callLentL (ls := [⟨2, 3, [.i (idx a0 2)], [.i (idx a0 3)]⟩, ⟨3, 22, [.v (.slice a0_p a0.length a0_c)], [.v (.slice a0_p a0.length a0_c)]⟩]) (x := .i (dv a0 2 256)) (fs := []) (caps := [.p 2 0, .p 3 0]) (extra := []) (ltN rfl) en_83 rfl ⟨rfl, rfl, rfl⟩ (EvL.cons rfl EvL.nil) ⟨rfl, ⟨rfl, trivial⟩, rfl, lb_ne rfl, ⟨rfl, ⟨rfl, trivial⟩, rfl, lb_ne rfl, trivial⟩⟩ (fun mm aa ww gg hr hrel hbx hlo => c83L 256 2 (mm 2) a0 ⟨a0_p, a0.length, a0_c⟩ (mm 3) ww (hbx _ (.head _)) (hbx _ (.tail _ (.head _))) (SlIs.mono ha0 hrel.below) (sl_ne ha0 (box_hi hrel hlo.1)) (box_ne hrel hlo.2.2.2.2.1 hlo.1 (by decide)) (by decide) h8a0 hlena0)),
  ok_plain rfl rfl (op_bin (ltN rfl) rfl rfl (nw_mul hp4)),
  ok_plain rfl rfl (op_bin (ltN rfl) rfl rfl (nw_add hp5)),
  ok_plain rfl rfl (op_move (ltN rfl) rfl),
  ok_plain rfl rfl (op_callLentL (ls := [⟨2, 3, [.i (idx a0 3)], [.i (idx a0 4)]⟩, ⟨3, 22, [.v (.slice a0_p a0.length a0_c)], [.v (.slice a0_p a0.length a0_c)]⟩]) (x := .i (dv a0 3 256)) (fs := []) (caps := [.p 2 0, .p 3 0]) (extra := []) (ltN rfl) en_83 rfl ⟨rfl, rfl, rfl⟩ (EvL.cons rfl EvL.nil) ⟨rfl, ⟨rfl, trivial⟩, rfl, lb_ne rfl, ⟨rfl, ⟨rfl, trivial⟩, rfl, lb_ne rfl, trivial⟩⟩ (fun mm aa ww gg hr hrel hbx hlo => c83L 256 3 (mm 2) a0 ⟨a0_p, a0.length, a0_c⟩ (mm 3) ww (hbx _ (.head _)) (hbx _ (.tail _ (.head _))) (SlIs.mono ha0 hrel.below) (sl_ne ha0 (box_hi hrel hlo.1)) (box_ne hrel hlo.2.2.2.2.1 hlo.1 (by decide)) (by decide) h8a0 hlena0)),
  ok_plain rfl rfl (op_bin (ltN rfl) rfl rfl (nw_mul hp6)),
  ok_plain rfl rfl (op_bin (ltN rfl) rfl rfl (nw_add hp7)),
  ok_plain rfl rfl (op_move (ltN rfl) rfl),
  ok_plain rfl rfl (op_callLentL (ls := [⟨2, 3, [.i (idx a0 4)], [.i (idx a0 5)]⟩, ⟨3, 22, [.v (.slice a0_p a0.length a0_c)], [.v (.slice a0_p a0.length a0_c)]⟩]) (x := .i (dv a0 4 21)) (fs := []) (caps := [.p 2 0, .p 3 0]) (extra := []) (ltN rfl) en_83 rfl ⟨rfl, rfl, rfl⟩ (EvL.cons rfl EvL.nil) ⟨rfl, ⟨rfl, trivial⟩, rfl, lb_ne rfl, ⟨rfl, ⟨rfl, trivial⟩, rfl, lb_ne rfl, trivial⟩⟩ (fun mm aa ww gg hr hrel hbx hlo => c83L 21 4 (mm 2) a0 ⟨a0_p, a0.length, a0_c⟩ (mm 3) ww (hbx _ (.head _)) (hbx _ (.tail _ (.head _))) (SlIs.mono ha0 hrel.below) (sl_ne ha0 (box_hi hrel hlo.1)) (box_ne hrel hlo.2.2.2.2.1 hlo.1 (by decide)) (by decide) h8a0 hlena0)),
  ok_plain rfl rfl (op_move (ltN rfl) rfl),
  ok_plain rfl rfl (op_callLentL (ls := [⟨2, 3, [.i (idx a0 5)], [.i (idx a0 6)]⟩, ⟨3, 22, [.v (.slice a0_p a0.length a0_c)], [.v (.slice a0_p a0.length a0_c)]⟩]) (x := .i (dv a0 5 101)) (fs := []) (caps := [.p 2 0, .p 3 0]) (extra := []) (ltN rfl) en_83 rfl ⟨rfl, rfl, rfl⟩ (EvL.cons rfl EvL.nil) ⟨rfl, ⟨rfl, trivial⟩, rfl, lb_ne rfl, ⟨rfl, ⟨rfl, trivial⟩, rfl, lb_ne rfl, trivial⟩⟩ (fun mm aa ww gg hr hrel hbx hlo => c83L 101 5 (mm 2) a0 ⟨a0_p, a0.length, a0_c⟩ (mm 3) ww (hbx _ (.head _)) (hbx _ (.tail _ (.head _))) (SlIs.mono ha0 hrel.below) (sl_ne ha0 (box_hi hrel hlo.1)) (box_ne hrel hlo.2.2.2.2.1 hlo.1 (by decide)) (by decide) h8a0 hlena0)),
  ok_plain rfl rfl (op_move (ltN rfl) rfl),
  ok_plain rfl rfl (op_callLentL (ls := [⟨2, 3, [.i (idx a0 6)], [.i (idx a0 7)]⟩, ⟨3, 22, [.v (.slice a0_p a0.length a0_c)], [.v (.slice a0_p a0.length a0_c)]⟩]) (x := .i (dv a0 6 240)) (fs := []) (caps := [.p 2 0, .p 3 0]) (extra := []) (ltN rfl) en_83 rfl ⟨rfl, rfl, rfl⟩ (EvL.cons rfl EvL.nil) ⟨rfl, ⟨rfl, trivial⟩, rfl, lb_ne rfl, ⟨rfl, ⟨rfl, trivial⟩, rfl, lb_ne rfl, trivial⟩⟩ (fun mm aa ww gg hr hrel hbx hlo => c83L 240 6 (mm 2) a0 ⟨a0_p, a0.length, a0_c⟩ (mm 3) ww (hbx _ (.head _)) (hbx _ (.tail _ (.head _))) (SlIs.mono ha0 hrel.below) (sl_ne ha0 (box_hi hrel hlo.1)) (box_ne hrel hlo.2.2.2.2.1 hlo.1 (by decide)) (by decide) h8a0 hlena0)),
  ok_plain rfl rfl (op_bin (ltN rfl) rfl rfl (nw_mul hp8)),
  ok_plain rfl rfl (op_move (ltN rfl) rfl),
  ok_plain rfl rfl (op_callLentL (ls := [⟨2, 3, [.i (idx a0 7)], [.i (idx a0 8)]⟩, ⟨3, 22, [.v (.slice a0_p a0.length a0_c)], [.v (.slice a0_p a0.length a0_c)]⟩]) (x := .i (dv a0 7 256)) (fs := []) (caps := [.p 2 0, .p 3 0]) (extra := []) (ltN rfl) en_83 rfl ⟨rfl, rfl, rfl⟩ (EvL.cons rfl EvL.nil) ⟨rfl, ⟨rfl, trivial⟩, rfl, lb_ne rfl, ⟨rfl, ⟨rfl, trivial⟩, rfl, lb_ne rfl, trivial⟩⟩ (fun mm aa ww gg hr hrel hbx hlo => c83L 256 7 (mm 2) a0 ⟨a0_p, a0.length, a0_c⟩ (mm 3) ww (hbx _ (.head _)) (hbx _ (.tail _ (.head _))) (SlIs.mono ha0 hrel.below) (sl_ne ha0 (box_hi hrel hlo.1)) (box_ne hrel hlo.2.2.2.2.1 hlo.1 (by decide)) (by decide) h8a0 hlena0)),
  ok_plain rfl rfl (op_bin (ltN rfl) rfl rfl (nw_mul hp9)),
  ok_plain rfl rfl (op_build (x := .g [.i (1 + (dv a0 0 6)), .i (100 + (390 * (dv a0 1 256))), .i (10 + (7 * (dv a0 2 256))), .i (10 + (1900 * (dv a0 3 256))), .v (.slice none 0 0), .v (.slice none 0 0), .v (.slice none 0 0), .i (dv a0 4 21), .i (dv a0 5 101), .i (2 * (dv a0 6 240)), .i (4 * (dv a0 7 256))]) (ltN rfl) (EvL.cons rfl (EvL.cons rfl (EvL.cons rfl (EvL.cons rfl (EvL.cons rfl (EvL.cons rfl (EvL.cons rfl (EvL.cons rfl EvL.nil)))))))) (fun m w => by kernel_rfl)),
  ok_plain rfl rfl (op_alloc (L := 4) (ltN rfl) zl_25),
  ok_plain rfl rfl (op_storeN sz_25 rfl rfl rfl rfl rfl (by decide)),
  trivial⟩ ?_
 refine fin_keep (s' := [kt 2 (.p 1 0), kt 3 (.f (.func 83) [] [.p 2 0, .p 3 0]), kt 4 (.p 4 0), kb 1 25 11, kb 2 3 1, kb 3 22 1, kb 4 25 11, kc 1 0 (.i 0), kc 1 1 (.i 0), kc 1 2 (.i 0), kc 1 3 (.i 0), kc 1 4 (.v (.slice none 0 0)), kc 1 5 (.v (.slice none 0 0)), kc 1 6 (.v (.slice none 0 0)), kc 1 7 (.i 0), kc 1 8 (.i 0), kc 1 9 (.i 0), kc 1 10 (.i 0), kc 2 0 (.i (idx a0 8)), kc 3 0 (.v (.slice a0_p a0.length a0_c)), kc 4 0 (.i (1 + (dv a0 0 6))), kc 4 1 (.i (100 + (390 * (dv a0 1 256)))), kc 4 2 (.i (10 + (7 * (dv a0 2 256)))), kc 4 3 (.i (10 + (1900 * (dv a0 3 256)))), kc 4 4 (.v (.slice none 0 0)), kc 4 5 (.v (.slice none 0 0)), kc 4 6 (.v (.slice none 0 0)), kc 4 7 (.i (dv a0 4 21)), kc 4 8 (.i (dv a0 5 101)), kc 4 9 (.i (2 * (dv a0 6 240))), kc 4 10 (.i (4 * (dv a0 7 256)))]) ?_ (kp rfl) rfl
 refine fin_then ?_
 refine aw_seq ?_
 obtain ⟨hp10, hm⟩ := chk_some hm
 obtain ⟨hp11, hm⟩ := chk_some hm
 refine aw_text (rows := [_, _, _, _, _, _]) rfl (by kernel_rfl) ⟨
  ok_plain rfl rfl (op_move (ltN rfl) rfl),
  ok_plain rfl rfl (op_callLentL (ls := [⟨2, 3, [.i (idx a0 8)], [.i (idx a0 9)]⟩, ⟨3, 22, [.v (.slice a0_p a0.length a0_c)], [.v (.slice a0_p a0.length a0_c)]⟩]) (x := .i (dv a0 8 256)) (fs := []) (caps := [.p 2 0, .p 3 0]) (extra := []) (ltN rfl) en_83 rfl ⟨rfl, rfl, rfl⟩ (EvL.cons rfl EvL.nil) ⟨rfl, ⟨rfl, trivial⟩, rfl, lb_ne rfl, ⟨rfl, ⟨rfl, trivial⟩, rfl, lb_ne rfl, trivial⟩⟩ (fun mm aa ww gg hr hrel hbx hlo => c83L 256 8 (mm 2) a0 ⟨a0_p, a0.length, a0_c⟩ (mm 3) ww (hbx _ (.head _)) (hbx _ (.tail _ (.head _))) (SlIs.mono ha0 hrel.below) (sl_ne ha0 (box_hi hrel hlo.1)) (box_ne hrel hlo.2.2.2.2.1 hlo.1 (by decide)) (by decide) h8a0 hlena0)),
  ok_plain rfl rfl (op_bin (ltN rfl) rfl rfl (nw_mul hp10)),
  ok_plain rfl rfl (op_bin (ltN rfl) rfl rfl (nw_add hp11)),
  ok_plain rfl rfl (op_assign (ltN rfl) rfl),
  ok_plain rfl rfl (op_assign (ltN rfl) rfl),
  trivial⟩ ?_
 refine fin_keep (s' := [kt 2 (.p 1 0), kt 3 (.f (.func 83) [] [.p 2 0, .p 3 0]), kt 4 (.p 4 0), kt 5 (.i 0), kt 6 (.i (200 + (20 * (dv a0 8 256)))), kb 1 25 11, kb 2 3 1, kb 3 22 1, kb 4 25 11, kc 1 0 (.i 0), kc 1 1 (.i 0), kc 1 2 (.i 0), kc 1 3 (.i 0), kc 1 4 (.v (.slice none 0 0)), kc 1 5 (.v (.slice none 0 0)), kc 1 6 (.v (.slice none 0 0)), kc 1 7 (.i 0), kc 1 8 (.i 0), kc 1 9 (.i 0), kc 1 10 (.i 0), kc 2 0 (.i (idx a0 9)), kc 3 0 (.v (.slice a0_p a0.length a0_c)), kc 4 0 (.i (1 + (dv a0 0 6))), kc 4 1 (.i (100 + (390 * (dv a0 1 256)))), kc 4 2 (.i (10 + (7 * (dv a0 2 256)))), kc 4 3 (.i (10 + (1900 * (dv a0 3 256)))), kc 4 4 (.v (.slice none 0 0)), kc 4 5 (.v (.slice none 0 0)), kc 4 6 (.v (.slice none 0 0)), kc 4 7 (.i (dv a0 4 21)), kc 4 8 (.i (dv a0 5 101)), kc 4 9 (.i (2 * (dv a0 6 240))), kc 4 10 (.i (4 * (dv a0 7 256)))]) ?_ (kp rfl) rfl
 refine fin_then ?_
 refine aw_seq ?_
 refine aw_text (rows := [_, _, _, _, _]) rfl (by kernel_rfl) ⟨
  ok_plain rfl rfl (op_move (ltN rfl) rfl),
  ok_plain rfl rfl (op_build (x := .g [.i 0, .i (200 + (20 * (dv a0 8 256)))]) (ltN rfl) (EvL.cons rfl (EvL.cons rfl EvL.nil)) (fun m w => by kernel_rfl)),
  ok_plain rfl rfl (op_buildSlice (L := 5) (ety := 84) (cs := [.i 0, .i (200 + (20 * (dv a0 8 256)))]) (ltN rfl) (EvL.cons rfl EvL.nil) rfl (fun m w => by kernel_rfl)),
  ok_plain rfl rfl (op_fieldAddr (ltN rfl) rfl fo_25_4),
  ok_plain rfl rfl (op_store1 sz_23 rfl rfl rfl rfl (ltN rfl)),
  trivial⟩ ?_
 refine fin_keep (s' := [kt 2 (.p 1 0), kt 3 (.f (.func 83) [] [.p 2 0, .p 3 0]), kt 4 (.p 4 0), kt 5 (.i 0), kt 6 (.i (200 + (20 * (dv a0 8 256)))), kb 1 25 11, kb 2 3 1, kb 3 22 1, kb 4 25 11, kb 5 84 2, kc 1 0 (.i 0), kc 1 1 (.i 0), kc 1 2 (.i 0), kc 1 3 (.i 0), kc 1 4 (.v (.slice none 0 0)), kc 1 5 (.v (.slice none 0 0)), kc 1 6 (.v (.slice none 0 0)), kc 1 7 (.i 0), kc 1 8 (.i 0), kc 1 9 (.i 0), kc 1 10 (.i 0), kc 2 0 (.i (idx a0 9)), kc 3 0 (.v (.slice a0_p a0.length a0_c)), kc 4 0 (.i (1 + (dv a0 0 6))), kc 4 1 (.i (100 + (390 * (dv a0 1 256)))), kc 4 2 (.i (10 + (7 * (dv a0 2 256)))), kc 4 3 (.i (10 + (1900 * (dv a0 3 256)))), kc 4 4 (.s 5 0 1 1), kc 4 5 (.v (.slice none 0 0)), kc 4 6 (.v (.slice none 0 0)), kc 4 7 (.i (dv a0 4 21)), kc 4 8 (.i (dv a0 5 101)), kc 4 9 (.i (2 * (dv a0 6 240))), kc 4 10 (.i (4 * (dv a0 7 256))), kc 5 0 (.i 0), kc 5 1 (.i (200 + (20 * (dv a0 8 256))))]) ?_ (kp rfl) rfl
 refine fin_then ?_
 refine aw_cutM (ι := List Pt × Nat) hm (fun x1 => [kt 2 (.p 1 0), kt 3 (.f (.func 83) [] [.p 2 0, .p 3 0]), kt 4 (.p 4 0), kb 1 25 11, kb 2 3 1, kb 3 22 1, kb 4 25 11, (.r 300, some (.vec true 301 84 2 (x1.1.flatMap encPt))), kc 1 0 (.i 0), kc 1 1 (.i 0), kc 1 2 (.i 0), kc 1 3 (.i 0), kc 1 4 (.v (.slice none 0 0)), kc 1 5 (.v (.slice none 0 0)), kc 1 6 (.v (.slice none 0 0)), kc 1 7 (.i 0), kc 1 8 (.i 0), kc 1 9 (.i 0), kc 1 10 (.i 0), kc 2 0 (.i (idx a0 x1.2)), kc 3 0 (.v (.slice a0_p a0.length a0_c)), kc 4 0 (.i (1 + (dv a0 0 6))), kc 4 1 (.i (100 + (390 * (dv a0 1 256)))), kc 4 2 (.i (10 + (7 * (dv a0 2 256)))), kc 4 3 (.i (10 + (1900 * (dv a0 3 256)))), kc 4 4 (.o 300 301 x1.1.length), kc 4 5 (.v (.slice none 0 0)), kc 4 6 (.v (.slice none 0 0)), kc 4 7 (.i (dv a0 4 21)), kc 4 8 (.i (dv a0 5 101)), kc 4 9 (.i (2 * (dv a0 6 240))), kc 4 10 (.i (4 * (dv a0 7 256)))]) (fun hm => ?_) (fun x1 hm => ?_)
 ·have _z := hm
  refine aw_seq ?_
  obtain ⟨hp12, hm⟩ := chk_some hm
  refine aw_text (rows := [_, _, _, _]) rfl (by kernel_rfl) ⟨
   ok_plain rfl rfl (op_move (ltN rfl) rfl),
   ok_plain rfl rfl (op_callLentL (ls := [⟨2, 3, [.i (idx a0 9)], [.i (idx a0 10)]⟩, ⟨3, 22, [.v (.slice a0_p a0.length a0_c)], [.v (.slice a0_p a0.length a0_c)]⟩]) (x := .i (dv a0 9 4)) (fs := []) (caps := [.p 2 0, .p 3 0]) (extra := []) (ltN rfl) en_83 rfl ⟨rfl, rfl, rfl⟩ (EvL.cons rfl EvL.nil) ⟨rfl, ⟨rfl, trivial⟩, rfl, lb_ne rfl, ⟨rfl, ⟨rfl, trivial⟩, rfl, lb_ne rfl, trivial⟩⟩ (fun mm aa ww gg hr hrel hbx hlo => c83L 4 9 (mm 2) a0 ⟨a0_p, a0.length, a0_c⟩ (mm 3) ww (hbx _ (.head _)) (hbx _ (.tail _ (.head _))) (SlIs.mono ha0 hrel.below) (sl_ne ha0 (box_hi hrel hlo.1)) (box_ne hrel hlo.2.2.2.2.1 hlo.1 (by decide)) (by decide) h8a0 hlena0)),
   ok_plain rfl rfl (op_bin (ltN rfl) rfl rfl (nw_add hp12)),
   ok_plain rfl rfl (op_move (ltN rfl) rfl),
   trivial⟩ ?_
  refine fin_keep (s' := [kt 2 (.p 1 0), kt 3 (.f (.func 83) [] [.p 2 0, .p 3 0]), kt 4 (.p 4 0), kt 5 (.i 0), kt 6 (.i (200 + (20 * (dv a0 8 256)))), kt 45 (.i (1 + (dv a0 9 4))), kt 46 (.i 0), kb 1 25 11, kb 2 3 1, kb 3 22 1, kb 4 25 11, kb 5 84 2, kc 1 0 (.i 0), kc 1 1 (.i 0), kc 1 2 (.i 0), kc 1 3 (.i 0), kc 1 4 (.v (.slice none 0 0)), kc 1 5 (.v (.slice none 0 0)), kc 1 6 (.v (.slice none 0 0)), kc 1 7 (.i 0), kc 1 8 (.i 0), kc 1 9 (.i 0), kc 1 10 (.i 0), kc 2 0 (.i (idx a0 10)), kc 3 0 (.v (.slice a0_p a0.length a0_c)), kc 4 0 (.i (1 + (dv a0 0 6))), kc 4 1 (.i (100 + (390 * (dv a0 1 256)))), kc 4 2 (.i (10 + (7 * (dv a0 2 256)))), kc 4 3 (.i (10 + (1900 * (dv a0 3 256)))), kc 4 4 (.s 5 0 1 1), kc 4 5 (.v (.slice none 0 0)), kc 4 6 (.v (.slice none 0 0)), kc 4 7 (.i (dv a0 4 21)), kc 4 8 (.i (dv a0 5 101)), kc 4 9 (.i (2 * (dv a0 6 240))), kc 4 10 (.i (4 * (dv a0 7 256))), kc 5 0 (.i 0), kc 5 1 (.i (200 + (20 * (dv a0 8 256))))]) ?_ (kp rfl) rfl
  refine fin_then ?_
  refine aw_block ?_
  refine aw_toRow (.c 4 4) 5 6 1 2 [(.int .i64 0), (.int .i64 (200 + (20 * (dv a0 8 256))))] rfl rfl rfl rfl (by decide) ⟨rfl, rfl, trivial⟩ rfl (by decide) rfl ?_
  refine aw_swp [(5, 300), (6, 301)] rfl ?_
  refine aw_loopC hm (fun x2 => [kt 2 (.p 1 0), kt 3 (.f (.func 83) [] [.p 2 0, .p 3 0]), kt 4 (.p 4 0), kt 5 (.i x2.1), kt 6 (.i x2.2.1), kt 45 (.i (1 + (dv a0 9 4))), kt 46 (.i x2.2.2.1), kb 1 25 11, kb 2 3 1, kb 3 22 1, kb 4 25 11, (.r 300, some (.vec true 301 84 2 (x2.2.2.2.1.flatMap encPt))), kc 1 0 (.i 0), kc 1 1 (.i 0), kc 1 2 (.i 0), kc 1 3 (.i 0), kc 1 4 (.v (.slice none 0 0)), kc 1 5 (.v (.slice none 0 0)), kc 1 6 (.v (.slice none 0 0)), kc 1 7 (.i 0), kc 1 8 (.i 0), kc 1 9 (.i 0), kc 1 10 (.i 0), kc 2 0 (.i (idx a0 x2.2.2.2.2)), kc 3 0 (.v (.slice a0_p a0.length a0_c)), kc 4 0 (.i (1 + (dv a0 0 6))), kc 4 1 (.i (100 + (390 * (dv a0 1 256)))), kc 4 2 (.i (10 + (7 * (dv a0 2 256)))), kc 4 3 (.i (10 + (1900 * (dv a0 3 256)))), kc 4 4 (.o 300 301 x2.2.2.2.1.length), kc 4 5 (.v (.slice none 0 0)), kc 4 6 (.v (.slice none 0 0)), kc 4 7 (.i (dv a0 4 21)), kc 4 8 (.i (dv a0 5 101)), kc 4 9 (.i (2 * (dv a0 6 240))), kc 4 10 (.i (4 * (dv a0 7 256)))]) ⟨rfl, rfl, rfl, rfl, rfl, rfl, rfl, rfl, rfl, rfl, rfl, rfl, rfl, rfl, rfl, rfl, rfl, rfl, rfl, rfl, rfl, rfl, rfl, rfl, rfl, rfl, rfl, rfl, rfl, rfl, rfl, rfl, rfl, rfl, rfl, rfl, trivial⟩ rfl (fun x2 n2 hm => ?_)
  refine aw_seq ?_
  refine aw_text (rows := [_]) rfl (by kernel_rfl) ⟨
   ok_plain rfl rfl (op_bin (ltN rfl) rfl rfl rfl),
   trivial⟩ ?_
  refine fin_keep (s' := [kt 2 (.p 1 0), kt 3 (.f (.func 83) [] [.p 2 0, .p 3 0]), kt 4 (.p 4 0), kt 5 (.i x2.1), kt 6 (.i x2.2.1), kt 45 (.i (1 + (dv a0 9 4))), kt 46 (.i x2.2.2.1), kt 47 (.B (decide (x2.2.2.1 < (1 + (dv a0 9 4))))), kb 1 25 11, kb 2 3 1, kb 3 22 1, kb 4 25 11, (.r 300, some (.vec true 301 84 2 (x2.2.2.2.1.flatMap encPt))), kc 1 0 (.i 0), kc 1 1 (.i 0), kc 1 2 (.i 0), kc 1 3 (.i 0), kc 1 4 (.v (.slice none 0 0)), kc 1 5 (.v (.slice none 0 0)), kc 1 6 (.v (.slice none 0 0)), kc 1 7 (.i 0), kc 1 8 (.i 0), kc 1 9 (.i 0), kc 1 10 (.i 0), kc 2 0 (.i (idx a0 x2.2.2.2.2)), kc 3 0 (.v (.slice a0_p a0.length a0_c)), kc 4 0 (.i (1 + (dv a0 0 6))), kc 4 1 (.i (100 + (390 * (dv a0 1 256)))), kc 4 2 (.i (10 + (7 * (dv a0 2 256)))), kc 4 3 (.i (10 + (1900 * (dv a0 3 256)))), kc 4 4 (.o 300 301 x2.2.2.2.1.length), kc 4 5 (.v (.slice none 0 0)), kc 4 6 (.v (.slice none 0 0)), kc 4 7 (.i (dv a0 4 21)), kc 4 8 (.i (dv a0 5 101)), kc 4 9 (.i (2 * (dv a0 6 240))), kc 4 10 (.i (4 * (dv a0 7 256)))]) ?_ (kp rfl) rfl
  refine fin_then ?_
  refine aw_seq ?_
  refine aw_cond rfl (fun hz13 => ?_) (fun hz13 => ?_)
  ·have hm := brk_t hz13 hm
   refine aw_skip ?_
   refine fin_then ?_
   refine aw_seq ?_
   refine aw_block ?_
   refine aw_seq ?_
   obtain ⟨hp14, hm⟩ := chk_some hm
   obtain ⟨hp15, hm⟩ := chk_some hm
   obtain ⟨hp16, hm⟩ := chk_some hm
   obtain ⟨hp17, hm⟩ := chk_some hm
   refine aw_text (rows := [_, _, _, _, _, _, _, _, _, _, _, _]) rfl (by kernel_rfl) ⟨
    ok_plain rfl rfl (op_move (ltN rfl) rfl),
    ok_plain rfl rfl (op_bin (ltN rfl) rfl rfl (nw_add hp14)),
    ok_plain rfl rfl (op_move (ltN rfl) rfl),
    ok_plain rfl rfl (op_callLentL (ls := [⟨2, 3, [.i (idx a0 x2.2.2.2.2)], [.i (idx a0 (x2.2.2.2.2 + 1))]⟩, ⟨3, 22, [.v (.slice a0_p a0.length a0_c)], [.v (.slice a0_p a0.length a0_c)]⟩]) (x := .i (dv a0 x2.2.2.2.2 40)) (fs := []) (caps := [.p 2 0, .p 3 0]) (extra := []) (ltN rfl) en_83 rfl ⟨rfl, rfl, rfl⟩ (EvL.cons rfl EvL.nil) ⟨rfl, ⟨rfl, trivial⟩, rfl, lb_ne rfl, ⟨rfl, ⟨rfl, trivial⟩, rfl, lb_ne rfl, trivial⟩⟩ (fun mm aa ww gg hr hrel hbx hlo => c83L 40 x2.2.2.2.2 (mm 2) a0 ⟨a0_p, a0.length, a0_c⟩ (mm 3) ww (hbx _ (.head _)) (hbx _ (.tail _ (.head _))) (SlIs.mono ha0 hrel.below) (sl_ne ha0 (box_hi hrel hlo.1)) (box_ne hrel hlo.2.2.2.2.1 hlo.1 (by decide)) (by decide) h8a0 hlena0)),
    ok_plain rfl rfl (op_bin (ltN rfl) rfl rfl (nw_add hp15)),
    ok_plain rfl rfl (op_move (ltN rfl) rfl),
    ok_plain rfl rfl (op_move (ltN rfl) rfl),
    ok_plain rfl rfl (op_callLentL (ls := [⟨2, 3, [.i (idx a0 (x2.2.2.2.2 + 1))], [.i (idx a0 ((x2.2.2.2.2 + 1) + 1))]⟩, ⟨3, 22, [.v (.slice a0_p a0.length a0_c)], [.v (.slice a0_p a0.length a0_c)]⟩]) (x := .i (dv a0 ((x2.2.2.2.2 + 1)) 101)) (fs := []) (caps := [.p 2 0, .p 3 0]) (extra := []) (ltN rfl) en_83 rfl ⟨rfl, rfl, rfl⟩ (EvL.cons rfl EvL.nil) ⟨rfl, ⟨rfl, trivial⟩, rfl, lb_ne rfl, ⟨rfl, ⟨rfl, trivial⟩, rfl, lb_ne rfl, trivial⟩⟩ (fun mm aa ww gg hr hrel hbx hlo => c83L 101 ((x2.2.2.2.2 + 1)) (mm 2) a0 ⟨a0_p, a0.length, a0_c⟩ (mm 3) ww (hbx _ (.head _)) (hbx _ (.tail _ (.head _))) (SlIs.mono ha0 hrel.below) (sl_ne ha0 (box_hi hrel hlo.1)) (box_ne hrel hlo.2.2.2.2.1 hlo.1 (by decide)) (by decide) h8a0 hlena0)),
    ok_plain rfl rfl (op_bin (ltN rfl) rfl rfl (nw_mul hp16)),
    ok_plain rfl rfl (op_quo (ltN rfl) rfl rfl (by decide) (quo_nn hp17.1 (by decide) hp17.2)),
    ok_plain rfl rfl (op_assign (ltN rfl) rfl),
    ok_plain rfl rfl (op_assign (ltN rfl) rfl),
    trivial⟩ ?_
   refine fin_keep (s' := [kt 2 (.p 1 0), kt 3 (.f (.func 83) [] [.p 2 0, .p 3 0]), kt 4 (.p 4 0), kt 5 (.i ((x2.1 + 10) + (dv a0 x2.2.2.2.2 40))), kt 6 (.i ((x2.2.1 * (dv a0 ((x2.2.2.2.2 + 1)) 101)) / 100)), kt 45 (.i (1 + (dv a0 9 4))), kt 46 (.i x2.2.2.1), kb 1 25 11, kb 2 3 1, kb 3 22 1, kb 4 25 11, (.r 300, some (.vec true 301 84 2 (x2.2.2.2.1.flatMap encPt))), kc 1 0 (.i 0), kc 1 1 (.i 0), kc 1 2 (.i 0), kc 1 3 (.i 0), kc 1 4 (.v (.slice none 0 0)), kc 1 5 (.v (.slice none 0 0)), kc 1 6 (.v (.slice none 0 0)), kc 1 7 (.i 0), kc 1 8 (.i 0), kc 1 9 (.i 0), kc 1 10 (.i 0), kc 2 0 (.i (idx a0 ((x2.2.2.2.2 + 1) + 1))), kc 3 0 (.v (.slice a0_p a0.length a0_c)), kc 4 0 (.i (1 + (dv a0 0 6))), kc 4 1 (.i (100 + (390 * (dv a0 1 256)))), kc 4 2 (.i (10 + (7 * (dv a0 2 256)))), kc 4 3 (.i (10 + (1900 * (dv a0 3 256)))), kc 4 4 (.o 300 301 x2.2.2.2.1.length), kc 4 5 (.v (.slice none 0 0)), kc 4 6 (.v (.slice none 0 0)), kc 4 7 (.i (dv a0 4 21)), kc 4 8 (.i (dv a0 5 101)), kc 4 9 (.i (2 * (dv a0 6 240))), kc 4 10 (.i (4 * (dv a0 7 256)))]) ?_ (kp rfl) rfl
   refine fin_then ?_
   obtain ⟨hp18, hm⟩ := chk_some hm
   refine aw_text (rows := [_, _, _, _, _, _, _, _, _]) rfl (by kernel_rfl) ⟨
    ok_plain rfl rfl (op_fieldAddr (ltN rfl) rfl fo_25_4),
    ok_plain rfl rfl (op_load1 (ltN rfl) sh_23 rfl rfl),
    ok_plain rfl rfl (op_move (ltN rfl) rfl),
    ok_plain rfl rfl (op_move (ltN rfl) rfl),
    ok_plain rfl rfl (op_build (x := .g [.i ((x2.1 + 10) + (dv a0 x2.2.2.2.2 40)), .i ((x2.2.1 * (dv a0 ((x2.2.2.2.2 + 1)) 101)) / 100)]) (ltN rfl) (EvL.cons rfl (EvL.cons rfl EvL.nil)) (fun m w => by kernel_rfl)),
    ok_plain rfl rfl (op_buildSlice (L := 7) (ety := 84) (cs := [.i ((x2.1 + 10) + (dv a0 x2.2.2.2.2 40)), .i ((x2.2.1 * (dv a0 ((x2.2.2.2.2 + 1)) 101)) / 100)]) (ltN rfl) (EvL.cons rfl EvL.nil) rfl (fun m w => by kernel_rfl)),
    ok_plain rfl rfl (op_append (L' := 8) (C' := 9) (vs := [(.int .i64 ((x2.1 + 10) + (dv a0 x2.2.2.2.2 40))), (.int .i64 ((x2.2.1 * (dv a0 ((x2.2.2.2.2 + 1)) 101)) / 100))]) (ltN rfl) af_23 rfl rfl (flat_length (enc := encPt) (fun _ => rfl) x2.2.2.2.1) rfl ⟨rfl, rfl, trivial⟩ rfl rfl (by decide) (by have := hp18; omega) (by have := hp18; omega) (by decide)),
    ok_plain rfl rfl (op_fieldAddr (ltN rfl) rfl fo_25_4),
    ok_plain rfl rfl (op_store1 sz_23 rfl rfl rfl rfl (ltN rfl)),
    trivial⟩ ?_
   refine fin_keep (s' := [kt 2 (.p 1 0), kt 3 (.f (.func 83) [] [.p 2 0, .p 3 0]), kt 4 (.p 4 0), kt 5 (.i ((x2.1 + 10) + (dv a0 x2.2.2.2.2 40))), kt 6 (.i ((x2.2.1 * (dv a0 ((x2.2.2.2.2 + 1)) 101)) / 100)), kt 45 (.i (1 + (dv a0 9 4))), kt 46 (.i x2.2.2.1), kb 1 25 11, kb 2 3 1, kb 3 22 1, kb 4 25 11, (.r 8, some (.vec true 9 84 2 ((x2.2.2.2.1 ++ [(⟨(x2.1 + 10) + (dv a0 x2.2.2.2.2 40), (x2.2.1 * (dv a0 ((x2.2.2.2.2 + 1)) 101)) / 100⟩ : Pt)]).flatMap encPt))), kc 1 0 (.i 0), kc 1 1 (.i 0), kc 1 2 (.i 0), kc 1 3 (.i 0), kc 1 4 (.v (.slice none 0 0)), kc 1 5 (.v (.slice none 0 0)), kc 1 6 (.v (.slice none 0 0)), kc 1 7 (.i 0), kc 1 8 (.i 0), kc 1 9 (.i 0), kc 1 10 (.i 0), kc 2 0 (.i (idx a0 ((x2.2.2.2.2 + 1) + 1))), kc 3 0 (.v (.slice a0_p a0.length a0_c)), kc 4 0 (.i (1 + (dv a0 0 6))), kc 4 1 (.i (100 + (390 * (dv a0 1 256)))), kc 4 2 (.i (10 + (7 * (dv a0 2 256)))), kc 4 3 (.i (10 + (1900 * (dv a0 3 256)))), kc 4 4 (.o 8 9 ((x2.2.2.2.1 ++ [(⟨(x2.1 + 10) + (dv a0 x2.2.2.2.2 40), (x2.2.1 * (dv a0 ((x2.2.2.2.2 + 1)) 101)) / 100⟩ : Pt)]).length)), kc 4 5 (.v (.slice none 0 0)), kc 4 6 (.v (.slice none 0 0)), kc 4 7 (.i (dv a0 4 21)), kc 4 8 (.i (dv a0 5 101)), kc 4 9 (.i (2 * (dv a0 6 240))), kc 4 10 (.i (4 * (dv a0 7 256)))]) ?_ ⟨rfl, rfl, rfl, rfl, rfl, rfl, rfl, rfl, rfl, rfl, rfl, (Eq.trans (b := some (Val.vec true 9 84 2 (x2.2.2.2.1.flatMap encPt ++ [(.int .i64 ((x2.1 + 10) + (dv a0 x2.2.2.2.2 40))), (.int .i64 ((x2.2.1 * (dv a0 ((x2.2.2.2.2 + 1)) 101)) / 100))]))) rfl (congrArg (fun q => some (Val.vec true 9 84 2 q)) (flat_snoc (enc := encPt) x2.2.2.2.1 ((⟨(x2.1 + 10) + (dv a0 x2.2.2.2.2 40), (x2.2.1 * (dv a0 ((x2.2.2.2.2 + 1)) 101)) / 100⟩ : Pt))))), rfl, rfl, rfl, rfl, rfl, rfl, rfl, rfl, rfl, rfl, rfl, rfl, rfl, rfl, rfl, rfl, rfl, (congrArg (fun q => some (Val.x (SV.o 8 9 q))) (len_snoc x2.2.2.2.1 ((⟨(x2.1 + 10) + (dv a0 x2.2.2.2.2 40), (x2.2.1 * (dv a0 ((x2.2.2.2.2 + 1)) 101)) / 100⟩ : Pt)))), rfl, rfl, rfl, rfl, rfl, rfl, trivial⟩ rfl
   refine fin_block ?_
   refine fin_then ?_
   obtain ⟨hp19, hm⟩ := chk_some hm
   refine aw_text (rows := [_, _]) rfl (by kernel_rfl) ⟨
    ok_plain rfl rfl (op_bin (ltN rfl) rfl rfl (nw_add hp19)),
    ok_plain rfl rfl (op_move (ltN rfl) rfl),
    trivial⟩ ?_
   refine fin_keep (s' := [kt 2 (.p 1 0), kt 3 (.f (.func 83) [] [.p 2 0, .p 3 0]), kt 4 (.p 4 0), kt 5 (.i ((x2.1 + 10) + (dv a0 x2.2.2.2.2 40))), kt 6 (.i ((x2.2.1 * (dv a0 ((x2.2.2.2.2 + 1)) 101)) / 100)), kt 45 (.i (1 + (dv a0 9 4))), kt 46 (.i (x2.2.2.1 + 1)), kb 1 25 11, kb 2 3 1, kb 3 22 1, kb 4 25 11, (.r 8, some (.vec true 9 84 2 ((x2.2.2.2.1 ++ [(⟨(x2.1 + 10) + (dv a0 x2.2.2.2.2 40), (x2.2.1 * (dv a0 ((x2.2.2.2.2 + 1)) 101)) / 100⟩ : Pt)]).flatMap encPt))), kc 1 0 (.i 0), kc 1 1 (.i 0), kc 1 2 (.i 0), kc 1 3 (.i 0), kc 1 4 (.v (.slice none 0 0)), kc 1 5 (.v (.slice none 0 0)), kc 1 6 (.v (.slice none 0 0)), kc 1 7 (.i 0), kc 1 8 (.i 0), kc 1 9 (.i 0), kc 1 10 (.i 0), kc 2 0 (.i (idx a0 ((x2.2.2.2.2 + 1) + 1))), kc 3 0 (.v (.slice a0_p a0.length a0_c)), kc 4 0 (.i (1 + (dv a0 0 6))), kc 4 1 (.i (100 + (390 * (dv a0 1 256)))), kc 4 2 (.i (10 + (7 * (dv a0 2 256)))), kc 4 3 (.i (10 + (1900 * (dv a0 3 256)))), kc 4 4 (.o 8 9 ((x2.2.2.2.1 ++ [(⟨(x2.1 + 10) + (dv a0 x2.2.2.2.2 40), (x2.2.1 * (dv a0 ((x2.2.2.2.2 + 1)) 101)) / 100⟩ : Pt)]).length)), kc 4 5 (.v (.slice none 0 0)), kc 4 6 (.v (.slice none 0 0)), kc 4 7 (.i (dv a0 4 21)), kc 4 8 (.i (dv a0 5 101)), kc 4 9 (.i (2 * (dv a0 6 240))), kc 4 10 (.i (4 * (dv a0 7 256)))]) ?_ (kp rfl) rfl
   refine fin_swp [(8, 300), (9, 301)] rfl ?_
   exact fin_cut ((x2.1 + 10) + (dv a0 x2.2.2.2.2 40), (x2.2.1 * (dv a0 ((x2.2.2.2.2 + 1)) 101)) / 100, x2.2.2.1 + 1, (x2.2.2.2.1 ++ [(⟨(x2.1 + 10) + (dv a0 x2.2.2.2.2 40), (x2.2.1 * (dv a0 ((x2.2.2.2.2 + 1)) 101)) / 100⟩ : Pt)]), ((x2.2.2.2.2 + 1) + 1)) hm ⟨rfl, rfl, rfl, rfl, rfl, rfl, rfl, rfl, rfl, rfl, rfl, rfl, rfl, rfl, rfl, rfl, rfl, rfl, rfl, rfl, rfl, rfl, rfl, rfl, rfl, rfl, rfl, rfl, rfl, rfl, rfl, rfl, rfl, rfl, rfl, rfl, trivial⟩ rfl
  ·have hm := brk_f hz13 hm
   refine aw_exit ?_
   refine fin_then_exit ?_
   refine fin_then_exit ?_
   refine fin_block_exit ?_
   exact fin_cut (x2.2.2.2.1, x2.2.2.2.2) hm ⟨rfl, rfl, rfl, rfl, rfl, rfl, rfl, rfl, rfl, rfl, rfl, rfl, rfl, rfl, rfl, rfl, rfl, rfl, rfl, rfl, rfl, rfl, rfl, rfl, rfl, rfl, rfl, rfl, rfl, rfl, rfl, rfl, trivial⟩ rfl
 ·have _z := hm
  refine aw_seq ?_
  refine aw_text (rows := [_, _, _, _]) rfl (by kernel_rfl) ⟨
   ok_plain rfl rfl (op_move (ltN rfl) rfl),
   ok_plain rfl rfl (op_callLentL (ls := [⟨2, 3, [.i (idx a0 x1.2)], [.i (idx a0 (x1.2 + 1))]⟩, ⟨3, 22, [.v (.slice a0_p a0.length a0_c)], [.v (.slice a0_p a0.length a0_c)]⟩]) (x := .i (dv a0 x1.2 50)) (fs := []) (caps := [.p 2 0, .p 3 0]) (extra := []) (ltN rfl) en_83 rfl ⟨rfl, rfl, rfl⟩ (EvL.cons rfl EvL.nil) ⟨rfl, ⟨rfl, trivial⟩, rfl, lb_ne rfl, ⟨rfl, ⟨rfl, trivial⟩, rfl, lb_ne rfl, trivial⟩⟩ (fun mm aa ww gg hr hrel hbx hlo => c83L 50 x1.2 (mm 2) a0 ⟨a0_p, a0.length, a0_c⟩ (mm 3) ww (hbx _ (.head _)) (hbx _ (.tail _ (.head _))) (SlIs.mono ha0 hrel.below) (sl_ne ha0 (box_hi hrel hlo.1)) (box_ne hrel hlo.2.2.2.2.1 hlo.1 (by decide)) (by decide) h8a0 hlena0)),
   ok_plain rfl rfl (op_assign (ltN rfl) rfl),
   ok_plain rfl rfl (op_assign (ltN rfl) rfl),
   trivial⟩ ?_
  refine fin_keep (s' := [kt 2 (.p 1 0), kt 3 (.f (.func 83) [] [.p 2 0, .p 3 0]), kt 4 (.p 4 0), kt 5 (.i 0), kt 6 (.i (dv a0 x1.2 50)), kb 1 25 11, kb 2 3 1, kb 3 22 1, kb 4 25 11, (.r 300, some (.vec true 301 84 2 (x1.1.flatMap encPt))), kc 1 0 (.i 0), kc 1 1 (.i 0), kc 1 2 (.i 0), kc 1 3 (.i 0), kc 1 4 (.v (.slice none 0 0)), kc 1 5 (.v (.slice none 0 0)), kc 1 6 (.v (.slice none 0 0)), kc 1 7 (.i 0), kc 1 8 (.i 0), kc 1 9 (.i 0), kc 1 10 (.i 0), kc 2 0 (.i (idx a0 (x1.2 + 1))), kc 3 0 (.v (.slice a0_p a0.length a0_c)), kc 4 0 (.i (1 + (dv a0 0 6))), kc 4 1 (.i (100 + (390 * (dv a0 1 256)))), kc 4 2 (.i (10 + (7 * (dv a0 2 256)))), kc 4 3 (.i (10 + (1900 * (dv a0 3 256)))), kc 4 4 (.o 300 301 x1.1.length), kc 4 5 (.v (.slice none 0 0)), kc 4 6 (.v (.slice none 0 0)), kc 4 7 (.i (dv a0 4 21)), kc 4 8 (.i (dv a0 5 101)), kc 4 9 (.i (2 * (dv a0 6 240))), kc 4 10 (.i (4 * (dv a0 7 256)))]) ?_ (kp rfl) rfl
  refine fin_then ?_
  refine aw_seq ?_
  refine aw_text (rows := [_, _, _, _, _]) rfl (by kernel_rfl) ⟨
   ok_plain rfl rfl (op_move (ltN rfl) rfl),
   ok_plain rfl rfl (op_build (x := .g [.i 0, .i (dv a0 x1.2 50)]) (ltN rfl) (EvL.cons rfl (EvL.cons rfl EvL.nil)) (fun m w => by kernel_rfl)),
   ok_plain rfl rfl (op_buildSlice (L := 10) (ety := 84) (cs := [.i 0, .i (dv a0 x1.2 50)]) (ltN rfl) (EvL.cons rfl EvL.nil) rfl (fun m w => by kernel_rfl)),
   ok_plain rfl rfl (op_fieldAddr (ltN rfl) rfl fo_25_5),
   ok_plain rfl rfl (op_store1 sz_23 rfl rfl rfl rfl (ltN rfl)),
   trivial⟩ ?_
  refine fin_keep (s' := [kt 2 (.p 1 0), kt 3 (.f (.func 83) [] [.p 2 0, .p 3 0]), kt 4 (.p 4 0), kt 5 (.i 0), kt 6 (.i (dv a0 x1.2 50)), kb 1 25 11, kb 2 3 1, kb 3 22 1, kb 4 25 11, kb 10 84 2, (.r 300, some (.vec true 301 84 2 (x1.1.flatMap encPt))), kc 1 0 (.i 0), kc 1 1 (.i 0), kc 1 2 (.i 0), kc 1 3 (.i 0), kc 1 4 (.v (.slice none 0 0)), kc 1 5 (.v (.slice none 0 0)), kc 1 6 (.v (.slice none 0 0)), kc 1 7 (.i 0), kc 1 8 (.i 0), kc 1 9 (.i 0), kc 1 10 (.i 0), kc 2 0 (.i (idx a0 (x1.2 + 1))), kc 3 0 (.v (.slice a0_p a0.length a0_c)), kc 4 0 (.i (1 + (dv a0 0 6))), kc 4 1 (.i (100 + (390 * (dv a0 1 256)))), kc 4 2 (.i (10 + (7 * (dv a0 2 256)))), kc 4 3 (.i (10 + (1900 * (dv a0 3 256)))), kc 4 4 (.o 300 301 x1.1.length), kc 4 5 (.s 10 0 1 1), kc 4 6 (.v (.slice none 0 0)), kc 4 7 (.i (dv a0 4 21)), kc 4 8 (.i (dv a0 5 101)), kc 4 9 (.i (2 * (dv a0 6 240))), kc 4 10 (.i (4 * (dv a0 7 256))), kc 10 0 (.i 0), kc 10 1 (.i (dv a0 x1.2 50))]) ?_ (kp rfl) rfl
  refine fin_then ?_
  refine aw_cutM (ι := List Pt × Nat) hm (fun x3 => [kt 2 (.p 1 0), kt 3 (.f (.func 83) [] [.p 2 0, .p 3 0]), kt 4 (.p 4 0), kb 1 25 11, kb 2 3 1, kb 3 22 1, kb 4 25 11, (.r 300, some (.vec true 301 84 2 (x1.1.flatMap encPt))), (.r 302, some (.vec true 303 84 2 (x3.1.flatMap encPt))), kc 1 0 (.i 0), kc 1 1 (.i 0), kc 1 2 (.i 0), kc 1 3 (.i 0), kc 1 4 (.v (.slice none 0 0)), kc 1 5 (.v (.slice none 0 0)), kc 1 6 (.v (.slice none 0 0)), kc 1 7 (.i 0), kc 1 8 (.i 0), kc 1 9 (.i 0), kc 1 10 (.i 0), kc 2 0 (.i (idx a0 x3.2)), kc 3 0 (.v (.slice a0_p a0.length a0_c)), kc 4 0 (.i (1 + (dv a0 0 6))), kc 4 1 (.i (100 + (390 * (dv a0 1 256)))), kc 4 2 (.i (10 + (7 * (dv a0 2 256)))), kc 4 3 (.i (10 + (1900 * (dv a0 3 256)))), kc 4 4 (.o 300 301 x1.1.length), kc 4 5 (.o 302 303 x3.1.length), kc 4 6 (.v (.slice none 0 0)), kc 4 7 (.i (dv a0 4 21)), kc 4 8 (.i (dv a0 5 101)), kc 4 9 (.i (2 * (dv a0 6 240))), kc 4 10 (.i (4 * (dv a0 7 256)))]) (fun hm => ?_) (fun x3 hm => ?_)
  ·have _z := hm
   refine aw_seq ?_
   obtain ⟨hp20, hm⟩ := chk_some hm
   refine aw_text (rows := [_, _, _, _]) rfl (by kernel_rfl) ⟨
    ok_plain rfl rfl (op_move (ltN rfl) rfl),
    ok_plain rfl rfl (op_callLentL (ls := [⟨2, 3, [.i (idx a0 (x1.2 + 1))], [.i (idx a0 ((x1.2 + 1) + 1))]⟩, ⟨3, 22, [.v (.slice a0_p a0.length a0_c)], [.v (.slice a0_p a0.length a0_c)]⟩]) (x := .i (dv a0 ((x1.2 + 1)) 3)) (fs := []) (caps := [.p 2 0, .p 3 0]) (extra := []) (ltN rfl) en_83 rfl ⟨rfl, rfl, rfl⟩ (EvL.cons rfl EvL.nil) ⟨rfl, ⟨rfl, trivial⟩, rfl, lb_ne rfl, ⟨rfl, ⟨rfl, trivial⟩, rfl, lb_ne rfl, trivial⟩⟩ (fun mm aa ww gg hr hrel hbx hlo => c83L 3 ((x1.2 + 1)) (mm 2) a0 ⟨a0_p, a0.length, a0_c⟩ (mm 3) ww (hbx _ (.head _)) (hbx _ (.tail _ (.head _))) (SlIs.mono ha0 hrel.below) (sl_ne ha0 (box_hi hrel hlo.1)) (box_ne hrel hlo.2.2.2.2.1 hlo.1 (by decide)) (by decide) h8a0 hlena0)),
    ok_plain rfl rfl (op_bin (ltN rfl) rfl rfl (nw_add hp20)),
    ok_plain rfl rfl (op_move (ltN rfl) rfl),
    trivial⟩ ?_
   refine fin_keep (s' := [kt 2 (.p 1 0), kt 3 (.f (.func 83) [] [.p 2 0, .p 3 0]), kt 4 (.p 4 0), kt 5 (.i 0), kt 6 (.i (dv a0 x1.2 50)), kt 75 (.i (1 + (dv a0 ((x1.2 + 1)) 3))), kt 76 (.i 0), kb 1 25 11, kb 2 3 1, kb 3 22 1, kb 4 25 11, kb 10 84 2, (.r 300, some (.vec true 301 84 2 (x1.1.flatMap encPt))), kc 1 0 (.i 0), kc 1 1 (.i 0), kc 1 2 (.i 0), kc 1 3 (.i 0), kc 1 4 (.v (.slice none 0 0)), kc 1 5 (.v (.slice none 0 0)), kc 1 6 (.v (.slice none 0 0)), kc 1 7 (.i 0), kc 1 8 (.i 0), kc 1 9 (.i 0), kc 1 10 (.i 0), kc 2 0 (.i (idx a0 ((x1.2 + 1) + 1))), kc 3 0 (.v (.slice a0_p a0.length a0_c)), kc 4 0 (.i (1 + (dv a0 0 6))), kc 4 1 (.i (100 + (390 * (dv a0 1 256)))), kc 4 2 (.i (10 + (7 * (dv a0 2 256)))), kc 4 3 (.i (10 + (1900 * (dv a0 3 256)))), kc 4 4 (.o 300 301 x1.1.length), kc 4 5 (.s 10 0 1 1), kc 4 6 (.v (.slice none 0 0)), kc 4 7 (.i (dv a0 4 21)), kc 4 8 (.i (dv a0 5 101)), kc 4 9 (.i (2 * (dv a0 6 240))), kc 4 10 (.i (4 * (dv a0 7 256))), kc 10 0 (.i 0), kc 10 1 (.i (dv a0 x1.2 50))]) ?_ (kp rfl) rfl
   refine fin_then ?_
   refine aw_block ?_
   refine aw_toRow (.c 4 5) 10 11 1 2 [(.int .i64 0), (.int .i64 (dv a0 x1.2 50))] rfl rfl rfl rfl (by decide) ⟨rfl, rfl, trivial⟩ rfl (by decide) rfl ?_
   refine aw_swp [(10, 302), (11, 303)] rfl ?_
   refine aw_loopC hm (fun x4 => [kt 2 (.p 1 0), kt 3 (.f (.func 83) [] [.p 2 0, .p 3 0]), kt 4 (.p 4 0), kt 5 (.i x4.1), kt 6 (.i x4.2.1), kt 75 (.i (1 + (dv a0 ((x1.2 + 1)) 3))), kt 76 (.i x4.2.2.1), kb 1 25 11, kb 2 3 1, kb 3 22 1, kb 4 25 11, (.r 300, some (.vec true 301 84 2 (x1.1.flatMap encPt))), (.r 302, some (.vec true 303 84 2 (x4.2.2.2.1.flatMap encPt))), kc 1 0 (.i 0), kc 1 1 (.i 0), kc 1 2 (.i 0), kc 1 3 (.i 0), kc 1 4 (.v (.slice none 0 0)), kc 1 5 (.v (.slice none 0 0)), kc 1 6 (.v (.slice none 0 0)), kc 1 7 (.i 0), kc 1 8 (.i 0), kc 1 9 (.i 0), kc 1 10 (.i 0), kc 2 0 (.i (idx a0 x4.2.2.2.2)), kc 3 0 (.v (.slice a0_p a0.length a0_c)), kc 4 0 (.i (1 + (dv a0 0 6))), kc 4 1 (.i (100 + (390 * (dv a0 1 256)))), kc 4 2 (.i (10 + (7 * (dv a0 2 256)))), kc 4 3 (.i (10 + (1900 * (dv a0 3 256)))), kc 4 4 (.o 300 301 x1.1.length), kc 4 5 (.o 302 303 x4.2.2.2.1.length), kc 4 6 (.v (.slice none 0 0)), kc 4 7 (.i (dv a0 4 21)), kc 4 8 (.i (dv a0 5 101)), kc 4 9 (.i (2 * (dv a0 6 240))), kc 4 10 (.i (4 * (dv a0 7 256)))]) ⟨rfl, rfl, rfl, rfl, rfl, rfl, rfl, rfl, rfl, rfl, rfl, rfl, rfl, rfl, rfl, rfl, rfl, rfl, rfl, rfl, rfl, rfl, rfl, rfl, rfl, rfl, rfl, rfl, rfl, rfl, rfl, rfl, rfl, rfl, rfl, rfl, rfl, trivial⟩ rfl (fun x4 n4 hm => ?_)
   refine aw_seq ?_
   refine aw_text (rows := [_]) rfl (by kernel_rfl) ⟨
    ok_plain rfl rfl (op_bin (ltN rfl) rfl rfl rfl),
    trivial⟩ ?_
   refine fin_keep (s' := [kt 2 (.p 1 0), kt 3 (.f (.func 83) [] [.p 2 0, .p 3 0]), kt 4 (.p 4 0), kt 5 (.i x4.1), kt 6 (.i x4.2.1), kt 75 (.i (1 + (dv a0 ((x1.2 + 1)) 3))), kt 76 (.i x4.2.2.1), kt 77 (.B (decide (x4.2.2.1 < (1 + (dv a0 ((x1.2 + 1)) 3))))), kb 1 25 11, kb 2 3 1, kb 3 22 1, kb 4 25 11, (.r 300, some (.vec true 301 84 2 (x1.1.flatMap encPt))), (.r 302, some (.vec true 303 84 2 (x4.2.2.2.1.flatMap encPt))), kc 1 0 (.i 0), kc 1 1 (.i 0), kc 1 2 (.i 0), kc 1 3 (.i 0), kc 1 4 (.v (.slice none 0 0)), kc 1 5 (.v (.slice none 0 0)), kc 1 6 (.v (.slice none 0 0)), kc 1 7 (.i 0), kc 1 8 (.i 0), kc 1 9 (.i 0), kc 1 10 (.i 0), kc 2 0 (.i (idx a0 x4.2.2.2.2)), kc 3 0 (.v (.slice a0_p a0.length a0_c)), kc 4 0 (.i (1 + (dv a0 0 6))), kc 4 1 (.i (100 + (390 * (dv a0 1 256)))), kc 4 2 (.i (10 + (7 * (dv a0 2 256)))), kc 4 3 (.i (10 + (1900 * (dv a0 3 256)))), kc 4 4 (.o 300 301 x1.1.length), kc 4 5 (.o 302 303 x4.2.2.2.1.length), kc 4 6 (.v (.slice none 0 0)), kc 4 7 (.i (dv a0 4 21)), kc 4 8 (.i (dv a0 5 101)), kc 4 9 (.i (2 * (dv a0 6 240))), kc 4 10 (.i (4 * (dv a0 7 256)))]) ?_ (kp rfl) rfl
   refine fin_then ?_
   refine aw_seq ?_
   refine aw_cond rfl (fun hz21 => ?_) (fun hz21 => ?_)
   ·have hm := brk_t hz21 hm
    refine aw_skip ?_
    refine fin_then ?_
    refine aw_seq ?_
    refine aw_block ?_
    refine aw_seq ?_
    obtain ⟨hp22, hm⟩ := chk_some hm
    obtain ⟨hp23, hm⟩ := chk_some hm
    obtain ⟨hp24, hm⟩ := chk_some hm
    obtain ⟨hp25, hm⟩ := chk_some hm
    refine aw_text (rows := [_, _, _, _, _, _, _, _, _, _, _, _]) rfl (by kernel_rfl) ⟨
     ok_plain rfl rfl (op_move (ltN rfl) rfl),
     ok_plain rfl rfl (op_bin (ltN rfl) rfl rfl (nw_add hp22)),
     ok_plain rfl rfl (op_move (ltN rfl) rfl),
     ok_plain rfl rfl (op_callLentL (ls := [⟨2, 3, [.i (idx a0 x4.2.2.2.2)], [.i (idx a0 (x4.2.2.2.2 + 1))]⟩, ⟨3, 22, [.v (.slice a0_p a0.length a0_c)], [.v (.slice a0_p a0.length a0_c)]⟩]) (x := .i (dv a0 x4.2.2.2.2 80)) (fs := []) (caps := [.p 2 0, .p 3 0]) (extra := []) (ltN rfl) en_83 rfl ⟨rfl, rfl, rfl⟩ (EvL.cons rfl EvL.nil) ⟨rfl, ⟨rfl, trivial⟩, rfl, lb_ne rfl, ⟨rfl, ⟨rfl, trivial⟩, rfl, lb_ne rfl, trivial⟩⟩ (fun mm aa ww gg hr hrel hbx hlo => c83L 80 x4.2.2.2.2 (mm 2) a0 ⟨a0_p, a0.length, a0_c⟩ (mm 3) ww (hbx _ (.head _)) (hbx _ (.tail _ (.head _))) (SlIs.mono ha0 hrel.below) (sl_ne ha0 (box_hi hrel hlo.1)) (box_ne hrel hlo.2.2.2.2.1 hlo.1 (by decide)) (by decide) h8a0 hlena0)),
     ok_plain rfl rfl (op_bin (ltN rfl) rfl rfl (nw_add hp23)),
     ok_plain rfl rfl (op_move (ltN rfl) rfl),
     ok_plain rfl rfl (op_move (ltN rfl) rfl),
     ok_plain rfl rfl (op_callLentL (ls := [⟨2, 3, [.i (idx a0 (x4.2.2.2.2 + 1))], [.i (idx a0 ((x4.2.2.2.2 + 1) + 1))]⟩, ⟨3, 22, [.v (.slice a0_p a0.length a0_c)], [.v (.slice a0_p a0.length a0_c)]⟩]) (x := .i (dv a0 ((x4.2.2.2.2 + 1)) 256)) (fs := []) (caps := [.p 2 0, .p 3 0]) (extra := []) (ltN rfl) en_83 rfl ⟨rfl, rfl, rfl⟩ (EvL.cons rfl EvL.nil) ⟨rfl, ⟨rfl, trivial⟩, rfl, lb_ne rfl, ⟨rfl, ⟨rfl, trivial⟩, rfl, lb_ne rfl, trivial⟩⟩ (fun mm aa ww gg hr hrel hbx hlo => c83L 256 ((x4.2.2.2.2 + 1)) (mm 2) a0 ⟨a0_p, a0.length, a0_c⟩ (mm 3) ww (hbx _ (.head _)) (hbx _ (.tail _ (.head _))) (SlIs.mono ha0 hrel.below) (sl_ne ha0 (box_hi hrel hlo.1)) (box_ne hrel hlo.2.2.2.2.1 hlo.1 (by decide)) (by decide) h8a0 hlena0)),
     ok_plain rfl rfl (op_bin (ltN rfl) rfl rfl (nw_mul hp24)),
     ok_plain rfl rfl (op_bin (ltN rfl) rfl rfl (nw_add hp25)),
     ok_plain rfl rfl (op_assign (ltN rfl) rfl),
     ok_plain rfl rfl (op_assign (ltN rfl) rfl),
     trivial⟩ ?_
    refine fin_keep (s' := [kt 2 (.p 1 0), kt 3 (.f (.func 83) [] [.p 2 0, .p 3 0]), kt 4 (.p 4 0), kt 5 (.i ((x4.1 + 1) + (dv a0 x4.2.2.2.2 80))), kt 6 (.i (x4.2.1 + (3 * (dv a0 ((x4.2.2.2.2 + 1)) 256)))), kt 75 (.i (1 + (dv a0 ((x1.2 + 1)) 3))), kt 76 (.i x4.2.2.1), kb 1 25 11, kb 2 3 1, kb 3 22 1, kb 4 25 11, (.r 300, some (.vec true 301 84 2 (x1.1.flatMap encPt))), (.r 302, some (.vec true 303 84 2 (x4.2.2.2.1.flatMap encPt))), kc 1 0 (.i 0), kc 1 1 (.i 0), kc 1 2 (.i 0), kc 1 3 (.i 0), kc 1 4 (.v (.slice none 0 0)), kc 1 5 (.v (.slice none 0 0)), kc 1 6 (.v (.slice none 0 0)), kc 1 7 (.i 0), kc 1 8 (.i 0), kc 1 9 (.i 0), kc 1 10 (.i 0), kc 2 0 (.i (idx a0 ((x4.2.2.2.2 + 1) + 1))), kc 3 0 (.v (.slice a0_p a0.length a0_c)), kc 4 0 (.i (1 + (dv a0 0 6))), kc 4 1 (.i (100 + (390 * (dv a0 1 256)))), kc 4 2 (.i (10 + (7 * (dv a0 2 256)))), kc 4 3 (.i (10 + (1900 * (dv a0 3 256)))), kc 4 4 (.o 300 301 x1.1.length), kc 4 5 (.o 302 303 x4.2.2.2.1.length), kc 4 6 (.v (.slice none 0 0)), kc 4 7 (.i (dv a0 4 21)), kc 4 8 (.i (dv a0 5 101)), kc 4 9 (.i (2 * (dv a0 6 240))), kc 4 10 (.i (4 * (dv a0 7 256)))]) ?_ (kp rfl) rfl
    refine fin_then ?_
    obtain ⟨hp26, hm⟩ := chk_some hm
    refine aw_text (rows := [_, _, _, _, _, _, _, _, _]) rfl (by kernel_rfl) ⟨
     ok_plain rfl rfl (op_fieldAddr (ltN rfl) rfl fo_25_5),
     ok_plain rfl rfl (op_load1 (ltN rfl) sh_23 rfl rfl),
     ok_plain rfl rfl (op_move (ltN rfl) rfl),
     ok_plain rfl rfl (op_move (ltN rfl) rfl),
     ok_plain rfl rfl (op_build (x := .g [.i ((x4.1 + 1) + (dv a0 x4.2.2.2.2 80)), .i (x4.2.1 + (3 * (dv a0 ((x4.2.2.2.2 + 1)) 256)))]) (ltN rfl) (EvL.cons rfl (EvL.cons rfl EvL.nil)) (fun m w => by kernel_rfl)),
     ok_plain rfl rfl (op_buildSlice (L := 12) (ety := 84) (cs := [.i ((x4.1 + 1) + (dv a0 x4.2.2.2.2 80)), .i (x4.2.1 + (3 * (dv a0 ((x4.2.2.2.2 + 1)) 256)))]) (ltN rfl) (EvL.cons rfl EvL.nil) rfl (fun m w => by kernel_rfl)),
     ok_plain rfl rfl (op_append (L' := 13) (C' := 14) (vs := [(.int .i64 ((x4.1 + 1) + (dv a0 x4.2.2.2.2 80))), (.int .i64 (x4.2.1 + (3 * (dv a0 ((x4.2.2.2.2 + 1)) 256))))]) (ltN rfl) af_23 rfl rfl (flat_length (enc := encPt) (fun _ => rfl) x4.2.2.2.1) rfl ⟨rfl, rfl, trivial⟩ rfl rfl (by decide) (by have := hp26; omega) (by have := hp26; omega) (by decide)),
     ok_plain rfl rfl (op_fieldAddr (ltN rfl) rfl fo_25_5),
     ok_plain rfl rfl (op_store1 sz_23 rfl rfl rfl rfl (ltN rfl)),
     trivial⟩ ?_
    refine fin_keep (s' := [kt 2 (.p 1 0), kt 3 (.f (.func 83) [] [.p 2 0, .p 3 0]), kt 4 (.p 4 0), kt 5 (.i ((x4.1 + 1) + (dv a0 x4.2.2.2.2 80))), kt 6 (.i (x4.2.1 + (3 * (dv a0 ((x4.2.2.2.2 + 1)) 256)))), kt 75 (.i (1 + (dv a0 ((x1.2 + 1)) 3))), kt 76 (.i x4.2.2.1), kb 1 25 11, kb 2 3 1, kb 3 22 1, kb 4 25 11, (.r 13, some (.vec true 14 84 2 ((x4.2.2.2.1 ++ [(⟨(x4.1 + 1) + (dv a0 x4.2.2.2.2 80), x4.2.1 + (3 * (dv a0 ((x4.2.2.2.2 + 1)) 256))⟩ : Pt)]).flatMap encPt))), (.r 300, some (.vec true 301 84 2 (x1.1.flatMap encPt))), kc 1 0 (.i 0), kc 1 1 (.i 0), kc 1 2 (.i 0), kc 1 3 (.i 0), kc 1 4 (.v (.slice none 0 0)), kc 1 5 (.v (.slice none 0 0)), kc 1 6 (.v (.slice none 0 0)), kc 1 7 (.i 0), kc 1 8 (.i 0), kc 1 9 (.i 0), kc 1 10 (.i 0), kc 2 0 (.i (idx a0 ((x4.2.2.2.2 + 1) + 1))), kc 3 0 (.v (.slice a0_p a0.length a0_c)), kc 4 0 (.i (1 + (dv a0 0 6))), kc 4 1 (.i (100 + (390 * (dv a0 1 256)))), kc 4 2 (.i (10 + (7 * (dv a0 2 256)))), kc 4 3 (.i (10 + (1900 * (dv a0 3 256)))), kc 4 4 (.o 300 301 x1.1.length), kc 4 5 (.o 13 14 ((x4.2.2.2.1 ++ [(⟨(x4.1 + 1) + (dv a0 x4.2.2.2.2 80), x4.2.1 + (3 * (dv a0 ((x4.2.2.2.2 + 1)) 256))⟩ : Pt)]).length)), kc 4 6 (.v (.slice none 0 0)), kc 4 7 (.i (dv a0 4 21)), kc 4 8 (.i (dv a0 5 101)), kc 4 9 (.i (2 * (dv a0 6 240))), kc 4 10 (.i (4 * (dv a0 7 256)))]) ?_ ⟨rfl, rfl, rfl, rfl, rfl, rfl, rfl, rfl, rfl, rfl, rfl, (Eq.trans (b := some (Val.vec true 14 84 2 (x4.2.2.2.1.flatMap encPt ++ [(.int .i64 ((x4.1 + 1) + (dv a0 x4.2.2.2.2 80))), (.int .i64 (x4.2.1 + (3 * (dv a0 ((x4.2.2.2.2 + 1)) 256))))]))) rfl (congrArg (fun q => some (Val.vec true 14 84 2 q)) (flat_snoc (enc := encPt) x4.2.2.2.1 ((⟨(x4.1 + 1) + (dv a0 x4.2.2.2.2 80), x4.2.1 + (3 * (dv a0 ((x4.2.2.2.2 + 1)) 256))⟩ : Pt))))), rfl, rfl, rfl, rfl, rfl, rfl, rfl, rfl, rfl, rfl, rfl, rfl, rfl, rfl, rfl, rfl, rfl, rfl, rfl, (congrArg (fun q => some (Val.x (SV.o 13 14 q))) (len_snoc x4.2.2.2.1 ((⟨(x4.1 + 1) + (dv a0 x4.2.2.2.2 80), x4.2.1 + (3 * (dv a0 ((x4.2.2.2.2 + 1)) 256))⟩ : Pt)))), rfl, rfl, rfl, rfl, rfl, trivial⟩ rfl
    refine fin_block ?_
    refine fin_then ?_
    obtain ⟨hp27, hm⟩ := chk_some hm
    refine aw_text (rows := [_, _]) rfl (by kernel_rfl) ⟨
     ok_plain rfl rfl (op_bin (ltN rfl) rfl rfl (nw_add hp27)),
     ok_plain rfl rfl (op_move (ltN rfl) rfl),
     trivial⟩ ?_
    refine fin_keep (s' := [kt 2 (.p 1 0), kt 3 (.f (.func 83) [] [.p 2 0, .p 3 0]), kt 4 (.p 4 0), kt 5 (.i ((x4.1 + 1) + (dv a0 x4.2.2.2.2 80))), kt 6 (.i (x4.2.1 + (3 * (dv a0 ((x4.2.2.2.2 + 1)) 256)))), kt 75 (.i (1 + (dv a0 ((x1.2 + 1)) 3))), kt 76 (.i (x4.2.2.1 + 1)), kb 1 25 11, kb 2 3 1, kb 3 22 1, kb 4 25 11, (.r 13, some (.vec true 14 84 2 ((x4.2.2.2.1 ++ [(⟨(x4.1 + 1) + (dv a0 x4.2.2.2.2 80), x4.2.1 + (3 * (dv a0 ((x4.2.2.2.2 + 1)) 256))⟩ : Pt)]).flatMap encPt))), (.r 300, some (.vec true 301 84 2 (x1.1.flatMap encPt))), kc 1 0 (.i 0), kc 1 1 (.i 0), kc 1 2 (.i 0), kc 1 3 (.i 0), kc 1 4 (.v (.slice none 0 0)), kc 1 5 (.v (.slice none 0 0)), kc 1 6 (.v (.slice none 0 0)), kc 1 7 (.i 0), kc 1 8 (.i 0), kc 1 9 (.i 0), kc 1 10 (.i 0), kc 2 0 (.i (idx a0 ((x4.2.2.2.2 + 1) + 1))), kc 3 0 (.v (.slice a0_p a0.length a0_c)), kc 4 0 (.i (1 + (dv a0 0 6))), kc 4 1 (.i (100 + (390 * (dv a0 1 256)))), kc 4 2 (.i (10 + (7 * (dv a0 2 256)))), kc 4 3 (.i (10 + (1900 * (dv a0 3 256)))), kc 4 4 (.o 300 301 x1.1.length), kc 4 5 (.o 13 14 ((x4.2.2.2.1 ++ [(⟨(x4.1 + 1) + (dv a0 x4.2.2.2.2 80), x4.2.1 + (3 * (dv a0 ((x4.2.2.2.2 + 1)) 256))⟩ : Pt)]).length)), kc 4 6 (.v (.slice none 0 0)), kc 4 7 (.i (dv a0 4 21)), kc 4 8 (.i (dv a0 5 101)), kc 4 9 (.i (2 * (dv a0 6 240))), kc 4 10 (.i (4 * (dv a0 7 256)))]) ?_ (kp rfl) rfl
    refine fin_swp [(13, 302), (14, 303)] rfl ?_
    exact fin_cut ((x4.1 + 1) + (dv a0 x4.2.2.2.2 80), x4.2.1 + (3 * (dv a0 ((x4.2.2.2.2 + 1)) 256)), x4.2.2.1 + 1, (x4.2.2.2.1 ++ [(⟨(x4.1 + 1) + (dv a0 x4.2.2.2.2 80), x4.2.1 + (3 * (dv a0 ((x4.2.2.2.2 + 1)) 256))⟩ : Pt)]), ((x4.2.2.2.2 + 1) + 1)) hm ⟨rfl, rfl, rfl, rfl, rfl, rfl, rfl, rfl, rfl, rfl, rfl, rfl, rfl, rfl, rfl, rfl, rfl, rfl, rfl, rfl, rfl, rfl, rfl, rfl, rfl, rfl, rfl, rfl, rfl, rfl, rfl, rfl, rfl, rfl, rfl, rfl, rfl, trivial⟩ rfl
   ·have hm := brk_f hz21 hm
    refine aw_exit ?_
    refine fin_then_exit ?_
    refine fin_then_exit ?_
    refine fin_block_exit ?_
    exact fin_cut (x4.2.2.2.1, x4.2.2.2.2) hm ⟨rfl, rfl, rfl, rfl, rfl, rfl, rfl, rfl, rfl, rfl, rfl, rfl, rfl, rfl, rfl, rfl, rfl, rfl, rfl, rfl, rfl, rfl, rfl, rfl, rfl, rfl, rfl, rfl, rfl, rfl, rfl, rfl, rfl, trivial⟩ rfl
  ·have _z := hm
   refine aw_seq ?_
   refine aw_text (rows := [_, _]) rfl (by kernel_rfl) ⟨
    ok_plain rfl rfl (op_assign (ltN rfl) rfl),
    ok_plain rfl rfl (op_assign (ltN rfl) rfl),
    trivial⟩ ?_
   refine fin_keep (s' := [kt 2 (.p 1 0), kt 3 (.f (.func 83) [] [.p 2 0, .p 3 0]), kt 4 (.p 4 0), kt 5 (.i 0), kt 6 (.i 0), kb 1 25 11, kb 2 3 1, kb 3 22 1, kb 4 25 11, (.r 300, some (.vec true 301 84 2 (x1.1.flatMap encPt))), (.r 302, some (.vec true 303 84 2 (x3.1.flatMap encPt))), kc 1 0 (.i 0), kc 1 1 (.i 0), kc 1 2 (.i 0), kc 1 3 (.i 0), kc 1 4 (.v (.slice none 0 0)), kc 1 5 (.v (.slice none 0 0)), kc 1 6 (.v (.slice none 0 0)), kc 1 7 (.i 0), kc 1 8 (.i 0), kc 1 9 (.i 0), kc 1 10 (.i 0), kc 2 0 (.i (idx a0 x3.2)), kc 3 0 (.v (.slice a0_p a0.length a0_c)), kc 4 0 (.i (1 + (dv a0 0 6))), kc 4 1 (.i (100 + (390 * (dv a0 1 256)))), kc 4 2 (.i (10 + (7 * (dv a0 2 256)))), kc 4 3 (.i (10 + (1900 * (dv a0 3 256)))), kc 4 4 (.o 300 301 x1.1.length), kc 4 5 (.o 302 303 x3.1.length), kc 4 6 (.v (.slice none 0 0)), kc 4 7 (.i (dv a0 4 21)), kc 4 8 (.i (dv a0 5 101)), kc 4 9 (.i (2 * (dv a0 6 240))), kc 4 10 (.i (4 * (dv a0 7 256)))]) ?_ (kp rfl) rfl
   refine fin_then ?_
   refine aw_seq ?_
   refine aw_text (rows := [_, _, _, _]) rfl (by kernel_rfl) ⟨
    ok_plain rfl rfl (op_build (x := .g [.i 0, .i 0]) (ltN rfl) EvL.nil (fun m w => by kernel_rfl)),
    ok_plain rfl rfl (op_buildSlice (L := 15) (ety := 84) (cs := [.i 0, .i 0]) (ltN rfl) (EvL.cons rfl EvL.nil) rfl (fun m w => by kernel_rfl)),
    ok_plain rfl rfl (op_fieldAddr (ltN rfl) rfl fo_25_6),
    ok_plain rfl rfl (op_store1 sz_23 rfl rfl rfl rfl (ltN rfl)),
    trivial⟩ ?_
   refine fin_keep (s' := [kt 2 (.p 1 0), kt 3 (.f (.func 83) [] [.p 2 0, .p 3 0]), kt 4 (.p 4 0), kt 5 (.i 0), kt 6 (.i 0), kb 1 25 11, kb 2 3 1, kb 3 22 1, kb 4 25 11, kb 15 84 2, (.r 300, some (.vec true 301 84 2 (x1.1.flatMap encPt))), (.r 302, some (.vec true 303 84 2 (x3.1.flatMap encPt))), kc 1 0 (.i 0), kc 1 1 (.i 0), kc 1 2 (.i 0), kc 1 3 (.i 0), kc 1 4 (.v (.slice none 0 0)), kc 1 5 (.v (.slice none 0 0)), kc 1 6 (.v (.slice none 0 0)), kc 1 7 (.i 0), kc 1 8 (.i 0), kc 1 9 (.i 0), kc 1 10 (.i 0), kc 2 0 (.i (idx a0 x3.2)), kc 3 0 (.v (.slice a0_p a0.length a0_c)), kc 4 0 (.i (1 + (dv a0 0 6))), kc 4 1 (.i (100 + (390 * (dv a0 1 256)))), kc 4 2 (.i (10 + (7 * (dv a0 2 256)))), kc 4 3 (.i (10 + (1900 * (dv a0 3 256)))), kc 4 4 (.o 300 301 x1.1.length), kc 4 5 (.o 302 303 x3.1.length), kc 4 6 (.s 15 0 1 1), kc 4 7 (.i (dv a0 4 21)), kc 4 8 (.i (dv a0 5 101)), kc 4 9 (.i (2 * (dv a0 6 240))), kc 4 10 (.i (4 * (dv a0 7 256))), kc 15 0 (.i 0), kc 15 1 (.i 0)]) ?_ (kp rfl) rfl
   refine fin_then ?_
   refine aw_cutM (ι := Int × List Pt × Nat) hm (fun x5 => [kt 2 (.p 1 0), kt 3 (.f (.func 83) [] [.p 2 0, .p 3 0]), kt 4 (.p 4 0), kt 6 (.i x5.1), kb 1 25 11, kb 2 3 1, kb 3 22 1, kb 4 25 11, (.r 300, some (.vec true 301 84 2 (x1.1.flatMap encPt))), (.r 302, some (.vec true 303 84 2 (x3.1.flatMap encPt))), (.r 304, some (.vec true 305 84 2 (x5.2.1.flatMap encPt))), kc 1 0 (.i 0), kc 1 1 (.i 0), kc 1 2 (.i 0), kc 1 3 (.i 0), kc 1 4 (.v (.slice none 0 0)), kc 1 5 (.v (.slice none 0 0)), kc 1 6 (.v (.slice none 0 0)), kc 1 7 (.i 0), kc 1 8 (.i 0), kc 1 9 (.i 0), kc 1 10 (.i 0), kc 2 0 (.i (idx a0 x5.2.2)), kc 3 0 (.v (.slice a0_p a0.length a0_c)), kc 4 0 (.i (1 + (dv a0 0 6))), kc 4 1 (.i (100 + (390 * (dv a0 1 256)))), kc 4 2 (.i (10 + (7 * (dv a0 2 256)))), kc 4 3 (.i (10 + (1900 * (dv a0 3 256)))), kc 4 4 (.o 300 301 x1.1.length), kc 4 5 (.o 302 303 x3.1.length), kc 4 6 (.o 304 305 x5.2.1.length), kc 4 7 (.i (dv a0 4 21)), kc 4 8 (.i (dv a0 5 101)), kc 4 9 (.i (2 * (dv a0 6 240))), kc 4 10 (.i (4 * (dv a0 7 256)))]) (fun hm => ?_) (fun x5 hm => ?_)
   ·have _z := hm
    refine aw_seq ?_
    refine aw_text (rows := [_, _, _]) rfl (by kernel_rfl) ⟨
     ok_plain rfl rfl (op_move (ltN rfl) rfl),
     ok_plain rfl rfl (op_callLentL (ls := [⟨2, 3, [.i (idx a0 x3.2)], [.i (idx a0 (x3.2 + 1))]⟩, ⟨3, 22, [.v (.slice a0_p a0.length a0_c)], [.v (.slice a0_p a0.length a0_c)]⟩]) (x := .i (dv a0 x3.2 4)) (fs := []) (caps := [.p 2 0, .p 3 0]) (extra := []) (ltN rfl) en_83 rfl ⟨rfl, rfl, rfl⟩ (EvL.cons rfl EvL.nil) ⟨rfl, ⟨rfl, trivial⟩, rfl, lb_ne rfl, ⟨rfl, ⟨rfl, trivial⟩, rfl, lb_ne rfl, trivial⟩⟩ (fun mm aa ww gg hr hrel hbx hlo => c83L 4 x3.2 (mm 2) a0 ⟨a0_p, a0.length, a0_c⟩ (mm 3) ww (hbx _ (.head _)) (hbx _ (.tail _ (.head _))) (SlIs.mono ha0 hrel.below) (sl_ne ha0 (box_hi hrel hlo.1)) (box_ne hrel hlo.2.2.2.2.1 hlo.1 (by decide)) (by decide) h8a0 hlena0)),
     ok_plain rfl rfl (op_move (ltN rfl) rfl),
     trivial⟩ ?_
    refine fin_keep (s' := [kt 2 (.p 1 0), kt 3 (.f (.func 83) [] [.p 2 0, .p 3 0]), kt 4 (.p 4 0), kt 5 (.i 0), kt 6 (.i 0), kt 101 (.i (dv a0 x3.2 4)), kt 102 (.i 0), kb 1 25 11, kb 2 3 1, kb 3 22 1, kb 4 25 11, kb 15 84 2, (.r 300, some (.vec true 301 84 2 (x1.1.flatMap encPt))), (.r 302, some (.vec true 303 84 2 (x3.1.flatMap encPt))), kc 1 0 (.i 0), kc 1 1 (.i 0), kc 1 2 (.i 0), kc 1 3 (.i 0), kc 1 4 (.v (.slice none 0 0)), kc 1 5 (.v (.slice none 0 0)), kc 1 6 (.v (.slice none 0 0)), kc 1 7 (.i 0), kc 1 8 (.i 0), kc 1 9 (.i 0), kc 1 10 (.i 0), kc 2 0 (.i (idx a0 (x3.2 + 1))), kc 3 0 (.v (.slice a0_p a0.length a0_c)), kc 4 0 (.i (1 + (dv a0 0 6))), kc 4 1 (.i (100 + (390 * (dv a0 1 256)))), kc 4 2 (.i (10 + (7 * (dv a0 2 256)))), kc 4 3 (.i (10 + (1900 * (dv a0 3 256)))), kc 4 4 (.o 300 301 x1.1.length), kc 4 5 (.o 302 303 x3.1.length), kc 4 6 (.s 15 0 1 1), kc 4 7 (.i (dv a0 4 21)), kc 4 8 (.i (dv a0 5 101)), kc 4 9 (.i (2 * (dv a0 6 240))), kc 4 10 (.i (4 * (dv a0 7 256))), kc 15 0 (.i 0), kc 15 1 (.i 0)]) ?_ (kp rfl) rfl
    refine fin_then ?_
    refine aw_block ?_
    refine aw_toRow (.c 4 6) 15 16 1 2 [(.int .i64 0), (.int .i64 0)] rfl rfl rfl rfl (by decide) ⟨rfl, rfl, trivial⟩ rfl (by decide) rfl ?_
    refine aw_swp [(15, 304), (16, 305)] rfl ?_
    refine aw_loopC hm (fun x6 => [kt 2 (.p 1 0), kt 3 (.f (.func 83) [] [.p 2 0, .p 3 0]), kt 4 (.p 4 0), kt 5 (.i x6.1), kt 6 (.i x6.2.1), kt 101 (.i (dv a0 x3.2 4)), kt 102 (.i x6.2.2.1), kb 1 25 11, kb 2 3 1, kb 3 22 1, kb 4 25 11, (.r 300, some (.vec true 301 84 2 (x1.1.flatMap encPt))), (.r 302, some (.vec true 303 84 2 (x3.1.flatMap encPt))), (.r 304, some (.vec true 305 84 2 (x6.2.2.2.1.flatMap encPt))), kc 1 0 (.i 0), kc 1 1 (.i 0), kc 1 2 (.i 0), kc 1 3 (.i 0), kc 1 4 (.v (.slice none 0 0)), kc 1 5 (.v (.slice none 0 0)), kc 1 6 (.v (.slice none 0 0)), kc 1 7 (.i 0), kc 1 8 (.i 0), kc 1 9 (.i 0), kc 1 10 (.i 0), kc 2 0 (.i (idx a0 x6.2.2.2.2)), kc 3 0 (.v (.slice a0_p a0.length a0_c)), kc 4 0 (.i (1 + (dv a0 0 6))), kc 4 1 (.i (100 + (390 * (dv a0 1 256)))), kc 4 2 (.i (10 + (7 * (dv a0 2 256)))), kc 4 3 (.i (10 + (1900 * (dv a0 3 256)))), kc 4 4 (.o 300 301 x1.1.length), kc 4 5 (.o 302 303 x3.1.length), kc 4 6 (.o 304 305 x6.2.2.2.1.length), kc 4 7 (.i (dv a0 4 21)), kc 4 8 (.i (dv a0 5 101)), kc 4 9 (.i (2 * (dv a0 6 240))), kc 4 10 (.i (4 * (dv a0 7 256)))]) ⟨rfl, rfl, rfl, rfl, rfl, rfl, rfl, rfl, rfl, rfl, rfl, rfl, rfl, rfl, rfl, rfl, rfl, rfl, rfl, rfl, rfl, rfl, rfl, rfl, rfl, rfl, rfl, rfl, rfl, rfl, rfl, rfl, rfl, rfl, rfl, rfl, rfl, rfl, trivial⟩ rfl (fun x6 n6 hm => ?_)
    refine aw_seq ?_
    refine aw_text (rows := [_]) rfl (by kernel_rfl) ⟨
     ok_plain rfl rfl (op_bin (ltN rfl) rfl rfl rfl),
     trivial⟩ ?_
    refine fin_keep (s' := [kt 2 (.p 1 0), kt 3 (.f (.func 83) [] [.p 2 0, .p 3 0]), kt 4 (.p 4 0), kt 5 (.i x6.1), kt 6 (.i x6.2.1), kt 101 (.i (dv a0 x3.2 4)), kt 102 (.i x6.2.2.1), kt 103 (.B (decide (x6.2.2.1 < (dv a0 x3.2 4)))), kb 1 25 11, kb 2 3 1, kb 3 22 1, kb 4 25 11, (.r 300, some (.vec true 301 84 2 (x1.1.flatMap encPt))), (.r 302, some (.vec true 303 84 2 (x3.1.flatMap encPt))), (.r 304, some (.vec true 305 84 2 (x6.2.2.2.1.flatMap encPt))), kc 1 0 (.i 0), kc 1 1 (.i 0), kc 1 2 (.i 0), kc 1 3 (.i 0), kc 1 4 (.v (.slice none 0 0)), kc 1 5 (.v (.slice none 0 0)), kc 1 6 (.v (.slice none 0 0)), kc 1 7 (.i 0), kc 1 8 (.i 0), kc 1 9 (.i 0), kc 1 10 (.i 0), kc 2 0 (.i (idx a0 x6.2.2.2.2)), kc 3 0 (.v (.slice a0_p a0.length a0_c)), kc 4 0 (.i (1 + (dv a0 0 6))), kc 4 1 (.i (100 + (390 * (dv a0 1 256)))), kc 4 2 (.i (10 + (7 * (dv a0 2 256)))), kc 4 3 (.i (10 + (1900 * (dv a0 3 256)))), kc 4 4 (.o 300 301 x1.1.length), kc 4 5 (.o 302 303 x3.1.length), kc 4 6 (.o 304 305 x6.2.2.2.1.length), kc 4 7 (.i (dv a0 4 21)), kc 4 8 (.i (dv a0 5 101)), kc 4 9 (.i (2 * (dv a0 6 240))), kc 4 10 (.i (4 * (dv a0 7 256)))]) ?_ (kp rfl) rfl
    refine fin_then ?_
    refine aw_seq ?_
    refine aw_cond rfl (fun hz28 => ?_) (fun hz28 => ?_)
    ·have hm := brk_t hz28 hm
     refine aw_skip ?_
     refine fin_then ?_
     refine aw_seq ?_
     refine aw_block ?_
     refine aw_seq ?_
     obtain ⟨hp29, hm⟩ := chk_some hm
     obtain ⟨hp30, hm⟩ := chk_some hm
     obtain ⟨hp31, hm⟩ := chk_some hm
     obtain ⟨hp32, hm⟩ := chk_some hm
     refine aw_text (rows := [_, _, _, _, _, _, _, _, _, _, _, _]) rfl (by kernel_rfl) ⟨
      ok_plain rfl rfl (op_move (ltN rfl) rfl),
      ok_plain rfl rfl (op_bin (ltN rfl) rfl rfl (nw_add hp29)),
      ok_plain rfl rfl (op_move (ltN rfl) rfl),
      ok_plain rfl rfl (op_callLentL (ls := [⟨2, 3, [.i (idx a0 x6.2.2.2.2)], [.i (idx a0 (x6.2.2.2.2 + 1))]⟩, ⟨3, 22, [.v (.slice a0_p a0.length a0_c)], [.v (.slice a0_p a0.length a0_c)]⟩]) (x := .i (dv a0 x6.2.2.2.2 90)) (fs := []) (caps := [.p 2 0, .p 3 0]) (extra := []) (ltN rfl) en_83 rfl ⟨rfl, rfl, rfl⟩ (EvL.cons rfl EvL.nil) ⟨rfl, ⟨rfl, trivial⟩, rfl, lb_ne rfl, ⟨rfl, ⟨rfl, trivial⟩, rfl, lb_ne rfl, trivial⟩⟩ (fun mm aa ww gg hr hrel hbx hlo => c83L 90 x6.2.2.2.2 (mm 2) a0 ⟨a0_p, a0.length, a0_c⟩ (mm 3) ww (hbx _ (.head _)) (hbx _ (.tail _ (.head _))) (SlIs.mono ha0 hrel.below) (sl_ne ha0 (box_hi hrel hlo.1)) (box_ne hrel hlo.2.2.2.2.1 hlo.1 (by decide)) (by decide) h8a0 hlena0)),
      ok_plain rfl rfl (op_bin (ltN rfl) rfl rfl (nw_add hp30)),
      ok_plain rfl rfl (op_move (ltN rfl) rfl),
      ok_plain rfl rfl (op_move (ltN rfl) rfl),
      ok_plain rfl rfl (op_callLentL (ls := [⟨2, 3, [.i (idx a0 (x6.2.2.2.2 + 1))], [.i (idx a0 ((x6.2.2.2.2 + 1) + 1))]⟩, ⟨3, 22, [.v (.slice a0_p a0.length a0_c)], [.v (.slice a0_p a0.length a0_c)]⟩]) (x := .i (dv a0 ((x6.2.2.2.2 + 1)) 256)) (fs := []) (caps := [.p 2 0, .p 3 0]) (extra := []) (ltN rfl) en_83 rfl ⟨rfl, rfl, rfl⟩ (EvL.cons rfl EvL.nil) ⟨rfl, ⟨rfl, trivial⟩, rfl, lb_ne rfl, ⟨rfl, ⟨rfl, trivial⟩, rfl, lb_ne rfl, trivial⟩⟩ (fun mm aa ww gg hr hrel hbx hlo => c83L 256 ((x6.2.2.2.2 + 1)) (mm 2) a0 ⟨a0_p, a0.length, a0_c⟩ (mm 3) ww (hbx _ (.head _)) (hbx _ (.tail _ (.head _))) (SlIs.mono ha0 hrel.below) (sl_ne ha0 (box_hi hrel hlo.1)) (box_ne hrel hlo.2.2.2.2.1 hlo.1 (by decide)) (by decide) h8a0 hlena0)),
      ok_plain rfl rfl (op_bin (ltN rfl) rfl rfl (nw_mul hp31)),
      ok_plain rfl rfl (op_bin (ltN rfl) rfl rfl (nw_add hp32)),
      ok_plain rfl rfl (op_assign (ltN rfl) rfl),
      ok_plain rfl rfl (op_assign (ltN rfl) rfl),
      trivial⟩ ?_
     refine fin_keep (s' := [kt 2 (.p 1 0), kt 3 (.f (.func 83) [] [.p 2 0, .p 3 0]), kt 4 (.p 4 0), kt 5 (.i ((x6.1 + 1) + (dv a0 x6.2.2.2.2 90))), kt 6 (.i (x6.2.1 + (3 * (dv a0 ((x6.2.2.2.2 + 1)) 256)))), kt 101 (.i (dv a0 x3.2 4)), kt 102 (.i x6.2.2.1), kb 1 25 11, kb 2 3 1, kb 3 22 1, kb 4 25 11, (.r 300, some (.vec true 301 84 2 (x1.1.flatMap encPt))), (.r 302, some (.vec true 303 84 2 (x3.1.flatMap encPt))), (.r 304, some (.vec true 305 84 2 (x6.2.2.2.1.flatMap encPt))), kc 1 0 (.i 0), kc 1 1 (.i 0), kc 1 2 (.i 0), kc 1 3 (.i 0), kc 1 4 (.v (.slice none 0 0)), kc 1 5 (.v (.slice none 0 0)), kc 1 6 (.v (.slice none 0 0)), kc 1 7 (.i 0), kc 1 8 (.i 0), kc 1 9 (.i 0), kc 1 10 (.i 0), kc 2 0 (.i (idx a0 ((x6.2.2.2.2 + 1) + 1))), kc 3 0 (.v (.slice a0_p a0.length a0_c)), kc 4 0 (.i (1 + (dv a0 0 6))), kc 4 1 (.i (100 + (390 * (dv a0 1 256)))), kc 4 2 (.i (10 + (7 * (dv a0 2 256)))), kc 4 3 (.i (10 + (1900 * (dv a0 3 256)))), kc 4 4 (.o 300 301 x1.1.length), kc 4 5 (.o 302 303 x3.1.length), kc 4 6 (.o 304 305 x6.2.2.2.1.length), kc 4 7 (.i (dv a0 4 21)), kc 4 8 (.i (dv a0 5 101)), kc 4 9 (.i (2 * (dv a0 6 240))), kc 4 10 (.i (4 * (dv a0 7 256)))]) ?_ (kp rfl) rfl
     refine fin_then ?_
     obtain ⟨hp33, hm⟩ := chk_some hm
     refine aw_text (rows := [_, _, _, _, _, _, _, _, _]) rfl (by kernel_rfl) ⟨
      ok_plain rfl rfl (op_fieldAddr (ltN rfl) rfl fo_25_6),
      ok_plain rfl rfl (op_load1 (ltN rfl) sh_23 rfl rfl),
      ok_plain rfl rfl (op_move (ltN rfl) rfl),
      ok_plain rfl rfl (op_move (ltN rfl) rfl),
      ok_plain rfl rfl (op_build (x := .g [.i ((x6.1 + 1) + (dv a0 x6.2.2.2.2 90)), .i (x6.2.1 + (3 * (dv a0 ((x6.2.2.2.2 + 1)) 256)))]) (ltN rfl) (EvL.cons rfl (EvL.cons rfl EvL.nil)) (fun m w => by kernel_rfl)),
      ok_plain rfl rfl (op_buildSlice (L := 17) (ety := 84) (cs := [.i ((x6.1 + 1) + (dv a0 x6.2.2.2.2 90)), .i (x6.2.1 + (3 * (dv a0 ((x6.2.2.2.2 + 1)) 256)))]) (ltN rfl) (EvL.cons rfl EvL.nil) rfl (fun m w => by kernel_rfl)),
      ok_plain rfl rfl (op_append (L' := 18) (C' := 19) (vs := [(.int .i64 ((x6.1 + 1) + (dv a0 x6.2.2.2.2 90))), (.int .i64 (x6.2.1 + (3 * (dv a0 ((x6.2.2.2.2 + 1)) 256))))]) (ltN rfl) af_23 rfl rfl (flat_length (enc := encPt) (fun _ => rfl) x6.2.2.2.1) rfl ⟨rfl, rfl, trivial⟩ rfl rfl (by decide) (by have := hp33; omega) (by have := hp33; omega) (by decide)),
      ok_plain rfl rfl (op_fieldAddr (ltN rfl) rfl fo_25_6),
      ok_plain rfl rfl (op_store1 sz_23 rfl rfl rfl rfl (ltN rfl)),
      trivial⟩ ?_
     refine fin_keep (s' := [kt 2 (.p 1 0), kt 3 (.f (.func 83) [] [.p 2 0, .p 3 0]), kt 4 (.p 4 0), kt 5 (.i ((x6.1 + 1) + (dv a0 x6.2.2.2.2 90))), kt 6 (.i (x6.2.1 + (3 * (dv a0 ((x6.2.2.2.2 + 1)) 256)))), kt 101 (.i (dv a0 x3.2 4)), kt 102 (.i x6.2.2.1), kb 1 25 11, kb 2 3 1, kb 3 22 1, kb 4 25 11, (.r 18, some (.vec true 19 84 2 ((x6.2.2.2.1 ++ [(⟨(x6.1 + 1) + (dv a0 x6.2.2.2.2 90), x6.2.1 + (3 * (dv a0 ((x6.2.2.2.2 + 1)) 256))⟩ : Pt)]).flatMap encPt))), (.r 300, some (.vec true 301 84 2 (x1.1.flatMap encPt))), (.r 302, some (.vec true 303 84 2 (x3.1.flatMap encPt))), kc 1 0 (.i 0), kc 1 1 (.i 0), kc 1 2 (.i 0), kc 1 3 (.i 0), kc 1 4 (.v (.slice none 0 0)), kc 1 5 (.v (.slice none 0 0)), kc 1 6 (.v (.slice none 0 0)), kc 1 7 (.i 0), kc 1 8 (.i 0), kc 1 9 (.i 0), kc 1 10 (.i 0), kc 2 0 (.i (idx a0 ((x6.2.2.2.2 + 1) + 1))), kc 3 0 (.v (.slice a0_p a0.length a0_c)), kc 4 0 (.i (1 + (dv a0 0 6))), kc 4 1 (.i (100 + (390 * (dv a0 1 256)))), kc 4 2 (.i (10 + (7 * (dv a0 2 256)))), kc 4 3 (.i (10 + (1900 * (dv a0 3 256)))), kc 4 4 (.o 300 301 x1.1.length), kc 4 5 (.o 302 303 x3.1.length), kc 4 6 (.o 18 19 ((x6.2.2.2.1 ++ [(⟨(x6.1 + 1) + (dv a0 x6.2.2.2.2 90), x6.2.1 + (3 * (dv a0 ((x6.2.2.2.2 + 1)) 256))⟩ : Pt)]).length)), kc 4 7 (.i (dv a0 4 21)), kc 4 8 (.i (dv a0 5 101)), kc 4 9 (.i (2 * (dv a0 6 240))), kc 4 10 (.i (4 * (dv a0 7 256)))]) ?_ ⟨rfl, rfl, rfl, rfl, rfl, rfl, rfl, rfl, rfl, rfl, rfl, (Eq.trans (b := some (Val.vec true 19 84 2 (x6.2.2.2.1.flatMap encPt ++ [(.int .i64 ((x6.1 + 1) + (dv a0 x6.2.2.2.2 90))), (.int .i64 (x6.2.1 + (3 * (dv a0 ((x6.2.2.2.2 + 1)) 256))))]))) rfl (congrArg (fun q => some (Val.vec true 19 84 2 q)) (flat_snoc (enc := encPt) x6.2.2.2.1 ((⟨(x6.1 + 1) + (dv a0 x6.2.2.2.2 90), x6.2.1 + (3 * (dv a0 ((x6.2.2.2.2 + 1)) 256))⟩ : Pt))))), rfl, rfl, rfl, rfl, rfl, rfl, rfl, rfl, rfl, rfl, rfl, rfl, rfl, rfl, rfl, rfl, rfl, rfl, rfl, rfl, rfl, (congrArg (fun q => some (Val.x (SV.o 18 19 q))) (len_snoc x6.2.2.2.1 ((⟨(x6.1 + 1) + (dv a0 x6.2.2.2.2 90), x6.2.1 + (3 * (dv a0 ((x6.2.2.2.2 + 1)) 256))⟩ : Pt)))), rfl, rfl, rfl, rfl, trivial⟩ rfl
     refine fin_block ?_
     refine fin_then ?_
     obtain ⟨hp34, hm⟩ := chk_some hm
     refine aw_text (rows := [_, _]) rfl (by kernel_rfl) ⟨
      ok_plain rfl rfl (op_bin (ltN rfl) rfl rfl (nw_add hp34)),
      ok_plain rfl rfl (op_move (ltN rfl) rfl),
      trivial⟩ ?_
     refine fin_keep (s' := [kt 2 (.p 1 0), kt 3 (.f (.func 83) [] [.p 2 0, .p 3 0]), kt 4 (.p 4 0), kt 5 (.i ((x6.1 + 1) + (dv a0 x6.2.2.2.2 90))), kt 6 (.i (x6.2.1 + (3 * (dv a0 ((x6.2.2.2.2 + 1)) 256)))), kt 101 (.i (dv a0 x3.2 4)), kt 102 (.i (x6.2.2.1 + 1)), kb 1 25 11, kb 2 3 1, kb 3 22 1, kb 4 25 11, (.r 18, some (.vec true 19 84 2 ((x6.2.2.2.1 ++ [(⟨(x6.1 + 1) + (dv a0 x6.2.2.2.2 90), x6.2.1 + (3 * (dv a0 ((x6.2.2.2.2 + 1)) 256))⟩ : Pt)]).flatMap encPt))), (.r 300, some (.vec true 301 84 2 (x1.1.flatMap encPt))), (.r 302, some (.vec true 303 84 2 (x3.1.flatMap encPt))), kc 1 0 (.i 0), kc 1 1 (.i 0), kc 1 2 (.i 0), kc 1 3 (.i 0), kc 1 4 (.v (.slice none 0 0)), kc 1 5 (.v (.slice none 0 0)), kc 1 6 (.v (.slice none 0 0)), kc 1 7 (.i 0), kc 1 8 (.i 0), kc 1 9 (.i 0), kc 1 10 (.i 0), kc 2 0 (.i (idx a0 ((x6.2.2.2.2 + 1) + 1))), kc 3 0 (.v (.slice a0_p a0.length a0_c)), kc 4 0 (.i (1 + (dv a0 0 6))), kc 4 1 (.i (100 + (390 * (dv a0 1 256)))), kc 4 2 (.i (10 + (7 * (dv a0 2 256)))), kc 4 3 (.i (10 + (1900 * (dv a0 3 256)))), kc 4 4 (.o 300 301 x1.1.length), kc 4 5 (.o 302 303 x3.1.length), kc 4 6 (.o 18 19 ((x6.2.2.2.1 ++ [(⟨(x6.1 + 1) + (dv a0 x6.2.2.2.2 90), x6.2.1 + (3 * (dv a0 ((x6.2.2.2.2 + 1)) 256))⟩ : Pt)]).length)), kc 4 7 (.i (dv a0 4 21)), kc 4 8 (.i (dv a0 5 101)), kc 4 9 (.i (2 * (dv a0 6 240))), kc 4 10 (.i (4 * (dv a0 7 256)))]) ?_ (kp rfl) rfl
     refine fin_swp [(18, 304), (19, 305)] rfl ?_
     exact fin_cut ((x6.1 + 1) + (dv a0 x6.2.2.2.2 90), x6.2.1 + (3 * (dv a0 ((x6.2.2.2.2 + 1)) 256)), x6.2.2.1 + 1, (x6.2.2.2.1 ++ [(⟨(x6.1 + 1) + (dv a0 x6.2.2.2.2 90), x6.2.1 + (3 * (dv a0 ((x6.2.2.2.2 + 1)) 256))⟩ : Pt)]), ((x6.2.2.2.2 + 1) + 1)) hm ⟨rfl, rfl, rfl, rfl, rfl, rfl, rfl, rfl, rfl, rfl, rfl, rfl, rfl, rfl, rfl, rfl, rfl, rfl, rfl, rfl, rfl, rfl, rfl, rfl, rfl, rfl, rfl, rfl, rfl, rfl, rfl, rfl, rfl, rfl, rfl, rfl, rfl, rfl, trivial⟩ rfl
    ·have hm := brk_f hz28 hm
     refine aw_exit ?_
     refine fin_then_exit ?_
     refine fin_then_exit ?_
     refine fin_block_exit ?_
     exact fin_cut (x6.2.1, x6.2.2.2.1, x6.2.2.2.2) hm ⟨rfl, rfl, rfl, rfl, rfl, rfl, rfl, rfl, rfl, rfl, rfl, rfl, rfl, rfl, rfl, rfl, rfl, rfl, rfl, rfl, rfl, rfl, rfl, rfl, rfl, rfl, rfl, rfl, rfl, rfl, rfl, rfl, rfl, rfl, rfl, trivial⟩ rfl
   ·have _z := hm
    refine aw_seq ?_
    obtain ⟨hp35, hm⟩ := chk_some hm
    obtain ⟨hp36, hm⟩ := chk_some hm
    obtain ⟨hp37, hm⟩ := chk_some hm
    refine aw_any (rows := [_, _, _, _, _, _, _, _, _, _, _, _]) (M := [0, 1, 0, 0, 8, 24, 60, 124, 252, 511, 1023, 2047]) Tryd_mixed (by kernel_rfl) rfl (by kernel_rfl) ⟨
     ok_plain rfl rfl (op_fieldAddr (ltN rfl) rfl fo_25_6),
     ok_plain rfl rfl (op_load1 (ltN rfl) sh_23 rfl rfl),
     ok_plain rfl rfl (op_move (ltN rfl) rfl),
     ok_plain rfl rfl (op_move (ltN rfl) rfl),
     ok_plain rfl rfl (op_callLentL (ls := [⟨2, 3, [.i (idx a0 x5.2.2)], [.i (idx a0 (x5.2.2 + 1))]⟩, ⟨3, 22, [.v (.slice a0_p a0.length a0_c)], [.v (.slice a0_p a0.length a0_c)]⟩]) (x := .i (dv a0 x5.2.2 256)) (fs := []) (caps := [.p 2 0, .p 3 0]) (extra := []) (ltN rfl) en_83 rfl ⟨rfl, rfl, rfl⟩ (EvL.cons rfl EvL.nil) ⟨rfl, ⟨rfl, trivial⟩, rfl, lb_ne rfl, ⟨rfl, ⟨rfl, trivial⟩, rfl, lb_ne rfl, trivial⟩⟩ (fun mm aa ww gg hr hrel hbx hlo => c83L 256 x5.2.2 (mm 2) a0 ⟨a0_p, a0.length, a0_c⟩ (mm 3) ww (hbx _ (.head _)) (hbx _ (.tail _ (.head _))) (SlIs.mono ha0 hrel.below) (sl_ne ha0 (box_hi hrel hlo.1)) (box_ne hrel hlo.2.2.2.2.1 hlo.1 (by decide)) (by decide) h8a0 hlena0)),
     ok_plain rfl rfl (op_bin (ltN rfl) rfl rfl (nw_mul hp35)),
     ok_plain rfl rfl (op_bin (ltN rfl) rfl rfl (nw_add hp36)),
     ok_plain rfl rfl (op_build (x := .g [.i 400, .i (x5.1 + (4 * (dv a0 x5.2.2 256)))]) (ltN rfl) (EvL.cons rfl (EvL.cons rfl EvL.nil)) (fun m w => by kernel_rfl)),
     ok_plain rfl rfl (op_buildSlice (L := 20) (ety := 84) (cs := [.i 400, .i (x5.1 + (4 * (dv a0 x5.2.2 256)))]) (ltN rfl) (EvL.cons rfl EvL.nil) rfl (fun m w => by kernel_rfl)),
     ok_plain rfl rfl (op_append (L' := 21) (C' := 22) (vs := [(.int .i64 400), (.int .i64 (x5.1 + (4 * (dv a0 x5.2.2 256))))]) (ltN rfl) af_23 rfl rfl (flat_length (enc := encPt) (fun _ => rfl) x5.2.1) rfl ⟨rfl, rfl, trivial⟩ rfl rfl (by decide) (by have := hp37; omega) (by have := hp37; omega) (by decide)),
     ok_plain rfl rfl (op_fieldAddr (ltN rfl) rfl fo_25_6),
     ok_plain rfl rfl (op_store1 sz_23 rfl rfl rfl rfl (ltN rfl)),
     trivial⟩ ?_
    refine fin_keep (s' := [kt 2 (.p 1 0), kt 4 (.p 4 0), kb 1 25 11, kb 4 25 11, (.r 21, some (.vec true 22 84 2 ((x5.2.1 ++ [(⟨400, x5.1 + (4 * (dv a0 x5.2.2 256))⟩ : Pt)]).flatMap encPt))), (.r 300, some (.vec true 301 84 2 (x1.1.flatMap encPt))), (.r 302, some (.vec true 303 84 2 (x3.1.flatMap encPt))), kc 1 0 (.i 0), kc 1 1 (.i 0), kc 1 2 (.i 0), kc 1 3 (.i 0), kc 1 4 (.v (.slice none 0 0)), kc 1 5 (.v (.slice none 0 0)), kc 1 6 (.v (.slice none 0 0)), kc 1 7 (.i 0), kc 1 8 (.i 0), kc 1 9 (.i 0), kc 1 10 (.i 0), kc 4 0 (.i (1 + (dv a0 0 6))), kc 4 1 (.i (100 + (390 * (dv a0 1 256)))), kc 4 2 (.i (10 + (7 * (dv a0 2 256)))), kc 4 3 (.i (10 + (1900 * (dv a0 3 256)))), kc 4 4 (.o 300 301 x1.1.length), kc 4 5 (.o 302 303 x3.1.length), kc 4 6 (.o 21 22 ((x5.2.1 ++ [(⟨400, x5.1 + (4 * (dv a0 x5.2.2 256))⟩ : Pt)]).length)), kc 4 7 (.i (dv a0 4 21)), kc 4 8 (.i (dv a0 5 101)), kc 4 9 (.i (2 * (dv a0 6 240))), kc 4 10 (.i (4 * (dv a0 7 256)))]) ?_ ⟨rfl, rfl, rfl, rfl, (Eq.trans (b := some (Val.vec true 22 84 2 (x5.2.1.flatMap encPt ++ [(.int .i64 400), (.int .i64 (x5.1 + (4 * (dv a0 x5.2.2 256))))]))) rfl (congrArg (fun q => some (Val.vec true 22 84 2 q)) (flat_snoc (enc := encPt) x5.2.1 ((⟨400, x5.1 + (4 * (dv a0 x5.2.2 256))⟩ : Pt))))), rfl, rfl, rfl, rfl, rfl, rfl, rfl, rfl, rfl, rfl, rfl, rfl, rfl, rfl, rfl, rfl, rfl, rfl, rfl, (congrArg (fun q => some (Val.x (SV.o 21 22 q))) (len_snoc x5.2.1 ((⟨400, x5.1 + (4 * (dv a0 x5.2.2 256))⟩ : Pt)))), rfl, rfl, rfl, rfl, trivial⟩ rfl
    refine fin_then ?_
    refine aw_seq ?_
    refine aw_text (rows := [_, _]) rfl (by kernel_rfl) ⟨
     ok_plain rfl rfl (op_loadN (ys := [.i (1 + (dv a0 0 6)), .i (100 + (390 * (dv a0 1 256))), .i (10 + (7 * (dv a0 2 256))), .i (10 + (1900 * (dv a0 3 256))), .o 300 301 x1.1.length, .o 302 303 x3.1.length, .o 21 22 ((x5.2.1 ++ [(⟨400, x5.1 + (4 * (dv a0 x5.2.2 256))⟩ : Pt)]).length), .i (dv a0 4 21), .i (dv a0 5 101), .i (2 * (dv a0 6 240)), .i (4 * (dv a0 7 256))]) (ltN rfl) sh_25 rfl rfl ⟨rfl, rfl, rfl, rfl, rfl, rfl, rfl, rfl, rfl, rfl, rfl, trivial⟩),
     ok_plain rfl rfl (op_storeN sz_25 rfl rfl rfl rfl rfl (by decide)),
     trivial⟩ ?_
    refine fin_keep (s' := [kt 2 (.p 1 0), kb 1 25 11, (.r 21, some (.vec true 22 84 2 ((x5.2.1 ++ [(⟨400, x5.1 + (4 * (dv a0 x5.2.2 256))⟩ : Pt)]).flatMap encPt))), (.r 300, some (.vec true 301 84 2 (x1.1.flatMap encPt))), (.r 302, some (.vec true 303 84 2 (x3.1.flatMap encPt))), kc 1 0 (.i (1 + (dv a0 0 6))), kc 1 1 (.i (100 + (390 * (dv a0 1 256)))), kc 1 2 (.i (10 + (7 * (dv a0 2 256)))), kc 1 3 (.i (10 + (1900 * (dv a0 3 256)))), kc 1 4 (.o 300 301 x1.1.length), kc 1 5 (.o 302 303 x3.1.length), kc 1 6 (.o 21 22 ((x5.2.1 ++ [(⟨400, x5.1 + (4 * (dv a0 x5.2.2 256))⟩ : Pt)]).length)), kc 1 7 (.i (dv a0 4 21)), kc 1 8 (.i (dv a0 5 101)), kc 1 9 (.i (2 * (dv a0 6 240))), kc 1 10 (.i (4 * (dv a0 7 256)))]) ?_ (kp rfl) rfl
    refine fin_then ?_
    refine aw_ret ?_
    refine post_ret (x := .g [.i (1 + (dv a0 0 6)), .i (100 + (390 * (dv a0 1 256))), .i (10 + (7 * (dv a0 2 256))), .i (10 + (1900 * (dv a0 3 256))), .o 300 301 x1.1.length, .o 302 303 x3.1.length, .o 21 22 ((x5.2.1 ++ [(⟨400, x5.1 + (4 * (dv a0 x5.2.2 256))⟩ : Pt)]).length), .i (dv a0 4 21), .i (dv a0 5 101), .i (2 * (dv a0 6 240)), .i (4 * (dv a0 7 256))]) rfl rfl (resOK_cellN (ys := [.i (1 + (dv a0 0 6)), .i (100 + (390 * (dv a0 1 256))), .i (10 + (7 * (dv a0 2 256))), .i (10 + (1900 * (dv a0 3 256))), .o 300 301 x1.1.length, .o 302 303 x3.1.length, .o 21 22 ((x5.2.1 ++ [(⟨400, x5.1 + (4 * (dv a0 x5.2.2 256))⟩ : Pt)]).length), .i (dv a0 4 21), .i (dv a0 5 101), .i (2 * (dv a0 6 240)), .i (4 * (dv a0 7 256))]) rfl sh_25 rfl ⟨rfl, rfl, rfl, rfl, rfl, rfl, rfl, rfl, rfl, rfl, rfl, trivial⟩ resOK_nil) rfl (fun mm aa ww hr => ?_)
    have hm := Option.some.inj hm
    subst hm
    exact ⟨[⟨ptr0 (mm 300) (mm 301), x1.1.length, mm 301⟩, ⟨ptr0 (mm 302) (mm 303), x3.1.length, mm 303⟩, ⟨ptr0 (mm 21) (mm 22), ((x5.2.1 ++ [(⟨400, x5.1 + (4 * (dv a0 x5.2.2 256))⟩ : Pt)]).length), mm 22⟩], rfl, ⟨⟨rfl, newAt_row hr mine_nil rfl (flat_length (enc := encPt) (fun _ => rfl) _), rfl, newAt_row hr mine_nil rfl (flat_length (enc := encPt) (fun _ => rfl) _), rfl, newAt_row hr mine_nil rfl (flat_length (enc := encPt) (fun _ => rfl) _), trivial⟩, ⟨⟨apart_rr hr rfl rfl (by decide), apart_rr hr rfl rfl (by decide), trivial⟩, ⟨⟨apart_rr hr rfl rfl (by decide), trivial⟩, ⟨trivial, trivial⟩⟩⟩⟩, hr.below⟩

end Go.Proofs.T

namespace Go.Proofs.T
open Go Go.AX Go.RowKit Hull
theorem en_91 : Proofs.Enters Tryd.prog 91 := Proofs.enters_of Tryd.func91 (by kernel_rfl) rfl

theorem c24 (s : Ship) (s_Thrust_s : SlV) (s_Water_s : SlV) (s_Ice_s : SlV) (c : Cell) (ch : Bool) (w : World) (hs_Thrust : SlIs encPt 2 w s_Thrust_s s.Thrust) (hs_Water : SlIs encPt 2 w s_Water_s s.Water) (hs_Ice : SlIs encPt 2 w s_Ice_s s.Ice) (hG : BoxAt w 0 (strengths.map (fun n => Value.int .i64 n))) : Calls Tryd.prog 24 #[.agg #[.int .i64 s.Class, .int .i64 s.Power, .int .i64 s.Draught, .int .i64 s.Tonnes, .slice s_Thrust_s.p s_Thrust_s.n s_Thrust_s.c, .slice s_Water_s.p s_Water_s.n s_Water_s.c, .slice s_Ice_s.p s_Ice_s.n s_Ice_s.c, .int .i64 s.Slow, .int .i64 s.Brash, .int .i64 s.Ridge, .int .i64 s.Press], .agg #[.int .i64 c.Conc.Lo, .int .i64 c.Conc.Hi, .int .i64 c.Thick.Lo, .int .i64 c.Thick.Hi, .int .i64 c.Ridge.Lo, .int .i64 c.Ridge.Hi, .int .i64 c.Press.Lo, .int .i64 c.Press.Hi], .bool ch] w fun e w' => e = .returned (.tuple #[.int .i64 ((safeE s c ch).1), .int .i64 ((safeE s c ch).2)]) ∧ Below w.heap.size w w' := by
 obtain ⟨s_Thrust_p, s_Thrust_n, s_Thrust_c⟩ := s_Thrust_s
 have hs_Thrust_l : s_Thrust_n = s.Thrust.length := hs_Thrust.1
 subst hs_Thrust_l
 obtain ⟨s_Thrust_b, s_Thrust_o, hs_Thrust_p, hs_Thrust_L⟩ := SlAt.lies' hs_Thrust
 obtain ⟨s_Water_p, s_Water_n, s_Water_c⟩ := s_Water_s
 have hs_Water_l : s_Water_n = s.Water.length := hs_Water.1
 subst hs_Water_l
 obtain ⟨s_Water_b, s_Water_o, hs_Water_p, hs_Water_L⟩ := SlAt.lies' hs_Water
 obtain ⟨s_Ice_p, s_Ice_n, s_Ice_c⟩ := s_Ice_s
 have hs_Ice_l : s_Ice_n = s.Ice.length := hs_Ice.1
 subst hs_Ice_l
 obtain ⟨s_Ice_b, s_Ice_o, hs_Ice_p, hs_Ice_L⟩ := SlAt.lies' hs_Ice
 refine enter (args := [.g [.i s.Class, .i s.Power, .i s.Draught, .i s.Tonnes, .v (.slice s_Thrust_p s.Thrust.length s_Thrust_c), .v (.slice s_Water_p s.Water.length s_Water_c), .v (.slice s_Ice_p s.Ice.length s_Ice_c), .i s.Slow, .i s.Brash, .i s.Ridge, .i s.Press], .g [.i c.Conc.Lo, .i c.Conc.Hi, .i c.Thick.Lo, .i c.Thick.Hi, .i c.Ridge.Lo, .i c.Ridge.Hi, .i c.Press.Lo, .i c.Press.Hi], .B ch]) Tryd.func24 rfl (N := 20) rfl (Nat.le_of_ble_eq_true rfl) ?_
 refine aw_seq ?_
 refine aw_text (rows := [_, _, _, _]) rfl (by kernel_rfl) ⟨
  ok_plain rfl rfl (op_boxN (L := 1) (ltN rfl) rfl rfl rfl),
  ok_plain rfl rfl (op_boxN (L := 2) (ltN rfl) rfl rfl rfl),
  ok_plain rfl rfl (op_assign (ltN rfl) rfl),
  ok_plain rfl rfl (op_assign (ltN rfl) rfl),
  trivial⟩ ?_
 refine fin_keep (s' := (kt 2 (.B ch) :: kt 3 (.p 1 0) :: kt 4 (.p 2 0) :: kb 1 25 11 :: kb 2 34 8 :: sK 1 s (.v (.slice s_Thrust_p s.Thrust.length s_Thrust_c)) (.v (.slice s_Water_p s.Water.length s_Water_c)) (.v (.slice s_Ice_p s.Ice.length s_Ice_c)) [kc 2 0 (.i c.Conc.Lo), kc 2 1 (.i c.Conc.Hi), kc 2 2 (.i c.Thick.Lo), kc 2 3 (.i c.Thick.Hi), kc 2 4 (.i c.Ridge.Lo), kc 2 5 (.i c.Ridge.Hi), kc 2 6 (.i c.Press.Lo), kc 2 7 (.i c.Press.Hi)])) ?_ (kp rfl) rfl
 refine fin_then ?_
 refine aw_seq ?_
 refine aw_seq ?_
 refine aw_text (rows := [_, _, _, _]) rfl (by kernel_rfl) ⟨
  ok_plain rfl rfl (op_loadN (ys := [.i s.Class, .i s.Power, .i s.Draught, .i s.Tonnes, .v (.slice s_Thrust_p s.Thrust.length s_Thrust_c), .v (.slice s_Water_p s.Water.length s_Water_c), .v (.slice s_Ice_p s.Ice.length s_Ice_c), .i s.Slow, .i s.Brash, .i s.Ridge, .i s.Press]) (ltN rfl) sh_25 rfl rfl ⟨rfl, rfl, rfl, rfl, rfl, rfl, rfl, rfl, rfl, rfl, rfl, trivial⟩),
  ok_plain rfl rfl (op_loadN (ys := [.i c.Conc.Lo, .i c.Conc.Hi, .i c.Thick.Lo, .i c.Thick.Hi, .i c.Ridge.Lo, .i c.Ridge.Hi, .i c.Press.Lo, .i c.Press.Hi]) (ltN rfl) sh_34 rfl rfl ⟨rfl, rfl, rfl, rfl, rfl, rfl, rfl, rfl, trivial⟩),
  ok_plain rfl rfl (op_call (x := .i (met s c)) (fs := []) (caps := []) (extra := []) (ltN rfl) en_90 rfl ⟨rfl, rfl, rfl⟩ (EvL.cons rfl (EvL.cons rfl EvL.nil)) (fun mm aa ww gg hr hrel => (c90 s ⟨s_Thrust_p, s.Thrust.length, s_Thrust_c⟩ ⟨s_Water_p, s.Water.length, s_Water_c⟩ ⟨s_Ice_p, s.Ice.length, s_Ice_c⟩ c ww (SlIs.mono hs_Thrust hrel.below) (SlIs.mono hs_Water hrel.below) (SlIs.mono hs_Ice hrel.below)))),
  ok_plain rfl rfl (op_assign (ltN rfl) rfl),
  trivial⟩ ?_
 refine fin_keep (s' := (kt 2 (.B ch) :: kt 3 (.p 1 0) :: kt 4 (.p 2 0) :: kt 8 (.i (met s c)) :: kb 1 25 11 :: kb 2 34 8 :: sK 1 s (.v (.slice s_Thrust_p s.Thrust.length s_Thrust_c)) (.v (.slice s_Water_p s.Water.length s_Water_c)) (.v (.slice s_Ice_p s.Ice.length s_Ice_c)) [kc 2 0 (.i c.Conc.Lo), kc 2 1 (.i c.Conc.Hi), kc 2 2 (.i c.Thick.Lo), kc 2 3 (.i c.Thick.Hi), kc 2 4 (.i c.Ridge.Lo), kc 2 5 (.i c.Ridge.Hi), kc 2 6 (.i c.Press.Lo), kc 2 7 (.i c.Press.Hi)])) ?_ (kp rfl) rfl
 refine fin_then ?_
 refine aw_seq ?_
 refine aw_text (rows := [_, _]) rfl (by kernel_rfl) ⟨
  ok_plain rfl rfl (op_move (ltN rfl) rfl),
  ok_plain rfl rfl (op_bin (ltN rfl) rfl rfl rfl),
  trivial⟩ ?_
 refine fin_keep (s' := (kt 2 (.B ch) :: kt 3 (.p 1 0) :: kt 4 (.p 2 0) :: kt 8 (.i (met s c)) :: kt 13 (.B ((met s c) != 0)) :: kb 1 25 11 :: kb 2 34 8 :: sK 1 s (.v (.slice s_Thrust_p s.Thrust.length s_Thrust_c)) (.v (.slice s_Water_p s.Water.length s_Water_c)) (.v (.slice s_Ice_p s.Ice.length s_Ice_c)) [kc 2 0 (.i c.Conc.Lo), kc 2 1 (.i c.Conc.Hi), kc 2 2 (.i c.Thick.Lo), kc 2 3 (.i c.Thick.Hi), kc 2 4 (.i c.Ridge.Lo), kc 2 5 (.i c.Ridge.Hi), kc 2 6 (.i c.Press.Lo), kc 2 7 (.i c.Press.Hi)])) ?_ (kp rfl) rfl
 refine fin_then ?_
 refine aw_cond rfl (fun hz1 => ?_) (fun hz1 => ?_)
 ·have _z := hz1
  have q2 := ne_t hz1
  refine aw_seq ?_
  refine aw_text (rows := [_, _, _]) rfl (by kernel_rfl) ⟨
   ok_plain rfl rfl (op_move (ltN rfl) rfl),
   ok_plain rfl rfl (op_assign (ltN rfl) rfl),
   ok_plain rfl rfl (op_assign (ltN rfl) rfl),
   trivial⟩ ?_
  refine fin_keep (s' := [kt 6 (.i 0), kt 7 (.i (met s c))]) ?_ (kp rfl) rfl
  refine fin_then ?_
  refine aw_ret ?_
  refine fin_then_ret ?_
  refine post_ret (x := .t [.i 0, .i (met s c)]) rfl rfl (resOK_tmp rfl (resOK_tmp rfl resOK_nil)) rfl (fun mm aa ww hr => ?_)
  show Ending.returned (.tuple #[.int .i64 0, .int .i64 (met s c)]) = _ ∧ _
  exact ⟨by rw [safeE, if_pos (ne_t hz1)], hr.below⟩
 ·have _z := hz1
  have q3 := ne_f hz1
  refine aw_skip ?_
  refine fin_then ?_
  refine aw_seq ?_
  have hmet := met_ok (ne_f hz1)
  have hc := hmet.1
  have hg := hmet.2
  refine aw_text (rows := [_, _, _, _, _, _, _]) rfl (by kernel_rfl) ⟨
   ok_plain rfl rfl (op_loadN (ys := [.i c.Conc.Lo, .i c.Conc.Hi, .i c.Thick.Lo, .i c.Thick.Hi, .i c.Ridge.Lo, .i c.Ridge.Hi, .i c.Press.Lo, .i c.Press.Hi]) (ltN rfl) sh_34 rfl rfl ⟨rfl, rfl, rfl, rfl, rfl, rfl, rfl, rfl, trivial⟩),
   ok_plain rfl rfl (op_move (ltN rfl) rfl),
   ok_plain rfl rfl (op_call (x := .t [.i ((safe s c ch).1), .i ((safe s c ch).2)]) (fs := []) (caps := []) (extra := (kapp ((.b 1 :: cellKeys 1 0 11)) [])) (ltN rfl) en_87 rfl ⟨rfl, rfl, rfl⟩ (EvL.cons rfl (EvL.cons rfl (EvL.cons rfl EvL.nil))) (fun mm aa ww gg hr hrel => (c87 s ⟨s_Thrust_p, s.Thrust.length, s_Thrust_c⟩ ⟨s_Water_p, s.Water.length, s_Water_c⟩ ⟨s_Ice_p, s.Ice.length, s_Ice_c⟩ (mm 1) c ch ww (SlIs.mono hs_Thrust hrel.below) (SlIs.mono hs_Water hrel.below) (SlIs.mono hs_Ice hrel.below) (boxAt (L := 1) (vs := [(.int .i64 s.Class), (.int .i64 s.Power), (.int .i64 s.Draught), (.int .i64 s.Tonnes), (.slice s_Thrust_p s.Thrust.length s_Thrust_c), (.slice s_Water_p s.Water.length s_Water_c), (.slice s_Ice_p s.Ice.length s_Ice_c), (.int .i64 s.Slow), (.int .i64 s.Brash), (.int .i64 s.Ridge), (.int .i64 s.Press)]) hrel (fun k hk => hr k (List.mem_append_left _ hk)) rfl ⟨rfl, rfl, rfl, rfl, rfl, rfl, rfl, rfl, rfl, rfl, rfl, trivial⟩) (BoxAt.mono hG hrel.below) (by first | assumption | omega) (by first | assumption | omega)))),
   ok_plain rfl rfl (op_extract (ltN rfl) rfl rfl),
   ok_plain rfl rfl (op_extract (ltN rfl) rfl rfl),
   ok_plain rfl rfl (op_assign (ltN rfl) rfl),
   ok_plain rfl rfl (op_assign (ltN rfl) rfl),
   trivial⟩ ?_
  refine fin_keep (s' := [kt 6 (.i ((safe s c ch).1)), kt 7 (.i ((safe s c ch).2))]) ?_ (kp rfl) rfl
  refine fin_then ?_
  refine aw_ret ?_
  refine post_ret (x := .t [.i ((safe s c ch).1), .i ((safe s c ch).2)]) rfl rfl (resOK_tmp rfl (resOK_tmp rfl resOK_nil)) rfl (fun mm aa ww hr => ?_)
  show Ending.returned (.tuple #[.int .i64 ((safe s c ch).1), .int .i64 ((safe s c ch).2)]) = _ ∧ _
  exact ⟨by rw [safeE, if_neg (by rw [ne_f hz1]; decide)], hr.below⟩

def m25 (_F : Nat) (a0 : Ice) : Option (Cell) :=
 some ((⟨(⟨a0.Conc, a0.Conc⟩ : Span), (⟨a0.Thick, a0.Thick⟩ : Span), (⟨a0.Ridge, a0.Ridge⟩ : Span), (⟨a0.Press, a0.Press⟩ : Span)⟩ : Cell))

theorem c25 (F : Nat) (a0 : Ice) (w : World)  (r : Cell) (hm : m25 F a0 = some r) : Calls Tryd.prog 25 #[.agg #[.int .i64 a0.Conc, .int .i64 a0.Thick, .int .i64 a0.Ridge, .int .i64 a0.Press]] w fun e w' => e = .returned (.agg #[.int .i64 r.Conc.Lo, .int .i64 r.Conc.Hi, .int .i64 r.Thick.Lo, .int .i64 r.Thick.Hi, .int .i64 r.Ridge.Lo, .int .i64 r.Ridge.Hi, .int .i64 r.Press.Lo, .int .i64 r.Press.Hi]) ∧ Below w.heap.size w w' := by
 unfold m25 at hm
 refine enter (args := [.g [.i a0.Conc, .i a0.Thick, .i a0.Ridge, .i a0.Press]]) Tryd.func25 rfl (N := 24) rfl (Nat.le_of_ble_eq_true rfl) ?_
 refine aw_seq ?_
 refine aw_text (rows := [_, _]) rfl (by kernel_rfl) ⟨
  ok_plain rfl rfl (op_boxN (L := 1) (ltN rfl) rfl rfl rfl),
  ok_plain rfl rfl (op_alloc (L := 2) (ltN rfl) zl_34),
  trivial⟩ ?_
 refine fin_keep (s' := [kt 1 (.p 1 0), kt 2 (.p 2 0), kb 1 28 4, kb 2 34 8, kc 1 0 (.i a0.Conc), kc 1 1 (.i a0.Thick), kc 1 2 (.i a0.Ridge), kc 1 3 (.i a0.Press), kc 2 0 (.i 0), kc 2 1 (.i 0), kc 2 2 (.i 0), kc 2 3 (.i 0), kc 2 4 (.i 0), kc 2 5 (.i 0), kc 2 6 (.i 0), kc 2 7 (.i 0)]) ?_ (kp rfl) rfl
 refine fin_then ?_
 refine aw_seq ?_
 refine aw_text (rows := [_, _, _, _, _, _, _, _, _, _, _, _, _, _, _, _, _, _, _, _, _, _]) rfl (by kernel_rfl) ⟨
  ok_plain rfl rfl (op_fieldAddr (ltN rfl) rfl fo_28_0),
  ok_plain rfl rfl (op_load1 (ltN rfl) sh_3 rfl rfl),
  ok_plain rfl rfl (op_fieldAddr (ltN rfl) rfl fo_28_0),
  ok_plain rfl rfl (op_load1 (ltN rfl) sh_3 rfl rfl),
  ok_plain rfl rfl (op_build (x := .g [.i a0.Conc, .i a0.Conc]) (ltN rfl) (EvL.cons rfl (EvL.cons rfl EvL.nil)) (fun m w => by kernel_rfl)),
  ok_plain rfl rfl (op_fieldAddr (ltN rfl) rfl fo_28_1),
  ok_plain rfl rfl (op_load1 (ltN rfl) sh_3 rfl rfl),
  ok_plain rfl rfl (op_fieldAddr (ltN rfl) rfl fo_28_1),
  ok_plain rfl rfl (op_load1 (ltN rfl) sh_3 rfl rfl),
  ok_plain rfl rfl (op_build (x := .g [.i a0.Thick, .i a0.Thick]) (ltN rfl) (EvL.cons rfl (EvL.cons rfl EvL.nil)) (fun m w => by kernel_rfl)),
  ok_plain rfl rfl (op_fieldAddr (ltN rfl) rfl fo_28_2),
  ok_plain rfl rfl (op_load1 (ltN rfl) sh_3 rfl rfl),
  ok_plain rfl rfl (op_fieldAddr (ltN rfl) rfl fo_28_2),
  ok_plain rfl rfl (op_load1 (ltN rfl) sh_3 rfl rfl),
  ok_plain rfl rfl (op_build (x := .g [.i a0.Ridge, .i a0.Ridge]) (ltN rfl) (EvL.cons rfl (EvL.cons rfl EvL.nil)) (fun m w => by kernel_rfl)),
  ok_plain rfl rfl (op_fieldAddr (ltN rfl) rfl fo_28_3),
  ok_plain rfl rfl (op_load1 (ltN rfl) sh_3 rfl rfl),
  ok_plain rfl rfl (op_fieldAddr (ltN rfl) rfl fo_28_3),
  ok_plain rfl rfl (op_load1 (ltN rfl) sh_3 rfl rfl),
  ok_plain rfl rfl (op_build (x := .g [.i a0.Press, .i a0.Press]) (ltN rfl) (EvL.cons rfl (EvL.cons rfl EvL.nil)) (fun m w => by kernel_rfl)),
  ok_plain rfl rfl (op_build (x := .g [.i a0.Conc, .i a0.Conc, .i a0.Thick, .i a0.Thick, .i a0.Ridge, .i a0.Ridge, .i a0.Press, .i a0.Press]) (ltN rfl) (EvL.cons rfl (EvL.cons rfl (EvL.cons rfl (EvL.cons rfl EvL.nil)))) (fun m w => by kernel_rfl)),
  ok_plain rfl rfl (op_storeN sz_34 rfl rfl rfl rfl rfl (by decide)),
  trivial⟩ ?_
 refine fin_keep (s' := [kt 2 (.p 2 0), kb 2 34 8, kc 2 0 (.i a0.Conc), kc 2 1 (.i a0.Conc), kc 2 2 (.i a0.Thick), kc 2 3 (.i a0.Thick), kc 2 4 (.i a0.Ridge), kc 2 5 (.i a0.Ridge), kc 2 6 (.i a0.Press), kc 2 7 (.i a0.Press)]) ?_ (kp rfl) rfl
 refine fin_then ?_
 refine aw_ret ?_
 refine post_ret (x := .g [.i a0.Conc, .i a0.Conc, .i a0.Thick, .i a0.Thick, .i a0.Ridge, .i a0.Ridge, .i a0.Press, .i a0.Press]) rfl rfl (resOK_cellN (ys := [.i a0.Conc, .i a0.Conc, .i a0.Thick, .i a0.Thick, .i a0.Ridge, .i a0.Ridge, .i a0.Press, .i a0.Press]) rfl sh_34 rfl ⟨rfl, rfl, rfl, rfl, rfl, rfl, rfl, rfl, trivial⟩ resOK_nil) rfl (fun mm aa ww hr => ?_)
 have hm := Option.some.inj hm
 subst hm
 exact ⟨rfl, hr.below⟩

def m91_0 (_F : Nat) (a0 : Span) (l2_0 : List Int) (n1_0 : Nat) : Option (Int × Nat) :=
 chk (InR (256 * (dv l2_0 ((n1_0 + 1)) 2))) (chk (InR ((dv l2_0 n1_0 256) + (256 * (dv l2_0 ((n1_0 + 1)) 2)))) (chk (InR (a0.Hi - a0.Lo)) (chk (InR ((a0.Hi - a0.Lo) + 1)) (chk ((0 ≤ ((dv l2_0 n1_0 256) + (256 * (dv l2_0 ((n1_0 + 1)) 2))) ∧ ((dv l2_0 n1_0 256) + (256 * (dv l2_0 ((n1_0 + 1)) 2))) ≤ 9223372036854775807) ∧ 0 < ((a0.Hi - a0.Lo) + 1)) (chk (InR (a0.Lo + (((dv l2_0 n1_0 256) + (256 * (dv l2_0 ((n1_0 + 1)) 2))) % ((a0.Hi - a0.Lo) + 1)))) (some (a0.Lo + (((dv l2_0 n1_0 256) + (256 * (dv l2_0 ((n1_0 + 1)) 2))) % ((a0.Hi - a0.Lo) + 1)), ((n1_0 + 1) + 1))))))))

theorem c91_0 (F : Nat) (a0 : Span) (b0 : Nat) (b1 : Nat) (b2 : Nat) (l2_0 : List Int) (l2_0_s : SlV) (n1_0 : Nat) (w : World) (hb0 : w.heap[b0]? = some (.cells ([.func (.func 83) #[] #[.pointer (some ⟨b1, 0, none⟩), .pointer (some ⟨b2, 0, none⟩)]] : List Value).toArray 44 (0, 0))) (hb1 : w.heap[b1]? = some (.cells ([.int .i64 (idx l2_0 n1_0)] : List Value).toArray 3 (0, 0))) (hb2 : w.heap[b2]? = some (.cells ([.slice l2_0_s.p l2_0_s.n l2_0_s.c] : List Value).toArray 22 (0, 0))) (hd_0_1 : b1 ≠ b0) (hd_0_2 : b2 ≠ b0) (hd_1_2 : b2 ≠ b1) (hl2_0 : SlIs encU8 1 w l2_0_s l2_0) (h8l2_0 : ∀ x ∈ l2_0, 0 ≤ x ∧ x ≤ 255) (hlenl2_0 : l2_0.length ≤ 9223372036854775807) (hn_l2_0_0 : l2_0 ≠ [] → ∀ ad, l2_0_s.p = some ad → ad.block ≠ b0) (hn_l2_0_1 : l2_0 ≠ [] → ∀ ad, l2_0_s.p = some ad → ad.block ≠ b1) (hn_l2_0_2 : l2_0 ≠ [] → ∀ ad, l2_0_s.p = some ad → ad.block ≠ b2) (r : Int × Nat) (hm : m91_0 F a0 l2_0 n1_0 = some r) : Calls Tryd.prog 91 #[.agg #[.int .i64 a0.Lo, .int .i64 a0.Hi], .pointer (some ⟨b0, 0, none⟩)] w fun e w' => e = .returned (.int .i64 r.1) ∧ LentL w w' [(b0, 44, [.func (.func 83) #[] #[.pointer (some ⟨b1, 0, none⟩), .pointer (some ⟨b2, 0, none⟩)]]), (b1, 3, [.int .i64 (idx l2_0 r.2)]), (b2, 22, [.slice l2_0_s.p l2_0_s.n l2_0_s.c])] := by
 obtain ⟨l2_0_p, l2_0_n, l2_0_c⟩ := l2_0_s
 have hl2_0_l : l2_0_n = l2_0.length := hl2_0.1
 subst hl2_0_l
 obtain ⟨l2_0_b, l2_0_o, hl2_0_p, hl2_0_L⟩ := SlAt.lies' hl2_0
 unfold m91_0 at hm
 refine enterG (args := [.g [.i a0.Lo, .i a0.Hi], .v (.pointer (some ⟨b0, 0, none⟩))]) Tryd.func91 rfl (N := 20) rfl (Nat.le_of_ble_eq_true rfl) [(900, b0, 44, [.func (.func 83) #[] #[.pointer (some ⟨b1, 0, none⟩), .pointer (some ⟨b2, 0, none⟩)]]), (901, b1, 3, [.int .i64 (idx l2_0 n1_0)]), (902, b2, 22, [(.slice l2_0_p l2_0.length l2_0_c)])] ⟨hb0, (by simp [loans2, hd_0_1, hd_0_2]), ⟨hb1, (by simp [loans2, hd_1_2]), ⟨hb2, (by simp [loans2]), trivial⟩⟩⟩ rfl ?_
 refine aw_rex (k := .t 1) (.p 900 0) rfl (fun m hm => by have h0 := hm ((900, b0) : Nat × Nat) (by simp [loans2]); simp only [den]; rw [h0]) ?_
 refine aw_rex (k := .c 900 0) (.f (.func 83) [] [.p 901 0, .p 902 0]) rfl (fun m hm => by have h0 := hm ((901, b1) : Nat × Nat) (by simp [loans2]); have h1 := hm ((902, b2) : Nat × Nat) (by simp [loans2]); simp only [den, denL]; rw [h0, h1]) ?_
 refine AW.keep (s' := [kt 0 (.g [.i a0.Lo, .i a0.Hi]), kt 1 (.p 900 0), kb 900 44 1, kb 901 3 1, kb 902 22 1, kc 900 0 (.f (.func 83) [] [.p 901 0, .p 902 0]), kc 901 0 (.i (idx l2_0 n1_0)), kc 902 0 (.v (.slice l2_0_p l2_0.length l2_0_c))]) ?_ (kp rfl) rfl
 refine aw_seq ?_
 refine aw_text (rows := [_, _]) rfl (by kernel_rfl) ⟨
  ok_plain rfl rfl (op_boxN (L := 1) (ltN rfl) rfl rfl rfl),
  ok_plain rfl rfl (op_assign (ltN rfl) rfl),
  trivial⟩ ?_
 refine fin_keep (s' := [kt 1 (.p 900 0), kt 2 (.p 1 0), kb 1 32 2, kb 900 44 1, kb 901 3 1, kb 902 22 1, kc 1 0 (.i a0.Lo), kc 1 1 (.i a0.Hi), kc 900 0 (.f (.func 83) [] [.p 901 0, .p 902 0]), kc 901 0 (.i (idx l2_0 n1_0)), kc 902 0 (.v (.slice l2_0_p l2_0.length l2_0_c))]) ?_ (kp rfl) rfl
 refine fin_then ?_
 refine aw_seq ?_
 obtain ⟨hp1, hm⟩ := chk_some hm
 obtain ⟨hp2, hm⟩ := chk_some hm
 obtain ⟨hp3, hm⟩ := chk_some hm
 obtain ⟨hp4, hm⟩ := chk_some hm
 obtain ⟨hp5, hm⟩ := chk_some hm
 obtain ⟨hp6, hm⟩ := chk_some hm
 refine aw_any (rows := [_, _, _, _, _, _, _, _, _, _, _, _, _, _, _, _, _]) (M := [0, 1, 0, 4, 0, 28, 60, 124, 0, 256, 0, 1024, 3840, 7936, 16380, 32767, 65535]) Tryd_mixed (by kernel_rfl) rfl (by kernel_rfl) ⟨
  ok_plain rfl rfl (op_fieldAddr (ltN rfl) rfl fo_32_0),
  ok_plain rfl rfl (op_load1 (ltN rfl) sh_3 rfl rfl),
  ok_plain rfl rfl (op_load1 (ltN rfl) sh_44 rfl rfl),
  ok_plain rfl rfl (op_callLentL (ls := [⟨901, 3, [.i (idx l2_0 n1_0)], [.i (idx l2_0 (n1_0 + 1))]⟩, ⟨902, 22, [.v (.slice l2_0_p l2_0.length l2_0_c)], [.v (.slice l2_0_p l2_0.length l2_0_c)]⟩]) (x := .i (dv l2_0 n1_0 256)) (fs := []) (caps := [.p 901 0, .p 902 0]) (extra := []) (ltN rfl) en_83 rfl ⟨rfl, rfl, rfl⟩ (EvL.cons rfl EvL.nil) ⟨rfl, ⟨rfl, trivial⟩, rfl, lb_ne rfl, ⟨rfl, ⟨rfl, trivial⟩, rfl, lb_ne rfl, trivial⟩⟩ (fun mm aa ww gg hr hrel hbx hlo => c83L 256 n1_0 (mm 901) l2_0 ⟨l2_0_p, l2_0.length, l2_0_c⟩ (mm 902) ww (hbx _ (.head _)) (hbx _ (.tail _ (.head _))) (SlIs.kept hl2_0 hrel (fun hl ad h => (lent_cons (hn_l2_0_0 hl ad h) (lent_cons (hn_l2_0_1 hl ad h) (lent_cons (hn_l2_0_2 hl ad h) lent_nil))))) (fun hl ad h => by rw [(hrel.fix 901 b1 (by simp [loans2])).1]; exact hn_l2_0_1 hl ad h) (box_ne hrel hlo.2.2.2.2.1 hlo.1 (by decide)) (by decide) h8l2_0 hlenl2_0)),
  ok_plain rfl rfl (op_load1 (ltN rfl) sh_44 rfl rfl),
  ok_plain rfl rfl (op_callLentL (ls := [⟨901, 3, [.i (idx l2_0 (n1_0 + 1))], [.i (idx l2_0 ((n1_0 + 1) + 1))]⟩, ⟨902, 22, [.v (.slice l2_0_p l2_0.length l2_0_c)], [.v (.slice l2_0_p l2_0.length l2_0_c)]⟩]) (x := .i (dv l2_0 ((n1_0 + 1)) 2)) (fs := []) (caps := [.p 901 0, .p 902 0]) (extra := []) (ltN rfl) en_83 rfl ⟨rfl, rfl, rfl⟩ (EvL.cons rfl EvL.nil) ⟨rfl, ⟨rfl, trivial⟩, rfl, lb_ne rfl, ⟨rfl, ⟨rfl, trivial⟩, rfl, lb_ne rfl, trivial⟩⟩ (fun mm aa ww gg hr hrel hbx hlo => c83L 2 ((n1_0 + 1)) (mm 901) l2_0 ⟨l2_0_p, l2_0.length, l2_0_c⟩ (mm 902) ww (hbx _ (.head _)) (hbx _ (.tail _ (.head _))) (SlIs.kept hl2_0 hrel (fun hl ad h => (lent_cons (hn_l2_0_0 hl ad h) (lent_cons (hn_l2_0_1 hl ad h) (lent_cons (hn_l2_0_2 hl ad h) lent_nil))))) (fun hl ad h => by rw [(hrel.fix 901 b1 (by simp [loans2])).1]; exact hn_l2_0_1 hl ad h) (box_ne hrel hlo.2.2.2.2.1 hlo.1 (by decide)) (by decide) h8l2_0 hlenl2_0)),
  ok_plain rfl rfl (op_bin (ltN rfl) rfl rfl (nw_mul hp1)),
  ok_plain rfl rfl (op_bin (ltN rfl) rfl rfl (nw_add hp2)),
  ok_plain rfl rfl (op_fieldAddr (ltN rfl) rfl fo_32_1),
  ok_plain rfl rfl (op_load1 (ltN rfl) sh_3 rfl rfl),
  ok_plain rfl rfl (op_fieldAddr (ltN rfl) rfl fo_32_0),
  ok_plain rfl rfl (op_load1 (ltN rfl) sh_3 rfl rfl),
  ok_plain rfl rfl (op_bin (ltN rfl) rfl rfl (nw_sub hp3)),
  ok_plain rfl rfl (op_bin (ltN rfl) rfl rfl (nw_add hp4)),
  ok_plain rfl rfl (op_rem (ltN rfl) rfl rfl (Int.ne_of_gt hp5.2) (rem_nn hp5.1.1 hp5.2 hp5.1.2)),
  ok_plain rfl rfl (op_bin (ltN rfl) rfl rfl (nw_add hp6)),
  ok_plain rfl rfl (op_assign (ltN rfl) rfl),
  trivial⟩ ?_
 refine fin_keep (s' := [kt 3 (.i (a0.Lo + (((dv l2_0 n1_0 256) + (256 * (dv l2_0 ((n1_0 + 1)) 2))) % ((a0.Hi - a0.Lo) + 1)))), kb 900 44 1, kb 901 3 1, kb 902 22 1, kc 900 0 (.f (.func 83) [] [.p 901 0, .p 902 0]), kc 901 0 (.i (idx l2_0 ((n1_0 + 1) + 1))), kc 902 0 (.v (.slice l2_0_p l2_0.length l2_0_c))]) ?_ (kp rfl) rfl
 refine fin_then ?_
 refine aw_ret ?_
 refine post_ret (x := .i (a0.Lo + (((dv l2_0 n1_0 256) + (256 * (dv l2_0 ((n1_0 + 1)) 2))) % ((a0.Hi - a0.Lo) + 1)))) rfl rfl (resOK_tmp rfl resOK_nil) rfl (fun mm aa ww hr => ?_)
 have hm := Option.some.inj hm
 subst hm
 have hr := hr.rex (k0 := .c 900 0) (x := .v (.func (.func 83) #[] #[.pointer (some ⟨b1, 0, none⟩), .pointer (some ⟨b2, 0, none⟩)])) rfl (by simp only [den, denL]; rw [(hr.fix 901 b1 (by simp [loans2])).1, (hr.fix 902 b2 (by simp [loans2])).1])
 exact ⟨rfl, lentL_end hr [(900, b0, 44, [.func (.func 83) #[] #[.pointer (some ⟨b1, 0, none⟩), .pointer (some ⟨b2, 0, none⟩)]]), (901, b1, 3, [(.int .i64 (idx l2_0 ((n1_0 + 1) + 1)))]), (902, b2, 22, [(.slice l2_0_p l2_0.length l2_0_c)])] rfl ⟨rfl, ⟨rfl, trivial⟩, ⟨rfl, ⟨rfl, trivial⟩, ⟨rfl, ⟨rfl, trivial⟩, trivial⟩⟩⟩⟩

def m26 (F : Nat) (a0 : Cell) (a1 : List Int) : Option (Ice) :=
 bnd (m91_0 F a0.Conc a1 0) (fun v1 => bnd (m91_0 F a0.Thick a1 v1.2) (fun v2 => bnd (m91_0 F a0.Ridge a1 v2.2) (fun v3 => bnd (m91_0 F a0.Press a1 v3.2) (fun v4 => some ((⟨v1.1, v2.1, v3.1, v4.1⟩ : Ice))))))

theorem c26 (F : Nat) (a0 : Cell) (a1 : List Int) (a1_s : SlV) (w : World) (ha1 : SlIs encU8 1 w a1_s a1) (h8a1 : ∀ x ∈ a1, 0 ≤ x ∧ x ≤ 255) (hlena1 : a1.length ≤ 9223372036854775807) (r : Ice) (hm : m26 F a0 a1 = some r) : Calls Tryd.prog 26 #[.agg #[.int .i64 a0.Conc.Lo, .int .i64 a0.Conc.Hi, .int .i64 a0.Thick.Lo, .int .i64 a0.Thick.Hi, .int .i64 a0.Ridge.Lo, .int .i64 a0.Ridge.Hi, .int .i64 a0.Press.Lo, .int .i64 a0.Press.Hi], .slice a1_s.p a1_s.n a1_s.c] w fun e w' => e = .returned (.agg #[.int .i64 r.Conc, .int .i64 r.Thick, .int .i64 r.Ridge, .int .i64 r.Press]) ∧ Below w.heap.size w w' := by
 obtain ⟨a1_p, a1_n, a1_c⟩ := a1_s
 have ha1_l : a1_n = a1.length := ha1.1
 subst ha1_l
 obtain ⟨a1_b, a1_o, ha1_p, ha1_L⟩ := SlAt.lies' ha1
 unfold m26 at hm
 refine enter (args := [.g [.i a0.Conc.Lo, .i a0.Conc.Hi, .i a0.Thick.Lo, .i a0.Thick.Hi, .i a0.Ridge.Lo, .i a0.Ridge.Hi, .i a0.Press.Lo, .i a0.Press.Hi], .v (.slice a1_p a1.length a1_c)]) Tryd.func26 rfl (N := 27) rfl (Nat.le_of_ble_eq_true rfl) ?_
 refine aw_seq ?_
 refine aw_text (rows := [_, _]) rfl (by kernel_rfl) ⟨
  ok_plain rfl rfl (op_boxN (L := 1) (ltN rfl) rfl rfl rfl),
  ok_plain rfl rfl (op_alloc (L := 2) (ltN rfl) zl_28),
  trivial⟩ ?_
 refine fin_keep (s' := [kt 1 (.v (.slice a1_p a1.length a1_c)), kt 2 (.p 1 0), kt 4 (.p 2 0), kb 1 34 8, kb 2 28 4, kc 1 0 (.i a0.Conc.Lo), kc 1 1 (.i a0.Conc.Hi), kc 1 2 (.i a0.Thick.Lo), kc 1 3 (.i a0.Thick.Hi), kc 1 4 (.i a0.Ridge.Lo), kc 1 5 (.i a0.Ridge.Hi), kc 1 6 (.i a0.Press.Lo), kc 1 7 (.i a0.Press.Hi), kc 2 0 (.i 0), kc 2 1 (.i 0), kc 2 2 (.i 0), kc 2 3 (.i 0)]) ?_ (kp rfl) rfl
 refine fin_then ?_
 refine aw_seq ?_
 refine aw_text (rows := [_, _, _, _]) rfl (by kernel_rfl) ⟨
  ok_plain rfl rfl (op_move (ltN rfl) rfl),
  ok_plain rfl rfl (op_callTwo (L1 := 3) (L2 := 4) (ty1 := 3) (ty2 := 22) (v1 := [.int .i64 (idx a1 0)]) (v2 := [(.slice a1_p a1.length a1_c)]) (R := fun b1 b2 => .func (.func 83) #[] #[.pointer (some ⟨b1, 0, none⟩), .pointer (some ⟨b2, 0, none⟩)]) (x := .f (.func 83) [] [.p 3 0, .p 4 0]) (fs := []) (caps := []) (extra := []) (ltN rfl) en_22 rfl ⟨rfl, rfl, rfl⟩ (EvL.cons rfl EvL.nil) (by decide) (fun _ => rfl) (fun mm aa ww gg hr hrel => (c22 a1 ⟨a1_p, a1.length, a1_c⟩ ww (SlIs.mono ha1 hrel.below)))),
  ok_plain rfl rfl (op_alloc (L := 5) (ltN rfl) zl_44),
  ok_plain rfl rfl (op_store1 sz_44 rfl rfl rfl rfl (ltN rfl)),
  trivial⟩ ?_
 refine fin_keep (s' := [kt 2 (.p 1 0), kt 4 (.p 2 0), kt 5 (.p 5 0), kb 1 34 8, kb 2 28 4, kb 3 3 1, kb 4 22 1, kb 5 44 1, kc 1 0 (.i a0.Conc.Lo), kc 1 1 (.i a0.Conc.Hi), kc 1 2 (.i a0.Thick.Lo), kc 1 3 (.i a0.Thick.Hi), kc 1 4 (.i a0.Ridge.Lo), kc 1 5 (.i a0.Ridge.Hi), kc 1 6 (.i a0.Press.Lo), kc 1 7 (.i a0.Press.Hi), kc 2 0 (.i 0), kc 2 1 (.i 0), kc 2 2 (.i 0), kc 2 3 (.i 0), kc 3 0 (.i (idx a1 0)), kc 4 0 (.v (.slice a1_p a1.length a1_c)), kc 5 0 (.f (.func 83) [] [.p 3 0, .p 4 0])]) ?_ (kp rfl) rfl
 refine fin_then ?_
 refine aw_seq ?_
 refine aw_text (rows := [_, _]) rfl (by kernel_rfl) ⟨
  ok_plain rfl rfl (op_mkfn (ltN rfl) EvL.nil (EvL.cons rfl EvL.nil)),
  ok_plain rfl rfl (op_assign (ltN rfl) rfl),
  trivial⟩ ?_
 refine fin_keep (s' := [kt 2 (.p 1 0), kt 4 (.p 2 0), kt 6 (.f (.func 91) [] [.p 5 0]), kb 1 34 8, kb 2 28 4, kb 3 3 1, kb 4 22 1, kb 5 44 1, kc 1 0 (.i a0.Conc.Lo), kc 1 1 (.i a0.Conc.Hi), kc 1 2 (.i a0.Thick.Lo), kc 1 3 (.i a0.Thick.Hi), kc 1 4 (.i a0.Ridge.Lo), kc 1 5 (.i a0.Ridge.Hi), kc 1 6 (.i a0.Press.Lo), kc 1 7 (.i a0.Press.Hi), kc 2 0 (.i 0), kc 2 1 (.i 0), kc 2 2 (.i 0), kc 2 3 (.i 0), kc 3 0 (.i (idx a1 0)), kc 4 0 (.v (.slice a1_p a1.length a1_c)), kc 5 0 (.f (.func 83) [] [.p 3 0, .p 4 0])]) ?_ (kp rfl) rfl
 refine fin_then ?_
 refine aw_seq ?_
 obtain ⟨v1, hv1, hm⟩ := bnd_some hm
 obtain ⟨v2, hv2, hm⟩ := bnd_some hm
 obtain ⟨v3, hv3, hm⟩ := bnd_some hm
 obtain ⟨v4, hv4, hm⟩ := bnd_some hm
 refine aw_any (rows := [_, _, _, _, _, _, _, _, _, _, _, _, _, _, _, _, _, _]) (M := [0, 0, 2, 7, 0, 0, 32, 127, 0, 0, 512, 2047, 0, 0, 8192, 32767, 65535, 131071]) Tryd_mixed (by kernel_rfl) rfl (by kernel_rfl) ⟨
  ok_plain rfl rfl (op_move (ltN rfl) rfl),
  ok_plain rfl rfl (op_fieldAddr (ltN rfl) rfl fo_34_0),
  ok_plain rfl rfl (op_loadN (ys := [.i a0.Conc.Lo, .i a0.Conc.Hi]) (ltN rfl) sh_32 rfl rfl ⟨rfl, rfl, trivial⟩),
  ok_plain rfl rfl (op_callLentL (ls := [⟨5, 44, [.f (.func 83) [] [.p 3 0, .p 4 0]], [.f (.func 83) [] [.p 3 0, .p 4 0]]⟩, ⟨3, 3, [.i (idx a1 0)], [.i (idx a1 v1.2)]⟩, ⟨4, 22, [.v (.slice a1_p a1.length a1_c)], [.v (.slice a1_p a1.length a1_c)]⟩]) (x := .i v1.1) (fs := []) (caps := [.p 5 0]) (extra := []) (ltN rfl) en_91 rfl ⟨rfl, rfl, rfl⟩ (EvL.cons rfl EvL.nil) ⟨rfl, ⟨rfl, trivial⟩, rfl, lb_ne rfl, ⟨rfl, ⟨rfl, trivial⟩, rfl, lb_ne rfl, ⟨rfl, ⟨rfl, trivial⟩, rfl, lb_ne rfl, trivial⟩⟩⟩ (fun mm aa ww gg hr hrel hbx hlo => (c91_0 F a0.Conc (mm 5) (mm 3) (mm 4) a1 ⟨a1_p, a1.length, a1_c⟩ 0 ww (hbx _ (.head _)) (hbx _ (.tail _ (.head _))) (hbx _ (.tail _ (.tail _ (.head _)))) (box_ne hrel hlo.2.2.2.2.1 hlo.1 (by decide)) (box_ne hrel hlo.2.2.2.2.2.2.2.2.1 hlo.1 (by decide)) (box_ne hrel hlo.2.2.2.2.2.2.2.2.1 hlo.2.2.2.2.1 (by decide)) (SlIs.mono ha1 hrel.below) h8a1 hlena1 (sl_ne ha1 (box_hi hrel hlo.1)) (sl_ne ha1 (box_hi hrel hlo.2.2.2.2.1)) (sl_ne ha1 (box_hi hrel hlo.2.2.2.2.2.2.2.2.1)) v1 hv1))),
  ok_plain rfl rfl (op_move (ltN rfl) rfl),
  ok_plain rfl rfl (op_fieldAddr (ltN rfl) rfl fo_34_1),
  ok_plain rfl rfl (op_loadN (ys := [.i a0.Thick.Lo, .i a0.Thick.Hi]) (ltN rfl) sh_32 rfl rfl ⟨rfl, rfl, trivial⟩),
  ok_plain rfl rfl (op_callLentL (ls := [⟨5, 44, [.f (.func 83) [] [.p 3 0, .p 4 0]], [.f (.func 83) [] [.p 3 0, .p 4 0]]⟩, ⟨3, 3, [.i (idx a1 v1.2)], [.i (idx a1 v2.2)]⟩, ⟨4, 22, [.v (.slice a1_p a1.length a1_c)], [.v (.slice a1_p a1.length a1_c)]⟩]) (x := .i v2.1) (fs := []) (caps := [.p 5 0]) (extra := []) (ltN rfl) en_91 rfl ⟨rfl, rfl, rfl⟩ (EvL.cons rfl EvL.nil) ⟨rfl, ⟨rfl, trivial⟩, rfl, lb_ne rfl, ⟨rfl, ⟨rfl, trivial⟩, rfl, lb_ne rfl, ⟨rfl, ⟨rfl, trivial⟩, rfl, lb_ne rfl, trivial⟩⟩⟩ (fun mm aa ww gg hr hrel hbx hlo => (c91_0 F a0.Thick (mm 5) (mm 3) (mm 4) a1 ⟨a1_p, a1.length, a1_c⟩ v1.2 ww (hbx _ (.head _)) (hbx _ (.tail _ (.head _))) (hbx _ (.tail _ (.tail _ (.head _)))) (box_ne hrel hlo.2.2.2.2.1 hlo.1 (by decide)) (box_ne hrel hlo.2.2.2.2.2.2.2.2.1 hlo.1 (by decide)) (box_ne hrel hlo.2.2.2.2.2.2.2.2.1 hlo.2.2.2.2.1 (by decide)) (SlIs.mono ha1 hrel.below) h8a1 hlena1 (sl_ne ha1 (box_hi hrel hlo.1)) (sl_ne ha1 (box_hi hrel hlo.2.2.2.2.1)) (sl_ne ha1 (box_hi hrel hlo.2.2.2.2.2.2.2.2.1)) v2 hv2))),
  ok_plain rfl rfl (op_move (ltN rfl) rfl),
  ok_plain rfl rfl (op_fieldAddr (ltN rfl) rfl fo_34_2),
  ok_plain rfl rfl (op_loadN (ys := [.i a0.Ridge.Lo, .i a0.Ridge.Hi]) (ltN rfl) sh_32 rfl rfl ⟨rfl, rfl, trivial⟩),
  ok_plain rfl rfl (op_callLentL (ls := [⟨5, 44, [.f (.func 83) [] [.p 3 0, .p 4 0]], [.f (.func 83) [] [.p 3 0, .p 4 0]]⟩, ⟨3, 3, [.i (idx a1 v2.2)], [.i (idx a1 v3.2)]⟩, ⟨4, 22, [.v (.slice a1_p a1.length a1_c)], [.v (.slice a1_p a1.length a1_c)]⟩]) (x := .i v3.1) (fs := []) (caps := [.p 5 0]) (extra := []) (ltN rfl) en_91 rfl ⟨rfl, rfl, rfl⟩ (EvL.cons rfl EvL.nil) ⟨rfl, ⟨rfl, trivial⟩, rfl, lb_ne rfl, ⟨rfl, ⟨rfl, trivial⟩, rfl, lb_ne rfl, ⟨rfl, ⟨rfl, trivial⟩, rfl, lb_ne rfl, trivial⟩⟩⟩ (fun mm aa ww gg hr hrel hbx hlo => (c91_0 F a0.Ridge (mm 5) (mm 3) (mm 4) a1 ⟨a1_p, a1.length, a1_c⟩ v2.2 ww (hbx _ (.head _)) (hbx _ (.tail _ (.head _))) (hbx _ (.tail _ (.tail _ (.head _)))) (box_ne hrel hlo.2.2.2.2.1 hlo.1 (by decide)) (box_ne hrel hlo.2.2.2.2.2.2.2.2.1 hlo.1 (by decide)) (box_ne hrel hlo.2.2.2.2.2.2.2.2.1 hlo.2.2.2.2.1 (by decide)) (SlIs.mono ha1 hrel.below) h8a1 hlena1 (sl_ne ha1 (box_hi hrel hlo.1)) (sl_ne ha1 (box_hi hrel hlo.2.2.2.2.1)) (sl_ne ha1 (box_hi hrel hlo.2.2.2.2.2.2.2.2.1)) v3 hv3))),
  ok_plain rfl rfl (op_move (ltN rfl) rfl),
  ok_plain rfl rfl (op_fieldAddr (ltN rfl) rfl fo_34_3),
  ok_plain rfl rfl (op_loadN (ys := [.i a0.Press.Lo, .i a0.Press.Hi]) (ltN rfl) sh_32 rfl rfl ⟨rfl, rfl, trivial⟩),
  ok_plain rfl rfl (op_callLentL (ls := [⟨5, 44, [.f (.func 83) [] [.p 3 0, .p 4 0]], [.f (.func 83) [] [.p 3 0, .p 4 0]]⟩, ⟨3, 3, [.i (idx a1 v3.2)], [.i (idx a1 v4.2)]⟩, ⟨4, 22, [.v (.slice a1_p a1.length a1_c)], [.v (.slice a1_p a1.length a1_c)]⟩]) (x := .i v4.1) (fs := []) (caps := [.p 5 0]) (extra := []) (ltN rfl) en_91 rfl ⟨rfl, rfl, rfl⟩ (EvL.cons rfl EvL.nil) ⟨rfl, ⟨rfl, trivial⟩, rfl, lb_ne rfl, ⟨rfl, ⟨rfl, trivial⟩, rfl, lb_ne rfl, ⟨rfl, ⟨rfl, trivial⟩, rfl, lb_ne rfl, trivial⟩⟩⟩ (fun mm aa ww gg hr hrel hbx hlo => (c91_0 F a0.Press (mm 5) (mm 3) (mm 4) a1 ⟨a1_p, a1.length, a1_c⟩ v3.2 ww (hbx _ (.head _)) (hbx _ (.tail _ (.head _))) (hbx _ (.tail _ (.tail _ (.head _)))) (box_ne hrel hlo.2.2.2.2.1 hlo.1 (by decide)) (box_ne hrel hlo.2.2.2.2.2.2.2.2.1 hlo.1 (by decide)) (box_ne hrel hlo.2.2.2.2.2.2.2.2.1 hlo.2.2.2.2.1 (by decide)) (SlIs.mono ha1 hrel.below) h8a1 hlena1 (sl_ne ha1 (box_hi hrel hlo.1)) (sl_ne ha1 (box_hi hrel hlo.2.2.2.2.1)) (sl_ne ha1 (box_hi hrel hlo.2.2.2.2.2.2.2.2.1)) v4 hv4))),
  ok_plain rfl rfl (op_build (x := .g [.i v1.1, .i v2.1, .i v3.1, .i v4.1]) (ltN rfl) (EvL.cons rfl (EvL.cons rfl (EvL.cons rfl (EvL.cons rfl EvL.nil)))) (fun m w => by kernel_rfl)),
  ok_plain rfl rfl (op_storeN sz_28 rfl rfl rfl rfl rfl (by decide)),
  trivial⟩ ?_
 refine fin_keep (s' := [kt 4 (.p 2 0), kb 2 28 4, kc 2 0 (.i v1.1), kc 2 1 (.i v2.1), kc 2 2 (.i v3.1), kc 2 3 (.i v4.1)]) ?_ (kp rfl) rfl
 refine fin_then ?_
 refine aw_ret ?_
 refine post_ret (x := .g [.i v1.1, .i v2.1, .i v3.1, .i v4.1]) rfl rfl (resOK_cellN (ys := [.i v1.1, .i v2.1, .i v3.1, .i v4.1]) rfl sh_28 rfl ⟨rfl, rfl, rfl, rfl, trivial⟩ resOK_nil) rfl (fun mm aa ww hr => ?_)
 have hm := Option.some.inj hm
 subst hm
 exact ⟨rfl, hr.below⟩

end Go.Proofs.T

namespace Go.Proofs.T
open Go Go.AX Go.RowKit Hull
theorem af_46 : appFact Tryd.prog 46 = some (48, 10, 80) := by kernel_rfl
theorem Span_eqd (a b : Span) : ((a.Lo == b.Lo) && ((a.Hi == b.Hi) && true)) = decide (a = b) := by cases a; cases b; rw [Bool.eq_iff_iff]; simp
theorem eqg_32 : Tryd.prog.eqGuardType Tryd.prog.depth 32 = false := by kernel_rfl
instance (i : Ice) : Decidable (goodIce i) := by unfold goodIce; infer_instance
instance (c : Cell) : Decidable (goodCell c) := by unfold goodCell goodSpan; infer_instance

end Go.Proofs.T

namespace Go.Proofs.T
open Go Go.AX Go.RowKit Hull
theorem en_21 : Proofs.Enters Tryd.prog 21 := Proofs.enters_of Tryd.func21 (by kernel_rfl) rfl
end Go.Proofs.T

namespace Go.Proofs.T
open Go Go.AX Go.RowKit Hull
theorem en_15 : Proofs.Enters Tryd.prog 15 := Proofs.enters_of Tryd.func15 (by kernel_rfl) rfl
theorem en_17 : Proofs.Enters Tryd.prog 17 := Proofs.enters_of Tryd.func17 (by kernel_rfl) rfl
theorem en_26 : Proofs.Enters Tryd.prog 26 := Proofs.enters_of Tryd.func26 (by kernel_rfl) rfl
theorem un_4 : Tryd.prog.underlying 4 = some .bool := by kernel_rfl
theorem en_25 : Proofs.Enters Tryd.prog 25 := Proofs.enters_of Tryd.func25 (by kernel_rfl) rfl
theorem en_24 : Proofs.Enters Tryd.prog 24 := Proofs.enters_of Tryd.func24 (by kernel_rfl) rfl
end Go.Proofs.T

namespace Go.Proofs.T
open Go Go.AX Go.RowKit Hull
theorem us_3 : (Tryd.prog.underlying 3).isSome = true := by kernel_rfl
theorem un_5 : Tryd.prog.underlying 5 = some (.int .u8) := by kernel_rfl
theorem af_22 : appFact Tryd.prog 22 = some (5, 1, 1) := by kernel_rfl

def m4 (F : Nat) (a0 : List Int) (a1 : List Int) (a2 : List Int) (a3 : Int) : Option (Bool) :=
 bnd (m15 F a0) (fun v1 => join (fun (x1 : List Part) => chk (InR (a3)) (chk ((0 ≤ a3 ∧ a3 ≤ 9223372036854775807) ∧ 0 < (((x1.length : Nat) : Int))) (chk (InR (1 + (a3 % (((x1.length : Nat) : Int))))) (chk (0 ≤ (1 + (a3 % (((x1.length : Nat) : Int)))) ∧ (1 + (a3 % (((x1.length : Nat) : Int)))) ≤ ((x1.length : Nat) : Int)) (brk (((leg v1 x1).2.2) != 0) (brk (((decide ((((leg v1 x1).2.1).Lo) < 0)) || (decide ((((leg v1 x1).2.1).Lo) ≥ (((x1.length : Nat) : Int))))) || ((((leg v1 x1).2.2) != 4) && (((leg v1 x1).2.2) != 41))) (some false) (chk (0 ≤ ((leg v1 x1).2.1).Lo ∧ ((leg v1 x1).2.1).Lo < ((x1.length : Nat) : Int)) (some ((((((safeE v1 ((((prt x1 (((leg v1 x1).2.1).Lo))).Cell)) (((prt x1 (((leg v1 x1).2.1).Lo))).Channel)).2) == ((leg v1 x1).2.2)) && (((((leg v1 ((x1.take ((1 + (a3 % (((x1.length : Nat) : Int)))).toNat)))).2.2) == ((leg v1 x1).2.2)) && ((((leg v1 ((x1.take ((1 + (a3 % (((x1.length : Nat) : Int)))).toNat)))).2.1).Lo) == (((leg v1 x1).2.1).Lo))) == (decide ((((leg v1 x1).2.1).Lo) < (1 + (a3 % (((x1.length : Nat) : Int)))))))) && ((((leg v1 ((x1.take ((1 + (a3 % (((x1.length : Nat) : Int)))).toNat)))).2.2) == 0) == (decide ((((leg v1 x1).2.1).Lo) ≥ (1 + (a3 % (((x1.length : Nat) : Int)))))))) && true)))) (brk (((((leg v1 ((x1.take ((1 + (a3 % (((x1.length : Nat) : Int)))).toNat)))).2.2) != 0) || (((((leg v1 x1).1.length : Nat) : Int)) != (((x1.length : Nat) : Int)))) || (((((leg v1 ((x1.take ((1 + (a3 % (((x1.length : Nat) : Int)))).toNat)))).1.length : Nat) : Int)) != (1 + (a3 % (((x1.length : Nat) : Int)))))) (some false) (join (fun (_ : Unit) => join (fun (x8 : Int) => some (((decide (x8 ≥ (((leg v1 x1).2.1).Lo))) && (decide (x8 ≤ (((leg v1 x1).2.1).Hi)))) && true)) (fun k8 => loopC (fun (x9 : Int × Int) n9 => brk (decide (x9.2 < (((x1.length : Nat) : Int)))) (chk (0 ≤ x9.2 ∧ x9.2 < ((x1.length : Nat) : Int)) (join (fun (x10 : Nat) => bnd (m26 F ((((prt x1 x9.2)).Cell)) ((a2.drop x10))) (fun v3 => bnd (m25 F v3) (fun v4 => chk ((((safeE v1 v4 (((prt x1 x9.2)).Channel)).2) != 0) = false → 0 ≤ x9.2 ∧ x9.2 < (((leg v1 x1).1.length : Nat) : Int)) (brk (((((safeE v1 v4 (((prt x1 x9.2)).Channel)).2) != 0) || (decide (((safeE v1 v4 (((prt x1 x9.2)).Channel)).1) < ((((leg v1 x1).1).getD x9.2.toNat 0))))) || (decide (((safeE v1 v4 (((prt x1 x9.2)).Channel)).1) < 1))) (some false) (chk (InR (60 * (((prt x1 x9.2)).Length))) (chk (InR ((60 * (((prt x1 x9.2)).Length)) + ((safeE v1 v4 (((prt x1 x9.2)).Channel)).1))) (chk (InR (((60 * (((prt x1 x9.2)).Length)) + ((safeE v1 v4 (((prt x1 x9.2)).Channel)).1)) - 1)) (chk ((0 ≤ (((60 * (((prt x1 x9.2)).Length)) + ((safeE v1 v4 (((prt x1 x9.2)).Channel)).1)) - 1) ∧ (((60 * (((prt x1 x9.2)).Length)) + ((safeE v1 v4 (((prt x1 x9.2)).Channel)).1)) - 1) ≤ 9223372036854775807) ∧ 0 < ((safeE v1 v4 (((prt x1 x9.2)).Channel)).1)) (chk (InR (x9.1 + ((((60 * (((prt x1 x9.2)).Length)) + ((safeE v1 v4 (((prt x1 x9.2)).Channel)).1)) - 1) / ((safeE v1 v4 (((prt x1 x9.2)).Channel)).1)))) (chk (InR (x9.2 + 1)) (n9 (x9.1 + ((((60 * (((prt x1 x9.2)).Length)) + ((safeE v1 v4 (((prt x1 x9.2)).Channel)).1)) - 1) / ((safeE v1 v4 (((prt x1 x9.2)).Channel)).1)), x9.2 + 1)))))))))))) (fun k10 => brk (decide ((((a2.length : Nat) : Int)) > 0)) (chk ((0 ≤ x9.2 ∧ x9.2 ≤ 9223372036854775807) ∧ 0 < (((a2.length : Nat) : Int))) (chk (0 ≤ (x9.2 % (((a2.length : Nat) : Int))) ∧ (x9.2 % (((a2.length : Nat) : Int))) ≤ ((a2.length : Nat) : Int)) (k10 ((x9.2 % (((a2.length : Nat) : Int))).toNat)))) (k10 0)))) (k8 x9.1)) F (0, 0))) (fun k7 => brk (decide ((1 + (a3 % (((x1.length : Nat) : Int)))) < (((x1.length : Nat) : Int)))) (chk ((((leg v1 ((x1.drop ((1 + (a3 % (((x1.length : Nat) : Int)))).toNat)))).2.2) != 0) = false → InR ((((leg v1 ((x1.take ((1 + (a3 % (((x1.length : Nat) : Int)))).toNat)))).2.1).Lo) + (((leg v1 ((x1.drop ((1 + (a3 % (((x1.length : Nat) : Int)))).toNat)))).2.1).Lo))) (chk (((((leg v1 ((x1.drop ((1 + (a3 % (((x1.length : Nat) : Int)))).toNat)))).2.2) != 0) || (((((leg v1 ((x1.take ((1 + (a3 % (((x1.length : Nat) : Int)))).toNat)))).2.1).Lo) + (((leg v1 ((x1.drop ((1 + (a3 % (((x1.length : Nat) : Int)))).toNat)))).2.1).Lo)) != (((leg v1 x1).2.1).Lo))) = false → InR ((((leg v1 ((x1.take ((1 + (a3 % (((x1.length : Nat) : Int)))).toNat)))).2.1).Hi) + (((leg v1 ((x1.drop ((1 + (a3 % (((x1.length : Nat) : Int)))).toNat)))).2.1).Hi))) (brk (((((leg v1 ((x1.drop ((1 + (a3 % (((x1.length : Nat) : Int)))).toNat)))).2.2) != 0) || (((((leg v1 ((x1.take ((1 + (a3 % (((x1.length : Nat) : Int)))).toNat)))).2.1).Lo) + (((leg v1 ((x1.drop ((1 + (a3 % (((x1.length : Nat) : Int)))).toNat)))).2.1).Lo)) != (((leg v1 x1).2.1).Lo))) || (((((leg v1 ((x1.take ((1 + (a3 % (((x1.length : Nat) : Int)))).toNat)))).2.1).Hi) + (((leg v1 ((x1.drop ((1 + (a3 % (((x1.length : Nat) : Int)))).toNat)))).2.1).Hi)) != (((leg v1 x1).2.1).Hi))) (some false) (k7 ())))) (brk (!decide (((leg v1 ((x1.take ((1 + (a3 % (((x1.length : Nat) : Int)))).toNat)))).2.1) = ((leg v1 x1).2.1))) (some false) (k7 ())))))))))) (fun k1 => chk (InR (1 + (dv a1 0 8))) (loopC (fun (x2 : List Part × Int × Nat) n2 => brk (decide (x2.2.1 < (1 + (dv a1 0 8)))) (join (fun (x3 : List Part × Nat) => chk (InR (x2.2.1 + 1)) (n2 (x3.1, x2.2.1 + 1, x3.2))) (fun k3 => join (fun (x4 : List Int × Nat) => chk (∀ x ∈ x4.1, 0 ≤ x ∧ x ≤ 255) (chk (x4.1.length ≤ 9223372036854775807) (bnd (m17 F x4.1) (fun v2 => join (fun (x6 : Int × Int × Int × Int × Nat) => chk (InR (5 * (dv a1 ((x6.2.2.2.2 + 1)) 256))) (chk (InR (1 + (5 * (dv a1 ((x6.2.2.2.2 + 1)) 256)))) (chk (x2.1.length ≤ 1000000) (k3 ((x2.1 ++ [(⟨(⟨v2.Conc, (⟨x6.1, x6.2.1⟩ : Span), v2.Ridge, (⟨x6.2.2.1, x6.2.2.2.1⟩ : Span)⟩ : Cell), (dv a1 x6.2.2.2.2 2) == 1, 1 + (5 * (dv a1 ((x6.2.2.2.2 + 1)) 256))⟩ : Part)]), ((x6.2.2.2.2 + 1) + 1)))))) (fun k6 => brk (decide ((dv a1 x4.2 3) > 0)) (chk (0 ≤ v2.Thick.Lo ∧ v2.Thick.Lo ≤ 9223372036854775807) (chk (0 ≤ v2.Thick.Hi ∧ v2.Thick.Hi ≤ 9223372036854775807) (k6 (v2.Thick.Lo / 8, v2.Thick.Hi / 8, 0, 0, (x4.2 + 1))))) (k6 (v2.Thick.Lo, v2.Thick.Hi, v2.Press.Lo, v2.Press.Hi, (x4.2 + 1)))))))) (fun k4 => loopC (fun (x5 : List Int × Int × Nat) n5 => brk (decide (x5.2.1 < 8)) (chk (x5.1.length ≤ 1000000) (chk (InR (x5.2.1 + 1)) (n5 ((x5.1 ++ [IntKind.wrap .u8 (dv a1 x5.2.2 256)]), x5.2.1 + 1, (x5.2.2 + 1))))) (k4 (x5.1, x5.2.2))) F ([], 0, x2.2.2)))) (k1 x2.1)) F ([], 0, 1))))

set_option maxHeartbeats 8000000 in
set_option maxRecDepth 8000 in
theorem c4 (F : Nat) (a0 : List Int) (a0_s : SlV) (a1 : List Int) (a1_s : SlV) (a2 : List Int) (a2_s : SlV) (a3 : Int) (w : World) (ha0 : SlIs encU8 1 w a0_s a0) (h8a0 : ∀ x ∈ a0, 0 ≤ x ∧ x ≤ 255) (hlena0 : a0.length ≤ 9223372036854775807) (ha1 : SlIs encU8 1 w a1_s a1) (h8a1 : ∀ x ∈ a1, 0 ≤ x ∧ x ≤ 255) (hlena1 : a1.length ≤ 9223372036854775807) (ha2 : SlIs encU8 1 w a2_s a2) (h8a2 : ∀ x ∈ a2, 0 ≤ x ∧ x ≤ 255) (hlena2 : a2.length ≤ 9223372036854775807) (hG : BoxAt w 0 (strengths.map (fun n => Value.int .i64 n))) (r : Bool) (hm : m4 F a0 a1 a2 a3 = some r) : Calls Tryd.prog 4 #[.slice a0_s.p a0_s.n a0_s.c, .slice a1_s.p a1_s.n a1_s.c, .slice a2_s.p a2_s.n a2_s.c, .int .u8 a3] w fun e w' => e = .returned (.bool r) ∧ Below w.heap.size w w' := by
 obtain ⟨a0_p, a0_n, a0_c⟩ := a0_s
 have ha0_l : a0_n = a0.length := ha0.1
 subst ha0_l
 obtain ⟨a0_b, a0_o, ha0_p, ha0_L⟩ := SlAt.lies' ha0
 obtain ⟨a1_p, a1_n, a1_c⟩ := a1_s
 have ha1_l : a1_n = a1.length := ha1.1
 subst ha1_l
 obtain ⟨a1_b, a1_o, ha1_p, ha1_L⟩ := SlAt.lies' ha1
 obtain ⟨a2_p, a2_n, a2_c⟩ := a2_s
 have ha2_l : a2_n = a2.length := ha2.1
 subst ha2_l
 obtain ⟨a2_b, a2_o, ha2_p, ha2_L⟩ := SlAt.lies' ha2
 unfold m4 at hm
 refine enter (args := [.v (.slice a0_p a0.length a0_c), .v (.slice a1_p a1.length a1_c), .v (.slice a2_p a2.length a2_c), .v (.int .u8 a3)]) Tryd.func4 rfl (N := 293) rfl (Nat.le_of_ble_eq_true rfl) ?_
 refine aw_seq ?_
 refine aw_text (rows := [_]) rfl (by kernel_rfl) ⟨
  ok_plain rfl rfl (op_assign (ltN rfl) rfl),
  trivial⟩ ?_
 refine fin_keep (s' := [kt 0 (.v (.slice a0_p a0.length a0_c)), kt 1 (.v (.slice a1_p a1.length a1_c)), kt 2 (.v (.slice a2_p a2.length a2_c)), kt 3 (.v (.int .u8 a3))]) ?_ (kp rfl) rfl
 refine fin_then ?_
 refine aw_seq ?_
 obtain ⟨v1, hv1, hm⟩ := bnd_some hm
 refine aw_text (rows := [_, _, _, _]) rfl (by kernel_rfl) ⟨
  ok_plain rfl rfl (op_move (ltN rfl) rfl),
  ok_plain rfl rfl (op_callRowsD (x := .g [.i v1.Class, .i v1.Power, .i v1.Draught, .i v1.Tonnes, .o 1 2 v1.Thrust.length, .o 3 4 v1.Water.length, .o 5 6 v1.Ice.length, .i v1.Slow, .i v1.Brash, .i v1.Ridge, .i v1.Press]) (R := (fun vs => .agg #[.int .i64 v1.Class, .int .i64 v1.Power, .int .i64 v1.Draught, .int .i64 v1.Tonnes, (vs.getD 0 (.bool false)), (vs.getD 1 (.bool false)), (vs.getD 2 (.bool false)), .int .i64 v1.Slow, .int .i64 v1.Brash, .int .i64 v1.Ridge, .int .i64 v1.Press])) (ls := [(1, 2), (3, 4), (5, 6)]) (ds := [(v1.Thrust.length, 84, 2, v1.Thrust.flatMap encPt), (v1.Water.length, 84, 2, v1.Water.flatMap encPt), (v1.Ice.length, 84, 2, v1.Ice.flatMap encPt)]) (fs := []) (caps := []) (extra := []) (ltN rfl) en_15 rfl ⟨rfl, rfl, rfl⟩ (EvL.cons rfl EvL.nil) rfl rfl (fun _ => rfl) (fun mm aa ww gg hr hrel => (c15 F a0 ⟨a0_p, a0.length, a0_c⟩ ww (SlIs.mono ha0 hrel.below) h8a0 hlena0 v1 hv1))),
  ok_plain rfl rfl (op_alloc (L := 7) (ltN rfl) zl_25),
  ok_plain rfl rfl (op_storeN sz_25 rfl rfl rfl rfl rfl (by decide)),
  trivial⟩ ?_
 refine fin_keep (s' := (kt 1 (.v (.slice a1_p a1.length a1_c)) :: kt 2 (.v (.slice a2_p a2.length a2_c)) :: kt 3 (.v (.int .u8 a3)) :: kt 9 (.p 7 0) :: kb 7 25 11 :: (.r 1, some (.vec true 2 84 2 (v1.Thrust.flatMap encPt))) :: (.r 3, some (.vec true 4 84 2 (v1.Water.flatMap encPt))) :: (.r 5, some (.vec true 6 84 2 (v1.Ice.flatMap encPt))) :: sK 7 v1 (.o 1 2 v1.Thrust.length) (.o 3 4 v1.Water.length) (.o 5 6 v1.Ice.length) [])) ?_ (kp rfl) rfl
 refine fin_then ?_
 refine aw_seq ?_
 refine aw_text (rows := [_, _, _]) rfl (by kernel_rfl) ⟨
  ok_plain rfl rfl (op_move (ltN rfl) rfl),
  ok_plain rfl rfl (op_callTwo (L1 := 8) (L2 := 9) (ty1 := 3) (ty2 := 22) (v1 := [.int .i64 (idx a1 0)]) (v2 := [(.slice a1_p a1.length a1_c)]) (R := fun b1 b2 => .func (.func 83) #[] #[.pointer (some ⟨b1, 0, none⟩), .pointer (some ⟨b2, 0, none⟩)]) (x := .f (.func 83) [] [.p 8 0, .p 9 0]) (fs := []) (caps := []) (extra := []) (ltN rfl) en_22 rfl ⟨rfl, rfl, rfl⟩ (EvL.cons rfl EvL.nil) (by decide) (fun _ => rfl) (fun mm aa ww gg hr hrel => (c22 a1 ⟨a1_p, a1.length, a1_c⟩ ww (SlIs.mono ha1 hrel.below)))),
  ok_plain rfl rfl (op_assign (ltN rfl) rfl),
  trivial⟩ ?_
 refine fin_keep (s' := (kt 2 (.v (.slice a2_p a2.length a2_c)) :: kt 3 (.v (.int .u8 a3)) :: kt 9 (.p 7 0) :: kt 10 (.f (.func 83) [] [.p 8 0, .p 9 0]) :: kb 7 25 11 :: kb 8 3 1 :: kb 9 22 1 :: (.r 1, some (.vec true 2 84 2 (v1.Thrust.flatMap encPt))) :: (.r 3, some (.vec true 4 84 2 (v1.Water.flatMap encPt))) :: (.r 5, some (.vec true 6 84 2 (v1.Ice.flatMap encPt))) :: sK 7 v1 (.o 1 2 v1.Thrust.length) (.o 3 4 v1.Water.length) (.o 5 6 v1.Ice.length) [kc 8 0 (.i (idx a1 0)), kc 9 0 (.v (.slice a1_p a1.length a1_c))])) ?_ (kp rfl) rfl
 refine fin_then ?_
 refine aw_seq ?_
 refine aw_text (rows := [_]) rfl (by kernel_rfl) ⟨
  ok_plain rfl rfl (op_assign (ltN rfl) rfl),
  trivial⟩ ?_
 refine fin_keep (s' := (kt 2 (.v (.slice a2_p a2.length a2_c)) :: kt 3 (.v (.int .u8 a3)) :: kt 9 (.p 7 0) :: kt 10 (.f (.func 83) [] [.p 8 0, .p 9 0]) :: kt 11 (.v (.slice none 0 0)) :: kb 7 25 11 :: kb 8 3 1 :: kb 9 22 1 :: (.r 1, some (.vec true 2 84 2 (v1.Thrust.flatMap encPt))) :: (.r 3, some (.vec true 4 84 2 (v1.Water.flatMap encPt))) :: (.r 5, some (.vec true 6 84 2 (v1.Ice.flatMap encPt))) :: sK 7 v1 (.o 1 2 v1.Thrust.length) (.o 3 4 v1.Water.length) (.o 5 6 v1.Ice.length) [kc 8 0 (.i (idx a1 0)), kc 9 0 (.v (.slice a1_p a1.length a1_c))])) ?_ (kp rfl) rfl
 refine fin_then ?_
 refine aw_cutM (ι := List Part) hm (fun x1 => (kt 2 (.v (.slice a2_p a2.length a2_c)) :: kt 3 (.v (.int .u8 a3)) :: kt 9 (.p 7 0) :: kt 11 (.o 302 303 x1.length) :: kb 7 25 11 :: (.r 1, some (.vec true 2 84 2 (v1.Thrust.flatMap encPt))) :: (.r 3, some (.vec true 4 84 2 (v1.Water.flatMap encPt))) :: (.r 5, some (.vec true 6 84 2 (v1.Ice.flatMap encPt))) :: (.r 302, some (.vec true 303 48 10 (x1.flatMap encPart))) :: sK 7 v1 (.o 1 2 v1.Thrust.length) (.o 3 4 v1.Water.length) (.o 5 6 v1.Ice.length) [])) (fun hm => ?_) (fun x1 hm => ?_)
 ·have _z := hm
  refine aw_seq ?_
  obtain ⟨hp1, hm⟩ := chk_some hm
  refine aw_text (rows := [_, _, _, _]) rfl (by kernel_rfl) ⟨
   ok_plain rfl rfl (op_move (ltN rfl) rfl),
   ok_plain rfl rfl (op_callLentL (ls := [⟨8, 3, [.i (idx a1 0)], [.i (idx a1 1)]⟩, ⟨9, 22, [.v (.slice a1_p a1.length a1_c)], [.v (.slice a1_p a1.length a1_c)]⟩]) (x := .i (dv a1 0 8)) (fs := []) (caps := [.p 8 0, .p 9 0]) (extra := []) (ltN rfl) en_83 rfl ⟨rfl, rfl, rfl⟩ (EvL.cons rfl EvL.nil) ⟨rfl, ⟨rfl, trivial⟩, rfl, lb_ne rfl, ⟨rfl, ⟨rfl, trivial⟩, rfl, lb_ne rfl, trivial⟩⟩ (fun mm aa ww gg hr hrel hbx hlo => c83L 8 0 (mm 8) a1 ⟨a1_p, a1.length, a1_c⟩ (mm 9) ww (hbx _ (.head _)) (hbx _ (.tail _ (.head _))) (SlIs.mono ha1 hrel.below) (sl_ne ha1 (box_hi hrel hlo.1)) (box_ne hrel hlo.2.2.2.2.1 hlo.1 (by decide)) (by decide) h8a1 hlena1)),
   ok_plain rfl rfl (op_bin (ltN rfl) rfl rfl (nw_add hp1)),
   ok_plain rfl rfl (op_move (ltN rfl) rfl),
   trivial⟩ ?_
  refine fin_keep (s' := (kt 2 (.v (.slice a2_p a2.length a2_c)) :: kt 3 (.v (.int .u8 a3)) :: kt 9 (.p 7 0) :: kt 10 (.f (.func 83) [] [.p 8 0, .p 9 0]) :: kt 11 (.v (.slice none 0 0)) :: kt 38 (.i (1 + (dv a1 0 8))) :: kt 39 (.i 0) :: kb 7 25 11 :: kb 8 3 1 :: kb 9 22 1 :: (.r 1, some (.vec true 2 84 2 (v1.Thrust.flatMap encPt))) :: (.r 3, some (.vec true 4 84 2 (v1.Water.flatMap encPt))) :: (.r 5, some (.vec true 6 84 2 (v1.Ice.flatMap encPt))) :: sK 7 v1 (.o 1 2 v1.Thrust.length) (.o 3 4 v1.Water.length) (.o 5 6 v1.Ice.length) [kc 8 0 (.i (idx a1 1)), kc 9 0 (.v (.slice a1_p a1.length a1_c))])) ?_ (kp rfl) rfl
  refine fin_then ?_
  refine aw_block ?_
  refine aw_nilRowK (.t 11) 10 11 48 10 rfl rfl rfl (by decide) ?_
  refine aw_swp [(10, 302), (11, 303)] rfl ?_
  refine aw_loopC hm (fun x2 => (kt 2 (.v (.slice a2_p a2.length a2_c)) :: kt 3 (.v (.int .u8 a3)) :: kt 9 (.p 7 0) :: kt 10 (.f (.func 83) [] [.p 8 0, .p 9 0]) :: kt 11 (.o 302 303 x2.1.length) :: kt 38 (.i (1 + (dv a1 0 8))) :: kt 39 (.i x2.2.1) :: kb 7 25 11 :: kb 8 3 1 :: kb 9 22 1 :: (.r 1, some (.vec true 2 84 2 (v1.Thrust.flatMap encPt))) :: (.r 3, some (.vec true 4 84 2 (v1.Water.flatMap encPt))) :: (.r 5, some (.vec true 6 84 2 (v1.Ice.flatMap encPt))) :: (.r 302, some (.vec true 303 48 10 (x2.1.flatMap encPart))) :: sK 7 v1 (.o 1 2 v1.Thrust.length) (.o 3 4 v1.Water.length) (.o 5 6 v1.Ice.length) [kc 8 0 (.i (idx a1 x2.2.2)), kc 9 0 (.v (.slice a1_p a1.length a1_c))])) ⟨rfl, rfl, rfl, rfl, rfl, rfl, rfl, rfl, rfl, rfl, rfl, rfl, rfl, rfl, rfl, rfl, rfl, rfl, rfl, rfl, rfl, rfl, rfl, rfl, rfl, rfl, rfl, trivial⟩ rfl (fun x2 n2 hm => ?_)
  refine aw_seq ?_
  refine aw_text (rows := [_]) rfl (by kernel_rfl) ⟨
   ok_plain rfl rfl (op_bin (ltN rfl) rfl rfl rfl),
   trivial⟩ ?_
  refine fin_keep (s' := (kt 2 (.v (.slice a2_p a2.length a2_c)) :: kt 3 (.v (.int .u8 a3)) :: kt 9 (.p 7 0) :: kt 10 (.f (.func 83) [] [.p 8 0, .p 9 0]) :: kt 11 (.o 302 303 x2.1.length) :: kt 38 (.i (1 + (dv a1 0 8))) :: kt 39 (.i x2.2.1) :: kt 40 (.B (decide (x2.2.1 < (1 + (dv a1 0 8))))) :: kb 7 25 11 :: kb 8 3 1 :: kb 9 22 1 :: (.r 1, some (.vec true 2 84 2 (v1.Thrust.flatMap encPt))) :: (.r 3, some (.vec true 4 84 2 (v1.Water.flatMap encPt))) :: (.r 5, some (.vec true 6 84 2 (v1.Ice.flatMap encPt))) :: (.r 302, some (.vec true 303 48 10 (x2.1.flatMap encPart))) :: sK 7 v1 (.o 1 2 v1.Thrust.length) (.o 3 4 v1.Water.length) (.o 5 6 v1.Ice.length) [kc 8 0 (.i (idx a1 x2.2.2)), kc 9 0 (.v (.slice a1_p a1.length a1_c))])) ?_ (kp rfl) rfl
  refine fin_then ?_
  refine aw_seq ?_
  refine aw_cond rfl (fun hz2 => ?_) (fun hz2 => ?_)
  ·have hm := brk_t hz2 hm
   refine aw_skip ?_
   refine fin_then ?_
   refine aw_cutM (ι := List Part × Nat) hm (fun x3 => (kt 2 (.v (.slice a2_p a2.length a2_c)) :: kt 3 (.v (.int .u8 a3)) :: kt 9 (.p 7 0) :: kt 10 (.f (.func 83) [] [.p 8 0, .p 9 0]) :: kt 11 (.o 302 303 x3.1.length) :: kt 38 (.i (1 + (dv a1 0 8))) :: kt 39 (.i x2.2.1) :: kb 7 25 11 :: kb 8 3 1 :: kb 9 22 1 :: (.r 1, some (.vec true 2 84 2 (v1.Thrust.flatMap encPt))) :: (.r 3, some (.vec true 4 84 2 (v1.Water.flatMap encPt))) :: (.r 5, some (.vec true 6 84 2 (v1.Ice.flatMap encPt))) :: (.r 302, some (.vec true 303 48 10 (x3.1.flatMap encPart))) :: sK 7 v1 (.o 1 2 v1.Thrust.length) (.o 3 4 v1.Water.length) (.o 5 6 v1.Ice.length) [kc 8 0 (.i (idx a1 x3.2)), kc 9 0 (.v (.slice a1_p a1.length a1_c))])) (fun hm => ?_) (fun x3 hm => ?_)
   ·have _z := hm
    refine aw_block ?_
    refine aw_seq ?_
    refine aw_text (rows := [_]) rfl (by kernel_rfl) ⟨
     ok_plain rfl rfl (op_assign (ltN rfl) rfl),
     trivial⟩ ?_
    refine fin_keep (s' := (kt 2 (.v (.slice a2_p a2.length a2_c)) :: kt 3 (.v (.int .u8 a3)) :: kt 9 (.p 7 0) :: kt 10 (.f (.func 83) [] [.p 8 0, .p 9 0]) :: kt 11 (.o 302 303 x2.1.length) :: kt 12 (.v (.slice none 0 0)) :: kt 38 (.i (1 + (dv a1 0 8))) :: kt 39 (.i x2.2.1) :: kb 7 25 11 :: kb 8 3 1 :: kb 9 22 1 :: (.r 1, some (.vec true 2 84 2 (v1.Thrust.flatMap encPt))) :: (.r 3, some (.vec true 4 84 2 (v1.Water.flatMap encPt))) :: (.r 5, some (.vec true 6 84 2 (v1.Ice.flatMap encPt))) :: (.r 302, some (.vec true 303 48 10 (x2.1.flatMap encPart))) :: sK 7 v1 (.o 1 2 v1.Thrust.length) (.o 3 4 v1.Water.length) (.o 5 6 v1.Ice.length) [kc 8 0 (.i (idx a1 x2.2.2)), kc 9 0 (.v (.slice a1_p a1.length a1_c))])) ?_ (kp rfl) rfl
    refine fin_then ?_
    refine aw_cutM (ι := List Int × Nat) hm (fun x4 => (kt 2 (.v (.slice a2_p a2.length a2_c)) :: kt 3 (.v (.int .u8 a3)) :: kt 9 (.p 7 0) :: kt 10 (.f (.func 83) [] [.p 8 0, .p 9 0]) :: kt 11 (.o 302 303 x2.1.length) :: kt 12 (.o 300 301 x4.1.length) :: kt 38 (.i (1 + (dv a1 0 8))) :: kt 39 (.i x2.2.1) :: kb 7 25 11 :: kb 8 3 1 :: kb 9 22 1 :: (.r 1, some (.vec true 2 84 2 (v1.Thrust.flatMap encPt))) :: (.r 3, some (.vec true 4 84 2 (v1.Water.flatMap encPt))) :: (.r 5, some (.vec true 6 84 2 (v1.Ice.flatMap encPt))) :: (.r 300, some (.vec true 301 5 1 (x4.1.flatMap encU8))) :: (.r 302, some (.vec true 303 48 10 (x2.1.flatMap encPart))) :: sK 7 v1 (.o 1 2 v1.Thrust.length) (.o 3 4 v1.Water.length) (.o 5 6 v1.Ice.length) [kc 8 0 (.i (idx a1 x4.2)), kc 9 0 (.v (.slice a1_p a1.length a1_c))])) (fun hm => ?_) (fun x4 hm => ?_)
    ·have _z := hm
     refine aw_seq ?_
     refine aw_text (rows := [_]) rfl (by kernel_rfl) ⟨
      ok_plain rfl rfl (op_move (ltN rfl) rfl),
      trivial⟩ ?_
     refine fin_keep (s' := (kt 2 (.v (.slice a2_p a2.length a2_c)) :: kt 3 (.v (.int .u8 a3)) :: kt 9 (.p 7 0) :: kt 10 (.f (.func 83) [] [.p 8 0, .p 9 0]) :: kt 11 (.o 302 303 x2.1.length) :: kt 12 (.v (.slice none 0 0)) :: kt 38 (.i (1 + (dv a1 0 8))) :: kt 39 (.i x2.2.1) :: kt 41 (.i 0) :: kb 7 25 11 :: kb 8 3 1 :: kb 9 22 1 :: (.r 1, some (.vec true 2 84 2 (v1.Thrust.flatMap encPt))) :: (.r 3, some (.vec true 4 84 2 (v1.Water.flatMap encPt))) :: (.r 5, some (.vec true 6 84 2 (v1.Ice.flatMap encPt))) :: (.r 302, some (.vec true 303 48 10 (x2.1.flatMap encPart))) :: sK 7 v1 (.o 1 2 v1.Thrust.length) (.o 3 4 v1.Water.length) (.o 5 6 v1.Ice.length) [kc 8 0 (.i (idx a1 x2.2.2)), kc 9 0 (.v (.slice a1_p a1.length a1_c))])) ?_ (kp rfl) rfl
     refine fin_then ?_
     refine aw_block ?_
     refine aw_nilRowK (.t 12) 12 13 5 1 rfl rfl rfl (by decide) ?_
     refine aw_swp [(12, 300), (13, 301)] rfl ?_
     refine aw_loopC hm (fun x5 => (kt 2 (.v (.slice a2_p a2.length a2_c)) :: kt 3 (.v (.int .u8 a3)) :: kt 9 (.p 7 0) :: kt 10 (.f (.func 83) [] [.p 8 0, .p 9 0]) :: kt 11 (.o 302 303 x2.1.length) :: kt 12 (.o 300 301 x5.1.length) :: kt 38 (.i (1 + (dv a1 0 8))) :: kt 39 (.i x2.2.1) :: kt 41 (.i x5.2.1) :: kb 7 25 11 :: kb 8 3 1 :: kb 9 22 1 :: (.r 1, some (.vec true 2 84 2 (v1.Thrust.flatMap encPt))) :: (.r 3, some (.vec true 4 84 2 (v1.Water.flatMap encPt))) :: (.r 5, some (.vec true 6 84 2 (v1.Ice.flatMap encPt))) :: (.r 300, some (.vec true 301 5 1 (x5.1.flatMap encU8))) :: (.r 302, some (.vec true 303 48 10 (x2.1.flatMap encPart))) :: sK 7 v1 (.o 1 2 v1.Thrust.length) (.o 3 4 v1.Water.length) (.o 5 6 v1.Ice.length) [kc 8 0 (.i (idx a1 x5.2.2)), kc 9 0 (.v (.slice a1_p a1.length a1_c))])) ⟨rfl, rfl, rfl, rfl, rfl, rfl, rfl, rfl, rfl, rfl, rfl, rfl, rfl, rfl, rfl, rfl, rfl, rfl, rfl, rfl, rfl, rfl, rfl, rfl, rfl, rfl, rfl, rfl, rfl, rfl, trivial⟩ rfl (fun x5 n5 hm => ?_)
     refine aw_seq ?_
     refine aw_text (rows := [_]) rfl (by kernel_rfl) ⟨
      ok_plain rfl rfl (op_bin (ltN rfl) rfl rfl rfl),
      trivial⟩ ?_
     refine fin_keep (s' := (kt 2 (.v (.slice a2_p a2.length a2_c)) :: kt 3 (.v (.int .u8 a3)) :: kt 9 (.p 7 0) :: kt 10 (.f (.func 83) [] [.p 8 0, .p 9 0]) :: kt 11 (.o 302 303 x2.1.length) :: kt 12 (.o 300 301 x5.1.length) :: kt 38 (.i (1 + (dv a1 0 8))) :: kt 39 (.i x2.2.1) :: kt 41 (.i x5.2.1) :: kt 42 (.B (decide (x5.2.1 < 8))) :: kb 7 25 11 :: kb 8 3 1 :: kb 9 22 1 :: (.r 1, some (.vec true 2 84 2 (v1.Thrust.flatMap encPt))) :: (.r 3, some (.vec true 4 84 2 (v1.Water.flatMap encPt))) :: (.r 5, some (.vec true 6 84 2 (v1.Ice.flatMap encPt))) :: (.r 300, some (.vec true 301 5 1 (x5.1.flatMap encU8))) :: (.r 302, some (.vec true 303 48 10 (x2.1.flatMap encPart))) :: sK 7 v1 (.o 1 2 v1.Thrust.length) (.o 3 4 v1.Water.length) (.o 5 6 v1.Ice.length) [kc 8 0 (.i (idx a1 x5.2.2)), kc 9 0 (.v (.slice a1_p a1.length a1_c))])) ?_ (kp rfl) rfl
     refine fin_then ?_
     refine aw_seq ?_
     refine aw_cond rfl (fun hz3 => ?_) (fun hz3 => ?_)
     ·have hm := brk_t hz3 hm
      refine aw_skip ?_
      refine fin_then ?_
      refine aw_seq ?_
      refine aw_block ?_
      obtain ⟨hp4, hm⟩ := chk_some hm
      refine aw_text (rows := [_, _, _, _, _, _, _]) rfl (by kernel_rfl) ⟨
       ok_plain rfl rfl (op_move (ltN rfl) rfl),
       ok_plain rfl rfl (op_move (ltN rfl) rfl),
       ok_plain rfl rfl (op_callLentL (ls := [⟨8, 3, [.i (idx a1 x5.2.2)], [.i (idx a1 (x5.2.2 + 1))]⟩, ⟨9, 22, [.v (.slice a1_p a1.length a1_c)], [.v (.slice a1_p a1.length a1_c)]⟩]) (x := .i (dv a1 x5.2.2 256)) (fs := []) (caps := [.p 8 0, .p 9 0]) (extra := []) (ltN rfl) en_83 rfl ⟨rfl, rfl, rfl⟩ (EvL.cons rfl EvL.nil) ⟨rfl, ⟨rfl, trivial⟩, rfl, lb_ne rfl, ⟨rfl, ⟨rfl, trivial⟩, rfl, lb_ne rfl, trivial⟩⟩ (fun mm aa ww gg hr hrel hbx hlo => c83L 256 x5.2.2 (mm 8) a1 ⟨a1_p, a1.length, a1_c⟩ (mm 9) ww (hbx _ (.head _)) (hbx _ (.tail _ (.head _))) (SlIs.mono ha1 hrel.below) (sl_ne ha1 (box_hi hrel hlo.1)) (box_ne hrel hlo.2.2.2.2.1 hlo.1 (by decide)) (by decide) h8a1 hlena1)),
       ok_plain rfl rfl (op_convInt (ltN rfl) (Option.isSome_iff_exists.1 us_3) un_5 rfl rfl),
       ok_plain rfl rfl (op_buildSlice (L := 14) (ety := 5) (cs := [.v (.int .u8 (IntKind.wrap .u8 (dv a1 x5.2.2 256)))]) (ltN rfl) (EvL.cons rfl EvL.nil) rfl (fun m w => by kernel_rfl)),
       ok_plain rfl rfl (op_append (L' := 15) (C' := 16) (vs := [(.int .u8 (IntKind.wrap .u8 (dv a1 x5.2.2 256)))]) (ltN rfl) af_22 rfl rfl (flat_length (enc := encU8) (fun _ => rfl) x5.1) rfl ⟨rfl, trivial⟩ rfl rfl (by decide) (by have := hp4; omega) (by have := hp4; omega) (by decide)),
       ok_plain rfl rfl (op_assign (ltN rfl) rfl),
       trivial⟩ ?_
      refine fin_keep (s' := (kt 2 (.v (.slice a2_p a2.length a2_c)) :: kt 3 (.v (.int .u8 a3)) :: kt 9 (.p 7 0) :: kt 10 (.f (.func 83) [] [.p 8 0, .p 9 0]) :: kt 11 (.o 302 303 x2.1.length) :: kt 12 (.o 15 16 ((x5.1 ++ [IntKind.wrap .u8 (dv a1 x5.2.2 256)]).length)) :: kt 38 (.i (1 + (dv a1 0 8))) :: kt 39 (.i x2.2.1) :: kt 41 (.i x5.2.1) :: kb 7 25 11 :: kb 8 3 1 :: kb 9 22 1 :: (.r 1, some (.vec true 2 84 2 (v1.Thrust.flatMap encPt))) :: (.r 3, some (.vec true 4 84 2 (v1.Water.flatMap encPt))) :: (.r 5, some (.vec true 6 84 2 (v1.Ice.flatMap encPt))) :: (.r 15, some (.vec true 16 5 1 ((x5.1 ++ [IntKind.wrap .u8 (dv a1 x5.2.2 256)]).flatMap encU8))) :: (.r 302, some (.vec true 303 48 10 (x2.1.flatMap encPart))) :: sK 7 v1 (.o 1 2 v1.Thrust.length) (.o 3 4 v1.Water.length) (.o 5 6 v1.Ice.length) [kc 8 0 (.i (idx a1 (x5.2.2 + 1))), kc 9 0 (.v (.slice a1_p a1.length a1_c))])) ?_ ⟨rfl, rfl, rfl, rfl, rfl, (congrArg (fun q => some (Val.x (SV.o 15 16 q))) (len_snoc x5.1 (IntKind.wrap .u8 (dv a1 x5.2.2 256)))), rfl, rfl, rfl, rfl, rfl, rfl, rfl, rfl, rfl, (Eq.trans (b := some (Val.vec true 16 5 1 (x5.1.flatMap encU8 ++ [(.int .u8 (IntKind.wrap .u8 (dv a1 x5.2.2 256)))]))) rfl (congrArg (fun q => some (Val.vec true 16 5 1 q)) (flat_snoc (enc := encU8) x5.1 (IntKind.wrap .u8 (dv a1 x5.2.2 256))))), rfl, rfl, rfl, rfl, rfl, rfl, rfl, rfl, rfl, rfl, rfl, rfl, rfl, rfl, trivial⟩ rfl
      refine fin_block ?_
      refine fin_then ?_
      obtain ⟨hp5, hm⟩ := chk_some hm
      refine aw_text (rows := [_, _]) rfl (by kernel_rfl) ⟨
       ok_plain rfl rfl (op_bin (ltN rfl) rfl rfl (nw_add hp5)),
       ok_plain rfl rfl (op_move (ltN rfl) rfl),
       trivial⟩ ?_
      refine fin_keep (s' := (kt 2 (.v (.slice a2_p a2.length a2_c)) :: kt 3 (.v (.int .u8 a3)) :: kt 9 (.p 7 0) :: kt 10 (.f (.func 83) [] [.p 8 0, .p 9 0]) :: kt 11 (.o 302 303 x2.1.length) :: kt 12 (.o 15 16 ((x5.1 ++ [IntKind.wrap .u8 (dv a1 x5.2.2 256)]).length)) :: kt 38 (.i (1 + (dv a1 0 8))) :: kt 39 (.i x2.2.1) :: kt 41 (.i (x5.2.1 + 1)) :: kb 7 25 11 :: kb 8 3 1 :: kb 9 22 1 :: (.r 1, some (.vec true 2 84 2 (v1.Thrust.flatMap encPt))) :: (.r 3, some (.vec true 4 84 2 (v1.Water.flatMap encPt))) :: (.r 5, some (.vec true 6 84 2 (v1.Ice.flatMap encPt))) :: (.r 15, some (.vec true 16 5 1 ((x5.1 ++ [IntKind.wrap .u8 (dv a1 x5.2.2 256)]).flatMap encU8))) :: (.r 302, some (.vec true 303 48 10 (x2.1.flatMap encPart))) :: sK 7 v1 (.o 1 2 v1.Thrust.length) (.o 3 4 v1.Water.length) (.o 5 6 v1.Ice.length) [kc 8 0 (.i (idx a1 (x5.2.2 + 1))), kc 9 0 (.v (.slice a1_p a1.length a1_c))])) ?_ (kp rfl) rfl
      refine fin_swp [(15, 300), (16, 301)] rfl ?_
      exact fin_cut ((x5.1 ++ [IntKind.wrap .u8 (dv a1 x5.2.2 256)]), x5.2.1 + 1, (x5.2.2 + 1)) hm ⟨rfl, rfl, rfl, rfl, rfl, rfl, rfl, rfl, rfl, rfl, rfl, rfl, rfl, rfl, rfl, rfl, rfl, rfl, rfl, rfl, rfl, rfl, rfl, rfl, rfl, rfl, rfl, rfl, rfl, rfl, trivial⟩ rfl
     ·have hm := brk_f hz3 hm
      refine aw_exit ?_
      refine fin_then_exit ?_
      refine fin_then_exit ?_
      refine fin_block_exit ?_
      exact fin_cut (x5.1, x5.2.2) hm ⟨rfl, rfl, rfl, rfl, rfl, rfl, rfl, rfl, rfl, rfl, rfl, rfl, rfl, rfl, rfl, rfl, rfl, rfl, rfl, rfl, rfl, rfl, rfl, rfl, rfl, rfl, rfl, rfl, rfl, trivial⟩ rfl
    ·have _z := hm
     refine aw_seq ?_
     obtain ⟨hp6, hm⟩ := chk_some hm
     obtain ⟨hp7, hm⟩ := chk_some hm
     obtain ⟨v2, hv2, hm⟩ := bnd_some hm
     refine aw_text (rows := [_, _, _, _]) rfl (by kernel_rfl) ⟨
      ok_plain rfl rfl (op_move (ltN rfl) rfl),
      ok_plain rfl rfl (op_call (x := .g [.i v2.Conc.Lo, .i v2.Conc.Hi, .i v2.Thick.Lo, .i v2.Thick.Hi, .i v2.Ridge.Lo, .i v2.Ridge.Hi, .i v2.Press.Lo, .i v2.Press.Hi]) (fs := []) (caps := []) (extra := (kapp [.r 300] [])) (ltN rfl) en_17 rfl ⟨rfl, rfl, rfl⟩ (EvL.cons rfl EvL.nil) (fun mm aa ww gg hr hrel => (c17 F x4.1 ⟨ptr0 (mm 300) (mm 301), x4.1.length, mm 301⟩ ww (slAt_row (enc := encU8) (l := x4.1) (fun _ => rfl) (by decide) hrel ((hr _ (List.mem_append_left _ (by simp))).trans rfl)) hp6 hp7 v2 hv2))),
      ok_plain rfl rfl (op_alloc (L := 17) (ltN rfl) zl_34),
      ok_plain rfl rfl (op_storeN sz_34 rfl rfl rfl rfl rfl (by decide)),
      trivial⟩ ?_
     refine fin_keep (s' := (kt 2 (.v (.slice a2_p a2.length a2_c)) :: kt 3 (.v (.int .u8 a3)) :: kt 9 (.p 7 0) :: kt 10 (.f (.func 83) [] [.p 8 0, .p 9 0]) :: kt 11 (.o 302 303 x2.1.length) :: kt 13 (.p 17 0) :: kt 38 (.i (1 + (dv a1 0 8))) :: kt 39 (.i x2.2.1) :: kb 7 25 11 :: kb 8 3 1 :: kb 9 22 1 :: kb 17 34 8 :: (.r 1, some (.vec true 2 84 2 (v1.Thrust.flatMap encPt))) :: (.r 3, some (.vec true 4 84 2 (v1.Water.flatMap encPt))) :: (.r 5, some (.vec true 6 84 2 (v1.Ice.flatMap encPt))) :: (.r 302, some (.vec true 303 48 10 (x2.1.flatMap encPart))) :: sK 7 v1 (.o 1 2 v1.Thrust.length) (.o 3 4 v1.Water.length) (.o 5 6 v1.Ice.length) [kc 8 0 (.i (idx a1 x4.2)), kc 9 0 (.v (.slice a1_p a1.length a1_c)), kc 17 0 (.i v2.Conc.Lo), kc 17 1 (.i v2.Conc.Hi), kc 17 2 (.i v2.Thick.Lo), kc 17 3 (.i v2.Thick.Hi), kc 17 4 (.i v2.Ridge.Lo), kc 17 5 (.i v2.Ridge.Hi), kc 17 6 (.i v2.Press.Lo), kc 17 7 (.i v2.Press.Hi)])) ?_ (kp rfl) rfl
     refine fin_then ?_
     refine aw_cutM (ι := Int × Int × Int × Int × Nat) hm (fun x6 => (kt 2 (.v (.slice a2_p a2.length a2_c)) :: kt 3 (.v (.int .u8 a3)) :: kt 9 (.p 7 0) :: kt 10 (.f (.func 83) [] [.p 8 0, .p 9 0]) :: kt 11 (.o 302 303 x2.1.length) :: kt 13 (.p 17 0) :: kt 38 (.i (1 + (dv a1 0 8))) :: kt 39 (.i x2.2.1) :: kb 7 25 11 :: kb 8 3 1 :: kb 9 22 1 :: kb 17 34 8 :: (.r 1, some (.vec true 2 84 2 (v1.Thrust.flatMap encPt))) :: (.r 3, some (.vec true 4 84 2 (v1.Water.flatMap encPt))) :: (.r 5, some (.vec true 6 84 2 (v1.Ice.flatMap encPt))) :: (.r 302, some (.vec true 303 48 10 (x2.1.flatMap encPart))) :: sK 7 v1 (.o 1 2 v1.Thrust.length) (.o 3 4 v1.Water.length) (.o 5 6 v1.Ice.length) [kc 8 0 (.i (idx a1 x6.2.2.2.2)), kc 9 0 (.v (.slice a1_p a1.length a1_c)), kc 17 0 (.i v2.Conc.Lo), kc 17 1 (.i v2.Conc.Hi), kc 17 2 (.i x6.1), kc 17 3 (.i x6.2.1), kc 17 4 (.i v2.Ridge.Lo), kc 17 5 (.i v2.Ridge.Hi), kc 17 6 (.i x6.2.2.1), kc 17 7 (.i x6.2.2.2.1)])) (fun hm => ?_) (fun x6 hm => ?_)
     ·have _z := hm
      refine aw_seq ?_
      refine aw_text (rows := [_, _, _]) rfl (by kernel_rfl) ⟨
       ok_plain rfl rfl (op_move (ltN rfl) rfl),
       ok_plain rfl rfl (op_callLentL (ls := [⟨8, 3, [.i (idx a1 x4.2)], [.i (idx a1 (x4.2 + 1))]⟩, ⟨9, 22, [.v (.slice a1_p a1.length a1_c)], [.v (.slice a1_p a1.length a1_c)]⟩]) (x := .i (dv a1 x4.2 3)) (fs := []) (caps := [.p 8 0, .p 9 0]) (extra := []) (ltN rfl) en_83 rfl ⟨rfl, rfl, rfl⟩ (EvL.cons rfl EvL.nil) ⟨rfl, ⟨rfl, trivial⟩, rfl, lb_ne rfl, ⟨rfl, ⟨rfl, trivial⟩, rfl, lb_ne rfl, trivial⟩⟩ (fun mm aa ww gg hr hrel hbx hlo => c83L 3 x4.2 (mm 8) a1 ⟨a1_p, a1.length, a1_c⟩ (mm 9) ww (hbx _ (.head _)) (hbx _ (.tail _ (.head _))) (SlIs.mono ha1 hrel.below) (sl_ne ha1 (box_hi hrel hlo.1)) (box_ne hrel hlo.2.2.2.2.1 hlo.1 (by decide)) (by decide) h8a1 hlena1)),
       ok_plain rfl rfl (op_bin (ltN rfl) rfl rfl rfl),
       trivial⟩ ?_
      refine fin_keep (s' := (kt 2 (.v (.slice a2_p a2.length a2_c)) :: kt 3 (.v (.int .u8 a3)) :: kt 9 (.p 7 0) :: kt 10 (.f (.func 83) [] [.p 8 0, .p 9 0]) :: kt 11 (.o 302 303 x2.1.length) :: kt 13 (.p 17 0) :: kt 38 (.i (1 + (dv a1 0 8))) :: kt 39 (.i x2.2.1) :: kt 54 (.B (decide ((dv a1 x4.2 3) > 0))) :: kb 7 25 11 :: kb 8 3 1 :: kb 9 22 1 :: kb 17 34 8 :: (.r 1, some (.vec true 2 84 2 (v1.Thrust.flatMap encPt))) :: (.r 3, some (.vec true 4 84 2 (v1.Water.flatMap encPt))) :: (.r 5, some (.vec true 6 84 2 (v1.Ice.flatMap encPt))) :: (.r 302, some (.vec true 303 48 10 (x2.1.flatMap encPart))) :: sK 7 v1 (.o 1 2 v1.Thrust.length) (.o 3 4 v1.Water.length) (.o 5 6 v1.Ice.length) [kc 8 0 (.i (idx a1 (x4.2 + 1))), kc 9 0 (.v (.slice a1_p a1.length a1_c)), kc 17 0 (.i v2.Conc.Lo), kc 17 1 (.i v2.Conc.Hi), kc 17 2 (.i v2.Thick.Lo), kc 17 3 (.i v2.Thick.Hi), kc 17 4 (.i v2.Ridge.Lo), kc 17 5 (.i v2.Ridge.Hi), kc 17 6 (.i v2.Press.Lo), kc 17 7 (.i v2.Press.Hi)])) ?_ (kp rfl) rfl
      refine fin_then ?_
      refine aw_cond rfl (fun hz8 => ?_) (fun hz8 => ?_)
      ·have hm := brk_t hz8 hm
       obtain ⟨hp9, hm⟩ := chk_some hm
       obtain ⟨hp10, hm⟩ := chk_some hm
       refine aw_text (rows := [_, _, _, _, _, _, _, _, _, _, _, _, _, _, _, _, _]) rfl (by kernel_rfl) ⟨
        ok_plain rfl rfl (op_fieldAddr (ltN rfl) rfl fo_34_1),
        ok_plain rfl rfl (op_fieldAddr (ltN rfl) rfl fo_32_0),
        ok_plain rfl rfl (op_load1 (ltN rfl) sh_3 rfl rfl),
        ok_plain rfl rfl (op_quo (ltN rfl) rfl rfl (by decide) (quo_nn hp9.1 (by decide) hp9.2)),
        ok_plain rfl rfl (op_fieldAddr (ltN rfl) rfl fo_34_1),
        ok_plain rfl rfl (op_fieldAddr (ltN rfl) rfl fo_32_1),
        ok_plain rfl rfl (op_load1 (ltN rfl) sh_3 rfl rfl),
        ok_plain rfl rfl (op_quo (ltN rfl) rfl rfl (by decide) (quo_nn hp10.1 (by decide) hp10.2)),
        ok_plain rfl rfl (op_build (x := .g [.i 0, .i 0]) (ltN rfl) EvL.nil (fun m w => by kernel_rfl)),
        ok_plain rfl rfl (op_fieldAddr (ltN rfl) rfl fo_34_1),
        ok_plain rfl rfl (op_fieldAddr (ltN rfl) rfl fo_32_0),
        ok_plain rfl rfl (op_store1 sz_3 rfl rfl rfl rfl (ltN rfl)),
        ok_plain rfl rfl (op_fieldAddr (ltN rfl) rfl fo_34_1),
        ok_plain rfl rfl (op_fieldAddr (ltN rfl) rfl fo_32_1),
        ok_plain rfl rfl (op_store1 sz_3 rfl rfl rfl rfl (ltN rfl)),
        ok_plain rfl rfl (op_fieldAddr (ltN rfl) rfl fo_34_3),
        ok_plain rfl rfl (op_storeN sz_32 rfl rfl rfl rfl rfl (by decide)),
        trivial⟩ ?_
       refine fin_keep (s' := (kt 2 (.v (.slice a2_p a2.length a2_c)) :: kt 3 (.v (.int .u8 a3)) :: kt 9 (.p 7 0) :: kt 10 (.f (.func 83) [] [.p 8 0, .p 9 0]) :: kt 11 (.o 302 303 x2.1.length) :: kt 13 (.p 17 0) :: kt 38 (.i (1 + (dv a1 0 8))) :: kt 39 (.i x2.2.1) :: kb 7 25 11 :: kb 8 3 1 :: kb 9 22 1 :: kb 17 34 8 :: (.r 1, some (.vec true 2 84 2 (v1.Thrust.flatMap encPt))) :: (.r 3, some (.vec true 4 84 2 (v1.Water.flatMap encPt))) :: (.r 5, some (.vec true 6 84 2 (v1.Ice.flatMap encPt))) :: (.r 302, some (.vec true 303 48 10 (x2.1.flatMap encPart))) :: sK 7 v1 (.o 1 2 v1.Thrust.length) (.o 3 4 v1.Water.length) (.o 5 6 v1.Ice.length) [kc 8 0 (.i (idx a1 (x4.2 + 1))), kc 9 0 (.v (.slice a1_p a1.length a1_c)), kc 17 0 (.i v2.Conc.Lo), kc 17 1 (.i v2.Conc.Hi), kc 17 2 (.i (v2.Thick.Lo / 8)), kc 17 3 (.i (v2.Thick.Hi / 8)), kc 17 4 (.i v2.Ridge.Lo), kc 17 5 (.i v2.Ridge.Hi), kc 17 6 (.i 0), kc 17 7 (.i 0)])) ?_ (kp rfl) rfl
       exact fin_cut (v2.Thick.Lo / 8, v2.Thick.Hi / 8, 0, 0, (x4.2 + 1)) hm ⟨rfl, rfl, rfl, rfl, rfl, rfl, rfl, rfl, rfl, rfl, rfl, rfl, rfl, rfl, rfl, rfl, rfl, rfl, rfl, rfl, rfl, rfl, rfl, rfl, rfl, rfl, rfl, rfl, rfl, rfl, rfl, rfl, rfl, rfl, rfl, rfl, rfl, trivial⟩ rfl
      ·have hm := brk_f hz8 hm
       refine aw_skip ?_
       exact fin_cut (v2.Thick.Lo, v2.Thick.Hi, v2.Press.Lo, v2.Press.Hi, (x4.2 + 1)) hm ⟨rfl, rfl, rfl, rfl, rfl, rfl, rfl, rfl, rfl, rfl, rfl, rfl, rfl, rfl, rfl, rfl, rfl, rfl, rfl, rfl, rfl, rfl, rfl, rfl, rfl, rfl, rfl, rfl, rfl, rfl, rfl, rfl, rfl, rfl, rfl, rfl, rfl, trivial⟩ rfl
     ·have _z := hm
      obtain ⟨hp11, hm⟩ := chk_some hm
      obtain ⟨hp12, hm⟩ := chk_some hm
      obtain ⟨hp13, hm⟩ := chk_some hm
      refine aw_any (rows := [_, _, _, _, _, _, _, _, _, _, _, _, _]) (M := [0, 0, 0, 4, 12, 0, 44, 108, 236, 510, 1022, 2047, 4095]) Tryd_mixed (by kernel_rfl) rfl (by kernel_rfl) ⟨
       ok_plain rfl rfl (op_move (ltN rfl) rfl),
       ok_plain rfl rfl (op_loadN (ys := [.i v2.Conc.Lo, .i v2.Conc.Hi, .i x6.1, .i x6.2.1, .i v2.Ridge.Lo, .i v2.Ridge.Hi, .i x6.2.2.1, .i x6.2.2.2.1]) (ltN rfl) sh_34 rfl rfl ⟨rfl, rfl, rfl, rfl, rfl, rfl, rfl, rfl, trivial⟩),
       ok_plain rfl rfl (op_move (ltN rfl) rfl),
       ok_plain rfl rfl (op_callLentL (ls := [⟨8, 3, [.i (idx a1 x6.2.2.2.2)], [.i (idx a1 (x6.2.2.2.2 + 1))]⟩, ⟨9, 22, [.v (.slice a1_p a1.length a1_c)], [.v (.slice a1_p a1.length a1_c)]⟩]) (x := .i (dv a1 x6.2.2.2.2 2)) (fs := []) (caps := [.p 8 0, .p 9 0]) (extra := []) (ltN rfl) en_83 rfl ⟨rfl, rfl, rfl⟩ (EvL.cons rfl EvL.nil) ⟨rfl, ⟨rfl, trivial⟩, rfl, lb_ne rfl, ⟨rfl, ⟨rfl, trivial⟩, rfl, lb_ne rfl, trivial⟩⟩ (fun mm aa ww gg hr hrel hbx hlo => c83L 2 x6.2.2.2.2 (mm 8) a1 ⟨a1_p, a1.length, a1_c⟩ (mm 9) ww (hbx _ (.head _)) (hbx _ (.tail _ (.head _))) (SlIs.mono ha1 hrel.below) (sl_ne ha1 (box_hi hrel hlo.1)) (box_ne hrel hlo.2.2.2.2.1 hlo.1 (by decide)) (by decide) h8a1 hlena1)),
       ok_plain rfl rfl (op_bin (ltN rfl) rfl rfl rfl),
       ok_plain rfl rfl (op_move (ltN rfl) rfl),
       ok_plain rfl rfl (op_callLentL (ls := [⟨8, 3, [.i (idx a1 (x6.2.2.2.2 + 1))], [.i (idx a1 ((x6.2.2.2.2 + 1) + 1))]⟩, ⟨9, 22, [.v (.slice a1_p a1.length a1_c)], [.v (.slice a1_p a1.length a1_c)]⟩]) (x := .i (dv a1 ((x6.2.2.2.2 + 1)) 256)) (fs := []) (caps := [.p 8 0, .p 9 0]) (extra := []) (ltN rfl) en_83 rfl ⟨rfl, rfl, rfl⟩ (EvL.cons rfl EvL.nil) ⟨rfl, ⟨rfl, trivial⟩, rfl, lb_ne rfl, ⟨rfl, ⟨rfl, trivial⟩, rfl, lb_ne rfl, trivial⟩⟩ (fun mm aa ww gg hr hrel hbx hlo => c83L 256 ((x6.2.2.2.2 + 1)) (mm 8) a1 ⟨a1_p, a1.length, a1_c⟩ (mm 9) ww (hbx _ (.head _)) (hbx _ (.tail _ (.head _))) (SlIs.mono ha1 hrel.below) (sl_ne ha1 (box_hi hrel hlo.1)) (box_ne hrel hlo.2.2.2.2.1 hlo.1 (by decide)) (by decide) h8a1 hlena1)),
       ok_plain rfl rfl (op_bin (ltN rfl) rfl rfl (nw_mul hp11)),
       ok_plain rfl rfl (op_bin (ltN rfl) rfl rfl (nw_add hp12)),
       ok_plain rfl rfl (op_build (x := .g [.i v2.Conc.Lo, .i v2.Conc.Hi, .i x6.1, .i x6.2.1, .i v2.Ridge.Lo, .i v2.Ridge.Hi, .i x6.2.2.1, .i x6.2.2.2.1, .B ((dv a1 x6.2.2.2.2 2) == 1), .i (1 + (5 * (dv a1 ((x6.2.2.2.2 + 1)) 256)))]) (ltN rfl) (EvL.cons rfl (EvL.cons rfl (EvL.cons rfl EvL.nil))) (fun m w => by kernel_rfl)),
       ok_plain rfl rfl (op_buildSlice (L := 18) (ety := 48) (cs := [.i v2.Conc.Lo, .i v2.Conc.Hi, .i x6.1, .i x6.2.1, .i v2.Ridge.Lo, .i v2.Ridge.Hi, .i x6.2.2.1, .i x6.2.2.2.1, .B ((dv a1 x6.2.2.2.2 2) == 1), .i (1 + (5 * (dv a1 ((x6.2.2.2.2 + 1)) 256)))]) (ltN rfl) (EvL.cons rfl EvL.nil) rfl (fun m w => by kernel_rfl)),
       ok_plain rfl rfl (op_append (L' := 19) (C' := 20) (vs := [(.int .i64 v2.Conc.Lo), (.int .i64 v2.Conc.Hi), (.int .i64 x6.1), (.int .i64 x6.2.1), (.int .i64 v2.Ridge.Lo), (.int .i64 v2.Ridge.Hi), (.int .i64 x6.2.2.1), (.int .i64 x6.2.2.2.1), (.bool ((dv a1 x6.2.2.2.2 2) == 1)), (.int .i64 (1 + (5 * (dv a1 ((x6.2.2.2.2 + 1)) 256))))]) (ltN rfl) af_46 rfl rfl (flat_length (enc := encPart) (fun _ => rfl) x2.1) rfl ⟨rfl, rfl, rfl, rfl, rfl, rfl, rfl, rfl, rfl, rfl, trivial⟩ rfl rfl (by decide) (by have := hp13; omega) (by have := hp13; omega) (by decide)),
       ok_plain rfl rfl (op_assign (ltN rfl) rfl),
       trivial⟩ ?_
      refine fin_keep (s' := (kt 2 (.v (.slice a2_p a2.length a2_c)) :: kt 3 (.v (.int .u8 a3)) :: kt 9 (.p 7 0) :: kt 10 (.f (.func 83) [] [.p 8 0, .p 9 0]) :: kt 11 (.o 19 20 ((x2.1 ++ [(⟨(⟨v2.Conc, (⟨x6.1, x6.2.1⟩ : Span), v2.Ridge, (⟨x6.2.2.1, x6.2.2.2.1⟩ : Span)⟩ : Cell), (dv a1 x6.2.2.2.2 2) == 1, 1 + (5 * (dv a1 ((x6.2.2.2.2 + 1)) 256))⟩ : Part)]).length)) :: kt 38 (.i (1 + (dv a1 0 8))) :: kt 39 (.i x2.2.1) :: kb 7 25 11 :: kb 8 3 1 :: kb 9 22 1 :: (.r 1, some (.vec true 2 84 2 (v1.Thrust.flatMap encPt))) :: (.r 3, some (.vec true 4 84 2 (v1.Water.flatMap encPt))) :: (.r 5, some (.vec true 6 84 2 (v1.Ice.flatMap encPt))) :: (.r 19, some (.vec true 20 48 10 ((x2.1 ++ [(⟨(⟨v2.Conc, (⟨x6.1, x6.2.1⟩ : Span), v2.Ridge, (⟨x6.2.2.1, x6.2.2.2.1⟩ : Span)⟩ : Cell), (dv a1 x6.2.2.2.2 2) == 1, 1 + (5 * (dv a1 ((x6.2.2.2.2 + 1)) 256))⟩ : Part)]).flatMap encPart))) :: sK 7 v1 (.o 1 2 v1.Thrust.length) (.o 3 4 v1.Water.length) (.o 5 6 v1.Ice.length) [kc 8 0 (.i (idx a1 ((x6.2.2.2.2 + 1) + 1))), kc 9 0 (.v (.slice a1_p a1.length a1_c))])) ?_ ⟨rfl, rfl, rfl, rfl, (congrArg (fun q => some (Val.x (SV.o 19 20 q))) (len_snoc x2.1 ((⟨(⟨v2.Conc, (⟨x6.1, x6.2.1⟩ : Span), v2.Ridge, (⟨x6.2.2.1, x6.2.2.2.1⟩ : Span)⟩ : Cell), (dv a1 x6.2.2.2.2 2) == 1, 1 + (5 * (dv a1 ((x6.2.2.2.2 + 1)) 256))⟩ : Part)))), rfl, rfl, rfl, rfl, rfl, rfl, rfl, rfl, (Eq.trans (b := some (Val.vec true 20 48 10 (x2.1.flatMap encPart ++ [(.int .i64 v2.Conc.Lo), (.int .i64 v2.Conc.Hi), (.int .i64 x6.1), (.int .i64 x6.2.1), (.int .i64 v2.Ridge.Lo), (.int .i64 v2.Ridge.Hi), (.int .i64 x6.2.2.1), (.int .i64 x6.2.2.2.1), (.bool ((dv a1 x6.2.2.2.2 2) == 1)), (.int .i64 (1 + (5 * (dv a1 ((x6.2.2.2.2 + 1)) 256))))]))) rfl (congrArg (fun q => some (Val.vec true 20 48 10 q)) (flat_snoc (enc := encPart) x2.1 ((⟨(⟨v2.Conc, (⟨x6.1, x6.2.1⟩ : Span), v2.Ridge, (⟨x6.2.2.1, x6.2.2.2.1⟩ : Span)⟩ : Cell), (dv a1 x6.2.2.2.2 2) == 1, 1 + (5 * (dv a1 ((x6.2.2.2.2 + 1)) 256))⟩ : Part))))), rfl, rfl, rfl, rfl, rfl, rfl, rfl, rfl, rfl, rfl, rfl, rfl, rfl, trivial⟩ rfl
      refine fin_block ?_
      refine fin_swp [(19, 302), (20, 303)] rfl ?_
      exact fin_cut ((x2.1 ++ [(⟨(⟨v2.Conc, (⟨x6.1, x6.2.1⟩ : Span), v2.Ridge, (⟨x6.2.2.1, x6.2.2.2.1⟩ : Span)⟩ : Cell), (dv a1 x6.2.2.2.2 2) == 1, 1 + (5 * (dv a1 ((x6.2.2.2.2 + 1)) 256))⟩ : Part)]), ((x6.2.2.2.2 + 1) + 1)) hm ⟨rfl, rfl, rfl, rfl, rfl, rfl, rfl, rfl, rfl, rfl, rfl, rfl, rfl, rfl, rfl, rfl, rfl, rfl, rfl, rfl, rfl, rfl, rfl, rfl, rfl, rfl, rfl, trivial⟩ rfl
   ·have _z := hm
    obtain ⟨hp14, hm⟩ := chk_some hm
    refine aw_text (rows := [_, _]) rfl (by kernel_rfl) ⟨
     ok_plain rfl rfl (op_bin (ltN rfl) rfl rfl (nw_add hp14)),
     ok_plain rfl rfl (op_move (ltN rfl) rfl),
     trivial⟩ ?_
    refine fin_keep (s' := (kt 2 (.v (.slice a2_p a2.length a2_c)) :: kt 3 (.v (.int .u8 a3)) :: kt 9 (.p 7 0) :: kt 10 (.f (.func 83) [] [.p 8 0, .p 9 0]) :: kt 11 (.o 302 303 x3.1.length) :: kt 38 (.i (1 + (dv a1 0 8))) :: kt 39 (.i (x2.2.1 + 1)) :: kb 7 25 11 :: kb 8 3 1 :: kb 9 22 1 :: (.r 1, some (.vec true 2 84 2 (v1.Thrust.flatMap encPt))) :: (.r 3, some (.vec true 4 84 2 (v1.Water.flatMap encPt))) :: (.r 5, some (.vec true 6 84 2 (v1.Ice.flatMap encPt))) :: (.r 302, some (.vec true 303 48 10 (x3.1.flatMap encPart))) :: sK 7 v1 (.o 1 2 v1.Thrust.length) (.o 3 4 v1.Water.length) (.o 5 6 v1.Ice.length) [kc 8 0 (.i (idx a1 x3.2)), kc 9 0 (.v (.slice a1_p a1.length a1_c))])) ?_ (kp rfl) rfl
    exact fin_cut (x3.1, x2.2.1 + 1, x3.2) hm ⟨rfl, rfl, rfl, rfl, rfl, rfl, rfl, rfl, rfl, rfl, rfl, rfl, rfl, rfl, rfl, rfl, rfl, rfl, rfl, rfl, rfl, rfl, rfl, rfl, rfl, rfl, rfl, trivial⟩ rfl
  ·have hm := brk_f hz2 hm
   refine aw_exit ?_
   refine fin_then_exit ?_
   refine fin_then_exit ?_
   refine fin_block_exit ?_
   exact fin_cut x2.1 hm ⟨rfl, rfl, rfl, rfl, rfl, rfl, rfl, rfl, rfl, rfl, rfl, rfl, rfl, rfl, rfl, rfl, rfl, rfl, rfl, rfl, trivial⟩ rfl
 ·have _z := hm
  refine aw_seq ?_
  refine aw_text (rows := [_, _, _, _, _, _, _, _, _, _, _]) rfl (by kernel_rfl) ⟨
   ok_plain rfl rfl (op_loadN (ys := [.i v1.Class, .i v1.Power, .i v1.Draught, .i v1.Tonnes, .o 1 2 v1.Thrust.length, .o 3 4 v1.Water.length, .o 5 6 v1.Ice.length, .i v1.Slow, .i v1.Brash, .i v1.Ridge, .i v1.Press]) (ltN rfl) sh_25 rfl rfl ⟨rfl, rfl, rfl, rfl, rfl, rfl, rfl, rfl, rfl, rfl, rfl, trivial⟩),
   ok_plain rfl rfl (op_move (ltN rfl) rfl),
   ok_plain rfl rfl (op_callRowR (L := 21) (C := 22) (own := true) (x := .t [.o 21 22 ((leg v1 x1).1.length), .g [.i (((leg v1 x1).2.1).Lo), .i (((leg v1 x1).2.1).Hi)], .i ((leg v1 x1).2.2)]) (R := fun p c => .tuple #[(.slice p ((leg v1 x1).1.length) c), .agg #[.int .i64 (((leg v1 x1).2.1).Lo), .int .i64 (((leg v1 x1).2.1).Hi)], .int .i64 ((leg v1 x1).2.2)]) (fs := []) (caps := []) (extra := (kapp [.r 1] (kapp [.r 3] (kapp [.r 5] (kapp [.r 302] []))))) (ltN rfl) en_23 rfl ⟨rfl, rfl, rfl⟩ (EvL.cons rfl (EvL.cons rfl EvL.nil)) (by decide) (fun mm p c h => by show (.tuple #[(den mm (.o 21 22 ((leg v1 x1).1.length))), .agg #[.int .i64 (((leg v1 x1).2.1).Lo), .int .i64 (((leg v1 x1).2.1).Hi)], .int .i64 ((leg v1 x1).2.2)] : Value) = _; rw [h]) (fun mm aa ww gg hr hrel => (c23 v1 ⟨ptr0 (mm 1) (mm 2), v1.Thrust.length, mm 2⟩ ⟨ptr0 (mm 3) (mm 4), v1.Water.length, mm 4⟩ ⟨ptr0 (mm 5) (mm 6), v1.Ice.length, mm 6⟩ x1 ⟨ptr0 (mm 302) (mm 303), x1.length, mm 303⟩ ww (slAt_row (enc := encPt) (l := v1.Thrust) (fun _ => rfl) (by decide) hrel ((hr _ (List.mem_append_left _ (by simp))).trans rfl)) (slAt_row (enc := encPt) (l := v1.Water) (fun _ => rfl) (by decide) hrel ((hr _ (List.mem_append_right _ (List.mem_append_left _ (by simp)))).trans rfl)) (slAt_row (enc := encPt) (l := v1.Ice) (fun _ => rfl) (by decide) hrel ((hr _ (List.mem_append_right _ (List.mem_append_right _ (List.mem_append_left _ (by simp))))).trans rfl)) (slAt_row (enc := encPart) (l := x1) (fun _ => rfl) (by decide) hrel ((hr _ (List.mem_append_right _ (List.mem_append_right _ (List.mem_append_right _ (List.mem_append_left _ (by simp)))))).trans rfl)) (BoxAt.mono hG hrel.below)))),
   ok_plain rfl rfl (op_move (ltN rfl) rfl),
   ok_plain rfl rfl (op_extract (ltN rfl) rfl rfl),
   ok_plain rfl rfl (op_extract (ltN rfl) rfl rfl),
   ok_plain rfl rfl (op_extract (ltN rfl) rfl rfl),
   ok_plain rfl rfl (op_alloc (L := 23) (ltN rfl) zl_32),
   ok_plain rfl rfl (op_assign (ltN rfl) rfl),
   ok_plain rfl rfl (op_storeN sz_32 rfl rfl rfl rfl rfl (by decide)),
   ok_plain rfl rfl (op_assign (ltN rfl) rfl),
   trivial⟩ ?_
  refine fin_keep (s' := (kt 2 (.v (.slice a2_p a2.length a2_c)) :: kt 3 (.v (.int .u8 a3)) :: kt 9 (.p 7 0) :: kt 11 (.o 302 303 x1.length) :: kt 14 (.o 21 22 ((leg v1 x1).1.length)) :: kt 15 (.p 23 0) :: kt 16 (.i ((leg v1 x1).2.2)) :: kb 7 25 11 :: kb 23 32 2 :: (.r 1, some (.vec true 2 84 2 (v1.Thrust.flatMap encPt))) :: (.r 3, some (.vec true 4 84 2 (v1.Water.flatMap encPt))) :: (.r 5, some (.vec true 6 84 2 (v1.Ice.flatMap encPt))) :: (.r 21, some (.vec true 22 3 1 (((leg v1 x1).1).flatMap encInt))) :: (.r 302, some (.vec true 303 48 10 (x1.flatMap encPart))) :: sK 7 v1 (.o 1 2 v1.Thrust.length) (.o 3 4 v1.Water.length) (.o 5 6 v1.Ice.length) [kc 23 0 (.i (((leg v1 x1).2.1).Lo)), kc 23 1 (.i (((leg v1 x1).2.1).Hi))])) ?_ (kp rfl) rfl
  refine fin_then ?_
  refine aw_seq ?_
  obtain ⟨hp15, hm⟩ := chk_some hm
  obtain ⟨hp16, hm⟩ := chk_some hm
  obtain ⟨hp17, hm⟩ := chk_some hm
  refine aw_text (rows := [_, _, _, _, _, _, _]) rfl (by kernel_rfl) ⟨
   ok_plain rfl rfl (op_move (ltN rfl) rfl),
   ok_plain rfl rfl (op_convInt (ltN rfl) (Option.isSome_iff_exists.1 us_5) un_3 rfl (wrap_of hp15)),
   ok_plain rfl rfl (op_move (ltN rfl) rfl),
   ok_plain rfl rfl (op_lenO (n := x1.length) (ltN rfl) (by rw [ss_46]; rfl) rfl),
   ok_plain rfl rfl (op_rem (ltN rfl) rfl rfl (Int.ne_of_gt hp16.2) (rem_nn hp16.1.1 hp16.2 hp16.1.2)),
   ok_plain rfl rfl (op_bin (ltN rfl) rfl rfl (nw_add hp17)),
   ok_plain rfl rfl (op_assign (ltN rfl) rfl),
   trivial⟩ ?_
  refine fin_keep (s' := (kt 2 (.v (.slice a2_p a2.length a2_c)) :: kt 9 (.p 7 0) :: kt 11 (.o 302 303 x1.length) :: kt 14 (.o 21 22 ((leg v1 x1).1.length)) :: kt 15 (.p 23 0) :: kt 16 (.i ((leg v1 x1).2.2)) :: kt 17 (.i (1 + (a3 % (((x1.length : Nat) : Int))))) :: kb 7 25 11 :: kb 23 32 2 :: (.r 1, some (.vec true 2 84 2 (v1.Thrust.flatMap encPt))) :: (.r 3, some (.vec true 4 84 2 (v1.Water.flatMap encPt))) :: (.r 5, some (.vec true 6 84 2 (v1.Ice.flatMap encPt))) :: (.r 21, some (.vec true 22 3 1 (((leg v1 x1).1).flatMap encInt))) :: (.r 302, some (.vec true 303 48 10 (x1.flatMap encPart))) :: sK 7 v1 (.o 1 2 v1.Thrust.length) (.o 3 4 v1.Water.length) (.o 5 6 v1.Ice.length) [kc 23 0 (.i (((leg v1 x1).2.1).Lo)), kc 23 1 (.i (((leg v1 x1).2.1).Hi))])) ?_ (kp rfl) rfl
  refine fin_then ?_
  refine aw_seq ?_
  obtain ⟨hp18, hm⟩ := chk_some hm
  refine aw_any (rows := [_, _, _, _, _, _, _, _, _, _, _, _, _]) (M := [0, 0, 0, 6, 15, 31, 63, 63, 63, 0, 639, 1791, 4095]) Tryd_mixed (by kernel_rfl) rfl (by kernel_rfl) ⟨
   ok_plain rfl rfl (op_loadN (ys := [.i v1.Class, .i v1.Power, .i v1.Draught, .i v1.Tonnes, .o 1 2 v1.Thrust.length, .o 3 4 v1.Water.length, .o 5 6 v1.Ice.length, .i v1.Slow, .i v1.Brash, .i v1.Ridge, .i v1.Press]) (ltN rfl) sh_25 rfl rfl ⟨rfl, rfl, rfl, rfl, rfl, rfl, rfl, rfl, rfl, rfl, rfl, trivial⟩),
   ok_plain rfl rfl (op_move (ltN rfl) rfl),
   ok_plain rfl rfl (op_move (ltN rfl) rfl),
   ok_plain rfl rfl (op_sliceHiO (enc := encPart) (l := x1) (hi := (1 + (a3 % (((x1.length : Nat) : Int)))).toNat) (ltN rfl) rfl rfl ss_46 rfl (fun _ => rfl) (by decide) hp18.1 hp18.2 rfl),
   ok_plain rfl rfl (op_callRowR (L := 24) (C := 25) (own := true) (x := .t [.o 24 25 ((leg v1 ((x1.take ((1 + (a3 % (((x1.length : Nat) : Int)))).toNat)))).1.length), .g [.i (((leg v1 ((x1.take ((1 + (a3 % (((x1.length : Nat) : Int)))).toNat)))).2.1).Lo), .i (((leg v1 ((x1.take ((1 + (a3 % (((x1.length : Nat) : Int)))).toNat)))).2.1).Hi)], .i ((leg v1 ((x1.take ((1 + (a3 % (((x1.length : Nat) : Int)))).toNat)))).2.2)]) (R := fun p c => .tuple #[(.slice p ((leg v1 ((x1.take ((1 + (a3 % (((x1.length : Nat) : Int)))).toNat)))).1.length) c), .agg #[.int .i64 (((leg v1 ((x1.take ((1 + (a3 % (((x1.length : Nat) : Int)))).toNat)))).2.1).Lo), .int .i64 (((leg v1 ((x1.take ((1 + (a3 % (((x1.length : Nat) : Int)))).toNat)))).2.1).Hi)], .int .i64 ((leg v1 ((x1.take ((1 + (a3 % (((x1.length : Nat) : Int)))).toNat)))).2.2)]) (fs := []) (caps := []) (extra := (kapp [.r 1] (kapp [.r 3] (kapp [.r 5] (kapp [.r 302] []))))) (ltN rfl) en_23 rfl ⟨rfl, rfl, rfl⟩ (EvL.cons rfl (EvL.cons rfl EvL.nil)) (by decide) (fun mm p c h => by show (.tuple #[(den mm (.o 24 25 ((leg v1 ((x1.take ((1 + (a3 % (((x1.length : Nat) : Int)))).toNat)))).1.length))), .agg #[.int .i64 (((leg v1 ((x1.take ((1 + (a3 % (((x1.length : Nat) : Int)))).toNat)))).2.1).Lo), .int .i64 (((leg v1 ((x1.take ((1 + (a3 % (((x1.length : Nat) : Int)))).toNat)))).2.1).Hi)], .int .i64 ((leg v1 ((x1.take ((1 + (a3 % (((x1.length : Nat) : Int)))).toNat)))).2.2)] : Value) = _; rw [h]) (fun mm aa ww gg hr hrel => (c23 v1 ⟨ptr0 (mm 1) (mm 2), v1.Thrust.length, mm 2⟩ ⟨ptr0 (mm 3) (mm 4), v1.Water.length, mm 4⟩ ⟨ptr0 (mm 5) (mm 6), v1.Ice.length, mm 6⟩ ((x1.take ((1 + (a3 % (((x1.length : Nat) : Int)))).toNat))) ⟨ptr0 (mm 302) (mm 303), ((1 + (a3 % (((x1.length : Nat) : Int)))).toNat), mm 303⟩ ww (slAt_row (enc := encPt) (l := v1.Thrust) (fun _ => rfl) (by decide) hrel ((hr _ (List.mem_append_left _ (by simp))).trans rfl)) (slAt_row (enc := encPt) (l := v1.Water) (fun _ => rfl) (by decide) hrel ((hr _ (List.mem_append_right _ (List.mem_append_left _ (by simp)))).trans rfl)) (slAt_row (enc := encPt) (l := v1.Ice) (fun _ => rfl) (by decide) hrel ((hr _ (List.mem_append_right _ (List.mem_append_right _ (List.mem_append_left _ (by simp))))).trans rfl)) (SlAt.take (slAt_row (enc := encPart) (l := x1) (fun _ => rfl) (by decide) hrel ((hr _ (List.mem_append_right _ (List.mem_append_right _ (List.mem_append_right _ (List.mem_append_left _ (by simp)))))).trans rfl)) (j := ((1 + (a3 % (((x1.length : Nat) : Int)))).toNat)) (by have := hp18; omega)) (BoxAt.mono hG hrel.below)))),
   ok_plain rfl rfl (op_move (ltN rfl) rfl),
   ok_plain rfl rfl (op_extract (ltN rfl) rfl rfl),
   ok_plain rfl rfl (op_extract (ltN rfl) rfl rfl),
   ok_plain rfl rfl (op_extract (ltN rfl) rfl rfl),
   ok_plain rfl rfl (op_alloc (L := 26) (ltN rfl) zl_32),
   ok_plain rfl rfl (op_assign (ltN rfl) rfl),
   ok_plain rfl rfl (op_storeN sz_32 rfl rfl rfl rfl rfl (by decide)),
   ok_plain rfl rfl (op_assign (ltN rfl) rfl),
   trivial⟩ ?_
  refine fin_keep (s' := (kt 2 (.v (.slice a2_p a2.length a2_c)) :: kt 9 (.p 7 0) :: kt 11 (.o 302 303 x1.length) :: kt 14 (.o 21 22 ((leg v1 x1).1.length)) :: kt 15 (.p 23 0) :: kt 16 (.i ((leg v1 x1).2.2)) :: kt 17 (.i (1 + (a3 % (((x1.length : Nat) : Int))))) :: kt 18 (.o 24 25 ((leg v1 ((x1.take ((1 + (a3 % (((x1.length : Nat) : Int)))).toNat)))).1.length)) :: kt 19 (.p 26 0) :: kt 20 (.i ((leg v1 ((x1.take ((1 + (a3 % (((x1.length : Nat) : Int)))).toNat)))).2.2)) :: kb 7 25 11 :: kb 23 32 2 :: kb 26 32 2 :: (.r 1, some (.vec true 2 84 2 (v1.Thrust.flatMap encPt))) :: (.r 3, some (.vec true 4 84 2 (v1.Water.flatMap encPt))) :: (.r 5, some (.vec true 6 84 2 (v1.Ice.flatMap encPt))) :: (.r 21, some (.vec true 22 3 1 (((leg v1 x1).1).flatMap encInt))) :: (.r 24, some (.vec true 25 3 1 (((leg v1 ((x1.take ((1 + (a3 % (((x1.length : Nat) : Int)))).toNat)))).1).flatMap encInt))) :: (.r 302, some (.vec true 303 48 10 (x1.flatMap encPart))) :: sK 7 v1 (.o 1 2 v1.Thrust.length) (.o 3 4 v1.Water.length) (.o 5 6 v1.Ice.length) [kc 23 0 (.i (((leg v1 x1).2.1).Lo)), kc 23 1 (.i (((leg v1 x1).2.1).Hi)), kc 26 0 (.i (((leg v1 ((x1.take ((1 + (a3 % (((x1.length : Nat) : Int)))).toNat)))).2.1).Lo)), kc 26 1 (.i (((leg v1 ((x1.take ((1 + (a3 % (((x1.length : Nat) : Int)))).toNat)))).2.1).Hi))])) ?_ (kp rfl) rfl
  refine fin_then ?_
  refine aw_seq ?_
  refine aw_seq ?_
  refine aw_text (rows := [_, _]) rfl (by kernel_rfl) ⟨
   ok_plain rfl rfl (op_move (ltN rfl) rfl),
   ok_plain rfl rfl (op_bin (ltN rfl) rfl rfl rfl),
   trivial⟩ ?_
  refine fin_keep (s' := (kt 2 (.v (.slice a2_p a2.length a2_c)) :: kt 9 (.p 7 0) :: kt 11 (.o 302 303 x1.length) :: kt 14 (.o 21 22 ((leg v1 x1).1.length)) :: kt 15 (.p 23 0) :: kt 16 (.i ((leg v1 x1).2.2)) :: kt 17 (.i (1 + (a3 % (((x1.length : Nat) : Int))))) :: kt 18 (.o 24 25 ((leg v1 ((x1.take ((1 + (a3 % (((x1.length : Nat) : Int)))).toNat)))).1.length)) :: kt 19 (.p 26 0) :: kt 20 (.i ((leg v1 ((x1.take ((1 + (a3 % (((x1.length : Nat) : Int)))).toNat)))).2.2)) :: kt 105 (.B (((leg v1 x1).2.2) != 0)) :: kb 7 25 11 :: kb 23 32 2 :: kb 26 32 2 :: (.r 1, some (.vec true 2 84 2 (v1.Thrust.flatMap encPt))) :: (.r 3, some (.vec true 4 84 2 (v1.Water.flatMap encPt))) :: (.r 5, some (.vec true 6 84 2 (v1.Ice.flatMap encPt))) :: (.r 21, some (.vec true 22 3 1 (((leg v1 x1).1).flatMap encInt))) :: (.r 24, some (.vec true 25 3 1 (((leg v1 ((x1.take ((1 + (a3 % (((x1.length : Nat) : Int)))).toNat)))).1).flatMap encInt))) :: (.r 302, some (.vec true 303 48 10 (x1.flatMap encPart))) :: sK 7 v1 (.o 1 2 v1.Thrust.length) (.o 3 4 v1.Water.length) (.o 5 6 v1.Ice.length) [kc 23 0 (.i (((leg v1 x1).2.1).Lo)), kc 23 1 (.i (((leg v1 x1).2.1).Hi)), kc 26 0 (.i (((leg v1 ((x1.take ((1 + (a3 % (((x1.length : Nat) : Int)))).toNat)))).2.1).Lo)), kc 26 1 (.i (((leg v1 ((x1.take ((1 + (a3 % (((x1.length : Nat) : Int)))).toNat)))).2.1).Hi))])) ?_ (kp rfl) rfl
  refine fin_then ?_
  refine aw_cond rfl (fun hz19 => ?_) (fun hz19 => ?_)
  ·have hm := brk_t hz19 hm
   refine aw_seq ?_
   refine aw_seq ?_
   refine aw_text (rows := [_, _, _, _, _, _, _, _, _, _, _, _, _, _, _, _, _, _]) rfl (by kernel_rfl) ⟨
    ok_plain rfl rfl (op_fieldAddr (ltN rfl) rfl fo_32_0),
    ok_plain rfl rfl (op_load1 (ltN rfl) sh_3 rfl rfl),
    ok_plain rfl rfl (op_bin (ltN rfl) rfl rfl rfl),
    ok_plain rfl rfl (op_move (ltN rfl) rfl),
    ok_if (ltN rfl) rfl rfl rfl rfl rfl rfl (fun hg20 => op_fieldAddr (ltN rfl) (force_x rfl) fo_32_0),
    ok_if (ltN rfl) rfl rfl rfl rfl rfl rfl (fun hg21 => op_load1 (ltN rfl) sh_3 (force_eq (beq_iff_eq.2 hg21) rfl) rfl),
    ok_if (ltN rfl) rfl rfl rfl rfl rfl rfl (fun hg22 => op_move (ltN rfl) (force_x rfl)),
    ok_if (ltN rfl) rfl rfl rfl rfl rfl rfl (fun hg23 => op_lenO (n := x1.length) (ltN rfl) (by rw [ss_46]; rfl) (force_eq (beq_iff_eq.2 hg23) rfl)),
    ok_if (ltN rfl) rfl rfl rfl rfl rfl rfl (fun hg24 => op_bin (ltN rfl) (force_eq (beq_iff_eq.2 hg24) rfl) (force_eq (beq_iff_eq.2 hg24) rfl) rfl),
    ok_plain rfl rfl (op_or (ltN rfl) rfl rfl),
    ok_plain rfl rfl (op_move (ltN rfl) rfl),
    ok_if (ltN rfl) rfl rfl rfl rfl rfl rfl (fun hg25 => op_move (ltN rfl) (force_x rfl)),
    ok_if (ltN rfl) rfl rfl rfl rfl rfl rfl (fun hg26 => op_bin (ltN rfl) (force_eq (beq_iff_eq.2 hg26) rfl) rfl rfl),
    ok_if (ltN rfl) rfl rfl rfl rfl rfl rfl (fun hg27 => op_move (ltN rfl) (force_eq (beq_iff_eq.2 hg27) rfl)),
    ok_ifC (ltN rfl) rfl rfl rfl rfl rfl rfl (fun hg28 => op_move (ltN rfl) (force_x rfl)),
    ok_ifC (ltN rfl) rfl rfl rfl rfl rfl rfl (fun hg29 => op_bin (ltN rfl) (force_eq hg29 rfl) rfl rfl),
    ok_if (ltN rfl) rfl rfl rfl rfl rfl rfl (fun hg30 => op_andF (ltN rfl) (beq_iff_eq.2 hg30) rfl rfl),
    ok_plain rfl rfl (op_or (ltN rfl) rfl rfl),
    trivial⟩ ?_
   refine fin_keep (s' := (kt 9 (.p 7 0) :: kt 11 (.o 302 303 x1.length) :: kt 15 (.p 23 0) :: kt 16 (.i ((leg v1 x1).2.2)) :: kt 17 (.i (1 + (a3 % (((x1.length : Nat) : Int))))) :: kt 19 (.p 26 0) :: kt 20 (.i ((leg v1 ((x1.take ((1 + (a3 % (((x1.length : Nat) : Int)))).toNat)))).2.2)) :: kt 123 (.B (((decide ((((leg v1 x1).2.1).Lo) < 0)) || (decide ((((leg v1 x1).2.1).Lo) ≥ (((x1.length : Nat) : Int))))) || ((((leg v1 x1).2.2) != 4) && (((leg v1 x1).2.2) != 41)))) :: kb 7 25 11 :: kb 23 32 2 :: kb 26 32 2 :: (.r 1, some (.vec true 2 84 2 (v1.Thrust.flatMap encPt))) :: (.r 3, some (.vec true 4 84 2 (v1.Water.flatMap encPt))) :: (.r 5, some (.vec true 6 84 2 (v1.Ice.flatMap encPt))) :: (.r 302, some (.vec true 303 48 10 (x1.flatMap encPart))) :: sK 7 v1 (.o 1 2 v1.Thrust.length) (.o 3 4 v1.Water.length) (.o 5 6 v1.Ice.length) [kc 23 0 (.i (((leg v1 x1).2.1).Lo)), kc 23 1 (.i (((leg v1 x1).2.1).Hi)), kc 26 0 (.i (((leg v1 ((x1.take ((1 + (a3 % (((x1.length : Nat) : Int)))).toNat)))).2.1).Lo)), kc 26 1 (.i (((leg v1 ((x1.take ((1 + (a3 % (((x1.length : Nat) : Int)))).toNat)))).2.1).Hi))])) ?_ (kp rfl) rfl
   refine fin_then ?_
   refine aw_cond rfl (fun hz31 => ?_) (fun hz31 => ?_)
   ·have hm := brk_t hz31 hm
    refine aw_seq ?_
    refine aw_text (rows := [_]) rfl (by kernel_rfl) ⟨
     ok_plain rfl rfl (op_assign (ltN rfl) rfl),
     trivial⟩ ?_
    refine fin_keep (s' := [kt 8 (.B false)]) ?_ (kp rfl) rfl
    refine fin_then ?_
    refine aw_ret ?_
    refine fin_then_ret ?_
    refine fin_then_ret ?_
    refine post_ret (x := .B false) rfl rfl (resOK_tmp rfl resOK_nil) rfl (fun mm aa ww hr => ?_)
    have hm := Option.some.inj hm
    subst hm
    exact ⟨rfl, hr.below⟩
   ·have hm := brk_f hz31 hm
    refine aw_skip ?_
    refine fin_then ?_
    refine aw_seq ?_
    obtain ⟨hp32, hm⟩ := chk_some hm
    refine aw_any (rows := [_, _, _, _, _, _, _, _, _, _, _, _, _, _, _, _, _, _, _]) (M := [0, 0, 0, 4, 14, 30, 62, 0, 0, 256, 896, 1920, 3968, 8191, 16383, 32767, 32767, 65535, 262143]) Tryd_mixed (by kernel_rfl) rfl (by kernel_rfl) ⟨
     ok_plain rfl rfl (op_loadN (ys := [.i v1.Class, .i v1.Power, .i v1.Draught, .i v1.Tonnes, .o 1 2 v1.Thrust.length, .o 3 4 v1.Water.length, .o 5 6 v1.Ice.length, .i v1.Slow, .i v1.Brash, .i v1.Ridge, .i v1.Press]) (ltN rfl) sh_25 rfl rfl ⟨rfl, rfl, rfl, rfl, rfl, rfl, rfl, rfl, rfl, rfl, rfl, trivial⟩),
     ok_plain rfl rfl (op_move (ltN rfl) rfl),
     ok_plain rfl rfl (op_fieldAddr (ltN rfl) rfl fo_32_0),
     ok_plain rfl rfl (op_load1 (ltN rfl) sh_3 rfl rfl),
     ok_plain rfl rfl (op_ixO (ltN rfl) rfl rfl ss_46 rfl (flat_ne (enc := encPart) (k := 10) (fun _ => rfl) (by decide) (i := ((leg v1 x1).2.1).Lo) hp32.1 hp32.2) hp32.1 hp32.2),
     ok_plain rfl rfl (op_fieldAddr (ltN rfl) rfl fo_48_0),
     ok_plain rfl rfl (op_loadON (vs := [(.int .i64 (((((prt x1 (((leg v1 x1).2.1).Lo))).Cell).Conc).Lo)), (.int .i64 (((((prt x1 (((leg v1 x1).2.1).Lo))).Cell).Conc).Hi)), (.int .i64 (((((prt x1 (((leg v1 x1).2.1).Lo))).Cell).Thick).Lo)), (.int .i64 (((((prt x1 (((leg v1 x1).2.1).Lo))).Cell).Thick).Hi)), (.int .i64 (((((prt x1 (((leg v1 x1).2.1).Lo))).Cell).Ridge).Lo)), (.int .i64 (((((prt x1 (((leg v1 x1).2.1).Lo))).Cell).Ridge).Hi)), (.int .i64 (((((prt x1 (((leg v1 x1).2.1).Lo))).Cell).Press).Lo)), (.int .i64 (((((prt x1 (((leg v1 x1).2.1).Lo))).Cell).Press).Hi))]) (ltN rfl) sh_34 rfl rfl rfl (fun zq zv zh => flat_sub (k := 10) (l := x1) (enc := encPart) (fun _ => rfl) default (i := ((leg v1 x1).2.1).Lo) hp32.1 hp32.2 0 (vs := [(.int .i64 (((((prt x1 (((leg v1 x1).2.1).Lo))).Cell).Conc).Lo)), (.int .i64 (((((prt x1 (((leg v1 x1).2.1).Lo))).Cell).Conc).Hi)), (.int .i64 (((((prt x1 (((leg v1 x1).2.1).Lo))).Cell).Thick).Lo)), (.int .i64 (((((prt x1 (((leg v1 x1).2.1).Lo))).Cell).Thick).Hi)), (.int .i64 (((((prt x1 (((leg v1 x1).2.1).Lo))).Cell).Ridge).Lo)), (.int .i64 (((((prt x1 (((leg v1 x1).2.1).Lo))).Cell).Ridge).Hi)), (.int .i64 (((((prt x1 (((leg v1 x1).2.1).Lo))).Cell).Press).Lo)), (.int .i64 (((((prt x1 (((leg v1 x1).2.1).Lo))).Cell).Press).Hi))]) rfl zh)),
     ok_plain rfl rfl (op_move (ltN rfl) rfl),
     ok_plain rfl rfl (op_fieldAddr (ltN rfl) rfl fo_32_0),
     ok_plain rfl rfl (op_load1 (ltN rfl) sh_3 rfl rfl),
     ok_plain rfl rfl (op_ixO (ltN rfl) rfl rfl ss_46 rfl (flat_ne (enc := encPart) (k := 10) (fun _ => rfl) (by decide) (i := ((leg v1 x1).2.1).Lo) hp32.1 hp32.2) hp32.1 hp32.2),
     ok_plain rfl rfl (op_fieldAddr (ltN rfl) rfl fo_48_1),
     ok_plain rfl rfl (op_loadO1 (v := (.bool (((prt x1 (((leg v1 x1).2.1).Lo))).Channel))) (ltN rfl) sh_4 rfl rfl (flat_ix (k := 10) (l := x1) (enc := encPart) (fun _ => rfl) default (i := ((leg v1 x1).2.1).Lo) hp32.1 hp32.2 (j := 8) rfl)),
     ok_plain rfl rfl (op_call (x := .t [.i ((safeE v1 ((((prt x1 (((leg v1 x1).2.1).Lo))).Cell)) (((prt x1 (((leg v1 x1).2.1).Lo))).Channel)).1), .i ((safeE v1 ((((prt x1 (((leg v1 x1).2.1).Lo))).Cell)) (((prt x1 (((leg v1 x1).2.1).Lo))).Channel)).2)]) (fs := []) (caps := []) (extra := (kapp [.r 1] (kapp [.r 3] (kapp [.r 5] [])))) (ltN rfl) en_24 rfl ⟨rfl, rfl, rfl⟩ (EvL.cons rfl (EvL.cons rfl (EvL.cons rfl EvL.nil))) (fun mm aa ww gg hr hrel => (c24 v1 ⟨ptr0 (mm 1) (mm 2), v1.Thrust.length, mm 2⟩ ⟨ptr0 (mm 3) (mm 4), v1.Water.length, mm 4⟩ ⟨ptr0 (mm 5) (mm 6), v1.Ice.length, mm 6⟩ ((((prt x1 (((leg v1 x1).2.1).Lo))).Cell)) (((prt x1 (((leg v1 x1).2.1).Lo))).Channel) ww (slAt_row (enc := encPt) (l := v1.Thrust) (fun _ => rfl) (by decide) hrel ((hr _ (List.mem_append_left _ (by simp))).trans rfl)) (slAt_row (enc := encPt) (l := v1.Water) (fun _ => rfl) (by decide) hrel ((hr _ (List.mem_append_right _ (List.mem_append_left _ (by simp)))).trans rfl)) (slAt_row (enc := encPt) (l := v1.Ice) (fun _ => rfl) (by decide) hrel ((hr _ (List.mem_append_right _ (List.mem_append_right _ (List.mem_append_left _ (by simp))))).trans rfl)) (BoxAt.mono hG hrel.below)))),
     ok_plain rfl rfl (op_move (ltN rfl) rfl),
     ok_plain rfl rfl (op_extract (ltN rfl) rfl rfl),
     ok_plain rfl rfl (op_extract (ltN rfl) rfl rfl),
     ok_plain rfl rfl (op_assign (ltN rfl) rfl),
     ok_plain rfl rfl (op_assign (ltN rfl) rfl),
     trivial⟩ ?_
    refine fin_keep (s' := [kt 15 (.p 23 0), kt 16 (.i ((leg v1 x1).2.2)), kt 17 (.i (1 + (a3 % (((x1.length : Nat) : Int))))), kt 19 (.p 26 0), kt 20 (.i ((leg v1 ((x1.take ((1 + (a3 % (((x1.length : Nat) : Int)))).toNat)))).2.2)), kt 22 (.i ((safeE v1 ((((prt x1 (((leg v1 x1).2.1).Lo))).Cell)) (((prt x1 (((leg v1 x1).2.1).Lo))).Channel)).2)), kb 23 32 2, kb 26 32 2, kc 23 0 (.i (((leg v1 x1).2.1).Lo)), kc 23 1 (.i (((leg v1 x1).2.1).Hi)), kc 26 0 (.i (((leg v1 ((x1.take ((1 + (a3 % (((x1.length : Nat) : Int)))).toNat)))).2.1).Lo)), kc 26 1 (.i (((leg v1 ((x1.take ((1 + (a3 % (((x1.length : Nat) : Int)))).toNat)))).2.1).Hi))]) ?_ (kp rfl) rfl
    refine fin_then ?_
    refine aw_seq ?_
    refine aw_text (rows := [_, _, _, _, _, _, _, _, _, _, _, _, _, _, _, _, _, _, _, _, _, _, _, _, _, _, _, _, _, _, _, _, _]) rfl (by kernel_rfl) ⟨
     ok_plain rfl rfl (op_move (ltN rfl) rfl),
     ok_plain rfl rfl (op_move (ltN rfl) rfl),
     ok_plain rfl rfl (op_bin (ltN rfl) rfl rfl rfl),
     ok_plain rfl rfl (op_move (ltN rfl) rfl),
     ok_if (ltN rfl) rfl rfl rfl rfl rfl rfl (fun hg33 => op_move (ltN rfl) (force_x rfl)),
     ok_if (ltN rfl) rfl rfl rfl rfl rfl rfl (fun hg34 => op_move (ltN rfl) (force_x rfl)),
     ok_if (ltN rfl) rfl rfl rfl rfl rfl rfl (fun hg35 => op_bin (ltN rfl) (force_eq (beq_iff_eq.2 hg35) rfl) (force_eq (beq_iff_eq.2 hg35) rfl) rfl),
     ok_if (ltN rfl) rfl rfl rfl rfl rfl rfl (fun hg36 => op_move (ltN rfl) (force_eq (beq_iff_eq.2 hg36) rfl)),
     ok_ifC (ltN rfl) rfl rfl rfl rfl rfl rfl (fun hg37 => op_fieldAddr (ltN rfl) (force_x rfl) fo_32_0),
     ok_ifC (ltN rfl) rfl rfl rfl rfl rfl rfl (fun hg38 => op_load1 (ltN rfl) sh_3 (force_eq hg38 rfl) rfl),
     ok_ifC (ltN rfl) rfl rfl rfl rfl rfl rfl (fun hg39 => op_fieldAddr (ltN rfl) (force_x rfl) fo_32_0),
     ok_ifC (ltN rfl) rfl rfl rfl rfl rfl rfl (fun hg40 => op_load1 (ltN rfl) sh_3 (force_eq hg40 rfl) rfl),
     ok_ifC (ltN rfl) rfl rfl rfl rfl rfl rfl (fun hg41 => op_bin (ltN rfl) (force_eq hg41 rfl) (force_eq hg41 rfl) rfl),
     ok_if (ltN rfl) rfl rfl rfl rfl rfl rfl (fun hg42 => op_andF (ltN rfl) (beq_iff_eq.2 hg42) rfl rfl),
     ok_if (ltN rfl) rfl rfl rfl rfl rfl rfl (fun hg43 => op_fieldAddr (ltN rfl) (force_x rfl) fo_32_0),
     ok_if (ltN rfl) rfl rfl rfl rfl rfl rfl (fun hg44 => op_load1 (ltN rfl) sh_3 (force_eq (beq_iff_eq.2 hg44) rfl) rfl),
     ok_if (ltN rfl) rfl rfl rfl rfl rfl rfl (fun hg45 => op_move (ltN rfl) (force_x rfl)),
     ok_if (ltN rfl) rfl rfl rfl rfl rfl rfl (fun hg46 => op_bin (ltN rfl) (force_eq (beq_iff_eq.2 hg46) rfl) (force_eq (beq_iff_eq.2 hg46) rfl) rfl),
     ok_if (ltN rfl) rfl rfl rfl rfl rfl rfl (fun hg47 => op_eqb (ltN rfl) (force_eq (beq_iff_eq.2 hg47) rfl) (force_eq (beq_iff_eq.2 hg47) rfl) un_4),
     ok_plain rfl rfl (op_and (ltN rfl) rfl rfl),
     ok_plain rfl rfl (op_move (ltN rfl) rfl),
     ok_if (ltN rfl) rfl rfl rfl rfl rfl rfl (fun hg48 => op_move (ltN rfl) (force_x rfl)),
     ok_if (ltN rfl) rfl rfl rfl rfl rfl rfl (fun hg49 => op_bin (ltN rfl) (force_eq (beq_iff_eq.2 hg49) rfl) rfl rfl),
     ok_if (ltN rfl) rfl rfl rfl rfl rfl rfl (fun hg50 => op_fieldAddr (ltN rfl) (force_x rfl) fo_32_0),
     ok_if (ltN rfl) rfl rfl rfl rfl rfl rfl (fun hg51 => op_load1 (ltN rfl) sh_3 (force_eq (beq_iff_eq.2 hg51) rfl) rfl),
     ok_if (ltN rfl) rfl rfl rfl rfl rfl rfl (fun hg52 => op_move (ltN rfl) (force_x rfl)),
     ok_if (ltN rfl) rfl rfl rfl rfl rfl rfl (fun hg53 => op_bin (ltN rfl) (force_eq (beq_iff_eq.2 hg53) rfl) (force_eq (beq_iff_eq.2 hg53) rfl) rfl),
     ok_if (ltN rfl) rfl rfl rfl rfl rfl rfl (fun hg54 => op_eqb (ltN rfl) (force_eq (beq_iff_eq.2 hg54) rfl) (force_eq (beq_iff_eq.2 hg54) rfl) un_4),
     ok_plain rfl rfl (op_and (ltN rfl) rfl rfl),
     ok_plain rfl rfl (op_move (ltN rfl) rfl),
     ok_if (ltN rfl) rfl rfl rfl rfl rfl rfl (fun hg55 => op_call (x := .B true) (fs := []) (caps := []) (extra := []) (ltN rfl) en_21 rfl ⟨rfl, rfl, rfl⟩ EvL.nil (fun mm aa ww gg hr hrel => (c21 ww (BoxAt.mono hG hrel.below)))),
     ok_plain rfl rfl (op_and (ltN rfl) rfl rfl),
     ok_plain rfl rfl (op_assign (ltN rfl) rfl),
     trivial⟩ ?_
    refine fin_keep (s' := [kt 8 (.B ((((((safeE v1 ((((prt x1 (((leg v1 x1).2.1).Lo))).Cell)) (((prt x1 (((leg v1 x1).2.1).Lo))).Channel)).2) == ((leg v1 x1).2.2)) && (((((leg v1 ((x1.take ((1 + (a3 % (((x1.length : Nat) : Int)))).toNat)))).2.2) == ((leg v1 x1).2.2)) && ((((leg v1 ((x1.take ((1 + (a3 % (((x1.length : Nat) : Int)))).toNat)))).2.1).Lo) == (((leg v1 x1).2.1).Lo))) == (decide ((((leg v1 x1).2.1).Lo) < (1 + (a3 % (((x1.length : Nat) : Int)))))))) && ((((leg v1 ((x1.take ((1 + (a3 % (((x1.length : Nat) : Int)))).toNat)))).2.2) == 0) == (decide ((((leg v1 x1).2.1).Lo) ≥ (1 + (a3 % (((x1.length : Nat) : Int)))))))) && true))]) ?_ (kp rfl) rfl
    refine fin_then ?_
    refine aw_ret ?_
    refine fin_then_ret ?_
    refine post_ret (x := .B ((((((safeE v1 ((((prt x1 (((leg v1 x1).2.1).Lo))).Cell)) (((prt x1 (((leg v1 x1).2.1).Lo))).Channel)).2) == ((leg v1 x1).2.2)) && (((((leg v1 ((x1.take ((1 + (a3 % (((x1.length : Nat) : Int)))).toNat)))).2.2) == ((leg v1 x1).2.2)) && ((((leg v1 ((x1.take ((1 + (a3 % (((x1.length : Nat) : Int)))).toNat)))).2.1).Lo) == (((leg v1 x1).2.1).Lo))) == (decide ((((leg v1 x1).2.1).Lo) < (1 + (a3 % (((x1.length : Nat) : Int)))))))) && ((((leg v1 ((x1.take ((1 + (a3 % (((x1.length : Nat) : Int)))).toNat)))).2.2) == 0) == (decide ((((leg v1 x1).2.1).Lo) ≥ (1 + (a3 % (((x1.length : Nat) : Int)))))))) && true)) rfl rfl (resOK_tmp rfl resOK_nil) rfl (fun mm aa ww hr => ?_)
    have hm := Option.some.inj hm
    subst hm
    exact ⟨rfl, hr.below⟩
  ·have hm := brk_f hz19 hm
   refine aw_skip ?_
   refine fin_then ?_
   refine aw_seq ?_
   refine aw_seq ?_
   refine aw_text (rows := [_, _, _, _, _, _, _, _, _, _, _, _, _, _, _]) rfl (by kernel_rfl) ⟨
    ok_plain rfl rfl (op_move (ltN rfl) rfl),
    ok_plain rfl rfl (op_bin (ltN rfl) rfl rfl rfl),
    ok_plain rfl rfl (op_move (ltN rfl) rfl),
    ok_if (ltN rfl) rfl rfl rfl rfl rfl rfl (fun hg56 => op_move (ltN rfl) (force_x rfl)),
    ok_if (ltN rfl) rfl rfl rfl rfl rfl rfl (fun hg57 => op_lenO (n := (leg v1 x1).1.length) (ltN rfl) (by rw [ss_49]; rfl) (force_eq (beq_iff_eq.2 hg57) rfl)),
    ok_if (ltN rfl) rfl rfl rfl rfl rfl rfl (fun hg58 => op_move (ltN rfl) (force_x rfl)),
    ok_if (ltN rfl) rfl rfl rfl rfl rfl rfl (fun hg59 => op_lenO (n := x1.length) (ltN rfl) (by rw [ss_46]; rfl) (force_eq (beq_iff_eq.2 hg59) rfl)),
    ok_if (ltN rfl) rfl rfl rfl rfl rfl rfl (fun hg60 => op_bin (ltN rfl) (force_eq (beq_iff_eq.2 hg60) rfl) (force_eq (beq_iff_eq.2 hg60) rfl) rfl),
    ok_plain rfl rfl (op_or (ltN rfl) rfl rfl),
    ok_plain rfl rfl (op_move (ltN rfl) rfl),
    ok_if (ltN rfl) rfl rfl rfl rfl rfl rfl (fun hg61 => op_move (ltN rfl) (force_x rfl)),
    ok_if (ltN rfl) rfl rfl rfl rfl rfl rfl (fun hg62 => op_lenO (n := (leg v1 ((x1.take ((1 + (a3 % (((x1.length : Nat) : Int)))).toNat)))).1.length) (ltN rfl) (by rw [ss_49]; rfl) (force_eq (beq_iff_eq.2 hg62) rfl)),
    ok_if (ltN rfl) rfl rfl rfl rfl rfl rfl (fun hg63 => op_move (ltN rfl) (force_x rfl)),
    ok_if (ltN rfl) rfl rfl rfl rfl rfl rfl (fun hg64 => op_bin (ltN rfl) (force_eq (beq_iff_eq.2 hg64) rfl) (force_eq (beq_iff_eq.2 hg64) rfl) rfl),
    ok_plain rfl rfl (op_or (ltN rfl) rfl rfl),
    trivial⟩ ?_
   refine fin_keep (s' := (kt 2 (.v (.slice a2_p a2.length a2_c)) :: kt 9 (.p 7 0) :: kt 11 (.o 302 303 x1.length) :: kt 14 (.o 21 22 ((leg v1 x1).1.length)) :: kt 15 (.p 23 0) :: kt 17 (.i (1 + (a3 % (((x1.length : Nat) : Int))))) :: kt 19 (.p 26 0) :: kt 187 (.B (((((leg v1 ((x1.take ((1 + (a3 % (((x1.length : Nat) : Int)))).toNat)))).2.2) != 0) || (((((leg v1 x1).1.length : Nat) : Int)) != (((x1.length : Nat) : Int)))) || (((((leg v1 ((x1.take ((1 + (a3 % (((x1.length : Nat) : Int)))).toNat)))).1.length : Nat) : Int)) != (1 + (a3 % (((x1.length : Nat) : Int))))))) :: kb 7 25 11 :: kb 23 32 2 :: kb 26 32 2 :: (.r 1, some (.vec true 2 84 2 (v1.Thrust.flatMap encPt))) :: (.r 3, some (.vec true 4 84 2 (v1.Water.flatMap encPt))) :: (.r 5, some (.vec true 6 84 2 (v1.Ice.flatMap encPt))) :: (.r 21, some (.vec true 22 3 1 (((leg v1 x1).1).flatMap encInt))) :: (.r 302, some (.vec true 303 48 10 (x1.flatMap encPart))) :: sK 7 v1 (.o 1 2 v1.Thrust.length) (.o 3 4 v1.Water.length) (.o 5 6 v1.Ice.length) [kc 23 0 (.i (((leg v1 x1).2.1).Lo)), kc 23 1 (.i (((leg v1 x1).2.1).Hi)), kc 26 0 (.i (((leg v1 ((x1.take ((1 + (a3 % (((x1.length : Nat) : Int)))).toNat)))).2.1).Lo)), kc 26 1 (.i (((leg v1 ((x1.take ((1 + (a3 % (((x1.length : Nat) : Int)))).toNat)))).2.1).Hi))])) ?_ (kp rfl) rfl
   refine fin_then ?_
   refine aw_cond rfl (fun hz65 => ?_) (fun hz65 => ?_)
   ·have hm := brk_t hz65 hm
    refine aw_seq ?_
    refine aw_text (rows := [_]) rfl (by kernel_rfl) ⟨
     ok_plain rfl rfl (op_assign (ltN rfl) rfl),
     trivial⟩ ?_
    refine fin_keep (s' := [kt 8 (.B false)]) ?_ (kp rfl) rfl
    refine fin_then ?_
    refine aw_ret ?_
    refine fin_then_ret ?_
    refine post_ret (x := .B false) rfl rfl (resOK_tmp rfl resOK_nil) rfl (fun mm aa ww hr => ?_)
    have hm := Option.some.inj hm
    subst hm
    exact ⟨rfl, hr.below⟩
   ·have hm := brk_f hz65 hm
    refine aw_skip ?_
    refine fin_then ?_
    refine aw_cutM (ι := Unit) hm (fun x7 => (kt 2 (.v (.slice a2_p a2.length a2_c)) :: kt 9 (.p 7 0) :: kt 11 (.o 302 303 x1.length) :: kt 14 (.o 21 22 ((leg v1 x1).1.length)) :: kt 15 (.p 23 0) :: kb 7 25 11 :: kb 23 32 2 :: (.r 1, some (.vec true 2 84 2 (v1.Thrust.flatMap encPt))) :: (.r 3, some (.vec true 4 84 2 (v1.Water.flatMap encPt))) :: (.r 5, some (.vec true 6 84 2 (v1.Ice.flatMap encPt))) :: (.r 21, some (.vec true 22 3 1 (((leg v1 x1).1).flatMap encInt))) :: (.r 302, some (.vec true 303 48 10 (x1.flatMap encPart))) :: sK 7 v1 (.o 1 2 v1.Thrust.length) (.o 3 4 v1.Water.length) (.o 5 6 v1.Ice.length) [kc 23 0 (.i (((leg v1 x1).2.1).Lo)), kc 23 1 (.i (((leg v1 x1).2.1).Hi))])) (fun hm => ?_) (fun x7 hm => ?_)
    ·have _z := hm
     refine aw_seq ?_
     refine aw_text (rows := [_, _, _, _]) rfl (by kernel_rfl) ⟨
      ok_plain rfl rfl (op_move (ltN rfl) rfl),
      ok_plain rfl rfl (op_move (ltN rfl) rfl),
      ok_plain rfl rfl (op_lenO (n := x1.length) (ltN rfl) (by rw [ss_46]; rfl) rfl),
      ok_plain rfl rfl (op_bin (ltN rfl) rfl rfl rfl),
      trivial⟩ ?_
     refine fin_keep (s' := (kt 2 (.v (.slice a2_p a2.length a2_c)) :: kt 9 (.p 7 0) :: kt 11 (.o 302 303 x1.length) :: kt 14 (.o 21 22 ((leg v1 x1).1.length)) :: kt 15 (.p 23 0) :: kt 17 (.i (1 + (a3 % (((x1.length : Nat) : Int))))) :: kt 19 (.p 26 0) :: kt 191 (.B (decide ((1 + (a3 % (((x1.length : Nat) : Int)))) < (((x1.length : Nat) : Int))))) :: kb 7 25 11 :: kb 23 32 2 :: kb 26 32 2 :: (.r 1, some (.vec true 2 84 2 (v1.Thrust.flatMap encPt))) :: (.r 3, some (.vec true 4 84 2 (v1.Water.flatMap encPt))) :: (.r 5, some (.vec true 6 84 2 (v1.Ice.flatMap encPt))) :: (.r 21, some (.vec true 22 3 1 (((leg v1 x1).1).flatMap encInt))) :: (.r 302, some (.vec true 303 48 10 (x1.flatMap encPart))) :: sK 7 v1 (.o 1 2 v1.Thrust.length) (.o 3 4 v1.Water.length) (.o 5 6 v1.Ice.length) [kc 23 0 (.i (((leg v1 x1).2.1).Lo)), kc 23 1 (.i (((leg v1 x1).2.1).Hi)), kc 26 0 (.i (((leg v1 ((x1.take ((1 + (a3 % (((x1.length : Nat) : Int)))).toNat)))).2.1).Lo)), kc 26 1 (.i (((leg v1 ((x1.take ((1 + (a3 % (((x1.length : Nat) : Int)))).toNat)))).2.1).Hi))])) ?_ (kp rfl) rfl
     refine fin_then ?_
     refine aw_cond rfl (fun hz66 => ?_) (fun hz66 => ?_)
     ·have hm := brk_t hz66 hm
      refine aw_seq ?_
      refine aw_any (rows := [_, _, _, _, _, _, _, _, _, _, _, _, _]) (M := [0, 0, 0, 6, 15, 31, 63, 63, 63, 0, 639, 1791, 4095]) Tryd_mixed (by kernel_rfl) rfl (by kernel_rfl) ⟨
       ok_plain rfl rfl (op_loadN (ys := [.i v1.Class, .i v1.Power, .i v1.Draught, .i v1.Tonnes, .o 1 2 v1.Thrust.length, .o 3 4 v1.Water.length, .o 5 6 v1.Ice.length, .i v1.Slow, .i v1.Brash, .i v1.Ridge, .i v1.Press]) (ltN rfl) sh_25 rfl rfl ⟨rfl, rfl, rfl, rfl, rfl, rfl, rfl, rfl, rfl, rfl, rfl, trivial⟩),
       ok_plain rfl rfl (op_move (ltN rfl) rfl),
       ok_plain rfl rfl (op_move (ltN rfl) rfl),
       ok_plain rfl rfl (op_sliceLoO (lo := (1 + (a3 % (((x1.length : Nat) : Int)))).toNat) (ltN rfl) rfl rfl ss_46 hp18.1 hp18.2 rfl),
       ok_plain rfl rfl (op_callRowR (L := 27) (C := 28) (own := true) (x := .t [.o 27 28 ((leg v1 ((x1.drop ((1 + (a3 % (((x1.length : Nat) : Int)))).toNat)))).1.length), .g [.i (((leg v1 ((x1.drop ((1 + (a3 % (((x1.length : Nat) : Int)))).toNat)))).2.1).Lo), .i (((leg v1 ((x1.drop ((1 + (a3 % (((x1.length : Nat) : Int)))).toNat)))).2.1).Hi)], .i ((leg v1 ((x1.drop ((1 + (a3 % (((x1.length : Nat) : Int)))).toNat)))).2.2)]) (R := fun p c => .tuple #[(.slice p ((leg v1 ((x1.drop ((1 + (a3 % (((x1.length : Nat) : Int)))).toNat)))).1.length) c), .agg #[.int .i64 (((leg v1 ((x1.drop ((1 + (a3 % (((x1.length : Nat) : Int)))).toNat)))).2.1).Lo), .int .i64 (((leg v1 ((x1.drop ((1 + (a3 % (((x1.length : Nat) : Int)))).toNat)))).2.1).Hi)], .int .i64 ((leg v1 ((x1.drop ((1 + (a3 % (((x1.length : Nat) : Int)))).toNat)))).2.2)]) (fs := []) (caps := []) (extra := (kapp [.r 1] (kapp [.r 3] (kapp [.r 5] (kapp [.r 302] []))))) (ltN rfl) en_23 rfl ⟨rfl, rfl, rfl⟩ (EvL.cons rfl (EvL.cons rfl EvL.nil)) (by decide) (fun mm p c h => by show (.tuple #[(den mm (.o 27 28 ((leg v1 ((x1.drop ((1 + (a3 % (((x1.length : Nat) : Int)))).toNat)))).1.length))), .agg #[.int .i64 (((leg v1 ((x1.drop ((1 + (a3 % (((x1.length : Nat) : Int)))).toNat)))).2.1).Lo), .int .i64 (((leg v1 ((x1.drop ((1 + (a3 % (((x1.length : Nat) : Int)))).toNat)))).2.1).Hi)], .int .i64 ((leg v1 ((x1.drop ((1 + (a3 % (((x1.length : Nat) : Int)))).toNat)))).2.2)] : Value) = _; rw [h]) (fun mm aa ww gg hr hrel => (c23 v1 ⟨ptr0 (mm 1) (mm 2), v1.Thrust.length, mm 2⟩ ⟨ptr0 (mm 3) (mm 4), v1.Water.length, mm 4⟩ ⟨ptr0 (mm 5) (mm 6), v1.Ice.length, mm 6⟩ ((x1.drop ((1 + (a3 % (((x1.length : Nat) : Int)))).toNat))) ⟨ptrq (mm 302) (mm 303) ((1 + (a3 % (((x1.length : Nat) : Int)))).toNat) 10, x1.length - ((1 + (a3 % (((x1.length : Nat) : Int)))).toNat), mm 303 - ((1 + (a3 % (((x1.length : Nat) : Int)))).toNat)⟩ ww (slAt_row (enc := encPt) (l := v1.Thrust) (fun _ => rfl) (by decide) hrel ((hr _ (List.mem_append_left _ (by simp))).trans rfl)) (slAt_row (enc := encPt) (l := v1.Water) (fun _ => rfl) (by decide) hrel ((hr _ (List.mem_append_right _ (List.mem_append_left _ (by simp)))).trans rfl)) (slAt_row (enc := encPt) (l := v1.Ice) (fun _ => rfl) (by decide) hrel ((hr _ (List.mem_append_right _ (List.mem_append_right _ (List.mem_append_left _ (by simp))))).trans rfl)) (SlAt.dropq (slAt_row (enc := encPart) (l := x1) (fun _ => rfl) (by decide) hrel ((hr _ (List.mem_append_right _ (List.mem_append_right _ (List.mem_append_right _ (List.mem_append_left _ (by simp)))))).trans rfl)) ((1 + (a3 % (((x1.length : Nat) : Int)))).toNat)) (BoxAt.mono hG hrel.below)))),
       ok_plain rfl rfl (op_move (ltN rfl) rfl),
       ok_plain rfl rfl (op_extract (ltN rfl) rfl rfl),
       ok_plain rfl rfl (op_extract (ltN rfl) rfl rfl),
       ok_plain rfl rfl (op_extract (ltN rfl) rfl rfl),
       ok_plain rfl rfl (op_alloc (L := 29) (ltN rfl) zl_32),
       ok_plain rfl rfl (op_assign (ltN rfl) rfl),
       ok_plain rfl rfl (op_storeN sz_32 rfl rfl rfl rfl rfl (by decide)),
       ok_plain rfl rfl (op_assign (ltN rfl) rfl),
       trivial⟩ ?_
      refine fin_keep (s' := (kt 2 (.v (.slice a2_p a2.length a2_c)) :: kt 9 (.p 7 0) :: kt 11 (.o 302 303 x1.length) :: kt 14 (.o 21 22 ((leg v1 x1).1.length)) :: kt 15 (.p 23 0) :: kt 19 (.p 26 0) :: kt 24 (.p 29 0) :: kt 25 (.i ((leg v1 ((x1.drop ((1 + (a3 % (((x1.length : Nat) : Int)))).toNat)))).2.2)) :: kb 7 25 11 :: kb 23 32 2 :: kb 26 32 2 :: kb 29 32 2 :: (.r 1, some (.vec true 2 84 2 (v1.Thrust.flatMap encPt))) :: (.r 3, some (.vec true 4 84 2 (v1.Water.flatMap encPt))) :: (.r 5, some (.vec true 6 84 2 (v1.Ice.flatMap encPt))) :: (.r 21, some (.vec true 22 3 1 (((leg v1 x1).1).flatMap encInt))) :: (.r 302, some (.vec true 303 48 10 (x1.flatMap encPart))) :: sK 7 v1 (.o 1 2 v1.Thrust.length) (.o 3 4 v1.Water.length) (.o 5 6 v1.Ice.length) [kc 23 0 (.i (((leg v1 x1).2.1).Lo)), kc 23 1 (.i (((leg v1 x1).2.1).Hi)), kc 26 0 (.i (((leg v1 ((x1.take ((1 + (a3 % (((x1.length : Nat) : Int)))).toNat)))).2.1).Lo)), kc 26 1 (.i (((leg v1 ((x1.take ((1 + (a3 % (((x1.length : Nat) : Int)))).toNat)))).2.1).Hi)), kc 29 0 (.i (((leg v1 ((x1.drop ((1 + (a3 % (((x1.length : Nat) : Int)))).toNat)))).2.1).Lo)), kc 29 1 (.i (((leg v1 ((x1.drop ((1 + (a3 % (((x1.length : Nat) : Int)))).toNat)))).2.1).Hi))])) ?_ (kp rfl) rfl
      refine fin_then ?_
      refine aw_seq ?_
      obtain ⟨hp72, hm⟩ := chk_some hm
      obtain ⟨hp81, hm⟩ := chk_some hm
      refine aw_text (rows := [_, _, _, _, _, _, _, _, _, _, _, _, _, _, _, _, _, _, _, _, _, _]) rfl (by kernel_rfl) ⟨
       ok_plain rfl rfl (op_move (ltN rfl) rfl),
       ok_plain rfl rfl (op_bin (ltN rfl) rfl rfl rfl),
       ok_plain rfl rfl (op_move (ltN rfl) rfl),
       ok_if (ltN rfl) rfl rfl rfl rfl rfl rfl (fun hg67 => op_fieldAddr (ltN rfl) (force_x rfl) fo_32_0),
       ok_if (ltN rfl) rfl rfl rfl rfl rfl rfl (fun hg68 => op_load1 (ltN rfl) sh_3 (force_eq (beq_iff_eq.2 hg68) rfl) rfl),
       ok_if (ltN rfl) rfl rfl rfl rfl rfl rfl (fun hg69 => op_fieldAddr (ltN rfl) (force_x rfl) fo_32_0),
       ok_if (ltN rfl) rfl rfl rfl rfl rfl rfl (fun hg70 => op_load1 (ltN rfl) sh_3 (force_eq (beq_iff_eq.2 hg70) rfl) rfl),
       ok_if (ltN rfl) rfl rfl rfl rfl rfl rfl (fun hg71 => op_bin (ltN rfl) (force_eq (beq_iff_eq.2 hg71) rfl) (force_eq (beq_iff_eq.2 hg71) rfl) (nw_add (hp72 hg71))),
       ok_if (ltN rfl) rfl rfl rfl rfl rfl rfl (fun hg73 => op_fieldAddr (ltN rfl) (force_x rfl) fo_32_0),
       ok_if (ltN rfl) rfl rfl rfl rfl rfl rfl (fun hg74 => op_load1 (ltN rfl) sh_3 (force_eq (beq_iff_eq.2 hg74) rfl) rfl),
       ok_if (ltN rfl) rfl rfl rfl rfl rfl rfl (fun hg75 => op_bin (ltN rfl) (force_eq (beq_iff_eq.2 hg75) rfl) (force_eq (beq_iff_eq.2 hg75) rfl) rfl),
       ok_plain rfl rfl (op_or (ltN rfl) rfl rfl),
       ok_plain rfl rfl (op_move (ltN rfl) rfl),
       ok_if (ltN rfl) rfl rfl rfl rfl rfl rfl (fun hg76 => op_fieldAddr (ltN rfl) (force_x rfl) fo_32_1),
       ok_if (ltN rfl) rfl rfl rfl rfl rfl rfl (fun hg77 => op_load1 (ltN rfl) sh_3 (force_eq (beq_iff_eq.2 hg77) rfl) rfl),
       ok_if (ltN rfl) rfl rfl rfl rfl rfl rfl (fun hg78 => op_fieldAddr (ltN rfl) (force_x rfl) fo_32_1),
       ok_if (ltN rfl) rfl rfl rfl rfl rfl rfl (fun hg79 => op_load1 (ltN rfl) sh_3 (force_eq (beq_iff_eq.2 hg79) rfl) rfl),
       ok_if (ltN rfl) rfl rfl rfl rfl rfl rfl (fun hg80 => op_bin (ltN rfl) (force_eq (beq_iff_eq.2 hg80) rfl) (force_eq (beq_iff_eq.2 hg80) rfl) (nw_add (hp81 hg80))),
       ok_if (ltN rfl) rfl rfl rfl rfl rfl rfl (fun hg82 => op_fieldAddr (ltN rfl) (force_x rfl) fo_32_1),
       ok_if (ltN rfl) rfl rfl rfl rfl rfl rfl (fun hg83 => op_load1 (ltN rfl) sh_3 (force_eq (beq_iff_eq.2 hg83) rfl) rfl),
       ok_if (ltN rfl) rfl rfl rfl rfl rfl rfl (fun hg84 => op_bin (ltN rfl) (force_eq (beq_iff_eq.2 hg84) rfl) (force_eq (beq_iff_eq.2 hg84) rfl) rfl),
       ok_plain rfl rfl (op_or (ltN rfl) rfl rfl),
       trivial⟩ ?_
      refine fin_keep (s' := (kt 2 (.v (.slice a2_p a2.length a2_c)) :: kt 9 (.p 7 0) :: kt 11 (.o 302 303 x1.length) :: kt 14 (.o 21 22 ((leg v1 x1).1.length)) :: kt 15 (.p 23 0) :: kt 222 (.B (((((leg v1 ((x1.drop ((1 + (a3 % (((x1.length : Nat) : Int)))).toNat)))).2.2) != 0) || (((((leg v1 ((x1.take ((1 + (a3 % (((x1.length : Nat) : Int)))).toNat)))).2.1).Lo) + (((leg v1 ((x1.drop ((1 + (a3 % (((x1.length : Nat) : Int)))).toNat)))).2.1).Lo)) != (((leg v1 x1).2.1).Lo))) || (((((leg v1 ((x1.take ((1 + (a3 % (((x1.length : Nat) : Int)))).toNat)))).2.1).Hi) + (((leg v1 ((x1.drop ((1 + (a3 % (((x1.length : Nat) : Int)))).toNat)))).2.1).Hi)) != (((leg v1 x1).2.1).Hi)))) :: kb 7 25 11 :: kb 23 32 2 :: (.r 1, some (.vec true 2 84 2 (v1.Thrust.flatMap encPt))) :: (.r 3, some (.vec true 4 84 2 (v1.Water.flatMap encPt))) :: (.r 5, some (.vec true 6 84 2 (v1.Ice.flatMap encPt))) :: (.r 21, some (.vec true 22 3 1 (((leg v1 x1).1).flatMap encInt))) :: (.r 302, some (.vec true 303 48 10 (x1.flatMap encPart))) :: sK 7 v1 (.o 1 2 v1.Thrust.length) (.o 3 4 v1.Water.length) (.o 5 6 v1.Ice.length) [kc 23 0 (.i (((leg v1 x1).2.1).Lo)), kc 23 1 (.i (((leg v1 x1).2.1).Hi))])) ?_ (kp rfl) rfl
      refine fin_then ?_
      refine aw_cond rfl (fun hz85 => ?_) (fun hz85 => ?_)
      ·have hm := brk_t hz85 hm
       refine aw_seq ?_
       refine aw_text (rows := [_]) rfl (by kernel_rfl) ⟨
        ok_plain rfl rfl (op_assign (ltN rfl) rfl),
        trivial⟩ ?_
       refine fin_keep (s' := [kt 8 (.B false)]) ?_ (kp rfl) rfl
       refine fin_then ?_
       refine aw_ret ?_
       refine fin_then_ret ?_
       refine post_ret (x := .B false) rfl rfl (resOK_tmp rfl resOK_nil) rfl (fun mm aa ww hr => ?_)
       have hm := Option.some.inj hm
       subst hm
       exact ⟨rfl, hr.below⟩
      ·have hm := brk_f hz85 hm
       refine aw_skip ?_
       exact fin_cut () hm ⟨rfl, rfl, rfl, rfl, rfl, rfl, rfl, rfl, rfl, rfl, rfl, rfl, rfl, rfl, rfl, rfl, rfl, rfl, rfl, rfl, rfl, rfl, rfl, rfl, rfl, trivial⟩ rfl
     ·have hm := brk_f hz66 hm
      refine aw_seq ?_
      refine aw_text (rows := [_, _, _]) rfl (by kernel_rfl) ⟨
       ok_plain rfl rfl (op_loadN (ys := [.i (((leg v1 ((x1.take ((1 + (a3 % (((x1.length : Nat) : Int)))).toNat)))).2.1).Lo), .i (((leg v1 ((x1.take ((1 + (a3 % (((x1.length : Nat) : Int)))).toNat)))).2.1).Hi)]) (ltN rfl) sh_32 rfl rfl ⟨rfl, rfl, trivial⟩),
       ok_plain rfl rfl (op_loadN (ys := [.i (((leg v1 x1).2.1).Lo), .i (((leg v1 x1).2.1).Hi)]) (ltN rfl) sh_32 rfl rfl ⟨rfl, rfl, trivial⟩),
       ok_plain rfl rfl (op_neS (r := decide (((leg v1 ((x1.take ((1 + (a3 % (((x1.length : Nat) : Int)))).toNat)))).2.1) = ((leg v1 x1).2.1))) (ltN rfl) rfl rfl eqg_32 (fun _ => Eq.trans (by kernel_rfl) (congrArg some (Span_eqd (((leg v1 ((x1.take ((1 + (a3 % (((x1.length : Nat) : Int)))).toNat)))).2.1)) (((leg v1 x1).2.1)))))),
       trivial⟩ ?_
      refine fin_keep (s' := (kt 2 (.v (.slice a2_p a2.length a2_c)) :: kt 9 (.p 7 0) :: kt 11 (.o 302 303 x1.length) :: kt 14 (.o 21 22 ((leg v1 x1).1.length)) :: kt 15 (.p 23 0) :: kt 225 (.B (!decide (((leg v1 ((x1.take ((1 + (a3 % (((x1.length : Nat) : Int)))).toNat)))).2.1) = ((leg v1 x1).2.1)))) :: kb 7 25 11 :: kb 23 32 2 :: (.r 1, some (.vec true 2 84 2 (v1.Thrust.flatMap encPt))) :: (.r 3, some (.vec true 4 84 2 (v1.Water.flatMap encPt))) :: (.r 5, some (.vec true 6 84 2 (v1.Ice.flatMap encPt))) :: (.r 21, some (.vec true 22 3 1 (((leg v1 x1).1).flatMap encInt))) :: (.r 302, some (.vec true 303 48 10 (x1.flatMap encPart))) :: sK 7 v1 (.o 1 2 v1.Thrust.length) (.o 3 4 v1.Water.length) (.o 5 6 v1.Ice.length) [kc 23 0 (.i (((leg v1 x1).2.1).Lo)), kc 23 1 (.i (((leg v1 x1).2.1).Hi))])) ?_ (kp rfl) rfl
      refine fin_then ?_
      refine aw_cond rfl (fun hz86 => ?_) (fun hz86 => ?_)
      ·have hm := brk_t hz86 hm
       refine aw_seq ?_
       refine aw_text (rows := [_]) rfl (by kernel_rfl) ⟨
        ok_plain rfl rfl (op_assign (ltN rfl) rfl),
        trivial⟩ ?_
       refine fin_keep (s' := [kt 8 (.B false)]) ?_ (kp rfl) rfl
       refine fin_then ?_
       refine aw_ret ?_
       refine fin_then_ret ?_
       refine post_ret (x := .B false) rfl rfl (resOK_tmp rfl resOK_nil) rfl (fun mm aa ww hr => ?_)
       have hm := Option.some.inj hm
       subst hm
       exact ⟨rfl, hr.below⟩
      ·have hm := brk_f hz86 hm
       refine aw_skip ?_
       exact fin_cut () hm ⟨rfl, rfl, rfl, rfl, rfl, rfl, rfl, rfl, rfl, rfl, rfl, rfl, rfl, rfl, rfl, rfl, rfl, rfl, rfl, rfl, rfl, rfl, rfl, rfl, rfl, trivial⟩ rfl
    ·have _z := hm
     refine aw_seq ?_
     refine aw_text (rows := [_]) rfl (by kernel_rfl) ⟨
      ok_plain rfl rfl (op_assign (ltN rfl) rfl),
      trivial⟩ ?_
     refine fin_keep (s' := (kt 2 (.v (.slice a2_p a2.length a2_c)) :: kt 9 (.p 7 0) :: kt 11 (.o 302 303 x1.length) :: kt 14 (.o 21 22 ((leg v1 x1).1.length)) :: kt 15 (.p 23 0) :: kt 26 (.i 0) :: kb 7 25 11 :: kb 23 32 2 :: (.r 1, some (.vec true 2 84 2 (v1.Thrust.flatMap encPt))) :: (.r 3, some (.vec true 4 84 2 (v1.Water.flatMap encPt))) :: (.r 5, some (.vec true 6 84 2 (v1.Ice.flatMap encPt))) :: (.r 21, some (.vec true 22 3 1 (((leg v1 x1).1).flatMap encInt))) :: (.r 302, some (.vec true 303 48 10 (x1.flatMap encPart))) :: sK 7 v1 (.o 1 2 v1.Thrust.length) (.o 3 4 v1.Water.length) (.o 5 6 v1.Ice.length) [kc 23 0 (.i (((leg v1 x1).2.1).Lo)), kc 23 1 (.i (((leg v1 x1).2.1).Hi))])) ?_ (kp rfl) rfl
     refine fin_then ?_
     refine aw_cutM (ι := Int) hm (fun x8 => [kt 15 (.p 23 0), kt 26 (.i x8), kb 23 32 2, kc 23 0 (.i (((leg v1 x1).2.1).Lo)), kc 23 1 (.i (((leg v1 x1).2.1).Hi))]) (fun hm => ?_) (fun x8 hm => ?_)
     ·have _z := hm
      refine aw_seq ?_
      refine aw_text (rows := [_, _, _]) rfl (by kernel_rfl) ⟨
       ok_plain rfl rfl (op_move (ltN rfl) rfl),
       ok_plain rfl rfl (op_lenO (n := x1.length) (ltN rfl) (by rw [ss_46]; rfl) rfl),
       ok_plain rfl rfl (op_move (ltN rfl) rfl),
       trivial⟩ ?_
      refine fin_keep (s' := (kt 2 (.v (.slice a2_p a2.length a2_c)) :: kt 9 (.p 7 0) :: kt 14 (.o 21 22 ((leg v1 x1).1.length)) :: kt 15 (.p 23 0) :: kt 26 (.i 0) :: kt 226 (.o 302 303 x1.length) :: kt 227 (.i (((x1.length : Nat) : Int))) :: kt 228 (.i 0) :: kb 7 25 11 :: kb 23 32 2 :: (.r 1, some (.vec true 2 84 2 (v1.Thrust.flatMap encPt))) :: (.r 3, some (.vec true 4 84 2 (v1.Water.flatMap encPt))) :: (.r 5, some (.vec true 6 84 2 (v1.Ice.flatMap encPt))) :: (.r 21, some (.vec true 22 3 1 (((leg v1 x1).1).flatMap encInt))) :: (.r 302, some (.vec true 303 48 10 (x1.flatMap encPart))) :: sK 7 v1 (.o 1 2 v1.Thrust.length) (.o 3 4 v1.Water.length) (.o 5 6 v1.Ice.length) [kc 23 0 (.i (((leg v1 x1).2.1).Lo)), kc 23 1 (.i (((leg v1 x1).2.1).Hi))])) ?_ (kp rfl) rfl
      refine fin_then ?_
      refine aw_block ?_
      refine aw_loopC hm (fun x9 => (kt 2 (.v (.slice a2_p a2.length a2_c)) :: kt 9 (.p 7 0) :: kt 14 (.o 21 22 ((leg v1 x1).1.length)) :: kt 15 (.p 23 0) :: kt 26 (.i x9.1) :: kt 226 (.o 302 303 x1.length) :: kt 227 (.i (((x1.length : Nat) : Int))) :: kt 228 (.i x9.2) :: kb 7 25 11 :: kb 23 32 2 :: (.r 1, some (.vec true 2 84 2 (v1.Thrust.flatMap encPt))) :: (.r 3, some (.vec true 4 84 2 (v1.Water.flatMap encPt))) :: (.r 5, some (.vec true 6 84 2 (v1.Ice.flatMap encPt))) :: (.r 21, some (.vec true 22 3 1 (((leg v1 x1).1).flatMap encInt))) :: (.r 302, some (.vec true 303 48 10 (x1.flatMap encPart))) :: sK 7 v1 (.o 1 2 v1.Thrust.length) (.o 3 4 v1.Water.length) (.o 5 6 v1.Ice.length) [kc 23 0 (.i (((leg v1 x1).2.1).Lo)), kc 23 1 (.i (((leg v1 x1).2.1).Hi))])) ⟨rfl, rfl, rfl, rfl, rfl, rfl, rfl, rfl, rfl, rfl, rfl, rfl, rfl, rfl, rfl, rfl, rfl, rfl, rfl, rfl, rfl, rfl, rfl, rfl, rfl, rfl, rfl, rfl, trivial⟩ rfl (fun x9 n9 hm => ?_)
      refine aw_seq ?_
      refine aw_text (rows := [_]) rfl (by kernel_rfl) ⟨
       ok_plain rfl rfl (op_bin (ltN rfl) rfl rfl rfl),
       trivial⟩ ?_
      refine fin_keep (s' := (kt 2 (.v (.slice a2_p a2.length a2_c)) :: kt 9 (.p 7 0) :: kt 14 (.o 21 22 ((leg v1 x1).1.length)) :: kt 15 (.p 23 0) :: kt 26 (.i x9.1) :: kt 226 (.o 302 303 x1.length) :: kt 227 (.i (((x1.length : Nat) : Int))) :: kt 228 (.i x9.2) :: kt 229 (.B (decide (x9.2 < (((x1.length : Nat) : Int))))) :: kb 7 25 11 :: kb 23 32 2 :: (.r 1, some (.vec true 2 84 2 (v1.Thrust.flatMap encPt))) :: (.r 3, some (.vec true 4 84 2 (v1.Water.flatMap encPt))) :: (.r 5, some (.vec true 6 84 2 (v1.Ice.flatMap encPt))) :: (.r 21, some (.vec true 22 3 1 (((leg v1 x1).1).flatMap encInt))) :: (.r 302, some (.vec true 303 48 10 (x1.flatMap encPart))) :: sK 7 v1 (.o 1 2 v1.Thrust.length) (.o 3 4 v1.Water.length) (.o 5 6 v1.Ice.length) [kc 23 0 (.i (((leg v1 x1).2.1).Lo)), kc 23 1 (.i (((leg v1 x1).2.1).Hi))])) ?_ (kp rfl) rfl
      refine fin_then ?_
      refine aw_seq ?_
      refine aw_cond rfl (fun hz87 => ?_) (fun hz87 => ?_)
      ·have hm := brk_t hz87 hm
       refine aw_skip ?_
       refine fin_then ?_
       refine aw_seq ?_
       refine aw_block ?_
       refine aw_seq ?_
       obtain ⟨hp88, hm⟩ := chk_some hm
       refine aw_text (rows := [_, _, _, _, _, _]) rfl (by kernel_rfl) ⟨
        ok_plain rfl rfl (op_move (ltN rfl) rfl),
        ok_plain rfl rfl (op_ixO (ltN rfl) rfl rfl ss_46 rfl (flat_ne (enc := encPart) (k := 10) (fun _ => rfl) (by decide) (i := x9.2) hp88.1 hp88.2) hp88.1 hp88.2),
        ok_plain rfl rfl (op_loadON (vs := [(.int .i64 (((((prt x1 x9.2)).Cell).Conc).Lo)), (.int .i64 (((((prt x1 x9.2)).Cell).Conc).Hi)), (.int .i64 (((((prt x1 x9.2)).Cell).Thick).Lo)), (.int .i64 (((((prt x1 x9.2)).Cell).Thick).Hi)), (.int .i64 (((((prt x1 x9.2)).Cell).Ridge).Lo)), (.int .i64 (((((prt x1 x9.2)).Cell).Ridge).Hi)), (.int .i64 (((((prt x1 x9.2)).Cell).Press).Lo)), (.int .i64 (((((prt x1 x9.2)).Cell).Press).Hi)), (.bool (((prt x1 x9.2)).Channel)), (.int .i64 (((prt x1 x9.2)).Length))]) (ltN rfl) sh_48 rfl rfl rfl (fun zq zv zh => flat_sub (k := 10) (l := x1) (enc := encPart) (fun _ => rfl) default (i := x9.2) hp88.1 hp88.2 0 (vs := [(.int .i64 (((((prt x1 x9.2)).Cell).Conc).Lo)), (.int .i64 (((((prt x1 x9.2)).Cell).Conc).Hi)), (.int .i64 (((((prt x1 x9.2)).Cell).Thick).Lo)), (.int .i64 (((((prt x1 x9.2)).Cell).Thick).Hi)), (.int .i64 (((((prt x1 x9.2)).Cell).Ridge).Lo)), (.int .i64 (((((prt x1 x9.2)).Cell).Ridge).Hi)), (.int .i64 (((((prt x1 x9.2)).Cell).Press).Lo)), (.int .i64 (((((prt x1 x9.2)).Cell).Press).Hi)), (.bool (((prt x1 x9.2)).Channel)), (.int .i64 (((prt x1 x9.2)).Length))]) rfl zh)),
        ok_plain rfl rfl (op_alloc (L := 30) (ltN rfl) zl_48),
        ok_plain rfl rfl (op_assign (ltN rfl) rfl),
        ok_plain rfl rfl (op_storeN sz_48 rfl rfl rfl rfl rfl (by decide)),
        trivial⟩ ?_
       refine fin_keep (s' := (kt 2 (.v (.slice a2_p a2.length a2_c)) :: kt 9 (.p 7 0) :: kt 14 (.o 21 22 ((leg v1 x1).1.length)) :: kt 15 (.p 23 0) :: kt 26 (.i x9.1) :: kt 27 (.i x9.2) :: kt 28 (.p 30 0) :: kt 226 (.o 302 303 x1.length) :: kt 227 (.i (((x1.length : Nat) : Int))) :: kt 228 (.i x9.2) :: kb 7 25 11 :: kb 23 32 2 :: kb 30 48 10 :: (.r 1, some (.vec true 2 84 2 (v1.Thrust.flatMap encPt))) :: (.r 3, some (.vec true 4 84 2 (v1.Water.flatMap encPt))) :: (.r 5, some (.vec true 6 84 2 (v1.Ice.flatMap encPt))) :: (.r 21, some (.vec true 22 3 1 (((leg v1 x1).1).flatMap encInt))) :: (.r 302, some (.vec true 303 48 10 (x1.flatMap encPart))) :: sK 7 v1 (.o 1 2 v1.Thrust.length) (.o 3 4 v1.Water.length) (.o 5 6 v1.Ice.length) [kc 23 0 (.i (((leg v1 x1).2.1).Lo)), kc 23 1 (.i (((leg v1 x1).2.1).Hi)), kc 30 0 (.i (((((prt x1 x9.2)).Cell).Conc).Lo)), kc 30 1 (.i (((((prt x1 x9.2)).Cell).Conc).Hi)), kc 30 2 (.i (((((prt x1 x9.2)).Cell).Thick).Lo)), kc 30 3 (.i (((((prt x1 x9.2)).Cell).Thick).Hi)), kc 30 4 (.i (((((prt x1 x9.2)).Cell).Ridge).Lo)), kc 30 5 (.i (((((prt x1 x9.2)).Cell).Ridge).Hi)), kc 30 6 (.i (((((prt x1 x9.2)).Cell).Press).Lo)), kc 30 7 (.i (((((prt x1 x9.2)).Cell).Press).Hi)), kc 30 8 (.B (((prt x1 x9.2)).Channel)), kc 30 9 (.i (((prt x1 x9.2)).Length))])) ?_ (kp rfl) rfl
       refine fin_then ?_
       refine aw_seq ?_
       refine aw_text (rows := [_, _]) rfl (by kernel_rfl) ⟨
        ok_plain rfl rfl (op_move (ltN rfl) rfl),
        ok_plain rfl rfl (op_assign (ltN rfl) rfl),
        trivial⟩ ?_
       refine fin_keep (s' := (kt 2 (.v (.slice a2_p a2.length a2_c)) :: kt 9 (.p 7 0) :: kt 14 (.o 21 22 ((leg v1 x1).1.length)) :: kt 15 (.p 23 0) :: kt 26 (.i x9.1) :: kt 27 (.i x9.2) :: kt 28 (.p 30 0) :: kt 29 (.v (.slice a2_p a2.length a2_c)) :: kt 226 (.o 302 303 x1.length) :: kt 227 (.i (((x1.length : Nat) : Int))) :: kt 228 (.i x9.2) :: kb 7 25 11 :: kb 23 32 2 :: kb 30 48 10 :: (.r 1, some (.vec true 2 84 2 (v1.Thrust.flatMap encPt))) :: (.r 3, some (.vec true 4 84 2 (v1.Water.flatMap encPt))) :: (.r 5, some (.vec true 6 84 2 (v1.Ice.flatMap encPt))) :: (.r 21, some (.vec true 22 3 1 (((leg v1 x1).1).flatMap encInt))) :: (.r 302, some (.vec true 303 48 10 (x1.flatMap encPart))) :: sK 7 v1 (.o 1 2 v1.Thrust.length) (.o 3 4 v1.Water.length) (.o 5 6 v1.Ice.length) [kc 23 0 (.i (((leg v1 x1).2.1).Lo)), kc 23 1 (.i (((leg v1 x1).2.1).Hi)), kc 30 0 (.i (((((prt x1 x9.2)).Cell).Conc).Lo)), kc 30 1 (.i (((((prt x1 x9.2)).Cell).Conc).Hi)), kc 30 2 (.i (((((prt x1 x9.2)).Cell).Thick).Lo)), kc 30 3 (.i (((((prt x1 x9.2)).Cell).Thick).Hi)), kc 30 4 (.i (((((prt x1 x9.2)).Cell).Ridge).Lo)), kc 30 5 (.i (((((prt x1 x9.2)).Cell).Ridge).Hi)), kc 30 6 (.i (((((prt x1 x9.2)).Cell).Press).Lo)), kc 30 7 (.i (((((prt x1 x9.2)).Cell).Press).Hi)), kc 30 8 (.B (((prt x1 x9.2)).Channel)), kc 30 9 (.i (((prt x1 x9.2)).Length))])) ?_ (kp rfl) rfl
       refine fin_then ?_
       refine aw_cutM (ι := Nat) hm (fun x10 => (kt 2 (.v (.slice a2_p a2.length a2_c)) :: kt 9 (.p 7 0) :: kt 14 (.o 21 22 ((leg v1 x1).1.length)) :: kt 15 (.p 23 0) :: kt 26 (.i x9.1) :: kt 27 (.i x9.2) :: kt 28 (.p 30 0) :: kt 29 (.v (.slice (dropP a2_p a2_c 1 x10) (a2.length - x10) (a2_c - x10))) :: kt 226 (.o 302 303 x1.length) :: kt 227 (.i (((x1.length : Nat) : Int))) :: kt 228 (.i x9.2) :: kb 7 25 11 :: kb 23 32 2 :: kb 30 48 10 :: (.r 1, some (.vec true 2 84 2 (v1.Thrust.flatMap encPt))) :: (.r 3, some (.vec true 4 84 2 (v1.Water.flatMap encPt))) :: (.r 5, some (.vec true 6 84 2 (v1.Ice.flatMap encPt))) :: (.r 21, some (.vec true 22 3 1 (((leg v1 x1).1).flatMap encInt))) :: (.r 302, some (.vec true 303 48 10 (x1.flatMap encPart))) :: sK 7 v1 (.o 1 2 v1.Thrust.length) (.o 3 4 v1.Water.length) (.o 5 6 v1.Ice.length) [kc 23 0 (.i (((leg v1 x1).2.1).Lo)), kc 23 1 (.i (((leg v1 x1).2.1).Hi)), kc 30 0 (.i (((((prt x1 x9.2)).Cell).Conc).Lo)), kc 30 1 (.i (((((prt x1 x9.2)).Cell).Conc).Hi)), kc 30 2 (.i (((((prt x1 x9.2)).Cell).Thick).Lo)), kc 30 3 (.i (((((prt x1 x9.2)).Cell).Thick).Hi)), kc 30 4 (.i (((((prt x1 x9.2)).Cell).Ridge).Lo)), kc 30 5 (.i (((((prt x1 x9.2)).Cell).Ridge).Hi)), kc 30 6 (.i (((((prt x1 x9.2)).Cell).Press).Lo)), kc 30 7 (.i (((((prt x1 x9.2)).Cell).Press).Hi)), kc 30 8 (.B (((prt x1 x9.2)).Channel)), kc 30 9 (.i (((prt x1 x9.2)).Length))])) (fun hm => ?_) (fun x10 hm => ?_)
       ·have _z := hm
        refine aw_seq ?_
        refine aw_text (rows := [_, _, _]) rfl (by kernel_rfl) ⟨
         ok_plain rfl rfl (op_move (ltN rfl) rfl),
         ok_plain rfl rfl (op_len (n := a2.length) (ltN rfl) (by rw [ss_22]; rfl) rfl rfl),
         ok_plain rfl rfl (op_bin (ltN rfl) rfl rfl rfl),
         trivial⟩ ?_
        refine fin_keep (s' := (kt 2 (.v (.slice a2_p a2.length a2_c)) :: kt 9 (.p 7 0) :: kt 14 (.o 21 22 ((leg v1 x1).1.length)) :: kt 15 (.p 23 0) :: kt 26 (.i x9.1) :: kt 27 (.i x9.2) :: kt 28 (.p 30 0) :: kt 29 (.v (.slice a2_p a2.length a2_c)) :: kt 226 (.o 302 303 x1.length) :: kt 227 (.i (((x1.length : Nat) : Int))) :: kt 228 (.i x9.2) :: kt 236 (.B (decide ((((a2.length : Nat) : Int)) > 0))) :: kb 7 25 11 :: kb 23 32 2 :: kb 30 48 10 :: (.r 1, some (.vec true 2 84 2 (v1.Thrust.flatMap encPt))) :: (.r 3, some (.vec true 4 84 2 (v1.Water.flatMap encPt))) :: (.r 5, some (.vec true 6 84 2 (v1.Ice.flatMap encPt))) :: (.r 21, some (.vec true 22 3 1 (((leg v1 x1).1).flatMap encInt))) :: (.r 302, some (.vec true 303 48 10 (x1.flatMap encPart))) :: sK 7 v1 (.o 1 2 v1.Thrust.length) (.o 3 4 v1.Water.length) (.o 5 6 v1.Ice.length) [kc 23 0 (.i (((leg v1 x1).2.1).Lo)), kc 23 1 (.i (((leg v1 x1).2.1).Hi)), kc 30 0 (.i (((((prt x1 x9.2)).Cell).Conc).Lo)), kc 30 1 (.i (((((prt x1 x9.2)).Cell).Conc).Hi)), kc 30 2 (.i (((((prt x1 x9.2)).Cell).Thick).Lo)), kc 30 3 (.i (((((prt x1 x9.2)).Cell).Thick).Hi)), kc 30 4 (.i (((((prt x1 x9.2)).Cell).Ridge).Lo)), kc 30 5 (.i (((((prt x1 x9.2)).Cell).Ridge).Hi)), kc 30 6 (.i (((((prt x1 x9.2)).Cell).Press).Lo)), kc 30 7 (.i (((((prt x1 x9.2)).Cell).Press).Hi)), kc 30 8 (.B (((prt x1 x9.2)).Channel)), kc 30 9 (.i (((prt x1 x9.2)).Length))])) ?_ (kp rfl) rfl
        refine fin_then ?_
        refine aw_cond rfl (fun hz89 => ?_) (fun hz89 => ?_)
        ·have hm := brk_t hz89 hm
         obtain ⟨hp90, hm⟩ := chk_some hm
         obtain ⟨hp91, hm⟩ := chk_some hm
         refine aw_text (rows := [_, _, _, _, _, _, _]) rfl (by kernel_rfl) ⟨
          ok_plain rfl rfl (op_move (ltN rfl) rfl),
          ok_plain rfl rfl (op_move (ltN rfl) rfl),
          ok_plain rfl rfl (op_move (ltN rfl) rfl),
          ok_plain rfl rfl (op_len (n := a2.length) (ltN rfl) (by rw [ss_22]; rfl) rfl rfl),
          ok_plain rfl rfl (op_rem (ltN rfl) rfl rfl (Int.ne_of_gt hp90.2) (rem_nn hp90.1.1 hp90.2 hp90.1.2)),
          ok_plain rfl rfl (op_sliceLo (lo := (x9.2 % (((a2.length : Nat) : Int))).toNat) (ltN rfl) rfl rfl ss_22 hp91.1 hp91.2 rfl),
          ok_plain rfl rfl (op_assign (ltN rfl) rfl),
          trivial⟩ ?_
         refine fin_keep (s' := (kt 2 (.v (.slice a2_p a2.length a2_c)) :: kt 9 (.p 7 0) :: kt 14 (.o 21 22 ((leg v1 x1).1.length)) :: kt 15 (.p 23 0) :: kt 26 (.i x9.1) :: kt 27 (.i x9.2) :: kt 28 (.p 30 0) :: kt 29 (.v (.slice (dropP a2_p a2_c 1 ((x9.2 % (((a2.length : Nat) : Int))).toNat)) (a2.length - ((x9.2 % (((a2.length : Nat) : Int))).toNat)) (a2_c - ((x9.2 % (((a2.length : Nat) : Int))).toNat)))) :: kt 226 (.o 302 303 x1.length) :: kt 227 (.i (((x1.length : Nat) : Int))) :: kt 228 (.i x9.2) :: kb 7 25 11 :: kb 23 32 2 :: kb 30 48 10 :: (.r 1, some (.vec true 2 84 2 (v1.Thrust.flatMap encPt))) :: (.r 3, some (.vec true 4 84 2 (v1.Water.flatMap encPt))) :: (.r 5, some (.vec true 6 84 2 (v1.Ice.flatMap encPt))) :: (.r 21, some (.vec true 22 3 1 (((leg v1 x1).1).flatMap encInt))) :: (.r 302, some (.vec true 303 48 10 (x1.flatMap encPart))) :: sK 7 v1 (.o 1 2 v1.Thrust.length) (.o 3 4 v1.Water.length) (.o 5 6 v1.Ice.length) [kc 23 0 (.i (((leg v1 x1).2.1).Lo)), kc 23 1 (.i (((leg v1 x1).2.1).Hi)), kc 30 0 (.i (((((prt x1 x9.2)).Cell).Conc).Lo)), kc 30 1 (.i (((((prt x1 x9.2)).Cell).Conc).Hi)), kc 30 2 (.i (((((prt x1 x9.2)).Cell).Thick).Lo)), kc 30 3 (.i (((((prt x1 x9.2)).Cell).Thick).Hi)), kc 30 4 (.i (((((prt x1 x9.2)).Cell).Ridge).Lo)), kc 30 5 (.i (((((prt x1 x9.2)).Cell).Ridge).Hi)), kc 30 6 (.i (((((prt x1 x9.2)).Cell).Press).Lo)), kc 30 7 (.i (((((prt x1 x9.2)).Cell).Press).Hi)), kc 30 8 (.B (((prt x1 x9.2)).Channel)), kc 30 9 (.i (((prt x1 x9.2)).Length))])) ?_ (kp rfl) rfl
         exact fin_cut ((x9.2 % (((a2.length : Nat) : Int))).toNat) hm ⟨rfl, rfl, rfl, rfl, rfl, rfl, rfl, rfl, rfl, rfl, rfl, rfl, rfl, rfl, rfl, rfl, rfl, rfl, rfl, rfl, rfl, rfl, rfl, rfl, rfl, rfl, rfl, rfl, rfl, rfl, rfl, rfl, rfl, rfl, rfl, rfl, rfl, rfl, rfl, rfl, rfl, rfl, trivial⟩ rfl
        ·have hm := brk_f hz89 hm
         refine aw_skip ?_
         exact fin_cut 0 hm ⟨rfl, rfl, rfl, rfl, rfl, rfl, rfl, rfl, rfl, rfl, rfl, rfl, rfl, rfl, rfl, rfl, rfl, rfl, rfl, rfl, rfl, rfl, rfl, rfl, rfl, rfl, rfl, rfl, rfl, rfl, rfl, rfl, rfl, rfl, rfl, rfl, rfl, rfl, rfl, rfl, rfl, rfl, trivial⟩ rfl
       ·have _z := hm
        refine aw_seq ?_
        obtain ⟨v3, hv3, hm⟩ := bnd_some hm
        obtain ⟨v4, hv4, hm⟩ := bnd_some hm
        refine aw_any (rows := [_, _, _, _, _, _, _, _, _, _, _, _, _, _]) (M := [0, 0, 2, 0, 14, 30, 0, 64, 255, 511, 1023, 1023, 2047, 8191]) Tryd_mixed (by kernel_rfl) rfl (by kernel_rfl) ⟨
         ok_plain rfl rfl (op_loadN (ys := [.i v1.Class, .i v1.Power, .i v1.Draught, .i v1.Tonnes, .o 1 2 v1.Thrust.length, .o 3 4 v1.Water.length, .o 5 6 v1.Ice.length, .i v1.Slow, .i v1.Brash, .i v1.Ridge, .i v1.Press]) (ltN rfl) sh_25 rfl rfl ⟨rfl, rfl, rfl, rfl, rfl, rfl, rfl, rfl, rfl, rfl, rfl, trivial⟩),
         ok_plain rfl rfl (op_fieldAddr (ltN rfl) rfl fo_48_0),
         ok_plain rfl rfl (op_loadN (ys := [.i (((((prt x1 x9.2)).Cell).Conc).Lo), .i (((((prt x1 x9.2)).Cell).Conc).Hi), .i (((((prt x1 x9.2)).Cell).Thick).Lo), .i (((((prt x1 x9.2)).Cell).Thick).Hi), .i (((((prt x1 x9.2)).Cell).Ridge).Lo), .i (((((prt x1 x9.2)).Cell).Ridge).Hi), .i (((((prt x1 x9.2)).Cell).Press).Lo), .i (((((prt x1 x9.2)).Cell).Press).Hi)]) (ltN rfl) sh_34 rfl rfl ⟨rfl, rfl, rfl, rfl, rfl, rfl, rfl, rfl, trivial⟩),
         ok_plain rfl rfl (op_move (ltN rfl) rfl),
         ok_plain rfl rfl (op_call (x := .g [.i v3.Conc, .i v3.Thick, .i v3.Ridge, .i v3.Press]) (fs := []) (caps := []) (extra := []) (ltN rfl) en_26 rfl ⟨rfl, rfl, rfl⟩ (EvL.cons rfl (EvL.cons rfl EvL.nil)) (fun mm aa ww gg hr hrel => (c26 F ((((prt x1 x9.2)).Cell)) ((a2.drop x10)) ⟨dropP a2_p a2_c 1 x10, a2.length - x10, a2_c - x10⟩ ww (SlIs.mono (SlAt.dropS ha2 x10) hrel.below) (drop_all h8a2) (drop_len hlena2) v3 hv3))),
         ok_plain rfl rfl (op_call (x := .g [.i v4.Conc.Lo, .i v4.Conc.Hi, .i v4.Thick.Lo, .i v4.Thick.Hi, .i v4.Ridge.Lo, .i v4.Ridge.Hi, .i v4.Press.Lo, .i v4.Press.Hi]) (fs := []) (caps := []) (extra := []) (ltN rfl) en_25 rfl ⟨rfl, rfl, rfl⟩ (EvL.cons rfl EvL.nil) (fun mm aa ww gg hr hrel => (c25 F v3 ww v4 hv4))),
         ok_plain rfl rfl (op_fieldAddr (ltN rfl) rfl fo_48_1),
         ok_plain rfl rfl (op_load1 (ltN rfl) sh_4 rfl rfl),
         ok_plain rfl rfl (op_call (x := .t [.i ((safeE v1 v4 (((prt x1 x9.2)).Channel)).1), .i ((safeE v1 v4 (((prt x1 x9.2)).Channel)).2)]) (fs := []) (caps := []) (extra := (kapp [.r 1] (kapp [.r 3] (kapp [.r 5] [])))) (ltN rfl) en_24 rfl ⟨rfl, rfl, rfl⟩ (EvL.cons rfl (EvL.cons rfl (EvL.cons rfl EvL.nil))) (fun mm aa ww gg hr hrel => (c24 v1 ⟨ptr0 (mm 1) (mm 2), v1.Thrust.length, mm 2⟩ ⟨ptr0 (mm 3) (mm 4), v1.Water.length, mm 4⟩ ⟨ptr0 (mm 5) (mm 6), v1.Ice.length, mm 6⟩ v4 (((prt x1 x9.2)).Channel) ww (slAt_row (enc := encPt) (l := v1.Thrust) (fun _ => rfl) (by decide) hrel ((hr _ (List.mem_append_left _ (by simp))).trans rfl)) (slAt_row (enc := encPt) (l := v1.Water) (fun _ => rfl) (by decide) hrel ((hr _ (List.mem_append_right _ (List.mem_append_left _ (by simp)))).trans rfl)) (slAt_row (enc := encPt) (l := v1.Ice) (fun _ => rfl) (by decide) hrel ((hr _ (List.mem_append_right _ (List.mem_append_right _ (List.mem_append_left _ (by simp))))).trans rfl)) (BoxAt.mono hG hrel.below)))),
         ok_plain rfl rfl (op_move (ltN rfl) rfl),
         ok_plain rfl rfl (op_extract (ltN rfl) rfl rfl),
         ok_plain rfl rfl (op_extract (ltN rfl) rfl rfl),
         ok_plain rfl rfl (op_assign (ltN rfl) rfl),
         ok_plain rfl rfl (op_assign (ltN rfl) rfl),
         trivial⟩ ?_
        refine fin_keep (s' := (kt 2 (.v (.slice a2_p a2.length a2_c)) :: kt 9 (.p 7 0) :: kt 14 (.o 21 22 ((leg v1 x1).1.length)) :: kt 15 (.p 23 0) :: kt 26 (.i x9.1) :: kt 27 (.i x9.2) :: kt 28 (.p 30 0) :: kt 30 (.i ((safeE v1 v4 (((prt x1 x9.2)).Channel)).1)) :: kt 31 (.i ((safeE v1 v4 (((prt x1 x9.2)).Channel)).2)) :: kt 226 (.o 302 303 x1.length) :: kt 227 (.i (((x1.length : Nat) : Int))) :: kt 228 (.i x9.2) :: kb 7 25 11 :: kb 23 32 2 :: kb 30 48 10 :: (.r 1, some (.vec true 2 84 2 (v1.Thrust.flatMap encPt))) :: (.r 3, some (.vec true 4 84 2 (v1.Water.flatMap encPt))) :: (.r 5, some (.vec true 6 84 2 (v1.Ice.flatMap encPt))) :: (.r 21, some (.vec true 22 3 1 (((leg v1 x1).1).flatMap encInt))) :: (.r 302, some (.vec true 303 48 10 (x1.flatMap encPart))) :: sK 7 v1 (.o 1 2 v1.Thrust.length) (.o 3 4 v1.Water.length) (.o 5 6 v1.Ice.length) [kc 23 0 (.i (((leg v1 x1).2.1).Lo)), kc 23 1 (.i (((leg v1 x1).2.1).Hi)), kc 30 0 (.i (((((prt x1 x9.2)).Cell).Conc).Lo)), kc 30 1 (.i (((((prt x1 x9.2)).Cell).Conc).Hi)), kc 30 2 (.i (((((prt x1 x9.2)).Cell).Thick).Lo)), kc 30 3 (.i (((((prt x1 x9.2)).Cell).Thick).Hi)), kc 30 4 (.i (((((prt x1 x9.2)).Cell).Ridge).Lo)), kc 30 5 (.i (((((prt x1 x9.2)).Cell).Ridge).Hi)), kc 30 6 (.i (((((prt x1 x9.2)).Cell).Press).Lo)), kc 30 7 (.i (((((prt x1 x9.2)).Cell).Press).Hi)), kc 30 8 (.B (((prt x1 x9.2)).Channel)), kc 30 9 (.i (((prt x1 x9.2)).Length))])) ?_ (kp rfl) rfl
        refine fin_then ?_
        refine aw_seq ?_
        refine aw_seq ?_
        obtain ⟨hp96, hm⟩ := chk_some hm
        refine aw_text (rows := [_, _, _, _, _, _, _, _, _, _, _, _, _, _]) rfl (by kernel_rfl) ⟨
         ok_plain rfl rfl (op_move (ltN rfl) rfl),
         ok_plain rfl rfl (op_bin (ltN rfl) rfl rfl rfl),
         ok_plain rfl rfl (op_move (ltN rfl) rfl),
         ok_if (ltN rfl) rfl rfl rfl rfl rfl rfl (fun hg92 => op_move (ltN rfl) (force_x rfl)),
         ok_if (ltN rfl) rfl rfl rfl rfl rfl rfl (fun hg93 => op_move (ltN rfl) (force_x rfl)),
         ok_if (ltN rfl) rfl rfl rfl rfl rfl rfl (fun hg94 => op_move (ltN rfl) (force_x rfl)),
         ok_if (ltN rfl) rfl rfl rfl rfl rfl rfl (fun hg95 => op_ixO (ltN rfl) (force_eq (beq_iff_eq.2 hg95) rfl) (force_eq (beq_iff_eq.2 hg95) rfl) ss_49 rfl (flat_ne (enc := encInt) (k := 1) (fun _ => rfl) (by decide) (i := x9.2) (hp96 hg95).1 (hp96 hg95).2) (hp96 hg95).1 (hp96 hg95).2),
         ok_if (ltN rfl) rfl rfl rfl rfl rfl rfl (fun hg97 => op_loadO1 (v := (.int .i64 ((((leg v1 x1).1).getD x9.2.toNat 0)))) (ltN rfl) sh_3 (force_eq (beq_iff_eq.2 hg97) rfl) rfl (flat_ix (k := 1) (l := ((leg v1 x1).1)) (enc := encInt) (fun _ => rfl) 0 (i := x9.2) (hp96 hg97).1 (hp96 hg97).2 (j := 0) rfl)),
         ok_if (ltN rfl) rfl rfl rfl rfl rfl rfl (fun hg98 => op_bin (ltN rfl) (force_eq (beq_iff_eq.2 hg98) rfl) (force_eq (beq_iff_eq.2 hg98) rfl) rfl),
         ok_plain rfl rfl (op_or (ltN rfl) rfl rfl),
         ok_plain rfl rfl (op_move (ltN rfl) rfl),
         ok_if (ltN rfl) rfl rfl rfl rfl rfl rfl (fun hg99 => op_move (ltN rfl) (force_x rfl)),
         ok_if (ltN rfl) rfl rfl rfl rfl rfl rfl (fun hg100 => op_bin (ltN rfl) (force_eq (beq_iff_eq.2 hg100) rfl) rfl rfl),
         ok_plain rfl rfl (op_or (ltN rfl) rfl rfl),
         trivial⟩ ?_
        refine fin_keep (s' := (kt 2 (.v (.slice a2_p a2.length a2_c)) :: kt 9 (.p 7 0) :: kt 14 (.o 21 22 ((leg v1 x1).1.length)) :: kt 15 (.p 23 0) :: kt 26 (.i x9.1) :: kt 28 (.p 30 0) :: kt 30 (.i ((safeE v1 v4 (((prt x1 x9.2)).Channel)).1)) :: kt 226 (.o 302 303 x1.length) :: kt 227 (.i (((x1.length : Nat) : Int))) :: kt 228 (.i x9.2) :: kt 268 (.B (((((safeE v1 v4 (((prt x1 x9.2)).Channel)).2) != 0) || (decide (((safeE v1 v4 (((prt x1 x9.2)).Channel)).1) < ((((leg v1 x1).1).getD x9.2.toNat 0))))) || (decide (((safeE v1 v4 (((prt x1 x9.2)).Channel)).1) < 1)))) :: kb 7 25 11 :: kb 23 32 2 :: kb 30 48 10 :: (.r 1, some (.vec true 2 84 2 (v1.Thrust.flatMap encPt))) :: (.r 3, some (.vec true 4 84 2 (v1.Water.flatMap encPt))) :: (.r 5, some (.vec true 6 84 2 (v1.Ice.flatMap encPt))) :: (.r 21, some (.vec true 22 3 1 (((leg v1 x1).1).flatMap encInt))) :: (.r 302, some (.vec true 303 48 10 (x1.flatMap encPart))) :: sK 7 v1 (.o 1 2 v1.Thrust.length) (.o 3 4 v1.Water.length) (.o 5 6 v1.Ice.length) [kc 23 0 (.i (((leg v1 x1).2.1).Lo)), kc 23 1 (.i (((leg v1 x1).2.1).Hi)), kc 30 0 (.i (((((prt x1 x9.2)).Cell).Conc).Lo)), kc 30 1 (.i (((((prt x1 x9.2)).Cell).Conc).Hi)), kc 30 2 (.i (((((prt x1 x9.2)).Cell).Thick).Lo)), kc 30 3 (.i (((((prt x1 x9.2)).Cell).Thick).Hi)), kc 30 4 (.i (((((prt x1 x9.2)).Cell).Ridge).Lo)), kc 30 5 (.i (((((prt x1 x9.2)).Cell).Ridge).Hi)), kc 30 6 (.i (((((prt x1 x9.2)).Cell).Press).Lo)), kc 30 7 (.i (((((prt x1 x9.2)).Cell).Press).Hi)), kc 30 8 (.B (((prt x1 x9.2)).Channel)), kc 30 9 (.i (((prt x1 x9.2)).Length))])) ?_ (kp rfl) rfl
        refine fin_then ?_
        refine aw_cond rfl (fun hz101 => ?_) (fun hz101 => ?_)
        ·have hm := brk_t hz101 hm
         refine aw_seq ?_
         refine aw_text (rows := [_]) rfl (by kernel_rfl) ⟨
          ok_plain rfl rfl (op_assign (ltN rfl) rfl),
          trivial⟩ ?_
         refine fin_keep (s' := [kt 8 (.B false)]) ?_ (kp rfl) rfl
         refine fin_then ?_
         refine aw_ret ?_
         refine fin_then_ret ?_
         refine fin_block_ret ?_
         refine fin_then_ret ?_
         refine fin_then_ret ?_
         refine fin_block_ret ?_
         refine fin_then_ret ?_
         refine post_ret (x := .B false) rfl rfl (resOK_tmp rfl resOK_nil) rfl (fun mm aa ww hr => ?_)
         have hm := Option.some.inj hm
         subst hm
         exact ⟨rfl, hr.below⟩
        ·have hm := brk_f hz101 hm
         refine aw_skip ?_
         refine fin_then ?_
         obtain ⟨hp102, hm⟩ := chk_some hm
         obtain ⟨hp103, hm⟩ := chk_some hm
         obtain ⟨hp104, hm⟩ := chk_some hm
         obtain ⟨hp105, hm⟩ := chk_some hm
         obtain ⟨hp106, hm⟩ := chk_some hm
         refine aw_text (rows := [_, _, _, _, _, _, _, _, _, _, _]) rfl (by kernel_rfl) ⟨
          ok_plain rfl rfl (op_move (ltN rfl) rfl),
          ok_plain rfl rfl (op_fieldAddr (ltN rfl) rfl fo_48_2),
          ok_plain rfl rfl (op_load1 (ltN rfl) sh_3 rfl rfl),
          ok_plain rfl rfl (op_bin (ltN rfl) rfl rfl (nw_mul hp102)),
          ok_plain rfl rfl (op_move (ltN rfl) rfl),
          ok_plain rfl rfl (op_bin (ltN rfl) rfl rfl (nw_add hp103)),
          ok_plain rfl rfl (op_bin (ltN rfl) rfl rfl (nw_sub hp104)),
          ok_plain rfl rfl (op_move (ltN rfl) rfl),
          ok_plain rfl rfl (op_quo (ltN rfl) rfl rfl (Int.ne_of_gt hp105.2) (quo_nn hp105.1.1 hp105.2 hp105.1.2)),
          ok_plain rfl rfl (op_bin (ltN rfl) rfl rfl (nw_add hp106)),
          ok_plain rfl rfl (op_assign (ltN rfl) rfl),
          trivial⟩ ?_
         refine fin_keep (s' := (kt 2 (.v (.slice a2_p a2.length a2_c)) :: kt 9 (.p 7 0) :: kt 14 (.o 21 22 ((leg v1 x1).1.length)) :: kt 15 (.p 23 0) :: kt 26 (.i (x9.1 + ((((60 * (((prt x1 x9.2)).Length)) + ((safeE v1 v4 (((prt x1 x9.2)).Channel)).1)) - 1) / ((safeE v1 v4 (((prt x1 x9.2)).Channel)).1)))) :: kt 226 (.o 302 303 x1.length) :: kt 227 (.i (((x1.length : Nat) : Int))) :: kt 228 (.i x9.2) :: kb 7 25 11 :: kb 23 32 2 :: (.r 1, some (.vec true 2 84 2 (v1.Thrust.flatMap encPt))) :: (.r 3, some (.vec true 4 84 2 (v1.Water.flatMap encPt))) :: (.r 5, some (.vec true 6 84 2 (v1.Ice.flatMap encPt))) :: (.r 21, some (.vec true 22 3 1 (((leg v1 x1).1).flatMap encInt))) :: (.r 302, some (.vec true 303 48 10 (x1.flatMap encPart))) :: sK 7 v1 (.o 1 2 v1.Thrust.length) (.o 3 4 v1.Water.length) (.o 5 6 v1.Ice.length) [kc 23 0 (.i (((leg v1 x1).2.1).Lo)), kc 23 1 (.i (((leg v1 x1).2.1).Hi))])) ?_ (kp rfl) rfl
         refine fin_block ?_
         refine fin_then ?_
         obtain ⟨hp107, hm⟩ := chk_some hm
         refine aw_text (rows := [_, _]) rfl (by kernel_rfl) ⟨
          ok_plain rfl rfl (op_bin (ltN rfl) rfl rfl (nw_add hp107)),
          ok_plain rfl rfl (op_move (ltN rfl) rfl),
          trivial⟩ ?_
         refine fin_keep (s' := (kt 2 (.v (.slice a2_p a2.length a2_c)) :: kt 9 (.p 7 0) :: kt 14 (.o 21 22 ((leg v1 x1).1.length)) :: kt 15 (.p 23 0) :: kt 26 (.i (x9.1 + ((((60 * (((prt x1 x9.2)).Length)) + ((safeE v1 v4 (((prt x1 x9.2)).Channel)).1)) - 1) / ((safeE v1 v4 (((prt x1 x9.2)).Channel)).1)))) :: kt 226 (.o 302 303 x1.length) :: kt 227 (.i (((x1.length : Nat) : Int))) :: kt 228 (.i (x9.2 + 1)) :: kb 7 25 11 :: kb 23 32 2 :: (.r 1, some (.vec true 2 84 2 (v1.Thrust.flatMap encPt))) :: (.r 3, some (.vec true 4 84 2 (v1.Water.flatMap encPt))) :: (.r 5, some (.vec true 6 84 2 (v1.Ice.flatMap encPt))) :: (.r 21, some (.vec true 22 3 1 (((leg v1 x1).1).flatMap encInt))) :: (.r 302, some (.vec true 303 48 10 (x1.flatMap encPart))) :: sK 7 v1 (.o 1 2 v1.Thrust.length) (.o 3 4 v1.Water.length) (.o 5 6 v1.Ice.length) [kc 23 0 (.i (((leg v1 x1).2.1).Lo)), kc 23 1 (.i (((leg v1 x1).2.1).Hi))])) ?_ (kp rfl) rfl
         exact fin_cut (x9.1 + ((((60 * (((prt x1 x9.2)).Length)) + ((safeE v1 v4 (((prt x1 x9.2)).Channel)).1)) - 1) / ((safeE v1 v4 (((prt x1 x9.2)).Channel)).1)), x9.2 + 1) hm ⟨rfl, rfl, rfl, rfl, rfl, rfl, rfl, rfl, rfl, rfl, rfl, rfl, rfl, rfl, rfl, rfl, rfl, rfl, rfl, rfl, rfl, rfl, rfl, rfl, rfl, rfl, rfl, rfl, trivial⟩ rfl
      ·have hm := brk_f hz87 hm
       refine aw_exit ?_
       refine fin_then_exit ?_
       refine fin_then_exit ?_
       refine fin_block_exit ?_
       exact fin_cut x9.1 hm ⟨rfl, rfl, rfl, rfl, rfl, trivial⟩ rfl
     ·have _z := hm
      refine aw_seq ?_
      refine aw_text (rows := [_, _, _, _, _, _, _, _, _, _, _, _, _, _]) rfl (by kernel_rfl) ⟨
       ok_plain rfl rfl (op_move (ltN rfl) rfl),
       ok_plain rfl rfl (op_fieldAddr (ltN rfl) rfl fo_32_0),
       ok_plain rfl rfl (op_load1 (ltN rfl) sh_3 rfl rfl),
       ok_plain rfl rfl (op_bin (ltN rfl) rfl rfl rfl),
       ok_plain rfl rfl (op_move (ltN rfl) rfl),
       ok_if (ltN rfl) rfl rfl rfl rfl rfl rfl (fun hg108 => op_move (ltN rfl) (force_x rfl)),
       ok_if (ltN rfl) rfl rfl rfl rfl rfl rfl (fun hg109 => op_fieldAddr (ltN rfl) (force_x rfl) fo_32_1),
       ok_if (ltN rfl) rfl rfl rfl rfl rfl rfl (fun hg110 => op_load1 (ltN rfl) sh_3 (force_eq (beq_iff_eq.2 hg110) rfl) rfl),
       ok_if (ltN rfl) rfl rfl rfl rfl rfl rfl (fun hg111 => op_bin (ltN rfl) (force_eq (beq_iff_eq.2 hg111) rfl) (force_eq (beq_iff_eq.2 hg111) rfl) rfl),
       ok_plain rfl rfl (op_and (ltN rfl) rfl rfl),
       ok_plain rfl rfl (op_move (ltN rfl) rfl),
       ok_if (ltN rfl) rfl rfl rfl rfl rfl rfl (fun hg112 => op_call (x := .B true) (fs := []) (caps := []) (extra := []) (ltN rfl) en_21 rfl ⟨rfl, rfl, rfl⟩ EvL.nil (fun mm aa ww gg hr hrel => (c21 ww (BoxAt.mono hG hrel.below)))),
       ok_plain rfl rfl (op_and (ltN rfl) rfl rfl),
       ok_plain rfl rfl (op_assign (ltN rfl) rfl),
       trivial⟩ ?_
      refine fin_keep (s' := [kt 8 (.B (((decide (x8 ≥ (((leg v1 x1).2.1).Lo))) && (decide (x8 ≤ (((leg v1 x1).2.1).Hi)))) && true))]) ?_ (kp rfl) rfl
      refine fin_then ?_
      refine aw_ret ?_
      refine post_ret (x := .B (((decide (x8 ≥ (((leg v1 x1).2.1).Lo))) && (decide (x8 ≤ (((leg v1 x1).2.1).Hi)))) && true)) rfl rfl (resOK_tmp rfl resOK_nil) rfl (fun mm aa ww hr => ?_)
      have hm := Option.some.inj hm
      subst hm
      exact ⟨rfl, hr.below⟩

end Go.Proofs.T
