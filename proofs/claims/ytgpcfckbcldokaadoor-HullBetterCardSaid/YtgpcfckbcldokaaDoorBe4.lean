/-
  This file has contracts of functions of the program: where the mirror gives a value, the call returns it. Conditions: those that each theorem names.
-/
import Derived.Test.YtgpcfckbcldokaaDoorBe3
set_option linter.unusedVariables false
namespace Go.Proofs.T
open Go Go.AX Go.RowKit Hull
theorem sz_23 : sizeIn Tryd.prog 23 = some 1 := by kernel_rfl
theorem af_23 : appFact Tryd.prog 23 = some (84, 2, 16) := by kernel_rfl

def m15 (F : Nat) (a0 : List Int) : Option (Ship) :=
 chk (InR (1 + (dv a0 0 6))) (chk (InR (390 * (dv a0 1 256))) (chk (InR (100 + (390 * (dv a0 1 256)))) (chk (InR (7 * (dv a0 2 256))) (chk (InR (10 + (7 * (dv a0 2 256)))) (chk (InR (1900 * (dv a0 3 256))) (chk (InR (10 + (1900 * (dv a0 3 256)))) (chk (InR (2 * (dv a0 6 240))) (chk (InR (4 * (dv a0 7 256))) (chk (InR (20 * (dv a0 8 256))) (chk (InR (200 + (20 * (dv a0 8 256)))) (join (fun (x1 : List Pt × Nat) => join (fun (x3 : List Pt × Nat) => join (fun (x5 : Int × List Pt × Nat) => chk (InR (4 * (dv a0 x5.2.2 256))) (chk (InR (x5.1 + (4 * (dv a0 x5.2.2 256)))) (chk (x5.2.1.length ≤ 1000000) (some ((⟨1 + (dv a0 0 6), 100 + (390 * (dv a0 1 256)), 10 + (7 * (dv a0 2 256)), 10 + (1900 * (dv a0 3 256)), x1.1, x3.1, (x5.2.1 ++ [(⟨400, x5.1 + (4 * (dv a0 x5.2.2 256))⟩ : Pt)]), dv a0 4 21, dv a0 5 101, 2 * (dv a0 6 240), 4 * (dv a0 7 256)⟩ : Ship)))))) (fun k5 => loopC (fun (x6 : Int × Int × Int × List Pt × Nat) n6 => brk (decide (x6.2.2.1 < (dv a0 x3.2 4))) (chk (InR (x6.1 + 1)) (chk (InR ((x6.1 + 1) + (dv a0 x6.2.2.2.2 90))) (chk (InR (3 * (dv a0 ((x6.2.2.2.2 + 1)) 256))) (chk (InR (x6.2.1 + (3 * (dv a0 ((x6.2.2.2.2 + 1)) 256)))) (chk (x6.2.2.2.1.length ≤ 1000000) (chk (InR (x6.2.2.1 + 1)) (n6 ((x6.1 + 1) + (dv a0 x6.2.2.2.2 90), x6.2.1 + (3 * (dv a0 ((x6.2.2.2.2 + 1)) 256)), x6.2.2.1 + 1, (x6.2.2.2.1 ++ [(⟨(x6.1 + 1) + (dv a0 x6.2.2.2.2 90), x6.2.1 + (3 * (dv a0 ((x6.2.2.2.2 + 1)) 256))⟩ : Pt)]), ((x6.2.2.2.2 + 1) + 1))))))))) (k5 (x6.2.1, x6.2.2.2.1, x6.2.2.2.2))) F (0, 0, 0, [(⟨0, 0⟩ : Pt)], (x3.2 + 1)))) (fun k3 => chk (InR (1 + (dv a0 ((x1.2 + 1)) 3))) (loopC (fun (x4 : Int × Int × Int × List Pt × Nat) n4 => brk (decide (x4.2.2.1 < (1 + (dv a0 ((x1.2 + 1)) 3)))) (chk (InR (x4.1 + 1)) (chk (InR ((x4.1 + 1) + (dv a0 x4.2.2.2.2 80))) (chk (InR (3 * (dv a0 ((x4.2.2.2.2 + 1)) 256))) (chk (InR (x4.2.1 + (3 * (dv a0 ((x4.2.2.2.2 + 1)) 256)))) (chk (x4.2.2.2.1.length ≤ 1000000) (chk (InR (x4.2.2.1 + 1)) (n4 ((x4.1 + 1) + (dv a0 x4.2.2.2.2 80), x4.2.1 + (3 * (dv a0 ((x4.2.2.2.2 + 1)) 256)), x4.2.2.1 + 1, (x4.2.2.2.1 ++ [(⟨(x4.1 + 1) + (dv a0 x4.2.2.2.2 80), x4.2.1 + (3 * (dv a0 ((x4.2.2.2.2 + 1)) 256))⟩ : Pt)]), ((x4.2.2.2.2 + 1) + 1))))))))) (k3 (x4.2.2.2.1, x4.2.2.2.2))) F (0, dv a0 x1.2 50, 0, [(⟨0, dv a0 x1.2 50⟩ : Pt)], ((x1.2 + 1) + 1))))) (fun k1 => chk (InR (1 + (dv a0 9 4))) (loopC (fun (x2 : Int × Int × Int × List Pt × Nat) n2 => brk (decide (x2.2.2.1 < (1 + (dv a0 9 4)))) (chk (InR (x2.1 + 10)) (chk (InR ((x2.1 + 10) + (dv a0 x2.2.2.2.2 40))) (chk (InR (x2.2.1 * (dv a0 ((x2.2.2.2.2 + 1)) 101))) (chk (0 ≤ (x2.2.1 * (dv a0 ((x2.2.2.2.2 + 1)) 101)) ∧ (x2.2.1 * (dv a0 ((x2.2.2.2.2 + 1)) 101)) ≤ 9223372036854775807) (chk (x2.2.2.2.1.length ≤ 1000000) (chk (InR (x2.2.2.1 + 1)) (n2 ((x2.1 + 10) + (dv a0 x2.2.2.2.2 40), (x2.2.1 * (dv a0 ((x2.2.2.2.2 + 1)) 101)) / 100, x2.2.2.1 + 1, (x2.2.2.2.1 ++ [(⟨(x2.1 + 10) + (dv a0 x2.2.2.2.2 40), (x2.2.1 * (dv a0 ((x2.2.2.2.2 + 1)) 101)) / 100⟩ : Pt)]), ((x2.2.2.2.2 + 1) + 1))))))))) (k1 (x2.2.2.2.1, x2.2.2.2.2))) F (0, 200 + (20 * (dv a0 8 256)), 0, [(⟨0, 200 + (20 * (dv a0 8 256))⟩ : Pt)], 10))))))))))))))

set_option maxHeartbeats 4000000 in
set_option maxRecDepth 8000 in
theorem c15 (F : Nat) (a0 : List Int) (a0_s : SlV) (w : World) (ha0 : SlIs encU8 1 w a0_s a0) (h8a0 : ∀ x ∈ a0, 0 ≤ x ∧ x ≤ 255) (hlena0 : a0.length ≤ 9223372036854775807) (r : Ship) (hm : m15 F a0 = some r) : Calls Tryd.prog 15 #[.slice a0_s.p a0_s.n a0_s.c] w fun e w' => ∃ sl : List SlV, e = .returned ((fun vs => .agg #[.int .i64 r.Class, .int .i64 r.Power, .int .i64 r.Draught, .int .i64 r.Tonnes, (vs.getD 0 (.bool false)), (vs.getD 1 (.bool false)), (vs.getD 2 (.bool false)), .int .i64 r.Slow, .int .i64 r.Brash, .int .i64 r.Ridge, .int .i64 r.Press]) (sl.map SlV.val)) ∧ NewRowsD w w' sl [(r.Thrust.length, 84, 2, r.Thrust.flatMap encPt), (r.Water.length, 84, 2, r.Water.flatMap encPt), (r.Ice.length, 84, 2, r.Ice.flatMap encPt)] ∧ Below w.heap.size w w' := by
 obtain ⟨a0_p, a0_n, a0_c⟩ := a0_s
 have ha0_l : a0_n = a0.length := ha0.1
 subst ha0_l
 obtain ⟨a0_b, a0_o, ha0_p, ha0_L⟩ := SlAt.lies' ha0
 unfold m15 at hm
 refine enter (args := [.v (.slice a0_p a0.length a0_c)]) Tryd.func15 rfl (N := 135) rfl (Nat.le_of_ble_eq_true rfl) ?_
 refine aw_seq ?_
 refine aw_text (rows := [_]) rfl (by kernel_rfl) ⟨
  ok_plain rfl rfl (op_alloc (L := 1) (ltN rfl) zl_25),
  trivial⟩ ?_
 refine fin_keep (s' := [kt 0 (.v (.slice a0_p a0.length a0_c)), kt 2 (.p 1 0), kb 1 25 11, kc 1 0 (.i 0), kc 1 1 (.i 0), kc 1 2 (.i 0), kc 1 3 (.i 0), kc 1 4 (.v (.slice none 0 0)), kc 1 5 (.v (.slice none 0 0)), kc 1 6 (.v (.slice none 0 0)), kc 1 7 (.i 0), kc 1 8 (.i 0), kc 1 9 (.i 0), kc 1 10 (.i 0)]) ?_ (kp rfl) rfl
 refine fin_then ?_
 refine aw_seq ?_
 refine aw_text (rows := [_, _, _]) rfl (by kernel_rfl) ⟨
  ok_plain rfl rfl (op_move (ltN rfl) rfl),
  ok_plain rfl rfl (op_callTwo (L1 := 2) (L2 := 3) (ty1 := 3) (ty2 := 22) (v1 := [.int .i64 (idx a0 0)]) (v2 := [(.slice a0_p a0.length a0_c)]) (R := fun b1 b2 => .func (.func 83) #[] #[.pointer (some ⟨b1, 0, none⟩), .pointer (some ⟨b2, 0, none⟩)]) (x := .f (.func 83) [] [.p 2 0, .p 3 0]) (fs := []) (caps := []) (extra := []) (ltN rfl) en_22 rfl ⟨rfl, rfl, rfl⟩ (EvL.cons rfl EvL.nil) (by decide) (fun _ => rfl) (fun mm aa ww gg hr hrel => (c22 a0 ⟨a0_p, a0.length, a0_c⟩ ww (SlIs.mono ha0 hrel.below)))),
  ok_plain rfl rfl (op_assign (ltN rfl) rfl),
  trivial⟩ ?_
 refine fin_keep (s' := [kt 2 (.p 1 0), kt 3 (.f (.func 83) [] [.p 2 0, .p 3 0]), kb 1 25 11, kb 2 3 1, kb 3 22 1, kc 1 0 (.i 0), kc 1 1 (.i 0), kc 1 2 (.i 0), kc 1 3 (.i 0), kc 1 4 (.v (.slice none 0 0)), kc 1 5 (.v (.slice none 0 0)), kc 1 6 (.v (.slice none 0 0)), kc 1 7 (.i 0), kc 1 8 (.i 0), kc 1 9 (.i 0), kc 1 10 (.i 0), kc 2 0 (.i (idx a0 0)), kc 3 0 (.v (.slice a0_p a0.length a0_c))]) ?_ (kp rfl) rfl
 refine fin_then ?_
 refine aw_seq ?_
 obtain ⟨hp1, hm⟩ := chk_some hm
 obtain ⟨hp2, hm⟩ := chk_some hm
 obtain ⟨hp3, hm⟩ := chk_some hm
 obtain ⟨hp4, hm⟩ := chk_some hm
 obtain ⟨hp5, hm⟩ := chk_some hm
 obtain ⟨hp6, hm⟩ := chk_some hm
 obtain ⟨hp7, hm⟩ := chk_some hm
 obtain ⟨hp8, hm⟩ := chk_some hm
 obtain ⟨hp9, hm⟩ := chk_some hm
 refine aw_text (rows := [_, _, _, _, _, _, _, _, _, _, _, _, _, _, _, _, _, _, _, _, _, _, _, _, _, _, _, _]) rfl (by kernel_rfl) ⟨
  ok_plain rfl rfl (op_move (ltN rfl) rfl),
  ok_plain rfl rfl (op_callLentL (ls := [⟨2, 3, [.i (idx a0 0)], [.i (idx a0 1)]⟩, ⟨3, 22, [.v (.slice a0_p a0.length a0_c)], [.v (.slice a0_p a0.length a0_c)]⟩]) (x := .i (dv a0 0 6)) (fs := []) (caps := [.p 2 0, .p 3 0]) (extra := []) (ltN rfl) en_83 rfl ⟨rfl, rfl, rfl⟩ (EvL.cons rfl EvL.nil) ⟨rfl, ⟨rfl, trivial⟩, rfl, lb_ne rfl, ⟨rfl, ⟨rfl, trivial⟩, rfl, lb_ne rfl, trivial⟩⟩ (fun mm aa ww gg hr hrel hbx hlo => c83L 6 0 (mm 2) a0 ⟨a0_p, a0.length, a0_c⟩ (mm 3) ww (hbx _ (.head _)) (hbx _ (.tail _ (.head _))) (SlIs.mono ha0 hrel.below) (sl_ne ha0 (box_hi hrel hlo.1)) (box_ne hrel hlo.2.2.2.2.1 hlo.1 (by decide)) (by decide) h8a0 hlena0)),
  ok_plain rfl rfl (op_bin (ltN rfl) rfl rfl (nw_add hp1)),
  ok_plain rfl rfl (op_move (ltN rfl) rfl),
  ok_plain rfl rfl (op_callLentL (ls := [⟨2, 3, [.i (idx a0 1)], [.i (idx a0 2)]⟩, ⟨3, 22, [.v (.slice a0_p a0.length a0_c)], [.v (.slice a0_p a0.length a0_c)]⟩]) (x := .i (dv a0 1 256)) (fs := []) (caps := [.p 2 0, .p 3 0]) (extra := []) (ltN rfl) en_83 rfl ⟨rfl, rfl, rfl⟩ (EvL.cons rfl EvL.nil) ⟨rfl, ⟨rfl, trivial⟩, rfl, lb_ne rfl, ⟨rfl, ⟨rfl, trivial⟩, rfl, lb_ne rfl, trivial⟩⟩ (fun mm aa ww gg hr hrel hbx hlo => c83L 256 1 (mm 2) a0 ⟨a0_p, a0.length, a0_c⟩ (mm 3) ww (hbx _ (.head _)) (hbx _ (.tail _ (.head _))) (SlIs.mono ha0 hrel.below) (sl_ne ha0 (box_hi hrel hlo.1)) (box_ne hrel hlo.2.2.2.2.1 hlo.1 (by decide)) (by decide) h8a0 hlena0)),
  ok_plain rfl rfl (op_bin (ltN rfl) rfl rfl (nw_mul hp2)),
  ok_plain rfl rfl (op_bin (ltN rfl) rfl rfl (nw_add hp3)),
  ok_plain rfl rfl (op_move (ltN rfl) rfl),
  ok_plain rfl rfl (op_callLentL (ls := [⟨2, 3, [.i (idx a0 2)], [.i (idx a0 3)]⟩, ⟨3, 22, [.v (.slice a0_p a0.length a0_c)], [.v (.slice a0_p a0.length a0_c)]⟩]) (x := .i (dv a0 2 256)) (fs := []) (caps := [.p 2 0, .p 3 0]) (extra := []) (ltN rfl) en_83 rfl ⟨rfl, rfl, rfl⟩ (EvL.cons rfl EvL.nil) ⟨rfl, ⟨rfl, trivial⟩, rfl, lb_ne rfl, ⟨rfl, ⟨rfl, trivial⟩, rfl, lb_ne rfl, trivial⟩⟩ (fun mm aa ww gg hr hrel hbx hlo => c83L 256 2 (mm 2) a0 ⟨a0_p, a0.length, a0_c⟩ (mm 3) ww (hbx _ (.head _)) (hbx _ (.tail _ (.head _))) (SlIs.mono ha0 hrel.below) (sl_ne ha0 (box_hi hrel hlo.1)) (box_ne hrel hlo.2.2.2.2.1 hlo.1 (by decide)) (by decide) h8a0 hlena0)),
  ok_plain rfl rfl (op_bin (ltN rfl) rfl rfl (nw_mul hp4)),
  ok_plain rfl rfl (op_bin (ltN rfl) rfl rfl (nw_add hp5)),
  ok_plain rfl rfl (op_move (ltN rfl) rfl),
  ok_plain rfl rfl (op_callLentL (ls := [⟨2, 3, [.i (idx a0 3)], [.i (idx a0 4)]⟩, ⟨3, 22, [.v (.slice a0_p a0.length a0_c)], [.v (.slice a0_p a0.length a0_c)]⟩]) (x := .i (dv a0 3 256)) (fs := []) (caps := [.p 2 0, .p 3 0]) (extra := []) (ltN rfl) en_83 rfl ⟨rfl, rfl, rfl⟩ (EvL.cons rfl EvL.nil) ⟨rfl, ⟨rfl, trivial⟩, rfl, lb_ne rfl, ⟨rfl, ⟨rfl, trivial⟩, rfl, lb_ne rfl, trivial⟩⟩ (fun mm aa ww gg hr hrel hbx hlo => c83L 256 3 (mm 2) a0 ⟨a0_p, a0.length, a0_c⟩ (mm 3) ww (hbx _ (.head _)) (hbx _ (.tail _ (.head _))) (SlIs.mono ha0 hrel.below) (sl_ne ha0 (box_hi hrel hlo.1)) (box_ne hrel hlo.2.2.2.2.1 hlo.1 (by decide)) (by decide) h8a0 hlena0)),
  ok_plain rfl rfl (op_bin (ltN rfl) rfl rfl (nw_mul hp6)),
  ok_plain rfl rfl (op_bin (ltN rfl) rfl rfl (nw_add hp7)),
  ok_plain rfl rfl (op_move (ltN rfl) rfl),
  ok_plain rfl rfl (op_callLentL (ls := [⟨2, 3, [.i (idx a0 4)], [.i (idx a0 5)]⟩, ⟨3, 22, [.v (.slice a0_p a0.length a0_c)], [.v (.slice a0_p a0.length a0_c)]⟩]) (x := .i (dv a0 4 21)) (fs := []) (caps := [.p 2 0, .p 3 0]) (extra := []) (ltN rfl) en_83 rfl ⟨rfl, rfl, rfl⟩ (EvL.cons rfl EvL.nil) ⟨rfl, ⟨rfl, trivial⟩, rfl, lb_ne rfl, ⟨rfl, ⟨rfl, trivial⟩, rfl, lb_ne rfl, trivial⟩⟩ (fun mm aa ww gg hr hrel hbx hlo => c83L 21 4 (mm 2) a0 ⟨a0_p, a0.length, a0_c⟩ (mm 3) ww (hbx _ (.head _)) (hbx _ (.tail _ (.head _))) (SlIs.mono ha0 hrel.below) (sl_ne ha0 (box_hi hrel hlo.1)) (box_ne hrel hlo.2.2.2.2.1 hlo.1 (by decide)) (by decide) h8a0 hlena0)),
  ok_plain rfl rfl (op_move (ltN rfl) rfl),
  ok_plain rfl rfl (op_callLentL (ls := [⟨2, 3, [.i (idx a0 5)], [.i (idx a0 6)]⟩, ⟨3, 22, [.v (.slice a0_p a0.length a0_c)], [.v (.slice a0_p a0.length a0_c)]⟩]) (x := .i (dv a0 5 101)) (fs := []) (caps := [.p 2 0, .p 3 0]) (extra := []) (ltN rfl) en_83 rfl ⟨rfl, rfl, rfl⟩ (EvL.cons rfl EvL.nil) ⟨rfl, ⟨rfl, trivial⟩, rfl, lb_ne rfl, ⟨rfl, ⟨rfl, trivial⟩, rfl, lb_ne rfl, trivial⟩⟩ (fun mm aa ww gg hr hrel hbx hlo => c83L 101 5 (mm 2) a0 ⟨a0_p, a0.length, a0_c⟩ (mm 3) ww (hbx _ (.head _)) (hbx _ (.tail _ (.head _))) (SlIs.mono ha0 hrel.below) (sl_ne ha0 (box_hi hrel hlo.1)) (box_ne hrel hlo.2.2.2.2.1 hlo.1 (by decide)) (by decide) h8a0 hlena0)),
  ok_plain rfl rfl (op_move (ltN rfl) rfl),
  ok_plain rfl rfl (op_callLentL (ls := [⟨2, 3, [.i (idx a0 6)], [.i (idx a0 7)]⟩, ⟨3, 22, [.v (.slice a0_p a0.length a0_c)], [.v (.slice a0_p a0.length a0_c)]⟩]) (x := .i (dv a0 6 240)) (fs := []) (caps := [.p 2 0, .p 3 0]) (extra := []) (ltN rfl) en_83 rfl ⟨rfl, rfl, rfl⟩ (EvL.cons rfl EvL.nil) ⟨rfl, ⟨rfl, trivial⟩, rfl, lb_ne rfl, ⟨rfl, ⟨rfl, trivial⟩, rfl, lb_ne rfl, trivial⟩⟩ (fun mm aa ww gg hr hrel hbx hlo => c83L 240 6 (mm 2) a0 ⟨a0_p, a0.length, a0_c⟩ (mm 3) ww (hbx _ (.head _)) (hbx _ (.tail _ (.head _))) (SlIs.mono ha0 hrel.below) (sl_ne ha0 (box_hi hrel hlo.1)) (box_ne hrel hlo.2.2.2.2.1 hlo.1 (by decide)) (by decide) h8a0 hlena0)),
  ok_plain rfl rfl (op_bin (ltN rfl) rfl rfl (nw_mul hp8)),
  ok_plain rfl rfl (op_move (ltN rfl) rfl),
  ok_plain rfl rfl (op_callLentL (ls := [⟨2, 3, [.i (idx a0 7)], [.i (idx a0 8)]⟩, ⟨3, 22, [.v (.slice a0_p a0.length a0_c)], [.v (.slice a0_p a0.length a0_c)]⟩]) (x := .i (dv a0 7 256)) (fs := []) (caps := [.p 2 0, .p 3 0]) (extra := []) (ltN rfl) en_83 rfl ⟨rfl, rfl, rfl⟩ (EvL.cons rfl EvL.nil) ⟨rfl, ⟨rfl, trivial⟩, rfl, lb_ne rfl, ⟨rfl, ⟨rfl, trivial⟩, rfl, lb_ne rfl, trivial⟩⟩ (fun mm aa ww gg hr hrel hbx hlo => c83L 256 7 (mm 2) a0 ⟨a0_p, a0.length, a0_c⟩ (mm 3) ww (hbx _ (.head _)) (hbx _ (.tail _ (.head _))) (SlIs.mono ha0 hrel.below) (sl_ne ha0 (box_hi hrel hlo.1)) (box_ne hrel hlo.2.2.2.2.1 hlo.1 (by decide)) (by decide) h8a0 hlena0)),
  ok_plain rfl rfl (op_bin (ltN rfl) rfl rfl (nw_mul hp9)),
  ok_plain rfl rfl (op_build (x := .g [.i (1 + (dv a0 0 6)), .i (100 + (390 * (dv a0 1 256))), .i (10 + (7 * (dv a0 2 256))), .i (10 + (1900 * (dv a0 3 256))), .v (.slice none 0 0), .v (.slice none 0 0), .v (.slice none 0 0), .i (dv a0 4 21), .i (dv a0 5 101), .i (2 * (dv a0 6 240)), .i (4 * (dv a0 7 256))]) (ltN rfl) (EvL.cons rfl (EvL.cons rfl (EvL.cons rfl (EvL.cons rfl (EvL.cons rfl (EvL.cons rfl (EvL.cons rfl (EvL.cons rfl EvL.nil)))))))) (fun m w => by kernel_rfl)),
  ok_plain rfl rfl (op_alloc (L := 4) (ltN rfl) zl_25),
  ok_plain rfl rfl (op_storeN sz_25 rfl rfl rfl rfl rfl (by decide)),
  trivial⟩ ?_
 refine fin_keep (s' := [kt 2 (.p 1 0), kt 3 (.f (.func 83) [] [.p 2 0, .p 3 0]), kt 4 (.p 4 0), kb 1 25 11, kb 2 3 1, kb 3 22 1, kb 4 25 11, kc 1 0 (.i 0), kc 1 1 (.i 0), kc 1 2 (.i 0), kc 1 3 (.i 0), kc 1 4 (.v (.slice none 0 0)), kc 1 5 (.v (.slice none 0 0)), kc 1 6 (.v (.slice none 0 0)), kc 1 7 (.i 0), kc 1 8 (.i 0), kc 1 9 (.i 0), kc 1 10 (.i 0), kc 2 0 (.i (idx a0 8)), kc 3 0 (.v (.slice a0_p a0.length a0_c)), kc 4 0 (.i (1 + (dv a0 0 6))), kc 4 1 (.i (100 + (390 * (dv a0 1 256)))), kc 4 2 (.i (10 + (7 * (dv a0 2 256)))), kc 4 3 (.i (10 + (1900 * (dv a0 3 256)))), kc 4 4 (.v (.slice none 0 0)), kc 4 5 (.v (.slice none 0 0)), kc 4 6 (.v (.slice none 0 0)), kc 4 7 (.i (dv a0 4 21)), kc 4 8 (.i (dv a0 5 101)), kc 4 9 (.i (2 * (dv a0 6 240))), kc 4 10 (.i (4 * (dv a0 7 256)))]) ?_ (kp rfl) rfl
 refine fin_then ?_
 refine aw_seq ?_
 obtain ⟨hp10, hm⟩ := chk_some hm
 obtain ⟨hp11, hm⟩ := chk_some hm
 refine aw_text (rows := [_, _, _, _, _, _]) rfl (by kernel_rfl) ⟨
  ok_plain rfl rfl (op_move (ltN rfl) rfl),
  ok_plain rfl rfl (op_callLentL (ls := [⟨2, 3, [.i (idx a0 8)], [.i (idx a0 9)]⟩, ⟨3, 22, [.v (.slice a0_p a0.length a0_c)], [.v (.slice a0_p a0.length a0_c)]⟩]) (x := .i (dv a0 8 256)) (fs := []) (caps := [.p 2 0, .p 3 0]) (extra := []) (ltN rfl) en_83 rfl ⟨rfl, rfl, rfl⟩ (EvL.cons rfl EvL.nil) ⟨rfl, ⟨rfl, trivial⟩, rfl, lb_ne rfl, ⟨rfl, ⟨rfl, trivial⟩, rfl, lb_ne rfl, trivial⟩⟩ (fun mm aa ww gg hr hrel hbx hlo => c83L 256 8 (mm 2) a0 ⟨a0_p, a0.length, a0_c⟩ (mm 3) ww (hbx _ (.head _)) (hbx _ (.tail _ (.head _))) (SlIs.mono ha0 hrel.below) (sl_ne ha0 (box_hi hrel hlo.1)) (box_ne hrel hlo.2.2.2.2.1 hlo.1 (by decide)) (by decide) h8a0 hlena0)),
  ok_plain rfl rfl (op_bin (ltN rfl) rfl rfl (nw_mul hp10)),
  ok_plain rfl rfl (op_bin (ltN rfl) rfl rfl (nw_add hp11)),
  ok_plain rfl rfl (op_assign (ltN rfl) rfl),
  ok_plain rfl rfl (op_assign (ltN rfl) rfl),
  trivial⟩ ?_
 refine fin_keep (s' := [kt 2 (.p 1 0), kt 3 (.f (.func 83) [] [.p 2 0, .p 3 0]), kt 4 (.p 4 0), kt 5 (.i 0), kt 6 (.i (200 + (20 * (dv a0 8 256)))), kb 1 25 11, kb 2 3 1, kb 3 22 1, kb 4 25 11, kc 1 0 (.i 0), kc 1 1 (.i 0), kc 1 2 (.i 0), kc 1 3 (.i 0), kc 1 4 (.v (.slice none 0 0)), kc 1 5 (.v (.slice none 0 0)), kc 1 6 (.v (.slice none 0 0)), kc 1 7 (.i 0), kc 1 8 (.i 0), kc 1 9 (.i 0), kc 1 10 (.i 0), kc 2 0 (.i (idx a0 9)), kc 3 0 (.v (.slice a0_p a0.length a0_c)), kc 4 0 (.i (1 + (dv a0 0 6))), kc 4 1 (.i (100 + (390 * (dv a0 1 256)))), kc 4 2 (.i (10 + (7 * (dv a0 2 256)))), kc 4 3 (.i (10 + (1900 * (dv a0 3 256)))), kc 4 4 (.v (.slice none 0 0)), kc 4 5 (.v (.slice none 0 0)), kc 4 6 (.v (.slice none 0 0)), kc 4 7 (.i (dv a0 4 21)), kc 4 8 (.i (dv a0 5 101)), kc 4 9 (.i (2 * (dv a0 6 240))), kc 4 10 (.i (4 * (dv a0 7 256)))]) ?_ (kp rfl) rfl
 refine fin_then ?_
 refine aw_seq ?_
 refine aw_text (rows := [_, _, _, _, _]) rfl (by kernel_rfl) ⟨
  ok_plain rfl rfl (op_move (ltN rfl) rfl),
  ok_plain rfl rfl (op_build (x := .g [.i 0, .i (200 + (20 * (dv a0 8 256)))]) (ltN rfl) (EvL.cons rfl (EvL.cons rfl EvL.nil)) (fun m w => by kernel_rfl)),
  ok_plain rfl rfl (op_buildSlice (L := 5) (ety := 84) (cs := [.i 0, .i (200 + (20 * (dv a0 8 256)))]) (ltN rfl) (EvL.cons rfl EvL.nil) rfl (fun m w => by kernel_rfl)),
  ok_plain rfl rfl (op_fieldAddr (ltN rfl) rfl fo_25_4),
  ok_plain rfl rfl (op_store1 sz_23 rfl rfl rfl rfl (ltN rfl)),
  trivial⟩ ?_
 refine fin_keep (s' := [kt 2 (.p 1 0), kt 3 (.f (.func 83) [] [.p 2 0, .p 3 0]), kt 4 (.p 4 0), kt 5 (.i 0), kt 6 (.i (200 + (20 * (dv a0 8 256)))), kb 1 25 11, kb 2 3 1, kb 3 22 1, kb 4 25 11, kb 5 84 2, kc 1 0 (.i 0), kc 1 1 (.i 0), kc 1 2 (.i 0), kc 1 3 (.i 0), kc 1 4 (.v (.slice none 0 0)), kc 1 5 (.v (.slice none 0 0)), kc 1 6 (.v (.slice none 0 0)), kc 1 7 (.i 0), kc 1 8 (.i 0), kc 1 9 (.i 0), kc 1 10 (.i 0), kc 2 0 (.i (idx a0 9)), kc 3 0 (.v (.slice a0_p a0.length a0_c)), kc 4 0 (.i (1 + (dv a0 0 6))), kc 4 1 (.i (100 + (390 * (dv a0 1 256)))), kc 4 2 (.i (10 + (7 * (dv a0 2 256)))), kc 4 3 (.i (10 + (1900 * (dv a0 3 256)))), kc 4 4 (.s 5 0 1 1), kc 4 5 (.v (.slice none 0 0)), kc 4 6 (.v (.slice none 0 0)), kc 4 7 (.i (dv a0 4 21)), kc 4 8 (.i (dv a0 5 101)), kc 4 9 (.i (2 * (dv a0 6 240))), kc 4 10 (.i (4 * (dv a0 7 256))), kc 5 0 (.i 0), kc 5 1 (.i (200 + (20 * (dv a0 8 256))))]) ?_ (kp rfl) rfl
 refine fin_then ?_
 refine aw_cutM (ι := List Pt × Nat) hm (fun x1 => [kt 2 (.p 1 0), kt 3 (.f (.func 83) [] [.p 2 0, .p 3 0]), kt 4 (.p 4 0), kb 1 25 11, kb 2 3 1, kb 3 22 1, kb 4 25 11, (.r 300, some (.vec true 301 84 2 (x1.1.flatMap encPt))), kc 1 0 (.i 0), kc 1 1 (.i 0), kc 1 2 (.i 0), kc 1 3 (.i 0), kc 1 4 (.v (.slice none 0 0)), kc 1 5 (.v (.slice none 0 0)), kc 1 6 (.v (.slice none 0 0)), kc 1 7 (.i 0), kc 1 8 (.i 0), kc 1 9 (.i 0), kc 1 10 (.i 0), kc 2 0 (.i (idx a0 x1.2)), kc 3 0 (.v (.slice a0_p a0.length a0_c)), kc 4 0 (.i (1 + (dv a0 0 6))), kc 4 1 (.i (100 + (390 * (dv a0 1 256)))), kc 4 2 (.i (10 + (7 * (dv a0 2 256)))), kc 4 3 (.i (10 + (1900 * (dv a0 3 256)))), kc 4 4 (.o 300 301 x1.1.length), kc 4 5 (.v (.slice none 0 0)), kc 4 6 (.v (.slice none 0 0)), kc 4 7 (.i (dv a0 4 21)), kc 4 8 (.i (dv a0 5 101)), kc 4 9 (.i (2 * (dv a0 6 240))), kc 4 10 (.i (4 * (dv a0 7 256)))]) (fun hm => ?_) (fun x1 hm => ?_)
 ·have _z := hm
  refine aw_seq ?_
  obtain ⟨hp12, hm⟩ := chk_some hm
  refine aw_text (rows := [_, _, _, _]) rfl (by kernel_rfl) ⟨
   ok_plain rfl rfl (op_move (ltN rfl) rfl),
   ok_plain rfl rfl (op_callLentL (ls := [⟨2, 3, [.i (idx a0 9)], [.i (idx a0 10)]⟩, ⟨3, 22, [.v (.slice a0_p a0.length a0_c)], [.v (.slice a0_p a0.length a0_c)]⟩]) (x := .i (dv a0 9 4)) (fs := []) (caps := [.p 2 0, .p 3 0]) (extra := []) (ltN rfl) en_83 rfl ⟨rfl, rfl, rfl⟩ (EvL.cons rfl EvL.nil) ⟨rfl, ⟨rfl, trivial⟩, rfl, lb_ne rfl, ⟨rfl, ⟨rfl, trivial⟩, rfl, lb_ne rfl, trivial⟩⟩ (fun mm aa ww gg hr hrel hbx hlo => c83L 4 9 (mm 2) a0 ⟨a0_p, a0.length, a0_c⟩ (mm 3) ww (hbx _ (.head _)) (hbx _ (.tail _ (.head _))) (SlIs.mono ha0 hrel.below) (sl_ne ha0 (box_hi hrel hlo.1)) (box_ne hrel hlo.2.2.2.2.1 hlo.1 (by decide)) (by decide) h8a0 hlena0)),
   ok_plain rfl rfl (op_bin (ltN rfl) rfl rfl (nw_add hp12)),
   ok_plain rfl rfl (op_move (ltN rfl) rfl),
   trivial⟩ ?_
  refine fin_keep (s' := [kt 2 (.p 1 0), kt 3 (.f (.func 83) [] [.p 2 0, .p 3 0]), kt 4 (.p 4 0), kt 5 (.i 0), kt 6 (.i (200 + (20 * (dv a0 8 256)))), kt 45 (.i (1 + (dv a0 9 4))), kt 46 (.i 0), kb 1 25 11, kb 2 3 1, kb 3 22 1, kb 4 25 11, kb 5 84 2, kc 1 0 (.i 0), kc 1 1 (.i 0), kc 1 2 (.i 0), kc 1 3 (.i 0), kc 1 4 (.v (.slice none 0 0)), kc 1 5 (.v (.slice none 0 0)), kc 1 6 (.v (.slice none 0 0)), kc 1 7 (.i 0), kc 1 8 (.i 0), kc 1 9 (.i 0), kc 1 10 (.i 0), kc 2 0 (.i (idx a0 10)), kc 3 0 (.v (.slice a0_p a0.length a0_c)), kc 4 0 (.i (1 + (dv a0 0 6))), kc 4 1 (.i (100 + (390 * (dv a0 1 256)))), kc 4 2 (.i (10 + (7 * (dv a0 2 256)))), kc 4 3 (.i (10 + (1900 * (dv a0 3 256)))), kc 4 4 (.s 5 0 1 1), kc 4 5 (.v (.slice none 0 0)), kc 4 6 (.v (.slice none 0 0)), kc 4 7 (.i (dv a0 4 21)), kc 4 8 (.i (dv a0 5 101)), kc 4 9 (.i (2 * (dv a0 6 240))), kc 4 10 (.i (4 * (dv a0 7 256))), kc 5 0 (.i 0), kc 5 1 (.i (200 + (20 * (dv a0 8 256))))]) ?_ (kp rfl) rfl
  refine fin_then ?_
  refine aw_block ?_
  refine aw_toRow (.c 4 4) 5 6 1 2 [(.int .i64 0), (.int .i64 (200 + (20 * (dv a0 8 256))))] rfl rfl rfl rfl (by decide) ⟨rfl, rfl, trivial⟩ rfl (by decide) rfl ?_
  refine aw_swp [(5, 300), (6, 301)] rfl ?_
  refine aw_loopC hm (fun x2 => [kt 2 (.p 1 0), kt 3 (.f (.func 83) [] [.p 2 0, .p 3 0]), kt 4 (.p 4 0), kt 5 (.i x2.1), kt 6 (.i x2.2.1), kt 45 (.i (1 + (dv a0 9 4))), kt 46 (.i x2.2.2.1), kb 1 25 11, kb 2 3 1, kb 3 22 1, kb 4 25 11, (.r 300, some (.vec true 301 84 2 (x2.2.2.2.1.flatMap encPt))), kc 1 0 (.i 0), kc 1 1 (.i 0), kc 1 2 (.i 0), kc 1 3 (.i 0), kc 1 4 (.v (.slice none 0 0)), kc 1 5 (.v (.slice none 0 0)), kc 1 6 (.v (.slice none 0 0)), kc 1 7 (.i 0), kc 1 8 (.i 0), kc 1 9 (.i 0), kc 1 10 (.i 0), kc 2 0 (.i (idx a0 x2.2.2.2.2)), kc 3 0 (.v (.slice a0_p a0.length a0_c)), kc 4 0 (.i (1 + (dv a0 0 6))), kc 4 1 (.i (100 + (390 * (dv a0 1 256)))), kc 4 2 (.i (10 + (7 * (dv a0 2 256)))), kc 4 3 (.i (10 + (1900 * (dv a0 3 256)))), kc 4 4 (.o 300 301 x2.2.2.2.1.length), kc 4 5 (.v (.slice none 0 0)), kc 4 6 (.v (.slice none 0 0)), kc 4 7 (.i (dv a0 4 21)), kc 4 8 (.i (dv a0 5 101)), kc 4 9 (.i (2 * (dv a0 6 240))), kc 4 10 (.i (4 * (dv a0 7 256)))]) ⟨rfl, rfl, rfl, rfl, rfl, rfl, rfl, rfl, rfl, rfl, rfl, rfl, rfl, rfl, rfl, rfl, rfl, rfl, rfl, rfl, rfl, rfl, rfl, rfl, rfl, rfl, rfl, rfl, rfl, rfl, rfl, rfl, rfl, rfl, rfl, rfl, trivial⟩ rfl (fun x2 n2 hm => ?_)
  refine aw_seq ?_
  refine aw_text (rows := [_]) rfl (by kernel_rfl) ⟨
   ok_plain rfl rfl (op_bin (ltN rfl) rfl rfl rfl),
   trivial⟩ ?_
  refine fin_keep (s' := [kt 2 (.p 1 0), kt 3 (.f (.func 83) [] [.p 2 0, .p 3 0]), kt 4 (.p 4 0), kt 5 (.i x2.1), kt 6 (.i x2.2.1), kt 45 (.i (1 + (dv a0 9 4))), kt 46 (.i x2.2.2.1), kt 47 (.B (decide (x2.2.2.1 < (1 + (dv a0 9 4))))), kb 1 25 11, kb 2 3 1, kb 3 22 1, kb 4 25 11, (.r 300, some (.vec true 301 84 2 (x2.2.2.2.1.flatMap encPt))), kc 1 0 (.i 0), kc 1 1 (.i 0), kc 1 2 (.i 0), kc 1 3 (.i 0), kc 1 4 (.v (.slice none 0 0)), kc 1 5 (.v (.slice none 0 0)), kc 1 6 (.v (.slice none 0 0)), kc 1 7 (.i 0), kc 1 8 (.i 0), kc 1 9 (.i 0), kc 1 10 (.i 0), kc 2 0 (.i (idx a0 x2.2.2.2.2)), kc 3 0 (.v (.slice a0_p a0.length a0_c)), kc 4 0 (.i (1 + (dv a0 0 6))), kc 4 1 (.i (100 + (390 * (dv a0 1 256)))), kc 4 2 (.i (10 + (7 * (dv a0 2 256)))), kc 4 3 (.i (10 + (1900 * (dv a0 3 256)))), kc 4 4 (.o 300 301 x2.2.2.2.1.length), kc 4 5 (.v (.slice none 0 0)), kc 4 6 (.v (.slice none 0 0)), kc 4 7 (.i (dv a0 4 21)), kc 4 8 (.i (dv a0 5 101)), kc 4 9 (.i (2 * (dv a0 6 240))), kc 4 10 (.i (4 * (dv a0 7 256)))]) ?_ (kp rfl) rfl
  refine fin_then ?_
  refine aw_seq ?_
  refine aw_cond rfl (fun hz13 => ?_) (fun hz13 => ?_)
  ·have hm := brk_t hz13 hm
   refine aw_skip ?_
   refine fin_then ?_
   refine aw_seq ?_
   refine aw_block ?_
   refine aw_seq ?_
   obtain ⟨hp14, hm⟩ := chk_some hm
   obtain ⟨hp15, hm⟩ := chk_some hm
   obtain ⟨hp16, hm⟩ := chk_some hm
   obtain ⟨hp17, hm⟩ := chk_some hm
   refine aw_text (rows := [_, _, _, _, _, _, _, _, _, _, _, _]) rfl (by kernel_rfl) ⟨
    ok_plain rfl rfl (op_move (ltN rfl) rfl),
    ok_plain rfl rfl (op_bin (ltN rfl) rfl rfl (nw_add hp14)),
    ok_plain rfl rfl (op_move (ltN rfl) rfl),
    ok_plain rfl rfl (op_callLentL (ls := [⟨2, 3, [.i (idx a0 x2.2.2.2.2)], [.i (idx a0 (x2.2.2.2.2 + 1))]⟩, ⟨3, 22, [.v (.slice a0_p a0.length a0_c)], [.v (.slice a0_p a0.length a0_c)]⟩]) (x := .i (dv a0 x2.2.2.2.2 40)) (fs := []) (caps := [.p 2 0, .p 3 0]) (extra := []) (ltN rfl) en_83 rfl ⟨rfl, rfl, rfl⟩ (EvL.cons rfl EvL.nil) ⟨rfl, ⟨rfl, trivial⟩, rfl, lb_ne rfl, ⟨rfl, ⟨rfl, trivial⟩, rfl, lb_ne rfl, trivial⟩⟩ (fun mm aa ww gg hr hrel hbx hlo => c83L 40 x2.2.2.2.2 (mm 2) a0 ⟨a0_p, a0.length, a0_c⟩ (mm 3) ww (hbx _ (.head _)) (hbx _ (.tail _ (.head _))) (SlIs.mono ha0 hrel.below) (sl_ne ha0 (box_hi hrel hlo.1)) (box_ne hrel hlo.2.2.2.2.1 hlo.1 (by decide)) (by decide) h8a0 hlena0)),
    ok_plain rfl rfl (op_bin (ltN rfl) rfl rfl (nw_add hp15)),
    ok_plain rfl rfl (op_move (ltN rfl) rfl),
    ok_plain rfl rfl (op_move (ltN rfl) rfl),
    ok_plain rfl rfl (op_callLentL (ls := [⟨2, 3, [.i (idx a0 (x2.2.2.2.2 + 1))], [.i (idx a0 ((x2.2.2.2.2 + 1) + 1))]⟩, ⟨3, 22, [.v (.slice a0_p a0.length a0_c)], [.v (.slice a0_p a0.length a0_c)]⟩]) (x := .i (dv a0 ((x2.2.2.2.2 + 1)) 101)) (fs := []) (caps := [.p 2 0, .p 3 0]) (extra := []) (ltN rfl) en_83 rfl ⟨rfl, rfl, rfl⟩ (EvL.cons rfl EvL.nil) ⟨rfl, ⟨rfl, trivial⟩, rfl, lb_ne rfl, ⟨rfl, ⟨rfl, trivial⟩, rfl, lb_ne rfl, trivial⟩⟩ (fun mm aa ww gg hr hrel hbx hlo => c83L 101 ((x2.2.2.2.2 + 1)) (mm 2) a0 ⟨a0_p, a0.length, a0_c⟩ (mm 3) ww (hbx _ (.head _)) (hbx _ (.tail _ (.head _))) (SlIs.mono ha0 hrel.below) (sl_ne ha0 (box_hi hrel hlo.1)) (box_ne hrel hlo.2.2.2.2.1 hlo.1 (by decide)) (by decide) h8a0 hlena0)),
    ok_plain rfl rfl (op_bin (ltN rfl) rfl rfl (nw_mul hp16)),
    ok_plain rfl rfl (op_quo (ltN rfl) rfl rfl (by decide) (quo_nn hp17.1 (by decide) hp17.2)),
    ok_plain rfl rfl (op_assign (ltN rfl) rfl),
    ok_plain rfl rfl (op_assign (ltN rfl) rfl),
    trivial⟩ ?_
   refine fin_keep (s' := [kt 2 (.p 1 0), kt 3 (.f (.func 83) [] [.p 2 0, .p 3 0]), kt 4 (.p 4 0), kt 5 (.i ((x2.1 + 10) + (dv a0 x2.2.2.2.2 40))), kt 6 (.i ((x2.2.1 * (dv a0 ((x2.2.2.2.2 + 1)) 101)) / 100)), kt 45 (.i (1 + (dv a0 9 4))), kt 46 (.i x2.2.2.1), kb 1 25 11, kb 2 3 1, kb 3 22 1, kb 4 25 11, (.r 300, some (.vec true 301 84 2 (x2.2.2.2.1.flatMap encPt))), kc 1 0 (.i 0), kc 1 1 (.i 0), kc 1 2 (.i 0), kc 1 3 (.i 0), kc 1 4 (.v (.slice none 0 0)), kc 1 5 (.v (.slice none 0 0)), kc 1 6 (.v (.slice none 0 0)), kc 1 7 (.i 0), kc 1 8 (.i 0), kc 1 9 (.i 0), kc 1 10 (.i 0), kc 2 0 (.i (idx a0 ((x2.2.2.2.2 + 1) + 1))), kc 3 0 (.v (.slice a0_p a0.length a0_c)), kc 4 0 (.i (1 + (dv a0 0 6))), kc 4 1 (.i (100 + (390 * (dv a0 1 256)))), kc 4 2 (.i (10 + (7 * (dv a0 2 256)))), kc 4 3 (.i (10 + (1900 * (dv a0 3 256)))), kc 4 4 (.o 300 301 x2.2.2.2.1.length), kc 4 5 (.v (.slice none 0 0)), kc 4 6 (.v (.slice none 0 0)), kc 4 7 (.i (dv a0 4 21)), kc 4 8 (.i (dv a0 5 101)), kc 4 9 (.i (2 * (dv a0 6 240))), kc 4 10 (.i (4 * (dv a0 7 256)))]) ?_ (kp rfl) rfl
   refine fin_then ?_
   obtain ⟨hp18, hm⟩ := chk_some hm
   refine aw_text (rows := [_, _, _, _, _, _, _, _, _]) rfl (by kernel_rfl) ⟨
    ok_plain rfl rfl (op_fieldAddr (ltN rfl) rfl fo_25_4),
    ok_plain rfl rfl (op_load1 (ltN rfl) sh_23 rfl rfl),
    ok_plain rfl rfl (op_move (ltN rfl) rfl),
    ok_plain rfl rfl (op_move (ltN rfl) rfl),
    ok_plain rfl rfl (op_build (x := .g [.i ((x2.1 + 10) + (dv a0 x2.2.2.2.2 40)), .i ((x2.2.1 * (dv a0 ((x2.2.2.2.2 + 1)) 101)) / 100)]) (ltN rfl) (EvL.cons rfl (EvL.cons rfl EvL.nil)) (fun m w => by kernel_rfl)),
    ok_plain rfl rfl (op_buildSlice (L := 7) (ety := 84) (cs := [.i ((x2.1 + 10) + (dv a0 x2.2.2.2.2 40)), .i ((x2.2.1 * (dv a0 ((x2.2.2.2.2 + 1)) 101)) / 100)]) (ltN rfl) (EvL.cons rfl EvL.nil) rfl (fun m w => by kernel_rfl)),
    ok_plain rfl rfl (op_append (L' := 8) (C' := 9) (vs := [(.int .i64 ((x2.1 + 10) + (dv a0 x2.2.2.2.2 40))), (.int .i64 ((x2.2.1 * (dv a0 ((x2.2.2.2.2 + 1)) 101)) / 100))]) (ltN rfl) af_23 rfl rfl (flat_length (enc := encPt) (fun _ => rfl) x2.2.2.2.1) rfl ⟨rfl, rfl, trivial⟩ rfl rfl (by decide) (by have := hp18; omega) (by have := hp18; omega) (by decide)),
    ok_plain rfl rfl (op_fieldAddr (ltN rfl) rfl fo_25_4),
    ok_plain rfl rfl (op_store1 sz_23 rfl rfl rfl rfl (ltN rfl)),
    trivial⟩ ?_
   refine fin_keep (s' := [kt 2 (.p 1 0), kt 3 (.f (.func 83) [] [.p 2 0, .p 3 0]), kt 4 (.p 4 0), kt 5 (.i ((x2.1 + 10) + (dv a0 x2.2.2.2.2 40))), kt 6 (.i ((x2.2.1 * (dv a0 ((x2.2.2.2.2 + 1)) 101)) / 100)), kt 45 (.i (1 + (dv a0 9 4))), kt 46 (.i x2.2.2.1), kb 1 25 11, kb 2 3 1, kb 3 22 1, kb 4 25 11, (.r 8, some (.vec true 9 84 2 ((x2.2.2.2.1 ++ [(⟨(x2.1 + 10) + (dv a0 x2.2.2.2.2 40), (x2.2.1 * (dv a0 ((x2.2.2.2.2 + 1)) 101)) / 100⟩ : Pt)]).flatMap encPt))), kc 1 0 (.i 0), kc 1 1 (.i 0), kc 1 2 (.i 0), kc 1 3 (.i 0), kc 1 4 (.v (.slice none 0 0)), kc 1 5 (.v (.slice none 0 0)), kc 1 6 (.v (.slice none 0 0)), kc 1 7 (.i 0), kc 1 8 (.i 0), kc 1 9 (.i 0), kc 1 10 (.i 0), kc 2 0 (.i (idx a0 ((x2.2.2.2.2 + 1) + 1))), kc 3 0 (.v (.slice a0_p a0.length a0_c)), kc 4 0 (.i (1 + (dv a0 0 6))), kc 4 1 (.i (100 + (390 * (dv a0 1 256)))), kc 4 2 (.i (10 + (7 * (dv a0 2 256)))), kc 4 3 (.i (10 + (1900 * (dv a0 3 256)))), kc 4 4 (.o 8 9 ((x2.2.2.2.1 ++ [(⟨(x2.1 + 10) + (dv a0 x2.2.2.2.2 40), (x2.2.1 * (dv a0 ((x2.2.2.2.2 + 1)) 101)) / 100⟩ : Pt)]).length)), kc 4 5 (.v (.slice none 0 0)), kc 4 6 (.v (.slice none 0 0)), kc 4 7 (.i (dv a0 4 21)), kc 4 8 (.i (dv a0 5 101)), kc 4 9 (.i (2 * (dv a0 6 240))), kc 4 10 (.i (4 * (dv a0 7 256)))]) ?_ ⟨rfl, rfl, rfl, rfl, rfl, rfl, rfl, rfl, rfl, rfl, rfl, (Eq.trans (b := some (Val.vec true 9 84 2 (x2.2.2.2.1.flatMap encPt ++ [(.int .i64 ((x2.1 + 10) + (dv a0 x2.2.2.2.2 40))), (.int .i64 ((x2.2.1 * (dv a0 ((x2.2.2.2.2 + 1)) 101)) / 100))]))) rfl (congrArg (fun q => some (Val.vec true 9 84 2 q)) (flat_snoc (enc := encPt) x2.2.2.2.1 ((⟨(x2.1 + 10) + (dv a0 x2.2.2.2.2 40), (x2.2.1 * (dv a0 ((x2.2.2.2.2 + 1)) 101)) / 100⟩ : Pt))))), rfl, rfl, rfl, rfl, rfl, rfl, rfl, rfl, rfl, rfl, rfl, rfl, rfl, rfl, rfl, rfl, rfl, (congrArg (fun q => some (Val.x (SV.o 8 9 q))) (len_snoc x2.2.2.2.1 ((⟨(x2.1 + 10) + (dv a0 x2.2.2.2.2 40), (x2.2.1 * (dv a0 ((x2.2.2.2.2 + 1)) 101)) / 100⟩ : Pt)))), rfl, rfl, rfl, rfl, rfl, rfl, trivial⟩ rfl
   refine fin_block ?_
   refine fin_then ?_
   obtain ⟨hp19, hm⟩ := chk_some hm
   refine aw_text (rows := [_, _]) rfl (by kernel_rfl) ⟨
    ok_plain rfl rfl (op_bin (ltN rfl) rfl rfl (nw_add hp19)),
    ok_plain rfl rfl (op_move (ltN rfl) rfl),
    trivial⟩ ?_
   refine fin_keep (s' := [kt 2 (.p 1 0), kt 3 (.f (.func 83) [] [.p 2 0, .p 3 0]), kt 4 (.p 4 0), kt 5 (.i ((x2.1 + 10) + (dv a0 x2.2.2.2.2 40))), kt 6 (.i ((x2.2.1 * (dv a0 ((x2.2.2.2.2 + 1)) 101)) / 100)), kt 45 (.i (1 + (dv a0 9 4))), kt 46 (.i (x2.2.2.1 + 1)), kb 1 25 11, kb 2 3 1, kb 3 22 1, kb 4 25 11, (.r 8, some (.vec true 9 84 2 ((x2.2.2.2.1 ++ [(⟨(x2.1 + 10) + (dv a0 x2.2.2.2.2 40), (x2.2.1 * (dv a0 ((x2.2.2.2.2 + 1)) 101)) / 100⟩ : Pt)]).flatMap encPt))), kc 1 0 (.i 0), kc 1 1 (.i 0), kc 1 2 (.i 0), kc 1 3 (.i 0), kc 1 4 (.v (.slice none 0 0)), kc 1 5 (.v (.slice none 0 0)), kc 1 6 (.v (.slice none 0 0)), kc 1 7 (.i 0), kc 1 8 (.i 0), kc 1 9 (.i 0), kc 1 10 (.i 0), kc 2 0 (.i (idx a0 ((x2.2.2.2.2 + 1) + 1))), kc 3 0 (.v (.slice a0_p a0.length a0_c)), kc 4 0 (.i (1 + (dv a0 0 6))), kc 4 1 (.i (100 + (390 * (dv a0 1 256)))), kc 4 2 (.i (10 + (7 * (dv a0 2 256)))), kc 4 3 (.i (10 + (1900 * (dv a0 3 256)))), kc 4 4 (.o 8 9 ((x2.2.2.2.1 ++ [(⟨(x2.1 + 10) + (dv a0 x2.2.2.2.2 40), (x2.2.1 * (dv a0 ((x2.2.2.2.2 + 1)) 101)) / 100⟩ : Pt)]).length)), kc 4 5 (.v (.slice none 0 0)), kc 4 6 (.v (.slice none 0 0)), kc 4 7 (.i (dv a0 4 21)), kc 4 8 (.i (dv a0 5 101)), kc 4 9 (.i (2 * (dv a0 6 240))), kc 4 10 (.i (4 * (dv a0 7 256)))]) ?_ (kp rfl) rfl
   refine fin_swp [(8, 300), (9, 301)] rfl ?_
   exact fin_cut ((x2.1 + 10) + (dv a0 x2.2.2.2.2 40), (x2.2.1 * (dv a0 ((x2.2.2.2.2 + 1)) 101)) / 100, x2.2.2.1 + 1, (x2.2.2.2.1 ++ [(⟨(x2.1 + 10) + (dv a0 x2.2.2.2.2 40), (x2.2.1 * (dv a0 ((x2.2.2.2.2 + 1)) 101)) / 100⟩ : Pt)]), ((x2.2.2.2.2 + 1) + 1)) hm ⟨rfl, rfl, rfl, rfl, rfl, rfl, rfl, rfl, rfl, rfl, rfl, rfl, rfl, rfl, rfl, rfl, rfl, rfl, rfl, rfl, rfl, rfl, rfl, rfl, rfl, rfl, rfl, rfl, rfl, rfl, rfl, rfl, rfl, rfl, rfl, rfl, trivial⟩ rfl
  ·have hm := brk_f hz13 hm
   refine aw_exit ?_
   refine fin_then_exit ?_
   refine fin_then_exit ?_
   refine fin_block_exit ?_
   exact fin_cut (x2.2.2.2.1, x2.2.2.2.2) hm ⟨rfl, rfl, rfl, rfl, rfl, rfl, rfl, rfl, rfl, rfl, rfl, rfl, rfl, rfl, rfl, rfl, rfl, rfl, rfl, rfl, rfl, rfl, rfl, rfl, rfl, rfl, rfl, rfl, rfl, rfl, rfl, rfl, trivial⟩ rfl
 ·have _z := hm
  refine aw_seq ?_
  refine aw_text (rows := [_, _, _, _]) rfl (by kernel_rfl) ⟨
   ok_plain rfl rfl (op_move (ltN rfl) rfl),
   ok_plain rfl rfl (op_callLentL (ls := [⟨2, 3, [.i (idx a0 x1.2)], [.i (idx a0 (x1.2 + 1))]⟩, ⟨3, 22, [.v (.slice a0_p a0.length a0_c)], [.v (.slice a0_p a0.length a0_c)]⟩]) (x := .i (dv a0 x1.2 50)) (fs := []) (caps := [.p 2 0, .p 3 0]) (extra := []) (ltN rfl) en_83 rfl ⟨rfl, rfl, rfl⟩ (EvL.cons rfl EvL.nil) ⟨rfl, ⟨rfl, trivial⟩, rfl, lb_ne rfl, ⟨rfl, ⟨rfl, trivial⟩, rfl, lb_ne rfl, trivial⟩⟩ (fun mm aa ww gg hr hrel hbx hlo => c83L 50 x1.2 (mm 2) a0 ⟨a0_p, a0.length, a0_c⟩ (mm 3) ww (hbx _ (.head _)) (hbx _ (.tail _ (.head _))) (SlIs.mono ha0 hrel.below) (sl_ne ha0 (box_hi hrel hlo.1)) (box_ne hrel hlo.2.2.2.2.1 hlo.1 (by decide)) (by decide) h8a0 hlena0)),
   ok_plain rfl rfl (op_assign (ltN rfl) rfl),
   ok_plain rfl rfl (op_assign (ltN rfl) rfl),
   trivial⟩ ?_
  refine fin_keep (s' := [kt 2 (.p 1 0), kt 3 (.f (.func 83) [] [.p 2 0, .p 3 0]), kt 4 (.p 4 0), kt 5 (.i 0), kt 6 (.i (dv a0 x1.2 50)), kb 1 25 11, kb 2 3 1, kb 3 22 1, kb 4 25 11, (.r 300, some (.vec true 301 84 2 (x1.1.flatMap encPt))), kc 1 0 (.i 0), kc 1 1 (.i 0), kc 1 2 (.i 0), kc 1 3 (.i 0), kc 1 4 (.v (.slice none 0 0)), kc 1 5 (.v (.slice none 0 0)), kc 1 6 (.v (.slice none 0 0)), kc 1 7 (.i 0), kc 1 8 (.i 0), kc 1 9 (.i 0), kc 1 10 (.i 0), kc 2 0 (.i (idx a0 (x1.2 + 1))), kc 3 0 (.v (.slice a0_p a0.length a0_c)), kc 4 0 (.i (1 + (dv a0 0 6))), kc 4 1 (.i (100 + (390 * (dv a0 1 256)))), kc 4 2 (.i (10 + (7 * (dv a0 2 256)))), kc 4 3 (.i (10 + (1900 * (dv a0 3 256)))), kc 4 4 (.o 300 301 x1.1.length), kc 4 5 (.v (.slice none 0 0)), kc 4 6 (.v (.slice none 0 0)), kc 4 7 (.i (dv a0 4 21)), kc 4 8 (.i (dv a0 5 101)), kc 4 9 (.i (2 * (dv a0 6 240))), kc 4 10 (.i (4 * (dv a0 7 256)))]) ?_ (kp rfl) rfl
  refine fin_then ?_
  refine aw_seq ?_
  refine aw_text (rows := [_, _, _, _, _]) rfl (by kernel_rfl) ⟨
   ok_plain rfl rfl (op_move (ltN rfl) rfl),
   ok_plain rfl rfl (op_build (x := .g [.i 0, .i (dv a0 x1.2 50)]) (ltN rfl) (EvL.cons rfl (EvL.cons rfl EvL.nil)) (fun m w => by kernel_rfl)),
   ok_plain rfl rfl (op_buildSlice (L := 10) (ety := 84) (cs := [.i 0, .i (dv a0 x1.2 50)]) (ltN rfl) (EvL.cons rfl EvL.nil) rfl (fun m w => by kernel_rfl)),
   ok_plain rfl rfl (op_fieldAddr (ltN rfl) rfl fo_25_5),
   ok_plain rfl rfl (op_store1 sz_23 rfl rfl rfl rfl (ltN rfl)),
   trivial⟩ ?_
  refine fin_keep (s' := [kt 2 (.p 1 0), kt 3 (.f (.func 83) [] [.p 2 0, .p 3 0]), kt 4 (.p 4 0), kt 5 (.i 0), kt 6 (.i (dv a0 x1.2 50)), kb 1 25 11, kb 2 3 1, kb 3 22 1, kb 4 25 11, kb 10 84 2, (.r 300, some (.vec true 301 84 2 (x1.1.flatMap encPt))), kc 1 0 (.i 0), kc 1 1 (.i 0), kc 1 2 (.i 0), kc 1 3 (.i 0), kc 1 4 (.v (.slice none 0 0)), kc 1 5 (.v (.slice none 0 0)), kc 1 6 (.v (.slice none 0 0)), kc 1 7 (.i 0), kc 1 8 (.i 0), kc 1 9 (.i 0), kc 1 10 (.i 0), kc 2 0 (.i (idx a0 (x1.2 + 1))), kc 3 0 (.v (.slice a0_p a0.length a0_c)), kc 4 0 (.i (1 + (dv a0 0 6))), kc 4 1 (.i (100 + (390 * (dv a0 1 256)))), kc 4 2 (.i (10 + (7 * (dv a0 2 256)))), kc 4 3 (.i (10 + (1900 * (dv a0 3 256)))), kc 4 4 (.o 300 301 x1.1.length), kc 4 5 (.s 10 0 1 1), kc 4 6 (.v (.slice none 0 0)), kc 4 7 (.i (dv a0 4 21)), kc 4 8 (.i (dv a0 5 101)), kc 4 9 (.i (2 * (dv a0 6 240))), kc 4 10 (.i (4 * (dv a0 7 256))), kc 10 0 (.i 0), kc 10 1 (.i (dv a0 x1.2 50))]) ?_ (kp rfl) rfl
  refine fin_then ?_
  refine aw_cutM (ι := List Pt × Nat) hm (fun x3 => [kt 2 (.p 1 0), kt 3 (.f (.func 83) [] [.p 2 0, .p 3 0]), kt 4 (.p 4 0), kb 1 25 11, kb 2 3 1, kb 3 22 1, kb 4 25 11, (.r 300, some (.vec true 301 84 2 (x1.1.flatMap encPt))), (.r 302, some (.vec true 303 84 2 (x3.1.flatMap encPt))), kc 1 0 (.i 0), kc 1 1 (.i 0), kc 1 2 (.i 0), kc 1 3 (.i 0), kc 1 4 (.v (.slice none 0 0)), kc 1 5 (.v (.slice none 0 0)), kc 1 6 (.v (.slice none 0 0)), kc 1 7 (.i 0), kc 1 8 (.i 0), kc 1 9 (.i 0), kc 1 10 (.i 0), kc 2 0 (.i (idx a0 x3.2)), kc 3 0 (.v (.slice a0_p a0.length a0_c)), kc 4 0 (.i (1 + (dv a0 0 6))), kc 4 1 (.i (100 + (390 * (dv a0 1 256)))), kc 4 2 (.i (10 + (7 * (dv a0 2 256)))), kc 4 3 (.i (10 + (1900 * (dv a0 3 256)))), kc 4 4 (.o 300 301 x1.1.length), kc 4 5 (.o 302 303 x3.1.length), kc 4 6 (.v (.slice none 0 0)), kc 4 7 (.i (dv a0 4 21)), kc 4 8 (.i (dv a0 5 101)), kc 4 9 (.i (2 * (dv a0 6 240))), kc 4 10 (.i (4 * (dv a0 7 256)))]) (fun hm => ?_) (fun x3 hm => ?_)
  ·have _z := hm
   refine aw_seq ?_
   obtain ⟨hp20, hm⟩ := chk_some hm
   refine aw_text (rows := [_, _, _, _]) rfl (by kernel_rfl) ⟨
    ok_plain rfl rfl (op_move (ltN rfl) rfl),
    ok_plain rfl rfl (op_callLentL (ls := [⟨2, 3, [.i (idx a0 (x1.2 + 1))], [.i (idx a0 ((x1.2 + 1) + 1))]⟩, ⟨3, 22, [.v (.slice a0_p a0.length a0_c)], [.v (.slice a0_p a0.length a0_c)]⟩]) (x := .i (dv a0 ((x1.2 + 1)) 3)) (fs := []) (caps := [.p 2 0, .p 3 0]) (extra := []) (ltN rfl) en_83 rfl ⟨rfl, rfl, rfl⟩ (EvL.cons rfl EvL.nil) ⟨rfl, ⟨rfl, trivial⟩, rfl, lb_ne rfl, ⟨rfl, ⟨rfl, trivial⟩, rfl, lb_ne rfl, trivial⟩⟩ (fun mm aa ww gg hr hrel hbx hlo => c83L 3 ((x1.2 + 1)) (mm 2) a0 ⟨a0_p, a0.length, a0_c⟩ (mm 3) ww (hbx _ (.head _)) (hbx _ (.tail _ (.head _))) (SlIs.mono ha0 hrel.below) (sl_ne ha0 (box_hi hrel hlo.1)) (box_ne hrel hlo.2.2.2.2.1 hlo.1 (by decide)) (by decide) h8a0 hlena0)),
    ok_plain rfl rfl (op_bin (ltN rfl) rfl rfl (nw_add hp20)),
    ok_plain rfl rfl (op_move (ltN rfl) rfl),
    trivial⟩ ?_
   refine fin_keep (s' := [kt 2 (.p 1 0), kt 3 (.f (.func 83) [] [.p 2 0, .p 3 0]), kt 4 (.p 4 0), kt 5 (.i 0), kt 6 (.i (dv a0 x1.2 50)), kt 75 (.i (1 + (dv a0 ((x1.2 + 1)) 3))), kt 76 (.i 0), kb 1 25 11, kb 2 3 1, kb 3 22 1, kb 4 25 11, kb 10 84 2, (.r 300, some (.vec true 301 84 2 (x1.1.flatMap encPt))), kc 1 0 (.i 0), kc 1 1 (.i 0), kc 1 2 (.i 0), kc 1 3 (.i 0), kc 1 4 (.v (.slice none 0 0)), kc 1 5 (.v (.slice none 0 0)), kc 1 6 (.v (.slice none 0 0)), kc 1 7 (.i 0), kc 1 8 (.i 0), kc 1 9 (.i 0), kc 1 10 (.i 0), kc 2 0 (.i (idx a0 ((x1.2 + 1) + 1))), kc 3 0 (.v (.slice a0_p a0.length a0_c)), kc 4 0 (.i (1 + (dv a0 0 6))), kc 4 1 (.i (100 + (390 * (dv a0 1 256)))), kc 4 2 (.i (10 + (7 * (dv a0 2 256)))), kc 4 3 (.i (10 + (1900 * (dv a0 3 256)))), kc 4 4 (.o 300 301 x1.1.length), kc 4 5 (.s 10 0 1 1), kc 4 6 (.v (.slice none 0 0)), kc 4 7 (.i (dv a0 4 21)), kc 4 8 (.i (dv a0 5 101)), kc 4 9 (.i (2 * (dv a0 6 240))), kc 4 10 (.i (4 * (dv a0 7 256))), kc 10 0 (.i 0), kc 10 1 (.i (dv a0 x1.2 50))]) ?_ (kp rfl) rfl
   refine fin_then ?_
   refine aw_block ?_
   refine aw_toRow (.c 4 5) 10 11 1 2 [(.int .i64 0), (.int .i64 (dv a0 x1.2 50))] rfl rfl rfl rfl (by decide) ⟨rfl, rfl, trivial⟩ rfl (by decide) rfl ?_
   refine aw_swp [(10, 302), (11, 303)] rfl ?_
   refine aw_loopC hm (fun x4 => [kt 2 (.p 1 0), kt 3 (.f (.func 83) [] [.p 2 0, .p 3 0]), kt 4 (.p 4 0), kt 5 (.i x4.1), kt 6 (.i x4.2.1), kt 75 (.i (1 + (dv a0 ((x1.2 + 1)) 3))), kt 76 (.i x4.2.2.1), kb 1 25 11, kb 2 3 1, kb 3 22 1, kb 4 25 11, (.r 300, some (.vec true 301 84 2 (x1.1.flatMap encPt))), (.r 302, some (.vec true 303 84 2 (x4.2.2.2.1.flatMap encPt))), kc 1 0 (.i 0), kc 1 1 (.i 0), kc 1 2 (.i 0), kc 1 3 (.i 0), kc 1 4 (.v (.slice none 0 0)), kc 1 5 (.v (.slice none 0 0)), kc 1 6 (.v (.slice none 0 0)), kc 1 7 (.i 0), kc 1 8 (.i 0), kc 1 9 (.i 0), kc 1 10 (.i 0), kc 2 0 (.i (idx a0 x4.2.2.2.2)), kc 3 0 (.v (.slice a0_p a0.length a0_c)), kc 4 0 (.i (1 + (dv a0 0 6))), kc 4 1 (.i (100 + (390 * (dv a0 1 256)))), kc 4 2 (.i (10 + (7 * (dv a0 2 256)))), kc 4 3 (.i (10 + (1900 * (dv a0 3 256)))), kc 4 4 (.o 300 301 x1.1.length), kc 4 5 (.o 302 303 x4.2.2.2.1.length), kc 4 6 (.v (.slice none 0 0)), kc 4 7 (.i (dv a0 4 21)), kc 4 8 (.i (dv a0 5 101)), kc 4 9 (.i (2 * (dv a0 6 240))), kc 4 10 (.i (4 * (dv a0 7 256)))]) ⟨rfl, rfl, rfl, rfl, rfl, rfl, rfl, rfl, rfl, rfl, rfl, rfl, rfl, rfl, rfl, rfl, rfl, rfl, rfl, rfl, rfl, rfl, rfl, rfl, rfl, rfl, rfl, rfl, rfl, rfl, rfl, rfl, rfl, rfl, rfl, rfl, rfl, trivial⟩ rfl (fun x4 n4 hm => ?_)
   refine aw_seq ?_
   refine aw_text (rows := [_]) rfl (by kernel_rfl) ⟨
    ok_plain rfl rfl (op_bin (ltN rfl) rfl rfl rfl),
    trivial⟩ ?_
   refine fin_keep (s' := [kt 2 (.p 1 0), kt 3 (.f (.func 83) [] [.p 2 0, .p 3 0]), kt 4 (.p 4 0), kt 5 (.i x4.1), kt 6 (.i x4.2.1), kt 75 (.i (1 + (dv a0 ((x1.2 + 1)) 3))), kt 76 (.i x4.2.2.1), kt 77 (.B (decide (x4.2.2.1 < (1 + (dv a0 ((x1.2 + 1)) 3))))), kb 1 25 11, kb 2 3 1, kb 3 22 1, kb 4 25 11, (.r 300, some (.vec true 301 84 2 (x1.1.flatMap encPt))), (.r 302, some (.vec true 303 84 2 (x4.2.2.2.1.flatMap encPt))), kc 1 0 (.i 0), kc 1 1 (.i 0), kc 1 2 (.i 0), kc 1 3 (.i 0), kc 1 4 (.v (.slice none 0 0)), kc 1 5 (.v (.slice none 0 0)), kc 1 6 (.v (.slice none 0 0)), kc 1 7 (.i 0), kc 1 8 (.i 0), kc 1 9 (.i 0), kc 1 10 (.i 0), kc 2 0 (.i (idx a0 x4.2.2.2.2)), kc 3 0 (.v (.slice a0_p a0.length a0_c)), kc 4 0 (.i (1 + (dv a0 0 6))), kc 4 1 (.i (100 + (390 * (dv a0 1 256)))), kc 4 2 (.i (10 + (7 * (dv a0 2 256)))), kc 4 3 (.i (10 + (1900 * (dv a0 3 256)))), kc 4 4 (.o 300 301 x1.1.length), kc 4 5 (.o 302 303 x4.2.2.2.1.length), kc 4 6 (.v (.slice none 0 0)), kc 4 7 (.i (dv a0 4 21)), kc 4 8 (.i (dv a0 5 101)), kc 4 9 (.i (2 * (dv a0 6 240))), kc 4 10 (.i (4 * (dv a0 7 256)))]) ?_ (kp rfl) rfl
   refine fin_then ?_
   refine aw_seq ?_
   refine aw_cond rfl (fun hz21 => ?_) (fun hz21 => ?_)
   ·have hm := brk_t hz21 hm
    refine aw_skip ?_
    refine fin_then ?_
    refine aw_seq ?_
    refine aw_block ?_
    refine aw_seq ?_
    obtain ⟨hp22, hm⟩ := chk_some hm
    obtain ⟨hp23, hm⟩ := chk_some hm
    obtain ⟨hp24, hm⟩ := chk_some hm
    obtain ⟨hp25, hm⟩ := chk_some hm
    refine aw_text (rows := [_, _, _, _, _, _, _, _, _, _, _, _]) rfl (by kernel_rfl) ⟨
     ok_plain rfl rfl (op_move (ltN rfl) rfl),
     ok_plain rfl rfl (op_bin (ltN rfl) rfl rfl (nw_add hp22)),
     ok_plain rfl rfl (op_move (ltN rfl) rfl),
     ok_plain rfl rfl (op_callLentL (ls := [⟨2, 3, [.i (idx a0 x4.2.2.2.2)], [.i (idx a0 (x4.2.2.2.2 + 1))]⟩, ⟨3, 22, [.v (.slice a0_p a0.length a0_c)], [.v (.slice a0_p a0.length a0_c)]⟩]) (x := .i (dv a0 x4.2.2.2.2 80)) (fs := []) (caps := [.p 2 0, .p 3 0]) (extra := []) (ltN rfl) en_83 rfl ⟨rfl, rfl, rfl⟩ (EvL.cons rfl EvL.nil) ⟨rfl, ⟨rfl, trivial⟩, rfl, lb_ne rfl, ⟨rfl, ⟨rfl, trivial⟩, rfl, lb_ne rfl, trivial⟩⟩ (fun mm aa ww gg hr hrel hbx hlo => c83L 80 x4.2.2.2.2 (mm 2) a0 ⟨a0_p, a0.length, a0_c⟩ (mm 3) ww (hbx _ (.head _)) (hbx _ (.tail _ (.head _))) (SlIs.mono ha0 hrel.below) (sl_ne ha0 (box_hi hrel hlo.1)) (box_ne hrel hlo.2.2.2.2.1 hlo.1 (by decide)) (by decide) h8a0 hlena0)),
     ok_plain rfl rfl (op_bin (ltN rfl) rfl rfl (nw_add hp23)),
     ok_plain rfl rfl (op_move (ltN rfl) rfl),
     ok_plain rfl rfl (op_move (ltN rfl) rfl),
     ok_plain rfl rfl (op_callLentL (ls := [⟨2, 3, [.i (idx a0 (x4.2.2.2.2 + 1))], [.i (idx a0 ((x4.2.2.2.2 + 1) + 1))]⟩, ⟨3, 22, [.v (.slice a0_p a0.length a0_c)], [.v (.slice a0_p a0.length a0_c)]⟩]) (x := .i (dv a0 ((x4.2.2.2.2 + 1)) 256)) (fs := []) (caps := [.p 2 0, .p 3 0]) (extra := []) (ltN rfl) en_83 rfl ⟨rfl, rfl, rfl⟩ (EvL.cons rfl EvL.nil) ⟨rfl, ⟨rfl, trivial⟩, rfl, lb_ne rfl, ⟨rfl, ⟨rfl, trivial⟩, rfl, lb_ne rfl, trivial⟩⟩ (fun mm aa ww gg hr hrel hbx hlo => c83L 256 ((x4.2.2.2.2 + 1)) (mm 2) a0 ⟨a0_p, a0.length, a0_c⟩ (mm 3) ww (hbx _ (.head _)) (hbx _ (.tail _ (.head _))) (SlIs.mono ha0 hrel.below) (sl_ne ha0 (box_hi hrel hlo.1)) (box_ne hrel hlo.2.2.2.2.1 hlo.1 (by decide)) (by decide) h8a0 hlena0)),
     ok_plain rfl rfl (op_bin (ltN rfl) rfl rfl (nw_mul hp24)),
     ok_plain rfl rfl (op_bin (ltN rfl) rfl rfl (nw_add hp25)),
     ok_plain rfl rfl (op_assign (ltN rfl) rfl),
     ok_plain rfl rfl (op_assign (ltN rfl) rfl),
     trivial⟩ ?_
    refine fin_keep (s' := [kt 2 (.p 1 0), kt 3 (.f (.func 83) [] [.p 2 0, .p 3 0]), kt 4 (.p 4 0), kt 5 (.i ((x4.1 + 1) + (dv a0 x4.2.2.2.2 80))), kt 6 (.i (x4.2.1 + (3 * (dv a0 ((x4.2.2.2.2 + 1)) 256)))), kt 75 (.i (1 + (dv a0 ((x1.2 + 1)) 3))), kt 76 (.i x4.2.2.1), kb 1 25 11, kb 2 3 1, kb 3 22 1, kb 4 25 11, (.r 300, some (.vec true 301 84 2 (x1.1.flatMap encPt))), (.r 302, some (.vec true 303 84 2 (x4.2.2.2.1.flatMap encPt))), kc 1 0 (.i 0), kc 1 1 (.i 0), kc 1 2 (.i 0), kc 1 3 (.i 0), kc 1 4 (.v (.slice none 0 0)), kc 1 5 (.v (.slice none 0 0)), kc 1 6 (.v (.slice none 0 0)), kc 1 7 (.i 0), kc 1 8 (.i 0), kc 1 9 (.i 0), kc 1 10 (.i 0), kc 2 0 (.i (idx a0 ((x4.2.2.2.2 + 1) + 1))), kc 3 0 (.v (.slice a0_p a0.length a0_c)), kc 4 0 (.i (1 + (dv a0 0 6))), kc 4 1 (.i (100 + (390 * (dv a0 1 256)))), kc 4 2 (.i (10 + (7 * (dv a0 2 256)))), kc 4 3 (.i (10 + (1900 * (dv a0 3 256)))), kc 4 4 (.o 300 301 x1.1.length), kc 4 5 (.o 302 303 x4.2.2.2.1.length), kc 4 6 (.v (.slice none 0 0)), kc 4 7 (.i (dv a0 4 21)), kc 4 8 (.i (dv a0 5 101)), kc 4 9 (.i (2 * (dv a0 6 240))), kc 4 10 (.i (4 * (dv a0 7 256)))]) ?_ (kp rfl) rfl
    refine fin_then ?_
    obtain ⟨hp26, hm⟩ := chk_some hm
    refine aw_text (rows := [_, _, _, _, _, _, _, _, _]) rfl (by kernel_rfl) ⟨
     ok_plain rfl rfl (op_fieldAddr (ltN rfl) rfl fo_25_5),
     ok_plain rfl rfl (op_load1 (ltN rfl) sh_23 rfl rfl),
     ok_plain rfl rfl (op_move (ltN rfl) rfl),
     ok_plain rfl rfl (op_move (ltN rfl) rfl),
     ok_plain rfl rfl (op_build (x := .g [.i ((x4.1 + 1) + (dv a0 x4.2.2.2.2 80)), .i (x4.2.1 + (3 * (dv a0 ((x4.2.2.2.2 + 1)) 256)))]) (ltN rfl) (EvL.cons rfl (EvL.cons rfl EvL.nil)) (fun m w => by kernel_rfl)),
     ok_plain rfl rfl (op_buildSlice (L := 12) (ety := 84) (cs := [.i ((x4.1 + 1) + (dv a0 x4.2.2.2.2 80)), .i (x4.2.1 + (3 * (dv a0 ((x4.2.2.2.2 + 1)) 256)))]) (ltN rfl) (EvL.cons rfl EvL.nil) rfl (fun m w => by kernel_rfl)),
     ok_plain rfl rfl (op_append (L' := 13) (C' := 14) (vs := [(.int .i64 ((x4.1 + 1) + (dv a0 x4.2.2.2.2 80))), (.int .i64 (x4.2.1 + (3 * (dv a0 ((x4.2.2.2.2 + 1)) 256))))]) (ltN rfl) af_23 rfl rfl (flat_length (enc := encPt) (fun _ => rfl) x4.2.2.2.1) rfl ⟨rfl, rfl, trivial⟩ rfl rfl (by decide) (by have := hp26; omega) (by have := hp26; omega) (by decide)),
     ok_plain rfl rfl (op_fieldAddr (ltN rfl) rfl fo_25_5),
     ok_plain rfl rfl (op_store1 sz_23 rfl rfl rfl rfl (ltN rfl)),
     trivial⟩ ?_
    refine fin_keep (s' := [kt 2 (.p 1 0), kt 3 (.f (.func 83) [] [.p 2 0, .p 3 0]), kt 4 (.p 4 0), kt 5 (.i ((x4.1 + 1) + (dv a0 x4.2.2.2.2 80))), kt 6 (.i (x4.2.1 + (3 * (dv a0 ((x4.2.2.2.2 + 1)) 256)))), kt 75 (.i (1 + (dv a0 ((x1.2 + 1)) 3))), kt 76 (.i x4.2.2.1), kb 1 25 11, kb 2 3 1, kb 3 22 1, kb 4 25 11, (.r 13, some (.vec true 14 84 2 ((x4.2.2.2.1 ++ [(⟨(x4.1 + 1) + (dv a0 x4.2.2.2.2 80), x4.2.1 + (3 * (dv a0 ((x4.2.2.2.2 + 1)) 256))⟩ : Pt)]).flatMap encPt))), (.r 300, some (.vec true 301 84 2 (x1.1.flatMap encPt))), kc 1 0 (.i 0), kc 1 1 (.i 0), kc 1 2 (.i 0), kc 1 3 (.i 0), kc 1 4 (.v (.slice none 0 0)), kc 1 5 (.v (.slice none 0 0)), kc 1 6 (.v (.slice none 0 0)), kc 1 7 (.i 0), kc 1 8 (.i 0), kc 1 9 (.i 0), kc 1 10 (.i 0), kc 2 0 (.i (idx a0 ((x4.2.2.2.2 + 1) + 1))), kc 3 0 (.v (.slice a0_p a0.length a0_c)), kc 4 0 (.i (1 + (dv a0 0 6))), kc 4 1 (.i (100 + (390 * (dv a0 1 256)))), kc 4 2 (.i (10 + (7 * (dv a0 2 256)))), kc 4 3 (.i (10 + (1900 * (dv a0 3 256)))), kc 4 4 (.o 300 301 x1.1.length), kc 4 5 (.o 13 14 ((x4.2.2.2.1 ++ [(⟨(x4.1 + 1) + (dv a0 x4.2.2.2.2 80), x4.2.1 + (3 * (dv a0 ((x4.2.2.2.2 + 1)) 256))⟩ : Pt)]).length)), kc 4 6 (.v (.slice none 0 0)), kc 4 7 (.i (dv a0 4 21)), kc 4 8 (.i (dv a0 5 101)), kc 4 9 (.i (2 * (dv a0 6 240))), kc 4 10 (.i (4 * (dv a0 7 256)))]) ?_ ⟨rfl, rfl, rfl, rfl, rfl, rfl, rfl, rfl, rfl, rfl, rfl, (Eq.trans (b := some (Val.vec true 14 84 2 (x4.2.2.2.1.flatMap encPt ++ [(.int .i64 ((x4.1 + 1) + (dv a0 x4.2.2.2.2 80))), (.int .i64 (x4.2.1 + (3 * (dv a0 ((x4.2.2.2.2 + 1)) 256))))]))) rfl (congrArg (fun q => some (Val.vec true 14 84 2 q)) (flat_snoc (enc := encPt) x4.2.2.2.1 ((⟨(x4.1 + 1) + (dv a0 x4.2.2.2.2 80), x4.2.1 + (3 * (dv a0 ((x4.2.2.2.2 + 1)) 256))⟩ : Pt))))), rfl, rfl, rfl, rfl, rfl, rfl, rfl, rfl, rfl, rfl, rfl, rfl, rfl, rfl, rfl, rfl, rfl, rfl, rfl, (congrArg (fun q => some (Val.x (SV.o 13 14 q))) (len_snoc x4.2.2.2.1 ((⟨(x4.1 + 1) + (dv a0 x4.2.2.2.2 80), x4.2.1 + (3 * (dv a0 ((x4.2.2.2.2 + 1)) 256))⟩ : Pt)))), rfl, rfl, rfl, rfl, rfl, trivial⟩ rfl
    refine fin_block ?_
    refine fin_then ?_
    obtain ⟨hp27, hm⟩ := chk_some hm
    refine aw_text (rows := [_, _]) rfl (by kernel_rfl) ⟨
     ok_plain rfl rfl (op_bin (ltN rfl) rfl rfl (nw_add hp27)),
     ok_plain rfl rfl (op_move (ltN rfl) rfl),
     trivial⟩ ?_
    refine fin_keep (s' := [kt 2 (.p 1 0), kt 3 (.f (.func 83) [] [.p 2 0, .p 3 0]), kt 4 (.p 4 0), kt 5 (.i ((x4.1 + 1) + (dv a0 x4.2.2.2.2 80))), kt 6 (.i (x4.2.1 + (3 * (dv a0 ((x4.2.2.2.2 + 1)) 256)))), kt 75 (.i (1 + (dv a0 ((x1.2 + 1)) 3))), kt 76 (.i (x4.2.2.1 + 1)), kb 1 25 11, kb 2 3 1, kb 3 22 1, kb 4 25 11, (.r 13, some (.vec true 14 84 2 ((x4.2.2.2.1 ++ [(⟨(x4.1 + 1) + (dv a0 x4.2.2.2.2 80), x4.2.1 + (3 * (dv a0 ((x4.2.2.2.2 + 1)) 256))⟩ : Pt)]).flatMap encPt))), (.r 300, some (.vec true 301 84 2 (x1.1.flatMap encPt))), kc 1 0 (.i 0), kc 1 1 (.i 0), kc 1 2 (.i 0), kc 1 3 (.i 0), kc 1 4 (.v (.slice none 0 0)), kc 1 5 (.v (.slice none 0 0)), kc 1 6 (.v (.slice none 0 0)), kc 1 7 (.i 0), kc 1 8 (.i 0), kc 1 9 (.i 0), kc 1 10 (.i 0), kc 2 0 (.i (idx a0 ((x4.2.2.2.2 + 1) + 1))), kc 3 0 (.v (.slice a0_p a0.length a0_c)), kc 4 0 (.i (1 + (dv a0 0 6))), kc 4 1 (.i (100 + (390 * (dv a0 1 256)))), kc 4 2 (.i (10 + (7 * (dv a0 2 256)))), kc 4 3 (.i (10 + (1900 * (dv a0 3 256)))), kc 4 4 (.o 300 301 x1.1.length), kc 4 5 (.o 13 14 ((x4.2.2.2.1 ++ [(⟨(x4.1 + 1) + (dv a0 x4.2.2.2.2 80), x4.2.1 + (3 * (dv a0 ((x4.2.2.2.2 + 1)) 256))⟩ : Pt)]).length)), kc 4 6 (.v (.slice none 0 0)), kc 4 7 (.i (dv a0 4 21)), kc 4 8 (.i (dv a0 5 101)), kc 4 9 (.i (2 * (dv a0 6 240))), kc 4 10 (.i (4 * (dv a0 7 256)))]) ?_ (kp rfl) rfl
    refine fin_swp [(13, 302), (14, 303)] rfl ?_
    exact fin_cut ((x4.1 + 1) + (dv a0 x4.2.2.2.2 80), x4.2.1 + (3 * (dv a0 ((x4.2.2.2.2 + 1)) 256)), x4.2.2.1 + 1, (x4.2.2.2.1 ++ [(⟨(x4.1 + 1) + (dv a0 x4.2.2.2.2 80), x4.2.1 + (3 * (dv a0 ((x4.2.2.2.2 + 1)) 256))⟩ : Pt)]), ((x4.2.2.2.2 + 1) + 1)) hm ⟨rfl, rfl, rfl, rfl, rfl, rfl, rfl, rfl, rfl, rfl, rfl, rfl, rfl, rfl, rfl, rfl, rfl, rfl, rfl, rfl, rfl, rfl, rfl, rfl, rfl, rfl, rfl, rfl, rfl, rfl, rfl, rfl, rfl, rfl, rfl, rfl, rfl, trivial⟩ rfl
   ·have hm := brk_f hz21 hm
    refine aw_exit ?_
    refine fin_then_exit ?_
    refine fin_then_exit ?_
    refine fin_block_exit ?_
    exact fin_cut (x4.2.2.2.1, x4.2.2.2.2) hm ⟨rfl, rfl, rfl, rfl, rfl, rfl, rfl, rfl, rfl, rfl, rfl, rfl, rfl, rfl, rfl, rfl, rfl, rfl, rfl, rfl, rfl, rfl, rfl, rfl, rfl, rfl, rfl, rfl, rfl, rfl, rfl, rfl, rfl, trivial⟩ rfl
  ·have _z := hm
   refine aw_seq ?_
   refine aw_text (rows := [_, _]) rfl (by kernel_rfl) ⟨
    ok_plain rfl rfl (op_assign (ltN rfl) rfl),
    ok_plain rfl rfl (op_assign (ltN rfl) rfl),
    trivial⟩ ?_
   refine fin_keep (s' := [kt 2 (.p 1 0), kt 3 (.f (.func 83) [] [.p 2 0, .p 3 0]), kt 4 (.p 4 0), kt 5 (.i 0), kt 6 (.i 0), kb 1 25 11, kb 2 3 1, kb 3 22 1, kb 4 25 11, (.r 300, some (.vec true 301 84 2 (x1.1.flatMap encPt))), (.r 302, some (.vec true 303 84 2 (x3.1.flatMap encPt))), kc 1 0 (.i 0), kc 1 1 (.i 0), kc 1 2 (.i 0), kc 1 3 (.i 0), kc 1 4 (.v (.slice none 0 0)), kc 1 5 (.v (.slice none 0 0)), kc 1 6 (.v (.slice none 0 0)), kc 1 7 (.i 0), kc 1 8 (.i 0), kc 1 9 (.i 0), kc 1 10 (.i 0), kc 2 0 (.i (idx a0 x3.2)), kc 3 0 (.v (.slice a0_p a0.length a0_c)), kc 4 0 (.i (1 + (dv a0 0 6))), kc 4 1 (.i (100 + (390 * (dv a0 1 256)))), kc 4 2 (.i (10 + (7 * (dv a0 2 256)))), kc 4 3 (.i (10 + (1900 * (dv a0 3 256)))), kc 4 4 (.o 300 301 x1.1.length), kc 4 5 (.o 302 303 x3.1.length), kc 4 6 (.v (.slice none 0 0)), kc 4 7 (.i (dv a0 4 21)), kc 4 8 (.i (dv a0 5 101)), kc 4 9 (.i (2 * (dv a0 6 240))), kc 4 10 (.i (4 * (dv a0 7 256)))]) ?_ (kp rfl) rfl
   refine fin_then ?_
   refine aw_seq ?_
   refine aw_text (rows := [_, _, _, _]) rfl (by kernel_rfl) ⟨
    ok_plain rfl rfl (op_build (x := .g [.i 0, .i 0]) (ltN rfl) EvL.nil (fun m w => by kernel_rfl)),
    ok_plain rfl rfl (op_buildSlice (L := 15) (ety := 84) (cs := [.i 0, .i 0]) (ltN rfl) (EvL.cons rfl EvL.nil) rfl (fun m w => by kernel_rfl)),
    ok_plain rfl rfl (op_fieldAddr (ltN rfl) rfl fo_25_6),
    ok_plain rfl rfl (op_store1 sz_23 rfl rfl rfl rfl (ltN rfl)),
    trivial⟩ ?_
   refine fin_keep (s' := [kt 2 (.p 1 0), kt 3 (.f (.func 83) [] [.p 2 0, .p 3 0]), kt 4 (.p 4 0), kt 5 (.i 0), kt 6 (.i 0), kb 1 25 11, kb 2 3 1, kb 3 22 1, kb 4 25 11, kb 15 84 2, (.r 300, some (.vec true 301 84 2 (x1.1.flatMap encPt))), (.r 302, some (.vec true 303 84 2 (x3.1.flatMap encPt))), kc 1 0 (.i 0), kc 1 1 (.i 0), kc 1 2 (.i 0), kc 1 3 (.i 0), kc 1 4 (.v (.slice none 0 0)), kc 1 5 (.v (.slice none 0 0)), kc 1 6 (.v (.slice none 0 0)), kc 1 7 (.i 0), kc 1 8 (.i 0), kc 1 9 (.i 0), kc 1 10 (.i 0), kc 2 0 (.i (idx a0 x3.2)), kc 3 0 (.v (.slice a0_p a0.length a0_c)), kc 4 0 (.i (1 + (dv a0 0 6))), kc 4 1 (.i (100 + (390 * (dv a0 1 256)))), kc 4 2 (.i (10 + (7 * (dv a0 2 256)))), kc 4 3 (.i (10 + (1900 * (dv a0 3 256)))), kc 4 4 (.o 300 301 x1.1.length), kc 4 5 (.o 302 303 x3.1.length), kc 4 6 (.s 15 0 1 1), kc 4 7 (.i (dv a0 4 21)), kc 4 8 (.i (dv a0 5 101)), kc 4 9 (.i (2 * (dv a0 6 240))), kc 4 10 (.i (4 * (dv a0 7 256))), kc 15 0 (.i 0), kc 15 1 (.i 0)]) ?_ (kp rfl) rfl
   refine fin_then ?_
   refine aw_cutM (ι := Int × List Pt × Nat) hm (fun x5 => [kt 2 (.p 1 0), kt 3 (.f (.func 83) [] [.p 2 0, .p 3 0]), kt 4 (.p 4 0), kt 6 (.i x5.1), kb 1 25 11, kb 2 3 1, kb 3 22 1, kb 4 25 11, (.r 300, some (.vec true 301 84 2 (x1.1.flatMap encPt))), (.r 302, some (.vec true 303 84 2 (x3.1.flatMap encPt))), (.r 304, some (.vec true 305 84 2 (x5.2.1.flatMap encPt))), kc 1 0 (.i 0), kc 1 1 (.i 0), kc 1 2 (.i 0), kc 1 3 (.i 0), kc 1 4 (.v (.slice none 0 0)), kc 1 5 (.v (.slice none 0 0)), kc 1 6 (.v (.slice none 0 0)), kc 1 7 (.i 0), kc 1 8 (.i 0), kc 1 9 (.i 0), kc 1 10 (.i 0), kc 2 0 (.i (idx a0 x5.2.2)), kc 3 0 (.v (.slice a0_p a0.length a0_c)), kc 4 0 (.i (1 + (dv a0 0 6))), kc 4 1 (.i (100 + (390 * (dv a0 1 256)))), kc 4 2 (.i (10 + (7 * (dv a0 2 256)))), kc 4 3 (.i (10 + (1900 * (dv a0 3 256)))), kc 4 4 (.o 300 301 x1.1.length), kc 4 5 (.o 302 303 x3.1.length), kc 4 6 (.o 304 305 x5.2.1.length), kc 4 7 (.i (dv a0 4 21)), kc 4 8 (.i (dv a0 5 101)), kc 4 9 (.i (2 * (dv a0 6 240))), kc 4 10 (.i (4 * (dv a0 7 256)))]) (fun hm => ?_) (fun x5 hm => ?_)
   ·have _z := hm
    refine aw_seq ?_
    refine aw_text (rows := [_, _, _]) rfl (by kernel_rfl) ⟨
     ok_plain rfl rfl (op_move (ltN rfl) rfl),
     ok_plain rfl rfl (op_callLentL (ls := [⟨2, 3, [.i (idx a0 x3.2)], [.i (idx a0 (x3.2 + 1))]⟩, ⟨3, 22, [.v (.slice a0_p a0.length a0_c)], [.v (.slice a0_p a0.length a0_c)]⟩]) (x := .i (dv a0 x3.2 4)) (fs := []) (caps := [.p 2 0, .p 3 0]) (extra := []) (ltN rfl) en_83 rfl ⟨rfl, rfl, rfl⟩ (EvL.cons rfl EvL.nil) ⟨rfl, ⟨rfl, trivial⟩, rfl, lb_ne rfl, ⟨rfl, ⟨rfl, trivial⟩, rfl, lb_ne rfl, trivial⟩⟩ (fun mm aa ww gg hr hrel hbx hlo => c83L 4 x3.2 (mm 2) a0 ⟨a0_p, a0.length, a0_c⟩ (mm 3) ww (hbx _ (.head _)) (hbx _ (.tail _ (.head _))) (SlIs.mono ha0 hrel.below) (sl_ne ha0 (box_hi hrel hlo.1)) (box_ne hrel hlo.2.2.2.2.1 hlo.1 (by decide)) (by decide) h8a0 hlena0)),
     ok_plain rfl rfl (op_move (ltN rfl) rfl),
     trivial⟩ ?_
    refine fin_keep (s' := [kt 2 (.p 1 0), kt 3 (.f (.func 83) [] [.p 2 0, .p 3 0]), kt 4 (.p 4 0), kt 5 (.i 0), kt 6 (.i 0), kt 101 (.i (dv a0 x3.2 4)), kt 102 (.i 0), kb 1 25 11, kb 2 3 1, kb 3 22 1, kb 4 25 11, kb 15 84 2, (.r 300, some (.vec true 301 84 2 (x1.1.flatMap encPt))), (.r 302, some (.vec true 303 84 2 (x3.1.flatMap encPt))), kc 1 0 (.i 0), kc 1 1 (.i 0), kc 1 2 (.i 0), kc 1 3 (.i 0), kc 1 4 (.v (.slice none 0 0)), kc 1 5 (.v (.slice none 0 0)), kc 1 6 (.v (.slice none 0 0)), kc 1 7 (.i 0), kc 1 8 (.i 0), kc 1 9 (.i 0), kc 1 10 (.i 0), kc 2 0 (.i (idx a0 (x3.2 + 1))), kc 3 0 (.v (.slice a0_p a0.length a0_c)), kc 4 0 (.i (1 + (dv a0 0 6))), kc 4 1 (.i (100 + (390 * (dv a0 1 256)))), kc 4 2 (.i (10 + (7 * (dv a0 2 256)))), kc 4 3 (.i (10 + (1900 * (dv a0 3 256)))), kc 4 4 (.o 300 301 x1.1.length), kc 4 5 (.o 302 303 x3.1.length), kc 4 6 (.s 15 0 1 1), kc 4 7 (.i (dv a0 4 21)), kc 4 8 (.i (dv a0 5 101)), kc 4 9 (.i (2 * (dv a0 6 240))), kc 4 10 (.i (4 * (dv a0 7 256))), kc 15 0 (.i 0), kc 15 1 (.i 0)]) ?_ (kp rfl) rfl
    refine fin_then ?_
    refine aw_block ?_
    refine aw_toRow (.c 4 6) 15 16 1 2 [(.int .i64 0), (.int .i64 0)] rfl rfl rfl rfl (by decide) ⟨rfl, rfl, trivial⟩ rfl (by decide) rfl ?_
    refine aw_swp [(15, 304), (16, 305)] rfl ?_
    refine aw_loopC hm (fun x6 => [kt 2 (.p 1 0), kt 3 (.f (.func 83) [] [.p 2 0, .p 3 0]), kt 4 (.p 4 0), kt 5 (.i x6.1), kt 6 (.i x6.2.1), kt 101 (.i (dv a0 x3.2 4)), kt 102 (.i x6.2.2.1), kb 1 25 11, kb 2 3 1, kb 3 22 1, kb 4 25 11, (.r 300, some (.vec true 301 84 2 (x1.1.flatMap encPt))), (.r 302, some (.vec true 303 84 2 (x3.1.flatMap encPt))), (.r 304, some (.vec true 305 84 2 (x6.2.2.2.1.flatMap encPt))), kc 1 0 (.i 0), kc 1 1 (.i 0), kc 1 2 (.i 0), kc 1 3 (.i 0), kc 1 4 (.v (.slice none 0 0)), kc 1 5 (.v (.slice none 0 0)), kc 1 6 (.v (.slice none 0 0)), kc 1 7 (.i 0), kc 1 8 (.i 0), kc 1 9 (.i 0), kc 1 10 (.i 0), kc 2 0 (.i (idx a0 x6.2.2.2.2)), kc 3 0 (.v (.slice a0_p a0.length a0_c)), kc 4 0 (.i (1 + (dv a0 0 6))), kc 4 1 (.i (100 + (390 * (dv a0 1 256)))), kc 4 2 (.i (10 + (7 * (dv a0 2 256)))), kc 4 3 (.i (10 + (1900 * (dv a0 3 256)))), kc 4 4 (.o 300 301 x1.1.length), kc 4 5 (.o 302 303 x3.1.length), kc 4 6 (.o 304 305 x6.2.2.2.1.length), kc 4 7 (.i (dv a0 4 21)), kc 4 8 (.i (dv a0 5 101)), kc 4 9 (.i (2 * (dv a0 6 240))), kc 4 10 (.i (4 * (dv a0 7 256)))]) ⟨rfl, rfl, rfl, rfl, rfl, rfl, rfl, rfl, rfl, rfl, rfl, rfl, rfl, rfl, rfl, rfl, rfl, rfl, rfl, rfl, rfl, rfl, rfl, rfl, rfl, rfl, rfl, rfl, rfl, rfl, rfl, rfl, rfl, rfl, rfl, rfl, rfl, rfl, trivial⟩ rfl (fun x6 n6 hm => ?_)
    refine aw_seq ?_
    refine aw_text (rows := [_]) rfl (by kernel_rfl) ⟨
     ok_plain rfl rfl (op_bin (ltN rfl) rfl rfl rfl),
     trivial⟩ ?_
    refine fin_keep (s' := [kt 2 (.p 1 0), kt 3 (.f (.func 83) [] [.p 2 0, .p 3 0]), kt 4 (.p 4 0), kt 5 (.i x6.1), kt 6 (.i x6.2.1), kt 101 (.i (dv a0 x3.2 4)), kt 102 (.i x6.2.2.1), kt 103 (.B (decide (x6.2.2.1 < (dv a0 x3.2 4)))), kb 1 25 11, kb 2 3 1, kb 3 22 1, kb 4 25 11, (.r 300, some (.vec true 301 84 2 (x1.1.flatMap encPt))), (.r 302, some (.vec true 303 84 2 (x3.1.flatMap encPt))), (.r 304, some (.vec true 305 84 2 (x6.2.2.2.1.flatMap encPt))), kc 1 0 (.i 0), kc 1 1 (.i 0), kc 1 2 (.i 0), kc 1 3 (.i 0), kc 1 4 (.v (.slice none 0 0)), kc 1 5 (.v (.slice none 0 0)), kc 1 6 (.v (.slice none 0 0)), kc 1 7 (.i 0), kc 1 8 (.i 0), kc 1 9 (.i 0), kc 1 10 (.i 0), kc 2 0 (.i (idx a0 x6.2.2.2.2)), kc 3 0 (.v (.slice a0_p a0.length a0_c)), kc 4 0 (.i (1 + (dv a0 0 6))), kc 4 1 (.i (100 + (390 * (dv a0 1 256)))), kc 4 2 (.i (10 + (7 * (dv a0 2 256)))), kc 4 3 (.i (10 + (1900 * (dv a0 3 256)))), kc 4 4 (.o 300 301 x1.1.length), kc 4 5 (.o 302 303 x3.1.length), kc 4 6 (.o 304 305 x6.2.2.2.1.length), kc 4 7 (.i (dv a0 4 21)), kc 4 8 (.i (dv a0 5 101)), kc 4 9 (.i (2 * (dv a0 6 240))), kc 4 10 (.i (4 * (dv a0 7 256)))]) ?_ (kp rfl) rfl
    refine fin_then ?_
    refine aw_seq ?_
    refine aw_cond rfl (fun hz28 => ?_) (fun hz28 => ?_)
    ·have hm := brk_t hz28 hm
     refine aw_skip ?_
     refine fin_then ?_
     refine aw_seq ?_
     refine aw_block ?_
     refine aw_seq ?_
     obtain ⟨hp29, hm⟩ := chk_some hm
     obtain ⟨hp30, hm⟩ := chk_some hm
     obtain ⟨hp31, hm⟩ := chk_some hm
     obtain ⟨hp32, hm⟩ := chk_some hm
     refine aw_text (rows := [_, _, _, _, _, _, _, _, _, _, _, _]) rfl (by kernel_rfl) ⟨
      ok_plain rfl rfl (op_move (ltN rfl) rfl),
      ok_plain rfl rfl (op_bin (ltN rfl) rfl rfl (nw_add hp29)),
      ok_plain rfl rfl (op_move (ltN rfl) rfl),
      ok_plain rfl rfl (op_callLentL (ls := [⟨2, 3, [.i (idx a0 x6.2.2.2.2)], [.i (idx a0 (x6.2.2.2.2 + 1))]⟩, ⟨3, 22, [.v (.slice a0_p a0.length a0_c)], [.v (.slice a0_p a0.length a0_c)]⟩]) (x := .i (dv a0 x6.2.2.2.2 90)) (fs := []) (caps := [.p 2 0, .p 3 0]) (extra := []) (ltN rfl) en_83 rfl ⟨rfl, rfl, rfl⟩ (EvL.cons rfl EvL.nil) ⟨rfl, ⟨rfl, trivial⟩, rfl, lb_ne rfl, ⟨rfl, ⟨rfl, trivial⟩, rfl, lb_ne rfl, trivial⟩⟩ (fun mm aa ww gg hr hrel hbx hlo => c83L 90 x6.2.2.2.2 (mm 2) a0 ⟨a0_p, a0.length, a0_c⟩ (mm 3) ww (hbx _ (.head _)) (hbx _ (.tail _ (.head _))) (SlIs.mono ha0 hrel.below) (sl_ne ha0 (box_hi hrel hlo.1)) (box_ne hrel hlo.2.2.2.2.1 hlo.1 (by decide)) (by decide) h8a0 hlena0)),
      ok_plain rfl rfl (op_bin (ltN rfl) rfl rfl (nw_add hp30)),
      ok_plain rfl rfl (op_move (ltN rfl) rfl),
      ok_plain rfl rfl (op_move (ltN rfl) rfl),
      ok_plain rfl rfl (op_callLentL (ls := [⟨2, 3, [.i (idx a0 (x6.2.2.2.2 + 1))], [.i (idx a0 ((x6.2.2.2.2 + 1) + 1))]⟩, ⟨3, 22, [.v (.slice a0_p a0.length a0_c)], [.v (.slice a0_p a0.length a0_c)]⟩]) (x := .i (dv a0 ((x6.2.2.2.2 + 1)) 256)) (fs := []) (caps := [.p 2 0, .p 3 0]) (extra := []) (ltN rfl) en_83 rfl ⟨rfl, rfl, rfl⟩ (EvL.cons rfl EvL.nil) ⟨rfl, ⟨rfl, trivial⟩, rfl, lb_ne rfl, ⟨rfl, ⟨rfl, trivial⟩, rfl, lb_ne rfl, trivial⟩⟩ (fun mm aa ww gg hr hrel hbx hlo => c83L 256 ((x6.2.2.2.2 + 1)) (mm 2) a0 ⟨a0_p, a0.length, a0_c⟩ (mm 3) ww (hbx _ (.head _)) (hbx _ (.tail _ (.head _))) (SlIs.mono ha0 hrel.below) (sl_ne ha0 (box_hi hrel hlo.1)) (box_ne hrel hlo.2.2.2.2.1 hlo.1 (by decide)) (by decide) h8a0 hlena0)),
      ok_plain rfl rfl (op_bin (ltN rfl) rfl rfl (nw_mul hp31)),
      ok_plain rfl rfl (op_bin (ltN rfl) rfl rfl (nw_add hp32)),
      ok_plain rfl rfl (op_assign (ltN rfl) rfl),
      ok_plain rfl rfl (op_assign (ltN rfl) rfl),
      trivial⟩ ?_
     refine fin_keep (s' := [kt 2 (.p 1 0), kt 3 (.f (.func 83) [] [.p 2 0, .p 3 0]), kt 4 (.p 4 0), kt 5 (.i ((x6.1 + 1) + (dv a0 x6.2.2.2.2 90))), kt 6 (.i (x6.2.1 + (3 * (dv a0 ((x6.2.2.2.2 + 1)) 256)))), kt 101 (.i (dv a0 x3.2 4)), kt 102 (.i x6.2.2.1), kb 1 25 11, kb 2 3 1, kb 3 22 1, kb 4 25 11, (.r 300, some (.vec true 301 84 2 (x1.1.flatMap encPt))), (.r 302, some (.vec true 303 84 2 (x3.1.flatMap encPt))), (.r 304, some (.vec true 305 84 2 (x6.2.2.2.1.flatMap encPt))), kc 1 0 (.i 0), kc 1 1 (.i 0), kc 1 2 (.i 0), kc 1 3 (.i 0), kc 1 4 (.v (.slice none 0 0)), kc 1 5 (.v (.slice none 0 0)), kc 1 6 (.v (.slice none 0 0)), kc 1 7 (.i 0), kc 1 8 (.i 0), kc 1 9 (.i 0), kc 1 10 (.i 0), kc 2 0 (.i (idx a0 ((x6.2.2.2.2 + 1) + 1))), kc 3 0 (.v (.slice a0_p a0.length a0_c)), kc 4 0 (.i (1 + (dv a0 0 6))), kc 4 1 (.i (100 + (390 * (dv a0 1 256)))), kc 4 2 (.i (10 + (7 * (dv a0 2 256)))), kc 4 3 (.i (10 + (1900 * (dv a0 3 256)))), kc 4 4 (.o 300 301 x1.1.length), kc 4 5 (.o 302 303 x3.1.length), kc 4 6 (.o 304 305 x6.2.2.2.1.length), kc 4 7 (.i (dv a0 4 21)), kc 4 8 (.i (dv a0 5 101)), kc 4 9 (.i (2 * (dv a0 6 240))), kc 4 10 (.i (4 * (dv a0 7 256)))]) ?_ (kp rfl) rfl
     refine fin_then ?_
     obtain ⟨hp33, hm⟩ := chk_some hm
     refine aw_text (rows := [_, _, _, _, _, _, _, _, _]) rfl (by kernel_rfl) ⟨
      ok_plain rfl rfl (op_fieldAddr (ltN rfl) rfl fo_25_6),
      ok_plain rfl rfl (op_load1 (ltN rfl) sh_23 rfl rfl),
      ok_plain rfl rfl (op_move (ltN rfl) rfl),
      ok_plain rfl rfl (op_move (ltN rfl) rfl),
      ok_plain rfl rfl (op_build (x := .g [.i ((x6.1 + 1) + (dv a0 x6.2.2.2.2 90)), .i (x6.2.1 + (3 * (dv a0 ((x6.2.2.2.2 + 1)) 256)))]) (ltN rfl) (EvL.cons rfl (EvL.cons rfl EvL.nil)) (fun m w => by kernel_rfl)),
      ok_plain rfl rfl (op_buildSlice (L := 17) (ety := 84) (cs := [.i ((x6.1 + 1) + (dv a0 x6.2.2.2.2 90)), .i (x6.2.1 + (3 * (dv a0 ((x6.2.2.2.2 + 1)) 256)))]) (ltN rfl) (EvL.cons rfl EvL.nil) rfl (fun m w => by kernel_rfl)),
      ok_plain rfl rfl (op_append (L' := 18) (C' := 19) (vs := [(.int .i64 ((x6.1 + 1) + (dv a0 x6.2.2.2.2 90))), (.int .i64 (x6.2.1 + (3 * (dv a0 ((x6.2.2.2.2 + 1)) 256))))]) (ltN rfl) af_23 rfl rfl (flat_length (enc := encPt) (fun _ => rfl) x6.2.2.2.1) rfl ⟨rfl, rfl, trivial⟩ rfl rfl (by decide) (by have := hp33; omega) (by have := hp33; omega) (by decide)),
      ok_plain rfl rfl (op_fieldAddr (ltN rfl) rfl fo_25_6),
      ok_plain rfl rfl (op_store1 sz_23 rfl rfl rfl rfl (ltN rfl)),
      trivial⟩ ?_
     refine fin_keep (s' := [kt 2 (.p 1 0), kt 3 (.f (.func 83) [] [.p 2 0, .p 3 0]), kt 4 (.p 4 0), kt 5 (.i ((x6.1 + 1) + (dv a0 x6.2.2.2.2 90))), kt 6 (.i (x6.2.1 + (3 * (dv a0 ((x6.2.2.2.2 + 1)) 256)))), kt 101 (.i (dv a0 x3.2 4)), kt 102 (.i x6.2.2.1), kb 1 25 11, kb 2 3 1, kb 3 22 1, kb 4 25 11, (.r 18, some (.vec true 19 84 2 ((x6.2.2.2.1 ++ [(⟨(x6.1 + 1) + (dv a0 x6.2.2.2.2 90), x6.2.1 + (3 * (dv a0 ((x6.2.2.2.2 + 1)) 256))⟩ : Pt)]).flatMap encPt))), (.r 300, some (.vec true 301 84 2 (x1.1.flatMap encPt))), (.r 302, some (.vec true 303 84 2 (x3.1.flatMap encPt))), kc 1 0 (.i 0), kc 1 1 (.i 0), kc 1 2 (.i 0), kc 1 3 (.i 0), kc 1 4 (.v (.slice none 0 0)), kc 1 5 (.v (.slice none 0 0)), kc 1 6 (.v (.slice none 0 0)), kc 1 7 (.i 0), kc 1 8 (.i 0), kc 1 9 (.i 0), kc 1 10 (.i 0), kc 2 0 (.i (idx a0 ((x6.2.2.2.2 + 1) + 1))), kc 3 0 (.v (.slice a0_p a0.length a0_c)), kc 4 0 (.i (1 + (dv a0 0 6))), kc 4 1 (.i (100 + (390 * (dv a0 1 256)))), kc 4 2 (.i (10 + (7 * (dv a0 2 256)))), kc 4 3 (.i (10 + (1900 * (dv a0 3 256)))), kc 4 4 (.o 300 301 x1.1.length), kc 4 5 (.o 302 303 x3.1.length), kc 4 6 (.o 18 19 ((x6.2.2.2.1 ++ [(⟨(x6.1 + 1) + (dv a0 x6.2.2.2.2 90), x6.2.1 + (3 * (dv a0 ((x6.2.2.2.2 + 1)) 256))⟩ : Pt)]).length)), kc 4 7 (.i (dv a0 4 21)), kc 4 8 (.i (dv a0 5 101)), kc 4 9 (.i (2 * (dv a0 6 240))), kc 4 10 (.i (4 * (dv a0 7 256)))]) ?_ ⟨rfl, rfl, rfl, rfl, rfl, rfl, rfl, rfl, rfl, rfl, rfl, (Eq.trans (b := some (Val.vec true 19 84 2 (x6.2.2.2.1.flatMap encPt ++ [(.int .i64 ((x6.1 + 1) + (dv a0 x6.2.2.2.2 90))), (.int .i64 (x6.2.1 + (3 * (dv a0 ((x6.2.2.2.2 + 1)) 256))))]))) rfl (congrArg (fun q => some (Val.vec true 19 84 2 q)) (flat_snoc (enc := encPt) x6.2.2.2.1 ((⟨(x6.1 + 1) + (dv a0 x6.2.2.2.2 90), x6.2.1 + (3 * (dv a0 ((x6.2.2.2.2 + 1)) 256))⟩ : Pt))))), rfl, rfl, rfl, rfl, rfl, rfl, rfl, rfl, rfl, rfl, rfl, rfl, rfl, rfl, rfl, rfl, rfl, rfl, rfl, rfl, rfl, (congrArg (fun q => some (Val.x (SV.o 18 19 q))) (len_snoc x6.2.2.2.1 ((⟨(x6.1 + 1) + (dv a0 x6.2.2.2.2 90), x6.2.1 + (3 * (dv a0 ((x6.2.2.2.2 + 1)) 256))⟩ : Pt)))), rfl, rfl, rfl, rfl, trivial⟩ rfl
     refine fin_block ?_
     refine fin_then ?_
     obtain ⟨hp34, hm⟩ := chk_some hm
     refine aw_text (rows := [_, _]) rfl (by kernel_rfl) ⟨
      ok_plain rfl rfl (op_bin (ltN rfl) rfl rfl (nw_add hp34)),
      ok_plain rfl rfl (op_move (ltN rfl) rfl),
      trivial⟩ ?_
     refine fin_keep (s' := [kt 2 (.p 1 0), kt 3 (.f (.func 83) [] [.p 2 0, .p 3 0]), kt 4 (.p 4 0), kt 5 (.i ((x6.1 + 1) + (dv a0 x6.2.2.2.2 90))), kt 6 (.i (x6.2.1 + (3 * (dv a0 ((x6.2.2.2.2 + 1)) 256)))), kt 101 (.i (dv a0 x3.2 4)), kt 102 (.i (x6.2.2.1 + 1)), kb 1 25 11, kb 2 3 1, kb 3 22 1, kb 4 25 11, (.r 18, some (.vec true 19 84 2 ((x6.2.2.2.1 ++ [(⟨(x6.1 + 1) + (dv a0 x6.2.2.2.2 90), x6.2.1 + (3 * (dv a0 ((x6.2.2.2.2 + 1)) 256))⟩ : Pt)]).flatMap encPt))), (.r 300, some (.vec true 301 84 2 (x1.1.flatMap encPt))), (.r 302, some (.vec true 303 84 2 (x3.1.flatMap encPt))), kc 1 0 (.i 0), kc 1 1 (.i 0), kc 1 2 (.i 0), kc 1 3 (.i 0), kc 1 4 (.v (.slice none 0 0)), kc 1 5 (.v (.slice none 0 0)), kc 1 6 (.v (.slice none 0 0)), kc 1 7 (.i 0), kc 1 8 (.i 0), kc 1 9 (.i 0), kc 1 10 (.i 0), kc 2 0 (.i (idx a0 ((x6.2.2.2.2 + 1) + 1))), kc 3 0 (.v (.slice a0_p a0.length a0_c)), kc 4 0 (.i (1 + (dv a0 0 6))), kc 4 1 (.i (100 + (390 * (dv a0 1 256)))), kc 4 2 (.i (10 + (7 * (dv a0 2 256)))), kc 4 3 (.i (10 + (1900 * (dv a0 3 256)))), kc 4 4 (.o 300 301 x1.1.length), kc 4 5 (.o 302 303 x3.1.length), kc 4 6 (.o 18 19 ((x6.2.2.2.1 ++ [(⟨(x6.1 + 1) + (dv a0 x6.2.2.2.2 90), x6.2.1 + (3 * (dv a0 ((x6.2.2.2.2 + 1)) 256))⟩ : Pt)]).length)), kc 4 7 (.i (dv a0 4 21)), kc 4 8 (.i (dv a0 5 101)), kc 4 9 (.i (2 * (dv a0 6 240))), kc 4 10 (.i (4 * (dv a0 7 256)))]) ?_ (kp rfl) rfl
     refine fin_swp [(18, 304), (19, 305)] rfl ?_
     exact fin_cut ((x6.1 + 1) + (dv a0 x6.2.2.2.2 90), x6.2.1 + (3 * (dv a0 ((x6.2.2.2.2 + 1)) 256)), x6.2.2.1 + 1, (x6.2.2.2.1 ++ [(⟨(x6.1 + 1) + (dv a0 x6.2.2.2.2 90), x6.2.1 + (3 * (dv a0 ((x6.2.2.2.2 + 1)) 256))⟩ : Pt)]), ((x6.2.2.2.2 + 1) + 1)) hm ⟨rfl, rfl, rfl, rfl, rfl, rfl, rfl, rfl, rfl, rfl, rfl, rfl, rfl, rfl, rfl, rfl, rfl, rfl, rfl, rfl, rfl, rfl, rfl, rfl, rfl, rfl, rfl, rfl, rfl, rfl, rfl, rfl, rfl, rfl, rfl, rfl, rfl, rfl, trivial⟩ rfl
    ·have hm := brk_f hz28 hm
     refine aw_exit ?_
     refine fin_then_exit ?_
     refine fin_then_exit ?_
     refine fin_block_exit ?_
     exact fin_cut (x6.2.1, x6.2.2.2.1, x6.2.2.2.2) hm ⟨rfl, rfl, rfl, rfl, rfl, rfl, rfl, rfl, rfl, rfl, rfl, rfl, rfl, rfl, rfl, rfl, rfl, rfl, rfl, rfl, rfl, rfl, rfl, rfl, rfl, rfl, rfl, rfl, rfl, rfl, rfl, rfl, rfl, rfl, rfl, trivial⟩ rfl
   ·have _z := hm
    refine aw_seq ?_
    obtain ⟨hp35, hm⟩ := chk_some hm
    obtain ⟨hp36, hm⟩ := chk_some hm
    obtain ⟨hp37, hm⟩ := chk_some hm
    refine aw_any (rows := [_, _, _, _, _, _, _, _, _, _, _, _]) (M := [0, 1, 0, 0, 8, 24, 60, 124, 252, 511, 1023, 2047]) Tryd_mixed (by kernel_rfl) rfl (by kernel_rfl) ⟨
     ok_plain rfl rfl (op_fieldAddr (ltN rfl) rfl fo_25_6),
     ok_plain rfl rfl (op_load1 (ltN rfl) sh_23 rfl rfl),
     ok_plain rfl rfl (op_move (ltN rfl) rfl),
     ok_plain rfl rfl (op_move (ltN rfl) rfl),
     ok_plain rfl rfl (op_callLentL (ls := [⟨2, 3, [.i (idx a0 x5.2.2)], [.i (idx a0 (x5.2.2 + 1))]⟩, ⟨3, 22, [.v (.slice a0_p a0.length a0_c)], [.v (.slice a0_p a0.length a0_c)]⟩]) (x := .i (dv a0 x5.2.2 256)) (fs := []) (caps := [.p 2 0, .p 3 0]) (extra := []) (ltN rfl) en_83 rfl ⟨rfl, rfl, rfl⟩ (EvL.cons rfl EvL.nil) ⟨rfl, ⟨rfl, trivial⟩, rfl, lb_ne rfl, ⟨rfl, ⟨rfl, trivial⟩, rfl, lb_ne rfl, trivial⟩⟩ (fun mm aa ww gg hr hrel hbx hlo => c83L 256 x5.2.2 (mm 2) a0 ⟨a0_p, a0.length, a0_c⟩ (mm 3) ww (hbx _ (.head _)) (hbx _ (.tail _ (.head _))) (SlIs.mono ha0 hrel.below) (sl_ne ha0 (box_hi hrel hlo.1)) (box_ne hrel hlo.2.2.2.2.1 hlo.1 (by decide)) (by decide) h8a0 hlena0)),
     ok_plain rfl rfl (op_bin (ltN rfl) rfl rfl (nw_mul hp35)),
     ok_plain rfl rfl (op_bin (ltN rfl) rfl rfl (nw_add hp36)),
     ok_plain rfl rfl (op_build (x := .g [.i 400, .i (x5.1 + (4 * (dv a0 x5.2.2 256)))]) (ltN rfl) (EvL.cons rfl (EvL.cons rfl EvL.nil)) (fun m w => by kernel_rfl)),
     ok_plain rfl rfl (op_buildSlice (L := 20) (ety := 84) (cs := [.i 400, .i (x5.1 + (4 * (dv a0 x5.2.2 256)))]) (ltN rfl) (EvL.cons rfl EvL.nil) rfl (fun m w => by kernel_rfl)),
     ok_plain rfl rfl (op_append (L' := 21) (C' := 22) (vs := [(.int .i64 400), (.int .i64 (x5.1 + (4 * (dv a0 x5.2.2 256))))]) (ltN rfl) af_23 rfl rfl (flat_length (enc := encPt) (fun _ => rfl) x5.2.1) rfl ⟨rfl, rfl, trivial⟩ rfl rfl (by decide) (by have := hp37; omega) (by have := hp37; omega) (by decide)),
     ok_plain rfl rfl (op_fieldAddr (ltN rfl) rfl fo_25_6),
     ok_plain rfl rfl (op_store1 sz_23 rfl rfl rfl rfl (ltN rfl)),
     trivial⟩ ?_
    refine fin_keep (s' := [kt 2 (.p 1 0), kt 4 (.p 4 0), kb 1 25 11, kb 4 25 11, (.r 21, some (.vec true 22 84 2 ((x5.2.1 ++ [(⟨400, x5.1 + (4 * (dv a0 x5.2.2 256))⟩ : Pt)]).flatMap encPt))), (.r 300, some (.vec true 301 84 2 (x1.1.flatMap encPt))), (.r 302, some (.vec true 303 84 2 (x3.1.flatMap encPt))), kc 1 0 (.i 0), kc 1 1 (.i 0), kc 1 2 (.i 0), kc 1 3 (.i 0), kc 1 4 (.v (.slice none 0 0)), kc 1 5 (.v (.slice none 0 0)), kc 1 6 (.v (.slice none 0 0)), kc 1 7 (.i 0), kc 1 8 (.i 0), kc 1 9 (.i 0), kc 1 10 (.i 0), kc 4 0 (.i (1 + (dv a0 0 6))), kc 4 1 (.i (100 + (390 * (dv a0 1 256)))), kc 4 2 (.i (10 + (7 * (dv a0 2 256)))), kc 4 3 (.i (10 + (1900 * (dv a0 3 256)))), kc 4 4 (.o 300 301 x1.1.length), kc 4 5 (.o 302 303 x3.1.length), kc 4 6 (.o 21 22 ((x5.2.1 ++ [(⟨400, x5.1 + (4 * (dv a0 x5.2.2 256))⟩ : Pt)]).length)), kc 4 7 (.i (dv a0 4 21)), kc 4 8 (.i (dv a0 5 101)), kc 4 9 (.i (2 * (dv a0 6 240))), kc 4 10 (.i (4 * (dv a0 7 256)))]) ?_ ⟨rfl, rfl, rfl, rfl, (Eq.trans (b := some (Val.vec true 22 84 2 (x5.2.1.flatMap encPt ++ [(.int .i64 400), (.int .i64 (x5.1 + (4 * (dv a0 x5.2.2 256))))]))) rfl (congrArg (fun q => some (Val.vec true 22 84 2 q)) (flat_snoc (enc := encPt) x5.2.1 ((⟨400, x5.1 + (4 * (dv a0 x5.2.2 256))⟩ : Pt))))), rfl, rfl, rfl, rfl, rfl, rfl, rfl, rfl, rfl, rfl, rfl, rfl, rfl, rfl, rfl, rfl, rfl, rfl, rfl, (congrArg (fun q => some (Val.x (SV.o 21 22 q))) (len_snoc x5.2.1 ((⟨400, x5.1 + (4 * (dv a0 x5.2.2 256))⟩ : Pt)))), rfl, rfl, rfl, rfl, trivial⟩ rfl
    refine fin_then ?_
    refine aw_seq ?_
    refine aw_text (rows := [_, _]) rfl (by kernel_rfl) ⟨
     ok_plain rfl rfl (op_loadN (ys := [.i (1 + (dv a0 0 6)), .i (100 + (390 * (dv a0 1 256))), .i (10 + (7 * (dv a0 2 256))), .i (10 + (1900 * (dv a0 3 256))), .o 300 301 x1.1.length, .o 302 303 x3.1.length, .o 21 22 ((x5.2.1 ++ [(⟨400, x5.1 + (4 * (dv a0 x5.2.2 256))⟩ : Pt)]).length), .i (dv a0 4 21), .i (dv a0 5 101), .i (2 * (dv a0 6 240)), .i (4 * (dv a0 7 256))]) (ltN rfl) sh_25 rfl rfl ⟨rfl, rfl, rfl, rfl, rfl, rfl, rfl, rfl, rfl, rfl, rfl, trivial⟩),
     ok_plain rfl rfl (op_storeN sz_25 rfl rfl rfl rfl rfl (by decide)),
     trivial⟩ ?_
    refine fin_keep (s' := [kt 2 (.p 1 0), kb 1 25 11, (.r 21, some (.vec true 22 84 2 ((x5.2.1 ++ [(⟨400, x5.1 + (4 * (dv a0 x5.2.2 256))⟩ : Pt)]).flatMap encPt))), (.r 300, some (.vec true 301 84 2 (x1.1.flatMap encPt))), (.r 302, some (.vec true 303 84 2 (x3.1.flatMap encPt))), kc 1 0 (.i (1 + (dv a0 0 6))), kc 1 1 (.i (100 + (390 * (dv a0 1 256)))), kc 1 2 (.i (10 + (7 * (dv a0 2 256)))), kc 1 3 (.i (10 + (1900 * (dv a0 3 256)))), kc 1 4 (.o 300 301 x1.1.length), kc 1 5 (.o 302 303 x3.1.length), kc 1 6 (.o 21 22 ((x5.2.1 ++ [(⟨400, x5.1 + (4 * (dv a0 x5.2.2 256))⟩ : Pt)]).length)), kc 1 7 (.i (dv a0 4 21)), kc 1 8 (.i (dv a0 5 101)), kc 1 9 (.i (2 * (dv a0 6 240))), kc 1 10 (.i (4 * (dv a0 7 256)))]) ?_ (kp rfl) rfl
    refine fin_then ?_
    refine aw_ret ?_
    refine post_ret (x := .g [.i (1 + (dv a0 0 6)), .i (100 + (390 * (dv a0 1 256))), .i (10 + (7 * (dv a0 2 256))), .i (10 + (1900 * (dv a0 3 256))), .o 300 301 x1.1.length, .o 302 303 x3.1.length, .o 21 22 ((x5.2.1 ++ [(⟨400, x5.1 + (4 * (dv a0 x5.2.2 256))⟩ : Pt)]).length), .i (dv a0 4 21), .i (dv a0 5 101), .i (2 * (dv a0 6 240)), .i (4 * (dv a0 7 256))]) rfl rfl (resOK_cellN (ys := [.i (1 + (dv a0 0 6)), .i (100 + (390 * (dv a0 1 256))), .i (10 + (7 * (dv a0 2 256))), .i (10 + (1900 * (dv a0 3 256))), .o 300 301 x1.1.length, .o 302 303 x3.1.length, .o 21 22 ((x5.2.1 ++ [(⟨400, x5.1 + (4 * (dv a0 x5.2.2 256))⟩ : Pt)]).length), .i (dv a0 4 21), .i (dv a0 5 101), .i (2 * (dv a0 6 240)), .i (4 * (dv a0 7 256))]) rfl sh_25 rfl ⟨rfl, rfl, rfl, rfl, rfl, rfl, rfl, rfl, rfl, rfl, rfl, trivial⟩ resOK_nil) rfl (fun mm aa ww hr => ?_)
    have hm := Option.some.inj hm
    subst hm
    exact ⟨[⟨ptr0 (mm 300) (mm 301), x1.1.length, mm 301⟩, ⟨ptr0 (mm 302) (mm 303), x3.1.length, mm 303⟩, ⟨ptr0 (mm 21) (mm 22), ((x5.2.1 ++ [(⟨400, x5.1 + (4 * (dv a0 x5.2.2 256))⟩ : Pt)]).length), mm 22⟩], rfl, ⟨⟨rfl, newAt_row hr mine_nil rfl (flat_length (enc := encPt) (fun _ => rfl) _), rfl, newAt_row hr mine_nil rfl (flat_length (enc := encPt) (fun _ => rfl) _), rfl, newAt_row hr mine_nil rfl (flat_length (enc := encPt) (fun _ => rfl) _), trivial⟩, ⟨⟨apart_rr hr rfl rfl (by decide), apart_rr hr rfl rfl (by decide), trivial⟩, ⟨⟨apart_rr hr rfl rfl (by decide), trivial⟩, ⟨trivial, trivial⟩⟩⟩⟩, hr.below⟩

end Go.Proofs.T

namespace Go.Proofs.T
open Go Go.AX Go.RowKit Hull
theorem en_105 : Proofs.Enters Tryd.prog 105 := Proofs.enters_of Tryd.func105 (by kernel_rfl) rfl
end Go.Proofs.T

namespace Go.Proofs.T
open Go Go.AX Go.RowKit Hull
theorem un_23 : Tryd.prog.underlying 23 = some (.slice 84) := by kernel_rfl
theorem en_42 : Proofs.Enters Tryd.prog 42 := Proofs.enters_of Tryd.func42 (by kernel_rfl) rfl
instance (i : Ice) : Decidable (goodIce i) := by unfold goodIce; infer_instance
instance (c : Cell) : Decidable (goodCell c) := by unfold goodCell goodSpan; infer_instance

theorem c42 (l : List Pt) (l_s : SlV) (w : World) (hl : SlIs encPt 2 w l_s l) (hn : l.length ≤ 1000000) : Calls Tryd.prog 42 #[.slice l_s.p l_s.n l_s.c] w fun e w' => ∃ p c, e = .returned ((.slice p l.length c)) ∧ NewAt w w' p l.length c 84 2 (l.flatMap encPt) ∧ Below w.heap.size w w' := by
 obtain ⟨l_p, l_n, l_c⟩ := l_s
 have hl_l : l_n = l.length := hl.1
 subst hl_l
 obtain ⟨l_b, l_o, hl_p, hl_L⟩ := SlAt.lies' hl
 refine enter (args := [.v (.slice l_p l.length l_c)]) Tryd.func42 rfl (N := 8) rfl (Nat.le_of_ble_eq_true rfl) ?_
 refine aw_seq ?_
 refine aw_text (rows := [_]) rfl (by kernel_rfl) ⟨
  ok_plain rfl rfl (op_assign (ltN rfl) rfl),
  trivial⟩ ?_
 refine fin_keep (s' := [kt 0 (.v (.slice l_p l.length l_c))]) ?_ (kp rfl) rfl
 refine fin_then ?_
 refine aw_seq ?_
 refine aw_seq ?_
 refine aw_text (rows := [_, _]) rfl (by kernel_rfl) ⟨
  ok_plain rfl rfl (op_move (ltN rfl) rfl),
  ok_plain rfl rfl (op_eqNil (ltN rfl) rfl ⟨84, un_23⟩),
  trivial⟩ ?_
 refine fin_keep (s' := [kt 0 (.v (.slice l_p l.length l_c)), kt 4 (.B l_p.isNone)]) ?_ (kp rfl) rfl
 refine fin_then ?_
 refine aw_cond rfl (fun hz1 => ?_) (fun hz1 => ?_)
 ·have _z := hz1
  have q2 := hz1
  refine aw_seq ?_
  refine aw_text (rows := [_]) rfl (by kernel_rfl) ⟨
   ok_plain rfl rfl (op_assign (ltN rfl) rfl),
   trivial⟩ ?_
  refine fin_keep (s' := [kt 2 (.v (.slice none 0 0))]) ?_ (kp rfl) rfl
  refine fin_then ?_
  refine aw_ret ?_
  refine fin_then_ret ?_
  refine post_ret (x := .v (.slice none 0 0)) rfl rfl (resOK_tmp rfl resOK_nil) rfl (fun mm aa ww hr => ?_)
  rcases l_p with _ | ad
  ·have h0 := slIs_none hl
   subst h0
   exact ⟨none, 0, rfl, newAt_nil, hr.below⟩
  ·exact absurd hz1 (by simp)
 ·have _z := hz1
  have q3 := hz1
  refine aw_skip ?_
  refine fin_then ?_
  refine aw_seq ?_
  refine aw_text (rows := [_, _, _, _]) rfl (by kernel_rfl) ⟨
   ok_plain rfl rfl (op_buildSlice0 (L := 1) (C := 2) (ety := 84) (kk := 2) (ltN rfl) (by decide) (fun w => by kernel_rfl)),
   ok_plain rfl rfl (op_move (ltN rfl) rfl),
   ok_plain rfl rfl (op_appendS (enc := encPt) (l := l) (L' := 3) (C' := 4) (ltN rfl) af_23 rfl rfl rfl rfl (fun mm aa ww gg hrel => (SlIs.mono hl hrel.below)) (fun _ => rfl) (fun _ => rfl) (by omega) (by omega) (by decide)),
   ok_plain rfl rfl (op_assign (ltN rfl) rfl),
   trivial⟩ ?_
  refine fin_keep (s' := [kt 2 (.o 3 4 l.length), (.r 3, some (.vec true 4 84 2 (l.flatMap encPt)))]) ?_ ⟨(congrArg (fun q => some (Val.x (SV.o 3 4 q))) (Nat.zero_add l.length)), rfl, trivial⟩ rfl
  refine fin_then ?_
  refine aw_ret ?_
  refine post_ret (x := .o 3 4 l.length) rfl rfl (resOK_tmp rfl resOK_nil) rfl (fun mm aa ww hr => ?_)
  exact ⟨_, _, rfl, newAt_row hr mine_nil rfl (flat_length (enc := encPt) (fun _ => rfl) _), hr.below⟩

def m28 (_F : Nat) (a0 : Ship) : Option (Ship) :=
 chk (a0.Thrust.length ≤ 1000000) (chk (a0.Water.length ≤ 1000000) (chk (a0.Ice.length ≤ 1000000) (some a0)))

theorem c28 (F : Nat) (a0 : Ship) (a0_Thrust_s : SlV) (a0_Water_s : SlV) (a0_Ice_s : SlV) (w : World) (ha0_Thrust : SlIs encPt 2 w a0_Thrust_s a0.Thrust) (ha0_Water : SlIs encPt 2 w a0_Water_s a0.Water) (ha0_Ice : SlIs encPt 2 w a0_Ice_s a0.Ice) (r : Ship) (hm : m28 F a0 = some r) : Calls Tryd.prog 28 #[.agg #[.int .i64 a0.Class, .int .i64 a0.Power, .int .i64 a0.Draught, .int .i64 a0.Tonnes, .slice a0_Thrust_s.p a0_Thrust_s.n a0_Thrust_s.c, .slice a0_Water_s.p a0_Water_s.n a0_Water_s.c, .slice a0_Ice_s.p a0_Ice_s.n a0_Ice_s.c, .int .i64 a0.Slow, .int .i64 a0.Brash, .int .i64 a0.Ridge, .int .i64 a0.Press]] w fun e w' => ∃ sl : List SlV, e = .returned ((fun vs => .agg #[.int .i64 r.Class, .int .i64 r.Power, .int .i64 r.Draught, .int .i64 r.Tonnes, (vs.getD 0 (.bool false)), (vs.getD 1 (.bool false)), (vs.getD 2 (.bool false)), .int .i64 r.Slow, .int .i64 r.Brash, .int .i64 r.Ridge, .int .i64 r.Press]) (sl.map SlV.val)) ∧ NewRowsD w w' sl [(r.Thrust.length, 84, 2, r.Thrust.flatMap encPt), (r.Water.length, 84, 2, r.Water.flatMap encPt), (r.Ice.length, 84, 2, r.Ice.flatMap encPt)] ∧ Below w.heap.size w w' := by
 obtain ⟨a0_Thrust_p, a0_Thrust_n, a0_Thrust_c⟩ := a0_Thrust_s
 have ha0_Thrust_l : a0_Thrust_n = a0.Thrust.length := ha0_Thrust.1
 subst ha0_Thrust_l
 obtain ⟨a0_Thrust_b, a0_Thrust_o, ha0_Thrust_p, ha0_Thrust_L⟩ := SlAt.lies' ha0_Thrust
 obtain ⟨a0_Water_p, a0_Water_n, a0_Water_c⟩ := a0_Water_s
 have ha0_Water_l : a0_Water_n = a0.Water.length := ha0_Water.1
 subst ha0_Water_l
 obtain ⟨a0_Water_b, a0_Water_o, ha0_Water_p, ha0_Water_L⟩ := SlAt.lies' ha0_Water
 obtain ⟨a0_Ice_p, a0_Ice_n, a0_Ice_c⟩ := a0_Ice_s
 have ha0_Ice_l : a0_Ice_n = a0.Ice.length := ha0_Ice.1
 subst ha0_Ice_l
 obtain ⟨a0_Ice_b, a0_Ice_o, ha0_Ice_p, ha0_Ice_L⟩ := SlAt.lies' ha0_Ice
 unfold m28 at hm
 refine enter (args := [.g [.i a0.Class, .i a0.Power, .i a0.Draught, .i a0.Tonnes, .v (.slice a0_Thrust_p a0.Thrust.length a0_Thrust_c), .v (.slice a0_Water_p a0.Water.length a0_Water_c), .v (.slice a0_Ice_p a0.Ice.length a0_Ice_c), .i a0.Slow, .i a0.Brash, .i a0.Ridge, .i a0.Press]]) Tryd.func28 rfl (N := 16) rfl (Nat.le_of_ble_eq_true rfl) ?_
 refine aw_seq ?_
 refine aw_text (rows := [_, _]) rfl (by kernel_rfl) ⟨
  ok_plain rfl rfl (op_boxN (L := 1) (ltN rfl) rfl rfl rfl),
  ok_plain rfl rfl (op_alloc (L := 2) (ltN rfl) zl_25),
  trivial⟩ ?_
 refine fin_keep (s' := (kt 1 (.p 1 0) :: kt 2 (.p 2 0) :: kb 1 25 11 :: kb 2 25 11 :: sK 1 a0 (.v (.slice a0_Thrust_p a0.Thrust.length a0_Thrust_c)) (.v (.slice a0_Water_p a0.Water.length a0_Water_c)) (.v (.slice a0_Ice_p a0.Ice.length a0_Ice_c)) [kc 2 0 (.i 0), kc 2 1 (.i 0), kc 2 2 (.i 0), kc 2 3 (.i 0), kc 2 4 (.v (.slice none 0 0)), kc 2 5 (.v (.slice none 0 0)), kc 2 6 (.v (.slice none 0 0)), kc 2 7 (.i 0), kc 2 8 (.i 0), kc 2 9 (.i 0), kc 2 10 (.i 0)])) ?_ (kp rfl) rfl
 refine fin_then ?_
 refine aw_seq ?_
 obtain ⟨hp1, hm⟩ := chk_some hm
 obtain ⟨hp2, hm⟩ := chk_some hm
 obtain ⟨hp3, hm⟩ := chk_some hm
 refine aw_any (rows := [_, _, _, _, _, _, _, _, _, _, _, _, _, _, _]) (M := [0, 1, 3, 0, 8, 31, 0, 64, 255, 223, 1023, 2047, 4095, 8191, 16383]) Tryd_mixed (by kernel_rfl) rfl (by kernel_rfl) ⟨
  ok_plain rfl rfl (op_fieldAddr (ltN rfl) rfl fo_25_4),
  ok_plain rfl rfl (op_load1 (ltN rfl) sh_23 rfl rfl),
  ok_plain rfl rfl (op_callRowR (L := 3) (C := 4) (own := true) (x := .o 3 4 a0.Thrust.length) (R := fun p c => (.slice p a0.Thrust.length c)) (fs := []) (caps := []) (extra := []) (ltN rfl) en_42 rfl ⟨rfl, rfl, rfl⟩ (EvL.cons rfl EvL.nil) (by decide) (fun mm p c h => by show ((den mm (.o 3 4 a0.Thrust.length)) : Value) = _; rw [h]) (fun mm aa ww gg hr hrel => (c42 a0.Thrust ⟨a0_Thrust_p, a0.Thrust.length, a0_Thrust_c⟩ ww (SlIs.mono ha0_Thrust hrel.below) hp1))),
  ok_plain rfl rfl (op_fieldAddr (ltN rfl) rfl fo_25_5),
  ok_plain rfl rfl (op_load1 (ltN rfl) sh_23 rfl rfl),
  ok_plain rfl rfl (op_callRowR (L := 5) (C := 6) (own := true) (x := .o 5 6 a0.Water.length) (R := fun p c => (.slice p a0.Water.length c)) (fs := []) (caps := []) (extra := []) (ltN rfl) en_42 rfl ⟨rfl, rfl, rfl⟩ (EvL.cons rfl EvL.nil) (by decide) (fun mm p c h => by show ((den mm (.o 5 6 a0.Water.length)) : Value) = _; rw [h]) (fun mm aa ww gg hr hrel => (c42 a0.Water ⟨a0_Water_p, a0.Water.length, a0_Water_c⟩ ww (SlIs.mono ha0_Water hrel.below) hp2))),
  ok_plain rfl rfl (op_fieldAddr (ltN rfl) rfl fo_25_6),
  ok_plain rfl rfl (op_load1 (ltN rfl) sh_23 rfl rfl),
  ok_plain rfl rfl (op_callRowR (L := 7) (C := 8) (own := true) (x := .o 7 8 a0.Ice.length) (R := fun p c => (.slice p a0.Ice.length c)) (fs := []) (caps := []) (extra := []) (ltN rfl) en_42 rfl ⟨rfl, rfl, rfl⟩ (EvL.cons rfl EvL.nil) (by decide) (fun mm p c h => by show ((den mm (.o 7 8 a0.Ice.length)) : Value) = _; rw [h]) (fun mm aa ww gg hr hrel => (c42 a0.Ice ⟨a0_Ice_p, a0.Ice.length, a0_Ice_c⟩ ww (SlIs.mono ha0_Ice hrel.below) hp3))),
  ok_plain rfl rfl (op_fieldAddr (ltN rfl) rfl fo_25_4),
  ok_plain rfl rfl (op_store1 sz_23 rfl rfl rfl rfl (ltN rfl)),
  ok_plain rfl rfl (op_fieldAddr (ltN rfl) rfl fo_25_5),
  ok_plain rfl rfl (op_store1 sz_23 rfl rfl rfl rfl (ltN rfl)),
  ok_plain rfl rfl (op_fieldAddr (ltN rfl) rfl fo_25_6),
  ok_plain rfl rfl (op_store1 sz_23 rfl rfl rfl rfl (ltN rfl)),
  trivial⟩ ?_
 refine fin_keep (s' := (kt 1 (.p 1 0) :: kt 2 (.p 2 0) :: kb 1 25 11 :: kb 2 25 11 :: (.r 3, some (.vec true 4 84 2 (a0.Thrust.flatMap encPt))) :: (.r 5, some (.vec true 6 84 2 (a0.Water.flatMap encPt))) :: (.r 7, some (.vec true 8 84 2 (a0.Ice.flatMap encPt))) :: sK 1 a0 (.o 3 4 a0.Thrust.length) (.o 5 6 a0.Water.length) (.o 7 8 a0.Ice.length) [kc 2 0 (.i 0), kc 2 1 (.i 0), kc 2 2 (.i 0), kc 2 3 (.i 0), kc 2 4 (.v (.slice none 0 0)), kc 2 5 (.v (.slice none 0 0)), kc 2 6 (.v (.slice none 0 0)), kc 2 7 (.i 0), kc 2 8 (.i 0), kc 2 9 (.i 0), kc 2 10 (.i 0)])) ?_ (kp rfl) rfl
 refine fin_then ?_
 refine aw_seq ?_
 refine aw_text (rows := [_, _]) rfl (by kernel_rfl) ⟨
  ok_plain rfl rfl (op_loadN (ys := [.i a0.Class, .i a0.Power, .i a0.Draught, .i a0.Tonnes, .o 3 4 a0.Thrust.length, .o 5 6 a0.Water.length, .o 7 8 a0.Ice.length, .i a0.Slow, .i a0.Brash, .i a0.Ridge, .i a0.Press]) (ltN rfl) sh_25 rfl rfl ⟨rfl, rfl, rfl, rfl, rfl, rfl, rfl, rfl, rfl, rfl, rfl, trivial⟩),
  ok_plain rfl rfl (op_storeN sz_25 rfl rfl rfl rfl rfl (by decide)),
  trivial⟩ ?_
 refine fin_keep (s' := (kt 2 (.p 2 0) :: kb 2 25 11 :: (.r 3, some (.vec true 4 84 2 (a0.Thrust.flatMap encPt))) :: (.r 5, some (.vec true 6 84 2 (a0.Water.flatMap encPt))) :: (.r 7, some (.vec true 8 84 2 (a0.Ice.flatMap encPt))) :: sK 2 a0 (.o 3 4 a0.Thrust.length) (.o 5 6 a0.Water.length) (.o 7 8 a0.Ice.length) [])) ?_ (kp rfl) rfl
 refine fin_then ?_
 refine aw_ret ?_
 refine post_ret (x := .g [.i a0.Class, .i a0.Power, .i a0.Draught, .i a0.Tonnes, .o 3 4 a0.Thrust.length, .o 5 6 a0.Water.length, .o 7 8 a0.Ice.length, .i a0.Slow, .i a0.Brash, .i a0.Ridge, .i a0.Press]) rfl rfl (resOK_cellN (ys := [.i a0.Class, .i a0.Power, .i a0.Draught, .i a0.Tonnes, .o 3 4 a0.Thrust.length, .o 5 6 a0.Water.length, .o 7 8 a0.Ice.length, .i a0.Slow, .i a0.Brash, .i a0.Ridge, .i a0.Press]) rfl sh_25 rfl ⟨rfl, rfl, rfl, rfl, rfl, rfl, rfl, rfl, rfl, rfl, rfl, trivial⟩ resOK_nil) rfl (fun mm aa ww hr => ?_)
 have hm := Option.some.inj hm
 subst hm
 exact ⟨[⟨ptr0 (mm 3) (mm 4), a0.Thrust.length, mm 4⟩, ⟨ptr0 (mm 5) (mm 6), a0.Water.length, mm 6⟩, ⟨ptr0 (mm 7) (mm 8), a0.Ice.length, mm 8⟩], rfl, ⟨⟨rfl, newAt_row hr mine_nil rfl (flat_length (enc := encPt) (fun _ => rfl) _), rfl, newAt_row hr mine_nil rfl (flat_length (enc := encPt) (fun _ => rfl) _), rfl, newAt_row hr mine_nil rfl (flat_length (enc := encPt) (fun _ => rfl) _), trivial⟩, ⟨⟨apart_rr hr rfl rfl (by decide), apart_rr hr rfl rfl (by decide), trivial⟩, ⟨⟨apart_rr hr rfl rfl (by decide), trivial⟩, ⟨trivial, trivial⟩⟩⟩⟩, hr.below⟩

end Go.Proofs.T

namespace Go.Proofs.T
open Go Go.AX Go.RowKit Hull
theorem ss_176 : sliceSz Tryd.prog 176 = some 11 := by kernel_rfl

def m51 (F : Nat) (a0 : Ship) (a1 : Ship) : Option (Int × Int) :=
 join (fun (_ : Unit) => join (fun (_ : Unit) => some (0, 4)) (fun k2 => loopC (fun (x3 : Int) n3 => brk (decide (x3 < 401)) (chk (check a0 = 0) (chk (goodIce ((⟨100, x3, 0, 0⟩ : Ice))) (chk (check a1 = 0) (brk (decide ((speed a0 ((⟨100, x3, 0, 0⟩ : Ice)) false) < (speed a1 ((⟨100, x3, 0, 0⟩ : Ice)) false))) (some (x3, 0)) (chk (InR (x3 + 1)) (n3 (x3 + 1))))))) (k2 ())) F 0)) (fun k1 => brk ((check a0) != 0) (some (0, check a0)) (brk ((check a1) != 0) (some (0, check a1)) (k1 ())))

set_option maxHeartbeats 1000000 in
set_option maxRecDepth 8000 in
theorem c51 (F : Nat) (a0 : Ship) (a0_Thrust_s : SlV) (a0_Water_s : SlV) (a0_Ice_s : SlV) (a1 : Ship) (a1_Thrust_s : SlV) (a1_Water_s : SlV) (a1_Ice_s : SlV) (w : World) (ha0_Thrust : SlIs encPt 2 w a0_Thrust_s a0.Thrust) (ha0_Water : SlIs encPt 2 w a0_Water_s a0.Water) (ha0_Ice : SlIs encPt 2 w a0_Ice_s a0.Ice) (ha1_Thrust : SlIs encPt 2 w a1_Thrust_s a1.Thrust) (ha1_Water : SlIs encPt 2 w a1_Water_s a1.Water) (ha1_Ice : SlIs encPt 2 w a1_Ice_s a1.Ice) (r : Int × Int) (hm : m51 F a0 a1 = some r) : Calls Tryd.prog 51 #[.agg #[.int .i64 a0.Class, .int .i64 a0.Power, .int .i64 a0.Draught, .int .i64 a0.Tonnes, .slice a0_Thrust_s.p a0_Thrust_s.n a0_Thrust_s.c, .slice a0_Water_s.p a0_Water_s.n a0_Water_s.c, .slice a0_Ice_s.p a0_Ice_s.n a0_Ice_s.c, .int .i64 a0.Slow, .int .i64 a0.Brash, .int .i64 a0.Ridge, .int .i64 a0.Press], .agg #[.int .i64 a1.Class, .int .i64 a1.Power, .int .i64 a1.Draught, .int .i64 a1.Tonnes, .slice a1_Thrust_s.p a1_Thrust_s.n a1_Thrust_s.c, .slice a1_Water_s.p a1_Water_s.n a1_Water_s.c, .slice a1_Ice_s.p a1_Ice_s.n a1_Ice_s.c, .int .i64 a1.Slow, .int .i64 a1.Brash, .int .i64 a1.Ridge, .int .i64 a1.Press]] w fun e w' => e = .returned (.tuple #[.int .i64 r.1, .int .i64 r.2]) ∧ Below w.heap.size w w' := by
 obtain ⟨a0_Thrust_p, a0_Thrust_n, a0_Thrust_c⟩ := a0_Thrust_s
 have ha0_Thrust_l : a0_Thrust_n = a0.Thrust.length := ha0_Thrust.1
 subst ha0_Thrust_l
 obtain ⟨a0_Thrust_b, a0_Thrust_o, ha0_Thrust_p, ha0_Thrust_L⟩ := SlAt.lies' ha0_Thrust
 obtain ⟨a0_Water_p, a0_Water_n, a0_Water_c⟩ := a0_Water_s
 have ha0_Water_l : a0_Water_n = a0.Water.length := ha0_Water.1
 subst ha0_Water_l
 obtain ⟨a0_Water_b, a0_Water_o, ha0_Water_p, ha0_Water_L⟩ := SlAt.lies' ha0_Water
 obtain ⟨a0_Ice_p, a0_Ice_n, a0_Ice_c⟩ := a0_Ice_s
 have ha0_Ice_l : a0_Ice_n = a0.Ice.length := ha0_Ice.1
 subst ha0_Ice_l
 obtain ⟨a0_Ice_b, a0_Ice_o, ha0_Ice_p, ha0_Ice_L⟩ := SlAt.lies' ha0_Ice
 obtain ⟨a1_Thrust_p, a1_Thrust_n, a1_Thrust_c⟩ := a1_Thrust_s
 have ha1_Thrust_l : a1_Thrust_n = a1.Thrust.length := ha1_Thrust.1
 subst ha1_Thrust_l
 obtain ⟨a1_Thrust_b, a1_Thrust_o, ha1_Thrust_p, ha1_Thrust_L⟩ := SlAt.lies' ha1_Thrust
 obtain ⟨a1_Water_p, a1_Water_n, a1_Water_c⟩ := a1_Water_s
 have ha1_Water_l : a1_Water_n = a1.Water.length := ha1_Water.1
 subst ha1_Water_l
 obtain ⟨a1_Water_b, a1_Water_o, ha1_Water_p, ha1_Water_L⟩ := SlAt.lies' ha1_Water
 obtain ⟨a1_Ice_p, a1_Ice_n, a1_Ice_c⟩ := a1_Ice_s
 have ha1_Ice_l : a1_Ice_n = a1.Ice.length := ha1_Ice.1
 subst ha1_Ice_l
 obtain ⟨a1_Ice_b, a1_Ice_o, ha1_Ice_p, ha1_Ice_L⟩ := SlAt.lies' ha1_Ice
 unfold m51 at hm
 refine enter (args := [.g [.i a0.Class, .i a0.Power, .i a0.Draught, .i a0.Tonnes, .v (.slice a0_Thrust_p a0.Thrust.length a0_Thrust_c), .v (.slice a0_Water_p a0.Water.length a0_Water_c), .v (.slice a0_Ice_p a0.Ice.length a0_Ice_c), .i a0.Slow, .i a0.Brash, .i a0.Ridge, .i a0.Press], .g [.i a1.Class, .i a1.Power, .i a1.Draught, .i a1.Tonnes, .v (.slice a1_Thrust_p a1.Thrust.length a1_Thrust_c), .v (.slice a1_Water_p a1.Water.length a1_Water_c), .v (.slice a1_Ice_p a1.Ice.length a1_Ice_c), .i a1.Slow, .i a1.Brash, .i a1.Ridge, .i a1.Press]]) Tryd.func51 rfl (N := 38) rfl (Nat.le_of_ble_eq_true rfl) ?_
 refine aw_seq ?_
 refine aw_text (rows := [_, _, _, _]) rfl (by kernel_rfl) ⟨
  ok_plain rfl rfl (op_boxN (L := 1) (ltN rfl) rfl rfl rfl),
  ok_plain rfl rfl (op_boxN (L := 2) (ltN rfl) rfl rfl rfl),
  ok_plain rfl rfl (op_assign (ltN rfl) rfl),
  ok_plain rfl rfl (op_assign (ltN rfl) rfl),
  trivial⟩ ?_
 refine fin_keep (s' := (kt 2 (.p 1 0) :: kt 3 (.p 2 0) :: kb 1 25 11 :: kb 2 25 11 :: sK 1 a0 (.v (.slice a0_Thrust_p a0.Thrust.length a0_Thrust_c)) (.v (.slice a0_Water_p a0.Water.length a0_Water_c)) (.v (.slice a0_Ice_p a0.Ice.length a0_Ice_c)) (sK 2 a1 (.v (.slice a1_Thrust_p a1.Thrust.length a1_Thrust_c)) (.v (.slice a1_Water_p a1.Water.length a1_Water_c)) (.v (.slice a1_Ice_p a1.Ice.length a1_Ice_c)) []))) ?_ (kp rfl) rfl
 refine fin_then ?_
 refine aw_cutM (ι := Unit) hm (fun x1 => (kt 2 (.p 1 0) :: kt 3 (.p 2 0) :: kb 1 25 11 :: kb 2 25 11 :: sK 1 a0 (.v (.slice a0_Thrust_p a0.Thrust.length a0_Thrust_c)) (.v (.slice a0_Water_p a0.Water.length a0_Water_c)) (.v (.slice a0_Ice_p a0.Ice.length a0_Ice_c)) (sK 2 a1 (.v (.slice a1_Thrust_p a1.Thrust.length a1_Thrust_c)) (.v (.slice a1_Water_p a1.Water.length a1_Water_c)) (.v (.slice a1_Ice_p a1.Ice.length a1_Ice_c)) []))) (fun hm => ?_) (fun x1 hm => ?_)
 ·have _z := hm
  refine aw_seq ?_
  refine aw_text (rows := [_, _, _, _, _]) rfl (by kernel_rfl) ⟨
   ok_plain rfl rfl (op_loadN (ys := [.i a0.Class, .i a0.Power, .i a0.Draught, .i a0.Tonnes, .v (.slice a0_Thrust_p a0.Thrust.length a0_Thrust_c), .v (.slice a0_Water_p a0.Water.length a0_Water_c), .v (.slice a0_Ice_p a0.Ice.length a0_Ice_c), .i a0.Slow, .i a0.Brash, .i a0.Ridge, .i a0.Press]) (ltN rfl) sh_25 rfl rfl ⟨rfl, rfl, rfl, rfl, rfl, rfl, rfl, rfl, rfl, rfl, rfl, trivial⟩),
   ok_plain rfl rfl (op_loadN (ys := [.i a1.Class, .i a1.Power, .i a1.Draught, .i a1.Tonnes, .v (.slice a1_Thrust_p a1.Thrust.length a1_Thrust_c), .v (.slice a1_Water_p a1.Water.length a1_Water_c), .v (.slice a1_Ice_p a1.Ice.length a1_Ice_c), .i a1.Slow, .i a1.Brash, .i a1.Ridge, .i a1.Press]) (ltN rfl) sh_25 rfl rfl ⟨rfl, rfl, rfl, rfl, rfl, rfl, rfl, rfl, rfl, rfl, rfl, trivial⟩),
   ok_plain rfl rfl (op_buildSlice (L := 3) (ety := 25) (cs := [.i a0.Class, .i a0.Power, .i a0.Draught, .i a0.Tonnes, .v (.slice a0_Thrust_p a0.Thrust.length a0_Thrust_c), .v (.slice a0_Water_p a0.Water.length a0_Water_c), .v (.slice a0_Ice_p a0.Ice.length a0_Ice_c), .i a0.Slow, .i a0.Brash, .i a0.Ridge, .i a0.Press, .i a1.Class, .i a1.Power, .i a1.Draught, .i a1.Tonnes, .v (.slice a1_Thrust_p a1.Thrust.length a1_Thrust_c), .v (.slice a1_Water_p a1.Water.length a1_Water_c), .v (.slice a1_Ice_p a1.Ice.length a1_Ice_c), .i a1.Slow, .i a1.Brash, .i a1.Ridge, .i a1.Press]) (ltN rfl) (EvL.cons rfl (EvL.cons rfl EvL.nil)) rfl (fun m w => by kernel_rfl)),
   ok_plain rfl rfl (op_len (n := 2) (ltN rfl) (by rw [ss_176]; rfl) rfl rfl),
   ok_plain rfl rfl (op_move (ltN rfl) rfl),
   trivial⟩ ?_
  refine fin_keep (s' := (kt 2 (.p 1 0) :: kt 3 (.p 2 0) :: kt 12 (.s 3 0 2 2) :: kt 13 (.i 2) :: kt 14 (.i 0) :: kb 1 25 11 :: kb 2 25 11 :: kb 3 25 22 :: sK 1 a0 (.v (.slice a0_Thrust_p a0.Thrust.length a0_Thrust_c)) (.v (.slice a0_Water_p a0.Water.length a0_Water_c)) (.v (.slice a0_Ice_p a0.Ice.length a0_Ice_c)) (sK 2 a1 (.v (.slice a1_Thrust_p a1.Thrust.length a1_Thrust_c)) (.v (.slice a1_Water_p a1.Water.length a1_Water_c)) (.v (.slice a1_Ice_p a1.Ice.length a1_Ice_c)) (sK 3 a0 (.v (.slice a0_Thrust_p a0.Thrust.length a0_Thrust_c)) (.v (.slice a0_Water_p a0.Water.length a0_Water_c)) (.v (.slice a0_Ice_p a0.Ice.length a0_Ice_c)) [kc 3 11 (.i a1.Class), kc 3 12 (.i a1.Power), kc 3 13 (.i a1.Draught), kc 3 14 (.i a1.Tonnes), kc 3 15 (.v (.slice a1_Thrust_p a1.Thrust.length a1_Thrust_c)), kc 3 16 (.v (.slice a1_Water_p a1.Water.length a1_Water_c)), kc 3 17 (.v (.slice a1_Ice_p a1.Ice.length a1_Ice_c)), kc 3 18 (.i a1.Slow), kc 3 19 (.i a1.Brash), kc 3 20 (.i a1.Ridge), kc 3 21 (.i a1.Press)])))) ?_ (kp rfl) rfl
  refine fin_then ?_
  refine aw_block ?_
  refine aw_rounds 3 ?_
  refine aw_seq ?_
  refine aw_text (rows := [_]) rfl (by kernel_rfl) ⟨
   ok_plain rfl rfl (op_bin (r := .bool true) (ltN rfl) rfl rfl rfl),
   trivial⟩ ?_
  refine fin_keep (s' := (kt 2 (.p 1 0) :: kt 3 (.p 2 0) :: kt 12 (.s 3 0 2 2) :: kt 13 (.i 2) :: kt 14 (.i 0) :: kt 15 (.B true) :: kb 1 25 11 :: kb 2 25 11 :: kb 3 25 22 :: sK 1 a0 (.v (.slice a0_Thrust_p a0.Thrust.length a0_Thrust_c)) (.v (.slice a0_Water_p a0.Water.length a0_Water_c)) (.v (.slice a0_Ice_p a0.Ice.length a0_Ice_c)) (sK 2 a1 (.v (.slice a1_Thrust_p a1.Thrust.length a1_Thrust_c)) (.v (.slice a1_Water_p a1.Water.length a1_Water_c)) (.v (.slice a1_Ice_p a1.Ice.length a1_Ice_c)) (sK 3 a0 (.v (.slice a0_Thrust_p a0.Thrust.length a0_Thrust_c)) (.v (.slice a0_Water_p a0.Water.length a0_Water_c)) (.v (.slice a0_Ice_p a0.Ice.length a0_Ice_c)) [kc 3 11 (.i a1.Class), kc 3 12 (.i a1.Power), kc 3 13 (.i a1.Draught), kc 3 14 (.i a1.Tonnes), kc 3 15 (.v (.slice a1_Thrust_p a1.Thrust.length a1_Thrust_c)), kc 3 16 (.v (.slice a1_Water_p a1.Water.length a1_Water_c)), kc 3 17 (.v (.slice a1_Ice_p a1.Ice.length a1_Ice_c)), kc 3 18 (.i a1.Slow), kc 3 19 (.i a1.Brash), kc 3 20 (.i a1.Ridge), kc 3 21 (.i a1.Press)])))) ?_ (kp rfl) rfl
  refine fin_then ?_
  refine aw_seq ?_
  refine aw_cond rfl (fun hz1 => ?_) (fun hz1 => by cases hz1)
  refine aw_skip ?_
  refine fin_then ?_
  refine aw_seq ?_
  refine aw_block ?_
  refine aw_seq ?_
  refine aw_text (rows := [_, _, _, _]) rfl (by kernel_rfl) ⟨
   ok_plain rfl rfl (op_ix (ltN rfl) rfl rfl ss_176 (by decide) (by decide)),
   ok_plain rfl rfl (op_loadN (ys := [.i a0.Class, .i a0.Power, .i a0.Draught, .i a0.Tonnes, .v (.slice a0_Thrust_p a0.Thrust.length a0_Thrust_c), .v (.slice a0_Water_p a0.Water.length a0_Water_c), .v (.slice a0_Ice_p a0.Ice.length a0_Ice_c), .i a0.Slow, .i a0.Brash, .i a0.Ridge, .i a0.Press]) (ltN rfl) sh_25 rfl rfl ⟨rfl, rfl, rfl, rfl, rfl, rfl, rfl, rfl, rfl, rfl, rfl, trivial⟩),
   ok_plain rfl rfl (op_alloc (L := 4) (ltN rfl) zl_25),
   ok_plain rfl rfl (op_storeN sz_25 rfl rfl rfl rfl rfl (by decide)),
   trivial⟩ ?_
  refine fin_keep (s' := (kt 2 (.p 1 0) :: kt 3 (.p 2 0) :: kt 7 (.p 4 0) :: kt 12 (.s 3 0 2 2) :: kt 13 (.i 2) :: kt 14 (.i 0) :: kb 1 25 11 :: kb 2 25 11 :: kb 3 25 22 :: kb 4 25 11 :: sK 1 a0 (.v (.slice a0_Thrust_p a0.Thrust.length a0_Thrust_c)) (.v (.slice a0_Water_p a0.Water.length a0_Water_c)) (.v (.slice a0_Ice_p a0.Ice.length a0_Ice_c)) (sK 2 a1 (.v (.slice a1_Thrust_p a1.Thrust.length a1_Thrust_c)) (.v (.slice a1_Water_p a1.Water.length a1_Water_c)) (.v (.slice a1_Ice_p a1.Ice.length a1_Ice_c)) (sK 3 a0 (.v (.slice a0_Thrust_p a0.Thrust.length a0_Thrust_c)) (.v (.slice a0_Water_p a0.Water.length a0_Water_c)) (.v (.slice a0_Ice_p a0.Ice.length a0_Ice_c)) (kc 3 11 (.i a1.Class) :: kc 3 12 (.i a1.Power) :: kc 3 13 (.i a1.Draught) :: kc 3 14 (.i a1.Tonnes) :: kc 3 15 (.v (.slice a1_Thrust_p a1.Thrust.length a1_Thrust_c)) :: kc 3 16 (.v (.slice a1_Water_p a1.Water.length a1_Water_c)) :: kc 3 17 (.v (.slice a1_Ice_p a1.Ice.length a1_Ice_c)) :: kc 3 18 (.i a1.Slow) :: kc 3 19 (.i a1.Brash) :: kc 3 20 (.i a1.Ridge) :: kc 3 21 (.i a1.Press) :: sK 4 a0 (.v (.slice a0_Thrust_p a0.Thrust.length a0_Thrust_c)) (.v (.slice a0_Water_p a0.Water.length a0_Water_c)) (.v (.slice a0_Ice_p a0.Ice.length a0_Ice_c)) []))))) ?_ (kp rfl) rfl
  refine fin_then ?_
  refine aw_seq ?_
  refine aw_text (rows := [_, _, _]) rfl (by kernel_rfl) ⟨
   ok_plain rfl rfl (op_loadN (ys := [.i a0.Class, .i a0.Power, .i a0.Draught, .i a0.Tonnes, .v (.slice a0_Thrust_p a0.Thrust.length a0_Thrust_c), .v (.slice a0_Water_p a0.Water.length a0_Water_c), .v (.slice a0_Ice_p a0.Ice.length a0_Ice_c), .i a0.Slow, .i a0.Brash, .i a0.Ridge, .i a0.Press]) (ltN rfl) sh_25 rfl rfl ⟨rfl, rfl, rfl, rfl, rfl, rfl, rfl, rfl, rfl, rfl, rfl, trivial⟩),
   ok_plain rfl rfl (op_call (x := .i (check a0)) (fs := []) (caps := []) (extra := []) (ltN rfl) en_46 rfl ⟨rfl, rfl, rfl⟩ (EvL.cons rfl EvL.nil) (fun mm aa ww gg hr hrel => (c46 a0 ⟨a0_Thrust_p, a0.Thrust.length, a0_Thrust_c⟩ ⟨a0_Water_p, a0.Water.length, a0_Water_c⟩ ⟨a0_Ice_p, a0.Ice.length, a0_Ice_c⟩ ww (SlIs.mono ha0_Thrust hrel.below) (SlIs.mono ha0_Water hrel.below) (SlIs.mono ha0_Ice hrel.below)))),
   ok_plain rfl rfl (op_assign (ltN rfl) rfl),
   trivial⟩ ?_
  refine fin_keep (s' := (kt 2 (.p 1 0) :: kt 3 (.p 2 0) :: kt 8 (.i (check a0)) :: kt 12 (.s 3 0 2 2) :: kt 13 (.i 2) :: kt 14 (.i 0) :: kb 1 25 11 :: kb 2 25 11 :: kb 3 25 22 :: sK 1 a0 (.v (.slice a0_Thrust_p a0.Thrust.length a0_Thrust_c)) (.v (.slice a0_Water_p a0.Water.length a0_Water_c)) (.v (.slice a0_Ice_p a0.Ice.length a0_Ice_c)) (sK 2 a1 (.v (.slice a1_Thrust_p a1.Thrust.length a1_Thrust_c)) (.v (.slice a1_Water_p a1.Water.length a1_Water_c)) (.v (.slice a1_Ice_p a1.Ice.length a1_Ice_c)) (sK 3 a0 (.v (.slice a0_Thrust_p a0.Thrust.length a0_Thrust_c)) (.v (.slice a0_Water_p a0.Water.length a0_Water_c)) (.v (.slice a0_Ice_p a0.Ice.length a0_Ice_c)) [kc 3 11 (.i a1.Class), kc 3 12 (.i a1.Power), kc 3 13 (.i a1.Draught), kc 3 14 (.i a1.Tonnes), kc 3 15 (.v (.slice a1_Thrust_p a1.Thrust.length a1_Thrust_c)), kc 3 16 (.v (.slice a1_Water_p a1.Water.length a1_Water_c)), kc 3 17 (.v (.slice a1_Ice_p a1.Ice.length a1_Ice_c)), kc 3 18 (.i a1.Slow), kc 3 19 (.i a1.Brash), kc 3 20 (.i a1.Ridge), kc 3 21 (.i a1.Press)])))) ?_ (kp rfl) rfl
  refine fin_then ?_
  refine aw_seq ?_
  refine aw_text (rows := [_, _]) rfl (by kernel_rfl) ⟨
   ok_plain rfl rfl (op_move (ltN rfl) rfl),
   ok_plain rfl rfl (op_bin (ltN rfl) rfl rfl rfl),
   trivial⟩ ?_
  refine fin_keep (s' := (kt 2 (.p 1 0) :: kt 3 (.p 2 0) :: kt 8 (.i (check a0)) :: kt 12 (.s 3 0 2 2) :: kt 13 (.i 2) :: kt 14 (.i 0) :: kt 21 (.B ((check a0) != 0)) :: kb 1 25 11 :: kb 2 25 11 :: kb 3 25 22 :: sK 1 a0 (.v (.slice a0_Thrust_p a0.Thrust.length a0_Thrust_c)) (.v (.slice a0_Water_p a0.Water.length a0_Water_c)) (.v (.slice a0_Ice_p a0.Ice.length a0_Ice_c)) (sK 2 a1 (.v (.slice a1_Thrust_p a1.Thrust.length a1_Thrust_c)) (.v (.slice a1_Water_p a1.Water.length a1_Water_c)) (.v (.slice a1_Ice_p a1.Ice.length a1_Ice_c)) (sK 3 a0 (.v (.slice a0_Thrust_p a0.Thrust.length a0_Thrust_c)) (.v (.slice a0_Water_p a0.Water.length a0_Water_c)) (.v (.slice a0_Ice_p a0.Ice.length a0_Ice_c)) [kc 3 11 (.i a1.Class), kc 3 12 (.i a1.Power), kc 3 13 (.i a1.Draught), kc 3 14 (.i a1.Tonnes), kc 3 15 (.v (.slice a1_Thrust_p a1.Thrust.length a1_Thrust_c)), kc 3 16 (.v (.slice a1_Water_p a1.Water.length a1_Water_c)), kc 3 17 (.v (.slice a1_Ice_p a1.Ice.length a1_Ice_c)), kc 3 18 (.i a1.Slow), kc 3 19 (.i a1.Brash), kc 3 20 (.i a1.Ridge), kc 3 21 (.i a1.Press)])))) ?_ (kp rfl) rfl
  refine fin_then ?_
  refine aw_cond rfl (fun hz2 => ?_) (fun hz2 => ?_)
  ·have hm := brk_t hz2 hm
   refine aw_seq ?_
   refine aw_text (rows := [_, _, _]) rfl (by kernel_rfl) ⟨
    ok_plain rfl rfl (op_move (ltN rfl) rfl),
    ok_plain rfl rfl (op_assign (ltN rfl) rfl),
    ok_plain rfl rfl (op_assign (ltN rfl) rfl),
    trivial⟩ ?_
   refine fin_keep (s' := [kt 4 (.i 0), kt 5 (.i (check a0))]) ?_ (kp rfl) rfl
   refine fin_then ?_
   refine aw_ret ?_
   refine fin_block_ret ?_
   refine fin_then_ret ?_
   refine fin_then_ret ?_
   refine fin_block_ret ?_
   refine fin_then_ret ?_
   refine post_ret (x := .t [.i 0, .i (check a0)]) rfl rfl (resOK_tmp rfl (resOK_tmp rfl resOK_nil)) rfl (fun mm aa ww hr => ?_)
   have hm := Option.some.inj hm
   subst hm
   exact ⟨rfl, hr.below⟩
  ·have hm := brk_f hz2 hm
   refine aw_skip ?_
   refine fin_block ?_
   refine fin_then ?_
   refine aw_text (rows := [_, _]) rfl (by kernel_rfl) ⟨
    ok_plain rfl rfl (op_bin (r := .int .i64 1) (ltN rfl) rfl rfl rfl),
    ok_plain rfl rfl (op_move (ltN rfl) rfl),
    trivial⟩ ?_
   refine fin_keep (s' := (kt 2 (.p 1 0) :: kt 3 (.p 2 0) :: kt 12 (.s 3 0 2 2) :: kt 13 (.i 2) :: kt 14 (.i 1) :: kb 1 25 11 :: kb 2 25 11 :: kb 3 25 22 :: sK 1 a0 (.v (.slice a0_Thrust_p a0.Thrust.length a0_Thrust_c)) (.v (.slice a0_Water_p a0.Water.length a0_Water_c)) (.v (.slice a0_Ice_p a0.Ice.length a0_Ice_c)) (sK 2 a1 (.v (.slice a1_Thrust_p a1.Thrust.length a1_Thrust_c)) (.v (.slice a1_Water_p a1.Water.length a1_Water_c)) (.v (.slice a1_Ice_p a1.Ice.length a1_Ice_c)) (sK 3 a0 (.v (.slice a0_Thrust_p a0.Thrust.length a0_Thrust_c)) (.v (.slice a0_Water_p a0.Water.length a0_Water_c)) (.v (.slice a0_Ice_p a0.Ice.length a0_Ice_c)) [kc 3 11 (.i a1.Class), kc 3 12 (.i a1.Power), kc 3 13 (.i a1.Draught), kc 3 14 (.i a1.Tonnes), kc 3 15 (.v (.slice a1_Thrust_p a1.Thrust.length a1_Thrust_c)), kc 3 16 (.v (.slice a1_Water_p a1.Water.length a1_Water_c)), kc 3 17 (.v (.slice a1_Ice_p a1.Ice.length a1_Ice_c)), kc 3 18 (.i a1.Slow), kc 3 19 (.i a1.Brash), kc 3 20 (.i a1.Ridge), kc 3 21 (.i a1.Press)])))) ?_ (kp rfl) rfl
   refine fin_round ?_
   refine aw_seq ?_
   refine aw_text (rows := [_]) rfl (by kernel_rfl) ⟨
    ok_plain rfl rfl (op_bin (r := .bool true) (ltN rfl) rfl rfl rfl),
    trivial⟩ ?_
   refine fin_keep (s' := (kt 2 (.p 1 0) :: kt 3 (.p 2 0) :: kt 12 (.s 3 0 2 2) :: kt 13 (.i 2) :: kt 14 (.i 1) :: kt 15 (.B true) :: kb 1 25 11 :: kb 2 25 11 :: kb 3 25 22 :: sK 1 a0 (.v (.slice a0_Thrust_p a0.Thrust.length a0_Thrust_c)) (.v (.slice a0_Water_p a0.Water.length a0_Water_c)) (.v (.slice a0_Ice_p a0.Ice.length a0_Ice_c)) (sK 2 a1 (.v (.slice a1_Thrust_p a1.Thrust.length a1_Thrust_c)) (.v (.slice a1_Water_p a1.Water.length a1_Water_c)) (.v (.slice a1_Ice_p a1.Ice.length a1_Ice_c)) (sK 3 a0 (.v (.slice a0_Thrust_p a0.Thrust.length a0_Thrust_c)) (.v (.slice a0_Water_p a0.Water.length a0_Water_c)) (.v (.slice a0_Ice_p a0.Ice.length a0_Ice_c)) [kc 3 11 (.i a1.Class), kc 3 12 (.i a1.Power), kc 3 13 (.i a1.Draught), kc 3 14 (.i a1.Tonnes), kc 3 15 (.v (.slice a1_Thrust_p a1.Thrust.length a1_Thrust_c)), kc 3 16 (.v (.slice a1_Water_p a1.Water.length a1_Water_c)), kc 3 17 (.v (.slice a1_Ice_p a1.Ice.length a1_Ice_c)), kc 3 18 (.i a1.Slow), kc 3 19 (.i a1.Brash), kc 3 20 (.i a1.Ridge), kc 3 21 (.i a1.Press)])))) ?_ (kp rfl) rfl
   refine fin_then ?_
   refine aw_seq ?_
   refine aw_cond rfl (fun hz3 => ?_) (fun hz3 => by cases hz3)
   refine aw_skip ?_
   refine fin_then ?_
   refine aw_seq ?_
   refine aw_block ?_
   refine aw_seq ?_
   refine aw_text (rows := [_, _, _, _]) rfl (by kernel_rfl) ⟨
    ok_plain rfl rfl (op_ix (ltN rfl) rfl rfl ss_176 (by decide) (by decide)),
    ok_plain rfl rfl (op_loadN (ys := [.i a1.Class, .i a1.Power, .i a1.Draught, .i a1.Tonnes, .v (.slice a1_Thrust_p a1.Thrust.length a1_Thrust_c), .v (.slice a1_Water_p a1.Water.length a1_Water_c), .v (.slice a1_Ice_p a1.Ice.length a1_Ice_c), .i a1.Slow, .i a1.Brash, .i a1.Ridge, .i a1.Press]) (ltN rfl) sh_25 rfl rfl ⟨rfl, rfl, rfl, rfl, rfl, rfl, rfl, rfl, rfl, rfl, rfl, trivial⟩),
    ok_plain rfl rfl (op_alloc (L := 5) (ltN rfl) zl_25),
    ok_plain rfl rfl (op_storeN sz_25 rfl rfl rfl rfl rfl (by decide)),
    trivial⟩ ?_
   refine fin_keep (s' := (kt 2 (.p 1 0) :: kt 3 (.p 2 0) :: kt 7 (.p 5 0) :: kt 12 (.s 3 0 2 2) :: kt 13 (.i 2) :: kt 14 (.i 1) :: kb 1 25 11 :: kb 2 25 11 :: kb 3 25 22 :: kb 5 25 11 :: sK 1 a0 (.v (.slice a0_Thrust_p a0.Thrust.length a0_Thrust_c)) (.v (.slice a0_Water_p a0.Water.length a0_Water_c)) (.v (.slice a0_Ice_p a0.Ice.length a0_Ice_c)) (sK 2 a1 (.v (.slice a1_Thrust_p a1.Thrust.length a1_Thrust_c)) (.v (.slice a1_Water_p a1.Water.length a1_Water_c)) (.v (.slice a1_Ice_p a1.Ice.length a1_Ice_c)) (sK 3 a0 (.v (.slice a0_Thrust_p a0.Thrust.length a0_Thrust_c)) (.v (.slice a0_Water_p a0.Water.length a0_Water_c)) (.v (.slice a0_Ice_p a0.Ice.length a0_Ice_c)) (kc 3 11 (.i a1.Class) :: kc 3 12 (.i a1.Power) :: kc 3 13 (.i a1.Draught) :: kc 3 14 (.i a1.Tonnes) :: kc 3 15 (.v (.slice a1_Thrust_p a1.Thrust.length a1_Thrust_c)) :: kc 3 16 (.v (.slice a1_Water_p a1.Water.length a1_Water_c)) :: kc 3 17 (.v (.slice a1_Ice_p a1.Ice.length a1_Ice_c)) :: kc 3 18 (.i a1.Slow) :: kc 3 19 (.i a1.Brash) :: kc 3 20 (.i a1.Ridge) :: kc 3 21 (.i a1.Press) :: sK 5 a1 (.v (.slice a1_Thrust_p a1.Thrust.length a1_Thrust_c)) (.v (.slice a1_Water_p a1.Water.length a1_Water_c)) (.v (.slice a1_Ice_p a1.Ice.length a1_Ice_c)) []))))) ?_ (kp rfl) rfl
   refine fin_then ?_
   refine aw_seq ?_
   refine aw_text (rows := [_, _, _]) rfl (by kernel_rfl) ⟨
    ok_plain rfl rfl (op_loadN (ys := [.i a1.Class, .i a1.Power, .i a1.Draught, .i a1.Tonnes, .v (.slice a1_Thrust_p a1.Thrust.length a1_Thrust_c), .v (.slice a1_Water_p a1.Water.length a1_Water_c), .v (.slice a1_Ice_p a1.Ice.length a1_Ice_c), .i a1.Slow, .i a1.Brash, .i a1.Ridge, .i a1.Press]) (ltN rfl) sh_25 rfl rfl ⟨rfl, rfl, rfl, rfl, rfl, rfl, rfl, rfl, rfl, rfl, rfl, trivial⟩),
    ok_plain rfl rfl (op_call (x := .i (check a1)) (fs := []) (caps := []) (extra := []) (ltN rfl) en_46 rfl ⟨rfl, rfl, rfl⟩ (EvL.cons rfl EvL.nil) (fun mm aa ww gg hr hrel => (c46 a1 ⟨a1_Thrust_p, a1.Thrust.length, a1_Thrust_c⟩ ⟨a1_Water_p, a1.Water.length, a1_Water_c⟩ ⟨a1_Ice_p, a1.Ice.length, a1_Ice_c⟩ ww (SlIs.mono ha1_Thrust hrel.below) (SlIs.mono ha1_Water hrel.below) (SlIs.mono ha1_Ice hrel.below)))),
    ok_plain rfl rfl (op_assign (ltN rfl) rfl),
    trivial⟩ ?_
   refine fin_keep (s' := (kt 2 (.p 1 0) :: kt 3 (.p 2 0) :: kt 8 (.i (check a1)) :: kt 12 (.s 3 0 2 2) :: kt 13 (.i 2) :: kt 14 (.i 1) :: kb 1 25 11 :: kb 2 25 11 :: kb 3 25 22 :: sK 1 a0 (.v (.slice a0_Thrust_p a0.Thrust.length a0_Thrust_c)) (.v (.slice a0_Water_p a0.Water.length a0_Water_c)) (.v (.slice a0_Ice_p a0.Ice.length a0_Ice_c)) (sK 2 a1 (.v (.slice a1_Thrust_p a1.Thrust.length a1_Thrust_c)) (.v (.slice a1_Water_p a1.Water.length a1_Water_c)) (.v (.slice a1_Ice_p a1.Ice.length a1_Ice_c)) (sK 3 a0 (.v (.slice a0_Thrust_p a0.Thrust.length a0_Thrust_c)) (.v (.slice a0_Water_p a0.Water.length a0_Water_c)) (.v (.slice a0_Ice_p a0.Ice.length a0_Ice_c)) [kc 3 11 (.i a1.Class), kc 3 12 (.i a1.Power), kc 3 13 (.i a1.Draught), kc 3 14 (.i a1.Tonnes), kc 3 15 (.v (.slice a1_Thrust_p a1.Thrust.length a1_Thrust_c)), kc 3 16 (.v (.slice a1_Water_p a1.Water.length a1_Water_c)), kc 3 17 (.v (.slice a1_Ice_p a1.Ice.length a1_Ice_c)), kc 3 18 (.i a1.Slow), kc 3 19 (.i a1.Brash), kc 3 20 (.i a1.Ridge), kc 3 21 (.i a1.Press)])))) ?_ (kp rfl) rfl
   refine fin_then ?_
   refine aw_seq ?_
   refine aw_text (rows := [_, _]) rfl (by kernel_rfl) ⟨
    ok_plain rfl rfl (op_move (ltN rfl) rfl),
    ok_plain rfl rfl (op_bin (ltN rfl) rfl rfl rfl),
    trivial⟩ ?_
   refine fin_keep (s' := (kt 2 (.p 1 0) :: kt 3 (.p 2 0) :: kt 8 (.i (check a1)) :: kt 12 (.s 3 0 2 2) :: kt 13 (.i 2) :: kt 14 (.i 1) :: kt 21 (.B ((check a1) != 0)) :: kb 1 25 11 :: kb 2 25 11 :: kb 3 25 22 :: sK 1 a0 (.v (.slice a0_Thrust_p a0.Thrust.length a0_Thrust_c)) (.v (.slice a0_Water_p a0.Water.length a0_Water_c)) (.v (.slice a0_Ice_p a0.Ice.length a0_Ice_c)) (sK 2 a1 (.v (.slice a1_Thrust_p a1.Thrust.length a1_Thrust_c)) (.v (.slice a1_Water_p a1.Water.length a1_Water_c)) (.v (.slice a1_Ice_p a1.Ice.length a1_Ice_c)) (sK 3 a0 (.v (.slice a0_Thrust_p a0.Thrust.length a0_Thrust_c)) (.v (.slice a0_Water_p a0.Water.length a0_Water_c)) (.v (.slice a0_Ice_p a0.Ice.length a0_Ice_c)) [kc 3 11 (.i a1.Class), kc 3 12 (.i a1.Power), kc 3 13 (.i a1.Draught), kc 3 14 (.i a1.Tonnes), kc 3 15 (.v (.slice a1_Thrust_p a1.Thrust.length a1_Thrust_c)), kc 3 16 (.v (.slice a1_Water_p a1.Water.length a1_Water_c)), kc 3 17 (.v (.slice a1_Ice_p a1.Ice.length a1_Ice_c)), kc 3 18 (.i a1.Slow), kc 3 19 (.i a1.Brash), kc 3 20 (.i a1.Ridge), kc 3 21 (.i a1.Press)])))) ?_ (kp rfl) rfl
   refine fin_then ?_
   refine aw_cond rfl (fun hz4 => ?_) (fun hz4 => ?_)
   ·have hm := brk_t hz4 hm
    refine aw_seq ?_
    refine aw_text (rows := [_, _, _]) rfl (by kernel_rfl) ⟨
     ok_plain rfl rfl (op_move (ltN rfl) rfl),
     ok_plain rfl rfl (op_assign (ltN rfl) rfl),
     ok_plain rfl rfl (op_assign (ltN rfl) rfl),
     trivial⟩ ?_
    refine fin_keep (s' := [kt 4 (.i 0), kt 5 (.i (check a1))]) ?_ (kp rfl) rfl
    refine fin_then ?_
    refine aw_ret ?_
    refine fin_block_ret ?_
    refine fin_then_ret ?_
    refine fin_then_ret ?_
    refine fin_block_ret ?_
    refine fin_then_ret ?_
    refine post_ret (x := .t [.i 0, .i (check a1)]) rfl rfl (resOK_tmp rfl (resOK_tmp rfl resOK_nil)) rfl (fun mm aa ww hr => ?_)
    have hm := Option.some.inj hm
    subst hm
    exact ⟨rfl, hr.below⟩
   ·have hm := brk_f hz4 hm
    refine aw_skip ?_
    refine fin_block ?_
    refine fin_then ?_
    refine aw_text (rows := [_, _]) rfl (by kernel_rfl) ⟨
     ok_plain rfl rfl (op_bin (r := .int .i64 2) (ltN rfl) rfl rfl rfl),
     ok_plain rfl rfl (op_move (ltN rfl) rfl),
     trivial⟩ ?_
    refine fin_keep (s' := (kt 2 (.p 1 0) :: kt 3 (.p 2 0) :: kt 12 (.s 3 0 2 2) :: kt 13 (.i 2) :: kt 14 (.i 2) :: kb 1 25 11 :: kb 2 25 11 :: kb 3 25 22 :: sK 1 a0 (.v (.slice a0_Thrust_p a0.Thrust.length a0_Thrust_c)) (.v (.slice a0_Water_p a0.Water.length a0_Water_c)) (.v (.slice a0_Ice_p a0.Ice.length a0_Ice_c)) (sK 2 a1 (.v (.slice a1_Thrust_p a1.Thrust.length a1_Thrust_c)) (.v (.slice a1_Water_p a1.Water.length a1_Water_c)) (.v (.slice a1_Ice_p a1.Ice.length a1_Ice_c)) (sK 3 a0 (.v (.slice a0_Thrust_p a0.Thrust.length a0_Thrust_c)) (.v (.slice a0_Water_p a0.Water.length a0_Water_c)) (.v (.slice a0_Ice_p a0.Ice.length a0_Ice_c)) [kc 3 11 (.i a1.Class), kc 3 12 (.i a1.Power), kc 3 13 (.i a1.Draught), kc 3 14 (.i a1.Tonnes), kc 3 15 (.v (.slice a1_Thrust_p a1.Thrust.length a1_Thrust_c)), kc 3 16 (.v (.slice a1_Water_p a1.Water.length a1_Water_c)), kc 3 17 (.v (.slice a1_Ice_p a1.Ice.length a1_Ice_c)), kc 3 18 (.i a1.Slow), kc 3 19 (.i a1.Brash), kc 3 20 (.i a1.Ridge), kc 3 21 (.i a1.Press)])))) ?_ (kp rfl) rfl
    refine fin_round ?_
    refine aw_seq ?_
    refine aw_text (rows := [_]) rfl (by kernel_rfl) ⟨
     ok_plain rfl rfl (op_bin (r := .bool false) (ltN rfl) rfl rfl rfl),
     trivial⟩ ?_
    refine fin_keep (s' := (kt 2 (.p 1 0) :: kt 3 (.p 2 0) :: kt 12 (.s 3 0 2 2) :: kt 13 (.i 2) :: kt 14 (.i 2) :: kt 15 (.B false) :: kb 1 25 11 :: kb 2 25 11 :: kb 3 25 22 :: sK 1 a0 (.v (.slice a0_Thrust_p a0.Thrust.length a0_Thrust_c)) (.v (.slice a0_Water_p a0.Water.length a0_Water_c)) (.v (.slice a0_Ice_p a0.Ice.length a0_Ice_c)) (sK 2 a1 (.v (.slice a1_Thrust_p a1.Thrust.length a1_Thrust_c)) (.v (.slice a1_Water_p a1.Water.length a1_Water_c)) (.v (.slice a1_Ice_p a1.Ice.length a1_Ice_c)) (sK 3 a0 (.v (.slice a0_Thrust_p a0.Thrust.length a0_Thrust_c)) (.v (.slice a0_Water_p a0.Water.length a0_Water_c)) (.v (.slice a0_Ice_p a0.Ice.length a0_Ice_c)) [kc 3 11 (.i a1.Class), kc 3 12 (.i a1.Power), kc 3 13 (.i a1.Draught), kc 3 14 (.i a1.Tonnes), kc 3 15 (.v (.slice a1_Thrust_p a1.Thrust.length a1_Thrust_c)), kc 3 16 (.v (.slice a1_Water_p a1.Water.length a1_Water_c)), kc 3 17 (.v (.slice a1_Ice_p a1.Ice.length a1_Ice_c)), kc 3 18 (.i a1.Slow), kc 3 19 (.i a1.Brash), kc 3 20 (.i a1.Ridge), kc 3 21 (.i a1.Press)])))) ?_ (kp rfl) rfl
    refine fin_then ?_
    refine aw_seq ?_
    refine aw_cond rfl (fun hz5 => by cases hz5) (fun hz5 => ?_)
    refine aw_exit ?_
    refine fin_then_exit ?_
    refine fin_then_exit ?_
    refine fin_block_exit ?_
    exact fin_cut () hm ⟨rfl, rfl, rfl, rfl, rfl, rfl, rfl, rfl, rfl, rfl, rfl, rfl, rfl, rfl, rfl, rfl, rfl, rfl, rfl, rfl, rfl, rfl, rfl, rfl, rfl, rfl, trivial⟩ rfl
 ·have _z := hm
  refine aw_cutM (ι := Unit) hm (fun x2 => []) (fun hm => ?_) (fun x2 hm => ?_)
  ·have _z := hm
   refine aw_seq ?_
   refine aw_text (rows := [_]) rfl (by kernel_rfl) ⟨
    ok_plain rfl rfl (op_move (ltN rfl) rfl),
    trivial⟩ ?_
   refine fin_keep (s' := (kt 2 (.p 1 0) :: kt 3 (.p 2 0) :: kt 24 (.i 0) :: kb 1 25 11 :: kb 2 25 11 :: sK 1 a0 (.v (.slice a0_Thrust_p a0.Thrust.length a0_Thrust_c)) (.v (.slice a0_Water_p a0.Water.length a0_Water_c)) (.v (.slice a0_Ice_p a0.Ice.length a0_Ice_c)) (sK 2 a1 (.v (.slice a1_Thrust_p a1.Thrust.length a1_Thrust_c)) (.v (.slice a1_Water_p a1.Water.length a1_Water_c)) (.v (.slice a1_Ice_p a1.Ice.length a1_Ice_c)) []))) ?_ (kp rfl) rfl
   refine fin_then ?_
   refine aw_block ?_
   refine aw_loopC hm (fun x3 => (kt 2 (.p 1 0) :: kt 3 (.p 2 0) :: kt 24 (.i x3) :: kb 1 25 11 :: kb 2 25 11 :: sK 1 a0 (.v (.slice a0_Thrust_p a0.Thrust.length a0_Thrust_c)) (.v (.slice a0_Water_p a0.Water.length a0_Water_c)) (.v (.slice a0_Ice_p a0.Ice.length a0_Ice_c)) (sK 2 a1 (.v (.slice a1_Thrust_p a1.Thrust.length a1_Thrust_c)) (.v (.slice a1_Water_p a1.Water.length a1_Water_c)) (.v (.slice a1_Ice_p a1.Ice.length a1_Ice_c)) []))) ⟨rfl, rfl, rfl, rfl, rfl, rfl, rfl, rfl, rfl, rfl, rfl, rfl, rfl, rfl, rfl, rfl, rfl, rfl, rfl, rfl, rfl, rfl, rfl, rfl, rfl, rfl, rfl, trivial⟩ rfl (fun x3 n3 hm => ?_)
   refine aw_seq ?_
   refine aw_text (rows := [_]) rfl (by kernel_rfl) ⟨
    ok_plain rfl rfl (op_bin (ltN rfl) rfl rfl rfl),
    trivial⟩ ?_
   refine fin_keep (s' := (kt 2 (.p 1 0) :: kt 3 (.p 2 0) :: kt 24 (.i x3) :: kt 25 (.B (decide (x3 < 401))) :: kb 1 25 11 :: kb 2 25 11 :: sK 1 a0 (.v (.slice a0_Thrust_p a0.Thrust.length a0_Thrust_c)) (.v (.slice a0_Water_p a0.Water.length a0_Water_c)) (.v (.slice a0_Ice_p a0.Ice.length a0_Ice_c)) (sK 2 a1 (.v (.slice a1_Thrust_p a1.Thrust.length a1_Thrust_c)) (.v (.slice a1_Water_p a1.Water.length a1_Water_c)) (.v (.slice a1_Ice_p a1.Ice.length a1_Ice_c)) []))) ?_ (kp rfl) rfl
   refine fin_then ?_
   refine aw_seq ?_
   refine aw_cond rfl (fun hz6 => ?_) (fun hz6 => ?_)
   ·have hm := brk_t hz6 hm
    refine aw_skip ?_
    refine fin_then ?_
    refine aw_seq ?_
    refine aw_block ?_
    refine aw_seq ?_
    refine aw_text (rows := [_, _]) rfl (by kernel_rfl) ⟨
     ok_plain rfl rfl (op_move (ltN rfl) rfl),
     ok_plain rfl rfl (op_assign (ltN rfl) rfl),
     trivial⟩ ?_
    refine fin_keep (s' := (kt 2 (.p 1 0) :: kt 3 (.p 2 0) :: kt 9 (.i x3) :: kt 24 (.i x3) :: kb 1 25 11 :: kb 2 25 11 :: sK 1 a0 (.v (.slice a0_Thrust_p a0.Thrust.length a0_Thrust_c)) (.v (.slice a0_Water_p a0.Water.length a0_Water_c)) (.v (.slice a0_Ice_p a0.Ice.length a0_Ice_c)) (sK 2 a1 (.v (.slice a1_Thrust_p a1.Thrust.length a1_Thrust_c)) (.v (.slice a1_Water_p a1.Water.length a1_Water_c)) (.v (.slice a1_Ice_p a1.Ice.length a1_Ice_c)) []))) ?_ (kp rfl) rfl
    refine fin_then ?_
    refine aw_seq ?_
    obtain ⟨hp7, hm⟩ := chk_some hm
    obtain ⟨hp8, hm⟩ := chk_some hm
    obtain ⟨hp9, hm⟩ := chk_some hm
    refine aw_text (rows := [_, _, _, _, _, _, _, _, _]) rfl (by kernel_rfl) ⟨
     ok_plain rfl rfl (op_move (ltN rfl) rfl),
     ok_plain rfl rfl (op_call (x := .g [.i 100, .i x3, .i 0, .i 0]) (fs := []) (caps := []) (extra := []) (ltN rfl) en_105 rfl ⟨rfl, rfl, rfl⟩ (EvL.cons rfl EvL.nil) (fun mm aa ww gg hr hrel => (c105 x3 ww))),
     ok_plain rfl rfl (op_build (x := .g [.p 1 0, .i 100, .i x3, .i 0, .i 0, .B false]) (ltN rfl) (EvL.cons rfl (EvL.cons rfl (EvL.cons rfl EvL.nil))) (fun m w => by kernel_rfl)),
     ok_plain rfl rfl (op_call (x := .i (speed a0 ((⟨100, x3, 0, 0⟩ : Ice)) false)) (fs := []) (caps := []) (extra := (kapp ((.b 1 :: cellKeys 1 0 11)) [])) (ltN rfl) en_76 rfl ⟨rfl, rfl, rfl⟩ (EvL.cons rfl EvL.nil) (fun mm aa ww gg hr hrel => (c76 a0 ⟨a0_Thrust_p, a0.Thrust.length, a0_Thrust_c⟩ ⟨a0_Water_p, a0.Water.length, a0_Water_c⟩ ⟨a0_Ice_p, a0.Ice.length, a0_Ice_c⟩ (mm 1) ((⟨100, x3, 0, 0⟩ : Ice)) false ww (SlIs.mono ha0_Thrust hrel.below) (SlIs.mono ha0_Water hrel.below) (SlIs.mono ha0_Ice hrel.below) (boxAt (L := 1) (vs := [(.int .i64 a0.Class), (.int .i64 a0.Power), (.int .i64 a0.Draught), (.int .i64 a0.Tonnes), (.slice a0_Thrust_p a0.Thrust.length a0_Thrust_c), (.slice a0_Water_p a0.Water.length a0_Water_c), (.slice a0_Ice_p a0.Ice.length a0_Ice_c), (.int .i64 a0.Slow), (.int .i64 a0.Brash), (.int .i64 a0.Ridge), (.int .i64 a0.Press)]) hrel (fun k hk => hr k (List.mem_append_left _ hk)) rfl ⟨rfl, rfl, rfl, rfl, rfl, rfl, rfl, rfl, rfl, rfl, rfl, trivial⟩) hp7 hp8))),
     ok_plain rfl rfl (op_move (ltN rfl) rfl),
     ok_plain rfl rfl (op_call (x := .g [.i 100, .i x3, .i 0, .i 0]) (fs := []) (caps := []) (extra := []) (ltN rfl) en_105 rfl ⟨rfl, rfl, rfl⟩ (EvL.cons rfl EvL.nil) (fun mm aa ww gg hr hrel => (c105 x3 ww))),
     ok_plain rfl rfl (op_build (x := .g [.p 2 0, .i 100, .i x3, .i 0, .i 0, .B false]) (ltN rfl) (EvL.cons rfl (EvL.cons rfl (EvL.cons rfl EvL.nil))) (fun m w => by kernel_rfl)),
     ok_plain rfl rfl (op_call (x := .i (speed a1 ((⟨100, x3, 0, 0⟩ : Ice)) false)) (fs := []) (caps := []) (extra := (kapp ((.b 2 :: cellKeys 2 0 11)) [])) (ltN rfl) en_76 rfl ⟨rfl, rfl, rfl⟩ (EvL.cons rfl EvL.nil) (fun mm aa ww gg hr hrel => (c76 a1 ⟨a1_Thrust_p, a1.Thrust.length, a1_Thrust_c⟩ ⟨a1_Water_p, a1.Water.length, a1_Water_c⟩ ⟨a1_Ice_p, a1.Ice.length, a1_Ice_c⟩ (mm 2) ((⟨100, x3, 0, 0⟩ : Ice)) false ww (SlIs.mono ha1_Thrust hrel.below) (SlIs.mono ha1_Water hrel.below) (SlIs.mono ha1_Ice hrel.below) (boxAt (L := 2) (vs := [(.int .i64 a1.Class), (.int .i64 a1.Power), (.int .i64 a1.Draught), (.int .i64 a1.Tonnes), (.slice a1_Thrust_p a1.Thrust.length a1_Thrust_c), (.slice a1_Water_p a1.Water.length a1_Water_c), (.slice a1_Ice_p a1.Ice.length a1_Ice_c), (.int .i64 a1.Slow), (.int .i64 a1.Brash), (.int .i64 a1.Ridge), (.int .i64 a1.Press)]) hrel (fun k hk => hr k (List.mem_append_left _ hk)) rfl ⟨rfl, rfl, rfl, rfl, rfl, rfl, rfl, rfl, rfl, rfl, rfl, trivial⟩) hp9 hp8))),
     ok_plain rfl rfl (op_bin (ltN rfl) rfl rfl rfl),
     trivial⟩ ?_
    refine fin_keep (s' := (kt 2 (.p 1 0) :: kt 3 (.p 2 0) :: kt 9 (.i x3) :: kt 24 (.i x3) :: kt 35 (.B (decide ((speed a0 ((⟨100, x3, 0, 0⟩ : Ice)) false) < (speed a1 ((⟨100, x3, 0, 0⟩ : Ice)) false)))) :: kb 1 25 11 :: kb 2 25 11 :: sK 1 a0 (.v (.slice a0_Thrust_p a0.Thrust.length a0_Thrust_c)) (.v (.slice a0_Water_p a0.Water.length a0_Water_c)) (.v (.slice a0_Ice_p a0.Ice.length a0_Ice_c)) (sK 2 a1 (.v (.slice a1_Thrust_p a1.Thrust.length a1_Thrust_c)) (.v (.slice a1_Water_p a1.Water.length a1_Water_c)) (.v (.slice a1_Ice_p a1.Ice.length a1_Ice_c)) []))) ?_ (kp rfl) rfl
    refine fin_then ?_
    refine aw_cond rfl (fun hz10 => ?_) (fun hz10 => ?_)
    ·have hm := brk_t hz10 hm
     refine aw_seq ?_
     refine aw_text (rows := [_, _, _]) rfl (by kernel_rfl) ⟨
      ok_plain rfl rfl (op_move (ltN rfl) rfl),
      ok_plain rfl rfl (op_assign (ltN rfl) rfl),
      ok_plain rfl rfl (op_assign (ltN rfl) rfl),
      trivial⟩ ?_
     refine fin_keep (s' := [kt 4 (.i x3), kt 5 (.i 0)]) ?_ (kp rfl) rfl
     refine fin_then ?_
     refine aw_ret ?_
     refine fin_block_ret ?_
     refine fin_then_ret ?_
     refine fin_then_ret ?_
     refine fin_block_ret ?_
     refine fin_then_ret ?_
     refine post_ret (x := .t [.i x3, .i 0]) rfl rfl (resOK_tmp rfl (resOK_tmp rfl resOK_nil)) rfl (fun mm aa ww hr => ?_)
     have hm := Option.some.inj hm
     subst hm
     exact ⟨rfl, hr.below⟩
    ·have hm := brk_f hz10 hm
     refine aw_skip ?_
     refine fin_block ?_
     refine fin_then ?_
     obtain ⟨hp11, hm⟩ := chk_some hm
     refine aw_text (rows := [_, _]) rfl (by kernel_rfl) ⟨
      ok_plain rfl rfl (op_bin (ltN rfl) rfl rfl (nw_add hp11)),
      ok_plain rfl rfl (op_move (ltN rfl) rfl),
      trivial⟩ ?_
     refine fin_keep (s' := (kt 2 (.p 1 0) :: kt 3 (.p 2 0) :: kt 24 (.i (x3 + 1)) :: kb 1 25 11 :: kb 2 25 11 :: sK 1 a0 (.v (.slice a0_Thrust_p a0.Thrust.length a0_Thrust_c)) (.v (.slice a0_Water_p a0.Water.length a0_Water_c)) (.v (.slice a0_Ice_p a0.Ice.length a0_Ice_c)) (sK 2 a1 (.v (.slice a1_Thrust_p a1.Thrust.length a1_Thrust_c)) (.v (.slice a1_Water_p a1.Water.length a1_Water_c)) (.v (.slice a1_Ice_p a1.Ice.length a1_Ice_c)) []))) ?_ (kp rfl) rfl
     exact fin_cut (x3 + 1) hm ⟨rfl, rfl, rfl, rfl, rfl, rfl, rfl, rfl, rfl, rfl, rfl, rfl, rfl, rfl, rfl, rfl, rfl, rfl, rfl, rfl, rfl, rfl, rfl, rfl, rfl, rfl, rfl, trivial⟩ rfl
   ·have hm := brk_f hz6 hm
    refine aw_exit ?_
    refine fin_then_exit ?_
    refine fin_then_exit ?_
    refine fin_block_exit ?_
    exact fin_cut () hm trivial rfl
  ·have _z := hm
   refine aw_seq ?_
   refine aw_text (rows := [_, _]) rfl (by kernel_rfl) ⟨
    ok_plain rfl rfl (op_assign (ltN rfl) rfl),
    ok_plain rfl rfl (op_assign (ltN rfl) rfl),
    trivial⟩ ?_
   refine fin_keep (s' := [kt 4 (.i 0), kt 5 (.i 4)]) ?_ (kp rfl) rfl
   refine fin_then ?_
   refine aw_ret ?_
   refine post_ret (x := .t [.i 0, .i 4]) rfl rfl (resOK_tmp rfl (resOK_tmp rfl resOK_nil)) rfl (fun mm aa ww hr => ?_)
   have hm := Option.some.inj hm
   subst hm
   exact ⟨rfl, hr.below⟩

end Go.Proofs.T

namespace Go.Proofs.T
open Go Go.AX Go.RowKit Hull
theorem en_21 : Proofs.Enters Tryd.prog 21 := Proofs.enters_of Tryd.func21 (by kernel_rfl) rfl
theorem en_28 : Proofs.Enters Tryd.prog 28 := Proofs.enters_of Tryd.func28 (by kernel_rfl) rfl
theorem en_51 : Proofs.Enters Tryd.prog 51 := Proofs.enters_of Tryd.func51 (by kernel_rfl) rfl
end Go.Proofs.T

namespace Go.Proofs.T
open Go Go.AX Go.RowKit Hull
theorem en_15 : Proofs.Enters Tryd.prog 15 := Proofs.enters_of Tryd.func15 (by kernel_rfl) rfl
theorem en_17 : Proofs.Enters Tryd.prog 17 := Proofs.enters_of Tryd.func17 (by kernel_rfl) rfl
theorem en_16 : Proofs.Enters Tryd.prog 16 := Proofs.enters_of Tryd.func16 (by kernel_rfl) rfl
end Go.Proofs.T

namespace Go.Proofs.T
open Go Go.AX Go.RowKit Hull
theorem us_77 : (Tryd.prog.underlying 77).isSome = true := by kernel_rfl

def m8 (F : Nat) (a0 : List Int) (a1 : List Int) (a2 : List Int) (a3 : List Int) (a4 : Int) (a5 : Bool) : Option (Bool) :=
 bnd (m15 F a0) (fun v1 => bnd (m28 F v1) (fun v2 => join (fun (x1 : List Pt) => chk (InR ((((x1.length : Nat) : Int)) - 1)) (join (fun (x3 : Nat × List Pt) => join (fun (x4 : List Pt) => join (fun (x6 : List Pt) => chk (InR (1 + (dv a1 x3.1 2))) (chk ((0 ≤ v2.Slow ∧ v2.Slow ≤ 9223372036854775807) ∧ 0 < (1 + (dv a1 x3.1 2))) (chk (InR (1 + (dv a1 ((x3.1 + 1)) 3))) (chk ((0 ≤ v2.Brash ∧ v2.Brash ≤ 9223372036854775807) ∧ 0 < (1 + (dv a1 ((x3.1 + 1)) 3))) (chk (InR (1 + (dv a1 (((x3.1 + 1) + 1)) 3))) (chk ((0 ≤ v2.Ridge ∧ v2.Ridge ≤ 9223372036854775807) ∧ 0 < (1 + (dv a1 (((x3.1 + 1) + 1)) 3))) (chk (InR (1 + (dv a1 ((((x3.1 + 1) + 1) + 1)) 3))) (chk ((0 ≤ v2.Press ∧ v2.Press ≤ 9223372036854775807) ∧ 0 < (1 + (dv a1 ((((x3.1 + 1) + 1) + 1)) 3))) (bnd (m17 F a2) (fun v3 => bnd (m16 F v3) (fun v4 => bnd (m51 F ((⟨v2.Class, v2.Power, v2.Draught, v2.Tonnes, x3.2, x4, x6, v2.Slow / (1 + (dv a1 x3.1 2)), v2.Brash / (1 + (dv a1 ((x3.1 + 1)) 3)), v2.Ridge / (1 + (dv a1 (((x3.1 + 1) + 1)) 3)), v2.Press / (1 + (dv a1 ((((x3.1 + 1) + 1) + 1)) 3))⟩ : Ship)) v1) (fun v5 => brk ((((((speedE v1 v4.1 a5).2) != 0) || (((speedE ((⟨v2.Class, v2.Power, v2.Draught, v2.Tonnes, x3.2, x4, x6, v2.Slow / (1 + (dv a1 x3.1 2)), v2.Brash / (1 + (dv a1 ((x3.1 + 1)) 3)), v2.Ridge / (1 + (dv a1 (((x3.1 + 1) + 1)) 3)), v2.Press / (1 + (dv a1 ((((x3.1 + 1) + 1) + 1)) 3))⟩ : Ship)) v4.1 a5).2) != 0)) || (decide (((speedE v1 v4.1 a5).1) > ((speedE ((⟨v2.Class, v2.Power, v2.Draught, v2.Tonnes, x3.2, x4, x6, v2.Slow / (1 + (dv a1 x3.1 2)), v2.Brash / (1 + (dv a1 ((x3.1 + 1)) 3)), v2.Ridge / (1 + (dv a1 (((x3.1 + 1) + 1)) 3)), v2.Press / (1 + (dv a1 ((((x3.1 + 1) + 1) + 1)) 3))⟩ : Ship)) v4.1 a5).1)))) || (v5.2 != 4)) (some false) (bnd (m15 F a3) (fun v6 => bnd (m51 F v1 v6) (fun v7 => brk ((v7.2 != 0) && (v7.2 != 4)) (some false) (chk (InR (a4)) (chk (0 ≤ a4 ∧ a4 ≤ 9223372036854775807) (brk (((((speedE v1 ((⟨100, a4 % 401, 0, 0⟩ : Ice)) false).2) != 0) || (((speedE v6 ((⟨100, a4 % 401, 0, 0⟩ : Ice)) false).2) != 0)) || ((decide (((speedE v1 ((⟨100, a4 % 401, 0, 0⟩ : Ice)) false).1) < ((speedE v6 ((⟨100, a4 % 401, 0, 0⟩ : Ice)) false).1))) && ((v7.2 != 0) || (decide ((a4 % 401) < v7.1))))) (some false) (join (fun (_ : Unit) => some true) (fun k8 => brk (v7.2 == 0) (brk (((((speedE v1 ((⟨100, v7.1, 0, 0⟩ : Ice)) false).2) != 0) || (((speedE v6 ((⟨100, v7.1, 0, 0⟩ : Ice)) false).2) != 0)) || (decide (((speedE v1 ((⟨100, v7.1, 0, 0⟩ : Ice)) false).1) ≥ ((speedE v6 ((⟨100, v7.1, 0, 0⟩ : Ice)) false).1)))) (some false) (k8 ())) (k8 ()))))))))))))))))))))) (fun k6 => loopC (fun (x7 : Int × List Pt) n7 => brk (decide (x7.1 < (((v2.Ice.length : Nat) : Int)))) (chk (0 ≤ x7.1 ∧ x7.1 < ((x7.2.length : Nat) : Int)) (chk (0 ≤ (((pt x7.2 x7.1)).Y) ∧ (((pt x7.2 x7.1)).Y) ≤ 9223372036854775807) (chk (InR (x7.1 + 1)) (n7 (x7.1 + 1, (x7.2.set x7.1.toNat ((⟨((pt x7.2 x7.1)).X, (((pt x7.2 x7.1)).Y) / 2⟩ : Pt)))))))) (k6 x7.2)) F (0, v2.Ice))) (fun k4 => loopC (fun (x5 : Int × List Pt) n5 => brk (decide (x5.1 < (((v2.Water.length : Nat) : Int)))) (chk (0 ≤ x5.1 ∧ x5.1 < ((x5.2.length : Nat) : Int)) (chk (InR ((((pt x5.2 x5.1)).Y) * 3)) (chk (0 ≤ ((((pt x5.2 x5.1)).Y) * 3) ∧ ((((pt x5.2 x5.1)).Y) * 3) ≤ 9223372036854775807) (chk (InR (x5.1 + 1)) (n5 (x5.1 + 1, (x5.2.set x5.1.toNat ((⟨((pt x5.2 x5.1)).X, ((((pt x5.2 x5.1)).Y) * 3) / 4⟩ : Pt))))))))) (k4 x5.2)) F (0, v2.Water))) (fun k3 => chk ((decide ((((x1.length : Nat) : Int)) < 8)) = true → 0 ≤ (((x1.length : Nat) : Int)) - 1 ∧ (((x1.length : Nat) : Int)) - 1 < ((x1.length : Nat) : Int)) (brk ((decide ((((x1.length : Nat) : Int)) < 8)) && (decide ((((pt x1 ((((x1.length : Nat) : Int)) - 1))).X) < 240))) (chk (0 ≤ (((x1.length : Nat) : Int)) - 1 ∧ (((x1.length : Nat) : Int)) - 1 < ((x1.length : Nat) : Int)) (chk (InR ((((pt x1 ((((x1.length : Nat) : Int)) - 1))).X) + 1)) (chk (InR (((((pt x1 ((((x1.length : Nat) : Int)) - 1))).X) + 1) + (dv a1 0 10))) (chk (x1.length ≤ 1000000) (k3 (1, (x1 ++ [(⟨((((pt x1 ((((x1.length : Nat) : Int)) - 1))).X) + 1) + (dv a1 0 10), ((pt x1 ((((x1.length : Nat) : Int)) - 1))).Y⟩ : Pt)]))))))) (k3 (0, x1)))))) (fun k1 => loopC (fun (x2 : Int × List Pt) n2 => brk (decide (x2.1 < (((v2.Thrust.length : Nat) : Int)))) (chk (0 ≤ x2.1 ∧ x2.1 < ((x2.2.length : Nat) : Int)) (chk (InR ((((x2.2.length : Nat) : Int)) - x2.1)) (chk (InR (50 * ((((x2.2.length : Nat) : Int)) - x2.1))) (chk (InR ((((pt x2.2 x2.1)).Y) + (50 * ((((x2.2.length : Nat) : Int)) - x2.1)))) (chk (InR (x2.1 + 1)) (n2 (x2.1 + 1, (x2.2.set x2.1.toNat ((⟨((pt x2.2 x2.1)).X, (((pt x2.2 x2.1)).Y) + (50 * ((((x2.2.length : Nat) : Int)) - x2.1))⟩ : Pt)))))))))) (k1 x2.2)) F (0, v2.Thrust))))

set_option maxHeartbeats 8000000 in
set_option maxRecDepth 8000 in
theorem c8 (F : Nat) (a0 : List Int) (a0_s : SlV) (a1 : List Int) (a1_s : SlV) (a2 : List Int) (a2_s : SlV) (a3 : List Int) (a3_s : SlV) (a4 : Int) (a5 : Bool) (w : World) (ha0 : SlIs encU8 1 w a0_s a0) (h8a0 : ∀ x ∈ a0, 0 ≤ x ∧ x ≤ 255) (hlena0 : a0.length ≤ 9223372036854775807) (ha1 : SlIs encU8 1 w a1_s a1) (h8a1 : ∀ x ∈ a1, 0 ≤ x ∧ x ≤ 255) (hlena1 : a1.length ≤ 9223372036854775807) (ha2 : SlIs encU8 1 w a2_s a2) (h8a2 : ∀ x ∈ a2, 0 ≤ x ∧ x ≤ 255) (hlena2 : a2.length ≤ 9223372036854775807) (ha3 : SlIs encU8 1 w a3_s a3) (h8a3 : ∀ x ∈ a3, 0 ≤ x ∧ x ≤ 255) (hlena3 : a3.length ≤ 9223372036854775807) (hG : BoxAt w 0 (strengths.map (fun n => Value.int .i64 n))) (r : Bool) (hm : m8 F a0 a1 a2 a3 a4 a5 = some r) : Calls Tryd.prog 8 #[.slice a0_s.p a0_s.n a0_s.c, .slice a1_s.p a1_s.n a1_s.c, .slice a2_s.p a2_s.n a2_s.c, .slice a3_s.p a3_s.n a3_s.c, .int .u16 a4, .bool a5] w fun e w' => e = .returned (.bool r) ∧ Below w.heap.size w w' := by
 obtain ⟨a0_p, a0_n, a0_c⟩ := a0_s
 have ha0_l : a0_n = a0.length := ha0.1
 subst ha0_l
 obtain ⟨a0_b, a0_o, ha0_p, ha0_L⟩ := SlAt.lies' ha0
 obtain ⟨a1_p, a1_n, a1_c⟩ := a1_s
 have ha1_l : a1_n = a1.length := ha1.1
 subst ha1_l
 obtain ⟨a1_b, a1_o, ha1_p, ha1_L⟩ := SlAt.lies' ha1
 obtain ⟨a2_p, a2_n, a2_c⟩ := a2_s
 have ha2_l : a2_n = a2.length := ha2.1
 subst ha2_l
 obtain ⟨a2_b, a2_o, ha2_p, ha2_L⟩ := SlAt.lies' ha2
 obtain ⟨a3_p, a3_n, a3_c⟩ := a3_s
 have ha3_l : a3_n = a3.length := ha3.1
 subst ha3_l
 obtain ⟨a3_b, a3_o, ha3_p, ha3_L⟩ := SlAt.lies' ha3
 unfold m8 at hm
 refine enter (args := [.v (.slice a0_p a0.length a0_c), .v (.slice a1_p a1.length a1_c), .v (.slice a2_p a2.length a2_c), .v (.slice a3_p a3.length a3_c), .v (.int .u16 a4), .B a5]) Tryd.func8 rfl (N := 282) rfl (Nat.le_of_ble_eq_true rfl) ?_
 refine aw_seq ?_
 refine aw_text (rows := [_]) rfl (by kernel_rfl) ⟨
  ok_plain rfl rfl (op_assign (ltN rfl) rfl),
  trivial⟩ ?_
 refine fin_keep (s' := [kt 0 (.v (.slice a0_p a0.length a0_c)), kt 1 (.v (.slice a1_p a1.length a1_c)), kt 2 (.v (.slice a2_p a2.length a2_c)), kt 3 (.v (.slice a3_p a3.length a3_c)), kt 4 (.v (.int .u16 a4)), kt 5 (.B a5)]) ?_ (kp rfl) rfl
 refine fin_then ?_
 refine aw_seq ?_
 obtain ⟨v1, hv1, hm⟩ := bnd_some hm
 refine aw_text (rows := [_, _, _, _]) rfl (by kernel_rfl) ⟨
  ok_plain rfl rfl (op_move (ltN rfl) rfl),
  ok_plain rfl rfl (op_callRowsD (x := .g [.i v1.Class, .i v1.Power, .i v1.Draught, .i v1.Tonnes, .o 1 2 v1.Thrust.length, .o 3 4 v1.Water.length, .o 5 6 v1.Ice.length, .i v1.Slow, .i v1.Brash, .i v1.Ridge, .i v1.Press]) (R := (fun vs => .agg #[.int .i64 v1.Class, .int .i64 v1.Power, .int .i64 v1.Draught, .int .i64 v1.Tonnes, (vs.getD 0 (.bool false)), (vs.getD 1 (.bool false)), (vs.getD 2 (.bool false)), .int .i64 v1.Slow, .int .i64 v1.Brash, .int .i64 v1.Ridge, .int .i64 v1.Press])) (ls := [(1, 2), (3, 4), (5, 6)]) (ds := [(v1.Thrust.length, 84, 2, v1.Thrust.flatMap encPt), (v1.Water.length, 84, 2, v1.Water.flatMap encPt), (v1.Ice.length, 84, 2, v1.Ice.flatMap encPt)]) (fs := []) (caps := []) (extra := []) (ltN rfl) en_15 rfl ⟨rfl, rfl, rfl⟩ (EvL.cons rfl EvL.nil) rfl rfl (fun _ => rfl) (fun mm aa ww gg hr hrel => (c15 F a0 ⟨a0_p, a0.length, a0_c⟩ ww (SlIs.mono ha0 hrel.below) h8a0 hlena0 v1 hv1))),
  ok_plain rfl rfl (op_alloc (L := 7) (ltN rfl) zl_25),
  ok_plain rfl rfl (op_storeN sz_25 rfl rfl rfl rfl rfl (by decide)),
  trivial⟩ ?_
 refine fin_keep (s' := (kt 1 (.v (.slice a1_p a1.length a1_c)) :: kt 2 (.v (.slice a2_p a2.length a2_c)) :: kt 3 (.v (.slice a3_p a3.length a3_c)) :: kt 4 (.v (.int .u16 a4)) :: kt 5 (.B a5) :: kt 13 (.p 7 0) :: kb 7 25 11 :: (.r 1, some (.vec true 2 84 2 (v1.Thrust.flatMap encPt))) :: (.r 3, some (.vec true 4 84 2 (v1.Water.flatMap encPt))) :: (.r 5, some (.vec true 6 84 2 (v1.Ice.flatMap encPt))) :: sK 7 v1 (.o 1 2 v1.Thrust.length) (.o 3 4 v1.Water.length) (.o 5 6 v1.Ice.length) [])) ?_ (kp rfl) rfl
 refine fin_then ?_
 refine aw_seq ?_
 obtain ⟨v2, hv2, hm⟩ := bnd_some hm
 refine aw_text (rows := [_, _, _, _]) rfl (by kernel_rfl) ⟨
  ok_plain rfl rfl (op_loadN (ys := [.i v1.Class, .i v1.Power, .i v1.Draught, .i v1.Tonnes, .o 1 2 v1.Thrust.length, .o 3 4 v1.Water.length, .o 5 6 v1.Ice.length, .i v1.Slow, .i v1.Brash, .i v1.Ridge, .i v1.Press]) (ltN rfl) sh_25 rfl rfl ⟨rfl, rfl, rfl, rfl, rfl, rfl, rfl, rfl, rfl, rfl, rfl, trivial⟩),
  ok_plain rfl rfl (op_callRowsD (x := .g [.i v2.Class, .i v2.Power, .i v2.Draught, .i v2.Tonnes, .o 8 9 v2.Thrust.length, .o 10 11 v2.Water.length, .o 12 13 v2.Ice.length, .i v2.Slow, .i v2.Brash, .i v2.Ridge, .i v2.Press]) (R := (fun vs => .agg #[.int .i64 v2.Class, .int .i64 v2.Power, .int .i64 v2.Draught, .int .i64 v2.Tonnes, (vs.getD 0 (.bool false)), (vs.getD 1 (.bool false)), (vs.getD 2 (.bool false)), .int .i64 v2.Slow, .int .i64 v2.Brash, .int .i64 v2.Ridge, .int .i64 v2.Press])) (ls := [(8, 9), (10, 11), (12, 13)]) (ds := [(v2.Thrust.length, 84, 2, v2.Thrust.flatMap encPt), (v2.Water.length, 84, 2, v2.Water.flatMap encPt), (v2.Ice.length, 84, 2, v2.Ice.flatMap encPt)]) (fs := []) (caps := []) (extra := (kapp [.r 1] (kapp [.r 3] (kapp [.r 5] [])))) (ltN rfl) en_28 rfl ⟨rfl, rfl, rfl⟩ (EvL.cons rfl EvL.nil) rfl rfl (fun _ => rfl) (fun mm aa ww gg hr hrel => (c28 F v1 ⟨ptr0 (mm 1) (mm 2), v1.Thrust.length, mm 2⟩ ⟨ptr0 (mm 3) (mm 4), v1.Water.length, mm 4⟩ ⟨ptr0 (mm 5) (mm 6), v1.Ice.length, mm 6⟩ ww (slAt_row (enc := encPt) (l := v1.Thrust) (fun _ => rfl) (by decide) hrel ((hr _ (List.mem_append_left _ (by simp))).trans rfl)) (slAt_row (enc := encPt) (l := v1.Water) (fun _ => rfl) (by decide) hrel ((hr _ (List.mem_append_right _ (List.mem_append_left _ (by simp)))).trans rfl)) (slAt_row (enc := encPt) (l := v1.Ice) (fun _ => rfl) (by decide) hrel ((hr _ (List.mem_append_right _ (List.mem_append_right _ (List.mem_append_left _ (by simp))))).trans rfl)) v2 hv2))),
  ok_plain rfl rfl (op_alloc (L := 14) (ltN rfl) zl_25),
  ok_plain rfl rfl (op_storeN sz_25 rfl rfl rfl rfl rfl (by decide)),
  trivial⟩ ?_
 refine fin_keep (s' := (kt 1 (.v (.slice a1_p a1.length a1_c)) :: kt 2 (.v (.slice a2_p a2.length a2_c)) :: kt 3 (.v (.slice a3_p a3.length a3_c)) :: kt 4 (.v (.int .u16 a4)) :: kt 5 (.B a5) :: kt 13 (.p 7 0) :: kt 14 (.p 14 0) :: kb 7 25 11 :: kb 14 25 11 :: (.r 1, some (.vec true 2 84 2 (v1.Thrust.flatMap encPt))) :: (.r 3, some (.vec true 4 84 2 (v1.Water.flatMap encPt))) :: (.r 5, some (.vec true 6 84 2 (v1.Ice.flatMap encPt))) :: (.r 8, some (.vec true 9 84 2 (v2.Thrust.flatMap encPt))) :: (.r 10, some (.vec true 11 84 2 (v2.Water.flatMap encPt))) :: (.r 12, some (.vec true 13 84 2 (v2.Ice.flatMap encPt))) :: sK 7 v1 (.o 1 2 v1.Thrust.length) (.o 3 4 v1.Water.length) (.o 5 6 v1.Ice.length) (sK 14 v2 (.o 8 9 v2.Thrust.length) (.o 10 11 v2.Water.length) (.o 12 13 v2.Ice.length) []))) ?_ (kp rfl) rfl
 refine fin_then ?_
 refine aw_seq ?_
 refine aw_text (rows := [_, _, _]) rfl (by kernel_rfl) ⟨
  ok_plain rfl rfl (op_move (ltN rfl) rfl),
  ok_plain rfl rfl (op_callTwo (L1 := 15) (L2 := 16) (ty1 := 3) (ty2 := 22) (v1 := [.int .i64 (idx a1 0)]) (v2 := [(.slice a1_p a1.length a1_c)]) (R := fun b1 b2 => .func (.func 83) #[] #[.pointer (some ⟨b1, 0, none⟩), .pointer (some ⟨b2, 0, none⟩)]) (x := .f (.func 83) [] [.p 15 0, .p 16 0]) (fs := []) (caps := []) (extra := []) (ltN rfl) en_22 rfl ⟨rfl, rfl, rfl⟩ (EvL.cons rfl EvL.nil) (by decide) (fun _ => rfl) (fun mm aa ww gg hr hrel => (c22 a1 ⟨a1_p, a1.length, a1_c⟩ ww (SlIs.mono ha1 hrel.below)))),
  ok_plain rfl rfl (op_assign (ltN rfl) rfl),
  trivial⟩ ?_
 refine fin_keep (s' := (kt 2 (.v (.slice a2_p a2.length a2_c)) :: kt 3 (.v (.slice a3_p a3.length a3_c)) :: kt 4 (.v (.int .u16 a4)) :: kt 5 (.B a5) :: kt 13 (.p 7 0) :: kt 14 (.p 14 0) :: kt 15 (.f (.func 83) [] [.p 15 0, .p 16 0]) :: kb 7 25 11 :: kb 14 25 11 :: kb 15 3 1 :: kb 16 22 1 :: (.r 1, some (.vec true 2 84 2 (v1.Thrust.flatMap encPt))) :: (.r 3, some (.vec true 4 84 2 (v1.Water.flatMap encPt))) :: (.r 5, some (.vec true 6 84 2 (v1.Ice.flatMap encPt))) :: (.r 8, some (.vec true 9 84 2 (v2.Thrust.flatMap encPt))) :: (.r 10, some (.vec true 11 84 2 (v2.Water.flatMap encPt))) :: (.r 12, some (.vec true 13 84 2 (v2.Ice.flatMap encPt))) :: sK 7 v1 (.o 1 2 v1.Thrust.length) (.o 3 4 v1.Water.length) (.o 5 6 v1.Ice.length) (sK 14 v2 (.o 8 9 v2.Thrust.length) (.o 10 11 v2.Water.length) (.o 12 13 v2.Ice.length) [kc 15 0 (.i (idx a1 0)), kc 16 0 (.v (.slice a1_p a1.length a1_c))]))) ?_ (kp rfl) rfl
 refine fin_then ?_
 refine aw_cutM (ι := List Pt) hm (fun x1 => (kt 2 (.v (.slice a2_p a2.length a2_c)) :: kt 3 (.v (.slice a3_p a3.length a3_c)) :: kt 4 (.v (.int .u16 a4)) :: kt 5 (.B a5) :: kt 13 (.p 7 0) :: kt 14 (.p 14 0) :: kt 15 (.f (.func 83) [] [.p 15 0, .p 16 0]) :: kb 7 25 11 :: kb 14 25 11 :: kb 15 3 1 :: kb 16 22 1 :: (.r 1, some (.vec true 2 84 2 (v1.Thrust.flatMap encPt))) :: (.r 3, some (.vec true 4 84 2 (v1.Water.flatMap encPt))) :: (.r 5, some (.vec true 6 84 2 (v1.Ice.flatMap encPt))) :: (.r 8, some (.vec true 9 84 2 (x1.flatMap encPt))) :: (.r 10, some (.vec true 11 84 2 (v2.Water.flatMap encPt))) :: (.r 12, some (.vec true 13 84 2 (v2.Ice.flatMap encPt))) :: sK 7 v1 (.o 1 2 v1.Thrust.length) (.o 3 4 v1.Water.length) (.o 5 6 v1.Ice.length) (sK 14 v2 (.o 8 9 x1.length) (.o 10 11 v2.Water.length) (.o 12 13 v2.Ice.length) [kc 15 0 (.i (idx a1 0)), kc 16 0 (.v (.slice a1_p a1.length a1_c))]))) (fun hm => ?_) (fun x1 hm => ?_)
 ·have _z := hm
  refine aw_seq ?_
  refine aw_text (rows := [_, _, _, _]) rfl (by kernel_rfl) ⟨
   ok_plain rfl rfl (op_fieldAddr (ltN rfl) rfl fo_25_4),
   ok_plain rfl rfl (op_load1 (ltN rfl) sh_23 rfl rfl),
   ok_plain rfl rfl (op_lenO (n := v2.Thrust.length) (ltN rfl) (by rw [ss_23]; rfl) rfl),
   ok_plain rfl rfl (op_move (ltN rfl) rfl),
   trivial⟩ ?_
  refine fin_keep (s' := (kt 2 (.v (.slice a2_p a2.length a2_c)) :: kt 3 (.v (.slice a3_p a3.length a3_c)) :: kt 4 (.v (.int .u16 a4)) :: kt 5 (.B a5) :: kt 13 (.p 7 0) :: kt 14 (.p 14 0) :: kt 15 (.f (.func 83) [] [.p 15 0, .p 16 0]) :: kt 39 (.i (((v2.Thrust.length : Nat) : Int))) :: kt 40 (.i 0) :: kb 7 25 11 :: kb 14 25 11 :: kb 15 3 1 :: kb 16 22 1 :: (.r 1, some (.vec true 2 84 2 (v1.Thrust.flatMap encPt))) :: (.r 3, some (.vec true 4 84 2 (v1.Water.flatMap encPt))) :: (.r 5, some (.vec true 6 84 2 (v1.Ice.flatMap encPt))) :: (.r 8, some (.vec true 9 84 2 (v2.Thrust.flatMap encPt))) :: (.r 10, some (.vec true 11 84 2 (v2.Water.flatMap encPt))) :: (.r 12, some (.vec true 13 84 2 (v2.Ice.flatMap encPt))) :: sK 7 v1 (.o 1 2 v1.Thrust.length) (.o 3 4 v1.Water.length) (.o 5 6 v1.Ice.length) (sK 14 v2 (.o 8 9 v2.Thrust.length) (.o 10 11 v2.Water.length) (.o 12 13 v2.Ice.length) [kc 15 0 (.i (idx a1 0)), kc 16 0 (.v (.slice a1_p a1.length a1_c))]))) ?_ (kp rfl) rfl
  refine fin_then ?_
  refine aw_block ?_
  refine aw_loopC hm (fun x2 => (kt 2 (.v (.slice a2_p a2.length a2_c)) :: kt 3 (.v (.slice a3_p a3.length a3_c)) :: kt 4 (.v (.int .u16 a4)) :: kt 5 (.B a5) :: kt 13 (.p 7 0) :: kt 14 (.p 14 0) :: kt 15 (.f (.func 83) [] [.p 15 0, .p 16 0]) :: kt 39 (.i (((v2.Thrust.length : Nat) : Int))) :: kt 40 (.i x2.1) :: kb 7 25 11 :: kb 14 25 11 :: kb 15 3 1 :: kb 16 22 1 :: (.r 1, some (.vec true 2 84 2 (v1.Thrust.flatMap encPt))) :: (.r 3, some (.vec true 4 84 2 (v1.Water.flatMap encPt))) :: (.r 5, some (.vec true 6 84 2 (v1.Ice.flatMap encPt))) :: (.r 8, some (.vec true 9 84 2 (x2.2.flatMap encPt))) :: (.r 10, some (.vec true 11 84 2 (v2.Water.flatMap encPt))) :: (.r 12, some (.vec true 13 84 2 (v2.Ice.flatMap encPt))) :: sK 7 v1 (.o 1 2 v1.Thrust.length) (.o 3 4 v1.Water.length) (.o 5 6 v1.Ice.length) (sK 14 v2 (.o 8 9 x2.2.length) (.o 10 11 v2.Water.length) (.o 12 13 v2.Ice.length) [kc 15 0 (.i (idx a1 0)), kc 16 0 (.v (.slice a1_p a1.length a1_c))]))) ⟨rfl, rfl, rfl, rfl, rfl, rfl, rfl, rfl, rfl, rfl, rfl, rfl, rfl, rfl, rfl, rfl, rfl, rfl, rfl, rfl, rfl, rfl, rfl, rfl, rfl, rfl, rfl, rfl, rfl, rfl, rfl, rfl, rfl, rfl, rfl, rfl, rfl, rfl, rfl, rfl, rfl, rfl, rfl, trivial⟩ rfl (fun x2 n2 hm => ?_)
  refine aw_seq ?_
  refine aw_text (rows := [_]) rfl (by kernel_rfl) ⟨
   ok_plain rfl rfl (op_bin (ltN rfl) rfl rfl rfl),
   trivial⟩ ?_
  refine fin_keep (s' := (kt 2 (.v (.slice a2_p a2.length a2_c)) :: kt 3 (.v (.slice a3_p a3.length a3_c)) :: kt 4 (.v (.int .u16 a4)) :: kt 5 (.B a5) :: kt 13 (.p 7 0) :: kt 14 (.p 14 0) :: kt 15 (.f (.func 83) [] [.p 15 0, .p 16 0]) :: kt 39 (.i (((v2.Thrust.length : Nat) : Int))) :: kt 40 (.i x2.1) :: kt 41 (.B (decide (x2.1 < (((v2.Thrust.length : Nat) : Int))))) :: kb 7 25 11 :: kb 14 25 11 :: kb 15 3 1 :: kb 16 22 1 :: (.r 1, some (.vec true 2 84 2 (v1.Thrust.flatMap encPt))) :: (.r 3, some (.vec true 4 84 2 (v1.Water.flatMap encPt))) :: (.r 5, some (.vec true 6 84 2 (v1.Ice.flatMap encPt))) :: (.r 8, some (.vec true 9 84 2 (x2.2.flatMap encPt))) :: (.r 10, some (.vec true 11 84 2 (v2.Water.flatMap encPt))) :: (.r 12, some (.vec true 13 84 2 (v2.Ice.flatMap encPt))) :: sK 7 v1 (.o 1 2 v1.Thrust.length) (.o 3 4 v1.Water.length) (.o 5 6 v1.Ice.length) (sK 14 v2 (.o 8 9 x2.2.length) (.o 10 11 v2.Water.length) (.o 12 13 v2.Ice.length) [kc 15 0 (.i (idx a1 0)), kc 16 0 (.v (.slice a1_p a1.length a1_c))]))) ?_ (kp rfl) rfl
  refine fin_then ?_
  refine aw_seq ?_
  refine aw_cond rfl (fun hz1 => ?_) (fun hz1 => ?_)
  ·have hm := brk_t hz1 hm
   refine aw_skip ?_
   refine fin_then ?_
   refine aw_seq ?_
   refine aw_block ?_
   refine aw_seq ?_
   refine aw_text (rows := [_, _]) rfl (by kernel_rfl) ⟨
    ok_plain rfl rfl (op_move (ltN rfl) rfl),
    ok_plain rfl rfl (op_assign (ltN rfl) rfl),
    trivial⟩ ?_
   refine fin_keep (s' := (kt 2 (.v (.slice a2_p a2.length a2_c)) :: kt 3 (.v (.slice a3_p a3.length a3_c)) :: kt 4 (.v (.int .u16 a4)) :: kt 5 (.B a5) :: kt 13 (.p 7 0) :: kt 14 (.p 14 0) :: kt 15 (.f (.func 83) [] [.p 15 0, .p 16 0]) :: kt 16 (.i x2.1) :: kt 39 (.i (((v2.Thrust.length : Nat) : Int))) :: kt 40 (.i x2.1) :: kb 7 25 11 :: kb 14 25 11 :: kb 15 3 1 :: kb 16 22 1 :: (.r 1, some (.vec true 2 84 2 (v1.Thrust.flatMap encPt))) :: (.r 3, some (.vec true 4 84 2 (v1.Water.flatMap encPt))) :: (.r 5, some (.vec true 6 84 2 (v1.Ice.flatMap encPt))) :: (.r 8, some (.vec true 9 84 2 (x2.2.flatMap encPt))) :: (.r 10, some (.vec true 11 84 2 (v2.Water.flatMap encPt))) :: (.r 12, some (.vec true 13 84 2 (v2.Ice.flatMap encPt))) :: sK 7 v1 (.o 1 2 v1.Thrust.length) (.o 3 4 v1.Water.length) (.o 5 6 v1.Ice.length) (sK 14 v2 (.o 8 9 x2.2.length) (.o 10 11 v2.Water.length) (.o 12 13 v2.Ice.length) [kc 15 0 (.i (idx a1 0)), kc 16 0 (.v (.slice a1_p a1.length a1_c))]))) ?_ (kp rfl) rfl
   refine fin_then ?_
   obtain ⟨hp2, hm⟩ := chk_some hm
   obtain ⟨hp3, hm⟩ := chk_some hm
   obtain ⟨hp4, hm⟩ := chk_some hm
   obtain ⟨hp5, hm⟩ := chk_some hm
   refine aw_any (rows := [_, _, _, _, _, _, _, _, _, _, _, _, _, _, _, _]) (M := [0, 1, 0, 7, 15, 31, 0, 64, 192, 0, 960, 1984, 4095, 8191, 16383, 32767]) Tryd_mixed (by kernel_rfl) rfl (by kernel_rfl) ⟨
    ok_plain rfl rfl (op_fieldAddr (ltN rfl) rfl fo_25_4),
    ok_plain rfl rfl (op_load1 (ltN rfl) sh_23 rfl rfl),
    ok_plain rfl rfl (op_move (ltN rfl) rfl),
    ok_plain rfl rfl (op_ixO (ltN rfl) rfl rfl ss_23 rfl (flat_ne (enc := encPt) (k := 2) (fun _ => rfl) (by decide) (i := x2.1) hp2.1 hp2.2) hp2.1 hp2.2),
    ok_plain rfl rfl (op_fieldAddr (ltN rfl) rfl fo_84_1),
    ok_plain rfl rfl (op_loadO1 (v := (.int .i64 (((pt x2.2 x2.1)).Y))) (ltN rfl) sh_3 rfl rfl (flat_ix (k := 2) (l := x2.2) (enc := encPt) (fun _ => rfl) ⟨0, 0⟩ (i := x2.1) hp2.1 hp2.2 (j := 1) rfl)),
    ok_plain rfl rfl (op_fieldAddr (ltN rfl) rfl fo_25_4),
    ok_plain rfl rfl (op_load1 (ltN rfl) sh_23 rfl rfl),
    ok_plain rfl rfl (op_lenO (n := x2.2.length) (ltN rfl) (by rw [ss_23]; rfl) rfl),
    ok_plain rfl rfl (op_move (ltN rfl) rfl),
    ok_plain rfl rfl (op_bin (ltN rfl) rfl rfl (nw_sub hp3)),
    ok_plain rfl rfl (op_bin (ltN rfl) rfl rfl (nw_mul hp4)),
    ok_plain rfl rfl (op_bin (ltN rfl) rfl rfl (nw_add hp5)),
    ok_plain rfl rfl (op_ixO (ltN rfl) rfl rfl ss_23 rfl (flat_ne (enc := encPt) (k := 2) (fun _ => rfl) (by decide) (i := x2.1) hp2.1 hp2.2) hp2.1 hp2.2),
    ok_plain rfl rfl (op_fieldAddr (ltN rfl) rfl fo_84_1),
    ok_plain rfl rfl (op_storeR1 (v := (.int .i64 ((((pt x2.2 x2.1)).Y) + (50 * ((((x2.2.length : Nat) : Int)) - x2.1))))) sz_3 rfl rfl rfl rfl (flat_lt (enc := encPt) (k := 2) (l := x2.2) (fun _ => rfl) (i := x2.1) hp2.1 hp2.2 (j := 1) (by decide))),
    trivial⟩ ?_
   refine fin_keep (s' := (kt 2 (.v (.slice a2_p a2.length a2_c)) :: kt 3 (.v (.slice a3_p a3.length a3_c)) :: kt 4 (.v (.int .u16 a4)) :: kt 5 (.B a5) :: kt 13 (.p 7 0) :: kt 14 (.p 14 0) :: kt 15 (.f (.func 83) [] [.p 15 0, .p 16 0]) :: kt 39 (.i (((v2.Thrust.length : Nat) : Int))) :: kt 40 (.i x2.1) :: kb 7 25 11 :: kb 14 25 11 :: kb 15 3 1 :: kb 16 22 1 :: (.r 1, some (.vec true 2 84 2 (v1.Thrust.flatMap encPt))) :: (.r 3, some (.vec true 4 84 2 (v1.Water.flatMap encPt))) :: (.r 5, some (.vec true 6 84 2 (v1.Ice.flatMap encPt))) :: (.r 8, some (.vec true 9 84 2 ((x2.2.set x2.1.toNat ((⟨((pt x2.2 x2.1)).X, (((pt x2.2 x2.1)).Y) + (50 * ((((x2.2.length : Nat) : Int)) - x2.1))⟩ : Pt))).flatMap encPt))) :: (.r 10, some (.vec true 11 84 2 (v2.Water.flatMap encPt))) :: (.r 12, some (.vec true 13 84 2 (v2.Ice.flatMap encPt))) :: sK 7 v1 (.o 1 2 v1.Thrust.length) (.o 3 4 v1.Water.length) (.o 5 6 v1.Ice.length) (sK 14 v2 (.o 8 9 ((x2.2.set x2.1.toNat ((⟨((pt x2.2 x2.1)).X, (((pt x2.2 x2.1)).Y) + (50 * ((((x2.2.length : Nat) : Int)) - x2.1))⟩ : Pt))).length)) (.o 10 11 v2.Water.length) (.o 12 13 v2.Ice.length) [kc 15 0 (.i (idx a1 0)), kc 16 0 (.v (.slice a1_p a1.length a1_c))]))) ?_ ⟨rfl, rfl, rfl, rfl, rfl, rfl, rfl, rfl, rfl, rfl, rfl, rfl, rfl, rfl, rfl, rfl, (congrArg (fun q => some (Val.vec true 9 84 2 q)) (flat_set1 (k := 2) (l := x2.2) (enc := encPt) (fun _ => rfl) ⟨0, 0⟩ (i := x2.1) hp2.1 hp2.2 1 (by decide) (v := (.int .i64 ((((pt x2.2 x2.1)).Y) + (50 * ((((x2.2.length : Nat) : Int)) - x2.1))))) (x := (⟨((pt x2.2 x2.1)).X, (((pt x2.2 x2.1)).Y) + (50 * ((((x2.2.length : Nat) : Int)) - x2.1))⟩ : Pt)) rfl)), rfl, rfl, rfl, rfl, rfl, rfl, rfl, rfl, rfl, rfl, rfl, rfl, rfl, rfl, rfl, rfl, rfl, (congrArg (fun q => some (Val.x (SV.o 8 9 q))) (show x2.2.length = (x2.2.set x2.1.toNat ((⟨((pt x2.2 x2.1)).X, (((pt x2.2 x2.1)).Y) + (50 * ((((x2.2.length : Nat) : Int)) - x2.1))⟩ : Pt))).length from List.length_set.symm)), rfl, rfl, rfl, rfl, rfl, rfl, rfl, rfl, trivial⟩ rfl
   refine fin_block ?_
   refine fin_then ?_
   obtain ⟨hp6, hm⟩ := chk_some hm
   refine aw_text (rows := [_, _]) rfl (by kernel_rfl) ⟨
    ok_plain rfl rfl (op_bin (ltN rfl) rfl rfl (nw_add hp6)),
    ok_plain rfl rfl (op_move (ltN rfl) rfl),
    trivial⟩ ?_
   refine fin_keep (s' := (kt 2 (.v (.slice a2_p a2.length a2_c)) :: kt 3 (.v (.slice a3_p a3.length a3_c)) :: kt 4 (.v (.int .u16 a4)) :: kt 5 (.B a5) :: kt 13 (.p 7 0) :: kt 14 (.p 14 0) :: kt 15 (.f (.func 83) [] [.p 15 0, .p 16 0]) :: kt 39 (.i (((v2.Thrust.length : Nat) : Int))) :: kt 40 (.i (x2.1 + 1)) :: kb 7 25 11 :: kb 14 25 11 :: kb 15 3 1 :: kb 16 22 1 :: (.r 1, some (.vec true 2 84 2 (v1.Thrust.flatMap encPt))) :: (.r 3, some (.vec true 4 84 2 (v1.Water.flatMap encPt))) :: (.r 5, some (.vec true 6 84 2 (v1.Ice.flatMap encPt))) :: (.r 8, some (.vec true 9 84 2 ((x2.2.set x2.1.toNat ((⟨((pt x2.2 x2.1)).X, (((pt x2.2 x2.1)).Y) + (50 * ((((x2.2.length : Nat) : Int)) - x2.1))⟩ : Pt))).flatMap encPt))) :: (.r 10, some (.vec true 11 84 2 (v2.Water.flatMap encPt))) :: (.r 12, some (.vec true 13 84 2 (v2.Ice.flatMap encPt))) :: sK 7 v1 (.o 1 2 v1.Thrust.length) (.o 3 4 v1.Water.length) (.o 5 6 v1.Ice.length) (sK 14 v2 (.o 8 9 ((x2.2.set x2.1.toNat ((⟨((pt x2.2 x2.1)).X, (((pt x2.2 x2.1)).Y) + (50 * ((((x2.2.length : Nat) : Int)) - x2.1))⟩ : Pt))).length)) (.o 10 11 v2.Water.length) (.o 12 13 v2.Ice.length) [kc 15 0 (.i (idx a1 0)), kc 16 0 (.v (.slice a1_p a1.length a1_c))]))) ?_ (kp rfl) rfl
   exact fin_cut (x2.1 + 1, (x2.2.set x2.1.toNat ((⟨((pt x2.2 x2.1)).X, (((pt x2.2 x2.1)).Y) + (50 * ((((x2.2.length : Nat) : Int)) - x2.1))⟩ : Pt)))) hm ⟨rfl, rfl, rfl, rfl, rfl, rfl, rfl, rfl, rfl, rfl, rfl, rfl, rfl, rfl, rfl, rfl, rfl, rfl, rfl, rfl, rfl, rfl, rfl, rfl, rfl, rfl, rfl, rfl, rfl, rfl, rfl, rfl, rfl, rfl, rfl, rfl, rfl, rfl, rfl, rfl, rfl, rfl, rfl, trivial⟩ rfl
  ·have hm := brk_f hz1 hm
   refine aw_exit ?_
   refine fin_then_exit ?_
   refine fin_then_exit ?_
   refine fin_block_exit ?_
   exact fin_cut x2.2 hm ⟨rfl, rfl, rfl, rfl, rfl, rfl, rfl, rfl, rfl, rfl, rfl, rfl, rfl, rfl, rfl, rfl, rfl, rfl, rfl, rfl, rfl, rfl, rfl, rfl, rfl, rfl, rfl, rfl, rfl, rfl, rfl, rfl, rfl, rfl, rfl, rfl, rfl, rfl, rfl, rfl, rfl, trivial⟩ rfl
 ·have _z := hm
  refine aw_seq ?_
  obtain ⟨hp7, hm⟩ := chk_some hm
  refine aw_text (rows := [_, _, _, _, _]) rfl (by kernel_rfl) ⟨
   ok_plain rfl rfl (op_fieldAddr (ltN rfl) rfl fo_25_4),
   ok_plain rfl rfl (op_load1 (ltN rfl) sh_23 rfl rfl),
   ok_plain rfl rfl (op_lenO (n := x1.length) (ltN rfl) (by rw [ss_23]; rfl) rfl),
   ok_plain rfl rfl (op_bin (ltN rfl) rfl rfl (nw_sub hp7)),
   ok_plain rfl rfl (op_assign (ltN rfl) rfl),
   trivial⟩ ?_
  refine fin_keep (s' := (kt 2 (.v (.slice a2_p a2.length a2_c)) :: kt 3 (.v (.slice a3_p a3.length a3_c)) :: kt 4 (.v (.int .u16 a4)) :: kt 5 (.B a5) :: kt 13 (.p 7 0) :: kt 14 (.p 14 0) :: kt 15 (.f (.func 83) [] [.p 15 0, .p 16 0]) :: kt 17 (.i ((((x1.length : Nat) : Int)) - 1)) :: kb 7 25 11 :: kb 14 25 11 :: kb 15 3 1 :: kb 16 22 1 :: (.r 1, some (.vec true 2 84 2 (v1.Thrust.flatMap encPt))) :: (.r 3, some (.vec true 4 84 2 (v1.Water.flatMap encPt))) :: (.r 5, some (.vec true 6 84 2 (v1.Ice.flatMap encPt))) :: (.r 8, some (.vec true 9 84 2 (x1.flatMap encPt))) :: (.r 10, some (.vec true 11 84 2 (v2.Water.flatMap encPt))) :: (.r 12, some (.vec true 13 84 2 (v2.Ice.flatMap encPt))) :: sK 7 v1 (.o 1 2 v1.Thrust.length) (.o 3 4 v1.Water.length) (.o 5 6 v1.Ice.length) (sK 14 v2 (.o 8 9 x1.length) (.o 10 11 v2.Water.length) (.o 12 13 v2.Ice.length) [kc 15 0 (.i (idx a1 0)), kc 16 0 (.v (.slice a1_p a1.length a1_c))]))) ?_ (kp rfl) rfl
  refine fin_then ?_
  refine aw_cutM (ι := Nat × List Pt) hm (fun x3 => (kt 2 (.v (.slice a2_p a2.length a2_c)) :: kt 3 (.v (.slice a3_p a3.length a3_c)) :: kt 4 (.v (.int .u16 a4)) :: kt 5 (.B a5) :: kt 13 (.p 7 0) :: kt 14 (.p 14 0) :: kt 15 (.f (.func 83) [] [.p 15 0, .p 16 0]) :: kb 7 25 11 :: kb 14 25 11 :: kb 15 3 1 :: kb 16 22 1 :: (.r 1, some (.vec true 2 84 2 (v1.Thrust.flatMap encPt))) :: (.r 3, some (.vec true 4 84 2 (v1.Water.flatMap encPt))) :: (.r 5, some (.vec true 6 84 2 (v1.Ice.flatMap encPt))) :: (.r 8, some (.vec true 9 84 2 (x3.2.flatMap encPt))) :: (.r 10, some (.vec true 11 84 2 (v2.Water.flatMap encPt))) :: (.r 12, some (.vec true 13 84 2 (v2.Ice.flatMap encPt))) :: sK 7 v1 (.o 1 2 v1.Thrust.length) (.o 3 4 v1.Water.length) (.o 5 6 v1.Ice.length) (sK 14 v2 (.o 8 9 x3.2.length) (.o 10 11 v2.Water.length) (.o 12 13 v2.Ice.length) [kc 15 0 (.i (idx a1 x3.1)), kc 16 0 (.v (.slice a1_p a1.length a1_c))]))) (fun hm => ?_) (fun x3 hm => ?_)
  ·have _z := hm
   refine aw_seq ?_
   obtain ⟨hp12, hm⟩ := chk_some hm
   refine aw_text (rows := [_, _, _, _, _, _, _, _, _, _, _, _, _]) rfl (by kernel_rfl) ⟨
    ok_plain rfl rfl (op_fieldAddr (ltN rfl) rfl fo_25_4),
    ok_plain rfl rfl (op_load1 (ltN rfl) sh_23 rfl rfl),
    ok_plain rfl rfl (op_lenO (n := x1.length) (ltN rfl) (by rw [ss_23]; rfl) rfl),
    ok_plain rfl rfl (op_bin (ltN rfl) rfl rfl rfl),
    ok_plain rfl rfl (op_move (ltN rfl) rfl),
    ok_if (ltN rfl) rfl rfl rfl rfl rfl rfl (fun hg8 => op_fieldAddr (ltN rfl) (force_x rfl) fo_25_4),
    ok_if (ltN rfl) rfl rfl rfl rfl rfl rfl (fun hg9 => op_load1 (ltN rfl) sh_23 (force_eq (beq_iff_eq.2 hg9) rfl) rfl),
    ok_if (ltN rfl) rfl rfl rfl rfl rfl rfl (fun hg10 => op_move (ltN rfl) (force_x rfl)),
    ok_if (ltN rfl) rfl rfl rfl rfl rfl rfl (fun hg11 => op_ixO (ltN rfl) (force_eq (beq_iff_eq.2 hg11) rfl) (force_eq (beq_iff_eq.2 hg11) rfl) ss_23 rfl (flat_ne (enc := encPt) (k := 2) (fun _ => rfl) (by decide) (i := (((x1.length : Nat) : Int)) - 1) (hp12 hg11).1 (hp12 hg11).2) (hp12 hg11).1 (hp12 hg11).2),
    ok_if (ltN rfl) rfl rfl rfl rfl rfl rfl (fun hg13 => op_fieldAddr (ltN rfl) (force_eq (beq_iff_eq.2 hg13) rfl) fo_84_0),
    ok_if (ltN rfl) rfl rfl rfl rfl rfl rfl (fun hg14 => op_loadO1 (v := (.int .i64 (((pt x1 ((((x1.length : Nat) : Int)) - 1))).X))) (ltN rfl) sh_3 (force_eq (beq_iff_eq.2 hg14) rfl) rfl (flat_ix (k := 2) (l := x1) (enc := encPt) (fun _ => rfl) ⟨0, 0⟩ (i := (((x1.length : Nat) : Int)) - 1) (hp12 hg14).1 (hp12 hg14).2 (j := 0) rfl)),
    ok_if (ltN rfl) rfl rfl rfl rfl rfl rfl (fun hg15 => op_bin (ltN rfl) (force_eq (beq_iff_eq.2 hg15) rfl) rfl rfl),
    ok_plain rfl rfl (op_and (ltN rfl) rfl rfl),
    trivial⟩ ?_
   refine fin_keep (s' := (kt 2 (.v (.slice a2_p a2.length a2_c)) :: kt 3 (.v (.slice a3_p a3.length a3_c)) :: kt 4 (.v (.int .u16 a4)) :: kt 5 (.B a5) :: kt 13 (.p 7 0) :: kt 14 (.p 14 0) :: kt 15 (.f (.func 83) [] [.p 15 0, .p 16 0]) :: kt 17 (.i ((((x1.length : Nat) : Int)) - 1)) :: kt 75 (.B ((decide ((((x1.length : Nat) : Int)) < 8)) && (decide ((((pt x1 ((((x1.length : Nat) : Int)) - 1))).X) < 240)))) :: kb 7 25 11 :: kb 14 25 11 :: kb 15 3 1 :: kb 16 22 1 :: (.r 1, some (.vec true 2 84 2 (v1.Thrust.flatMap encPt))) :: (.r 3, some (.vec true 4 84 2 (v1.Water.flatMap encPt))) :: (.r 5, some (.vec true 6 84 2 (v1.Ice.flatMap encPt))) :: (.r 8, some (.vec true 9 84 2 (x1.flatMap encPt))) :: (.r 10, some (.vec true 11 84 2 (v2.Water.flatMap encPt))) :: (.r 12, some (.vec true 13 84 2 (v2.Ice.flatMap encPt))) :: sK 7 v1 (.o 1 2 v1.Thrust.length) (.o 3 4 v1.Water.length) (.o 5 6 v1.Ice.length) (sK 14 v2 (.o 8 9 x1.length) (.o 10 11 v2.Water.length) (.o 12 13 v2.Ice.length) [kc 15 0 (.i (idx a1 0)), kc 16 0 (.v (.slice a1_p a1.length a1_c))]))) ?_ (kp rfl) rfl
   refine fin_then ?_
   refine aw_cond rfl (fun hz16 => ?_) (fun hz16 => ?_)
   ·have hm := brk_t hz16 hm
    obtain ⟨hp17, hm⟩ := chk_some hm
    obtain ⟨hp18, hm⟩ := chk_some hm
    obtain ⟨hp19, hm⟩ := chk_some hm
    obtain ⟨hp20, hm⟩ := chk_some hm
    refine aw_any (rows := [_, _, _, _, _, _, _, _, _, _, _, _, _, _, _, _, _, _, _, _, _, _, _]) (M := [0, 1, 0, 4, 0, 28, 60, 124, 252, 0, 512, 2044, 0, 4096, 0, 28672, 61440, 126976, 262140, 524284, 1048575, 2097151, 4194303]) Tryd_mixed (by kernel_rfl) rfl (by kernel_rfl) ⟨
     ok_plain rfl rfl (op_fieldAddr (ltN rfl) rfl fo_25_4),
     ok_plain rfl rfl (op_load1 (ltN rfl) sh_23 rfl rfl),
     ok_plain rfl rfl (op_fieldAddr (ltN rfl) rfl fo_25_4),
     ok_plain rfl rfl (op_load1 (ltN rfl) sh_23 rfl rfl),
     ok_plain rfl rfl (op_move (ltN rfl) rfl),
     ok_plain rfl rfl (op_ixO (ltN rfl) rfl rfl ss_23 rfl (flat_ne (enc := encPt) (k := 2) (fun _ => rfl) (by decide) (i := (((x1.length : Nat) : Int)) - 1) hp17.1 hp17.2) hp17.1 hp17.2),
     ok_plain rfl rfl (op_fieldAddr (ltN rfl) rfl fo_84_0),
     ok_plain rfl rfl (op_loadO1 (v := (.int .i64 (((pt x1 ((((x1.length : Nat) : Int)) - 1))).X))) (ltN rfl) sh_3 rfl rfl (flat_ix (k := 2) (l := x1) (enc := encPt) (fun _ => rfl) ⟨0, 0⟩ (i := (((x1.length : Nat) : Int)) - 1) hp17.1 hp17.2 (j := 0) rfl)),
     ok_plain rfl rfl (op_bin (ltN rfl) rfl rfl (nw_add hp18)),
     ok_plain rfl rfl (op_move (ltN rfl) rfl),
     ok_plain rfl rfl (op_callLentL (ls := [⟨15, 3, [.i (idx a1 0)], [.i (idx a1 1)]⟩, ⟨16, 22, [.v (.slice a1_p a1.length a1_c)], [.v (.slice a1_p a1.length a1_c)]⟩]) (x := .i (dv a1 0 10)) (fs := []) (caps := [.p 15 0, .p 16 0]) (extra := []) (ltN rfl) en_83 rfl ⟨rfl, rfl, rfl⟩ (EvL.cons rfl EvL.nil) ⟨rfl, ⟨rfl, trivial⟩, rfl, lb_ne rfl, ⟨rfl, ⟨rfl, trivial⟩, rfl, lb_ne rfl, trivial⟩⟩ (fun mm aa ww gg hr hrel hbx hlo => c83L 10 0 (mm 15) a1 ⟨a1_p, a1.length, a1_c⟩ (mm 16) ww (hbx _ (.head _)) (hbx _ (.tail _ (.head _))) (SlIs.mono ha1 hrel.below) (sl_ne ha1 (box_hi hrel hlo.1)) (box_ne hrel hlo.2.2.2.2.1 hlo.1 (by decide)) (by decide) h8a1 hlena1)),
     ok_plain rfl rfl (op_bin (ltN rfl) rfl rfl (nw_add hp19)),
     ok_plain rfl rfl (op_fieldAddr (ltN rfl) rfl fo_25_4),
     ok_plain rfl rfl (op_load1 (ltN rfl) sh_23 rfl rfl),
     ok_plain rfl rfl (op_move (ltN rfl) rfl),
     ok_plain rfl rfl (op_ixO (ltN rfl) rfl rfl ss_23 rfl (flat_ne (enc := encPt) (k := 2) (fun _ => rfl) (by decide) (i := (((x1.length : Nat) : Int)) - 1) hp17.1 hp17.2) hp17.1 hp17.2),
     ok_plain rfl rfl (op_fieldAddr (ltN rfl) rfl fo_84_1),
     ok_plain rfl rfl (op_loadO1 (v := (.int .i64 (((pt x1 ((((x1.length : Nat) : Int)) - 1))).Y))) (ltN rfl) sh_3 rfl rfl (flat_ix (k := 2) (l := x1) (enc := encPt) (fun _ => rfl) ⟨0, 0⟩ (i := (((x1.length : Nat) : Int)) - 1) hp17.1 hp17.2 (j := 1) rfl)),
     ok_plain rfl rfl (op_build (x := .g [.i (((((pt x1 ((((x1.length : Nat) : Int)) - 1))).X) + 1) + (dv a1 0 10)), .i (((pt x1 ((((x1.length : Nat) : Int)) - 1))).Y)]) (ltN rfl) (EvL.cons rfl (EvL.cons rfl EvL.nil)) (fun m w => by kernel_rfl)),
     ok_plain rfl rfl (op_buildSlice (L := 17) (ety := 84) (cs := [.i (((((pt x1 ((((x1.length : Nat) : Int)) - 1))).X) + 1) + (dv a1 0 10)), .i (((pt x1 ((((x1.length : Nat) : Int)) - 1))).Y)]) (ltN rfl) (EvL.cons rfl EvL.nil) rfl (fun m w => by kernel_rfl)),
     ok_plain rfl rfl (op_append (L' := 18) (C' := 19) (vs := [(.int .i64 (((((pt x1 ((((x1.length : Nat) : Int)) - 1))).X) + 1) + (dv a1 0 10))), (.int .i64 (((pt x1 ((((x1.length : Nat) : Int)) - 1))).Y))]) (ltN rfl) af_23 rfl rfl (flat_length (enc := encPt) (fun _ => rfl) x1) rfl ⟨rfl, rfl, trivial⟩ rfl rfl (by decide) (by have := hp20; omega) (by have := hp20; omega) (by decide)),
     ok_plain rfl rfl (op_fieldAddr (ltN rfl) rfl fo_25_4),
     ok_plain rfl rfl (op_store1 sz_23 rfl rfl rfl rfl (ltN rfl)),
     trivial⟩ ?_
    refine fin_keep (s' := (kt 2 (.v (.slice a2_p a2.length a2_c)) :: kt 3 (.v (.slice a3_p a3.length a3_c)) :: kt 4 (.v (.int .u16 a4)) :: kt 5 (.B a5) :: kt 13 (.p 7 0) :: kt 14 (.p 14 0) :: kt 15 (.f (.func 83) [] [.p 15 0, .p 16 0]) :: kb 7 25 11 :: kb 14 25 11 :: kb 15 3 1 :: kb 16 22 1 :: (.r 1, some (.vec true 2 84 2 (v1.Thrust.flatMap encPt))) :: (.r 3, some (.vec true 4 84 2 (v1.Water.flatMap encPt))) :: (.r 5, some (.vec true 6 84 2 (v1.Ice.flatMap encPt))) :: (.r 10, some (.vec true 11 84 2 (v2.Water.flatMap encPt))) :: (.r 12, some (.vec true 13 84 2 (v2.Ice.flatMap encPt))) :: (.r 18, some (.vec true 19 84 2 ((x1 ++ [(⟨((((pt x1 ((((x1.length : Nat) : Int)) - 1))).X) + 1) + (dv a1 0 10), ((pt x1 ((((x1.length : Nat) : Int)) - 1))).Y⟩ : Pt)]).flatMap encPt))) :: sK 7 v1 (.o 1 2 v1.Thrust.length) (.o 3 4 v1.Water.length) (.o 5 6 v1.Ice.length) (sK 14 v2 (.o 18 19 ((x1 ++ [(⟨((((pt x1 ((((x1.length : Nat) : Int)) - 1))).X) + 1) + (dv a1 0 10), ((pt x1 ((((x1.length : Nat) : Int)) - 1))).Y⟩ : Pt)]).length)) (.o 10 11 v2.Water.length) (.o 12 13 v2.Ice.length) [kc 15 0 (.i (idx a1 1)), kc 16 0 (.v (.slice a1_p a1.length a1_c))]))) ?_ ⟨rfl, rfl, rfl, rfl, rfl, rfl, rfl, rfl, rfl, rfl, rfl, rfl, rfl, rfl, rfl, rfl, (Eq.trans (b := some (Val.vec true 19 84 2 (x1.flatMap encPt ++ [(.int .i64 (((((pt x1 ((((x1.length : Nat) : Int)) - 1))).X) + 1) + (dv a1 0 10))), (.int .i64 (((pt x1 ((((x1.length : Nat) : Int)) - 1))).Y))]))) rfl (congrArg (fun q => some (Val.vec true 19 84 2 q)) (flat_snoc (enc := encPt) x1 ((⟨((((pt x1 ((((x1.length : Nat) : Int)) - 1))).X) + 1) + (dv a1 0 10), ((pt x1 ((((x1.length : Nat) : Int)) - 1))).Y⟩ : Pt))))), rfl, rfl, rfl, rfl, rfl, rfl, rfl, rfl, rfl, rfl, rfl, rfl, rfl, rfl, rfl, (congrArg (fun q => some (Val.x (SV.o 18 19 q))) (len_snoc x1 ((⟨((((pt x1 ((((x1.length : Nat) : Int)) - 1))).X) + 1) + (dv a1 0 10), ((pt x1 ((((x1.length : Nat) : Int)) - 1))).Y⟩ : Pt)))), rfl, rfl, rfl, rfl, rfl, rfl, rfl, rfl, trivial⟩ rfl
    refine fin_swp [(18, 8), (19, 9)] rfl ?_
    exact fin_cut (1, (x1 ++ [(⟨((((pt x1 ((((x1.length : Nat) : Int)) - 1))).X) + 1) + (dv a1 0 10), ((pt x1 ((((x1.length : Nat) : Int)) - 1))).Y⟩ : Pt)])) hm ⟨rfl, rfl, rfl, rfl, rfl, rfl, rfl, rfl, rfl, rfl, rfl, rfl, rfl, rfl, rfl, rfl, rfl, rfl, rfl, rfl, rfl, rfl, rfl, rfl, rfl, rfl, rfl, rfl, rfl, rfl, rfl, rfl, rfl, rfl, rfl, rfl, rfl, rfl, rfl, rfl, rfl, trivial⟩ rfl
   ·have hm := brk_f hz16 hm
    refine aw_skip ?_
    exact fin_cut (0, x1) hm ⟨rfl, rfl, rfl, rfl, rfl, rfl, rfl, rfl, rfl, rfl, rfl, rfl, rfl, rfl, rfl, rfl, rfl, rfl, rfl, rfl, rfl, rfl, rfl, rfl, rfl, rfl, rfl, rfl, rfl, rfl, rfl, rfl, rfl, rfl, rfl, rfl, rfl, rfl, rfl, rfl, rfl, trivial⟩ rfl
  ·have _z := hm
   refine aw_cutM (ι := List Pt) hm (fun x4 => (kt 2 (.v (.slice a2_p a2.length a2_c)) :: kt 3 (.v (.slice a3_p a3.length a3_c)) :: kt 4 (.v (.int .u16 a4)) :: kt 5 (.B a5) :: kt 13 (.p 7 0) :: kt 14 (.p 14 0) :: kt 15 (.f (.func 83) [] [.p 15 0, .p 16 0]) :: kb 7 25 11 :: kb 14 25 11 :: kb 15 3 1 :: kb 16 22 1 :: (.r 1, some (.vec true 2 84 2 (v1.Thrust.flatMap encPt))) :: (.r 3, some (.vec true 4 84 2 (v1.Water.flatMap encPt))) :: (.r 5, some (.vec true 6 84 2 (v1.Ice.flatMap encPt))) :: (.r 8, some (.vec true 9 84 2 (x3.2.flatMap encPt))) :: (.r 10, some (.vec true 11 84 2 (x4.flatMap encPt))) :: (.r 12, some (.vec true 13 84 2 (v2.Ice.flatMap encPt))) :: sK 7 v1 (.o 1 2 v1.Thrust.length) (.o 3 4 v1.Water.length) (.o 5 6 v1.Ice.length) (sK 14 v2 (.o 8 9 x3.2.length) (.o 10 11 x4.length) (.o 12 13 v2.Ice.length) [kc 15 0 (.i (idx a1 x3.1)), kc 16 0 (.v (.slice a1_p a1.length a1_c))]))) (fun hm => ?_) (fun x4 hm => ?_)
   ·have _z := hm
    refine aw_seq ?_
    refine aw_text (rows := [_, _, _, _]) rfl (by kernel_rfl) ⟨
     ok_plain rfl rfl (op_fieldAddr (ltN rfl) rfl fo_25_5),
     ok_plain rfl rfl (op_load1 (ltN rfl) sh_23 rfl rfl),
     ok_plain rfl rfl (op_lenO (n := v2.Water.length) (ltN rfl) (by rw [ss_23]; rfl) rfl),
     ok_plain rfl rfl (op_move (ltN rfl) rfl),
     trivial⟩ ?_
    refine fin_keep (s' := (kt 2 (.v (.slice a2_p a2.length a2_c)) :: kt 3 (.v (.slice a3_p a3.length a3_c)) :: kt 4 (.v (.int .u16 a4)) :: kt 5 (.B a5) :: kt 13 (.p 7 0) :: kt 14 (.p 14 0) :: kt 15 (.f (.func 83) [] [.p 15 0, .p 16 0]) :: kt 100 (.i (((v2.Water.length : Nat) : Int))) :: kt 101 (.i 0) :: kb 7 25 11 :: kb 14 25 11 :: kb 15 3 1 :: kb 16 22 1 :: (.r 1, some (.vec true 2 84 2 (v1.Thrust.flatMap encPt))) :: (.r 3, some (.vec true 4 84 2 (v1.Water.flatMap encPt))) :: (.r 5, some (.vec true 6 84 2 (v1.Ice.flatMap encPt))) :: (.r 8, some (.vec true 9 84 2 (x3.2.flatMap encPt))) :: (.r 10, some (.vec true 11 84 2 (v2.Water.flatMap encPt))) :: (.r 12, some (.vec true 13 84 2 (v2.Ice.flatMap encPt))) :: sK 7 v1 (.o 1 2 v1.Thrust.length) (.o 3 4 v1.Water.length) (.o 5 6 v1.Ice.length) (sK 14 v2 (.o 8 9 x3.2.length) (.o 10 11 v2.Water.length) (.o 12 13 v2.Ice.length) [kc 15 0 (.i (idx a1 x3.1)), kc 16 0 (.v (.slice a1_p a1.length a1_c))]))) ?_ (kp rfl) rfl
    refine fin_then ?_
    refine aw_block ?_
    refine aw_loopC hm (fun x5 => (kt 2 (.v (.slice a2_p a2.length a2_c)) :: kt 3 (.v (.slice a3_p a3.length a3_c)) :: kt 4 (.v (.int .u16 a4)) :: kt 5 (.B a5) :: kt 13 (.p 7 0) :: kt 14 (.p 14 0) :: kt 15 (.f (.func 83) [] [.p 15 0, .p 16 0]) :: kt 100 (.i (((v2.Water.length : Nat) : Int))) :: kt 101 (.i x5.1) :: kb 7 25 11 :: kb 14 25 11 :: kb 15 3 1 :: kb 16 22 1 :: (.r 1, some (.vec true 2 84 2 (v1.Thrust.flatMap encPt))) :: (.r 3, some (.vec true 4 84 2 (v1.Water.flatMap encPt))) :: (.r 5, some (.vec true 6 84 2 (v1.Ice.flatMap encPt))) :: (.r 8, some (.vec true 9 84 2 (x3.2.flatMap encPt))) :: (.r 10, some (.vec true 11 84 2 (x5.2.flatMap encPt))) :: (.r 12, some (.vec true 13 84 2 (v2.Ice.flatMap encPt))) :: sK 7 v1 (.o 1 2 v1.Thrust.length) (.o 3 4 v1.Water.length) (.o 5 6 v1.Ice.length) (sK 14 v2 (.o 8 9 x3.2.length) (.o 10 11 x5.2.length) (.o 12 13 v2.Ice.length) [kc 15 0 (.i (idx a1 x3.1)), kc 16 0 (.v (.slice a1_p a1.length a1_c))]))) ⟨rfl, rfl, rfl, rfl, rfl, rfl, rfl, rfl, rfl, rfl, rfl, rfl, rfl, rfl, rfl, rfl, rfl, rfl, rfl, rfl, rfl, rfl, rfl, rfl, rfl, rfl, rfl, rfl, rfl, rfl, rfl, rfl, rfl, rfl, rfl, rfl, rfl, rfl, rfl, rfl, rfl, rfl, rfl, trivial⟩ rfl (fun x5 n5 hm => ?_)
    refine aw_seq ?_
    refine aw_text (rows := [_]) rfl (by kernel_rfl) ⟨
     ok_plain rfl rfl (op_bin (ltN rfl) rfl rfl rfl),
     trivial⟩ ?_
    refine fin_keep (s' := (kt 2 (.v (.slice a2_p a2.length a2_c)) :: kt 3 (.v (.slice a3_p a3.length a3_c)) :: kt 4 (.v (.int .u16 a4)) :: kt 5 (.B a5) :: kt 13 (.p 7 0) :: kt 14 (.p 14 0) :: kt 15 (.f (.func 83) [] [.p 15 0, .p 16 0]) :: kt 100 (.i (((v2.Water.length : Nat) : Int))) :: kt 101 (.i x5.1) :: kt 102 (.B (decide (x5.1 < (((v2.Water.length : Nat) : Int))))) :: kb 7 25 11 :: kb 14 25 11 :: kb 15 3 1 :: kb 16 22 1 :: (.r 1, some (.vec true 2 84 2 (v1.Thrust.flatMap encPt))) :: (.r 3, some (.vec true 4 84 2 (v1.Water.flatMap encPt))) :: (.r 5, some (.vec true 6 84 2 (v1.Ice.flatMap encPt))) :: (.r 8, some (.vec true 9 84 2 (x3.2.flatMap encPt))) :: (.r 10, some (.vec true 11 84 2 (x5.2.flatMap encPt))) :: (.r 12, some (.vec true 13 84 2 (v2.Ice.flatMap encPt))) :: sK 7 v1 (.o 1 2 v1.Thrust.length) (.o 3 4 v1.Water.length) (.o 5 6 v1.Ice.length) (sK 14 v2 (.o 8 9 x3.2.length) (.o 10 11 x5.2.length) (.o 12 13 v2.Ice.length) [kc 15 0 (.i (idx a1 x3.1)), kc 16 0 (.v (.slice a1_p a1.length a1_c))]))) ?_ (kp rfl) rfl
    refine fin_then ?_
    refine aw_seq ?_
    refine aw_cond rfl (fun hz21 => ?_) (fun hz21 => ?_)
    ·have hm := brk_t hz21 hm
     refine aw_skip ?_
     refine fin_then ?_
     refine aw_seq ?_
     refine aw_block ?_
     refine aw_seq ?_
     refine aw_text (rows := [_, _]) rfl (by kernel_rfl) ⟨
      ok_plain rfl rfl (op_move (ltN rfl) rfl),
      ok_plain rfl rfl (op_assign (ltN rfl) rfl),
      trivial⟩ ?_
     refine fin_keep (s' := (kt 2 (.v (.slice a2_p a2.length a2_c)) :: kt 3 (.v (.slice a3_p a3.length a3_c)) :: kt 4 (.v (.int .u16 a4)) :: kt 5 (.B a5) :: kt 13 (.p 7 0) :: kt 14 (.p 14 0) :: kt 15 (.f (.func 83) [] [.p 15 0, .p 16 0]) :: kt 18 (.i x5.1) :: kt 100 (.i (((v2.Water.length : Nat) : Int))) :: kt 101 (.i x5.1) :: kb 7 25 11 :: kb 14 25 11 :: kb 15 3 1 :: kb 16 22 1 :: (.r 1, some (.vec true 2 84 2 (v1.Thrust.flatMap encPt))) :: (.r 3, some (.vec true 4 84 2 (v1.Water.flatMap encPt))) :: (.r 5, some (.vec true 6 84 2 (v1.Ice.flatMap encPt))) :: (.r 8, some (.vec true 9 84 2 (x3.2.flatMap encPt))) :: (.r 10, some (.vec true 11 84 2 (x5.2.flatMap encPt))) :: (.r 12, some (.vec true 13 84 2 (v2.Ice.flatMap encPt))) :: sK 7 v1 (.o 1 2 v1.Thrust.length) (.o 3 4 v1.Water.length) (.o 5 6 v1.Ice.length) (sK 14 v2 (.o 8 9 x3.2.length) (.o 10 11 x5.2.length) (.o 12 13 v2.Ice.length) [kc 15 0 (.i (idx a1 x3.1)), kc 16 0 (.v (.slice a1_p a1.length a1_c))]))) ?_ (kp rfl) rfl
     refine fin_then ?_
     obtain ⟨hp22, hm⟩ := chk_some hm
     obtain ⟨hp23, hm⟩ := chk_some hm
     obtain ⟨hp24, hm⟩ := chk_some hm
     refine aw_any (rows := [_, _, _, _, _, _, _, _, _, _, _, _, _, _]) (M := [0, 1, 0, 0, 8, 0, 56, 120, 248, 504, 1016, 2047, 4095, 8191]) Tryd_mixed (by kernel_rfl) rfl (by kernel_rfl) ⟨
      ok_plain rfl rfl (op_fieldAddr (ltN rfl) rfl fo_25_5),
      ok_plain rfl rfl (op_load1 (ltN rfl) sh_23 rfl rfl),
      ok_plain rfl rfl (op_move (ltN rfl) rfl),
      ok_plain rfl rfl (op_fieldAddr (ltN rfl) rfl fo_25_5),
      ok_plain rfl rfl (op_load1 (ltN rfl) sh_23 rfl rfl),
      ok_plain rfl rfl (op_move (ltN rfl) rfl),
      ok_plain rfl rfl (op_ixO (ltN rfl) rfl rfl ss_23 rfl (flat_ne (enc := encPt) (k := 2) (fun _ => rfl) (by decide) (i := x5.1) hp22.1 hp22.2) hp22.1 hp22.2),
      ok_plain rfl rfl (op_fieldAddr (ltN rfl) rfl fo_84_1),
      ok_plain rfl rfl (op_loadO1 (v := (.int .i64 (((pt x5.2 x5.1)).Y))) (ltN rfl) sh_3 rfl rfl (flat_ix (k := 2) (l := x5.2) (enc := encPt) (fun _ => rfl) ⟨0, 0⟩ (i := x5.1) hp22.1 hp22.2 (j := 1) rfl)),
      ok_plain rfl rfl (op_bin (ltN rfl) rfl rfl (nw_mul hp23)),
      ok_plain rfl rfl (op_quo (ltN rfl) rfl rfl (by decide) (quo_nn hp24.1 (by decide) hp24.2)),
      ok_plain rfl rfl (op_ixO (ltN rfl) rfl rfl ss_23 rfl (flat_ne (enc := encPt) (k := 2) (fun _ => rfl) (by decide) (i := x5.1) hp22.1 hp22.2) hp22.1 hp22.2),
      ok_plain rfl rfl (op_fieldAddr (ltN rfl) rfl fo_84_1),
      ok_plain rfl rfl (op_storeR1 (v := (.int .i64 (((((pt x5.2 x5.1)).Y) * 3) / 4))) sz_3 rfl rfl rfl rfl (flat_lt (enc := encPt) (k := 2) (l := x5.2) (fun _ => rfl) (i := x5.1) hp22.1 hp22.2 (j := 1) (by decide))),
      trivial⟩ ?_
     refine fin_keep (s' := (kt 2 (.v (.slice a2_p a2.length a2_c)) :: kt 3 (.v (.slice a3_p a3.length a3_c)) :: kt 4 (.v (.int .u16 a4)) :: kt 5 (.B a5) :: kt 13 (.p 7 0) :: kt 14 (.p 14 0) :: kt 15 (.f (.func 83) [] [.p 15 0, .p 16 0]) :: kt 100 (.i (((v2.Water.length : Nat) : Int))) :: kt 101 (.i x5.1) :: kb 7 25 11 :: kb 14 25 11 :: kb 15 3 1 :: kb 16 22 1 :: (.r 1, some (.vec true 2 84 2 (v1.Thrust.flatMap encPt))) :: (.r 3, some (.vec true 4 84 2 (v1.Water.flatMap encPt))) :: (.r 5, some (.vec true 6 84 2 (v1.Ice.flatMap encPt))) :: (.r 8, some (.vec true 9 84 2 (x3.2.flatMap encPt))) :: (.r 10, some (.vec true 11 84 2 ((x5.2.set x5.1.toNat ((⟨((pt x5.2 x5.1)).X, ((((pt x5.2 x5.1)).Y) * 3) / 4⟩ : Pt))).flatMap encPt))) :: (.r 12, some (.vec true 13 84 2 (v2.Ice.flatMap encPt))) :: sK 7 v1 (.o 1 2 v1.Thrust.length) (.o 3 4 v1.Water.length) (.o 5 6 v1.Ice.length) (sK 14 v2 (.o 8 9 x3.2.length) (.o 10 11 ((x5.2.set x5.1.toNat ((⟨((pt x5.2 x5.1)).X, ((((pt x5.2 x5.1)).Y) * 3) / 4⟩ : Pt))).length)) (.o 12 13 v2.Ice.length) [kc 15 0 (.i (idx a1 x3.1)), kc 16 0 (.v (.slice a1_p a1.length a1_c))]))) ?_ ⟨rfl, rfl, rfl, rfl, rfl, rfl, rfl, rfl, rfl, rfl, rfl, rfl, rfl, rfl, rfl, rfl, rfl, (congrArg (fun q => some (Val.vec true 11 84 2 q)) (flat_set1 (k := 2) (l := x5.2) (enc := encPt) (fun _ => rfl) ⟨0, 0⟩ (i := x5.1) hp22.1 hp22.2 1 (by decide) (v := (.int .i64 (((((pt x5.2 x5.1)).Y) * 3) / 4))) (x := (⟨((pt x5.2 x5.1)).X, ((((pt x5.2 x5.1)).Y) * 3) / 4⟩ : Pt)) rfl)), rfl, rfl, rfl, rfl, rfl, rfl, rfl, rfl, rfl, rfl, rfl, rfl, rfl, rfl, rfl, rfl, rfl, (congrArg (fun q => some (Val.x (SV.o 10 11 q))) (show x5.2.length = (x5.2.set x5.1.toNat ((⟨((pt x5.2 x5.1)).X, ((((pt x5.2 x5.1)).Y) * 3) / 4⟩ : Pt))).length from List.length_set.symm)), rfl, rfl, rfl, rfl, rfl, rfl, rfl, trivial⟩ rfl
     refine fin_block ?_
     refine fin_then ?_
     obtain ⟨hp25, hm⟩ := chk_some hm
     refine aw_text (rows := [_, _]) rfl (by kernel_rfl) ⟨
      ok_plain rfl rfl (op_bin (ltN rfl) rfl rfl (nw_add hp25)),
      ok_plain rfl rfl (op_move (ltN rfl) rfl),
      trivial⟩ ?_
     refine fin_keep (s' := (kt 2 (.v (.slice a2_p a2.length a2_c)) :: kt 3 (.v (.slice a3_p a3.length a3_c)) :: kt 4 (.v (.int .u16 a4)) :: kt 5 (.B a5) :: kt 13 (.p 7 0) :: kt 14 (.p 14 0) :: kt 15 (.f (.func 83) [] [.p 15 0, .p 16 0]) :: kt 100 (.i (((v2.Water.length : Nat) : Int))) :: kt 101 (.i (x5.1 + 1)) :: kb 7 25 11 :: kb 14 25 11 :: kb 15 3 1 :: kb 16 22 1 :: (.r 1, some (.vec true 2 84 2 (v1.Thrust.flatMap encPt))) :: (.r 3, some (.vec true 4 84 2 (v1.Water.flatMap encPt))) :: (.r 5, some (.vec true 6 84 2 (v1.Ice.flatMap encPt))) :: (.r 8, some (.vec true 9 84 2 (x3.2.flatMap encPt))) :: (.r 10, some (.vec true 11 84 2 ((x5.2.set x5.1.toNat ((⟨((pt x5.2 x5.1)).X, ((((pt x5.2 x5.1)).Y) * 3) / 4⟩ : Pt))).flatMap encPt))) :: (.r 12, some (.vec true 13 84 2 (v2.Ice.flatMap encPt))) :: sK 7 v1 (.o 1 2 v1.Thrust.length) (.o 3 4 v1.Water.length) (.o 5 6 v1.Ice.length) (sK 14 v2 (.o 8 9 x3.2.length) (.o 10 11 ((x5.2.set x5.1.toNat ((⟨((pt x5.2 x5.1)).X, ((((pt x5.2 x5.1)).Y) * 3) / 4⟩ : Pt))).length)) (.o 12 13 v2.Ice.length) [kc 15 0 (.i (idx a1 x3.1)), kc 16 0 (.v (.slice a1_p a1.length a1_c))]))) ?_ (kp rfl) rfl
     exact fin_cut (x5.1 + 1, (x5.2.set x5.1.toNat ((⟨((pt x5.2 x5.1)).X, ((((pt x5.2 x5.1)).Y) * 3) / 4⟩ : Pt)))) hm ⟨rfl, rfl, rfl, rfl, rfl, rfl, rfl, rfl, rfl, rfl, rfl, rfl, rfl, rfl, rfl, rfl, rfl, rfl, rfl, rfl, rfl, rfl, rfl, rfl, rfl, rfl, rfl, rfl, rfl, rfl, rfl, rfl, rfl, rfl, rfl, rfl, rfl, rfl, rfl, rfl, rfl, rfl, rfl, trivial⟩ rfl
    ·have hm := brk_f hz21 hm
     refine aw_exit ?_
     refine fin_then_exit ?_
     refine fin_then_exit ?_
     refine fin_block_exit ?_
     exact fin_cut x5.2 hm ⟨rfl, rfl, rfl, rfl, rfl, rfl, rfl, rfl, rfl, rfl, rfl, rfl, rfl, rfl, rfl, rfl, rfl, rfl, rfl, rfl, rfl, rfl, rfl, rfl, rfl, rfl, rfl, rfl, rfl, rfl, rfl, rfl, rfl, rfl, rfl, rfl, rfl, rfl, rfl, rfl, rfl, trivial⟩ rfl
   ·have _z := hm
    refine aw_cutM (ι := List Pt) hm (fun x6 => (kt 2 (.v (.slice a2_p a2.length a2_c)) :: kt 3 (.v (.slice a3_p a3.length a3_c)) :: kt 4 (.v (.int .u16 a4)) :: kt 5 (.B a5) :: kt 13 (.p 7 0) :: kt 14 (.p 14 0) :: kt 15 (.f (.func 83) [] [.p 15 0, .p 16 0]) :: kb 7 25 11 :: kb 14 25 11 :: kb 15 3 1 :: kb 16 22 1 :: (.r 1, some (.vec true 2 84 2 (v1.Thrust.flatMap encPt))) :: (.r 3, some (.vec true 4 84 2 (v1.Water.flatMap encPt))) :: (.r 5, some (.vec true 6 84 2 (v1.Ice.flatMap encPt))) :: (.r 8, some (.vec true 9 84 2 (x3.2.flatMap encPt))) :: (.r 10, some (.vec true 11 84 2 (x4.flatMap encPt))) :: (.r 12, some (.vec true 13 84 2 (x6.flatMap encPt))) :: sK 7 v1 (.o 1 2 v1.Thrust.length) (.o 3 4 v1.Water.length) (.o 5 6 v1.Ice.length) (sK 14 v2 (.o 8 9 x3.2.length) (.o 10 11 x4.length) (.o 12 13 x6.length) [kc 15 0 (.i (idx a1 x3.1)), kc 16 0 (.v (.slice a1_p a1.length a1_c))]))) (fun hm => ?_) (fun x6 hm => ?_)
    ·have _z := hm
     refine aw_seq ?_
     refine aw_text (rows := [_, _, _, _]) rfl (by kernel_rfl) ⟨
      ok_plain rfl rfl (op_fieldAddr (ltN rfl) rfl fo_25_6),
      ok_plain rfl rfl (op_load1 (ltN rfl) sh_23 rfl rfl),
      ok_plain rfl rfl (op_lenO (n := v2.Ice.length) (ltN rfl) (by rw [ss_23]; rfl) rfl),
      ok_plain rfl rfl (op_move (ltN rfl) rfl),
      trivial⟩ ?_
     refine fin_keep (s' := (kt 2 (.v (.slice a2_p a2.length a2_c)) :: kt 3 (.v (.slice a3_p a3.length a3_c)) :: kt 4 (.v (.int .u16 a4)) :: kt 5 (.B a5) :: kt 13 (.p 7 0) :: kt 14 (.p 14 0) :: kt 15 (.f (.func 83) [] [.p 15 0, .p 16 0]) :: kt 120 (.i (((v2.Ice.length : Nat) : Int))) :: kt 121 (.i 0) :: kb 7 25 11 :: kb 14 25 11 :: kb 15 3 1 :: kb 16 22 1 :: (.r 1, some (.vec true 2 84 2 (v1.Thrust.flatMap encPt))) :: (.r 3, some (.vec true 4 84 2 (v1.Water.flatMap encPt))) :: (.r 5, some (.vec true 6 84 2 (v1.Ice.flatMap encPt))) :: (.r 8, some (.vec true 9 84 2 (x3.2.flatMap encPt))) :: (.r 10, some (.vec true 11 84 2 (x4.flatMap encPt))) :: (.r 12, some (.vec true 13 84 2 (v2.Ice.flatMap encPt))) :: sK 7 v1 (.o 1 2 v1.Thrust.length) (.o 3 4 v1.Water.length) (.o 5 6 v1.Ice.length) (sK 14 v2 (.o 8 9 x3.2.length) (.o 10 11 x4.length) (.o 12 13 v2.Ice.length) [kc 15 0 (.i (idx a1 x3.1)), kc 16 0 (.v (.slice a1_p a1.length a1_c))]))) ?_ (kp rfl) rfl
     refine fin_then ?_
     refine aw_block ?_
     refine aw_loopC hm (fun x7 => (kt 2 (.v (.slice a2_p a2.length a2_c)) :: kt 3 (.v (.slice a3_p a3.length a3_c)) :: kt 4 (.v (.int .u16 a4)) :: kt 5 (.B a5) :: kt 13 (.p 7 0) :: kt 14 (.p 14 0) :: kt 15 (.f (.func 83) [] [.p 15 0, .p 16 0]) :: kt 120 (.i (((v2.Ice.length : Nat) : Int))) :: kt 121 (.i x7.1) :: kb 7 25 11 :: kb 14 25 11 :: kb 15 3 1 :: kb 16 22 1 :: (.r 1, some (.vec true 2 84 2 (v1.Thrust.flatMap encPt))) :: (.r 3, some (.vec true 4 84 2 (v1.Water.flatMap encPt))) :: (.r 5, some (.vec true 6 84 2 (v1.Ice.flatMap encPt))) :: (.r 8, some (.vec true 9 84 2 (x3.2.flatMap encPt))) :: (.r 10, some (.vec true 11 84 2 (x4.flatMap encPt))) :: (.r 12, some (.vec true 13 84 2 (x7.2.flatMap encPt))) :: sK 7 v1 (.o 1 2 v1.Thrust.length) (.o 3 4 v1.Water.length) (.o 5 6 v1.Ice.length) (sK 14 v2 (.o 8 9 x3.2.length) (.o 10 11 x4.length) (.o 12 13 x7.2.length) [kc 15 0 (.i (idx a1 x3.1)), kc 16 0 (.v (.slice a1_p a1.length a1_c))]))) ⟨rfl, rfl, rfl, rfl, rfl, rfl, rfl, rfl, rfl, rfl, rfl, rfl, rfl, rfl, rfl, rfl, rfl, rfl, rfl, rfl, rfl, rfl, rfl, rfl, rfl, rfl, rfl, rfl, rfl, rfl, rfl, rfl, rfl, rfl, rfl, rfl, rfl, rfl, rfl, rfl, rfl, rfl, rfl, trivial⟩ rfl (fun x7 n7 hm => ?_)
     refine aw_seq ?_
     refine aw_text (rows := [_]) rfl (by kernel_rfl) ⟨
      ok_plain rfl rfl (op_bin (ltN rfl) rfl rfl rfl),
      trivial⟩ ?_
     refine fin_keep (s' := (kt 2 (.v (.slice a2_p a2.length a2_c)) :: kt 3 (.v (.slice a3_p a3.length a3_c)) :: kt 4 (.v (.int .u16 a4)) :: kt 5 (.B a5) :: kt 13 (.p 7 0) :: kt 14 (.p 14 0) :: kt 15 (.f (.func 83) [] [.p 15 0, .p 16 0]) :: kt 120 (.i (((v2.Ice.length : Nat) : Int))) :: kt 121 (.i x7.1) :: kt 122 (.B (decide (x7.1 < (((v2.Ice.length : Nat) : Int))))) :: kb 7 25 11 :: kb 14 25 11 :: kb 15 3 1 :: kb 16 22 1 :: (.r 1, some (.vec true 2 84 2 (v1.Thrust.flatMap encPt))) :: (.r 3, some (.vec true 4 84 2 (v1.Water.flatMap encPt))) :: (.r 5, some (.vec true 6 84 2 (v1.Ice.flatMap encPt))) :: (.r 8, some (.vec true 9 84 2 (x3.2.flatMap encPt))) :: (.r 10, some (.vec true 11 84 2 (x4.flatMap encPt))) :: (.r 12, some (.vec true 13 84 2 (x7.2.flatMap encPt))) :: sK 7 v1 (.o 1 2 v1.Thrust.length) (.o 3 4 v1.Water.length) (.o 5 6 v1.Ice.length) (sK 14 v2 (.o 8 9 x3.2.length) (.o 10 11 x4.length) (.o 12 13 x7.2.length) [kc 15 0 (.i (idx a1 x3.1)), kc 16 0 (.v (.slice a1_p a1.length a1_c))]))) ?_ (kp rfl) rfl
     refine fin_then ?_
     refine aw_seq ?_
     refine aw_cond rfl (fun hz26 => ?_) (fun hz26 => ?_)
     ·have hm := brk_t hz26 hm
      refine aw_skip ?_
      refine fin_then ?_
      refine aw_seq ?_
      refine aw_block ?_
      refine aw_seq ?_
      refine aw_text (rows := [_, _]) rfl (by kernel_rfl) ⟨
       ok_plain rfl rfl (op_move (ltN rfl) rfl),
       ok_plain rfl rfl (op_assign (ltN rfl) rfl),
       trivial⟩ ?_
      refine fin_keep (s' := (kt 2 (.v (.slice a2_p a2.length a2_c)) :: kt 3 (.v (.slice a3_p a3.length a3_c)) :: kt 4 (.v (.int .u16 a4)) :: kt 5 (.B a5) :: kt 13 (.p 7 0) :: kt 14 (.p 14 0) :: kt 15 (.f (.func 83) [] [.p 15 0, .p 16 0]) :: kt 19 (.i x7.1) :: kt 120 (.i (((v2.Ice.length : Nat) : Int))) :: kt 121 (.i x7.1) :: kb 7 25 11 :: kb 14 25 11 :: kb 15 3 1 :: kb 16 22 1 :: (.r 1, some (.vec true 2 84 2 (v1.Thrust.flatMap encPt))) :: (.r 3, some (.vec true 4 84 2 (v1.Water.flatMap encPt))) :: (.r 5, some (.vec true 6 84 2 (v1.Ice.flatMap encPt))) :: (.r 8, some (.vec true 9 84 2 (x3.2.flatMap encPt))) :: (.r 10, some (.vec true 11 84 2 (x4.flatMap encPt))) :: (.r 12, some (.vec true 13 84 2 (x7.2.flatMap encPt))) :: sK 7 v1 (.o 1 2 v1.Thrust.length) (.o 3 4 v1.Water.length) (.o 5 6 v1.Ice.length) (sK 14 v2 (.o 8 9 x3.2.length) (.o 10 11 x4.length) (.o 12 13 x7.2.length) [kc 15 0 (.i (idx a1 x3.1)), kc 16 0 (.v (.slice a1_p a1.length a1_c))]))) ?_ (kp rfl) rfl
      refine fin_then ?_
      obtain ⟨hp27, hm⟩ := chk_some hm
      obtain ⟨hp28, hm⟩ := chk_some hm
      refine aw_text (rows := [_, _, _, _, _, _, _, _, _, _]) rfl (by kernel_rfl) ⟨
       ok_plain rfl rfl (op_fieldAddr (ltN rfl) rfl fo_25_6),
       ok_plain rfl rfl (op_load1 (ltN rfl) sh_23 rfl rfl),
       ok_plain rfl rfl (op_move (ltN rfl) rfl),
       ok_plain rfl rfl (op_ixO (ltN rfl) rfl rfl ss_23 rfl (flat_ne (enc := encPt) (k := 2) (fun _ => rfl) (by decide) (i := x7.1) hp27.1 hp27.2) hp27.1 hp27.2),
       ok_plain rfl rfl (op_fieldAddr (ltN rfl) rfl fo_84_1),
       ok_plain rfl rfl (op_loadO1 (v := (.int .i64 (((pt x7.2 x7.1)).Y))) (ltN rfl) sh_3 rfl rfl (flat_ix (k := 2) (l := x7.2) (enc := encPt) (fun _ => rfl) ⟨0, 0⟩ (i := x7.1) hp27.1 hp27.2 (j := 1) rfl)),
       ok_plain rfl rfl (op_quo (ltN rfl) rfl rfl (by decide) (quo_nn hp28.1 (by decide) hp28.2)),
       ok_plain rfl rfl (op_ixO (ltN rfl) rfl rfl ss_23 rfl (flat_ne (enc := encPt) (k := 2) (fun _ => rfl) (by decide) (i := x7.1) hp27.1 hp27.2) hp27.1 hp27.2),
       ok_plain rfl rfl (op_fieldAddr (ltN rfl) rfl fo_84_1),
       ok_plain rfl rfl (op_storeR1 (v := (.int .i64 ((((pt x7.2 x7.1)).Y) / 2))) sz_3 rfl rfl rfl rfl (flat_lt (enc := encPt) (k := 2) (l := x7.2) (fun _ => rfl) (i := x7.1) hp27.1 hp27.2 (j := 1) (by decide))),
       trivial⟩ ?_
      refine fin_keep (s' := (kt 2 (.v (.slice a2_p a2.length a2_c)) :: kt 3 (.v (.slice a3_p a3.length a3_c)) :: kt 4 (.v (.int .u16 a4)) :: kt 5 (.B a5) :: kt 13 (.p 7 0) :: kt 14 (.p 14 0) :: kt 15 (.f (.func 83) [] [.p 15 0, .p 16 0]) :: kt 120 (.i (((v2.Ice.length : Nat) : Int))) :: kt 121 (.i x7.1) :: kb 7 25 11 :: kb 14 25 11 :: kb 15 3 1 :: kb 16 22 1 :: (.r 1, some (.vec true 2 84 2 (v1.Thrust.flatMap encPt))) :: (.r 3, some (.vec true 4 84 2 (v1.Water.flatMap encPt))) :: (.r 5, some (.vec true 6 84 2 (v1.Ice.flatMap encPt))) :: (.r 8, some (.vec true 9 84 2 (x3.2.flatMap encPt))) :: (.r 10, some (.vec true 11 84 2 (x4.flatMap encPt))) :: (.r 12, some (.vec true 13 84 2 ((x7.2.set x7.1.toNat ((⟨((pt x7.2 x7.1)).X, (((pt x7.2 x7.1)).Y) / 2⟩ : Pt))).flatMap encPt))) :: sK 7 v1 (.o 1 2 v1.Thrust.length) (.o 3 4 v1.Water.length) (.o 5 6 v1.Ice.length) (sK 14 v2 (.o 8 9 x3.2.length) (.o 10 11 x4.length) (.o 12 13 ((x7.2.set x7.1.toNat ((⟨((pt x7.2 x7.1)).X, (((pt x7.2 x7.1)).Y) / 2⟩ : Pt))).length)) [kc 15 0 (.i (idx a1 x3.1)), kc 16 0 (.v (.slice a1_p a1.length a1_c))]))) ?_ ⟨rfl, rfl, rfl, rfl, rfl, rfl, rfl, rfl, rfl, rfl, rfl, rfl, rfl, rfl, rfl, rfl, rfl, rfl, (congrArg (fun q => some (Val.vec true 13 84 2 q)) (flat_set1 (k := 2) (l := x7.2) (enc := encPt) (fun _ => rfl) ⟨0, 0⟩ (i := x7.1) hp27.1 hp27.2 1 (by decide) (v := (.int .i64 ((((pt x7.2 x7.1)).Y) / 2))) (x := (⟨((pt x7.2 x7.1)).X, (((pt x7.2 x7.1)).Y) / 2⟩ : Pt)) rfl)), rfl, rfl, rfl, rfl, rfl, rfl, rfl, rfl, rfl, rfl, rfl, rfl, rfl, rfl, rfl, rfl, rfl, (congrArg (fun q => some (Val.x (SV.o 12 13 q))) (show x7.2.length = (x7.2.set x7.1.toNat ((⟨((pt x7.2 x7.1)).X, (((pt x7.2 x7.1)).Y) / 2⟩ : Pt))).length from List.length_set.symm)), rfl, rfl, rfl, rfl, rfl, rfl, trivial⟩ rfl
      refine fin_block ?_
      refine fin_then ?_
      obtain ⟨hp29, hm⟩ := chk_some hm
      refine aw_text (rows := [_, _]) rfl (by kernel_rfl) ⟨
       ok_plain rfl rfl (op_bin (ltN rfl) rfl rfl (nw_add hp29)),
       ok_plain rfl rfl (op_move (ltN rfl) rfl),
       trivial⟩ ?_
      refine fin_keep (s' := (kt 2 (.v (.slice a2_p a2.length a2_c)) :: kt 3 (.v (.slice a3_p a3.length a3_c)) :: kt 4 (.v (.int .u16 a4)) :: kt 5 (.B a5) :: kt 13 (.p 7 0) :: kt 14 (.p 14 0) :: kt 15 (.f (.func 83) [] [.p 15 0, .p 16 0]) :: kt 120 (.i (((v2.Ice.length : Nat) : Int))) :: kt 121 (.i (x7.1 + 1)) :: kb 7 25 11 :: kb 14 25 11 :: kb 15 3 1 :: kb 16 22 1 :: (.r 1, some (.vec true 2 84 2 (v1.Thrust.flatMap encPt))) :: (.r 3, some (.vec true 4 84 2 (v1.Water.flatMap encPt))) :: (.r 5, some (.vec true 6 84 2 (v1.Ice.flatMap encPt))) :: (.r 8, some (.vec true 9 84 2 (x3.2.flatMap encPt))) :: (.r 10, some (.vec true 11 84 2 (x4.flatMap encPt))) :: (.r 12, some (.vec true 13 84 2 ((x7.2.set x7.1.toNat ((⟨((pt x7.2 x7.1)).X, (((pt x7.2 x7.1)).Y) / 2⟩ : Pt))).flatMap encPt))) :: sK 7 v1 (.o 1 2 v1.Thrust.length) (.o 3 4 v1.Water.length) (.o 5 6 v1.Ice.length) (sK 14 v2 (.o 8 9 x3.2.length) (.o 10 11 x4.length) (.o 12 13 ((x7.2.set x7.1.toNat ((⟨((pt x7.2 x7.1)).X, (((pt x7.2 x7.1)).Y) / 2⟩ : Pt))).length)) [kc 15 0 (.i (idx a1 x3.1)), kc 16 0 (.v (.slice a1_p a1.length a1_c))]))) ?_ (kp rfl) rfl
      exact fin_cut (x7.1 + 1, (x7.2.set x7.1.toNat ((⟨((pt x7.2 x7.1)).X, (((pt x7.2 x7.1)).Y) / 2⟩ : Pt)))) hm ⟨rfl, rfl, rfl, rfl, rfl, rfl, rfl, rfl, rfl, rfl, rfl, rfl, rfl, rfl, rfl, rfl, rfl, rfl, rfl, rfl, rfl, rfl, rfl, rfl, rfl, rfl, rfl, rfl, rfl, rfl, rfl, rfl, rfl, rfl, rfl, rfl, rfl, rfl, rfl, rfl, rfl, rfl, rfl, trivial⟩ rfl
     ·have hm := brk_f hz26 hm
      refine aw_exit ?_
      refine fin_then_exit ?_
      refine fin_then_exit ?_
      refine fin_block_exit ?_
      exact fin_cut x7.2 hm ⟨rfl, rfl, rfl, rfl, rfl, rfl, rfl, rfl, rfl, rfl, rfl, rfl, rfl, rfl, rfl, rfl, rfl, rfl, rfl, rfl, rfl, rfl, rfl, rfl, rfl, rfl, rfl, rfl, rfl, rfl, rfl, rfl, rfl, rfl, rfl, rfl, rfl, rfl, rfl, rfl, rfl, trivial⟩ rfl
    ·have _z := hm
     refine aw_seq ?_
     obtain ⟨hp30, hm⟩ := chk_some hm
     obtain ⟨hp31, hm⟩ := chk_some hm
     obtain ⟨hp32, hm⟩ := chk_some hm
     obtain ⟨hp33, hm⟩ := chk_some hm
     obtain ⟨hp34, hm⟩ := chk_some hm
     obtain ⟨hp35, hm⟩ := chk_some hm
     obtain ⟨hp36, hm⟩ := chk_some hm
     obtain ⟨hp37, hm⟩ := chk_some hm
     refine aw_any (rows := [_, _, _, _, _, _, _, _, _, _, _, _, _, _, _, _, _, _, _, _, _, _, _, _, _, _, _, _, _, _, _, _]) (M := [0, 1, 0, 4, 12, 31, 0, 64, 0, 268, 780, 1996, 0, 4096, 0, 17164, 49932, 127756, 0, 262144, 0, 1098508, 3195660, 8176396, 798975, 20771839, 54329343, 121438207, 255852543, 524287999, 1073741823, 2147483647]) Tryd_mixed (by kernel_rfl) rfl (by kernel_rfl) ⟨
      ok_plain rfl rfl (op_fieldAddr (ltN rfl) rfl fo_25_7),
      ok_plain rfl rfl (op_load1 (ltN rfl) sh_3 rfl rfl),
      ok_plain rfl rfl (op_move (ltN rfl) rfl),
      ok_plain rfl rfl (op_callLentL (ls := [⟨15, 3, [.i (idx a1 x3.1)], [.i (idx a1 (x3.1 + 1))]⟩, ⟨16, 22, [.v (.slice a1_p a1.length a1_c)], [.v (.slice a1_p a1.length a1_c)]⟩]) (x := .i (dv a1 x3.1 2)) (fs := []) (caps := [.p 15 0, .p 16 0]) (extra := []) (ltN rfl) en_83 rfl ⟨rfl, rfl, rfl⟩ (EvL.cons rfl EvL.nil) ⟨rfl, ⟨rfl, trivial⟩, rfl, lb_ne rfl, ⟨rfl, ⟨rfl, trivial⟩, rfl, lb_ne rfl, trivial⟩⟩ (fun mm aa ww gg hr hrel hbx hlo => c83L 2 x3.1 (mm 15) a1 ⟨a1_p, a1.length, a1_c⟩ (mm 16) ww (hbx _ (.head _)) (hbx _ (.tail _ (.head _))) (SlIs.mono ha1 hrel.below) (sl_ne ha1 (box_hi hrel hlo.1)) (box_ne hrel hlo.2.2.2.2.1 hlo.1 (by decide)) (by decide) h8a1 hlena1)),
      ok_plain rfl rfl (op_bin (ltN rfl) rfl rfl (nw_add hp30)),
      ok_plain rfl rfl (op_quo (ltN rfl) rfl rfl (Int.ne_of_gt hp31.2) (quo_nn hp31.1.1 hp31.2 hp31.1.2)),
      ok_plain rfl rfl (op_fieldAddr (ltN rfl) rfl fo_25_8),
      ok_plain rfl rfl (op_load1 (ltN rfl) sh_3 rfl rfl),
      ok_plain rfl rfl (op_move (ltN rfl) rfl),
      ok_plain rfl rfl (op_callLentL (ls := [⟨15, 3, [.i (idx a1 (x3.1 + 1))], [.i (idx a1 ((x3.1 + 1) + 1))]⟩, ⟨16, 22, [.v (.slice a1_p a1.length a1_c)], [.v (.slice a1_p a1.length a1_c)]⟩]) (x := .i (dv a1 ((x3.1 + 1)) 3)) (fs := []) (caps := [.p 15 0, .p 16 0]) (extra := []) (ltN rfl) en_83 rfl ⟨rfl, rfl, rfl⟩ (EvL.cons rfl EvL.nil) ⟨rfl, ⟨rfl, trivial⟩, rfl, lb_ne rfl, ⟨rfl, ⟨rfl, trivial⟩, rfl, lb_ne rfl, trivial⟩⟩ (fun mm aa ww gg hr hrel hbx hlo => c83L 3 ((x3.1 + 1)) (mm 15) a1 ⟨a1_p, a1.length, a1_c⟩ (mm 16) ww (hbx _ (.head _)) (hbx _ (.tail _ (.head _))) (SlIs.mono ha1 hrel.below) (sl_ne ha1 (box_hi hrel hlo.1)) (box_ne hrel hlo.2.2.2.2.1 hlo.1 (by decide)) (by decide) h8a1 hlena1)),
      ok_plain rfl rfl (op_bin (ltN rfl) rfl rfl (nw_add hp32)),
      ok_plain rfl rfl (op_quo (ltN rfl) rfl rfl (Int.ne_of_gt hp33.2) (quo_nn hp33.1.1 hp33.2 hp33.1.2)),
      ok_plain rfl rfl (op_fieldAddr (ltN rfl) rfl fo_25_9),
      ok_plain rfl rfl (op_load1 (ltN rfl) sh_3 rfl rfl),
      ok_plain rfl rfl (op_move (ltN rfl) rfl),
      ok_plain rfl rfl (op_callLentL (ls := [⟨15, 3, [.i (idx a1 ((x3.1 + 1) + 1))], [.i (idx a1 (((x3.1 + 1) + 1) + 1))]⟩, ⟨16, 22, [.v (.slice a1_p a1.length a1_c)], [.v (.slice a1_p a1.length a1_c)]⟩]) (x := .i (dv a1 (((x3.1 + 1) + 1)) 3)) (fs := []) (caps := [.p 15 0, .p 16 0]) (extra := []) (ltN rfl) en_83 rfl ⟨rfl, rfl, rfl⟩ (EvL.cons rfl EvL.nil) ⟨rfl, ⟨rfl, trivial⟩, rfl, lb_ne rfl, ⟨rfl, ⟨rfl, trivial⟩, rfl, lb_ne rfl, trivial⟩⟩ (fun mm aa ww gg hr hrel hbx hlo => c83L 3 (((x3.1 + 1) + 1)) (mm 15) a1 ⟨a1_p, a1.length, a1_c⟩ (mm 16) ww (hbx _ (.head _)) (hbx _ (.tail _ (.head _))) (SlIs.mono ha1 hrel.below) (sl_ne ha1 (box_hi hrel hlo.1)) (box_ne hrel hlo.2.2.2.2.1 hlo.1 (by decide)) (by decide) h8a1 hlena1)),
      ok_plain rfl rfl (op_bin (ltN rfl) rfl rfl (nw_add hp34)),
      ok_plain rfl rfl (op_quo (ltN rfl) rfl rfl (Int.ne_of_gt hp35.2) (quo_nn hp35.1.1 hp35.2 hp35.1.2)),
      ok_plain rfl rfl (op_fieldAddr (ltN rfl) rfl fo_25_10),
      ok_plain rfl rfl (op_load1 (ltN rfl) sh_3 rfl rfl),
      ok_plain rfl rfl (op_move (ltN rfl) rfl),
      ok_plain rfl rfl (op_callLentL (ls := [⟨15, 3, [.i (idx a1 (((x3.1 + 1) + 1) + 1))], [.i (idx a1 ((((x3.1 + 1) + 1) + 1) + 1))]⟩, ⟨16, 22, [.v (.slice a1_p a1.length a1_c)], [.v (.slice a1_p a1.length a1_c)]⟩]) (x := .i (dv a1 ((((x3.1 + 1) + 1) + 1)) 3)) (fs := []) (caps := [.p 15 0, .p 16 0]) (extra := []) (ltN rfl) en_83 rfl ⟨rfl, rfl, rfl⟩ (EvL.cons rfl EvL.nil) ⟨rfl, ⟨rfl, trivial⟩, rfl, lb_ne rfl, ⟨rfl, ⟨rfl, trivial⟩, rfl, lb_ne rfl, trivial⟩⟩ (fun mm aa ww gg hr hrel hbx hlo => c83L 3 ((((x3.1 + 1) + 1) + 1)) (mm 15) a1 ⟨a1_p, a1.length, a1_c⟩ (mm 16) ww (hbx _ (.head _)) (hbx _ (.tail _ (.head _))) (SlIs.mono ha1 hrel.below) (sl_ne ha1 (box_hi hrel hlo.1)) (box_ne hrel hlo.2.2.2.2.1 hlo.1 (by decide)) (by decide) h8a1 hlena1)),
      ok_plain rfl rfl (op_bin (ltN rfl) rfl rfl (nw_add hp36)),
      ok_plain rfl rfl (op_quo (ltN rfl) rfl rfl (Int.ne_of_gt hp37.2) (quo_nn hp37.1.1 hp37.2 hp37.1.2)),
      ok_plain rfl rfl (op_fieldAddr (ltN rfl) rfl fo_25_7),
      ok_plain rfl rfl (op_store1 sz_3 rfl rfl rfl rfl (ltN rfl)),
      ok_plain rfl rfl (op_fieldAddr (ltN rfl) rfl fo_25_8),
      ok_plain rfl rfl (op_store1 sz_3 rfl rfl rfl rfl (ltN rfl)),
      ok_plain rfl rfl (op_fieldAddr (ltN rfl) rfl fo_25_9),
      ok_plain rfl rfl (op_store1 sz_3 rfl rfl rfl rfl (ltN rfl)),
      ok_plain rfl rfl (op_fieldAddr (ltN rfl) rfl fo_25_10),
      ok_plain rfl rfl (op_store1 sz_3 rfl rfl rfl rfl (ltN rfl)),
      trivial⟩ ?_
     refine fin_keep (s' := (kt 2 (.v (.slice a2_p a2.length a2_c)) :: kt 3 (.v (.slice a3_p a3.length a3_c)) :: kt 4 (.v (.int .u16 a4)) :: kt 5 (.B a5) :: kt 13 (.p 7 0) :: kt 14 (.p 14 0) :: kb 7 25 11 :: kb 14 25 11 :: (.r 1, some (.vec true 2 84 2 (v1.Thrust.flatMap encPt))) :: (.r 3, some (.vec true 4 84 2 (v1.Water.flatMap encPt))) :: (.r 5, some (.vec true 6 84 2 (v1.Ice.flatMap encPt))) :: (.r 8, some (.vec true 9 84 2 (x3.2.flatMap encPt))) :: (.r 10, some (.vec true 11 84 2 (x4.flatMap encPt))) :: (.r 12, some (.vec true 13 84 2 (x6.flatMap encPt))) :: sK 7 v1 (.o 1 2 v1.Thrust.length) (.o 3 4 v1.Water.length) (.o 5 6 v1.Ice.length) [kc 14 0 (.i v2.Class), kc 14 1 (.i v2.Power), kc 14 2 (.i v2.Draught), kc 14 3 (.i v2.Tonnes), kc 14 4 (.o 8 9 x3.2.length), kc 14 5 (.o 10 11 x4.length), kc 14 6 (.o 12 13 x6.length), kc 14 7 (.i (v2.Slow / (1 + (dv a1 x3.1 2)))), kc 14 8 (.i (v2.Brash / (1 + (dv a1 ((x3.1 + 1)) 3)))), kc 14 9 (.i (v2.Ridge / (1 + (dv a1 (((x3.1 + 1) + 1)) 3)))), kc 14 10 (.i (v2.Press / (1 + (dv a1 ((((x3.1 + 1) + 1) + 1)) 3))))])) ?_ (kp rfl) rfl
     refine fin_then ?_
     refine aw_seq ?_
     obtain ⟨v3, hv3, hm⟩ := bnd_some hm
     obtain ⟨v4, hv4, hm⟩ := bnd_some hm
     refine aw_text (rows := [_, _, _, _, _, _, _, _, _, _]) rfl (by kernel_rfl) ⟨
      ok_plain rfl rfl (op_move (ltN rfl) rfl),
      ok_plain rfl rfl (op_call (x := .g [.i v3.Conc.Lo, .i v3.Conc.Hi, .i v3.Thick.Lo, .i v3.Thick.Hi, .i v3.Ridge.Lo, .i v3.Ridge.Hi, .i v3.Press.Lo, .i v3.Press.Hi]) (fs := []) (caps := []) (extra := []) (ltN rfl) en_17 rfl ⟨rfl, rfl, rfl⟩ (EvL.cons rfl EvL.nil) (fun mm aa ww gg hr hrel => (c17 F a2 ⟨a2_p, a2.length, a2_c⟩ ww (SlIs.mono ha2 hrel.below) h8a2 hlena2 v3 hv3))),
      ok_plain rfl rfl (op_call (x := .t [.g [.i v4.1.Conc, .i v4.1.Thick, .i v4.1.Ridge, .i v4.1.Press], .g [.i v4.2.Conc, .i v4.2.Thick, .i v4.2.Ridge, .i v4.2.Press]]) (fs := []) (caps := []) (extra := []) (ltN rfl) en_16 rfl ⟨rfl, rfl, rfl⟩ (EvL.cons rfl EvL.nil) (fun mm aa ww gg hr hrel => (c16 F v3 ww v4 hv4))),
      ok_plain rfl rfl (op_move (ltN rfl) rfl),
      ok_plain rfl rfl (op_extract (ltN rfl) rfl rfl),
      ok_plain rfl rfl (op_extract (ltN rfl) rfl rfl),
      ok_plain rfl rfl (op_alloc (L := 20) (ltN rfl) zl_28),
      ok_plain rfl rfl (op_alloc (L := 21) (ltN rfl) zl_28),
      ok_plain rfl rfl (op_storeN sz_28 rfl rfl rfl rfl rfl (by decide)),
      ok_plain rfl rfl (op_storeN sz_28 rfl rfl rfl rfl rfl (by decide)),
      trivial⟩ ?_
     refine fin_keep (s' := (kt 3 (.v (.slice a3_p a3.length a3_c)) :: kt 4 (.v (.int .u16 a4)) :: kt 5 (.B a5) :: kt 13 (.p 7 0) :: kt 14 (.p 14 0) :: kt 20 (.p 20 0) :: kb 7 25 11 :: kb 14 25 11 :: kb 20 28 4 :: (.r 1, some (.vec true 2 84 2 (v1.Thrust.flatMap encPt))) :: (.r 3, some (.vec true 4 84 2 (v1.Water.flatMap encPt))) :: (.r 5, some (.vec true 6 84 2 (v1.Ice.flatMap encPt))) :: (.r 8, some (.vec true 9 84 2 (x3.2.flatMap encPt))) :: (.r 10, some (.vec true 11 84 2 (x4.flatMap encPt))) :: (.r 12, some (.vec true 13 84 2 (x6.flatMap encPt))) :: sK 7 v1 (.o 1 2 v1.Thrust.length) (.o 3 4 v1.Water.length) (.o 5 6 v1.Ice.length) [kc 14 0 (.i v2.Class), kc 14 1 (.i v2.Power), kc 14 2 (.i v2.Draught), kc 14 3 (.i v2.Tonnes), kc 14 4 (.o 8 9 x3.2.length), kc 14 5 (.o 10 11 x4.length), kc 14 6 (.o 12 13 x6.length), kc 14 7 (.i (v2.Slow / (1 + (dv a1 x3.1 2)))), kc 14 8 (.i (v2.Brash / (1 + (dv a1 ((x3.1 + 1)) 3)))), kc 14 9 (.i (v2.Ridge / (1 + (dv a1 (((x3.1 + 1) + 1)) 3)))), kc 14 10 (.i (v2.Press / (1 + (dv a1 ((((x3.1 + 1) + 1) + 1)) 3)))), kc 20 0 (.i v4.1.Conc), kc 20 1 (.i v4.1.Thick), kc 20 2 (.i v4.1.Ridge), kc 20 3 (.i v4.1.Press)])) ?_ (kp rfl) rfl
     refine fin_then ?_
     refine aw_seq ?_
     refine aw_text (rows := [_, _, _, _, _, _, _, _, _]) rfl (by kernel_rfl) ⟨
      ok_plain rfl rfl (op_loadN (ys := [.i v1.Class, .i v1.Power, .i v1.Draught, .i v1.Tonnes, .o 1 2 v1.Thrust.length, .o 3 4 v1.Water.length, .o 5 6 v1.Ice.length, .i v1.Slow, .i v1.Brash, .i v1.Ridge, .i v1.Press]) (ltN rfl) sh_25 rfl rfl ⟨rfl, rfl, rfl, rfl, rfl, rfl, rfl, rfl, rfl, rfl, rfl, trivial⟩),
      ok_plain rfl rfl (op_loadN (ys := [.i v4.1.Conc, .i v4.1.Thick, .i v4.1.Ridge, .i v4.1.Press]) (ltN rfl) sh_28 rfl rfl ⟨rfl, rfl, rfl, rfl, trivial⟩),
      ok_plain rfl rfl (op_move (ltN rfl) rfl),
      ok_plain rfl rfl (op_call (x := .t [.i ((speedE v1 v4.1 a5).1), .i ((speedE v1 v4.1 a5).2)]) (fs := []) (caps := []) (extra := (kapp [.r 1] (kapp [.r 3] (kapp [.r 5] [])))) (ltN rfl) en_18 rfl ⟨rfl, rfl, rfl⟩ (EvL.cons rfl (EvL.cons rfl (EvL.cons rfl EvL.nil))) (fun mm aa ww gg hr hrel => (c18 v1 ⟨ptr0 (mm 1) (mm 2), v1.Thrust.length, mm 2⟩ ⟨ptr0 (mm 3) (mm 4), v1.Water.length, mm 4⟩ ⟨ptr0 (mm 5) (mm 6), v1.Ice.length, mm 6⟩ v4.1 a5 ww (slAt_row (enc := encPt) (l := v1.Thrust) (fun _ => rfl) (by decide) hrel ((hr _ (List.mem_append_left _ (by simp))).trans rfl)) (slAt_row (enc := encPt) (l := v1.Water) (fun _ => rfl) (by decide) hrel ((hr _ (List.mem_append_right _ (List.mem_append_left _ (by simp)))).trans rfl)) (slAt_row (enc := encPt) (l := v1.Ice) (fun _ => rfl) (by decide) hrel ((hr _ (List.mem_append_right _ (List.mem_append_right _ (List.mem_append_left _ (by simp))))).trans rfl))))),
      ok_plain rfl rfl (op_move (ltN rfl) rfl),
      ok_plain rfl rfl (op_extract (ltN rfl) rfl rfl),
      ok_plain rfl rfl (op_extract (ltN rfl) rfl rfl),
      ok_plain rfl rfl (op_assign (ltN rfl) rfl),
      ok_plain rfl rfl (op_assign (ltN rfl) rfl),
      trivial⟩ ?_
     refine fin_keep (s' := (kt 3 (.v (.slice a3_p a3.length a3_c)) :: kt 4 (.v (.int .u16 a4)) :: kt 5 (.B a5) :: kt 13 (.p 7 0) :: kt 14 (.p 14 0) :: kt 20 (.p 20 0) :: kt 22 (.i ((speedE v1 v4.1 a5).1)) :: kt 23 (.i ((speedE v1 v4.1 a5).2)) :: kb 7 25 11 :: kb 14 25 11 :: kb 20 28 4 :: (.r 1, some (.vec true 2 84 2 (v1.Thrust.flatMap encPt))) :: (.r 3, some (.vec true 4 84 2 (v1.Water.flatMap encPt))) :: (.r 5, some (.vec true 6 84 2 (v1.Ice.flatMap encPt))) :: (.r 8, some (.vec true 9 84 2 (x3.2.flatMap encPt))) :: (.r 10, some (.vec true 11 84 2 (x4.flatMap encPt))) :: (.r 12, some (.vec true 13 84 2 (x6.flatMap encPt))) :: sK 7 v1 (.o 1 2 v1.Thrust.length) (.o 3 4 v1.Water.length) (.o 5 6 v1.Ice.length) [kc 14 0 (.i v2.Class), kc 14 1 (.i v2.Power), kc 14 2 (.i v2.Draught), kc 14 3 (.i v2.Tonnes), kc 14 4 (.o 8 9 x3.2.length), kc 14 5 (.o 10 11 x4.length), kc 14 6 (.o 12 13 x6.length), kc 14 7 (.i (v2.Slow / (1 + (dv a1 x3.1 2)))), kc 14 8 (.i (v2.Brash / (1 + (dv a1 ((x3.1 + 1)) 3)))), kc 14 9 (.i (v2.Ridge / (1 + (dv a1 (((x3.1 + 1) + 1)) 3)))), kc 14 10 (.i (v2.Press / (1 + (dv a1 ((((x3.1 + 1) + 1) + 1)) 3)))), kc 20 0 (.i v4.1.Conc), kc 20 1 (.i v4.1.Thick), kc 20 2 (.i v4.1.Ridge), kc 20 3 (.i v4.1.Press)])) ?_ (kp rfl) rfl
     refine fin_then ?_
     refine aw_seq ?_
     refine aw_text (rows := [_, _, _, _, _, _, _, _, _]) rfl (by kernel_rfl) ⟨
      ok_plain rfl rfl (op_loadN (ys := [.i v2.Class, .i v2.Power, .i v2.Draught, .i v2.Tonnes, .o 8 9 x3.2.length, .o 10 11 x4.length, .o 12 13 x6.length, .i (v2.Slow / (1 + (dv a1 x3.1 2))), .i (v2.Brash / (1 + (dv a1 ((x3.1 + 1)) 3))), .i (v2.Ridge / (1 + (dv a1 (((x3.1 + 1) + 1)) 3))), .i (v2.Press / (1 + (dv a1 ((((x3.1 + 1) + 1) + 1)) 3)))]) (ltN rfl) sh_25 rfl rfl ⟨rfl, rfl, rfl, rfl, rfl, rfl, rfl, rfl, rfl, rfl, rfl, trivial⟩),
      ok_plain rfl rfl (op_loadN (ys := [.i v4.1.Conc, .i v4.1.Thick, .i v4.1.Ridge, .i v4.1.Press]) (ltN rfl) sh_28 rfl rfl ⟨rfl, rfl, rfl, rfl, trivial⟩),
      ok_plain rfl rfl (op_move (ltN rfl) rfl),
      ok_plain rfl rfl (op_call (x := .t [.i ((speedE ((⟨v2.Class, v2.Power, v2.Draught, v2.Tonnes, x3.2, x4, x6, v2.Slow / (1 + (dv a1 x3.1 2)), v2.Brash / (1 + (dv a1 ((x3.1 + 1)) 3)), v2.Ridge / (1 + (dv a1 (((x3.1 + 1) + 1)) 3)), v2.Press / (1 + (dv a1 ((((x3.1 + 1) + 1) + 1)) 3))⟩ : Ship)) v4.1 a5).1), .i ((speedE ((⟨v2.Class, v2.Power, v2.Draught, v2.Tonnes, x3.2, x4, x6, v2.Slow / (1 + (dv a1 x3.1 2)), v2.Brash / (1 + (dv a1 ((x3.1 + 1)) 3)), v2.Ridge / (1 + (dv a1 (((x3.1 + 1) + 1)) 3)), v2.Press / (1 + (dv a1 ((((x3.1 + 1) + 1) + 1)) 3))⟩ : Ship)) v4.1 a5).2)]) (fs := []) (caps := []) (extra := (kapp [.r 8] (kapp [.r 10] (kapp [.r 12] [])))) (ltN rfl) en_18 rfl ⟨rfl, rfl, rfl⟩ (EvL.cons rfl (EvL.cons rfl (EvL.cons rfl EvL.nil))) (fun mm aa ww gg hr hrel => (c18 ((⟨v2.Class, v2.Power, v2.Draught, v2.Tonnes, x3.2, x4, x6, v2.Slow / (1 + (dv a1 x3.1 2)), v2.Brash / (1 + (dv a1 ((x3.1 + 1)) 3)), v2.Ridge / (1 + (dv a1 (((x3.1 + 1) + 1)) 3)), v2.Press / (1 + (dv a1 ((((x3.1 + 1) + 1) + 1)) 3))⟩ : Ship)) ⟨ptr0 (mm 8) (mm 9), x3.2.length, mm 9⟩ ⟨ptr0 (mm 10) (mm 11), x4.length, mm 11⟩ ⟨ptr0 (mm 12) (mm 13), x6.length, mm 13⟩ v4.1 a5 ww (slAt_row (enc := encPt) (l := x3.2) (fun _ => rfl) (by decide) hrel ((hr _ (List.mem_append_left _ (by simp))).trans rfl)) (slAt_row (enc := encPt) (l := x4) (fun _ => rfl) (by decide) hrel ((hr _ (List.mem_append_right _ (List.mem_append_left _ (by simp)))).trans rfl)) (slAt_row (enc := encPt) (l := x6) (fun _ => rfl) (by decide) hrel ((hr _ (List.mem_append_right _ (List.mem_append_right _ (List.mem_append_left _ (by simp))))).trans rfl))))),
      ok_plain rfl rfl (op_move (ltN rfl) rfl),
      ok_plain rfl rfl (op_extract (ltN rfl) rfl rfl),
      ok_plain rfl rfl (op_extract (ltN rfl) rfl rfl),
      ok_plain rfl rfl (op_assign (ltN rfl) rfl),
      ok_plain rfl rfl (op_assign (ltN rfl) rfl),
      trivial⟩ ?_
     refine fin_keep (s' := (kt 3 (.v (.slice a3_p a3.length a3_c)) :: kt 4 (.v (.int .u16 a4)) :: kt 13 (.p 7 0) :: kt 14 (.p 14 0) :: kt 22 (.i ((speedE v1 v4.1 a5).1)) :: kt 23 (.i ((speedE v1 v4.1 a5).2)) :: kt 24 (.i ((speedE ((⟨v2.Class, v2.Power, v2.Draught, v2.Tonnes, x3.2, x4, x6, v2.Slow / (1 + (dv a1 x3.1 2)), v2.Brash / (1 + (dv a1 ((x3.1 + 1)) 3)), v2.Ridge / (1 + (dv a1 (((x3.1 + 1) + 1)) 3)), v2.Press / (1 + (dv a1 ((((x3.1 + 1) + 1) + 1)) 3))⟩ : Ship)) v4.1 a5).1)) :: kt 25 (.i ((speedE ((⟨v2.Class, v2.Power, v2.Draught, v2.Tonnes, x3.2, x4, x6, v2.Slow / (1 + (dv a1 x3.1 2)), v2.Brash / (1 + (dv a1 ((x3.1 + 1)) 3)), v2.Ridge / (1 + (dv a1 (((x3.1 + 1) + 1)) 3)), v2.Press / (1 + (dv a1 ((((x3.1 + 1) + 1) + 1)) 3))⟩ : Ship)) v4.1 a5).2)) :: kb 7 25 11 :: kb 14 25 11 :: (.r 1, some (.vec true 2 84 2 (v1.Thrust.flatMap encPt))) :: (.r 3, some (.vec true 4 84 2 (v1.Water.flatMap encPt))) :: (.r 5, some (.vec true 6 84 2 (v1.Ice.flatMap encPt))) :: (.r 8, some (.vec true 9 84 2 (x3.2.flatMap encPt))) :: (.r 10, some (.vec true 11 84 2 (x4.flatMap encPt))) :: (.r 12, some (.vec true 13 84 2 (x6.flatMap encPt))) :: sK 7 v1 (.o 1 2 v1.Thrust.length) (.o 3 4 v1.Water.length) (.o 5 6 v1.Ice.length) [kc 14 0 (.i v2.Class), kc 14 1 (.i v2.Power), kc 14 2 (.i v2.Draught), kc 14 3 (.i v2.Tonnes), kc 14 4 (.o 8 9 x3.2.length), kc 14 5 (.o 10 11 x4.length), kc 14 6 (.o 12 13 x6.length), kc 14 7 (.i (v2.Slow / (1 + (dv a1 x3.1 2)))), kc 14 8 (.i (v2.Brash / (1 + (dv a1 ((x3.1 + 1)) 3)))), kc 14 9 (.i (v2.Ridge / (1 + (dv a1 (((x3.1 + 1) + 1)) 3)))), kc 14 10 (.i (v2.Press / (1 + (dv a1 ((((x3.1 + 1) + 1) + 1)) 3))))])) ?_ (kp rfl) rfl
     refine fin_then ?_
     refine aw_seq ?_
     obtain ⟨v5, hv5, hm⟩ := bnd_some hm
     refine aw_text (rows := [_, _, _, _, _, _, _, _]) rfl (by kernel_rfl) ⟨
      ok_plain rfl rfl (op_loadN (ys := [.i v2.Class, .i v2.Power, .i v2.Draught, .i v2.Tonnes, .o 8 9 x3.2.length, .o 10 11 x4.length, .o 12 13 x6.length, .i (v2.Slow / (1 + (dv a1 x3.1 2))), .i (v2.Brash / (1 + (dv a1 ((x3.1 + 1)) 3))), .i (v2.Ridge / (1 + (dv a1 (((x3.1 + 1) + 1)) 3))), .i (v2.Press / (1 + (dv a1 ((((x3.1 + 1) + 1) + 1)) 3)))]) (ltN rfl) sh_25 rfl rfl ⟨rfl, rfl, rfl, rfl, rfl, rfl, rfl, rfl, rfl, rfl, rfl, trivial⟩),
      ok_plain rfl rfl (op_loadN (ys := [.i v1.Class, .i v1.Power, .i v1.Draught, .i v1.Tonnes, .o 1 2 v1.Thrust.length, .o 3 4 v1.Water.length, .o 5 6 v1.Ice.length, .i v1.Slow, .i v1.Brash, .i v1.Ridge, .i v1.Press]) (ltN rfl) sh_25 rfl rfl ⟨rfl, rfl, rfl, rfl, rfl, rfl, rfl, rfl, rfl, rfl, rfl, trivial⟩),
      ok_plain rfl rfl (op_call (x := .t [.i v5.1, .i v5.2]) (fs := []) (caps := []) (extra := (kapp [.r 8] (kapp [.r 10] (kapp [.r 12] (kapp [.r 1] (kapp [.r 3] (kapp [.r 5] []))))))) (ltN rfl) en_51 rfl ⟨rfl, rfl, rfl⟩ (EvL.cons rfl (EvL.cons rfl EvL.nil)) (fun mm aa ww gg hr hrel => (c51 F ((⟨v2.Class, v2.Power, v2.Draught, v2.Tonnes, x3.2, x4, x6, v2.Slow / (1 + (dv a1 x3.1 2)), v2.Brash / (1 + (dv a1 ((x3.1 + 1)) 3)), v2.Ridge / (1 + (dv a1 (((x3.1 + 1) + 1)) 3)), v2.Press / (1 + (dv a1 ((((x3.1 + 1) + 1) + 1)) 3))⟩ : Ship)) ⟨ptr0 (mm 8) (mm 9), x3.2.length, mm 9⟩ ⟨ptr0 (mm 10) (mm 11), x4.length, mm 11⟩ ⟨ptr0 (mm 12) (mm 13), x6.length, mm 13⟩ v1 ⟨ptr0 (mm 1) (mm 2), v1.Thrust.length, mm 2⟩ ⟨ptr0 (mm 3) (mm 4), v1.Water.length, mm 4⟩ ⟨ptr0 (mm 5) (mm 6), v1.Ice.length, mm 6⟩ ww (slAt_row (enc := encPt) (l := x3.2) (fun _ => rfl) (by decide) hrel ((hr _ (List.mem_append_left _ (by simp))).trans rfl)) (slAt_row (enc := encPt) (l := x4) (fun _ => rfl) (by decide) hrel ((hr _ (List.mem_append_right _ (List.mem_append_left _ (by simp)))).trans rfl)) (slAt_row (enc := encPt) (l := x6) (fun _ => rfl) (by decide) hrel ((hr _ (List.mem_append_right _ (List.mem_append_right _ (List.mem_append_left _ (by simp))))).trans rfl)) (slAt_row (enc := encPt) (l := v1.Thrust) (fun _ => rfl) (by decide) hrel ((hr _ (List.mem_append_right _ (List.mem_append_right _ (List.mem_append_right _ (List.mem_append_left _ (by simp)))))).trans rfl)) (slAt_row (enc := encPt) (l := v1.Water) (fun _ => rfl) (by decide) hrel ((hr _ (List.mem_append_right _ (List.mem_append_right _ (List.mem_append_right _ (List.mem_append_right _ (List.mem_append_left _ (by simp))))))).trans rfl)) (slAt_row (enc := encPt) (l := v1.Ice) (fun _ => rfl) (by decide) hrel ((hr _ (List.mem_append_right _ (List.mem_append_right _ (List.mem_append_right _ (List.mem_append_right _ (List.mem_append_right _ (List.mem_append_left _ (by simp)))))))).trans rfl)) v5 hv5))),
      ok_plain rfl rfl (op_move (ltN rfl) rfl),
      ok_plain rfl rfl (op_extract (ltN rfl) rfl rfl),
      ok_plain rfl rfl (op_extract (ltN rfl) rfl rfl),
      ok_plain rfl rfl (op_assign (ltN rfl) rfl),
      ok_plain rfl rfl (op_assign (ltN rfl) rfl),
      trivial⟩ ?_
     refine fin_keep (s' := (kt 3 (.v (.slice a3_p a3.length a3_c)) :: kt 4 (.v (.int .u16 a4)) :: kt 13 (.p 7 0) :: kt 22 (.i ((speedE v1 v4.1 a5).1)) :: kt 23 (.i ((speedE v1 v4.1 a5).2)) :: kt 24 (.i ((speedE ((⟨v2.Class, v2.Power, v2.Draught, v2.Tonnes, x3.2, x4, x6, v2.Slow / (1 + (dv a1 x3.1 2)), v2.Brash / (1 + (dv a1 ((x3.1 + 1)) 3)), v2.Ridge / (1 + (dv a1 (((x3.1 + 1) + 1)) 3)), v2.Press / (1 + (dv a1 ((((x3.1 + 1) + 1) + 1)) 3))⟩ : Ship)) v4.1 a5).1)) :: kt 25 (.i ((speedE ((⟨v2.Class, v2.Power, v2.Draught, v2.Tonnes, x3.2, x4, x6, v2.Slow / (1 + (dv a1 x3.1 2)), v2.Brash / (1 + (dv a1 ((x3.1 + 1)) 3)), v2.Ridge / (1 + (dv a1 (((x3.1 + 1) + 1)) 3)), v2.Press / (1 + (dv a1 ((((x3.1 + 1) + 1) + 1)) 3))⟩ : Ship)) v4.1 a5).2)) :: kt 27 (.i v5.2) :: kb 7 25 11 :: (.r 1, some (.vec true 2 84 2 (v1.Thrust.flatMap encPt))) :: (.r 3, some (.vec true 4 84 2 (v1.Water.flatMap encPt))) :: (.r 5, some (.vec true 6 84 2 (v1.Ice.flatMap encPt))) :: sK 7 v1 (.o 1 2 v1.Thrust.length) (.o 3 4 v1.Water.length) (.o 5 6 v1.Ice.length) [])) ?_ (kp rfl) rfl
     refine fin_then ?_
     refine aw_seq ?_
     refine aw_seq ?_
     refine aw_text (rows := [_, _, _, _, _, _, _, _, _, _, _, _, _, _, _]) rfl (by kernel_rfl) ⟨
      ok_plain rfl rfl (op_move (ltN rfl) rfl),
      ok_plain rfl rfl (op_bin (ltN rfl) rfl rfl rfl),
      ok_plain rfl rfl (op_move (ltN rfl) rfl),
      ok_if (ltN rfl) rfl rfl rfl rfl rfl rfl (fun hg38 => op_move (ltN rfl) (force_x rfl)),
      ok_if (ltN rfl) rfl rfl rfl rfl rfl rfl (fun hg39 => op_bin (ltN rfl) (force_eq (beq_iff_eq.2 hg39) rfl) rfl rfl),
      ok_plain rfl rfl (op_or (ltN rfl) rfl rfl),
      ok_plain rfl rfl (op_move (ltN rfl) rfl),
      ok_if (ltN rfl) rfl rfl rfl rfl rfl rfl (fun hg40 => op_move (ltN rfl) (force_x rfl)),
      ok_if (ltN rfl) rfl rfl rfl rfl rfl rfl (fun hg41 => op_move (ltN rfl) (force_x rfl)),
      ok_if (ltN rfl) rfl rfl rfl rfl rfl rfl (fun hg42 => op_bin (ltN rfl) (force_eq (beq_iff_eq.2 hg42) rfl) (force_eq (beq_iff_eq.2 hg42) rfl) rfl),
      ok_plain rfl rfl (op_or (ltN rfl) rfl rfl),
      ok_plain rfl rfl (op_move (ltN rfl) rfl),
      ok_if (ltN rfl) rfl rfl rfl rfl rfl rfl (fun hg43 => op_move (ltN rfl) (force_x rfl)),
      ok_if (ltN rfl) rfl rfl rfl rfl rfl rfl (fun hg44 => op_bin (ltN rfl) (force_eq (beq_iff_eq.2 hg44) rfl) rfl rfl),
      ok_plain rfl rfl (op_or (ltN rfl) rfl rfl),
      trivial⟩ ?_
     refine fin_keep (s' := (kt 3 (.v (.slice a3_p a3.length a3_c)) :: kt 4 (.v (.int .u16 a4)) :: kt 13 (.p 7 0) :: kt 202 (.B ((((((speedE v1 v4.1 a5).2) != 0) || (((speedE ((⟨v2.Class, v2.Power, v2.Draught, v2.Tonnes, x3.2, x4, x6, v2.Slow / (1 + (dv a1 x3.1 2)), v2.Brash / (1 + (dv a1 ((x3.1 + 1)) 3)), v2.Ridge / (1 + (dv a1 (((x3.1 + 1) + 1)) 3)), v2.Press / (1 + (dv a1 ((((x3.1 + 1) + 1) + 1)) 3))⟩ : Ship)) v4.1 a5).2) != 0)) || (decide (((speedE v1 v4.1 a5).1) > ((speedE ((⟨v2.Class, v2.Power, v2.Draught, v2.Tonnes, x3.2, x4, x6, v2.Slow / (1 + (dv a1 x3.1 2)), v2.Brash / (1 + (dv a1 ((x3.1 + 1)) 3)), v2.Ridge / (1 + (dv a1 (((x3.1 + 1) + 1)) 3)), v2.Press / (1 + (dv a1 ((((x3.1 + 1) + 1) + 1)) 3))⟩ : Ship)) v4.1 a5).1)))) || (v5.2 != 4))) :: kb 7 25 11 :: (.r 1, some (.vec true 2 84 2 (v1.Thrust.flatMap encPt))) :: (.r 3, some (.vec true 4 84 2 (v1.Water.flatMap encPt))) :: (.r 5, some (.vec true 6 84 2 (v1.Ice.flatMap encPt))) :: sK 7 v1 (.o 1 2 v1.Thrust.length) (.o 3 4 v1.Water.length) (.o 5 6 v1.Ice.length) [])) ?_ (kp rfl) rfl
     refine fin_then ?_
     refine aw_cond rfl (fun hz45 => ?_) (fun hz45 => ?_)
     ·have hm := brk_t hz45 hm
      refine aw_seq ?_
      refine aw_text (rows := [_]) rfl (by kernel_rfl) ⟨
       ok_plain rfl rfl (op_assign (ltN rfl) rfl),
       trivial⟩ ?_
      refine fin_keep (s' := [kt 12 (.B false)]) ?_ (kp rfl) rfl
      refine fin_then ?_
      refine aw_ret ?_
      refine fin_then_ret ?_
      refine post_ret (x := .B false) rfl rfl (resOK_tmp rfl resOK_nil) rfl (fun mm aa ww hr => ?_)
      have hm := Option.some.inj hm
      subst hm
      exact ⟨rfl, hr.below⟩
     ·have hm := brk_f hz45 hm
      refine aw_skip ?_
      refine fin_then ?_
      refine aw_seq ?_
      obtain ⟨v6, hv6, hm⟩ := bnd_some hm
      refine aw_text (rows := [_, _, _, _]) rfl (by kernel_rfl) ⟨
       ok_plain rfl rfl (op_move (ltN rfl) rfl),
       ok_plain rfl rfl (op_callRowsD (x := .g [.i v6.Class, .i v6.Power, .i v6.Draught, .i v6.Tonnes, .o 22 23 v6.Thrust.length, .o 24 25 v6.Water.length, .o 26 27 v6.Ice.length, .i v6.Slow, .i v6.Brash, .i v6.Ridge, .i v6.Press]) (R := (fun vs => .agg #[.int .i64 v6.Class, .int .i64 v6.Power, .int .i64 v6.Draught, .int .i64 v6.Tonnes, (vs.getD 0 (.bool false)), (vs.getD 1 (.bool false)), (vs.getD 2 (.bool false)), .int .i64 v6.Slow, .int .i64 v6.Brash, .int .i64 v6.Ridge, .int .i64 v6.Press])) (ls := [(22, 23), (24, 25), (26, 27)]) (ds := [(v6.Thrust.length, 84, 2, v6.Thrust.flatMap encPt), (v6.Water.length, 84, 2, v6.Water.flatMap encPt), (v6.Ice.length, 84, 2, v6.Ice.flatMap encPt)]) (fs := []) (caps := []) (extra := []) (ltN rfl) en_15 rfl ⟨rfl, rfl, rfl⟩ (EvL.cons rfl EvL.nil) rfl rfl (fun _ => rfl) (fun mm aa ww gg hr hrel => (c15 F a3 ⟨a3_p, a3.length, a3_c⟩ ww (SlIs.mono ha3 hrel.below) h8a3 hlena3 v6 hv6))),
       ok_plain rfl rfl (op_alloc (L := 28) (ltN rfl) zl_25),
       ok_plain rfl rfl (op_storeN sz_25 rfl rfl rfl rfl rfl (by decide)),
       trivial⟩ ?_
      refine fin_keep (s' := (kt 4 (.v (.int .u16 a4)) :: kt 13 (.p 7 0) :: kt 28 (.p 28 0) :: kb 7 25 11 :: kb 28 25 11 :: (.r 1, some (.vec true 2 84 2 (v1.Thrust.flatMap encPt))) :: (.r 3, some (.vec true 4 84 2 (v1.Water.flatMap encPt))) :: (.r 5, some (.vec true 6 84 2 (v1.Ice.flatMap encPt))) :: (.r 22, some (.vec true 23 84 2 (v6.Thrust.flatMap encPt))) :: (.r 24, some (.vec true 25 84 2 (v6.Water.flatMap encPt))) :: (.r 26, some (.vec true 27 84 2 (v6.Ice.flatMap encPt))) :: sK 7 v1 (.o 1 2 v1.Thrust.length) (.o 3 4 v1.Water.length) (.o 5 6 v1.Ice.length) (sK 28 v6 (.o 22 23 v6.Thrust.length) (.o 24 25 v6.Water.length) (.o 26 27 v6.Ice.length) []))) ?_ (kp rfl) rfl
      refine fin_then ?_
      refine aw_seq ?_
      obtain ⟨v7, hv7, hm⟩ := bnd_some hm
      refine aw_text (rows := [_, _, _, _, _, _, _, _]) rfl (by kernel_rfl) ⟨
       ok_plain rfl rfl (op_loadN (ys := [.i v1.Class, .i v1.Power, .i v1.Draught, .i v1.Tonnes, .o 1 2 v1.Thrust.length, .o 3 4 v1.Water.length, .o 5 6 v1.Ice.length, .i v1.Slow, .i v1.Brash, .i v1.Ridge, .i v1.Press]) (ltN rfl) sh_25 rfl rfl ⟨rfl, rfl, rfl, rfl, rfl, rfl, rfl, rfl, rfl, rfl, rfl, trivial⟩),
       ok_plain rfl rfl (op_loadN (ys := [.i v6.Class, .i v6.Power, .i v6.Draught, .i v6.Tonnes, .o 22 23 v6.Thrust.length, .o 24 25 v6.Water.length, .o 26 27 v6.Ice.length, .i v6.Slow, .i v6.Brash, .i v6.Ridge, .i v6.Press]) (ltN rfl) sh_25 rfl rfl ⟨rfl, rfl, rfl, rfl, rfl, rfl, rfl, rfl, rfl, rfl, rfl, trivial⟩),
       ok_plain rfl rfl (op_call (x := .t [.i v7.1, .i v7.2]) (fs := []) (caps := []) (extra := (kapp [.r 1] (kapp [.r 3] (kapp [.r 5] (kapp [.r 22] (kapp [.r 24] (kapp [.r 26] []))))))) (ltN rfl) en_51 rfl ⟨rfl, rfl, rfl⟩ (EvL.cons rfl (EvL.cons rfl EvL.nil)) (fun mm aa ww gg hr hrel => (c51 F v1 ⟨ptr0 (mm 1) (mm 2), v1.Thrust.length, mm 2⟩ ⟨ptr0 (mm 3) (mm 4), v1.Water.length, mm 4⟩ ⟨ptr0 (mm 5) (mm 6), v1.Ice.length, mm 6⟩ v6 ⟨ptr0 (mm 22) (mm 23), v6.Thrust.length, mm 23⟩ ⟨ptr0 (mm 24) (mm 25), v6.Water.length, mm 25⟩ ⟨ptr0 (mm 26) (mm 27), v6.Ice.length, mm 27⟩ ww (slAt_row (enc := encPt) (l := v1.Thrust) (fun _ => rfl) (by decide) hrel ((hr _ (List.mem_append_left _ (by simp))).trans rfl)) (slAt_row (enc := encPt) (l := v1.Water) (fun _ => rfl) (by decide) hrel ((hr _ (List.mem_append_right _ (List.mem_append_left _ (by simp)))).trans rfl)) (slAt_row (enc := encPt) (l := v1.Ice) (fun _ => rfl) (by decide) hrel ((hr _ (List.mem_append_right _ (List.mem_append_right _ (List.mem_append_left _ (by simp))))).trans rfl)) (slAt_row (enc := encPt) (l := v6.Thrust) (fun _ => rfl) (by decide) hrel ((hr _ (List.mem_append_right _ (List.mem_append_right _ (List.mem_append_right _ (List.mem_append_left _ (by simp)))))).trans rfl)) (slAt_row (enc := encPt) (l := v6.Water) (fun _ => rfl) (by decide) hrel ((hr _ (List.mem_append_right _ (List.mem_append_right _ (List.mem_append_right _ (List.mem_append_right _ (List.mem_append_left _ (by simp))))))).trans rfl)) (slAt_row (enc := encPt) (l := v6.Ice) (fun _ => rfl) (by decide) hrel ((hr _ (List.mem_append_right _ (List.mem_append_right _ (List.mem_append_right _ (List.mem_append_right _ (List.mem_append_right _ (List.mem_append_left _ (by simp)))))))).trans rfl)) v7 hv7))),
       ok_plain rfl rfl (op_move (ltN rfl) rfl),
       ok_plain rfl rfl (op_extract (ltN rfl) rfl rfl),
       ok_plain rfl rfl (op_extract (ltN rfl) rfl rfl),
       ok_plain rfl rfl (op_assign (ltN rfl) rfl),
       ok_plain rfl rfl (op_assign (ltN rfl) rfl),
       trivial⟩ ?_
      refine fin_keep (s' := (kt 4 (.v (.int .u16 a4)) :: kt 13 (.p 7 0) :: kt 23 (.i v7.2) :: kt 28 (.p 28 0) :: kt 29 (.i v7.1) :: kb 7 25 11 :: kb 28 25 11 :: (.r 1, some (.vec true 2 84 2 (v1.Thrust.flatMap encPt))) :: (.r 3, some (.vec true 4 84 2 (v1.Water.flatMap encPt))) :: (.r 5, some (.vec true 6 84 2 (v1.Ice.flatMap encPt))) :: (.r 22, some (.vec true 23 84 2 (v6.Thrust.flatMap encPt))) :: (.r 24, some (.vec true 25 84 2 (v6.Water.flatMap encPt))) :: (.r 26, some (.vec true 27 84 2 (v6.Ice.flatMap encPt))) :: sK 7 v1 (.o 1 2 v1.Thrust.length) (.o 3 4 v1.Water.length) (.o 5 6 v1.Ice.length) (sK 28 v6 (.o 22 23 v6.Thrust.length) (.o 24 25 v6.Water.length) (.o 26 27 v6.Ice.length) []))) ?_ (kp rfl) rfl
      refine fin_then ?_
      refine aw_seq ?_
      refine aw_seq ?_
      refine aw_text (rows := [_, _, _, _, _, _]) rfl (by kernel_rfl) ⟨
       ok_plain rfl rfl (op_move (ltN rfl) rfl),
       ok_plain rfl rfl (op_bin (ltN rfl) rfl rfl rfl),
       ok_plain rfl rfl (op_move (ltN rfl) rfl),
       ok_if (ltN rfl) rfl rfl rfl rfl rfl rfl (fun hg46 => op_move (ltN rfl) (force_x rfl)),
       ok_if (ltN rfl) rfl rfl rfl rfl rfl rfl (fun hg47 => op_bin (ltN rfl) (force_eq (beq_iff_eq.2 hg47) rfl) rfl rfl),
       ok_plain rfl rfl (op_and (ltN rfl) rfl rfl),
       trivial⟩ ?_
      refine fin_keep (s' := (kt 4 (.v (.int .u16 a4)) :: kt 13 (.p 7 0) :: kt 23 (.i v7.2) :: kt 28 (.p 28 0) :: kt 29 (.i v7.1) :: kt 216 (.B ((v7.2 != 0) && (v7.2 != 4))) :: kb 7 25 11 :: kb 28 25 11 :: (.r 1, some (.vec true 2 84 2 (v1.Thrust.flatMap encPt))) :: (.r 3, some (.vec true 4 84 2 (v1.Water.flatMap encPt))) :: (.r 5, some (.vec true 6 84 2 (v1.Ice.flatMap encPt))) :: (.r 22, some (.vec true 23 84 2 (v6.Thrust.flatMap encPt))) :: (.r 24, some (.vec true 25 84 2 (v6.Water.flatMap encPt))) :: (.r 26, some (.vec true 27 84 2 (v6.Ice.flatMap encPt))) :: sK 7 v1 (.o 1 2 v1.Thrust.length) (.o 3 4 v1.Water.length) (.o 5 6 v1.Ice.length) (sK 28 v6 (.o 22 23 v6.Thrust.length) (.o 24 25 v6.Water.length) (.o 26 27 v6.Ice.length) []))) ?_ (kp rfl) rfl
      refine fin_then ?_
      refine aw_cond rfl (fun hz48 => ?_) (fun hz48 => ?_)
      ·have hm := brk_t hz48 hm
       refine aw_seq ?_
       refine aw_text (rows := [_]) rfl (by kernel_rfl) ⟨
        ok_plain rfl rfl (op_assign (ltN rfl) rfl),
        trivial⟩ ?_
       refine fin_keep (s' := [kt 12 (.B false)]) ?_ (kp rfl) rfl
       refine fin_then ?_
       refine aw_ret ?_
       refine fin_then_ret ?_
       refine post_ret (x := .B false) rfl rfl (resOK_tmp rfl resOK_nil) rfl (fun mm aa ww hr => ?_)
       have hm := Option.some.inj hm
       subst hm
       exact ⟨rfl, hr.below⟩
      ·have hm := brk_f hz48 hm
       refine aw_skip ?_
       refine fin_then ?_
       refine aw_seq ?_
       obtain ⟨hp49, hm⟩ := chk_some hm
       obtain ⟨hp50, hm⟩ := chk_some hm
       refine aw_text (rows := [_, _, _, _]) rfl (by kernel_rfl) ⟨
        ok_plain rfl rfl (op_move (ltN rfl) rfl),
        ok_plain rfl rfl (op_convInt (ltN rfl) (Option.isSome_iff_exists.1 us_77) un_3 rfl (wrap_of hp49)),
        ok_plain rfl rfl (op_rem (ltN rfl) rfl rfl (by decide) (rem_nn hp50.1 (by decide) hp50.2)),
        ok_plain rfl rfl (op_assign (ltN rfl) rfl),
        trivial⟩ ?_
       refine fin_keep (s' := (kt 13 (.p 7 0) :: kt 23 (.i v7.2) :: kt 28 (.p 28 0) :: kt 29 (.i v7.1) :: kt 30 (.i (a4 % 401)) :: kb 7 25 11 :: kb 28 25 11 :: (.r 1, some (.vec true 2 84 2 (v1.Thrust.flatMap encPt))) :: (.r 3, some (.vec true 4 84 2 (v1.Water.flatMap encPt))) :: (.r 5, some (.vec true 6 84 2 (v1.Ice.flatMap encPt))) :: (.r 22, some (.vec true 23 84 2 (v6.Thrust.flatMap encPt))) :: (.r 24, some (.vec true 25 84 2 (v6.Water.flatMap encPt))) :: (.r 26, some (.vec true 27 84 2 (v6.Ice.flatMap encPt))) :: sK 7 v1 (.o 1 2 v1.Thrust.length) (.o 3 4 v1.Water.length) (.o 5 6 v1.Ice.length) (sK 28 v6 (.o 22 23 v6.Thrust.length) (.o 24 25 v6.Water.length) (.o 26 27 v6.Ice.length) []))) ?_ (kp rfl) rfl
       refine fin_then ?_
       refine aw_seq ?_
       refine aw_text (rows := [_, _, _, _, _, _, _, _, _]) rfl (by kernel_rfl) ⟨
        ok_plain rfl rfl (op_loadN (ys := [.i v1.Class, .i v1.Power, .i v1.Draught, .i v1.Tonnes, .o 1 2 v1.Thrust.length, .o 3 4 v1.Water.length, .o 5 6 v1.Ice.length, .i v1.Slow, .i v1.Brash, .i v1.Ridge, .i v1.Press]) (ltN rfl) sh_25 rfl rfl ⟨rfl, rfl, rfl, rfl, rfl, rfl, rfl, rfl, rfl, rfl, rfl, trivial⟩),
        ok_plain rfl rfl (op_move (ltN rfl) rfl),
        ok_plain rfl rfl (op_build (x := .g [.i 100, .i (a4 % 401), .i 0, .i 0]) (ltN rfl) (EvL.cons rfl (EvL.cons rfl EvL.nil)) (fun m w => by kernel_rfl)),
        ok_plain rfl rfl (op_call (x := .t [.i ((speedE v1 ((⟨100, a4 % 401, 0, 0⟩ : Ice)) false).1), .i ((speedE v1 ((⟨100, a4 % 401, 0, 0⟩ : Ice)) false).2)]) (fs := []) (caps := []) (extra := (kapp [.r 1] (kapp [.r 3] (kapp [.r 5] [])))) (ltN rfl) en_18 rfl ⟨rfl, rfl, rfl⟩ (EvL.cons rfl (EvL.cons rfl (EvL.cons rfl EvL.nil))) (fun mm aa ww gg hr hrel => (c18 v1 ⟨ptr0 (mm 1) (mm 2), v1.Thrust.length, mm 2⟩ ⟨ptr0 (mm 3) (mm 4), v1.Water.length, mm 4⟩ ⟨ptr0 (mm 5) (mm 6), v1.Ice.length, mm 6⟩ ((⟨100, a4 % 401, 0, 0⟩ : Ice)) false ww (slAt_row (enc := encPt) (l := v1.Thrust) (fun _ => rfl) (by decide) hrel ((hr _ (List.mem_append_left _ (by simp))).trans rfl)) (slAt_row (enc := encPt) (l := v1.Water) (fun _ => rfl) (by decide) hrel ((hr _ (List.mem_append_right _ (List.mem_append_left _ (by simp)))).trans rfl)) (slAt_row (enc := encPt) (l := v1.Ice) (fun _ => rfl) (by decide) hrel ((hr _ (List.mem_append_right _ (List.mem_append_right _ (List.mem_append_left _ (by simp))))).trans rfl))))),
        ok_plain rfl rfl (op_move (ltN rfl) rfl),
        ok_plain rfl rfl (op_extract (ltN rfl) rfl rfl),
        ok_plain rfl rfl (op_extract (ltN rfl) rfl rfl),
        ok_plain rfl rfl (op_assign (ltN rfl) rfl),
        ok_plain rfl rfl (op_assign (ltN rfl) rfl),
        trivial⟩ ?_
       refine fin_keep (s' := (kt 13 (.p 7 0) :: kt 22 (.i ((speedE v1 ((⟨100, a4 % 401, 0, 0⟩ : Ice)) false).1)) :: kt 23 (.i v7.2) :: kt 25 (.i ((speedE v1 ((⟨100, a4 % 401, 0, 0⟩ : Ice)) false).2)) :: kt 28 (.p 28 0) :: kt 29 (.i v7.1) :: kt 30 (.i (a4 % 401)) :: kb 7 25 11 :: kb 28 25 11 :: (.r 1, some (.vec true 2 84 2 (v1.Thrust.flatMap encPt))) :: (.r 3, some (.vec true 4 84 2 (v1.Water.flatMap encPt))) :: (.r 5, some (.vec true 6 84 2 (v1.Ice.flatMap encPt))) :: (.r 22, some (.vec true 23 84 2 (v6.Thrust.flatMap encPt))) :: (.r 24, some (.vec true 25 84 2 (v6.Water.flatMap encPt))) :: (.r 26, some (.vec true 27 84 2 (v6.Ice.flatMap encPt))) :: sK 7 v1 (.o 1 2 v1.Thrust.length) (.o 3 4 v1.Water.length) (.o 5 6 v1.Ice.length) (sK 28 v6 (.o 22 23 v6.Thrust.length) (.o 24 25 v6.Water.length) (.o 26 27 v6.Ice.length) []))) ?_ (kp rfl) rfl
       refine fin_then ?_
       refine aw_seq ?_
       refine aw_text (rows := [_, _, _, _, _, _, _, _, _]) rfl (by kernel_rfl) ⟨
        ok_plain rfl rfl (op_loadN (ys := [.i v6.Class, .i v6.Power, .i v6.Draught, .i v6.Tonnes, .o 22 23 v6.Thrust.length, .o 24 25 v6.Water.length, .o 26 27 v6.Ice.length, .i v6.Slow, .i v6.Brash, .i v6.Ridge, .i v6.Press]) (ltN rfl) sh_25 rfl rfl ⟨rfl, rfl, rfl, rfl, rfl, rfl, rfl, rfl, rfl, rfl, rfl, trivial⟩),
        ok_plain rfl rfl (op_move (ltN rfl) rfl),
        ok_plain rfl rfl (op_build (x := .g [.i 100, .i (a4 % 401), .i 0, .i 0]) (ltN rfl) (EvL.cons rfl (EvL.cons rfl EvL.nil)) (fun m w => by kernel_rfl)),
        ok_plain rfl rfl (op_call (x := .t [.i ((speedE v6 ((⟨100, a4 % 401, 0, 0⟩ : Ice)) false).1), .i ((speedE v6 ((⟨100, a4 % 401, 0, 0⟩ : Ice)) false).2)]) (fs := []) (caps := []) (extra := (kapp [.r 22] (kapp [.r 24] (kapp [.r 26] [])))) (ltN rfl) en_18 rfl ⟨rfl, rfl, rfl⟩ (EvL.cons rfl (EvL.cons rfl (EvL.cons rfl EvL.nil))) (fun mm aa ww gg hr hrel => (c18 v6 ⟨ptr0 (mm 22) (mm 23), v6.Thrust.length, mm 23⟩ ⟨ptr0 (mm 24) (mm 25), v6.Water.length, mm 25⟩ ⟨ptr0 (mm 26) (mm 27), v6.Ice.length, mm 27⟩ ((⟨100, a4 % 401, 0, 0⟩ : Ice)) false ww (slAt_row (enc := encPt) (l := v6.Thrust) (fun _ => rfl) (by decide) hrel ((hr _ (List.mem_append_left _ (by simp))).trans rfl)) (slAt_row (enc := encPt) (l := v6.Water) (fun _ => rfl) (by decide) hrel ((hr _ (List.mem_append_right _ (List.mem_append_left _ (by simp)))).trans rfl)) (slAt_row (enc := encPt) (l := v6.Ice) (fun _ => rfl) (by decide) hrel ((hr _ (List.mem_append_right _ (List.mem_append_right _ (List.mem_append_left _ (by simp))))).trans rfl))))),
        ok_plain rfl rfl (op_move (ltN rfl) rfl),
        ok_plain rfl rfl (op_extract (ltN rfl) rfl rfl),
        ok_plain rfl rfl (op_extract (ltN rfl) rfl rfl),
        ok_plain rfl rfl (op_assign (ltN rfl) rfl),
        ok_plain rfl rfl (op_assign (ltN rfl) rfl),
        trivial⟩ ?_
       refine fin_keep (s' := (kt 13 (.p 7 0) :: kt 22 (.i ((speedE v1 ((⟨100, a4 % 401, 0, 0⟩ : Ice)) false).1)) :: kt 23 (.i v7.2) :: kt 24 (.i ((speedE v6 ((⟨100, a4 % 401, 0, 0⟩ : Ice)) false).1)) :: kt 25 (.i ((speedE v1 ((⟨100, a4 % 401, 0, 0⟩ : Ice)) false).2)) :: kt 27 (.i ((speedE v6 ((⟨100, a4 % 401, 0, 0⟩ : Ice)) false).2)) :: kt 28 (.p 28 0) :: kt 29 (.i v7.1) :: kt 30 (.i (a4 % 401)) :: kb 7 25 11 :: kb 28 25 11 :: (.r 1, some (.vec true 2 84 2 (v1.Thrust.flatMap encPt))) :: (.r 3, some (.vec true 4 84 2 (v1.Water.flatMap encPt))) :: (.r 5, some (.vec true 6 84 2 (v1.Ice.flatMap encPt))) :: (.r 22, some (.vec true 23 84 2 (v6.Thrust.flatMap encPt))) :: (.r 24, some (.vec true 25 84 2 (v6.Water.flatMap encPt))) :: (.r 26, some (.vec true 27 84 2 (v6.Ice.flatMap encPt))) :: sK 7 v1 (.o 1 2 v1.Thrust.length) (.o 3 4 v1.Water.length) (.o 5 6 v1.Ice.length) (sK 28 v6 (.o 22 23 v6.Thrust.length) (.o 24 25 v6.Water.length) (.o 26 27 v6.Ice.length) []))) ?_ (kp rfl) rfl
       refine fin_then ?_
       refine aw_seq ?_
       refine aw_seq ?_
       refine aw_text (rows := [_, _, _, _, _, _, _, _, _, _, _, _, _, _, _, _, _, _, _, _]) rfl (by kernel_rfl) ⟨
        ok_plain rfl rfl (op_move (ltN rfl) rfl),
        ok_plain rfl rfl (op_bin (ltN rfl) rfl rfl rfl),
        ok_plain rfl rfl (op_move (ltN rfl) rfl),
        ok_if (ltN rfl) rfl rfl rfl rfl rfl rfl (fun hg51 => op_move (ltN rfl) (force_x rfl)),
        ok_if (ltN rfl) rfl rfl rfl rfl rfl rfl (fun hg52 => op_bin (ltN rfl) (force_eq (beq_iff_eq.2 hg52) rfl) rfl rfl),
        ok_plain rfl rfl (op_or (ltN rfl) rfl rfl),
        ok_plain rfl rfl (op_move (ltN rfl) rfl),
        ok_if (ltN rfl) rfl rfl rfl rfl rfl rfl (fun hg53 => op_move (ltN rfl) (force_x rfl)),
        ok_if (ltN rfl) rfl rfl rfl rfl rfl rfl (fun hg54 => op_move (ltN rfl) (force_x rfl)),
        ok_if (ltN rfl) rfl rfl rfl rfl rfl rfl (fun hg55 => op_bin (ltN rfl) (force_eq (beq_iff_eq.2 hg55) rfl) (force_eq (beq_iff_eq.2 hg55) rfl) rfl),
        ok_if (ltN rfl) rfl rfl rfl rfl rfl rfl (fun hg56 => op_move (ltN rfl) (force_eq (beq_iff_eq.2 hg56) rfl)),
        ok_ifC (ltN rfl) rfl rfl rfl rfl rfl rfl (fun hg57 => op_move (ltN rfl) (force_x rfl)),
        ok_ifC (ltN rfl) rfl rfl rfl rfl rfl rfl (fun hg58 => op_bin (ltN rfl) (force_eq hg58 rfl) rfl rfl),
        ok_ifC (ltN rfl) rfl rfl rfl rfl rfl rfl (fun hg59 => op_move (ltN rfl) (force_eq hg59 rfl)),
        ok_ifC (ltN rfl) rfl rfl rfl rfl rfl rfl (fun hg60 => op_move (ltN rfl) (force_x rfl)),
        ok_ifC (ltN rfl) rfl rfl rfl rfl rfl rfl (fun hg61 => op_move (ltN rfl) (force_x rfl)),
        ok_ifC (ltN rfl) rfl rfl rfl rfl rfl rfl (fun hg62 => op_bin (ltN rfl) (force_eq hg62 rfl) (force_eq hg62 rfl) rfl),
        ok_ifC (ltN rfl) rfl rfl rfl rfl rfl rfl (fun hg63 => op_orF (ltN rfl) hg63 rfl rfl),
        ok_if (ltN rfl) rfl rfl rfl rfl rfl rfl (fun hg64 => op_andF (ltN rfl) (beq_iff_eq.2 hg64) rfl rfl),
        ok_plain rfl rfl (op_or (ltN rfl) rfl rfl),
        trivial⟩ ?_
       refine fin_keep (s' := (kt 13 (.p 7 0) :: kt 23 (.i v7.2) :: kt 28 (.p 28 0) :: kt 29 (.i v7.1) :: kt 253 (.B (((((speedE v1 ((⟨100, a4 % 401, 0, 0⟩ : Ice)) false).2) != 0) || (((speedE v6 ((⟨100, a4 % 401, 0, 0⟩ : Ice)) false).2) != 0)) || ((decide (((speedE v1 ((⟨100, a4 % 401, 0, 0⟩ : Ice)) false).1) < ((speedE v6 ((⟨100, a4 % 401, 0, 0⟩ : Ice)) false).1))) && ((v7.2 != 0) || (decide ((a4 % 401) < v7.1)))))) :: kb 7 25 11 :: kb 28 25 11 :: (.r 1, some (.vec true 2 84 2 (v1.Thrust.flatMap encPt))) :: (.r 3, some (.vec true 4 84 2 (v1.Water.flatMap encPt))) :: (.r 5, some (.vec true 6 84 2 (v1.Ice.flatMap encPt))) :: (.r 22, some (.vec true 23 84 2 (v6.Thrust.flatMap encPt))) :: (.r 24, some (.vec true 25 84 2 (v6.Water.flatMap encPt))) :: (.r 26, some (.vec true 27 84 2 (v6.Ice.flatMap encPt))) :: sK 7 v1 (.o 1 2 v1.Thrust.length) (.o 3 4 v1.Water.length) (.o 5 6 v1.Ice.length) (sK 28 v6 (.o 22 23 v6.Thrust.length) (.o 24 25 v6.Water.length) (.o 26 27 v6.Ice.length) []))) ?_ (kp rfl) rfl
       refine fin_then ?_
       refine aw_cond rfl (fun hz65 => ?_) (fun hz65 => ?_)
       ·have hm := brk_t hz65 hm
        refine aw_seq ?_
        refine aw_text (rows := [_]) rfl (by kernel_rfl) ⟨
         ok_plain rfl rfl (op_assign (ltN rfl) rfl),
         trivial⟩ ?_
        refine fin_keep (s' := [kt 12 (.B false)]) ?_ (kp rfl) rfl
        refine fin_then ?_
        refine aw_ret ?_
        refine fin_then_ret ?_
        refine post_ret (x := .B false) rfl rfl (resOK_tmp rfl resOK_nil) rfl (fun mm aa ww hr => ?_)
        have hm := Option.some.inj hm
        subst hm
        exact ⟨rfl, hr.below⟩
       ·have hm := brk_f hz65 hm
        refine aw_skip ?_
        refine fin_then ?_
        refine aw_cutM (ι := Unit) hm (fun x8 => []) (fun hm => ?_) (fun x8 hm => ?_)
        ·have _z := hm
         refine aw_seq ?_
         refine aw_text (rows := [_, _]) rfl (by kernel_rfl) ⟨
          ok_plain rfl rfl (op_move (ltN rfl) rfl),
          ok_plain rfl rfl (op_bin (ltN rfl) rfl rfl rfl),
          trivial⟩ ?_
         refine fin_keep (s' := (kt 13 (.p 7 0) :: kt 28 (.p 28 0) :: kt 29 (.i v7.1) :: kt 255 (.B (v7.2 == 0)) :: kb 7 25 11 :: kb 28 25 11 :: (.r 1, some (.vec true 2 84 2 (v1.Thrust.flatMap encPt))) :: (.r 3, some (.vec true 4 84 2 (v1.Water.flatMap encPt))) :: (.r 5, some (.vec true 6 84 2 (v1.Ice.flatMap encPt))) :: (.r 22, some (.vec true 23 84 2 (v6.Thrust.flatMap encPt))) :: (.r 24, some (.vec true 25 84 2 (v6.Water.flatMap encPt))) :: (.r 26, some (.vec true 27 84 2 (v6.Ice.flatMap encPt))) :: sK 7 v1 (.o 1 2 v1.Thrust.length) (.o 3 4 v1.Water.length) (.o 5 6 v1.Ice.length) (sK 28 v6 (.o 22 23 v6.Thrust.length) (.o 24 25 v6.Water.length) (.o 26 27 v6.Ice.length) []))) ?_ (kp rfl) rfl
         refine fin_then ?_
         refine aw_cond rfl (fun hz66 => ?_) (fun hz66 => ?_)
         ·have hm := brk_t hz66 hm
          refine aw_seq ?_
          refine aw_text (rows := [_, _, _, _, _, _, _, _, _]) rfl (by kernel_rfl) ⟨
           ok_plain rfl rfl (op_loadN (ys := [.i v1.Class, .i v1.Power, .i v1.Draught, .i v1.Tonnes, .o 1 2 v1.Thrust.length, .o 3 4 v1.Water.length, .o 5 6 v1.Ice.length, .i v1.Slow, .i v1.Brash, .i v1.Ridge, .i v1.Press]) (ltN rfl) sh_25 rfl rfl ⟨rfl, rfl, rfl, rfl, rfl, rfl, rfl, rfl, rfl, rfl, rfl, trivial⟩),
           ok_plain rfl rfl (op_move (ltN rfl) rfl),
           ok_plain rfl rfl (op_build (x := .g [.i 100, .i v7.1, .i 0, .i 0]) (ltN rfl) (EvL.cons rfl (EvL.cons rfl EvL.nil)) (fun m w => by kernel_rfl)),
           ok_plain rfl rfl (op_call (x := .t [.i ((speedE v1 ((⟨100, v7.1, 0, 0⟩ : Ice)) false).1), .i ((speedE v1 ((⟨100, v7.1, 0, 0⟩ : Ice)) false).2)]) (fs := []) (caps := []) (extra := (kapp [.r 1] (kapp [.r 3] (kapp [.r 5] [])))) (ltN rfl) en_18 rfl ⟨rfl, rfl, rfl⟩ (EvL.cons rfl (EvL.cons rfl (EvL.cons rfl EvL.nil))) (fun mm aa ww gg hr hrel => (c18 v1 ⟨ptr0 (mm 1) (mm 2), v1.Thrust.length, mm 2⟩ ⟨ptr0 (mm 3) (mm 4), v1.Water.length, mm 4⟩ ⟨ptr0 (mm 5) (mm 6), v1.Ice.length, mm 6⟩ ((⟨100, v7.1, 0, 0⟩ : Ice)) false ww (slAt_row (enc := encPt) (l := v1.Thrust) (fun _ => rfl) (by decide) hrel ((hr _ (List.mem_append_left _ (by simp))).trans rfl)) (slAt_row (enc := encPt) (l := v1.Water) (fun _ => rfl) (by decide) hrel ((hr _ (List.mem_append_right _ (List.mem_append_left _ (by simp)))).trans rfl)) (slAt_row (enc := encPt) (l := v1.Ice) (fun _ => rfl) (by decide) hrel ((hr _ (List.mem_append_right _ (List.mem_append_right _ (List.mem_append_left _ (by simp))))).trans rfl))))),
           ok_plain rfl rfl (op_move (ltN rfl) rfl),
           ok_plain rfl rfl (op_extract (ltN rfl) rfl rfl),
           ok_plain rfl rfl (op_extract (ltN rfl) rfl rfl),
           ok_plain rfl rfl (op_assign (ltN rfl) rfl),
           ok_plain rfl rfl (op_assign (ltN rfl) rfl),
           trivial⟩ ?_
          refine fin_keep (s' := (kt 22 (.i ((speedE v1 ((⟨100, v7.1, 0, 0⟩ : Ice)) false).1)) :: kt 25 (.i ((speedE v1 ((⟨100, v7.1, 0, 0⟩ : Ice)) false).2)) :: kt 28 (.p 28 0) :: kt 29 (.i v7.1) :: kb 28 25 11 :: (.r 22, some (.vec true 23 84 2 (v6.Thrust.flatMap encPt))) :: (.r 24, some (.vec true 25 84 2 (v6.Water.flatMap encPt))) :: (.r 26, some (.vec true 27 84 2 (v6.Ice.flatMap encPt))) :: sK 28 v6 (.o 22 23 v6.Thrust.length) (.o 24 25 v6.Water.length) (.o 26 27 v6.Ice.length) [])) ?_ (kp rfl) rfl
          refine fin_then ?_
          refine aw_seq ?_
          refine aw_text (rows := [_, _, _, _, _, _, _, _, _]) rfl (by kernel_rfl) ⟨
           ok_plain rfl rfl (op_loadN (ys := [.i v6.Class, .i v6.Power, .i v6.Draught, .i v6.Tonnes, .o 22 23 v6.Thrust.length, .o 24 25 v6.Water.length, .o 26 27 v6.Ice.length, .i v6.Slow, .i v6.Brash, .i v6.Ridge, .i v6.Press]) (ltN rfl) sh_25 rfl rfl ⟨rfl, rfl, rfl, rfl, rfl, rfl, rfl, rfl, rfl, rfl, rfl, trivial⟩),
           ok_plain rfl rfl (op_move (ltN rfl) rfl),
           ok_plain rfl rfl (op_build (x := .g [.i 100, .i v7.1, .i 0, .i 0]) (ltN rfl) (EvL.cons rfl (EvL.cons rfl EvL.nil)) (fun m w => by kernel_rfl)),
           ok_plain rfl rfl (op_call (x := .t [.i ((speedE v6 ((⟨100, v7.1, 0, 0⟩ : Ice)) false).1), .i ((speedE v6 ((⟨100, v7.1, 0, 0⟩ : Ice)) false).2)]) (fs := []) (caps := []) (extra := (kapp [.r 22] (kapp [.r 24] (kapp [.r 26] [])))) (ltN rfl) en_18 rfl ⟨rfl, rfl, rfl⟩ (EvL.cons rfl (EvL.cons rfl (EvL.cons rfl EvL.nil))) (fun mm aa ww gg hr hrel => (c18 v6 ⟨ptr0 (mm 22) (mm 23), v6.Thrust.length, mm 23⟩ ⟨ptr0 (mm 24) (mm 25), v6.Water.length, mm 25⟩ ⟨ptr0 (mm 26) (mm 27), v6.Ice.length, mm 27⟩ ((⟨100, v7.1, 0, 0⟩ : Ice)) false ww (slAt_row (enc := encPt) (l := v6.Thrust) (fun _ => rfl) (by decide) hrel ((hr _ (List.mem_append_left _ (by simp))).trans rfl)) (slAt_row (enc := encPt) (l := v6.Water) (fun _ => rfl) (by decide) hrel ((hr _ (List.mem_append_right _ (List.mem_append_left _ (by simp)))).trans rfl)) (slAt_row (enc := encPt) (l := v6.Ice) (fun _ => rfl) (by decide) hrel ((hr _ (List.mem_append_right _ (List.mem_append_right _ (List.mem_append_left _ (by simp))))).trans rfl))))),
           ok_plain rfl rfl (op_move (ltN rfl) rfl),
           ok_plain rfl rfl (op_extract (ltN rfl) rfl rfl),
           ok_plain rfl rfl (op_extract (ltN rfl) rfl rfl),
           ok_plain rfl rfl (op_assign (ltN rfl) rfl),
           ok_plain rfl rfl (op_assign (ltN rfl) rfl),
           trivial⟩ ?_
          refine fin_keep (s' := [kt 22 (.i ((speedE v1 ((⟨100, v7.1, 0, 0⟩ : Ice)) false).1)), kt 24 (.i ((speedE v6 ((⟨100, v7.1, 0, 0⟩ : Ice)) false).1)), kt 25 (.i ((speedE v1 ((⟨100, v7.1, 0, 0⟩ : Ice)) false).2)), kt 27 (.i ((speedE v6 ((⟨100, v7.1, 0, 0⟩ : Ice)) false).2))]) ?_ (kp rfl) rfl
          refine fin_then ?_
          refine aw_seq ?_
          refine aw_text (rows := [_, _, _, _, _, _, _, _, _, _, _]) rfl (by kernel_rfl) ⟨
           ok_plain rfl rfl (op_move (ltN rfl) rfl),
           ok_plain rfl rfl (op_bin (ltN rfl) rfl rfl rfl),
           ok_plain rfl rfl (op_move (ltN rfl) rfl),
           ok_if (ltN rfl) rfl rfl rfl rfl rfl rfl (fun hg67 => op_move (ltN rfl) (force_x rfl)),
           ok_if (ltN rfl) rfl rfl rfl rfl rfl rfl (fun hg68 => op_bin (ltN rfl) (force_eq (beq_iff_eq.2 hg68) rfl) rfl rfl),
           ok_plain rfl rfl (op_or (ltN rfl) rfl rfl),
           ok_plain rfl rfl (op_move (ltN rfl) rfl),
           ok_if (ltN rfl) rfl rfl rfl rfl rfl rfl (fun hg69 => op_move (ltN rfl) (force_x rfl)),
           ok_if (ltN rfl) rfl rfl rfl rfl rfl rfl (fun hg70 => op_move (ltN rfl) (force_x rfl)),
           ok_if (ltN rfl) rfl rfl rfl rfl rfl rfl (fun hg71 => op_bin (ltN rfl) (force_eq (beq_iff_eq.2 hg71) rfl) (force_eq (beq_iff_eq.2 hg71) rfl) rfl),
           ok_plain rfl rfl (op_or (ltN rfl) rfl rfl),
           trivial⟩ ?_
          refine fin_keep (s' := [kt 280 (.B (((((speedE v1 ((⟨100, v7.1, 0, 0⟩ : Ice)) false).2) != 0) || (((speedE v6 ((⟨100, v7.1, 0, 0⟩ : Ice)) false).2) != 0)) || (decide (((speedE v1 ((⟨100, v7.1, 0, 0⟩ : Ice)) false).1) ≥ ((speedE v6 ((⟨100, v7.1, 0, 0⟩ : Ice)) false).1)))))]) ?_ (kp rfl) rfl
          refine fin_then ?_
          refine aw_cond rfl (fun hz72 => ?_) (fun hz72 => ?_)
          ·have hm := brk_t hz72 hm
           refine aw_seq ?_
           refine aw_text (rows := [_]) rfl (by kernel_rfl) ⟨
            ok_plain rfl rfl (op_assign (ltN rfl) rfl),
            trivial⟩ ?_
           refine fin_keep (s' := [kt 12 (.B false)]) ?_ (kp rfl) rfl
           refine fin_then ?_
           refine aw_ret ?_
           refine fin_then_ret ?_
           refine post_ret (x := .B false) rfl rfl (resOK_tmp rfl resOK_nil) rfl (fun mm aa ww hr => ?_)
           have hm := Option.some.inj hm
           subst hm
           exact ⟨rfl, hr.below⟩
          ·have hm := brk_f hz72 hm
           refine aw_skip ?_
           exact fin_cut () hm trivial rfl
         ·have hm := brk_f hz66 hm
          refine aw_skip ?_
          exact fin_cut () hm trivial rfl
        ·have _z := hm
         refine aw_seq ?_
         refine aw_text (rows := [_, _]) rfl (by kernel_rfl) ⟨
          ok_plain rfl rfl (op_call (x := .B true) (fs := []) (caps := []) (extra := []) (ltN rfl) en_21 rfl ⟨rfl, rfl, rfl⟩ EvL.nil (fun mm aa ww gg hr hrel => (c21 ww (BoxAt.mono hG hrel.below)))),
          ok_plain rfl rfl (op_assign (ltN rfl) rfl),
          trivial⟩ ?_
         refine fin_keep (s' := [kt 12 (.B true)]) ?_ (kp rfl) rfl
         refine fin_then ?_
         refine aw_ret ?_
         refine post_ret (x := .B true) rfl rfl (resOK_tmp rfl resOK_nil) rfl (fun mm aa ww hr => ?_)
         have hm := Option.some.inj hm
         subst hm
         exact ⟨rfl, hr.below⟩

end Go.Proofs.T
