/-
  This file has contracts of functions of the program: where the mirror gives a value, the call returns it. Conditions: those that each theorem names.
-/
import Derived.Test.YtgpcfckbcldokaaDoorWa3
set_option linter.unusedVariables false
namespace Go.Proofs.T
open Go Go.AX Go.RowKit Hull
theorem sz_23 : sizeIn Tryd.prog 23 = some 1 := by kernel_rfl
theorem af_23 : appFact Tryd.prog 23 = some (84, 2, 16) := by kernel_rfl

def m15 (F : Nat) (a0 : List Int) : Option (Ship) :=
  chk (InR (1 + (dv a0 0 6))) (chk (InR (390 * (dv a0 1 256))) (chk (InR (100 + (390 * (dv a0 1 256)))) (chk (InR (7 * (dv a0 2 256))) (chk (InR (10 + (7 * (dv a0 2 256)))) (chk (InR (1900 * (dv a0 3 256))) (chk (InR (10 + (1900 * (dv a0 3 256)))) (chk (InR (2 * (dv a0 6 240))) (chk (InR (4 * (dv a0 7 256))) (chk (InR (20 * (dv a0 8 256))) (chk (InR (200 + (20 * (dv a0 8 256)))) (join (fun (x1 : List Pt × Nat) => join (fun (x3 : List Pt × Nat) => join (fun (x5 : Int × List Pt × Nat) => chk (InR (4 * (dv a0 x5.2.2 256))) (chk (InR (x5.1 + (4 * (dv a0 x5.2.2 256)))) (chk (x5.2.1.length ≤ 1000000) (some ((⟨1 + (dv a0 0 6), 100 + (390 * (dv a0 1 256)), 10 + (7 * (dv a0 2 256)), 10 + (1900 * (dv a0 3 256)), x1.1, x3.1, (x5.2.1 ++ [(⟨400, x5.1 + (4 * (dv a0 x5.2.2 256))⟩ : Pt)]), dv a0 4 21, dv a0 5 101, 2 * (dv a0 6 240), 4 * (dv a0 7 256)⟩ : Ship)))))) (fun k5 => loopC (fun (x6 : Int × Int × Int × List Pt × Nat) n6 => brk (decide (x6.2.2.1 < (dv a0 x3.2 4))) (chk (InR (x6.1 + 1)) (chk (InR ((x6.1 + 1) + (dv a0 x6.2.2.2.2 90))) (chk (InR (3 * (dv a0 ((x6.2.2.2.2 + 1)) 256))) (chk (InR (x6.2.1 + (3 * (dv a0 ((x6.2.2.2.2 + 1)) 256)))) (chk (x6.2.2.2.1.length ≤ 1000000) (chk (InR (x6.2.2.1 + 1)) (n6 ((x6.1 + 1) + (dv a0 x6.2.2.2.2 90), x6.2.1 + (3 * (dv a0 ((x6.2.2.2.2 + 1)) 256)), x6.2.2.1 + 1, (x6.2.2.2.1 ++ [(⟨(x6.1 + 1) + (dv a0 x6.2.2.2.2 90), x6.2.1 + (3 * (dv a0 ((x6.2.2.2.2 + 1)) 256))⟩ : Pt)]), ((x6.2.2.2.2 + 1) + 1))))))))) (k5 (x6.2.1, x6.2.2.2.1, x6.2.2.2.2))) F (0, 0, 0, [(⟨0, 0⟩ : Pt)], (x3.2 + 1)))) (fun k3 => chk (InR (1 + (dv a0 ((x1.2 + 1)) 3))) (loopC (fun (x4 : Int × Int × Int × List Pt × Nat) n4 => brk (decide (x4.2.2.1 < (1 + (dv a0 ((x1.2 + 1)) 3)))) (chk (InR (x4.1 + 1)) (chk (InR ((x4.1 + 1) + (dv a0 x4.2.2.2.2 80))) (chk (InR (3 * (dv a0 ((x4.2.2.2.2 + 1)) 256))) (chk (InR (x4.2.1 + (3 * (dv a0 ((x4.2.2.2.2 + 1)) 256)))) (chk (x4.2.2.2.1.length ≤ 1000000) (chk (InR (x4.2.2.1 + 1)) (n4 ((x4.1 + 1) + (dv a0 x4.2.2.2.2 80), x4.2.1 + (3 * (dv a0 ((x4.2.2.2.2 + 1)) 256)), x4.2.2.1 + 1, (x4.2.2.2.1 ++ [(⟨(x4.1 + 1) + (dv a0 x4.2.2.2.2 80), x4.2.1 + (3 * (dv a0 ((x4.2.2.2.2 + 1)) 256))⟩ : Pt)]), ((x4.2.2.2.2 + 1) + 1))))))))) (k3 (x4.2.2.2.1, x4.2.2.2.2))) F (0, dv a0 x1.2 50, 0, [(⟨0, dv a0 x1.2 50⟩ : Pt)], ((x1.2 + 1) + 1))))) (fun k1 => chk (InR (1 + (dv a0 9 4))) (loopC (fun (x2 : Int × Int × Int × List Pt × Nat) n2 => brk (decide (x2.2.2.1 < (1 + (dv a0 9 4)))) (chk (InR (x2.1 + 10)) (chk (InR ((x2.1 + 10) + (dv a0 x2.2.2.2.2 40))) (chk (InR (x2.2.1 * (dv a0 ((x2.2.2.2.2 + 1)) 101))) (chk (0 ≤ (x2.2.1 * (dv a0 ((x2.2.2.2.2 + 1)) 101)) ∧ (x2.2.1 * (dv a0 ((x2.2.2.2.2 + 1)) 101)) ≤ 9223372036854775807) (chk (x2.2.2.2.1.length ≤ 1000000) (chk (InR (x2.2.2.1 + 1)) (n2 ((x2.1 + 10) + (dv a0 x2.2.2.2.2 40), (x2.2.1 * (dv a0 ((x2.2.2.2.2 + 1)) 101)) / 100, x2.2.2.1 + 1, (x2.2.2.2.1 ++ [(⟨(x2.1 + 10) + (dv a0 x2.2.2.2.2 40), (x2.2.1 * (dv a0 ((x2.2.2.2.2 + 1)) 101)) / 100⟩ : Pt)]), ((x2.2.2.2.2 + 1) + 1))))))))) (k1 (x2.2.2.2.1, x2.2.2.2.2))) F (0, 200 + (20 * (dv a0 8 256)), 0, [(⟨0, 200 + (20 * (dv a0 8 256))⟩ : Pt)], 10))))))))))))))

set_option maxHeartbeats 4000000 in
set_option maxRecDepth 8000 in
theorem c15 (F : Nat) (a0 : List Int) (a0_s : SlV) (w : World) (ha0 : SlIs encU8 1 w a0_s a0) (h8a0 : ∀ x ∈ a0, 0 ≤ x ∧ x ≤ 255) (hlena0 : a0.length ≤ 9223372036854775807) (r : Ship) (hm : m15 F a0 = some r) : Calls Tryd.prog 15 #[.slice a0_s.p a0_s.n a0_s.c] w fun e w' => ∃ sl : List SlV, e = .returned ((fun vs => .agg #[.int .i64 r.Class, .int .i64 r.Power, .int .i64 r.Draught, .int .i64 r.Tonnes, (vs.getD 0 (.bool false)), (vs.getD 1 (.bool false)), (vs.getD 2 (.bool false)), .int .i64 r.Slow, .int .i64 r.Brash, .int .i64 r.Ridge, .int .i64 r.Press]) (sl.map SlV.val)) ∧ NewRowsD w w' sl [(r.Thrust.length, 84, 2, r.Thrust.flatMap encPt), (r.Water.length, 84, 2, r.Water.flatMap encPt), (r.Ice.length, 84, 2, r.Ice.flatMap encPt)] ∧ Below w.heap.size w w' := by
  obtain ⟨a0_p, a0_n, a0_c⟩ := a0_s
  have ha0_l : a0_n = a0.length := ha0.1
  subst ha0_l
  obtain ⟨a0_b, a0_o, ha0_p, ha0_L⟩ := SlAt.lies' ha0
  unfold m15 at hm
  refine enter (args := [.v (.slice a0_p a0.length a0_c)]) Tryd.func15 rfl (N := 135) rfl (Nat.le_of_ble_eq_true rfl) ?_
  refine aw_seq ?_
  refine aw_text (rows := [_]) rfl (by kernel_rfl) ⟨
    ok_plain rfl rfl (op_alloc (L := 1) (ltN rfl) zl_25),
    trivial⟩ ?_
  refine fin_keep (s' := [kt 0 (.v (.slice a0_p a0.length a0_c)), kt 2 (.p 1 0), kb 1 25 11, kc 1 0 (.i 0), kc 1 1 (.i 0), kc 1 2 (.i 0), kc 1 3 (.i 0), kc 1 4 (.v (.slice none 0 0)), kc 1 5 (.v (.slice none 0 0)), kc 1 6 (.v (.slice none 0 0)), kc 1 7 (.i 0), kc 1 8 (.i 0), kc 1 9 (.i 0), kc 1 10 (.i 0)]) ?_ (kp rfl) rfl
  refine fin_then ?_
  refine aw_seq ?_
  refine aw_text (rows := [_, _, _]) rfl (by kernel_rfl) ⟨
    ok_plain rfl rfl (op_move (ltN rfl) rfl),
    ok_plain rfl rfl (op_callTwo (L1 := 2) (L2 := 3) (ty1 := 3) (ty2 := 22) (v1 := [.int .i64 (idx a0 0)]) (v2 := [(.slice a0_p a0.length a0_c)]) (R := fun b1 b2 => .func (.func 83) #[] #[.pointer (some ⟨b1, 0, none⟩), .pointer (some ⟨b2, 0, none⟩)]) (x := .f (.func 83) [] [.p 2 0, .p 3 0]) (fs := []) (caps := []) (extra := []) (ltN rfl) en_22 rfl ⟨rfl, rfl, rfl⟩ (EvL.cons rfl EvL.nil) (by decide) (fun _ => rfl) (fun mm aa ww gg hr hrel => (c22 a0 ⟨a0_p, a0.length, a0_c⟩ ww (SlIs.mono ha0 hrel.below)))),
    ok_plain rfl rfl (op_assign (ltN rfl) rfl),
    trivial⟩ ?_
  refine fin_keep (s' := [kt 2 (.p 1 0), kt 3 (.f (.func 83) [] [.p 2 0, .p 3 0]), kb 1 25 11, kb 2 3 1, kb 3 22 1, kc 1 0 (.i 0), kc 1 1 (.i 0), kc 1 2 (.i 0), kc 1 3 (.i 0), kc 1 4 (.v (.slice none 0 0)), kc 1 5 (.v (.slice none 0 0)), kc 1 6 (.v (.slice none 0 0)), kc 1 7 (.i 0), kc 1 8 (.i 0), kc 1 9 (.i 0), kc 1 10 (.i 0), kc 2 0 (.i (idx a0 0)), kc 3 0 (.v (.slice a0_p a0.length a0_c))]) ?_ (kp rfl) rfl
  refine fin_then ?_
  refine aw_seq ?_
  obtain ⟨hp1, hm⟩ := chk_some hm
  obtain ⟨hp2, hm⟩ := chk_some hm
  obtain ⟨hp3, hm⟩ := chk_some hm
  obtain ⟨hp4, hm⟩ := chk_some hm
  obtain ⟨hp5, hm⟩ := chk_some hm
  obtain ⟨hp6, hm⟩ := chk_some hm
  obtain ⟨hp7, hm⟩ := chk_some hm
  obtain ⟨hp8, hm⟩ := chk_some hm
  obtain ⟨hp9, hm⟩ := chk_some hm
  refine aw_text (rows := [_, _, _, _, _, _, _, _, _, _, _, _, _, _, _, _, _, _, _, _, _, _, _, _, _, _, _, _]) rfl (by kernel_rfl) ⟨
    ok_plain rfl rfl (op_move (ltN rfl) rfl),
    ok_plain rfl rfl (op_callLentL (ls := [⟨2, 3, [.i (idx a0 0)], [.i (idx a0 1)]⟩, ⟨3, 22, [.v (.slice a0_p a0.length a0_c)], [.v (.slice a0_p a0.length a0_c)]⟩]) (x := .i (dv a0 0 6)) (fs := []) (caps := [.p 2 0, .p 3 0]) (extra := []) (ltN rfl) en_83 rfl ⟨rfl, rfl, rfl⟩ (EvL.cons rfl EvL.nil) ⟨rfl, ⟨rfl, trivial⟩, rfl, lb_ne rfl, ⟨rfl, ⟨rfl, trivial⟩, rfl, lb_ne rfl, trivial⟩⟩ (fun mm aa ww gg hr hrel hbx hlo => c83L 6 0 (mm 2) a0 ⟨a0_p, a0.length, a0_c⟩ (mm 3) ww (hbx _ (.head _)) (hbx _ (.tail _ (.head _))) (SlIs.mono ha0 hrel.below) (sl_ne ha0 (box_hi hrel hlo.1)) (box_ne hrel hlo.2.2.2.2.1 hlo.1 (by decide)) (by decide) h8a0 hlena0)),
    ok_plain rfl rfl (op_bin (ltN rfl) rfl rfl (nw_add hp1)),
    ok_plain rfl rfl (op_move (ltN rfl) rfl),
    ok_plain rfl rfl (op_callLentL (ls := [⟨2, 3, [.i (idx a0 1)], [.i (idx a0 2)]⟩, ⟨3, 22, [.v (.slice a0_p a0.length a0_c)], [.v (.slice a0_p a0.length a0_c)]⟩]) (x := .i (dv a0 1 256)) (fs := []) (caps := [.p 2 0, .p 3 0]) (extra := []) (ltN rfl) en_83 rfl ⟨rfl, rfl, rfl⟩ (EvL.cons rfl EvL.nil) ⟨rfl, ⟨rfl, trivial⟩, rfl, lb_ne rfl, ⟨rfl, ⟨rfl, trivial⟩, rfl, lb_ne rfl, trivial⟩⟩ (fun mm aa ww gg hr hrel hbx hlo => c83L 256 1 (mm 2) a0 ⟨a0_p, a0.length, a0_c⟩ (mm 3) ww (hbx _ (.head _)) (hbx _ (.tail _ (.head _))) (SlIs.mono ha0 hrel.below) (sl_ne ha0 (box_hi hrel hlo.1)) (box_ne hrel hlo.2.2.2.2.1 hlo.1 (by decide)) (by decide) h8a0 hlena0)),
    ok_plain rfl rfl (op_bin (ltN rfl) rfl rfl (nw_mul hp2)),
    ok_plain rfl rfl (op_bin (ltN rfl) rfl rfl (nw_add hp3)),
    ok_plain rfl rfl (op_move (ltN rfl) rfl),
    ok_plain rfl rfl (op_callLentL (ls := [⟨2, 3, [.i (idx a0 2)], [.i (idx a0 3)]⟩, ⟨3, 22, [.v (.slice a0_p a0.length a0_c)], [.v (.slice a0_p a0.length a0_c)]⟩]) (x := .i (dv a0 2 256)) (fs := []) (caps := [.p 2 0, .p 3 0]) (extra := []) (ltN rfl) en_83 rfl ⟨rfl, rfl, rfl⟩ (EvL.cons rfl EvL.nil) ⟨rfl, ⟨rfl, trivial⟩, rfl, lb_ne rfl, ⟨rfl, ⟨rfl, trivial⟩, rfl, lb_ne rfl, trivial⟩⟩ (fun mm aa ww gg hr hrel hbx hlo => c83L 256 2 (mm 2) a0 ⟨a0_p, a0.length, a0_c⟩ (mm 3) ww (hbx _ (.head _)) (hbx _ (.tail _ (.head _))) (SlIs.mono ha0 hrel.below) (sl_ne ha0 (box_hi hrel hlo.1)) (box_ne hrel hlo.2.2.2.2.1 hlo.1 (by decide)) (by decide) h8a0 hlena0)),
    ok_plain rfl rfl (op_bin (ltN rfl) rfl rfl (nw_mul hp4)),
    ok_plain rfl rfl (op_bin (ltN rfl) rfl rfl (nw_add hp5)),
    ok_plain rfl rfl (op_move (ltN rfl) rfl),
    ok_plain rfl rfl (op_callLentL (ls := [⟨2, 3, [.i (idx a0 3)], [.i (idx a0 4)]⟩, ⟨3, 22, [.v (.slice a0_p a0.length a0_c)], [.v (.slice a0_p a0.length a0_c)]⟩]) (x := .i (dv a0 3 256)) (fs := []) (caps := [.p 2 0, .p 3 0]) (extra := []) (ltN rfl) en_83 rfl ⟨rfl, rfl, rfl⟩ (EvL.cons rfl EvL.nil) ⟨rfl, ⟨rfl, trivial⟩, rfl, lb_ne rfl, ⟨rfl, ⟨rfl, trivial⟩, rfl, lb_ne rfl, trivial⟩⟩ (fun mm aa ww gg hr hrel hbx hlo => c83L 256 3 (mm 2) a0 ⟨a0_p, a0.length, a0_c⟩ (mm 3) ww (hbx _ (.head _)) (hbx _ (.tail _ (.head _))) (SlIs.mono ha0 hrel.below) (sl_ne ha0 (box_hi hrel hlo.1)) (box_ne hrel hlo.2.2.2.2.1 hlo.1 (by decide)) (by decide) h8a0 hlena0)),
    ok_plain rfl rfl (op_bin (ltN rfl) rfl rfl (nw_mul hp6)),
    ok_plain rfl rfl (op_bin (ltN rfl) rfl rfl (nw_add hp7)),
    ok_plain rfl rfl (op_move (ltN rfl) rfl),
    ok_plain rfl rfl (op_callLentL (ls := [⟨2, 3, [.i (idx a0 4)], [.i (idx a0 5)]⟩, ⟨3, 22, [.v (.slice a0_p a0.length a0_c)], [.v (.slice a0_p a0.length a0_c)]⟩]) (x := .i (dv a0 4 21)) (fs := []) (caps := [.p 2 0, .p 3 0]) (extra := []) (ltN rfl) en_83 rfl ⟨rfl, rfl, rfl⟩ (EvL.cons rfl EvL.nil) ⟨rfl, ⟨rfl, trivial⟩, rfl, lb_ne rfl, ⟨rfl, ⟨rfl, trivial⟩, rfl, lb_ne rfl, trivial⟩⟩ (fun mm aa ww gg hr hrel hbx hlo => c83L 21 4 (mm 2) a0 ⟨a0_p, a0.length, a0_c⟩ (mm 3) ww (hbx _ (.head _)) (hbx _ (.tail _ (.head _))) (SlIs.mono ha0 hrel.below) (sl_ne ha0 (box_hi hrel hlo.1)) (box_ne hrel hlo.2.2.2.2.1 hlo.1 (by decide)) (by decide) h8a0 hlena0)),
    ok_plain rfl rfl (op_move (ltN rfl) rfl),
    ok_plain rfl rfl (op_callLentL (ls := [⟨2, 3, [.i (idx a0 5)], [.i (idx a0 6)]⟩, ⟨3, 22, [.v (.slice a0_p a0.length a0_c)], [.v (.slice a0_p a0.length a0_c)]⟩]) (x := .i (dv a0 5 101)) (fs := []) (caps := [.p 2 0, .p 3 0]) (extra := []) (ltN rfl) en_83 rfl ⟨rfl, rfl, rfl⟩ (EvL.cons rfl EvL.nil) ⟨rfl, ⟨rfl, trivial⟩, rfl, lb_ne rfl, ⟨rfl, ⟨rfl, trivial⟩, rfl, lb_ne rfl, trivial⟩⟩ (fun mm aa ww gg hr hrel hbx hlo => c83L 101 5 (mm 2) a0 ⟨a0_p, a0.length, a0_c⟩ (mm 3) ww (hbx _ (.head _)) (hbx _ (.tail _ (.head _))) (SlIs.mono ha0 hrel.below) (sl_ne ha0 (box_hi hrel hlo.1)) (box_ne hrel hlo.2.2.2.2.1 hlo.1 (by decide)) (by decide) h8a0 hlena0)),
    ok_plain rfl rfl (op_move (ltN rfl) rfl),
    ok_plain rfl rfl (op_callLentL (ls := [⟨2, 3, [.i (idx a0 6)], [.i (idx a0 7)]⟩, ⟨3, 22, [.v (.slice a0_p a0.length a0_c)], [.v (.slice a0_p a0.length a0_c)]⟩]) (x := .i (dv a0 6 240)) (fs := []) (caps := [.p 2 0, .p 3 0]) (extra := []) (ltN rfl) en_83 rfl ⟨rfl, rfl, rfl⟩ (EvL.cons rfl EvL.nil) ⟨rfl, ⟨rfl, trivial⟩, rfl, lb_ne rfl, ⟨rfl, ⟨rfl, trivial⟩, rfl, lb_ne rfl, trivial⟩⟩ (fun mm aa ww gg hr hrel hbx hlo => c83L 240 6 (mm 2) a0 ⟨a0_p, a0.length, a0_c⟩ (mm 3) ww (hbx _ (.head _)) (hbx _ (.tail _ (.head _))) (SlIs.mono ha0 hrel.below) (sl_ne ha0 (box_hi hrel hlo.1)) (box_ne hrel hlo.2.2.2.2.1 hlo.1 (by decide)) (by decide) h8a0 hlena0)),
    ok_plain rfl rfl (op_bin (ltN rfl) rfl rfl (nw_mul hp8)),
    ok_plain rfl rfl (op_move (ltN rfl) rfl),
    ok_plain rfl rfl (op_callLentL (ls := [⟨2, 3, [.i (idx a0 7)], [.i (idx a0 8)]⟩, ⟨3, 22, [.v (.slice a0_p a0.length a0_c)], [.v (.slice a0_p a0.length a0_c)]⟩]) (x := .i (dv a0 7 256)) (fs := []) (caps := [.p 2 0, .p 3 0]) (extra := []) (ltN rfl) en_83 rfl ⟨rfl, rfl, rfl⟩ (EvL.cons rfl EvL.nil) ⟨rfl, ⟨rfl, trivial⟩, rfl, lb_ne rfl, ⟨rfl, ⟨rfl, trivial⟩, rfl, lb_ne rfl, trivial⟩⟩ (fun mm aa ww gg hr hrel hbx hlo => c83L 256 7 (mm 2) a0 ⟨a0_p, a0.length, a0_c⟩ (mm 3) ww (hbx _ (.head _)) (hbx _ (.tail _ (.head _))) (SlIs.mono ha0 hrel.below) (sl_ne ha0 (box_hi hrel hlo.1)) (box_ne hrel hlo.2.2.2.2.1 hlo.1 (by decide)) (by decide) h8a0 hlena0)),
    ok_plain rfl rfl (op_bin (ltN rfl) rfl rfl (nw_mul hp9)),
    ok_plain rfl rfl (op_build (x := .g [.i (1 + (dv a0 0 6)), .i (100 + (390 * (dv a0 1 256))), .i (10 + (7 * (dv a0 2 256))), .i (10 + (1900 * (dv a0 3 256))), .v (.slice none 0 0), .v (.slice none 0 0), .v (.slice none 0 0), .i (dv a0 4 21), .i (dv a0 5 101), .i (2 * (dv a0 6 240)), .i (4 * (dv a0 7 256))]) (ltN rfl) (EvL.cons rfl (EvL.cons rfl (EvL.cons rfl (EvL.cons rfl (EvL.cons rfl (EvL.cons rfl (EvL.cons rfl (EvL.cons rfl EvL.nil)))))))) (fun m w => by kernel_rfl)),
    ok_plain rfl rfl (op_alloc (L := 4) (ltN rfl) zl_25),
    ok_plain rfl rfl (op_storeN sz_25 rfl rfl rfl rfl rfl (by decide)),
    trivial⟩ ?_
  refine fin_keep (s' := [kt 2 (.p 1 0), kt 3 (.f (.func 83) [] [.p 2 0, .p 3 0]), kt 4 (.p 4 0), kb 1 25 11, kb 2 3 1, kb 3 22 1, kb 4 25 11, kc 1 0 (.i 0), kc 1 1 (.i 0), kc 1 2 (.i 0), kc 1 3 (.i 0), kc 1 4 (.v (.slice none 0 0)), kc 1 5 (.v (.slice none 0 0)), kc 1 6 (.v (.slice none 0 0)), kc 1 7 (.i 0), kc 1 8 (.i 0), kc 1 9 (.i 0), kc 1 10 (.i 0), kc 2 0 (.i (idx a0 8)), kc 3 0 (.v (.slice a0_p a0.length a0_c)), kc 4 0 (.i (1 + (dv a0 0 6))), kc 4 1 (.i (100 + (390 * (dv a0 1 256)))), kc 4 2 (.i (10 + (7 * (dv a0 2 256)))), kc 4 3 (.i (10 + (1900 * (dv a0 3 256)))), kc 4 4 (.v (.slice none 0 0)), kc 4 5 (.v (.slice none 0 0)), kc 4 6 (.v (.slice none 0 0)), kc 4 7 (.i (dv a0 4 21)), kc 4 8 (.i (dv a0 5 101)), kc 4 9 (.i (2 * (dv a0 6 240))), kc 4 10 (.i (4 * (dv a0 7 256)))]) ?_ (kp rfl) rfl
  refine fin_then ?_
  refine aw_seq ?_
  obtain ⟨hp10, hm⟩ := chk_some hm
  obtain ⟨hp11, hm⟩ := chk_some hm
  refine aw_text (rows := [_, _, _, _, _, _]) rfl (by kernel_rfl) ⟨
    ok_plain rfl rfl (op_move (ltN rfl) rfl),
    ok_plain rfl rfl (op_callLentL (ls := [⟨2, 3, [.i (idx a0 8)], [.i (idx a0 9)]⟩, ⟨3, 22, [.v (.slice a0_p a0.length a0_c)], [.v (.slice a0_p a0.length a0_c)]⟩]) (x := .i (dv a0 8 256)) (fs := []) (caps := [.p 2 0, .p 3 0]) (extra := []) (ltN rfl) en_83 rfl ⟨rfl, rfl, rfl⟩ (EvL.cons rfl EvL.nil) ⟨rfl, ⟨rfl, trivial⟩, rfl, lb_ne rfl, ⟨rfl, ⟨rfl, trivial⟩, rfl, lb_ne rfl, trivial⟩⟩ (fun mm aa ww gg hr hrel hbx hlo => c83L 256 8 (mm 2) a0 ⟨a0_p, a0.length, a0_c⟩ (mm 3) ww (hbx _ (.head _)) (hbx _ (.tail _ (.head _))) (SlIs.mono ha0 hrel.below) (sl_ne ha0 (box_hi hrel hlo.1)) (box_ne hrel hlo.2.2.2.2.1 hlo.1 (by decide)) (by decide) h8a0 hlena0)),
    ok_plain rfl rfl (op_bin (ltN rfl) rfl rfl (nw_mul hp10)),
    ok_plain rfl rfl (op_bin (ltN rfl) rfl rfl (nw_add hp11)),
    ok_plain rfl rfl (op_assign (ltN rfl) rfl),
    ok_plain rfl rfl (op_assign (ltN rfl) rfl),
    trivial⟩ ?_
  refine fin_keep (s' := [kt 2 (.p 1 0), kt 3 (.f (.func 83) [] [.p 2 0, .p 3 0]), kt 4 (.p 4 0), kt 5 (.i 0), kt 6 (.i (200 + (20 * (dv a0 8 256)))), kb 1 25 11, kb 2 3 1, kb 3 22 1, kb 4 25 11, kc 1 0 (.i 0), kc 1 1 (.i 0), kc 1 2 (.i 0), kc 1 3 (.i 0), kc 1 4 (.v (.slice none 0 0)), kc 1 5 (.v (.slice none 0 0)), kc 1 6 (.v (.slice none 0 0)), kc 1 7 (.i 0), kc 1 8 (.i 0), kc 1 9 (.i 0), kc 1 10 (.i 0), kc 2 0 (.i (idx a0 9)), kc 3 0 (.v (.slice a0_p a0.length a0_c)), kc 4 0 (.i (1 + (dv a0 0 6))), kc 4 1 (.i (100 + (390 * (dv a0 1 256)))), kc 4 2 (.i (10 + (7 * (dv a0 2 256)))), kc 4 3 (.i (10 + (1900 * (dv a0 3 256)))), kc 4 4 (.v (.slice none 0 0)), kc 4 5 (.v (.slice none 0 0)), kc 4 6 (.v (.slice none 0 0)), kc 4 7 (.i (dv a0 4 21)), kc 4 8 (.i (dv a0 5 101)), kc 4 9 (.i (2 * (dv a0 6 240))), kc 4 10 (.i (4 * (dv a0 7 256)))]) ?_ (kp rfl) rfl
  refine fin_then ?_
  refine aw_seq ?_
  refine aw_text (rows := [_, _, _, _, _]) rfl (by kernel_rfl) ⟨
    ok_plain rfl rfl (op_move (ltN rfl) rfl),
    ok_plain rfl rfl (op_build (x := .g [.i 0, .i (200 + (20 * (dv a0 8 256)))]) (ltN rfl) (EvL.cons rfl (EvL.cons rfl EvL.nil)) (fun m w => by kernel_rfl)),
    ok_plain rfl rfl (op_buildSlice (L := 5) (ety := 84) (cs := [.i 0, .i (200 + (20 * (dv a0 8 256)))]) (ltN rfl) (EvL.cons rfl EvL.nil) rfl (fun m w => by kernel_rfl)),
    ok_plain rfl rfl (op_fieldAddr (ltN rfl) rfl fo_25_4),
    ok_plain rfl rfl (op_store1 sz_23 rfl rfl rfl rfl (ltN rfl)),
    trivial⟩ ?_
  refine fin_keep (s' := [kt 2 (.p 1 0), kt 3 (.f (.func 83) [] [.p 2 0, .p 3 0]), kt 4 (.p 4 0), kt 5 (.i 0), kt 6 (.i (200 + (20 * (dv a0 8 256)))), kb 1 25 11, kb 2 3 1, kb 3 22 1, kb 4 25 11, kb 5 84 2, kc 1 0 (.i 0), kc 1 1 (.i 0), kc 1 2 (.i 0), kc 1 3 (.i 0), kc 1 4 (.v (.slice none 0 0)), kc 1 5 (.v (.slice none 0 0)), kc 1 6 (.v (.slice none 0 0)), kc 1 7 (.i 0), kc 1 8 (.i 0), kc 1 9 (.i 0), kc 1 10 (.i 0), kc 2 0 (.i (idx a0 9)), kc 3 0 (.v (.slice a0_p a0.length a0_c)), kc 4 0 (.i (1 + (dv a0 0 6))), kc 4 1 (.i (100 + (390 * (dv a0 1 256)))), kc 4 2 (.i (10 + (7 * (dv a0 2 256)))), kc 4 3 (.i (10 + (1900 * (dv a0 3 256)))), kc 4 4 (.s 5 0 1 1), kc 4 5 (.v (.slice none 0 0)), kc 4 6 (.v (.slice none 0 0)), kc 4 7 (.i (dv a0 4 21)), kc 4 8 (.i (dv a0 5 101)), kc 4 9 (.i (2 * (dv a0 6 240))), kc 4 10 (.i (4 * (dv a0 7 256))), kc 5 0 (.i 0), kc 5 1 (.i (200 + (20 * (dv a0 8 256))))]) ?_ (kp rfl) rfl
  refine fin_then ?_
  refine aw_cutM (ι := List Pt × Nat) hm (fun x1 => [kt 2 (.p 1 0), kt 3 (.f (.func 83) [] [.p 2 0, .p 3 0]), kt 4 (.p 4 0), kb 1 25 11, kb 2 3 1, kb 3 22 1, kb 4 25 11, (.r 300, some (.vec true 301 84 2 (x1.1.flatMap encPt))), kc 1 0 (.i 0), kc 1 1 (.i 0), kc 1 2 (.i 0), kc 1 3 (.i 0), kc 1 4 (.v (.slice none 0 0)), kc 1 5 (.v (.slice none 0 0)), kc 1 6 (.v (.slice none 0 0)), kc 1 7 (.i 0), kc 1 8 (.i 0), kc 1 9 (.i 0), kc 1 10 (.i 0), kc 2 0 (.i (idx a0 x1.2)), kc 3 0 (.v (.slice a0_p a0.length a0_c)), kc 4 0 (.i (1 + (dv a0 0 6))), kc 4 1 (.i (100 + (390 * (dv a0 1 256)))), kc 4 2 (.i (10 + (7 * (dv a0 2 256)))), kc 4 3 (.i (10 + (1900 * (dv a0 3 256)))), kc 4 4 (.o 300 301 x1.1.length), kc 4 5 (.v (.slice none 0 0)), kc 4 6 (.v (.slice none 0 0)), kc 4 7 (.i (dv a0 4 21)), kc 4 8 (.i (dv a0 5 101)), kc 4 9 (.i (2 * (dv a0 6 240))), kc 4 10 (.i (4 * (dv a0 7 256)))]) (fun hm => ?_) (fun x1 hm => ?_)
  · have _z := hm
    refine aw_seq ?_
    obtain ⟨hp12, hm⟩ := chk_some hm
    refine aw_text (rows := [_, _, _, _]) rfl (by kernel_rfl) ⟨
      ok_plain rfl rfl (op_move (ltN rfl) rfl),
      ok_plain rfl rfl (op_callLentL (ls := [⟨2, 3, [.i (idx a0 9)], [.i (idx a0 10)]⟩, ⟨3, 22, [.v (.slice a0_p a0.length a0_c)], [.v (.slice a0_p a0.length a0_c)]⟩]) (x := .i (dv a0 9 4)) (fs := []) (caps := [.p 2 0, .p 3 0]) (extra := []) (ltN rfl) en_83 rfl ⟨rfl, rfl, rfl⟩ (EvL.cons rfl EvL.nil) ⟨rfl, ⟨rfl, trivial⟩, rfl, lb_ne rfl, ⟨rfl, ⟨rfl, trivial⟩, rfl, lb_ne rfl, trivial⟩⟩ (fun mm aa ww gg hr hrel hbx hlo => c83L 4 9 (mm 2) a0 ⟨a0_p, a0.length, a0_c⟩ (mm 3) ww (hbx _ (.head _)) (hbx _ (.tail _ (.head _))) (SlIs.mono ha0 hrel.below) (sl_ne ha0 (box_hi hrel hlo.1)) (box_ne hrel hlo.2.2.2.2.1 hlo.1 (by decide)) (by decide) h8a0 hlena0)),
      ok_plain rfl rfl (op_bin (ltN rfl) rfl rfl (nw_add hp12)),
      ok_plain rfl rfl (op_move (ltN rfl) rfl),
      trivial⟩ ?_
    refine fin_keep (s' := [kt 2 (.p 1 0), kt 3 (.f (.func 83) [] [.p 2 0, .p 3 0]), kt 4 (.p 4 0), kt 5 (.i 0), kt 6 (.i (200 + (20 * (dv a0 8 256)))), kt 45 (.i (1 + (dv a0 9 4))), kt 46 (.i 0), kb 1 25 11, kb 2 3 1, kb 3 22 1, kb 4 25 11, kb 5 84 2, kc 1 0 (.i 0), kc 1 1 (.i 0), kc 1 2 (.i 0), kc 1 3 (.i 0), kc 1 4 (.v (.slice none 0 0)), kc 1 5 (.v (.slice none 0 0)), kc 1 6 (.v (.slice none 0 0)), kc 1 7 (.i 0), kc 1 8 (.i 0), kc 1 9 (.i 0), kc 1 10 (.i 0), kc 2 0 (.i (idx a0 10)), kc 3 0 (.v (.slice a0_p a0.length a0_c)), kc 4 0 (.i (1 + (dv a0 0 6))), kc 4 1 (.i (100 + (390 * (dv a0 1 256)))), kc 4 2 (.i (10 + (7 * (dv a0 2 256)))), kc 4 3 (.i (10 + (1900 * (dv a0 3 256)))), kc 4 4 (.s 5 0 1 1), kc 4 5 (.v (.slice none 0 0)), kc 4 6 (.v (.slice none 0 0)), kc 4 7 (.i (dv a0 4 21)), kc 4 8 (.i (dv a0 5 101)), kc 4 9 (.i (2 * (dv a0 6 240))), kc 4 10 (.i (4 * (dv a0 7 256))), kc 5 0 (.i 0), kc 5 1 (.i (200 + (20 * (dv a0 8 256))))]) ?_ (kp rfl) rfl
    refine fin_then ?_
    refine aw_block ?_
    refine aw_toRow (.c 4 4) 5 6 1 2 [(.int .i64 0), (.int .i64 (200 + (20 * (dv a0 8 256))))] rfl rfl rfl rfl (by decide) ⟨rfl, rfl, trivial⟩ rfl (by decide) rfl ?_
    refine aw_swp [(5, 300), (6, 301)] rfl ?_
    refine aw_loopC hm (fun x2 => [kt 2 (.p 1 0), kt 3 (.f (.func 83) [] [.p 2 0, .p 3 0]), kt 4 (.p 4 0), kt 5 (.i x2.1), kt 6 (.i x2.2.1), kt 45 (.i (1 + (dv a0 9 4))), kt 46 (.i x2.2.2.1), kb 1 25 11, kb 2 3 1, kb 3 22 1, kb 4 25 11, (.r 300, some (.vec true 301 84 2 (x2.2.2.2.1.flatMap encPt))), kc 1 0 (.i 0), kc 1 1 (.i 0), kc 1 2 (.i 0), kc 1 3 (.i 0), kc 1 4 (.v (.slice none 0 0)), kc 1 5 (.v (.slice none 0 0)), kc 1 6 (.v (.slice none 0 0)), kc 1 7 (.i 0), kc 1 8 (.i 0), kc 1 9 (.i 0), kc 1 10 (.i 0), kc 2 0 (.i (idx a0 x2.2.2.2.2)), kc 3 0 (.v (.slice a0_p a0.length a0_c)), kc 4 0 (.i (1 + (dv a0 0 6))), kc 4 1 (.i (100 + (390 * (dv a0 1 256)))), kc 4 2 (.i (10 + (7 * (dv a0 2 256)))), kc 4 3 (.i (10 + (1900 * (dv a0 3 256)))), kc 4 4 (.o 300 301 x2.2.2.2.1.length), kc 4 5 (.v (.slice none 0 0)), kc 4 6 (.v (.slice none 0 0)), kc 4 7 (.i (dv a0 4 21)), kc 4 8 (.i (dv a0 5 101)), kc 4 9 (.i (2 * (dv a0 6 240))), kc 4 10 (.i (4 * (dv a0 7 256)))]) ⟨rfl, rfl, rfl, rfl, rfl, rfl, rfl, rfl, rfl, rfl, rfl, rfl, rfl, rfl, rfl, rfl, rfl, rfl, rfl, rfl, rfl, rfl, rfl, rfl, rfl, rfl, rfl, rfl, rfl, rfl, rfl, rfl, rfl, rfl, rfl, rfl, trivial⟩ rfl (fun x2 n2 hm => ?_)
    refine aw_seq ?_
    refine aw_text (rows := [_]) rfl (by kernel_rfl) ⟨
      ok_plain rfl rfl (op_bin (ltN rfl) rfl rfl rfl),
      trivial⟩ ?_
    refine fin_keep (s' := [kt 2 (.p 1 0), kt 3 (.f (.func 83) [] [.p 2 0, .p 3 0]), kt 4 (.p 4 0), kt 5 (.i x2.1), kt 6 (.i x2.2.1), kt 45 (.i (1 + (dv a0 9 4))), kt 46 (.i x2.2.2.1), kt 47 (.B (decide (x2.2.2.1 < (1 + (dv a0 9 4))))), kb 1 25 11, kb 2 3 1, kb 3 22 1, kb 4 25 11, (.r 300, some (.vec true 301 84 2 (x2.2.2.2.1.flatMap encPt))), kc 1 0 (.i 0), kc 1 1 (.i 0), kc 1 2 (.i 0), kc 1 3 (.i 0), kc 1 4 (.v (.slice none 0 0)), kc 1 5 (.v (.slice none 0 0)), kc 1 6 (.v (.slice none 0 0)), kc 1 7 (.i 0), kc 1 8 (.i 0), kc 1 9 (.i 0), kc 1 10 (.i 0), kc 2 0 (.i (idx a0 x2.2.2.2.2)), kc 3 0 (.v (.slice a0_p a0.length a0_c)), kc 4 0 (.i (1 + (dv a0 0 6))), kc 4 1 (.i (100 + (390 * (dv a0 1 256)))), kc 4 2 (.i (10 + (7 * (dv a0 2 256)))), kc 4 3 (.i (10 + (1900 * (dv a0 3 256)))), kc 4 4 (.o 300 301 x2.2.2.2.1.length), kc 4 5 (.v (.slice none 0 0)), kc 4 6 (.v (.slice none 0 0)), kc 4 7 (.i (dv a0 4 21)), kc 4 8 (.i (dv a0 5 101)), kc 4 9 (.i (2 * (dv a0 6 240))), kc 4 10 (.i (4 * (dv a0 7 256)))]) ?_ (kp rfl) rfl
    refine fin_then ?_
    refine aw_seq ?_
    refine aw_cond rfl (fun hz13 => ?_) (fun hz13 => ?_)
    · have hm := brk_t hz13 hm
      refine aw_skip ?_
      refine fin_then ?_
      refine aw_seq ?_
      refine aw_block ?_
      refine aw_seq ?_
      obtain ⟨hp14, hm⟩ := chk_some hm
      obtain ⟨hp15, hm⟩ := chk_some hm
      obtain ⟨hp16, hm⟩ := chk_some hm
      obtain ⟨hp17, hm⟩ := chk_some hm
      refine aw_text (rows := [_, _, _, _, _, _, _, _, _, _, _, _]) rfl (by kernel_rfl) ⟨
        ok_plain rfl rfl (op_move (ltN rfl) rfl),
        ok_plain rfl rfl (op_bin (ltN rfl) rfl rfl (nw_add hp14)),
        ok_plain rfl rfl (op_move (ltN rfl) rfl),
        ok_plain rfl rfl (op_callLentL (ls := [⟨2, 3, [.i (idx a0 x2.2.2.2.2)], [.i (idx a0 (x2.2.2.2.2 + 1))]⟩, ⟨3, 22, [.v (.slice a0_p a0.length a0_c)], [.v (.slice a0_p a0.length a0_c)]⟩]) (x := .i (dv a0 x2.2.2.2.2 40)) (fs := []) (caps := [.p 2 0, .p 3 0]) (extra := []) (ltN rfl) en_83 rfl ⟨rfl, rfl, rfl⟩ (EvL.cons rfl EvL.nil) ⟨rfl, ⟨rfl, trivial⟩, rfl, lb_ne rfl, ⟨rfl, ⟨rfl, trivial⟩, rfl, lb_ne rfl, trivial⟩⟩ (fun mm aa ww gg hr hrel hbx hlo => c83L 40 x2.2.2.2.2 (mm 2) a0 ⟨a0_p, a0.length, a0_c⟩ (mm 3) ww (hbx _ (.head _)) (hbx _ (.tail _ (.head _))) (SlIs.mono ha0 hrel.below) (sl_ne ha0 (box_hi hrel hlo.1)) (box_ne hrel hlo.2.2.2.2.1 hlo.1 (by decide)) (by decide) h8a0 hlena0)),
        ok_plain rfl rfl (op_bin (ltN rfl) rfl rfl (nw_add hp15)),
        ok_plain rfl rfl (op_move (ltN rfl) rfl),
        ok_plain rfl rfl (op_move (ltN rfl) rfl),
        ok_plain rfl rfl (op_callLentL (ls := [⟨2, 3, [.i (idx a0 (x2.2.2.2.2 + 1))], [.i (idx a0 ((x2.2.2.2.2 + 1) + 1))]⟩, ⟨3, 22, [.v (.slice a0_p a0.length a0_c)], [.v (.slice a0_p a0.length a0_c)]⟩]) (x := .i (dv a0 ((x2.2.2.2.2 + 1)) 101)) (fs := []) (caps := [.p 2 0, .p 3 0]) (extra := []) (ltN rfl) en_83 rfl ⟨rfl, rfl, rfl⟩ (EvL.cons rfl EvL.nil) ⟨rfl, ⟨rfl, trivial⟩, rfl, lb_ne rfl, ⟨rfl, ⟨rfl, trivial⟩, rfl, lb_ne rfl, trivial⟩⟩ (fun mm aa ww gg hr hrel hbx hlo => c83L 101 ((x2.2.2.2.2 + 1)) (mm 2) a0 ⟨a0_p, a0.length, a0_c⟩ (mm 3) ww (hbx _ (.head _)) (hbx _ (.tail _ (.head _))) (SlIs.mono ha0 hrel.below) (sl_ne ha0 (box_hi hrel hlo.1)) (box_ne hrel hlo.2.2.2.2.1 hlo.1 (by decide)) (by decide) h8a0 hlena0)),
        ok_plain rfl rfl (op_bin (ltN rfl) rfl rfl (nw_mul hp16)),
        ok_plain rfl rfl (op_quo (ltN rfl) rfl rfl (by decide) (quo_nn hp17.1 (by decide) hp17.2)),
        ok_plain rfl rfl (op_assign (ltN rfl) rfl),
        ok_plain rfl rfl (op_assign (ltN rfl) rfl),
        trivial⟩ ?_
      refine fin_keep (s' := [kt 2 (.p 1 0), kt 3 (.f (.func 83) [] [.p 2 0, .p 3 0]), kt 4 (.p 4 0), kt 5 (.i ((x2.1 + 10) + (dv a0 x2.2.2.2.2 40))), kt 6 (.i ((x2.2.1 * (dv a0 ((x2.2.2.2.2 + 1)) 101)) / 100)), kt 45 (.i (1 + (dv a0 9 4))), kt 46 (.i x2.2.2.1), kb 1 25 11, kb 2 3 1, kb 3 22 1, kb 4 25 11, (.r 300, some (.vec true 301 84 2 (x2.2.2.2.1.flatMap encPt))), kc 1 0 (.i 0), kc 1 1 (.i 0), kc 1 2 (.i 0), kc 1 3 (.i 0), kc 1 4 (.v (.slice none 0 0)), kc 1 5 (.v (.slice none 0 0)), kc 1 6 (.v (.slice none 0 0)), kc 1 7 (.i 0), kc 1 8 (.i 0), kc 1 9 (.i 0), kc 1 10 (.i 0), kc 2 0 (.i (idx a0 ((x2.2.2.2.2 + 1) + 1))), kc 3 0 (.v (.slice a0_p a0.length a0_c)), kc 4 0 (.i (1 + (dv a0 0 6))), kc 4 1 (.i (100 + (390 * (dv a0 1 256)))), kc 4 2 (.i (10 + (7 * (dv a0 2 256)))), kc 4 3 (.i (10 + (1900 * (dv a0 3 256)))), kc 4 4 (.o 300 301 x2.2.2.2.1.length), kc 4 5 (.v (.slice none 0 0)), kc 4 6 (.v (.slice none 0 0)), kc 4 7 (.i (dv a0 4 21)), kc 4 8 (.i (dv a0 5 101)), kc 4 9 (.i (2 * (dv a0 6 240))), kc 4 10 (.i (4 * (dv a0 7 256)))]) ?_ (kp rfl) rfl
      refine fin_then ?_
      obtain ⟨hp18, hm⟩ := chk_some hm
      refine aw_text (rows := [_, _, _, _, _, _, _, _, _]) rfl (by kernel_rfl) ⟨
        ok_plain rfl rfl (op_fieldAddr (ltN rfl) rfl fo_25_4),
        ok_plain rfl rfl (op_load1 (ltN rfl) sh_23 rfl rfl),
        ok_plain rfl rfl (op_move (ltN rfl) rfl),
        ok_plain rfl rfl (op_move (ltN rfl) rfl),
        ok_plain rfl rfl (op_build (x := .g [.i ((x2.1 + 10) + (dv a0 x2.2.2.2.2 40)), .i ((x2.2.1 * (dv a0 ((x2.2.2.2.2 + 1)) 101)) / 100)]) (ltN rfl) (EvL.cons rfl (EvL.cons rfl EvL.nil)) (fun m w => by kernel_rfl)),
        ok_plain rfl rfl (op_buildSlice (L := 7) (ety := 84) (cs := [.i ((x2.1 + 10) + (dv a0 x2.2.2.2.2 40)), .i ((x2.2.1 * (dv a0 ((x2.2.2.2.2 + 1)) 101)) / 100)]) (ltN rfl) (EvL.cons rfl EvL.nil) rfl (fun m w => by kernel_rfl)),
        ok_plain rfl rfl (op_append (L' := 8) (C' := 9) (vs := [(.int .i64 ((x2.1 + 10) + (dv a0 x2.2.2.2.2 40))), (.int .i64 ((x2.2.1 * (dv a0 ((x2.2.2.2.2 + 1)) 101)) / 100))]) (ltN rfl) af_23 rfl rfl (flat_length (enc := encPt) (fun _ => rfl) x2.2.2.2.1) rfl ⟨rfl, rfl, trivial⟩ rfl rfl (by decide) (by have := hp18; omega) (by have := hp18; omega) (by decide)),
        ok_plain rfl rfl (op_fieldAddr (ltN rfl) rfl fo_25_4),
        ok_plain rfl rfl (op_store1 sz_23 rfl rfl rfl rfl (ltN rfl)),
        trivial⟩ ?_
      refine fin_keep (s' := [kt 2 (.p 1 0), kt 3 (.f (.func 83) [] [.p 2 0, .p 3 0]), kt 4 (.p 4 0), kt 5 (.i ((x2.1 + 10) + (dv a0 x2.2.2.2.2 40))), kt 6 (.i ((x2.2.1 * (dv a0 ((x2.2.2.2.2 + 1)) 101)) / 100)), kt 45 (.i (1 + (dv a0 9 4))), kt 46 (.i x2.2.2.1), kb 1 25 11, kb 2 3 1, kb 3 22 1, kb 4 25 11, (.r 8, some (.vec true 9 84 2 ((x2.2.2.2.1 ++ [(⟨(x2.1 + 10) + (dv a0 x2.2.2.2.2 40), (x2.2.1 * (dv a0 ((x2.2.2.2.2 + 1)) 101)) / 100⟩ : Pt)]).flatMap encPt))), kc 1 0 (.i 0), kc 1 1 (.i 0), kc 1 2 (.i 0), kc 1 3 (.i 0), kc 1 4 (.v (.slice none 0 0)), kc 1 5 (.v (.slice none 0 0)), kc 1 6 (.v (.slice none 0 0)), kc 1 7 (.i 0), kc 1 8 (.i 0), kc 1 9 (.i 0), kc 1 10 (.i 0), kc 2 0 (.i (idx a0 ((x2.2.2.2.2 + 1) + 1))), kc 3 0 (.v (.slice a0_p a0.length a0_c)), kc 4 0 (.i (1 + (dv a0 0 6))), kc 4 1 (.i (100 + (390 * (dv a0 1 256)))), kc 4 2 (.i (10 + (7 * (dv a0 2 256)))), kc 4 3 (.i (10 + (1900 * (dv a0 3 256)))), kc 4 4 (.o 8 9 ((x2.2.2.2.1 ++ [(⟨(x2.1 + 10) + (dv a0 x2.2.2.2.2 40), (x2.2.1 * (dv a0 ((x2.2.2.2.2 + 1)) 101)) / 100⟩ : Pt)]).length)), kc 4 5 (.v (.slice none 0 0)), kc 4 6 (.v (.slice none 0 0)), kc 4 7 (.i (dv a0 4 21)), kc 4 8 (.i (dv a0 5 101)), kc 4 9 (.i (2 * (dv a0 6 240))), kc 4 10 (.i (4 * (dv a0 7 256)))]) ?_ ⟨rfl, rfl, rfl, rfl, rfl, rfl, rfl, rfl, rfl, rfl, rfl, (Eq.trans (b := some (Val.vec true 9 84 2 (x2.2.2.2.1.flatMap encPt ++ [(.int .i64 ((x2.1 + 10) + (dv a0 x2.2.2.2.2 40))), (.int .i64 ((x2.2.1 * (dv a0 ((x2.2.2.2.2 + 1)) 101)) / 100))]))) rfl (congrArg (fun q => some (Val.vec true 9 84 2 q)) (flat_snoc (enc := encPt) x2.2.2.2.1 ((⟨(x2.1 + 10) + (dv a0 x2.2.2.2.2 40), (x2.2.1 * (dv a0 ((x2.2.2.2.2 + 1)) 101)) / 100⟩ : Pt))))), rfl, rfl, rfl, rfl, rfl, rfl, rfl, rfl, rfl, rfl, rfl, rfl, rfl, rfl, rfl, rfl, rfl, (congrArg (fun q => some (Val.x (SV.o 8 9 q))) (len_snoc x2.2.2.2.1 ((⟨(x2.1 + 10) + (dv a0 x2.2.2.2.2 40), (x2.2.1 * (dv a0 ((x2.2.2.2.2 + 1)) 101)) / 100⟩ : Pt)))), rfl, rfl, rfl, rfl, rfl, rfl, trivial⟩ rfl
      refine fin_block ?_
      refine fin_then ?_
      obtain ⟨hp19, hm⟩ := chk_some hm
      refine aw_text (rows := [_, _]) rfl (by kernel_rfl) ⟨
        ok_plain rfl rfl (op_bin (ltN rfl) rfl rfl (nw_add hp19)),
        ok_plain rfl rfl (op_move (ltN rfl) rfl),
        trivial⟩ ?_
      refine fin_keep (s' := [kt 2 (.p 1 0), kt 3 (.f (.func 83) [] [.p 2 0, .p 3 0]), kt 4 (.p 4 0), kt 5 (.i ((x2.1 + 10) + (dv a0 x2.2.2.2.2 40))), kt 6 (.i ((x2.2.1 * (dv a0 ((x2.2.2.2.2 + 1)) 101)) / 100)), kt 45 (.i (1 + (dv a0 9 4))), kt 46 (.i (x2.2.2.1 + 1)), kb 1 25 11, kb 2 3 1, kb 3 22 1, kb 4 25 11, (.r 8, some (.vec true 9 84 2 ((x2.2.2.2.1 ++ [(⟨(x2.1 + 10) + (dv a0 x2.2.2.2.2 40), (x2.2.1 * (dv a0 ((x2.2.2.2.2 + 1)) 101)) / 100⟩ : Pt)]).flatMap encPt))), kc 1 0 (.i 0), kc 1 1 (.i 0), kc 1 2 (.i 0), kc 1 3 (.i 0), kc 1 4 (.v (.slice none 0 0)), kc 1 5 (.v (.slice none 0 0)), kc 1 6 (.v (.slice none 0 0)), kc 1 7 (.i 0), kc 1 8 (.i 0), kc 1 9 (.i 0), kc 1 10 (.i 0), kc 2 0 (.i (idx a0 ((x2.2.2.2.2 + 1) + 1))), kc 3 0 (.v (.slice a0_p a0.length a0_c)), kc 4 0 (.i (1 + (dv a0 0 6))), kc 4 1 (.i (100 + (390 * (dv a0 1 256)))), kc 4 2 (.i (10 + (7 * (dv a0 2 256)))), kc 4 3 (.i (10 + (1900 * (dv a0 3 256)))), kc 4 4 (.o 8 9 ((x2.2.2.2.1 ++ [(⟨(x2.1 + 10) + (dv a0 x2.2.2.2.2 40), (x2.2.1 * (dv a0 ((x2.2.2.2.2 + 1)) 101)) / 100⟩ : Pt)]).length)), kc 4 5 (.v (.slice none 0 0)), kc 4 6 (.v (.slice none 0 0)), kc 4 7 (.i (dv a0 4 21)), kc 4 8 (.i (dv a0 5 101)), kc 4 9 (.i (2 * (dv a0 6 240))), kc 4 10 (.i (4 * (dv a0 7 256)))]) ?_ (kp rfl) rfl
      refine fin_swp [(8, 300), (9, 301)] rfl ?_
      exact fin_cut ((x2.1 + 10) + (dv a0 x2.2.2.2.2 40), (x2.2.1 * (dv a0 ((x2.2.2.2.2 + 1)) 101)) / 100, x2.2.2.1 + 1, (x2.2.2.2.1 ++ [(⟨(x2.1 + 10) + (dv a0 x2.2.2.2.2 40), (x2.2.1 * (dv a0 ((x2.2.2.2.2 + 1)) 101)) / 100⟩ : Pt)]), ((x2.2.2.2.2 + 1) + 1)) hm ⟨rfl, rfl, rfl, rfl, rfl, rfl, rfl, rfl, rfl, rfl, rfl, rfl, rfl, rfl, rfl, rfl, rfl, rfl, rfl, rfl, rfl, rfl, rfl, rfl, rfl, rfl, rfl, rfl, rfl, rfl, rfl, rfl, rfl, rfl, rfl, rfl, trivial⟩ rfl
    · have hm := brk_f hz13 hm
      refine aw_exit ?_
      refine fin_then_exit ?_
      refine fin_then_exit ?_
      refine fin_block_exit ?_
      exact fin_cut (x2.2.2.2.1, x2.2.2.2.2) hm ⟨rfl, rfl, rfl, rfl, rfl, rfl, rfl, rfl, rfl, rfl, rfl, rfl, rfl, rfl, rfl, rfl, rfl, rfl, rfl, rfl, rfl, rfl, rfl, rfl, rfl, rfl, rfl, rfl, rfl, rfl, rfl, rfl, trivial⟩ rfl
  · have _z := hm
    refine aw_seq ?_
    refine aw_text (rows := [_, _, _, _]) rfl (by kernel_rfl) ⟨
      ok_plain rfl rfl (op_move (ltN rfl) rfl),
      ok_plain rfl rfl (op_callLentL (ls := [⟨2, 3, [.i (idx a0 x1.2)], [.i (idx a0 (x1.2 + 1))]⟩, ⟨3, 22, [.v (.slice a0_p a0.length a0_c)], [.v (.slice a0_p a0.length a0_c)]⟩]) (x := .i (dv a0 x1.2 50)) (fs := []) (caps := [.p 2 0, .p 3 0]) (extra := []) (ltN rfl) en_83 rfl ⟨rfl, rfl, rfl⟩ (EvL.cons rfl EvL.nil) ⟨rfl, ⟨rfl, trivial⟩, rfl, lb_ne rfl, ⟨rfl, ⟨rfl, trivial⟩, rfl, lb_ne rfl, trivial⟩⟩ (fun mm aa ww gg hr hrel hbx hlo => c83L 50 x1.2 (mm 2) a0 ⟨a0_p, a0.length, a0_c⟩ (mm 3) ww (hbx _ (.head _)) (hbx _ (.tail _ (.head _))) (SlIs.mono ha0 hrel.below) (sl_ne ha0 (box_hi hrel hlo.1)) (box_ne hrel hlo.2.2.2.2.1 hlo.1 (by decide)) (by decide) h8a0 hlena0)),
      ok_plain rfl rfl (op_assign (ltN rfl) rfl),
      ok_plain rfl rfl (op_assign (ltN rfl) rfl),
      trivial⟩ ?_
    refine fin_keep (s' := [kt 2 (.p 1 0), kt 3 (.f (.func 83) [] [.p 2 0, .p 3 0]), kt 4 (.p 4 0), kt 5 (.i 0), kt 6 (.i (dv a0 x1.2 50)), kb 1 25 11, kb 2 3 1, kb 3 22 1, kb 4 25 11, (.r 300, some (.vec true 301 84 2 (x1.1.flatMap encPt))), kc 1 0 (.i 0), kc 1 1 (.i 0), kc 1 2 (.i 0), kc 1 3 (.i 0), kc 1 4 (.v (.slice none 0 0)), kc 1 5 (.v (.slice none 0 0)), kc 1 6 (.v (.slice none 0 0)), kc 1 7 (.i 0), kc 1 8 (.i 0), kc 1 9 (.i 0), kc 1 10 (.i 0), kc 2 0 (.i (idx a0 (x1.2 + 1))), kc 3 0 (.v (.slice a0_p a0.length a0_c)), kc 4 0 (.i (1 + (dv a0 0 6))), kc 4 1 (.i (100 + (390 * (dv a0 1 256)))), kc 4 2 (.i (10 + (7 * (dv a0 2 256)))), kc 4 3 (.i (10 + (1900 * (dv a0 3 256)))), kc 4 4 (.o 300 301 x1.1.length), kc 4 5 (.v (.slice none 0 0)), kc 4 6 (.v (.slice none 0 0)), kc 4 7 (.i (dv a0 4 21)), kc 4 8 (.i (dv a0 5 101)), kc 4 9 (.i (2 * (dv a0 6 240))), kc 4 10 (.i (4 * (dv a0 7 256)))]) ?_ (kp rfl) rfl
    refine fin_then ?_
    refine aw_seq ?_
    refine aw_text (rows := [_, _, _, _, _]) rfl (by kernel_rfl) ⟨
      ok_plain rfl rfl (op_move (ltN rfl) rfl),
      ok_plain rfl rfl (op_build (x := .g [.i 0, .i (dv a0 x1.2 50)]) (ltN rfl) (EvL.cons rfl (EvL.cons rfl EvL.nil)) (fun m w => by kernel_rfl)),
      ok_plain rfl rfl (op_buildSlice (L := 10) (ety := 84) (cs := [.i 0, .i (dv a0 x1.2 50)]) (ltN rfl) (EvL.cons rfl EvL.nil) rfl (fun m w => by kernel_rfl)),
      ok_plain rfl rfl (op_fieldAddr (ltN rfl) rfl fo_25_5),
      ok_plain rfl rfl (op_store1 sz_23 rfl rfl rfl rfl (ltN rfl)),
      trivial⟩ ?_
    refine fin_keep (s' := [kt 2 (.p 1 0), kt 3 (.f (.func 83) [] [.p 2 0, .p 3 0]), kt 4 (.p 4 0), kt 5 (.i 0), kt 6 (.i (dv a0 x1.2 50)), kb 1 25 11, kb 2 3 1, kb 3 22 1, kb 4 25 11, kb 10 84 2, (.r 300, some (.vec true 301 84 2 (x1.1.flatMap encPt))), kc 1 0 (.i 0), kc 1 1 (.i 0), kc 1 2 (.i 0), kc 1 3 (.i 0), kc 1 4 (.v (.slice none 0 0)), kc 1 5 (.v (.slice none 0 0)), kc 1 6 (.v (.slice none 0 0)), kc 1 7 (.i 0), kc 1 8 (.i 0), kc 1 9 (.i 0), kc 1 10 (.i 0), kc 2 0 (.i (idx a0 (x1.2 + 1))), kc 3 0 (.v (.slice a0_p a0.length a0_c)), kc 4 0 (.i (1 + (dv a0 0 6))), kc 4 1 (.i (100 + (390 * (dv a0 1 256)))), kc 4 2 (.i (10 + (7 * (dv a0 2 256)))), kc 4 3 (.i (10 + (1900 * (dv a0 3 256)))), kc 4 4 (.o 300 301 x1.1.length), kc 4 5 (.s 10 0 1 1), kc 4 6 (.v (.slice none 0 0)), kc 4 7 (.i (dv a0 4 21)), kc 4 8 (.i (dv a0 5 101)), kc 4 9 (.i (2 * (dv a0 6 240))), kc 4 10 (.i (4 * (dv a0 7 256))), kc 10 0 (.i 0), kc 10 1 (.i (dv a0 x1.2 50))]) ?_ (kp rfl) rfl
    refine fin_then ?_
    refine aw_cutM (ι := List Pt × Nat) hm (fun x3 => [kt 2 (.p 1 0), kt 3 (.f (.func 83) [] [.p 2 0, .p 3 0]), kt 4 (.p 4 0), kb 1 25 11, kb 2 3 1, kb 3 22 1, kb 4 25 11, (.r 300, some (.vec true 301 84 2 (x1.1.flatMap encPt))), (.r 302, some (.vec true 303 84 2 (x3.1.flatMap encPt))), kc 1 0 (.i 0), kc 1 1 (.i 0), kc 1 2 (.i 0), kc 1 3 (.i 0), kc 1 4 (.v (.slice none 0 0)), kc 1 5 (.v (.slice none 0 0)), kc 1 6 (.v (.slice none 0 0)), kc 1 7 (.i 0), kc 1 8 (.i 0), kc 1 9 (.i 0), kc 1 10 (.i 0), kc 2 0 (.i (idx a0 x3.2)), kc 3 0 (.v (.slice a0_p a0.length a0_c)), kc 4 0 (.i (1 + (dv a0 0 6))), kc 4 1 (.i (100 + (390 * (dv a0 1 256)))), kc 4 2 (.i (10 + (7 * (dv a0 2 256)))), kc 4 3 (.i (10 + (1900 * (dv a0 3 256)))), kc 4 4 (.o 300 301 x1.1.length), kc 4 5 (.o 302 303 x3.1.length), kc 4 6 (.v (.slice none 0 0)), kc 4 7 (.i (dv a0 4 21)), kc 4 8 (.i (dv a0 5 101)), kc 4 9 (.i (2 * (dv a0 6 240))), kc 4 10 (.i (4 * (dv a0 7 256)))]) (fun hm => ?_) (fun x3 hm => ?_)
    · have _z := hm
      refine aw_seq ?_
      obtain ⟨hp20, hm⟩ := chk_some hm
      refine aw_text (rows := [_, _, _, _]) rfl (by kernel_rfl) ⟨
        ok_plain rfl rfl (op_move (ltN rfl) rfl),
        ok_plain rfl rfl (op_callLentL (ls := [⟨2, 3, [.i (idx a0 (x1.2 + 1))], [.i (idx a0 ((x1.2 + 1) + 1))]⟩, ⟨3, 22, [.v (.slice a0_p a0.length a0_c)], [.v (.slice a0_p a0.length a0_c)]⟩]) (x := .i (dv a0 ((x1.2 + 1)) 3)) (fs := []) (caps := [.p 2 0, .p 3 0]) (extra := []) (ltN rfl) en_83 rfl ⟨rfl, rfl, rfl⟩ (EvL.cons rfl EvL.nil) ⟨rfl, ⟨rfl, trivial⟩, rfl, lb_ne rfl, ⟨rfl, ⟨rfl, trivial⟩, rfl, lb_ne rfl, trivial⟩⟩ (fun mm aa ww gg hr hrel hbx hlo => c83L 3 ((x1.2 + 1)) (mm 2) a0 ⟨a0_p, a0.length, a0_c⟩ (mm 3) ww (hbx _ (.head _)) (hbx _ (.tail _ (.head _))) (SlIs.mono ha0 hrel.below) (sl_ne ha0 (box_hi hrel hlo.1)) (box_ne hrel hlo.2.2.2.2.1 hlo.1 (by decide)) (by decide) h8a0 hlena0)),
        ok_plain rfl rfl (op_bin (ltN rfl) rfl rfl (nw_add hp20)),
        ok_plain rfl rfl (op_move (ltN rfl) rfl),
        trivial⟩ ?_
      refine fin_keep (s' := [kt 2 (.p 1 0), kt 3 (.f (.func 83) [] [.p 2 0, .p 3 0]), kt 4 (.p 4 0), kt 5 (.i 0), kt 6 (.i (dv a0 x1.2 50)), kt 75 (.i (1 + (dv a0 ((x1.2 + 1)) 3))), kt 76 (.i 0), kb 1 25 11, kb 2 3 1, kb 3 22 1, kb 4 25 11, kb 10 84 2, (.r 300, some (.vec true 301 84 2 (x1.1.flatMap encPt))), kc 1 0 (.i 0), kc 1 1 (.i 0), kc 1 2 (.i 0), kc 1 3 (.i 0), kc 1 4 (.v (.slice none 0 0)), kc 1 5 (.v (.slice none 0 0)), kc 1 6 (.v (.slice none 0 0)), kc 1 7 (.i 0), kc 1 8 (.i 0), kc 1 9 (.i 0), kc 1 10 (.i 0), kc 2 0 (.i (idx a0 ((x1.2 + 1) + 1))), kc 3 0 (.v (.slice a0_p a0.length a0_c)), kc 4 0 (.i (1 + (dv a0 0 6))), kc 4 1 (.i (100 + (390 * (dv a0 1 256)))), kc 4 2 (.i (10 + (7 * (dv a0 2 256)))), kc 4 3 (.i (10 + (1900 * (dv a0 3 256)))), kc 4 4 (.o 300 301 x1.1.length), kc 4 5 (.s 10 0 1 1), kc 4 6 (.v (.slice none 0 0)), kc 4 7 (.i (dv a0 4 21)), kc 4 8 (.i (dv a0 5 101)), kc 4 9 (.i (2 * (dv a0 6 240))), kc 4 10 (.i (4 * (dv a0 7 256))), kc 10 0 (.i 0), kc 10 1 (.i (dv a0 x1.2 50))]) ?_ (kp rfl) rfl
      refine fin_then ?_
      refine aw_block ?_
      refine aw_toRow (.c 4 5) 10 11 1 2 [(.int .i64 0), (.int .i64 (dv a0 x1.2 50))] rfl rfl rfl rfl (by decide) ⟨rfl, rfl, trivial⟩ rfl (by decide) rfl ?_
      refine aw_swp [(10, 302), (11, 303)] rfl ?_
      refine aw_loopC hm (fun x4 => [kt 2 (.p 1 0), kt 3 (.f (.func 83) [] [.p 2 0, .p 3 0]), kt 4 (.p 4 0), kt 5 (.i x4.1), kt 6 (.i x4.2.1), kt 75 (.i (1 + (dv a0 ((x1.2 + 1)) 3))), kt 76 (.i x4.2.2.1), kb 1 25 11, kb 2 3 1, kb 3 22 1, kb 4 25 11, (.r 300, some (.vec true 301 84 2 (x1.1.flatMap encPt))), (.r 302, some (.vec true 303 84 2 (x4.2.2.2.1.flatMap encPt))), kc 1 0 (.i 0), kc 1 1 (.i 0), kc 1 2 (.i 0), kc 1 3 (.i 0), kc 1 4 (.v (.slice none 0 0)), kc 1 5 (.v (.slice none 0 0)), kc 1 6 (.v (.slice none 0 0)), kc 1 7 (.i 0), kc 1 8 (.i 0), kc 1 9 (.i 0), kc 1 10 (.i 0), kc 2 0 (.i (idx a0 x4.2.2.2.2)), kc 3 0 (.v (.slice a0_p a0.length a0_c)), kc 4 0 (.i (1 + (dv a0 0 6))), kc 4 1 (.i (100 + (390 * (dv a0 1 256)))), kc 4 2 (.i (10 + (7 * (dv a0 2 256)))), kc 4 3 (.i (10 + (1900 * (dv a0 3 256)))), kc 4 4 (.o 300 301 x1.1.length), kc 4 5 (.o 302 303 x4.2.2.2.1.length), kc 4 6 (.v (.slice none 0 0)), kc 4 7 (.i (dv a0 4 21)), kc 4 8 (.i (dv a0 5 101)), kc 4 9 (.i (2 * (dv a0 6 240))), kc 4 10 (.i (4 * (dv a0 7 256)))]) ⟨rfl, rfl, rfl, rfl, rfl, rfl, rfl, rfl, rfl, rfl, rfl, rfl, rfl, rfl, rfl, rfl, rfl, rfl, rfl, rfl, rfl, rfl, rfl, rfl, rfl, rfl, rfl, rfl, rfl, rfl, rfl, rfl, rfl, rfl, rfl, rfl, rfl, trivial⟩ rfl (fun x4 n4 hm => ?_)
      refine aw_seq ?_
      refine aw_text (rows := [_]) rfl (by kernel_rfl) ⟨
        ok_plain rfl rfl (op_bin (ltN rfl) rfl rfl rfl),
        trivial⟩ ?_
      refine fin_keep (s' := [kt 2 (.p 1 0), kt 3 (.f (.func 83) [] [.p 2 0, .p 3 0]), kt 4 (.p 4 0), kt 5 (.i x4.1), kt 6 (.i x4.2.1), kt 75 (.i (1 + (dv a0 ((x1.2 + 1)) 3))), kt 76 (.i x4.2.2.1), kt 77 (.B (decide (x4.2.2.1 < (1 + (dv a0 ((x1.2 + 1)) 3))))), kb 1 25 11, kb 2 3 1, kb 3 22 1, kb 4 25 11, (.r 300, some (.vec true 301 84 2 (x1.1.flatMap encPt))), (.r 302, some (.vec true 303 84 2 (x4.2.2.2.1.flatMap encPt))), kc 1 0 (.i 0), kc 1 1 (.i 0), kc 1 2 (.i 0), kc 1 3 (.i 0), kc 1 4 (.v (.slice none 0 0)), kc 1 5 (.v (.slice none 0 0)), kc 1 6 (.v (.slice none 0 0)), kc 1 7 (.i 0), kc 1 8 (.i 0), kc 1 9 (.i 0), kc 1 10 (.i 0), kc 2 0 (.i (idx a0 x4.2.2.2.2)), kc 3 0 (.v (.slice a0_p a0.length a0_c)), kc 4 0 (.i (1 + (dv a0 0 6))), kc 4 1 (.i (100 + (390 * (dv a0 1 256)))), kc 4 2 (.i (10 + (7 * (dv a0 2 256)))), kc 4 3 (.i (10 + (1900 * (dv a0 3 256)))), kc 4 4 (.o 300 301 x1.1.length), kc 4 5 (.o 302 303 x4.2.2.2.1.length), kc 4 6 (.v (.slice none 0 0)), kc 4 7 (.i (dv a0 4 21)), kc 4 8 (.i (dv a0 5 101)), kc 4 9 (.i (2 * (dv a0 6 240))), kc 4 10 (.i (4 * (dv a0 7 256)))]) ?_ (kp rfl) rfl
      refine fin_then ?_
      refine aw_seq ?_
      refine aw_cond rfl (fun hz21 => ?_) (fun hz21 => ?_)
      · have hm := brk_t hz21 hm
        refine aw_skip ?_
        refine fin_then ?_
        refine aw_seq ?_
        refine aw_block ?_
        refine aw_seq ?_
        obtain ⟨hp22, hm⟩ := chk_some hm
        obtain ⟨hp23, hm⟩ := chk_some hm
        obtain ⟨hp24, hm⟩ := chk_some hm
        obtain ⟨hp25, hm⟩ := chk_some hm
        refine aw_text (rows := [_, _, _, _, _, _, _, _, _, _, _, _]) rfl (by kernel_rfl) ⟨
          ok_plain rfl rfl (op_move (ltN rfl) rfl),
          ok_plain rfl rfl (op_bin (ltN rfl) rfl rfl (nw_add hp22)),
          ok_plain rfl rfl (op_move (ltN rfl) rfl),
          ok_plain rfl rfl (op_callLentL (ls := [⟨2, 3, [.i (idx a0 x4.2.2.2.2)], [.i (idx a0 (x4.2.2.2.2 + 1))]⟩, ⟨3, 22, [.v (.slice a0_p a0.length a0_c)], [.v (.slice a0_p a0.length a0_c)]⟩]) (x := .i (dv a0 x4.2.2.2.2 80)) (fs := []) (caps := [.p 2 0, .p 3 0]) (extra := []) (ltN rfl) en_83 rfl ⟨rfl, rfl, rfl⟩ (EvL.cons rfl EvL.nil) ⟨rfl, ⟨rfl, trivial⟩, rfl, lb_ne rfl, ⟨rfl, ⟨rfl, trivial⟩, rfl, lb_ne rfl, trivial⟩⟩ (fun mm aa ww gg hr hrel hbx hlo => c83L 80 x4.2.2.2.2 (mm 2) a0 ⟨a0_p, a0.length, a0_c⟩ (mm 3) ww (hbx _ (.head _)) (hbx _ (.tail _ (.head _))) (SlIs.mono ha0 hrel.below) (sl_ne ha0 (box_hi hrel hlo.1)) (box_ne hrel hlo.2.2.2.2.1 hlo.1 (by decide)) (by decide) h8a0 hlena0)),
          ok_plain rfl rfl (op_bin (ltN rfl) rfl rfl (nw_add hp23)),
          ok_plain rfl rfl (op_move (ltN rfl) rfl),
          ok_plain rfl rfl (op_move (ltN rfl) rfl),
          ok_plain rfl rfl (op_callLentL (ls := [⟨2, 3, [.i (idx a0 (x4.2.2.2.2 + 1))], [.i (idx a0 ((x4.2.2.2.2 + 1) + 1))]⟩, ⟨3, 22, [.v (.slice a0_p a0.length a0_c)], [.v (.slice a0_p a0.length a0_c)]⟩]) (x := .i (dv a0 ((x4.2.2.2.2 + 1)) 256)) (fs := []) (caps := [.p 2 0, .p 3 0]) (extra := []) (ltN rfl) en_83 rfl ⟨rfl, rfl, rfl⟩ (EvL.cons rfl EvL.nil) ⟨rfl, ⟨rfl, trivial⟩, rfl, lb_ne rfl, ⟨rfl, ⟨rfl, trivial⟩, rfl, lb_ne rfl, trivial⟩⟩ (fun mm aa ww gg hr hrel hbx hlo => c83L 256 ((x4.2.2.2.2 + 1)) (mm 2) a0 ⟨a0_p, a0.length, a0_c⟩ (mm 3) ww (hbx _ (.head _)) (hbx _ (.tail _ (.head _))) (SlIs.mono ha0 hrel.below) (sl_ne ha0 (box_hi hrel hlo.1)) (box_ne hrel hlo.2.2.2.2.1 hlo.1 (by decide)) (by decide) h8a0 hlena0)),
          ok_plain rfl rfl (op_bin (ltN rfl) rfl rfl (nw_mul hp24)),
          ok_plain rfl rfl (op_bin (ltN rfl) rfl rfl (nw_add hp25)),
          ok_plain rfl rfl (op_assign (ltN rfl) rfl),
          ok_plain rfl rfl (op_assign (ltN rfl) rfl),
          trivial⟩ ?_
        refine fin_keep (s' := [kt 2 (.p 1 0), kt 3 (.f (.func 83) [] [.p 2 0, .p 3 0]), kt 4 (.p 4 0), kt 5 (.i ((x4.1 + 1) + (dv a0 x4.2.2.2.2 80))), kt 6 (.i (x4.2.1 + (3 * (dv a0 ((x4.2.2.2.2 + 1)) 256)))), kt 75 (.i (1 + (dv a0 ((x1.2 + 1)) 3))), kt 76 (.i x4.2.2.1), kb 1 25 11, kb 2 3 1, kb 3 22 1, kb 4 25 11, (.r 300, some (.vec true 301 84 2 (x1.1.flatMap encPt))), (.r 302, some (.vec true 303 84 2 (x4.2.2.2.1.flatMap encPt))), kc 1 0 (.i 0), kc 1 1 (.i 0), kc 1 2 (.i 0), kc 1 3 (.i 0), kc 1 4 (.v (.slice none 0 0)), kc 1 5 (.v (.slice none 0 0)), kc 1 6 (.v (.slice none 0 0)), kc 1 7 (.i 0), kc 1 8 (.i 0), kc 1 9 (.i 0), kc 1 10 (.i 0), kc 2 0 (.i (idx a0 ((x4.2.2.2.2 + 1) + 1))), kc 3 0 (.v (.slice a0_p a0.length a0_c)), kc 4 0 (.i (1 + (dv a0 0 6))), kc 4 1 (.i (100 + (390 * (dv a0 1 256)))), kc 4 2 (.i (10 + (7 * (dv a0 2 256)))), kc 4 3 (.i (10 + (1900 * (dv a0 3 256)))), kc 4 4 (.o 300 301 x1.1.length), kc 4 5 (.o 302 303 x4.2.2.2.1.length), kc 4 6 (.v (.slice none 0 0)), kc 4 7 (.i (dv a0 4 21)), kc 4 8 (.i (dv a0 5 101)), kc 4 9 (.i (2 * (dv a0 6 240))), kc 4 10 (.i (4 * (dv a0 7 256)))]) ?_ (kp rfl) rfl
        refine fin_then ?_
        obtain ⟨hp26, hm⟩ := chk_some hm
        refine aw_text (rows := [_, _, _, _, _, _, _, _, _]) rfl (by kernel_rfl) ⟨
          ok_plain rfl rfl (op_fieldAddr (ltN rfl) rfl fo_25_5),
          ok_plain rfl rfl (op_load1 (ltN rfl) sh_23 rfl rfl),
          ok_plain rfl rfl (op_move (ltN rfl) rfl),
          ok_plain rfl rfl (op_move (ltN rfl) rfl),
          ok_plain rfl rfl (op_build (x := .g [.i ((x4.1 + 1) + (dv a0 x4.2.2.2.2 80)), .i (x4.2.1 + (3 * (dv a0 ((x4.2.2.2.2 + 1)) 256)))]) (ltN rfl) (EvL.cons rfl (EvL.cons rfl EvL.nil)) (fun m w => by kernel_rfl)),
          ok_plain rfl rfl (op_buildSlice (L := 12) (ety := 84) (cs := [.i ((x4.1 + 1) + (dv a0 x4.2.2.2.2 80)), .i (x4.2.1 + (3 * (dv a0 ((x4.2.2.2.2 + 1)) 256)))]) (ltN rfl) (EvL.cons rfl EvL.nil) rfl (fun m w => by kernel_rfl)),
          ok_plain rfl rfl (op_append (L' := 13) (C' := 14) (vs := [(.int .i64 ((x4.1 + 1) + (dv a0 x4.2.2.2.2 80))), (.int .i64 (x4.2.1 + (3 * (dv a0 ((x4.2.2.2.2 + 1)) 256))))]) (ltN rfl) af_23 rfl rfl (flat_length (enc := encPt) (fun _ => rfl) x4.2.2.2.1) rfl ⟨rfl, rfl, trivial⟩ rfl rfl (by decide) (by have := hp26; omega) (by have := hp26; omega) (by decide)),
          ok_plain rfl rfl (op_fieldAddr (ltN rfl) rfl fo_25_5),
          ok_plain rfl rfl (op_store1 sz_23 rfl rfl rfl rfl (ltN rfl)),
          trivial⟩ ?_
        refine fin_keep (s' := [kt 2 (.p 1 0), kt 3 (.f (.func 83) [] [.p 2 0, .p 3 0]), kt 4 (.p 4 0), kt 5 (.i ((x4.1 + 1) + (dv a0 x4.2.2.2.2 80))), kt 6 (.i (x4.2.1 + (3 * (dv a0 ((x4.2.2.2.2 + 1)) 256)))), kt 75 (.i (1 + (dv a0 ((x1.2 + 1)) 3))), kt 76 (.i x4.2.2.1), kb 1 25 11, kb 2 3 1, kb 3 22 1, kb 4 25 11, (.r 13, some (.vec true 14 84 2 ((x4.2.2.2.1 ++ [(⟨(x4.1 + 1) + (dv a0 x4.2.2.2.2 80), x4.2.1 + (3 * (dv a0 ((x4.2.2.2.2 + 1)) 256))⟩ : Pt)]).flatMap encPt))), (.r 300, some (.vec true 301 84 2 (x1.1.flatMap encPt))), kc 1 0 (.i 0), kc 1 1 (.i 0), kc 1 2 (.i 0), kc 1 3 (.i 0), kc 1 4 (.v (.slice none 0 0)), kc 1 5 (.v (.slice none 0 0)), kc 1 6 (.v (.slice none 0 0)), kc 1 7 (.i 0), kc 1 8 (.i 0), kc 1 9 (.i 0), kc 1 10 (.i 0), kc 2 0 (.i (idx a0 ((x4.2.2.2.2 + 1) + 1))), kc 3 0 (.v (.slice a0_p a0.length a0_c)), kc 4 0 (.i (1 + (dv a0 0 6))), kc 4 1 (.i (100 + (390 * (dv a0 1 256)))), kc 4 2 (.i (10 + (7 * (dv a0 2 256)))), kc 4 3 (.i (10 + (1900 * (dv a0 3 256)))), kc 4 4 (.o 300 301 x1.1.length), kc 4 5 (.o 13 14 ((x4.2.2.2.1 ++ [(⟨(x4.1 + 1) + (dv a0 x4.2.2.2.2 80), x4.2.1 + (3 * (dv a0 ((x4.2.2.2.2 + 1)) 256))⟩ : Pt)]).length)), kc 4 6 (.v (.slice none 0 0)), kc 4 7 (.i (dv a0 4 21)), kc 4 8 (.i (dv a0 5 101)), kc 4 9 (.i (2 * (dv a0 6 240))), kc 4 10 (.i (4 * (dv a0 7 256)))]) ?_ ⟨rfl, rfl, rfl, rfl, rfl, rfl, rfl, rfl, rfl, rfl, rfl, (Eq.trans (b := some (Val.vec true 14 84 2 (x4.2.2.2.1.flatMap encPt ++ [(.int .i64 ((x4.1 + 1) + (dv a0 x4.2.2.2.2 80))), (.int .i64 (x4.2.1 + (3 * (dv a0 ((x4.2.2.2.2 + 1)) 256))))]))) rfl (congrArg (fun q => some (Val.vec true 14 84 2 q)) (flat_snoc (enc := encPt) x4.2.2.2.1 ((⟨(x4.1 + 1) + (dv a0 x4.2.2.2.2 80), x4.2.1 + (3 * (dv a0 ((x4.2.2.2.2 + 1)) 256))⟩ : Pt))))), rfl, rfl, rfl, rfl, rfl, rfl, rfl, rfl, rfl, rfl, rfl, rfl, rfl, rfl, rfl, rfl, rfl, rfl, rfl, (congrArg (fun q => some (Val.x (SV.o 13 14 q))) (len_snoc x4.2.2.2.1 ((⟨(x4.1 + 1) + (dv a0 x4.2.2.2.2 80), x4.2.1 + (3 * (dv a0 ((x4.2.2.2.2 + 1)) 256))⟩ : Pt)))), rfl, rfl, rfl, rfl, rfl, trivial⟩ rfl
        refine fin_block ?_
        refine fin_then ?_
        obtain ⟨hp27, hm⟩ := chk_some hm
        refine aw_text (rows := [_, _]) rfl (by kernel_rfl) ⟨
          ok_plain rfl rfl (op_bin (ltN rfl) rfl rfl (nw_add hp27)),
          ok_plain rfl rfl (op_move (ltN rfl) rfl),
          trivial⟩ ?_
        refine fin_keep (s' := [kt 2 (.p 1 0), kt 3 (.f (.func 83) [] [.p 2 0, .p 3 0]), kt 4 (.p 4 0), kt 5 (.i ((x4.1 + 1) + (dv a0 x4.2.2.2.2 80))), kt 6 (.i (x4.2.1 + (3 * (dv a0 ((x4.2.2.2.2 + 1)) 256)))), kt 75 (.i (1 + (dv a0 ((x1.2 + 1)) 3))), kt 76 (.i (x4.2.2.1 + 1)), kb 1 25 11, kb 2 3 1, kb 3 22 1, kb 4 25 11, (.r 13, some (.vec true 14 84 2 ((x4.2.2.2.1 ++ [(⟨(x4.1 + 1) + (dv a0 x4.2.2.2.2 80), x4.2.1 + (3 * (dv a0 ((x4.2.2.2.2 + 1)) 256))⟩ : Pt)]).flatMap encPt))), (.r 300, some (.vec true 301 84 2 (x1.1.flatMap encPt))), kc 1 0 (.i 0), kc 1 1 (.i 0), kc 1 2 (.i 0), kc 1 3 (.i 0), kc 1 4 (.v (.slice none 0 0)), kc 1 5 (.v (.slice none 0 0)), kc 1 6 (.v (.slice none 0 0)), kc 1 7 (.i 0), kc 1 8 (.i 0), kc 1 9 (.i 0), kc 1 10 (.i 0), kc 2 0 (.i (idx a0 ((x4.2.2.2.2 + 1) + 1))), kc 3 0 (.v (.slice a0_p a0.length a0_c)), kc 4 0 (.i (1 + (dv a0 0 6))), kc 4 1 (.i (100 + (390 * (dv a0 1 256)))), kc 4 2 (.i (10 + (7 * (dv a0 2 256)))), kc 4 3 (.i (10 + (1900 * (dv a0 3 256)))), kc 4 4 (.o 300 301 x1.1.length), kc 4 5 (.o 13 14 ((x4.2.2.2.1 ++ [(⟨(x4.1 + 1) + (dv a0 x4.2.2.2.2 80), x4.2.1 + (3 * (dv a0 ((x4.2.2.2.2 + 1)) 256))⟩ : Pt)]).length)), kc 4 6 (.v (.slice none 0 0)), kc 4 7 (.i (dv a0 4 21)), kc 4 8 (.i (dv a0 5 101)), kc 4 9 (.i (2 * (dv a0 6 240))), kc 4 10 (.i (4 * (dv a0 7 256)))]) ?_ (kp rfl) rfl
        refine fin_swp [(13, 302), (14, 303)] rfl ?_
        exact fin_cut ((x4.1 + 1) + (dv a0 x4.2.2.2.2 80), x4.2.1 + (3 * (dv a0 ((x4.2.2.2.2 + 1)) 256)), x4.2.2.1 + 1, (x4.2.2.2.1 ++ [(⟨(x4.1 + 1) + (dv a0 x4.2.2.2.2 80), x4.2.1 + (3 * (dv a0 ((x4.2.2.2.2 + 1)) 256))⟩ : Pt)]), ((x4.2.2.2.2 + 1) + 1)) hm ⟨rfl, rfl, rfl, rfl, rfl, rfl, rfl, rfl, rfl, rfl, rfl, rfl, rfl, rfl, rfl, rfl, rfl, rfl, rfl, rfl, rfl, rfl, rfl, rfl, rfl, rfl, rfl, rfl, rfl, rfl, rfl, rfl, rfl, rfl, rfl, rfl, rfl, trivial⟩ rfl
      · have hm := brk_f hz21 hm
        refine aw_exit ?_
        refine fin_then_exit ?_
        refine fin_then_exit ?_
        refine fin_block_exit ?_
        exact fin_cut (x4.2.2.2.1, x4.2.2.2.2) hm ⟨rfl, rfl, rfl, rfl, rfl, rfl, rfl, rfl, rfl, rfl, rfl, rfl, rfl, rfl, rfl, rfl, rfl, rfl, rfl, rfl, rfl, rfl, rfl, rfl, rfl, rfl, rfl, rfl, rfl, rfl, rfl, rfl, rfl, trivial⟩ rfl
    · have _z := hm
      refine aw_seq ?_
      refine aw_text (rows := [_, _]) rfl (by kernel_rfl) ⟨
        ok_plain rfl rfl (op_assign (ltN rfl) rfl),
        ok_plain rfl rfl (op_assign (ltN rfl) rfl),
        trivial⟩ ?_
      refine fin_keep (s' := [kt 2 (.p 1 0), kt 3 (.f (.func 83) [] [.p 2 0, .p 3 0]), kt 4 (.p 4 0), kt 5 (.i 0), kt 6 (.i 0), kb 1 25 11, kb 2 3 1, kb 3 22 1, kb 4 25 11, (.r 300, some (.vec true 301 84 2 (x1.1.flatMap encPt))), (.r 302, some (.vec true 303 84 2 (x3.1.flatMap encPt))), kc 1 0 (.i 0), kc 1 1 (.i 0), kc 1 2 (.i 0), kc 1 3 (.i 0), kc 1 4 (.v (.slice none 0 0)), kc 1 5 (.v (.slice none 0 0)), kc 1 6 (.v (.slice none 0 0)), kc 1 7 (.i 0), kc 1 8 (.i 0), kc 1 9 (.i 0), kc 1 10 (.i 0), kc 2 0 (.i (idx a0 x3.2)), kc 3 0 (.v (.slice a0_p a0.length a0_c)), kc 4 0 (.i (1 + (dv a0 0 6))), kc 4 1 (.i (100 + (390 * (dv a0 1 256)))), kc 4 2 (.i (10 + (7 * (dv a0 2 256)))), kc 4 3 (.i (10 + (1900 * (dv a0 3 256)))), kc 4 4 (.o 300 301 x1.1.length), kc 4 5 (.o 302 303 x3.1.length), kc 4 6 (.v (.slice none 0 0)), kc 4 7 (.i (dv a0 4 21)), kc 4 8 (.i (dv a0 5 101)), kc 4 9 (.i (2 * (dv a0 6 240))), kc 4 10 (.i (4 * (dv a0 7 256)))]) ?_ (kp rfl) rfl
      refine fin_then ?_
      refine aw_seq ?_
      refine aw_text (rows := [_, _, _, _]) rfl (by kernel_rfl) ⟨
        ok_plain rfl rfl (op_build (x := .g [.i 0, .i 0]) (ltN rfl) EvL.nil (fun m w => by kernel_rfl)),
        ok_plain rfl rfl (op_buildSlice (L := 15) (ety := 84) (cs := [.i 0, .i 0]) (ltN rfl) (EvL.cons rfl EvL.nil) rfl (fun m w => by kernel_rfl)),
        ok_plain rfl rfl (op_fieldAddr (ltN rfl) rfl fo_25_6),
        ok_plain rfl rfl (op_store1 sz_23 rfl rfl rfl rfl (ltN rfl)),
        trivial⟩ ?_
      refine fin_keep (s' := [kt 2 (.p 1 0), kt 3 (.f (.func 83) [] [.p 2 0, .p 3 0]), kt 4 (.p 4 0), kt 5 (.i 0), kt 6 (.i 0), kb 1 25 11, kb 2 3 1, kb 3 22 1, kb 4 25 11, kb 15 84 2, (.r 300, some (.vec true 301 84 2 (x1.1.flatMap encPt))), (.r 302, some (.vec true 303 84 2 (x3.1.flatMap encPt))), kc 1 0 (.i 0), kc 1 1 (.i 0), kc 1 2 (.i 0), kc 1 3 (.i 0), kc 1 4 (.v (.slice none 0 0)), kc 1 5 (.v (.slice none 0 0)), kc 1 6 (.v (.slice none 0 0)), kc 1 7 (.i 0), kc 1 8 (.i 0), kc 1 9 (.i 0), kc 1 10 (.i 0), kc 2 0 (.i (idx a0 x3.2)), kc 3 0 (.v (.slice a0_p a0.length a0_c)), kc 4 0 (.i (1 + (dv a0 0 6))), kc 4 1 (.i (100 + (390 * (dv a0 1 256)))), kc 4 2 (.i (10 + (7 * (dv a0 2 256)))), kc 4 3 (.i (10 + (1900 * (dv a0 3 256)))), kc 4 4 (.o 300 301 x1.1.length), kc 4 5 (.o 302 303 x3.1.length), kc 4 6 (.s 15 0 1 1), kc 4 7 (.i (dv a0 4 21)), kc 4 8 (.i (dv a0 5 101)), kc 4 9 (.i (2 * (dv a0 6 240))), kc 4 10 (.i (4 * (dv a0 7 256))), kc 15 0 (.i 0), kc 15 1 (.i 0)]) ?_ (kp rfl) rfl
      refine fin_then ?_
      refine aw_cutM (ι := Int × List Pt × Nat) hm (fun x5 => [kt 2 (.p 1 0), kt 3 (.f (.func 83) [] [.p 2 0, .p 3 0]), kt 4 (.p 4 0), kt 6 (.i x5.1), kb 1 25 11, kb 2 3 1, kb 3 22 1, kb 4 25 11, (.r 300, some (.vec true 301 84 2 (x1.1.flatMap encPt))), (.r 302, some (.vec true 303 84 2 (x3.1.flatMap encPt))), (.r 304, some (.vec true 305 84 2 (x5.2.1.flatMap encPt))), kc 1 0 (.i 0), kc 1 1 (.i 0), kc 1 2 (.i 0), kc 1 3 (.i 0), kc 1 4 (.v (.slice none 0 0)), kc 1 5 (.v (.slice none 0 0)), kc 1 6 (.v (.slice none 0 0)), kc 1 7 (.i 0), kc 1 8 (.i 0), kc 1 9 (.i 0), kc 1 10 (.i 0), kc 2 0 (.i (idx a0 x5.2.2)), kc 3 0 (.v (.slice a0_p a0.length a0_c)), kc 4 0 (.i (1 + (dv a0 0 6))), kc 4 1 (.i (100 + (390 * (dv a0 1 256)))), kc 4 2 (.i (10 + (7 * (dv a0 2 256)))), kc 4 3 (.i (10 + (1900 * (dv a0 3 256)))), kc 4 4 (.o 300 301 x1.1.length), kc 4 5 (.o 302 303 x3.1.length), kc 4 6 (.o 304 305 x5.2.1.length), kc 4 7 (.i (dv a0 4 21)), kc 4 8 (.i (dv a0 5 101)), kc 4 9 (.i (2 * (dv a0 6 240))), kc 4 10 (.i (4 * (dv a0 7 256)))]) (fun hm => ?_) (fun x5 hm => ?_)
      · have _z := hm
        refine aw_seq ?_
        refine aw_text (rows := [_, _, _]) rfl (by kernel_rfl) ⟨
          ok_plain rfl rfl (op_move (ltN rfl) rfl),
          ok_plain rfl rfl (op_callLentL (ls := [⟨2, 3, [.i (idx a0 x3.2)], [.i (idx a0 (x3.2 + 1))]⟩, ⟨3, 22, [.v (.slice a0_p a0.length a0_c)], [.v (.slice a0_p a0.length a0_c)]⟩]) (x := .i (dv a0 x3.2 4)) (fs := []) (caps := [.p 2 0, .p 3 0]) (extra := []) (ltN rfl) en_83 rfl ⟨rfl, rfl, rfl⟩ (EvL.cons rfl EvL.nil) ⟨rfl, ⟨rfl, trivial⟩, rfl, lb_ne rfl, ⟨rfl, ⟨rfl, trivial⟩, rfl, lb_ne rfl, trivial⟩⟩ (fun mm aa ww gg hr hrel hbx hlo => c83L 4 x3.2 (mm 2) a0 ⟨a0_p, a0.length, a0_c⟩ (mm 3) ww (hbx _ (.head _)) (hbx _ (.tail _ (.head _))) (SlIs.mono ha0 hrel.below) (sl_ne ha0 (box_hi hrel hlo.1)) (box_ne hrel hlo.2.2.2.2.1 hlo.1 (by decide)) (by decide) h8a0 hlena0)),
          ok_plain rfl rfl (op_move (ltN rfl) rfl),
          trivial⟩ ?_
        refine fin_keep (s' := [kt 2 (.p 1 0), kt 3 (.f (.func 83) [] [.p 2 0, .p 3 0]), kt 4 (.p 4 0), kt 5 (.i 0), kt 6 (.i 0), kt 101 (.i (dv a0 x3.2 4)), kt 102 (.i 0), kb 1 25 11, kb 2 3 1, kb 3 22 1, kb 4 25 11, kb 15 84 2, (.r 300, some (.vec true 301 84 2 (x1.1.flatMap encPt))), (.r 302, some (.vec true 303 84 2 (x3.1.flatMap encPt))), kc 1 0 (.i 0), kc 1 1 (.i 0), kc 1 2 (.i 0), kc 1 3 (.i 0), kc 1 4 (.v (.slice none 0 0)), kc 1 5 (.v (.slice none 0 0)), kc 1 6 (.v (.slice none 0 0)), kc 1 7 (.i 0), kc 1 8 (.i 0), kc 1 9 (.i 0), kc 1 10 (.i 0), kc 2 0 (.i (idx a0 (x3.2 + 1))), kc 3 0 (.v (.slice a0_p a0.length a0_c)), kc 4 0 (.i (1 + (dv a0 0 6))), kc 4 1 (.i (100 + (390 * (dv a0 1 256)))), kc 4 2 (.i (10 + (7 * (dv a0 2 256)))), kc 4 3 (.i (10 + (1900 * (dv a0 3 256)))), kc 4 4 (.o 300 301 x1.1.length), kc 4 5 (.o 302 303 x3.1.length), kc 4 6 (.s 15 0 1 1), kc 4 7 (.i (dv a0 4 21)), kc 4 8 (.i (dv a0 5 101)), kc 4 9 (.i (2 * (dv a0 6 240))), kc 4 10 (.i (4 * (dv a0 7 256))), kc 15 0 (.i 0), kc 15 1 (.i 0)]) ?_ (kp rfl) rfl
        refine fin_then ?_
        refine aw_block ?_
        refine aw_toRow (.c 4 6) 15 16 1 2 [(.int .i64 0), (.int .i64 0)] rfl rfl rfl rfl (by decide) ⟨rfl, rfl, trivial⟩ rfl (by decide) rfl ?_
        refine aw_swp [(15, 304), (16, 305)] rfl ?_
        refine aw_loopC hm (fun x6 => [kt 2 (.p 1 0), kt 3 (.f (.func 83) [] [.p 2 0, .p 3 0]), kt 4 (.p 4 0), kt 5 (.i x6.1), kt 6 (.i x6.2.1), kt 101 (.i (dv a0 x3.2 4)), kt 102 (.i x6.2.2.1), kb 1 25 11, kb 2 3 1, kb 3 22 1, kb 4 25 11, (.r 300, some (.vec true 301 84 2 (x1.1.flatMap encPt))), (.r 302, some (.vec true 303 84 2 (x3.1.flatMap encPt))), (.r 304, some (.vec true 305 84 2 (x6.2.2.2.1.flatMap encPt))), kc 1 0 (.i 0), kc 1 1 (.i 0), kc 1 2 (.i 0), kc 1 3 (.i 0), kc 1 4 (.v (.slice none 0 0)), kc 1 5 (.v (.slice none 0 0)), kc 1 6 (.v (.slice none 0 0)), kc 1 7 (.i 0), kc 1 8 (.i 0), kc 1 9 (.i 0), kc 1 10 (.i 0), kc 2 0 (.i (idx a0 x6.2.2.2.2)), kc 3 0 (.v (.slice a0_p a0.length a0_c)), kc 4 0 (.i (1 + (dv a0 0 6))), kc 4 1 (.i (100 + (390 * (dv a0 1 256)))), kc 4 2 (.i (10 + (7 * (dv a0 2 256)))), kc 4 3 (.i (10 + (1900 * (dv a0 3 256)))), kc 4 4 (.o 300 301 x1.1.length), kc 4 5 (.o 302 303 x3.1.length), kc 4 6 (.o 304 305 x6.2.2.2.1.length), kc 4 7 (.i (dv a0 4 21)), kc 4 8 (.i (dv a0 5 101)), kc 4 9 (.i (2 * (dv a0 6 240))), kc 4 10 (.i (4 * (dv a0 7 256)))]) ⟨rfl, rfl, rfl, rfl, rfl, rfl, rfl, rfl, rfl, rfl, rfl, rfl, rfl, rfl, rfl, rfl, rfl, rfl, rfl, rfl, rfl, rfl, rfl, rfl, rfl, rfl, rfl, rfl, rfl, rfl, rfl, rfl, rfl, rfl, rfl, rfl, rfl, rfl, trivial⟩ rfl (fun x6 n6 hm => ?_)
        refine aw_seq ?_
        refine aw_text (rows := [_]) rfl (by kernel_rfl) ⟨
          ok_plain rfl rfl (op_bin (ltN rfl) rfl rfl rfl),
          trivial⟩ ?_
        refine fin_keep (s' := [kt 2 (.p 1 0), kt 3 (.f (.func 83) [] [.p 2 0, .p 3 0]), kt 4 (.p 4 0), kt 5 (.i x6.1), kt 6 (.i x6.2.1), kt 101 (.i (dv a0 x3.2 4)), kt 102 (.i x6.2.2.1), kt 103 (.B (decide (x6.2.2.1 < (dv a0 x3.2 4)))), kb 1 25 11, kb 2 3 1, kb 3 22 1, kb 4 25 11, (.r 300, some (.vec true 301 84 2 (x1.1.flatMap encPt))), (.r 302, some (.vec true 303 84 2 (x3.1.flatMap encPt))), (.r 304, some (.vec true 305 84 2 (x6.2.2.2.1.flatMap encPt))), kc 1 0 (.i 0), kc 1 1 (.i 0), kc 1 2 (.i 0), kc 1 3 (.i 0), kc 1 4 (.v (.slice none 0 0)), kc 1 5 (.v (.slice none 0 0)), kc 1 6 (.v (.slice none 0 0)), kc 1 7 (.i 0), kc 1 8 (.i 0), kc 1 9 (.i 0), kc 1 10 (.i 0), kc 2 0 (.i (idx a0 x6.2.2.2.2)), kc 3 0 (.v (.slice a0_p a0.length a0_c)), kc 4 0 (.i (1 + (dv a0 0 6))), kc 4 1 (.i (100 + (390 * (dv a0 1 256)))), kc 4 2 (.i (10 + (7 * (dv a0 2 256)))), kc 4 3 (.i (10 + (1900 * (dv a0 3 256)))), kc 4 4 (.o 300 301 x1.1.length), kc 4 5 (.o 302 303 x3.1.length), kc 4 6 (.o 304 305 x6.2.2.2.1.length), kc 4 7 (.i (dv a0 4 21)), kc 4 8 (.i (dv a0 5 101)), kc 4 9 (.i (2 * (dv a0 6 240))), kc 4 10 (.i (4 * (dv a0 7 256)))]) ?_ (kp rfl) rfl
        refine fin_then ?_
        refine aw_seq ?_
        refine aw_cond rfl (fun hz28 => ?_) (fun hz28 => ?_)
        · have hm := brk_t hz28 hm
          refine aw_skip ?_
          refine fin_then ?_
          refine aw_seq ?_
          refine aw_block ?_
          refine aw_seq ?_
          obtain ⟨hp29, hm⟩ := chk_some hm
          obtain ⟨hp30, hm⟩ := chk_some hm
          obtain ⟨hp31, hm⟩ := chk_some hm
          obtain ⟨hp32, hm⟩ := chk_some hm
          refine aw_text (rows := [_, _, _, _, _, _, _, _, _, _, _, _]) rfl (by kernel_rfl) ⟨
            ok_plain rfl rfl (op_move (ltN rfl) rfl),
            ok_plain rfl rfl (op_bin (ltN rfl) rfl rfl (nw_add hp29)),
            ok_plain rfl rfl (op_move (ltN rfl) rfl),
            ok_plain rfl rfl (op_callLentL (ls := [⟨2, 3, [.i (idx a0 x6.2.2.2.2)], [.i (idx a0 (x6.2.2.2.2 + 1))]⟩, ⟨3, 22, [.v (.slice a0_p a0.length a0_c)], [.v (.slice a0_p a0.length a0_c)]⟩]) (x := .i (dv a0 x6.2.2.2.2 90)) (fs := []) (caps := [.p 2 0, .p 3 0]) (extra := []) (ltN rfl) en_83 rfl ⟨rfl, rfl, rfl⟩ (EvL.cons rfl EvL.nil) ⟨rfl, ⟨rfl, trivial⟩, rfl, lb_ne rfl, ⟨rfl, ⟨rfl, trivial⟩, rfl, lb_ne rfl, trivial⟩⟩ (fun mm aa ww gg hr hrel hbx hlo => c83L 90 x6.2.2.2.2 (mm 2) a0 ⟨a0_p, a0.length, a0_c⟩ (mm 3) ww (hbx _ (.head _)) (hbx _ (.tail _ (.head _))) (SlIs.mono ha0 hrel.below) (sl_ne ha0 (box_hi hrel hlo.1)) (box_ne hrel hlo.2.2.2.2.1 hlo.1 (by decide)) (by decide) h8a0 hlena0)),
            ok_plain rfl rfl (op_bin (ltN rfl) rfl rfl (nw_add hp30)),
            ok_plain rfl rfl (op_move (ltN rfl) rfl),
            ok_plain rfl rfl (op_move (ltN rfl) rfl),
            ok_plain rfl rfl (op_callLentL (ls := [⟨2, 3, [.i (idx a0 (x6.2.2.2.2 + 1))], [.i (idx a0 ((x6.2.2.2.2 + 1) + 1))]⟩, ⟨3, 22, [.v (.slice a0_p a0.length a0_c)], [.v (.slice a0_p a0.length a0_c)]⟩]) (x := .i (dv a0 ((x6.2.2.2.2 + 1)) 256)) (fs := []) (caps := [.p 2 0, .p 3 0]) (extra := []) (ltN rfl) en_83 rfl ⟨rfl, rfl, rfl⟩ (EvL.cons rfl EvL.nil) ⟨rfl, ⟨rfl, trivial⟩, rfl, lb_ne rfl, ⟨rfl, ⟨rfl, trivial⟩, rfl, lb_ne rfl, trivial⟩⟩ (fun mm aa ww gg hr hrel hbx hlo => c83L 256 ((x6.2.2.2.2 + 1)) (mm 2) a0 ⟨a0_p, a0.length, a0_c⟩ (mm 3) ww (hbx _ (.head _)) (hbx _ (.tail _ (.head _))) (SlIs.mono ha0 hrel.below) (sl_ne ha0 (box_hi hrel hlo.1)) (box_ne hrel hlo.2.2.2.2.1 hlo.1 (by decide)) (by decide) h8a0 hlena0)),
            ok_plain rfl rfl (op_bin (ltN rfl) rfl rfl (nw_mul hp31)),
            ok_plain rfl rfl (op_bin (ltN rfl) rfl rfl (nw_add hp32)),
            ok_plain rfl rfl (op_assign (ltN rfl) rfl),
            ok_plain rfl rfl (op_assign (ltN rfl) rfl),
            trivial⟩ ?_
          refine fin_keep (s' := [kt 2 (.p 1 0), kt 3 (.f (.func 83) [] [.p 2 0, .p 3 0]), kt 4 (.p 4 0), kt 5 (.i ((x6.1 + 1) + (dv a0 x6.2.2.2.2 90))), kt 6 (.i (x6.2.1 + (3 * (dv a0 ((x6.2.2.2.2 + 1)) 256)))), kt 101 (.i (dv a0 x3.2 4)), kt 102 (.i x6.2.2.1), kb 1 25 11, kb 2 3 1, kb 3 22 1, kb 4 25 11, (.r 300, some (.vec true 301 84 2 (x1.1.flatMap encPt))), (.r 302, some (.vec true 303 84 2 (x3.1.flatMap encPt))), (.r 304, some (.vec true 305 84 2 (x6.2.2.2.1.flatMap encPt))), kc 1 0 (.i 0), kc 1 1 (.i 0), kc 1 2 (.i 0), kc 1 3 (.i 0), kc 1 4 (.v (.slice none 0 0)), kc 1 5 (.v (.slice none 0 0)), kc 1 6 (.v (.slice none 0 0)), kc 1 7 (.i 0), kc 1 8 (.i 0), kc 1 9 (.i 0), kc 1 10 (.i 0), kc 2 0 (.i (idx a0 ((x6.2.2.2.2 + 1) + 1))), kc 3 0 (.v (.slice a0_p a0.length a0_c)), kc 4 0 (.i (1 + (dv a0 0 6))), kc 4 1 (.i (100 + (390 * (dv a0 1 256)))), kc 4 2 (.i (10 + (7 * (dv a0 2 256)))), kc 4 3 (.i (10 + (1900 * (dv a0 3 256)))), kc 4 4 (.o 300 301 x1.1.length), kc 4 5 (.o 302 303 x3.1.length), kc 4 6 (.o 304 305 x6.2.2.2.1.length), kc 4 7 (.i (dv a0 4 21)), kc 4 8 (.i (dv a0 5 101)), kc 4 9 (.i (2 * (dv a0 6 240))), kc 4 10 (.i (4 * (dv a0 7 256)))]) ?_ (kp rfl) rfl
          refine fin_then ?_
          obtain ⟨hp33, hm⟩ := chk_some hm
          refine aw_text (rows := [_, _, _, _, _, _, _, _, _]) rfl (by kernel_rfl) ⟨
            ok_plain rfl rfl (op_fieldAddr (ltN rfl) rfl fo_25_6),
            ok_plain rfl rfl (op_load1 (ltN rfl) sh_23 rfl rfl),
            ok_plain rfl rfl (op_move (ltN rfl) rfl),
            ok_plain rfl rfl (op_move (ltN rfl) rfl),
            ok_plain rfl rfl (op_build (x := .g [.i ((x6.1 + 1) + (dv a0 x6.2.2.2.2 90)), .i (x6.2.1 + (3 * (dv a0 ((x6.2.2.2.2 + 1)) 256)))]) (ltN rfl) (EvL.cons rfl (EvL.cons rfl EvL.nil)) (fun m w => by kernel_rfl)),
            ok_plain rfl rfl (op_buildSlice (L := 17) (ety := 84) (cs := [.i ((x6.1 + 1) + (dv a0 x6.2.2.2.2 90)), .i (x6.2.1 + (3 * (dv a0 ((x6.2.2.2.2 + 1)) 256)))]) (ltN rfl) (EvL.cons rfl EvL.nil) rfl (fun m w => by kernel_rfl)),
            ok_plain rfl rfl (op_append (L' := 18) (C' := 19) (vs := [(.int .i64 ((x6.1 + 1) + (dv a0 x6.2.2.2.2 90))), (.int .i64 (x6.2.1 + (3 * (dv a0 ((x6.2.2.2.2 + 1)) 256))))]) (ltN rfl) af_23 rfl rfl (flat_length (enc := encPt) (fun _ => rfl) x6.2.2.2.1) rfl ⟨rfl, rfl, trivial⟩ rfl rfl (by decide) (by have := hp33; omega) (by have := hp33; omega) (by decide)),
            ok_plain rfl rfl (op_fieldAddr (ltN rfl) rfl fo_25_6),
            ok_plain rfl rfl (op_store1 sz_23 rfl rfl rfl rfl (ltN rfl)),
            trivial⟩ ?_
          refine fin_keep (s' := [kt 2 (.p 1 0), kt 3 (.f (.func 83) [] [.p 2 0, .p 3 0]), kt 4 (.p 4 0), kt 5 (.i ((x6.1 + 1) + (dv a0 x6.2.2.2.2 90))), kt 6 (.i (x6.2.1 + (3 * (dv a0 ((x6.2.2.2.2 + 1)) 256)))), kt 101 (.i (dv a0 x3.2 4)), kt 102 (.i x6.2.2.1), kb 1 25 11, kb 2 3 1, kb 3 22 1, kb 4 25 11, (.r 18, some (.vec true 19 84 2 ((x6.2.2.2.1 ++ [(⟨(x6.1 + 1) + (dv a0 x6.2.2.2.2 90), x6.2.1 + (3 * (dv a0 ((x6.2.2.2.2 + 1)) 256))⟩ : Pt)]).flatMap encPt))), (.r 300, some (.vec true 301 84 2 (x1.1.flatMap encPt))), (.r 302, some (.vec true 303 84 2 (x3.1.flatMap encPt))), kc 1 0 (.i 0), kc 1 1 (.i 0), kc 1 2 (.i 0), kc 1 3 (.i 0), kc 1 4 (.v (.slice none 0 0)), kc 1 5 (.v (.slice none 0 0)), kc 1 6 (.v (.slice none 0 0)), kc 1 7 (.i 0), kc 1 8 (.i 0), kc 1 9 (.i 0), kc 1 10 (.i 0), kc 2 0 (.i (idx a0 ((x6.2.2.2.2 + 1) + 1))), kc 3 0 (.v (.slice a0_p a0.length a0_c)), kc 4 0 (.i (1 + (dv a0 0 6))), kc 4 1 (.i (100 + (390 * (dv a0 1 256)))), kc 4 2 (.i (10 + (7 * (dv a0 2 256)))), kc 4 3 (.i (10 + (1900 * (dv a0 3 256)))), kc 4 4 (.o 300 301 x1.1.length), kc 4 5 (.o 302 303 x3.1.length), kc 4 6 (.o 18 19 ((x6.2.2.2.1 ++ [(⟨(x6.1 + 1) + (dv a0 x6.2.2.2.2 90), x6.2.1 + (3 * (dv a0 ((x6.2.2.2.2 + 1)) 256))⟩ : Pt)]).length)), kc 4 7 (.i (dv a0 4 21)), kc 4 8 (.i (dv a0 5 101)), kc 4 9 (.i (2 * (dv a0 6 240))), kc 4 10 (.i (4 * (dv a0 7 256)))]) ?_ ⟨rfl, rfl, rfl, rfl, rfl, rfl, rfl, rfl, rfl, rfl, rfl, (Eq.trans (b := some (Val.vec true 19 84 2 (x6.2.2.2.1.flatMap encPt ++ [(.int .i64 ((x6.1 + 1) + (dv a0 x6.2.2.2.2 90))), (.int .i64 (x6.2.1 + (3 * (dv a0 ((x6.2.2.2.2 + 1)) 256))))]))) rfl (congrArg (fun q => some (Val.vec true 19 84 2 q)) (flat_snoc (enc := encPt) x6.2.2.2.1 ((⟨(x6.1 + 1) + (dv a0 x6.2.2.2.2 90), x6.2.1 + (3 * (dv a0 ((x6.2.2.2.2 + 1)) 256))⟩ : Pt))))), rfl, rfl, rfl, rfl, rfl, rfl, rfl, rfl, rfl, rfl, rfl, rfl, rfl, rfl, rfl, rfl, rfl, rfl, rfl, rfl, rfl, (congrArg (fun q => some (Val.x (SV.o 18 19 q))) (len_snoc x6.2.2.2.1 ((⟨(x6.1 + 1) + (dv a0 x6.2.2.2.2 90), x6.2.1 + (3 * (dv a0 ((x6.2.2.2.2 + 1)) 256))⟩ : Pt)))), rfl, rfl, rfl, rfl, trivial⟩ rfl
          refine fin_block ?_
          refine fin_then ?_
          obtain ⟨hp34, hm⟩ := chk_some hm
          refine aw_text (rows := [_, _]) rfl (by kernel_rfl) ⟨
            ok_plain rfl rfl (op_bin (ltN rfl) rfl rfl (nw_add hp34)),
            ok_plain rfl rfl (op_move (ltN rfl) rfl),
            trivial⟩ ?_
          refine fin_keep (s' := [kt 2 (.p 1 0), kt 3 (.f (.func 83) [] [.p 2 0, .p 3 0]), kt 4 (.p 4 0), kt 5 (.i ((x6.1 + 1) + (dv a0 x6.2.2.2.2 90))), kt 6 (.i (x6.2.1 + (3 * (dv a0 ((x6.2.2.2.2 + 1)) 256)))), kt 101 (.i (dv a0 x3.2 4)), kt 102 (.i (x6.2.2.1 + 1)), kb 1 25 11, kb 2 3 1, kb 3 22 1, kb 4 25 11, (.r 18, some (.vec true 19 84 2 ((x6.2.2.2.1 ++ [(⟨(x6.1 + 1) + (dv a0 x6.2.2.2.2 90), x6.2.1 + (3 * (dv a0 ((x6.2.2.2.2 + 1)) 256))⟩ : Pt)]).flatMap encPt))), (.r 300, some (.vec true 301 84 2 (x1.1.flatMap encPt))), (.r 302, some (.vec true 303 84 2 (x3.1.flatMap encPt))), kc 1 0 (.i 0), kc 1 1 (.i 0), kc 1 2 (.i 0), kc 1 3 (.i 0), kc 1 4 (.v (.slice none 0 0)), kc 1 5 (.v (.slice none 0 0)), kc 1 6 (.v (.slice none 0 0)), kc 1 7 (.i 0), kc 1 8 (.i 0), kc 1 9 (.i 0), kc 1 10 (.i 0), kc 2 0 (.i (idx a0 ((x6.2.2.2.2 + 1) + 1))), kc 3 0 (.v (.slice a0_p a0.length a0_c)), kc 4 0 (.i (1 + (dv a0 0 6))), kc 4 1 (.i (100 + (390 * (dv a0 1 256)))), kc 4 2 (.i (10 + (7 * (dv a0 2 256)))), kc 4 3 (.i (10 + (1900 * (dv a0 3 256)))), kc 4 4 (.o 300 301 x1.1.length), kc 4 5 (.o 302 303 x3.1.length), kc 4 6 (.o 18 19 ((x6.2.2.2.1 ++ [(⟨(x6.1 + 1) + (dv a0 x6.2.2.2.2 90), x6.2.1 + (3 * (dv a0 ((x6.2.2.2.2 + 1)) 256))⟩ : Pt)]).length)), kc 4 7 (.i (dv a0 4 21)), kc 4 8 (.i (dv a0 5 101)), kc 4 9 (.i (2 * (dv a0 6 240))), kc 4 10 (.i (4 * (dv a0 7 256)))]) ?_ (kp rfl) rfl
          refine fin_swp [(18, 304), (19, 305)] rfl ?_
          exact fin_cut ((x6.1 + 1) + (dv a0 x6.2.2.2.2 90), x6.2.1 + (3 * (dv a0 ((x6.2.2.2.2 + 1)) 256)), x6.2.2.1 + 1, (x6.2.2.2.1 ++ [(⟨(x6.1 + 1) + (dv a0 x6.2.2.2.2 90), x6.2.1 + (3 * (dv a0 ((x6.2.2.2.2 + 1)) 256))⟩ : Pt)]), ((x6.2.2.2.2 + 1) + 1)) hm ⟨rfl, rfl, rfl, rfl, rfl, rfl, rfl, rfl, rfl, rfl, rfl, rfl, rfl, rfl, rfl, rfl, rfl, rfl, rfl, rfl, rfl, rfl, rfl, rfl, rfl, rfl, rfl, rfl, rfl, rfl, rfl, rfl, rfl, rfl, rfl, rfl, rfl, rfl, trivial⟩ rfl
        · have hm := brk_f hz28 hm
          refine aw_exit ?_
          refine fin_then_exit ?_
          refine fin_then_exit ?_
          refine fin_block_exit ?_
          exact fin_cut (x6.2.1, x6.2.2.2.1, x6.2.2.2.2) hm ⟨rfl, rfl, rfl, rfl, rfl, rfl, rfl, rfl, rfl, rfl, rfl, rfl, rfl, rfl, rfl, rfl, rfl, rfl, rfl, rfl, rfl, rfl, rfl, rfl, rfl, rfl, rfl, rfl, rfl, rfl, rfl, rfl, rfl, rfl, rfl, trivial⟩ rfl
      · have _z := hm
        refine aw_seq ?_
        obtain ⟨hp35, hm⟩ := chk_some hm
        obtain ⟨hp36, hm⟩ := chk_some hm
        obtain ⟨hp37, hm⟩ := chk_some hm
        refine aw_any (rows := [_, _, _, _, _, _, _, _, _, _, _, _]) (M := [0, 1, 0, 0, 8, 24, 60, 124, 252, 511, 1023, 2047]) Tryd_mixed (by kernel_rfl) rfl (by kernel_rfl) ⟨
          ok_plain rfl rfl (op_fieldAddr (ltN rfl) rfl fo_25_6),
          ok_plain rfl rfl (op_load1 (ltN rfl) sh_23 rfl rfl),
          ok_plain rfl rfl (op_move (ltN rfl) rfl),
          ok_plain rfl rfl (op_move (ltN rfl) rfl),
          ok_plain rfl rfl (op_callLentL (ls := [⟨2, 3, [.i (idx a0 x5.2.2)], [.i (idx a0 (x5.2.2 + 1))]⟩, ⟨3, 22, [.v (.slice a0_p a0.length a0_c)], [.v (.slice a0_p a0.length a0_c)]⟩]) (x := .i (dv a0 x5.2.2 256)) (fs := []) (caps := [.p 2 0, .p 3 0]) (extra := []) (ltN rfl) en_83 rfl ⟨rfl, rfl, rfl⟩ (EvL.cons rfl EvL.nil) ⟨rfl, ⟨rfl, trivial⟩, rfl, lb_ne rfl, ⟨rfl, ⟨rfl, trivial⟩, rfl, lb_ne rfl, trivial⟩⟩ (fun mm aa ww gg hr hrel hbx hlo => c83L 256 x5.2.2 (mm 2) a0 ⟨a0_p, a0.length, a0_c⟩ (mm 3) ww (hbx _ (.head _)) (hbx _ (.tail _ (.head _))) (SlIs.mono ha0 hrel.below) (sl_ne ha0 (box_hi hrel hlo.1)) (box_ne hrel hlo.2.2.2.2.1 hlo.1 (by decide)) (by decide) h8a0 hlena0)),
          ok_plain rfl rfl (op_bin (ltN rfl) rfl rfl (nw_mul hp35)),
          ok_plain rfl rfl (op_bin (ltN rfl) rfl rfl (nw_add hp36)),
          ok_plain rfl rfl (op_build (x := .g [.i 400, .i (x5.1 + (4 * (dv a0 x5.2.2 256)))]) (ltN rfl) (EvL.cons rfl (EvL.cons rfl EvL.nil)) (fun m w => by kernel_rfl)),
          ok_plain rfl rfl (op_buildSlice (L := 20) (ety := 84) (cs := [.i 400, .i (x5.1 + (4 * (dv a0 x5.2.2 256)))]) (ltN rfl) (EvL.cons rfl EvL.nil) rfl (fun m w => by kernel_rfl)),
          ok_plain rfl rfl (op_append (L' := 21) (C' := 22) (vs := [(.int .i64 400), (.int .i64 (x5.1 + (4 * (dv a0 x5.2.2 256))))]) (ltN rfl) af_23 rfl rfl (flat_length (enc := encPt) (fun _ => rfl) x5.2.1) rfl ⟨rfl, rfl, trivial⟩ rfl rfl (by decide) (by have := hp37; omega) (by have := hp37; omega) (by decide)),
          ok_plain rfl rfl (op_fieldAddr (ltN rfl) rfl fo_25_6),
          ok_plain rfl rfl (op_store1 sz_23 rfl rfl rfl rfl (ltN rfl)),
          trivial⟩ ?_
        refine fin_keep (s' := [kt 2 (.p 1 0), kt 4 (.p 4 0), kb 1 25 11, kb 4 25 11, (.r 21, some (.vec true 22 84 2 ((x5.2.1 ++ [(⟨400, x5.1 + (4 * (dv a0 x5.2.2 256))⟩ : Pt)]).flatMap encPt))), (.r 300, some (.vec true 301 84 2 (x1.1.flatMap encPt))), (.r 302, some (.vec true 303 84 2 (x3.1.flatMap encPt))), kc 1 0 (.i 0), kc 1 1 (.i 0), kc 1 2 (.i 0), kc 1 3 (.i 0), kc 1 4 (.v (.slice none 0 0)), kc 1 5 (.v (.slice none 0 0)), kc 1 6 (.v (.slice none 0 0)), kc 1 7 (.i 0), kc 1 8 (.i 0), kc 1 9 (.i 0), kc 1 10 (.i 0), kc 4 0 (.i (1 + (dv a0 0 6))), kc 4 1 (.i (100 + (390 * (dv a0 1 256)))), kc 4 2 (.i (10 + (7 * (dv a0 2 256)))), kc 4 3 (.i (10 + (1900 * (dv a0 3 256)))), kc 4 4 (.o 300 301 x1.1.length), kc 4 5 (.o 302 303 x3.1.length), kc 4 6 (.o 21 22 ((x5.2.1 ++ [(⟨400, x5.1 + (4 * (dv a0 x5.2.2 256))⟩ : Pt)]).length)), kc 4 7 (.i (dv a0 4 21)), kc 4 8 (.i (dv a0 5 101)), kc 4 9 (.i (2 * (dv a0 6 240))), kc 4 10 (.i (4 * (dv a0 7 256)))]) ?_ ⟨rfl, rfl, rfl, rfl, (Eq.trans (b := some (Val.vec true 22 84 2 (x5.2.1.flatMap encPt ++ [(.int .i64 400), (.int .i64 (x5.1 + (4 * (dv a0 x5.2.2 256))))]))) rfl (congrArg (fun q => some (Val.vec true 22 84 2 q)) (flat_snoc (enc := encPt) x5.2.1 ((⟨400, x5.1 + (4 * (dv a0 x5.2.2 256))⟩ : Pt))))), rfl, rfl, rfl, rfl, rfl, rfl, rfl, rfl, rfl, rfl, rfl, rfl, rfl, rfl, rfl, rfl, rfl, rfl, rfl, (congrArg (fun q => some (Val.x (SV.o 21 22 q))) (len_snoc x5.2.1 ((⟨400, x5.1 + (4 * (dv a0 x5.2.2 256))⟩ : Pt)))), rfl, rfl, rfl, rfl, trivial⟩ rfl
        refine fin_then ?_
        refine aw_seq ?_
        refine aw_text (rows := [_, _]) rfl (by kernel_rfl) ⟨
          ok_plain rfl rfl (op_loadN (ys := [.i (1 + (dv a0 0 6)), .i (100 + (390 * (dv a0 1 256))), .i (10 + (7 * (dv a0 2 256))), .i (10 + (1900 * (dv a0 3 256))), .o 300 301 x1.1.length, .o 302 303 x3.1.length, .o 21 22 ((x5.2.1 ++ [(⟨400, x5.1 + (4 * (dv a0 x5.2.2 256))⟩ : Pt)]).length), .i (dv a0 4 21), .i (dv a0 5 101), .i (2 * (dv a0 6 240)), .i (4 * (dv a0 7 256))]) (ltN rfl) sh_25 rfl rfl ⟨rfl, rfl, rfl, rfl, rfl, rfl, rfl, rfl, rfl, rfl, rfl, trivial⟩),
          ok_plain rfl rfl (op_storeN sz_25 rfl rfl rfl rfl rfl (by decide)),
          trivial⟩ ?_
        refine fin_keep (s' := [kt 2 (.p 1 0), kb 1 25 11, (.r 21, some (.vec true 22 84 2 ((x5.2.1 ++ [(⟨400, x5.1 + (4 * (dv a0 x5.2.2 256))⟩ : Pt)]).flatMap encPt))), (.r 300, some (.vec true 301 84 2 (x1.1.flatMap encPt))), (.r 302, some (.vec true 303 84 2 (x3.1.flatMap encPt))), kc 1 0 (.i (1 + (dv a0 0 6))), kc 1 1 (.i (100 + (390 * (dv a0 1 256)))), kc 1 2 (.i (10 + (7 * (dv a0 2 256)))), kc 1 3 (.i (10 + (1900 * (dv a0 3 256)))), kc 1 4 (.o 300 301 x1.1.length), kc 1 5 (.o 302 303 x3.1.length), kc 1 6 (.o 21 22 ((x5.2.1 ++ [(⟨400, x5.1 + (4 * (dv a0 x5.2.2 256))⟩ : Pt)]).length)), kc 1 7 (.i (dv a0 4 21)), kc 1 8 (.i (dv a0 5 101)), kc 1 9 (.i (2 * (dv a0 6 240))), kc 1 10 (.i (4 * (dv a0 7 256)))]) ?_ (kp rfl) rfl
        refine fin_then ?_
        refine aw_ret ?_
        refine post_ret (x := .g [.i (1 + (dv a0 0 6)), .i (100 + (390 * (dv a0 1 256))), .i (10 + (7 * (dv a0 2 256))), .i (10 + (1900 * (dv a0 3 256))), .o 300 301 x1.1.length, .o 302 303 x3.1.length, .o 21 22 ((x5.2.1 ++ [(⟨400, x5.1 + (4 * (dv a0 x5.2.2 256))⟩ : Pt)]).length), .i (dv a0 4 21), .i (dv a0 5 101), .i (2 * (dv a0 6 240)), .i (4 * (dv a0 7 256))]) rfl rfl (resOK_cellN (ys := [.i (1 + (dv a0 0 6)), .i (100 + (390 * (dv a0 1 256))), .i (10 + (7 * (dv a0 2 256))), .i (10 + (1900 * (dv a0 3 256))), .o 300 301 x1.1.length, .o 302 303 x3.1.length, .o 21 22 ((x5.2.1 ++ [(⟨400, x5.1 + (4 * (dv a0 x5.2.2 256))⟩ : Pt)]).length), .i (dv a0 4 21), .i (dv a0 5 101), .i (2 * (dv a0 6 240)), .i (4 * (dv a0 7 256))]) rfl sh_25 rfl ⟨rfl, rfl, rfl, rfl, rfl, rfl, rfl, rfl, rfl, rfl, rfl, trivial⟩ resOK_nil) rfl (fun mm aa ww hr => ?_)
        have hm := Option.some.inj hm
        subst hm
        exact ⟨[⟨ptr0 (mm 300) (mm 301), x1.1.length, mm 301⟩, ⟨ptr0 (mm 302) (mm 303), x3.1.length, mm 303⟩, ⟨ptr0 (mm 21) (mm 22), ((x5.2.1 ++ [(⟨400, x5.1 + (4 * (dv a0 x5.2.2 256))⟩ : Pt)]).length), mm 22⟩], rfl, ⟨⟨rfl, newAt_row hr mine_nil rfl (flat_length (enc := encPt) (fun _ => rfl) _), rfl, newAt_row hr mine_nil rfl (flat_length (enc := encPt) (fun _ => rfl) _), rfl, newAt_row hr mine_nil rfl (flat_length (enc := encPt) (fun _ => rfl) _), trivial⟩, ⟨⟨apart_rr hr rfl rfl (by decide), apart_rr hr rfl rfl (by decide), trivial⟩, ⟨⟨apart_rr hr rfl rfl (by decide), trivial⟩, ⟨trivial, trivial⟩⟩⟩⟩, hr.below⟩

end Go.Proofs.T

namespace Go.Proofs.T
open Go Go.AX Go.RowKit Hull
theorem af_56 : appFact Tryd.prog 56 = some (32, 2, 16) := by kernel_rfl
instance (i : Ice) : Decidable (goodIce i) := by unfold goodIce; infer_instance
instance (c : Cell) : Decidable (goodCell c) := by unfold goodCell goodSpan; infer_instance

end Go.Proofs.T

namespace Go.Proofs.T
open Go Go.AX Go.RowKit Hull
theorem en_21 : Proofs.Enters Tryd.prog 21 := Proofs.enters_of Tryd.func21 (by kernel_rfl) rfl
end Go.Proofs.T

namespace Go.Proofs.T
open Go Go.AX Go.RowKit Hull


def m118 (_F : Nat) (a0 : Cell) : Option (Unit) :=
  some ()

theorem c118 (F : Nat) (a0 : Cell) (w : World)  (r : Unit) (hm : m118 F a0 = some r) : Calls Tryd.prog 118 #[.agg #[.int .i64 a0.Conc.Lo, .int .i64 a0.Conc.Hi, .int .i64 a0.Thick.Lo, .int .i64 a0.Thick.Hi, .int .i64 a0.Ridge.Lo, .int .i64 a0.Ridge.Hi, .int .i64 a0.Press.Lo, .int .i64 a0.Press.Hi]] w fun e w' => ∃ bs : List Nat, e = .returned (.func (.func 145) #[] #[.pointer (some ⟨bs.getD 0 0, 0, none⟩)]) ∧ NewBoxes w w' bs [(34, [(.int .i64 a0.Conc.Lo), (.int .i64 a0.Conc.Hi), (.int .i64 a0.Thick.Lo), (.int .i64 a0.Thick.Hi), (.int .i64 a0.Ridge.Lo), (.int .i64 a0.Ridge.Hi), (.int .i64 a0.Press.Lo), (.int .i64 a0.Press.Hi)])] ∧ Below w.heap.size w w' := by
  unfold m118 at hm
  refine enter (args := [.g [.i a0.Conc.Lo, .i a0.Conc.Hi, .i a0.Thick.Lo, .i a0.Thick.Hi, .i a0.Ridge.Lo, .i a0.Ridge.Hi, .i a0.Press.Lo, .i a0.Press.Hi]]) Tryd.func118 rfl (N := 4) rfl (Nat.le_of_ble_eq_true rfl) ?_
  refine aw_seq ?_
  refine aw_text (rows := [_, _]) rfl (by kernel_rfl) ⟨
    ok_plain rfl rfl (op_boxN (L := 1) (ltN rfl) rfl rfl rfl),
    ok_plain rfl rfl (op_assign (ltN rfl) rfl),
    trivial⟩ ?_
  refine fin_keep (s' := [kt 1 (.p 1 0), kb 1 34 8, kc 1 0 (.i a0.Conc.Lo), kc 1 1 (.i a0.Conc.Hi), kc 1 2 (.i a0.Thick.Lo), kc 1 3 (.i a0.Thick.Hi), kc 1 4 (.i a0.Ridge.Lo), kc 1 5 (.i a0.Ridge.Hi), kc 1 6 (.i a0.Press.Lo), kc 1 7 (.i a0.Press.Hi)]) ?_ (kp rfl) rfl
  refine fin_then ?_
  refine aw_seq ?_
  refine aw_text (rows := [_, _]) rfl (by kernel_rfl) ⟨
    ok_plain rfl rfl (op_mkfn (ltN rfl) EvL.nil (EvL.cons rfl EvL.nil)),
    ok_plain rfl rfl (op_assign (ltN rfl) rfl),
    trivial⟩ ?_
  refine fin_keep (s' := [kt 2 (.f (.func 145) [] [.p 1 0]), kb 1 34 8, kc 1 0 (.i a0.Conc.Lo), kc 1 1 (.i a0.Conc.Hi), kc 1 2 (.i a0.Thick.Lo), kc 1 3 (.i a0.Thick.Hi), kc 1 4 (.i a0.Ridge.Lo), kc 1 5 (.i a0.Ridge.Hi), kc 1 6 (.i a0.Press.Lo), kc 1 7 (.i a0.Press.Hi)]) ?_ (kp rfl) rfl
  refine fin_then ?_
  refine aw_ret ?_
  refine post_ret (x := .f (.func 145) [] [.p 1 0]) rfl rfl (resOK_tmp rfl resOK_nil) rfl (fun mm aa ww hr => ?_)
  have hm := Option.some.inj hm
  subst hm
  exact ⟨[mm 1], rfl, ⟨box_hi hr rfl, cells_allS (ys := [.i a0.Conc.Lo, .i a0.Conc.Hi, .i a0.Thick.Lo, .i a0.Thick.Hi, .i a0.Ridge.Lo, .i a0.Ridge.Hi, .i a0.Press.Lo, .i a0.Press.Hi]) hr rfl rfl ⟨rfl, rfl, rfl, rfl, rfl, rfl, rfl, rfl, trivial⟩, ne_nil, trivial⟩, hr.below⟩

end Go.Proofs.T

namespace Go.Proofs.T
open Go Go.AX Go.RowKit Hull
theorem en_118 : Proofs.Enters Tryd.prog 118 := Proofs.enters_of Tryd.func118 (by kernel_rfl) rfl
theorem en_145 : Proofs.Enters Tryd.prog 145 := Proofs.enters_of Tryd.func145 (by kernel_rfl) rfl
theorem eqg_28 : Tryd.prog.eqGuardType Tryd.prog.depth 28 = false := by kernel_rfl
theorem Ice_eqd (a b : Ice) : ((a.Conc == b.Conc) && ((a.Thick == b.Thick) && ((a.Ridge == b.Ridge) && ((a.Press == b.Press) && true)))) = decide (a = b) := by cases a; cases b; rw [Bool.eq_iff_iff]; simp
theorem en_55 : Proofs.Enters Tryd.prog 55 := Proofs.enters_of Tryd.func55 (by kernel_rfl) rfl
def m55 (F : Nat) (a0 : Ship) (a1 : Cell) (a2 : Bool) : Option (Span × Int) :=
  brk ((met a0 a1) != 0) (some ((⟨0, 0⟩ : Span), met a0 a1)) (join (fun (x1 : Int × Int) => some ((⟨x1.1, x1.2⟩ : Span), 0)) (fun k1 => bnd (m118 F a1) (fun v1 => bnd (chk (check a0 = 0) (chk (goodIce ((firstI a1))) (some (if (speed a0 ((firstI a1)) a2) < 250 then speed a0 ((firstI a1)) a2 else 250, if (speed a0 ((firstI a1)) a2) > 0 then speed a0 ((firstI a1)) a2 else 0)))) (fun v2 => brk (!decide ((firstI a1) = (lastI a1))) (bnd (chk (check a0 = 0) (chk (goodIce ((lastI a1))) (some (if (speed a0 ((lastI a1)) a2) < v2.1 then speed a0 ((lastI a1)) a2 else v2.1, if (speed a0 ((lastI a1)) a2) > v2.2 then speed a0 ((lastI a1)) a2 else v2.2)))) (fun v3 => k1 (v3.1, v3.2))) (k1 (v2.1, v2.2))))))

set_option maxHeartbeats 1000000 in
set_option maxRecDepth 8000 in
theorem c55 (F : Nat) (a0 : Ship) (a0_Thrust_s : SlV) (a0_Water_s : SlV) (a0_Ice_s : SlV) (a1 : Cell) (a2 : Bool) (w : World) (ha0_Thrust : SlIs encPt 2 w a0_Thrust_s a0.Thrust) (ha0_Water : SlIs encPt 2 w a0_Water_s a0.Water) (ha0_Ice : SlIs encPt 2 w a0_Ice_s a0.Ice) (hG : BoxAt w 0 (strengths.map (fun n => Value.int .i64 n))) (r : Span × Int) (hm : m55 F a0 a1 a2 = some r) : Calls Tryd.prog 55 #[.agg #[.int .i64 a0.Class, .int .i64 a0.Power, .int .i64 a0.Draught, .int .i64 a0.Tonnes, .slice a0_Thrust_s.p a0_Thrust_s.n a0_Thrust_s.c, .slice a0_Water_s.p a0_Water_s.n a0_Water_s.c, .slice a0_Ice_s.p a0_Ice_s.n a0_Ice_s.c, .int .i64 a0.Slow, .int .i64 a0.Brash, .int .i64 a0.Ridge, .int .i64 a0.Press], .agg #[.int .i64 a1.Conc.Lo, .int .i64 a1.Conc.Hi, .int .i64 a1.Thick.Lo, .int .i64 a1.Thick.Hi, .int .i64 a1.Ridge.Lo, .int .i64 a1.Ridge.Hi, .int .i64 a1.Press.Lo, .int .i64 a1.Press.Hi], .bool a2] w fun e w' => e = .returned (.tuple #[.agg #[.int .i64 r.1.Lo, .int .i64 r.1.Hi], .int .i64 r.2]) ∧ Below w.heap.size w w' := by
  obtain ⟨a0_Thrust_p, a0_Thrust_n, a0_Thrust_c⟩ := a0_Thrust_s
  have ha0_Thrust_l : a0_Thrust_n = a0.Thrust.length := ha0_Thrust.1
  subst ha0_Thrust_l
  obtain ⟨a0_Thrust_b, a0_Thrust_o, ha0_Thrust_p, ha0_Thrust_L⟩ := SlAt.lies' ha0_Thrust
  obtain ⟨a0_Water_p, a0_Water_n, a0_Water_c⟩ := a0_Water_s
  have ha0_Water_l : a0_Water_n = a0.Water.length := ha0_Water.1
  subst ha0_Water_l
  obtain ⟨a0_Water_b, a0_Water_o, ha0_Water_p, ha0_Water_L⟩ := SlAt.lies' ha0_Water
  obtain ⟨a0_Ice_p, a0_Ice_n, a0_Ice_c⟩ := a0_Ice_s
  have ha0_Ice_l : a0_Ice_n = a0.Ice.length := ha0_Ice.1
  subst ha0_Ice_l
  obtain ⟨a0_Ice_b, a0_Ice_o, ha0_Ice_p, ha0_Ice_L⟩ := SlAt.lies' ha0_Ice
  unfold m55 at hm
  refine enterM (args := [.g [.i a0.Class, .i a0.Power, .i a0.Draught, .i a0.Tonnes, .v (.slice a0_Thrust_p a0.Thrust.length a0_Thrust_c), .v (.slice a0_Water_p a0.Water.length a0_Water_c), .v (.slice a0_Ice_p a0.Ice.length a0_Ice_c), .i a0.Slow, .i a0.Brash, .i a0.Ridge, .i a0.Press], .g [.i a1.Conc.Lo, .i a1.Conc.Hi, .i a1.Thick.Lo, .i a1.Thick.Hi, .i a1.Ridge.Lo, .i a1.Ridge.Hi, .i a1.Press.Lo, .i a1.Press.Hi], .B a2]) Tryd.func55 rfl (N := 38) rfl (Nat.le_of_ble_eq_true rfl) ?_
  refine aw_seq ?_
  refine aw_text (rows := [_, _, _, _, _]) rfl (by kernel_rfl) ⟨
    ok_plain rfl rfl (op_boxN (L := 1) (ltN rfl) rfl rfl rfl),
    ok_plain rfl rfl (op_boxN (L := 2) (ltN rfl) rfl rfl rfl),
    ok_plain rfl rfl (op_box1 (L := 3) (ltN rfl) rfl rfl rfl),
    ok_plain rfl rfl (op_alloc (L := 4) (ltN rfl) zl_32),
    ok_plain rfl rfl (op_assign (ltN rfl) rfl),
    trivial⟩ ?_
  refine fin_keep (s' := [kt 3 (.p 1 0), kt 4 (.p 2 0), kt 5 (.p 3 0), kt 6 (.p 4 0), kb 1 25 11, kb 2 34 8, kb 3 4 1, kb 4 32 2, kc 1 0 (.i a0.Class), kc 1 1 (.i a0.Power), kc 1 2 (.i a0.Draught), kc 1 3 (.i a0.Tonnes), kc 1 4 (.v (.slice a0_Thrust_p a0.Thrust.length a0_Thrust_c)), kc 1 5 (.v (.slice a0_Water_p a0.Water.length a0_Water_c)), kc 1 6 (.v (.slice a0_Ice_p a0.Ice.length a0_Ice_c)), kc 1 7 (.i a0.Slow), kc 1 8 (.i a0.Brash), kc 1 9 (.i a0.Ridge), kc 1 10 (.i a0.Press), kc 2 0 (.i a1.Conc.Lo), kc 2 1 (.i a1.Conc.Hi), kc 2 2 (.i a1.Thick.Lo), kc 2 3 (.i a1.Thick.Hi), kc 2 4 (.i a1.Ridge.Lo), kc 2 5 (.i a1.Ridge.Hi), kc 2 6 (.i a1.Press.Lo), kc 2 7 (.i a1.Press.Hi), kc 3 0 (.B a2), kc 4 0 (.i 0), kc 4 1 (.i 0)]) ?_ (kp rfl) rfl
  refine fin_then ?_
  refine aw_seq ?_
  refine aw_seq ?_
  refine aw_text (rows := [_, _, _, _]) rfl (by kernel_rfl) ⟨
    ok_plain rfl rfl (op_loadN (ys := [.i a0.Class, .i a0.Power, .i a0.Draught, .i a0.Tonnes, .v (.slice a0_Thrust_p a0.Thrust.length a0_Thrust_c), .v (.slice a0_Water_p a0.Water.length a0_Water_c), .v (.slice a0_Ice_p a0.Ice.length a0_Ice_c), .i a0.Slow, .i a0.Brash, .i a0.Ridge, .i a0.Press]) (ltN rfl) sh_25 rfl rfl ⟨rfl, rfl, rfl, rfl, rfl, rfl, rfl, rfl, rfl, rfl, rfl, trivial⟩),
    ok_plain rfl rfl (op_loadN (ys := [.i a1.Conc.Lo, .i a1.Conc.Hi, .i a1.Thick.Lo, .i a1.Thick.Hi, .i a1.Ridge.Lo, .i a1.Ridge.Hi, .i a1.Press.Lo, .i a1.Press.Hi]) (ltN rfl) sh_34 rfl rfl ⟨rfl, rfl, rfl, rfl, rfl, rfl, rfl, rfl, trivial⟩),
    ok_plain rfl rfl (op_call (x := .i (met a0 a1)) (fs := []) (caps := []) (extra := []) (ltN rfl) en_90 rfl ⟨rfl, rfl, rfl⟩ (EvL.cons rfl (EvL.cons rfl EvL.nil)) (fun mm aa ww gg hr hrel => (c90 a0 ⟨a0_Thrust_p, a0.Thrust.length, a0_Thrust_c⟩ ⟨a0_Water_p, a0.Water.length, a0_Water_c⟩ ⟨a0_Ice_p, a0.Ice.length, a0_Ice_c⟩ a1 ww (SlIs.mono ha0_Thrust hrel.below) (SlIs.mono ha0_Water hrel.below) (SlIs.mono ha0_Ice hrel.below)))),
    ok_plain rfl rfl (op_assign (ltN rfl) rfl),
    trivial⟩ ?_
  refine fin_keep (s' := [kt 3 (.p 1 0), kt 4 (.p 2 0), kt 5 (.p 3 0), kt 6 (.p 4 0), kt 8 (.i (met a0 a1)), kb 1 25 11, kb 2 34 8, kb 3 4 1, kb 4 32 2, kc 1 0 (.i a0.Class), kc 1 1 (.i a0.Power), kc 1 2 (.i a0.Draught), kc 1 3 (.i a0.Tonnes), kc 1 4 (.v (.slice a0_Thrust_p a0.Thrust.length a0_Thrust_c)), kc 1 5 (.v (.slice a0_Water_p a0.Water.length a0_Water_c)), kc 1 6 (.v (.slice a0_Ice_p a0.Ice.length a0_Ice_c)), kc 1 7 (.i a0.Slow), kc 1 8 (.i a0.Brash), kc 1 9 (.i a0.Ridge), kc 1 10 (.i a0.Press), kc 2 0 (.i a1.Conc.Lo), kc 2 1 (.i a1.Conc.Hi), kc 2 2 (.i a1.Thick.Lo), kc 2 3 (.i a1.Thick.Hi), kc 2 4 (.i a1.Ridge.Lo), kc 2 5 (.i a1.Ridge.Hi), kc 2 6 (.i a1.Press.Lo), kc 2 7 (.i a1.Press.Hi), kc 3 0 (.B a2), kc 4 0 (.i 0), kc 4 1 (.i 0)]) ?_ (kp rfl) rfl
  refine fin_then ?_
  refine aw_seq ?_
  refine aw_text (rows := [_, _]) rfl (by kernel_rfl) ⟨
    ok_plain rfl rfl (op_move (ltN rfl) rfl),
    ok_plain rfl rfl (op_bin (ltN rfl) rfl rfl rfl),
    trivial⟩ ?_
  refine fin_keep (s' := [kt 3 (.p 1 0), kt 4 (.p 2 0), kt 5 (.p 3 0), kt 6 (.p 4 0), kt 8 (.i (met a0 a1)), kt 16 (.B ((met a0 a1) != 0)), kb 1 25 11, kb 2 34 8, kb 3 4 1, kb 4 32 2, kc 1 0 (.i a0.Class), kc 1 1 (.i a0.Power), kc 1 2 (.i a0.Draught), kc 1 3 (.i a0.Tonnes), kc 1 4 (.v (.slice a0_Thrust_p a0.Thrust.length a0_Thrust_c)), kc 1 5 (.v (.slice a0_Water_p a0.Water.length a0_Water_c)), kc 1 6 (.v (.slice a0_Ice_p a0.Ice.length a0_Ice_c)), kc 1 7 (.i a0.Slow), kc 1 8 (.i a0.Brash), kc 1 9 (.i a0.Ridge), kc 1 10 (.i a0.Press), kc 2 0 (.i a1.Conc.Lo), kc 2 1 (.i a1.Conc.Hi), kc 2 2 (.i a1.Thick.Lo), kc 2 3 (.i a1.Thick.Hi), kc 2 4 (.i a1.Ridge.Lo), kc 2 5 (.i a1.Ridge.Hi), kc 2 6 (.i a1.Press.Lo), kc 2 7 (.i a1.Press.Hi), kc 3 0 (.B a2), kc 4 0 (.i 0), kc 4 1 (.i 0)]) ?_ (kp rfl) rfl
  refine fin_then ?_
  refine aw_cond rfl (fun hz1 => ?_) (fun hz1 => ?_)
  · have hm := brk_t hz1 hm
    refine aw_seq ?_
    refine aw_text (rows := [_, _, _, _]) rfl (by kernel_rfl) ⟨
      ok_plain rfl rfl (op_build (x := .g [.i 0, .i 0]) (ltN rfl) EvL.nil (fun m w => by kernel_rfl)),
      ok_plain rfl rfl (op_move (ltN rfl) rfl),
      ok_plain rfl rfl (op_storeN sz_32 rfl rfl rfl rfl rfl (by decide)),
      ok_plain rfl rfl (op_assign (ltN rfl) rfl),
      trivial⟩ ?_
    refine fin_keep (s' := [kt 6 (.p 4 0), kt 7 (.i (met a0 a1)), kb 4 32 2, kc 4 0 (.i 0), kc 4 1 (.i 0)]) ?_ (kp rfl) rfl
    refine fin_then ?_
    refine aw_ret ?_
    refine fin_then_ret ?_
    refine post_retM (x := .t [.g [.i 0, .i 0], .i (met a0 a1)]) rfl (resOK_cellN (ys := [.i 0, .i 0]) rfl sh_32 rfl ⟨rfl, rfl, trivial⟩ (resOK_tmp rfl resOK_nil)) rfl (fun mm aa ww hr => ?_) (.inl rfl)
    have hm := Option.some.inj hm
    subst hm
    exact ⟨rfl, hr.below⟩
  · have hm := brk_f hz1 hm
    refine aw_skip ?_
    refine fin_then ?_
    refine aw_seq ?_
    refine aw_text (rows := [_, _, _]) rfl (by kernel_rfl) ⟨
      ok_plain rfl rfl (op_build (x := .g [.i 250, .i 0]) (ltN rfl) (EvL.cons rfl EvL.nil) (fun m w => by kernel_rfl)),
      ok_plain rfl rfl (op_alloc (L := 5) (ltN rfl) zl_32),
      ok_plain rfl rfl (op_storeN sz_32 rfl rfl rfl rfl rfl (by decide)),
      trivial⟩ ?_
    refine fin_keep (s' := [kt 3 (.p 1 0), kt 4 (.p 2 0), kt 5 (.p 3 0), kt 6 (.p 4 0), kt 9 (.p 5 0), kb 1 25 11, kb 2 34 8, kb 3 4 1, kb 4 32 2, kb 5 32 2, kc 1 0 (.i a0.Class), kc 1 1 (.i a0.Power), kc 1 2 (.i a0.Draught), kc 1 3 (.i a0.Tonnes), kc 1 4 (.v (.slice a0_Thrust_p a0.Thrust.length a0_Thrust_c)), kc 1 5 (.v (.slice a0_Water_p a0.Water.length a0_Water_c)), kc 1 6 (.v (.slice a0_Ice_p a0.Ice.length a0_Ice_c)), kc 1 7 (.i a0.Slow), kc 1 8 (.i a0.Brash), kc 1 9 (.i a0.Ridge), kc 1 10 (.i a0.Press), kc 2 0 (.i a1.Conc.Lo), kc 2 1 (.i a1.Conc.Hi), kc 2 2 (.i a1.Thick.Lo), kc 2 3 (.i a1.Thick.Hi), kc 2 4 (.i a1.Ridge.Lo), kc 2 5 (.i a1.Ridge.Hi), kc 2 6 (.i a1.Press.Lo), kc 2 7 (.i a1.Press.Hi), kc 3 0 (.B a2), kc 4 0 (.i 0), kc 4 1 (.i 0), kc 5 0 (.i 250), kc 5 1 (.i 0)]) ?_ (kp rfl) rfl
    refine fin_then ?_
    refine aw_cutM (ι := Int × Int) hm (fun x1 => [kt 6 (.p 4 0), kt 9 (.p 5 0), kb 4 32 2, kb 5 32 2, kc 4 0 (.i 0), kc 4 1 (.i 0), kc 5 0 (.i x1.1), kc 5 1 (.i x1.2)]) (fun hm => ?_) (fun x1 hm => ?_)
    · have _z := hm
      refine aw_seq ?_
      obtain ⟨v1, hv1, hm⟩ := bnd_some hm
      refine aw_text (rows := [_, _]) rfl (by kernel_rfl) ⟨
        ok_plain rfl rfl (op_loadN (ys := [.i a1.Conc.Lo, .i a1.Conc.Hi, .i a1.Thick.Lo, .i a1.Thick.Hi, .i a1.Ridge.Lo, .i a1.Ridge.Hi, .i a1.Press.Lo, .i a1.Press.Hi]) (ltN rfl) sh_34 rfl rfl ⟨rfl, rfl, rfl, rfl, rfl, rfl, rfl, rfl, trivial⟩),
        ok_plain rfl rfl (op_callNew (ls := [⟨6, 34, [.i a1.Conc.Lo, .i a1.Conc.Hi, .i a1.Thick.Lo, .i a1.Thick.Hi, .i a1.Ridge.Lo, .i a1.Ridge.Hi, .i a1.Press.Lo, .i a1.Press.Hi]⟩]) (R := fun bs => .func (.func 145) #[] #[.pointer (some ⟨bs.getD 0 0, 0, none⟩)]) (x := .f (.func 145) [] [.p 6 0]) (fs := []) (caps := []) (extra := []) (ltN rfl) en_118 rfl ⟨rfl, rfl, rfl⟩ (EvL.cons rfl EvL.nil) rfl (fun _ => rfl) (fun mm aa ww gg hr hrel => (c118 F a1 ww v1 hv1))),
        trivial⟩ ?_
      refine fin_keep (s' := [kt 3 (.p 1 0), kt 5 (.p 3 0), kt 6 (.p 4 0), kt 9 (.p 5 0), kt 21 (.f (.func 145) [] [.p 6 0]), kb 1 25 11, kb 3 4 1, kb 4 32 2, kb 5 32 2, kb 6 34 8, kc 1 0 (.i a0.Class), kc 1 1 (.i a0.Power), kc 1 2 (.i a0.Draught), kc 1 3 (.i a0.Tonnes), kc 1 4 (.v (.slice a0_Thrust_p a0.Thrust.length a0_Thrust_c)), kc 1 5 (.v (.slice a0_Water_p a0.Water.length a0_Water_c)), kc 1 6 (.v (.slice a0_Ice_p a0.Ice.length a0_Ice_c)), kc 1 7 (.i a0.Slow), kc 1 8 (.i a0.Brash), kc 1 9 (.i a0.Ridge), kc 1 10 (.i a0.Press), kc 3 0 (.B a2), kc 4 0 (.i 0), kc 4 1 (.i 0), kc 5 0 (.i 250), kc 5 1 (.i 0), kc 6 0 (.i a1.Conc.Lo), kc 6 1 (.i a1.Conc.Hi), kc 6 2 (.i a1.Thick.Lo), kc 6 3 (.i a1.Thick.Hi), kc 6 4 (.i a1.Ridge.Lo), kc 6 5 (.i a1.Ridge.Hi), kc 6 6 (.i a1.Press.Lo), kc 6 7 (.i a1.Press.Hi)]) ?_ (kp rfl) rfl
      refine fin_then ?_
      refine aw_block ?_
      refine aw_rangeFunc (N' := 18) 0 [(3, .p 1 0), (5, .p 3 0), (6, .p 4 0), (9, .p 5 0), (21, .f (.func 145) [] [.p 6 0])] [kb 1 25 11, kb 3 4 1, kb 4 32 2, kb 5 32 2, kb 6 34 8, kc 1 0 (.i a0.Class), kc 1 1 (.i a0.Power), kc 1 2 (.i a0.Draught), kc 1 3 (.i a0.Tonnes), kc 1 4 (.v (.slice a0_Thrust_p a0.Thrust.length a0_Thrust_c)), kc 1 5 (.v (.slice a0_Water_p a0.Water.length a0_Water_c)), kc 1 6 (.v (.slice a0_Ice_p a0.Ice.length a0_Ice_c)), kc 1 7 (.i a0.Slow), kc 1 8 (.i a0.Brash), kc 1 9 (.i a0.Ridge), kc 1 10 (.i a0.Press), kc 3 0 (.B a2), kc 4 0 (.i 0), kc 4 1 (.i 0), kc 5 0 (.i 250), kc 5 1 (.i 0), kc 6 0 (.i a1.Conc.Lo), kc 6 1 (.i a1.Conc.Hi), kc 6 2 (.i a1.Thick.Lo), kc 6 3 (.i a1.Thick.Hi), kc 6 4 (.i a1.Ridge.Lo), kc 6 5 (.i a1.Ridge.Hi), kc 6 6 (.i a1.Press.Lo), kc 6 7 (.i a1.Press.Hi)] rfl ⟨rfl, rfl, rfl⟩ Tryd.func145 rfl rfl en_145 (by decide) ⟨rfl, rfl, rfl, rfl, rfl, trivial⟩ ⟨rfl, rfl, rfl, rfl, rfl, rfl, rfl, rfl, rfl, rfl, rfl, rfl, rfl, rfl, rfl, rfl, rfl, rfl, rfl, rfl, rfl, rfl, rfl, rfl, rfl, rfl, rfl, rfl, rfl, trivial⟩ rfl rfl (fun l1 D1 fn1 aT1 aD1 K1 hB1 hK1 hM1 hs1 hz1 => ?_)
      refine AW.keep (s' := [kt 0 (.v (.func (.yield l1) #[] #[])), kt 1 (.p 6 0), (.u 0 3, some (.x (.p 1 0))), (.u 0 5, some (.x (.p 3 0))), (.u 0 6, some (.x (.p 4 0))), (.u 0 9, some (.x (.p 5 0))), (.u 0 21, some (.x (.f (.func 145) [] [.p 6 0]))), kb 1 25 11, kb 3 4 1, kb 4 32 2, kb 5 32 2, kb 6 34 8, kc 1 0 (.i a0.Class), kc 1 1 (.i a0.Power), kc 1 2 (.i a0.Draught), kc 1 3 (.i a0.Tonnes), kc 1 4 (.v (.slice a0_Thrust_p a0.Thrust.length a0_Thrust_c)), kc 1 5 (.v (.slice a0_Water_p a0.Water.length a0_Water_c)), kc 1 6 (.v (.slice a0_Ice_p a0.Ice.length a0_Ice_c)), kc 1 7 (.i a0.Slow), kc 1 8 (.i a0.Brash), kc 1 9 (.i a0.Ridge), kc 1 10 (.i a0.Press), kc 3 0 (.B a2), kc 4 0 (.i 0), kc 4 1 (.i 0), kc 5 0 (.i 250), kc 5 1 (.i 0), kc 6 0 (.i a1.Conc.Lo), kc 6 1 (.i a1.Conc.Hi), kc 6 2 (.i a1.Thick.Lo), kc 6 3 (.i a1.Thick.Hi), kc 6 4 (.i a1.Ridge.Lo), kc 6 5 (.i a1.Ridge.Hi), kc 6 6 (.i a1.Press.Lo), kc 6 7 (.i a1.Press.Hi)]) ?_ (kp rfl) rfl
      refine aw_seq ?_
      obtain ⟨v2, hv2, hm⟩ := bnd_some hm
      refine aw_any (rows := [_, _, _, _, _, _, _, _, _, _, _]) (M := [0, 0, 2, 7, 15, 31, 63, 31, 255, 511, 1023]) Tryd_mixed (by kernel_rfl) rfl (by kernel_rfl) ⟨
        ok_plain rfl rfl (op_move (ltN rfl) rfl),
        ok_plain rfl rfl (op_loadN (ys := [.i a1.Conc.Lo, .i a1.Conc.Hi, .i a1.Thick.Lo, .i a1.Thick.Hi, .i a1.Ridge.Lo, .i a1.Ridge.Hi, .i a1.Press.Lo, .i a1.Press.Hi]) (ltN rfl) sh_34 rfl rfl ⟨rfl, rfl, rfl, rfl, rfl, rfl, rfl, rfl, trivial⟩),
        ok_plain rfl rfl (op_call (x := .g [.i ((firstI a1).Conc), .i ((firstI a1).Thick), .i ((firstI a1).Ridge), .i ((firstI a1).Press)]) (fs := []) (caps := []) (extra := []) (ltN rfl) en_88 rfl ⟨rfl, rfl, rfl⟩ (EvL.cons rfl EvL.nil) (fun mm aa ww gg hr hrel => (c88 a1 ww))),
        ok_plain rfl rfl (op_yieldIn (N := 38) (tmpSt [(0, .v (.func (.yield l1) #[] #[])), (1, .p 6 0), (3, .v (.func (.yield l1) #[] #[])), (4, .g [.i a1.Conc.Lo, .i a1.Conc.Hi, .i a1.Thick.Lo, .i a1.Thick.Hi, .i a1.Ridge.Lo, .i a1.Ridge.Hi, .i a1.Press.Lo, .i a1.Press.Hi]), (5, .g [.i ((firstI a1).Conc), .i ((firstI a1).Thick), .i ((firstI a1).Ridge), .i ((firstI a1).Press)])] ++ ((([(.u 0 3, some (.x (.p 1 0))), (.u 0 5, some (.x (.p 3 0))), (.u 0 6, some (.x (.p 4 0))), (.u 0 9, some (.x (.p 5 0))), (.u 0 21, some (.x (.f (.func 145) [] [.p 6 0]))), kb 1 25 11, kb 3 4 1, kb 4 32 2, kb 5 32 2, kb 6 34 8, kc 1 0 (.i a0.Class), kc 1 1 (.i a0.Power), kc 1 2 (.i a0.Draught), kc 1 3 (.i a0.Tonnes), kc 1 4 (.v (.slice a0_Thrust_p a0.Thrust.length a0_Thrust_c)), kc 1 5 (.v (.slice a0_Water_p a0.Water.length a0_Water_c)), kc 1 6 (.v (.slice a0_Ice_p a0.Ice.length a0_Ice_c)), kc 1 7 (.i a0.Slow), kc 1 8 (.i a0.Brash), kc 1 9 (.i a0.Ridge), kc 1 10 (.i a0.Press), kc 3 0 (.B a2), kc 4 0 (.i 0), kc 4 1 (.i 0)] : St) ++ (([kc 5 0 (.i v2.1), kc 5 1 (.i v2.2), kc 6 0 (.i a1.Conc.Lo), kc 6 1 (.i a1.Conc.Hi), kc 6 2 (.i a1.Thick.Lo), kc 6 3 (.i a1.Thick.Hi), kc 6 4 (.i a1.Ridge.Lo), kc 6 5 (.i a1.Ridge.Hi), kc 6 6 (.i a1.Press.Lo), kc 6 7 (.i a1.Press.Hi)] : St))) ++ dropSt [.b 7, .c 7 0, .c 7 1, .c 7 2, .c 7 3, .t 10, .t 11, .t 23, .t 24, .t 25, .t 26, .t 27, .t 28, .t 29, .t 30, .t 31, .t 32, .t 33, .t 34, .t 35, .t 36])) 1 [(0, .v (.func (.yield l1) #[] #[])), (1, .p 6 0), (3, .v (.func (.yield l1) #[] #[])), (4, .g [.i a1.Conc.Lo, .i a1.Conc.Hi, .i a1.Thick.Lo, .i a1.Thick.Hi, .i a1.Ridge.Lo, .i a1.Ridge.Hi, .i a1.Press.Lo, .i a1.Press.Hi]), (5, .g [.i ((firstI a1).Conc), .i ((firstI a1).Thick), .i ((firstI a1).Ridge), .i ((firstI a1).Press)])] [(3, .p 1 0), (5, .p 3 0), (6, .p 4 0), (9, .p 5 0), (21, .f (.func 145) [] [.p 6 0])] [(.u 0 3, some (.x (.p 1 0))), (.u 0 5, some (.x (.p 3 0))), (.u 0 6, some (.x (.p 4 0))), (.u 0 9, some (.x (.p 5 0))), (.u 0 21, some (.x (.f (.func 145) [] [.p 6 0]))), kb 1 25 11, kb 3 4 1, kb 4 32 2, kb 5 32 2, kb 6 34 8, kc 1 0 (.i a0.Class), kc 1 1 (.i a0.Power), kc 1 2 (.i a0.Draught), kc 1 3 (.i a0.Tonnes), kc 1 4 (.v (.slice a0_Thrust_p a0.Thrust.length a0_Thrust_c)), kc 1 5 (.v (.slice a0_Water_p a0.Water.length a0_Water_c)), kc 1 6 (.v (.slice a0_Ice_p a0.Ice.length a0_Ice_c)), kc 1 7 (.i a0.Slow), kc 1 8 (.i a0.Brash), kc 1 9 (.i a0.Ridge), kc 1 10 (.i a0.Press), kc 3 0 (.B a2), kc 4 0 (.i 0), kc 4 1 (.i 0), kc 5 0 (.i 250), kc 5 1 (.i 0), kc 6 0 (.i a1.Conc.Lo), kc 6 1 (.i a1.Conc.Hi), kc 6 2 (.i a1.Thick.Lo), kc 6 3 (.i a1.Thick.Hi), kc 6 4 (.i a1.Ridge.Lo), kc 6 5 (.i a1.Ridge.Hi), kc 6 6 (.i a1.Press.Lo), kc 6 7 (.i a1.Press.Hi)] (ltN rfl) rfl (EvL.cons rfl EvL.nil) rfl (by decide) hz1 ⟨rfl, rfl, rfl, rfl, rfl, trivial⟩ ⟨rfl, rfl, rfl, rfl, rfl, trivial⟩ ⟨rfl, rfl, rfl, rfl, rfl, rfl, rfl, rfl, rfl, rfl, rfl, rfl, rfl, rfl, rfl, rfl, rfl, rfl, rfl, rfl, rfl, rfl, rfl, rfl, rfl, rfl, rfl, rfl, rfl, rfl, rfl, rfl, rfl, rfl, trivial⟩ rfl rfl (by decide) rfl (fun aIv2 hIv2 => ?_)),
        ok_plain rfl rfl (op_move (ltN rfl) rfl),
        ok_yes rfl rfl rfl rfl rfl rfl (op_loadN (ys := [.i a1.Conc.Lo, .i a1.Conc.Hi, .i a1.Thick.Lo, .i a1.Thick.Hi, .i a1.Ridge.Lo, .i a1.Ridge.Hi, .i a1.Press.Lo, .i a1.Press.Hi]) (ltN rfl) sh_34 rfl rfl ⟨rfl, rfl, rfl, rfl, rfl, rfl, rfl, rfl, trivial⟩),
        ok_yes rfl rfl rfl rfl rfl rfl (op_call (x := .g [.i ((firstI a1).Conc), .i ((firstI a1).Thick), .i ((firstI a1).Ridge), .i ((firstI a1).Press)]) (fs := []) (caps := []) (extra := []) (ltN rfl) en_88 rfl ⟨rfl, rfl, rfl⟩ (EvL.cons rfl EvL.nil) (fun mm aa ww gg hr hrel => (c88 a1 ww))),
        ok_yes rfl rfl rfl rfl rfl rfl (op_loadN (ys := [.i a1.Conc.Lo, .i a1.Conc.Hi, .i a1.Thick.Lo, .i a1.Thick.Hi, .i a1.Ridge.Lo, .i a1.Ridge.Hi, .i a1.Press.Lo, .i a1.Press.Hi]) (ltN rfl) sh_34 rfl rfl ⟨rfl, rfl, rfl, rfl, rfl, rfl, rfl, rfl, trivial⟩),
        ok_yes rfl rfl rfl rfl rfl rfl (op_call (x := .g [.i ((lastI a1).Conc), .i ((lastI a1).Thick), .i ((lastI a1).Ridge), .i ((lastI a1).Press)]) (fs := []) (caps := []) (extra := []) (ltN rfl) en_100 rfl ⟨rfl, rfl, rfl⟩ (EvL.cons rfl EvL.nil) (fun mm aa ww gg hr hrel => (c100 a1 ww))),
        ok_yes rfl rfl rfl rfl rfl rfl (op_neS (r := decide ((firstI a1) = (lastI a1))) (ltN rfl) rfl rfl eqg_28 (fun _ => Eq.trans (by kernel_rfl) (congrArg some (Ice_eqd ((firstI a1)) ((lastI a1)))))),
        ok_plain rfl rfl (op_pickT (ltN rfl) rfl rfl),
        trivial⟩ ?_
      · have hm := hv2
        refine AW.keep (s' := [kt 3 (.p 1 0), kt 5 (.p 3 0), kt 6 (.p 4 0), kt 9 (.p 5 0), kt 21 (.f (.func 145) [] [.p 6 0]), kt 22 (.g [.i ((firstI a1).Conc), .i ((firstI a1).Thick), .i ((firstI a1).Ridge), .i ((firstI a1).Press)]), (.u 0 3, some (.x (.p 1 0))), (.u 0 5, some (.x (.p 3 0))), (.u 0 6, some (.x (.p 4 0))), (.u 0 9, some (.x (.p 5 0))), (.u 0 21, some (.x (.f (.func 145) [] [.p 6 0]))), (.u 1 0, some (.x (.v (.func (.yield l1) #[] #[])))), (.u 1 1, some (.x (.p 6 0))), (.u 1 3, some (.x (.v (.func (.yield l1) #[] #[])))), (.u 1 4, some (.x (.g [.i a1.Conc.Lo, .i a1.Conc.Hi, .i a1.Thick.Lo, .i a1.Thick.Hi, .i a1.Ridge.Lo, .i a1.Ridge.Hi, .i a1.Press.Lo, .i a1.Press.Hi]))), (.u 1 5, some (.x (.g [.i ((firstI a1).Conc), .i ((firstI a1).Thick), .i ((firstI a1).Ridge), .i ((firstI a1).Press)]))), kb 1 25 11, kb 3 4 1, kb 4 32 2, kb 5 32 2, kb 6 34 8, kc 1 0 (.i a0.Class), kc 1 1 (.i a0.Power), kc 1 2 (.i a0.Draught), kc 1 3 (.i a0.Tonnes), kc 1 4 (.v (.slice a0_Thrust_p a0.Thrust.length a0_Thrust_c)), kc 1 5 (.v (.slice a0_Water_p a0.Water.length a0_Water_c)), kc 1 6 (.v (.slice a0_Ice_p a0.Ice.length a0_Ice_c)), kc 1 7 (.i a0.Slow), kc 1 8 (.i a0.Brash), kc 1 9 (.i a0.Ridge), kc 1 10 (.i a0.Press), kc 3 0 (.B a2), kc 4 0 (.i 0), kc 4 1 (.i 0), kc 5 0 (.i 250), kc 5 1 (.i 0), kc 6 0 (.i a1.Conc.Lo), kc 6 1 (.i a1.Conc.Hi), kc 6 2 (.i a1.Thick.Lo), kc 6 3 (.i a1.Thick.Hi), kc 6 4 (.i a1.Ridge.Lo), kc 6 5 (.i a1.Ridge.Hi), kc 6 6 (.i a1.Press.Lo), kc 6 7 (.i a1.Press.Hi)]) ?_ (kp rfl) rfl
        refine aw_text (rows := [_, _]) rfl (by kernel_rfl) ⟨
          ok_plain rfl rfl (op_alloc (L := 7) (ltN rfl) zl_28),
          ok_plain rfl rfl (op_storeN sz_28 rfl rfl rfl rfl rfl (by decide)),
          trivial⟩ ?_
        refine fin_keep (s' := [kt 3 (.p 1 0), kt 5 (.p 3 0), kt 9 (.p 5 0), kt 10 (.p 7 0), (.u 0 3, some (.x (.p 1 0))), (.u 0 5, some (.x (.p 3 0))), (.u 0 6, some (.x (.p 4 0))), (.u 0 9, some (.x (.p 5 0))), (.u 0 21, some (.x (.f (.func 145) [] [.p 6 0]))), (.u 1 0, some (.x (.v (.func (.yield l1) #[] #[])))), (.u 1 1, some (.x (.p 6 0))), (.u 1 3, some (.x (.v (.func (.yield l1) #[] #[])))), (.u 1 4, some (.x (.g [.i a1.Conc.Lo, .i a1.Conc.Hi, .i a1.Thick.Lo, .i a1.Thick.Hi, .i a1.Ridge.Lo, .i a1.Ridge.Hi, .i a1.Press.Lo, .i a1.Press.Hi]))), (.u 1 5, some (.x (.g [.i ((firstI a1).Conc), .i ((firstI a1).Thick), .i ((firstI a1).Ridge), .i ((firstI a1).Press)]))), kb 1 25 11, kb 3 4 1, kb 4 32 2, kb 5 32 2, kb 6 34 8, kb 7 28 4, kc 1 0 (.i a0.Class), kc 1 1 (.i a0.Power), kc 1 2 (.i a0.Draught), kc 1 3 (.i a0.Tonnes), kc 1 4 (.v (.slice a0_Thrust_p a0.Thrust.length a0_Thrust_c)), kc 1 5 (.v (.slice a0_Water_p a0.Water.length a0_Water_c)), kc 1 6 (.v (.slice a0_Ice_p a0.Ice.length a0_Ice_c)), kc 1 7 (.i a0.Slow), kc 1 8 (.i a0.Brash), kc 1 9 (.i a0.Ridge), kc 1 10 (.i a0.Press), kc 3 0 (.B a2), kc 4 0 (.i 0), kc 4 1 (.i 0), kc 5 0 (.i 250), kc 5 1 (.i 0), kc 6 0 (.i a1.Conc.Lo), kc 6 1 (.i a1.Conc.Hi), kc 6 2 (.i a1.Thick.Lo), kc 6 3 (.i a1.Thick.Hi), kc 6 4 (.i a1.Ridge.Lo), kc 6 5 (.i a1.Ridge.Hi), kc 6 6 (.i a1.Press.Lo), kc 6 7 (.i a1.Press.Hi), kc 7 0 (.i ((firstI a1).Conc)), kc 7 1 (.i ((firstI a1).Thick)), kc 7 2 (.i ((firstI a1).Ridge)), kc 7 3 (.i ((firstI a1).Press))]) ?_ (kp rfl) rfl
        refine fin_begin hB1 hK1 ?_
        refine aw_block ?_
        refine aw_seq ?_
        obtain ⟨hp2, hm⟩ := chk_some hm
        obtain ⟨hp3, hm⟩ := chk_some hm
        refine aw_text (rows := [_, _, _, _, _]) rfl (by kernel_rfl) ⟨
          ok_plain rfl rfl (op_loadN (ys := [.i ((firstI a1).Conc), .i ((firstI a1).Thick), .i ((firstI a1).Ridge), .i ((firstI a1).Press)]) (ltN rfl) sh_28 rfl rfl ⟨rfl, rfl, rfl, rfl, trivial⟩),
          ok_plain rfl rfl (op_load1 (ltN rfl) sh_4 rfl rfl),
          ok_plain rfl rfl (op_build (x := .g [.p 1 0, .i ((firstI a1).Conc), .i ((firstI a1).Thick), .i ((firstI a1).Ridge), .i ((firstI a1).Press), .B a2]) (ltN rfl) (EvL.cons rfl (EvL.cons rfl (EvL.cons rfl EvL.nil))) (fun m w => by kernel_rfl)),
          ok_plain rfl rfl (op_call (x := .i (speed a0 ((firstI a1)) a2)) (fs := []) (caps := []) (extra := (kapp ((.b 1 :: cellKeys 1 0 11)) [])) (ltN rfl) en_76 rfl ⟨rfl, rfl, rfl⟩ (EvL.cons rfl EvL.nil) (fun mm aa ww gg hr hrel => (c76 a0 ⟨a0_Thrust_p, a0.Thrust.length, a0_Thrust_c⟩ ⟨a0_Water_p, a0.Water.length, a0_Water_c⟩ ⟨a0_Ice_p, a0.Ice.length, a0_Ice_c⟩ (mm 1) ((firstI a1)) a2 ww (SlIs.mono ha0_Thrust hrel.below) (SlIs.mono ha0_Water hrel.below) (SlIs.mono ha0_Ice hrel.below) (boxAt (L := 1) (vs := [(.int .i64 a0.Class), (.int .i64 a0.Power), (.int .i64 a0.Draught), (.int .i64 a0.Tonnes), (.slice a0_Thrust_p a0.Thrust.length a0_Thrust_c), (.slice a0_Water_p a0.Water.length a0_Water_c), (.slice a0_Ice_p a0.Ice.length a0_Ice_c), (.int .i64 a0.Slow), (.int .i64 a0.Brash), (.int .i64 a0.Ridge), (.int .i64 a0.Press)]) hrel (fun k hk => hr k (List.mem_append_left _ hk)) rfl ⟨rfl, rfl, rfl, rfl, rfl, rfl, rfl, rfl, rfl, rfl, rfl, trivial⟩) hp2 hp3))),
          ok_plain rfl rfl (op_assign (ltN rfl) rfl),
          trivial⟩ ?_
        refine fin_keep (s' := [kt 9 (.p 5 0), kt 11 (.i (speed a0 ((firstI a1)) a2)), (.u 0 3, some (.x (.p 1 0))), (.u 0 5, some (.x (.p 3 0))), (.u 0 6, some (.x (.p 4 0))), (.u 0 9, some (.x (.p 5 0))), (.u 0 21, some (.x (.f (.func 145) [] [.p 6 0]))), (.u 1 0, some (.x (.v (.func (.yield l1) #[] #[])))), (.u 1 1, some (.x (.p 6 0))), (.u 1 3, some (.x (.v (.func (.yield l1) #[] #[])))), (.u 1 4, some (.x (.g [.i a1.Conc.Lo, .i a1.Conc.Hi, .i a1.Thick.Lo, .i a1.Thick.Hi, .i a1.Ridge.Lo, .i a1.Ridge.Hi, .i a1.Press.Lo, .i a1.Press.Hi]))), (.u 1 5, some (.x (.g [.i ((firstI a1).Conc), .i ((firstI a1).Thick), .i ((firstI a1).Ridge), .i ((firstI a1).Press)]))), kb 1 25 11, kb 3 4 1, kb 4 32 2, kb 5 32 2, kb 6 34 8, kc 1 0 (.i a0.Class), kc 1 1 (.i a0.Power), kc 1 2 (.i a0.Draught), kc 1 3 (.i a0.Tonnes), kc 1 4 (.v (.slice a0_Thrust_p a0.Thrust.length a0_Thrust_c)), kc 1 5 (.v (.slice a0_Water_p a0.Water.length a0_Water_c)), kc 1 6 (.v (.slice a0_Ice_p a0.Ice.length a0_Ice_c)), kc 1 7 (.i a0.Slow), kc 1 8 (.i a0.Brash), kc 1 9 (.i a0.Ridge), kc 1 10 (.i a0.Press), kc 3 0 (.B a2), kc 4 0 (.i 0), kc 4 1 (.i 0), kc 5 0 (.i 250), kc 5 1 (.i 0), kc 6 0 (.i a1.Conc.Lo), kc 6 1 (.i a1.Conc.Hi), kc 6 2 (.i a1.Thick.Lo), kc 6 3 (.i a1.Thick.Hi), kc 6 4 (.i a1.Ridge.Lo), kc 6 5 (.i a1.Ridge.Hi), kc 6 6 (.i a1.Press.Lo), kc 6 7 (.i a1.Press.Hi)]) ?_ (kp rfl) rfl
        refine fin_then ?_
        refine aw_text (rows := [_, _, _, _, _, _, _, _, _, _, _, _]) rfl (by kernel_rfl) ⟨
          ok_plain rfl rfl (op_fieldAddr (ltN rfl) rfl fo_32_0),
          ok_plain rfl rfl (op_load1 (ltN rfl) sh_3 rfl rfl),
          ok_plain rfl rfl (op_move (ltN rfl) rfl),
          ok_plain rfl rfl (op_min (ltN rfl) rfl rfl),
          ok_plain rfl rfl (op_fieldAddr (ltN rfl) rfl fo_32_1),
          ok_plain rfl rfl (op_load1 (ltN rfl) sh_3 rfl rfl),
          ok_plain rfl rfl (op_move (ltN rfl) rfl),
          ok_plain rfl rfl (op_max (ltN rfl) rfl rfl),
          ok_plain rfl rfl (op_fieldAddr (ltN rfl) rfl fo_32_0),
          ok_plain rfl rfl (op_store1 sz_3 rfl rfl rfl rfl (ltN rfl)),
          ok_plain rfl rfl (op_fieldAddr (ltN rfl) rfl fo_32_1),
          ok_plain rfl rfl (op_store1 sz_3 rfl rfl rfl rfl (ltN rfl)),
          trivial⟩ ?_
        refine fin_keep (s' := [(.u 0 3, some (.x (.p 1 0))), (.u 0 5, some (.x (.p 3 0))), (.u 0 6, some (.x (.p 4 0))), (.u 0 9, some (.x (.p 5 0))), (.u 0 21, some (.x (.f (.func 145) [] [.p 6 0]))), (.u 1 0, some (.x (.v (.func (.yield l1) #[] #[])))), (.u 1 1, some (.x (.p 6 0))), (.u 1 3, some (.x (.v (.func (.yield l1) #[] #[])))), (.u 1 4, some (.x (.g [.i a1.Conc.Lo, .i a1.Conc.Hi, .i a1.Thick.Lo, .i a1.Thick.Hi, .i a1.Ridge.Lo, .i a1.Ridge.Hi, .i a1.Press.Lo, .i a1.Press.Hi]))), (.u 1 5, some (.x (.g [.i ((firstI a1).Conc), .i ((firstI a1).Thick), .i ((firstI a1).Ridge), .i ((firstI a1).Press)]))), kb 1 25 11, kb 3 4 1, kb 4 32 2, kb 5 32 2, kb 6 34 8, kc 1 0 (.i a0.Class), kc 1 1 (.i a0.Power), kc 1 2 (.i a0.Draught), kc 1 3 (.i a0.Tonnes), kc 1 4 (.v (.slice a0_Thrust_p a0.Thrust.length a0_Thrust_c)), kc 1 5 (.v (.slice a0_Water_p a0.Water.length a0_Water_c)), kc 1 6 (.v (.slice a0_Ice_p a0.Ice.length a0_Ice_c)), kc 1 7 (.i a0.Slow), kc 1 8 (.i a0.Brash), kc 1 9 (.i a0.Ridge), kc 1 10 (.i a0.Press), kc 3 0 (.B a2), kc 4 0 (.i 0), kc 4 1 (.i 0), kc 5 0 (.i (if (speed a0 ((firstI a1)) a2) < 250 then speed a0 ((firstI a1)) a2 else 250)), kc 5 1 (.i (if (speed a0 ((firstI a1)) a2) > 0 then speed a0 ((firstI a1)) a2 else 0)), kc 6 0 (.i a1.Conc.Lo), kc 6 1 (.i a1.Conc.Hi), kc 6 2 (.i a1.Thick.Lo), kc 6 3 (.i a1.Thick.Hi), kc 6 4 (.i a1.Ridge.Lo), kc 6 5 (.i a1.Ridge.Hi), kc 6 6 (.i a1.Press.Lo), kc 6 7 (.i a1.Press.Hi)]) ?_ (kp rfl) rfl
        refine fin_block ?_
        have hm := Option.some.inj hm
        subst hm
        exact fin_roundEnd _ _ _ rfl hB1 hK1 hIv2 ⟨rfl, rfl, rfl, rfl, rfl, trivial⟩ ⟨rfl, rfl, rfl, rfl, rfl, rfl, rfl, rfl, rfl, rfl, rfl, rfl, rfl, rfl, rfl, rfl, rfl, rfl, rfl, rfl, rfl, rfl, rfl, rfl, rfl, rfl, rfl, rfl, rfl, rfl, rfl, rfl, rfl, rfl, trivial⟩ rfl rfl
      refine fin_keep (s' := [kt 0 (.v (.func (.yield l1) #[] #[])), kt 1 (.p 6 0), kt 13 (.B (!decide ((firstI a1) = (lastI a1)))), (.u 0 3, some (.x (.p 1 0))), (.u 0 5, some (.x (.p 3 0))), (.u 0 6, some (.x (.p 4 0))), (.u 0 9, some (.x (.p 5 0))), (.u 0 21, some (.x (.f (.func 145) [] [.p 6 0]))), kb 1 25 11, kb 3 4 1, kb 4 32 2, kb 5 32 2, kb 6 34 8, kc 1 0 (.i a0.Class), kc 1 1 (.i a0.Power), kc 1 2 (.i a0.Draught), kc 1 3 (.i a0.Tonnes), kc 1 4 (.v (.slice a0_Thrust_p a0.Thrust.length a0_Thrust_c)), kc 1 5 (.v (.slice a0_Water_p a0.Water.length a0_Water_c)), kc 1 6 (.v (.slice a0_Ice_p a0.Ice.length a0_Ice_c)), kc 1 7 (.i a0.Slow), kc 1 8 (.i a0.Brash), kc 1 9 (.i a0.Ridge), kc 1 10 (.i a0.Press), kc 3 0 (.B a2), kc 4 0 (.i 0), kc 4 1 (.i 0), kc 5 0 (.i v2.1), kc 5 1 (.i v2.2), kc 6 0 (.i a1.Conc.Lo), kc 6 1 (.i a1.Conc.Hi), kc 6 2 (.i a1.Thick.Lo), kc 6 3 (.i a1.Thick.Hi), kc 6 4 (.i a1.Ridge.Lo), kc 6 5 (.i a1.Ridge.Hi), kc 6 6 (.i a1.Press.Lo), kc 6 7 (.i a1.Press.Hi)]) ?_ (kp rfl) rfl
      refine fin_then ?_
      refine aw_cond rfl (fun hz4 => ?_) (fun hz4 => ?_)
      · have hm := brk_t hz4 hm
        obtain ⟨v3, hv3, hm⟩ := bnd_some hm
        refine aw_text (rows := [_, _, _, _]) rfl (by kernel_rfl) ⟨
          ok_plain rfl rfl (op_move (ltN rfl) rfl),
          ok_plain rfl rfl (op_loadN (ys := [.i a1.Conc.Lo, .i a1.Conc.Hi, .i a1.Thick.Lo, .i a1.Thick.Hi, .i a1.Ridge.Lo, .i a1.Ridge.Hi, .i a1.Press.Lo, .i a1.Press.Hi]) (ltN rfl) sh_34 rfl rfl ⟨rfl, rfl, rfl, rfl, rfl, rfl, rfl, rfl, trivial⟩),
          ok_plain rfl rfl (op_call (x := .g [.i ((lastI a1).Conc), .i ((lastI a1).Thick), .i ((lastI a1).Ridge), .i ((lastI a1).Press)]) (fs := []) (caps := []) (extra := []) (ltN rfl) en_100 rfl ⟨rfl, rfl, rfl⟩ (EvL.cons rfl EvL.nil) (fun mm aa ww gg hr hrel => (c100 a1 ww))),
          ok_plain rfl rfl (op_yieldIn (N := 38) (tmpSt [(0, .v (.func (.yield l1) #[] #[])), (1, .p 6 0), (13, .B (!decide ((firstI a1) = (lastI a1)))), (14, .v (.func (.yield l1) #[] #[])), (15, .g [.i a1.Conc.Lo, .i a1.Conc.Hi, .i a1.Thick.Lo, .i a1.Thick.Hi, .i a1.Ridge.Lo, .i a1.Ridge.Hi, .i a1.Press.Lo, .i a1.Press.Hi]), (16, .g [.i ((lastI a1).Conc), .i ((lastI a1).Thick), .i ((lastI a1).Ridge), .i ((lastI a1).Press)])] ++ ((([(.u 0 3, some (.x (.p 1 0))), (.u 0 5, some (.x (.p 3 0))), (.u 0 6, some (.x (.p 4 0))), (.u 0 9, some (.x (.p 5 0))), (.u 0 21, some (.x (.f (.func 145) [] [.p 6 0]))), kb 1 25 11, kb 3 4 1, kb 4 32 2, kb 5 32 2, kb 6 34 8, kc 1 0 (.i a0.Class), kc 1 1 (.i a0.Power), kc 1 2 (.i a0.Draught), kc 1 3 (.i a0.Tonnes), kc 1 4 (.v (.slice a0_Thrust_p a0.Thrust.length a0_Thrust_c)), kc 1 5 (.v (.slice a0_Water_p a0.Water.length a0_Water_c)), kc 1 6 (.v (.slice a0_Ice_p a0.Ice.length a0_Ice_c)), kc 1 7 (.i a0.Slow), kc 1 8 (.i a0.Brash), kc 1 9 (.i a0.Ridge), kc 1 10 (.i a0.Press), kc 3 0 (.B a2), kc 4 0 (.i 0), kc 4 1 (.i 0)] : St) ++ (([kc 5 0 (.i v3.1), kc 5 1 (.i v3.2), kc 6 0 (.i a1.Conc.Lo), kc 6 1 (.i a1.Conc.Hi), kc 6 2 (.i a1.Thick.Lo), kc 6 3 (.i a1.Thick.Hi), kc 6 4 (.i a1.Ridge.Lo), kc 6 5 (.i a1.Ridge.Hi), kc 6 6 (.i a1.Press.Lo), kc 6 7 (.i a1.Press.Hi)] : St))) ++ dropSt [.b 8, .c 8 0, .c 8 1, .c 8 2, .c 8 3, .t 10, .t 11, .t 23, .t 24, .t 25, .t 26, .t 27, .t 28, .t 29, .t 30, .t 31, .t 32, .t 33, .t 34, .t 35, .t 36])) 1 [(0, .v (.func (.yield l1) #[] #[])), (1, .p 6 0), (13, .B (!decide ((firstI a1) = (lastI a1)))), (14, .v (.func (.yield l1) #[] #[])), (15, .g [.i a1.Conc.Lo, .i a1.Conc.Hi, .i a1.Thick.Lo, .i a1.Thick.Hi, .i a1.Ridge.Lo, .i a1.Ridge.Hi, .i a1.Press.Lo, .i a1.Press.Hi]), (16, .g [.i ((lastI a1).Conc), .i ((lastI a1).Thick), .i ((lastI a1).Ridge), .i ((lastI a1).Press)])] [(3, .p 1 0), (5, .p 3 0), (6, .p 4 0), (9, .p 5 0), (21, .f (.func 145) [] [.p 6 0])] [(.u 0 3, some (.x (.p 1 0))), (.u 0 5, some (.x (.p 3 0))), (.u 0 6, some (.x (.p 4 0))), (.u 0 9, some (.x (.p 5 0))), (.u 0 21, some (.x (.f (.func 145) [] [.p 6 0]))), kb 1 25 11, kb 3 4 1, kb 4 32 2, kb 5 32 2, kb 6 34 8, kc 1 0 (.i a0.Class), kc 1 1 (.i a0.Power), kc 1 2 (.i a0.Draught), kc 1 3 (.i a0.Tonnes), kc 1 4 (.v (.slice a0_Thrust_p a0.Thrust.length a0_Thrust_c)), kc 1 5 (.v (.slice a0_Water_p a0.Water.length a0_Water_c)), kc 1 6 (.v (.slice a0_Ice_p a0.Ice.length a0_Ice_c)), kc 1 7 (.i a0.Slow), kc 1 8 (.i a0.Brash), kc 1 9 (.i a0.Ridge), kc 1 10 (.i a0.Press), kc 3 0 (.B a2), kc 4 0 (.i 0), kc 4 1 (.i 0), kc 5 0 (.i v2.1), kc 5 1 (.i v2.2), kc 6 0 (.i a1.Conc.Lo), kc 6 1 (.i a1.Conc.Hi), kc 6 2 (.i a1.Thick.Lo), kc 6 3 (.i a1.Thick.Hi), kc 6 4 (.i a1.Ridge.Lo), kc 6 5 (.i a1.Ridge.Hi), kc 6 6 (.i a1.Press.Lo), kc 6 7 (.i a1.Press.Hi)] (ltN rfl) rfl (EvL.cons rfl EvL.nil) rfl (by decide) hz1 ⟨rfl, rfl, rfl, rfl, rfl, rfl, trivial⟩ ⟨rfl, rfl, rfl, rfl, rfl, trivial⟩ ⟨rfl, rfl, rfl, rfl, rfl, rfl, rfl, rfl, rfl, rfl, rfl, rfl, rfl, rfl, rfl, rfl, rfl, rfl, rfl, rfl, rfl, rfl, rfl, rfl, rfl, rfl, rfl, rfl, rfl, rfl, rfl, rfl, rfl, rfl, trivial⟩ rfl rfl (by decide) rfl (fun aIv3 hIv3 => ?_)),
          trivial⟩ ?_
        · have hm := hv3
          refine AW.keep (s' := [kt 3 (.p 1 0), kt 5 (.p 3 0), kt 6 (.p 4 0), kt 9 (.p 5 0), kt 21 (.f (.func 145) [] [.p 6 0]), kt 22 (.g [.i ((lastI a1).Conc), .i ((lastI a1).Thick), .i ((lastI a1).Ridge), .i ((lastI a1).Press)]), (.u 0 3, some (.x (.p 1 0))), (.u 0 5, some (.x (.p 3 0))), (.u 0 6, some (.x (.p 4 0))), (.u 0 9, some (.x (.p 5 0))), (.u 0 21, some (.x (.f (.func 145) [] [.p 6 0]))), (.u 1 0, some (.x (.v (.func (.yield l1) #[] #[])))), (.u 1 1, some (.x (.p 6 0))), (.u 1 13, some (.x (.B (!decide ((firstI a1) = (lastI a1)))))), (.u 1 14, some (.x (.v (.func (.yield l1) #[] #[])))), (.u 1 15, some (.x (.g [.i a1.Conc.Lo, .i a1.Conc.Hi, .i a1.Thick.Lo, .i a1.Thick.Hi, .i a1.Ridge.Lo, .i a1.Ridge.Hi, .i a1.Press.Lo, .i a1.Press.Hi]))), (.u 1 16, some (.x (.g [.i ((lastI a1).Conc), .i ((lastI a1).Thick), .i ((lastI a1).Ridge), .i ((lastI a1).Press)]))), kb 1 25 11, kb 3 4 1, kb 4 32 2, kb 5 32 2, kb 6 34 8, kc 1 0 (.i a0.Class), kc 1 1 (.i a0.Power), kc 1 2 (.i a0.Draught), kc 1 3 (.i a0.Tonnes), kc 1 4 (.v (.slice a0_Thrust_p a0.Thrust.length a0_Thrust_c)), kc 1 5 (.v (.slice a0_Water_p a0.Water.length a0_Water_c)), kc 1 6 (.v (.slice a0_Ice_p a0.Ice.length a0_Ice_c)), kc 1 7 (.i a0.Slow), kc 1 8 (.i a0.Brash), kc 1 9 (.i a0.Ridge), kc 1 10 (.i a0.Press), kc 3 0 (.B a2), kc 4 0 (.i 0), kc 4 1 (.i 0), kc 5 0 (.i v2.1), kc 5 1 (.i v2.2), kc 6 0 (.i a1.Conc.Lo), kc 6 1 (.i a1.Conc.Hi), kc 6 2 (.i a1.Thick.Lo), kc 6 3 (.i a1.Thick.Hi), kc 6 4 (.i a1.Ridge.Lo), kc 6 5 (.i a1.Ridge.Hi), kc 6 6 (.i a1.Press.Lo), kc 6 7 (.i a1.Press.Hi)]) ?_ (kp rfl) rfl
          refine aw_text (rows := [_, _]) rfl (by kernel_rfl) ⟨
            ok_plain rfl rfl (op_alloc (L := 8) (ltN rfl) zl_28),
            ok_plain rfl rfl (op_storeN sz_28 rfl rfl rfl rfl rfl (by decide)),
            trivial⟩ ?_
          refine fin_keep (s' := [kt 3 (.p 1 0), kt 5 (.p 3 0), kt 9 (.p 5 0), kt 10 (.p 8 0), (.u 0 3, some (.x (.p 1 0))), (.u 0 5, some (.x (.p 3 0))), (.u 0 6, some (.x (.p 4 0))), (.u 0 9, some (.x (.p 5 0))), (.u 0 21, some (.x (.f (.func 145) [] [.p 6 0]))), (.u 1 0, some (.x (.v (.func (.yield l1) #[] #[])))), (.u 1 1, some (.x (.p 6 0))), (.u 1 13, some (.x (.B (!decide ((firstI a1) = (lastI a1)))))), (.u 1 14, some (.x (.v (.func (.yield l1) #[] #[])))), (.u 1 15, some (.x (.g [.i a1.Conc.Lo, .i a1.Conc.Hi, .i a1.Thick.Lo, .i a1.Thick.Hi, .i a1.Ridge.Lo, .i a1.Ridge.Hi, .i a1.Press.Lo, .i a1.Press.Hi]))), (.u 1 16, some (.x (.g [.i ((lastI a1).Conc), .i ((lastI a1).Thick), .i ((lastI a1).Ridge), .i ((lastI a1).Press)]))), kb 1 25 11, kb 3 4 1, kb 4 32 2, kb 5 32 2, kb 6 34 8, kb 8 28 4, kc 1 0 (.i a0.Class), kc 1 1 (.i a0.Power), kc 1 2 (.i a0.Draught), kc 1 3 (.i a0.Tonnes), kc 1 4 (.v (.slice a0_Thrust_p a0.Thrust.length a0_Thrust_c)), kc 1 5 (.v (.slice a0_Water_p a0.Water.length a0_Water_c)), kc 1 6 (.v (.slice a0_Ice_p a0.Ice.length a0_Ice_c)), kc 1 7 (.i a0.Slow), kc 1 8 (.i a0.Brash), kc 1 9 (.i a0.Ridge), kc 1 10 (.i a0.Press), kc 3 0 (.B a2), kc 4 0 (.i 0), kc 4 1 (.i 0), kc 5 0 (.i v2.1), kc 5 1 (.i v2.2), kc 6 0 (.i a1.Conc.Lo), kc 6 1 (.i a1.Conc.Hi), kc 6 2 (.i a1.Thick.Lo), kc 6 3 (.i a1.Thick.Hi), kc 6 4 (.i a1.Ridge.Lo), kc 6 5 (.i a1.Ridge.Hi), kc 6 6 (.i a1.Press.Lo), kc 6 7 (.i a1.Press.Hi), kc 8 0 (.i ((lastI a1).Conc)), kc 8 1 (.i ((lastI a1).Thick)), kc 8 2 (.i ((lastI a1).Ridge)), kc 8 3 (.i ((lastI a1).Press))]) ?_ (kp rfl) rfl
          refine fin_begin hB1 hK1 ?_
          refine aw_block ?_
          refine aw_seq ?_
          obtain ⟨hp5, hm⟩ := chk_some hm
          obtain ⟨hp6, hm⟩ := chk_some hm
          refine aw_text (rows := [_, _, _, _, _]) rfl (by kernel_rfl) ⟨
            ok_plain rfl rfl (op_loadN (ys := [.i ((lastI a1).Conc), .i ((lastI a1).Thick), .i ((lastI a1).Ridge), .i ((lastI a1).Press)]) (ltN rfl) sh_28 rfl rfl ⟨rfl, rfl, rfl, rfl, trivial⟩),
            ok_plain rfl rfl (op_load1 (ltN rfl) sh_4 rfl rfl),
            ok_plain rfl rfl (op_build (x := .g [.p 1 0, .i ((lastI a1).Conc), .i ((lastI a1).Thick), .i ((lastI a1).Ridge), .i ((lastI a1).Press), .B a2]) (ltN rfl) (EvL.cons rfl (EvL.cons rfl (EvL.cons rfl EvL.nil))) (fun m w => by kernel_rfl)),
            ok_plain rfl rfl (op_call (x := .i (speed a0 ((lastI a1)) a2)) (fs := []) (caps := []) (extra := (kapp ((.b 1 :: cellKeys 1 0 11)) [])) (ltN rfl) en_76 rfl ⟨rfl, rfl, rfl⟩ (EvL.cons rfl EvL.nil) (fun mm aa ww gg hr hrel => (c76 a0 ⟨a0_Thrust_p, a0.Thrust.length, a0_Thrust_c⟩ ⟨a0_Water_p, a0.Water.length, a0_Water_c⟩ ⟨a0_Ice_p, a0.Ice.length, a0_Ice_c⟩ (mm 1) ((lastI a1)) a2 ww (SlIs.mono ha0_Thrust hrel.below) (SlIs.mono ha0_Water hrel.below) (SlIs.mono ha0_Ice hrel.below) (boxAt (L := 1) (vs := [(.int .i64 a0.Class), (.int .i64 a0.Power), (.int .i64 a0.Draught), (.int .i64 a0.Tonnes), (.slice a0_Thrust_p a0.Thrust.length a0_Thrust_c), (.slice a0_Water_p a0.Water.length a0_Water_c), (.slice a0_Ice_p a0.Ice.length a0_Ice_c), (.int .i64 a0.Slow), (.int .i64 a0.Brash), (.int .i64 a0.Ridge), (.int .i64 a0.Press)]) hrel (fun k hk => hr k (List.mem_append_left _ hk)) rfl ⟨rfl, rfl, rfl, rfl, rfl, rfl, rfl, rfl, rfl, rfl, rfl, trivial⟩) hp5 hp6))),
            ok_plain rfl rfl (op_assign (ltN rfl) rfl),
            trivial⟩ ?_
          refine fin_keep (s' := [kt 9 (.p 5 0), kt 11 (.i (speed a0 ((lastI a1)) a2)), (.u 0 3, some (.x (.p 1 0))), (.u 0 5, some (.x (.p 3 0))), (.u 0 6, some (.x (.p 4 0))), (.u 0 9, some (.x (.p 5 0))), (.u 0 21, some (.x (.f (.func 145) [] [.p 6 0]))), (.u 1 0, some (.x (.v (.func (.yield l1) #[] #[])))), (.u 1 1, some (.x (.p 6 0))), (.u 1 13, some (.x (.B (!decide ((firstI a1) = (lastI a1)))))), (.u 1 14, some (.x (.v (.func (.yield l1) #[] #[])))), (.u 1 15, some (.x (.g [.i a1.Conc.Lo, .i a1.Conc.Hi, .i a1.Thick.Lo, .i a1.Thick.Hi, .i a1.Ridge.Lo, .i a1.Ridge.Hi, .i a1.Press.Lo, .i a1.Press.Hi]))), (.u 1 16, some (.x (.g [.i ((lastI a1).Conc), .i ((lastI a1).Thick), .i ((lastI a1).Ridge), .i ((lastI a1).Press)]))), kb 1 25 11, kb 3 4 1, kb 4 32 2, kb 5 32 2, kb 6 34 8, kc 1 0 (.i a0.Class), kc 1 1 (.i a0.Power), kc 1 2 (.i a0.Draught), kc 1 3 (.i a0.Tonnes), kc 1 4 (.v (.slice a0_Thrust_p a0.Thrust.length a0_Thrust_c)), kc 1 5 (.v (.slice a0_Water_p a0.Water.length a0_Water_c)), kc 1 6 (.v (.slice a0_Ice_p a0.Ice.length a0_Ice_c)), kc 1 7 (.i a0.Slow), kc 1 8 (.i a0.Brash), kc 1 9 (.i a0.Ridge), kc 1 10 (.i a0.Press), kc 3 0 (.B a2), kc 4 0 (.i 0), kc 4 1 (.i 0), kc 5 0 (.i v2.1), kc 5 1 (.i v2.2), kc 6 0 (.i a1.Conc.Lo), kc 6 1 (.i a1.Conc.Hi), kc 6 2 (.i a1.Thick.Lo), kc 6 3 (.i a1.Thick.Hi), kc 6 4 (.i a1.Ridge.Lo), kc 6 5 (.i a1.Ridge.Hi), kc 6 6 (.i a1.Press.Lo), kc 6 7 (.i a1.Press.Hi)]) ?_ (kp rfl) rfl
          refine fin_then ?_
          refine aw_text (rows := [_, _, _, _, _, _, _, _, _, _, _, _]) rfl (by kernel_rfl) ⟨
            ok_plain rfl rfl (op_fieldAddr (ltN rfl) rfl fo_32_0),
            ok_plain rfl rfl (op_load1 (ltN rfl) sh_3 rfl rfl),
            ok_plain rfl rfl (op_move (ltN rfl) rfl),
            ok_plain rfl rfl (op_min (ltN rfl) rfl rfl),
            ok_plain rfl rfl (op_fieldAddr (ltN rfl) rfl fo_32_1),
            ok_plain rfl rfl (op_load1 (ltN rfl) sh_3 rfl rfl),
            ok_plain rfl rfl (op_move (ltN rfl) rfl),
            ok_plain rfl rfl (op_max (ltN rfl) rfl rfl),
            ok_plain rfl rfl (op_fieldAddr (ltN rfl) rfl fo_32_0),
            ok_plain rfl rfl (op_store1 sz_3 rfl rfl rfl rfl (ltN rfl)),
            ok_plain rfl rfl (op_fieldAddr (ltN rfl) rfl fo_32_1),
            ok_plain rfl rfl (op_store1 sz_3 rfl rfl rfl rfl (ltN rfl)),
            trivial⟩ ?_
          refine fin_keep (s' := [(.u 0 3, some (.x (.p 1 0))), (.u 0 5, some (.x (.p 3 0))), (.u 0 6, some (.x (.p 4 0))), (.u 0 9, some (.x (.p 5 0))), (.u 0 21, some (.x (.f (.func 145) [] [.p 6 0]))), (.u 1 0, some (.x (.v (.func (.yield l1) #[] #[])))), (.u 1 1, some (.x (.p 6 0))), (.u 1 13, some (.x (.B (!decide ((firstI a1) = (lastI a1)))))), (.u 1 14, some (.x (.v (.func (.yield l1) #[] #[])))), (.u 1 15, some (.x (.g [.i a1.Conc.Lo, .i a1.Conc.Hi, .i a1.Thick.Lo, .i a1.Thick.Hi, .i a1.Ridge.Lo, .i a1.Ridge.Hi, .i a1.Press.Lo, .i a1.Press.Hi]))), (.u 1 16, some (.x (.g [.i ((lastI a1).Conc), .i ((lastI a1).Thick), .i ((lastI a1).Ridge), .i ((lastI a1).Press)]))), kb 1 25 11, kb 3 4 1, kb 4 32 2, kb 5 32 2, kb 6 34 8, kc 1 0 (.i a0.Class), kc 1 1 (.i a0.Power), kc 1 2 (.i a0.Draught), kc 1 3 (.i a0.Tonnes), kc 1 4 (.v (.slice a0_Thrust_p a0.Thrust.length a0_Thrust_c)), kc 1 5 (.v (.slice a0_Water_p a0.Water.length a0_Water_c)), kc 1 6 (.v (.slice a0_Ice_p a0.Ice.length a0_Ice_c)), kc 1 7 (.i a0.Slow), kc 1 8 (.i a0.Brash), kc 1 9 (.i a0.Ridge), kc 1 10 (.i a0.Press), kc 3 0 (.B a2), kc 4 0 (.i 0), kc 4 1 (.i 0), kc 5 0 (.i (if (speed a0 ((lastI a1)) a2) < v2.1 then speed a0 ((lastI a1)) a2 else v2.1)), kc 5 1 (.i (if (speed a0 ((lastI a1)) a2) > v2.2 then speed a0 ((lastI a1)) a2 else v2.2)), kc 6 0 (.i a1.Conc.Lo), kc 6 1 (.i a1.Conc.Hi), kc 6 2 (.i a1.Thick.Lo), kc 6 3 (.i a1.Thick.Hi), kc 6 4 (.i a1.Ridge.Lo), kc 6 5 (.i a1.Ridge.Hi), kc 6 6 (.i a1.Press.Lo), kc 6 7 (.i a1.Press.Hi)]) ?_ (kp rfl) rfl
          refine fin_block ?_
          have hm := Option.some.inj hm
          subst hm
          exact fin_roundEnd _ _ _ rfl hB1 hK1 hIv3 ⟨rfl, rfl, rfl, rfl, rfl, rfl, trivial⟩ ⟨rfl, rfl, rfl, rfl, rfl, rfl, rfl, rfl, rfl, rfl, rfl, rfl, rfl, rfl, rfl, rfl, rfl, rfl, rfl, rfl, rfl, rfl, rfl, rfl, rfl, rfl, rfl, rfl, rfl, rfl, rfl, rfl, rfl, rfl, trivial⟩ rfl rfl
        refine fin_keep (s' := [(.u 0 3, some (.x (.p 1 0))), (.u 0 5, some (.x (.p 3 0))), (.u 0 6, some (.x (.p 4 0))), (.u 0 9, some (.x (.p 5 0))), (.u 0 21, some (.x (.f (.func 145) [] [.p 6 0]))), kb 1 25 11, kb 3 4 1, kb 4 32 2, kb 5 32 2, kb 6 34 8, kc 1 0 (.i a0.Class), kc 1 1 (.i a0.Power), kc 1 2 (.i a0.Draught), kc 1 3 (.i a0.Tonnes), kc 1 4 (.v (.slice a0_Thrust_p a0.Thrust.length a0_Thrust_c)), kc 1 5 (.v (.slice a0_Water_p a0.Water.length a0_Water_c)), kc 1 6 (.v (.slice a0_Ice_p a0.Ice.length a0_Ice_c)), kc 1 7 (.i a0.Slow), kc 1 8 (.i a0.Brash), kc 1 9 (.i a0.Ridge), kc 1 10 (.i a0.Press), kc 3 0 (.B a2), kc 4 0 (.i 0), kc 4 1 (.i 0), kc 5 0 (.i v3.1), kc 5 1 (.i v3.2), kc 6 0 (.i a1.Conc.Lo), kc 6 1 (.i a1.Conc.Hi), kc 6 2 (.i a1.Thick.Lo), kc 6 3 (.i a1.Thick.Hi), kc 6 4 (.i a1.Ridge.Lo), kc 6 5 (.i a1.Ridge.Hi), kc 6 6 (.i a1.Press.Lo), kc 6 7 (.i a1.Press.Hi)]) ?_ (kp rfl) rfl
        refine fin_rangeEnd [(3, .p 1 0), (5, .p 3 0), (6, .p 4 0), (9, .p 5 0), (21, .f (.func 145) [] [.p 6 0])] [kb 1 25 11, kb 3 4 1, kb 4 32 2, kb 5 32 2, kb 6 34 8, kc 1 0 (.i a0.Class), kc 1 1 (.i a0.Power), kc 1 2 (.i a0.Draught), kc 1 3 (.i a0.Tonnes), kc 1 4 (.v (.slice a0_Thrust_p a0.Thrust.length a0_Thrust_c)), kc 1 5 (.v (.slice a0_Water_p a0.Water.length a0_Water_c)), kc 1 6 (.v (.slice a0_Ice_p a0.Ice.length a0_Ice_c)), kc 1 7 (.i a0.Slow), kc 1 8 (.i a0.Brash), kc 1 9 (.i a0.Ridge), kc 1 10 (.i a0.Press), kc 3 0 (.B a2), kc 4 0 (.i 0), kc 4 1 (.i 0), kc 5 0 (.i v3.1), kc 5 1 (.i v3.2), kc 6 0 (.i a1.Conc.Lo), kc 6 1 (.i a1.Conc.Hi), kc 6 2 (.i a1.Thick.Lo), kc 6 3 (.i a1.Thick.Hi), kc 6 4 (.i a1.Ridge.Lo), kc 6 5 (.i a1.Ridge.Hi), kc 6 6 (.i a1.Press.Lo), kc 6 7 (.i a1.Press.Hi)] (.inr rfl) hB1 hK1 hM1 hs1 hz1 rfl ⟨rfl, rfl, rfl, rfl, rfl, trivial⟩ ⟨rfl, rfl, rfl, rfl, rfl, rfl, rfl, rfl, rfl, rfl, rfl, rfl, rfl, rfl, rfl, rfl, rfl, rfl, rfl, rfl, rfl, rfl, rfl, rfl, rfl, rfl, rfl, rfl, rfl, trivial⟩ rfl rfl ?_
        refine fin_keep (s' := [kt 3 (.p 1 0), kt 5 (.p 3 0), kt 6 (.p 4 0), kt 9 (.p 5 0), kt 21 (.f (.func 145) [] [.p 6 0]), kb 1 25 11, kb 3 4 1, kb 4 32 2, kb 5 32 2, kb 6 34 8, kc 1 0 (.i a0.Class), kc 1 1 (.i a0.Power), kc 1 2 (.i a0.Draught), kc 1 3 (.i a0.Tonnes), kc 1 4 (.v (.slice a0_Thrust_p a0.Thrust.length a0_Thrust_c)), kc 1 5 (.v (.slice a0_Water_p a0.Water.length a0_Water_c)), kc 1 6 (.v (.slice a0_Ice_p a0.Ice.length a0_Ice_c)), kc 1 7 (.i a0.Slow), kc 1 8 (.i a0.Brash), kc 1 9 (.i a0.Ridge), kc 1 10 (.i a0.Press), kc 3 0 (.B a2), kc 4 0 (.i 0), kc 4 1 (.i 0), kc 5 0 (.i v3.1), kc 5 1 (.i v3.2), kc 6 0 (.i a1.Conc.Lo), kc 6 1 (.i a1.Conc.Hi), kc 6 2 (.i a1.Thick.Lo), kc 6 3 (.i a1.Thick.Hi), kc 6 4 (.i a1.Ridge.Lo), kc 6 5 (.i a1.Ridge.Hi), kc 6 6 (.i a1.Press.Lo), kc 6 7 (.i a1.Press.Hi)]) ?_ (kp rfl) rfl
        refine fin_block ?_
        exact fin_cut (v3.1, v3.2) hm ⟨rfl, rfl, rfl, rfl, rfl, rfl, rfl, rfl, trivial⟩ rfl
      · have hm := brk_f hz4 hm
        refine aw_skip ?_
        refine fin_rangeEnd [(3, .p 1 0), (5, .p 3 0), (6, .p 4 0), (9, .p 5 0), (21, .f (.func 145) [] [.p 6 0])] [kb 1 25 11, kb 3 4 1, kb 4 32 2, kb 5 32 2, kb 6 34 8, kc 1 0 (.i a0.Class), kc 1 1 (.i a0.Power), kc 1 2 (.i a0.Draught), kc 1 3 (.i a0.Tonnes), kc 1 4 (.v (.slice a0_Thrust_p a0.Thrust.length a0_Thrust_c)), kc 1 5 (.v (.slice a0_Water_p a0.Water.length a0_Water_c)), kc 1 6 (.v (.slice a0_Ice_p a0.Ice.length a0_Ice_c)), kc 1 7 (.i a0.Slow), kc 1 8 (.i a0.Brash), kc 1 9 (.i a0.Ridge), kc 1 10 (.i a0.Press), kc 3 0 (.B a2), kc 4 0 (.i 0), kc 4 1 (.i 0), kc 5 0 (.i v2.1), kc 5 1 (.i v2.2), kc 6 0 (.i a1.Conc.Lo), kc 6 1 (.i a1.Conc.Hi), kc 6 2 (.i a1.Thick.Lo), kc 6 3 (.i a1.Thick.Hi), kc 6 4 (.i a1.Ridge.Lo), kc 6 5 (.i a1.Ridge.Hi), kc 6 6 (.i a1.Press.Lo), kc 6 7 (.i a1.Press.Hi)] (.inr rfl) hB1 hK1 hM1 hs1 hz1 rfl ⟨rfl, rfl, rfl, rfl, rfl, trivial⟩ ⟨rfl, rfl, rfl, rfl, rfl, rfl, rfl, rfl, rfl, rfl, rfl, rfl, rfl, rfl, rfl, rfl, rfl, rfl, rfl, rfl, rfl, rfl, rfl, rfl, rfl, rfl, rfl, rfl, rfl, trivial⟩ rfl rfl ?_
        refine fin_keep (s' := [kt 3 (.p 1 0), kt 5 (.p 3 0), kt 6 (.p 4 0), kt 9 (.p 5 0), kt 21 (.f (.func 145) [] [.p 6 0]), kb 1 25 11, kb 3 4 1, kb 4 32 2, kb 5 32 2, kb 6 34 8, kc 1 0 (.i a0.Class), kc 1 1 (.i a0.Power), kc 1 2 (.i a0.Draught), kc 1 3 (.i a0.Tonnes), kc 1 4 (.v (.slice a0_Thrust_p a0.Thrust.length a0_Thrust_c)), kc 1 5 (.v (.slice a0_Water_p a0.Water.length a0_Water_c)), kc 1 6 (.v (.slice a0_Ice_p a0.Ice.length a0_Ice_c)), kc 1 7 (.i a0.Slow), kc 1 8 (.i a0.Brash), kc 1 9 (.i a0.Ridge), kc 1 10 (.i a0.Press), kc 3 0 (.B a2), kc 4 0 (.i 0), kc 4 1 (.i 0), kc 5 0 (.i v2.1), kc 5 1 (.i v2.2), kc 6 0 (.i a1.Conc.Lo), kc 6 1 (.i a1.Conc.Hi), kc 6 2 (.i a1.Thick.Lo), kc 6 3 (.i a1.Thick.Hi), kc 6 4 (.i a1.Ridge.Lo), kc 6 5 (.i a1.Ridge.Hi), kc 6 6 (.i a1.Press.Lo), kc 6 7 (.i a1.Press.Hi)]) ?_ (kp rfl) rfl
        refine fin_block ?_
        exact fin_cut (v2.1, v2.2) hm ⟨rfl, rfl, rfl, rfl, rfl, rfl, rfl, rfl, trivial⟩ rfl
    · have _z := hm
      refine aw_seq ?_
      refine aw_text (rows := [_, _, _]) rfl (by kernel_rfl) ⟨
        ok_plain rfl rfl (op_loadN (ys := [.i x1.1, .i x1.2]) (ltN rfl) sh_32 rfl rfl ⟨rfl, rfl, trivial⟩),
        ok_plain rfl rfl (op_storeN sz_32 rfl rfl rfl rfl rfl (by decide)),
        ok_plain rfl rfl (op_assign (ltN rfl) rfl),
        trivial⟩ ?_
      refine fin_keep (s' := [kt 6 (.p 4 0), kt 7 (.i 0), kb 4 32 2, kc 4 0 (.i x1.1), kc 4 1 (.i x1.2)]) ?_ (kp rfl) rfl
      refine fin_then ?_
      refine aw_ret ?_
      refine post_retM (x := .t [.g [.i x1.1, .i x1.2], .i 0]) rfl (resOK_cellN (ys := [.i x1.1, .i x1.2]) rfl sh_32 rfl ⟨rfl, rfl, trivial⟩ (resOK_tmp rfl resOK_nil)) rfl (fun mm aa ww hr => ?_) (.inl rfl)
      have hm := Option.some.inj hm
      subst hm
      exact ⟨rfl, hr.below⟩

def m52 (F : Nat) (a0 : Ship) (a1 : Cell) (a2 : Bool) : Option (Bool × Bool × Int) :=
  bnd (m55 F a0 a1 a2) (fun v1 => brk (v1.2 != 0) (some (false, false, v1.2)) (some (decide (v1.1.Lo < 10), decide (v1.1.Hi < 10), 0)))

set_option maxHeartbeats 1000000 in
set_option maxRecDepth 8000 in
theorem c52 (F : Nat) (a0 : Ship) (a0_Thrust_s : SlV) (a0_Water_s : SlV) (a0_Ice_s : SlV) (a1 : Cell) (a2 : Bool) (w : World) (ha0_Thrust : SlIs encPt 2 w a0_Thrust_s a0.Thrust) (ha0_Water : SlIs encPt 2 w a0_Water_s a0.Water) (ha0_Ice : SlIs encPt 2 w a0_Ice_s a0.Ice) (hG : BoxAt w 0 (strengths.map (fun n => Value.int .i64 n))) (r : Bool × Bool × Int) (hm : m52 F a0 a1 a2 = some r) : Calls Tryd.prog 52 #[.agg #[.int .i64 a0.Class, .int .i64 a0.Power, .int .i64 a0.Draught, .int .i64 a0.Tonnes, .slice a0_Thrust_s.p a0_Thrust_s.n a0_Thrust_s.c, .slice a0_Water_s.p a0_Water_s.n a0_Water_s.c, .slice a0_Ice_s.p a0_Ice_s.n a0_Ice_s.c, .int .i64 a0.Slow, .int .i64 a0.Brash, .int .i64 a0.Ridge, .int .i64 a0.Press], .agg #[.int .i64 a1.Conc.Lo, .int .i64 a1.Conc.Hi, .int .i64 a1.Thick.Lo, .int .i64 a1.Thick.Hi, .int .i64 a1.Ridge.Lo, .int .i64 a1.Ridge.Hi, .int .i64 a1.Press.Lo, .int .i64 a1.Press.Hi], .bool a2] w fun e w' => e = .returned (.tuple #[.bool r.1, .bool r.2.1, .int .i64 r.2.2]) ∧ Below w.heap.size w w' := by
  obtain ⟨a0_Thrust_p, a0_Thrust_n, a0_Thrust_c⟩ := a0_Thrust_s
  have ha0_Thrust_l : a0_Thrust_n = a0.Thrust.length := ha0_Thrust.1
  subst ha0_Thrust_l
  obtain ⟨a0_Thrust_b, a0_Thrust_o, ha0_Thrust_p, ha0_Thrust_L⟩ := SlAt.lies' ha0_Thrust
  obtain ⟨a0_Water_p, a0_Water_n, a0_Water_c⟩ := a0_Water_s
  have ha0_Water_l : a0_Water_n = a0.Water.length := ha0_Water.1
  subst ha0_Water_l
  obtain ⟨a0_Water_b, a0_Water_o, ha0_Water_p, ha0_Water_L⟩ := SlAt.lies' ha0_Water
  obtain ⟨a0_Ice_p, a0_Ice_n, a0_Ice_c⟩ := a0_Ice_s
  have ha0_Ice_l : a0_Ice_n = a0.Ice.length := ha0_Ice.1
  subst ha0_Ice_l
  obtain ⟨a0_Ice_b, a0_Ice_o, ha0_Ice_p, ha0_Ice_L⟩ := SlAt.lies' ha0_Ice
  unfold m52 at hm
  refine enter (args := [.g [.i a0.Class, .i a0.Power, .i a0.Draught, .i a0.Tonnes, .v (.slice a0_Thrust_p a0.Thrust.length a0_Thrust_c), .v (.slice a0_Water_p a0.Water.length a0_Water_c), .v (.slice a0_Ice_p a0.Ice.length a0_Ice_c), .i a0.Slow, .i a0.Brash, .i a0.Ridge, .i a0.Press], .g [.i a1.Conc.Lo, .i a1.Conc.Hi, .i a1.Thick.Lo, .i a1.Thick.Hi, .i a1.Ridge.Lo, .i a1.Ridge.Hi, .i a1.Press.Lo, .i a1.Press.Hi], .B a2]) Tryd.func52 rfl (N := 27) rfl (Nat.le_of_ble_eq_true rfl) ?_
  refine aw_seq ?_
  refine aw_text (rows := [_, _, _, _, _]) rfl (by kernel_rfl) ⟨
    ok_plain rfl rfl (op_boxN (L := 1) (ltN rfl) rfl rfl rfl),
    ok_plain rfl rfl (op_boxN (L := 2) (ltN rfl) rfl rfl rfl),
    ok_plain rfl rfl (op_assign (ltN rfl) rfl),
    ok_plain rfl rfl (op_assign (ltN rfl) rfl),
    ok_plain rfl rfl (op_assign (ltN rfl) rfl),
    trivial⟩ ?_
  refine fin_keep (s' := [kt 2 (.B a2), kt 3 (.p 1 0), kt 4 (.p 2 0), kb 1 25 11, kb 2 34 8, kc 1 0 (.i a0.Class), kc 1 1 (.i a0.Power), kc 1 2 (.i a0.Draught), kc 1 3 (.i a0.Tonnes), kc 1 4 (.v (.slice a0_Thrust_p a0.Thrust.length a0_Thrust_c)), kc 1 5 (.v (.slice a0_Water_p a0.Water.length a0_Water_c)), kc 1 6 (.v (.slice a0_Ice_p a0.Ice.length a0_Ice_c)), kc 1 7 (.i a0.Slow), kc 1 8 (.i a0.Brash), kc 1 9 (.i a0.Ridge), kc 1 10 (.i a0.Press), kc 2 0 (.i a1.Conc.Lo), kc 2 1 (.i a1.Conc.Hi), kc 2 2 (.i a1.Thick.Lo), kc 2 3 (.i a1.Thick.Hi), kc 2 4 (.i a1.Ridge.Lo), kc 2 5 (.i a1.Ridge.Hi), kc 2 6 (.i a1.Press.Lo), kc 2 7 (.i a1.Press.Hi)]) ?_ (kp rfl) rfl
  refine fin_then ?_
  refine aw_seq ?_
  obtain ⟨v1, hv1, hm⟩ := bnd_some hm
  refine aw_text (rows := [_, _, _, _, _, _, _, _, _, _]) rfl (by kernel_rfl) ⟨
    ok_plain rfl rfl (op_loadN (ys := [.i a0.Class, .i a0.Power, .i a0.Draught, .i a0.Tonnes, .v (.slice a0_Thrust_p a0.Thrust.length a0_Thrust_c), .v (.slice a0_Water_p a0.Water.length a0_Water_c), .v (.slice a0_Ice_p a0.Ice.length a0_Ice_c), .i a0.Slow, .i a0.Brash, .i a0.Ridge, .i a0.Press]) (ltN rfl) sh_25 rfl rfl ⟨rfl, rfl, rfl, rfl, rfl, rfl, rfl, rfl, rfl, rfl, rfl, trivial⟩),
    ok_plain rfl rfl (op_loadN (ys := [.i a1.Conc.Lo, .i a1.Conc.Hi, .i a1.Thick.Lo, .i a1.Thick.Hi, .i a1.Ridge.Lo, .i a1.Ridge.Hi, .i a1.Press.Lo, .i a1.Press.Hi]) (ltN rfl) sh_34 rfl rfl ⟨rfl, rfl, rfl, rfl, rfl, rfl, rfl, rfl, trivial⟩),
    ok_plain rfl rfl (op_move (ltN rfl) rfl),
    ok_plain rfl rfl (op_call (x := .t [.g [.i v1.1.Lo, .i v1.1.Hi], .i v1.2]) (fs := []) (caps := []) (extra := []) (ltN rfl) en_55 rfl ⟨rfl, rfl, rfl⟩ (EvL.cons rfl (EvL.cons rfl (EvL.cons rfl EvL.nil))) (fun mm aa ww gg hr hrel => (c55 F a0 ⟨a0_Thrust_p, a0.Thrust.length, a0_Thrust_c⟩ ⟨a0_Water_p, a0.Water.length, a0_Water_c⟩ ⟨a0_Ice_p, a0.Ice.length, a0_Ice_c⟩ a1 a2 ww (SlIs.mono ha0_Thrust hrel.below) (SlIs.mono ha0_Water hrel.below) (SlIs.mono ha0_Ice hrel.below) (BoxAt.mono hG hrel.below) v1 hv1))),
    ok_plain rfl rfl (op_move (ltN rfl) rfl),
    ok_plain rfl rfl (op_extract (ltN rfl) rfl rfl),
    ok_plain rfl rfl (op_extract (ltN rfl) rfl rfl),
    ok_plain rfl rfl (op_alloc (L := 3) (ltN rfl) zl_32),
    ok_plain rfl rfl (op_storeN sz_32 rfl rfl rfl rfl rfl (by decide)),
    ok_plain rfl rfl (op_assign (ltN rfl) rfl),
    trivial⟩ ?_
  refine fin_keep (s' := [kt 9 (.p 3 0), kt 10 (.i v1.2), kb 3 32 2, kc 3 0 (.i v1.1.Lo), kc 3 1 (.i v1.1.Hi)]) ?_ (kp rfl) rfl
  refine fin_then ?_
  refine aw_seq ?_
  refine aw_seq ?_
  refine aw_text (rows := [_, _]) rfl (by kernel_rfl) ⟨
    ok_plain rfl rfl (op_move (ltN rfl) rfl),
    ok_plain rfl rfl (op_bin (ltN rfl) rfl rfl rfl),
    trivial⟩ ?_
  refine fin_keep (s' := [kt 9 (.p 3 0), kt 10 (.i v1.2), kt 19 (.B (v1.2 != 0)), kb 3 32 2, kc 3 0 (.i v1.1.Lo), kc 3 1 (.i v1.1.Hi)]) ?_ (kp rfl) rfl
  refine fin_then ?_
  refine aw_cond rfl (fun hz1 => ?_) (fun hz1 => ?_)
  · have hm := brk_t hz1 hm
    refine aw_seq ?_
    refine aw_text (rows := [_, _, _, _]) rfl (by kernel_rfl) ⟨
      ok_plain rfl rfl (op_move (ltN rfl) rfl),
      ok_plain rfl rfl (op_assign (ltN rfl) rfl),
      ok_plain rfl rfl (op_assign (ltN rfl) rfl),
      ok_plain rfl rfl (op_assign (ltN rfl) rfl),
      trivial⟩ ?_
    refine fin_keep (s' := [kt 6 (.B false), kt 7 (.B false), kt 8 (.i v1.2)]) ?_ (kp rfl) rfl
    refine fin_then ?_
    refine aw_ret ?_
    refine fin_then_ret ?_
    refine post_ret (x := .t [.B false, .B false, .i v1.2]) rfl rfl (resOK_tmp rfl (resOK_tmp rfl (resOK_tmp rfl resOK_nil))) rfl (fun mm aa ww hr => ?_)
    have hm := Option.some.inj hm
    subst hm
    exact ⟨rfl, hr.below⟩
  · have hm := brk_f hz1 hm
    refine aw_skip ?_
    refine fin_then ?_
    refine aw_seq ?_
    refine aw_any (rows := [_, _, _, _, _, _, _, _, _]) (M := [0, 1, 3, 0, 8, 24, 7, 127, 255]) Tryd_mixed (by kernel_rfl) rfl (by kernel_rfl) ⟨
      ok_plain rfl rfl (op_fieldAddr (ltN rfl) rfl fo_32_0),
      ok_plain rfl rfl (op_load1 (ltN rfl) sh_3 rfl rfl),
      ok_plain rfl rfl (op_bin (ltN rfl) rfl rfl rfl),
      ok_plain rfl rfl (op_fieldAddr (ltN rfl) rfl fo_32_1),
      ok_plain rfl rfl (op_load1 (ltN rfl) sh_3 rfl rfl),
      ok_plain rfl rfl (op_bin (ltN rfl) rfl rfl rfl),
      ok_plain rfl rfl (op_assign (ltN rfl) rfl),
      ok_plain rfl rfl (op_assign (ltN rfl) rfl),
      ok_plain rfl rfl (op_assign (ltN rfl) rfl),
      trivial⟩ ?_
    refine fin_keep (s' := [kt 6 (.B (decide (v1.1.Lo < 10))), kt 7 (.B (decide (v1.1.Hi < 10))), kt 8 (.i 0)]) ?_ (kp rfl) rfl
    refine fin_then ?_
    refine aw_ret ?_
    refine post_ret (x := .t [.B (decide (v1.1.Lo < 10)), .B (decide (v1.1.Hi < 10)), .i 0]) rfl rfl (resOK_tmp rfl (resOK_tmp rfl (resOK_tmp rfl resOK_nil))) rfl (fun mm aa ww hr => ?_)
    have hm := Option.some.inj hm
    subst hm
    exact ⟨rfl, hr.below⟩

end Go.Proofs.T

namespace Go.Proofs.T
open Go Go.AX Go.RowKit Hull
theorem en_15 : Proofs.Enters Tryd.prog 15 := Proofs.enters_of Tryd.func15 (by kernel_rfl) rfl
theorem en_17 : Proofs.Enters Tryd.prog 17 := Proofs.enters_of Tryd.func17 (by kernel_rfl) rfl
theorem en_52 : Proofs.Enters Tryd.prog 52 := Proofs.enters_of Tryd.func52 (by kernel_rfl) rfl
end Go.Proofs.T

namespace Go.Proofs.T
open Go Go.AX Go.RowKit Hull


def m9 (F : Nat) (a0 : List Int) (a1 : List Int) (a2 : List Int) (a3 : List Int) : Option (Bool) :=
  bnd (m15 F a0) (fun v1 => bnd (m17 F a1) (fun v2 => join (fun (x1 : List Span × List Span) => brk (((((free v1 v2 x1.1).2) != 0) && (((free v1 v2 x1.1).2) != 4)) || ((((free v1 v2 x1.1).2) == 0) && ((((((((free v1 v2 x1.2).2) != 0) || (decide ((((free v1 v2 x1.2).1).Lo) > (((free v1 v2 x1.1).1).Lo)))) || (decide ((((free v1 v2 x1.2).1).Hi) > (((free v1 v2 x1.1).1).Hi)))) || (decide ((((free v1 v2 x1.1).1).Hi) ≥ (((x1.1.length : Nat) : Int))))) || (decide ((((free v1 v2 x1.1).1).Lo) < 0))) || (decide ((((free v1 v2 x1.1).1).Lo) > (((free v1 v2 x1.1).1).Hi)))))) (some false) (join (fun (_ : Unit) => some true) (fun k3 => loopC (fun (x4 : Int × Int × Int) n4 => brk (decide (x4.1 < (((x1.1.length : Nat) : Int)))) (join (fun (x5 : Int × Int) => chk (InR (x4.1 + 1)) (n4 (x4.1 + 1, x5.1, x5.2))) (fun k5 => chk (0 ≤ x4.1 ∧ x4.1 < ((x1.1.length : Nat) : Int)) (bnd (m52 F v1 ((⟨v2.Conc, v2.Thick, v2.Ridge, (sp x1.1 x4.1)⟩ : Cell)) false) (fun v3 => brk (v3.2.2 != 0) (some false) (brk (((free v1 v2 x1.1).2) != 0) (brk (!v3.1) (some false) (k5 (((sp x1.1 x4.1)).Lo, ((sp x1.1 x4.1)).Hi))) (brk (((((decide (x4.1 < (((free v1 v2 x1.1).1).Hi))) && (!v3.1)) || ((x4.1 == (((free v1 v2 x1.1).1).Hi)) && v3.1)) || ((decide (x4.1 < (((free v1 v2 x1.1).1).Lo))) && (!v3.2.1))) || ((x4.1 == (((free v1 v2 x1.1).1).Lo)) && v3.2.1)) (some false) (k5 (((sp x1.1 x4.1)).Lo, ((sp x1.1 x4.1)).Hi)))))))) (k3 ())) F (0, v2.Press.Lo, v2.Press.Hi)))) (fun k1 => loopC (fun (x2 : List Span × List Span × Int × Nat × Nat) n2 => brk (decide (x2.2.2.1 < (dv a2 0 21))) (chk (InR ((dv a2 x2.2.2.2.2 4) + (dv a2 ((x2.2.2.2.2 + 1)) 4))) (chk (x2.1.length ≤ 1000000) (chk (InR ((dv a2 x2.2.2.2.2 4) - (dv a3 x2.2.2.2.1 4))) (chk (InR ((if ((dv a2 x2.2.2.2.2 4) + (dv a2 ((x2.2.2.2.2 + 1)) 4)) < 3 then (dv a2 x2.2.2.2.2 4) + (dv a2 ((x2.2.2.2.2 + 1)) 4) else 3) - (dv a3 ((x2.2.2.2.1 + 1)) 4))) (chk (x2.2.1.length ≤ 1000000) (chk (InR (x2.2.2.1 + 1)) (n2 ((x2.1 ++ [(⟨dv a2 x2.2.2.2.2 4, if ((dv a2 x2.2.2.2.2 4) + (dv a2 ((x2.2.2.2.2 + 1)) 4)) < 3 then (dv a2 x2.2.2.2.2 4) + (dv a2 ((x2.2.2.2.2 + 1)) 4) else 3⟩ : Span)]), (x2.2.1 ++ [(⟨if ((dv a2 x2.2.2.2.2 4) - (dv a3 x2.2.2.2.1 4)) > 0 then (dv a2 x2.2.2.2.2 4) - (dv a3 x2.2.2.2.1 4) else 0, if ((if ((dv a2 x2.2.2.2.2 4) + (dv a2 ((x2.2.2.2.2 + 1)) 4)) < 3 then (dv a2 x2.2.2.2.2 4) + (dv a2 ((x2.2.2.2.2 + 1)) 4) else 3) - (dv a3 ((x2.2.2.2.1 + 1)) 4)) > (if ((dv a2 x2.2.2.2.2 4) - (dv a3 x2.2.2.2.1 4)) > 0 then (dv a2 x2.2.2.2.2 4) - (dv a3 x2.2.2.2.1 4) else 0) then (if ((dv a2 x2.2.2.2.2 4) + (dv a2 ((x2.2.2.2.2 + 1)) 4)) < 3 then (dv a2 x2.2.2.2.2 4) + (dv a2 ((x2.2.2.2.2 + 1)) 4) else 3) - (dv a3 ((x2.2.2.2.1 + 1)) 4) else if ((dv a2 x2.2.2.2.2 4) - (dv a3 x2.2.2.2.1 4)) > 0 then (dv a2 x2.2.2.2.2 4) - (dv a3 x2.2.2.2.1 4) else 0⟩ : Span)]), x2.2.2.1 + 1, ((x2.2.2.2.1 + 1) + 1), ((x2.2.2.2.2 + 1) + 1))))))))) (k1 (x2.1, x2.2.1))) F ([], [], 0, 0, 1))))

set_option maxHeartbeats 8000000 in
set_option maxRecDepth 8000 in
theorem c9 (F : Nat) (a0 : List Int) (a0_s : SlV) (a1 : List Int) (a1_s : SlV) (a2 : List Int) (a2_s : SlV) (a3 : List Int) (a3_s : SlV) (w : World) (ha0 : SlIs encU8 1 w a0_s a0) (h8a0 : ∀ x ∈ a0, 0 ≤ x ∧ x ≤ 255) (hlena0 : a0.length ≤ 9223372036854775807) (ha1 : SlIs encU8 1 w a1_s a1) (h8a1 : ∀ x ∈ a1, 0 ≤ x ∧ x ≤ 255) (hlena1 : a1.length ≤ 9223372036854775807) (ha2 : SlIs encU8 1 w a2_s a2) (h8a2 : ∀ x ∈ a2, 0 ≤ x ∧ x ≤ 255) (hlena2 : a2.length ≤ 9223372036854775807) (ha3 : SlIs encU8 1 w a3_s a3) (h8a3 : ∀ x ∈ a3, 0 ≤ x ∧ x ≤ 255) (hlena3 : a3.length ≤ 9223372036854775807) (hG : BoxAt w 0 (strengths.map (fun n => Value.int .i64 n))) (r : Bool) (hm : m9 F a0 a1 a2 a3 = some r) : Calls Tryd.prog 9 #[.slice a0_s.p a0_s.n a0_s.c, .slice a1_s.p a1_s.n a1_s.c, .slice a2_s.p a2_s.n a2_s.c, .slice a3_s.p a3_s.n a3_s.c] w fun e w' => e = .returned (.bool r) ∧ Below w.heap.size w w' := by
  obtain ⟨a0_p, a0_n, a0_c⟩ := a0_s
  have ha0_l : a0_n = a0.length := ha0.1
  subst ha0_l
  obtain ⟨a0_b, a0_o, ha0_p, ha0_L⟩ := SlAt.lies' ha0
  obtain ⟨a1_p, a1_n, a1_c⟩ := a1_s
  have ha1_l : a1_n = a1.length := ha1.1
  subst ha1_l
  obtain ⟨a1_b, a1_o, ha1_p, ha1_L⟩ := SlAt.lies' ha1
  obtain ⟨a2_p, a2_n, a2_c⟩ := a2_s
  have ha2_l : a2_n = a2.length := ha2.1
  subst ha2_l
  obtain ⟨a2_b, a2_o, ha2_p, ha2_L⟩ := SlAt.lies' ha2
  obtain ⟨a3_p, a3_n, a3_c⟩ := a3_s
  have ha3_l : a3_n = a3.length := ha3.1
  subst ha3_l
  obtain ⟨a3_b, a3_o, ha3_p, ha3_L⟩ := SlAt.lies' ha3
  unfold m9 at hm
  refine enter (args := [.v (.slice a0_p a0.length a0_c), .v (.slice a1_p a1.length a1_c), .v (.slice a2_p a2.length a2_c), .v (.slice a3_p a3.length a3_c)]) Tryd.func9 rfl (N := 194) rfl (Nat.le_of_ble_eq_true rfl) ?_
  refine aw_seq ?_
  refine aw_text (rows := [_]) rfl (by kernel_rfl) ⟨
    ok_plain rfl rfl (op_assign (ltN rfl) rfl),
    trivial⟩ ?_
  refine fin_keep (s' := [kt 0 (.v (.slice a0_p a0.length a0_c)), kt 1 (.v (.slice a1_p a1.length a1_c)), kt 2 (.v (.slice a2_p a2.length a2_c)), kt 3 (.v (.slice a3_p a3.length a3_c))]) ?_ (kp rfl) rfl
  refine fin_then ?_
  refine aw_seq ?_
  obtain ⟨v1, hv1, hm⟩ := bnd_some hm
  obtain ⟨v2, hv2, hm⟩ := bnd_some hm
  refine aw_text (rows := [_, _, _, _, _, _, _, _]) rfl (by kernel_rfl) ⟨
    ok_plain rfl rfl (op_move (ltN rfl) rfl),
    ok_plain rfl rfl (op_callRowsD (x := .g [.i v1.Class, .i v1.Power, .i v1.Draught, .i v1.Tonnes, .o 1 2 v1.Thrust.length, .o 3 4 v1.Water.length, .o 5 6 v1.Ice.length, .i v1.Slow, .i v1.Brash, .i v1.Ridge, .i v1.Press]) (R := (fun vs => .agg #[.int .i64 v1.Class, .int .i64 v1.Power, .int .i64 v1.Draught, .int .i64 v1.Tonnes, (vs.getD 0 (.bool false)), (vs.getD 1 (.bool false)), (vs.getD 2 (.bool false)), .int .i64 v1.Slow, .int .i64 v1.Brash, .int .i64 v1.Ridge, .int .i64 v1.Press])) (ls := [(1, 2), (3, 4), (5, 6)]) (ds := [(v1.Thrust.length, 84, 2, v1.Thrust.flatMap encPt), (v1.Water.length, 84, 2, v1.Water.flatMap encPt), (v1.Ice.length, 84, 2, v1.Ice.flatMap encPt)]) (fs := []) (caps := []) (extra := []) (ltN rfl) en_15 rfl ⟨rfl, rfl, rfl⟩ (EvL.cons rfl EvL.nil) rfl rfl (fun _ => rfl) (fun mm aa ww gg hr hrel => (c15 F a0 ⟨a0_p, a0.length, a0_c⟩ ww (SlIs.mono ha0 hrel.below) h8a0 hlena0 v1 hv1))),
    ok_plain rfl rfl (op_move (ltN rfl) rfl),
    ok_plain rfl rfl (op_call (x := .g [.i v2.Conc.Lo, .i v2.Conc.Hi, .i v2.Thick.Lo, .i v2.Thick.Hi, .i v2.Ridge.Lo, .i v2.Ridge.Hi, .i v2.Press.Lo, .i v2.Press.Hi]) (fs := []) (caps := []) (extra := []) (ltN rfl) en_17 rfl ⟨rfl, rfl, rfl⟩ (EvL.cons rfl EvL.nil) (fun mm aa ww gg hr hrel => (c17 F a1 ⟨a1_p, a1.length, a1_c⟩ ww (SlIs.mono ha1 hrel.below) h8a1 hlena1 v2 hv2))),
    ok_plain rfl rfl (op_alloc (L := 7) (ltN rfl) zl_25),
    ok_plain rfl rfl (op_alloc (L := 8) (ltN rfl) zl_34),
    ok_plain rfl rfl (op_storeN sz_25 rfl rfl rfl rfl rfl (by decide)),
    ok_plain rfl rfl (op_storeN sz_34 rfl rfl rfl rfl rfl (by decide)),
    trivial⟩ ?_
  refine fin_keep (s' := [kt 2 (.v (.slice a2_p a2.length a2_c)), kt 3 (.v (.slice a3_p a3.length a3_c)), kt 9 (.p 7 0), kt 10 (.p 8 0), kb 7 25 11, kb 8 34 8, (.r 1, some (.vec true 2 84 2 (v1.Thrust.flatMap encPt))), (.r 3, some (.vec true 4 84 2 (v1.Water.flatMap encPt))), (.r 5, some (.vec true 6 84 2 (v1.Ice.flatMap encPt))), kc 7 0 (.i v1.Class), kc 7 1 (.i v1.Power), kc 7 2 (.i v1.Draught), kc 7 3 (.i v1.Tonnes), kc 7 4 (.o 1 2 v1.Thrust.length), kc 7 5 (.o 3 4 v1.Water.length), kc 7 6 (.o 5 6 v1.Ice.length), kc 7 7 (.i v1.Slow), kc 7 8 (.i v1.Brash), kc 7 9 (.i v1.Ridge), kc 7 10 (.i v1.Press), kc 8 0 (.i v2.Conc.Lo), kc 8 1 (.i v2.Conc.Hi), kc 8 2 (.i v2.Thick.Lo), kc 8 3 (.i v2.Thick.Hi), kc 8 4 (.i v2.Ridge.Lo), kc 8 5 (.i v2.Ridge.Hi), kc 8 6 (.i v2.Press.Lo), kc 8 7 (.i v2.Press.Hi)]) ?_ (kp rfl) rfl
  refine fin_then ?_
  refine aw_seq ?_
  refine aw_text (rows := [_, _, _, _, _, _]) rfl (by kernel_rfl) ⟨
    ok_plain rfl rfl (op_move (ltN rfl) rfl),
    ok_plain rfl rfl (op_callTwo (L1 := 9) (L2 := 10) (ty1 := 3) (ty2 := 22) (v1 := [.int .i64 (idx a2 0)]) (v2 := [(.slice a2_p a2.length a2_c)]) (R := fun b1 b2 => .func (.func 83) #[] #[.pointer (some ⟨b1, 0, none⟩), .pointer (some ⟨b2, 0, none⟩)]) (x := .f (.func 83) [] [.p 9 0, .p 10 0]) (fs := []) (caps := []) (extra := []) (ltN rfl) en_22 rfl ⟨rfl, rfl, rfl⟩ (EvL.cons rfl EvL.nil) (by decide) (fun _ => rfl) (fun mm aa ww gg hr hrel => (c22 a2 ⟨a2_p, a2.length, a2_c⟩ ww (SlIs.mono ha2 hrel.below)))),
    ok_plain rfl rfl (op_move (ltN rfl) rfl),
    ok_plain rfl rfl (op_callTwo (L1 := 11) (L2 := 12) (ty1 := 3) (ty2 := 22) (v1 := [.int .i64 (idx a3 0)]) (v2 := [(.slice a3_p a3.length a3_c)]) (R := fun b1 b2 => .func (.func 83) #[] #[.pointer (some ⟨b1, 0, none⟩), .pointer (some ⟨b2, 0, none⟩)]) (x := .f (.func 83) [] [.p 11 0, .p 12 0]) (fs := []) (caps := []) (extra := []) (ltN rfl) en_22 rfl ⟨rfl, rfl, rfl⟩ (EvL.cons rfl EvL.nil) (by decide) (fun _ => rfl) (fun mm aa ww gg hr hrel => (c22 a3 ⟨a3_p, a3.length, a3_c⟩ ww (SlIs.mono ha3 hrel.below)))),
    ok_plain rfl rfl (op_assign (ltN rfl) rfl),
    ok_plain rfl rfl (op_assign (ltN rfl) rfl),
    trivial⟩ ?_
  refine fin_keep (s' := [kt 9 (.p 7 0), kt 10 (.p 8 0), kt 11 (.f (.func 83) [] [.p 9 0, .p 10 0]), kt 12 (.f (.func 83) [] [.p 11 0, .p 12 0]), kb 7 25 11, kb 8 34 8, kb 9 3 1, kb 10 22 1, kb 11 3 1, kb 12 22 1, (.r 1, some (.vec true 2 84 2 (v1.Thrust.flatMap encPt))), (.r 3, some (.vec true 4 84 2 (v1.Water.flatMap encPt))), (.r 5, some (.vec true 6 84 2 (v1.Ice.flatMap encPt))), kc 7 0 (.i v1.Class), kc 7 1 (.i v1.Power), kc 7 2 (.i v1.Draught), kc 7 3 (.i v1.Tonnes), kc 7 4 (.o 1 2 v1.Thrust.length), kc 7 5 (.o 3 4 v1.Water.length), kc 7 6 (.o 5 6 v1.Ice.length), kc 7 7 (.i v1.Slow), kc 7 8 (.i v1.Brash), kc 7 9 (.i v1.Ridge), kc 7 10 (.i v1.Press), kc 8 0 (.i v2.Conc.Lo), kc 8 1 (.i v2.Conc.Hi), kc 8 2 (.i v2.Thick.Lo), kc 8 3 (.i v2.Thick.Hi), kc 8 4 (.i v2.Ridge.Lo), kc 8 5 (.i v2.Ridge.Hi), kc 8 6 (.i v2.Press.Lo), kc 8 7 (.i v2.Press.Hi), kc 9 0 (.i (idx a2 0)), kc 10 0 (.v (.slice a2_p a2.length a2_c)), kc 11 0 (.i (idx a3 0)), kc 12 0 (.v (.slice a3_p a3.length a3_c))]) ?_ (kp rfl) rfl
  refine fin_then ?_
  refine aw_seq ?_
  refine aw_text (rows := [_, _]) rfl (by kernel_rfl) ⟨
    ok_plain rfl rfl (op_assign (ltN rfl) rfl),
    ok_plain rfl rfl (op_assign (ltN rfl) rfl),
    trivial⟩ ?_
  refine fin_keep (s' := [kt 9 (.p 7 0), kt 10 (.p 8 0), kt 11 (.f (.func 83) [] [.p 9 0, .p 10 0]), kt 12 (.f (.func 83) [] [.p 11 0, .p 12 0]), kt 13 (.v (.slice none 0 0)), kt 14 (.v (.slice none 0 0)), kb 7 25 11, kb 8 34 8, kb 9 3 1, kb 10 22 1, kb 11 3 1, kb 12 22 1, (.r 1, some (.vec true 2 84 2 (v1.Thrust.flatMap encPt))), (.r 3, some (.vec true 4 84 2 (v1.Water.flatMap encPt))), (.r 5, some (.vec true 6 84 2 (v1.Ice.flatMap encPt))), kc 7 0 (.i v1.Class), kc 7 1 (.i v1.Power), kc 7 2 (.i v1.Draught), kc 7 3 (.i v1.Tonnes), kc 7 4 (.o 1 2 v1.Thrust.length), kc 7 5 (.o 3 4 v1.Water.length), kc 7 6 (.o 5 6 v1.Ice.length), kc 7 7 (.i v1.Slow), kc 7 8 (.i v1.Brash), kc 7 9 (.i v1.Ridge), kc 7 10 (.i v1.Press), kc 8 0 (.i v2.Conc.Lo), kc 8 1 (.i v2.Conc.Hi), kc 8 2 (.i v2.Thick.Lo), kc 8 3 (.i v2.Thick.Hi), kc 8 4 (.i v2.Ridge.Lo), kc 8 5 (.i v2.Ridge.Hi), kc 8 6 (.i v2.Press.Lo), kc 8 7 (.i v2.Press.Hi), kc 9 0 (.i (idx a2 0)), kc 10 0 (.v (.slice a2_p a2.length a2_c)), kc 11 0 (.i (idx a3 0)), kc 12 0 (.v (.slice a3_p a3.length a3_c))]) ?_ (kp rfl) rfl
  refine fin_then ?_
  refine aw_cutM (ι := List Span × List Span) hm (fun x1 => [kt 9 (.p 7 0), kt 10 (.p 8 0), kt 13 (.o 300 301 x1.1.length), kt 14 (.o 302 303 x1.2.length), kb 7 25 11, kb 8 34 8, (.r 1, some (.vec true 2 84 2 (v1.Thrust.flatMap encPt))), (.r 3, some (.vec true 4 84 2 (v1.Water.flatMap encPt))), (.r 5, some (.vec true 6 84 2 (v1.Ice.flatMap encPt))), (.r 300, some (.vec true 301 32 2 (x1.1.flatMap encSpan))), (.r 302, some (.vec true 303 32 2 (x1.2.flatMap encSpan))), kc 7 0 (.i v1.Class), kc 7 1 (.i v1.Power), kc 7 2 (.i v1.Draught), kc 7 3 (.i v1.Tonnes), kc 7 4 (.o 1 2 v1.Thrust.length), kc 7 5 (.o 3 4 v1.Water.length), kc 7 6 (.o 5 6 v1.Ice.length), kc 7 7 (.i v1.Slow), kc 7 8 (.i v1.Brash), kc 7 9 (.i v1.Ridge), kc 7 10 (.i v1.Press), kc 8 0 (.i v2.Conc.Lo), kc 8 1 (.i v2.Conc.Hi), kc 8 2 (.i v2.Thick.Lo), kc 8 3 (.i v2.Thick.Hi), kc 8 4 (.i v2.Ridge.Lo), kc 8 5 (.i v2.Ridge.Hi), kc 8 6 (.i v2.Press.Lo), kc 8 7 (.i v2.Press.Hi)]) (fun hm => ?_) (fun x1 hm => ?_)
  · have _z := hm
    refine aw_seq ?_
    refine aw_text (rows := [_, _, _]) rfl (by kernel_rfl) ⟨
      ok_plain rfl rfl (op_move (ltN rfl) rfl),
      ok_plain rfl rfl (op_callLentL (ls := [⟨9, 3, [.i (idx a2 0)], [.i (idx a2 1)]⟩, ⟨10, 22, [.v (.slice a2_p a2.length a2_c)], [.v (.slice a2_p a2.length a2_c)]⟩]) (x := .i (dv a2 0 21)) (fs := []) (caps := [.p 9 0, .p 10 0]) (extra := []) (ltN rfl) en_83 rfl ⟨rfl, rfl, rfl⟩ (EvL.cons rfl EvL.nil) ⟨rfl, ⟨rfl, trivial⟩, rfl, lb_ne rfl, ⟨rfl, ⟨rfl, trivial⟩, rfl, lb_ne rfl, trivial⟩⟩ (fun mm aa ww gg hr hrel hbx hlo => c83L 21 0 (mm 9) a2 ⟨a2_p, a2.length, a2_c⟩ (mm 10) ww (hbx _ (.head _)) (hbx _ (.tail _ (.head _))) (SlIs.mono ha2 hrel.below) (sl_ne ha2 (box_hi hrel hlo.1)) (box_ne hrel hlo.2.2.2.2.1 hlo.1 (by decide)) (by decide) h8a2 hlena2)),
      ok_plain rfl rfl (op_move (ltN rfl) rfl),
      trivial⟩ ?_
    refine fin_keep (s' := [kt 9 (.p 7 0), kt 10 (.p 8 0), kt 11 (.f (.func 83) [] [.p 9 0, .p 10 0]), kt 12 (.f (.func 83) [] [.p 11 0, .p 12 0]), kt 13 (.v (.slice none 0 0)), kt 14 (.v (.slice none 0 0)), kt 35 (.i (dv a2 0 21)), kt 36 (.i 0), kb 7 25 11, kb 8 34 8, kb 9 3 1, kb 10 22 1, kb 11 3 1, kb 12 22 1, (.r 1, some (.vec true 2 84 2 (v1.Thrust.flatMap encPt))), (.r 3, some (.vec true 4 84 2 (v1.Water.flatMap encPt))), (.r 5, some (.vec true 6 84 2 (v1.Ice.flatMap encPt))), kc 7 0 (.i v1.Class), kc 7 1 (.i v1.Power), kc 7 2 (.i v1.Draught), kc 7 3 (.i v1.Tonnes), kc 7 4 (.o 1 2 v1.Thrust.length), kc 7 5 (.o 3 4 v1.Water.length), kc 7 6 (.o 5 6 v1.Ice.length), kc 7 7 (.i v1.Slow), kc 7 8 (.i v1.Brash), kc 7 9 (.i v1.Ridge), kc 7 10 (.i v1.Press), kc 8 0 (.i v2.Conc.Lo), kc 8 1 (.i v2.Conc.Hi), kc 8 2 (.i v2.Thick.Lo), kc 8 3 (.i v2.Thick.Hi), kc 8 4 (.i v2.Ridge.Lo), kc 8 5 (.i v2.Ridge.Hi), kc 8 6 (.i v2.Press.Lo), kc 8 7 (.i v2.Press.Hi), kc 9 0 (.i (idx a2 1)), kc 10 0 (.v (.slice a2_p a2.length a2_c)), kc 11 0 (.i (idx a3 0)), kc 12 0 (.v (.slice a3_p a3.length a3_c))]) ?_ (kp rfl) rfl
    refine fin_then ?_
    refine aw_block ?_
    refine aw_nilRowK (.t 13) 13 14 32 2 rfl rfl rfl (by decide) ?_
    refine aw_nilRowK (.t 14) 15 16 32 2 rfl rfl rfl (by decide) ?_
    refine aw_swp [(13, 300), (14, 301), (15, 302), (16, 303)] rfl ?_
    refine aw_loopC hm (fun x2 => [kt 9 (.p 7 0), kt 10 (.p 8 0), kt 11 (.f (.func 83) [] [.p 9 0, .p 10 0]), kt 12 (.f (.func 83) [] [.p 11 0, .p 12 0]), kt 13 (.o 300 301 x2.1.length), kt 14 (.o 302 303 x2.2.1.length), kt 35 (.i (dv a2 0 21)), kt 36 (.i x2.2.2.1), kb 7 25 11, kb 8 34 8, kb 9 3 1, kb 10 22 1, kb 11 3 1, kb 12 22 1, (.r 1, some (.vec true 2 84 2 (v1.Thrust.flatMap encPt))), (.r 3, some (.vec true 4 84 2 (v1.Water.flatMap encPt))), (.r 5, some (.vec true 6 84 2 (v1.Ice.flatMap encPt))), (.r 300, some (.vec true 301 32 2 (x2.1.flatMap encSpan))), (.r 302, some (.vec true 303 32 2 (x2.2.1.flatMap encSpan))), kc 7 0 (.i v1.Class), kc 7 1 (.i v1.Power), kc 7 2 (.i v1.Draught), kc 7 3 (.i v1.Tonnes), kc 7 4 (.o 1 2 v1.Thrust.length), kc 7 5 (.o 3 4 v1.Water.length), kc 7 6 (.o 5 6 v1.Ice.length), kc 7 7 (.i v1.Slow), kc 7 8 (.i v1.Brash), kc 7 9 (.i v1.Ridge), kc 7 10 (.i v1.Press), kc 8 0 (.i v2.Conc.Lo), kc 8 1 (.i v2.Conc.Hi), kc 8 2 (.i v2.Thick.Lo), kc 8 3 (.i v2.Thick.Hi), kc 8 4 (.i v2.Ridge.Lo), kc 8 5 (.i v2.Ridge.Hi), kc 8 6 (.i v2.Press.Lo), kc 8 7 (.i v2.Press.Hi), kc 9 0 (.i (idx a2 x2.2.2.2.2)), kc 10 0 (.v (.slice a2_p a2.length a2_c)), kc 11 0 (.i (idx a3 x2.2.2.2.1)), kc 12 0 (.v (.slice a3_p a3.length a3_c))]) ⟨rfl, rfl, rfl, rfl, rfl, rfl, rfl, rfl, rfl, rfl, rfl, rfl, rfl, rfl, rfl, rfl, rfl, rfl, rfl, rfl, rfl, rfl, rfl, rfl, rfl, rfl, rfl, rfl, rfl, rfl, rfl, rfl, rfl, rfl, rfl, rfl, rfl, rfl, rfl, rfl, rfl, rfl, trivial⟩ rfl (fun x2 n2 hm => ?_)
    refine aw_seq ?_
    refine aw_text (rows := [_]) rfl (by kernel_rfl) ⟨
      ok_plain rfl rfl (op_bin (ltN rfl) rfl rfl rfl),
      trivial⟩ ?_
    refine fin_keep (s' := [kt 9 (.p 7 0), kt 10 (.p 8 0), kt 11 (.f (.func 83) [] [.p 9 0, .p 10 0]), kt 12 (.f (.func 83) [] [.p 11 0, .p 12 0]), kt 13 (.o 300 301 x2.1.length), kt 14 (.o 302 303 x2.2.1.length), kt 35 (.i (dv a2 0 21)), kt 36 (.i x2.2.2.1), kt 37 (.B (decide (x2.2.2.1 < (dv a2 0 21)))), kb 7 25 11, kb 8 34 8, kb 9 3 1, kb 10 22 1, kb 11 3 1, kb 12 22 1, (.r 1, some (.vec true 2 84 2 (v1.Thrust.flatMap encPt))), (.r 3, some (.vec true 4 84 2 (v1.Water.flatMap encPt))), (.r 5, some (.vec true 6 84 2 (v1.Ice.flatMap encPt))), (.r 300, some (.vec true 301 32 2 (x2.1.flatMap encSpan))), (.r 302, some (.vec true 303 32 2 (x2.2.1.flatMap encSpan))), kc 7 0 (.i v1.Class), kc 7 1 (.i v1.Power), kc 7 2 (.i v1.Draught), kc 7 3 (.i v1.Tonnes), kc 7 4 (.o 1 2 v1.Thrust.length), kc 7 5 (.o 3 4 v1.Water.length), kc 7 6 (.o 5 6 v1.Ice.length), kc 7 7 (.i v1.Slow), kc 7 8 (.i v1.Brash), kc 7 9 (.i v1.Ridge), kc 7 10 (.i v1.Press), kc 8 0 (.i v2.Conc.Lo), kc 8 1 (.i v2.Conc.Hi), kc 8 2 (.i v2.Thick.Lo), kc 8 3 (.i v2.Thick.Hi), kc 8 4 (.i v2.Ridge.Lo), kc 8 5 (.i v2.Ridge.Hi), kc 8 6 (.i v2.Press.Lo), kc 8 7 (.i v2.Press.Hi), kc 9 0 (.i (idx a2 x2.2.2.2.2)), kc 10 0 (.v (.slice a2_p a2.length a2_c)), kc 11 0 (.i (idx a3 x2.2.2.2.1)), kc 12 0 (.v (.slice a3_p a3.length a3_c))]) ?_ (kp rfl) rfl
    refine fin_then ?_
    refine aw_seq ?_
    refine aw_cond rfl (fun hz1 => ?_) (fun hz1 => ?_)
    · have hm := brk_t hz1 hm
      refine aw_skip ?_
      refine fin_then ?_
      refine aw_seq ?_
      refine aw_block ?_
      refine aw_seq ?_
      refine aw_text (rows := [_, _, _, _, _]) rfl (by kernel_rfl) ⟨
        ok_plain rfl rfl (op_move (ltN rfl) rfl),
        ok_plain rfl rfl (op_callLentL (ls := [⟨9, 3, [.i (idx a2 x2.2.2.2.2)], [.i (idx a2 (x2.2.2.2.2 + 1))]⟩, ⟨10, 22, [.v (.slice a2_p a2.length a2_c)], [.v (.slice a2_p a2.length a2_c)]⟩]) (x := .i (dv a2 x2.2.2.2.2 4)) (fs := []) (caps := [.p 9 0, .p 10 0]) (extra := []) (ltN rfl) en_83 rfl ⟨rfl, rfl, rfl⟩ (EvL.cons rfl EvL.nil) ⟨rfl, ⟨rfl, trivial⟩, rfl, lb_ne rfl, ⟨rfl, ⟨rfl, trivial⟩, rfl, lb_ne rfl, trivial⟩⟩ (fun mm aa ww gg hr hrel hbx hlo => c83L 4 x2.2.2.2.2 (mm 9) a2 ⟨a2_p, a2.length, a2_c⟩ (mm 10) ww (hbx _ (.head _)) (hbx _ (.tail _ (.head _))) (SlIs.mono ha2 hrel.below) (sl_ne ha2 (box_hi hrel hlo.1)) (box_ne hrel hlo.2.2.2.2.1 hlo.1 (by decide)) (by decide) h8a2 hlena2)),
        ok_plain rfl rfl (op_build (x := .g [.i (dv a2 x2.2.2.2.2 4), .i 0]) (ltN rfl) (EvL.cons rfl EvL.nil) (fun m w => by kernel_rfl)),
        ok_plain rfl rfl (op_alloc (L := 17) (ltN rfl) zl_32),
        ok_plain rfl rfl (op_storeN sz_32 rfl rfl rfl rfl rfl (by decide)),
        trivial⟩ ?_
      refine fin_keep (s' := [kt 9 (.p 7 0), kt 10 (.p 8 0), kt 11 (.f (.func 83) [] [.p 9 0, .p 10 0]), kt 12 (.f (.func 83) [] [.p 11 0, .p 12 0]), kt 13 (.o 300 301 x2.1.length), kt 14 (.o 302 303 x2.2.1.length), kt 15 (.p 17 0), kt 35 (.i (dv a2 0 21)), kt 36 (.i x2.2.2.1), kb 7 25 11, kb 8 34 8, kb 9 3 1, kb 10 22 1, kb 11 3 1, kb 12 22 1, kb 17 32 2, (.r 1, some (.vec true 2 84 2 (v1.Thrust.flatMap encPt))), (.r 3, some (.vec true 4 84 2 (v1.Water.flatMap encPt))), (.r 5, some (.vec true 6 84 2 (v1.Ice.flatMap encPt))), (.r 300, some (.vec true 301 32 2 (x2.1.flatMap encSpan))), (.r 302, some (.vec true 303 32 2 (x2.2.1.flatMap encSpan))), kc 7 0 (.i v1.Class), kc 7 1 (.i v1.Power), kc 7 2 (.i v1.Draught), kc 7 3 (.i v1.Tonnes), kc 7 4 (.o 1 2 v1.Thrust.length), kc 7 5 (.o 3 4 v1.Water.length), kc 7 6 (.o 5 6 v1.Ice.length), kc 7 7 (.i v1.Slow), kc 7 8 (.i v1.Brash), kc 7 9 (.i v1.Ridge), kc 7 10 (.i v1.Press), kc 8 0 (.i v2.Conc.Lo), kc 8 1 (.i v2.Conc.Hi), kc 8 2 (.i v2.Thick.Lo), kc 8 3 (.i v2.Thick.Hi), kc 8 4 (.i v2.Ridge.Lo), kc 8 5 (.i v2.Ridge.Hi), kc 8 6 (.i v2.Press.Lo), kc 8 7 (.i v2.Press.Hi), kc 9 0 (.i (idx a2 (x2.2.2.2.2 + 1))), kc 10 0 (.v (.slice a2_p a2.length a2_c)), kc 11 0 (.i (idx a3 x2.2.2.2.1)), kc 12 0 (.v (.slice a3_p a3.length a3_c)), kc 17 0 (.i (dv a2 x2.2.2.2.2 4)), kc 17 1 (.i 0)]) ?_ (kp rfl) rfl
      refine fin_then ?_
      refine aw_seq ?_
      obtain ⟨hp2, hm⟩ := chk_some hm
      refine aw_any (rows := [_, _, _, _, _, _, _, _]) (M := [0, 1, 0, 4, 15, 31, 63, 127]) Tryd_mixed (by kernel_rfl) rfl (by kernel_rfl) ⟨
        ok_plain rfl rfl (op_fieldAddr (ltN rfl) rfl fo_32_0),
        ok_plain rfl rfl (op_load1 (ltN rfl) sh_3 rfl rfl),
        ok_plain rfl rfl (op_move (ltN rfl) rfl),
        ok_plain rfl rfl (op_callLentL (ls := [⟨9, 3, [.i (idx a2 (x2.2.2.2.2 + 1))], [.i (idx a2 ((x2.2.2.2.2 + 1) + 1))]⟩, ⟨10, 22, [.v (.slice a2_p a2.length a2_c)], [.v (.slice a2_p a2.length a2_c)]⟩]) (x := .i (dv a2 ((x2.2.2.2.2 + 1)) 4)) (fs := []) (caps := [.p 9 0, .p 10 0]) (extra := []) (ltN rfl) en_83 rfl ⟨rfl, rfl, rfl⟩ (EvL.cons rfl EvL.nil) ⟨rfl, ⟨rfl, trivial⟩, rfl, lb_ne rfl, ⟨rfl, ⟨rfl, trivial⟩, rfl, lb_ne rfl, trivial⟩⟩ (fun mm aa ww gg hr hrel hbx hlo => c83L 4 ((x2.2.2.2.2 + 1)) (mm 9) a2 ⟨a2_p, a2.length, a2_c⟩ (mm 10) ww (hbx _ (.head _)) (hbx _ (.tail _ (.head _))) (SlIs.mono ha2 hrel.below) (sl_ne ha2 (box_hi hrel hlo.1)) (box_ne hrel hlo.2.2.2.2.1 hlo.1 (by decide)) (by decide) h8a2 hlena2)),
        ok_plain rfl rfl (op_bin (ltN rfl) rfl rfl (nw_add hp2)),
        ok_plain rfl rfl (op_min (ltN rfl) rfl rfl),
        ok_plain rfl rfl (op_fieldAddr (ltN rfl) rfl fo_32_1),
        ok_plain rfl rfl (op_store1 sz_3 rfl rfl rfl rfl (ltN rfl)),
        trivial⟩ ?_
      refine fin_keep (s' := [kt 9 (.p 7 0), kt 10 (.p 8 0), kt 11 (.f (.func 83) [] [.p 9 0, .p 10 0]), kt 12 (.f (.func 83) [] [.p 11 0, .p 12 0]), kt 13 (.o 300 301 x2.1.length), kt 14 (.o 302 303 x2.2.1.length), kt 15 (.p 17 0), kt 35 (.i (dv a2 0 21)), kt 36 (.i x2.2.2.1), kb 7 25 11, kb 8 34 8, kb 9 3 1, kb 10 22 1, kb 11 3 1, kb 12 22 1, kb 17 32 2, (.r 1, some (.vec true 2 84 2 (v1.Thrust.flatMap encPt))), (.r 3, some (.vec true 4 84 2 (v1.Water.flatMap encPt))), (.r 5, some (.vec true 6 84 2 (v1.Ice.flatMap encPt))), (.r 300, some (.vec true 301 32 2 (x2.1.flatMap encSpan))), (.r 302, some (.vec true 303 32 2 (x2.2.1.flatMap encSpan))), kc 7 0 (.i v1.Class), kc 7 1 (.i v1.Power), kc 7 2 (.i v1.Draught), kc 7 3 (.i v1.Tonnes), kc 7 4 (.o 1 2 v1.Thrust.length), kc 7 5 (.o 3 4 v1.Water.length), kc 7 6 (.o 5 6 v1.Ice.length), kc 7 7 (.i v1.Slow), kc 7 8 (.i v1.Brash), kc 7 9 (.i v1.Ridge), kc 7 10 (.i v1.Press), kc 8 0 (.i v2.Conc.Lo), kc 8 1 (.i v2.Conc.Hi), kc 8 2 (.i v2.Thick.Lo), kc 8 3 (.i v2.Thick.Hi), kc 8 4 (.i v2.Ridge.Lo), kc 8 5 (.i v2.Ridge.Hi), kc 8 6 (.i v2.Press.Lo), kc 8 7 (.i v2.Press.Hi), kc 9 0 (.i (idx a2 ((x2.2.2.2.2 + 1) + 1))), kc 10 0 (.v (.slice a2_p a2.length a2_c)), kc 11 0 (.i (idx a3 x2.2.2.2.1)), kc 12 0 (.v (.slice a3_p a3.length a3_c)), kc 17 0 (.i (dv a2 x2.2.2.2.2 4)), kc 17 1 (.i (if ((dv a2 x2.2.2.2.2 4) + (dv a2 ((x2.2.2.2.2 + 1)) 4)) < 3 then (dv a2 x2.2.2.2.2 4) + (dv a2 ((x2.2.2.2.2 + 1)) 4) else 3))]) ?_ (kp rfl) rfl
      refine fin_then ?_
      refine aw_seq ?_
      obtain ⟨hp3, hm⟩ := chk_some hm
      refine aw_text (rows := [_, _, _, _, _]) rfl (by kernel_rfl) ⟨
        ok_plain rfl rfl (op_move (ltN rfl) rfl),
        ok_plain rfl rfl (op_loadN (ys := [.i (dv a2 x2.2.2.2.2 4), .i (if ((dv a2 x2.2.2.2.2 4) + (dv a2 ((x2.2.2.2.2 + 1)) 4)) < 3 then (dv a2 x2.2.2.2.2 4) + (dv a2 ((x2.2.2.2.2 + 1)) 4) else 3)]) (ltN rfl) sh_32 rfl rfl ⟨rfl, rfl, trivial⟩),
        ok_plain rfl rfl (op_buildSlice (L := 18) (ety := 32) (cs := [.i (dv a2 x2.2.2.2.2 4), .i (if ((dv a2 x2.2.2.2.2 4) + (dv a2 ((x2.2.2.2.2 + 1)) 4)) < 3 then (dv a2 x2.2.2.2.2 4) + (dv a2 ((x2.2.2.2.2 + 1)) 4) else 3)]) (ltN rfl) (EvL.cons rfl EvL.nil) rfl (fun m w => by kernel_rfl)),
        ok_plain rfl rfl (op_append (L' := 19) (C' := 20) (vs := [(.int .i64 (dv a2 x2.2.2.2.2 4)), (.int .i64 (if ((dv a2 x2.2.2.2.2 4) + (dv a2 ((x2.2.2.2.2 + 1)) 4)) < 3 then (dv a2 x2.2.2.2.2 4) + (dv a2 ((x2.2.2.2.2 + 1)) 4) else 3))]) (ltN rfl) af_56 rfl rfl (flat_length (enc := encSpan) (fun _ => rfl) x2.1) rfl ⟨rfl, rfl, trivial⟩ rfl rfl (by decide) (by have := hp3; omega) (by have := hp3; omega) (by decide)),
        ok_plain rfl rfl (op_assign (ltN rfl) rfl),
        trivial⟩ ?_
      refine fin_keep (s' := [kt 9 (.p 7 0), kt 10 (.p 8 0), kt 11 (.f (.func 83) [] [.p 9 0, .p 10 0]), kt 12 (.f (.func 83) [] [.p 11 0, .p 12 0]), kt 13 (.o 19 20 ((x2.1 ++ [(⟨dv a2 x2.2.2.2.2 4, if ((dv a2 x2.2.2.2.2 4) + (dv a2 ((x2.2.2.2.2 + 1)) 4)) < 3 then (dv a2 x2.2.2.2.2 4) + (dv a2 ((x2.2.2.2.2 + 1)) 4) else 3⟩ : Span)]).length)), kt 14 (.o 302 303 x2.2.1.length), kt 15 (.p 17 0), kt 35 (.i (dv a2 0 21)), kt 36 (.i x2.2.2.1), kb 7 25 11, kb 8 34 8, kb 9 3 1, kb 10 22 1, kb 11 3 1, kb 12 22 1, kb 17 32 2, (.r 1, some (.vec true 2 84 2 (v1.Thrust.flatMap encPt))), (.r 3, some (.vec true 4 84 2 (v1.Water.flatMap encPt))), (.r 5, some (.vec true 6 84 2 (v1.Ice.flatMap encPt))), (.r 19, some (.vec true 20 32 2 ((x2.1 ++ [(⟨dv a2 x2.2.2.2.2 4, if ((dv a2 x2.2.2.2.2 4) + (dv a2 ((x2.2.2.2.2 + 1)) 4)) < 3 then (dv a2 x2.2.2.2.2 4) + (dv a2 ((x2.2.2.2.2 + 1)) 4) else 3⟩ : Span)]).flatMap encSpan))), (.r 302, some (.vec true 303 32 2 (x2.2.1.flatMap encSpan))), kc 7 0 (.i v1.Class), kc 7 1 (.i v1.Power), kc 7 2 (.i v1.Draught), kc 7 3 (.i v1.Tonnes), kc 7 4 (.o 1 2 v1.Thrust.length), kc 7 5 (.o 3 4 v1.Water.length), kc 7 6 (.o 5 6 v1.Ice.length), kc 7 7 (.i v1.Slow), kc 7 8 (.i v1.Brash), kc 7 9 (.i v1.Ridge), kc 7 10 (.i v1.Press), kc 8 0 (.i v2.Conc.Lo), kc 8 1 (.i v2.Conc.Hi), kc 8 2 (.i v2.Thick.Lo), kc 8 3 (.i v2.Thick.Hi), kc 8 4 (.i v2.Ridge.Lo), kc 8 5 (.i v2.Ridge.Hi), kc 8 6 (.i v2.Press.Lo), kc 8 7 (.i v2.Press.Hi), kc 9 0 (.i (idx a2 ((x2.2.2.2.2 + 1) + 1))), kc 10 0 (.v (.slice a2_p a2.length a2_c)), kc 11 0 (.i (idx a3 x2.2.2.2.1)), kc 12 0 (.v (.slice a3_p a3.length a3_c)), kc 17 0 (.i (dv a2 x2.2.2.2.2 4)), kc 17 1 (.i (if ((dv a2 x2.2.2.2.2 4) + (dv a2 ((x2.2.2.2.2 + 1)) 4)) < 3 then (dv a2 x2.2.2.2.2 4) + (dv a2 ((x2.2.2.2.2 + 1)) 4) else 3))]) ?_ ⟨rfl, rfl, rfl, rfl, (congrArg (fun q => some (Val.x (SV.o 19 20 q))) (len_snoc x2.1 ((⟨dv a2 x2.2.2.2.2 4, if ((dv a2 x2.2.2.2.2 4) + (dv a2 ((x2.2.2.2.2 + 1)) 4)) < 3 then (dv a2 x2.2.2.2.2 4) + (dv a2 ((x2.2.2.2.2 + 1)) 4) else 3⟩ : Span)))), rfl, rfl, rfl, rfl, rfl, rfl, rfl, rfl, rfl, rfl, rfl, rfl, rfl, rfl, (Eq.trans (b := some (Val.vec true 20 32 2 (x2.1.flatMap encSpan ++ [(.int .i64 (dv a2 x2.2.2.2.2 4)), (.int .i64 (if ((dv a2 x2.2.2.2.2 4) + (dv a2 ((x2.2.2.2.2 + 1)) 4)) < 3 then (dv a2 x2.2.2.2.2 4) + (dv a2 ((x2.2.2.2.2 + 1)) 4) else 3))]))) rfl (congrArg (fun q => some (Val.vec true 20 32 2 q)) (flat_snoc (enc := encSpan) x2.1 ((⟨dv a2 x2.2.2.2.2 4, if ((dv a2 x2.2.2.2.2 4) + (dv a2 ((x2.2.2.2.2 + 1)) 4)) < 3 then (dv a2 x2.2.2.2.2 4) + (dv a2 ((x2.2.2.2.2 + 1)) 4) else 3⟩ : Span))))), rfl, rfl, rfl, rfl, rfl, rfl, rfl, rfl, rfl, rfl, rfl, rfl, rfl, rfl, rfl, rfl, rfl, rfl, rfl, rfl, rfl, rfl, rfl, rfl, rfl, rfl, trivial⟩ rfl
      refine fin_then ?_
      refine aw_seq ?_
      obtain ⟨hp4, hm⟩ := chk_some hm
      refine aw_any (rows := [_, _, _, _, _, _, _, _, _]) (M := [0, 1, 0, 4, 15, 31, 63, 0, 255]) Tryd_mixed (by kernel_rfl) rfl (by kernel_rfl) ⟨
        ok_plain rfl rfl (op_fieldAddr (ltN rfl) rfl fo_32_0),
        ok_plain rfl rfl (op_load1 (ltN rfl) sh_3 rfl rfl),
        ok_plain rfl rfl (op_move (ltN rfl) rfl),
        ok_plain rfl rfl (op_callLentL (ls := [⟨11, 3, [.i (idx a3 x2.2.2.2.1)], [.i (idx a3 (x2.2.2.2.1 + 1))]⟩, ⟨12, 22, [.v (.slice a3_p a3.length a3_c)], [.v (.slice a3_p a3.length a3_c)]⟩]) (x := .i (dv a3 x2.2.2.2.1 4)) (fs := []) (caps := [.p 11 0, .p 12 0]) (extra := []) (ltN rfl) en_83 rfl ⟨rfl, rfl, rfl⟩ (EvL.cons rfl EvL.nil) ⟨rfl, ⟨rfl, trivial⟩, rfl, lb_ne rfl, ⟨rfl, ⟨rfl, trivial⟩, rfl, lb_ne rfl, trivial⟩⟩ (fun mm aa ww gg hr hrel hbx hlo => c83L 4 x2.2.2.2.1 (mm 11) a3 ⟨a3_p, a3.length, a3_c⟩ (mm 12) ww (hbx _ (.head _)) (hbx _ (.tail _ (.head _))) (SlIs.mono ha3 hrel.below) (sl_ne ha3 (box_hi hrel hlo.1)) (box_ne hrel hlo.2.2.2.2.1 hlo.1 (by decide)) (by decide) h8a3 hlena3)),
        ok_plain rfl rfl (op_bin (ltN rfl) rfl rfl (nw_sub hp4)),
        ok_plain rfl rfl (op_max (ltN rfl) rfl rfl),
        ok_plain rfl rfl (op_build (x := .g [.i (if ((dv a2 x2.2.2.2.2 4) - (dv a3 x2.2.2.2.1 4)) > 0 then (dv a2 x2.2.2.2.2 4) - (dv a3 x2.2.2.2.1 4) else 0), .i 0]) (ltN rfl) (EvL.cons rfl EvL.nil) (fun m w => by kernel_rfl)),
        ok_plain rfl rfl (op_alloc (L := 21) (ltN rfl) zl_32),
        ok_plain rfl rfl (op_storeN sz_32 rfl rfl rfl rfl rfl (by decide)),
        trivial⟩ ?_
      refine fin_keep (s' := [kt 9 (.p 7 0), kt 10 (.p 8 0), kt 11 (.f (.func 83) [] [.p 9 0, .p 10 0]), kt 12 (.f (.func 83) [] [.p 11 0, .p 12 0]), kt 13 (.o 19 20 ((x2.1 ++ [(⟨dv a2 x2.2.2.2.2 4, if ((dv a2 x2.2.2.2.2 4) + (dv a2 ((x2.2.2.2.2 + 1)) 4)) < 3 then (dv a2 x2.2.2.2.2 4) + (dv a2 ((x2.2.2.2.2 + 1)) 4) else 3⟩ : Span)]).length)), kt 14 (.o 302 303 x2.2.1.length), kt 15 (.p 17 0), kt 16 (.p 21 0), kt 35 (.i (dv a2 0 21)), kt 36 (.i x2.2.2.1), kb 7 25 11, kb 8 34 8, kb 9 3 1, kb 10 22 1, kb 11 3 1, kb 12 22 1, kb 17 32 2, kb 21 32 2, (.r 1, some (.vec true 2 84 2 (v1.Thrust.flatMap encPt))), (.r 3, some (.vec true 4 84 2 (v1.Water.flatMap encPt))), (.r 5, some (.vec true 6 84 2 (v1.Ice.flatMap encPt))), (.r 19, some (.vec true 20 32 2 ((x2.1 ++ [(⟨dv a2 x2.2.2.2.2 4, if ((dv a2 x2.2.2.2.2 4) + (dv a2 ((x2.2.2.2.2 + 1)) 4)) < 3 then (dv a2 x2.2.2.2.2 4) + (dv a2 ((x2.2.2.2.2 + 1)) 4) else 3⟩ : Span)]).flatMap encSpan))), (.r 302, some (.vec true 303 32 2 (x2.2.1.flatMap encSpan))), kc 7 0 (.i v1.Class), kc 7 1 (.i v1.Power), kc 7 2 (.i v1.Draught), kc 7 3 (.i v1.Tonnes), kc 7 4 (.o 1 2 v1.Thrust.length), kc 7 5 (.o 3 4 v1.Water.length), kc 7 6 (.o 5 6 v1.Ice.length), kc 7 7 (.i v1.Slow), kc 7 8 (.i v1.Brash), kc 7 9 (.i v1.Ridge), kc 7 10 (.i v1.Press), kc 8 0 (.i v2.Conc.Lo), kc 8 1 (.i v2.Conc.Hi), kc 8 2 (.i v2.Thick.Lo), kc 8 3 (.i v2.Thick.Hi), kc 8 4 (.i v2.Ridge.Lo), kc 8 5 (.i v2.Ridge.Hi), kc 8 6 (.i v2.Press.Lo), kc 8 7 (.i v2.Press.Hi), kc 9 0 (.i (idx a2 ((x2.2.2.2.2 + 1) + 1))), kc 10 0 (.v (.slice a2_p a2.length a2_c)), kc 11 0 (.i (idx a3 (x2.2.2.2.1 + 1))), kc 12 0 (.v (.slice a3_p a3.length a3_c)), kc 17 0 (.i (dv a2 x2.2.2.2.2 4)), kc 17 1 (.i (if ((dv a2 x2.2.2.2.2 4) + (dv a2 ((x2.2.2.2.2 + 1)) 4)) < 3 then (dv a2 x2.2.2.2.2 4) + (dv a2 ((x2.2.2.2.2 + 1)) 4) else 3)), kc 21 0 (.i (if ((dv a2 x2.2.2.2.2 4) - (dv a3 x2.2.2.2.1 4)) > 0 then (dv a2 x2.2.2.2.2 4) - (dv a3 x2.2.2.2.1 4) else 0)), kc 21 1 (.i 0)]) ?_ (kp rfl) rfl
      refine fin_then ?_
      refine aw_seq ?_
      obtain ⟨hp5, hm⟩ := chk_some hm
      refine aw_any (rows := [_, _, _, _, _, _, _, _, _, _]) (M := [0, 1, 0, 4, 0, 16, 60, 127, 255, 511]) Tryd_mixed (by kernel_rfl) rfl (by kernel_rfl) ⟨
        ok_plain rfl rfl (op_fieldAddr (ltN rfl) rfl fo_32_0),
        ok_plain rfl rfl (op_load1 (ltN rfl) sh_3 rfl rfl),
        ok_plain rfl rfl (op_fieldAddr (ltN rfl) rfl fo_32_1),
        ok_plain rfl rfl (op_load1 (ltN rfl) sh_3 rfl rfl),
        ok_plain rfl rfl (op_move (ltN rfl) rfl),
        ok_plain rfl rfl (op_callLentL (ls := [⟨11, 3, [.i (idx a3 (x2.2.2.2.1 + 1))], [.i (idx a3 ((x2.2.2.2.1 + 1) + 1))]⟩, ⟨12, 22, [.v (.slice a3_p a3.length a3_c)], [.v (.slice a3_p a3.length a3_c)]⟩]) (x := .i (dv a3 ((x2.2.2.2.1 + 1)) 4)) (fs := []) (caps := [.p 11 0, .p 12 0]) (extra := []) (ltN rfl) en_83 rfl ⟨rfl, rfl, rfl⟩ (EvL.cons rfl EvL.nil) ⟨rfl, ⟨rfl, trivial⟩, rfl, lb_ne rfl, ⟨rfl, ⟨rfl, trivial⟩, rfl, lb_ne rfl, trivial⟩⟩ (fun mm aa ww gg hr hrel hbx hlo => c83L 4 ((x2.2.2.2.1 + 1)) (mm 11) a3 ⟨a3_p, a3.length, a3_c⟩ (mm 12) ww (hbx _ (.head _)) (hbx _ (.tail _ (.head _))) (SlIs.mono ha3 hrel.below) (sl_ne ha3 (box_hi hrel hlo.1)) (box_ne hrel hlo.2.2.2.2.1 hlo.1 (by decide)) (by decide) h8a3 hlena3)),
        ok_plain rfl rfl (op_bin (ltN rfl) rfl rfl (nw_sub hp5)),
        ok_plain rfl rfl (op_max (ltN rfl) rfl rfl),
        ok_plain rfl rfl (op_fieldAddr (ltN rfl) rfl fo_32_1),
        ok_plain rfl rfl (op_store1 sz_3 rfl rfl rfl rfl (ltN rfl)),
        trivial⟩ ?_
      refine fin_keep (s' := [kt 9 (.p 7 0), kt 10 (.p 8 0), kt 11 (.f (.func 83) [] [.p 9 0, .p 10 0]), kt 12 (.f (.func 83) [] [.p 11 0, .p 12 0]), kt 13 (.o 19 20 ((x2.1 ++ [(⟨dv a2 x2.2.2.2.2 4, if ((dv a2 x2.2.2.2.2 4) + (dv a2 ((x2.2.2.2.2 + 1)) 4)) < 3 then (dv a2 x2.2.2.2.2 4) + (dv a2 ((x2.2.2.2.2 + 1)) 4) else 3⟩ : Span)]).length)), kt 14 (.o 302 303 x2.2.1.length), kt 16 (.p 21 0), kt 35 (.i (dv a2 0 21)), kt 36 (.i x2.2.2.1), kb 7 25 11, kb 8 34 8, kb 9 3 1, kb 10 22 1, kb 11 3 1, kb 12 22 1, kb 21 32 2, (.r 1, some (.vec true 2 84 2 (v1.Thrust.flatMap encPt))), (.r 3, some (.vec true 4 84 2 (v1.Water.flatMap encPt))), (.r 5, some (.vec true 6 84 2 (v1.Ice.flatMap encPt))), (.r 19, some (.vec true 20 32 2 ((x2.1 ++ [(⟨dv a2 x2.2.2.2.2 4, if ((dv a2 x2.2.2.2.2 4) + (dv a2 ((x2.2.2.2.2 + 1)) 4)) < 3 then (dv a2 x2.2.2.2.2 4) + (dv a2 ((x2.2.2.2.2 + 1)) 4) else 3⟩ : Span)]).flatMap encSpan))), (.r 302, some (.vec true 303 32 2 (x2.2.1.flatMap encSpan))), kc 7 0 (.i v1.Class), kc 7 1 (.i v1.Power), kc 7 2 (.i v1.Draught), kc 7 3 (.i v1.Tonnes), kc 7 4 (.o 1 2 v1.Thrust.length), kc 7 5 (.o 3 4 v1.Water.length), kc 7 6 (.o 5 6 v1.Ice.length), kc 7 7 (.i v1.Slow), kc 7 8 (.i v1.Brash), kc 7 9 (.i v1.Ridge), kc 7 10 (.i v1.Press), kc 8 0 (.i v2.Conc.Lo), kc 8 1 (.i v2.Conc.Hi), kc 8 2 (.i v2.Thick.Lo), kc 8 3 (.i v2.Thick.Hi), kc 8 4 (.i v2.Ridge.Lo), kc 8 5 (.i v2.Ridge.Hi), kc 8 6 (.i v2.Press.Lo), kc 8 7 (.i v2.Press.Hi), kc 9 0 (.i (idx a2 ((x2.2.2.2.2 + 1) + 1))), kc 10 0 (.v (.slice a2_p a2.length a2_c)), kc 11 0 (.i (idx a3 ((x2.2.2.2.1 + 1) + 1))), kc 12 0 (.v (.slice a3_p a3.length a3_c)), kc 21 0 (.i (if ((dv a2 x2.2.2.2.2 4) - (dv a3 x2.2.2.2.1 4)) > 0 then (dv a2 x2.2.2.2.2 4) - (dv a3 x2.2.2.2.1 4) else 0)), kc 21 1 (.i (if ((if ((dv a2 x2.2.2.2.2 4) + (dv a2 ((x2.2.2.2.2 + 1)) 4)) < 3 then (dv a2 x2.2.2.2.2 4) + (dv a2 ((x2.2.2.2.2 + 1)) 4) else 3) - (dv a3 ((x2.2.2.2.1 + 1)) 4)) > (if ((dv a2 x2.2.2.2.2 4) - (dv a3 x2.2.2.2.1 4)) > 0 then (dv a2 x2.2.2.2.2 4) - (dv a3 x2.2.2.2.1 4) else 0) then (if ((dv a2 x2.2.2.2.2 4) + (dv a2 ((x2.2.2.2.2 + 1)) 4)) < 3 then (dv a2 x2.2.2.2.2 4) + (dv a2 ((x2.2.2.2.2 + 1)) 4) else 3) - (dv a3 ((x2.2.2.2.1 + 1)) 4) else if ((dv a2 x2.2.2.2.2 4) - (dv a3 x2.2.2.2.1 4)) > 0 then (dv a2 x2.2.2.2.2 4) - (dv a3 x2.2.2.2.1 4) else 0))]) ?_ (kp rfl) rfl
      refine fin_then ?_
      obtain ⟨hp6, hm⟩ := chk_some hm
      refine aw_text (rows := [_, _, _, _, _]) rfl (by kernel_rfl) ⟨
        ok_plain rfl rfl (op_move (ltN rfl) rfl),
        ok_plain rfl rfl (op_loadN (ys := [.i (if ((dv a2 x2.2.2.2.2 4) - (dv a3 x2.2.2.2.1 4)) > 0 then (dv a2 x2.2.2.2.2 4) - (dv a3 x2.2.2.2.1 4) else 0), .i (if ((if ((dv a2 x2.2.2.2.2 4) + (dv a2 ((x2.2.2.2.2 + 1)) 4)) < 3 then (dv a2 x2.2.2.2.2 4) + (dv a2 ((x2.2.2.2.2 + 1)) 4) else 3) - (dv a3 ((x2.2.2.2.1 + 1)) 4)) > (if ((dv a2 x2.2.2.2.2 4) - (dv a3 x2.2.2.2.1 4)) > 0 then (dv a2 x2.2.2.2.2 4) - (dv a3 x2.2.2.2.1 4) else 0) then (if ((dv a2 x2.2.2.2.2 4) + (dv a2 ((x2.2.2.2.2 + 1)) 4)) < 3 then (dv a2 x2.2.2.2.2 4) + (dv a2 ((x2.2.2.2.2 + 1)) 4) else 3) - (dv a3 ((x2.2.2.2.1 + 1)) 4) else if ((dv a2 x2.2.2.2.2 4) - (dv a3 x2.2.2.2.1 4)) > 0 then (dv a2 x2.2.2.2.2 4) - (dv a3 x2.2.2.2.1 4) else 0)]) (ltN rfl) sh_32 rfl rfl ⟨rfl, rfl, trivial⟩),
        ok_plain rfl rfl (op_buildSlice (L := 22) (ety := 32) (cs := [.i (if ((dv a2 x2.2.2.2.2 4) - (dv a3 x2.2.2.2.1 4)) > 0 then (dv a2 x2.2.2.2.2 4) - (dv a3 x2.2.2.2.1 4) else 0), .i (if ((if ((dv a2 x2.2.2.2.2 4) + (dv a2 ((x2.2.2.2.2 + 1)) 4)) < 3 then (dv a2 x2.2.2.2.2 4) + (dv a2 ((x2.2.2.2.2 + 1)) 4) else 3) - (dv a3 ((x2.2.2.2.1 + 1)) 4)) > (if ((dv a2 x2.2.2.2.2 4) - (dv a3 x2.2.2.2.1 4)) > 0 then (dv a2 x2.2.2.2.2 4) - (dv a3 x2.2.2.2.1 4) else 0) then (if ((dv a2 x2.2.2.2.2 4) + (dv a2 ((x2.2.2.2.2 + 1)) 4)) < 3 then (dv a2 x2.2.2.2.2 4) + (dv a2 ((x2.2.2.2.2 + 1)) 4) else 3) - (dv a3 ((x2.2.2.2.1 + 1)) 4) else if ((dv a2 x2.2.2.2.2 4) - (dv a3 x2.2.2.2.1 4)) > 0 then (dv a2 x2.2.2.2.2 4) - (dv a3 x2.2.2.2.1 4) else 0)]) (ltN rfl) (EvL.cons rfl EvL.nil) rfl (fun m w => by kernel_rfl)),
        ok_plain rfl rfl (op_append (L' := 23) (C' := 24) (vs := [(.int .i64 (if ((dv a2 x2.2.2.2.2 4) - (dv a3 x2.2.2.2.1 4)) > 0 then (dv a2 x2.2.2.2.2 4) - (dv a3 x2.2.2.2.1 4) else 0)), (.int .i64 (if ((if ((dv a2 x2.2.2.2.2 4) + (dv a2 ((x2.2.2.2.2 + 1)) 4)) < 3 then (dv a2 x2.2.2.2.2 4) + (dv a2 ((x2.2.2.2.2 + 1)) 4) else 3) - (dv a3 ((x2.2.2.2.1 + 1)) 4)) > (if ((dv a2 x2.2.2.2.2 4) - (dv a3 x2.2.2.2.1 4)) > 0 then (dv a2 x2.2.2.2.2 4) - (dv a3 x2.2.2.2.1 4) else 0) then (if ((dv a2 x2.2.2.2.2 4) + (dv a2 ((x2.2.2.2.2 + 1)) 4)) < 3 then (dv a2 x2.2.2.2.2 4) + (dv a2 ((x2.2.2.2.2 + 1)) 4) else 3) - (dv a3 ((x2.2.2.2.1 + 1)) 4) else if ((dv a2 x2.2.2.2.2 4) - (dv a3 x2.2.2.2.1 4)) > 0 then (dv a2 x2.2.2.2.2 4) - (dv a3 x2.2.2.2.1 4) else 0))]) (ltN rfl) af_56 rfl rfl (flat_length (enc := encSpan) (fun _ => rfl) x2.2.1) rfl ⟨rfl, rfl, trivial⟩ rfl rfl (by decide) (by have := hp6; omega) (by have := hp6; omega) (by decide)),
        ok_plain rfl rfl (op_assign (ltN rfl) rfl),
        trivial⟩ ?_
      refine fin_keep (s' := [kt 9 (.p 7 0), kt 10 (.p 8 0), kt 11 (.f (.func 83) [] [.p 9 0, .p 10 0]), kt 12 (.f (.func 83) [] [.p 11 0, .p 12 0]), kt 13 (.o 19 20 ((x2.1 ++ [(⟨dv a2 x2.2.2.2.2 4, if ((dv a2 x2.2.2.2.2 4) + (dv a2 ((x2.2.2.2.2 + 1)) 4)) < 3 then (dv a2 x2.2.2.2.2 4) + (dv a2 ((x2.2.2.2.2 + 1)) 4) else 3⟩ : Span)]).length)), kt 14 (.o 23 24 ((x2.2.1 ++ [(⟨if ((dv a2 x2.2.2.2.2 4) - (dv a3 x2.2.2.2.1 4)) > 0 then (dv a2 x2.2.2.2.2 4) - (dv a3 x2.2.2.2.1 4) else 0, if ((if ((dv a2 x2.2.2.2.2 4) + (dv a2 ((x2.2.2.2.2 + 1)) 4)) < 3 then (dv a2 x2.2.2.2.2 4) + (dv a2 ((x2.2.2.2.2 + 1)) 4) else 3) - (dv a3 ((x2.2.2.2.1 + 1)) 4)) > (if ((dv a2 x2.2.2.2.2 4) - (dv a3 x2.2.2.2.1 4)) > 0 then (dv a2 x2.2.2.2.2 4) - (dv a3 x2.2.2.2.1 4) else 0) then (if ((dv a2 x2.2.2.2.2 4) + (dv a2 ((x2.2.2.2.2 + 1)) 4)) < 3 then (dv a2 x2.2.2.2.2 4) + (dv a2 ((x2.2.2.2.2 + 1)) 4) else 3) - (dv a3 ((x2.2.2.2.1 + 1)) 4) else if ((dv a2 x2.2.2.2.2 4) - (dv a3 x2.2.2.2.1 4)) > 0 then (dv a2 x2.2.2.2.2 4) - (dv a3 x2.2.2.2.1 4) else 0⟩ : Span)]).length)), kt 35 (.i (dv a2 0 21)), kt 36 (.i x2.2.2.1), kb 7 25 11, kb 8 34 8, kb 9 3 1, kb 10 22 1, kb 11 3 1, kb 12 22 1, (.r 1, some (.vec true 2 84 2 (v1.Thrust.flatMap encPt))), (.r 3, some (.vec true 4 84 2 (v1.Water.flatMap encPt))), (.r 5, some (.vec true 6 84 2 (v1.Ice.flatMap encPt))), (.r 19, some (.vec true 20 32 2 ((x2.1 ++ [(⟨dv a2 x2.2.2.2.2 4, if ((dv a2 x2.2.2.2.2 4) + (dv a2 ((x2.2.2.2.2 + 1)) 4)) < 3 then (dv a2 x2.2.2.2.2 4) + (dv a2 ((x2.2.2.2.2 + 1)) 4) else 3⟩ : Span)]).flatMap encSpan))), (.r 23, some (.vec true 24 32 2 ((x2.2.1 ++ [(⟨if ((dv a2 x2.2.2.2.2 4) - (dv a3 x2.2.2.2.1 4)) > 0 then (dv a2 x2.2.2.2.2 4) - (dv a3 x2.2.2.2.1 4) else 0, if ((if ((dv a2 x2.2.2.2.2 4) + (dv a2 ((x2.2.2.2.2 + 1)) 4)) < 3 then (dv a2 x2.2.2.2.2 4) + (dv a2 ((x2.2.2.2.2 + 1)) 4) else 3) - (dv a3 ((x2.2.2.2.1 + 1)) 4)) > (if ((dv a2 x2.2.2.2.2 4) - (dv a3 x2.2.2.2.1 4)) > 0 then (dv a2 x2.2.2.2.2 4) - (dv a3 x2.2.2.2.1 4) else 0) then (if ((dv a2 x2.2.2.2.2 4) + (dv a2 ((x2.2.2.2.2 + 1)) 4)) < 3 then (dv a2 x2.2.2.2.2 4) + (dv a2 ((x2.2.2.2.2 + 1)) 4) else 3) - (dv a3 ((x2.2.2.2.1 + 1)) 4) else if ((dv a2 x2.2.2.2.2 4) - (dv a3 x2.2.2.2.1 4)) > 0 then (dv a2 x2.2.2.2.2 4) - (dv a3 x2.2.2.2.1 4) else 0⟩ : Span)]).flatMap encSpan))), kc 7 0 (.i v1.Class), kc 7 1 (.i v1.Power), kc 7 2 (.i v1.Draught), kc 7 3 (.i v1.Tonnes), kc 7 4 (.o 1 2 v1.Thrust.length), kc 7 5 (.o 3 4 v1.Water.length), kc 7 6 (.o 5 6 v1.Ice.length), kc 7 7 (.i v1.Slow), kc 7 8 (.i v1.Brash), kc 7 9 (.i v1.Ridge), kc 7 10 (.i v1.Press), kc 8 0 (.i v2.Conc.Lo), kc 8 1 (.i v2.Conc.Hi), kc 8 2 (.i v2.Thick.Lo), kc 8 3 (.i v2.Thick.Hi), kc 8 4 (.i v2.Ridge.Lo), kc 8 5 (.i v2.Ridge.Hi), kc 8 6 (.i v2.Press.Lo), kc 8 7 (.i v2.Press.Hi), kc 9 0 (.i (idx a2 ((x2.2.2.2.2 + 1) + 1))), kc 10 0 (.v (.slice a2_p a2.length a2_c)), kc 11 0 (.i (idx a3 ((x2.2.2.2.1 + 1) + 1))), kc 12 0 (.v (.slice a3_p a3.length a3_c))]) ?_ ⟨rfl, rfl, rfl, rfl, rfl, (congrArg (fun q => some (Val.x (SV.o 23 24 q))) (len_snoc x2.2.1 ((⟨if ((dv a2 x2.2.2.2.2 4) - (dv a3 x2.2.2.2.1 4)) > 0 then (dv a2 x2.2.2.2.2 4) - (dv a3 x2.2.2.2.1 4) else 0, if ((if ((dv a2 x2.2.2.2.2 4) + (dv a2 ((x2.2.2.2.2 + 1)) 4)) < 3 then (dv a2 x2.2.2.2.2 4) + (dv a2 ((x2.2.2.2.2 + 1)) 4) else 3) - (dv a3 ((x2.2.2.2.1 + 1)) 4)) > (if ((dv a2 x2.2.2.2.2 4) - (dv a3 x2.2.2.2.1 4)) > 0 then (dv a2 x2.2.2.2.2 4) - (dv a3 x2.2.2.2.1 4) else 0) then (if ((dv a2 x2.2.2.2.2 4) + (dv a2 ((x2.2.2.2.2 + 1)) 4)) < 3 then (dv a2 x2.2.2.2.2 4) + (dv a2 ((x2.2.2.2.2 + 1)) 4) else 3) - (dv a3 ((x2.2.2.2.1 + 1)) 4) else if ((dv a2 x2.2.2.2.2 4) - (dv a3 x2.2.2.2.1 4)) > 0 then (dv a2 x2.2.2.2.2 4) - (dv a3 x2.2.2.2.1 4) else 0⟩ : Span)))), rfl, rfl, rfl, rfl, rfl, rfl, rfl, rfl, rfl, rfl, rfl, rfl, (Eq.trans (b := some (Val.vec true 24 32 2 (x2.2.1.flatMap encSpan ++ [(.int .i64 (if ((dv a2 x2.2.2.2.2 4) - (dv a3 x2.2.2.2.1 4)) > 0 then (dv a2 x2.2.2.2.2 4) - (dv a3 x2.2.2.2.1 4) else 0)), (.int .i64 (if ((if ((dv a2 x2.2.2.2.2 4) + (dv a2 ((x2.2.2.2.2 + 1)) 4)) < 3 then (dv a2 x2.2.2.2.2 4) + (dv a2 ((x2.2.2.2.2 + 1)) 4) else 3) - (dv a3 ((x2.2.2.2.1 + 1)) 4)) > (if ((dv a2 x2.2.2.2.2 4) - (dv a3 x2.2.2.2.1 4)) > 0 then (dv a2 x2.2.2.2.2 4) - (dv a3 x2.2.2.2.1 4) else 0) then (if ((dv a2 x2.2.2.2.2 4) + (dv a2 ((x2.2.2.2.2 + 1)) 4)) < 3 then (dv a2 x2.2.2.2.2 4) + (dv a2 ((x2.2.2.2.2 + 1)) 4) else 3) - (dv a3 ((x2.2.2.2.1 + 1)) 4) else if ((dv a2 x2.2.2.2.2 4) - (dv a3 x2.2.2.2.1 4)) > 0 then (dv a2 x2.2.2.2.2 4) - (dv a3 x2.2.2.2.1 4) else 0))]))) rfl (congrArg (fun q => some (Val.vec true 24 32 2 q)) (flat_snoc (enc := encSpan) x2.2.1 ((⟨if ((dv a2 x2.2.2.2.2 4) - (dv a3 x2.2.2.2.1 4)) > 0 then (dv a2 x2.2.2.2.2 4) - (dv a3 x2.2.2.2.1 4) else 0, if ((if ((dv a2 x2.2.2.2.2 4) + (dv a2 ((x2.2.2.2.2 + 1)) 4)) < 3 then (dv a2 x2.2.2.2.2 4) + (dv a2 ((x2.2.2.2.2 + 1)) 4) else 3) - (dv a3 ((x2.2.2.2.1 + 1)) 4)) > (if ((dv a2 x2.2.2.2.2 4) - (dv a3 x2.2.2.2.1 4)) > 0 then (dv a2 x2.2.2.2.2 4) - (dv a3 x2.2.2.2.1 4) else 0) then (if ((dv a2 x2.2.2.2.2 4) + (dv a2 ((x2.2.2.2.2 + 1)) 4)) < 3 then (dv a2 x2.2.2.2.2 4) + (dv a2 ((x2.2.2.2.2 + 1)) 4) else 3) - (dv a3 ((x2.2.2.2.1 + 1)) 4) else if ((dv a2 x2.2.2.2.2 4) - (dv a3 x2.2.2.2.1 4)) > 0 then (dv a2 x2.2.2.2.2 4) - (dv a3 x2.2.2.2.1 4) else 0⟩ : Span))))), rfl, rfl, rfl, rfl, rfl, rfl, rfl, rfl, rfl, rfl, rfl, rfl, rfl, rfl, rfl, rfl, rfl, rfl, rfl, rfl, rfl, rfl, rfl, trivial⟩ rfl
      refine fin_block ?_
      refine fin_then ?_
      obtain ⟨hp7, hm⟩ := chk_some hm
      refine aw_text (rows := [_, _]) rfl (by kernel_rfl) ⟨
        ok_plain rfl rfl (op_bin (ltN rfl) rfl rfl (nw_add hp7)),
        ok_plain rfl rfl (op_move (ltN rfl) rfl),
        trivial⟩ ?_
      refine fin_keep (s' := [kt 9 (.p 7 0), kt 10 (.p 8 0), kt 11 (.f (.func 83) [] [.p 9 0, .p 10 0]), kt 12 (.f (.func 83) [] [.p 11 0, .p 12 0]), kt 13 (.o 19 20 ((x2.1 ++ [(⟨dv a2 x2.2.2.2.2 4, if ((dv a2 x2.2.2.2.2 4) + (dv a2 ((x2.2.2.2.2 + 1)) 4)) < 3 then (dv a2 x2.2.2.2.2 4) + (dv a2 ((x2.2.2.2.2 + 1)) 4) else 3⟩ : Span)]).length)), kt 14 (.o 23 24 ((x2.2.1 ++ [(⟨if ((dv a2 x2.2.2.2.2 4) - (dv a3 x2.2.2.2.1 4)) > 0 then (dv a2 x2.2.2.2.2 4) - (dv a3 x2.2.2.2.1 4) else 0, if ((if ((dv a2 x2.2.2.2.2 4) + (dv a2 ((x2.2.2.2.2 + 1)) 4)) < 3 then (dv a2 x2.2.2.2.2 4) + (dv a2 ((x2.2.2.2.2 + 1)) 4) else 3) - (dv a3 ((x2.2.2.2.1 + 1)) 4)) > (if ((dv a2 x2.2.2.2.2 4) - (dv a3 x2.2.2.2.1 4)) > 0 then (dv a2 x2.2.2.2.2 4) - (dv a3 x2.2.2.2.1 4) else 0) then (if ((dv a2 x2.2.2.2.2 4) + (dv a2 ((x2.2.2.2.2 + 1)) 4)) < 3 then (dv a2 x2.2.2.2.2 4) + (dv a2 ((x2.2.2.2.2 + 1)) 4) else 3) - (dv a3 ((x2.2.2.2.1 + 1)) 4) else if ((dv a2 x2.2.2.2.2 4) - (dv a3 x2.2.2.2.1 4)) > 0 then (dv a2 x2.2.2.2.2 4) - (dv a3 x2.2.2.2.1 4) else 0⟩ : Span)]).length)), kt 35 (.i (dv a2 0 21)), kt 36 (.i (x2.2.2.1 + 1)), kb 7 25 11, kb 8 34 8, kb 9 3 1, kb 10 22 1, kb 11 3 1, kb 12 22 1, (.r 1, some (.vec true 2 84 2 (v1.Thrust.flatMap encPt))), (.r 3, some (.vec true 4 84 2 (v1.Water.flatMap encPt))), (.r 5, some (.vec true 6 84 2 (v1.Ice.flatMap encPt))), (.r 19, some (.vec true 20 32 2 ((x2.1 ++ [(⟨dv a2 x2.2.2.2.2 4, if ((dv a2 x2.2.2.2.2 4) + (dv a2 ((x2.2.2.2.2 + 1)) 4)) < 3 then (dv a2 x2.2.2.2.2 4) + (dv a2 ((x2.2.2.2.2 + 1)) 4) else 3⟩ : Span)]).flatMap encSpan))), (.r 23, some (.vec true 24 32 2 ((x2.2.1 ++ [(⟨if ((dv a2 x2.2.2.2.2 4) - (dv a3 x2.2.2.2.1 4)) > 0 then (dv a2 x2.2.2.2.2 4) - (dv a3 x2.2.2.2.1 4) else 0, if ((if ((dv a2 x2.2.2.2.2 4) + (dv a2 ((x2.2.2.2.2 + 1)) 4)) < 3 then (dv a2 x2.2.2.2.2 4) + (dv a2 ((x2.2.2.2.2 + 1)) 4) else 3) - (dv a3 ((x2.2.2.2.1 + 1)) 4)) > (if ((dv a2 x2.2.2.2.2 4) - (dv a3 x2.2.2.2.1 4)) > 0 then (dv a2 x2.2.2.2.2 4) - (dv a3 x2.2.2.2.1 4) else 0) then (if ((dv a2 x2.2.2.2.2 4) + (dv a2 ((x2.2.2.2.2 + 1)) 4)) < 3 then (dv a2 x2.2.2.2.2 4) + (dv a2 ((x2.2.2.2.2 + 1)) 4) else 3) - (dv a3 ((x2.2.2.2.1 + 1)) 4) else if ((dv a2 x2.2.2.2.2 4) - (dv a3 x2.2.2.2.1 4)) > 0 then (dv a2 x2.2.2.2.2 4) - (dv a3 x2.2.2.2.1 4) else 0⟩ : Span)]).flatMap encSpan))), kc 7 0 (.i v1.Class), kc 7 1 (.i v1.Power), kc 7 2 (.i v1.Draught), kc 7 3 (.i v1.Tonnes), kc 7 4 (.o 1 2 v1.Thrust.length), kc 7 5 (.o 3 4 v1.Water.length), kc 7 6 (.o 5 6 v1.Ice.length), kc 7 7 (.i v1.Slow), kc 7 8 (.i v1.Brash), kc 7 9 (.i v1.Ridge), kc 7 10 (.i v1.Press), kc 8 0 (.i v2.Conc.Lo), kc 8 1 (.i v2.Conc.Hi), kc 8 2 (.i v2.Thick.Lo), kc 8 3 (.i v2.Thick.Hi), kc 8 4 (.i v2.Ridge.Lo), kc 8 5 (.i v2.Ridge.Hi), kc 8 6 (.i v2.Press.Lo), kc 8 7 (.i v2.Press.Hi), kc 9 0 (.i (idx a2 ((x2.2.2.2.2 + 1) + 1))), kc 10 0 (.v (.slice a2_p a2.length a2_c)), kc 11 0 (.i (idx a3 ((x2.2.2.2.1 + 1) + 1))), kc 12 0 (.v (.slice a3_p a3.length a3_c))]) ?_ (kp rfl) rfl
      refine fin_swp [(19, 300), (20, 301), (23, 302), (24, 303)] rfl ?_
      exact fin_cut ((x2.1 ++ [(⟨dv a2 x2.2.2.2.2 4, if ((dv a2 x2.2.2.2.2 4) + (dv a2 ((x2.2.2.2.2 + 1)) 4)) < 3 then (dv a2 x2.2.2.2.2 4) + (dv a2 ((x2.2.2.2.2 + 1)) 4) else 3⟩ : Span)]), (x2.2.1 ++ [(⟨if ((dv a2 x2.2.2.2.2 4) - (dv a3 x2.2.2.2.1 4)) > 0 then (dv a2 x2.2.2.2.2 4) - (dv a3 x2.2.2.2.1 4) else 0, if ((if ((dv a2 x2.2.2.2.2 4) + (dv a2 ((x2.2.2.2.2 + 1)) 4)) < 3 then (dv a2 x2.2.2.2.2 4) + (dv a2 ((x2.2.2.2.2 + 1)) 4) else 3) - (dv a3 ((x2.2.2.2.1 + 1)) 4)) > (if ((dv a2 x2.2.2.2.2 4) - (dv a3 x2.2.2.2.1 4)) > 0 then (dv a2 x2.2.2.2.2 4) - (dv a3 x2.2.2.2.1 4) else 0) then (if ((dv a2 x2.2.2.2.2 4) + (dv a2 ((x2.2.2.2.2 + 1)) 4)) < 3 then (dv a2 x2.2.2.2.2 4) + (dv a2 ((x2.2.2.2.2 + 1)) 4) else 3) - (dv a3 ((x2.2.2.2.1 + 1)) 4) else if ((dv a2 x2.2.2.2.2 4) - (dv a3 x2.2.2.2.1 4)) > 0 then (dv a2 x2.2.2.2.2 4) - (dv a3 x2.2.2.2.1 4) else 0⟩ : Span)]), x2.2.2.1 + 1, ((x2.2.2.2.1 + 1) + 1), ((x2.2.2.2.2 + 1) + 1)) hm ⟨rfl, rfl, rfl, rfl, rfl, rfl, rfl, rfl, rfl, rfl, rfl, rfl, rfl, rfl, rfl, rfl, rfl, rfl, rfl, rfl, rfl, rfl, rfl, rfl, rfl, rfl, rfl, rfl, rfl, rfl, rfl, rfl, rfl, rfl, rfl, rfl, rfl, rfl, rfl, rfl, rfl, rfl, trivial⟩ rfl
    · have hm := brk_f hz1 hm
      refine aw_exit ?_
      refine fin_then_exit ?_
      refine fin_then_exit ?_
      refine fin_block_exit ?_
      exact fin_cut (x2.1, x2.2.1) hm ⟨rfl, rfl, rfl, rfl, rfl, rfl, rfl, rfl, rfl, rfl, rfl, rfl, rfl, rfl, rfl, rfl, rfl, rfl, rfl, rfl, rfl, rfl, rfl, rfl, rfl, rfl, rfl, rfl, rfl, rfl, trivial⟩ rfl
  · have _z := hm
    refine aw_seq ?_
    refine aw_text (rows := [_, _, _, _, _, _, _, _, _, _]) rfl (by kernel_rfl) ⟨
      ok_plain rfl rfl (op_loadN (ys := [.i v1.Class, .i v1.Power, .i v1.Draught, .i v1.Tonnes, .o 1 2 v1.Thrust.length, .o 3 4 v1.Water.length, .o 5 6 v1.Ice.length, .i v1.Slow, .i v1.Brash, .i v1.Ridge, .i v1.Press]) (ltN rfl) sh_25 rfl rfl ⟨rfl, rfl, rfl, rfl, rfl, rfl, rfl, rfl, rfl, rfl, rfl, trivial⟩),
      ok_plain rfl rfl (op_loadN (ys := [.i v2.Conc.Lo, .i v2.Conc.Hi, .i v2.Thick.Lo, .i v2.Thick.Hi, .i v2.Ridge.Lo, .i v2.Ridge.Hi, .i v2.Press.Lo, .i v2.Press.Hi]) (ltN rfl) sh_34 rfl rfl ⟨rfl, rfl, rfl, rfl, rfl, rfl, rfl, rfl, trivial⟩),
      ok_plain rfl rfl (op_move (ltN rfl) rfl),
      ok_plain rfl rfl (op_call (x := .t [.g [.i (((free v1 v2 x1.1).1).Lo), .i (((free v1 v2 x1.1).1).Hi)], .i ((free v1 v2 x1.1).2)]) (fs := []) (caps := []) (extra := (kapp [.r 1] (kapp [.r 3] (kapp [.r 5] (kapp [.r 300] []))))) (ltN rfl) en_35 rfl ⟨rfl, rfl, rfl⟩ (EvL.cons rfl (EvL.cons rfl (EvL.cons rfl EvL.nil))) (fun mm aa ww gg hr hrel => (c35 v1 ⟨ptr0 (mm 1) (mm 2), v1.Thrust.length, mm 2⟩ ⟨ptr0 (mm 3) (mm 4), v1.Water.length, mm 4⟩ ⟨ptr0 (mm 5) (mm 6), v1.Ice.length, mm 6⟩ v2 x1.1 ⟨ptr0 (mm 300) (mm 301), x1.1.length, mm 301⟩ ww (slAt_row (enc := encPt) (l := v1.Thrust) (fun _ => rfl) (by decide) hrel ((hr _ (List.mem_append_left _ (by simp))).trans rfl)) (slAt_row (enc := encPt) (l := v1.Water) (fun _ => rfl) (by decide) hrel ((hr _ (List.mem_append_right _ (List.mem_append_left _ (by simp)))).trans rfl)) (slAt_row (enc := encPt) (l := v1.Ice) (fun _ => rfl) (by decide) hrel ((hr _ (List.mem_append_right _ (List.mem_append_right _ (List.mem_append_left _ (by simp))))).trans rfl)) (slAt_row (enc := encSpan) (l := x1.1) (fun _ => rfl) (by decide) hrel ((hr _ (List.mem_append_right _ (List.mem_append_right _ (List.mem_append_right _ (List.mem_append_left _ (by simp)))))).trans rfl))))),
      ok_plain rfl rfl (op_move (ltN rfl) rfl),
      ok_plain rfl rfl (op_extract (ltN rfl) rfl rfl),
      ok_plain rfl rfl (op_extract (ltN rfl) rfl rfl),
      ok_plain rfl rfl (op_alloc (L := 25) (ltN rfl) zl_32),
      ok_plain rfl rfl (op_storeN sz_32 rfl rfl rfl rfl rfl (by decide)),
      ok_plain rfl rfl (op_assign (ltN rfl) rfl),
      trivial⟩ ?_
    refine fin_keep (s' := [kt 9 (.p 7 0), kt 10 (.p 8 0), kt 13 (.o 300 301 x1.1.length), kt 14 (.o 302 303 x1.2.length), kt 17 (.p 25 0), kt 18 (.i ((free v1 v2 x1.1).2)), kb 7 25 11, kb 8 34 8, kb 25 32 2, (.r 1, some (.vec true 2 84 2 (v1.Thrust.flatMap encPt))), (.r 3, some (.vec true 4 84 2 (v1.Water.flatMap encPt))), (.r 5, some (.vec true 6 84 2 (v1.Ice.flatMap encPt))), (.r 300, some (.vec true 301 32 2 (x1.1.flatMap encSpan))), (.r 302, some (.vec true 303 32 2 (x1.2.flatMap encSpan))), kc 7 0 (.i v1.Class), kc 7 1 (.i v1.Power), kc 7 2 (.i v1.Draught), kc 7 3 (.i v1.Tonnes), kc 7 4 (.o 1 2 v1.Thrust.length), kc 7 5 (.o 3 4 v1.Water.length), kc 7 6 (.o 5 6 v1.Ice.length), kc 7 7 (.i v1.Slow), kc 7 8 (.i v1.Brash), kc 7 9 (.i v1.Ridge), kc 7 10 (.i v1.Press), kc 8 0 (.i v2.Conc.Lo), kc 8 1 (.i v2.Conc.Hi), kc 8 2 (.i v2.Thick.Lo), kc 8 3 (.i v2.Thick.Hi), kc 8 4 (.i v2.Ridge.Lo), kc 8 5 (.i v2.Ridge.Hi), kc 8 6 (.i v2.Press.Lo), kc 8 7 (.i v2.Press.Hi), kc 25 0 (.i (((free v1 v2 x1.1).1).Lo)), kc 25 1 (.i (((free v1 v2 x1.1).1).Hi))]) ?_ (kp rfl) rfl
    refine fin_then ?_
    refine aw_seq ?_
    refine aw_text (rows := [_, _, _, _, _, _, _, _, _, _]) rfl (by kernel_rfl) ⟨
      ok_plain rfl rfl (op_loadN (ys := [.i v1.Class, .i v1.Power, .i v1.Draught, .i v1.Tonnes, .o 1 2 v1.Thrust.length, .o 3 4 v1.Water.length, .o 5 6 v1.Ice.length, .i v1.Slow, .i v1.Brash, .i v1.Ridge, .i v1.Press]) (ltN rfl) sh_25 rfl rfl ⟨rfl, rfl, rfl, rfl, rfl, rfl, rfl, rfl, rfl, rfl, rfl, trivial⟩),
      ok_plain rfl rfl (op_loadN (ys := [.i v2.Conc.Lo, .i v2.Conc.Hi, .i v2.Thick.Lo, .i v2.Thick.Hi, .i v2.Ridge.Lo, .i v2.Ridge.Hi, .i v2.Press.Lo, .i v2.Press.Hi]) (ltN rfl) sh_34 rfl rfl ⟨rfl, rfl, rfl, rfl, rfl, rfl, rfl, rfl, trivial⟩),
      ok_plain rfl rfl (op_move (ltN rfl) rfl),
      ok_plain rfl rfl (op_call (x := .t [.g [.i (((free v1 v2 x1.2).1).Lo), .i (((free v1 v2 x1.2).1).Hi)], .i ((free v1 v2 x1.2).2)]) (fs := []) (caps := []) (extra := (kapp [.r 1] (kapp [.r 3] (kapp [.r 5] (kapp [.r 302] []))))) (ltN rfl) en_35 rfl ⟨rfl, rfl, rfl⟩ (EvL.cons rfl (EvL.cons rfl (EvL.cons rfl EvL.nil))) (fun mm aa ww gg hr hrel => (c35 v1 ⟨ptr0 (mm 1) (mm 2), v1.Thrust.length, mm 2⟩ ⟨ptr0 (mm 3) (mm 4), v1.Water.length, mm 4⟩ ⟨ptr0 (mm 5) (mm 6), v1.Ice.length, mm 6⟩ v2 x1.2 ⟨ptr0 (mm 302) (mm 303), x1.2.length, mm 303⟩ ww (slAt_row (enc := encPt) (l := v1.Thrust) (fun _ => rfl) (by decide) hrel ((hr _ (List.mem_append_left _ (by simp))).trans rfl)) (slAt_row (enc := encPt) (l := v1.Water) (fun _ => rfl) (by decide) hrel ((hr _ (List.mem_append_right _ (List.mem_append_left _ (by simp)))).trans rfl)) (slAt_row (enc := encPt) (l := v1.Ice) (fun _ => rfl) (by decide) hrel ((hr _ (List.mem_append_right _ (List.mem_append_right _ (List.mem_append_left _ (by simp))))).trans rfl)) (slAt_row (enc := encSpan) (l := x1.2) (fun _ => rfl) (by decide) hrel ((hr _ (List.mem_append_right _ (List.mem_append_right _ (List.mem_append_right _ (List.mem_append_left _ (by simp)))))).trans rfl))))),
      ok_plain rfl rfl (op_move (ltN rfl) rfl),
      ok_plain rfl rfl (op_extract (ltN rfl) rfl rfl),
      ok_plain rfl rfl (op_extract (ltN rfl) rfl rfl),
      ok_plain rfl rfl (op_alloc (L := 26) (ltN rfl) zl_32),
      ok_plain rfl rfl (op_storeN sz_32 rfl rfl rfl rfl rfl (by decide)),
      ok_plain rfl rfl (op_assign (ltN rfl) rfl),
      trivial⟩ ?_
    refine fin_keep (s' := [kt 9 (.p 7 0), kt 10 (.p 8 0), kt 13 (.o 300 301 x1.1.length), kt 17 (.p 25 0), kt 18 (.i ((free v1 v2 x1.1).2)), kt 19 (.p 26 0), kt 20 (.i ((free v1 v2 x1.2).2)), kb 7 25 11, kb 8 34 8, kb 25 32 2, kb 26 32 2, (.r 1, some (.vec true 2 84 2 (v1.Thrust.flatMap encPt))), (.r 3, some (.vec true 4 84 2 (v1.Water.flatMap encPt))), (.r 5, some (.vec true 6 84 2 (v1.Ice.flatMap encPt))), (.r 300, some (.vec true 301 32 2 (x1.1.flatMap encSpan))), kc 7 0 (.i v1.Class), kc 7 1 (.i v1.Power), kc 7 2 (.i v1.Draught), kc 7 3 (.i v1.Tonnes), kc 7 4 (.o 1 2 v1.Thrust.length), kc 7 5 (.o 3 4 v1.Water.length), kc 7 6 (.o 5 6 v1.Ice.length), kc 7 7 (.i v1.Slow), kc 7 8 (.i v1.Brash), kc 7 9 (.i v1.Ridge), kc 7 10 (.i v1.Press), kc 8 0 (.i v2.Conc.Lo), kc 8 1 (.i v2.Conc.Hi), kc 8 2 (.i v2.Thick.Lo), kc 8 3 (.i v2.Thick.Hi), kc 8 4 (.i v2.Ridge.Lo), kc 8 5 (.i v2.Ridge.Hi), kc 8 6 (.i v2.Press.Lo), kc 8 7 (.i v2.Press.Hi), kc 25 0 (.i (((free v1 v2 x1.1).1).Lo)), kc 25 1 (.i (((free v1 v2 x1.1).1).Hi)), kc 26 0 (.i (((free v1 v2 x1.2).1).Lo)), kc 26 1 (.i (((free v1 v2 x1.2).1).Hi))]) ?_ (kp rfl) rfl
    refine fin_then ?_
    refine aw_seq ?_
    refine aw_seq ?_
    refine aw_text (rows := [_, _, _, _, _, _, _, _, _, _, _, _, _, _, _, _, _, _, _, _, _, _, _, _, _, _, _, _, _, _, _, _, _, _, _, _, _, _, _, _, _, _, _, _, _, _, _]) rfl (by kernel_rfl) ⟨
      ok_plain rfl rfl (op_move (ltN rfl) rfl),
      ok_plain rfl rfl (op_bin (ltN rfl) rfl rfl rfl),
      ok_plain rfl rfl (op_move (ltN rfl) rfl),
      ok_if (ltN rfl) rfl rfl rfl rfl rfl rfl (fun hg8 => op_move (ltN rfl) (force_x rfl)),
      ok_if (ltN rfl) rfl rfl rfl rfl rfl rfl (fun hg9 => op_bin (ltN rfl) (force_eq (beq_iff_eq.2 hg9) rfl) rfl rfl),
      ok_plain rfl rfl (op_and (ltN rfl) rfl rfl),
      ok_plain rfl rfl (op_move (ltN rfl) rfl),
      ok_if (ltN rfl) rfl rfl rfl rfl rfl rfl (fun hg10 => op_move (ltN rfl) (force_x rfl)),
      ok_if (ltN rfl) rfl rfl rfl rfl rfl rfl (fun hg11 => op_bin (ltN rfl) (force_eq (beq_iff_eq.2 hg11) rfl) rfl rfl),
      ok_if (ltN rfl) rfl rfl rfl rfl rfl rfl (fun hg12 => op_move (ltN rfl) (force_eq (beq_iff_eq.2 hg12) rfl)),
      ok_ifC (ltN rfl) rfl rfl rfl rfl rfl rfl (fun hg13 => op_move (ltN rfl) (force_x rfl)),
      ok_ifC (ltN rfl) rfl rfl rfl rfl rfl rfl (fun hg14 => op_bin (ltN rfl) (force_eq hg14 rfl) rfl rfl),
      ok_ifC (ltN rfl) rfl rfl rfl rfl rfl rfl (fun hg15 => op_move (ltN rfl) (force_eq hg15 rfl)),
      ok_ifC (ltN rfl) rfl rfl rfl rfl rfl rfl (fun hg16 => op_fieldAddr (ltN rfl) (force_x rfl) fo_32_0),
      ok_ifC (ltN rfl) rfl rfl rfl rfl rfl rfl (fun hg17 => op_load1 (ltN rfl) sh_3 (force_eq hg17 rfl) rfl),
      ok_ifC (ltN rfl) rfl rfl rfl rfl rfl rfl (fun hg18 => op_fieldAddr (ltN rfl) (force_x rfl) fo_32_0),
      ok_ifC (ltN rfl) rfl rfl rfl rfl rfl rfl (fun hg19 => op_load1 (ltN rfl) sh_3 (force_eq hg19 rfl) rfl),
      ok_ifC (ltN rfl) rfl rfl rfl rfl rfl rfl (fun hg20 => op_bin (ltN rfl) (force_eq hg20 rfl) (force_eq hg20 rfl) rfl),
      ok_ifC (ltN rfl) rfl rfl rfl rfl rfl rfl (fun hg21 => op_orF (ltN rfl) hg21 rfl rfl),
      ok_ifC (ltN rfl) rfl rfl rfl rfl rfl rfl (fun hg22 => op_move (ltN rfl) (force_eq hg22 rfl)),
      ok_ifC (ltN rfl) rfl rfl rfl rfl rfl rfl (fun hg23 => op_fieldAddr (ltN rfl) (force_x rfl) fo_32_1),
      ok_ifC (ltN rfl) rfl rfl rfl rfl rfl rfl (fun hg24 => op_load1 (ltN rfl) sh_3 (force_eq hg24 rfl) rfl),
      ok_ifC (ltN rfl) rfl rfl rfl rfl rfl rfl (fun hg25 => op_fieldAddr (ltN rfl) (force_x rfl) fo_32_1),
      ok_ifC (ltN rfl) rfl rfl rfl rfl rfl rfl (fun hg26 => op_load1 (ltN rfl) sh_3 (force_eq hg26 rfl) rfl),
      ok_ifC (ltN rfl) rfl rfl rfl rfl rfl rfl (fun hg27 => op_bin (ltN rfl) (force_eq hg27 rfl) (force_eq hg27 rfl) rfl),
      ok_ifC (ltN rfl) rfl rfl rfl rfl rfl rfl (fun hg28 => op_orF (ltN rfl) hg28 rfl rfl),
      ok_ifC (ltN rfl) rfl rfl rfl rfl rfl rfl (fun hg29 => op_move (ltN rfl) (force_eq hg29 rfl)),
      ok_ifC (ltN rfl) rfl rfl rfl rfl rfl rfl (fun hg30 => op_fieldAddr (ltN rfl) (force_x rfl) fo_32_1),
      ok_ifC (ltN rfl) rfl rfl rfl rfl rfl rfl (fun hg31 => op_load1 (ltN rfl) sh_3 (force_eq hg31 rfl) rfl),
      ok_ifC (ltN rfl) rfl rfl rfl rfl rfl rfl (fun hg32 => op_move (ltN rfl) (force_x rfl)),
      ok_ifC (ltN rfl) rfl rfl rfl rfl rfl rfl (fun hg33 => op_lenO (n := x1.1.length) (ltN rfl) (by rw [ss_56]; rfl) (force_eq hg33 rfl)),
      ok_ifC (ltN rfl) rfl rfl rfl rfl rfl rfl (fun hg34 => op_bin (ltN rfl) (force_eq hg34 rfl) (force_eq hg34 rfl) rfl),
      ok_ifC (ltN rfl) rfl rfl rfl rfl rfl rfl (fun hg35 => op_orF (ltN rfl) hg35 rfl rfl),
      ok_ifC (ltN rfl) rfl rfl rfl rfl rfl rfl (fun hg36 => op_move (ltN rfl) (force_eq hg36 rfl)),
      ok_ifC (ltN rfl) rfl rfl rfl rfl rfl rfl (fun hg37 => op_fieldAddr (ltN rfl) (force_x rfl) fo_32_0),
      ok_ifC (ltN rfl) rfl rfl rfl rfl rfl rfl (fun hg38 => op_load1 (ltN rfl) sh_3 (force_eq hg38 rfl) rfl),
      ok_ifC (ltN rfl) rfl rfl rfl rfl rfl rfl (fun hg39 => op_bin (ltN rfl) (force_eq hg39 rfl) rfl rfl),
      ok_ifC (ltN rfl) rfl rfl rfl rfl rfl rfl (fun hg40 => op_orF (ltN rfl) hg40 rfl rfl),
      ok_ifC (ltN rfl) rfl rfl rfl rfl rfl rfl (fun hg41 => op_move (ltN rfl) (force_eq hg41 rfl)),
      ok_ifC (ltN rfl) rfl rfl rfl rfl rfl rfl (fun hg42 => op_fieldAddr (ltN rfl) (force_x rfl) fo_32_0),
      ok_ifC (ltN rfl) rfl rfl rfl rfl rfl rfl (fun hg43 => op_load1 (ltN rfl) sh_3 (force_eq hg43 rfl) rfl),
      ok_ifC (ltN rfl) rfl rfl rfl rfl rfl rfl (fun hg44 => op_fieldAddr (ltN rfl) (force_x rfl) fo_32_1),
      ok_ifC (ltN rfl) rfl rfl rfl rfl rfl rfl (fun hg45 => op_load1 (ltN rfl) sh_3 (force_eq hg45 rfl) rfl),
      ok_ifC (ltN rfl) rfl rfl rfl rfl rfl rfl (fun hg46 => op_bin (ltN rfl) (force_eq hg46 rfl) (force_eq hg46 rfl) rfl),
      ok_ifC (ltN rfl) rfl rfl rfl rfl rfl rfl (fun hg47 => op_orF (ltN rfl) hg47 rfl rfl),
      ok_if (ltN rfl) rfl rfl rfl rfl rfl rfl (fun hg48 => op_andF (ltN rfl) (beq_iff_eq.2 hg48) rfl rfl),
      ok_plain rfl rfl (op_or (ltN rfl) rfl rfl),
      trivial⟩ ?_
    refine fin_keep (s' := [kt 9 (.p 7 0), kt 10 (.p 8 0), kt 13 (.o 300 301 x1.1.length), kt 17 (.p 25 0), kt 18 (.i ((free v1 v2 x1.1).2)), kt 133 (.B (((((free v1 v2 x1.1).2) != 0) && (((free v1 v2 x1.1).2) != 4)) || ((((free v1 v2 x1.1).2) == 0) && ((((((((free v1 v2 x1.2).2) != 0) || (decide ((((free v1 v2 x1.2).1).Lo) > (((free v1 v2 x1.1).1).Lo)))) || (decide ((((free v1 v2 x1.2).1).Hi) > (((free v1 v2 x1.1).1).Hi)))) || (decide ((((free v1 v2 x1.1).1).Hi) ≥ (((x1.1.length : Nat) : Int))))) || (decide ((((free v1 v2 x1.1).1).Lo) < 0))) || (decide ((((free v1 v2 x1.1).1).Lo) > (((free v1 v2 x1.1).1).Hi))))))), kb 7 25 11, kb 8 34 8, kb 25 32 2, (.r 1, some (.vec true 2 84 2 (v1.Thrust.flatMap encPt))), (.r 3, some (.vec true 4 84 2 (v1.Water.flatMap encPt))), (.r 5, some (.vec true 6 84 2 (v1.Ice.flatMap encPt))), (.r 300, some (.vec true 301 32 2 (x1.1.flatMap encSpan))), kc 7 0 (.i v1.Class), kc 7 1 (.i v1.Power), kc 7 2 (.i v1.Draught), kc 7 3 (.i v1.Tonnes), kc 7 4 (.o 1 2 v1.Thrust.length), kc 7 5 (.o 3 4 v1.Water.length), kc 7 6 (.o 5 6 v1.Ice.length), kc 7 7 (.i v1.Slow), kc 7 8 (.i v1.Brash), kc 7 9 (.i v1.Ridge), kc 7 10 (.i v1.Press), kc 8 0 (.i v2.Conc.Lo), kc 8 1 (.i v2.Conc.Hi), kc 8 2 (.i v2.Thick.Lo), kc 8 3 (.i v2.Thick.Hi), kc 8 4 (.i v2.Ridge.Lo), kc 8 5 (.i v2.Ridge.Hi), kc 8 6 (.i v2.Press.Lo), kc 8 7 (.i v2.Press.Hi), kc 25 0 (.i (((free v1 v2 x1.1).1).Lo)), kc 25 1 (.i (((free v1 v2 x1.1).1).Hi))]) ?_ (kp rfl) rfl
    refine fin_then ?_
    refine aw_cond rfl (fun hz49 => ?_) (fun hz49 => ?_)
    · have hm := brk_t hz49 hm
      refine aw_seq ?_
      refine aw_text (rows := [_]) rfl (by kernel_rfl) ⟨
        ok_plain rfl rfl (op_assign (ltN rfl) rfl),
        trivial⟩ ?_
      refine fin_keep (s' := [kt 8 (.B false)]) ?_ (kp rfl) rfl
      refine fin_then ?_
      refine aw_ret ?_
      refine fin_then_ret ?_
      refine post_ret (x := .B false) rfl rfl (resOK_tmp rfl resOK_nil) rfl (fun mm aa ww hr => ?_)
      have hm := Option.some.inj hm
      subst hm
      exact ⟨rfl, hr.below⟩
    · have hm := brk_f hz49 hm
      refine aw_skip ?_
      refine fin_then ?_
      refine aw_cutM (ι := Unit) hm (fun x3 => []) (fun hm => ?_) (fun x3 hm => ?_)
      · have _z := hm
        refine aw_seq ?_
        refine aw_text (rows := [_, _, _]) rfl (by kernel_rfl) ⟨
          ok_plain rfl rfl (op_move (ltN rfl) rfl),
          ok_plain rfl rfl (op_lenO (n := x1.1.length) (ltN rfl) (by rw [ss_56]; rfl) rfl),
          ok_plain rfl rfl (op_move (ltN rfl) rfl),
          trivial⟩ ?_
        refine fin_keep (s' := [kt 9 (.p 7 0), kt 10 (.p 8 0), kt 17 (.p 25 0), kt 18 (.i ((free v1 v2 x1.1).2)), kt 134 (.o 300 301 x1.1.length), kt 135 (.i (((x1.1.length : Nat) : Int))), kt 136 (.i 0), kb 7 25 11, kb 8 34 8, kb 25 32 2, (.r 1, some (.vec true 2 84 2 (v1.Thrust.flatMap encPt))), (.r 3, some (.vec true 4 84 2 (v1.Water.flatMap encPt))), (.r 5, some (.vec true 6 84 2 (v1.Ice.flatMap encPt))), (.r 300, some (.vec true 301 32 2 (x1.1.flatMap encSpan))), kc 7 0 (.i v1.Class), kc 7 1 (.i v1.Power), kc 7 2 (.i v1.Draught), kc 7 3 (.i v1.Tonnes), kc 7 4 (.o 1 2 v1.Thrust.length), kc 7 5 (.o 3 4 v1.Water.length), kc 7 6 (.o 5 6 v1.Ice.length), kc 7 7 (.i v1.Slow), kc 7 8 (.i v1.Brash), kc 7 9 (.i v1.Ridge), kc 7 10 (.i v1.Press), kc 8 0 (.i v2.Conc.Lo), kc 8 1 (.i v2.Conc.Hi), kc 8 2 (.i v2.Thick.Lo), kc 8 3 (.i v2.Thick.Hi), kc 8 4 (.i v2.Ridge.Lo), kc 8 5 (.i v2.Ridge.Hi), kc 8 6 (.i v2.Press.Lo), kc 8 7 (.i v2.Press.Hi), kc 25 0 (.i (((free v1 v2 x1.1).1).Lo)), kc 25 1 (.i (((free v1 v2 x1.1).1).Hi))]) ?_ (kp rfl) rfl
        refine fin_then ?_
        refine aw_block ?_
        refine aw_loopC hm (fun x4 => [kt 9 (.p 7 0), kt 10 (.p 8 0), kt 17 (.p 25 0), kt 18 (.i ((free v1 v2 x1.1).2)), kt 134 (.o 300 301 x1.1.length), kt 135 (.i (((x1.1.length : Nat) : Int))), kt 136 (.i x4.1), kb 7 25 11, kb 8 34 8, kb 25 32 2, (.r 1, some (.vec true 2 84 2 (v1.Thrust.flatMap encPt))), (.r 3, some (.vec true 4 84 2 (v1.Water.flatMap encPt))), (.r 5, some (.vec true 6 84 2 (v1.Ice.flatMap encPt))), (.r 300, some (.vec true 301 32 2 (x1.1.flatMap encSpan))), kc 7 0 (.i v1.Class), kc 7 1 (.i v1.Power), kc 7 2 (.i v1.Draught), kc 7 3 (.i v1.Tonnes), kc 7 4 (.o 1 2 v1.Thrust.length), kc 7 5 (.o 3 4 v1.Water.length), kc 7 6 (.o 5 6 v1.Ice.length), kc 7 7 (.i v1.Slow), kc 7 8 (.i v1.Brash), kc 7 9 (.i v1.Ridge), kc 7 10 (.i v1.Press), kc 8 0 (.i v2.Conc.Lo), kc 8 1 (.i v2.Conc.Hi), kc 8 2 (.i v2.Thick.Lo), kc 8 3 (.i v2.Thick.Hi), kc 8 4 (.i v2.Ridge.Lo), kc 8 5 (.i v2.Ridge.Hi), kc 8 6 (.i x4.2.1), kc 8 7 (.i x4.2.2), kc 25 0 (.i (((free v1 v2 x1.1).1).Lo)), kc 25 1 (.i (((free v1 v2 x1.1).1).Hi))]) ⟨rfl, rfl, rfl, rfl, rfl, rfl, rfl, rfl, rfl, rfl, rfl, rfl, rfl, rfl, rfl, rfl, rfl, rfl, rfl, rfl, rfl, rfl, rfl, rfl, rfl, rfl, rfl, rfl, rfl, rfl, rfl, rfl, rfl, rfl, rfl, trivial⟩ rfl (fun x4 n4 hm => ?_)
        refine aw_seq ?_
        refine aw_text (rows := [_]) rfl (by kernel_rfl) ⟨
          ok_plain rfl rfl (op_bin (ltN rfl) rfl rfl rfl),
          trivial⟩ ?_
        refine fin_keep (s' := [kt 9 (.p 7 0), kt 10 (.p 8 0), kt 17 (.p 25 0), kt 18 (.i ((free v1 v2 x1.1).2)), kt 134 (.o 300 301 x1.1.length), kt 135 (.i (((x1.1.length : Nat) : Int))), kt 136 (.i x4.1), kt 137 (.B (decide (x4.1 < (((x1.1.length : Nat) : Int))))), kb 7 25 11, kb 8 34 8, kb 25 32 2, (.r 1, some (.vec true 2 84 2 (v1.Thrust.flatMap encPt))), (.r 3, some (.vec true 4 84 2 (v1.Water.flatMap encPt))), (.r 5, some (.vec true 6 84 2 (v1.Ice.flatMap encPt))), (.r 300, some (.vec true 301 32 2 (x1.1.flatMap encSpan))), kc 7 0 (.i v1.Class), kc 7 1 (.i v1.Power), kc 7 2 (.i v1.Draught), kc 7 3 (.i v1.Tonnes), kc 7 4 (.o 1 2 v1.Thrust.length), kc 7 5 (.o 3 4 v1.Water.length), kc 7 6 (.o 5 6 v1.Ice.length), kc 7 7 (.i v1.Slow), kc 7 8 (.i v1.Brash), kc 7 9 (.i v1.Ridge), kc 7 10 (.i v1.Press), kc 8 0 (.i v2.Conc.Lo), kc 8 1 (.i v2.Conc.Hi), kc 8 2 (.i v2.Thick.Lo), kc 8 3 (.i v2.Thick.Hi), kc 8 4 (.i v2.Ridge.Lo), kc 8 5 (.i v2.Ridge.Hi), kc 8 6 (.i x4.2.1), kc 8 7 (.i x4.2.2), kc 25 0 (.i (((free v1 v2 x1.1).1).Lo)), kc 25 1 (.i (((free v1 v2 x1.1).1).Hi))]) ?_ (kp rfl) rfl
        refine fin_then ?_
        refine aw_seq ?_
        refine aw_cond rfl (fun hz50 => ?_) (fun hz50 => ?_)
        · have hm := brk_t hz50 hm
          refine aw_skip ?_
          refine fin_then ?_
          refine aw_cutM (ι := Int × Int) hm (fun x5 => [kt 9 (.p 7 0), kt 10 (.p 8 0), kt 17 (.p 25 0), kt 18 (.i ((free v1 v2 x1.1).2)), kt 134 (.o 300 301 x1.1.length), kt 135 (.i (((x1.1.length : Nat) : Int))), kt 136 (.i x4.1), kb 7 25 11, kb 8 34 8, kb 25 32 2, (.r 1, some (.vec true 2 84 2 (v1.Thrust.flatMap encPt))), (.r 3, some (.vec true 4 84 2 (v1.Water.flatMap encPt))), (.r 5, some (.vec true 6 84 2 (v1.Ice.flatMap encPt))), (.r 300, some (.vec true 301 32 2 (x1.1.flatMap encSpan))), kc 7 0 (.i v1.Class), kc 7 1 (.i v1.Power), kc 7 2 (.i v1.Draught), kc 7 3 (.i v1.Tonnes), kc 7 4 (.o 1 2 v1.Thrust.length), kc 7 5 (.o 3 4 v1.Water.length), kc 7 6 (.o 5 6 v1.Ice.length), kc 7 7 (.i v1.Slow), kc 7 8 (.i v1.Brash), kc 7 9 (.i v1.Ridge), kc 7 10 (.i v1.Press), kc 8 0 (.i v2.Conc.Lo), kc 8 1 (.i v2.Conc.Hi), kc 8 2 (.i v2.Thick.Lo), kc 8 3 (.i v2.Thick.Hi), kc 8 4 (.i v2.Ridge.Lo), kc 8 5 (.i v2.Ridge.Hi), kc 8 6 (.i x5.1), kc 8 7 (.i x5.2), kc 25 0 (.i (((free v1 v2 x1.1).1).Lo)), kc 25 1 (.i (((free v1 v2 x1.1).1).Hi))]) (fun hm => ?_) (fun x5 hm => ?_)
          · have _z := hm
            refine aw_block ?_
            refine aw_seq ?_
            obtain ⟨hp51, hm⟩ := chk_some hm
            refine aw_text (rows := [_, _, _, _, _, _]) rfl (by kernel_rfl) ⟨
              ok_plain rfl rfl (op_move (ltN rfl) rfl),
              ok_plain rfl rfl (op_ixO (ltN rfl) rfl rfl ss_56 rfl (flat_ne (enc := encSpan) (k := 2) (fun _ => rfl) (by decide) (i := x4.1) hp51.1 hp51.2) hp51.1 hp51.2),
              ok_plain rfl rfl (op_loadON (vs := [(.int .i64 (((sp x1.1 x4.1)).Lo)), (.int .i64 (((sp x1.1 x4.1)).Hi))]) (ltN rfl) sh_32 rfl rfl rfl (fun zq zv zh => flat_sub (k := 2) (l := x1.1) (enc := encSpan) (fun _ => rfl) ⟨0, 0⟩ (i := x4.1) hp51.1 hp51.2 0 (vs := [(.int .i64 (((sp x1.1 x4.1)).Lo)), (.int .i64 (((sp x1.1 x4.1)).Hi))]) rfl zh)),
              ok_plain rfl rfl (op_alloc (L := 27) (ltN rfl) zl_32),
              ok_plain rfl rfl (op_assign (ltN rfl) rfl),
              ok_plain rfl rfl (op_storeN sz_32 rfl rfl rfl rfl rfl (by decide)),
              trivial⟩ ?_
            refine fin_keep (s' := [kt 9 (.p 7 0), kt 10 (.p 8 0), kt 17 (.p 25 0), kt 18 (.i ((free v1 v2 x1.1).2)), kt 21 (.i x4.1), kt 22 (.p 27 0), kt 134 (.o 300 301 x1.1.length), kt 135 (.i (((x1.1.length : Nat) : Int))), kt 136 (.i x4.1), kb 7 25 11, kb 8 34 8, kb 25 32 2, kb 27 32 2, (.r 1, some (.vec true 2 84 2 (v1.Thrust.flatMap encPt))), (.r 3, some (.vec true 4 84 2 (v1.Water.flatMap encPt))), (.r 5, some (.vec true 6 84 2 (v1.Ice.flatMap encPt))), (.r 300, some (.vec true 301 32 2 (x1.1.flatMap encSpan))), kc 7 0 (.i v1.Class), kc 7 1 (.i v1.Power), kc 7 2 (.i v1.Draught), kc 7 3 (.i v1.Tonnes), kc 7 4 (.o 1 2 v1.Thrust.length), kc 7 5 (.o 3 4 v1.Water.length), kc 7 6 (.o 5 6 v1.Ice.length), kc 7 7 (.i v1.Slow), kc 7 8 (.i v1.Brash), kc 7 9 (.i v1.Ridge), kc 7 10 (.i v1.Press), kc 8 0 (.i v2.Conc.Lo), kc 8 1 (.i v2.Conc.Hi), kc 8 2 (.i v2.Thick.Lo), kc 8 3 (.i v2.Thick.Hi), kc 8 4 (.i v2.Ridge.Lo), kc 8 5 (.i v2.Ridge.Hi), kc 8 6 (.i x4.2.1), kc 8 7 (.i x4.2.2), kc 25 0 (.i (((free v1 v2 x1.1).1).Lo)), kc 25 1 (.i (((free v1 v2 x1.1).1).Hi)), kc 27 0 (.i (((sp x1.1 x4.1)).Lo)), kc 27 1 (.i (((sp x1.1 x4.1)).Hi))]) ?_ (kp rfl) rfl
            refine fin_then ?_
            refine aw_seq ?_
            refine aw_text (rows := [_, _, _]) rfl (by kernel_rfl) ⟨
              ok_plain rfl rfl (op_loadN (ys := [.i (((sp x1.1 x4.1)).Lo), .i (((sp x1.1 x4.1)).Hi)]) (ltN rfl) sh_32 rfl rfl ⟨rfl, rfl, trivial⟩),
              ok_plain rfl rfl (op_fieldAddr (ltN rfl) rfl fo_34_3),
              ok_plain rfl rfl (op_storeN sz_32 rfl rfl rfl rfl rfl (by decide)),
              trivial⟩ ?_
            refine fin_keep (s' := [kt 9 (.p 7 0), kt 10 (.p 8 0), kt 17 (.p 25 0), kt 18 (.i ((free v1 v2 x1.1).2)), kt 21 (.i x4.1), kt 134 (.o 300 301 x1.1.length), kt 135 (.i (((x1.1.length : Nat) : Int))), kt 136 (.i x4.1), kb 7 25 11, kb 8 34 8, kb 25 32 2, (.r 1, some (.vec true 2 84 2 (v1.Thrust.flatMap encPt))), (.r 3, some (.vec true 4 84 2 (v1.Water.flatMap encPt))), (.r 5, some (.vec true 6 84 2 (v1.Ice.flatMap encPt))), (.r 300, some (.vec true 301 32 2 (x1.1.flatMap encSpan))), kc 7 0 (.i v1.Class), kc 7 1 (.i v1.Power), kc 7 2 (.i v1.Draught), kc 7 3 (.i v1.Tonnes), kc 7 4 (.o 1 2 v1.Thrust.length), kc 7 5 (.o 3 4 v1.Water.length), kc 7 6 (.o 5 6 v1.Ice.length), kc 7 7 (.i v1.Slow), kc 7 8 (.i v1.Brash), kc 7 9 (.i v1.Ridge), kc 7 10 (.i v1.Press), kc 8 0 (.i v2.Conc.Lo), kc 8 1 (.i v2.Conc.Hi), kc 8 2 (.i v2.Thick.Lo), kc 8 3 (.i v2.Thick.Hi), kc 8 4 (.i v2.Ridge.Lo), kc 8 5 (.i v2.Ridge.Hi), kc 8 6 (.i (((sp x1.1 x4.1)).Lo)), kc 8 7 (.i (((sp x1.1 x4.1)).Hi)), kc 25 0 (.i (((free v1 v2 x1.1).1).Lo)), kc 25 1 (.i (((free v1 v2 x1.1).1).Hi))]) ?_ (kp rfl) rfl
            refine fin_then ?_
            refine aw_seq ?_
            obtain ⟨v3, hv3, hm⟩ := bnd_some hm
            refine aw_text (rows := [_, _, _, _, _, _, _, _, _, _]) rfl (by kernel_rfl) ⟨
              ok_plain rfl rfl (op_loadN (ys := [.i v1.Class, .i v1.Power, .i v1.Draught, .i v1.Tonnes, .o 1 2 v1.Thrust.length, .o 3 4 v1.Water.length, .o 5 6 v1.Ice.length, .i v1.Slow, .i v1.Brash, .i v1.Ridge, .i v1.Press]) (ltN rfl) sh_25 rfl rfl ⟨rfl, rfl, rfl, rfl, rfl, rfl, rfl, rfl, rfl, rfl, rfl, trivial⟩),
              ok_plain rfl rfl (op_loadN (ys := [.i v2.Conc.Lo, .i v2.Conc.Hi, .i v2.Thick.Lo, .i v2.Thick.Hi, .i v2.Ridge.Lo, .i v2.Ridge.Hi, .i (((sp x1.1 x4.1)).Lo), .i (((sp x1.1 x4.1)).Hi)]) (ltN rfl) sh_34 rfl rfl ⟨rfl, rfl, rfl, rfl, rfl, rfl, rfl, rfl, trivial⟩),
              ok_plain rfl rfl (op_call (x := .t [.B v3.1, .B v3.2.1, .i v3.2.2]) (fs := []) (caps := []) (extra := (kapp [.r 1] (kapp [.r 3] (kapp [.r 5] [])))) (ltN rfl) en_52 rfl ⟨rfl, rfl, rfl⟩ (EvL.cons rfl (EvL.cons rfl (EvL.cons rfl EvL.nil))) (fun mm aa ww gg hr hrel => (c52 F v1 ⟨ptr0 (mm 1) (mm 2), v1.Thrust.length, mm 2⟩ ⟨ptr0 (mm 3) (mm 4), v1.Water.length, mm 4⟩ ⟨ptr0 (mm 5) (mm 6), v1.Ice.length, mm 6⟩ ((⟨v2.Conc, v2.Thick, v2.Ridge, (sp x1.1 x4.1)⟩ : Cell)) false ww (slAt_row (enc := encPt) (l := v1.Thrust) (fun _ => rfl) (by decide) hrel ((hr _ (List.mem_append_left _ (by simp))).trans rfl)) (slAt_row (enc := encPt) (l := v1.Water) (fun _ => rfl) (by decide) hrel ((hr _ (List.mem_append_right _ (List.mem_append_left _ (by simp)))).trans rfl)) (slAt_row (enc := encPt) (l := v1.Ice) (fun _ => rfl) (by decide) hrel ((hr _ (List.mem_append_right _ (List.mem_append_right _ (List.mem_append_left _ (by simp))))).trans rfl)) (BoxAt.mono hG hrel.below) v3 hv3))),
              ok_plain rfl rfl (op_move (ltN rfl) rfl),
              ok_plain rfl rfl (op_extract (ltN rfl) rfl rfl),
              ok_plain rfl rfl (op_extract (ltN rfl) rfl rfl),
              ok_plain rfl rfl (op_extract (ltN rfl) rfl rfl),
              ok_plain rfl rfl (op_assign (ltN rfl) rfl),
              ok_plain rfl rfl (op_assign (ltN rfl) rfl),
              ok_plain rfl rfl (op_assign (ltN rfl) rfl),
              trivial⟩ ?_
            refine fin_keep (s' := [kt 9 (.p 7 0), kt 10 (.p 8 0), kt 17 (.p 25 0), kt 18 (.i ((free v1 v2 x1.1).2)), kt 21 (.i x4.1), kt 23 (.B v3.1), kt 24 (.B v3.2.1), kt 25 (.i v3.2.2), kt 134 (.o 300 301 x1.1.length), kt 135 (.i (((x1.1.length : Nat) : Int))), kt 136 (.i x4.1), kb 7 25 11, kb 8 34 8, kb 25 32 2, (.r 1, some (.vec true 2 84 2 (v1.Thrust.flatMap encPt))), (.r 3, some (.vec true 4 84 2 (v1.Water.flatMap encPt))), (.r 5, some (.vec true 6 84 2 (v1.Ice.flatMap encPt))), (.r 300, some (.vec true 301 32 2 (x1.1.flatMap encSpan))), kc 7 0 (.i v1.Class), kc 7 1 (.i v1.Power), kc 7 2 (.i v1.Draught), kc 7 3 (.i v1.Tonnes), kc 7 4 (.o 1 2 v1.Thrust.length), kc 7 5 (.o 3 4 v1.Water.length), kc 7 6 (.o 5 6 v1.Ice.length), kc 7 7 (.i v1.Slow), kc 7 8 (.i v1.Brash), kc 7 9 (.i v1.Ridge), kc 7 10 (.i v1.Press), kc 8 0 (.i v2.Conc.Lo), kc 8 1 (.i v2.Conc.Hi), kc 8 2 (.i v2.Thick.Lo), kc 8 3 (.i v2.Thick.Hi), kc 8 4 (.i v2.Ridge.Lo), kc 8 5 (.i v2.Ridge.Hi), kc 8 6 (.i (((sp x1.1 x4.1)).Lo)), kc 8 7 (.i (((sp x1.1 x4.1)).Hi)), kc 25 0 (.i (((free v1 v2 x1.1).1).Lo)), kc 25 1 (.i (((free v1 v2 x1.1).1).Hi))]) ?_ (kp rfl) rfl
            refine fin_then ?_
            refine aw_seq ?_
            refine aw_seq ?_
            refine aw_text (rows := [_, _]) rfl (by kernel_rfl) ⟨
              ok_plain rfl rfl (op_move (ltN rfl) rfl),
              ok_plain rfl rfl (op_bin (ltN rfl) rfl rfl rfl),
              trivial⟩ ?_
            refine fin_keep (s' := [kt 9 (.p 7 0), kt 10 (.p 8 0), kt 17 (.p 25 0), kt 18 (.i ((free v1 v2 x1.1).2)), kt 21 (.i x4.1), kt 23 (.B v3.1), kt 24 (.B v3.2.1), kt 134 (.o 300 301 x1.1.length), kt 135 (.i (((x1.1.length : Nat) : Int))), kt 136 (.i x4.1), kt 151 (.B (v3.2.2 != 0)), kb 7 25 11, kb 8 34 8, kb 25 32 2, (.r 1, some (.vec true 2 84 2 (v1.Thrust.flatMap encPt))), (.r 3, some (.vec true 4 84 2 (v1.Water.flatMap encPt))), (.r 5, some (.vec true 6 84 2 (v1.Ice.flatMap encPt))), (.r 300, some (.vec true 301 32 2 (x1.1.flatMap encSpan))), kc 7 0 (.i v1.Class), kc 7 1 (.i v1.Power), kc 7 2 (.i v1.Draught), kc 7 3 (.i v1.Tonnes), kc 7 4 (.o 1 2 v1.Thrust.length), kc 7 5 (.o 3 4 v1.Water.length), kc 7 6 (.o 5 6 v1.Ice.length), kc 7 7 (.i v1.Slow), kc 7 8 (.i v1.Brash), kc 7 9 (.i v1.Ridge), kc 7 10 (.i v1.Press), kc 8 0 (.i v2.Conc.Lo), kc 8 1 (.i v2.Conc.Hi), kc 8 2 (.i v2.Thick.Lo), kc 8 3 (.i v2.Thick.Hi), kc 8 4 (.i v2.Ridge.Lo), kc 8 5 (.i v2.Ridge.Hi), kc 8 6 (.i (((sp x1.1 x4.1)).Lo)), kc 8 7 (.i (((sp x1.1 x4.1)).Hi)), kc 25 0 (.i (((free v1 v2 x1.1).1).Lo)), kc 25 1 (.i (((free v1 v2 x1.1).1).Hi))]) ?_ (kp rfl) rfl
            refine fin_then ?_
            refine aw_cond rfl (fun hz52 => ?_) (fun hz52 => ?_)
            · have hm := brk_t hz52 hm
              refine aw_seq ?_
              refine aw_text (rows := [_]) rfl (by kernel_rfl) ⟨
                ok_plain rfl rfl (op_assign (ltN rfl) rfl),
                trivial⟩ ?_
              refine fin_keep (s' := [kt 8 (.B false)]) ?_ (kp rfl) rfl
              refine fin_then ?_
              refine aw_ret ?_
              refine fin_then_ret ?_
              refine fin_block_ret ?_
              refine fin_then_ret ?_
              refine fin_then_ret ?_
              refine fin_block_ret ?_
              refine fin_then_ret ?_
              refine post_ret (x := .B false) rfl rfl (resOK_tmp rfl resOK_nil) rfl (fun mm aa ww hr => ?_)
              have hm := Option.some.inj hm
              subst hm
              exact ⟨rfl, hr.below⟩
            · have hm := brk_f hz52 hm
              refine aw_skip ?_
              refine fin_then ?_
              refine aw_seq ?_
              refine aw_seq ?_
              refine aw_text (rows := [_, _]) rfl (by kernel_rfl) ⟨
                ok_plain rfl rfl (op_move (ltN rfl) rfl),
                ok_plain rfl rfl (op_bin (ltN rfl) rfl rfl rfl),
                trivial⟩ ?_
              refine fin_keep (s' := [kt 9 (.p 7 0), kt 10 (.p 8 0), kt 17 (.p 25 0), kt 18 (.i ((free v1 v2 x1.1).2)), kt 21 (.i x4.1), kt 23 (.B v3.1), kt 24 (.B v3.2.1), kt 134 (.o 300 301 x1.1.length), kt 135 (.i (((x1.1.length : Nat) : Int))), kt 136 (.i x4.1), kt 153 (.B (((free v1 v2 x1.1).2) != 0)), kb 7 25 11, kb 8 34 8, kb 25 32 2, (.r 1, some (.vec true 2 84 2 (v1.Thrust.flatMap encPt))), (.r 3, some (.vec true 4 84 2 (v1.Water.flatMap encPt))), (.r 5, some (.vec true 6 84 2 (v1.Ice.flatMap encPt))), (.r 300, some (.vec true 301 32 2 (x1.1.flatMap encSpan))), kc 7 0 (.i v1.Class), kc 7 1 (.i v1.Power), kc 7 2 (.i v1.Draught), kc 7 3 (.i v1.Tonnes), kc 7 4 (.o 1 2 v1.Thrust.length), kc 7 5 (.o 3 4 v1.Water.length), kc 7 6 (.o 5 6 v1.Ice.length), kc 7 7 (.i v1.Slow), kc 7 8 (.i v1.Brash), kc 7 9 (.i v1.Ridge), kc 7 10 (.i v1.Press), kc 8 0 (.i v2.Conc.Lo), kc 8 1 (.i v2.Conc.Hi), kc 8 2 (.i v2.Thick.Lo), kc 8 3 (.i v2.Thick.Hi), kc 8 4 (.i v2.Ridge.Lo), kc 8 5 (.i v2.Ridge.Hi), kc 8 6 (.i (((sp x1.1 x4.1)).Lo)), kc 8 7 (.i (((sp x1.1 x4.1)).Hi)), kc 25 0 (.i (((free v1 v2 x1.1).1).Lo)), kc 25 1 (.i (((free v1 v2 x1.1).1).Hi))]) ?_ (kp rfl) rfl
              refine fin_then ?_
              refine aw_cond rfl (fun hz53 => ?_) (fun hz53 => ?_)
              · have hm := brk_t hz53 hm
                refine aw_seq ?_
                refine aw_seq ?_
                refine aw_text (rows := [_, _]) rfl (by kernel_rfl) ⟨
                  ok_plain rfl rfl (op_move (ltN rfl) rfl),
                  ok_plain rfl rfl (op_not (ltN rfl) rfl),
                  trivial⟩ ?_
                refine fin_keep (s' := [kt 9 (.p 7 0), kt 10 (.p 8 0), kt 17 (.p 25 0), kt 18 (.i ((free v1 v2 x1.1).2)), kt 134 (.o 300 301 x1.1.length), kt 135 (.i (((x1.1.length : Nat) : Int))), kt 136 (.i x4.1), kt 155 (.B (!v3.1)), kb 7 25 11, kb 8 34 8, kb 25 32 2, (.r 1, some (.vec true 2 84 2 (v1.Thrust.flatMap encPt))), (.r 3, some (.vec true 4 84 2 (v1.Water.flatMap encPt))), (.r 5, some (.vec true 6 84 2 (v1.Ice.flatMap encPt))), (.r 300, some (.vec true 301 32 2 (x1.1.flatMap encSpan))), kc 7 0 (.i v1.Class), kc 7 1 (.i v1.Power), kc 7 2 (.i v1.Draught), kc 7 3 (.i v1.Tonnes), kc 7 4 (.o 1 2 v1.Thrust.length), kc 7 5 (.o 3 4 v1.Water.length), kc 7 6 (.o 5 6 v1.Ice.length), kc 7 7 (.i v1.Slow), kc 7 8 (.i v1.Brash), kc 7 9 (.i v1.Ridge), kc 7 10 (.i v1.Press), kc 8 0 (.i v2.Conc.Lo), kc 8 1 (.i v2.Conc.Hi), kc 8 2 (.i v2.Thick.Lo), kc 8 3 (.i v2.Thick.Hi), kc 8 4 (.i v2.Ridge.Lo), kc 8 5 (.i v2.Ridge.Hi), kc 8 6 (.i (((sp x1.1 x4.1)).Lo)), kc 8 7 (.i (((sp x1.1 x4.1)).Hi)), kc 25 0 (.i (((free v1 v2 x1.1).1).Lo)), kc 25 1 (.i (((free v1 v2 x1.1).1).Hi))]) ?_ (kp rfl) rfl
                refine fin_then ?_
                refine aw_cond rfl (fun hz54 => ?_) (fun hz54 => ?_)
                · have hm := brk_t hz54 hm
                  refine aw_seq ?_
                  refine aw_text (rows := [_]) rfl (by kernel_rfl) ⟨
                    ok_plain rfl rfl (op_assign (ltN rfl) rfl),
                    trivial⟩ ?_
                  refine fin_keep (s' := [kt 8 (.B false)]) ?_ (kp rfl) rfl
                  refine fin_then ?_
                  refine aw_ret ?_
                  refine fin_then_ret ?_
                  refine fin_then_ret ?_
                  refine fin_block_ret ?_
                  refine fin_then_ret ?_
                  refine fin_then_ret ?_
                  refine fin_block_ret ?_
                  refine fin_then_ret ?_
                  refine post_ret (x := .B false) rfl rfl (resOK_tmp rfl resOK_nil) rfl (fun mm aa ww hr => ?_)
                  have hm := Option.some.inj hm
                  subst hm
                  exact ⟨rfl, hr.below⟩
                · have hm := brk_f hz54 hm
                  refine aw_skip ?_
                  refine fin_then ?_
                  refine aw_exit ?_
                  refine fin_then_exit ?_
                  refine fin_block_exit ?_
                  exact fin_cut (((sp x1.1 x4.1)).Lo, ((sp x1.1 x4.1)).Hi) hm ⟨rfl, rfl, rfl, rfl, rfl, rfl, rfl, rfl, rfl, rfl, rfl, rfl, rfl, rfl, rfl, rfl, rfl, rfl, rfl, rfl, rfl, rfl, rfl, rfl, rfl, rfl, rfl, rfl, rfl, rfl, rfl, rfl, rfl, rfl, rfl, trivial⟩ rfl
              · have hm := brk_f hz53 hm
                refine aw_skip ?_
                refine fin_then ?_
                refine aw_seq ?_
                refine aw_text (rows := [_, _, _, _, _, _, _, _, _, _, _, _, _, _, _, _, _, _, _, _, _, _, _, _, _, _, _, _, _, _, _, _, _, _, _, _]) rfl (by kernel_rfl) ⟨
                  ok_plain rfl rfl (op_move (ltN rfl) rfl),
                  ok_plain rfl rfl (op_fieldAddr (ltN rfl) rfl fo_32_1),
                  ok_plain rfl rfl (op_load1 (ltN rfl) sh_3 rfl rfl),
                  ok_plain rfl rfl (op_bin (ltN rfl) rfl rfl rfl),
                  ok_plain rfl rfl (op_move (ltN rfl) rfl),
                  ok_if (ltN rfl) rfl rfl rfl rfl rfl rfl (fun hg55 => op_move (ltN rfl) (force_x rfl)),
                  ok_if (ltN rfl) rfl rfl rfl rfl rfl rfl (fun hg56 => op_not (ltN rfl) (force_eq (beq_iff_eq.2 hg56) rfl)),
                  ok_plain rfl rfl (op_and (ltN rfl) rfl rfl),
                  ok_plain rfl rfl (op_move (ltN rfl) rfl),
                  ok_if (ltN rfl) rfl rfl rfl rfl rfl rfl (fun hg57 => op_move (ltN rfl) (force_x rfl)),
                  ok_if (ltN rfl) rfl rfl rfl rfl rfl rfl (fun hg58 => op_fieldAddr (ltN rfl) (force_x rfl) fo_32_1),
                  ok_if (ltN rfl) rfl rfl rfl rfl rfl rfl (fun hg59 => op_load1 (ltN rfl) sh_3 (force_eq (beq_iff_eq.2 hg59) rfl) rfl),
                  ok_if (ltN rfl) rfl rfl rfl rfl rfl rfl (fun hg60 => op_bin (ltN rfl) (force_eq (beq_iff_eq.2 hg60) rfl) (force_eq (beq_iff_eq.2 hg60) rfl) rfl),
                  ok_if (ltN rfl) rfl rfl rfl rfl rfl rfl (fun hg61 => op_move (ltN rfl) (force_eq (beq_iff_eq.2 hg61) rfl)),
                  ok_ifC (ltN rfl) rfl rfl rfl rfl rfl rfl (fun hg62 => op_move (ltN rfl) (force_x rfl)),
                  ok_if (ltN rfl) rfl rfl rfl rfl rfl rfl (fun hg63 => op_andF (ltN rfl) (beq_iff_eq.2 hg63) rfl rfl),
                  ok_plain rfl rfl (op_or (ltN rfl) rfl rfl),
                  ok_plain rfl rfl (op_move (ltN rfl) rfl),
                  ok_if (ltN rfl) rfl rfl rfl rfl rfl rfl (fun hg64 => op_move (ltN rfl) (force_x rfl)),
                  ok_if (ltN rfl) rfl rfl rfl rfl rfl rfl (fun hg65 => op_fieldAddr (ltN rfl) (force_x rfl) fo_32_0),
                  ok_if (ltN rfl) rfl rfl rfl rfl rfl rfl (fun hg66 => op_load1 (ltN rfl) sh_3 (force_eq (beq_iff_eq.2 hg66) rfl) rfl),
                  ok_if (ltN rfl) rfl rfl rfl rfl rfl rfl (fun hg67 => op_bin (ltN rfl) (force_eq (beq_iff_eq.2 hg67) rfl) (force_eq (beq_iff_eq.2 hg67) rfl) rfl),
                  ok_if (ltN rfl) rfl rfl rfl rfl rfl rfl (fun hg68 => op_move (ltN rfl) (force_eq (beq_iff_eq.2 hg68) rfl)),
                  ok_ifC (ltN rfl) rfl rfl rfl rfl rfl rfl (fun hg69 => op_move (ltN rfl) (force_x rfl)),
                  ok_ifC (ltN rfl) rfl rfl rfl rfl rfl rfl (fun hg70 => op_not (ltN rfl) (force_eq hg70 rfl)),
                  ok_if (ltN rfl) rfl rfl rfl rfl rfl rfl (fun hg71 => op_andF (ltN rfl) (beq_iff_eq.2 hg71) rfl rfl),
                  ok_plain rfl rfl (op_or (ltN rfl) rfl rfl),
                  ok_plain rfl rfl (op_move (ltN rfl) rfl),
                  ok_if (ltN rfl) rfl rfl rfl rfl rfl rfl (fun hg72 => op_move (ltN rfl) (force_x rfl)),
                  ok_if (ltN rfl) rfl rfl rfl rfl rfl rfl (fun hg73 => op_fieldAddr (ltN rfl) (force_x rfl) fo_32_0),
                  ok_if (ltN rfl) rfl rfl rfl rfl rfl rfl (fun hg74 => op_load1 (ltN rfl) sh_3 (force_eq (beq_iff_eq.2 hg74) rfl) rfl),
                  ok_if (ltN rfl) rfl rfl rfl rfl rfl rfl (fun hg75 => op_bin (ltN rfl) (force_eq (beq_iff_eq.2 hg75) rfl) (force_eq (beq_iff_eq.2 hg75) rfl) rfl),
                  ok_if (ltN rfl) rfl rfl rfl rfl rfl rfl (fun hg76 => op_move (ltN rfl) (force_eq (beq_iff_eq.2 hg76) rfl)),
                  ok_ifC (ltN rfl) rfl rfl rfl rfl rfl rfl (fun hg77 => op_move (ltN rfl) (force_x rfl)),
                  ok_if (ltN rfl) rfl rfl rfl rfl rfl rfl (fun hg78 => op_andF (ltN rfl) (beq_iff_eq.2 hg78) rfl rfl),
                  ok_plain rfl rfl (op_or (ltN rfl) rfl rfl),
                  trivial⟩ ?_
                refine fin_keep (s' := [kt 9 (.p 7 0), kt 10 (.p 8 0), kt 17 (.p 25 0), kt 18 (.i ((free v1 v2 x1.1).2)), kt 134 (.o 300 301 x1.1.length), kt 135 (.i (((x1.1.length : Nat) : Int))), kt 136 (.i x4.1), kt 191 (.B (((((decide (x4.1 < (((free v1 v2 x1.1).1).Hi))) && (!v3.1)) || ((x4.1 == (((free v1 v2 x1.1).1).Hi)) && v3.1)) || ((decide (x4.1 < (((free v1 v2 x1.1).1).Lo))) && (!v3.2.1))) || ((x4.1 == (((free v1 v2 x1.1).1).Lo)) && v3.2.1))), kb 7 25 11, kb 8 34 8, kb 25 32 2, (.r 1, some (.vec true 2 84 2 (v1.Thrust.flatMap encPt))), (.r 3, some (.vec true 4 84 2 (v1.Water.flatMap encPt))), (.r 5, some (.vec true 6 84 2 (v1.Ice.flatMap encPt))), (.r 300, some (.vec true 301 32 2 (x1.1.flatMap encSpan))), kc 7 0 (.i v1.Class), kc 7 1 (.i v1.Power), kc 7 2 (.i v1.Draught), kc 7 3 (.i v1.Tonnes), kc 7 4 (.o 1 2 v1.Thrust.length), kc 7 5 (.o 3 4 v1.Water.length), kc 7 6 (.o 5 6 v1.Ice.length), kc 7 7 (.i v1.Slow), kc 7 8 (.i v1.Brash), kc 7 9 (.i v1.Ridge), kc 7 10 (.i v1.Press), kc 8 0 (.i v2.Conc.Lo), kc 8 1 (.i v2.Conc.Hi), kc 8 2 (.i v2.Thick.Lo), kc 8 3 (.i v2.Thick.Hi), kc 8 4 (.i v2.Ridge.Lo), kc 8 5 (.i v2.Ridge.Hi), kc 8 6 (.i (((sp x1.1 x4.1)).Lo)), kc 8 7 (.i (((sp x1.1 x4.1)).Hi)), kc 25 0 (.i (((free v1 v2 x1.1).1).Lo)), kc 25 1 (.i (((free v1 v2 x1.1).1).Hi))]) ?_ (kp rfl) rfl
                refine fin_then ?_
                refine aw_cond rfl (fun hz79 => ?_) (fun hz79 => ?_)
                · have hm := brk_t hz79 hm
                  refine aw_seq ?_
                  refine aw_text (rows := [_]) rfl (by kernel_rfl) ⟨
                    ok_plain rfl rfl (op_assign (ltN rfl) rfl),
                    trivial⟩ ?_
                  refine fin_keep (s' := [kt 8 (.B false)]) ?_ (kp rfl) rfl
                  refine fin_then ?_
                  refine aw_ret ?_
                  refine fin_block_ret ?_
                  refine fin_then_ret ?_
                  refine fin_then_ret ?_
                  refine fin_block_ret ?_
                  refine fin_then_ret ?_
                  refine post_ret (x := .B false) rfl rfl (resOK_tmp rfl resOK_nil) rfl (fun mm aa ww hr => ?_)
                  have hm := Option.some.inj hm
                  subst hm
                  exact ⟨rfl, hr.below⟩
                · have hm := brk_f hz79 hm
                  refine aw_skip ?_
                  refine fin_block ?_
                  exact fin_cut (((sp x1.1 x4.1)).Lo, ((sp x1.1 x4.1)).Hi) hm ⟨rfl, rfl, rfl, rfl, rfl, rfl, rfl, rfl, rfl, rfl, rfl, rfl, rfl, rfl, rfl, rfl, rfl, rfl, rfl, rfl, rfl, rfl, rfl, rfl, rfl, rfl, rfl, rfl, rfl, rfl, rfl, rfl, rfl, rfl, rfl, trivial⟩ rfl
          · have _z := hm
            obtain ⟨hp80, hm⟩ := chk_some hm
            refine aw_text (rows := [_, _]) rfl (by kernel_rfl) ⟨
              ok_plain rfl rfl (op_bin (ltN rfl) rfl rfl (nw_add hp80)),
              ok_plain rfl rfl (op_move (ltN rfl) rfl),
              trivial⟩ ?_
            refine fin_keep (s' := [kt 9 (.p 7 0), kt 10 (.p 8 0), kt 17 (.p 25 0), kt 18 (.i ((free v1 v2 x1.1).2)), kt 134 (.o 300 301 x1.1.length), kt 135 (.i (((x1.1.length : Nat) : Int))), kt 136 (.i (x4.1 + 1)), kb 7 25 11, kb 8 34 8, kb 25 32 2, (.r 1, some (.vec true 2 84 2 (v1.Thrust.flatMap encPt))), (.r 3, some (.vec true 4 84 2 (v1.Water.flatMap encPt))), (.r 5, some (.vec true 6 84 2 (v1.Ice.flatMap encPt))), (.r 300, some (.vec true 301 32 2 (x1.1.flatMap encSpan))), kc 7 0 (.i v1.Class), kc 7 1 (.i v1.Power), kc 7 2 (.i v1.Draught), kc 7 3 (.i v1.Tonnes), kc 7 4 (.o 1 2 v1.Thrust.length), kc 7 5 (.o 3 4 v1.Water.length), kc 7 6 (.o 5 6 v1.Ice.length), kc 7 7 (.i v1.Slow), kc 7 8 (.i v1.Brash), kc 7 9 (.i v1.Ridge), kc 7 10 (.i v1.Press), kc 8 0 (.i v2.Conc.Lo), kc 8 1 (.i v2.Conc.Hi), kc 8 2 (.i v2.Thick.Lo), kc 8 3 (.i v2.Thick.Hi), kc 8 4 (.i v2.Ridge.Lo), kc 8 5 (.i v2.Ridge.Hi), kc 8 6 (.i x5.1), kc 8 7 (.i x5.2), kc 25 0 (.i (((free v1 v2 x1.1).1).Lo)), kc 25 1 (.i (((free v1 v2 x1.1).1).Hi))]) ?_ (kp rfl) rfl
            exact fin_cut (x4.1 + 1, x5.1, x5.2) hm ⟨rfl, rfl, rfl, rfl, rfl, rfl, rfl, rfl, rfl, rfl, rfl, rfl, rfl, rfl, rfl, rfl, rfl, rfl, rfl, rfl, rfl, rfl, rfl, rfl, rfl, rfl, rfl, rfl, rfl, rfl, rfl, rfl, rfl, rfl, rfl, trivial⟩ rfl
        · have hm := brk_f hz50 hm
          refine aw_exit ?_
          refine fin_then_exit ?_
          refine fin_then_exit ?_
          refine fin_block_exit ?_
          exact fin_cut () hm trivial rfl
      · have _z := hm
        refine aw_seq ?_
        refine aw_text (rows := [_, _]) rfl (by kernel_rfl) ⟨
          ok_plain rfl rfl (op_call (x := .B true) (fs := []) (caps := []) (extra := []) (ltN rfl) en_21 rfl ⟨rfl, rfl, rfl⟩ EvL.nil (fun mm aa ww gg hr hrel => (c21 ww (BoxAt.mono hG hrel.below)))),
          ok_plain rfl rfl (op_assign (ltN rfl) rfl),
          trivial⟩ ?_
        refine fin_keep (s' := [kt 8 (.B true)]) ?_ (kp rfl) rfl
        refine fin_then ?_
        refine aw_ret ?_
        refine post_ret (x := .B true) rfl rfl (resOK_tmp rfl resOK_nil) rfl (fun mm aa ww hr => ?_)
        have hm := Option.some.inj hm
        subst hm
        exact ⟨rfl, hr.below⟩

end Go.Proofs.T
