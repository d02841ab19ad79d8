/-
  This file has contracts of functions of the program: where the mirror gives a value, the call returns it. Conditions: those that each theorem names.
-/
import Derived.Test.YtgpcfckbcldokaaDoorAg5
set_option linter.unusedVariables false
namespace Go.Proofs.T
open Go Go.AX Go.RowKit Hull
theorem en_67 : Proofs.Enters Tryd.prog 67 := Proofs.enters_of Tryd.func67 (by kernel_rfl) rfl
theorem en_68 : Proofs.Enters Tryd.prog 68 := Proofs.enters_of Tryd.func68 (by kernel_rfl) rfl
theorem en_69 : Proofs.Enters Tryd.prog 69 := Proofs.enters_of Tryd.func69 (by kernel_rfl) rfl
theorem en_70 : Proofs.Enters Tryd.prog 70 := Proofs.enters_of Tryd.func70 (by kernel_rfl) rfl
theorem af_124 : appFact Tryd.prog 124 = some (34, 8, 64) := by kernel_rfl
theorem ss_124 : sliceSz Tryd.prog 124 = some 8 := by kernel_rfl
def m67_0 (_F : Nat) (l2_0 : List Int) (n1_0 : Nat) : Option (Ice × Nat) :=
 some ((⟨dv l2_0 n1_0 256, dv l2_0 ((n1_0 + 1)) 256, dv l2_0 (((n1_0 + 1) + 1)) 256, dv l2_0 ((((n1_0 + 1) + 1) + 1)) 30⟩ : Ice), ((((n1_0 + 1) + 1) + 1) + 1))
theorem c67_0 (F : Nat) (b0 : Nat) (b1 : Nat) (b2 : Nat) (l2_0 : List Int) (l2_0_s : SlV) (n1_0 : Nat) (w : World) (hb0 : w.heap[b0]? = some (.cells ([.func (.func 83) #[] #[.pointer (some ⟨b1, 0, none⟩), .pointer (some ⟨b2, 0, none⟩)]] : List Value).toArray 44 (0, 0))) (hb1 : w.heap[b1]? = some (.cells ([.int .i64 (idx l2_0 n1_0)] : List Value).toArray 3 (0, 0))) (hb2 : w.heap[b2]? = some (.cells ([.slice l2_0_s.p l2_0_s.n l2_0_s.c] : List Value).toArray 22 (0, 0))) (hd_0_1 : b1 ≠ b0) (hd_0_2 : b2 ≠ b0) (hd_1_2 : b2 ≠ b1) (hl2_0 : SlIs encU8 1 w l2_0_s l2_0) (h8l2_0 : ∀ x ∈ l2_0, 0 ≤ x ∧ x ≤ 255) (hlenl2_0 : l2_0.length ≤ 9223372036854775807) (hn_l2_0_0 : l2_0 ≠ [] → ∀ ad, l2_0_s.p = some ad → ad.block ≠ b0) (hn_l2_0_1 : l2_0 ≠ [] → ∀ ad, l2_0_s.p = some ad → ad.block ≠ b1) (hn_l2_0_2 : l2_0 ≠ [] → ∀ ad, l2_0_s.p = some ad → ad.block ≠ b2) (r : Ice × Nat) (hm : m67_0 F l2_0 n1_0 = some r) : Calls Tryd.prog 67 #[.pointer (some ⟨b0, 0, none⟩)] w fun e w' => e = .returned (.agg #[.int .i64 r.1.Conc, .int .i64 r.1.Thick, .int .i64 r.1.Ridge, .int .i64 r.1.Press]) ∧ LentL w w' [(b0, 44, [.func (.func 83) #[] #[.pointer (some ⟨b1, 0, none⟩), .pointer (some ⟨b2, 0, none⟩)]]), (b1, 3, [.int .i64 (idx l2_0 r.2)]), (b2, 22, [.slice l2_0_s.p l2_0_s.n l2_0_s.c])] := by
 obtain ⟨l2_0_p, l2_0_n, l2_0_c⟩ := l2_0_s
 have hl2_0_l : l2_0_n = l2_0.length := hl2_0.1
 subst hl2_0_l
 obtain ⟨l2_0_b, l2_0_o, hl2_0_p, hl2_0_L⟩ := SlAt.lies' hl2_0
 unfold m67_0 at hm
 refine enterG (args := [.v (.pointer (some ⟨b0, 0, none⟩))]) Tryd.func67 rfl (N := 11) rfl (Nat.le_of_ble_eq_true rfl) [(900, b0, 44, [.func (.func 83) #[] #[.pointer (some ⟨b1, 0, none⟩), .pointer (some ⟨b2, 0, none⟩)]]), (901, b1, 3, [.int .i64 (idx l2_0 n1_0)]), (902, b2, 22, [(.slice l2_0_p l2_0.length l2_0_c)])] ⟨hb0, (by simp [loans2, hd_0_1, hd_0_2]), ⟨hb1, (by simp [loans2, hd_1_2]), ⟨hb2, (by simp [loans2]), trivial⟩⟩⟩ rfl ?_
 refine aw_rex (k := .t 0) (.p 900 0) rfl (fun m hm => by have h0 := hm ((900, b0) : Nat × Nat) (by simp [loans2]); simp only [den]; rw [h0]) ?_
 refine aw_rex (k := .c 900 0) (.f (.func 83) [] [.p 901 0, .p 902 0]) rfl (fun m hm => by have h0 := hm ((901, b1) : Nat × Nat) (by simp [loans2]); have h1 := hm ((902, b2) : Nat × Nat) (by simp [loans2]); simp only [den, denL]; rw [h0, h1]) ?_
 refine AW.keep (s' := [kt 0 (.p 900 0), kb 900 44 1, kb 901 3 1, kb 902 22 1, kc 900 0 (.f (.func 83) [] [.p 901 0, .p 902 0]), kc 901 0 (.i (idx l2_0 n1_0)), kc 902 0 (.v (.slice l2_0_p l2_0.length l2_0_c))]) ?_ (kp rfl) rfl
 refine aqS ?_
 refine aqT (rows := [_]) rfl (by kernel_rfl) ⟨
  okp rfl rfl (oqa (L := 1) (lN rfl) zl_28),
  trivial⟩ ?_
 refine fqK (s' := [kt 0 (.p 900 0), kt 1 (.p 1 0), kb 1 28 4, kb 900 44 1, kb 901 3 1, kb 902 22 1, kc 1 0 (.i 0), kc 1 1 (.i 0), kc 1 2 (.i 0), kc 1 3 (.i 0), kc 900 0 (.f (.func 83) [] [.p 901 0, .p 902 0]), kc 901 0 (.i (idx l2_0 n1_0)), kc 902 0 (.v (.slice l2_0_p l2_0.length l2_0_c))]) ?_ (kp rfl) rfl
 refine fqT ?_
 refine aqS ?_
 refine aw_any (rows := [_, _, _, _, _, _, _, _, _, _]) (M := [0, 1, 0, 7, 0, 31, 0, 127, 255, 511]) Tryd_mixed (by kernel_rfl) rfl (by kernel_rfl) ⟨
  okp rfl rfl (oq1 (lN rfl) sh_44 rfl rfl),
  okp rfl rfl (op_callLentL (ls := [⟨901, 3, [.i (idx l2_0 n1_0)], [.i (idx l2_0 (n1_0 + 1))]⟩, ⟨902, 22, [.v (.slice l2_0_p l2_0.length l2_0_c)], [.v (.slice l2_0_p l2_0.length l2_0_c)]⟩]) (x := .i (dv l2_0 n1_0 256)) (fs := []) (caps := [.p 901 0, .p 902 0]) (extra := []) (lN rfl) en_83 rfl ⟨rfl, rfl, rfl⟩ (EvL.cons rfl EvL.nil) ⟨rfl, ⟨rfl, trivial⟩, rfl, lb_ne rfl, ⟨rfl, ⟨rfl, trivial⟩, rfl, lb_ne rfl, trivial⟩⟩ (fun mm aa ww gg hr hrel hbx hlo => c83L 256 n1_0 (mm 901) l2_0 ⟨l2_0_p, l2_0.length, l2_0_c⟩ (mm 902) ww (hbx _ (.head _)) (hbx _ (.tail _ (.head _))) (SlIs.kept hl2_0 hrel (fun hl ad h => (lent_cons (hn_l2_0_0 hl ad h) (lent_cons (hn_l2_0_1 hl ad h) (lent_cons (hn_l2_0_2 hl ad h) lent_nil))))) (fun hl ad h => by rw [(hrel.fix 901 b1 (by simp [loans2])).1]; exact hn_l2_0_1 hl ad h) (box_ne hrel hlo.2.2.2.2.1 hlo.1 (by decide)) (by decide) h8l2_0 hlenl2_0)),
  okp rfl rfl (oq1 (lN rfl) sh_44 rfl rfl),
  okp rfl rfl (op_callLentL (ls := [⟨901, 3, [.i (idx l2_0 (n1_0 + 1))], [.i (idx l2_0 ((n1_0 + 1) + 1))]⟩, ⟨902, 22, [.v (.slice l2_0_p l2_0.length l2_0_c)], [.v (.slice l2_0_p l2_0.length l2_0_c)]⟩]) (x := .i (dv l2_0 ((n1_0 + 1)) 256)) (fs := []) (caps := [.p 901 0, .p 902 0]) (extra := []) (lN rfl) en_83 rfl ⟨rfl, rfl, rfl⟩ (EvL.cons rfl EvL.nil) ⟨rfl, ⟨rfl, trivial⟩, rfl, lb_ne rfl, ⟨rfl, ⟨rfl, trivial⟩, rfl, lb_ne rfl, trivial⟩⟩ (fun mm aa ww gg hr hrel hbx hlo => c83L 256 ((n1_0 + 1)) (mm 901) l2_0 ⟨l2_0_p, l2_0.length, l2_0_c⟩ (mm 902) ww (hbx _ (.head _)) (hbx _ (.tail _ (.head _))) (SlIs.kept hl2_0 hrel (fun hl ad h => (lent_cons (hn_l2_0_0 hl ad h) (lent_cons (hn_l2_0_1 hl ad h) (lent_cons (hn_l2_0_2 hl ad h) lent_nil))))) (fun hl ad h => by rw [(hrel.fix 901 b1 (by simp [loans2])).1]; exact hn_l2_0_1 hl ad h) (box_ne hrel hlo.2.2.2.2.1 hlo.1 (by decide)) (by decide) h8l2_0 hlenl2_0)),
  okp rfl rfl (oq1 (lN rfl) sh_44 rfl rfl),
  okp rfl rfl (op_callLentL (ls := [⟨901, 3, [.i (idx l2_0 ((n1_0 + 1) + 1))], [.i (idx l2_0 (((n1_0 + 1) + 1) + 1))]⟩, ⟨902, 22, [.v (.slice l2_0_p l2_0.length l2_0_c)], [.v (.slice l2_0_p l2_0.length l2_0_c)]⟩]) (x := .i (dv l2_0 (((n1_0 + 1) + 1)) 256)) (fs := []) (caps := [.p 901 0, .p 902 0]) (extra := []) (lN rfl) en_83 rfl ⟨rfl, rfl, rfl⟩ (EvL.cons rfl EvL.nil) ⟨rfl, ⟨rfl, trivial⟩, rfl, lb_ne rfl, ⟨rfl, ⟨rfl, trivial⟩, rfl, lb_ne rfl, trivial⟩⟩ (fun mm aa ww gg hr hrel hbx hlo => c83L 256 (((n1_0 + 1) + 1)) (mm 901) l2_0 ⟨l2_0_p, l2_0.length, l2_0_c⟩ (mm 902) ww (hbx _ (.head _)) (hbx _ (.tail _ (.head _))) (SlIs.kept hl2_0 hrel (fun hl ad h => (lent_cons (hn_l2_0_0 hl ad h) (lent_cons (hn_l2_0_1 hl ad h) (lent_cons (hn_l2_0_2 hl ad h) lent_nil))))) (fun hl ad h => by rw [(hrel.fix 901 b1 (by simp [loans2])).1]; exact hn_l2_0_1 hl ad h) (box_ne hrel hlo.2.2.2.2.1 hlo.1 (by decide)) (by decide) h8l2_0 hlenl2_0)),
  okp rfl rfl (oq1 (lN rfl) sh_44 rfl rfl),
  okp rfl rfl (op_callLentL (ls := [⟨901, 3, [.i (idx l2_0 (((n1_0 + 1) + 1) + 1))], [.i (idx l2_0 ((((n1_0 + 1) + 1) + 1) + 1))]⟩, ⟨902, 22, [.v (.slice l2_0_p l2_0.length l2_0_c)], [.v (.slice l2_0_p l2_0.length l2_0_c)]⟩]) (x := .i (dv l2_0 ((((n1_0 + 1) + 1) + 1)) 30)) (fs := []) (caps := [.p 901 0, .p 902 0]) (extra := []) (lN rfl) en_83 rfl ⟨rfl, rfl, rfl⟩ (EvL.cons rfl EvL.nil) ⟨rfl, ⟨rfl, trivial⟩, rfl, lb_ne rfl, ⟨rfl, ⟨rfl, trivial⟩, rfl, lb_ne rfl, trivial⟩⟩ (fun mm aa ww gg hr hrel hbx hlo => c83L 30 ((((n1_0 + 1) + 1) + 1)) (mm 901) l2_0 ⟨l2_0_p, l2_0.length, l2_0_c⟩ (mm 902) ww (hbx _ (.head _)) (hbx _ (.tail _ (.head _))) (SlIs.kept hl2_0 hrel (fun hl ad h => (lent_cons (hn_l2_0_0 hl ad h) (lent_cons (hn_l2_0_1 hl ad h) (lent_cons (hn_l2_0_2 hl ad h) lent_nil))))) (fun hl ad h => by rw [(hrel.fix 901 b1 (by simp [loans2])).1]; exact hn_l2_0_1 hl ad h) (box_ne hrel hlo.2.2.2.2.1 hlo.1 (by decide)) (by decide) h8l2_0 hlenl2_0)),
  okp rfl rfl (op_build (x := .g [.i (dv l2_0 n1_0 256), .i (dv l2_0 ((n1_0 + 1)) 256), .i (dv l2_0 (((n1_0 + 1) + 1)) 256), .i (dv l2_0 ((((n1_0 + 1) + 1) + 1)) 30)]) (lN rfl) (EvL.cons rfl (EvL.cons rfl (EvL.cons rfl (EvL.cons rfl EvL.nil)))) (fun m w => by kernel_rfl)),
  okp rfl rfl (oqS sz_28 rfl rfl rfl rfl rfl (by decide)),
  trivial⟩ ?_
 refine fqK (s' := [kt 1 (.p 1 0), kb 1 28 4, kb 900 44 1, kb 901 3 1, kb 902 22 1, kc 1 0 (.i (dv l2_0 n1_0 256)), kc 1 1 (.i (dv l2_0 ((n1_0 + 1)) 256)), kc 1 2 (.i (dv l2_0 (((n1_0 + 1) + 1)) 256)), kc 1 3 (.i (dv l2_0 ((((n1_0 + 1) + 1) + 1)) 30)), kc 900 0 (.f (.func 83) [] [.p 901 0, .p 902 0]), kc 901 0 (.i (idx l2_0 ((((n1_0 + 1) + 1) + 1) + 1))), kc 902 0 (.v (.slice l2_0_p l2_0.length l2_0_c))]) ?_ (kp rfl) rfl
 refine fqT ?_
 refine aqr ?_
 refine pqr (x := .g [.i (dv l2_0 n1_0 256), .i (dv l2_0 ((n1_0 + 1)) 256), .i (dv l2_0 (((n1_0 + 1) + 1)) 256), .i (dv l2_0 ((((n1_0 + 1) + 1) + 1)) 30)]) rfl rfl (rqC (ys := [.i (dv l2_0 n1_0 256), .i (dv l2_0 ((n1_0 + 1)) 256), .i (dv l2_0 (((n1_0 + 1) + 1)) 256), .i (dv l2_0 ((((n1_0 + 1) + 1) + 1)) 30)]) rfl sh_28 rfl ⟨rfl, rfl, rfl, rfl, trivial⟩ rqN) rfl (fun mm aa ww hr => ?_)
 have hm := Option.some.inj hm
 subst hm
 have hr := hr.rex (k0 := .c 900 0) (x := .v (.func (.func 83) #[] #[.pointer (some ⟨b1, 0, none⟩), .pointer (some ⟨b2, 0, none⟩)])) rfl (by simp only [den, denL]; rw [(hr.fix 901 b1 (by simp [loans2])).1, (hr.fix 902 b2 (by simp [loans2])).1])
 exact ⟨rfl, lentL_end hr [(900, b0, 44, [.func (.func 83) #[] #[.pointer (some ⟨b1, 0, none⟩), .pointer (some ⟨b2, 0, none⟩)]]), (901, b1, 3, [(.int .i64 (idx l2_0 ((((n1_0 + 1) + 1) + 1) + 1)))]), (902, b2, 22, [(.slice l2_0_p l2_0.length l2_0_c)])] rfl ⟨rfl, ⟨rfl, trivial⟩, ⟨rfl, ⟨rfl, trivial⟩, ⟨rfl, ⟨rfl, trivial⟩, trivial⟩⟩⟩⟩
def m13 (F : Nat) (a0 : List Int) (a1 : List Int) (a2 : List Int) (a3 : List Int) (a4 : Int) (a5 : Bool) : Option (Bool) :=
 bnd (m15 F a0) (fun v1 => bnd (m17 F a1) (fun v2 => bnd (m17 F a2) (fun v3 => bnd (m67_0 F a3 0) (fun v4 => bnd (m67_0 F a3 v4.2) (fun v5 => chk (InR (a4)) (bnd (m68 F v2 ((⟨v4.1, v5.1⟩ : Rates)) a4) (fun v6 => bnd (m69 F v2 v3) (fun v7 => bnd (m70 F v2 v3) (fun v8 => brk (((v6.2 != 0) || (v7.2 != 0)) || ((v8.2 != 0) && (v8.2 != 21))) (some false) (join (fun (x1 : List Cell × List Cell) => join (fun (_ : Unit) => some true) (fun k2 => lpC (fun (x3 : Int) n3 => brk (decide (x3 < (((x1.1.length : Nat) : Int)))) (chk (0 ≤ x3 ∧ x3 < ((x1.1.length : Nat) : Int)) (bnd (m55 F v1 ((x1.1.getD x3.toNat default)) a5) (fun v9 => chk (0 ≤ x3 ∧ x3 < ((x1.2.length : Nat) : Int)) (bnd (m55 F v1 ((x1.2.getD x3.toNat default)) a5) (fun v10 => brk ((((v9.2 != 0) || (v10.2 != 0)) || (decide (v9.1.Lo > v10.1.Lo))) || (decide (v9.1.Hi < v10.1.Hi))) (some false) (brk (((((safeE v1 ((x1.1.getD x3.toNat default)) a5).2) == 0) && ((((safeE v1 ((x1.2.getD x3.toNat default)) a5).2) != 0) || (decide (((safeE v1 ((x1.1.getD x3.toNat default)) a5).1) > ((safeE v1 ((x1.2.getD x3.toNat default)) a5).1))))) || (((((safeE v1 ((x1.1.getD x3.toNat default)) a5).2) != 0) && (((safeE v1 ((x1.1.getD x3.toNat default)) a5).2) != 4)) && (((safeE v1 ((x1.1.getD x3.toNat default)) a5).2) != 41))) (some false) (chk (InR (x3 + 1)) (n3 (x3 + 1))))))))) (k2 ())) F 0)) (fun k1 => brk (v8.2 == 0) (chk (([v6.1, v7.1, v7.1]).length ≤ 1000000) (chk (([v2, v2, v3]).length ≤ 1000000) (k1 (([v6.1, v7.1, v7.1] ++ [v2, v3]), ([v2, v2, v3] ++ [v8.1, v8.1]))))) (k1 ([v6.1, v7.1, v7.1], [v2, v2, v3])))))))))))))
set_option maxHeartbeats 8000000 in
set_option maxRecDepth 8000 in
theorem c13 (F : Nat) (a0 : List Int) (a0_s : SlV) (a1 : List Int) (a1_s : SlV) (a2 : List Int) (a2_s : SlV) (a3 : List Int) (a3_s : SlV) (a4 : Int) (a5 : Bool) (w : World) (ha0 : SlIs encU8 1 w a0_s a0) (h8a0 : ∀ x ∈ a0, 0 ≤ x ∧ x ≤ 255) (hlena0 : a0.length ≤ 9223372036854775807) (ha1 : SlIs encU8 1 w a1_s a1) (h8a1 : ∀ x ∈ a1, 0 ≤ x ∧ x ≤ 255) (hlena1 : a1.length ≤ 9223372036854775807) (ha2 : SlIs encU8 1 w a2_s a2) (h8a2 : ∀ x ∈ a2, 0 ≤ x ∧ x ≤ 255) (hlena2 : a2.length ≤ 9223372036854775807) (ha3 : SlIs encU8 1 w a3_s a3) (h8a3 : ∀ x ∈ a3, 0 ≤ x ∧ x ≤ 255) (hlena3 : a3.length ≤ 9223372036854775807) (hG : BoxAt w 0 (strengths.map (fun n => Value.int .i64 n))) (r : Bool) (hm : m13 F a0 a1 a2 a3 a4 a5 = some r) : Calls Tryd.prog 13 #[.slice a0_s.p a0_s.n a0_s.c, .slice a1_s.p a1_s.n a1_s.c, .slice a2_s.p a2_s.n a2_s.c, .slice a3_s.p a3_s.n a3_s.c, .int .u8 a4, .bool a5] w fun e w' => e = .returned (.bool r) ∧ Below w.heap.size w w' := by
 obtain ⟨a0_p, a0_n, a0_c⟩ := a0_s
 have ha0_l : a0_n = a0.length := ha0.1
 subst ha0_l
 obtain ⟨a0_b, a0_o, ha0_p, ha0_L⟩ := SlAt.lies' ha0
 obtain ⟨a1_p, a1_n, a1_c⟩ := a1_s
 have ha1_l : a1_n = a1.length := ha1.1
 subst ha1_l
 obtain ⟨a1_b, a1_o, ha1_p, ha1_L⟩ := SlAt.lies' ha1
 obtain ⟨a2_p, a2_n, a2_c⟩ := a2_s
 have ha2_l : a2_n = a2.length := ha2.1
 subst ha2_l
 obtain ⟨a2_b, a2_o, ha2_p, ha2_L⟩ := SlAt.lies' ha2
 obtain ⟨a3_p, a3_n, a3_c⟩ := a3_s
 have ha3_l : a3_n = a3.length := ha3.1
 subst ha3_l
 obtain ⟨a3_b, a3_o, ha3_p, ha3_L⟩ := SlAt.lies' ha3
 unfold m13 at hm
 refine enter (args := [.v (.slice a0_p a0.length a0_c), .v (.slice a1_p a1.length a1_c), .v (.slice a2_p a2.length a2_c), .v (.slice a3_p a3.length a3_c), .v (.int .u8 a4), .B a5]) Tryd.func13 rfl (N := 190) rfl (Nat.le_of_ble_eq_true rfl) ?_
 refine aqS ?_
 refine aqT (rows := [_]) rfl (by kernel_rfl) ⟨
  okp rfl rfl (oqA (lN rfl) rfl),
  trivial⟩ ?_
 refine fqK (s' := [kt 0 (.v (.slice a0_p a0.length a0_c)), kt 1 (.v (.slice a1_p a1.length a1_c)), kt 2 (.v (.slice a2_p a2.length a2_c)), kt 3 (.v (.slice a3_p a3.length a3_c)), kt 4 (.v (.int .u8 a4)), kt 5 (.B a5)]) ?_ (kp rfl) rfl
 refine fqT ?_
 refine aqS ?_
 obtain ⟨v1, hv1, hm⟩ := bnd_some hm
 obtain ⟨v2, hv2, hm⟩ := bnd_some hm
 obtain ⟨v3, hv3, hm⟩ := bnd_some hm
 refine aqT (rows := [_, _, _, _, _, _, _, _, _, _, _, _]) rfl (by kernel_rfl) ⟨
  okp rfl rfl (oqM (lN rfl) rfl),
  okp rfl rfl (op_callRowsD (x := .g [.i v1.Class, .i v1.Power, .i v1.Draught, .i v1.Tonnes, .o 1 2 v1.Thrust.length, .o 3 4 v1.Water.length, .o 5 6 v1.Ice.length, .i v1.Slow, .i v1.Brash, .i v1.Ridge, .i v1.Press]) (R := (fun vs => .agg #[.int .i64 v1.Class, .int .i64 v1.Power, .int .i64 v1.Draught, .int .i64 v1.Tonnes, (vs.getD 0 (.bool false)), (vs.getD 1 (.bool false)), (vs.getD 2 (.bool false)), .int .i64 v1.Slow, .int .i64 v1.Brash, .int .i64 v1.Ridge, .int .i64 v1.Press])) (ls := [(1, 2), (3, 4), (5, 6)]) (ds := [(v1.Thrust.length, 84, 2, v1.Thrust.flatMap ePt), (v1.Water.length, 84, 2, v1.Water.flatMap ePt), (v1.Ice.length, 84, 2, v1.Ice.flatMap ePt)]) (fs := []) (caps := []) (extra := []) (lN rfl) en_15 rfl ⟨rfl, rfl, rfl⟩ (EvL.cons rfl EvL.nil) rfl rfl (fun _ => rfl) (fun mm aa ww gg hr hrel => (c15 F a0 ⟨a0_p, a0.length, a0_c⟩ ww (SlIs.mono ha0 hrel.below) h8a0 hlena0 v1 hv1))),
  okp rfl rfl (oqM (lN rfl) rfl),
  okp rfl rfl (oqC (x := .g [.i v2.Conc.Lo, .i v2.Conc.Hi, .i v2.Thick.Lo, .i v2.Thick.Hi, .i v2.Ridge.Lo, .i v2.Ridge.Hi, .i v2.Press.Lo, .i v2.Press.Hi]) (fs := []) (caps := []) (extra := []) (lN rfl) en_17 rfl ⟨rfl, rfl, rfl⟩ (EvL.cons rfl EvL.nil) (fun mm aa ww gg hr hrel => (c17 F a1 ⟨a1_p, a1.length, a1_c⟩ ww (SlIs.mono ha1 hrel.below) h8a1 hlena1 v2 hv2))),
  okp rfl rfl (oqM (lN rfl) rfl),
  okp rfl rfl (oqC (x := .g [.i v3.Conc.Lo, .i v3.Conc.Hi, .i v3.Thick.Lo, .i v3.Thick.Hi, .i v3.Ridge.Lo, .i v3.Ridge.Hi, .i v3.Press.Lo, .i v3.Press.Hi]) (fs := []) (caps := []) (extra := []) (lN rfl) en_17 rfl ⟨rfl, rfl, rfl⟩ (EvL.cons rfl EvL.nil) (fun mm aa ww gg hr hrel => (c17 F a2 ⟨a2_p, a2.length, a2_c⟩ ww (SlIs.mono ha2 hrel.below) h8a2 hlena2 v3 hv3))),
  okp rfl rfl (oqa (L := 7) (lN rfl) zl_25),
  okp rfl rfl (oqa (L := 8) (lN rfl) zl_34),
  okp rfl rfl (oqa (L := 9) (lN rfl) zl_34),
  okp rfl rfl (oqS sz_25 rfl rfl rfl rfl rfl (by decide)),
  okp rfl rfl (oqS sz_34 rfl rfl rfl rfl rfl (by decide)),
  okp rfl rfl (oqS sz_34 rfl rfl rfl rfl rfl (by decide)),
  trivial⟩ ?_
 refine fqK (s' := (kt 3 (.v (.slice a3_p a3.length a3_c)) :: kt 4 (.v (.int .u8 a4)) :: kt 5 (.B a5) :: kt 13 (.p 7 0) :: kt 14 (.p 8 0) :: kt 15 (.p 9 0) :: kb 7 25 11 :: kb 8 34 8 :: kb 9 34 8 :: (.r 1, some (.vec true 2 84 2 (v1.Thrust.flatMap ePt))) :: (.r 3, some (.vec true 4 84 2 (v1.Water.flatMap ePt))) :: (.r 5, some (.vec true 6 84 2 (v1.Ice.flatMap ePt))) :: sK 7 v1 (.o 1 2 v1.Thrust.length) (.o 3 4 v1.Water.length) (.o 5 6 v1.Ice.length) [kc 8 0 (.i v2.Conc.Lo), kc 8 1 (.i v2.Conc.Hi), kc 8 2 (.i v2.Thick.Lo), kc 8 3 (.i v2.Thick.Hi), kc 8 4 (.i v2.Ridge.Lo), kc 8 5 (.i v2.Ridge.Hi), kc 8 6 (.i v2.Press.Lo), kc 8 7 (.i v2.Press.Hi), kc 9 0 (.i v3.Conc.Lo), kc 9 1 (.i v3.Conc.Hi), kc 9 2 (.i v3.Thick.Lo), kc 9 3 (.i v3.Thick.Hi), kc 9 4 (.i v3.Ridge.Lo), kc 9 5 (.i v3.Ridge.Hi), kc 9 6 (.i v3.Press.Lo), kc 9 7 (.i v3.Press.Hi)])) ?_ (kp rfl) rfl
 refine fqT ?_
 refine aqS ?_
 refine aqT (rows := [_, _, _, _]) rfl (by kernel_rfl) ⟨
  okp rfl rfl (oqM (lN rfl) rfl),
  okp rfl rfl (op_callTwo (L1 := 10) (L2 := 11) (ty1 := 3) (ty2 := 22) (v1 := [.int .i64 (idx a3 0)]) (v2 := [(.slice a3_p a3.length a3_c)]) (R := fun b1 b2 => .func (.func 83) #[] #[.pointer (some ⟨b1, 0, none⟩), .pointer (some ⟨b2, 0, none⟩)]) (x := .f (.func 83) [] [.p 10 0, .p 11 0]) (fs := []) (caps := []) (extra := []) (lN rfl) en_22 rfl ⟨rfl, rfl, rfl⟩ (EvL.cons rfl EvL.nil) (by decide) (fun _ => rfl) (fun mm aa ww gg hr hrel => (c22 a3 ⟨a3_p, a3.length, a3_c⟩ ww (SlIs.mono ha3 hrel.below)))),
  okp rfl rfl (oqa (L := 12) (lN rfl) zl_44),
  okp rfl rfl (oqs sz_44 rfl rfl rfl rfl (lN rfl)),
  trivial⟩ ?_
 refine fqK (s' := (kt 4 (.v (.int .u8 a4)) :: kt 5 (.B a5) :: kt 13 (.p 7 0) :: kt 14 (.p 8 0) :: kt 15 (.p 9 0) :: kt 16 (.p 12 0) :: kb 7 25 11 :: kb 8 34 8 :: kb 9 34 8 :: kb 10 3 1 :: kb 11 22 1 :: kb 12 44 1 :: (.r 1, some (.vec true 2 84 2 (v1.Thrust.flatMap ePt))) :: (.r 3, some (.vec true 4 84 2 (v1.Water.flatMap ePt))) :: (.r 5, some (.vec true 6 84 2 (v1.Ice.flatMap ePt))) :: sK 7 v1 (.o 1 2 v1.Thrust.length) (.o 3 4 v1.Water.length) (.o 5 6 v1.Ice.length) [kc 8 0 (.i v2.Conc.Lo), kc 8 1 (.i v2.Conc.Hi), kc 8 2 (.i v2.Thick.Lo), kc 8 3 (.i v2.Thick.Hi), kc 8 4 (.i v2.Ridge.Lo), kc 8 5 (.i v2.Ridge.Hi), kc 8 6 (.i v2.Press.Lo), kc 8 7 (.i v2.Press.Hi), kc 9 0 (.i v3.Conc.Lo), kc 9 1 (.i v3.Conc.Hi), kc 9 2 (.i v3.Thick.Lo), kc 9 3 (.i v3.Thick.Hi), kc 9 4 (.i v3.Ridge.Lo), kc 9 5 (.i v3.Ridge.Hi), kc 9 6 (.i v3.Press.Lo), kc 9 7 (.i v3.Press.Hi), kc 10 0 (.i (idx a3 0)), kc 11 0 (.v (.slice a3_p a3.length a3_c)), kc 12 0 (.f (.func 83) [] [.p 10 0, .p 11 0])])) ?_ (kp rfl) rfl
 refine fqT ?_
 refine aqS ?_
 refine aqT (rows := [_, _]) rfl (by kernel_rfl) ⟨
  okp rfl rfl (op_mkfn (lN rfl) EvL.nil (EvL.cons rfl EvL.nil)),
  okp rfl rfl (oqA (lN rfl) rfl),
  trivial⟩ ?_
 refine fqK (s' := (kt 4 (.v (.int .u8 a4)) :: kt 5 (.B a5) :: kt 13 (.p 7 0) :: kt 14 (.p 8 0) :: kt 15 (.p 9 0) :: kt 17 (.f (.func 67) [] [.p 12 0]) :: kb 7 25 11 :: kb 8 34 8 :: kb 9 34 8 :: kb 10 3 1 :: kb 11 22 1 :: kb 12 44 1 :: (.r 1, some (.vec true 2 84 2 (v1.Thrust.flatMap ePt))) :: (.r 3, some (.vec true 4 84 2 (v1.Water.flatMap ePt))) :: (.r 5, some (.vec true 6 84 2 (v1.Ice.flatMap ePt))) :: sK 7 v1 (.o 1 2 v1.Thrust.length) (.o 3 4 v1.Water.length) (.o 5 6 v1.Ice.length) [kc 8 0 (.i v2.Conc.Lo), kc 8 1 (.i v2.Conc.Hi), kc 8 2 (.i v2.Thick.Lo), kc 8 3 (.i v2.Thick.Hi), kc 8 4 (.i v2.Ridge.Lo), kc 8 5 (.i v2.Ridge.Hi), kc 8 6 (.i v2.Press.Lo), kc 8 7 (.i v2.Press.Hi), kc 9 0 (.i v3.Conc.Lo), kc 9 1 (.i v3.Conc.Hi), kc 9 2 (.i v3.Thick.Lo), kc 9 3 (.i v3.Thick.Hi), kc 9 4 (.i v3.Ridge.Lo), kc 9 5 (.i v3.Ridge.Hi), kc 9 6 (.i v3.Press.Lo), kc 9 7 (.i v3.Press.Hi), kc 10 0 (.i (idx a3 0)), kc 11 0 (.v (.slice a3_p a3.length a3_c)), kc 12 0 (.f (.func 83) [] [.p 10 0, .p 11 0])])) ?_ (kp rfl) rfl
 refine fqT ?_
 refine aqS ?_
 obtain ⟨v4, hv4, hm⟩ := bnd_some hm
 obtain ⟨v5, hv5, hm⟩ := bnd_some hm
 obtain ⟨hp1, hm⟩ := chk_some hm
 obtain ⟨v6, hv6, hm⟩ := bnd_some hm
 refine aw_any (rows := [_, _, _, _, _, _, _, _, _, _, _, _, _, _, _]) (M := [0, 0, 2, 0, 14, 30, 0, 64, 255, 511, 1023, 1023, 0, 6143, 16383]) Tryd_mixed (by kernel_rfl) rfl (by kernel_rfl) ⟨
  okp rfl rfl (oqL (ys := [.i v2.Conc.Lo, .i v2.Conc.Hi, .i v2.Thick.Lo, .i v2.Thick.Hi, .i v2.Ridge.Lo, .i v2.Ridge.Hi, .i v2.Press.Lo, .i v2.Press.Hi]) (lN rfl) sh_34 rfl rfl ⟨rfl, rfl, rfl, rfl, rfl, rfl, rfl, rfl, trivial⟩),
  okp rfl rfl (oqM (lN rfl) rfl),
  okp rfl rfl (op_callLentL (ls := [⟨12, 44, [.f (.func 83) [] [.p 10 0, .p 11 0]], [.f (.func 83) [] [.p 10 0, .p 11 0]]⟩, ⟨10, 3, [.i (idx a3 0)], [.i (idx a3 v4.2)]⟩, ⟨11, 22, [.v (.slice a3_p a3.length a3_c)], [.v (.slice a3_p a3.length a3_c)]⟩]) (x := .g [.i v4.1.Conc, .i v4.1.Thick, .i v4.1.Ridge, .i v4.1.Press]) (fs := []) (caps := [.p 12 0]) (extra := []) (lN rfl) en_67 rfl ⟨rfl, rfl, rfl⟩ EvL.nil ⟨rfl, ⟨rfl, trivial⟩, rfl, lb_ne rfl, ⟨rfl, ⟨rfl, trivial⟩, rfl, lb_ne rfl, ⟨rfl, ⟨rfl, trivial⟩, rfl, lb_ne rfl, trivial⟩⟩⟩ (fun mm aa ww gg hr hrel hbx hlo => (c67_0 F (mm 12) (mm 10) (mm 11) a3 ⟨a3_p, a3.length, a3_c⟩ 0 ww (hbx _ (.head _)) (hbx _ (.tail _ (.head _))) (hbx _ (.tail _ (.tail _ (.head _)))) (box_ne hrel hlo.2.2.2.2.1 hlo.1 (by decide)) (box_ne hrel hlo.2.2.2.2.2.2.2.2.1 hlo.1 (by decide)) (box_ne hrel hlo.2.2.2.2.2.2.2.2.1 hlo.2.2.2.2.1 (by decide)) (SlIs.mono ha3 hrel.below) h8a3 hlena3 (sl_ne ha3 (box_hi hrel hlo.1)) (sl_ne ha3 (box_hi hrel hlo.2.2.2.2.1)) (sl_ne ha3 (box_hi hrel hlo.2.2.2.2.2.2.2.2.1)) v4 hv4))),
  okp rfl rfl (oqM (lN rfl) rfl),
  okp rfl rfl (op_callLentL (ls := [⟨12, 44, [.f (.func 83) [] [.p 10 0, .p 11 0]], [.f (.func 83) [] [.p 10 0, .p 11 0]]⟩, ⟨10, 3, [.i (idx a3 v4.2)], [.i (idx a3 v5.2)]⟩, ⟨11, 22, [.v (.slice a3_p a3.length a3_c)], [.v (.slice a3_p a3.length a3_c)]⟩]) (x := .g [.i v5.1.Conc, .i v5.1.Thick, .i v5.1.Ridge, .i v5.1.Press]) (fs := []) (caps := [.p 12 0]) (extra := []) (lN rfl) en_67 rfl ⟨rfl, rfl, rfl⟩ EvL.nil ⟨rfl, ⟨rfl, trivial⟩, rfl, lb_ne rfl, ⟨rfl, ⟨rfl, trivial⟩, rfl, lb_ne rfl, ⟨rfl, ⟨rfl, trivial⟩, rfl, lb_ne rfl, trivial⟩⟩⟩ (fun mm aa ww gg hr hrel hbx hlo => (c67_0 F (mm 12) (mm 10) (mm 11) a3 ⟨a3_p, a3.length, a3_c⟩ v4.2 ww (hbx _ (.head _)) (hbx _ (.tail _ (.head _))) (hbx _ (.tail _ (.tail _ (.head _)))) (box_ne hrel hlo.2.2.2.2.1 hlo.1 (by decide)) (box_ne hrel hlo.2.2.2.2.2.2.2.2.1 hlo.1 (by decide)) (box_ne hrel hlo.2.2.2.2.2.2.2.2.1 hlo.2.2.2.2.1 (by decide)) (SlIs.mono ha3 hrel.below) h8a3 hlena3 (sl_ne ha3 (box_hi hrel hlo.1)) (sl_ne ha3 (box_hi hrel hlo.2.2.2.2.1)) (sl_ne ha3 (box_hi hrel hlo.2.2.2.2.2.2.2.2.1)) v5 hv5))),
  okp rfl rfl (op_build (x := .g [.i v4.1.Conc, .i v4.1.Thick, .i v4.1.Ridge, .i v4.1.Press, .i v5.1.Conc, .i v5.1.Thick, .i v5.1.Ridge, .i v5.1.Press]) (lN rfl) (EvL.cons rfl (EvL.cons rfl EvL.nil)) (fun m w => by kernel_rfl)),
  okp rfl rfl (oqM (lN rfl) rfl),
  okp rfl rfl (op_convInt (lN rfl) (Option.isSome_iff_exists.1 us_5) un_3 rfl (wrap_of hp1)),
  okp rfl rfl (oqC (x := .t [.g [.i v6.1.Conc.Lo, .i v6.1.Conc.Hi, .i v6.1.Thick.Lo, .i v6.1.Thick.Hi, .i v6.1.Ridge.Lo, .i v6.1.Ridge.Hi, .i v6.1.Press.Lo, .i v6.1.Press.Hi], .i v6.2]) (fs := []) (caps := []) (extra := []) (lN rfl) en_68 rfl ⟨rfl, rfl, rfl⟩ (EvL.cons rfl (EvL.cons rfl (EvL.cons rfl EvL.nil))) (fun mm aa ww gg hr hrel => (c68 F v2 ((⟨v4.1, v5.1⟩ : Rates)) a4 ww v6 hv6))),
  okp rfl rfl (oqM (lN rfl) rfl),
  okp rfl rfl (oqx (lN rfl) rfl rfl),
  okp rfl rfl (oqx (lN rfl) rfl rfl),
  okp rfl rfl (oqa (L := 13) (lN rfl) zl_34),
  okp rfl rfl (oqS sz_34 rfl rfl rfl rfl rfl (by decide)),
  okp rfl rfl (oqA (lN rfl) rfl),
  trivial⟩ ?_
 refine fqK (s' := (kt 5 (.B a5) :: kt 13 (.p 7 0) :: kt 14 (.p 8 0) :: kt 15 (.p 9 0) :: kt 18 (.p 13 0) :: kt 19 (.i v6.2) :: kb 7 25 11 :: kb 8 34 8 :: kb 9 34 8 :: kb 13 34 8 :: (.r 1, some (.vec true 2 84 2 (v1.Thrust.flatMap ePt))) :: (.r 3, some (.vec true 4 84 2 (v1.Water.flatMap ePt))) :: (.r 5, some (.vec true 6 84 2 (v1.Ice.flatMap ePt))) :: sK 7 v1 (.o 1 2 v1.Thrust.length) (.o 3 4 v1.Water.length) (.o 5 6 v1.Ice.length) [kc 8 0 (.i v2.Conc.Lo), kc 8 1 (.i v2.Conc.Hi), kc 8 2 (.i v2.Thick.Lo), kc 8 3 (.i v2.Thick.Hi), kc 8 4 (.i v2.Ridge.Lo), kc 8 5 (.i v2.Ridge.Hi), kc 8 6 (.i v2.Press.Lo), kc 8 7 (.i v2.Press.Hi), kc 9 0 (.i v3.Conc.Lo), kc 9 1 (.i v3.Conc.Hi), kc 9 2 (.i v3.Thick.Lo), kc 9 3 (.i v3.Thick.Hi), kc 9 4 (.i v3.Ridge.Lo), kc 9 5 (.i v3.Ridge.Hi), kc 9 6 (.i v3.Press.Lo), kc 9 7 (.i v3.Press.Hi), kc 13 0 (.i v6.1.Conc.Lo), kc 13 1 (.i v6.1.Conc.Hi), kc 13 2 (.i v6.1.Thick.Lo), kc 13 3 (.i v6.1.Thick.Hi), kc 13 4 (.i v6.1.Ridge.Lo), kc 13 5 (.i v6.1.Ridge.Hi), kc 13 6 (.i v6.1.Press.Lo), kc 13 7 (.i v6.1.Press.Hi)])) ?_ (kp rfl) rfl
 refine fqT ?_
 refine aqS ?_
 obtain ⟨v7, hv7, hm⟩ := bnd_some hm
 refine aqT (rows := [_, _, _, _, _, _, _, _, _]) rfl (by kernel_rfl) ⟨
  okp rfl rfl (oqL (ys := [.i v2.Conc.Lo, .i v2.Conc.Hi, .i v2.Thick.Lo, .i v2.Thick.Hi, .i v2.Ridge.Lo, .i v2.Ridge.Hi, .i v2.Press.Lo, .i v2.Press.Hi]) (lN rfl) sh_34 rfl rfl ⟨rfl, rfl, rfl, rfl, rfl, rfl, rfl, rfl, trivial⟩),
  okp rfl rfl (oqL (ys := [.i v3.Conc.Lo, .i v3.Conc.Hi, .i v3.Thick.Lo, .i v3.Thick.Hi, .i v3.Ridge.Lo, .i v3.Ridge.Hi, .i v3.Press.Lo, .i v3.Press.Hi]) (lN rfl) sh_34 rfl rfl ⟨rfl, rfl, rfl, rfl, rfl, rfl, rfl, rfl, trivial⟩),
  okp rfl rfl (oqC (x := .t [.g [.i v7.1.Conc.Lo, .i v7.1.Conc.Hi, .i v7.1.Thick.Lo, .i v7.1.Thick.Hi, .i v7.1.Ridge.Lo, .i v7.1.Ridge.Hi, .i v7.1.Press.Lo, .i v7.1.Press.Hi], .i v7.2]) (fs := []) (caps := []) (extra := []) (lN rfl) en_69 rfl ⟨rfl, rfl, rfl⟩ (EvL.cons rfl (EvL.cons rfl EvL.nil)) (fun mm aa ww gg hr hrel => (c69 F v2 v3 ww v7 hv7))),
  okp rfl rfl (oqM (lN rfl) rfl),
  okp rfl rfl (oqx (lN rfl) rfl rfl),
  okp rfl rfl (oqx (lN rfl) rfl rfl),
  okp rfl rfl (oqa (L := 14) (lN rfl) zl_34),
  okp rfl rfl (oqS sz_34 rfl rfl rfl rfl rfl (by decide)),
  okp rfl rfl (oqA (lN rfl) rfl),
  trivial⟩ ?_
 refine fqK (s' := (kt 5 (.B a5) :: kt 13 (.p 7 0) :: kt 14 (.p 8 0) :: kt 15 (.p 9 0) :: kt 18 (.p 13 0) :: kt 19 (.i v6.2) :: kt 20 (.p 14 0) :: kt 21 (.i v7.2) :: kb 7 25 11 :: kb 8 34 8 :: kb 9 34 8 :: kb 13 34 8 :: kb 14 34 8 :: (.r 1, some (.vec true 2 84 2 (v1.Thrust.flatMap ePt))) :: (.r 3, some (.vec true 4 84 2 (v1.Water.flatMap ePt))) :: (.r 5, some (.vec true 6 84 2 (v1.Ice.flatMap ePt))) :: sK 7 v1 (.o 1 2 v1.Thrust.length) (.o 3 4 v1.Water.length) (.o 5 6 v1.Ice.length) [kc 8 0 (.i v2.Conc.Lo), kc 8 1 (.i v2.Conc.Hi), kc 8 2 (.i v2.Thick.Lo), kc 8 3 (.i v2.Thick.Hi), kc 8 4 (.i v2.Ridge.Lo), kc 8 5 (.i v2.Ridge.Hi), kc 8 6 (.i v2.Press.Lo), kc 8 7 (.i v2.Press.Hi), kc 9 0 (.i v3.Conc.Lo), kc 9 1 (.i v3.Conc.Hi), kc 9 2 (.i v3.Thick.Lo), kc 9 3 (.i v3.Thick.Hi), kc 9 4 (.i v3.Ridge.Lo), kc 9 5 (.i v3.Ridge.Hi), kc 9 6 (.i v3.Press.Lo), kc 9 7 (.i v3.Press.Hi), kc 13 0 (.i v6.1.Conc.Lo), kc 13 1 (.i v6.1.Conc.Hi), kc 13 2 (.i v6.1.Thick.Lo), kc 13 3 (.i v6.1.Thick.Hi), kc 13 4 (.i v6.1.Ridge.Lo), kc 13 5 (.i v6.1.Ridge.Hi), kc 13 6 (.i v6.1.Press.Lo), kc 13 7 (.i v6.1.Press.Hi), kc 14 0 (.i v7.1.Conc.Lo), kc 14 1 (.i v7.1.Conc.Hi), kc 14 2 (.i v7.1.Thick.Lo), kc 14 3 (.i v7.1.Thick.Hi), kc 14 4 (.i v7.1.Ridge.Lo), kc 14 5 (.i v7.1.Ridge.Hi), kc 14 6 (.i v7.1.Press.Lo), kc 14 7 (.i v7.1.Press.Hi)])) ?_ (kp rfl) rfl
 refine fqT ?_
 refine aqS ?_
 obtain ⟨v8, hv8, hm⟩ := bnd_some hm
 refine aqT (rows := [_, _, _, _, _, _, _, _, _]) rfl (by kernel_rfl) ⟨
  okp rfl rfl (oqL (ys := [.i v2.Conc.Lo, .i v2.Conc.Hi, .i v2.Thick.Lo, .i v2.Thick.Hi, .i v2.Ridge.Lo, .i v2.Ridge.Hi, .i v2.Press.Lo, .i v2.Press.Hi]) (lN rfl) sh_34 rfl rfl ⟨rfl, rfl, rfl, rfl, rfl, rfl, rfl, rfl, trivial⟩),
  okp rfl rfl (oqL (ys := [.i v3.Conc.Lo, .i v3.Conc.Hi, .i v3.Thick.Lo, .i v3.Thick.Hi, .i v3.Ridge.Lo, .i v3.Ridge.Hi, .i v3.Press.Lo, .i v3.Press.Hi]) (lN rfl) sh_34 rfl rfl ⟨rfl, rfl, rfl, rfl, rfl, rfl, rfl, rfl, trivial⟩),
  okp rfl rfl (oqC (x := .t [.g [.i v8.1.Conc.Lo, .i v8.1.Conc.Hi, .i v8.1.Thick.Lo, .i v8.1.Thick.Hi, .i v8.1.Ridge.Lo, .i v8.1.Ridge.Hi, .i v8.1.Press.Lo, .i v8.1.Press.Hi], .i v8.2]) (fs := []) (caps := []) (extra := []) (lN rfl) en_70 rfl ⟨rfl, rfl, rfl⟩ (EvL.cons rfl (EvL.cons rfl EvL.nil)) (fun mm aa ww gg hr hrel => (c70 F v2 v3 ww v8 hv8))),
  okp rfl rfl (oqM (lN rfl) rfl),
  okp rfl rfl (oqx (lN rfl) rfl rfl),
  okp rfl rfl (oqx (lN rfl) rfl rfl),
  okp rfl rfl (oqa (L := 15) (lN rfl) zl_34),
  okp rfl rfl (oqS sz_34 rfl rfl rfl rfl rfl (by decide)),
  okp rfl rfl (oqA (lN rfl) rfl),
  trivial⟩ ?_
 refine fqK (s' := (kt 5 (.B a5) :: kt 13 (.p 7 0) :: kt 14 (.p 8 0) :: kt 15 (.p 9 0) :: kt 18 (.p 13 0) :: kt 19 (.i v6.2) :: kt 20 (.p 14 0) :: kt 21 (.i v7.2) :: kt 22 (.p 15 0) :: kt 23 (.i v8.2) :: kb 7 25 11 :: kb 8 34 8 :: kb 9 34 8 :: kb 13 34 8 :: kb 14 34 8 :: kb 15 34 8 :: (.r 1, some (.vec true 2 84 2 (v1.Thrust.flatMap ePt))) :: (.r 3, some (.vec true 4 84 2 (v1.Water.flatMap ePt))) :: (.r 5, some (.vec true 6 84 2 (v1.Ice.flatMap ePt))) :: sK 7 v1 (.o 1 2 v1.Thrust.length) (.o 3 4 v1.Water.length) (.o 5 6 v1.Ice.length) [kc 8 0 (.i v2.Conc.Lo), kc 8 1 (.i v2.Conc.Hi), kc 8 2 (.i v2.Thick.Lo), kc 8 3 (.i v2.Thick.Hi), kc 8 4 (.i v2.Ridge.Lo), kc 8 5 (.i v2.Ridge.Hi), kc 8 6 (.i v2.Press.Lo), kc 8 7 (.i v2.Press.Hi), kc 9 0 (.i v3.Conc.Lo), kc 9 1 (.i v3.Conc.Hi), kc 9 2 (.i v3.Thick.Lo), kc 9 3 (.i v3.Thick.Hi), kc 9 4 (.i v3.Ridge.Lo), kc 9 5 (.i v3.Ridge.Hi), kc 9 6 (.i v3.Press.Lo), kc 9 7 (.i v3.Press.Hi), kc 13 0 (.i v6.1.Conc.Lo), kc 13 1 (.i v6.1.Conc.Hi), kc 13 2 (.i v6.1.Thick.Lo), kc 13 3 (.i v6.1.Thick.Hi), kc 13 4 (.i v6.1.Ridge.Lo), kc 13 5 (.i v6.1.Ridge.Hi), kc 13 6 (.i v6.1.Press.Lo), kc 13 7 (.i v6.1.Press.Hi), kc 14 0 (.i v7.1.Conc.Lo), kc 14 1 (.i v7.1.Conc.Hi), kc 14 2 (.i v7.1.Thick.Lo), kc 14 3 (.i v7.1.Thick.Hi), kc 14 4 (.i v7.1.Ridge.Lo), kc 14 5 (.i v7.1.Ridge.Hi), kc 14 6 (.i v7.1.Press.Lo), kc 14 7 (.i v7.1.Press.Hi), kc 15 0 (.i v8.1.Conc.Lo), kc 15 1 (.i v8.1.Conc.Hi), kc 15 2 (.i v8.1.Thick.Lo), kc 15 3 (.i v8.1.Thick.Hi), kc 15 4 (.i v8.1.Ridge.Lo), kc 15 5 (.i v8.1.Ridge.Hi), kc 15 6 (.i v8.1.Press.Lo), kc 15 7 (.i v8.1.Press.Hi)])) ?_ (kp rfl) rfl
 refine fqT ?_
 refine aqS ?_
 refine aqS ?_
 refine aqT (rows := [_, _, _, _, _, _, _, _, _, _, _, _, _, _]) rfl (by kernel_rfl) ⟨
  okp rfl rfl (oqM (lN rfl) rfl),
  okp rfl rfl (oqB (lN rfl) rfl rfl rfl),
  okp rfl rfl (oqM (lN rfl) rfl),
  ok_if (lN rfl) rfl rfl rfl rfl rfl rfl (fun hg2 => oqM (lN rfl) (force_x rfl)),
  ok_if (lN rfl) rfl rfl rfl rfl rfl rfl (fun hg3 => oqB (lN rfl) (force_eq (beq_iff_eq.2 hg3) rfl) rfl rfl),
  okp rfl rfl (op_or (lN rfl) rfl rfl),
  okp rfl rfl (oqM (lN rfl) rfl),
  ok_if (lN rfl) rfl rfl rfl rfl rfl rfl (fun hg4 => oqM (lN rfl) (force_x rfl)),
  ok_if (lN rfl) rfl rfl rfl rfl rfl rfl (fun hg5 => oqB (lN rfl) (force_eq (beq_iff_eq.2 hg5) rfl) rfl rfl),
  ok_if (lN rfl) rfl rfl rfl rfl rfl rfl (fun hg6 => oqM (lN rfl) (force_eq (beq_iff_eq.2 hg6) rfl)),
  ok_ifC (lN rfl) rfl rfl rfl rfl rfl rfl (fun hg7 => oqM (lN rfl) (force_x rfl)),
  ok_ifC (lN rfl) rfl rfl rfl rfl rfl rfl (fun hg8 => oqB (lN rfl) (force_eq hg8 rfl) rfl rfl),
  ok_if (lN rfl) rfl rfl rfl rfl rfl rfl (fun hg9 => op_andF (lN rfl) (beq_iff_eq.2 hg9) rfl rfl),
  okp rfl rfl (op_or (lN rfl) rfl rfl),
  trivial⟩ ?_
 refine fqK (s' := (kt 5 (.B a5) :: kt 13 (.p 7 0) :: kt 14 (.p 8 0) :: kt 15 (.p 9 0) :: kt 18 (.p 13 0) :: kt 20 (.p 14 0) :: kt 22 (.p 15 0) :: kt 23 (.i v8.2) :: kt 79 (.B (((v6.2 != 0) || (v7.2 != 0)) || ((v8.2 != 0) && (v8.2 != 21)))) :: kb 7 25 11 :: kb 8 34 8 :: kb 9 34 8 :: kb 13 34 8 :: kb 14 34 8 :: kb 15 34 8 :: (.r 1, some (.vec true 2 84 2 (v1.Thrust.flatMap ePt))) :: (.r 3, some (.vec true 4 84 2 (v1.Water.flatMap ePt))) :: (.r 5, some (.vec true 6 84 2 (v1.Ice.flatMap ePt))) :: sK 7 v1 (.o 1 2 v1.Thrust.length) (.o 3 4 v1.Water.length) (.o 5 6 v1.Ice.length) [kc 8 0 (.i v2.Conc.Lo), kc 8 1 (.i v2.Conc.Hi), kc 8 2 (.i v2.Thick.Lo), kc 8 3 (.i v2.Thick.Hi), kc 8 4 (.i v2.Ridge.Lo), kc 8 5 (.i v2.Ridge.Hi), kc 8 6 (.i v2.Press.Lo), kc 8 7 (.i v2.Press.Hi), kc 9 0 (.i v3.Conc.Lo), kc 9 1 (.i v3.Conc.Hi), kc 9 2 (.i v3.Thick.Lo), kc 9 3 (.i v3.Thick.Hi), kc 9 4 (.i v3.Ridge.Lo), kc 9 5 (.i v3.Ridge.Hi), kc 9 6 (.i v3.Press.Lo), kc 9 7 (.i v3.Press.Hi), kc 13 0 (.i v6.1.Conc.Lo), kc 13 1 (.i v6.1.Conc.Hi), kc 13 2 (.i v6.1.Thick.Lo), kc 13 3 (.i v6.1.Thick.Hi), kc 13 4 (.i v6.1.Ridge.Lo), kc 13 5 (.i v6.1.Ridge.Hi), kc 13 6 (.i v6.1.Press.Lo), kc 13 7 (.i v6.1.Press.Hi), kc 14 0 (.i v7.1.Conc.Lo), kc 14 1 (.i v7.1.Conc.Hi), kc 14 2 (.i v7.1.Thick.Lo), kc 14 3 (.i v7.1.Thick.Hi), kc 14 4 (.i v7.1.Ridge.Lo), kc 14 5 (.i v7.1.Ridge.Hi), kc 14 6 (.i v7.1.Press.Lo), kc 14 7 (.i v7.1.Press.Hi), kc 15 0 (.i v8.1.Conc.Lo), kc 15 1 (.i v8.1.Conc.Hi), kc 15 2 (.i v8.1.Thick.Lo), kc 15 3 (.i v8.1.Thick.Hi), kc 15 4 (.i v8.1.Ridge.Lo), kc 15 5 (.i v8.1.Ridge.Hi), kc 15 6 (.i v8.1.Press.Lo), kc 15 7 (.i v8.1.Press.Hi)])) ?_ (kp rfl) rfl
 refine fqT ?_
 refine aqc rfl (fun hz10 => ?_) (fun hz10 => ?_)
 ·have hm := brk_t hz10 hm
  refine aqS ?_
  refine aqT (rows := [_]) rfl (by kernel_rfl) ⟨
   okp rfl rfl (oqA (lN rfl) rfl),
   trivial⟩ ?_
  refine fqK (s' := [kt 12 (.B false)]) ?_ (kp rfl) rfl
  refine fqT ?_
  refine aqr ?_
  refine fqR ?_
  refine pqr (x := .B false) rfl rfl (rqT rfl rqN) rfl (fun mm aa ww hr => ?_)
  have hm := Option.some.inj hm
  subst hm
  exact ⟨rfl, hr.below⟩
 ·have hm := brk_f hz10 hm
  refine aqk ?_
  refine fqT ?_
  refine aqS ?_
  refine aqT (rows := [_, _, _, _, _]) rfl (by kernel_rfl) ⟨
   okp rfl rfl (oqL (ys := [.i v6.1.Conc.Lo, .i v6.1.Conc.Hi, .i v6.1.Thick.Lo, .i v6.1.Thick.Hi, .i v6.1.Ridge.Lo, .i v6.1.Ridge.Hi, .i v6.1.Press.Lo, .i v6.1.Press.Hi]) (lN rfl) sh_34 rfl rfl ⟨rfl, rfl, rfl, rfl, rfl, rfl, rfl, rfl, trivial⟩),
   okp rfl rfl (oqL (ys := [.i v7.1.Conc.Lo, .i v7.1.Conc.Hi, .i v7.1.Thick.Lo, .i v7.1.Thick.Hi, .i v7.1.Ridge.Lo, .i v7.1.Ridge.Hi, .i v7.1.Press.Lo, .i v7.1.Press.Hi]) (lN rfl) sh_34 rfl rfl ⟨rfl, rfl, rfl, rfl, rfl, rfl, rfl, rfl, trivial⟩),
   okp rfl rfl (oqL (ys := [.i v7.1.Conc.Lo, .i v7.1.Conc.Hi, .i v7.1.Thick.Lo, .i v7.1.Thick.Hi, .i v7.1.Ridge.Lo, .i v7.1.Ridge.Hi, .i v7.1.Press.Lo, .i v7.1.Press.Hi]) (lN rfl) sh_34 rfl rfl ⟨rfl, rfl, rfl, rfl, rfl, rfl, rfl, rfl, trivial⟩),
   okp rfl rfl (op_buildSlice (L := 16) (ety := 34) (cs := [.i v6.1.Conc.Lo, .i v6.1.Conc.Hi, .i v6.1.Thick.Lo, .i v6.1.Thick.Hi, .i v6.1.Ridge.Lo, .i v6.1.Ridge.Hi, .i v6.1.Press.Lo, .i v6.1.Press.Hi, .i v7.1.Conc.Lo, .i v7.1.Conc.Hi, .i v7.1.Thick.Lo, .i v7.1.Thick.Hi, .i v7.1.Ridge.Lo, .i v7.1.Ridge.Hi, .i v7.1.Press.Lo, .i v7.1.Press.Hi, .i v7.1.Conc.Lo, .i v7.1.Conc.Hi, .i v7.1.Thick.Lo, .i v7.1.Thick.Hi, .i v7.1.Ridge.Lo, .i v7.1.Ridge.Hi, .i v7.1.Press.Lo, .i v7.1.Press.Hi]) (lN rfl) (EvL.cons rfl (EvL.cons rfl (EvL.cons rfl EvL.nil))) rfl (fun m w => by kernel_rfl)),
   okp rfl rfl (oqA (lN rfl) rfl),
   trivial⟩ ?_
  refine fqK (s' := (kt 5 (.B a5) :: kt 13 (.p 7 0) :: kt 14 (.p 8 0) :: kt 15 (.p 9 0) :: kt 22 (.p 15 0) :: kt 23 (.i v8.2) :: kt 24 (.s 16 0 3 3) :: kb 7 25 11 :: kb 8 34 8 :: kb 9 34 8 :: kb 15 34 8 :: kb 16 34 24 :: (.r 1, some (.vec true 2 84 2 (v1.Thrust.flatMap ePt))) :: (.r 3, some (.vec true 4 84 2 (v1.Water.flatMap ePt))) :: (.r 5, some (.vec true 6 84 2 (v1.Ice.flatMap ePt))) :: sK 7 v1 (.o 1 2 v1.Thrust.length) (.o 3 4 v1.Water.length) (.o 5 6 v1.Ice.length) [kc 8 0 (.i v2.Conc.Lo), kc 8 1 (.i v2.Conc.Hi), kc 8 2 (.i v2.Thick.Lo), kc 8 3 (.i v2.Thick.Hi), kc 8 4 (.i v2.Ridge.Lo), kc 8 5 (.i v2.Ridge.Hi), kc 8 6 (.i v2.Press.Lo), kc 8 7 (.i v2.Press.Hi), kc 9 0 (.i v3.Conc.Lo), kc 9 1 (.i v3.Conc.Hi), kc 9 2 (.i v3.Thick.Lo), kc 9 3 (.i v3.Thick.Hi), kc 9 4 (.i v3.Ridge.Lo), kc 9 5 (.i v3.Ridge.Hi), kc 9 6 (.i v3.Press.Lo), kc 9 7 (.i v3.Press.Hi), kc 15 0 (.i v8.1.Conc.Lo), kc 15 1 (.i v8.1.Conc.Hi), kc 15 2 (.i v8.1.Thick.Lo), kc 15 3 (.i v8.1.Thick.Hi), kc 15 4 (.i v8.1.Ridge.Lo), kc 15 5 (.i v8.1.Ridge.Hi), kc 15 6 (.i v8.1.Press.Lo), kc 15 7 (.i v8.1.Press.Hi), kc 16 0 (.i v6.1.Conc.Lo), kc 16 1 (.i v6.1.Conc.Hi), kc 16 2 (.i v6.1.Thick.Lo), kc 16 3 (.i v6.1.Thick.Hi), kc 16 4 (.i v6.1.Ridge.Lo), kc 16 5 (.i v6.1.Ridge.Hi), kc 16 6 (.i v6.1.Press.Lo), kc 16 7 (.i v6.1.Press.Hi), kc 16 8 (.i v7.1.Conc.Lo), kc 16 9 (.i v7.1.Conc.Hi), kc 16 10 (.i v7.1.Thick.Lo), kc 16 11 (.i v7.1.Thick.Hi), kc 16 12 (.i v7.1.Ridge.Lo), kc 16 13 (.i v7.1.Ridge.Hi), kc 16 14 (.i v7.1.Press.Lo), kc 16 15 (.i v7.1.Press.Hi), kc 16 16 (.i v7.1.Conc.Lo), kc 16 17 (.i v7.1.Conc.Hi), kc 16 18 (.i v7.1.Thick.Lo), kc 16 19 (.i v7.1.Thick.Hi), kc 16 20 (.i v7.1.Ridge.Lo), kc 16 21 (.i v7.1.Ridge.Hi), kc 16 22 (.i v7.1.Press.Lo), kc 16 23 (.i v7.1.Press.Hi)])) ?_ (kp rfl) rfl
  refine fqT ?_
  refine aqS ?_
  refine aqT (rows := [_, _, _, _, _]) rfl (by kernel_rfl) ⟨
   okp rfl rfl (oqL (ys := [.i v2.Conc.Lo, .i v2.Conc.Hi, .i v2.Thick.Lo, .i v2.Thick.Hi, .i v2.Ridge.Lo, .i v2.Ridge.Hi, .i v2.Press.Lo, .i v2.Press.Hi]) (lN rfl) sh_34 rfl rfl ⟨rfl, rfl, rfl, rfl, rfl, rfl, rfl, rfl, trivial⟩),
   okp rfl rfl (oqL (ys := [.i v2.Conc.Lo, .i v2.Conc.Hi, .i v2.Thick.Lo, .i v2.Thick.Hi, .i v2.Ridge.Lo, .i v2.Ridge.Hi, .i v2.Press.Lo, .i v2.Press.Hi]) (lN rfl) sh_34 rfl rfl ⟨rfl, rfl, rfl, rfl, rfl, rfl, rfl, rfl, trivial⟩),
   okp rfl rfl (oqL (ys := [.i v3.Conc.Lo, .i v3.Conc.Hi, .i v3.Thick.Lo, .i v3.Thick.Hi, .i v3.Ridge.Lo, .i v3.Ridge.Hi, .i v3.Press.Lo, .i v3.Press.Hi]) (lN rfl) sh_34 rfl rfl ⟨rfl, rfl, rfl, rfl, rfl, rfl, rfl, rfl, trivial⟩),
   okp rfl rfl (op_buildSlice (L := 17) (ety := 34) (cs := [.i v2.Conc.Lo, .i v2.Conc.Hi, .i v2.Thick.Lo, .i v2.Thick.Hi, .i v2.Ridge.Lo, .i v2.Ridge.Hi, .i v2.Press.Lo, .i v2.Press.Hi, .i v2.Conc.Lo, .i v2.Conc.Hi, .i v2.Thick.Lo, .i v2.Thick.Hi, .i v2.Ridge.Lo, .i v2.Ridge.Hi, .i v2.Press.Lo, .i v2.Press.Hi, .i v3.Conc.Lo, .i v3.Conc.Hi, .i v3.Thick.Lo, .i v3.Thick.Hi, .i v3.Ridge.Lo, .i v3.Ridge.Hi, .i v3.Press.Lo, .i v3.Press.Hi]) (lN rfl) (EvL.cons rfl (EvL.cons rfl (EvL.cons rfl EvL.nil))) rfl (fun m w => by kernel_rfl)),
   okp rfl rfl (oqA (lN rfl) rfl),
   trivial⟩ ?_
  refine fqK (s' := (kt 5 (.B a5) :: kt 13 (.p 7 0) :: kt 14 (.p 8 0) :: kt 15 (.p 9 0) :: kt 22 (.p 15 0) :: kt 23 (.i v8.2) :: kt 24 (.s 16 0 3 3) :: kt 25 (.s 17 0 3 3) :: kb 7 25 11 :: kb 8 34 8 :: kb 9 34 8 :: kb 15 34 8 :: kb 16 34 24 :: kb 17 34 24 :: (.r 1, some (.vec true 2 84 2 (v1.Thrust.flatMap ePt))) :: (.r 3, some (.vec true 4 84 2 (v1.Water.flatMap ePt))) :: (.r 5, some (.vec true 6 84 2 (v1.Ice.flatMap ePt))) :: sK 7 v1 (.o 1 2 v1.Thrust.length) (.o 3 4 v1.Water.length) (.o 5 6 v1.Ice.length) [kc 8 0 (.i v2.Conc.Lo), kc 8 1 (.i v2.Conc.Hi), kc 8 2 (.i v2.Thick.Lo), kc 8 3 (.i v2.Thick.Hi), kc 8 4 (.i v2.Ridge.Lo), kc 8 5 (.i v2.Ridge.Hi), kc 8 6 (.i v2.Press.Lo), kc 8 7 (.i v2.Press.Hi), kc 9 0 (.i v3.Conc.Lo), kc 9 1 (.i v3.Conc.Hi), kc 9 2 (.i v3.Thick.Lo), kc 9 3 (.i v3.Thick.Hi), kc 9 4 (.i v3.Ridge.Lo), kc 9 5 (.i v3.Ridge.Hi), kc 9 6 (.i v3.Press.Lo), kc 9 7 (.i v3.Press.Hi), kc 15 0 (.i v8.1.Conc.Lo), kc 15 1 (.i v8.1.Conc.Hi), kc 15 2 (.i v8.1.Thick.Lo), kc 15 3 (.i v8.1.Thick.Hi), kc 15 4 (.i v8.1.Ridge.Lo), kc 15 5 (.i v8.1.Ridge.Hi), kc 15 6 (.i v8.1.Press.Lo), kc 15 7 (.i v8.1.Press.Hi), kc 16 0 (.i v6.1.Conc.Lo), kc 16 1 (.i v6.1.Conc.Hi), kc 16 2 (.i v6.1.Thick.Lo), kc 16 3 (.i v6.1.Thick.Hi), kc 16 4 (.i v6.1.Ridge.Lo), kc 16 5 (.i v6.1.Ridge.Hi), kc 16 6 (.i v6.1.Press.Lo), kc 16 7 (.i v6.1.Press.Hi), kc 16 8 (.i v7.1.Conc.Lo), kc 16 9 (.i v7.1.Conc.Hi), kc 16 10 (.i v7.1.Thick.Lo), kc 16 11 (.i v7.1.Thick.Hi), kc 16 12 (.i v7.1.Ridge.Lo), kc 16 13 (.i v7.1.Ridge.Hi), kc 16 14 (.i v7.1.Press.Lo), kc 16 15 (.i v7.1.Press.Hi), kc 16 16 (.i v7.1.Conc.Lo), kc 16 17 (.i v7.1.Conc.Hi), kc 16 18 (.i v7.1.Thick.Lo), kc 16 19 (.i v7.1.Thick.Hi), kc 16 20 (.i v7.1.Ridge.Lo), kc 16 21 (.i v7.1.Ridge.Hi), kc 16 22 (.i v7.1.Press.Lo), kc 16 23 (.i v7.1.Press.Hi), kc 17 0 (.i v2.Conc.Lo), kc 17 1 (.i v2.Conc.Hi), kc 17 2 (.i v2.Thick.Lo), kc 17 3 (.i v2.Thick.Hi), kc 17 4 (.i v2.Ridge.Lo), kc 17 5 (.i v2.Ridge.Hi), kc 17 6 (.i v2.Press.Lo), kc 17 7 (.i v2.Press.Hi), kc 17 8 (.i v2.Conc.Lo), kc 17 9 (.i v2.Conc.Hi), kc 17 10 (.i v2.Thick.Lo), kc 17 11 (.i v2.Thick.Hi), kc 17 12 (.i v2.Ridge.Lo), kc 17 13 (.i v2.Ridge.Hi), kc 17 14 (.i v2.Press.Lo), kc 17 15 (.i v2.Press.Hi), kc 17 16 (.i v3.Conc.Lo), kc 17 17 (.i v3.Conc.Hi), kc 17 18 (.i v3.Thick.Lo), kc 17 19 (.i v3.Thick.Hi), kc 17 20 (.i v3.Ridge.Lo), kc 17 21 (.i v3.Ridge.Hi), kc 17 22 (.i v3.Press.Lo), kc 17 23 (.i v3.Press.Hi)])) ?_ (kp rfl) rfl
  refine fqT ?_
  refine aw_cutM (ι := List Cell × List Cell) hm (fun x1 => (kt 5 (.B a5) :: kt 13 (.p 7 0) :: kt 24 (.o 300 301 x1.1.length) :: kt 25 (.o 302 303 x1.2.length) :: kb 7 25 11 :: (.r 1, some (.vec true 2 84 2 (v1.Thrust.flatMap ePt))) :: (.r 3, some (.vec true 4 84 2 (v1.Water.flatMap ePt))) :: (.r 5, some (.vec true 6 84 2 (v1.Ice.flatMap ePt))) :: (.r 300, some (.vec true 301 34 8 (x1.1.flatMap encCell))) :: (.r 302, some (.vec true 303 34 8 (x1.2.flatMap encCell))) :: sK 7 v1 (.o 1 2 v1.Thrust.length) (.o 3 4 v1.Water.length) (.o 5 6 v1.Ice.length) [])) (fun hm => ?_) (fun x1 hm => ?_)
  ·have _z := hm
   refine aqS ?_
   refine aqT (rows := [_, _]) rfl (by kernel_rfl) ⟨
    okp rfl rfl (oqM (lN rfl) rfl),
    okp rfl rfl (oqB (lN rfl) rfl rfl rfl),
    trivial⟩ ?_
   refine fqK (s' := (kt 5 (.B a5) :: kt 13 (.p 7 0) :: kt 14 (.p 8 0) :: kt 15 (.p 9 0) :: kt 22 (.p 15 0) :: kt 24 (.s 16 0 3 3) :: kt 25 (.s 17 0 3 3) :: kt 89 (.B (v8.2 == 0)) :: kb 7 25 11 :: kb 8 34 8 :: kb 9 34 8 :: kb 15 34 8 :: kb 16 34 24 :: kb 17 34 24 :: (.r 1, some (.vec true 2 84 2 (v1.Thrust.flatMap ePt))) :: (.r 3, some (.vec true 4 84 2 (v1.Water.flatMap ePt))) :: (.r 5, some (.vec true 6 84 2 (v1.Ice.flatMap ePt))) :: sK 7 v1 (.o 1 2 v1.Thrust.length) (.o 3 4 v1.Water.length) (.o 5 6 v1.Ice.length) [kc 8 0 (.i v2.Conc.Lo), kc 8 1 (.i v2.Conc.Hi), kc 8 2 (.i v2.Thick.Lo), kc 8 3 (.i v2.Thick.Hi), kc 8 4 (.i v2.Ridge.Lo), kc 8 5 (.i v2.Ridge.Hi), kc 8 6 (.i v2.Press.Lo), kc 8 7 (.i v2.Press.Hi), kc 9 0 (.i v3.Conc.Lo), kc 9 1 (.i v3.Conc.Hi), kc 9 2 (.i v3.Thick.Lo), kc 9 3 (.i v3.Thick.Hi), kc 9 4 (.i v3.Ridge.Lo), kc 9 5 (.i v3.Ridge.Hi), kc 9 6 (.i v3.Press.Lo), kc 9 7 (.i v3.Press.Hi), kc 15 0 (.i v8.1.Conc.Lo), kc 15 1 (.i v8.1.Conc.Hi), kc 15 2 (.i v8.1.Thick.Lo), kc 15 3 (.i v8.1.Thick.Hi), kc 15 4 (.i v8.1.Ridge.Lo), kc 15 5 (.i v8.1.Ridge.Hi), kc 15 6 (.i v8.1.Press.Lo), kc 15 7 (.i v8.1.Press.Hi), kc 16 0 (.i v6.1.Conc.Lo), kc 16 1 (.i v6.1.Conc.Hi), kc 16 2 (.i v6.1.Thick.Lo), kc 16 3 (.i v6.1.Thick.Hi), kc 16 4 (.i v6.1.Ridge.Lo), kc 16 5 (.i v6.1.Ridge.Hi), kc 16 6 (.i v6.1.Press.Lo), kc 16 7 (.i v6.1.Press.Hi), kc 16 8 (.i v7.1.Conc.Lo), kc 16 9 (.i v7.1.Conc.Hi), kc 16 10 (.i v7.1.Thick.Lo), kc 16 11 (.i v7.1.Thick.Hi), kc 16 12 (.i v7.1.Ridge.Lo), kc 16 13 (.i v7.1.Ridge.Hi), kc 16 14 (.i v7.1.Press.Lo), kc 16 15 (.i v7.1.Press.Hi), kc 16 16 (.i v7.1.Conc.Lo), kc 16 17 (.i v7.1.Conc.Hi), kc 16 18 (.i v7.1.Thick.Lo), kc 16 19 (.i v7.1.Thick.Hi), kc 16 20 (.i v7.1.Ridge.Lo), kc 16 21 (.i v7.1.Ridge.Hi), kc 16 22 (.i v7.1.Press.Lo), kc 16 23 (.i v7.1.Press.Hi), kc 17 0 (.i v2.Conc.Lo), kc 17 1 (.i v2.Conc.Hi), kc 17 2 (.i v2.Thick.Lo), kc 17 3 (.i v2.Thick.Hi), kc 17 4 (.i v2.Ridge.Lo), kc 17 5 (.i v2.Ridge.Hi), kc 17 6 (.i v2.Press.Lo), kc 17 7 (.i v2.Press.Hi), kc 17 8 (.i v2.Conc.Lo), kc 17 9 (.i v2.Conc.Hi), kc 17 10 (.i v2.Thick.Lo), kc 17 11 (.i v2.Thick.Hi), kc 17 12 (.i v2.Ridge.Lo), kc 17 13 (.i v2.Ridge.Hi), kc 17 14 (.i v2.Press.Lo), kc 17 15 (.i v2.Press.Hi), kc 17 16 (.i v3.Conc.Lo), kc 17 17 (.i v3.Conc.Hi), kc 17 18 (.i v3.Thick.Lo), kc 17 19 (.i v3.Thick.Hi), kc 17 20 (.i v3.Ridge.Lo), kc 17 21 (.i v3.Ridge.Hi), kc 17 22 (.i v3.Press.Lo), kc 17 23 (.i v3.Press.Hi)])) ?_ (kp rfl) rfl
   refine fqT ?_
   refine aqc rfl (fun hz11 => ?_) (fun hz11 => ?_)
   ·have hm := brk_t hz11 hm
    refine aw_toRow (.t 24) 16 18 3 8 [(.int .i64 v6.1.Conc.Lo), (.int .i64 v6.1.Conc.Hi), (.int .i64 v6.1.Thick.Lo), (.int .i64 v6.1.Thick.Hi), (.int .i64 v6.1.Ridge.Lo), (.int .i64 v6.1.Ridge.Hi), (.int .i64 v6.1.Press.Lo), (.int .i64 v6.1.Press.Hi), (.int .i64 v7.1.Conc.Lo), (.int .i64 v7.1.Conc.Hi), (.int .i64 v7.1.Thick.Lo), (.int .i64 v7.1.Thick.Hi), (.int .i64 v7.1.Ridge.Lo), (.int .i64 v7.1.Ridge.Hi), (.int .i64 v7.1.Press.Lo), (.int .i64 v7.1.Press.Hi), (.int .i64 v7.1.Conc.Lo), (.int .i64 v7.1.Conc.Hi), (.int .i64 v7.1.Thick.Lo), (.int .i64 v7.1.Thick.Hi), (.int .i64 v7.1.Ridge.Lo), (.int .i64 v7.1.Ridge.Hi), (.int .i64 v7.1.Press.Lo), (.int .i64 v7.1.Press.Hi)] rfl rfl rfl rfl (by decide) ⟨rfl, rfl, rfl, rfl, rfl, rfl, rfl, rfl, rfl, rfl, rfl, rfl, rfl, rfl, rfl, rfl, rfl, rfl, rfl, rfl, rfl, rfl, rfl, rfl, trivial⟩ rfl (by decide) rfl ?_
    refine aw_toRow (.t 25) 17 19 3 8 [(.int .i64 v2.Conc.Lo), (.int .i64 v2.Conc.Hi), (.int .i64 v2.Thick.Lo), (.int .i64 v2.Thick.Hi), (.int .i64 v2.Ridge.Lo), (.int .i64 v2.Ridge.Hi), (.int .i64 v2.Press.Lo), (.int .i64 v2.Press.Hi), (.int .i64 v2.Conc.Lo), (.int .i64 v2.Conc.Hi), (.int .i64 v2.Thick.Lo), (.int .i64 v2.Thick.Hi), (.int .i64 v2.Ridge.Lo), (.int .i64 v2.Ridge.Hi), (.int .i64 v2.Press.Lo), (.int .i64 v2.Press.Hi), (.int .i64 v3.Conc.Lo), (.int .i64 v3.Conc.Hi), (.int .i64 v3.Thick.Lo), (.int .i64 v3.Thick.Hi), (.int .i64 v3.Ridge.Lo), (.int .i64 v3.Ridge.Hi), (.int .i64 v3.Press.Lo), (.int .i64 v3.Press.Hi)] rfl rfl rfl rfl (by decide) ⟨rfl, rfl, rfl, rfl, rfl, rfl, rfl, rfl, rfl, rfl, rfl, rfl, rfl, rfl, rfl, rfl, rfl, rfl, rfl, rfl, rfl, rfl, rfl, rfl, trivial⟩ rfl (by decide) rfl ?_
    obtain ⟨hp12, hm⟩ := chk_some hm
    obtain ⟨hp13, hm⟩ := chk_some hm
    refine aw_any (rows := [_, _, _, _, _, _, _, _, _, _, _, _]) (M := [0, 0, 0, 6, 15, 0, 0, 0, 192, 511, 1023, 2047]) Tryd_mixed (by kernel_rfl) rfl (by kernel_rfl) ⟨
     okp rfl rfl (oqM (lN rfl) rfl),
     okp rfl rfl (oqL (ys := [.i v2.Conc.Lo, .i v2.Conc.Hi, .i v2.Thick.Lo, .i v2.Thick.Hi, .i v2.Ridge.Lo, .i v2.Ridge.Hi, .i v2.Press.Lo, .i v2.Press.Hi]) (lN rfl) sh_34 rfl rfl ⟨rfl, rfl, rfl, rfl, rfl, rfl, rfl, rfl, trivial⟩),
     okp rfl rfl (oqL (ys := [.i v3.Conc.Lo, .i v3.Conc.Hi, .i v3.Thick.Lo, .i v3.Thick.Hi, .i v3.Ridge.Lo, .i v3.Ridge.Hi, .i v3.Press.Lo, .i v3.Press.Hi]) (lN rfl) sh_34 rfl rfl ⟨rfl, rfl, rfl, rfl, rfl, rfl, rfl, rfl, trivial⟩),
     okp rfl rfl (op_buildSlice (L := 20) (ety := 34) (cs := [.i v2.Conc.Lo, .i v2.Conc.Hi, .i v2.Thick.Lo, .i v2.Thick.Hi, .i v2.Ridge.Lo, .i v2.Ridge.Hi, .i v2.Press.Lo, .i v2.Press.Hi, .i v3.Conc.Lo, .i v3.Conc.Hi, .i v3.Thick.Lo, .i v3.Thick.Hi, .i v3.Ridge.Lo, .i v3.Ridge.Hi, .i v3.Press.Lo, .i v3.Press.Hi]) (lN rfl) (EvL.cons rfl (EvL.cons rfl EvL.nil)) rfl (fun m w => by kernel_rfl)),
     okp rfl rfl (op_append (L' := 21) (C' := 22) (vs := [(.int .i64 v2.Conc.Lo), (.int .i64 v2.Conc.Hi), (.int .i64 v2.Thick.Lo), (.int .i64 v2.Thick.Hi), (.int .i64 v2.Ridge.Lo), (.int .i64 v2.Ridge.Hi), (.int .i64 v2.Press.Lo), (.int .i64 v2.Press.Hi), (.int .i64 v3.Conc.Lo), (.int .i64 v3.Conc.Hi), (.int .i64 v3.Thick.Lo), (.int .i64 v3.Thick.Hi), (.int .i64 v3.Ridge.Lo), (.int .i64 v3.Ridge.Hi), (.int .i64 v3.Press.Lo), (.int .i64 v3.Press.Hi)]) (lN rfl) af_124 rfl rfl (flat_length (enc := encCell) (fun _ => rfl) ([v6.1, v7.1, v7.1])) rfl ⟨rfl, rfl, rfl, rfl, rfl, rfl, rfl, rfl, rfl, rfl, rfl, rfl, rfl, rfl, rfl, rfl, trivial⟩ rfl rfl (by decide) (by have := hp12; omega) (by have := hp12; omega) (by decide)),
     okp rfl rfl (oqM (lN rfl) rfl),
     okp rfl rfl (oqL (ys := [.i v8.1.Conc.Lo, .i v8.1.Conc.Hi, .i v8.1.Thick.Lo, .i v8.1.Thick.Hi, .i v8.1.Ridge.Lo, .i v8.1.Ridge.Hi, .i v8.1.Press.Lo, .i v8.1.Press.Hi]) (lN rfl) sh_34 rfl rfl ⟨rfl, rfl, rfl, rfl, rfl, rfl, rfl, rfl, trivial⟩),
     okp rfl rfl (oqL (ys := [.i v8.1.Conc.Lo, .i v8.1.Conc.Hi, .i v8.1.Thick.Lo, .i v8.1.Thick.Hi, .i v8.1.Ridge.Lo, .i v8.1.Ridge.Hi, .i v8.1.Press.Lo, .i v8.1.Press.Hi]) (lN rfl) sh_34 rfl rfl ⟨rfl, rfl, rfl, rfl, rfl, rfl, rfl, rfl, trivial⟩),
     okp rfl rfl (op_buildSlice (L := 23) (ety := 34) (cs := [.i v8.1.Conc.Lo, .i v8.1.Conc.Hi, .i v8.1.Thick.Lo, .i v8.1.Thick.Hi, .i v8.1.Ridge.Lo, .i v8.1.Ridge.Hi, .i v8.1.Press.Lo, .i v8.1.Press.Hi, .i v8.1.Conc.Lo, .i v8.1.Conc.Hi, .i v8.1.Thick.Lo, .i v8.1.Thick.Hi, .i v8.1.Ridge.Lo, .i v8.1.Ridge.Hi, .i v8.1.Press.Lo, .i v8.1.Press.Hi]) (lN rfl) (EvL.cons rfl (EvL.cons rfl EvL.nil)) rfl (fun m w => by kernel_rfl)),
     okp rfl rfl (op_append (L' := 24) (C' := 25) (vs := [(.int .i64 v8.1.Conc.Lo), (.int .i64 v8.1.Conc.Hi), (.int .i64 v8.1.Thick.Lo), (.int .i64 v8.1.Thick.Hi), (.int .i64 v8.1.Ridge.Lo), (.int .i64 v8.1.Ridge.Hi), (.int .i64 v8.1.Press.Lo), (.int .i64 v8.1.Press.Hi), (.int .i64 v8.1.Conc.Lo), (.int .i64 v8.1.Conc.Hi), (.int .i64 v8.1.Thick.Lo), (.int .i64 v8.1.Thick.Hi), (.int .i64 v8.1.Ridge.Lo), (.int .i64 v8.1.Ridge.Hi), (.int .i64 v8.1.Press.Lo), (.int .i64 v8.1.Press.Hi)]) (lN rfl) af_124 rfl rfl (flat_length (enc := encCell) (fun _ => rfl) ([v2, v2, v3])) rfl ⟨rfl, rfl, rfl, rfl, rfl, rfl, rfl, rfl, rfl, rfl, rfl, rfl, rfl, rfl, rfl, rfl, trivial⟩ rfl rfl (by decide) (by have := hp13; omega) (by have := hp13; omega) (by decide)),
     okp rfl rfl (oqA (lN rfl) rfl),
     okp rfl rfl (oqA (lN rfl) rfl),
     trivial⟩ ?_
    refine fqK (s' := (kt 5 (.B a5) :: kt 13 (.p 7 0) :: kt 24 (.o 21 22 (([v6.1, v7.1, v7.1] ++ [v2, v3]).length)) :: kt 25 (.o 24 25 (([v2, v2, v3] ++ [v8.1, v8.1]).length)) :: kb 7 25 11 :: (.r 1, some (.vec true 2 84 2 (v1.Thrust.flatMap ePt))) :: (.r 3, some (.vec true 4 84 2 (v1.Water.flatMap ePt))) :: (.r 5, some (.vec true 6 84 2 (v1.Ice.flatMap ePt))) :: (.r 21, some (.vec true 22 34 8 (([v6.1, v7.1, v7.1] ++ [v2, v3]).flatMap encCell))) :: (.r 24, some (.vec true 25 34 8 (([v2, v2, v3] ++ [v8.1, v8.1]).flatMap encCell))) :: sK 7 v1 (.o 1 2 v1.Thrust.length) (.o 3 4 v1.Water.length) (.o 5 6 v1.Ice.length) [])) ?_ ⟨rfl, rfl, (congrArg (fun q => some (Val.x (SV.o 21 22 q))) (show ([v6.1, v7.1, v7.1]).length + [v2, v3].length = ([v6.1, v7.1, v7.1] ++ [v2, v3]).length from List.length_append.symm)), (congrArg (fun q => some (Val.x (SV.o 24 25 q))) (show ([v2, v2, v3]).length + [v8.1, v8.1].length = ([v2, v2, v3] ++ [v8.1, v8.1]).length from List.length_append.symm)), rfl, rfl, rfl, rfl, (Eq.trans (b := some (Val.vec true 22 34 8 (([v6.1, v7.1, v7.1]).flatMap encCell ++ [(.int .i64 v2.Conc.Lo), (.int .i64 v2.Conc.Hi), (.int .i64 v2.Thick.Lo), (.int .i64 v2.Thick.Hi), (.int .i64 v2.Ridge.Lo), (.int .i64 v2.Ridge.Hi), (.int .i64 v2.Press.Lo), (.int .i64 v2.Press.Hi), (.int .i64 v3.Conc.Lo), (.int .i64 v3.Conc.Hi), (.int .i64 v3.Thick.Lo), (.int .i64 v3.Thick.Hi), (.int .i64 v3.Ridge.Lo), (.int .i64 v3.Ridge.Hi), (.int .i64 v3.Press.Lo), (.int .i64 v3.Press.Hi)]))) rfl (congrArg (fun q => some (Val.vec true 22 34 8 q)) (List.flatMap_append (xs := [v6.1, v7.1, v7.1]) (ys := [v2, v3])).symm)), (Eq.trans (b := some (Val.vec true 25 34 8 (([v2, v2, v3]).flatMap encCell ++ [(.int .i64 v8.1.Conc.Lo), (.int .i64 v8.1.Conc.Hi), (.int .i64 v8.1.Thick.Lo), (.int .i64 v8.1.Thick.Hi), (.int .i64 v8.1.Ridge.Lo), (.int .i64 v8.1.Ridge.Hi), (.int .i64 v8.1.Press.Lo), (.int .i64 v8.1.Press.Hi), (.int .i64 v8.1.Conc.Lo), (.int .i64 v8.1.Conc.Hi), (.int .i64 v8.1.Thick.Lo), (.int .i64 v8.1.Thick.Hi), (.int .i64 v8.1.Ridge.Lo), (.int .i64 v8.1.Ridge.Hi), (.int .i64 v8.1.Press.Lo), (.int .i64 v8.1.Press.Hi)]))) rfl (congrArg (fun q => some (Val.vec true 25 34 8 q)) (List.flatMap_append (xs := [v2, v2, v3]) (ys := [v8.1, v8.1])).symm)), rfl, rfl, rfl, rfl, rfl, rfl, rfl, rfl, rfl, rfl, rfl, trivial⟩ rfl
    refine fin_swp [(21, 300), (22, 301), (24, 302), (25, 303)] rfl ?_
    exact fqc (([v6.1, v7.1, v7.1] ++ [v2, v3]), ([v2, v2, v3] ++ [v8.1, v8.1])) hm ⟨rfl, rfl, rfl, rfl, rfl, rfl, rfl, rfl, rfl, rfl, rfl, rfl, rfl, rfl, rfl, rfl, rfl, rfl, rfl, rfl, rfl, trivial⟩ rfl
   ·have hm := brk_f hz11 hm
    refine aqk ?_
    refine fin_toRow (.t 24) 16 26 3 8 [(.int .i64 v6.1.Conc.Lo), (.int .i64 v6.1.Conc.Hi), (.int .i64 v6.1.Thick.Lo), (.int .i64 v6.1.Thick.Hi), (.int .i64 v6.1.Ridge.Lo), (.int .i64 v6.1.Ridge.Hi), (.int .i64 v6.1.Press.Lo), (.int .i64 v6.1.Press.Hi), (.int .i64 v7.1.Conc.Lo), (.int .i64 v7.1.Conc.Hi), (.int .i64 v7.1.Thick.Lo), (.int .i64 v7.1.Thick.Hi), (.int .i64 v7.1.Ridge.Lo), (.int .i64 v7.1.Ridge.Hi), (.int .i64 v7.1.Press.Lo), (.int .i64 v7.1.Press.Hi), (.int .i64 v7.1.Conc.Lo), (.int .i64 v7.1.Conc.Hi), (.int .i64 v7.1.Thick.Lo), (.int .i64 v7.1.Thick.Hi), (.int .i64 v7.1.Ridge.Lo), (.int .i64 v7.1.Ridge.Hi), (.int .i64 v7.1.Press.Lo), (.int .i64 v7.1.Press.Hi)] rfl rfl rfl rfl (by decide) ⟨rfl, rfl, rfl, rfl, rfl, rfl, rfl, rfl, rfl, rfl, rfl, rfl, rfl, rfl, rfl, rfl, rfl, rfl, rfl, rfl, rfl, rfl, rfl, rfl, trivial⟩ rfl (by decide) rfl ?_
    refine fin_toRow (.t 25) 17 27 3 8 [(.int .i64 v2.Conc.Lo), (.int .i64 v2.Conc.Hi), (.int .i64 v2.Thick.Lo), (.int .i64 v2.Thick.Hi), (.int .i64 v2.Ridge.Lo), (.int .i64 v2.Ridge.Hi), (.int .i64 v2.Press.Lo), (.int .i64 v2.Press.Hi), (.int .i64 v2.Conc.Lo), (.int .i64 v2.Conc.Hi), (.int .i64 v2.Thick.Lo), (.int .i64 v2.Thick.Hi), (.int .i64 v2.Ridge.Lo), (.int .i64 v2.Ridge.Hi), (.int .i64 v2.Press.Lo), (.int .i64 v2.Press.Hi), (.int .i64 v3.Conc.Lo), (.int .i64 v3.Conc.Hi), (.int .i64 v3.Thick.Lo), (.int .i64 v3.Thick.Hi), (.int .i64 v3.Ridge.Lo), (.int .i64 v3.Ridge.Hi), (.int .i64 v3.Press.Lo), (.int .i64 v3.Press.Hi)] rfl rfl rfl rfl (by decide) ⟨rfl, rfl, rfl, rfl, rfl, rfl, rfl, rfl, rfl, rfl, rfl, rfl, rfl, rfl, rfl, rfl, rfl, rfl, rfl, rfl, rfl, rfl, rfl, rfl, trivial⟩ rfl (by decide) rfl ?_
    refine fin_swp [(16, 300), (26, 301), (17, 302), (27, 303)] rfl ?_
    exact fqc ([v6.1, v7.1, v7.1], [v2, v2, v3]) hm ⟨rfl, rfl, rfl, rfl, rfl, rfl, rfl, rfl, rfl, rfl, rfl, rfl, rfl, rfl, rfl, rfl, rfl, rfl, rfl, rfl, rfl, trivial⟩ rfl
  ·have _z := hm
   refine aw_cutM (ι := Unit) hm (fun x2 => []) (fun hm => ?_) (fun x2 hm => ?_)
   ·have _z := hm
    refine aqS ?_
    refine aqT (rows := [_, _, _]) rfl (by kernel_rfl) ⟨
     okp rfl rfl (oqM (lN rfl) rfl),
     okp rfl rfl (op_lenO (n := x1.1.length) (lN rfl) (by rw [ss_124]; rfl) rfl),
     okp rfl rfl (oqM (lN rfl) rfl),
     trivial⟩ ?_
    refine fqK (s' := (kt 5 (.B a5) :: kt 13 (.p 7 0) :: kt 24 (.o 300 301 x1.1.length) :: kt 25 (.o 302 303 x1.2.length) :: kt 101 (.i (((x1.1.length : Nat) : Int))) :: kt 102 (.i 0) :: kb 7 25 11 :: (.r 1, some (.vec true 2 84 2 (v1.Thrust.flatMap ePt))) :: (.r 3, some (.vec true 4 84 2 (v1.Water.flatMap ePt))) :: (.r 5, some (.vec true 6 84 2 (v1.Ice.flatMap ePt))) :: (.r 300, some (.vec true 301 34 8 (x1.1.flatMap encCell))) :: (.r 302, some (.vec true 303 34 8 (x1.2.flatMap encCell))) :: sK 7 v1 (.o 1 2 v1.Thrust.length) (.o 3 4 v1.Water.length) (.o 5 6 v1.Ice.length) [])) ?_ (kp rfl) rfl
    refine fqT ?_
    refine aw_block ?_
    refine aw_loopC hm (fun x3 => (kt 5 (.B a5) :: kt 13 (.p 7 0) :: kt 24 (.o 300 301 x1.1.length) :: kt 25 (.o 302 303 x1.2.length) :: kt 101 (.i (((x1.1.length : Nat) : Int))) :: kt 102 (.i x3) :: kb 7 25 11 :: (.r 1, some (.vec true 2 84 2 (v1.Thrust.flatMap ePt))) :: (.r 3, some (.vec true 4 84 2 (v1.Water.flatMap ePt))) :: (.r 5, some (.vec true 6 84 2 (v1.Ice.flatMap ePt))) :: (.r 300, some (.vec true 301 34 8 (x1.1.flatMap encCell))) :: (.r 302, some (.vec true 303 34 8 (x1.2.flatMap encCell))) :: sK 7 v1 (.o 1 2 v1.Thrust.length) (.o 3 4 v1.Water.length) (.o 5 6 v1.Ice.length) [])) ⟨rfl, rfl, rfl, rfl, rfl, rfl, rfl, rfl, rfl, rfl, rfl, rfl, rfl, rfl, rfl, rfl, rfl, rfl, rfl, rfl, rfl, rfl, rfl, trivial⟩ rfl (fun x3 n3 hm => ?_)
    refine aqS ?_
    refine aqT (rows := [_]) rfl (by kernel_rfl) ⟨
     okp rfl rfl (oqB (lN rfl) rfl rfl rfl),
     trivial⟩ ?_
    refine fqK (s' := (kt 5 (.B a5) :: kt 13 (.p 7 0) :: kt 24 (.o 300 301 x1.1.length) :: kt 25 (.o 302 303 x1.2.length) :: kt 101 (.i (((x1.1.length : Nat) : Int))) :: kt 102 (.i x3) :: kt 103 (.B (decide (x3 < (((x1.1.length : Nat) : Int))))) :: kb 7 25 11 :: (.r 1, some (.vec true 2 84 2 (v1.Thrust.flatMap ePt))) :: (.r 3, some (.vec true 4 84 2 (v1.Water.flatMap ePt))) :: (.r 5, some (.vec true 6 84 2 (v1.Ice.flatMap ePt))) :: (.r 300, some (.vec true 301 34 8 (x1.1.flatMap encCell))) :: (.r 302, some (.vec true 303 34 8 (x1.2.flatMap encCell))) :: sK 7 v1 (.o 1 2 v1.Thrust.length) (.o 3 4 v1.Water.length) (.o 5 6 v1.Ice.length) [])) ?_ (kp rfl) rfl
    refine fqT ?_
    refine aqS ?_
    refine aqc rfl (fun hz14 => ?_) (fun hz14 => ?_)
    ·have hm := brk_t hz14 hm
     refine aqk ?_
     refine fqT ?_
     refine aqS ?_
     refine aw_block ?_
     refine aqS ?_
     refine aqT (rows := [_, _]) rfl (by kernel_rfl) ⟨
      okp rfl rfl (oqM (lN rfl) rfl),
      okp rfl rfl (oqA (lN rfl) rfl),
      trivial⟩ ?_
     refine fqK (s' := (kt 5 (.B a5) :: kt 13 (.p 7 0) :: kt 24 (.o 300 301 x1.1.length) :: kt 25 (.o 302 303 x1.2.length) :: kt 26 (.i x3) :: kt 101 (.i (((x1.1.length : Nat) : Int))) :: kt 102 (.i x3) :: kb 7 25 11 :: (.r 1, some (.vec true 2 84 2 (v1.Thrust.flatMap ePt))) :: (.r 3, some (.vec true 4 84 2 (v1.Water.flatMap ePt))) :: (.r 5, some (.vec true 6 84 2 (v1.Ice.flatMap ePt))) :: (.r 300, some (.vec true 301 34 8 (x1.1.flatMap encCell))) :: (.r 302, some (.vec true 303 34 8 (x1.2.flatMap encCell))) :: sK 7 v1 (.o 1 2 v1.Thrust.length) (.o 3 4 v1.Water.length) (.o 5 6 v1.Ice.length) [])) ?_ (kp rfl) rfl
     refine fqT ?_
     refine aqS ?_
     obtain ⟨hp15, hm⟩ := chk_some hm
     obtain ⟨v9, hv9, hm⟩ := bnd_some hm
     refine aw_any (rows := [_, _, _, _, _, _, _, _, _, _, _, _, _]) (M := [0, 0, 0, 6, 14, 0, 63, 127, 255, 255, 0, 1535, 4095]) Tryd_mixed (by kernel_rfl) rfl (by kernel_rfl) ⟨
      okp rfl rfl (oqL (ys := [.i v1.Class, .i v1.Power, .i v1.Draught, .i v1.Tonnes, .o 1 2 v1.Thrust.length, .o 3 4 v1.Water.length, .o 5 6 v1.Ice.length, .i v1.Slow, .i v1.Brash, .i v1.Ridge, .i v1.Press]) (lN rfl) sh_25 rfl rfl ⟨rfl, rfl, rfl, rfl, rfl, rfl, rfl, rfl, rfl, rfl, rfl, trivial⟩),
      okp rfl rfl (oqM (lN rfl) rfl),
      okp rfl rfl (oqM (lN rfl) rfl),
      okp rfl rfl (op_ixO (lN rfl) rfl rfl ss_124 rfl (flat_ne (enc := encCell) (k := 8) (fun _ => rfl) (by decide) (i := x3) hp15.1 hp15.2) hp15.1 hp15.2),
      okp rfl rfl (op_loadON (vs := [(.int .i64 ((((x1.1.getD x3.toNat default)).Conc).Lo)), (.int .i64 ((((x1.1.getD x3.toNat default)).Conc).Hi)), (.int .i64 ((((x1.1.getD x3.toNat default)).Thick).Lo)), (.int .i64 ((((x1.1.getD x3.toNat default)).Thick).Hi)), (.int .i64 ((((x1.1.getD x3.toNat default)).Ridge).Lo)), (.int .i64 ((((x1.1.getD x3.toNat default)).Ridge).Hi)), (.int .i64 ((((x1.1.getD x3.toNat default)).Press).Lo)), (.int .i64 ((((x1.1.getD x3.toNat default)).Press).Hi))]) (lN rfl) sh_34 rfl rfl rfl (fun zq zv zh => flat_sub (k := 8) (l := x1.1) (enc := encCell) (fun _ => rfl) default (i := x3) hp15.1 hp15.2 0 (vs := [(.int .i64 ((((x1.1.getD x3.toNat default)).Conc).Lo)), (.int .i64 ((((x1.1.getD x3.toNat default)).Conc).Hi)), (.int .i64 ((((x1.1.getD x3.toNat default)).Thick).Lo)), (.int .i64 ((((x1.1.getD x3.toNat default)).Thick).Hi)), (.int .i64 ((((x1.1.getD x3.toNat default)).Ridge).Lo)), (.int .i64 ((((x1.1.getD x3.toNat default)).Ridge).Hi)), (.int .i64 ((((x1.1.getD x3.toNat default)).Press).Lo)), (.int .i64 ((((x1.1.getD x3.toNat default)).Press).Hi))]) rfl zh)),
      okp rfl rfl (oqM (lN rfl) rfl),
      okp rfl rfl (oqC (x := .t [.g [.i v9.1.Lo, .i v9.1.Hi], .i v9.2]) (fs := []) (caps := []) (extra := (kapp [.r 1] (kapp [.r 3] (kapp [.r 5] [])))) (lN rfl) en_55 rfl ⟨rfl, rfl, rfl⟩ (EvL.cons rfl (EvL.cons rfl (EvL.cons rfl EvL.nil))) (fun mm aa ww gg hr hrel => (c55 F v1 ⟨ptr0 (mm 1) (mm 2), v1.Thrust.length, mm 2⟩ ⟨ptr0 (mm 3) (mm 4), v1.Water.length, mm 4⟩ ⟨ptr0 (mm 5) (mm 6), v1.Ice.length, mm 6⟩ ((x1.1.getD x3.toNat default)) a5 ww (sqr (enc := ePt) (l := v1.Thrust) (fun _ => rfl) (by decide) hrel ((hr _ (List.mem_append_left _ (by simp))).trans rfl)) (sqr (enc := ePt) (l := v1.Water) (fun _ => rfl) (by decide) hrel ((hr _ (List.mem_append_right _ (List.mem_append_left _ (by simp)))).trans rfl)) (sqr (enc := ePt) (l := v1.Ice) (fun _ => rfl) (by decide) hrel ((hr _ (List.mem_append_right _ (List.mem_append_right _ (List.mem_append_left _ (by simp))))).trans rfl)) (BoxAt.mono hG hrel.below) v9 hv9))),
      okp rfl rfl (oqM (lN rfl) rfl),
      okp rfl rfl (oqx (lN rfl) rfl rfl),
      okp rfl rfl (oqx (lN rfl) rfl rfl),
      okp rfl rfl (oqa (L := 28) (lN rfl) zl_32),
      okp rfl rfl (oqS sz_32 rfl rfl rfl rfl rfl (by decide)),
      okp rfl rfl (oqA (lN rfl) rfl),
      trivial⟩ ?_
     refine fqK (s' := (kt 5 (.B a5) :: kt 13 (.p 7 0) :: kt 24 (.o 300 301 x1.1.length) :: kt 25 (.o 302 303 x1.2.length) :: kt 26 (.i x3) :: kt 27 (.p 28 0) :: kt 28 (.i v9.2) :: kt 101 (.i (((x1.1.length : Nat) : Int))) :: kt 102 (.i x3) :: kb 7 25 11 :: kb 28 32 2 :: (.r 1, some (.vec true 2 84 2 (v1.Thrust.flatMap ePt))) :: (.r 3, some (.vec true 4 84 2 (v1.Water.flatMap ePt))) :: (.r 5, some (.vec true 6 84 2 (v1.Ice.flatMap ePt))) :: (.r 300, some (.vec true 301 34 8 (x1.1.flatMap encCell))) :: (.r 302, some (.vec true 303 34 8 (x1.2.flatMap encCell))) :: sK 7 v1 (.o 1 2 v1.Thrust.length) (.o 3 4 v1.Water.length) (.o 5 6 v1.Ice.length) [kc 28 0 (.i v9.1.Lo), kc 28 1 (.i v9.1.Hi)])) ?_ (kp rfl) rfl
     refine fqT ?_
     refine aqS ?_
     obtain ⟨hp16, hm⟩ := chk_some hm
     obtain ⟨v10, hv10, hm⟩ := bnd_some hm
     refine aw_any (rows := [_, _, _, _, _, _, _, _, _, _, _, _, _]) (M := [0, 0, 0, 6, 14, 0, 63, 127, 255, 255, 0, 1535, 4095]) Tryd_mixed (by kernel_rfl) rfl (by kernel_rfl) ⟨
      okp rfl rfl (oqL (ys := [.i v1.Class, .i v1.Power, .i v1.Draught, .i v1.Tonnes, .o 1 2 v1.Thrust.length, .o 3 4 v1.Water.length, .o 5 6 v1.Ice.length, .i v1.Slow, .i v1.Brash, .i v1.Ridge, .i v1.Press]) (lN rfl) sh_25 rfl rfl ⟨rfl, rfl, rfl, rfl, rfl, rfl, rfl, rfl, rfl, rfl, rfl, trivial⟩),
      okp rfl rfl (oqM (lN rfl) rfl),
      okp rfl rfl (oqM (lN rfl) rfl),
      okp rfl rfl (op_ixO (lN rfl) rfl rfl ss_124 rfl (flat_ne (enc := encCell) (k := 8) (fun _ => rfl) (by decide) (i := x3) hp16.1 hp16.2) hp16.1 hp16.2),
      okp rfl rfl (op_loadON (vs := [(.int .i64 ((((x1.2.getD x3.toNat default)).Conc).Lo)), (.int .i64 ((((x1.2.getD x3.toNat default)).Conc).Hi)), (.int .i64 ((((x1.2.getD x3.toNat default)).Thick).Lo)), (.int .i64 ((((x1.2.getD x3.toNat default)).Thick).Hi)), (.int .i64 ((((x1.2.getD x3.toNat default)).Ridge).Lo)), (.int .i64 ((((x1.2.getD x3.toNat default)).Ridge).Hi)), (.int .i64 ((((x1.2.getD x3.toNat default)).Press).Lo)), (.int .i64 ((((x1.2.getD x3.toNat default)).Press).Hi))]) (lN rfl) sh_34 rfl rfl rfl (fun zq zv zh => flat_sub (k := 8) (l := x1.2) (enc := encCell) (fun _ => rfl) default (i := x3) hp16.1 hp16.2 0 (vs := [(.int .i64 ((((x1.2.getD x3.toNat default)).Conc).Lo)), (.int .i64 ((((x1.2.getD x3.toNat default)).Conc).Hi)), (.int .i64 ((((x1.2.getD x3.toNat default)).Thick).Lo)), (.int .i64 ((((x1.2.getD x3.toNat default)).Thick).Hi)), (.int .i64 ((((x1.2.getD x3.toNat default)).Ridge).Lo)), (.int .i64 ((((x1.2.getD x3.toNat default)).Ridge).Hi)), (.int .i64 ((((x1.2.getD x3.toNat default)).Press).Lo)), (.int .i64 ((((x1.2.getD x3.toNat default)).Press).Hi))]) rfl zh)),
      okp rfl rfl (oqM (lN rfl) rfl),
      okp rfl rfl (oqC (x := .t [.g [.i v10.1.Lo, .i v10.1.Hi], .i v10.2]) (fs := []) (caps := []) (extra := (kapp [.r 1] (kapp [.r 3] (kapp [.r 5] [])))) (lN rfl) en_55 rfl ⟨rfl, rfl, rfl⟩ (EvL.cons rfl (EvL.cons rfl (EvL.cons rfl EvL.nil))) (fun mm aa ww gg hr hrel => (c55 F v1 ⟨ptr0 (mm 1) (mm 2), v1.Thrust.length, mm 2⟩ ⟨ptr0 (mm 3) (mm 4), v1.Water.length, mm 4⟩ ⟨ptr0 (mm 5) (mm 6), v1.Ice.length, mm 6⟩ ((x1.2.getD x3.toNat default)) a5 ww (sqr (enc := ePt) (l := v1.Thrust) (fun _ => rfl) (by decide) hrel ((hr _ (List.mem_append_left _ (by simp))).trans rfl)) (sqr (enc := ePt) (l := v1.Water) (fun _ => rfl) (by decide) hrel ((hr _ (List.mem_append_right _ (List.mem_append_left _ (by simp)))).trans rfl)) (sqr (enc := ePt) (l := v1.Ice) (fun _ => rfl) (by decide) hrel ((hr _ (List.mem_append_right _ (List.mem_append_right _ (List.mem_append_left _ (by simp))))).trans rfl)) (BoxAt.mono hG hrel.below) v10 hv10))),
      okp rfl rfl (oqM (lN rfl) rfl),
      okp rfl rfl (oqx (lN rfl) rfl rfl),
      okp rfl rfl (oqx (lN rfl) rfl rfl),
      okp rfl rfl (oqa (L := 29) (lN rfl) zl_32),
      okp rfl rfl (oqS sz_32 rfl rfl rfl rfl rfl (by decide)),
      okp rfl rfl (oqA (lN rfl) rfl),
      trivial⟩ ?_
     refine fqK (s' := (kt 5 (.B a5) :: kt 13 (.p 7 0) :: kt 24 (.o 300 301 x1.1.length) :: kt 25 (.o 302 303 x1.2.length) :: kt 26 (.i x3) :: kt 27 (.p 28 0) :: kt 28 (.i v9.2) :: kt 29 (.p 29 0) :: kt 30 (.i v10.2) :: kt 101 (.i (((x1.1.length : Nat) : Int))) :: kt 102 (.i x3) :: kb 7 25 11 :: kb 28 32 2 :: kb 29 32 2 :: (.r 1, some (.vec true 2 84 2 (v1.Thrust.flatMap ePt))) :: (.r 3, some (.vec true 4 84 2 (v1.Water.flatMap ePt))) :: (.r 5, some (.vec true 6 84 2 (v1.Ice.flatMap ePt))) :: (.r 300, some (.vec true 301 34 8 (x1.1.flatMap encCell))) :: (.r 302, some (.vec true 303 34 8 (x1.2.flatMap encCell))) :: sK 7 v1 (.o 1 2 v1.Thrust.length) (.o 3 4 v1.Water.length) (.o 5 6 v1.Ice.length) [kc 28 0 (.i v9.1.Lo), kc 28 1 (.i v9.1.Hi), kc 29 0 (.i v10.1.Lo), kc 29 1 (.i v10.1.Hi)])) ?_ (kp rfl) rfl
     refine fqT ?_
     refine aqS ?_
     refine aqS ?_
     refine aqT (rows := [_, _, _, _, _, _, _, _, _, _, _, _, _, _, _, _, _, _, _, _]) rfl (by kernel_rfl) ⟨
      okp rfl rfl (oqM (lN rfl) rfl),
      okp rfl rfl (oqB (lN rfl) rfl rfl rfl),
      okp rfl rfl (oqM (lN rfl) rfl),
      ok_if (lN rfl) rfl rfl rfl rfl rfl rfl (fun hg17 => oqM (lN rfl) (force_x rfl)),
      ok_if (lN rfl) rfl rfl rfl rfl rfl rfl (fun hg18 => oqB (lN rfl) (force_eq (beq_iff_eq.2 hg18) rfl) rfl rfl),
      okp rfl rfl (op_or (lN rfl) rfl rfl),
      okp rfl rfl (oqM (lN rfl) rfl),
      ok_if (lN rfl) rfl rfl rfl rfl rfl rfl (fun hg19 => oqF (lN rfl) (force_x rfl) fo_32_0),
      ok_if (lN rfl) rfl rfl rfl rfl rfl rfl (fun hg20 => oq1 (lN rfl) sh_3 (force_eq (beq_iff_eq.2 hg20) rfl) rfl),
      ok_if (lN rfl) rfl rfl rfl rfl rfl rfl (fun hg21 => oqF (lN rfl) (force_x rfl) fo_32_0),
      ok_if (lN rfl) rfl rfl rfl rfl rfl rfl (fun hg22 => oq1 (lN rfl) sh_3 (force_eq (beq_iff_eq.2 hg22) rfl) rfl),
      ok_if (lN rfl) rfl rfl rfl rfl rfl rfl (fun hg23 => oqB (lN rfl) (force_eq (beq_iff_eq.2 hg23) rfl) (force_eq (beq_iff_eq.2 hg23) rfl) rfl),
      okp rfl rfl (op_or (lN rfl) rfl rfl),
      okp rfl rfl (oqM (lN rfl) rfl),
      ok_if (lN rfl) rfl rfl rfl rfl rfl rfl (fun hg24 => oqF (lN rfl) (force_x rfl) fo_32_1),
      ok_if (lN rfl) rfl rfl rfl rfl rfl rfl (fun hg25 => oq1 (lN rfl) sh_3 (force_eq (beq_iff_eq.2 hg25) rfl) rfl),
      ok_if (lN rfl) rfl rfl rfl rfl rfl rfl (fun hg26 => oqF (lN rfl) (force_x rfl) fo_32_1),
      ok_if (lN rfl) rfl rfl rfl rfl rfl rfl (fun hg27 => oq1 (lN rfl) sh_3 (force_eq (beq_iff_eq.2 hg27) rfl) rfl),
      ok_if (lN rfl) rfl rfl rfl rfl rfl rfl (fun hg28 => oqB (lN rfl) (force_eq (beq_iff_eq.2 hg28) rfl) (force_eq (beq_iff_eq.2 hg28) rfl) rfl),
      okp rfl rfl (op_or (lN rfl) rfl rfl),
      trivial⟩ ?_
     refine fqK (s' := (kt 5 (.B a5) :: kt 13 (.p 7 0) :: kt 24 (.o 300 301 x1.1.length) :: kt 25 (.o 302 303 x1.2.length) :: kt 26 (.i x3) :: kt 101 (.i (((x1.1.length : Nat) : Int))) :: kt 102 (.i x3) :: kt 144 (.B ((((v9.2 != 0) || (v10.2 != 0)) || (decide (v9.1.Lo > v10.1.Lo))) || (decide (v9.1.Hi < v10.1.Hi)))) :: kb 7 25 11 :: (.r 1, some (.vec true 2 84 2 (v1.Thrust.flatMap ePt))) :: (.r 3, some (.vec true 4 84 2 (v1.Water.flatMap ePt))) :: (.r 5, some (.vec true 6 84 2 (v1.Ice.flatMap ePt))) :: (.r 300, some (.vec true 301 34 8 (x1.1.flatMap encCell))) :: (.r 302, some (.vec true 303 34 8 (x1.2.flatMap encCell))) :: sK 7 v1 (.o 1 2 v1.Thrust.length) (.o 3 4 v1.Water.length) (.o 5 6 v1.Ice.length) [])) ?_ (kp rfl) rfl
     refine fqT ?_
     refine aqc rfl (fun hz29 => ?_) (fun hz29 => ?_)
     ·have hm := brk_t hz29 hm
      refine aqS ?_
      refine aqT (rows := [_]) rfl (by kernel_rfl) ⟨
       okp rfl rfl (oqA (lN rfl) rfl),
       trivial⟩ ?_
      refine fqK (s' := [kt 12 (.B false)]) ?_ (kp rfl) rfl
      refine fqT ?_
      refine aqr ?_
      refine fqR ?_
      refine fin_block_ret ?_
      refine fqR ?_
      refine fqR ?_
      refine fin_block_ret ?_
      refine fqR ?_
      refine pqr (x := .B false) rfl rfl (rqT rfl rqN) rfl (fun mm aa ww hr => ?_)
      have hm := Option.some.inj hm
      subst hm
      exact ⟨rfl, hr.below⟩
     ·have hm := brk_f hz29 hm
      refine aqk ?_
      refine fqT ?_
      refine aqS ?_
      refine aw_any (rows := [_, _, _, _, _, _, _, _, _, _, _, _]) (M := [0, 0, 0, 6, 14, 0, 63, 127, 255, 255, 511, 2047]) Tryd_mixed (by kernel_rfl) rfl (by kernel_rfl) ⟨
       okp rfl rfl (oqL (ys := [.i v1.Class, .i v1.Power, .i v1.Draught, .i v1.Tonnes, .o 1 2 v1.Thrust.length, .o 3 4 v1.Water.length, .o 5 6 v1.Ice.length, .i v1.Slow, .i v1.Brash, .i v1.Ridge, .i v1.Press]) (lN rfl) sh_25 rfl rfl ⟨rfl, rfl, rfl, rfl, rfl, rfl, rfl, rfl, rfl, rfl, rfl, trivial⟩),
       okp rfl rfl (oqM (lN rfl) rfl),
       okp rfl rfl (oqM (lN rfl) rfl),
       okp rfl rfl (op_ixO (lN rfl) rfl rfl ss_124 rfl (flat_ne (enc := encCell) (k := 8) (fun _ => rfl) (by decide) (i := x3) hp15.1 hp15.2) hp15.1 hp15.2),
       okp rfl rfl (op_loadON (vs := [(.int .i64 ((((x1.1.getD x3.toNat default)).Conc).Lo)), (.int .i64 ((((x1.1.getD x3.toNat default)).Conc).Hi)), (.int .i64 ((((x1.1.getD x3.toNat default)).Thick).Lo)), (.int .i64 ((((x1.1.getD x3.toNat default)).Thick).Hi)), (.int .i64 ((((x1.1.getD x3.toNat default)).Ridge).Lo)), (.int .i64 ((((x1.1.getD x3.toNat default)).Ridge).Hi)), (.int .i64 ((((x1.1.getD x3.toNat default)).Press).Lo)), (.int .i64 ((((x1.1.getD x3.toNat default)).Press).Hi))]) (lN rfl) sh_34 rfl rfl rfl (fun zq zv zh => flat_sub (k := 8) (l := x1.1) (enc := encCell) (fun _ => rfl) default (i := x3) hp15.1 hp15.2 0 (vs := [(.int .i64 ((((x1.1.getD x3.toNat default)).Conc).Lo)), (.int .i64 ((((x1.1.getD x3.toNat default)).Conc).Hi)), (.int .i64 ((((x1.1.getD x3.toNat default)).Thick).Lo)), (.int .i64 ((((x1.1.getD x3.toNat default)).Thick).Hi)), (.int .i64 ((((x1.1.getD x3.toNat default)).Ridge).Lo)), (.int .i64 ((((x1.1.getD x3.toNat default)).Ridge).Hi)), (.int .i64 ((((x1.1.getD x3.toNat default)).Press).Lo)), (.int .i64 ((((x1.1.getD x3.toNat default)).Press).Hi))]) rfl zh)),
       okp rfl rfl (oqM (lN rfl) rfl),
       okp rfl rfl (oqC (x := .t [.i ((safeE v1 ((x1.1.getD x3.toNat default)) a5).1), .i ((safeE v1 ((x1.1.getD x3.toNat default)) a5).2)]) (fs := []) (caps := []) (extra := (kapp [.r 1] (kapp [.r 3] (kapp [.r 5] [])))) (lN rfl) en_24 rfl ⟨rfl, rfl, rfl⟩ (EvL.cons rfl (EvL.cons rfl (EvL.cons rfl EvL.nil))) (fun mm aa ww gg hr hrel => (c24 v1 ⟨ptr0 (mm 1) (mm 2), v1.Thrust.length, mm 2⟩ ⟨ptr0 (mm 3) (mm 4), v1.Water.length, mm 4⟩ ⟨ptr0 (mm 5) (mm 6), v1.Ice.length, mm 6⟩ ((x1.1.getD x3.toNat default)) a5 ww (sqr (enc := ePt) (l := v1.Thrust) (fun _ => rfl) (by decide) hrel ((hr _ (List.mem_append_left _ (by simp))).trans rfl)) (sqr (enc := ePt) (l := v1.Water) (fun _ => rfl) (by decide) hrel ((hr _ (List.mem_append_right _ (List.mem_append_left _ (by simp)))).trans rfl)) (sqr (enc := ePt) (l := v1.Ice) (fun _ => rfl) (by decide) hrel ((hr _ (List.mem_append_right _ (List.mem_append_right _ (List.mem_append_left _ (by simp))))).trans rfl)) (BoxAt.mono hG hrel.below)))),
       okp rfl rfl (oqM (lN rfl) rfl),
       okp rfl rfl (oqx (lN rfl) rfl rfl),
       okp rfl rfl (oqx (lN rfl) rfl rfl),
       okp rfl rfl (oqA (lN rfl) rfl),
       okp rfl rfl (oqA (lN rfl) rfl),
       trivial⟩ ?_
      refine fqK (s' := (kt 5 (.B a5) :: kt 13 (.p 7 0) :: kt 24 (.o 300 301 x1.1.length) :: kt 25 (.o 302 303 x1.2.length) :: kt 26 (.i x3) :: kt 28 (.i ((safeE v1 ((x1.1.getD x3.toNat default)) a5).2)) :: kt 31 (.i ((safeE v1 ((x1.1.getD x3.toNat default)) a5).1)) :: kt 101 (.i (((x1.1.length : Nat) : Int))) :: kt 102 (.i x3) :: kb 7 25 11 :: (.r 1, some (.vec true 2 84 2 (v1.Thrust.flatMap ePt))) :: (.r 3, some (.vec true 4 84 2 (v1.Water.flatMap ePt))) :: (.r 5, some (.vec true 6 84 2 (v1.Ice.flatMap ePt))) :: (.r 300, some (.vec true 301 34 8 (x1.1.flatMap encCell))) :: (.r 302, some (.vec true 303 34 8 (x1.2.flatMap encCell))) :: sK 7 v1 (.o 1 2 v1.Thrust.length) (.o 3 4 v1.Water.length) (.o 5 6 v1.Ice.length) [])) ?_ (kp rfl) rfl
      refine fqT ?_
      refine aqS ?_
      refine aw_any (rows := [_, _, _, _, _, _, _, _, _, _, _, _]) (M := [0, 0, 0, 6, 14, 0, 63, 127, 255, 255, 511, 2047]) Tryd_mixed (by kernel_rfl) rfl (by kernel_rfl) ⟨
       okp rfl rfl (oqL (ys := [.i v1.Class, .i v1.Power, .i v1.Draught, .i v1.Tonnes, .o 1 2 v1.Thrust.length, .o 3 4 v1.Water.length, .o 5 6 v1.Ice.length, .i v1.Slow, .i v1.Brash, .i v1.Ridge, .i v1.Press]) (lN rfl) sh_25 rfl rfl ⟨rfl, rfl, rfl, rfl, rfl, rfl, rfl, rfl, rfl, rfl, rfl, trivial⟩),
       okp rfl rfl (oqM (lN rfl) rfl),
       okp rfl rfl (oqM (lN rfl) rfl),
       okp rfl rfl (op_ixO (lN rfl) rfl rfl ss_124 rfl (flat_ne (enc := encCell) (k := 8) (fun _ => rfl) (by decide) (i := x3) hp16.1 hp16.2) hp16.1 hp16.2),
       okp rfl rfl (op_loadON (vs := [(.int .i64 ((((x1.2.getD x3.toNat default)).Conc).Lo)), (.int .i64 ((((x1.2.getD x3.toNat default)).Conc).Hi)), (.int .i64 ((((x1.2.getD x3.toNat default)).Thick).Lo)), (.int .i64 ((((x1.2.getD x3.toNat default)).Thick).Hi)), (.int .i64 ((((x1.2.getD x3.toNat default)).Ridge).Lo)), (.int .i64 ((((x1.2.getD x3.toNat default)).Ridge).Hi)), (.int .i64 ((((x1.2.getD x3.toNat default)).Press).Lo)), (.int .i64 ((((x1.2.getD x3.toNat default)).Press).Hi))]) (lN rfl) sh_34 rfl rfl rfl (fun zq zv zh => flat_sub (k := 8) (l := x1.2) (enc := encCell) (fun _ => rfl) default (i := x3) hp16.1 hp16.2 0 (vs := [(.int .i64 ((((x1.2.getD x3.toNat default)).Conc).Lo)), (.int .i64 ((((x1.2.getD x3.toNat default)).Conc).Hi)), (.int .i64 ((((x1.2.getD x3.toNat default)).Thick).Lo)), (.int .i64 ((((x1.2.getD x3.toNat default)).Thick).Hi)), (.int .i64 ((((x1.2.getD x3.toNat default)).Ridge).Lo)), (.int .i64 ((((x1.2.getD x3.toNat default)).Ridge).Hi)), (.int .i64 ((((x1.2.getD x3.toNat default)).Press).Lo)), (.int .i64 ((((x1.2.getD x3.toNat default)).Press).Hi))]) rfl zh)),
       okp rfl rfl (oqM (lN rfl) rfl),
       okp rfl rfl (oqC (x := .t [.i ((safeE v1 ((x1.2.getD x3.toNat default)) a5).1), .i ((safeE v1 ((x1.2.getD x3.toNat default)) a5).2)]) (fs := []) (caps := []) (extra := (kapp [.r 1] (kapp [.r 3] (kapp [.r 5] [])))) (lN rfl) en_24 rfl ⟨rfl, rfl, rfl⟩ (EvL.cons rfl (EvL.cons rfl (EvL.cons rfl EvL.nil))) (fun mm aa ww gg hr hrel => (c24 v1 ⟨ptr0 (mm 1) (mm 2), v1.Thrust.length, mm 2⟩ ⟨ptr0 (mm 3) (mm 4), v1.Water.length, mm 4⟩ ⟨ptr0 (mm 5) (mm 6), v1.Ice.length, mm 6⟩ ((x1.2.getD x3.toNat default)) a5 ww (sqr (enc := ePt) (l := v1.Thrust) (fun _ => rfl) (by decide) hrel ((hr _ (List.mem_append_left _ (by simp))).trans rfl)) (sqr (enc := ePt) (l := v1.Water) (fun _ => rfl) (by decide) hrel ((hr _ (List.mem_append_right _ (List.mem_append_left _ (by simp)))).trans rfl)) (sqr (enc := ePt) (l := v1.Ice) (fun _ => rfl) (by decide) hrel ((hr _ (List.mem_append_right _ (List.mem_append_right _ (List.mem_append_left _ (by simp))))).trans rfl)) (BoxAt.mono hG hrel.below)))),
       okp rfl rfl (oqM (lN rfl) rfl),
       okp rfl rfl (oqx (lN rfl) rfl rfl),
       okp rfl rfl (oqx (lN rfl) rfl rfl),
       okp rfl rfl (oqA (lN rfl) rfl),
       okp rfl rfl (oqA (lN rfl) rfl),
       trivial⟩ ?_
      refine fqK (s' := (kt 5 (.B a5) :: kt 13 (.p 7 0) :: kt 24 (.o 300 301 x1.1.length) :: kt 25 (.o 302 303 x1.2.length) :: kt 28 (.i ((safeE v1 ((x1.1.getD x3.toNat default)) a5).2)) :: kt 30 (.i ((safeE v1 ((x1.2.getD x3.toNat default)) a5).2)) :: kt 31 (.i ((safeE v1 ((x1.1.getD x3.toNat default)) a5).1)) :: kt 32 (.i ((safeE v1 ((x1.2.getD x3.toNat default)) a5).1)) :: kt 101 (.i (((x1.1.length : Nat) : Int))) :: kt 102 (.i x3) :: kb 7 25 11 :: (.r 1, some (.vec true 2 84 2 (v1.Thrust.flatMap ePt))) :: (.r 3, some (.vec true 4 84 2 (v1.Water.flatMap ePt))) :: (.r 5, some (.vec true 6 84 2 (v1.Ice.flatMap ePt))) :: (.r 300, some (.vec true 301 34 8 (x1.1.flatMap encCell))) :: (.r 302, some (.vec true 303 34 8 (x1.2.flatMap encCell))) :: sK 7 v1 (.o 1 2 v1.Thrust.length) (.o 3 4 v1.Water.length) (.o 5 6 v1.Ice.length) [])) ?_ (kp rfl) rfl
      refine fqT ?_
      refine aqS ?_
      refine aqT (rows := [_, _, _, _, _, _, _, _, _, _, _, _, _, _, _, _, _, _, _, _, _, _, _]) rfl (by kernel_rfl) ⟨
       okp rfl rfl (oqM (lN rfl) rfl),
       okp rfl rfl (oqB (lN rfl) rfl rfl rfl),
       okp rfl rfl (oqM (lN rfl) rfl),
       ok_if (lN rfl) rfl rfl rfl rfl rfl rfl (fun hg30 => oqM (lN rfl) (force_x rfl)),
       ok_if (lN rfl) rfl rfl rfl rfl rfl rfl (fun hg31 => oqB (lN rfl) (force_eq (beq_iff_eq.2 hg31) rfl) rfl rfl),
       ok_if (lN rfl) rfl rfl rfl rfl rfl rfl (fun hg32 => oqM (lN rfl) (force_eq (beq_iff_eq.2 hg32) rfl)),
       ok_ifC (lN rfl) rfl rfl rfl rfl rfl rfl (fun hg33 => oqM (lN rfl) (force_x rfl)),
       ok_ifC (lN rfl) rfl rfl rfl rfl rfl rfl (fun hg34 => oqM (lN rfl) (force_x rfl)),
       ok_ifC (lN rfl) rfl rfl rfl rfl rfl rfl (fun hg35 => oqB (lN rfl) (force_eq hg35 rfl) (force_eq hg35 rfl) rfl),
       ok_if (lN rfl) rfl rfl rfl rfl rfl rfl (fun hg36 => op_orF (lN rfl) (beq_iff_eq.2 hg36) rfl rfl),
       okp rfl rfl (op_and (lN rfl) rfl rfl),
       okp rfl rfl (oqM (lN rfl) rfl),
       ok_if (lN rfl) rfl rfl rfl rfl rfl rfl (fun hg37 => oqM (lN rfl) (force_x rfl)),
       ok_if (lN rfl) rfl rfl rfl rfl rfl rfl (fun hg38 => oqB (lN rfl) (force_eq (beq_iff_eq.2 hg38) rfl) rfl rfl),
       ok_if (lN rfl) rfl rfl rfl rfl rfl rfl (fun hg39 => oqM (lN rfl) (force_eq (beq_iff_eq.2 hg39) rfl)),
       ok_ifC (lN rfl) rfl rfl rfl rfl rfl rfl (fun hg40 => oqM (lN rfl) (force_x rfl)),
       ok_ifC (lN rfl) rfl rfl rfl rfl rfl rfl (fun hg41 => oqB (lN rfl) (force_eq hg41 rfl) rfl rfl),
       ok_if (lN rfl) rfl rfl rfl rfl rfl rfl (fun hg42 => op_andF (lN rfl) (beq_iff_eq.2 hg42) rfl rfl),
       ok_if (lN rfl) rfl rfl rfl rfl rfl rfl (fun hg43 => oqM (lN rfl) (force_eq (beq_iff_eq.2 hg43) rfl)),
       ok_ifC (lN rfl) rfl rfl rfl rfl rfl rfl (fun hg44 => oqM (lN rfl) (force_x rfl)),
       ok_ifC (lN rfl) rfl rfl rfl rfl rfl rfl (fun hg45 => oqB (lN rfl) (force_eq hg45 rfl) rfl rfl),
       ok_if (lN rfl) rfl rfl rfl rfl rfl rfl (fun hg46 => op_andF (lN rfl) (beq_iff_eq.2 hg46) rfl rfl),
       okp rfl rfl (op_or (lN rfl) rfl rfl),
       trivial⟩ ?_
      refine fqK (s' := (kt 5 (.B a5) :: kt 13 (.p 7 0) :: kt 24 (.o 300 301 x1.1.length) :: kt 25 (.o 302 303 x1.2.length) :: kt 101 (.i (((x1.1.length : Nat) : Int))) :: kt 102 (.i x3) :: kt 187 (.B (((((safeE v1 ((x1.1.getD x3.toNat default)) a5).2) == 0) && ((((safeE v1 ((x1.2.getD x3.toNat default)) a5).2) != 0) || (decide (((safeE v1 ((x1.1.getD x3.toNat default)) a5).1) > ((safeE v1 ((x1.2.getD x3.toNat default)) a5).1))))) || (((((safeE v1 ((x1.1.getD x3.toNat default)) a5).2) != 0) && (((safeE v1 ((x1.1.getD x3.toNat default)) a5).2) != 4)) && (((safeE v1 ((x1.1.getD x3.toNat default)) a5).2) != 41)))) :: kb 7 25 11 :: (.r 1, some (.vec true 2 84 2 (v1.Thrust.flatMap ePt))) :: (.r 3, some (.vec true 4 84 2 (v1.Water.flatMap ePt))) :: (.r 5, some (.vec true 6 84 2 (v1.Ice.flatMap ePt))) :: (.r 300, some (.vec true 301 34 8 (x1.1.flatMap encCell))) :: (.r 302, some (.vec true 303 34 8 (x1.2.flatMap encCell))) :: sK 7 v1 (.o 1 2 v1.Thrust.length) (.o 3 4 v1.Water.length) (.o 5 6 v1.Ice.length) [])) ?_ (kp rfl) rfl
      refine fqT ?_
      refine aqc rfl (fun hz47 => ?_) (fun hz47 => ?_)
      ·have hm := brk_t hz47 hm
       refine aqS ?_
       refine aqT (rows := [_]) rfl (by kernel_rfl) ⟨
        okp rfl rfl (oqA (lN rfl) rfl),
        trivial⟩ ?_
       refine fqK (s' := [kt 12 (.B false)]) ?_ (kp rfl) rfl
       refine fqT ?_
       refine aqr ?_
       refine fin_block_ret ?_
       refine fqR ?_
       refine fqR ?_
       refine fin_block_ret ?_
       refine fqR ?_
       refine pqr (x := .B false) rfl rfl (rqT rfl rqN) rfl (fun mm aa ww hr => ?_)
       have hm := Option.some.inj hm
       subst hm
       exact ⟨rfl, hr.below⟩
      ·have hm := brk_f hz47 hm
       refine aqk ?_
       refine fqB ?_
       refine fqT ?_
       obtain ⟨hp48, hm⟩ := chk_some hm
       refine aqT (rows := [_, _]) rfl (by kernel_rfl) ⟨
        okp rfl rfl (oqB (lN rfl) rfl rfl (nw_add hp48)),
        okp rfl rfl (oqM (lN rfl) rfl),
        trivial⟩ ?_
       refine fqK (s' := (kt 5 (.B a5) :: kt 13 (.p 7 0) :: kt 24 (.o 300 301 x1.1.length) :: kt 25 (.o 302 303 x1.2.length) :: kt 101 (.i (((x1.1.length : Nat) : Int))) :: kt 102 (.i (x3 + 1)) :: kb 7 25 11 :: (.r 1, some (.vec true 2 84 2 (v1.Thrust.flatMap ePt))) :: (.r 3, some (.vec true 4 84 2 (v1.Water.flatMap ePt))) :: (.r 5, some (.vec true 6 84 2 (v1.Ice.flatMap ePt))) :: (.r 300, some (.vec true 301 34 8 (x1.1.flatMap encCell))) :: (.r 302, some (.vec true 303 34 8 (x1.2.flatMap encCell))) :: sK 7 v1 (.o 1 2 v1.Thrust.length) (.o 3 4 v1.Water.length) (.o 5 6 v1.Ice.length) [])) ?_ (kp rfl) rfl
       exact fqc (x3 + 1) hm ⟨rfl, rfl, rfl, rfl, rfl, rfl, rfl, rfl, rfl, rfl, rfl, rfl, rfl, rfl, rfl, rfl, rfl, rfl, rfl, rfl, rfl, rfl, rfl, trivial⟩ rfl
    ·have hm := brk_f hz14 hm
     refine aw_exit ?_
     refine fqE ?_
     refine fqE ?_
     refine fin_block_exit ?_
     exact fqc () hm trivial rfl
   ·have _z := hm
    refine aqS ?_
    refine aqT (rows := [_, _]) rfl (by kernel_rfl) ⟨
     okp rfl rfl (oqC (x := .B true) (fs := []) (caps := []) (extra := []) (lN rfl) en_21 rfl ⟨rfl, rfl, rfl⟩ EvL.nil (fun mm aa ww gg hr hrel => (c21 ww (BoxAt.mono hG hrel.below)))),
     okp rfl rfl (oqA (lN rfl) rfl),
     trivial⟩ ?_
    refine fqK (s' := [kt 12 (.B true)]) ?_ (kp rfl) rfl
    refine fqT ?_
    refine aqr ?_
    refine pqr (x := .B true) rfl rfl (rqT rfl rqN) rfl (fun mm aa ww hr => ?_)
    have hm := Option.some.inj hm
    subst hm
    exact ⟨rfl, hr.below⟩
end Go.Proofs.T
