import Derived.Test.YtgpcfckbcldokaaDoorHM
import Derived.Test.YtgpcfckbcldokaaDoorAxT
namespace Go.Proofs.T
open Go Go.AX Go.RowKit Hull
theorem en_22 : Proofs.Enters Tryd.prog 22 := Proofs.enters_of Tryd.func22 (by kernel_rfl) rfl
theorem zl_44 : zeroL Tryd.prog 44 = some [(.nilFunc)] := by kernel_rfl
theorem sz_44 : sizeIn Tryd.prog 44 = some 1 := by kernel_rfl
theorem sh_44 : shapeOf Tryd.prog 44 = some none := by kernel_rfl
theorem en_83 : Proofs.Enters Tryd.prog 83 := Proofs.enters_of Tryd.func83 (by kernel_rfl) rfl
theorem en_74 : Proofs.Enters Tryd.prog 74 := Proofs.enters_of Tryd.func74 (by kernel_rfl) rfl

theorem c83L (n : Int) (k : Nat) (b1 : Nat) (l : List Int) (s : SlV) (b2 : Nat) (w : World) (hb1 : w.heap[b1]? = some (.cells ([.int .i64 (idx l k)] : List Value).toArray 3 (0, 0)))
    (hb2 : w.heap[b2]? = some (.cells ([.slice s.p s.n s.c] : List Value).toArray 22 (0, 0))) (hl : SlIs encU8 1 w s l) (hns1 : l ≠ [] → ∀ ad, s.p = some ad → ad.block ≠ b1) (hne : b2 ≠ b1) (hn : 1 ≤ n ∧ n ≤ 1000000)
    (h8 : ∀ x ∈ l, 0 ≤ x ∧ x ≤ 255) (hlen : l.length ≤ 9223372036854775807) :
    Calls Tryd.prog 83 #[.int .i64 n, .pointer (some ⟨b1, 0, none⟩), .pointer (some ⟨b2, 0, none⟩)] w fun e w' => e = .returned (.int .i64 (dv l k n)) ∧ LentL w w' [(b1, 3, [.int .i64 (idx l (k + 1))]), (b2, 22, [.slice s.p s.n s.c])] := by
  refine (c83i n k b1 l s b2 w hb1 hl (boxAt_heap hb2) hns1 hne hn h8 hlen).mono fun e w' ⟨he, hw⟩ => ⟨he, ?_⟩
  have := hw.toL.more hb2 (by simpa using hne.symm)
  exact ⟨this.os, this.tape, this.output, this.size, fun k h1 h2 => this.block k h1 (fun q hq => h2 q (by simp at hq ⊢; exact hq.symm)), fun q hq => this.it q (by simp at hq ⊢; exact hq.symm)⟩

def m16 (_F : Nat) (a0 : Cell) : Option (Ice × Ice) :=
  some ((⟨a0.Conc.Lo, a0.Thick.Lo, a0.Ridge.Lo, a0.Press.Lo⟩ : Ice), (⟨a0.Conc.Hi, a0.Thick.Hi, a0.Ridge.Hi, a0.Press.Hi⟩ : Ice))

theorem c16 (F : Nat) (a0 : Cell) (w : World)  (r : Ice × Ice) (hm : m16 F a0 = some r) : Calls Tryd.prog 16 #[.agg #[.int .i64 a0.Conc.Lo, .int .i64 a0.Conc.Hi, .int .i64 a0.Thick.Lo, .int .i64 a0.Thick.Hi, .int .i64 a0.Ridge.Lo, .int .i64 a0.Ridge.Hi, .int .i64 a0.Press.Lo, .int .i64 a0.Press.Hi]] w fun e w' => e = .returned (.tuple #[.agg #[.int .i64 r.1.Conc, .int .i64 r.1.Thick, .int .i64 r.1.Ridge, .int .i64 r.1.Press], .agg #[.int .i64 r.2.Conc, .int .i64 r.2.Thick, .int .i64 r.2.Ridge, .int .i64 r.2.Press]]) ∧ Below w.heap.size w w' := by
  unfold m16 at hm
  refine enter (args := [.g [.v (.int .i64 a0.Conc.Lo), .v (.int .i64 a0.Conc.Hi), .v (.int .i64 a0.Thick.Lo), .v (.int .i64 a0.Thick.Hi), .v (.int .i64 a0.Ridge.Lo), .v (.int .i64 a0.Ridge.Hi), .v (.int .i64 a0.Press.Lo), .v (.int .i64 a0.Press.Hi)]]) Tryd.func16 rfl (N := 30) rfl (Nat.le_of_ble_eq_true rfl) ?_
  refine aw_seq ?_
  refine aw_text (rows := [_, _, _]) rfl (by kernel_rfl) ⟨
    ok_plain rfl rfl (op_boxN (L := 1) (ltN rfl) rfl rfl rfl),
    ok_plain rfl rfl (op_alloc (L := 2) (ltN rfl) zl_28),
    ok_plain rfl rfl (op_alloc (L := 3) (ltN rfl) zl_28),
    trivial⟩ ?_
  refine fin_keep (s' := [(.t 1, some (.x (.p 1 0))), (.t 2, some (.x (.p 2 0))), (.t 3, some (.x (.p 3 0))), (.b 1, some (.sh 34 8)), (.b 2, some (.sh 28 4)), (.b 3, some (.sh 28 4)), (.c 1 0, some (.x (.v (.int .i64 a0.Conc.Lo)))), (.c 1 1, some (.x (.v (.int .i64 a0.Conc.Hi)))), (.c 1 2, some (.x (.v (.int .i64 a0.Thick.Lo)))), (.c 1 3, some (.x (.v (.int .i64 a0.Thick.Hi)))), (.c 1 4, some (.x (.v (.int .i64 a0.Ridge.Lo)))), (.c 1 5, some (.x (.v (.int .i64 a0.Ridge.Hi)))), (.c 1 6, some (.x (.v (.int .i64 a0.Press.Lo)))), (.c 1 7, some (.x (.v (.int .i64 a0.Press.Hi)))), (.c 2 0, some (.x (.v (.int .i64 0)))), (.c 2 1, some (.x (.v (.int .i64 0)))), (.c 2 2, some (.x (.v (.int .i64 0)))), (.c 2 3, some (.x (.v (.int .i64 0)))), (.c 3 0, some (.x (.v (.int .i64 0)))), (.c 3 1, some (.x (.v (.int .i64 0)))), (.c 3 2, some (.x (.v (.int .i64 0)))), (.c 3 3, some (.x (.v (.int .i64 0))))]) ?_ ⟨rfl, rfl, rfl, rfl, rfl, rfl, rfl, rfl, rfl, rfl, rfl, rfl, rfl, rfl, rfl, rfl, rfl, rfl, rfl, rfl, rfl, rfl, trivial⟩ rfl
  refine fin_then ?_
  refine aw_seq ?_
  refine aw_any (rows := [_, _, _, _, _, _, _, _, _, _, _, _, _, _, _, _, _, _, _, _, _, _, _, _, _, _, _, _]) (M := [0, 1, 3, 0, 8, 24, 0, 64, 192, 0, 512, 1536, 4095, 0, 8192, 24576, 0, 65536, 196608, 0, 524288, 1572864, 0, 4194304, 12582912, 33546240, 8191, 134217727]) Tryd_mixed (by kernel_rfl) rfl (by kernel_rfl) ⟨
    ok_plain rfl rfl (op_fieldAddr (ltN rfl) rfl fo_34_0),
    ok_plain rfl rfl (op_fieldAddr (ltN rfl) rfl fo_32_0),
    ok_plain rfl rfl (op_load1 (ltN rfl) sh_3 rfl rfl),
    ok_plain rfl rfl (op_fieldAddr (ltN rfl) rfl fo_34_1),
    ok_plain rfl rfl (op_fieldAddr (ltN rfl) rfl fo_32_0),
    ok_plain rfl rfl (op_load1 (ltN rfl) sh_3 rfl rfl),
    ok_plain rfl rfl (op_fieldAddr (ltN rfl) rfl fo_34_2),
    ok_plain rfl rfl (op_fieldAddr (ltN rfl) rfl fo_32_0),
    ok_plain rfl rfl (op_load1 (ltN rfl) sh_3 rfl rfl),
    ok_plain rfl rfl (op_fieldAddr (ltN rfl) rfl fo_34_3),
    ok_plain rfl rfl (op_fieldAddr (ltN rfl) rfl fo_32_0),
    ok_plain rfl rfl (op_load1 (ltN rfl) sh_3 rfl rfl),
    ok_plain rfl rfl (op_build (x := .g [.v (.int .i64 a0.Conc.Lo), .v (.int .i64 a0.Thick.Lo), .v (.int .i64 a0.Ridge.Lo), .v (.int .i64 a0.Press.Lo)]) (ltN rfl) (EvL.cons rfl (EvL.cons rfl (EvL.cons rfl (EvL.cons rfl EvL.nil)))) (fun m w => by kernel_rfl)),
    ok_plain rfl rfl (op_fieldAddr (ltN rfl) rfl fo_34_0),
    ok_plain rfl rfl (op_fieldAddr (ltN rfl) rfl fo_32_1),
    ok_plain rfl rfl (op_load1 (ltN rfl) sh_3 rfl rfl),
    ok_plain rfl rfl (op_fieldAddr (ltN rfl) rfl fo_34_1),
    ok_plain rfl rfl (op_fieldAddr (ltN rfl) rfl fo_32_1),
    ok_plain rfl rfl (op_load1 (ltN rfl) sh_3 rfl rfl),
    ok_plain rfl rfl (op_fieldAddr (ltN rfl) rfl fo_34_2),
    ok_plain rfl rfl (op_fieldAddr (ltN rfl) rfl fo_32_1),
    ok_plain rfl rfl (op_load1 (ltN rfl) sh_3 rfl rfl),
    ok_plain rfl rfl (op_fieldAddr (ltN rfl) rfl fo_34_3),
    ok_plain rfl rfl (op_fieldAddr (ltN rfl) rfl fo_32_1),
    ok_plain rfl rfl (op_load1 (ltN rfl) sh_3 rfl rfl),
    ok_plain rfl rfl (op_build (x := .g [.v (.int .i64 a0.Conc.Hi), .v (.int .i64 a0.Thick.Hi), .v (.int .i64 a0.Ridge.Hi), .v (.int .i64 a0.Press.Hi)]) (ltN rfl) (EvL.cons rfl (EvL.cons rfl (EvL.cons rfl (EvL.cons rfl EvL.nil)))) (fun m w => by kernel_rfl)),
    ok_plain rfl rfl (op_storeN sz_28 rfl rfl rfl rfl rfl (by decide)),
    ok_plain rfl rfl (op_storeN sz_28 rfl rfl rfl rfl rfl (by decide)),
    trivial⟩ ?_
  refine fin_keep (s' := [(.t 2, some (.x (.p 2 0))), (.t 3, some (.x (.p 3 0))), (.b 2, some (.sh 28 4)), (.b 3, some (.sh 28 4)), (.c 2 0, some (.x (.v (.int .i64 a0.Conc.Lo)))), (.c 2 1, some (.x (.v (.int .i64 a0.Thick.Lo)))), (.c 2 2, some (.x (.v (.int .i64 a0.Ridge.Lo)))), (.c 2 3, some (.x (.v (.int .i64 a0.Press.Lo)))), (.c 3 0, some (.x (.v (.int .i64 a0.Conc.Hi)))), (.c 3 1, some (.x (.v (.int .i64 a0.Thick.Hi)))), (.c 3 2, some (.x (.v (.int .i64 a0.Ridge.Hi)))), (.c 3 3, some (.x (.v (.int .i64 a0.Press.Hi))))]) ?_ ⟨rfl, rfl, rfl, rfl, rfl, rfl, rfl, rfl, rfl, rfl, rfl, rfl, trivial⟩ rfl
  refine fin_then ?_
  refine aw_ret ?_
  refine post_ret (x := .t [.g [.v (.int .i64 a0.Conc.Lo), .v (.int .i64 a0.Thick.Lo), .v (.int .i64 a0.Ridge.Lo), .v (.int .i64 a0.Press.Lo)], .g [.v (.int .i64 a0.Conc.Hi), .v (.int .i64 a0.Thick.Hi), .v (.int .i64 a0.Ridge.Hi), .v (.int .i64 a0.Press.Hi)]]) rfl rfl (resOK_cellN (ys := [.v (.int .i64 a0.Conc.Lo), .v (.int .i64 a0.Thick.Lo), .v (.int .i64 a0.Ridge.Lo), .v (.int .i64 a0.Press.Lo)]) rfl sh_28 rfl ⟨rfl, rfl, rfl, rfl, trivial⟩ (resOK_cellN (ys := [.v (.int .i64 a0.Conc.Hi), .v (.int .i64 a0.Thick.Hi), .v (.int .i64 a0.Ridge.Hi), .v (.int .i64 a0.Press.Hi)]) rfl sh_28 rfl ⟨rfl, rfl, rfl, rfl, trivial⟩ resOK_nil)) rfl (fun mm aa ww hr => ?_)
  cases hm
  exact ⟨rfl, hr.below⟩

def m74_0 (_F : Nat) (a0 : Int) (a1 : Int) (a2 : Int) (a3 : Int) (l2_0 : List Int) (n1_0 : Nat) : Option (Span × Nat) :=
  chk ((0 ≤ a3 ∧ a3 ≤ 9223372036854775807) ∧ 0 < a1) (chk (InR ((a3 / a1) + 1)) (chk ((0 ≤ a0 ∧ a0 ≤ 9223372036854775807) ∧ 0 < a1) (chk (InR (((a3 / a1) + 1) - (a0 / a1))) (chk (1 ≤ ((a3 / a1) + 1) - (a0 / a1) ∧ ((a3 / a1) + 1) - (a0 / a1) ≤ 1000000) (chk (InR (a1 * (dv l2_0 n1_0 (((a3 / a1) + 1) - (a0 / a1))))) (chk (InR (a0 + (a1 * (dv l2_0 n1_0 (((a3 / a1) + 1) - (a0 / a1)))))) (chk (1 ≤ a2 ∧ a2 ≤ 1000000) (chk (InR ((a0 + (a1 * (dv l2_0 n1_0 (((a3 / a1) + 1) - (a0 / a1))))) + (dv l2_0 ((n1_0 + 1)) a2))) (some ((⟨a0 + (a1 * (dv l2_0 n1_0 (((a3 / a1) + 1) - (a0 / a1)))), if ((a0 + (a1 * (dv l2_0 n1_0 (((a3 / a1) + 1) - (a0 / a1))))) + (dv l2_0 ((n1_0 + 1)) a2)) < a3 then (a0 + (a1 * (dv l2_0 n1_0 (((a3 / a1) + 1) - (a0 / a1))))) + (dv l2_0 ((n1_0 + 1)) a2) else a3⟩ : Span), ((n1_0 + 1) + 1)))))))))))

theorem c74_0 (F : Nat) (a0 : Int) (a1 : Int) (a2 : Int) (a3 : Int) (b0 : Nat) (b1 : Nat) (b2 : Nat) (l2_0 : List Int) (l2_0_s : SlV) (n1_0 : Nat) (w : World) (hb0 : w.heap[b0]? = some (.cells ([.func (.func 83) #[] #[.pointer (some ⟨b1, 0, none⟩), .pointer (some ⟨b2, 0, none⟩)]] : List Value).toArray 44 (0, 0))) (hb1 : w.heap[b1]? = some (.cells ([.int .i64 (idx l2_0 n1_0)] : List Value).toArray 3 (0, 0))) (hb2 : w.heap[b2]? = some (.cells ([.slice l2_0_s.p l2_0_s.n l2_0_s.c] : List Value).toArray 22 (0, 0))) (hd_0_1 : b1 ≠ b0) (hd_0_2 : b2 ≠ b0) (hd_1_2 : b2 ≠ b1) (hl2_0 : SlIs encU8 1 w l2_0_s l2_0) (h8l2_0 : ∀ x ∈ l2_0, 0 ≤ x ∧ x ≤ 255) (hlenl2_0 : l2_0.length ≤ 9223372036854775807) (hn_l2_0_0 : l2_0 ≠ [] → ∀ ad, l2_0_s.p = some ad → ad.block ≠ b0) (hn_l2_0_1 : l2_0 ≠ [] → ∀ ad, l2_0_s.p = some ad → ad.block ≠ b1) (hn_l2_0_2 : l2_0 ≠ [] → ∀ ad, l2_0_s.p = some ad → ad.block ≠ b2) (r : Span × Nat) (hm : m74_0 F a0 a1 a2 a3 l2_0 n1_0 = some r) : Calls Tryd.prog 74 #[.int .i64 a0, .int .i64 a1, .int .i64 a2, .int .i64 a3, .pointer (some ⟨b0, 0, none⟩)] w fun e w' => e = .returned (.agg #[.int .i64 r.1.Lo, .int .i64 r.1.Hi]) ∧ LentL w w' [(b0, 44, [.func (.func 83) #[] #[.pointer (some ⟨b1, 0, none⟩), .pointer (some ⟨b2, 0, none⟩)]]), (b1, 3, [.int .i64 (idx l2_0 r.2)]), (b2, 22, [.slice l2_0_s.p l2_0_s.n l2_0_s.c])] := by
  obtain ⟨l2_0_p, l2_0_n, l2_0_c⟩ := l2_0_s
  have hl2_0_l : l2_0_n = l2_0.length := hl2_0.1
  subst hl2_0_l
  obtain ⟨l2_0_b, l2_0_o, hl2_0_p, hl2_0_L⟩ := SlAt.lies' hl2_0
  unfold m74_0 at hm
  refine enterG (args := [.v (.int .i64 a0), .v (.int .i64 a1), .v (.int .i64 a2), .v (.int .i64 a3), .v (.pointer (some ⟨b0, 0, none⟩))]) Tryd.func74 rfl (N := 36) rfl (Nat.le_of_ble_eq_true rfl) [(900, b0, 44, [.func (.func 83) #[] #[.pointer (some ⟨b1, 0, none⟩), .pointer (some ⟨b2, 0, none⟩)]]), (901, b1, 3, [.int .i64 (idx l2_0 n1_0)]), (902, b2, 22, [(.slice l2_0_p l2_0.length l2_0_c)])] ⟨hb0, (by simp [loans2, hd_0_1, hd_0_2]), ⟨hb1, (by simp [loans2, hd_1_2]), ⟨hb2, (by simp [loans2]), trivial⟩⟩⟩ rfl ?_
  refine aw_rex (k := .t 4) (.p 900 0) rfl (fun m hm => by have h0 := hm ((900, b0) : Nat × Nat) (by simp [loans2]); simp only [den]; rw [h0]) ?_
  refine aw_rex (k := .c 900 0) (.f (.func 83) [] [.p 901 0, .p 902 0]) rfl (fun m hm => by have h0 := hm ((901, b1) : Nat × Nat) (by simp [loans2]); have h1 := hm ((902, b2) : Nat × Nat) (by simp [loans2]); simp only [den, denL]; rw [h0, h1]) ?_
  refine AW.keep (s' := [(.t 0, some (.x (.v (.int .i64 a0)))), (.t 1, some (.x (.v (.int .i64 a1)))), (.t 2, some (.x (.v (.int .i64 a2)))), (.t 3, some (.x (.v (.int .i64 a3)))), (.t 4, some (.x (.p 900 0))), (.b 900, some (.sh 44 1)), (.b 901, some (.sh 3 1)), (.b 902, some (.sh 22 1)), (.c 900 0, some (.x (.f (.func 83) [] [.p 901 0, .p 902 0]))), (.c 901 0, some (.x (.v (.int .i64 (idx l2_0 n1_0))))), (.c 902 0, some (.x (.v (.slice l2_0_p l2_0.length l2_0_c))))]) ?_ ⟨rfl, rfl, rfl, rfl, rfl, rfl, rfl, rfl, rfl, rfl, rfl, trivial⟩ rfl
  refine aw_seq ?_
  refine aw_text (rows := [_]) rfl (by kernel_rfl) ⟨
    ok_plain rfl rfl (op_alloc (L := 1) (ltN rfl) zl_32),
    trivial⟩ ?_
  refine fin_keep (s' := [(.t 0, some (.x (.v (.int .i64 a0)))), (.t 1, some (.x (.v (.int .i64 a1)))), (.t 2, some (.x (.v (.int .i64 a2)))), (.t 3, some (.x (.v (.int .i64 a3)))), (.t 4, some (.x (.p 900 0))), (.t 9, some (.x (.p 1 0))), (.b 1, some (.sh 32 2)), (.b 900, some (.sh 44 1)), (.b 901, some (.sh 3 1)), (.b 902, some (.sh 22 1)), (.c 1 0, some (.x (.v (.int .i64 0)))), (.c 1 1, some (.x (.v (.int .i64 0)))), (.c 900 0, some (.x (.f (.func 83) [] [.p 901 0, .p 902 0]))), (.c 901 0, some (.x (.v (.int .i64 (idx l2_0 n1_0))))), (.c 902 0, some (.x (.v (.slice l2_0_p l2_0.length l2_0_c))))]) ?_ ⟨rfl, rfl, rfl, rfl, rfl, rfl, rfl, rfl, rfl, rfl, rfl, rfl, rfl, rfl, rfl, trivial⟩ rfl
  refine fin_then ?_
  refine aw_seq ?_
  obtain ⟨hp1, hm⟩ := chk_some hm
  obtain ⟨hp2, hm⟩ := chk_some hm
  obtain ⟨hp3, hm⟩ := chk_some hm
  obtain ⟨hp4, hm⟩ := chk_some hm
  obtain ⟨hp5, hm⟩ := chk_some hm
  obtain ⟨hp6, hm⟩ := chk_some hm
  obtain ⟨hp7, hm⟩ := chk_some hm
  refine aw_any (rows := [_, _, _, _, _, _, _, _, _, _, _, _, _, _, _, _, _]) (M := [0, 0, 0, 0, 0, 24, 56, 0, 0, 384, 1016, 2044, 4094, 8191, 16383, 0, 65535]) Tryd_mixed (by kernel_rfl) rfl (by kernel_rfl) ⟨
    ok_plain rfl rfl (op_move (ltN rfl) rfl),
    ok_plain rfl rfl (op_move (ltN rfl) rfl),
    ok_plain rfl rfl (op_load1 (ltN rfl) sh_44 rfl rfl),
    ok_plain rfl rfl (op_move (ltN rfl) rfl),
    ok_plain rfl rfl (op_move (ltN rfl) rfl),
    ok_plain rfl rfl (op_quo (ltN rfl) rfl rfl (Int.ne_of_gt hp1.2) (quo_nn hp1.1.1 hp1.2 hp1.1.2)),
    ok_plain rfl rfl (op_bin (ltN rfl) rfl rfl (nw_add hp2)),
    ok_plain rfl rfl (op_move (ltN rfl) rfl),
    ok_plain rfl rfl (op_move (ltN rfl) rfl),
    ok_plain rfl rfl (op_quo (ltN rfl) rfl rfl (Int.ne_of_gt hp3.2) (quo_nn hp3.1.1 hp3.2 hp3.1.2)),
    ok_plain rfl rfl (op_bin (ltN rfl) rfl rfl (nw_sub hp4)),
    ok_plain rfl rfl (op_callLentL (ls := [⟨901, 3, [.v (.int .i64 (idx l2_0 n1_0))], [.v (.int .i64 (idx l2_0 (n1_0 + 1)))]⟩, ⟨902, 22, [.v (.slice l2_0_p l2_0.length l2_0_c)], [.v (.slice l2_0_p l2_0.length l2_0_c)]⟩]) (x := .v (.int .i64 (dv l2_0 n1_0 (((a3 / a1) + 1) - (a0 / a1))))) (fs := []) (caps := [.p 901 0, .p 902 0]) (extra := []) (ltN rfl) en_83 rfl ⟨rfl, rfl, rfl⟩ (EvL.cons rfl EvL.nil) ⟨rfl, ⟨rfl, trivial⟩, rfl, lb_ne rfl, ⟨rfl, ⟨rfl, trivial⟩, rfl, lb_ne rfl, trivial⟩⟩ (fun mm aa ww gg hr hrel hbx hlo => c83L (((a3 / a1) + 1) - (a0 / a1)) n1_0 (mm 901) l2_0 ⟨l2_0_p, l2_0.length, l2_0_c⟩ (mm 902) ww (hbx _ (.head _)) (hbx _ (.tail _ (.head _))) (SlIs.kept hl2_0 hrel (fun hl ad h => (lent_cons (hn_l2_0_0 hl ad h) (lent_cons (hn_l2_0_1 hl ad h) (lent_cons (hn_l2_0_2 hl ad h) lent_nil))))) (fun hl ad h => by rw [(hrel.fix 901 b1 (by simp [loans2])).1]; exact hn_l2_0_1 hl ad h) (box_ne hrel hlo.2.2.2.2.1 hlo.1 (by decide)) hp5 h8l2_0 hlenl2_0)),
    ok_plain rfl rfl (op_bin (ltN rfl) rfl rfl (nw_mul hp6)),
    ok_plain rfl rfl (op_bin (ltN rfl) rfl rfl (nw_add hp7)),
    ok_plain rfl rfl (op_build (x := .g [.v (.int .i64 (a0 + (a1 * (dv l2_0 n1_0 (((a3 / a1) + 1) - (a0 / a1)))))), .v (.int .i64 0)]) (ltN rfl) (EvL.cons rfl EvL.nil) (fun m w => by kernel_rfl)),
    ok_plain rfl rfl (op_alloc (L := 2) (ltN rfl) zl_32),
    ok_plain rfl rfl (op_storeN sz_32 rfl rfl rfl rfl rfl (by decide)),
    trivial⟩ ?_
  refine fin_keep (s' := [(.t 2, some (.x (.v (.int .i64 a2)))), (.t 3, some (.x (.v (.int .i64 a3)))), (.t 4, some (.x (.p 900 0))), (.t 9, some (.x (.p 1 0))), (.t 10, some (.x (.p 2 0))), (.b 1, some (.sh 32 2)), (.b 2, some (.sh 32 2)), (.b 900, some (.sh 44 1)), (.b 901, some (.sh 3 1)), (.b 902, some (.sh 22 1)), (.c 1 0, some (.x (.v (.int .i64 0)))), (.c 1 1, some (.x (.v (.int .i64 0)))), (.c 2 0, some (.x (.v (.int .i64 (a0 + (a1 * (dv l2_0 n1_0 (((a3 / a1) + 1) - (a0 / a1))))))))), (.c 2 1, some (.x (.v (.int .i64 0)))), (.c 900 0, some (.x (.f (.func 83) [] [.p 901 0, .p 902 0]))), (.c 901 0, some (.x (.v (.int .i64 (idx l2_0 (n1_0 + 1)))))), (.c 902 0, some (.x (.v (.slice l2_0_p l2_0.length l2_0_c))))]) ?_ ⟨rfl, rfl, rfl, rfl, rfl, rfl, rfl, rfl, rfl, rfl, rfl, rfl, rfl, rfl, rfl, rfl, rfl, trivial⟩ rfl
  refine fin_then ?_
  refine aw_seq ?_
  obtain ⟨hp8, hm⟩ := chk_some hm
  obtain ⟨hp9, hm⟩ := chk_some hm
  refine aw_any (rows := [_, _, _, _, _, _, _, _, _, _]) (M := [0, 0, 2, 0, 0, 24, 62, 127, 255, 511]) Tryd_mixed (by kernel_rfl) rfl (by kernel_rfl) ⟨
    ok_plain rfl rfl (op_move (ltN rfl) rfl),
    ok_plain rfl rfl (op_fieldAddr (ltN rfl) rfl fo_32_0),
    ok_plain rfl rfl (op_load1 (ltN rfl) sh_3 rfl rfl),
    ok_plain rfl rfl (op_load1 (ltN rfl) sh_44 rfl rfl),
    ok_plain rfl rfl (op_move (ltN rfl) rfl),
    ok_plain rfl rfl (op_callLentL (ls := [⟨901, 3, [.v (.int .i64 (idx l2_0 (n1_0 + 1)))], [.v (.int .i64 (idx l2_0 ((n1_0 + 1) + 1)))]⟩, ⟨902, 22, [.v (.slice l2_0_p l2_0.length l2_0_c)], [.v (.slice l2_0_p l2_0.length l2_0_c)]⟩]) (x := .v (.int .i64 (dv l2_0 ((n1_0 + 1)) a2))) (fs := []) (caps := [.p 901 0, .p 902 0]) (extra := []) (ltN rfl) en_83 rfl ⟨rfl, rfl, rfl⟩ (EvL.cons rfl EvL.nil) ⟨rfl, ⟨rfl, trivial⟩, rfl, lb_ne rfl, ⟨rfl, ⟨rfl, trivial⟩, rfl, lb_ne rfl, trivial⟩⟩ (fun mm aa ww gg hr hrel hbx hlo => c83L a2 ((n1_0 + 1)) (mm 901) l2_0 ⟨l2_0_p, l2_0.length, l2_0_c⟩ (mm 902) ww (hbx _ (.head _)) (hbx _ (.tail _ (.head _))) (SlIs.kept hl2_0 hrel (fun hl ad h => (lent_cons (hn_l2_0_0 hl ad h) (lent_cons (hn_l2_0_1 hl ad h) (lent_cons (hn_l2_0_2 hl ad h) lent_nil))))) (fun hl ad h => by rw [(hrel.fix 901 b1 (by simp [loans2])).1]; exact hn_l2_0_1 hl ad h) (box_ne hrel hlo.2.2.2.2.1 hlo.1 (by decide)) hp8 h8l2_0 hlenl2_0)),
    ok_plain rfl rfl (op_bin (ltN rfl) rfl rfl (nw_add hp9)),
    ok_plain rfl rfl (op_min (ltN rfl) rfl rfl),
    ok_plain rfl rfl (op_fieldAddr (ltN rfl) rfl fo_32_1),
    ok_plain rfl rfl (op_store1 sz_3 rfl rfl rfl rfl (ltN rfl)),
    trivial⟩ ?_
  refine fin_keep (s' := [(.t 9, some (.x (.p 1 0))), (.t 10, some (.x (.p 2 0))), (.b 1, some (.sh 32 2)), (.b 2, some (.sh 32 2)), (.b 900, some (.sh 44 1)), (.b 901, some (.sh 3 1)), (.b 902, some (.sh 22 1)), (.c 1 0, some (.x (.v (.int .i64 0)))), (.c 1 1, some (.x (.v (.int .i64 0)))), (.c 2 0, some (.x (.v (.int .i64 (a0 + (a1 * (dv l2_0 n1_0 (((a3 / a1) + 1) - (a0 / a1))))))))), (.c 2 1, some (.x (.v (.int .i64 (if ((a0 + (a1 * (dv l2_0 n1_0 (((a3 / a1) + 1) - (a0 / a1))))) + (dv l2_0 ((n1_0 + 1)) a2)) < a3 then (a0 + (a1 * (dv l2_0 n1_0 (((a3 / a1) + 1) - (a0 / a1))))) + (dv l2_0 ((n1_0 + 1)) a2) else a3))))), (.c 900 0, some (.x (.f (.func 83) [] [.p 901 0, .p 902 0]))), (.c 901 0, some (.x (.v (.int .i64 (idx l2_0 ((n1_0 + 1) + 1)))))), (.c 902 0, some (.x (.v (.slice l2_0_p l2_0.length l2_0_c))))]) ?_ ⟨rfl, rfl, rfl, rfl, rfl, rfl, rfl, rfl, rfl, rfl, rfl, rfl, rfl, rfl, trivial⟩ rfl
  refine fin_then ?_
  refine aw_seq ?_
  refine aw_text (rows := [_, _]) rfl (by kernel_rfl) ⟨
    ok_plain rfl rfl (op_loadN (ys := [.v (.int .i64 (a0 + (a1 * (dv l2_0 n1_0 (((a3 / a1) + 1) - (a0 / a1)))))), .v (.int .i64 (if ((a0 + (a1 * (dv l2_0 n1_0 (((a3 / a1) + 1) - (a0 / a1))))) + (dv l2_0 ((n1_0 + 1)) a2)) < a3 then (a0 + (a1 * (dv l2_0 n1_0 (((a3 / a1) + 1) - (a0 / a1))))) + (dv l2_0 ((n1_0 + 1)) a2) else a3))]) (ltN rfl) sh_32 rfl rfl ⟨rfl, rfl, trivial⟩),
    ok_plain rfl rfl (op_storeN sz_32 rfl rfl rfl rfl rfl (by decide)),
    trivial⟩ ?_
  refine fin_keep (s' := [(.t 9, some (.x (.p 1 0))), (.b 1, some (.sh 32 2)), (.b 900, some (.sh 44 1)), (.b 901, some (.sh 3 1)), (.b 902, some (.sh 22 1)), (.c 1 0, some (.x (.v (.int .i64 (a0 + (a1 * (dv l2_0 n1_0 (((a3 / a1) + 1) - (a0 / a1))))))))), (.c 1 1, some (.x (.v (.int .i64 (if ((a0 + (a1 * (dv l2_0 n1_0 (((a3 / a1) + 1) - (a0 / a1))))) + (dv l2_0 ((n1_0 + 1)) a2)) < a3 then (a0 + (a1 * (dv l2_0 n1_0 (((a3 / a1) + 1) - (a0 / a1))))) + (dv l2_0 ((n1_0 + 1)) a2) else a3))))), (.c 900 0, some (.x (.f (.func 83) [] [.p 901 0, .p 902 0]))), (.c 901 0, some (.x (.v (.int .i64 (idx l2_0 ((n1_0 + 1) + 1)))))), (.c 902 0, some (.x (.v (.slice l2_0_p l2_0.length l2_0_c))))]) ?_ ⟨rfl, rfl, rfl, rfl, rfl, rfl, rfl, rfl, rfl, rfl, trivial⟩ rfl
  refine fin_then ?_
  refine aw_ret ?_
  refine post_ret (x := .g [.v (.int .i64 (a0 + (a1 * (dv l2_0 n1_0 (((a3 / a1) + 1) - (a0 / a1)))))), .v (.int .i64 (if ((a0 + (a1 * (dv l2_0 n1_0 (((a3 / a1) + 1) - (a0 / a1))))) + (dv l2_0 ((n1_0 + 1)) a2)) < a3 then (a0 + (a1 * (dv l2_0 n1_0 (((a3 / a1) + 1) - (a0 / a1))))) + (dv l2_0 ((n1_0 + 1)) a2) else a3))]) rfl rfl (resOK_cellN (ys := [.v (.int .i64 (a0 + (a1 * (dv l2_0 n1_0 (((a3 / a1) + 1) - (a0 / a1)))))), .v (.int .i64 (if ((a0 + (a1 * (dv l2_0 n1_0 (((a3 / a1) + 1) - (a0 / a1))))) + (dv l2_0 ((n1_0 + 1)) a2)) < a3 then (a0 + (a1 * (dv l2_0 n1_0 (((a3 / a1) + 1) - (a0 / a1))))) + (dv l2_0 ((n1_0 + 1)) a2) else a3))]) rfl sh_32 rfl ⟨rfl, rfl, trivial⟩ resOK_nil) rfl (fun mm aa ww hr => ?_)
  cases hm
  have hr := hr.rex (k0 := .c 900 0) (x := .v (.func (.func 83) #[] #[.pointer (some ⟨b1, 0, none⟩), .pointer (some ⟨b2, 0, none⟩)])) rfl (by simp only [den, denL]; rw [(hr.fix 901 b1 (by simp [loans2])).1, (hr.fix 902 b2 (by simp [loans2])).1])
  exact ⟨rfl, lentL_end hr [(900, b0, 44, [.func (.func 83) #[] #[.pointer (some ⟨b1, 0, none⟩), .pointer (some ⟨b2, 0, none⟩)]]), (901, b1, 3, [(.int .i64 (idx l2_0 ((n1_0 + 1) + 1)))]), (902, b2, 22, [(.slice l2_0_p l2_0.length l2_0_c)])] rfl ⟨rfl, ⟨rfl, trivial⟩, ⟨rfl, ⟨rfl, trivial⟩, ⟨rfl, ⟨rfl, trivial⟩, trivial⟩⟩⟩⟩

def m17 (F : Nat) (a0 : List Int) : Option (Cell) :=
  bnd (m74_0 F 0 1 40 100 a0 0) (fun v1 => bnd (m74_0 F 0 2 120 400 a0 v1.2) (fun v2 => bnd (m74_0 F 0 1 20 100 a0 v2.2) (fun v3 => bnd (m74_0 F 0 1 4 3 a0 v3.2) (fun v4 => some ((⟨v1.1, v2.1, v3.1, v4.1⟩ : Cell))))))

theorem c17 (F : Nat) (a0 : List Int) (a0_s : SlV) (w : World) (ha0 : SlIs encU8 1 w a0_s a0) (h8a0 : ∀ x ∈ a0, 0 ≤ x ∧ x ≤ 255) (hlena0 : a0.length ≤ 9223372036854775807) (r : Cell) (hm : m17 F a0 = some r) : Calls Tryd.prog 17 #[.slice a0_s.p a0_s.n a0_s.c] w fun e w' => e = .returned (.agg #[.int .i64 r.Conc.Lo, .int .i64 r.Conc.Hi, .int .i64 r.Thick.Lo, .int .i64 r.Thick.Hi, .int .i64 r.Ridge.Lo, .int .i64 r.Ridge.Hi, .int .i64 r.Press.Lo, .int .i64 r.Press.Hi]) ∧ Below w.heap.size w w' := by
  obtain ⟨a0_p, a0_n, a0_c⟩ := a0_s
  have ha0_l : a0_n = a0.length := ha0.1
  subst ha0_l
  obtain ⟨a0_b, a0_o, ha0_p, ha0_L⟩ := SlAt.lies' ha0
  unfold m17 at hm
  refine enter (args := [.v (.slice a0_p a0.length a0_c)]) Tryd.func17 rfl (N := 17) rfl (Nat.le_of_ble_eq_true rfl) ?_
  refine aw_seq ?_
  refine aw_text (rows := [_]) rfl (by kernel_rfl) ⟨
    ok_plain rfl rfl (op_alloc (L := 1) (ltN rfl) zl_34),
    trivial⟩ ?_
  refine fin_keep (s' := [(.t 0, some (.x (.v (.slice a0_p a0.length a0_c)))), (.t 2, some (.x (.p 1 0))), (.b 1, some (.sh 34 8)), (.c 1 0, some (.x (.v (.int .i64 0)))), (.c 1 1, some (.x (.v (.int .i64 0)))), (.c 1 2, some (.x (.v (.int .i64 0)))), (.c 1 3, some (.x (.v (.int .i64 0)))), (.c 1 4, some (.x (.v (.int .i64 0)))), (.c 1 5, some (.x (.v (.int .i64 0)))), (.c 1 6, some (.x (.v (.int .i64 0)))), (.c 1 7, some (.x (.v (.int .i64 0))))]) ?_ ⟨rfl, rfl, rfl, rfl, rfl, rfl, rfl, rfl, rfl, rfl, rfl, trivial⟩ rfl
  refine fin_then ?_
  refine aw_seq ?_
  refine aw_text (rows := [_, _, _, _]) rfl (by kernel_rfl) ⟨
    ok_plain rfl rfl (op_move (ltN rfl) rfl),
    ok_plain rfl rfl (op_callTwo (L1 := 2) (L2 := 3) (ty1 := 3) (ty2 := 22) (v1 := [.int .i64 (idx a0 0)]) (v2 := [(.slice a0_p a0.length a0_c)]) (R := fun b1 b2 => .func (.func 83) #[] #[.pointer (some ⟨b1, 0, none⟩), .pointer (some ⟨b2, 0, none⟩)]) (x := .f (.func 83) [] [.p 2 0, .p 3 0]) (fs := []) (caps := []) (extra := []) (ltN rfl) en_22 rfl ⟨rfl, rfl, rfl⟩ (EvL.cons rfl EvL.nil) (by decide) (fun _ => rfl) (fun mm aa ww gg hr hrel => (c22 a0 ⟨a0_p, a0.length, a0_c⟩ ww (SlIs.mono ha0 hrel.below)))),
    ok_plain rfl rfl (op_alloc (L := 4) (ltN rfl) zl_44),
    ok_plain rfl rfl (op_store1 sz_44 rfl rfl rfl rfl (ltN rfl)),
    trivial⟩ ?_
  refine fin_keep (s' := [(.t 2, some (.x (.p 1 0))), (.t 3, some (.x (.p 4 0))), (.b 1, some (.sh 34 8)), (.b 2, some (.sh 3 1)), (.b 3, some (.sh 22 1)), (.b 4, some (.sh 44 1)), (.c 1 0, some (.x (.v (.int .i64 0)))), (.c 1 1, some (.x (.v (.int .i64 0)))), (.c 1 2, some (.x (.v (.int .i64 0)))), (.c 1 3, some (.x (.v (.int .i64 0)))), (.c 1 4, some (.x (.v (.int .i64 0)))), (.c 1 5, some (.x (.v (.int .i64 0)))), (.c 1 6, some (.x (.v (.int .i64 0)))), (.c 1 7, some (.x (.v (.int .i64 0)))), (.c 2 0, some (.x (.v (.int .i64 (idx a0 0))))), (.c 3 0, some (.x (.v (.slice a0_p a0.length a0_c)))), (.c 4 0, some (.x (.f (.func 83) [] [.p 2 0, .p 3 0])))]) ?_ ⟨rfl, rfl, rfl, rfl, rfl, rfl, rfl, rfl, rfl, rfl, rfl, rfl, rfl, rfl, rfl, rfl, rfl, trivial⟩ rfl
  refine fin_then ?_
  refine aw_seq ?_
  refine aw_text (rows := [_, _]) rfl (by kernel_rfl) ⟨
    ok_plain rfl rfl (op_mkfn (ltN rfl) EvL.nil (EvL.cons rfl EvL.nil)),
    ok_plain rfl rfl (op_assign (ltN rfl) rfl),
    trivial⟩ ?_
  refine fin_keep (s' := [(.t 2, some (.x (.p 1 0))), (.t 4, some (.x (.f (.func 74) [] [.p 4 0]))), (.b 1, some (.sh 34 8)), (.b 2, some (.sh 3 1)), (.b 3, some (.sh 22 1)), (.b 4, some (.sh 44 1)), (.c 1 0, some (.x (.v (.int .i64 0)))), (.c 1 1, some (.x (.v (.int .i64 0)))), (.c 1 2, some (.x (.v (.int .i64 0)))), (.c 1 3, some (.x (.v (.int .i64 0)))), (.c 1 4, some (.x (.v (.int .i64 0)))), (.c 1 5, some (.x (.v (.int .i64 0)))), (.c 1 6, some (.x (.v (.int .i64 0)))), (.c 1 7, some (.x (.v (.int .i64 0)))), (.c 2 0, some (.x (.v (.int .i64 (idx a0 0))))), (.c 3 0, some (.x (.v (.slice a0_p a0.length a0_c)))), (.c 4 0, some (.x (.f (.func 83) [] [.p 2 0, .p 3 0])))]) ?_ ⟨rfl, rfl, rfl, rfl, rfl, rfl, rfl, rfl, rfl, rfl, rfl, rfl, rfl, rfl, rfl, rfl, rfl, trivial⟩ rfl
  refine fin_then ?_
  refine aw_seq ?_
  obtain ⟨v1, hv1, hm⟩ := bnd_some hm
  obtain ⟨v2, hv2, hm⟩ := bnd_some hm
  obtain ⟨v3, hv3, hm⟩ := bnd_some hm
  obtain ⟨v4, hv4, hm⟩ := bnd_some hm
  refine aw_text (rows := [_, _, _, _, _, _, _, _, _, _]) rfl (by kernel_rfl) ⟨
    ok_plain rfl rfl (op_move (ltN rfl) rfl),
    ok_plain rfl rfl (op_callLentL (ls := [⟨4, 44, [.f (.func 83) [] [.p 2 0, .p 3 0]], [.f (.func 83) [] [.p 2 0, .p 3 0]]⟩, ⟨2, 3, [.v (.int .i64 (idx a0 0))], [.v (.int .i64 (idx a0 v1.2))]⟩, ⟨3, 22, [.v (.slice a0_p a0.length a0_c)], [.v (.slice a0_p a0.length a0_c)]⟩]) (x := .g [.v (.int .i64 v1.1.Lo), .v (.int .i64 v1.1.Hi)]) (fs := []) (caps := [.p 4 0]) (extra := []) (ltN rfl) en_74 rfl ⟨rfl, rfl, rfl⟩ (EvL.cons rfl (EvL.cons rfl (EvL.cons rfl (EvL.cons rfl EvL.nil)))) ⟨rfl, ⟨rfl, trivial⟩, rfl, lb_ne rfl, ⟨rfl, ⟨rfl, trivial⟩, rfl, lb_ne rfl, ⟨rfl, ⟨rfl, trivial⟩, rfl, lb_ne rfl, trivial⟩⟩⟩ (fun mm aa ww gg hr hrel hbx hlo => (c74_0 F 0 1 40 100 (mm 4) (mm 2) (mm 3) a0 ⟨a0_p, a0.length, a0_c⟩ 0 ww (hbx _ (.head _)) (hbx _ (.tail _ (.head _))) (hbx _ (.tail _ (.tail _ (.head _)))) (box_ne hrel hlo.2.2.2.2.1 hlo.1 (by decide)) (box_ne hrel hlo.2.2.2.2.2.2.2.2.1 hlo.1 (by decide)) (box_ne hrel hlo.2.2.2.2.2.2.2.2.1 hlo.2.2.2.2.1 (by decide)) (SlIs.mono ha0 hrel.below) h8a0 hlena0 (sl_ne ha0 (box_hi hrel hlo.1)) (sl_ne ha0 (box_hi hrel hlo.2.2.2.2.1)) (sl_ne ha0 (box_hi hrel hlo.2.2.2.2.2.2.2.2.1)) v1 hv1))),
    ok_plain rfl rfl (op_move (ltN rfl) rfl),
    ok_plain rfl rfl (op_callLentL (ls := [⟨4, 44, [.f (.func 83) [] [.p 2 0, .p 3 0]], [.f (.func 83) [] [.p 2 0, .p 3 0]]⟩, ⟨2, 3, [.v (.int .i64 (idx a0 v1.2))], [.v (.int .i64 (idx a0 v2.2))]⟩, ⟨3, 22, [.v (.slice a0_p a0.length a0_c)], [.v (.slice a0_p a0.length a0_c)]⟩]) (x := .g [.v (.int .i64 v2.1.Lo), .v (.int .i64 v2.1.Hi)]) (fs := []) (caps := [.p 4 0]) (extra := []) (ltN rfl) en_74 rfl ⟨rfl, rfl, rfl⟩ (EvL.cons rfl (EvL.cons rfl (EvL.cons rfl (EvL.cons rfl EvL.nil)))) ⟨rfl, ⟨rfl, trivial⟩, rfl, lb_ne rfl, ⟨rfl, ⟨rfl, trivial⟩, rfl, lb_ne rfl, ⟨rfl, ⟨rfl, trivial⟩, rfl, lb_ne rfl, trivial⟩⟩⟩ (fun mm aa ww gg hr hrel hbx hlo => (c74_0 F 0 2 120 400 (mm 4) (mm 2) (mm 3) a0 ⟨a0_p, a0.length, a0_c⟩ v1.2 ww (hbx _ (.head _)) (hbx _ (.tail _ (.head _))) (hbx _ (.tail _ (.tail _ (.head _)))) (box_ne hrel hlo.2.2.2.2.1 hlo.1 (by decide)) (box_ne hrel hlo.2.2.2.2.2.2.2.2.1 hlo.1 (by decide)) (box_ne hrel hlo.2.2.2.2.2.2.2.2.1 hlo.2.2.2.2.1 (by decide)) (SlIs.mono ha0 hrel.below) h8a0 hlena0 (sl_ne ha0 (box_hi hrel hlo.1)) (sl_ne ha0 (box_hi hrel hlo.2.2.2.2.1)) (sl_ne ha0 (box_hi hrel hlo.2.2.2.2.2.2.2.2.1)) v2 hv2))),
    ok_plain rfl rfl (op_move (ltN rfl) rfl),
    ok_plain rfl rfl (op_callLentL (ls := [⟨4, 44, [.f (.func 83) [] [.p 2 0, .p 3 0]], [.f (.func 83) [] [.p 2 0, .p 3 0]]⟩, ⟨2, 3, [.v (.int .i64 (idx a0 v2.2))], [.v (.int .i64 (idx a0 v3.2))]⟩, ⟨3, 22, [.v (.slice a0_p a0.length a0_c)], [.v (.slice a0_p a0.length a0_c)]⟩]) (x := .g [.v (.int .i64 v3.1.Lo), .v (.int .i64 v3.1.Hi)]) (fs := []) (caps := [.p 4 0]) (extra := []) (ltN rfl) en_74 rfl ⟨rfl, rfl, rfl⟩ (EvL.cons rfl (EvL.cons rfl (EvL.cons rfl (EvL.cons rfl EvL.nil)))) ⟨rfl, ⟨rfl, trivial⟩, rfl, lb_ne rfl, ⟨rfl, ⟨rfl, trivial⟩, rfl, lb_ne rfl, ⟨rfl, ⟨rfl, trivial⟩, rfl, lb_ne rfl, trivial⟩⟩⟩ (fun mm aa ww gg hr hrel hbx hlo => (c74_0 F 0 1 20 100 (mm 4) (mm 2) (mm 3) a0 ⟨a0_p, a0.length, a0_c⟩ v2.2 ww (hbx _ (.head _)) (hbx _ (.tail _ (.head _))) (hbx _ (.tail _ (.tail _ (.head _)))) (box_ne hrel hlo.2.2.2.2.1 hlo.1 (by decide)) (box_ne hrel hlo.2.2.2.2.2.2.2.2.1 hlo.1 (by decide)) (box_ne hrel hlo.2.2.2.2.2.2.2.2.1 hlo.2.2.2.2.1 (by decide)) (SlIs.mono ha0 hrel.below) h8a0 hlena0 (sl_ne ha0 (box_hi hrel hlo.1)) (sl_ne ha0 (box_hi hrel hlo.2.2.2.2.1)) (sl_ne ha0 (box_hi hrel hlo.2.2.2.2.2.2.2.2.1)) v3 hv3))),
    ok_plain rfl rfl (op_move (ltN rfl) rfl),
    ok_plain rfl rfl (op_callLentL (ls := [⟨4, 44, [.f (.func 83) [] [.p 2 0, .p 3 0]], [.f (.func 83) [] [.p 2 0, .p 3 0]]⟩, ⟨2, 3, [.v (.int .i64 (idx a0 v3.2))], [.v (.int .i64 (idx a0 v4.2))]⟩, ⟨3, 22, [.v (.slice a0_p a0.length a0_c)], [.v (.slice a0_p a0.length a0_c)]⟩]) (x := .g [.v (.int .i64 v4.1.Lo), .v (.int .i64 v4.1.Hi)]) (fs := []) (caps := [.p 4 0]) (extra := []) (ltN rfl) en_74 rfl ⟨rfl, rfl, rfl⟩ (EvL.cons rfl (EvL.cons rfl (EvL.cons rfl (EvL.cons rfl EvL.nil)))) ⟨rfl, ⟨rfl, trivial⟩, rfl, lb_ne rfl, ⟨rfl, ⟨rfl, trivial⟩, rfl, lb_ne rfl, ⟨rfl, ⟨rfl, trivial⟩, rfl, lb_ne rfl, trivial⟩⟩⟩ (fun mm aa ww gg hr hrel hbx hlo => (c74_0 F 0 1 4 3 (mm 4) (mm 2) (mm 3) a0 ⟨a0_p, a0.length, a0_c⟩ v3.2 ww (hbx _ (.head _)) (hbx _ (.tail _ (.head _))) (hbx _ (.tail _ (.tail _ (.head _)))) (box_ne hrel hlo.2.2.2.2.1 hlo.1 (by decide)) (box_ne hrel hlo.2.2.2.2.2.2.2.2.1 hlo.1 (by decide)) (box_ne hrel hlo.2.2.2.2.2.2.2.2.1 hlo.2.2.2.2.1 (by decide)) (SlIs.mono ha0 hrel.below) h8a0 hlena0 (sl_ne ha0 (box_hi hrel hlo.1)) (sl_ne ha0 (box_hi hrel hlo.2.2.2.2.1)) (sl_ne ha0 (box_hi hrel hlo.2.2.2.2.2.2.2.2.1)) v4 hv4))),
    ok_plain rfl rfl (op_build (x := .g [.v (.int .i64 v1.1.Lo), .v (.int .i64 v1.1.Hi), .v (.int .i64 v2.1.Lo), .v (.int .i64 v2.1.Hi), .v (.int .i64 v3.1.Lo), .v (.int .i64 v3.1.Hi), .v (.int .i64 v4.1.Lo), .v (.int .i64 v4.1.Hi)]) (ltN rfl) (EvL.cons rfl (EvL.cons rfl (EvL.cons rfl (EvL.cons rfl EvL.nil)))) (fun m w => by kernel_rfl)),
    ok_plain rfl rfl (op_storeN sz_34 rfl rfl rfl rfl rfl (by decide)),
    trivial⟩ ?_
  refine fin_keep (s' := [(.t 2, some (.x (.p 1 0))), (.b 1, some (.sh 34 8)), (.c 1 0, some (.x (.v (.int .i64 v1.1.Lo)))), (.c 1 1, some (.x (.v (.int .i64 v1.1.Hi)))), (.c 1 2, some (.x (.v (.int .i64 v2.1.Lo)))), (.c 1 3, some (.x (.v (.int .i64 v2.1.Hi)))), (.c 1 4, some (.x (.v (.int .i64 v3.1.Lo)))), (.c 1 5, some (.x (.v (.int .i64 v3.1.Hi)))), (.c 1 6, some (.x (.v (.int .i64 v4.1.Lo)))), (.c 1 7, some (.x (.v (.int .i64 v4.1.Hi))))]) ?_ ⟨rfl, rfl, rfl, rfl, rfl, rfl, rfl, rfl, rfl, rfl, trivial⟩ rfl
  refine fin_then ?_
  refine aw_ret ?_
  refine post_ret (x := .g [.v (.int .i64 v1.1.Lo), .v (.int .i64 v1.1.Hi), .v (.int .i64 v2.1.Lo), .v (.int .i64 v2.1.Hi), .v (.int .i64 v3.1.Lo), .v (.int .i64 v3.1.Hi), .v (.int .i64 v4.1.Lo), .v (.int .i64 v4.1.Hi)]) rfl rfl (resOK_cellN (ys := [.v (.int .i64 v1.1.Lo), .v (.int .i64 v1.1.Hi), .v (.int .i64 v2.1.Lo), .v (.int .i64 v2.1.Hi), .v (.int .i64 v3.1.Lo), .v (.int .i64 v3.1.Hi), .v (.int .i64 v4.1.Lo), .v (.int .i64 v4.1.Hi)]) rfl sh_34 rfl ⟨rfl, rfl, rfl, rfl, rfl, rfl, rfl, rfl, trivial⟩ resOK_nil) rfl (fun mm aa ww hr => ?_)
  cases hm
  exact ⟨rfl, hr.below⟩

end Go.Proofs.T
