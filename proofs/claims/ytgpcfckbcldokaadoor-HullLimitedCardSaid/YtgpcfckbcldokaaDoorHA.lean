import Derived.Test.YtgpcfckbcldokaaDoorProg
import Derived.Test.YtgpcfckbcldokaaDoorAxO
import Derived.Test.YtgpcfckbcldokaaDoorHP3
import Derived.KernelRfl
namespace Go.Proofs.T
open Go Go.AX Go.RowKit Hull
theorem Tryd_mixed : Tryd.prog.follows .mixedOrders = true := by kernel_rfl
theorem ss_23 : sliceSz Tryd.prog 23 = some 2 := by kernel_rfl
theorem en_84 : Proofs.Enters Tryd.prog 84 := Proofs.enters_of Tryd.func84 (by kernel_rfl) rfl
theorem fo_84_0 : fieldOff Tryd.prog 84 0 = some 0 := by kernel_rfl
theorem sh_3 : shapeOf Tryd.prog 3 = some none := by kernel_rfl
theorem sh_84 : shapeOf Tryd.prog 84 = some (some 2) := by kernel_rfl
theorem zl_84 : zeroL Tryd.prog 84 = some [(.int .i64 0), (.int .i64 0)] := by kernel_rfl
theorem sz_84 : sizeIn Tryd.prog 84 = some 2 := by kernel_rfl
theorem fo_84_1 : fieldOff Tryd.prog 84 1 = some 1 := by kernel_rfl
theorem en_107 : Proofs.Enters Tryd.prog 107 := Proofs.enters_of Tryd.func107 (by kernel_rfl) rfl
theorem fo_25_0 : fieldOff Tryd.prog 25 0 = some 0 := by kernel_rfl
theorem fo_25_1 : fieldOff Tryd.prog 25 1 = some 1 := by kernel_rfl
theorem fo_25_2 : fieldOff Tryd.prog 25 2 = some 2 := by kernel_rfl
theorem fo_25_3 : fieldOff Tryd.prog 25 3 = some 3 := by kernel_rfl
theorem fo_25_7 : fieldOff Tryd.prog 25 7 = some 7 := by kernel_rfl
theorem fo_25_8 : fieldOff Tryd.prog 25 8 = some 8 := by kernel_rfl
theorem fo_25_9 : fieldOff Tryd.prog 25 9 = some 9 := by kernel_rfl
theorem fo_25_10 : fieldOff Tryd.prog 25 10 = some 10 := by kernel_rfl
theorem fo_25_4 : fieldOff Tryd.prog 25 4 = some 4 := by kernel_rfl
theorem sh_23 : shapeOf Tryd.prog 23 = some none := by kernel_rfl
theorem en_142 : Proofs.Enters Tryd.prog 142 := Proofs.enters_of Tryd.func142 (by kernel_rfl) rfl
theorem en_137 : Proofs.Enters Tryd.prog 137 := Proofs.enters_of Tryd.func137 (by kernel_rfl) rfl
theorem fo_25_5 : fieldOff Tryd.prog 25 5 = some 5 := by kernel_rfl
theorem fo_25_6 : fieldOff Tryd.prog 25 6 = some 6 := by kernel_rfl
theorem en_113 : Proofs.Enters Tryd.prog 113 := Proofs.enters_of Tryd.func113 (by kernel_rfl) rfl
theorem ss_171 : sliceSz Tryd.prog 171 = some 2 := by kernel_rfl
theorem sh_174 : shapeOf Tryd.prog 174 = some (some 2) := by kernel_rfl
theorem zl_174 : zeroL Tryd.prog 174 = some [(.nilFunc), (.int .i64 0)] := by kernel_rfl
theorem sz_174 : sizeIn Tryd.prog 174 = some 2 := by kernel_rfl
theorem fo_174_0 : fieldOff Tryd.prog 174 0 = some 0 := by kernel_rfl
theorem sh_57 : shapeOf Tryd.prog 57 = some none := by kernel_rfl
theorem sh_25 : shapeOf Tryd.prog 25 = some (some 11) := by kernel_rfl
theorem en_138 : Proofs.Enters Tryd.prog 138 := Proofs.enters_of Tryd.func138 (by kernel_rfl) rfl
theorem fo_174_1 : fieldOff Tryd.prog 174 1 = some 1 := by kernel_rfl
theorem sh_36 : shapeOf Tryd.prog 36 = some none := by kernel_rfl
theorem en_139 : Proofs.Enters Tryd.prog 139 := Proofs.enters_of Tryd.func139 (by kernel_rfl) rfl
theorem en_140 : Proofs.Enters Tryd.prog 140 := Proofs.enters_of Tryd.func140 (by kernel_rfl) rfl
theorem en_141 : Proofs.Enters Tryd.prog 141 := Proofs.enters_of Tryd.func141 (by kernel_rfl) rfl
theorem en_143 : Proofs.Enters Tryd.prog 143 := Proofs.enters_of Tryd.func143 (by kernel_rfl) rfl
theorem en_144 : Proofs.Enters Tryd.prog 144 := Proofs.enters_of Tryd.func144 (by kernel_rfl) rfl

def encPt (x : Pt) : List Value := [(.int .i64 x.X), (.int .i64 x.Y)]

def encIce (x : Ice) : List Value := [(.int .i64 x.Conc), (.int .i64 x.Thick), (.int .i64 x.Ridge), (.int .i64 x.Press)]

def encSpan (x : Span) : List Value := [(.int .i64 x.Lo), (.int .i64 x.Hi)]

def encCell (x : Cell) : List Value := [(.int .i64 x.Conc.Lo), (.int .i64 x.Conc.Hi), (.int .i64 x.Thick.Lo), (.int .i64 x.Thick.Hi), (.int .i64 x.Ridge.Lo), (.int .i64 x.Ridge.Hi), (.int .i64 x.Press.Lo), (.int .i64 x.Press.Hi)]

def encPart (x : Part) : List Value := [(.int .i64 x.Cell.Conc.Lo), (.int .i64 x.Cell.Conc.Hi), (.int .i64 x.Cell.Thick.Lo), (.int .i64 x.Cell.Thick.Hi), (.int .i64 x.Cell.Ridge.Lo), (.int .i64 x.Cell.Ridge.Hi), (.int .i64 x.Cell.Press.Lo), (.int .i64 x.Cell.Press.Hi), (.bool x.Channel), (.int .i64 x.Length)]

def encInt (x : Int) : List Value := [(.int .i64 x)]

theorem c84 (n : Int) (a : Int) (b : Int) (w : World)  : Calls Tryd.prog 84 #[.int .i64 n, .int .i64 a, .int .i64 b] w fun e w' => e = .returned (.bool (within n a b)) ∧ Below w.heap.size w w' := by
  refine enter (args := [.v (.int .i64 n), .v (.int .i64 a), .v (.int .i64 b)]) Tryd.func84 rfl (N := 15) rfl (Nat.le_of_ble_eq_true rfl) ?_
  refine aw_seq ?_
  refine aw_text (rows := [_]) rfl (by kernel_rfl) ⟨
    ok_plain rfl rfl (op_assign (ltN rfl) rfl),
    trivial⟩ ?_
  refine fin_keep (s' := [(.t 0, some (.x (.v (.int .i64 n)))), (.t 1, some (.x (.v (.int .i64 a)))), (.t 2, some (.x (.v (.int .i64 b))))]) ?_ ⟨rfl, rfl, rfl, trivial⟩ rfl
  refine fin_then ?_
  refine aw_seq ?_
  refine aw_text (rows := [_, _, _, _, _, _, _, _, _]) rfl (by kernel_rfl) ⟨
    ok_plain rfl rfl (op_move (ltN rfl) rfl),
    ok_plain rfl rfl (op_move (ltN rfl) rfl),
    ok_plain rfl rfl (op_bin (ltN rfl) rfl rfl rfl),
    ok_plain rfl rfl (op_move (ltN rfl) rfl),
    ok_if (ltN rfl) rfl rfl rfl rfl rfl rfl (fun hg1 => op_move (ltN rfl) (force_x rfl)),
    ok_if (ltN rfl) rfl rfl rfl rfl rfl rfl (fun hg2 => op_move (ltN rfl) (force_x rfl)),
    ok_if (ltN rfl) rfl rfl rfl rfl rfl rfl (fun hg3 => op_bin (ltN rfl) (force_eq (beq_iff_eq.2 hg3) rfl) (force_eq (beq_iff_eq.2 hg3) rfl) rfl),
    ok_plain rfl rfl (op_and (ltN rfl) rfl rfl),
    ok_plain rfl rfl (op_assign (ltN rfl) rfl),
    trivial⟩ ?_
  refine fin_keep (s' := [(.t 6, some (.x (.v (.bool ((decide (n ≥ a)) && (decide (n ≤ b)))))))]) ?_ ⟨rfl, trivial⟩ rfl
  refine fin_then ?_
  refine aw_ret ?_
  refine post_ret (x := .v (.bool ((decide (n ≥ a)) && (decide (n ≤ b))))) rfl rfl (resOK_tmp rfl resOK_nil) rfl (fun mm aa ww hr => ?_)
  show Ending.returned (.bool ((decide (n ≥ a)) && (decide (n ≤ b)))) = _ ∧ _
  first
    | exact ⟨rfl, hr.below⟩

theorem c107 (l : List Pt) (l_s : SlV) (w : World) (hl : SlIs encPt 2 w l_s l) : Calls Tryd.prog 107 #[.slice l_s.p l_s.n l_s.c] w fun e w' => e = .returned (.bool (curve l)) ∧ Below w.heap.size w w' := by
  obtain ⟨l_p, l_n, l_c⟩ := l_s
  have hl_l : l_n = l.length := hl.1
  subst hl_l
  obtain ⟨l_b, l_o, hl_p, hl_L⟩ := SlAt.lies' hl
  refine enter (args := [.v (.slice l_p l.length l_c)]) Tryd.func107 rfl (N := 49) rfl (Nat.le_of_ble_eq_true rfl) ?_
  refine aw_seq ?_
  refine aw_text (rows := [_]) rfl (by kernel_rfl) ⟨
    ok_plain rfl rfl (op_assign (ltN rfl) rfl),
    trivial⟩ ?_
  refine fin_keep (s' := [(.t 0, some (.x (.v (.slice l_p l.length l_c))))]) ?_ ⟨rfl, trivial⟩ rfl
  refine fin_then ?_
  refine aw_seq ?_
  refine aw_seq ?_
  refine aw_text (rows := [_, _, _, _, _, _, _, _, _, _, _]) rfl (by kernel_rfl) ⟨
    ok_plain rfl rfl (op_move (ltN rfl) rfl),
    ok_plain rfl rfl (op_len (n := l.length) (ltN rfl) (by rw [ss_23]; rfl) rfl rfl),
    ok_plain rfl rfl (op_call (x := .v (.bool (within (((l.length : Nat) : Int)) 2 8))) (fs := []) (caps := []) (extra := []) (ltN rfl) en_84 rfl ⟨rfl, rfl, rfl⟩ (EvL.cons rfl (EvL.cons rfl (EvL.cons rfl EvL.nil))) (fun mm aa ww gg hr hrel => (c84 (((l.length : Nat) : Int)) 2 8 ww))),
    ok_plain rfl rfl (op_not (ltN rfl) rfl),
    ok_plain rfl rfl (op_move (ltN rfl) rfl),
    ok_if (ltN rfl) rfl rfl rfl rfl rfl rfl (fun hg1 => op_move (ltN rfl) (force_x rfl)),
    ok_if (ltN rfl) rfl rfl rfl rfl rfl rfl (fun hg2 => op_ixB (ltN rfl) (force_eq (beq_iff_eq.2 hg2) rfl) rfl ss_23 (hl_p (ne_of_ix (i := 0) (by have g0 := within_t (not_f hg2); omega) (by have g0 := within_t (not_f hg2); omega))) (by have g0 := within_t (not_f hg2); omega) (by have g0 := within_t (not_f hg2); omega)),
    ok_if (ltN rfl) rfl rfl rfl rfl rfl rfl (fun hg3 => op_fieldAddrB (ltN rfl) (force_eq (beq_iff_eq.2 hg3) rfl) fo_84_0),
    ok_if (ltN rfl) rfl rfl rfl rfl rfl rfl (fun hg4 => op_loadB (y := .v (.int .i64 (((pt l 0)).X))) (ltN rfl) (force_eq (beq_iff_eq.2 hg4) rfl) (ld1 (hl_L (ne_of_ix (i := 0) (by have g0 := within_t (not_f hg4); omega) (by have g0 := within_t (not_f hg4); omega))) ⟨0, 0⟩ (i := 0) (by have g0 := within_t (not_f hg4); omega) (by have g0 := within_t (not_f hg4); omega) 0 rfl rfl sh_3)),
    ok_if (ltN rfl) rfl rfl rfl rfl rfl rfl (fun hg5 => op_bin (ltN rfl) (force_eq (beq_iff_eq.2 hg5) rfl) rfl rfl),
    ok_plain rfl rfl (op_or (ltN rfl) rfl rfl),
    trivial⟩ ?_
  refine fin_keep (s' := [(.t 0, some (.x (.v (.slice l_p l.length l_c)))), (.t 15, some (.x (.v (.bool ((!(within (((l.length : Nat) : Int)) 2 8)) || ((((pt l 0)).X) != 0))))))]) ?_ ⟨rfl, rfl, trivial⟩ rfl
  refine fin_then ?_
  refine aw_cond rfl (fun hz6 => ?_) (fun hz6 => ?_)
  · have _z := hz6
    have q7 := hz6
    refine aw_seq ?_
    refine aw_text (rows := [_]) rfl (by kernel_rfl) ⟨
      ok_plain rfl rfl (op_assign (ltN rfl) rfl),
      trivial⟩ ?_
    refine fin_keep (s' := [(.t 2, some (.x (.v (.bool false))))]) ?_ ⟨rfl, trivial⟩ rfl
    refine fin_then ?_
    refine aw_ret ?_
    refine fin_then_ret ?_
    refine post_ret (x := .v (.bool false)) rfl rfl (resOK_tmp rfl resOK_nil) rfl (fun mm aa ww hr => ?_)
    show Ending.returned (.bool false) = _ ∧ _
    exact ⟨by rw [curve_no1 hz6], hr.below⟩
  · have _z := hz6
    have q8 := within_t (not_f (or_fl hz6))
    have q9 := ne_f (or_fr hz6)
    refine aw_skip ?_
    refine fin_then ?_
    refine aw_seq ?_
    refine aw_seq ?_
    refine aw_text (rows := [_, _, _]) rfl (by kernel_rfl) ⟨
      ok_plain rfl rfl (op_move (ltN rfl) rfl),
      ok_plain rfl rfl (op_len (n := l.length) (ltN rfl) (by rw [ss_23]; rfl) rfl rfl),
      ok_plain rfl rfl (op_move (ltN rfl) rfl),
      trivial⟩ ?_
    refine fin_keep (s' := [(.t 0, some (.x (.v (.slice l_p l.length l_c)))), (.t 16, some (.x (.v (.slice l_p l.length l_c)))), (.t 17, some (.x (.v (.int .i64 (((l.length : Nat) : Int)))))), (.t 18, some (.x (.v (.int .i64 0))))]) ?_ ⟨rfl, rfl, rfl, rfl, trivial⟩ rfl
    refine fin_then ?_
    refine aw_block ?_
    refine AW.keep (s' := (fun (k : Nat) => [(.t 0, some (.x (.v (.slice l_p l.length l_c)))), (.t 16, some (.x (.v (.slice l_p l.length l_c)))), (.t 17, some (.x (.v (.int .i64 (((l.length : Nat) : Int)))))), (.t 18, some (.x (.v (.int .i64 ((k : Int))))))]) 0) ?_ ⟨rfl, rfl, rfl, rfl, trivial⟩ rfl
    refine aw_loop (ι := Nat) (fun k => k ≤ l.length ∧ ∀ j < k, curveAt l (j : Int) = true) (fun k => [(.t 0, some (.x (.v (.slice l_p l.length l_c)))), (.t 16, some (.x (.v (.slice l_p l.length l_c)))), (.t 17, some (.x (.v (.int .i64 (((l.length : Nat) : Int)))))), (.t 18, some (.x (.v (.int .i64 ((k : Int))))))]) (fun k => l.length - k) ⟨Nat.zero_le _, fun j hj => absurd hj (Nat.not_lt_zero j)⟩ (fun k hI => ?_)
    obtain ⟨hk, hall⟩ := hI
    refine aw_seq ?_
    refine aw_text (rows := [_]) rfl (by kernel_rfl) ⟨
      ok_plain rfl rfl (op_bin (ltN rfl) rfl rfl rfl),
      trivial⟩ ?_
    refine fin_keep (s' := [(.t 0, some (.x (.v (.slice l_p l.length l_c)))), (.t 16, some (.x (.v (.slice l_p l.length l_c)))), (.t 17, some (.x (.v (.int .i64 (((l.length : Nat) : Int)))))), (.t 18, some (.x (.v (.int .i64 ((k : Int)))))), (.t 19, some (.x (.v (.bool (decide (((k : Int)) < (((l.length : Nat) : Int))))))))]) ?_ ⟨rfl, rfl, rfl, rfl, rfl, trivial⟩ rfl
    refine fin_then ?_
    refine aw_seq ?_
    refine aw_cond rfl (fun hz10 => ?_) (fun hz10 => ?_)
    · have _z := hz10
      have q11 := of_decide_eq_true hz10
      refine aw_skip ?_
      refine fin_then ?_
      refine aw_seq ?_
      refine aw_block ?_
      refine aw_seq ?_
      refine aw_text (rows := [_, _, _, _, _, _]) rfl (by kernel_rfl) ⟨
        ok_plain rfl rfl (op_move (ltN rfl) rfl),
        ok_plain rfl rfl (op_ixB (ltN rfl) rfl rfl ss_23 (hl_p (ne_of_ix (i := (k : Int)) (by omega) (by omega))) (by omega) (by omega)),
        ok_plain rfl rfl (op_loadB (y := .g [.v (.int .i64 (((pt l ((k : Int)))).X)), .v (.int .i64 (((pt l ((k : Int)))).Y))]) (ltN rfl) rfl (ldN (hl_L (ne_of_ix (i := (k : Int)) (by omega) (by omega))) ⟨0, 0⟩ (i := (k : Int)) (by omega) (by omega) 0 (vs := [(.int .i64 (((pt l ((k : Int)))).X)), (.int .i64 (((pt l ((k : Int)))).Y))]) (fun zq zv zh => sub_get (vs := [(.int .i64 (((pt l ((k : Int)))).X)), (.int .i64 (((pt l ((k : Int)))).Y))]) rfl zh) rfl sh_84 rfl)),
        ok_plain rfl rfl (op_alloc (L := 1) (ltN rfl) zl_84),
        ok_plain rfl rfl (op_assign (ltN rfl) rfl),
        ok_plain rfl rfl (op_storeN sz_84 rfl rfl rfl rfl rfl (by decide)),
        trivial⟩ ?_
      refine fin_keep (s' := [(.t 0, some (.x (.v (.slice l_p l.length l_c)))), (.t 3, some (.x (.v (.int .i64 ((k : Int)))))), (.t 4, some (.x (.p 1 0))), (.t 16, some (.x (.v (.slice l_p l.length l_c)))), (.t 17, some (.x (.v (.int .i64 (((l.length : Nat) : Int)))))), (.t 18, some (.x (.v (.int .i64 ((k : Int)))))), (.b 1, some (.sh 84 2)), (.c 1 0, some (.x (.v (.int .i64 (((pt l ((k : Int)))).X))))), (.c 1 1, some (.x (.v (.int .i64 (((pt l ((k : Int)))).Y)))))]) ?_ ⟨rfl, rfl, rfl, rfl, rfl, rfl, rfl, rfl, rfl, trivial⟩ rfl
      refine fin_then ?_
      refine aw_seq ?_
      refine aw_any (rows := [_, _, _, _, _, _, _, _, _, _, _, _, _, _, _, _, _, _, _, _, _, _, _, _, _]) (M := [0, 1, 3, 7, 15, 31, 63, 127, 255, 511, 1023, 2047, 4095, 8191, 16383, 32767, 16383, 16383, 147455, 475135, 999423, 2047999, 4194303, 8388607, 16777215]) Tryd_mixed (by kernel_rfl) rfl (by kernel_rfl) ⟨
        ok_plain rfl rfl (op_fieldAddr (ltN rfl) rfl fo_84_0),
        ok_plain rfl rfl (op_load1 (ltN rfl) sh_3 rfl rfl),
        ok_plain rfl rfl (op_call (x := .v (.bool (within (((pt l ((k : Int)))).X) 0 400))) (fs := []) (caps := []) (extra := []) (ltN rfl) en_84 rfl ⟨rfl, rfl, rfl⟩ (EvL.cons rfl (EvL.cons rfl (EvL.cons rfl EvL.nil))) (fun mm aa ww gg hr hrel => (c84 (((pt l ((k : Int)))).X) 0 400 ww))),
        ok_plain rfl rfl (op_not (ltN rfl) rfl),
        ok_plain rfl rfl (op_move (ltN rfl) rfl),
        ok_if (ltN rfl) rfl rfl rfl rfl rfl rfl (fun hg12 => op_fieldAddr (ltN rfl) (force_x rfl) fo_84_1),
        ok_if (ltN rfl) rfl rfl rfl rfl rfl rfl (fun hg13 => op_load1 (ltN rfl) sh_3 (force_eq (beq_iff_eq.2 hg13) rfl) rfl),
        ok_if (ltN rfl) rfl rfl rfl rfl rfl rfl (fun hg14 => op_call (x := .v (.bool (within (((pt l ((k : Int)))).Y) 0 20000))) (fs := []) (caps := []) (extra := []) (ltN rfl) en_84 rfl ⟨rfl, rfl, rfl⟩ (EvL.cons (force_eq (beq_iff_eq.2 hg14) rfl) (EvL.cons rfl (EvL.cons rfl EvL.nil))) (fun mm aa ww gg hr hrel => (c84 (((pt l ((k : Int)))).Y) 0 20000 ww))),
        ok_if (ltN rfl) rfl rfl rfl rfl rfl rfl (fun hg15 => op_not (ltN rfl) (force_eq (beq_iff_eq.2 hg15) rfl)),
        ok_plain rfl rfl (op_or (ltN rfl) rfl rfl),
        ok_plain rfl rfl (op_move (ltN rfl) rfl),
        ok_if (ltN rfl) rfl rfl rfl rfl rfl rfl (fun hg16 => op_move (ltN rfl) (force_x rfl)),
        ok_if (ltN rfl) rfl rfl rfl rfl rfl rfl (fun hg17 => op_bin (ltN rfl) (force_eq (beq_iff_eq.2 hg17) rfl) rfl rfl),
        ok_if (ltN rfl) rfl rfl rfl rfl rfl rfl (fun hg18 => op_move (ltN rfl) (force_eq (beq_iff_eq.2 hg18) rfl)),
        ok_ifC (ltN rfl) rfl rfl rfl rfl rfl rfl (fun hg19 => op_fieldAddr (ltN rfl) (force_x rfl) fo_84_0),
        ok_ifC (ltN rfl) rfl rfl rfl rfl rfl rfl (fun hg20 => op_load1 (ltN rfl) sh_3 (force_eq hg20 rfl) rfl),
        ok_ifC (ltN rfl) rfl rfl rfl rfl rfl rfl (fun hg21 => op_move (ltN rfl) (force_x rfl)),
        ok_ifC (ltN rfl) rfl rfl rfl rfl rfl rfl (fun hg22 => op_move (ltN rfl) (force_x rfl)),
        ok_ifC (ltN rfl) rfl rfl rfl rfl rfl rfl (fun hg23 => op_bin (ltN rfl) (force_eq hg23 rfl) rfl (nw_sub ⟨(by have g0 := within_t (not_f (or_fl (beq_iff_eq.1 (and_tl hg23)))); have g1 := within_t (not_f (or_fr (beq_iff_eq.1 (and_tl hg23)))); have g2 := of_decide_eq_true (beq_t (and_tr hg23)); omega), (by have g0 := within_t (not_f (or_fl (beq_iff_eq.1 (and_tl hg23)))); have g1 := within_t (not_f (or_fr (beq_iff_eq.1 (and_tl hg23)))); have g2 := of_decide_eq_true (beq_t (and_tr hg23)); omega)⟩)),
        ok_ifC (ltN rfl) rfl rfl rfl rfl rfl rfl (fun hg24 => op_ixB (ltN rfl) (force_eq hg24 rfl) (force_eq hg24 rfl) ss_23 (hl_p (ne_of_ix (i := ((k : Int)) - 1) (by have g0 := within_t (not_f (or_fl (beq_iff_eq.1 (and_tl hg24)))); have g1 := within_t (not_f (or_fr (beq_iff_eq.1 (and_tl hg24)))); have g2 := of_decide_eq_true (beq_t (and_tr hg24)); omega) (by have g0 := within_t (not_f (or_fl (beq_iff_eq.1 (and_tl hg24)))); have g1 := within_t (not_f (or_fr (beq_iff_eq.1 (and_tl hg24)))); have g2 := of_decide_eq_true (beq_t (and_tr hg24)); omega))) (by have g0 := within_t (not_f (or_fl (beq_iff_eq.1 (and_tl hg24)))); have g1 := within_t (not_f (or_fr (beq_iff_eq.1 (and_tl hg24)))); have g2 := of_decide_eq_true (beq_t (and_tr hg24)); omega) (by have g0 := within_t (not_f (or_fl (beq_iff_eq.1 (and_tl hg24)))); have g1 := within_t (not_f (or_fr (beq_iff_eq.1 (and_tl hg24)))); have g2 := of_decide_eq_true (beq_t (and_tr hg24)); omega)),
        ok_ifC (ltN rfl) rfl rfl rfl rfl rfl rfl (fun hg25 => op_fieldAddrB (ltN rfl) (force_eq hg25 rfl) fo_84_0),
        ok_ifC (ltN rfl) rfl rfl rfl rfl rfl rfl (fun hg26 => op_loadB (y := .v (.int .i64 (((pt l (((k : Int)) - 1))).X))) (ltN rfl) (force_eq hg26 rfl) (ld1 (hl_L (ne_of_ix (i := ((k : Int)) - 1) (by have g0 := within_t (not_f (or_fl (beq_iff_eq.1 (and_tl hg26)))); have g1 := within_t (not_f (or_fr (beq_iff_eq.1 (and_tl hg26)))); have g2 := of_decide_eq_true (beq_t (and_tr hg26)); omega) (by have g0 := within_t (not_f (or_fl (beq_iff_eq.1 (and_tl hg26)))); have g1 := within_t (not_f (or_fr (beq_iff_eq.1 (and_tl hg26)))); have g2 := of_decide_eq_true (beq_t (and_tr hg26)); omega))) ⟨0, 0⟩ (i := ((k : Int)) - 1) (by have g0 := within_t (not_f (or_fl (beq_iff_eq.1 (and_tl hg26)))); have g1 := within_t (not_f (or_fr (beq_iff_eq.1 (and_tl hg26)))); have g2 := of_decide_eq_true (beq_t (and_tr hg26)); omega) (by have g0 := within_t (not_f (or_fl (beq_iff_eq.1 (and_tl hg26)))); have g1 := within_t (not_f (or_fr (beq_iff_eq.1 (and_tl hg26)))); have g2 := of_decide_eq_true (beq_t (and_tr hg26)); omega) 0 rfl rfl sh_3)),
        ok_ifC (ltN rfl) rfl rfl rfl rfl rfl rfl (fun hg27 => op_bin (ltN rfl) (force_eq hg27 rfl) (force_eq hg27 rfl) rfl),
        ok_if (ltN rfl) rfl rfl rfl rfl rfl rfl (fun hg28 => op_andF (ltN rfl) (beq_iff_eq.2 hg28) rfl rfl),
        ok_plain rfl rfl (op_or (ltN rfl) rfl rfl),
        trivial⟩ ?_
      refine fin_keep (s' := [(.t 0, some (.x (.v (.slice l_p l.length l_c)))), (.t 16, some (.x (.v (.slice l_p l.length l_c)))), (.t 17, some (.x (.v (.int .i64 (((l.length : Nat) : Int)))))), (.t 18, some (.x (.v (.int .i64 ((k : Int)))))), (.t 47, some (.x (.v (.bool (((!(within (((pt l ((k : Int)))).X) 0 400)) || (!(within (((pt l ((k : Int)))).Y) 0 20000))) || ((decide (((k : Int)) > 0)) && (decide ((((pt l ((k : Int)))).X) ≤ (((pt l (((k : Int)) - 1))).X)))))))))]) ?_ ⟨rfl, rfl, rfl, rfl, rfl, trivial⟩ rfl
      refine fin_then ?_
      refine aw_cond rfl (fun hz29 => ?_) (fun hz29 => ?_)
      · have _z := hz29
        have q30 := hz29
        refine aw_seq ?_
        refine aw_text (rows := [_]) rfl (by kernel_rfl) ⟨
          ok_plain rfl rfl (op_assign (ltN rfl) rfl),
          trivial⟩ ?_
        refine fin_keep (s' := [(.t 2, some (.x (.v (.bool false))))]) ?_ ⟨rfl, trivial⟩ rfl
        refine fin_then ?_
        refine aw_ret ?_
        refine fin_block_ret ?_
        refine fin_then_ret ?_
        refine fin_then_ret ?_
        refine fin_block_ret ?_
        refine fin_then_ret ?_
        refine post_ret (x := .v (.bool false)) rfl rfl (resOK_tmp rfl resOK_nil) rfl (fun mm aa ww hr => ?_)
        show Ending.returned (.bool false) = _ ∧ _
        exact ⟨by rw [curve_no2 (k := k) (by omega) (b1 hz29)], hr.below⟩
      · have _z := hz29
        have q31 := within_t (not_f (or_fl (or_fl hz29)))
        have q32 := within_t (not_f (or_fr (or_fl hz29)))
        have q33 := or_fr hz29
        refine aw_skip ?_
        refine fin_block ?_
        refine fin_then ?_
        have cAt : curveAt l (k : Int) = true := b3 hz29
        refine aw_text (rows := [_, _]) rfl (by kernel_rfl) ⟨
          ok_plain rfl rfl (op_bin (ltN rfl) rfl rfl (nw_add ⟨(by omega), (by omega)⟩)),
          ok_plain rfl rfl (op_move (ltN rfl) rfl),
          trivial⟩ ?_
        refine fin_keep (s' := [(.t 0, some (.x (.v (.slice l_p l.length l_c)))), (.t 16, some (.x (.v (.slice l_p l.length l_c)))), (.t 17, some (.x (.v (.int .i64 (((l.length : Nat) : Int)))))), (.t 18, some (.x (.v (.int .i64 (((k : Int)) + 1)))))]) ?_ ⟨rfl, rfl, rfl, rfl, trivial⟩ rfl
        exact fin_loop (k + 1) ⟨by omega, fun j hj => by rcases Nat.lt_succ_iff_lt_or_eq.1 hj with h | rfl; exact hall j h; exact cAt⟩ (by omega) ⟨rfl, rfl, rfl, rfl, trivial⟩ rfl
    · have _z := hz10
      have q34 := of_decide_eq_false hz10
      refine aw_exit ?_
      refine fin_then_exit ?_
      refine fin_then_exit ?_
      refine fin_block_exit ?_
      refine fin_then ?_
      refine aw_seq ?_
      refine aw_text (rows := [_]) rfl (by kernel_rfl) ⟨
        ok_plain rfl rfl (op_assign (ltN rfl) rfl),
        trivial⟩ ?_
      refine fin_keep (s' := [(.t 2, some (.x (.v (.bool true))))]) ?_ ⟨rfl, trivial⟩ rfl
      refine fin_then ?_
      refine aw_ret ?_
      refine post_ret (x := .v (.bool true)) rfl rfl (resOK_tmp rfl resOK_nil) rfl (fun mm aa ww hr => ?_)
      show Ending.returned (.bool true) = _ ∧ _
      exact ⟨by rw [curve_yes (k := k) (not_f (or_fl hz6)) (ne_f (or_fr hz6)) hall (by omega)], hr.below⟩

theorem c142 (l : List Pt) (l_s : SlV) (way : Int) (w : World) (hl : SlIs encPt 2 w l_s l) (hw : -1 ≤ way ∧ way ≤ 1) : Calls Tryd.prog 142 #[.slice l_s.p l_s.n l_s.c, .int .i64 way] w fun e w' => e = .returned (.bool (steady l way)) ∧ Below w.heap.size w w' := by
  obtain ⟨l_p, l_n, l_c⟩ := l_s
  have hl_l : l_n = l.length := hl.1
  subst hl_l
  obtain ⟨l_b, l_o, hl_p, hl_L⟩ := SlAt.lies' hl
  refine enter (args := [.v (.slice l_p l.length l_c), .v (.int .i64 way)]) Tryd.func142 rfl (N := 30) rfl (Nat.le_of_ble_eq_true rfl) ?_
  refine aw_seq ?_
  refine aw_text (rows := [_]) rfl (by kernel_rfl) ⟨
    ok_plain rfl rfl (op_assign (ltN rfl) rfl),
    trivial⟩ ?_
  refine fin_keep (s' := [(.t 0, some (.x (.v (.slice l_p l.length l_c)))), (.t 1, some (.x (.v (.int .i64 way))))]) ?_ ⟨rfl, rfl, trivial⟩ rfl
  refine fin_then ?_
  refine aw_seq ?_
  refine aw_seq ?_
  refine aw_text (rows := [_, _, _]) rfl (by kernel_rfl) ⟨
    ok_plain rfl rfl (op_move (ltN rfl) rfl),
    ok_plain rfl rfl (op_call (x := .v (.bool (curve l))) (fs := []) (caps := []) (extra := []) (ltN rfl) en_107 rfl ⟨rfl, rfl, rfl⟩ (EvL.cons rfl EvL.nil) (fun mm aa ww gg hr hrel => (c107 l ⟨l_p, l.length, l_c⟩ ww (SlIs.mono hl hrel.below)))),
    ok_plain rfl rfl (op_not (ltN rfl) rfl),
    trivial⟩ ?_
  refine fin_keep (s' := [(.t 0, some (.x (.v (.slice l_p l.length l_c)))), (.t 1, some (.x (.v (.int .i64 way)))), (.t 8, some (.x (.v (.bool (!(curve l))))))]) ?_ ⟨rfl, rfl, rfl, trivial⟩ rfl
  refine fin_then ?_
  refine aw_cond rfl (fun hz1 => ?_) (fun hz1 => ?_)
  · have _z := hz1
    have q2 := not_t hz1
    refine aw_seq ?_
    refine aw_text (rows := [_]) rfl (by kernel_rfl) ⟨
      ok_plain rfl rfl (op_assign (ltN rfl) rfl),
      trivial⟩ ?_
    refine fin_keep (s' := [(.t 4, some (.x (.v (.bool false))))]) ?_ ⟨rfl, trivial⟩ rfl
    refine fin_then ?_
    refine aw_ret ?_
    refine fin_then_ret ?_
    refine post_ret (x := .v (.bool false)) rfl rfl (resOK_tmp rfl resOK_nil) rfl (fun mm aa ww hr => ?_)
    show Ending.returned (.bool false) = _ ∧ _
    exact ⟨by rw [show steady l way = false by simp only [steady]; rw [not_t hz1]; rfl], hr.below⟩
  · have _z := hz1
    have q3 := not_f hz1
    refine aw_skip ?_
    refine fin_then ?_
    refine aw_seq ?_
    refine aw_seq ?_
    have hc := not_f hz1
    have hlen := (curve_lt hc).2
    have hB := curve_bd hc
    refine aw_text (rows := [_]) rfl (by kernel_rfl) ⟨
      ok_plain rfl rfl (op_assign (ltN rfl) rfl),
      trivial⟩ ?_
    refine fin_keep (s' := [(.t 0, some (.x (.v (.slice l_p l.length l_c)))), (.t 1, some (.x (.v (.int .i64 way)))), (.t 5, some (.x (.v (.int .i64 1))))]) ?_ ⟨rfl, rfl, rfl, trivial⟩ rfl
    refine fin_then ?_
    refine aw_block ?_
    refine AW.keep (s' := (fun (k : Nat) => [(.t 0, some (.x (.v (.slice l_p l.length l_c)))), (.t 1, some (.x (.v (.int .i64 way)))), (.t 5, some (.x (.v (.int .i64 ((k : Int))))))]) ((1 : Nat))) ?_ ⟨rfl, rfl, rfl, trivial⟩ rfl
    refine aw_loop (ι := Nat) (fun k => 1 ≤ k ∧ k ≤ l.length ∧ ∀ j < k, 1 ≤ j → steadyAt l way (j : Int) = true) (fun k => [(.t 0, some (.x (.v (.slice l_p l.length l_c)))), (.t 1, some (.x (.v (.int .i64 way)))), (.t 5, some (.x (.v (.int .i64 ((k : Int))))))]) (fun k => l.length - k) ⟨Nat.le_refl 1, by omega, fun j hj h1 => absurd hj (by omega)⟩ (fun k hI => ?_)
    obtain ⟨h1k, hk, hall⟩ := hI
    refine aw_seq ?_
    refine aw_seq ?_
    refine aw_text (rows := [_, _, _, _]) rfl (by kernel_rfl) ⟨
      ok_plain rfl rfl (op_move (ltN rfl) rfl),
      ok_plain rfl rfl (op_move (ltN rfl) rfl),
      ok_plain rfl rfl (op_len (n := l.length) (ltN rfl) (by rw [ss_23]; rfl) rfl rfl),
      ok_plain rfl rfl (op_bin (ltN rfl) rfl rfl rfl),
      trivial⟩ ?_
    refine fin_keep (s' := [(.t 0, some (.x (.v (.slice l_p l.length l_c)))), (.t 1, some (.x (.v (.int .i64 way)))), (.t 5, some (.x (.v (.int .i64 ((k : Int)))))), (.t 12, some (.x (.v (.bool (decide (((k : Int)) < (((l.length : Nat) : Int))))))))]) ?_ ⟨rfl, rfl, rfl, rfl, trivial⟩ rfl
    refine fin_then ?_
    refine aw_cond rfl (fun hz4 => ?_) (fun hz4 => ?_)
    · have _z := hz4
      have q5 := of_decide_eq_true hz4
      refine aw_skip ?_
      refine fin_then ?_
      refine aw_seq ?_
      refine aw_block ?_
      refine aw_seq ?_
      have ha := hB (k : Int) (by omega) (by omega)
      have hb := hB ((k : Int) - 1) (by omega) (by omega)
      have hm := mul_bd (A := 20000) (B := 1) (x := (pt l (k : Int)).Y - (pt l ((k : Int) - 1)).Y) (y := way) (by omega) (by omega)
      refine aw_any (rows := [_, _, _, _, _, _, _, _, _, _, _, _, _, _, _]) (M := [0, 0, 3, 7, 15, 0, 0, 64, 224, 480, 992, 2047, 0, 8191, 16383]) Tryd_mixed (by kernel_rfl) rfl (by kernel_rfl) ⟨
        ok_plain rfl rfl (op_move (ltN rfl) rfl),
        ok_plain rfl rfl (op_move (ltN rfl) rfl),
        ok_plain rfl rfl (op_ixB (ltN rfl) rfl rfl ss_23 (hl_p (ne_of_ix (i := (k : Int)) (by omega) (by omega))) (by omega) (by omega)),
        ok_plain rfl rfl (op_fieldAddrB (ltN rfl) rfl fo_84_1),
        ok_plain rfl rfl (op_loadB (y := .v (.int .i64 (((pt l ((k : Int)))).Y))) (ltN rfl) rfl (ld1 (hl_L (ne_of_ix (i := (k : Int)) (by omega) (by omega))) ⟨0, 0⟩ (i := (k : Int)) (by omega) (by omega) 1 rfl rfl sh_3)),
        ok_plain rfl rfl (op_move (ltN rfl) rfl),
        ok_plain rfl rfl (op_move (ltN rfl) rfl),
        ok_plain rfl rfl (op_bin (ltN rfl) rfl rfl (nw_sub ⟨(by omega), (by omega)⟩)),
        ok_plain rfl rfl (op_ixB (ltN rfl) rfl rfl ss_23 (hl_p (ne_of_ix (i := ((k : Int)) - 1) (by omega) (by omega))) (by omega) (by omega)),
        ok_plain rfl rfl (op_fieldAddrB (ltN rfl) rfl fo_84_1),
        ok_plain rfl rfl (op_loadB (y := .v (.int .i64 (((pt l (((k : Int)) - 1))).Y))) (ltN rfl) rfl (ld1 (hl_L (ne_of_ix (i := ((k : Int)) - 1) (by omega) (by omega))) ⟨0, 0⟩ (i := ((k : Int)) - 1) (by omega) (by omega) 1 rfl rfl sh_3)),
        ok_plain rfl rfl (op_bin (ltN rfl) rfl rfl (nw_sub ⟨(by omega), (by omega)⟩)),
        ok_plain rfl rfl (op_move (ltN rfl) rfl),
        ok_plain rfl rfl (op_bin (ltN rfl) rfl rfl (nw_mul ⟨(by omega), (by omega)⟩)),
        ok_plain rfl rfl (op_bin (ltN rfl) rfl rfl rfl),
        trivial⟩ ?_
      refine fin_keep (s' := [(.t 0, some (.x (.v (.slice l_p l.length l_c)))), (.t 1, some (.x (.v (.int .i64 way)))), (.t 5, some (.x (.v (.int .i64 ((k : Int)))))), (.t 29, some (.x (.v (.bool (decide ((((((pt l ((k : Int)))).Y) - (((pt l (((k : Int)) - 1))).Y)) * way) < 0))))))]) ?_ ⟨rfl, rfl, rfl, rfl, trivial⟩ rfl
      refine fin_then ?_
      refine aw_cond rfl (fun hz6 => ?_) (fun hz6 => ?_)
      · have _z := hz6
        have q7 := of_decide_eq_true hz6
        refine aw_seq ?_
        refine aw_text (rows := [_]) rfl (by kernel_rfl) ⟨
          ok_plain rfl rfl (op_assign (ltN rfl) rfl),
          trivial⟩ ?_
        refine fin_keep (s' := [(.t 4, some (.x (.v (.bool false))))]) ?_ ⟨rfl, trivial⟩ rfl
        refine fin_then ?_
        refine aw_ret ?_
        refine fin_block_ret ?_
        refine fin_then_ret ?_
        refine fin_then_ret ?_
        refine fin_block_ret ?_
        refine fin_then_ret ?_
        refine post_ret (x := .v (.bool false)) rfl rfl (resOK_tmp rfl resOK_nil) rfl (fun mm aa ww hr => ?_)
        show Ending.returned (.bool false) = _ ∧ _
        exact ⟨by rw [steady_no (k := k) (by omega) (by omega) (b2 hz6)], hr.below⟩
      · have _z := hz6
        have q8 := of_decide_eq_false hz6
        refine aw_skip ?_
        refine fin_block ?_
        refine fin_then ?_
        have sAt : steadyAt l way (k : Int) = true := b4 hz6
        refine aw_text (rows := [_, _, _]) rfl (by kernel_rfl) ⟨
          ok_plain rfl rfl (op_move (ltN rfl) rfl),
          ok_plain rfl rfl (op_bin (ltN rfl) rfl rfl (nw_add ⟨(by omega), (by omega)⟩)),
          ok_plain rfl rfl (op_assign (ltN rfl) rfl),
          trivial⟩ ?_
        refine fin_keep (s' := [(.t 0, some (.x (.v (.slice l_p l.length l_c)))), (.t 1, some (.x (.v (.int .i64 way)))), (.t 5, some (.x (.v (.int .i64 (((k : Int)) + 1)))))]) ?_ ⟨rfl, rfl, rfl, trivial⟩ rfl
        exact fin_loop (k + 1) ⟨by omega, by omega, fun j hj h1 => by rcases Nat.lt_succ_iff_lt_or_eq.1 hj with h | rfl; exact hall j h h1; exact sAt⟩ (by omega) ⟨rfl, rfl, rfl, trivial⟩ rfl
    · have _z := hz4
      have q9 := of_decide_eq_false hz4
      refine aw_exit ?_
      refine fin_then_exit ?_
      refine fin_then_exit ?_
      refine fin_block_exit ?_
      refine fin_then ?_
      refine aw_seq ?_
      refine aw_text (rows := [_]) rfl (by kernel_rfl) ⟨
        ok_plain rfl rfl (op_assign (ltN rfl) rfl),
        trivial⟩ ?_
      refine fin_keep (s' := [(.t 4, some (.x (.v (.bool true))))]) ?_ ⟨rfl, trivial⟩ rfl
      refine fin_then ?_
      refine aw_ret ?_
      refine post_ret (x := .v (.bool true)) rfl rfl (resOK_tmp rfl resOK_nil) rfl (fun mm aa ww hr => ?_)
      show Ending.returned (.bool true) = _ ∧ _
      exact ⟨by rw [steady_yes (k := k) hc hall (by omega)], hr.below⟩

theorem c137 (l : List Pt) (l_s : SlV) (w : World) (hl : SlIs encPt 2 w l_s l) (hc : curve l = true) : Calls Tryd.prog 137 #[.slice l_s.p l_s.n l_s.c] w fun e w' => e = .returned (.int .i64 (endX l)) ∧ Below w.heap.size w w' := by
  obtain ⟨l_p, l_n, l_c⟩ := l_s
  have hl_l : l_n = l.length := hl.1
  subst hl_l
  obtain ⟨l_b, l_o, hl_p, hl_L⟩ := SlAt.lies' hl
  have hlen := (curve_lt hc).2
  refine enter (args := [.v (.slice l_p l.length l_c)]) Tryd.func137 rfl (N := 10) rfl (Nat.le_of_ble_eq_true rfl) ?_
  refine aw_seq ?_
  refine aw_text (rows := [_]) rfl (by kernel_rfl) ⟨
    ok_plain rfl rfl (op_assign (ltN rfl) rfl),
    trivial⟩ ?_
  refine fin_keep (s' := [(.t 0, some (.x (.v (.slice l_p l.length l_c))))]) ?_ ⟨rfl, trivial⟩ rfl
  refine fin_then ?_
  refine aw_seq ?_
  refine aw_text (rows := [_, _, _, _, _, _, _, _]) rfl (by kernel_rfl) ⟨
    ok_plain rfl rfl (op_move (ltN rfl) rfl),
    ok_plain rfl rfl (op_move (ltN rfl) rfl),
    ok_plain rfl rfl (op_len (n := l.length) (ltN rfl) (by rw [ss_23]; rfl) rfl rfl),
    ok_plain rfl rfl (op_bin (ltN rfl) rfl rfl (nw_sub ⟨(by omega), (by omega)⟩)),
    ok_plain rfl rfl (op_ixB (ltN rfl) rfl rfl ss_23 (hl_p (ne_of_ix (i := (((l.length : Nat) : Int)) - 1) (by omega) (by omega))) (by omega) (by omega)),
    ok_plain rfl rfl (op_fieldAddrB (ltN rfl) rfl fo_84_0),
    ok_plain rfl rfl (op_loadB (y := .v (.int .i64 (((pt l ((((l.length : Nat) : Int)) - 1))).X))) (ltN rfl) rfl (ld1 (hl_L (ne_of_ix (i := (((l.length : Nat) : Int)) - 1) (by omega) (by omega))) ⟨0, 0⟩ (i := (((l.length : Nat) : Int)) - 1) (by omega) (by omega) 0 rfl rfl sh_3)),
    ok_plain rfl rfl (op_assign (ltN rfl) rfl),
    trivial⟩ ?_
  refine fin_keep (s' := [(.t 2, some (.x (.v (.int .i64 (((pt l ((((l.length : Nat) : Int)) - 1))).X)))))]) ?_ ⟨rfl, trivial⟩ rfl
  refine fin_then ?_
  refine aw_ret ?_
  refine post_ret (x := .v (.int .i64 (((pt l ((((l.length : Nat) : Int)) - 1))).X))) rfl rfl (resOK_tmp rfl resOK_nil) rfl (fun mm aa ww hr => ?_)
  show Ending.returned (.int .i64 (((pt l ((((l.length : Nat) : Int)) - 1))).X)) = _ ∧ _
  first
    | exact ⟨rfl, hr.below⟩

theorem c109 (l : List Pt) (l_s : SlV) (x : Int) (w : World) (hl : SlIs encPt 2 w l_s l) (hc : curve l = true) (hx : -1000000 ≤ x ∧ x ≤ 1000000) : Calls Tryd.prog 109 #[.slice l_s.p l_s.n l_s.c, .int .i64 x] w fun e w' => e = .returned (.tuple #[.int .i64 ((value l x).1), .int .i64 ((value l x).2)]) ∧ Below w.heap.size w w' := by
  obtain ⟨l_p, l_n, l_c⟩ := l_s
  have hl_l : l_n = l.length := hl.1
  subst hl_l
  obtain ⟨l_b, l_o, hl_p, hl_L⟩ := SlAt.lies' hl
  have hlen := (curve_lt hc).2
  have hB := curve_bd hc
  refine enter (args := [.v (.slice l_p l.length l_c), .v (.int .i64 x)]) Tryd.func109 rfl (N := 59) rfl (Nat.le_of_ble_eq_true rfl) ?_
  refine aw_seq ?_
  refine aw_text (rows := [_, _]) rfl (by kernel_rfl) ⟨
    ok_plain rfl rfl (op_assign (ltN rfl) rfl),
    ok_plain rfl rfl (op_assign (ltN rfl) rfl),
    trivial⟩ ?_
  refine fin_keep (s' := [(.t 0, some (.x (.v (.slice l_p l.length l_c)))), (.t 1, some (.x (.v (.int .i64 x))))]) ?_ ⟨rfl, rfl, trivial⟩ rfl
  refine fin_then ?_
  refine aw_seq ?_
  refine aw_seq ?_
  refine aw_text (rows := [_]) rfl (by kernel_rfl) ⟨
    ok_plain rfl rfl (op_assign (ltN rfl) rfl),
    trivial⟩ ?_
  refine fin_keep (s' := [(.t 0, some (.x (.v (.slice l_p l.length l_c)))), (.t 1, some (.x (.v (.int .i64 x)))), (.t 6, some (.x (.v (.int .i64 1))))]) ?_ ⟨rfl, rfl, rfl, trivial⟩ rfl
  refine fin_then ?_
  refine aw_block ?_
  refine AW.keep (s' := (fun (k : Nat) => [(.t 0, some (.x (.v (.slice l_p l.length l_c)))), (.t 1, some (.x (.v (.int .i64 x)))), (.t 6, some (.x (.v (.int .i64 ((k : Int))))))]) ((1 : Nat))) ?_ ⟨rfl, rfl, rfl, trivial⟩ rfl
  refine aw_loop (ι := Nat) (fun k => 1 ≤ k ∧ k ≤ l.length ∧ value l x = valFrom l x (l.length - k) k) (fun k => [(.t 0, some (.x (.v (.slice l_p l.length l_c)))), (.t 1, some (.x (.v (.int .i64 x)))), (.t 6, some (.x (.v (.int .i64 ((k : Int))))))]) (fun k => l.length - k) ⟨Nat.le_refl 1, by omega, rfl⟩ (fun k hI => ?_)
  obtain ⟨h1k, hkl, hval⟩ := hI
  refine aw_seq ?_
  refine aw_seq ?_
  refine aw_text (rows := [_, _, _, _]) rfl (by kernel_rfl) ⟨
    ok_plain rfl rfl (op_move (ltN rfl) rfl),
    ok_plain rfl rfl (op_move (ltN rfl) rfl),
    ok_plain rfl rfl (op_len (n := l.length) (ltN rfl) (by rw [ss_23]; rfl) rfl rfl),
    ok_plain rfl rfl (op_bin (ltN rfl) rfl rfl rfl),
    trivial⟩ ?_
  refine fin_keep (s' := [(.t 0, some (.x (.v (.slice l_p l.length l_c)))), (.t 1, some (.x (.v (.int .i64 x)))), (.t 6, some (.x (.v (.int .i64 ((k : Int)))))), (.t 12, some (.x (.v (.bool (decide (((k : Int)) < (((l.length : Nat) : Int))))))))]) ?_ ⟨rfl, rfl, rfl, rfl, trivial⟩ rfl
  refine fin_then ?_
  refine aw_cond rfl (fun hz1 => ?_) (fun hz1 => ?_)
  · have _z := hz1
    have q2 := of_decide_eq_true hz1
    refine aw_skip ?_
    refine fin_then ?_
    refine aw_seq ?_
    refine aw_block ?_
    refine aw_seq ?_
    refine aw_any (rows := [_, _, _, _, _, _, _, _, _, _, _, _, _]) (M := [0, 0, 2, 7, 15, 0, 0, 96, 224, 0, 0, 1567, 4095]) Tryd_mixed (by kernel_rfl) rfl (by kernel_rfl) ⟨
      ok_plain rfl rfl (op_move (ltN rfl) rfl),
      ok_plain rfl rfl (op_move (ltN rfl) rfl),
      ok_plain rfl rfl (op_bin (ltN rfl) rfl rfl (nw_sub ⟨(by omega), (by omega)⟩)),
      ok_plain rfl rfl (op_ixB (ltN rfl) rfl rfl ss_23 (hl_p (ne_of_ix (i := ((k : Int)) - 1) (by omega) (by omega))) (by omega) (by omega)),
      ok_plain rfl rfl (op_loadB (y := .g [.v (.int .i64 (((pt l (((k : Int)) - 1))).X)), .v (.int .i64 (((pt l (((k : Int)) - 1))).Y))]) (ltN rfl) rfl (ldN (hl_L (ne_of_ix (i := ((k : Int)) - 1) (by omega) (by omega))) ⟨0, 0⟩ (i := ((k : Int)) - 1) (by omega) (by omega) 0 (vs := [(.int .i64 (((pt l (((k : Int)) - 1))).X)), (.int .i64 (((pt l (((k : Int)) - 1))).Y))]) (fun zq zv zh => sub_get (vs := [(.int .i64 (((pt l (((k : Int)) - 1))).X)), (.int .i64 (((pt l (((k : Int)) - 1))).Y))]) rfl zh) rfl sh_84 rfl)),
      ok_plain rfl rfl (op_move (ltN rfl) rfl),
      ok_plain rfl rfl (op_move (ltN rfl) rfl),
      ok_plain rfl rfl (op_ixB (ltN rfl) rfl rfl ss_23 (hl_p (ne_of_ix (i := (k : Int)) (by omega) (by omega))) (by omega) (by omega)),
      ok_plain rfl rfl (op_loadB (y := .g [.v (.int .i64 (((pt l ((k : Int)))).X)), .v (.int .i64 (((pt l ((k : Int)))).Y))]) (ltN rfl) rfl (ldN (hl_L (ne_of_ix (i := (k : Int)) (by omega) (by omega))) ⟨0, 0⟩ (i := (k : Int)) (by omega) (by omega) 0 (vs := [(.int .i64 (((pt l ((k : Int)))).X)), (.int .i64 (((pt l ((k : Int)))).Y))]) (fun zq zv zh => sub_get (vs := [(.int .i64 (((pt l ((k : Int)))).X)), (.int .i64 (((pt l ((k : Int)))).Y))]) rfl zh) rfl sh_84 rfl)),
      ok_plain rfl rfl (op_alloc (L := 1) (ltN rfl) zl_84),
      ok_plain rfl rfl (op_alloc (L := 2) (ltN rfl) zl_84),
      ok_plain rfl rfl (op_storeN sz_84 rfl rfl rfl rfl rfl (by decide)),
      ok_plain rfl rfl (op_storeN sz_84 rfl rfl rfl rfl rfl (by decide)),
      trivial⟩ ?_
    refine fin_keep (s' := [(.t 0, some (.x (.v (.slice l_p l.length l_c)))), (.t 1, some (.x (.v (.int .i64 x)))), (.t 6, some (.x (.v (.int .i64 ((k : Int)))))), (.t 7, some (.x (.p 1 0))), (.t 8, some (.x (.p 2 0))), (.b 1, some (.sh 84 2)), (.b 2, some (.sh 84 2)), (.c 1 0, some (.x (.v (.int .i64 (((pt l (((k : Int)) - 1))).X))))), (.c 1 1, some (.x (.v (.int .i64 (((pt l (((k : Int)) - 1))).Y))))), (.c 2 0, some (.x (.v (.int .i64 (((pt l ((k : Int)))).X))))), (.c 2 1, some (.x (.v (.int .i64 (((pt l ((k : Int)))).Y)))))]) ?_ ⟨rfl, rfl, rfl, rfl, rfl, rfl, rfl, rfl, rfl, rfl, rfl, trivial⟩ rfl
    refine fin_then ?_
    refine aw_seq ?_
    have ha := hB ((k : Int) - 1) (by omega) (by omega)
    have hb := hB (k : Int) (by omega) (by omega)
    refine aw_text (rows := [_, _, _, _]) rfl (by kernel_rfl) ⟨
      ok_plain rfl rfl (op_move (ltN rfl) rfl),
      ok_plain rfl rfl (op_fieldAddr (ltN rfl) rfl fo_84_0),
      ok_plain rfl rfl (op_load1 (ltN rfl) sh_3 rfl rfl),
      ok_plain rfl rfl (op_bin (ltN rfl) rfl rfl rfl),
      trivial⟩ ?_
    refine fin_keep (s' := [(.t 0, some (.x (.v (.slice l_p l.length l_c)))), (.t 1, some (.x (.v (.int .i64 x)))), (.t 6, some (.x (.v (.int .i64 ((k : Int)))))), (.t 7, some (.x (.p 1 0))), (.t 8, some (.x (.p 2 0))), (.t 27, some (.x (.v (.bool (decide (x ≤ (((pt l ((k : Int)))).X))))))), (.b 1, some (.sh 84 2)), (.b 2, some (.sh 84 2)), (.c 1 0, some (.x (.v (.int .i64 (((pt l (((k : Int)) - 1))).X))))), (.c 1 1, some (.x (.v (.int .i64 (((pt l (((k : Int)) - 1))).Y))))), (.c 2 0, some (.x (.v (.int .i64 (((pt l ((k : Int)))).X))))), (.c 2 1, some (.x (.v (.int .i64 (((pt l ((k : Int)))).Y)))))]) ?_ ⟨rfl, rfl, rfl, rfl, rfl, rfl, rfl, rfl, rfl, rfl, rfl, rfl, trivial⟩ rfl
    refine fin_then ?_
    refine aw_cond rfl (fun hz3 => ?_) (fun hz3 => ?_)
    · have _z := hz3
      have q4 := of_decide_eq_true hz3
      refine aw_seq ?_
      have hm1 := mul_bd (A := 20000) (B := 400) (x := (pt l ((k : Int) - 1)).Y) (y := (pt l (k : Int)).X - (pt l ((k : Int) - 1)).X) (by omega) (by omega)
      have hm2 := mul_bd (A := 20000) (B := 1000400) (x := (pt l (k : Int)).Y - (pt l ((k : Int) - 1)).Y) (y := x - (pt l ((k : Int) - 1)).X) (by omega) (by omega)
      refine aw_any (rows := [_, _, _, _, _, _, _, _, _, _, _, _, _, _, _, _, _, _, _, _, _, _, _, _, _, _]) (M := [0, 1, 0, 4, 0, 16, 60, 127, 0, 256, 0, 1024, 3840, 0, 0, 16384, 57344, 130816, 262143, 0, 524288, 0, 2097152, 7864320, 524287, 33554431]) Tryd_mixed (by kernel_rfl) rfl (by kernel_rfl) ⟨
        ok_plain rfl rfl (op_fieldAddr (ltN rfl) rfl fo_84_1),
        ok_plain rfl rfl (op_load1 (ltN rfl) sh_3 rfl rfl),
        ok_plain rfl rfl (op_fieldAddr (ltN rfl) rfl fo_84_0),
        ok_plain rfl rfl (op_load1 (ltN rfl) sh_3 rfl rfl),
        ok_plain rfl rfl (op_fieldAddr (ltN rfl) rfl fo_84_0),
        ok_plain rfl rfl (op_load1 (ltN rfl) sh_3 rfl rfl),
        ok_plain rfl rfl (op_bin (ltN rfl) rfl rfl (nw_sub ⟨(by omega), (by omega)⟩)),
        ok_plain rfl rfl (op_bin (ltN rfl) rfl rfl (nw_mul ⟨(by omega), (by omega)⟩)),
        ok_plain rfl rfl (op_fieldAddr (ltN rfl) rfl fo_84_1),
        ok_plain rfl rfl (op_load1 (ltN rfl) sh_3 rfl rfl),
        ok_plain rfl rfl (op_fieldAddr (ltN rfl) rfl fo_84_1),
        ok_plain rfl rfl (op_load1 (ltN rfl) sh_3 rfl rfl),
        ok_plain rfl rfl (op_bin (ltN rfl) rfl rfl (nw_sub ⟨(by omega), (by omega)⟩)),
        ok_plain rfl rfl (op_move (ltN rfl) rfl),
        ok_plain rfl rfl (op_fieldAddr (ltN rfl) rfl fo_84_0),
        ok_plain rfl rfl (op_load1 (ltN rfl) sh_3 rfl rfl),
        ok_plain rfl rfl (op_bin (ltN rfl) rfl rfl (nw_sub ⟨(by omega), (by omega)⟩)),
        ok_plain rfl rfl (op_bin (ltN rfl) rfl rfl (nw_mul ⟨(by omega), (by omega)⟩)),
        ok_plain rfl rfl (op_bin (ltN rfl) rfl rfl (nw_add ⟨(by omega), (by omega)⟩)),
        ok_plain rfl rfl (op_fieldAddr (ltN rfl) rfl fo_84_0),
        ok_plain rfl rfl (op_load1 (ltN rfl) sh_3 rfl rfl),
        ok_plain rfl rfl (op_fieldAddr (ltN rfl) rfl fo_84_0),
        ok_plain rfl rfl (op_load1 (ltN rfl) sh_3 rfl rfl),
        ok_plain rfl rfl (op_bin (ltN rfl) rfl rfl (nw_sub ⟨(by omega), (by omega)⟩)),
        ok_plain rfl rfl (op_assign (ltN rfl) rfl),
        ok_plain rfl rfl (op_assign (ltN rfl) rfl),
        trivial⟩ ?_
      refine fin_keep (s' := [(.t 4, some (.x (.v (.int .i64 (((((pt l (((k : Int)) - 1))).Y) * ((((pt l ((k : Int)))).X) - (((pt l (((k : Int)) - 1))).X))) + (((((pt l ((k : Int)))).Y) - (((pt l (((k : Int)) - 1))).Y)) * (x - (((pt l (((k : Int)) - 1))).X)))))))), (.t 5, some (.x (.v (.int .i64 ((((pt l ((k : Int)))).X) - (((pt l (((k : Int)) - 1))).X))))))]) ?_ ⟨rfl, rfl, trivial⟩ rfl
      refine fin_then ?_
      refine aw_ret ?_
      refine fin_block_ret ?_
      refine fin_then_ret ?_
      refine fin_then_ret ?_
      refine fin_block_ret ?_
      refine fin_then_ret ?_
      refine post_ret (x := .t [.v (.int .i64 (((((pt l (((k : Int)) - 1))).Y) * ((((pt l ((k : Int)))).X) - (((pt l (((k : Int)) - 1))).X))) + (((((pt l ((k : Int)))).Y) - (((pt l (((k : Int)) - 1))).Y)) * (x - (((pt l (((k : Int)) - 1))).X))))), .v (.int .i64 ((((pt l ((k : Int)))).X) - (((pt l (((k : Int)) - 1))).X)))]) rfl rfl (resOK_tmp rfl (resOK_tmp rfl resOK_nil)) rfl (fun mm aa ww hr => ?_)
      show Ending.returned (.tuple #[.int .i64 (((((pt l (((k : Int)) - 1))).Y) * ((((pt l ((k : Int)))).X) - (((pt l (((k : Int)) - 1))).X))) + (((((pt l ((k : Int)))).Y) - (((pt l (((k : Int)) - 1))).Y)) * (x - (((pt l (((k : Int)) - 1))).X)))), .int .i64 ((((pt l ((k : Int)))).X) - (((pt l (((k : Int)) - 1))).X))]) = _ ∧ _
      rw [hval, show l.length - k = l.length - (k + 1) + 1 by omega, valFrom, if_pos (by omega)]
      exact ⟨rfl, hr.below⟩
    · have _z := hz3
      have q5 := of_decide_eq_false hz3
      refine aw_skip ?_
      refine fin_block ?_
      refine fin_then ?_
      refine aw_text (rows := [_, _, _]) rfl (by kernel_rfl) ⟨
        ok_plain rfl rfl (op_move (ltN rfl) rfl),
        ok_plain rfl rfl (op_bin (ltN rfl) rfl rfl (nw_add ⟨(by omega), (by omega)⟩)),
        ok_plain rfl rfl (op_assign (ltN rfl) rfl),
        trivial⟩ ?_
      refine fin_keep (s' := [(.t 0, some (.x (.v (.slice l_p l.length l_c)))), (.t 1, some (.x (.v (.int .i64 x)))), (.t 6, some (.x (.v (.int .i64 (((k : Int)) + 1)))))]) ?_ ⟨rfl, rfl, rfl, trivial⟩ rfl
      exact fin_loop (k + 1) ⟨by omega, by omega, by rw [hval, show l.length - k = l.length - (k + 1) + 1 by omega, valFrom, if_neg (by omega)]⟩ (by omega) ⟨rfl, rfl, rfl, trivial⟩ rfl
  · have _z := hz1
    have q6 := of_decide_eq_false hz1
    refine aw_exit ?_
    refine fin_then_exit ?_
    refine fin_then_exit ?_
    refine fin_block_exit ?_
    refine fin_then ?_
    refine aw_seq ?_
    have hfin : value l x = ((pt l ((l.length : Int) - 1)).Y, 1) := by rw [hval, show l.length - k = 0 by omega]; rfl
    refine aw_text (rows := [_, _, _, _, _, _, _, _, _]) rfl (by kernel_rfl) ⟨
      ok_plain rfl rfl (op_move (ltN rfl) rfl),
      ok_plain rfl rfl (op_move (ltN rfl) rfl),
      ok_plain rfl rfl (op_len (n := l.length) (ltN rfl) (by rw [ss_23]; rfl) rfl rfl),
      ok_plain rfl rfl (op_bin (ltN rfl) rfl rfl (nw_sub ⟨(by omega), (by omega)⟩)),
      ok_plain rfl rfl (op_ixB (ltN rfl) rfl rfl ss_23 (hl_p (ne_of_ix (i := (((l.length : Nat) : Int)) - 1) (by omega) (by omega))) (by omega) (by omega)),
      ok_plain rfl rfl (op_fieldAddrB (ltN rfl) rfl fo_84_1),
      ok_plain rfl rfl (op_loadB (y := .v (.int .i64 (((pt l ((((l.length : Nat) : Int)) - 1))).Y))) (ltN rfl) rfl (ld1 (hl_L (ne_of_ix (i := (((l.length : Nat) : Int)) - 1) (by omega) (by omega))) ⟨0, 0⟩ (i := (((l.length : Nat) : Int)) - 1) (by omega) (by omega) 1 rfl rfl sh_3)),
      ok_plain rfl rfl (op_assign (ltN rfl) rfl),
      ok_plain rfl rfl (op_assign (ltN rfl) rfl),
      trivial⟩ ?_
    refine fin_keep (s' := [(.t 4, some (.x (.v (.int .i64 (((pt l ((((l.length : Nat) : Int)) - 1))).Y))))), (.t 5, some (.x (.v (.int .i64 1))))]) ?_ ⟨rfl, rfl, trivial⟩ rfl
    refine fin_then ?_
    refine aw_ret ?_
    refine post_ret (x := .t [.v (.int .i64 (((pt l ((((l.length : Nat) : Int)) - 1))).Y)), .v (.int .i64 1)]) rfl rfl (resOK_tmp rfl (resOK_tmp rfl resOK_nil)) rfl (fun mm aa ww hr => ?_)
    show Ending.returned (.tuple #[.int .i64 (((pt l ((((l.length : Nat) : Int)) - 1))).Y), .int .i64 1]) = _ ∧ _
    rw [hfin]
    exact ⟨rfl, hr.below⟩

theorem c138 (s : Ship) (s_Thrust_s : SlV) (s_Water_s : SlV) (s_Ice_s : SlV) (w : World) (hs_Thrust : SlIs encPt 2 w s_Thrust_s s.Thrust) (hs_Water : SlIs encPt 2 w s_Water_s s.Water) (hs_Ice : SlIs encPt 2 w s_Ice_s s.Ice) : Calls Tryd.prog 138 #[.agg #[.int .i64 s.Class, .int .i64 s.Power, .int .i64 s.Draught, .int .i64 s.Tonnes, .slice s_Thrust_s.p s_Thrust_s.n s_Thrust_s.c, .slice s_Water_s.p s_Water_s.n s_Water_s.c, .slice s_Ice_s.p s_Ice_s.n s_Ice_s.c, .int .i64 s.Slow, .int .i64 s.Brash, .int .i64 s.Ridge, .int .i64 s.Press]] w fun e w' => e = .returned (.bool (rule1 s)) ∧ Below w.heap.size w w' := by
  obtain ⟨s_Thrust_p, s_Thrust_n, s_Thrust_c⟩ := s_Thrust_s
  have hs_Thrust_l : s_Thrust_n = s.Thrust.length := hs_Thrust.1
  subst hs_Thrust_l
  obtain ⟨s_Thrust_b, s_Thrust_o, hs_Thrust_p, hs_Thrust_L⟩ := SlAt.lies' hs_Thrust
  obtain ⟨s_Water_p, s_Water_n, s_Water_c⟩ := s_Water_s
  have hs_Water_l : s_Water_n = s.Water.length := hs_Water.1
  subst hs_Water_l
  obtain ⟨s_Water_b, s_Water_o, hs_Water_p, hs_Water_L⟩ := SlAt.lies' hs_Water
  obtain ⟨s_Ice_p, s_Ice_n, s_Ice_c⟩ := s_Ice_s
  have hs_Ice_l : s_Ice_n = s.Ice.length := hs_Ice.1
  subst hs_Ice_l
  obtain ⟨s_Ice_b, s_Ice_o, hs_Ice_p, hs_Ice_L⟩ := SlAt.lies' hs_Ice
  refine enter (args := [.g [.v (.int .i64 s.Class), .v (.int .i64 s.Power), .v (.int .i64 s.Draught), .v (.int .i64 s.Tonnes), .v (.slice s_Thrust_p s.Thrust.length s_Thrust_c), .v (.slice s_Water_p s.Water.length s_Water_c), .v (.slice s_Ice_p s.Ice.length s_Ice_c), .v (.int .i64 s.Slow), .v (.int .i64 s.Brash), .v (.int .i64 s.Ridge), .v (.int .i64 s.Press)]]) Tryd.func138 rfl (N := 6) rfl (Nat.le_of_ble_eq_true rfl) ?_
  refine aw_seq ?_
  refine aw_text (rows := [_, _]) rfl (by kernel_rfl) ⟨
    ok_plain rfl rfl (op_boxN (L := 1) (ltN rfl) rfl rfl rfl),
    ok_plain rfl rfl (op_assign (ltN rfl) rfl),
    trivial⟩ ?_
  refine fin_keep (s' := [(.t 1, some (.x (.p 1 0))), (.b 1, some (.sh 25 11)), (.c 1 0, some (.x (.v (.int .i64 s.Class)))), (.c 1 1, some (.x (.v (.int .i64 s.Power)))), (.c 1 2, some (.x (.v (.int .i64 s.Draught)))), (.c 1 3, some (.x (.v (.int .i64 s.Tonnes)))), (.c 1 4, some (.x (.v (.slice s_Thrust_p s.Thrust.length s_Thrust_c)))), (.c 1 5, some (.x (.v (.slice s_Water_p s.Water.length s_Water_c)))), (.c 1 6, some (.x (.v (.slice s_Ice_p s.Ice.length s_Ice_c)))), (.c 1 7, some (.x (.v (.int .i64 s.Slow)))), (.c 1 8, some (.x (.v (.int .i64 s.Brash)))), (.c 1 9, some (.x (.v (.int .i64 s.Ridge)))), (.c 1 10, some (.x (.v (.int .i64 s.Press))))]) ?_ ⟨rfl, rfl, rfl, rfl, rfl, rfl, rfl, rfl, rfl, rfl, rfl, rfl, rfl, trivial⟩ rfl
  refine fin_then ?_
  refine aw_seq ?_
  refine aw_text (rows := [_, _, _, _]) rfl (by kernel_rfl) ⟨
    ok_plain rfl rfl (op_fieldAddr (ltN rfl) rfl fo_25_0),
    ok_plain rfl rfl (op_load1 (ltN rfl) sh_3 rfl rfl),
    ok_plain rfl rfl (op_call (x := .v (.bool (within s.Class 1 6))) (fs := []) (caps := []) (extra := []) (ltN rfl) en_84 rfl ⟨rfl, rfl, rfl⟩ (EvL.cons rfl (EvL.cons rfl (EvL.cons rfl EvL.nil))) (fun mm aa ww gg hr hrel => (c84 s.Class 1 6 ww))),
    ok_plain rfl rfl (op_assign (ltN rfl) rfl),
    trivial⟩ ?_
  refine fin_keep (s' := [(.t 2, some (.x (.v (.bool (within s.Class 1 6)))))]) ?_ ⟨rfl, trivial⟩ rfl
  refine fin_then ?_
  refine aw_ret ?_
  refine post_ret (x := .v (.bool (within s.Class 1 6))) rfl rfl (resOK_tmp rfl resOK_nil) rfl (fun mm aa ww hr => ?_)
  show Ending.returned (.bool (within s.Class 1 6)) = _ ∧ _
  first
    | exact ⟨rfl, hr.below⟩

theorem c139 (s : Ship) (s_Thrust_s : SlV) (s_Water_s : SlV) (s_Ice_s : SlV) (w : World) (hs_Thrust : SlIs encPt 2 w s_Thrust_s s.Thrust) (hs_Water : SlIs encPt 2 w s_Water_s s.Water) (hs_Ice : SlIs encPt 2 w s_Ice_s s.Ice) : Calls Tryd.prog 139 #[.agg #[.int .i64 s.Class, .int .i64 s.Power, .int .i64 s.Draught, .int .i64 s.Tonnes, .slice s_Thrust_s.p s_Thrust_s.n s_Thrust_s.c, .slice s_Water_s.p s_Water_s.n s_Water_s.c, .slice s_Ice_s.p s_Ice_s.n s_Ice_s.c, .int .i64 s.Slow, .int .i64 s.Brash, .int .i64 s.Ridge, .int .i64 s.Press]] w fun e w' => e = .returned (.bool (rule2 s)) ∧ Below w.heap.size w w' := by
  obtain ⟨s_Thrust_p, s_Thrust_n, s_Thrust_c⟩ := s_Thrust_s
  have hs_Thrust_l : s_Thrust_n = s.Thrust.length := hs_Thrust.1
  subst hs_Thrust_l
  obtain ⟨s_Thrust_b, s_Thrust_o, hs_Thrust_p, hs_Thrust_L⟩ := SlAt.lies' hs_Thrust
  obtain ⟨s_Water_p, s_Water_n, s_Water_c⟩ := s_Water_s
  have hs_Water_l : s_Water_n = s.Water.length := hs_Water.1
  subst hs_Water_l
  obtain ⟨s_Water_b, s_Water_o, hs_Water_p, hs_Water_L⟩ := SlAt.lies' hs_Water
  obtain ⟨s_Ice_p, s_Ice_n, s_Ice_c⟩ := s_Ice_s
  have hs_Ice_l : s_Ice_n = s.Ice.length := hs_Ice.1
  subst hs_Ice_l
  obtain ⟨s_Ice_b, s_Ice_o, hs_Ice_p, hs_Ice_L⟩ := SlAt.lies' hs_Ice
  refine enter (args := [.g [.v (.int .i64 s.Class), .v (.int .i64 s.Power), .v (.int .i64 s.Draught), .v (.int .i64 s.Tonnes), .v (.slice s_Thrust_p s.Thrust.length s_Thrust_c), .v (.slice s_Water_p s.Water.length s_Water_c), .v (.slice s_Ice_p s.Ice.length s_Ice_c), .v (.int .i64 s.Slow), .v (.int .i64 s.Brash), .v (.int .i64 s.Ridge), .v (.int .i64 s.Press)]]) Tryd.func139 rfl (N := 16) rfl (Nat.le_of_ble_eq_true rfl) ?_
  refine aw_seq ?_
  refine aw_text (rows := [_, _]) rfl (by kernel_rfl) ⟨
    ok_plain rfl rfl (op_boxN (L := 1) (ltN rfl) rfl rfl rfl),
    ok_plain rfl rfl (op_assign (ltN rfl) rfl),
    trivial⟩ ?_
  refine fin_keep (s' := [(.t 1, some (.x (.p 1 0))), (.b 1, some (.sh 25 11)), (.c 1 0, some (.x (.v (.int .i64 s.Class)))), (.c 1 1, some (.x (.v (.int .i64 s.Power)))), (.c 1 2, some (.x (.v (.int .i64 s.Draught)))), (.c 1 3, some (.x (.v (.int .i64 s.Tonnes)))), (.c 1 4, some (.x (.v (.slice s_Thrust_p s.Thrust.length s_Thrust_c)))), (.c 1 5, some (.x (.v (.slice s_Water_p s.Water.length s_Water_c)))), (.c 1 6, some (.x (.v (.slice s_Ice_p s.Ice.length s_Ice_c)))), (.c 1 7, some (.x (.v (.int .i64 s.Slow)))), (.c 1 8, some (.x (.v (.int .i64 s.Brash)))), (.c 1 9, some (.x (.v (.int .i64 s.Ridge)))), (.c 1 10, some (.x (.v (.int .i64 s.Press))))]) ?_ ⟨rfl, rfl, rfl, rfl, rfl, rfl, rfl, rfl, rfl, rfl, rfl, rfl, rfl, trivial⟩ rfl
  refine fin_then ?_
  refine aw_seq ?_
  refine aw_text (rows := [_, _, _, _, _, _, _, _, _, _, _, _, _, _]) rfl (by kernel_rfl) ⟨
    ok_plain rfl rfl (op_fieldAddr (ltN rfl) rfl fo_25_1),
    ok_plain rfl rfl (op_load1 (ltN rfl) sh_3 rfl rfl),
    ok_plain rfl rfl (op_call (x := .v (.bool (within s.Power 100 100000))) (fs := []) (caps := []) (extra := []) (ltN rfl) en_84 rfl ⟨rfl, rfl, rfl⟩ (EvL.cons rfl (EvL.cons rfl (EvL.cons rfl EvL.nil))) (fun mm aa ww gg hr hrel => (c84 s.Power 100 100000 ww))),
    ok_plain rfl rfl (op_move (ltN rfl) rfl),
    ok_if (ltN rfl) rfl rfl rfl rfl rfl rfl (fun hg1 => op_fieldAddr (ltN rfl) (force_x rfl) fo_25_2),
    ok_if (ltN rfl) rfl rfl rfl rfl rfl rfl (fun hg2 => op_load1 (ltN rfl) sh_3 (force_eq (beq_iff_eq.2 hg2) rfl) rfl),
    ok_if (ltN rfl) rfl rfl rfl rfl rfl rfl (fun hg3 => op_call (x := .v (.bool (within s.Draught 10 2000))) (fs := []) (caps := []) (extra := []) (ltN rfl) en_84 rfl ⟨rfl, rfl, rfl⟩ (EvL.cons (force_eq (beq_iff_eq.2 hg3) rfl) (EvL.cons rfl (EvL.cons rfl EvL.nil))) (fun mm aa ww gg hr hrel => (c84 s.Draught 10 2000 ww))),
    ok_plain rfl rfl (op_and (ltN rfl) rfl rfl),
    ok_plain rfl rfl (op_move (ltN rfl) rfl),
    ok_if (ltN rfl) rfl rfl rfl rfl rfl rfl (fun hg4 => op_fieldAddr (ltN rfl) (force_x rfl) fo_25_3),
    ok_if (ltN rfl) rfl rfl rfl rfl rfl rfl (fun hg5 => op_load1 (ltN rfl) sh_3 (force_eq (beq_iff_eq.2 hg5) rfl) rfl),
    ok_if (ltN rfl) rfl rfl rfl rfl rfl rfl (fun hg6 => op_call (x := .v (.bool (within s.Tonnes 10 500000))) (fs := []) (caps := []) (extra := []) (ltN rfl) en_84 rfl ⟨rfl, rfl, rfl⟩ (EvL.cons (force_eq (beq_iff_eq.2 hg6) rfl) (EvL.cons rfl (EvL.cons rfl EvL.nil))) (fun mm aa ww gg hr hrel => (c84 s.Tonnes 10 500000 ww))),
    ok_plain rfl rfl (op_and (ltN rfl) rfl rfl),
    ok_plain rfl rfl (op_assign (ltN rfl) rfl),
    trivial⟩ ?_
  refine fin_keep (s' := [(.t 2, some (.x (.v (.bool (((within s.Power 100 100000) && (within s.Draught 10 2000)) && (within s.Tonnes 10 500000))))))]) ?_ ⟨rfl, trivial⟩ rfl
  refine fin_then ?_
  refine aw_ret ?_
  refine post_ret (x := .v (.bool (((within s.Power 100 100000) && (within s.Draught 10 2000)) && (within s.Tonnes 10 500000)))) rfl rfl (resOK_tmp rfl resOK_nil) rfl (fun mm aa ww hr => ?_)
  show Ending.returned (.bool (((within s.Power 100 100000) && (within s.Draught 10 2000)) && (within s.Tonnes 10 500000))) = _ ∧ _
  first
    | exact ⟨rfl, hr.below⟩

theorem c140 (s : Ship) (s_Thrust_s : SlV) (s_Water_s : SlV) (s_Ice_s : SlV) (w : World) (hs_Thrust : SlIs encPt 2 w s_Thrust_s s.Thrust) (hs_Water : SlIs encPt 2 w s_Water_s s.Water) (hs_Ice : SlIs encPt 2 w s_Ice_s s.Ice) : Calls Tryd.prog 140 #[.agg #[.int .i64 s.Class, .int .i64 s.Power, .int .i64 s.Draught, .int .i64 s.Tonnes, .slice s_Thrust_s.p s_Thrust_s.n s_Thrust_s.c, .slice s_Water_s.p s_Water_s.n s_Water_s.c, .slice s_Ice_s.p s_Ice_s.n s_Ice_s.c, .int .i64 s.Slow, .int .i64 s.Brash, .int .i64 s.Ridge, .int .i64 s.Press]] w fun e w' => e = .returned (.bool (rule3 s)) ∧ Below w.heap.size w w' := by
  obtain ⟨s_Thrust_p, s_Thrust_n, s_Thrust_c⟩ := s_Thrust_s
  have hs_Thrust_l : s_Thrust_n = s.Thrust.length := hs_Thrust.1
  subst hs_Thrust_l
  obtain ⟨s_Thrust_b, s_Thrust_o, hs_Thrust_p, hs_Thrust_L⟩ := SlAt.lies' hs_Thrust
  obtain ⟨s_Water_p, s_Water_n, s_Water_c⟩ := s_Water_s
  have hs_Water_l : s_Water_n = s.Water.length := hs_Water.1
  subst hs_Water_l
  obtain ⟨s_Water_b, s_Water_o, hs_Water_p, hs_Water_L⟩ := SlAt.lies' hs_Water
  obtain ⟨s_Ice_p, s_Ice_n, s_Ice_c⟩ := s_Ice_s
  have hs_Ice_l : s_Ice_n = s.Ice.length := hs_Ice.1
  subst hs_Ice_l
  obtain ⟨s_Ice_b, s_Ice_o, hs_Ice_p, hs_Ice_L⟩ := SlAt.lies' hs_Ice
  refine enter (args := [.g [.v (.int .i64 s.Class), .v (.int .i64 s.Power), .v (.int .i64 s.Draught), .v (.int .i64 s.Tonnes), .v (.slice s_Thrust_p s.Thrust.length s_Thrust_c), .v (.slice s_Water_p s.Water.length s_Water_c), .v (.slice s_Ice_p s.Ice.length s_Ice_c), .v (.int .i64 s.Slow), .v (.int .i64 s.Brash), .v (.int .i64 s.Ridge), .v (.int .i64 s.Press)]]) Tryd.func140 rfl (N := 21) rfl (Nat.le_of_ble_eq_true rfl) ?_
  refine aw_seq ?_
  refine aw_text (rows := [_, _]) rfl (by kernel_rfl) ⟨
    ok_plain rfl rfl (op_boxN (L := 1) (ltN rfl) rfl rfl rfl),
    ok_plain rfl rfl (op_assign (ltN rfl) rfl),
    trivial⟩ ?_
  refine fin_keep (s' := [(.t 1, some (.x (.p 1 0))), (.b 1, some (.sh 25 11)), (.c 1 0, some (.x (.v (.int .i64 s.Class)))), (.c 1 1, some (.x (.v (.int .i64 s.Power)))), (.c 1 2, some (.x (.v (.int .i64 s.Draught)))), (.c 1 3, some (.x (.v (.int .i64 s.Tonnes)))), (.c 1 4, some (.x (.v (.slice s_Thrust_p s.Thrust.length s_Thrust_c)))), (.c 1 5, some (.x (.v (.slice s_Water_p s.Water.length s_Water_c)))), (.c 1 6, some (.x (.v (.slice s_Ice_p s.Ice.length s_Ice_c)))), (.c 1 7, some (.x (.v (.int .i64 s.Slow)))), (.c 1 8, some (.x (.v (.int .i64 s.Brash)))), (.c 1 9, some (.x (.v (.int .i64 s.Ridge)))), (.c 1 10, some (.x (.v (.int .i64 s.Press))))]) ?_ ⟨rfl, rfl, rfl, rfl, rfl, rfl, rfl, rfl, rfl, rfl, rfl, rfl, rfl, trivial⟩ rfl
  refine fin_then ?_
  refine aw_seq ?_
  refine aw_text (rows := [_, _, _, _, _, _, _, _, _, _, _, _, _, _, _, _, _, _, _]) rfl (by kernel_rfl) ⟨
    ok_plain rfl rfl (op_fieldAddr (ltN rfl) rfl fo_25_7),
    ok_plain rfl rfl (op_load1 (ltN rfl) sh_3 rfl rfl),
    ok_plain rfl rfl (op_call (x := .v (.bool (within s.Slow 0 20))) (fs := []) (caps := []) (extra := []) (ltN rfl) en_84 rfl ⟨rfl, rfl, rfl⟩ (EvL.cons rfl (EvL.cons rfl (EvL.cons rfl EvL.nil))) (fun mm aa ww gg hr hrel => (c84 s.Slow 0 20 ww))),
    ok_plain rfl rfl (op_move (ltN rfl) rfl),
    ok_if (ltN rfl) rfl rfl rfl rfl rfl rfl (fun hg1 => op_fieldAddr (ltN rfl) (force_x rfl) fo_25_8),
    ok_if (ltN rfl) rfl rfl rfl rfl rfl rfl (fun hg2 => op_load1 (ltN rfl) sh_3 (force_eq (beq_iff_eq.2 hg2) rfl) rfl),
    ok_if (ltN rfl) rfl rfl rfl rfl rfl rfl (fun hg3 => op_call (x := .v (.bool (within s.Brash 0 100))) (fs := []) (caps := []) (extra := []) (ltN rfl) en_84 rfl ⟨rfl, rfl, rfl⟩ (EvL.cons (force_eq (beq_iff_eq.2 hg3) rfl) (EvL.cons rfl (EvL.cons rfl EvL.nil))) (fun mm aa ww gg hr hrel => (c84 s.Brash 0 100 ww))),
    ok_plain rfl rfl (op_and (ltN rfl) rfl rfl),
    ok_plain rfl rfl (op_move (ltN rfl) rfl),
    ok_if (ltN rfl) rfl rfl rfl rfl rfl rfl (fun hg4 => op_fieldAddr (ltN rfl) (force_x rfl) fo_25_9),
    ok_if (ltN rfl) rfl rfl rfl rfl rfl rfl (fun hg5 => op_load1 (ltN rfl) sh_3 (force_eq (beq_iff_eq.2 hg5) rfl) rfl),
    ok_if (ltN rfl) rfl rfl rfl rfl rfl rfl (fun hg6 => op_call (x := .v (.bool (within s.Ridge 0 500))) (fs := []) (caps := []) (extra := []) (ltN rfl) en_84 rfl ⟨rfl, rfl, rfl⟩ (EvL.cons (force_eq (beq_iff_eq.2 hg6) rfl) (EvL.cons rfl (EvL.cons rfl EvL.nil))) (fun mm aa ww gg hr hrel => (c84 s.Ridge 0 500 ww))),
    ok_plain rfl rfl (op_and (ltN rfl) rfl rfl),
    ok_plain rfl rfl (op_move (ltN rfl) rfl),
    ok_if (ltN rfl) rfl rfl rfl rfl rfl rfl (fun hg7 => op_fieldAddr (ltN rfl) (force_x rfl) fo_25_10),
    ok_if (ltN rfl) rfl rfl rfl rfl rfl rfl (fun hg8 => op_load1 (ltN rfl) sh_3 (force_eq (beq_iff_eq.2 hg8) rfl) rfl),
    ok_if (ltN rfl) rfl rfl rfl rfl rfl rfl (fun hg9 => op_call (x := .v (.bool (within s.Press 0 5000))) (fs := []) (caps := []) (extra := []) (ltN rfl) en_84 rfl ⟨rfl, rfl, rfl⟩ (EvL.cons (force_eq (beq_iff_eq.2 hg9) rfl) (EvL.cons rfl (EvL.cons rfl EvL.nil))) (fun mm aa ww gg hr hrel => (c84 s.Press 0 5000 ww))),
    ok_plain rfl rfl (op_and (ltN rfl) rfl rfl),
    ok_plain rfl rfl (op_assign (ltN rfl) rfl),
    trivial⟩ ?_
  refine fin_keep (s' := [(.t 2, some (.x (.v (.bool ((((within s.Slow 0 20) && (within s.Brash 0 100)) && (within s.Ridge 0 500)) && (within s.Press 0 5000))))))]) ?_ ⟨rfl, trivial⟩ rfl
  refine fin_then ?_
  refine aw_ret ?_
  refine post_ret (x := .v (.bool ((((within s.Slow 0 20) && (within s.Brash 0 100)) && (within s.Ridge 0 500)) && (within s.Press 0 5000)))) rfl rfl (resOK_tmp rfl resOK_nil) rfl (fun mm aa ww hr => ?_)
  show Ending.returned (.bool ((((within s.Slow 0 20) && (within s.Brash 0 100)) && (within s.Ridge 0 500)) && (within s.Press 0 5000))) = _ ∧ _
  first
    | exact ⟨rfl, hr.below⟩

theorem c141 (s : Ship) (s_Thrust_s : SlV) (s_Water_s : SlV) (s_Ice_s : SlV) (w : World) (hs_Thrust : SlIs encPt 2 w s_Thrust_s s.Thrust) (hs_Water : SlIs encPt 2 w s_Water_s s.Water) (hs_Ice : SlIs encPt 2 w s_Ice_s s.Ice) : Calls Tryd.prog 141 #[.agg #[.int .i64 s.Class, .int .i64 s.Power, .int .i64 s.Draught, .int .i64 s.Tonnes, .slice s_Thrust_s.p s_Thrust_s.n s_Thrust_s.c, .slice s_Water_s.p s_Water_s.n s_Water_s.c, .slice s_Ice_s.p s_Ice_s.n s_Ice_s.c, .int .i64 s.Slow, .int .i64 s.Brash, .int .i64 s.Ridge, .int .i64 s.Press]] w fun e w' => e = .returned (.bool (rule4 s)) ∧ Below w.heap.size w w' := by
  obtain ⟨s_Thrust_p, s_Thrust_n, s_Thrust_c⟩ := s_Thrust_s
  have hs_Thrust_l : s_Thrust_n = s.Thrust.length := hs_Thrust.1
  subst hs_Thrust_l
  obtain ⟨s_Thrust_b, s_Thrust_o, hs_Thrust_p, hs_Thrust_L⟩ := SlAt.lies' hs_Thrust
  obtain ⟨s_Water_p, s_Water_n, s_Water_c⟩ := s_Water_s
  have hs_Water_l : s_Water_n = s.Water.length := hs_Water.1
  subst hs_Water_l
  obtain ⟨s_Water_b, s_Water_o, hs_Water_p, hs_Water_L⟩ := SlAt.lies' hs_Water
  obtain ⟨s_Ice_p, s_Ice_n, s_Ice_c⟩ := s_Ice_s
  have hs_Ice_l : s_Ice_n = s.Ice.length := hs_Ice.1
  subst hs_Ice_l
  obtain ⟨s_Ice_b, s_Ice_o, hs_Ice_p, hs_Ice_L⟩ := SlAt.lies' hs_Ice
  refine enter (args := [.g [.v (.int .i64 s.Class), .v (.int .i64 s.Power), .v (.int .i64 s.Draught), .v (.int .i64 s.Tonnes), .v (.slice s_Thrust_p s.Thrust.length s_Thrust_c), .v (.slice s_Water_p s.Water.length s_Water_c), .v (.slice s_Ice_p s.Ice.length s_Ice_c), .v (.int .i64 s.Slow), .v (.int .i64 s.Brash), .v (.int .i64 s.Ridge), .v (.int .i64 s.Press)]]) Tryd.func141 rfl (N := 12) rfl (Nat.le_of_ble_eq_true rfl) ?_
  refine aw_seq ?_
  refine aw_text (rows := [_, _]) rfl (by kernel_rfl) ⟨
    ok_plain rfl rfl (op_boxN (L := 1) (ltN rfl) rfl rfl rfl),
    ok_plain rfl rfl (op_assign (ltN rfl) rfl),
    trivial⟩ ?_
  refine fin_keep (s' := [(.t 1, some (.x (.p 1 0))), (.b 1, some (.sh 25 11)), (.c 1 0, some (.x (.v (.int .i64 s.Class)))), (.c 1 1, some (.x (.v (.int .i64 s.Power)))), (.c 1 2, some (.x (.v (.int .i64 s.Draught)))), (.c 1 3, some (.x (.v (.int .i64 s.Tonnes)))), (.c 1 4, some (.x (.v (.slice s_Thrust_p s.Thrust.length s_Thrust_c)))), (.c 1 5, some (.x (.v (.slice s_Water_p s.Water.length s_Water_c)))), (.c 1 6, some (.x (.v (.slice s_Ice_p s.Ice.length s_Ice_c)))), (.c 1 7, some (.x (.v (.int .i64 s.Slow)))), (.c 1 8, some (.x (.v (.int .i64 s.Brash)))), (.c 1 9, some (.x (.v (.int .i64 s.Ridge)))), (.c 1 10, some (.x (.v (.int .i64 s.Press))))]) ?_ ⟨rfl, rfl, rfl, rfl, rfl, rfl, rfl, rfl, rfl, rfl, rfl, rfl, rfl, trivial⟩ rfl
  refine fin_then ?_
  refine aw_seq ?_
  refine aw_text (rows := [_, _, _, _, _, _, _, _, _, _]) rfl (by kernel_rfl) ⟨
    ok_plain rfl rfl (op_fieldAddr (ltN rfl) rfl fo_25_4),
    ok_plain rfl rfl (op_load1 (ltN rfl) sh_23 rfl rfl),
    ok_plain rfl rfl (op_call (x := .v (.bool (steady s.Thrust ((-1))))) (fs := []) (caps := []) (extra := []) (ltN rfl) en_142 rfl ⟨rfl, rfl, rfl⟩ (EvL.cons rfl (EvL.cons rfl EvL.nil)) (fun mm aa ww gg hr hrel => (c142 s.Thrust ⟨s_Thrust_p, s.Thrust.length, s_Thrust_c⟩ ((-1)) ww (SlIs.mono hs_Thrust hrel.below) (by first | assumption | omega)))),
    ok_plain rfl rfl (op_move (ltN rfl) rfl),
    ok_if (ltN rfl) rfl rfl rfl rfl rfl rfl (fun hg1 => op_fieldAddr (ltN rfl) (force_x rfl) fo_25_4),
    ok_if (ltN rfl) rfl rfl rfl rfl rfl rfl (fun hg2 => op_load1 (ltN rfl) sh_23 (force_eq (beq_iff_eq.2 hg2) rfl) rfl),
    ok_if (ltN rfl) rfl rfl rfl rfl rfl rfl (fun hg3 => op_call (x := .v (.int .i64 (endX s.Thrust))) (fs := []) (caps := []) (extra := []) (ltN rfl) en_137 rfl ⟨rfl, rfl, rfl⟩ (EvL.cons (force_eq (beq_iff_eq.2 hg3) rfl) EvL.nil) (fun mm aa ww gg hr hrel => (c137 s.Thrust ⟨s_Thrust_p, s.Thrust.length, s_Thrust_c⟩ ww (SlIs.mono hs_Thrust hrel.below) (by have g0 := steady_len hg3; have g1 := hg3; first | exact steady_curve (w := 1) (by assumption) | exact steady_curve (w := -1) (by assumption))))),
    ok_if (ltN rfl) rfl rfl rfl rfl rfl rfl (fun hg4 => op_call (x := .v (.bool (within (endX s.Thrust) 10 250))) (fs := []) (caps := []) (extra := []) (ltN rfl) en_84 rfl ⟨rfl, rfl, rfl⟩ (EvL.cons (force_eq (beq_iff_eq.2 hg4) rfl) (EvL.cons rfl (EvL.cons rfl EvL.nil))) (fun mm aa ww gg hr hrel => (c84 (endX s.Thrust) 10 250 ww))),
    ok_plain rfl rfl (op_and (ltN rfl) rfl rfl),
    ok_plain rfl rfl (op_assign (ltN rfl) rfl),
    trivial⟩ ?_
  refine fin_keep (s' := [(.t 2, some (.x (.v (.bool ((steady s.Thrust ((-1))) && (within (endX s.Thrust) 10 250))))))]) ?_ ⟨rfl, trivial⟩ rfl
  refine fin_then ?_
  refine aw_ret ?_
  refine post_ret (x := .v (.bool ((steady s.Thrust ((-1))) && (within (endX s.Thrust) 10 250)))) rfl rfl (resOK_tmp rfl resOK_nil) rfl (fun mm aa ww hr => ?_)
  show Ending.returned (.bool ((steady s.Thrust ((-1))) && (within (endX s.Thrust) 10 250))) = _ ∧ _
  first
    | exact ⟨rfl, hr.below⟩

theorem c143 (s : Ship) (s_Thrust_s : SlV) (s_Water_s : SlV) (s_Ice_s : SlV) (w : World) (hs_Thrust : SlIs encPt 2 w s_Thrust_s s.Thrust) (hs_Water : SlIs encPt 2 w s_Water_s s.Water) (hs_Ice : SlIs encPt 2 w s_Ice_s s.Ice) : Calls Tryd.prog 143 #[.agg #[.int .i64 s.Class, .int .i64 s.Power, .int .i64 s.Draught, .int .i64 s.Tonnes, .slice s_Thrust_s.p s_Thrust_s.n s_Thrust_s.c, .slice s_Water_s.p s_Water_s.n s_Water_s.c, .slice s_Ice_s.p s_Ice_s.n s_Ice_s.c, .int .i64 s.Slow, .int .i64 s.Brash, .int .i64 s.Ridge, .int .i64 s.Press]] w fun e w' => e = .returned (.bool (rule5 s)) ∧ Below w.heap.size w w' := by
  obtain ⟨s_Thrust_p, s_Thrust_n, s_Thrust_c⟩ := s_Thrust_s
  have hs_Thrust_l : s_Thrust_n = s.Thrust.length := hs_Thrust.1
  subst hs_Thrust_l
  obtain ⟨s_Thrust_b, s_Thrust_o, hs_Thrust_p, hs_Thrust_L⟩ := SlAt.lies' hs_Thrust
  obtain ⟨s_Water_p, s_Water_n, s_Water_c⟩ := s_Water_s
  have hs_Water_l : s_Water_n = s.Water.length := hs_Water.1
  subst hs_Water_l
  obtain ⟨s_Water_b, s_Water_o, hs_Water_p, hs_Water_L⟩ := SlAt.lies' hs_Water
  obtain ⟨s_Ice_p, s_Ice_n, s_Ice_c⟩ := s_Ice_s
  have hs_Ice_l : s_Ice_n = s.Ice.length := hs_Ice.1
  subst hs_Ice_l
  obtain ⟨s_Ice_b, s_Ice_o, hs_Ice_p, hs_Ice_L⟩ := SlAt.lies' hs_Ice
  refine enter (args := [.g [.v (.int .i64 s.Class), .v (.int .i64 s.Power), .v (.int .i64 s.Draught), .v (.int .i64 s.Tonnes), .v (.slice s_Thrust_p s.Thrust.length s_Thrust_c), .v (.slice s_Water_p s.Water.length s_Water_c), .v (.slice s_Ice_p s.Ice.length s_Ice_c), .v (.int .i64 s.Slow), .v (.int .i64 s.Brash), .v (.int .i64 s.Ridge), .v (.int .i64 s.Press)]]) Tryd.func143 rfl (N := 12) rfl (Nat.le_of_ble_eq_true rfl) ?_
  refine aw_seq ?_
  refine aw_text (rows := [_, _]) rfl (by kernel_rfl) ⟨
    ok_plain rfl rfl (op_boxN (L := 1) (ltN rfl) rfl rfl rfl),
    ok_plain rfl rfl (op_assign (ltN rfl) rfl),
    trivial⟩ ?_
  refine fin_keep (s' := [(.t 1, some (.x (.p 1 0))), (.b 1, some (.sh 25 11)), (.c 1 0, some (.x (.v (.int .i64 s.Class)))), (.c 1 1, some (.x (.v (.int .i64 s.Power)))), (.c 1 2, some (.x (.v (.int .i64 s.Draught)))), (.c 1 3, some (.x (.v (.int .i64 s.Tonnes)))), (.c 1 4, some (.x (.v (.slice s_Thrust_p s.Thrust.length s_Thrust_c)))), (.c 1 5, some (.x (.v (.slice s_Water_p s.Water.length s_Water_c)))), (.c 1 6, some (.x (.v (.slice s_Ice_p s.Ice.length s_Ice_c)))), (.c 1 7, some (.x (.v (.int .i64 s.Slow)))), (.c 1 8, some (.x (.v (.int .i64 s.Brash)))), (.c 1 9, some (.x (.v (.int .i64 s.Ridge)))), (.c 1 10, some (.x (.v (.int .i64 s.Press))))]) ?_ ⟨rfl, rfl, rfl, rfl, rfl, rfl, rfl, rfl, rfl, rfl, rfl, rfl, rfl, trivial⟩ rfl
  refine fin_then ?_
  refine aw_seq ?_
  refine aw_text (rows := [_, _, _, _, _, _, _, _, _, _]) rfl (by kernel_rfl) ⟨
    ok_plain rfl rfl (op_fieldAddr (ltN rfl) rfl fo_25_5),
    ok_plain rfl rfl (op_load1 (ltN rfl) sh_23 rfl rfl),
    ok_plain rfl rfl (op_call (x := .v (.bool (steady s.Water 1))) (fs := []) (caps := []) (extra := []) (ltN rfl) en_142 rfl ⟨rfl, rfl, rfl⟩ (EvL.cons rfl (EvL.cons rfl EvL.nil)) (fun mm aa ww gg hr hrel => (c142 s.Water ⟨s_Water_p, s.Water.length, s_Water_c⟩ 1 ww (SlIs.mono hs_Water hrel.below) (by first | assumption | omega)))),
    ok_plain rfl rfl (op_move (ltN rfl) rfl),
    ok_if (ltN rfl) rfl rfl rfl rfl rfl rfl (fun hg1 => op_fieldAddr (ltN rfl) (force_x rfl) fo_25_5),
    ok_if (ltN rfl) rfl rfl rfl rfl rfl rfl (fun hg2 => op_load1 (ltN rfl) sh_23 (force_eq (beq_iff_eq.2 hg2) rfl) rfl),
    ok_if (ltN rfl) rfl rfl rfl rfl rfl rfl (fun hg3 => op_call (x := .v (.int .i64 (endX s.Water))) (fs := []) (caps := []) (extra := []) (ltN rfl) en_137 rfl ⟨rfl, rfl, rfl⟩ (EvL.cons (force_eq (beq_iff_eq.2 hg3) rfl) EvL.nil) (fun mm aa ww gg hr hrel => (c137 s.Water ⟨s_Water_p, s.Water.length, s_Water_c⟩ ww (SlIs.mono hs_Water hrel.below) (by have g0 := steady_len hg3; have g1 := hg3; first | exact steady_curve (w := 1) (by assumption) | exact steady_curve (w := -1) (by assumption))))),
    ok_if (ltN rfl) rfl rfl rfl rfl rfl rfl (fun hg4 => op_bin (ltN rfl) (force_eq (beq_iff_eq.2 hg4) rfl) rfl rfl),
    ok_plain rfl rfl (op_and (ltN rfl) rfl rfl),
    ok_plain rfl rfl (op_assign (ltN rfl) rfl),
    trivial⟩ ?_
  refine fin_keep (s' := [(.t 2, some (.x (.v (.bool ((steady s.Water 1) && (decide ((endX s.Water) ≤ 250)))))))]) ?_ ⟨rfl, trivial⟩ rfl
  refine fin_then ?_
  refine aw_ret ?_
  refine post_ret (x := .v (.bool ((steady s.Water 1) && (decide ((endX s.Water) ≤ 250))))) rfl rfl (resOK_tmp rfl resOK_nil) rfl (fun mm aa ww hr => ?_)
  show Ending.returned (.bool ((steady s.Water 1) && (decide ((endX s.Water) ≤ 250)))) = _ ∧ _
  first
    | exact ⟨rfl, hr.below⟩

theorem c144 (s : Ship) (s_Thrust_s : SlV) (s_Water_s : SlV) (s_Ice_s : SlV) (w : World) (hs_Thrust : SlIs encPt 2 w s_Thrust_s s.Thrust) (hs_Water : SlIs encPt 2 w s_Water_s s.Water) (hs_Ice : SlIs encPt 2 w s_Ice_s s.Ice) : Calls Tryd.prog 144 #[.agg #[.int .i64 s.Class, .int .i64 s.Power, .int .i64 s.Draught, .int .i64 s.Tonnes, .slice s_Thrust_s.p s_Thrust_s.n s_Thrust_s.c, .slice s_Water_s.p s_Water_s.n s_Water_s.c, .slice s_Ice_s.p s_Ice_s.n s_Ice_s.c, .int .i64 s.Slow, .int .i64 s.Brash, .int .i64 s.Ridge, .int .i64 s.Press]] w fun e w' => e = .returned (.bool (rule6 s)) ∧ Below w.heap.size w w' := by
  obtain ⟨s_Thrust_p, s_Thrust_n, s_Thrust_c⟩ := s_Thrust_s
  have hs_Thrust_l : s_Thrust_n = s.Thrust.length := hs_Thrust.1
  subst hs_Thrust_l
  obtain ⟨s_Thrust_b, s_Thrust_o, hs_Thrust_p, hs_Thrust_L⟩ := SlAt.lies' hs_Thrust
  obtain ⟨s_Water_p, s_Water_n, s_Water_c⟩ := s_Water_s
  have hs_Water_l : s_Water_n = s.Water.length := hs_Water.1
  subst hs_Water_l
  obtain ⟨s_Water_b, s_Water_o, hs_Water_p, hs_Water_L⟩ := SlAt.lies' hs_Water
  obtain ⟨s_Ice_p, s_Ice_n, s_Ice_c⟩ := s_Ice_s
  have hs_Ice_l : s_Ice_n = s.Ice.length := hs_Ice.1
  subst hs_Ice_l
  obtain ⟨s_Ice_b, s_Ice_o, hs_Ice_p, hs_Ice_L⟩ := SlAt.lies' hs_Ice
  refine enter (args := [.g [.v (.int .i64 s.Class), .v (.int .i64 s.Power), .v (.int .i64 s.Draught), .v (.int .i64 s.Tonnes), .v (.slice s_Thrust_p s.Thrust.length s_Thrust_c), .v (.slice s_Water_p s.Water.length s_Water_c), .v (.slice s_Ice_p s.Ice.length s_Ice_c), .v (.int .i64 s.Slow), .v (.int .i64 s.Brash), .v (.int .i64 s.Ridge), .v (.int .i64 s.Press)]]) Tryd.func144 rfl (N := 20) rfl (Nat.le_of_ble_eq_true rfl) ?_
  refine aw_seq ?_
  refine aw_text (rows := [_, _]) rfl (by kernel_rfl) ⟨
    ok_plain rfl rfl (op_boxN (L := 1) (ltN rfl) rfl rfl rfl),
    ok_plain rfl rfl (op_assign (ltN rfl) rfl),
    trivial⟩ ?_
  refine fin_keep (s' := [(.t 1, some (.x (.p 1 0))), (.b 1, some (.sh 25 11)), (.c 1 0, some (.x (.v (.int .i64 s.Class)))), (.c 1 1, some (.x (.v (.int .i64 s.Power)))), (.c 1 2, some (.x (.v (.int .i64 s.Draught)))), (.c 1 3, some (.x (.v (.int .i64 s.Tonnes)))), (.c 1 4, some (.x (.v (.slice s_Thrust_p s.Thrust.length s_Thrust_c)))), (.c 1 5, some (.x (.v (.slice s_Water_p s.Water.length s_Water_c)))), (.c 1 6, some (.x (.v (.slice s_Ice_p s.Ice.length s_Ice_c)))), (.c 1 7, some (.x (.v (.int .i64 s.Slow)))), (.c 1 8, some (.x (.v (.int .i64 s.Brash)))), (.c 1 9, some (.x (.v (.int .i64 s.Ridge)))), (.c 1 10, some (.x (.v (.int .i64 s.Press))))]) ?_ ⟨rfl, rfl, rfl, rfl, rfl, rfl, rfl, rfl, rfl, rfl, rfl, rfl, rfl, trivial⟩ rfl
  refine fin_then ?_
  refine aw_seq ?_
  refine aw_text (rows := [_, _, _, _, _, _, _, _, _, _, _, _, _, _, _, _, _, _]) rfl (by kernel_rfl) ⟨
    ok_plain rfl rfl (op_fieldAddr (ltN rfl) rfl fo_25_6),
    ok_plain rfl rfl (op_load1 (ltN rfl) sh_23 rfl rfl),
    ok_plain rfl rfl (op_call (x := .v (.bool (steady s.Ice 1))) (fs := []) (caps := []) (extra := []) (ltN rfl) en_142 rfl ⟨rfl, rfl, rfl⟩ (EvL.cons rfl (EvL.cons rfl EvL.nil)) (fun mm aa ww gg hr hrel => (c142 s.Ice ⟨s_Ice_p, s.Ice.length, s_Ice_c⟩ 1 ww (SlIs.mono hs_Ice hrel.below) (by first | assumption | omega)))),
    ok_plain rfl rfl (op_move (ltN rfl) rfl),
    ok_if (ltN rfl) rfl rfl rfl rfl rfl rfl (fun hg1 => op_fieldAddr (ltN rfl) (force_x rfl) fo_25_6),
    ok_if (ltN rfl) rfl rfl rfl rfl rfl rfl (fun hg2 => op_load1 (ltN rfl) sh_23 (force_eq (beq_iff_eq.2 hg2) rfl) rfl),
    ok_if (ltN rfl) rfl rfl rfl rfl rfl rfl (fun hg3 => op_ixB (ltN rfl) (force_eq (beq_iff_eq.2 hg3) rfl) rfl ss_23 (hs_Ice_p (ne_of_ix (i := 0) (by have g0 := steady_len hg3; have g1 := hg3; omega) (by have g0 := steady_len hg3; have g1 := hg3; omega))) (by have g0 := steady_len hg3; have g1 := hg3; omega) (by have g0 := steady_len hg3; have g1 := hg3; omega)),
    ok_if (ltN rfl) rfl rfl rfl rfl rfl rfl (fun hg4 => op_fieldAddrB (ltN rfl) (force_eq (beq_iff_eq.2 hg4) rfl) fo_84_1),
    ok_if (ltN rfl) rfl rfl rfl rfl rfl rfl (fun hg5 => op_loadB (y := .v (.int .i64 (((pt s.Ice 0)).Y))) (ltN rfl) (force_eq (beq_iff_eq.2 hg5) rfl) (ld1 (hs_Ice_L (ne_of_ix (i := 0) (by have g0 := steady_len hg5; have g1 := hg5; omega) (by have g0 := steady_len hg5; have g1 := hg5; omega))) ⟨0, 0⟩ (i := 0) (by have g0 := steady_len hg5; have g1 := hg5; omega) (by have g0 := steady_len hg5; have g1 := hg5; omega) 1 rfl rfl sh_3)),
    ok_if (ltN rfl) rfl rfl rfl rfl rfl rfl (fun hg6 => op_bin (ltN rfl) (force_eq (beq_iff_eq.2 hg6) rfl) rfl rfl),
    ok_plain rfl rfl (op_and (ltN rfl) rfl rfl),
    ok_plain rfl rfl (op_move (ltN rfl) rfl),
    ok_if (ltN rfl) rfl rfl rfl rfl rfl rfl (fun hg7 => op_fieldAddr (ltN rfl) (force_x rfl) fo_25_6),
    ok_if (ltN rfl) rfl rfl rfl rfl rfl rfl (fun hg8 => op_load1 (ltN rfl) sh_23 (force_eq (beq_iff_eq.2 hg8) rfl) rfl),
    ok_if (ltN rfl) rfl rfl rfl rfl rfl rfl (fun hg9 => op_call (x := .v (.int .i64 (endX s.Ice))) (fs := []) (caps := []) (extra := []) (ltN rfl) en_137 rfl ⟨rfl, rfl, rfl⟩ (EvL.cons (force_eq (beq_iff_eq.2 hg9) rfl) EvL.nil) (fun mm aa ww gg hr hrel => (c137 s.Ice ⟨s_Ice_p, s.Ice.length, s_Ice_c⟩ ww (SlIs.mono hs_Ice hrel.below) (by have g0 := steady_len (and_tl hg9); have g1 := and_tl hg9; have g2 := eq_t (and_tr hg9); first | exact steady_curve (w := 1) (by assumption) | exact steady_curve (w := -1) (by assumption))))),
    ok_if (ltN rfl) rfl rfl rfl rfl rfl rfl (fun hg10 => op_bin (ltN rfl) (force_eq (beq_iff_eq.2 hg10) rfl) rfl rfl),
    ok_plain rfl rfl (op_and (ltN rfl) rfl rfl),
    ok_plain rfl rfl (op_assign (ltN rfl) rfl),
    trivial⟩ ?_
  refine fin_keep (s' := [(.t 2, some (.x (.v (.bool (((steady s.Ice 1) && ((((pt s.Ice 0)).Y) == 0)) && ((endX s.Ice) == 400))))))]) ?_ ⟨rfl, trivial⟩ rfl
  refine fin_then ?_
  refine aw_ret ?_
  refine post_ret (x := .v (.bool (((steady s.Ice 1) && ((((pt s.Ice 0)).Y) == 0)) && ((endX s.Ice) == 400)))) rfl rfl (resOK_tmp rfl resOK_nil) rfl (fun mm aa ww hr => ?_)
  show Ending.returned (.bool (((steady s.Ice 1) && ((((pt s.Ice 0)).Y) == 0)) && ((endX s.Ice) == 400))) = _ ∧ _
  first
    | exact ⟨rfl, hr.below⟩

theorem c113  (w : World)  : Calls Tryd.prog 113 #[] w fun e w' => ∃ p c, e = .returned (.slice p (6) c) ∧ NewAt w w' p (6) c 174 2 ([(.func (.func 138) #[] #[]), (.int .i64 41), (.func (.func 139) #[] #[]), (.int .i64 40), (.func (.func 140) #[] #[]), (.int .i64 40), (.func (.func 141) #[] #[]), (.int .i64 40), (.func (.func 143) #[] #[]), (.int .i64 40), (.func (.func 144) #[] #[]), (.int .i64 40)]) ∧ Below w.heap.size w w' := by
  refine enter (args := []) Tryd.func113 rfl (N := 8) rfl (Nat.le_of_ble_eq_true rfl) ?_
  refine aw_seq ?_
  refine aw_text (rows := [_]) rfl (by kernel_rfl) ⟨
    ok_plain rfl rfl (op_assign (ltN rfl) rfl),
    trivial⟩ ?_
  refine fin_keep (s' := []) ?_ trivial rfl
  refine fin_then ?_
  refine aw_seq ?_
  refine aw_text (rows := [_, _, _, _, _, _, _, _]) rfl (by kernel_rfl) ⟨
    ok_plain rfl rfl (op_build (x := .g [.v (.func (.func 138) #[] #[]), .v (.int .i64 41)]) (ltN rfl) (EvL.cons rfl (EvL.cons rfl EvL.nil)) (fun m w => by kernel_rfl)),
    ok_plain rfl rfl (op_build (x := .g [.v (.func (.func 139) #[] #[]), .v (.int .i64 40)]) (ltN rfl) (EvL.cons rfl (EvL.cons rfl EvL.nil)) (fun m w => by kernel_rfl)),
    ok_plain rfl rfl (op_build (x := .g [.v (.func (.func 140) #[] #[]), .v (.int .i64 40)]) (ltN rfl) (EvL.cons rfl (EvL.cons rfl EvL.nil)) (fun m w => by kernel_rfl)),
    ok_plain rfl rfl (op_build (x := .g [.v (.func (.func 141) #[] #[]), .v (.int .i64 40)]) (ltN rfl) (EvL.cons rfl (EvL.cons rfl EvL.nil)) (fun m w => by kernel_rfl)),
    ok_plain rfl rfl (op_build (x := .g [.v (.func (.func 143) #[] #[]), .v (.int .i64 40)]) (ltN rfl) (EvL.cons rfl (EvL.cons rfl EvL.nil)) (fun m w => by kernel_rfl)),
    ok_plain rfl rfl (op_build (x := .g [.v (.func (.func 144) #[] #[]), .v (.int .i64 40)]) (ltN rfl) (EvL.cons rfl (EvL.cons rfl EvL.nil)) (fun m w => by kernel_rfl)),
    ok_plain rfl rfl (op_buildSlice (L := 1) (ety := 174) (cs := [.v (.func (.func 138) #[] #[]), .v (.int .i64 41), .v (.func (.func 139) #[] #[]), .v (.int .i64 40), .v (.func (.func 140) #[] #[]), .v (.int .i64 40), .v (.func (.func 141) #[] #[]), .v (.int .i64 40), .v (.func (.func 143) #[] #[]), .v (.int .i64 40), .v (.func (.func 144) #[] #[]), .v (.int .i64 40)]) (ltN rfl) (EvL.cons rfl (EvL.cons rfl (EvL.cons rfl (EvL.cons rfl (EvL.cons rfl (EvL.cons rfl EvL.nil)))))) rfl (fun m w => by kernel_rfl)),
    ok_plain rfl rfl (op_assign (ltN rfl) rfl),
    trivial⟩ ?_
  refine fin_keep (s' := [(.t 0, some (.x (.s 1 0 6 6))), (.b 1, some (.sh 174 12)), (.c 1 0, some (.x (.v (.func (.func 138) #[] #[])))), (.c 1 1, some (.x (.v (.int .i64 41)))), (.c 1 2, some (.x (.v (.func (.func 139) #[] #[])))), (.c 1 3, some (.x (.v (.int .i64 40)))), (.c 1 4, some (.x (.v (.func (.func 140) #[] #[])))), (.c 1 5, some (.x (.v (.int .i64 40)))), (.c 1 6, some (.x (.v (.func (.func 141) #[] #[])))), (.c 1 7, some (.x (.v (.int .i64 40)))), (.c 1 8, some (.x (.v (.func (.func 143) #[] #[])))), (.c 1 9, some (.x (.v (.int .i64 40)))), (.c 1 10, some (.x (.v (.func (.func 144) #[] #[])))), (.c 1 11, some (.x (.v (.int .i64 40))))]) ?_ ⟨rfl, rfl, rfl, rfl, rfl, rfl, rfl, rfl, rfl, rfl, rfl, rfl, rfl, rfl, trivial⟩ rfl
  refine fin_then ?_
  refine aw_ret ?_
  refine post_ret (x := .s 1 0 6 6) rfl rfl (resOK_tmp rfl resOK_nil) rfl (fun mm aa ww hr => ?_)
  exact ⟨_, _, rfl, newAt_box hr mine_nil rfl rfl (by decide) ⟨rfl, rfl, rfl, rfl, rfl, rfl, rfl, rfl, rfl, rfl, rfl, rfl, trivial⟩, hr.below⟩

theorem c46 (s : Ship) (s_Thrust_s : SlV) (s_Water_s : SlV) (s_Ice_s : SlV) (w : World) (hs_Thrust : SlIs encPt 2 w s_Thrust_s s.Thrust) (hs_Water : SlIs encPt 2 w s_Water_s s.Water) (hs_Ice : SlIs encPt 2 w s_Ice_s s.Ice) : Calls Tryd.prog 46 #[.agg #[.int .i64 s.Class, .int .i64 s.Power, .int .i64 s.Draught, .int .i64 s.Tonnes, .slice s_Thrust_s.p s_Thrust_s.n s_Thrust_s.c, .slice s_Water_s.p s_Water_s.n s_Water_s.c, .slice s_Ice_s.p s_Ice_s.n s_Ice_s.c, .int .i64 s.Slow, .int .i64 s.Brash, .int .i64 s.Ridge, .int .i64 s.Press]] w fun e w' => e = .returned (.int .i64 (check s)) ∧ Below w.heap.size w w' := by
  obtain ⟨s_Thrust_p, s_Thrust_n, s_Thrust_c⟩ := s_Thrust_s
  have hs_Thrust_l : s_Thrust_n = s.Thrust.length := hs_Thrust.1
  subst hs_Thrust_l
  obtain ⟨s_Thrust_b, s_Thrust_o, hs_Thrust_p, hs_Thrust_L⟩ := SlAt.lies' hs_Thrust
  obtain ⟨s_Water_p, s_Water_n, s_Water_c⟩ := s_Water_s
  have hs_Water_l : s_Water_n = s.Water.length := hs_Water.1
  subst hs_Water_l
  obtain ⟨s_Water_b, s_Water_o, hs_Water_p, hs_Water_L⟩ := SlAt.lies' hs_Water
  obtain ⟨s_Ice_p, s_Ice_n, s_Ice_c⟩ := s_Ice_s
  have hs_Ice_l : s_Ice_n = s.Ice.length := hs_Ice.1
  subst hs_Ice_l
  obtain ⟨s_Ice_b, s_Ice_o, hs_Ice_p, hs_Ice_L⟩ := SlAt.lies' hs_Ice
  refine enter (args := [.g [.v (.int .i64 s.Class), .v (.int .i64 s.Power), .v (.int .i64 s.Draught), .v (.int .i64 s.Tonnes), .v (.slice s_Thrust_p s.Thrust.length s_Thrust_c), .v (.slice s_Water_p s.Water.length s_Water_c), .v (.slice s_Ice_p s.Ice.length s_Ice_c), .v (.int .i64 s.Slow), .v (.int .i64 s.Brash), .v (.int .i64 s.Ridge), .v (.int .i64 s.Press)]]) Tryd.func46 rfl (N := 19) rfl (Nat.le_of_ble_eq_true rfl) ?_
  refine aw_seq ?_
  refine aw_text (rows := [_, _]) rfl (by kernel_rfl) ⟨
    ok_plain rfl rfl (op_boxN (L := 1) (ltN rfl) rfl rfl rfl),
    ok_plain rfl rfl (op_assign (ltN rfl) rfl),
    trivial⟩ ?_
  refine fin_keep (s' := [(.t 1, some (.x (.p 1 0))), (.b 1, some (.sh 25 11)), (.c 1 0, some (.x (.v (.int .i64 s.Class)))), (.c 1 1, some (.x (.v (.int .i64 s.Power)))), (.c 1 2, some (.x (.v (.int .i64 s.Draught)))), (.c 1 3, some (.x (.v (.int .i64 s.Tonnes)))), (.c 1 4, some (.x (.v (.slice s_Thrust_p s.Thrust.length s_Thrust_c)))), (.c 1 5, some (.x (.v (.slice s_Water_p s.Water.length s_Water_c)))), (.c 1 6, some (.x (.v (.slice s_Ice_p s.Ice.length s_Ice_c)))), (.c 1 7, some (.x (.v (.int .i64 s.Slow)))), (.c 1 8, some (.x (.v (.int .i64 s.Brash)))), (.c 1 9, some (.x (.v (.int .i64 s.Ridge)))), (.c 1 10, some (.x (.v (.int .i64 s.Press))))]) ?_ ⟨rfl, rfl, rfl, rfl, rfl, rfl, rfl, rfl, rfl, rfl, rfl, rfl, rfl, trivial⟩ rfl
  refine fin_then ?_
  refine aw_seq ?_
  refine aw_seq ?_
  refine aw_text (rows := [_, _, _]) rfl (by kernel_rfl) ⟨
    ok_plain rfl rfl (op_callRow (L := 2) (C := 3) (own := false) (fs := []) (caps := []) (extra := []) (ltN rfl) en_113 rfl ⟨rfl, rfl, rfl⟩ EvL.nil (by decide) (fun mm aa ww gg hr hrel => (c113 ww))),
    ok_plain rfl rfl (op_lenO (n := 6) (ltN rfl) (by rw [ss_171]; rfl) rfl),
    ok_plain rfl rfl (op_move (ltN rfl) rfl),
    trivial⟩ ?_
  refine fin_keep (s' := [(.t 1, some (.x (.p 1 0))), (.t 5, some (.x (.o 2 3 6))), (.t 6, some (.x (.v (.int .i64 6)))), (.t 7, some (.x (.v (.int .i64 0)))), (.b 1, some (.sh 25 11)), (.r 2, some (.vec false 3 174 2 ([(.func (.func 138) #[] #[]), (.int .i64 41), (.func (.func 139) #[] #[]), (.int .i64 40), (.func (.func 140) #[] #[]), (.int .i64 40), (.func (.func 141) #[] #[]), (.int .i64 40), (.func (.func 143) #[] #[]), (.int .i64 40), (.func (.func 144) #[] #[]), (.int .i64 40)]))), (.c 1 0, some (.x (.v (.int .i64 s.Class)))), (.c 1 1, some (.x (.v (.int .i64 s.Power)))), (.c 1 2, some (.x (.v (.int .i64 s.Draught)))), (.c 1 3, some (.x (.v (.int .i64 s.Tonnes)))), (.c 1 4, some (.x (.v (.slice s_Thrust_p s.Thrust.length s_Thrust_c)))), (.c 1 5, some (.x (.v (.slice s_Water_p s.Water.length s_Water_c)))), (.c 1 6, some (.x (.v (.slice s_Ice_p s.Ice.length s_Ice_c)))), (.c 1 7, some (.x (.v (.int .i64 s.Slow)))), (.c 1 8, some (.x (.v (.int .i64 s.Brash)))), (.c 1 9, some (.x (.v (.int .i64 s.Ridge)))), (.c 1 10, some (.x (.v (.int .i64 s.Press))))]) ?_ ⟨rfl, rfl, rfl, rfl, rfl, rfl, rfl, rfl, rfl, rfl, rfl, rfl, rfl, rfl, rfl, rfl, rfl, trivial⟩ rfl
  refine fin_then ?_
  refine aw_block ?_
  refine aw_rounds 6 ?_
  refine aw_seq ?_
  refine aw_text (rows := [_]) rfl (by kernel_rfl) ⟨
    ok_plain rfl rfl (op_bin (r := .bool true) (ltN rfl) rfl rfl rfl),
    trivial⟩ ?_
  refine fin_keep (s' := [(.t 1, some (.x (.p 1 0))), (.t 5, some (.x (.o 2 3 6))), (.t 6, some (.x (.v (.int .i64 6)))), (.t 7, some (.x (.v (.int .i64 0)))), (.t 8, some (.x (.v (.bool true)))), (.b 1, some (.sh 25 11)), (.r 2, some (.vec false 3 174 2 ([(.func (.func 138) #[] #[]), (.int .i64 41), (.func (.func 139) #[] #[]), (.int .i64 40), (.func (.func 140) #[] #[]), (.int .i64 40), (.func (.func 141) #[] #[]), (.int .i64 40), (.func (.func 143) #[] #[]), (.int .i64 40), (.func (.func 144) #[] #[]), (.int .i64 40)]))), (.c 1 0, some (.x (.v (.int .i64 s.Class)))), (.c 1 1, some (.x (.v (.int .i64 s.Power)))), (.c 1 2, some (.x (.v (.int .i64 s.Draught)))), (.c 1 3, some (.x (.v (.int .i64 s.Tonnes)))), (.c 1 4, some (.x (.v (.slice s_Thrust_p s.Thrust.length s_Thrust_c)))), (.c 1 5, some (.x (.v (.slice s_Water_p s.Water.length s_Water_c)))), (.c 1 6, some (.x (.v (.slice s_Ice_p s.Ice.length s_Ice_c)))), (.c 1 7, some (.x (.v (.int .i64 s.Slow)))), (.c 1 8, some (.x (.v (.int .i64 s.Brash)))), (.c 1 9, some (.x (.v (.int .i64 s.Ridge)))), (.c 1 10, some (.x (.v (.int .i64 s.Press))))]) ?_ ⟨rfl, rfl, rfl, rfl, rfl, rfl, rfl, rfl, rfl, rfl, rfl, rfl, rfl, rfl, rfl, rfl, rfl, rfl, trivial⟩ rfl
  refine fin_then ?_
  refine aw_seq ?_
  refine aw_cond rfl (fun hz1 => ?_) (fun hz1 => by cases hz1)
  refine aw_skip ?_
  refine fin_then ?_
  refine aw_seq ?_
  refine aw_block ?_
  refine aw_seq ?_
  refine aw_text (rows := [_, _, _, _]) rfl (by kernel_rfl) ⟨
    ok_plain rfl rfl (op_ixO (ltN rfl) rfl rfl ss_171 rfl (by simp) (by omega) (by omega)),
    ok_plain rfl rfl (op_loadON (vs := [(.func (.func 138) #[] #[]), (.int .i64 41)]) (ltN rfl) sh_174 rfl rfl rfl (fun zq zv zh => sub_get (n := 0) (vs := [(.func (.func 138) #[] #[]), (.int .i64 41)]) rfl zh)),
    ok_plain rfl rfl (op_alloc (L := 4) (ltN rfl) zl_174),
    ok_plain rfl rfl (op_storeN sz_174 rfl rfl rfl rfl rfl (by decide)),
    trivial⟩ ?_
  refine fin_keep (s' := [(.t 1, some (.x (.p 1 0))), (.t 4, some (.x (.p 4 0))), (.t 5, some (.x (.o 2 3 6))), (.t 6, some (.x (.v (.int .i64 6)))), (.t 7, some (.x (.v (.int .i64 0)))), (.b 1, some (.sh 25 11)), (.b 4, some (.sh 174 2)), (.r 2, some (.vec false 3 174 2 ([(.func (.func 138) #[] #[]), (.int .i64 41), (.func (.func 139) #[] #[]), (.int .i64 40), (.func (.func 140) #[] #[]), (.int .i64 40), (.func (.func 141) #[] #[]), (.int .i64 40), (.func (.func 143) #[] #[]), (.int .i64 40), (.func (.func 144) #[] #[]), (.int .i64 40)]))), (.c 1 0, some (.x (.v (.int .i64 s.Class)))), (.c 1 1, some (.x (.v (.int .i64 s.Power)))), (.c 1 2, some (.x (.v (.int .i64 s.Draught)))), (.c 1 3, some (.x (.v (.int .i64 s.Tonnes)))), (.c 1 4, some (.x (.v (.slice s_Thrust_p s.Thrust.length s_Thrust_c)))), (.c 1 5, some (.x (.v (.slice s_Water_p s.Water.length s_Water_c)))), (.c 1 6, some (.x (.v (.slice s_Ice_p s.Ice.length s_Ice_c)))), (.c 1 7, some (.x (.v (.int .i64 s.Slow)))), (.c 1 8, some (.x (.v (.int .i64 s.Brash)))), (.c 1 9, some (.x (.v (.int .i64 s.Ridge)))), (.c 1 10, some (.x (.v (.int .i64 s.Press)))), (.c 4 0, some (.x (.v (.func (.func 138) #[] #[])))), (.c 4 1, some (.x (.v (.int .i64 41))))]) ?_ ⟨rfl, rfl, rfl, rfl, rfl, rfl, rfl, rfl, rfl, rfl, rfl, rfl, rfl, rfl, rfl, rfl, rfl, rfl, rfl, rfl, rfl, trivial⟩ rfl
  refine fin_then ?_
  refine aw_seq ?_
  refine aw_text (rows := [_, _, _, _, _]) rfl (by kernel_rfl) ⟨
    ok_plain rfl rfl (op_fieldAddr (ltN rfl) rfl fo_174_0),
    ok_plain rfl rfl (op_load1 (ltN rfl) sh_57 rfl rfl),
    ok_plain rfl rfl (op_loadN (ys := [.v (.int .i64 s.Class), .v (.int .i64 s.Power), .v (.int .i64 s.Draught), .v (.int .i64 s.Tonnes), .v (.slice s_Thrust_p s.Thrust.length s_Thrust_c), .v (.slice s_Water_p s.Water.length s_Water_c), .v (.slice s_Ice_p s.Ice.length s_Ice_c), .v (.int .i64 s.Slow), .v (.int .i64 s.Brash), .v (.int .i64 s.Ridge), .v (.int .i64 s.Press)]) (ltN rfl) sh_25 rfl rfl ⟨rfl, rfl, rfl, rfl, rfl, rfl, rfl, rfl, rfl, rfl, rfl, trivial⟩),
    ok_plain rfl rfl (op_call (x := .v (.bool (rule1 s))) (fs := []) (caps := []) (extra := []) (ltN rfl) en_138 rfl ⟨rfl, rfl, rfl⟩ (EvL.cons rfl EvL.nil) (fun mm aa ww gg hr hrel => (c138 s ⟨s_Thrust_p, s.Thrust.length, s_Thrust_c⟩ ⟨s_Water_p, s.Water.length, s_Water_c⟩ ⟨s_Ice_p, s.Ice.length, s_Ice_c⟩ ww (SlIs.mono hs_Thrust hrel.below) (SlIs.mono hs_Water hrel.below) (SlIs.mono hs_Ice hrel.below)))),
    ok_plain rfl rfl (op_not (ltN rfl) rfl),
    trivial⟩ ?_
  refine fin_keep (s' := [(.t 1, some (.x (.p 1 0))), (.t 4, some (.x (.p 4 0))), (.t 5, some (.x (.o 2 3 6))), (.t 6, some (.x (.v (.int .i64 6)))), (.t 7, some (.x (.v (.int .i64 0)))), (.t 15, some (.x (.v (.bool (!(rule1 s)))))), (.b 1, some (.sh 25 11)), (.b 4, some (.sh 174 2)), (.r 2, some (.vec false 3 174 2 ([(.func (.func 138) #[] #[]), (.int .i64 41), (.func (.func 139) #[] #[]), (.int .i64 40), (.func (.func 140) #[] #[]), (.int .i64 40), (.func (.func 141) #[] #[]), (.int .i64 40), (.func (.func 143) #[] #[]), (.int .i64 40), (.func (.func 144) #[] #[]), (.int .i64 40)]))), (.c 1 0, some (.x (.v (.int .i64 s.Class)))), (.c 1 1, some (.x (.v (.int .i64 s.Power)))), (.c 1 2, some (.x (.v (.int .i64 s.Draught)))), (.c 1 3, some (.x (.v (.int .i64 s.Tonnes)))), (.c 1 4, some (.x (.v (.slice s_Thrust_p s.Thrust.length s_Thrust_c)))), (.c 1 5, some (.x (.v (.slice s_Water_p s.Water.length s_Water_c)))), (.c 1 6, some (.x (.v (.slice s_Ice_p s.Ice.length s_Ice_c)))), (.c 1 7, some (.x (.v (.int .i64 s.Slow)))), (.c 1 8, some (.x (.v (.int .i64 s.Brash)))), (.c 1 9, some (.x (.v (.int .i64 s.Ridge)))), (.c 1 10, some (.x (.v (.int .i64 s.Press)))), (.c 4 0, some (.x (.v (.func (.func 138) #[] #[])))), (.c 4 1, some (.x (.v (.int .i64 41))))]) ?_ ⟨rfl, rfl, rfl, rfl, rfl, rfl, rfl, rfl, rfl, rfl, rfl, rfl, rfl, rfl, rfl, rfl, rfl, rfl, rfl, rfl, rfl, rfl, trivial⟩ rfl
  refine fin_then ?_
  refine aw_cond rfl (fun hz2 => ?_) (fun hz2 => ?_)
  · have _z := hz2
    have q3 := not_t hz2
    refine aw_seq ?_
    refine aw_text (rows := [_, _, _]) rfl (by kernel_rfl) ⟨
      ok_plain rfl rfl (op_fieldAddr (ltN rfl) rfl fo_174_1),
      ok_plain rfl rfl (op_load1 (ltN rfl) sh_36 rfl rfl),
      ok_plain rfl rfl (op_assign (ltN rfl) rfl),
      trivial⟩ ?_
    refine fin_keep (s' := [(.t 2, some (.x (.v (.int .i64 41))))]) ?_ ⟨rfl, trivial⟩ rfl
    refine fin_then ?_
    refine aw_ret ?_
    refine fin_block_ret ?_
    refine fin_then_ret ?_
    refine fin_then_ret ?_
    refine fin_block_ret ?_
    refine fin_then_ret ?_
    refine post_ret (x := .v (.int .i64 41)) rfl rfl (resOK_tmp rfl resOK_nil) rfl (fun mm aa ww hr => ?_)
    show Ending.returned (.int .i64 41) = _ ∧ _
    exact ⟨by clear hr; simp_all [check], hr.below⟩
  · have _z := hz2
    have q4 := not_f hz2
    refine aw_skip ?_
    refine fin_block ?_
    refine fin_then ?_
    refine aw_text (rows := [_, _]) rfl (by kernel_rfl) ⟨
      ok_plain rfl rfl (op_bin (r := .int .i64 1) (ltN rfl) rfl rfl rfl),
      ok_plain rfl rfl (op_move (ltN rfl) rfl),
      trivial⟩ ?_
    refine fin_keep (s' := [(.t 1, some (.x (.p 1 0))), (.t 5, some (.x (.o 2 3 6))), (.t 6, some (.x (.v (.int .i64 6)))), (.t 7, some (.x (.v (.int .i64 1)))), (.b 1, some (.sh 25 11)), (.r 2, some (.vec false 3 174 2 ([(.func (.func 138) #[] #[]), (.int .i64 41), (.func (.func 139) #[] #[]), (.int .i64 40), (.func (.func 140) #[] #[]), (.int .i64 40), (.func (.func 141) #[] #[]), (.int .i64 40), (.func (.func 143) #[] #[]), (.int .i64 40), (.func (.func 144) #[] #[]), (.int .i64 40)]))), (.c 1 0, some (.x (.v (.int .i64 s.Class)))), (.c 1 1, some (.x (.v (.int .i64 s.Power)))), (.c 1 2, some (.x (.v (.int .i64 s.Draught)))), (.c 1 3, some (.x (.v (.int .i64 s.Tonnes)))), (.c 1 4, some (.x (.v (.slice s_Thrust_p s.Thrust.length s_Thrust_c)))), (.c 1 5, some (.x (.v (.slice s_Water_p s.Water.length s_Water_c)))), (.c 1 6, some (.x (.v (.slice s_Ice_p s.Ice.length s_Ice_c)))), (.c 1 7, some (.x (.v (.int .i64 s.Slow)))), (.c 1 8, some (.x (.v (.int .i64 s.Brash)))), (.c 1 9, some (.x (.v (.int .i64 s.Ridge)))), (.c 1 10, some (.x (.v (.int .i64 s.Press))))]) ?_ ⟨rfl, rfl, rfl, rfl, rfl, rfl, rfl, rfl, rfl, rfl, rfl, rfl, rfl, rfl, rfl, rfl, rfl, trivial⟩ rfl
    refine fin_round ?_
    refine aw_seq ?_
    refine aw_text (rows := [_]) rfl (by kernel_rfl) ⟨
      ok_plain rfl rfl (op_bin (r := .bool true) (ltN rfl) rfl rfl rfl),
      trivial⟩ ?_
    refine fin_keep (s' := [(.t 1, some (.x (.p 1 0))), (.t 5, some (.x (.o 2 3 6))), (.t 6, some (.x (.v (.int .i64 6)))), (.t 7, some (.x (.v (.int .i64 1)))), (.t 8, some (.x (.v (.bool true)))), (.b 1, some (.sh 25 11)), (.r 2, some (.vec false 3 174 2 ([(.func (.func 138) #[] #[]), (.int .i64 41), (.func (.func 139) #[] #[]), (.int .i64 40), (.func (.func 140) #[] #[]), (.int .i64 40), (.func (.func 141) #[] #[]), (.int .i64 40), (.func (.func 143) #[] #[]), (.int .i64 40), (.func (.func 144) #[] #[]), (.int .i64 40)]))), (.c 1 0, some (.x (.v (.int .i64 s.Class)))), (.c 1 1, some (.x (.v (.int .i64 s.Power)))), (.c 1 2, some (.x (.v (.int .i64 s.Draught)))), (.c 1 3, some (.x (.v (.int .i64 s.Tonnes)))), (.c 1 4, some (.x (.v (.slice s_Thrust_p s.Thrust.length s_Thrust_c)))), (.c 1 5, some (.x (.v (.slice s_Water_p s.Water.length s_Water_c)))), (.c 1 6, some (.x (.v (.slice s_Ice_p s.Ice.length s_Ice_c)))), (.c 1 7, some (.x (.v (.int .i64 s.Slow)))), (.c 1 8, some (.x (.v (.int .i64 s.Brash)))), (.c 1 9, some (.x (.v (.int .i64 s.Ridge)))), (.c 1 10, some (.x (.v (.int .i64 s.Press))))]) ?_ ⟨rfl, rfl, rfl, rfl, rfl, rfl, rfl, rfl, rfl, rfl, rfl, rfl, rfl, rfl, rfl, rfl, rfl, rfl, trivial⟩ rfl
    refine fin_then ?_
    refine aw_seq ?_
    refine aw_cond rfl (fun hz5 => ?_) (fun hz5 => by cases hz5)
    refine aw_skip ?_
    refine fin_then ?_
    refine aw_seq ?_
    refine aw_block ?_
    refine aw_seq ?_
    refine aw_text (rows := [_, _, _, _]) rfl (by kernel_rfl) ⟨
      ok_plain rfl rfl (op_ixO (ltN rfl) rfl rfl ss_171 rfl (by simp) (by omega) (by omega)),
      ok_plain rfl rfl (op_loadON (vs := [(.func (.func 139) #[] #[]), (.int .i64 40)]) (ltN rfl) sh_174 rfl rfl rfl (fun zq zv zh => sub_get (n := 2) (vs := [(.func (.func 139) #[] #[]), (.int .i64 40)]) rfl zh)),
      ok_plain rfl rfl (op_alloc (L := 5) (ltN rfl) zl_174),
      ok_plain rfl rfl (op_storeN sz_174 rfl rfl rfl rfl rfl (by decide)),
      trivial⟩ ?_
    refine fin_keep (s' := [(.t 1, some (.x (.p 1 0))), (.t 4, some (.x (.p 5 0))), (.t 5, some (.x (.o 2 3 6))), (.t 6, some (.x (.v (.int .i64 6)))), (.t 7, some (.x (.v (.int .i64 1)))), (.b 1, some (.sh 25 11)), (.b 5, some (.sh 174 2)), (.r 2, some (.vec false 3 174 2 ([(.func (.func 138) #[] #[]), (.int .i64 41), (.func (.func 139) #[] #[]), (.int .i64 40), (.func (.func 140) #[] #[]), (.int .i64 40), (.func (.func 141) #[] #[]), (.int .i64 40), (.func (.func 143) #[] #[]), (.int .i64 40), (.func (.func 144) #[] #[]), (.int .i64 40)]))), (.c 1 0, some (.x (.v (.int .i64 s.Class)))), (.c 1 1, some (.x (.v (.int .i64 s.Power)))), (.c 1 2, some (.x (.v (.int .i64 s.Draught)))), (.c 1 3, some (.x (.v (.int .i64 s.Tonnes)))), (.c 1 4, some (.x (.v (.slice s_Thrust_p s.Thrust.length s_Thrust_c)))), (.c 1 5, some (.x (.v (.slice s_Water_p s.Water.length s_Water_c)))), (.c 1 6, some (.x (.v (.slice s_Ice_p s.Ice.length s_Ice_c)))), (.c 1 7, some (.x (.v (.int .i64 s.Slow)))), (.c 1 8, some (.x (.v (.int .i64 s.Brash)))), (.c 1 9, some (.x (.v (.int .i64 s.Ridge)))), (.c 1 10, some (.x (.v (.int .i64 s.Press)))), (.c 5 0, some (.x (.v (.func (.func 139) #[] #[])))), (.c 5 1, some (.x (.v (.int .i64 40))))]) ?_ ⟨rfl, rfl, rfl, rfl, rfl, rfl, rfl, rfl, rfl, rfl, rfl, rfl, rfl, rfl, rfl, rfl, rfl, rfl, rfl, rfl, rfl, trivial⟩ rfl
    refine fin_then ?_
    refine aw_seq ?_
    refine aw_text (rows := [_, _, _, _, _]) rfl (by kernel_rfl) ⟨
      ok_plain rfl rfl (op_fieldAddr (ltN rfl) rfl fo_174_0),
      ok_plain rfl rfl (op_load1 (ltN rfl) sh_57 rfl rfl),
      ok_plain rfl rfl (op_loadN (ys := [.v (.int .i64 s.Class), .v (.int .i64 s.Power), .v (.int .i64 s.Draught), .v (.int .i64 s.Tonnes), .v (.slice s_Thrust_p s.Thrust.length s_Thrust_c), .v (.slice s_Water_p s.Water.length s_Water_c), .v (.slice s_Ice_p s.Ice.length s_Ice_c), .v (.int .i64 s.Slow), .v (.int .i64 s.Brash), .v (.int .i64 s.Ridge), .v (.int .i64 s.Press)]) (ltN rfl) sh_25 rfl rfl ⟨rfl, rfl, rfl, rfl, rfl, rfl, rfl, rfl, rfl, rfl, rfl, trivial⟩),
      ok_plain rfl rfl (op_call (x := .v (.bool (rule2 s))) (fs := []) (caps := []) (extra := []) (ltN rfl) en_139 rfl ⟨rfl, rfl, rfl⟩ (EvL.cons rfl EvL.nil) (fun mm aa ww gg hr hrel => (c139 s ⟨s_Thrust_p, s.Thrust.length, s_Thrust_c⟩ ⟨s_Water_p, s.Water.length, s_Water_c⟩ ⟨s_Ice_p, s.Ice.length, s_Ice_c⟩ ww (SlIs.mono hs_Thrust hrel.below) (SlIs.mono hs_Water hrel.below) (SlIs.mono hs_Ice hrel.below)))),
      ok_plain rfl rfl (op_not (ltN rfl) rfl),
      trivial⟩ ?_
    refine fin_keep (s' := [(.t 1, some (.x (.p 1 0))), (.t 4, some (.x (.p 5 0))), (.t 5, some (.x (.o 2 3 6))), (.t 6, some (.x (.v (.int .i64 6)))), (.t 7, some (.x (.v (.int .i64 1)))), (.t 15, some (.x (.v (.bool (!(rule2 s)))))), (.b 1, some (.sh 25 11)), (.b 5, some (.sh 174 2)), (.r 2, some (.vec false 3 174 2 ([(.func (.func 138) #[] #[]), (.int .i64 41), (.func (.func 139) #[] #[]), (.int .i64 40), (.func (.func 140) #[] #[]), (.int .i64 40), (.func (.func 141) #[] #[]), (.int .i64 40), (.func (.func 143) #[] #[]), (.int .i64 40), (.func (.func 144) #[] #[]), (.int .i64 40)]))), (.c 1 0, some (.x (.v (.int .i64 s.Class)))), (.c 1 1, some (.x (.v (.int .i64 s.Power)))), (.c 1 2, some (.x (.v (.int .i64 s.Draught)))), (.c 1 3, some (.x (.v (.int .i64 s.Tonnes)))), (.c 1 4, some (.x (.v (.slice s_Thrust_p s.Thrust.length s_Thrust_c)))), (.c 1 5, some (.x (.v (.slice s_Water_p s.Water.length s_Water_c)))), (.c 1 6, some (.x (.v (.slice s_Ice_p s.Ice.length s_Ice_c)))), (.c 1 7, some (.x (.v (.int .i64 s.Slow)))), (.c 1 8, some (.x (.v (.int .i64 s.Brash)))), (.c 1 9, some (.x (.v (.int .i64 s.Ridge)))), (.c 1 10, some (.x (.v (.int .i64 s.Press)))), (.c 5 0, some (.x (.v (.func (.func 139) #[] #[])))), (.c 5 1, some (.x (.v (.int .i64 40))))]) ?_ ⟨rfl, rfl, rfl, rfl, rfl, rfl, rfl, rfl, rfl, rfl, rfl, rfl, rfl, rfl, rfl, rfl, rfl, rfl, rfl, rfl, rfl, rfl, trivial⟩ rfl
    refine fin_then ?_
    refine aw_cond rfl (fun hz6 => ?_) (fun hz6 => ?_)
    · have _z := hz6
      have q7 := not_t hz6
      refine aw_seq ?_
      refine aw_text (rows := [_, _, _]) rfl (by kernel_rfl) ⟨
        ok_plain rfl rfl (op_fieldAddr (ltN rfl) rfl fo_174_1),
        ok_plain rfl rfl (op_load1 (ltN rfl) sh_36 rfl rfl),
        ok_plain rfl rfl (op_assign (ltN rfl) rfl),
        trivial⟩ ?_
      refine fin_keep (s' := [(.t 2, some (.x (.v (.int .i64 40))))]) ?_ ⟨rfl, trivial⟩ rfl
      refine fin_then ?_
      refine aw_ret ?_
      refine fin_block_ret ?_
      refine fin_then_ret ?_
      refine fin_then_ret ?_
      refine fin_block_ret ?_
      refine fin_then_ret ?_
      refine post_ret (x := .v (.int .i64 40)) rfl rfl (resOK_tmp rfl resOK_nil) rfl (fun mm aa ww hr => ?_)
      show Ending.returned (.int .i64 40) = _ ∧ _
      exact ⟨by clear hr; simp_all [check], hr.below⟩
    · have _z := hz6
      have q8 := not_f hz6
      refine aw_skip ?_
      refine fin_block ?_
      refine fin_then ?_
      refine aw_text (rows := [_, _]) rfl (by kernel_rfl) ⟨
        ok_plain rfl rfl (op_bin (r := .int .i64 2) (ltN rfl) rfl rfl rfl),
        ok_plain rfl rfl (op_move (ltN rfl) rfl),
        trivial⟩ ?_
      refine fin_keep (s' := [(.t 1, some (.x (.p 1 0))), (.t 5, some (.x (.o 2 3 6))), (.t 6, some (.x (.v (.int .i64 6)))), (.t 7, some (.x (.v (.int .i64 2)))), (.b 1, some (.sh 25 11)), (.r 2, some (.vec false 3 174 2 ([(.func (.func 138) #[] #[]), (.int .i64 41), (.func (.func 139) #[] #[]), (.int .i64 40), (.func (.func 140) #[] #[]), (.int .i64 40), (.func (.func 141) #[] #[]), (.int .i64 40), (.func (.func 143) #[] #[]), (.int .i64 40), (.func (.func 144) #[] #[]), (.int .i64 40)]))), (.c 1 0, some (.x (.v (.int .i64 s.Class)))), (.c 1 1, some (.x (.v (.int .i64 s.Power)))), (.c 1 2, some (.x (.v (.int .i64 s.Draught)))), (.c 1 3, some (.x (.v (.int .i64 s.Tonnes)))), (.c 1 4, some (.x (.v (.slice s_Thrust_p s.Thrust.length s_Thrust_c)))), (.c 1 5, some (.x (.v (.slice s_Water_p s.Water.length s_Water_c)))), (.c 1 6, some (.x (.v (.slice s_Ice_p s.Ice.length s_Ice_c)))), (.c 1 7, some (.x (.v (.int .i64 s.Slow)))), (.c 1 8, some (.x (.v (.int .i64 s.Brash)))), (.c 1 9, some (.x (.v (.int .i64 s.Ridge)))), (.c 1 10, some (.x (.v (.int .i64 s.Press))))]) ?_ ⟨rfl, rfl, rfl, rfl, rfl, rfl, rfl, rfl, rfl, rfl, rfl, rfl, rfl, rfl, rfl, rfl, rfl, trivial⟩ rfl
      refine fin_round ?_
      refine aw_seq ?_
      refine aw_text (rows := [_]) rfl (by kernel_rfl) ⟨
        ok_plain rfl rfl (op_bin (r := .bool true) (ltN rfl) rfl rfl rfl),
        trivial⟩ ?_
      refine fin_keep (s' := [(.t 1, some (.x (.p 1 0))), (.t 5, some (.x (.o 2 3 6))), (.t 6, some (.x (.v (.int .i64 6)))), (.t 7, some (.x (.v (.int .i64 2)))), (.t 8, some (.x (.v (.bool true)))), (.b 1, some (.sh 25 11)), (.r 2, some (.vec false 3 174 2 ([(.func (.func 138) #[] #[]), (.int .i64 41), (.func (.func 139) #[] #[]), (.int .i64 40), (.func (.func 140) #[] #[]), (.int .i64 40), (.func (.func 141) #[] #[]), (.int .i64 40), (.func (.func 143) #[] #[]), (.int .i64 40), (.func (.func 144) #[] #[]), (.int .i64 40)]))), (.c 1 0, some (.x (.v (.int .i64 s.Class)))), (.c 1 1, some (.x (.v (.int .i64 s.Power)))), (.c 1 2, some (.x (.v (.int .i64 s.Draught)))), (.c 1 3, some (.x (.v (.int .i64 s.Tonnes)))), (.c 1 4, some (.x (.v (.slice s_Thrust_p s.Thrust.length s_Thrust_c)))), (.c 1 5, some (.x (.v (.slice s_Water_p s.Water.length s_Water_c)))), (.c 1 6, some (.x (.v (.slice s_Ice_p s.Ice.length s_Ice_c)))), (.c 1 7, some (.x (.v (.int .i64 s.Slow)))), (.c 1 8, some (.x (.v (.int .i64 s.Brash)))), (.c 1 9, some (.x (.v (.int .i64 s.Ridge)))), (.c 1 10, some (.x (.v (.int .i64 s.Press))))]) ?_ ⟨rfl, rfl, rfl, rfl, rfl, rfl, rfl, rfl, rfl, rfl, rfl, rfl, rfl, rfl, rfl, rfl, rfl, rfl, trivial⟩ rfl
      refine fin_then ?_
      refine aw_seq ?_
      refine aw_cond rfl (fun hz9 => ?_) (fun hz9 => by cases hz9)
      refine aw_skip ?_
      refine fin_then ?_
      refine aw_seq ?_
      refine aw_block ?_
      refine aw_seq ?_
      refine aw_text (rows := [_, _, _, _]) rfl (by kernel_rfl) ⟨
        ok_plain rfl rfl (op_ixO (ltN rfl) rfl rfl ss_171 rfl (by simp) (by omega) (by omega)),
        ok_plain rfl rfl (op_loadON (vs := [(.func (.func 140) #[] #[]), (.int .i64 40)]) (ltN rfl) sh_174 rfl rfl rfl (fun zq zv zh => sub_get (n := 4) (vs := [(.func (.func 140) #[] #[]), (.int .i64 40)]) rfl zh)),
        ok_plain rfl rfl (op_alloc (L := 6) (ltN rfl) zl_174),
        ok_plain rfl rfl (op_storeN sz_174 rfl rfl rfl rfl rfl (by decide)),
        trivial⟩ ?_
      refine fin_keep (s' := [(.t 1, some (.x (.p 1 0))), (.t 4, some (.x (.p 6 0))), (.t 5, some (.x (.o 2 3 6))), (.t 6, some (.x (.v (.int .i64 6)))), (.t 7, some (.x (.v (.int .i64 2)))), (.b 1, some (.sh 25 11)), (.b 6, some (.sh 174 2)), (.r 2, some (.vec false 3 174 2 ([(.func (.func 138) #[] #[]), (.int .i64 41), (.func (.func 139) #[] #[]), (.int .i64 40), (.func (.func 140) #[] #[]), (.int .i64 40), (.func (.func 141) #[] #[]), (.int .i64 40), (.func (.func 143) #[] #[]), (.int .i64 40), (.func (.func 144) #[] #[]), (.int .i64 40)]))), (.c 1 0, some (.x (.v (.int .i64 s.Class)))), (.c 1 1, some (.x (.v (.int .i64 s.Power)))), (.c 1 2, some (.x (.v (.int .i64 s.Draught)))), (.c 1 3, some (.x (.v (.int .i64 s.Tonnes)))), (.c 1 4, some (.x (.v (.slice s_Thrust_p s.Thrust.length s_Thrust_c)))), (.c 1 5, some (.x (.v (.slice s_Water_p s.Water.length s_Water_c)))), (.c 1 6, some (.x (.v (.slice s_Ice_p s.Ice.length s_Ice_c)))), (.c 1 7, some (.x (.v (.int .i64 s.Slow)))), (.c 1 8, some (.x (.v (.int .i64 s.Brash)))), (.c 1 9, some (.x (.v (.int .i64 s.Ridge)))), (.c 1 10, some (.x (.v (.int .i64 s.Press)))), (.c 6 0, some (.x (.v (.func (.func 140) #[] #[])))), (.c 6 1, some (.x (.v (.int .i64 40))))]) ?_ ⟨rfl, rfl, rfl, rfl, rfl, rfl, rfl, rfl, rfl, rfl, rfl, rfl, rfl, rfl, rfl, rfl, rfl, rfl, rfl, rfl, rfl, trivial⟩ rfl
      refine fin_then ?_
      refine aw_seq ?_
      refine aw_text (rows := [_, _, _, _, _]) rfl (by kernel_rfl) ⟨
        ok_plain rfl rfl (op_fieldAddr (ltN rfl) rfl fo_174_0),
        ok_plain rfl rfl (op_load1 (ltN rfl) sh_57 rfl rfl),
        ok_plain rfl rfl (op_loadN (ys := [.v (.int .i64 s.Class), .v (.int .i64 s.Power), .v (.int .i64 s.Draught), .v (.int .i64 s.Tonnes), .v (.slice s_Thrust_p s.Thrust.length s_Thrust_c), .v (.slice s_Water_p s.Water.length s_Water_c), .v (.slice s_Ice_p s.Ice.length s_Ice_c), .v (.int .i64 s.Slow), .v (.int .i64 s.Brash), .v (.int .i64 s.Ridge), .v (.int .i64 s.Press)]) (ltN rfl) sh_25 rfl rfl ⟨rfl, rfl, rfl, rfl, rfl, rfl, rfl, rfl, rfl, rfl, rfl, trivial⟩),
        ok_plain rfl rfl (op_call (x := .v (.bool (rule3 s))) (fs := []) (caps := []) (extra := []) (ltN rfl) en_140 rfl ⟨rfl, rfl, rfl⟩ (EvL.cons rfl EvL.nil) (fun mm aa ww gg hr hrel => (c140 s ⟨s_Thrust_p, s.Thrust.length, s_Thrust_c⟩ ⟨s_Water_p, s.Water.length, s_Water_c⟩ ⟨s_Ice_p, s.Ice.length, s_Ice_c⟩ ww (SlIs.mono hs_Thrust hrel.below) (SlIs.mono hs_Water hrel.below) (SlIs.mono hs_Ice hrel.below)))),
        ok_plain rfl rfl (op_not (ltN rfl) rfl),
        trivial⟩ ?_
      refine fin_keep (s' := [(.t 1, some (.x (.p 1 0))), (.t 4, some (.x (.p 6 0))), (.t 5, some (.x (.o 2 3 6))), (.t 6, some (.x (.v (.int .i64 6)))), (.t 7, some (.x (.v (.int .i64 2)))), (.t 15, some (.x (.v (.bool (!(rule3 s)))))), (.b 1, some (.sh 25 11)), (.b 6, some (.sh 174 2)), (.r 2, some (.vec false 3 174 2 ([(.func (.func 138) #[] #[]), (.int .i64 41), (.func (.func 139) #[] #[]), (.int .i64 40), (.func (.func 140) #[] #[]), (.int .i64 40), (.func (.func 141) #[] #[]), (.int .i64 40), (.func (.func 143) #[] #[]), (.int .i64 40), (.func (.func 144) #[] #[]), (.int .i64 40)]))), (.c 1 0, some (.x (.v (.int .i64 s.Class)))), (.c 1 1, some (.x (.v (.int .i64 s.Power)))), (.c 1 2, some (.x (.v (.int .i64 s.Draught)))), (.c 1 3, some (.x (.v (.int .i64 s.Tonnes)))), (.c 1 4, some (.x (.v (.slice s_Thrust_p s.Thrust.length s_Thrust_c)))), (.c 1 5, some (.x (.v (.slice s_Water_p s.Water.length s_Water_c)))), (.c 1 6, some (.x (.v (.slice s_Ice_p s.Ice.length s_Ice_c)))), (.c 1 7, some (.x (.v (.int .i64 s.Slow)))), (.c 1 8, some (.x (.v (.int .i64 s.Brash)))), (.c 1 9, some (.x (.v (.int .i64 s.Ridge)))), (.c 1 10, some (.x (.v (.int .i64 s.Press)))), (.c 6 0, some (.x (.v (.func (.func 140) #[] #[])))), (.c 6 1, some (.x (.v (.int .i64 40))))]) ?_ ⟨rfl, rfl, rfl, rfl, rfl, rfl, rfl, rfl, rfl, rfl, rfl, rfl, rfl, rfl, rfl, rfl, rfl, rfl, rfl, rfl, rfl, rfl, trivial⟩ rfl
      refine fin_then ?_
      refine aw_cond rfl (fun hz10 => ?_) (fun hz10 => ?_)
      · have _z := hz10
        have q11 := not_t hz10
        refine aw_seq ?_
        refine aw_text (rows := [_, _, _]) rfl (by kernel_rfl) ⟨
          ok_plain rfl rfl (op_fieldAddr (ltN rfl) rfl fo_174_1),
          ok_plain rfl rfl (op_load1 (ltN rfl) sh_36 rfl rfl),
          ok_plain rfl rfl (op_assign (ltN rfl) rfl),
          trivial⟩ ?_
        refine fin_keep (s' := [(.t 2, some (.x (.v (.int .i64 40))))]) ?_ ⟨rfl, trivial⟩ rfl
        refine fin_then ?_
        refine aw_ret ?_
        refine fin_block_ret ?_
        refine fin_then_ret ?_
        refine fin_then_ret ?_
        refine fin_block_ret ?_
        refine fin_then_ret ?_
        refine post_ret (x := .v (.int .i64 40)) rfl rfl (resOK_tmp rfl resOK_nil) rfl (fun mm aa ww hr => ?_)
        show Ending.returned (.int .i64 40) = _ ∧ _
        exact ⟨by clear hr; simp_all [check], hr.below⟩
      · have _z := hz10
        have q12 := not_f hz10
        refine aw_skip ?_
        refine fin_block ?_
        refine fin_then ?_
        refine aw_text (rows := [_, _]) rfl (by kernel_rfl) ⟨
          ok_plain rfl rfl (op_bin (r := .int .i64 3) (ltN rfl) rfl rfl rfl),
          ok_plain rfl rfl (op_move (ltN rfl) rfl),
          trivial⟩ ?_
        refine fin_keep (s' := [(.t 1, some (.x (.p 1 0))), (.t 5, some (.x (.o 2 3 6))), (.t 6, some (.x (.v (.int .i64 6)))), (.t 7, some (.x (.v (.int .i64 3)))), (.b 1, some (.sh 25 11)), (.r 2, some (.vec false 3 174 2 ([(.func (.func 138) #[] #[]), (.int .i64 41), (.func (.func 139) #[] #[]), (.int .i64 40), (.func (.func 140) #[] #[]), (.int .i64 40), (.func (.func 141) #[] #[]), (.int .i64 40), (.func (.func 143) #[] #[]), (.int .i64 40), (.func (.func 144) #[] #[]), (.int .i64 40)]))), (.c 1 0, some (.x (.v (.int .i64 s.Class)))), (.c 1 1, some (.x (.v (.int .i64 s.Power)))), (.c 1 2, some (.x (.v (.int .i64 s.Draught)))), (.c 1 3, some (.x (.v (.int .i64 s.Tonnes)))), (.c 1 4, some (.x (.v (.slice s_Thrust_p s.Thrust.length s_Thrust_c)))), (.c 1 5, some (.x (.v (.slice s_Water_p s.Water.length s_Water_c)))), (.c 1 6, some (.x (.v (.slice s_Ice_p s.Ice.length s_Ice_c)))), (.c 1 7, some (.x (.v (.int .i64 s.Slow)))), (.c 1 8, some (.x (.v (.int .i64 s.Brash)))), (.c 1 9, some (.x (.v (.int .i64 s.Ridge)))), (.c 1 10, some (.x (.v (.int .i64 s.Press))))]) ?_ ⟨rfl, rfl, rfl, rfl, rfl, rfl, rfl, rfl, rfl, rfl, rfl, rfl, rfl, rfl, rfl, rfl, rfl, trivial⟩ rfl
        refine fin_round ?_
        refine aw_seq ?_
        refine aw_text (rows := [_]) rfl (by kernel_rfl) ⟨
          ok_plain rfl rfl (op_bin (r := .bool true) (ltN rfl) rfl rfl rfl),
          trivial⟩ ?_
        refine fin_keep (s' := [(.t 1, some (.x (.p 1 0))), (.t 5, some (.x (.o 2 3 6))), (.t 6, some (.x (.v (.int .i64 6)))), (.t 7, some (.x (.v (.int .i64 3)))), (.t 8, some (.x (.v (.bool true)))), (.b 1, some (.sh 25 11)), (.r 2, some (.vec false 3 174 2 ([(.func (.func 138) #[] #[]), (.int .i64 41), (.func (.func 139) #[] #[]), (.int .i64 40), (.func (.func 140) #[] #[]), (.int .i64 40), (.func (.func 141) #[] #[]), (.int .i64 40), (.func (.func 143) #[] #[]), (.int .i64 40), (.func (.func 144) #[] #[]), (.int .i64 40)]))), (.c 1 0, some (.x (.v (.int .i64 s.Class)))), (.c 1 1, some (.x (.v (.int .i64 s.Power)))), (.c 1 2, some (.x (.v (.int .i64 s.Draught)))), (.c 1 3, some (.x (.v (.int .i64 s.Tonnes)))), (.c 1 4, some (.x (.v (.slice s_Thrust_p s.Thrust.length s_Thrust_c)))), (.c 1 5, some (.x (.v (.slice s_Water_p s.Water.length s_Water_c)))), (.c 1 6, some (.x (.v (.slice s_Ice_p s.Ice.length s_Ice_c)))), (.c 1 7, some (.x (.v (.int .i64 s.Slow)))), (.c 1 8, some (.x (.v (.int .i64 s.Brash)))), (.c 1 9, some (.x (.v (.int .i64 s.Ridge)))), (.c 1 10, some (.x (.v (.int .i64 s.Press))))]) ?_ ⟨rfl, rfl, rfl, rfl, rfl, rfl, rfl, rfl, rfl, rfl, rfl, rfl, rfl, rfl, rfl, rfl, rfl, rfl, trivial⟩ rfl
        refine fin_then ?_
        refine aw_seq ?_
        refine aw_cond rfl (fun hz13 => ?_) (fun hz13 => by cases hz13)
        refine aw_skip ?_
        refine fin_then ?_
        refine aw_seq ?_
        refine aw_block ?_
        refine aw_seq ?_
        refine aw_text (rows := [_, _, _, _]) rfl (by kernel_rfl) ⟨
          ok_plain rfl rfl (op_ixO (ltN rfl) rfl rfl ss_171 rfl (by simp) (by omega) (by omega)),
          ok_plain rfl rfl (op_loadON (vs := [(.func (.func 141) #[] #[]), (.int .i64 40)]) (ltN rfl) sh_174 rfl rfl rfl (fun zq zv zh => sub_get (n := 6) (vs := [(.func (.func 141) #[] #[]), (.int .i64 40)]) rfl zh)),
          ok_plain rfl rfl (op_alloc (L := 7) (ltN rfl) zl_174),
          ok_plain rfl rfl (op_storeN sz_174 rfl rfl rfl rfl rfl (by decide)),
          trivial⟩ ?_
        refine fin_keep (s' := [(.t 1, some (.x (.p 1 0))), (.t 4, some (.x (.p 7 0))), (.t 5, some (.x (.o 2 3 6))), (.t 6, some (.x (.v (.int .i64 6)))), (.t 7, some (.x (.v (.int .i64 3)))), (.b 1, some (.sh 25 11)), (.b 7, some (.sh 174 2)), (.r 2, some (.vec false 3 174 2 ([(.func (.func 138) #[] #[]), (.int .i64 41), (.func (.func 139) #[] #[]), (.int .i64 40), (.func (.func 140) #[] #[]), (.int .i64 40), (.func (.func 141) #[] #[]), (.int .i64 40), (.func (.func 143) #[] #[]), (.int .i64 40), (.func (.func 144) #[] #[]), (.int .i64 40)]))), (.c 1 0, some (.x (.v (.int .i64 s.Class)))), (.c 1 1, some (.x (.v (.int .i64 s.Power)))), (.c 1 2, some (.x (.v (.int .i64 s.Draught)))), (.c 1 3, some (.x (.v (.int .i64 s.Tonnes)))), (.c 1 4, some (.x (.v (.slice s_Thrust_p s.Thrust.length s_Thrust_c)))), (.c 1 5, some (.x (.v (.slice s_Water_p s.Water.length s_Water_c)))), (.c 1 6, some (.x (.v (.slice s_Ice_p s.Ice.length s_Ice_c)))), (.c 1 7, some (.x (.v (.int .i64 s.Slow)))), (.c 1 8, some (.x (.v (.int .i64 s.Brash)))), (.c 1 9, some (.x (.v (.int .i64 s.Ridge)))), (.c 1 10, some (.x (.v (.int .i64 s.Press)))), (.c 7 0, some (.x (.v (.func (.func 141) #[] #[])))), (.c 7 1, some (.x (.v (.int .i64 40))))]) ?_ ⟨rfl, rfl, rfl, rfl, rfl, rfl, rfl, rfl, rfl, rfl, rfl, rfl, rfl, rfl, rfl, rfl, rfl, rfl, rfl, rfl, rfl, trivial⟩ rfl
        refine fin_then ?_
        refine aw_seq ?_
        refine aw_text (rows := [_, _, _, _, _]) rfl (by kernel_rfl) ⟨
          ok_plain rfl rfl (op_fieldAddr (ltN rfl) rfl fo_174_0),
          ok_plain rfl rfl (op_load1 (ltN rfl) sh_57 rfl rfl),
          ok_plain rfl rfl (op_loadN (ys := [.v (.int .i64 s.Class), .v (.int .i64 s.Power), .v (.int .i64 s.Draught), .v (.int .i64 s.Tonnes), .v (.slice s_Thrust_p s.Thrust.length s_Thrust_c), .v (.slice s_Water_p s.Water.length s_Water_c), .v (.slice s_Ice_p s.Ice.length s_Ice_c), .v (.int .i64 s.Slow), .v (.int .i64 s.Brash), .v (.int .i64 s.Ridge), .v (.int .i64 s.Press)]) (ltN rfl) sh_25 rfl rfl ⟨rfl, rfl, rfl, rfl, rfl, rfl, rfl, rfl, rfl, rfl, rfl, trivial⟩),
          ok_plain rfl rfl (op_call (x := .v (.bool (rule4 s))) (fs := []) (caps := []) (extra := []) (ltN rfl) en_141 rfl ⟨rfl, rfl, rfl⟩ (EvL.cons rfl EvL.nil) (fun mm aa ww gg hr hrel => (c141 s ⟨s_Thrust_p, s.Thrust.length, s_Thrust_c⟩ ⟨s_Water_p, s.Water.length, s_Water_c⟩ ⟨s_Ice_p, s.Ice.length, s_Ice_c⟩ ww (SlIs.mono hs_Thrust hrel.below) (SlIs.mono hs_Water hrel.below) (SlIs.mono hs_Ice hrel.below)))),
          ok_plain rfl rfl (op_not (ltN rfl) rfl),
          trivial⟩ ?_
        refine fin_keep (s' := [(.t 1, some (.x (.p 1 0))), (.t 4, some (.x (.p 7 0))), (.t 5, some (.x (.o 2 3 6))), (.t 6, some (.x (.v (.int .i64 6)))), (.t 7, some (.x (.v (.int .i64 3)))), (.t 15, some (.x (.v (.bool (!(rule4 s)))))), (.b 1, some (.sh 25 11)), (.b 7, some (.sh 174 2)), (.r 2, some (.vec false 3 174 2 ([(.func (.func 138) #[] #[]), (.int .i64 41), (.func (.func 139) #[] #[]), (.int .i64 40), (.func (.func 140) #[] #[]), (.int .i64 40), (.func (.func 141) #[] #[]), (.int .i64 40), (.func (.func 143) #[] #[]), (.int .i64 40), (.func (.func 144) #[] #[]), (.int .i64 40)]))), (.c 1 0, some (.x (.v (.int .i64 s.Class)))), (.c 1 1, some (.x (.v (.int .i64 s.Power)))), (.c 1 2, some (.x (.v (.int .i64 s.Draught)))), (.c 1 3, some (.x (.v (.int .i64 s.Tonnes)))), (.c 1 4, some (.x (.v (.slice s_Thrust_p s.Thrust.length s_Thrust_c)))), (.c 1 5, some (.x (.v (.slice s_Water_p s.Water.length s_Water_c)))), (.c 1 6, some (.x (.v (.slice s_Ice_p s.Ice.length s_Ice_c)))), (.c 1 7, some (.x (.v (.int .i64 s.Slow)))), (.c 1 8, some (.x (.v (.int .i64 s.Brash)))), (.c 1 9, some (.x (.v (.int .i64 s.Ridge)))), (.c 1 10, some (.x (.v (.int .i64 s.Press)))), (.c 7 0, some (.x (.v (.func (.func 141) #[] #[])))), (.c 7 1, some (.x (.v (.int .i64 40))))]) ?_ ⟨rfl, rfl, rfl, rfl, rfl, rfl, rfl, rfl, rfl, rfl, rfl, rfl, rfl, rfl, rfl, rfl, rfl, rfl, rfl, rfl, rfl, rfl, trivial⟩ rfl
        refine fin_then ?_
        refine aw_cond rfl (fun hz14 => ?_) (fun hz14 => ?_)
        · have _z := hz14
          have q15 := not_t hz14
          refine aw_seq ?_
          refine aw_text (rows := [_, _, _]) rfl (by kernel_rfl) ⟨
            ok_plain rfl rfl (op_fieldAddr (ltN rfl) rfl fo_174_1),
            ok_plain rfl rfl (op_load1 (ltN rfl) sh_36 rfl rfl),
            ok_plain rfl rfl (op_assign (ltN rfl) rfl),
            trivial⟩ ?_
          refine fin_keep (s' := [(.t 2, some (.x (.v (.int .i64 40))))]) ?_ ⟨rfl, trivial⟩ rfl
          refine fin_then ?_
          refine aw_ret ?_
          refine fin_block_ret ?_
          refine fin_then_ret ?_
          refine fin_then_ret ?_
          refine fin_block_ret ?_
          refine fin_then_ret ?_
          refine post_ret (x := .v (.int .i64 40)) rfl rfl (resOK_tmp rfl resOK_nil) rfl (fun mm aa ww hr => ?_)
          show Ending.returned (.int .i64 40) = _ ∧ _
          exact ⟨by clear hr; simp_all [check], hr.below⟩
        · have _z := hz14
          have q16 := not_f hz14
          refine aw_skip ?_
          refine fin_block ?_
          refine fin_then ?_
          refine aw_text (rows := [_, _]) rfl (by kernel_rfl) ⟨
            ok_plain rfl rfl (op_bin (r := .int .i64 4) (ltN rfl) rfl rfl rfl),
            ok_plain rfl rfl (op_move (ltN rfl) rfl),
            trivial⟩ ?_
          refine fin_keep (s' := [(.t 1, some (.x (.p 1 0))), (.t 5, some (.x (.o 2 3 6))), (.t 6, some (.x (.v (.int .i64 6)))), (.t 7, some (.x (.v (.int .i64 4)))), (.b 1, some (.sh 25 11)), (.r 2, some (.vec false 3 174 2 ([(.func (.func 138) #[] #[]), (.int .i64 41), (.func (.func 139) #[] #[]), (.int .i64 40), (.func (.func 140) #[] #[]), (.int .i64 40), (.func (.func 141) #[] #[]), (.int .i64 40), (.func (.func 143) #[] #[]), (.int .i64 40), (.func (.func 144) #[] #[]), (.int .i64 40)]))), (.c 1 0, some (.x (.v (.int .i64 s.Class)))), (.c 1 1, some (.x (.v (.int .i64 s.Power)))), (.c 1 2, some (.x (.v (.int .i64 s.Draught)))), (.c 1 3, some (.x (.v (.int .i64 s.Tonnes)))), (.c 1 4, some (.x (.v (.slice s_Thrust_p s.Thrust.length s_Thrust_c)))), (.c 1 5, some (.x (.v (.slice s_Water_p s.Water.length s_Water_c)))), (.c 1 6, some (.x (.v (.slice s_Ice_p s.Ice.length s_Ice_c)))), (.c 1 7, some (.x (.v (.int .i64 s.Slow)))), (.c 1 8, some (.x (.v (.int .i64 s.Brash)))), (.c 1 9, some (.x (.v (.int .i64 s.Ridge)))), (.c 1 10, some (.x (.v (.int .i64 s.Press))))]) ?_ ⟨rfl, rfl, rfl, rfl, rfl, rfl, rfl, rfl, rfl, rfl, rfl, rfl, rfl, rfl, rfl, rfl, rfl, trivial⟩ rfl
          refine fin_round ?_
          refine aw_seq ?_
          refine aw_text (rows := [_]) rfl (by kernel_rfl) ⟨
            ok_plain rfl rfl (op_bin (r := .bool true) (ltN rfl) rfl rfl rfl),
            trivial⟩ ?_
          refine fin_keep (s' := [(.t 1, some (.x (.p 1 0))), (.t 5, some (.x (.o 2 3 6))), (.t 6, some (.x (.v (.int .i64 6)))), (.t 7, some (.x (.v (.int .i64 4)))), (.t 8, some (.x (.v (.bool true)))), (.b 1, some (.sh 25 11)), (.r 2, some (.vec false 3 174 2 ([(.func (.func 138) #[] #[]), (.int .i64 41), (.func (.func 139) #[] #[]), (.int .i64 40), (.func (.func 140) #[] #[]), (.int .i64 40), (.func (.func 141) #[] #[]), (.int .i64 40), (.func (.func 143) #[] #[]), (.int .i64 40), (.func (.func 144) #[] #[]), (.int .i64 40)]))), (.c 1 0, some (.x (.v (.int .i64 s.Class)))), (.c 1 1, some (.x (.v (.int .i64 s.Power)))), (.c 1 2, some (.x (.v (.int .i64 s.Draught)))), (.c 1 3, some (.x (.v (.int .i64 s.Tonnes)))), (.c 1 4, some (.x (.v (.slice s_Thrust_p s.Thrust.length s_Thrust_c)))), (.c 1 5, some (.x (.v (.slice s_Water_p s.Water.length s_Water_c)))), (.c 1 6, some (.x (.v (.slice s_Ice_p s.Ice.length s_Ice_c)))), (.c 1 7, some (.x (.v (.int .i64 s.Slow)))), (.c 1 8, some (.x (.v (.int .i64 s.Brash)))), (.c 1 9, some (.x (.v (.int .i64 s.Ridge)))), (.c 1 10, some (.x (.v (.int .i64 s.Press))))]) ?_ ⟨rfl, rfl, rfl, rfl, rfl, rfl, rfl, rfl, rfl, rfl, rfl, rfl, rfl, rfl, rfl, rfl, rfl, rfl, trivial⟩ rfl
          refine fin_then ?_
          refine aw_seq ?_
          refine aw_cond rfl (fun hz17 => ?_) (fun hz17 => by cases hz17)
          refine aw_skip ?_
          refine fin_then ?_
          refine aw_seq ?_
          refine aw_block ?_
          refine aw_seq ?_
          refine aw_text (rows := [_, _, _, _]) rfl (by kernel_rfl) ⟨
            ok_plain rfl rfl (op_ixO (ltN rfl) rfl rfl ss_171 rfl (by simp) (by omega) (by omega)),
            ok_plain rfl rfl (op_loadON (vs := [(.func (.func 143) #[] #[]), (.int .i64 40)]) (ltN rfl) sh_174 rfl rfl rfl (fun zq zv zh => sub_get (n := 8) (vs := [(.func (.func 143) #[] #[]), (.int .i64 40)]) rfl zh)),
            ok_plain rfl rfl (op_alloc (L := 8) (ltN rfl) zl_174),
            ok_plain rfl rfl (op_storeN sz_174 rfl rfl rfl rfl rfl (by decide)),
            trivial⟩ ?_
          refine fin_keep (s' := [(.t 1, some (.x (.p 1 0))), (.t 4, some (.x (.p 8 0))), (.t 5, some (.x (.o 2 3 6))), (.t 6, some (.x (.v (.int .i64 6)))), (.t 7, some (.x (.v (.int .i64 4)))), (.b 1, some (.sh 25 11)), (.b 8, some (.sh 174 2)), (.r 2, some (.vec false 3 174 2 ([(.func (.func 138) #[] #[]), (.int .i64 41), (.func (.func 139) #[] #[]), (.int .i64 40), (.func (.func 140) #[] #[]), (.int .i64 40), (.func (.func 141) #[] #[]), (.int .i64 40), (.func (.func 143) #[] #[]), (.int .i64 40), (.func (.func 144) #[] #[]), (.int .i64 40)]))), (.c 1 0, some (.x (.v (.int .i64 s.Class)))), (.c 1 1, some (.x (.v (.int .i64 s.Power)))), (.c 1 2, some (.x (.v (.int .i64 s.Draught)))), (.c 1 3, some (.x (.v (.int .i64 s.Tonnes)))), (.c 1 4, some (.x (.v (.slice s_Thrust_p s.Thrust.length s_Thrust_c)))), (.c 1 5, some (.x (.v (.slice s_Water_p s.Water.length s_Water_c)))), (.c 1 6, some (.x (.v (.slice s_Ice_p s.Ice.length s_Ice_c)))), (.c 1 7, some (.x (.v (.int .i64 s.Slow)))), (.c 1 8, some (.x (.v (.int .i64 s.Brash)))), (.c 1 9, some (.x (.v (.int .i64 s.Ridge)))), (.c 1 10, some (.x (.v (.int .i64 s.Press)))), (.c 8 0, some (.x (.v (.func (.func 143) #[] #[])))), (.c 8 1, some (.x (.v (.int .i64 40))))]) ?_ ⟨rfl, rfl, rfl, rfl, rfl, rfl, rfl, rfl, rfl, rfl, rfl, rfl, rfl, rfl, rfl, rfl, rfl, rfl, rfl, rfl, rfl, trivial⟩ rfl
          refine fin_then ?_
          refine aw_seq ?_
          refine aw_text (rows := [_, _, _, _, _]) rfl (by kernel_rfl) ⟨
            ok_plain rfl rfl (op_fieldAddr (ltN rfl) rfl fo_174_0),
            ok_plain rfl rfl (op_load1 (ltN rfl) sh_57 rfl rfl),
            ok_plain rfl rfl (op_loadN (ys := [.v (.int .i64 s.Class), .v (.int .i64 s.Power), .v (.int .i64 s.Draught), .v (.int .i64 s.Tonnes), .v (.slice s_Thrust_p s.Thrust.length s_Thrust_c), .v (.slice s_Water_p s.Water.length s_Water_c), .v (.slice s_Ice_p s.Ice.length s_Ice_c), .v (.int .i64 s.Slow), .v (.int .i64 s.Brash), .v (.int .i64 s.Ridge), .v (.int .i64 s.Press)]) (ltN rfl) sh_25 rfl rfl ⟨rfl, rfl, rfl, rfl, rfl, rfl, rfl, rfl, rfl, rfl, rfl, trivial⟩),
            ok_plain rfl rfl (op_call (x := .v (.bool (rule5 s))) (fs := []) (caps := []) (extra := []) (ltN rfl) en_143 rfl ⟨rfl, rfl, rfl⟩ (EvL.cons rfl EvL.nil) (fun mm aa ww gg hr hrel => (c143 s ⟨s_Thrust_p, s.Thrust.length, s_Thrust_c⟩ ⟨s_Water_p, s.Water.length, s_Water_c⟩ ⟨s_Ice_p, s.Ice.length, s_Ice_c⟩ ww (SlIs.mono hs_Thrust hrel.below) (SlIs.mono hs_Water hrel.below) (SlIs.mono hs_Ice hrel.below)))),
            ok_plain rfl rfl (op_not (ltN rfl) rfl),
            trivial⟩ ?_
          refine fin_keep (s' := [(.t 1, some (.x (.p 1 0))), (.t 4, some (.x (.p 8 0))), (.t 5, some (.x (.o 2 3 6))), (.t 6, some (.x (.v (.int .i64 6)))), (.t 7, some (.x (.v (.int .i64 4)))), (.t 15, some (.x (.v (.bool (!(rule5 s)))))), (.b 1, some (.sh 25 11)), (.b 8, some (.sh 174 2)), (.r 2, some (.vec false 3 174 2 ([(.func (.func 138) #[] #[]), (.int .i64 41), (.func (.func 139) #[] #[]), (.int .i64 40), (.func (.func 140) #[] #[]), (.int .i64 40), (.func (.func 141) #[] #[]), (.int .i64 40), (.func (.func 143) #[] #[]), (.int .i64 40), (.func (.func 144) #[] #[]), (.int .i64 40)]))), (.c 1 0, some (.x (.v (.int .i64 s.Class)))), (.c 1 1, some (.x (.v (.int .i64 s.Power)))), (.c 1 2, some (.x (.v (.int .i64 s.Draught)))), (.c 1 3, some (.x (.v (.int .i64 s.Tonnes)))), (.c 1 4, some (.x (.v (.slice s_Thrust_p s.Thrust.length s_Thrust_c)))), (.c 1 5, some (.x (.v (.slice s_Water_p s.Water.length s_Water_c)))), (.c 1 6, some (.x (.v (.slice s_Ice_p s.Ice.length s_Ice_c)))), (.c 1 7, some (.x (.v (.int .i64 s.Slow)))), (.c 1 8, some (.x (.v (.int .i64 s.Brash)))), (.c 1 9, some (.x (.v (.int .i64 s.Ridge)))), (.c 1 10, some (.x (.v (.int .i64 s.Press)))), (.c 8 0, some (.x (.v (.func (.func 143) #[] #[])))), (.c 8 1, some (.x (.v (.int .i64 40))))]) ?_ ⟨rfl, rfl, rfl, rfl, rfl, rfl, rfl, rfl, rfl, rfl, rfl, rfl, rfl, rfl, rfl, rfl, rfl, rfl, rfl, rfl, rfl, rfl, trivial⟩ rfl
          refine fin_then ?_
          refine aw_cond rfl (fun hz18 => ?_) (fun hz18 => ?_)
          · have _z := hz18
            have q19 := not_t hz18
            refine aw_seq ?_
            refine aw_text (rows := [_, _, _]) rfl (by kernel_rfl) ⟨
              ok_plain rfl rfl (op_fieldAddr (ltN rfl) rfl fo_174_1),
              ok_plain rfl rfl (op_load1 (ltN rfl) sh_36 rfl rfl),
              ok_plain rfl rfl (op_assign (ltN rfl) rfl),
              trivial⟩ ?_
            refine fin_keep (s' := [(.t 2, some (.x (.v (.int .i64 40))))]) ?_ ⟨rfl, trivial⟩ rfl
            refine fin_then ?_
            refine aw_ret ?_
            refine fin_block_ret ?_
            refine fin_then_ret ?_
            refine fin_then_ret ?_
            refine fin_block_ret ?_
            refine fin_then_ret ?_
            refine post_ret (x := .v (.int .i64 40)) rfl rfl (resOK_tmp rfl resOK_nil) rfl (fun mm aa ww hr => ?_)
            show Ending.returned (.int .i64 40) = _ ∧ _
            exact ⟨by clear hr; simp_all [check], hr.below⟩
          · have _z := hz18
            have q20 := not_f hz18
            refine aw_skip ?_
            refine fin_block ?_
            refine fin_then ?_
            refine aw_text (rows := [_, _]) rfl (by kernel_rfl) ⟨
              ok_plain rfl rfl (op_bin (r := .int .i64 5) (ltN rfl) rfl rfl rfl),
              ok_plain rfl rfl (op_move (ltN rfl) rfl),
              trivial⟩ ?_
            refine fin_keep (s' := [(.t 1, some (.x (.p 1 0))), (.t 5, some (.x (.o 2 3 6))), (.t 6, some (.x (.v (.int .i64 6)))), (.t 7, some (.x (.v (.int .i64 5)))), (.b 1, some (.sh 25 11)), (.r 2, some (.vec false 3 174 2 ([(.func (.func 138) #[] #[]), (.int .i64 41), (.func (.func 139) #[] #[]), (.int .i64 40), (.func (.func 140) #[] #[]), (.int .i64 40), (.func (.func 141) #[] #[]), (.int .i64 40), (.func (.func 143) #[] #[]), (.int .i64 40), (.func (.func 144) #[] #[]), (.int .i64 40)]))), (.c 1 0, some (.x (.v (.int .i64 s.Class)))), (.c 1 1, some (.x (.v (.int .i64 s.Power)))), (.c 1 2, some (.x (.v (.int .i64 s.Draught)))), (.c 1 3, some (.x (.v (.int .i64 s.Tonnes)))), (.c 1 4, some (.x (.v (.slice s_Thrust_p s.Thrust.length s_Thrust_c)))), (.c 1 5, some (.x (.v (.slice s_Water_p s.Water.length s_Water_c)))), (.c 1 6, some (.x (.v (.slice s_Ice_p s.Ice.length s_Ice_c)))), (.c 1 7, some (.x (.v (.int .i64 s.Slow)))), (.c 1 8, some (.x (.v (.int .i64 s.Brash)))), (.c 1 9, some (.x (.v (.int .i64 s.Ridge)))), (.c 1 10, some (.x (.v (.int .i64 s.Press))))]) ?_ ⟨rfl, rfl, rfl, rfl, rfl, rfl, rfl, rfl, rfl, rfl, rfl, rfl, rfl, rfl, rfl, rfl, rfl, trivial⟩ rfl
            refine fin_round ?_
            refine aw_seq ?_
            refine aw_text (rows := [_]) rfl (by kernel_rfl) ⟨
              ok_plain rfl rfl (op_bin (r := .bool true) (ltN rfl) rfl rfl rfl),
              trivial⟩ ?_
            refine fin_keep (s' := [(.t 1, some (.x (.p 1 0))), (.t 5, some (.x (.o 2 3 6))), (.t 6, some (.x (.v (.int .i64 6)))), (.t 7, some (.x (.v (.int .i64 5)))), (.t 8, some (.x (.v (.bool true)))), (.b 1, some (.sh 25 11)), (.r 2, some (.vec false 3 174 2 ([(.func (.func 138) #[] #[]), (.int .i64 41), (.func (.func 139) #[] #[]), (.int .i64 40), (.func (.func 140) #[] #[]), (.int .i64 40), (.func (.func 141) #[] #[]), (.int .i64 40), (.func (.func 143) #[] #[]), (.int .i64 40), (.func (.func 144) #[] #[]), (.int .i64 40)]))), (.c 1 0, some (.x (.v (.int .i64 s.Class)))), (.c 1 1, some (.x (.v (.int .i64 s.Power)))), (.c 1 2, some (.x (.v (.int .i64 s.Draught)))), (.c 1 3, some (.x (.v (.int .i64 s.Tonnes)))), (.c 1 4, some (.x (.v (.slice s_Thrust_p s.Thrust.length s_Thrust_c)))), (.c 1 5, some (.x (.v (.slice s_Water_p s.Water.length s_Water_c)))), (.c 1 6, some (.x (.v (.slice s_Ice_p s.Ice.length s_Ice_c)))), (.c 1 7, some (.x (.v (.int .i64 s.Slow)))), (.c 1 8, some (.x (.v (.int .i64 s.Brash)))), (.c 1 9, some (.x (.v (.int .i64 s.Ridge)))), (.c 1 10, some (.x (.v (.int .i64 s.Press))))]) ?_ ⟨rfl, rfl, rfl, rfl, rfl, rfl, rfl, rfl, rfl, rfl, rfl, rfl, rfl, rfl, rfl, rfl, rfl, rfl, trivial⟩ rfl
            refine fin_then ?_
            refine aw_seq ?_
            refine aw_cond rfl (fun hz21 => ?_) (fun hz21 => by cases hz21)
            refine aw_skip ?_
            refine fin_then ?_
            refine aw_seq ?_
            refine aw_block ?_
            refine aw_seq ?_
            refine aw_text (rows := [_, _, _, _]) rfl (by kernel_rfl) ⟨
              ok_plain rfl rfl (op_ixO (ltN rfl) rfl rfl ss_171 rfl (by simp) (by omega) (by omega)),
              ok_plain rfl rfl (op_loadON (vs := [(.func (.func 144) #[] #[]), (.int .i64 40)]) (ltN rfl) sh_174 rfl rfl rfl (fun zq zv zh => sub_get (n := 10) (vs := [(.func (.func 144) #[] #[]), (.int .i64 40)]) rfl zh)),
              ok_plain rfl rfl (op_alloc (L := 9) (ltN rfl) zl_174),
              ok_plain rfl rfl (op_storeN sz_174 rfl rfl rfl rfl rfl (by decide)),
              trivial⟩ ?_
            refine fin_keep (s' := [(.t 1, some (.x (.p 1 0))), (.t 4, some (.x (.p 9 0))), (.t 5, some (.x (.o 2 3 6))), (.t 6, some (.x (.v (.int .i64 6)))), (.t 7, some (.x (.v (.int .i64 5)))), (.b 1, some (.sh 25 11)), (.b 9, some (.sh 174 2)), (.r 2, some (.vec false 3 174 2 ([(.func (.func 138) #[] #[]), (.int .i64 41), (.func (.func 139) #[] #[]), (.int .i64 40), (.func (.func 140) #[] #[]), (.int .i64 40), (.func (.func 141) #[] #[]), (.int .i64 40), (.func (.func 143) #[] #[]), (.int .i64 40), (.func (.func 144) #[] #[]), (.int .i64 40)]))), (.c 1 0, some (.x (.v (.int .i64 s.Class)))), (.c 1 1, some (.x (.v (.int .i64 s.Power)))), (.c 1 2, some (.x (.v (.int .i64 s.Draught)))), (.c 1 3, some (.x (.v (.int .i64 s.Tonnes)))), (.c 1 4, some (.x (.v (.slice s_Thrust_p s.Thrust.length s_Thrust_c)))), (.c 1 5, some (.x (.v (.slice s_Water_p s.Water.length s_Water_c)))), (.c 1 6, some (.x (.v (.slice s_Ice_p s.Ice.length s_Ice_c)))), (.c 1 7, some (.x (.v (.int .i64 s.Slow)))), (.c 1 8, some (.x (.v (.int .i64 s.Brash)))), (.c 1 9, some (.x (.v (.int .i64 s.Ridge)))), (.c 1 10, some (.x (.v (.int .i64 s.Press)))), (.c 9 0, some (.x (.v (.func (.func 144) #[] #[])))), (.c 9 1, some (.x (.v (.int .i64 40))))]) ?_ ⟨rfl, rfl, rfl, rfl, rfl, rfl, rfl, rfl, rfl, rfl, rfl, rfl, rfl, rfl, rfl, rfl, rfl, rfl, rfl, rfl, rfl, trivial⟩ rfl
            refine fin_then ?_
            refine aw_seq ?_
            refine aw_text (rows := [_, _, _, _, _]) rfl (by kernel_rfl) ⟨
              ok_plain rfl rfl (op_fieldAddr (ltN rfl) rfl fo_174_0),
              ok_plain rfl rfl (op_load1 (ltN rfl) sh_57 rfl rfl),
              ok_plain rfl rfl (op_loadN (ys := [.v (.int .i64 s.Class), .v (.int .i64 s.Power), .v (.int .i64 s.Draught), .v (.int .i64 s.Tonnes), .v (.slice s_Thrust_p s.Thrust.length s_Thrust_c), .v (.slice s_Water_p s.Water.length s_Water_c), .v (.slice s_Ice_p s.Ice.length s_Ice_c), .v (.int .i64 s.Slow), .v (.int .i64 s.Brash), .v (.int .i64 s.Ridge), .v (.int .i64 s.Press)]) (ltN rfl) sh_25 rfl rfl ⟨rfl, rfl, rfl, rfl, rfl, rfl, rfl, rfl, rfl, rfl, rfl, trivial⟩),
              ok_plain rfl rfl (op_call (x := .v (.bool (rule6 s))) (fs := []) (caps := []) (extra := []) (ltN rfl) en_144 rfl ⟨rfl, rfl, rfl⟩ (EvL.cons rfl EvL.nil) (fun mm aa ww gg hr hrel => (c144 s ⟨s_Thrust_p, s.Thrust.length, s_Thrust_c⟩ ⟨s_Water_p, s.Water.length, s_Water_c⟩ ⟨s_Ice_p, s.Ice.length, s_Ice_c⟩ ww (SlIs.mono hs_Thrust hrel.below) (SlIs.mono hs_Water hrel.below) (SlIs.mono hs_Ice hrel.below)))),
              ok_plain rfl rfl (op_not (ltN rfl) rfl),
              trivial⟩ ?_
            refine fin_keep (s' := [(.t 1, some (.x (.p 1 0))), (.t 4, some (.x (.p 9 0))), (.t 5, some (.x (.o 2 3 6))), (.t 6, some (.x (.v (.int .i64 6)))), (.t 7, some (.x (.v (.int .i64 5)))), (.t 15, some (.x (.v (.bool (!(rule6 s)))))), (.b 1, some (.sh 25 11)), (.b 9, some (.sh 174 2)), (.r 2, some (.vec false 3 174 2 ([(.func (.func 138) #[] #[]), (.int .i64 41), (.func (.func 139) #[] #[]), (.int .i64 40), (.func (.func 140) #[] #[]), (.int .i64 40), (.func (.func 141) #[] #[]), (.int .i64 40), (.func (.func 143) #[] #[]), (.int .i64 40), (.func (.func 144) #[] #[]), (.int .i64 40)]))), (.c 1 0, some (.x (.v (.int .i64 s.Class)))), (.c 1 1, some (.x (.v (.int .i64 s.Power)))), (.c 1 2, some (.x (.v (.int .i64 s.Draught)))), (.c 1 3, some (.x (.v (.int .i64 s.Tonnes)))), (.c 1 4, some (.x (.v (.slice s_Thrust_p s.Thrust.length s_Thrust_c)))), (.c 1 5, some (.x (.v (.slice s_Water_p s.Water.length s_Water_c)))), (.c 1 6, some (.x (.v (.slice s_Ice_p s.Ice.length s_Ice_c)))), (.c 1 7, some (.x (.v (.int .i64 s.Slow)))), (.c 1 8, some (.x (.v (.int .i64 s.Brash)))), (.c 1 9, some (.x (.v (.int .i64 s.Ridge)))), (.c 1 10, some (.x (.v (.int .i64 s.Press)))), (.c 9 0, some (.x (.v (.func (.func 144) #[] #[])))), (.c 9 1, some (.x (.v (.int .i64 40))))]) ?_ ⟨rfl, rfl, rfl, rfl, rfl, rfl, rfl, rfl, rfl, rfl, rfl, rfl, rfl, rfl, rfl, rfl, rfl, rfl, rfl, rfl, rfl, rfl, trivial⟩ rfl
            refine fin_then ?_
            refine aw_cond rfl (fun hz22 => ?_) (fun hz22 => ?_)
            · have _z := hz22
              have q23 := not_t hz22
              refine aw_seq ?_
              refine aw_text (rows := [_, _, _]) rfl (by kernel_rfl) ⟨
                ok_plain rfl rfl (op_fieldAddr (ltN rfl) rfl fo_174_1),
                ok_plain rfl rfl (op_load1 (ltN rfl) sh_36 rfl rfl),
                ok_plain rfl rfl (op_assign (ltN rfl) rfl),
                trivial⟩ ?_
              refine fin_keep (s' := [(.t 2, some (.x (.v (.int .i64 40))))]) ?_ ⟨rfl, trivial⟩ rfl
              refine fin_then ?_
              refine aw_ret ?_
              refine fin_block_ret ?_
              refine fin_then_ret ?_
              refine fin_then_ret ?_
              refine fin_block_ret ?_
              refine fin_then_ret ?_
              refine post_ret (x := .v (.int .i64 40)) rfl rfl (resOK_tmp rfl resOK_nil) rfl (fun mm aa ww hr => ?_)
              show Ending.returned (.int .i64 40) = _ ∧ _
              exact ⟨by clear hr; simp_all [check], hr.below⟩
            · have _z := hz22
              have q24 := not_f hz22
              refine aw_skip ?_
              refine fin_block ?_
              refine fin_then ?_
              refine aw_text (rows := [_, _]) rfl (by kernel_rfl) ⟨
                ok_plain rfl rfl (op_bin (r := .int .i64 6) (ltN rfl) rfl rfl rfl),
                ok_plain rfl rfl (op_move (ltN rfl) rfl),
                trivial⟩ ?_
              refine fin_keep (s' := [(.t 1, some (.x (.p 1 0))), (.t 5, some (.x (.o 2 3 6))), (.t 6, some (.x (.v (.int .i64 6)))), (.t 7, some (.x (.v (.int .i64 6)))), (.b 1, some (.sh 25 11)), (.r 2, some (.vec false 3 174 2 ([(.func (.func 138) #[] #[]), (.int .i64 41), (.func (.func 139) #[] #[]), (.int .i64 40), (.func (.func 140) #[] #[]), (.int .i64 40), (.func (.func 141) #[] #[]), (.int .i64 40), (.func (.func 143) #[] #[]), (.int .i64 40), (.func (.func 144) #[] #[]), (.int .i64 40)]))), (.c 1 0, some (.x (.v (.int .i64 s.Class)))), (.c 1 1, some (.x (.v (.int .i64 s.Power)))), (.c 1 2, some (.x (.v (.int .i64 s.Draught)))), (.c 1 3, some (.x (.v (.int .i64 s.Tonnes)))), (.c 1 4, some (.x (.v (.slice s_Thrust_p s.Thrust.length s_Thrust_c)))), (.c 1 5, some (.x (.v (.slice s_Water_p s.Water.length s_Water_c)))), (.c 1 6, some (.x (.v (.slice s_Ice_p s.Ice.length s_Ice_c)))), (.c 1 7, some (.x (.v (.int .i64 s.Slow)))), (.c 1 8, some (.x (.v (.int .i64 s.Brash)))), (.c 1 9, some (.x (.v (.int .i64 s.Ridge)))), (.c 1 10, some (.x (.v (.int .i64 s.Press))))]) ?_ ⟨rfl, rfl, rfl, rfl, rfl, rfl, rfl, rfl, rfl, rfl, rfl, rfl, rfl, rfl, rfl, rfl, rfl, trivial⟩ rfl
              refine fin_round ?_
              refine aw_seq ?_
              refine aw_text (rows := [_]) rfl (by kernel_rfl) ⟨
                ok_plain rfl rfl (op_bin (r := .bool false) (ltN rfl) rfl rfl rfl),
                trivial⟩ ?_
              refine fin_keep (s' := [(.t 1, some (.x (.p 1 0))), (.t 5, some (.x (.o 2 3 6))), (.t 6, some (.x (.v (.int .i64 6)))), (.t 7, some (.x (.v (.int .i64 6)))), (.t 8, some (.x (.v (.bool false)))), (.b 1, some (.sh 25 11)), (.r 2, some (.vec false 3 174 2 ([(.func (.func 138) #[] #[]), (.int .i64 41), (.func (.func 139) #[] #[]), (.int .i64 40), (.func (.func 140) #[] #[]), (.int .i64 40), (.func (.func 141) #[] #[]), (.int .i64 40), (.func (.func 143) #[] #[]), (.int .i64 40), (.func (.func 144) #[] #[]), (.int .i64 40)]))), (.c 1 0, some (.x (.v (.int .i64 s.Class)))), (.c 1 1, some (.x (.v (.int .i64 s.Power)))), (.c 1 2, some (.x (.v (.int .i64 s.Draught)))), (.c 1 3, some (.x (.v (.int .i64 s.Tonnes)))), (.c 1 4, some (.x (.v (.slice s_Thrust_p s.Thrust.length s_Thrust_c)))), (.c 1 5, some (.x (.v (.slice s_Water_p s.Water.length s_Water_c)))), (.c 1 6, some (.x (.v (.slice s_Ice_p s.Ice.length s_Ice_c)))), (.c 1 7, some (.x (.v (.int .i64 s.Slow)))), (.c 1 8, some (.x (.v (.int .i64 s.Brash)))), (.c 1 9, some (.x (.v (.int .i64 s.Ridge)))), (.c 1 10, some (.x (.v (.int .i64 s.Press))))]) ?_ ⟨rfl, rfl, rfl, rfl, rfl, rfl, rfl, rfl, rfl, rfl, rfl, rfl, rfl, rfl, rfl, rfl, rfl, rfl, trivial⟩ rfl
              refine fin_then ?_
              refine aw_seq ?_
              refine aw_cond rfl (fun hz25 => by cases hz25) (fun hz25 => ?_)
              refine aw_exit ?_
              refine fin_then_exit ?_
              refine fin_then_exit ?_
              refine fin_block_exit ?_
              refine fin_then ?_
              refine aw_seq ?_
              refine aw_text (rows := [_]) rfl (by kernel_rfl) ⟨
                ok_plain rfl rfl (op_assign (ltN rfl) rfl),
                trivial⟩ ?_
              refine fin_keep (s' := [(.t 2, some (.x (.v (.int .i64 0))))]) ?_ ⟨rfl, trivial⟩ rfl
              refine fin_then ?_
              refine aw_ret ?_
              refine post_ret (x := .v (.int .i64 0)) rfl rfl (resOK_tmp rfl resOK_nil) rfl (fun mm aa ww hr => ?_)
              show Ending.returned (.int .i64 0) = _ ∧ _
              exact ⟨by clear hr; simp_all [check], hr.below⟩

end Go.Proofs.T
