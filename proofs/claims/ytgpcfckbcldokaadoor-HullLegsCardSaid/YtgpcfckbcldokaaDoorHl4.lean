/-
  This file has contracts of functions of the program: where the mirror gives a value, the call returns it. Conditions: those that each theorem names.
-/
import Derived.Test.YtgpcfckbcldokaaDoorHl3
namespace Go.Proofs.T
open Go Go.AX Go.RowKit Hull
theorem un_23 : Tryd.prog.underlying 23 = some (.slice 84) := by kernel_rfl
theorem un_46 : Tryd.prog.underlying 46 = some (.slice 48) := by kernel_rfl
theorem af_46 : appFact Tryd.prog 46 = some (48, 10, 80) := by kernel_rfl
theorem en_42 : Proofs.Enters Tryd.prog 42 := Proofs.enters_of Tryd.func42 (by kernel_rfl) rfl
theorem af_62 : appFact Tryd.prog 62 = some (170, 2, 16) := by kernel_rfl
theorem zl_64 : zeroL Tryd.prog 64 = some [(.int .i64 0), (.int .i64 0), (.int .i64 0), (.int .i64 0), (.slice none 0 0), (.slice none 0 0), (.slice none 0 0), (.int .i64 0), (.int .i64 0), (.int .i64 0), (.int .i64 0)] := by kernel_rfl
theorem en_45 : Proofs.Enters Tryd.prog 45 := Proofs.enters_of Tryd.func45 (by kernel_rfl) rfl
theorem sz_64 : sizeIn Tryd.prog 64 = some 11 := by kernel_rfl
theorem sh_64 : shapeOf Tryd.prog 64 = some (some 11) := by kernel_rfl
theorem af_66 : appFact Tryd.prog 66 = some (152, 10, 80) := by kernel_rfl
theorem eqg_84 : Tryd.prog.eqGuardType Tryd.prog.depth 84 = false := by kernel_rfl
theorem Pt_eqd (a b : Pt) : ((a.X == b.X) && ((a.Y == b.Y) && true)) = decide (a = b) := by cases a; cases b; rw [Bool.eq_iff_iff]; simp
theorem eqg_48 : Tryd.prog.eqGuardType Tryd.prog.depth 48 = false := by kernel_rfl
theorem Span_eqd (a b : Span) : ((a.Lo == b.Lo) && ((a.Hi == b.Hi) && true)) = decide (a = b) := by cases a; cases b; rw [Bool.eq_iff_iff]; simp
theorem Cell_eqd (a b : Cell) : (((a.Conc.Lo == b.Conc.Lo) && ((a.Conc.Hi == b.Conc.Hi) && true)) && (((a.Thick.Lo == b.Thick.Lo) && ((a.Thick.Hi == b.Thick.Hi) && true)) && (((a.Ridge.Lo == b.Ridge.Lo) && ((a.Ridge.Hi == b.Ridge.Hi) && true)) && (((a.Press.Lo == b.Press.Lo) && ((a.Press.Hi == b.Press.Hi) && true)) && true)))) = decide (a = b) := by simp only [Span_eqd]; cases a; cases b; rw [Bool.eq_iff_iff]; simp
theorem Part_eqd (a b : Part) : ((((a.Cell.Conc.Lo == b.Cell.Conc.Lo) && ((a.Cell.Conc.Hi == b.Cell.Conc.Hi) && true)) && (((a.Cell.Thick.Lo == b.Cell.Thick.Lo) && ((a.Cell.Thick.Hi == b.Cell.Thick.Hi) && true)) && (((a.Cell.Ridge.Lo == b.Cell.Ridge.Lo) && ((a.Cell.Ridge.Hi == b.Cell.Ridge.Hi) && true)) && (((a.Cell.Press.Lo == b.Cell.Press.Lo) && ((a.Cell.Press.Hi == b.Cell.Press.Hi) && true)) && true)))) && ((a.Channel == b.Channel) && ((a.Length == b.Length) && true))) = decide (a = b) := by simp only [Cell_eqd]; cases a; cases b; rw [Bool.eq_iff_iff]; simp
theorem eqg_32 : Tryd.prog.eqGuardType Tryd.prog.depth 32 = false := by kernel_rfl
theorem af_56 : appFact Tryd.prog 56 = some (32, 2, 16) := by kernel_rfl
theorem en_48 : Proofs.Enters Tryd.prog 48 := Proofs.enters_of Tryd.func48 (by kernel_rfl) rfl

structure Ratio where
  N : Int
  D : Int
deriving DecidableEq, Repr

instance (i : Ice) : Decidable (goodIce i) := by unfold goodIce; infer_instance
instance (c : Cell) : Decidable (goodCell c) := by unfold goodCell goodSpan; infer_instance

theorem c42 (l : List Pt) (l_s : SlV) (w : World) (hl : SlIs encPt 2 w l_s l) (hn : l.length ≤ 1000000) : Calls Tryd.prog 42 #[.slice l_s.p l_s.n l_s.c] w fun e w' => ∃ p c, e = .returned ((.slice p l.length c)) ∧ NewAt w w' p l.length c 84 2 (l.flatMap encPt) ∧ Below w.heap.size w w' := by
  obtain ⟨l_p, l_n, l_c⟩ := l_s
  have hl_l : l_n = l.length := hl.1
  subst hl_l
  obtain ⟨l_b, l_o, hl_p, hl_L⟩ := SlAt.lies' hl
  refine enter (args := [.v (.slice l_p l.length l_c)]) Tryd.func42 rfl (N := 8) rfl (Nat.le_of_ble_eq_true rfl) ?_
  refine aw_seq ?_
  refine aw_text (rows := [_]) rfl (by kernel_rfl) ⟨
    ok_plain rfl rfl (op_assign (ltN rfl) rfl),
    trivial⟩ ?_
  refine fin_keep (s' := [kt 0 (.v (.slice l_p l.length l_c))]) ?_ (kp rfl) rfl
  refine fin_then ?_
  refine aw_seq ?_
  refine aw_seq ?_
  refine aw_text (rows := [_, _]) rfl (by kernel_rfl) ⟨
    ok_plain rfl rfl (op_move (ltN rfl) rfl),
    ok_plain rfl rfl (op_eqNil (ltN rfl) rfl ⟨84, un_23⟩),
    trivial⟩ ?_
  refine fin_keep (s' := [kt 0 (.v (.slice l_p l.length l_c)), kt 4 (.B l_p.isNone)]) ?_ (kp rfl) rfl
  refine fin_then ?_
  refine aw_cond rfl (fun hz1 => ?_) (fun hz1 => ?_)
  · have _z := hz1
    have q2 := hz1
    refine aw_seq ?_
    refine aw_text (rows := [_]) rfl (by kernel_rfl) ⟨
      ok_plain rfl rfl (op_assign (ltN rfl) rfl),
      trivial⟩ ?_
    refine fin_keep (s' := [kt 2 (.v (.slice none 0 0))]) ?_ (kp rfl) rfl
    refine fin_then ?_
    refine aw_ret ?_
    refine fin_then_ret ?_
    refine post_ret (x := .v (.slice none 0 0)) rfl rfl (resOK_tmp rfl resOK_nil) rfl (fun mm aa ww hr => ?_)
    rcases l_p with _ | ad
    · have h0 := slIs_none hl
      subst h0
      exact ⟨none, 0, rfl, newAt_nil, hr.below⟩
    · exact absurd hz1 (by simp)
  · have _z := hz1
    have q3 := hz1
    refine aw_skip ?_
    refine fin_then ?_
    refine aw_seq ?_
    refine aw_text (rows := [_, _, _, _]) rfl (by kernel_rfl) ⟨
      ok_plain rfl rfl (op_buildSlice0 (L := 1) (C := 2) (ety := 84) (kk := 2) (ltN rfl) (by decide) (fun w => by kernel_rfl)),
      ok_plain rfl rfl (op_move (ltN rfl) rfl),
      ok_plain rfl rfl (op_appendS (enc := encPt) (l := l) (L' := 3) (C' := 4) (ltN rfl) af_23 rfl rfl rfl rfl (fun mm aa ww gg hrel => (SlIs.mono hl hrel.below)) (fun _ => rfl) (fun _ => rfl) (by omega) (by omega) (by decide)),
      ok_plain rfl rfl (op_assign (ltN rfl) rfl),
      trivial⟩ ?_
    refine fin_keep (s' := [kt 2 (.o 3 4 l.length), (.r 3, some (.vec true 4 84 2 (l.flatMap encPt)))]) ?_ ⟨(congrArg (fun q => some (Val.x (SV.o 3 4 q))) (Nat.zero_add l.length)), rfl, trivial⟩ rfl
    refine fin_then ?_
    refine aw_ret ?_
    refine post_ret (x := .o 3 4 l.length) rfl rfl (resOK_tmp rfl resOK_nil) rfl (fun mm aa ww hr => ?_)
    exact ⟨_, _, rfl, newAt_row hr mine_nil rfl (flat_length (enc := encPt) (fun _ => rfl) _), hr.below⟩

theorem c29 (l : List Part) (l_s : SlV) (w : World) (hl : SlIs encPart 10 w l_s l) (hn : l.length ≤ 1000000) : Calls Tryd.prog 29 #[.slice l_s.p l_s.n l_s.c] w fun e w' => ∃ p c, e = .returned ((.slice p l.length c)) ∧ NewAt w w' p l.length c 48 10 (l.flatMap encPart) ∧ Below w.heap.size w w' := by
  obtain ⟨l_p, l_n, l_c⟩ := l_s
  have hl_l : l_n = l.length := hl.1
  subst hl_l
  obtain ⟨l_b, l_o, hl_p, hl_L⟩ := SlAt.lies' hl
  refine enter (args := [.v (.slice l_p l.length l_c)]) Tryd.func29 rfl (N := 8) rfl (Nat.le_of_ble_eq_true rfl) ?_
  refine aw_seq ?_
  refine aw_text (rows := [_]) rfl (by kernel_rfl) ⟨
    ok_plain rfl rfl (op_assign (ltN rfl) rfl),
    trivial⟩ ?_
  refine fin_keep (s' := [kt 0 (.v (.slice l_p l.length l_c))]) ?_ (kp rfl) rfl
  refine fin_then ?_
  refine aw_seq ?_
  refine aw_seq ?_
  refine aw_text (rows := [_, _]) rfl (by kernel_rfl) ⟨
    ok_plain rfl rfl (op_move (ltN rfl) rfl),
    ok_plain rfl rfl (op_eqNil (ltN rfl) rfl ⟨48, un_46⟩),
    trivial⟩ ?_
  refine fin_keep (s' := [kt 0 (.v (.slice l_p l.length l_c)), kt 4 (.B l_p.isNone)]) ?_ (kp rfl) rfl
  refine fin_then ?_
  refine aw_cond rfl (fun hz1 => ?_) (fun hz1 => ?_)
  · have _z := hz1
    have q2 := hz1
    refine aw_seq ?_
    refine aw_text (rows := [_]) rfl (by kernel_rfl) ⟨
      ok_plain rfl rfl (op_assign (ltN rfl) rfl),
      trivial⟩ ?_
    refine fin_keep (s' := [kt 2 (.v (.slice none 0 0))]) ?_ (kp rfl) rfl
    refine fin_then ?_
    refine aw_ret ?_
    refine fin_then_ret ?_
    refine post_ret (x := .v (.slice none 0 0)) rfl rfl (resOK_tmp rfl resOK_nil) rfl (fun mm aa ww hr => ?_)
    rcases l_p with _ | ad
    · have h0 := slIs_none hl
      subst h0
      exact ⟨none, 0, rfl, newAt_nil, hr.below⟩
    · exact absurd hz1 (by simp)
  · have _z := hz1
    have q3 := hz1
    refine aw_skip ?_
    refine fin_then ?_
    refine aw_seq ?_
    refine aw_text (rows := [_, _, _, _]) rfl (by kernel_rfl) ⟨
      ok_plain rfl rfl (op_buildSlice0 (L := 1) (C := 2) (ety := 48) (kk := 10) (ltN rfl) (by decide) (fun w => by kernel_rfl)),
      ok_plain rfl rfl (op_move (ltN rfl) rfl),
      ok_plain rfl rfl (op_appendS (enc := encPart) (l := l) (L' := 3) (C' := 4) (ltN rfl) af_46 rfl rfl rfl rfl (fun mm aa ww gg hrel => (SlIs.mono hl hrel.below)) (fun _ => rfl) (fun _ => rfl) (by omega) (by omega) (by decide)),
      ok_plain rfl rfl (op_assign (ltN rfl) rfl),
      trivial⟩ ?_
    refine fin_keep (s' := [kt 2 (.o 3 4 l.length), (.r 3, some (.vec true 4 48 10 (l.flatMap encPart)))]) ?_ ⟨(congrArg (fun q => some (Val.x (SV.o 3 4 q))) (Nat.zero_add l.length)), rfl, trivial⟩ rfl
    refine fin_then ?_
    refine aw_ret ?_
    refine post_ret (x := .o 3 4 l.length) rfl rfl (resOK_tmp rfl resOK_nil) rfl (fun mm aa ww hr => ?_)
    exact ⟨_, _, rfl, newAt_row hr mine_nil rfl (flat_length (enc := encPart) (fun _ => rfl) _), hr.below⟩

def m27 (_F : Nat) (a0 : Ship) : Option (Bool) :=
  some (((decide ((((a0.Thrust.length : Nat) : Int)) > 20)) || (decide ((((a0.Water.length : Nat) : Int)) > 20))) || (decide ((((a0.Ice.length : Nat) : Int)) > 20)))

theorem c27 (F : Nat) (a0 : Ship) (a0_Thrust_s : SlV) (a0_Water_s : SlV) (a0_Ice_s : SlV) (w : World) (ha0_Thrust : SlIs encPt 2 w a0_Thrust_s a0.Thrust) (ha0_Water : SlIs encPt 2 w a0_Water_s a0.Water) (ha0_Ice : SlIs encPt 2 w a0_Ice_s a0.Ice) (r : Bool) (hm : m27 F a0 = some r) : Calls Tryd.prog 27 #[.agg #[.int .i64 a0.Class, .int .i64 a0.Power, .int .i64 a0.Draught, .int .i64 a0.Tonnes, .slice a0_Thrust_s.p a0_Thrust_s.n a0_Thrust_s.c, .slice a0_Water_s.p a0_Water_s.n a0_Water_s.c, .slice a0_Ice_s.p a0_Ice_s.n a0_Ice_s.c, .int .i64 a0.Slow, .int .i64 a0.Brash, .int .i64 a0.Ridge, .int .i64 a0.Press]] w fun e w' => e = .returned (.bool r) ∧ Below w.heap.size w w' := by
  obtain ⟨a0_Thrust_p, a0_Thrust_n, a0_Thrust_c⟩ := a0_Thrust_s
  have ha0_Thrust_l : a0_Thrust_n = a0.Thrust.length := ha0_Thrust.1
  subst ha0_Thrust_l
  obtain ⟨a0_Thrust_b, a0_Thrust_o, ha0_Thrust_p, ha0_Thrust_L⟩ := SlAt.lies' ha0_Thrust
  obtain ⟨a0_Water_p, a0_Water_n, a0_Water_c⟩ := a0_Water_s
  have ha0_Water_l : a0_Water_n = a0.Water.length := ha0_Water.1
  subst ha0_Water_l
  obtain ⟨a0_Water_b, a0_Water_o, ha0_Water_p, ha0_Water_L⟩ := SlAt.lies' ha0_Water
  obtain ⟨a0_Ice_p, a0_Ice_n, a0_Ice_c⟩ := a0_Ice_s
  have ha0_Ice_l : a0_Ice_n = a0.Ice.length := ha0_Ice.1
  subst ha0_Ice_l
  obtain ⟨a0_Ice_b, a0_Ice_o, ha0_Ice_p, ha0_Ice_L⟩ := SlAt.lies' ha0_Ice
  unfold m27 at hm
  refine enter (args := [.g [.i a0.Class, .i a0.Power, .i a0.Draught, .i a0.Tonnes, .v (.slice a0_Thrust_p a0.Thrust.length a0_Thrust_c), .v (.slice a0_Water_p a0.Water.length a0_Water_c), .v (.slice a0_Ice_p a0.Ice.length a0_Ice_c), .i a0.Slow, .i a0.Brash, .i a0.Ridge, .i a0.Press]]) Tryd.func27 rfl (N := 19) rfl (Nat.le_of_ble_eq_true rfl) ?_
  refine aw_seq ?_
  refine aw_text (rows := [_, _]) rfl (by kernel_rfl) ⟨
    ok_plain rfl rfl (op_boxN (L := 1) (ltN rfl) rfl rfl rfl),
    ok_plain rfl rfl (op_assign (ltN rfl) rfl),
    trivial⟩ ?_
  refine fin_keep (s' := [kt 1 (.p 1 0), kb 1 25 11, kc 1 0 (.i a0.Class), kc 1 1 (.i a0.Power), kc 1 2 (.i a0.Draught), kc 1 3 (.i a0.Tonnes), kc 1 4 (.v (.slice a0_Thrust_p a0.Thrust.length a0_Thrust_c)), kc 1 5 (.v (.slice a0_Water_p a0.Water.length a0_Water_c)), kc 1 6 (.v (.slice a0_Ice_p a0.Ice.length a0_Ice_c)), kc 1 7 (.i a0.Slow), kc 1 8 (.i a0.Brash), kc 1 9 (.i a0.Ridge), kc 1 10 (.i a0.Press)]) ?_ (kp rfl) rfl
  refine fin_then ?_
  refine aw_seq ?_
  refine aw_text (rows := [_, _, _, _, _, _, _, _, _, _, _, _, _, _, _, _, _]) rfl (by kernel_rfl) ⟨
    ok_plain rfl rfl (op_fieldAddr (ltN rfl) rfl fo_25_4),
    ok_plain rfl rfl (op_load1 (ltN rfl) sh_23 rfl rfl),
    ok_plain rfl rfl (op_len (n := a0.Thrust.length) (ltN rfl) (by rw [ss_23]; rfl) rfl rfl),
    ok_plain rfl rfl (op_bin (ltN rfl) rfl rfl rfl),
    ok_plain rfl rfl (op_move (ltN rfl) rfl),
    ok_if (ltN rfl) rfl rfl rfl rfl rfl rfl (fun hg1 => op_fieldAddr (ltN rfl) (force_x rfl) fo_25_5),
    ok_if (ltN rfl) rfl rfl rfl rfl rfl rfl (fun hg2 => op_load1 (ltN rfl) sh_23 (force_eq (beq_iff_eq.2 hg2) rfl) rfl),
    ok_if (ltN rfl) rfl rfl rfl rfl rfl rfl (fun hg3 => op_len (n := a0.Water.length) (ltN rfl) (by rw [ss_23]; rfl) (force_eq (beq_iff_eq.2 hg3) rfl) rfl),
    ok_if (ltN rfl) rfl rfl rfl rfl rfl rfl (fun hg4 => op_bin (ltN rfl) (force_eq (beq_iff_eq.2 hg4) rfl) rfl rfl),
    ok_plain rfl rfl (op_or (ltN rfl) rfl rfl),
    ok_plain rfl rfl (op_move (ltN rfl) rfl),
    ok_if (ltN rfl) rfl rfl rfl rfl rfl rfl (fun hg5 => op_fieldAddr (ltN rfl) (force_x rfl) fo_25_6),
    ok_if (ltN rfl) rfl rfl rfl rfl rfl rfl (fun hg6 => op_load1 (ltN rfl) sh_23 (force_eq (beq_iff_eq.2 hg6) rfl) rfl),
    ok_if (ltN rfl) rfl rfl rfl rfl rfl rfl (fun hg7 => op_len (n := a0.Ice.length) (ltN rfl) (by rw [ss_23]; rfl) (force_eq (beq_iff_eq.2 hg7) rfl) rfl),
    ok_if (ltN rfl) rfl rfl rfl rfl rfl rfl (fun hg8 => op_bin (ltN rfl) (force_eq (beq_iff_eq.2 hg8) rfl) rfl rfl),
    ok_plain rfl rfl (op_or (ltN rfl) rfl rfl),
    ok_plain rfl rfl (op_assign (ltN rfl) rfl),
    trivial⟩ ?_
  refine fin_keep (s' := [kt 2 (.B (((decide ((((a0.Thrust.length : Nat) : Int)) > 20)) || (decide ((((a0.Water.length : Nat) : Int)) > 20))) || (decide ((((a0.Ice.length : Nat) : Int)) > 20))))]) ?_ (kp rfl) rfl
  refine fin_then ?_
  refine aw_ret ?_
  refine post_ret (x := .B (((decide ((((a0.Thrust.length : Nat) : Int)) > 20)) || (decide ((((a0.Water.length : Nat) : Int)) > 20))) || (decide ((((a0.Ice.length : Nat) : Int)) > 20)))) rfl rfl (resOK_tmp rfl resOK_nil) rfl (fun mm aa ww hr => ?_)
  have hm := Option.some.inj hm
  subst hm
  exact ⟨rfl, hr.below⟩

def m28 (_F : Nat) (a0 : Ship) : Option (Ship) :=
  chk (a0.Thrust.length ≤ 1000000) (chk (a0.Water.length ≤ 1000000) (chk (a0.Ice.length ≤ 1000000) (some a0)))

theorem c28 (F : Nat) (a0 : Ship) (a0_Thrust_s : SlV) (a0_Water_s : SlV) (a0_Ice_s : SlV) (w : World) (ha0_Thrust : SlIs encPt 2 w a0_Thrust_s a0.Thrust) (ha0_Water : SlIs encPt 2 w a0_Water_s a0.Water) (ha0_Ice : SlIs encPt 2 w a0_Ice_s a0.Ice) (r : Ship) (hm : m28 F a0 = some r) : Calls Tryd.prog 28 #[.agg #[.int .i64 a0.Class, .int .i64 a0.Power, .int .i64 a0.Draught, .int .i64 a0.Tonnes, .slice a0_Thrust_s.p a0_Thrust_s.n a0_Thrust_s.c, .slice a0_Water_s.p a0_Water_s.n a0_Water_s.c, .slice a0_Ice_s.p a0_Ice_s.n a0_Ice_s.c, .int .i64 a0.Slow, .int .i64 a0.Brash, .int .i64 a0.Ridge, .int .i64 a0.Press]] w fun e w' => ∃ sl : List SlV, e = .returned ((fun vs => .agg #[.int .i64 r.Class, .int .i64 r.Power, .int .i64 r.Draught, .int .i64 r.Tonnes, (vs.getD 0 (.bool false)), (vs.getD 1 (.bool false)), (vs.getD 2 (.bool false)), .int .i64 r.Slow, .int .i64 r.Brash, .int .i64 r.Ridge, .int .i64 r.Press]) (sl.map SlV.val)) ∧ NewRowsD w w' sl [(r.Thrust.length, 84, 2, r.Thrust.flatMap encPt), (r.Water.length, 84, 2, r.Water.flatMap encPt), (r.Ice.length, 84, 2, r.Ice.flatMap encPt)] ∧ Below w.heap.size w w' := by
  obtain ⟨a0_Thrust_p, a0_Thrust_n, a0_Thrust_c⟩ := a0_Thrust_s
  have ha0_Thrust_l : a0_Thrust_n = a0.Thrust.length := ha0_Thrust.1
  subst ha0_Thrust_l
  obtain ⟨a0_Thrust_b, a0_Thrust_o, ha0_Thrust_p, ha0_Thrust_L⟩ := SlAt.lies' ha0_Thrust
  obtain ⟨a0_Water_p, a0_Water_n, a0_Water_c⟩ := a0_Water_s
  have ha0_Water_l : a0_Water_n = a0.Water.length := ha0_Water.1
  subst ha0_Water_l
  obtain ⟨a0_Water_b, a0_Water_o, ha0_Water_p, ha0_Water_L⟩ := SlAt.lies' ha0_Water
  obtain ⟨a0_Ice_p, a0_Ice_n, a0_Ice_c⟩ := a0_Ice_s
  have ha0_Ice_l : a0_Ice_n = a0.Ice.length := ha0_Ice.1
  subst ha0_Ice_l
  obtain ⟨a0_Ice_b, a0_Ice_o, ha0_Ice_p, ha0_Ice_L⟩ := SlAt.lies' ha0_Ice
  unfold m28 at hm
  refine enter (args := [.g [.i a0.Class, .i a0.Power, .i a0.Draught, .i a0.Tonnes, .v (.slice a0_Thrust_p a0.Thrust.length a0_Thrust_c), .v (.slice a0_Water_p a0.Water.length a0_Water_c), .v (.slice a0_Ice_p a0.Ice.length a0_Ice_c), .i a0.Slow, .i a0.Brash, .i a0.Ridge, .i a0.Press]]) Tryd.func28 rfl (N := 16) rfl (Nat.le_of_ble_eq_true rfl) ?_
  refine aw_seq ?_
  refine aw_text (rows := [_, _]) rfl (by kernel_rfl) ⟨
    ok_plain rfl rfl (op_boxN (L := 1) (ltN rfl) rfl rfl rfl),
    ok_plain rfl rfl (op_alloc (L := 2) (ltN rfl) zl_25),
    trivial⟩ ?_
  refine fin_keep (s' := [kt 1 (.p 1 0), kt 2 (.p 2 0), kb 1 25 11, kb 2 25 11, kc 1 0 (.i a0.Class), kc 1 1 (.i a0.Power), kc 1 2 (.i a0.Draught), kc 1 3 (.i a0.Tonnes), kc 1 4 (.v (.slice a0_Thrust_p a0.Thrust.length a0_Thrust_c)), kc 1 5 (.v (.slice a0_Water_p a0.Water.length a0_Water_c)), kc 1 6 (.v (.slice a0_Ice_p a0.Ice.length a0_Ice_c)), kc 1 7 (.i a0.Slow), kc 1 8 (.i a0.Brash), kc 1 9 (.i a0.Ridge), kc 1 10 (.i a0.Press), kc 2 0 (.i 0), kc 2 1 (.i 0), kc 2 2 (.i 0), kc 2 3 (.i 0), kc 2 4 (.v (.slice none 0 0)), kc 2 5 (.v (.slice none 0 0)), kc 2 6 (.v (.slice none 0 0)), kc 2 7 (.i 0), kc 2 8 (.i 0), kc 2 9 (.i 0), kc 2 10 (.i 0)]) ?_ (kp rfl) rfl
  refine fin_then ?_
  refine aw_seq ?_
  obtain ⟨hp1, hm⟩ := chk_some hm
  obtain ⟨hp2, hm⟩ := chk_some hm
  obtain ⟨hp3, hm⟩ := chk_some hm
  refine aw_any (rows := [_, _, _, _, _, _, _, _, _, _, _, _, _, _, _]) (M := [0, 1, 3, 0, 8, 31, 0, 64, 255, 223, 1023, 2047, 4095, 8191, 16383]) Tryd_mixed (by kernel_rfl) rfl (by kernel_rfl) ⟨
    ok_plain rfl rfl (op_fieldAddr (ltN rfl) rfl fo_25_4),
    ok_plain rfl rfl (op_load1 (ltN rfl) sh_23 rfl rfl),
    ok_plain rfl rfl (op_callRowR (L := 3) (C := 4) (own := true) (x := .o 3 4 a0.Thrust.length) (R := fun p c => (.slice p a0.Thrust.length c)) (fs := []) (caps := []) (extra := []) (ltN rfl) en_42 rfl ⟨rfl, rfl, rfl⟩ (EvL.cons rfl EvL.nil) (by decide) (fun mm p c h => by show ((den mm (.o 3 4 a0.Thrust.length)) : Value) = _; rw [h]) (fun mm aa ww gg hr hrel => (c42 a0.Thrust ⟨a0_Thrust_p, a0.Thrust.length, a0_Thrust_c⟩ ww (SlIs.mono ha0_Thrust hrel.below) hp1))),
    ok_plain rfl rfl (op_fieldAddr (ltN rfl) rfl fo_25_5),
    ok_plain rfl rfl (op_load1 (ltN rfl) sh_23 rfl rfl),
    ok_plain rfl rfl (op_callRowR (L := 5) (C := 6) (own := true) (x := .o 5 6 a0.Water.length) (R := fun p c => (.slice p a0.Water.length c)) (fs := []) (caps := []) (extra := []) (ltN rfl) en_42 rfl ⟨rfl, rfl, rfl⟩ (EvL.cons rfl EvL.nil) (by decide) (fun mm p c h => by show ((den mm (.o 5 6 a0.Water.length)) : Value) = _; rw [h]) (fun mm aa ww gg hr hrel => (c42 a0.Water ⟨a0_Water_p, a0.Water.length, a0_Water_c⟩ ww (SlIs.mono ha0_Water hrel.below) hp2))),
    ok_plain rfl rfl (op_fieldAddr (ltN rfl) rfl fo_25_6),
    ok_plain rfl rfl (op_load1 (ltN rfl) sh_23 rfl rfl),
    ok_plain rfl rfl (op_callRowR (L := 7) (C := 8) (own := true) (x := .o 7 8 a0.Ice.length) (R := fun p c => (.slice p a0.Ice.length c)) (fs := []) (caps := []) (extra := []) (ltN rfl) en_42 rfl ⟨rfl, rfl, rfl⟩ (EvL.cons rfl EvL.nil) (by decide) (fun mm p c h => by show ((den mm (.o 7 8 a0.Ice.length)) : Value) = _; rw [h]) (fun mm aa ww gg hr hrel => (c42 a0.Ice ⟨a0_Ice_p, a0.Ice.length, a0_Ice_c⟩ ww (SlIs.mono ha0_Ice hrel.below) hp3))),
    ok_plain rfl rfl (op_fieldAddr (ltN rfl) rfl fo_25_4),
    ok_plain rfl rfl (op_store1 sz_23 rfl rfl rfl rfl (ltN rfl)),
    ok_plain rfl rfl (op_fieldAddr (ltN rfl) rfl fo_25_5),
    ok_plain rfl rfl (op_store1 sz_23 rfl rfl rfl rfl (ltN rfl)),
    ok_plain rfl rfl (op_fieldAddr (ltN rfl) rfl fo_25_6),
    ok_plain rfl rfl (op_store1 sz_23 rfl rfl rfl rfl (ltN rfl)),
    trivial⟩ ?_
  refine fin_keep (s' := [kt 1 (.p 1 0), kt 2 (.p 2 0), kb 1 25 11, kb 2 25 11, (.r 3, some (.vec true 4 84 2 (a0.Thrust.flatMap encPt))), (.r 5, some (.vec true 6 84 2 (a0.Water.flatMap encPt))), (.r 7, some (.vec true 8 84 2 (a0.Ice.flatMap encPt))), kc 1 0 (.i a0.Class), kc 1 1 (.i a0.Power), kc 1 2 (.i a0.Draught), kc 1 3 (.i a0.Tonnes), kc 1 4 (.o 3 4 a0.Thrust.length), kc 1 5 (.o 5 6 a0.Water.length), kc 1 6 (.o 7 8 a0.Ice.length), kc 1 7 (.i a0.Slow), kc 1 8 (.i a0.Brash), kc 1 9 (.i a0.Ridge), kc 1 10 (.i a0.Press), kc 2 0 (.i 0), kc 2 1 (.i 0), kc 2 2 (.i 0), kc 2 3 (.i 0), kc 2 4 (.v (.slice none 0 0)), kc 2 5 (.v (.slice none 0 0)), kc 2 6 (.v (.slice none 0 0)), kc 2 7 (.i 0), kc 2 8 (.i 0), kc 2 9 (.i 0), kc 2 10 (.i 0)]) ?_ (kp rfl) rfl
  refine fin_then ?_
  refine aw_seq ?_
  refine aw_text (rows := [_, _]) rfl (by kernel_rfl) ⟨
    ok_plain rfl rfl (op_loadN (ys := [.i a0.Class, .i a0.Power, .i a0.Draught, .i a0.Tonnes, .o 3 4 a0.Thrust.length, .o 5 6 a0.Water.length, .o 7 8 a0.Ice.length, .i a0.Slow, .i a0.Brash, .i a0.Ridge, .i a0.Press]) (ltN rfl) sh_25 rfl rfl ⟨rfl, rfl, rfl, rfl, rfl, rfl, rfl, rfl, rfl, rfl, rfl, trivial⟩),
    ok_plain rfl rfl (op_storeN sz_25 rfl rfl rfl rfl rfl (by decide)),
    trivial⟩ ?_
  refine fin_keep (s' := [kt 2 (.p 2 0), kb 2 25 11, (.r 3, some (.vec true 4 84 2 (a0.Thrust.flatMap encPt))), (.r 5, some (.vec true 6 84 2 (a0.Water.flatMap encPt))), (.r 7, some (.vec true 8 84 2 (a0.Ice.flatMap encPt))), kc 2 0 (.i a0.Class), kc 2 1 (.i a0.Power), kc 2 2 (.i a0.Draught), kc 2 3 (.i a0.Tonnes), kc 2 4 (.o 3 4 a0.Thrust.length), kc 2 5 (.o 5 6 a0.Water.length), kc 2 6 (.o 7 8 a0.Ice.length), kc 2 7 (.i a0.Slow), kc 2 8 (.i a0.Brash), kc 2 9 (.i a0.Ridge), kc 2 10 (.i a0.Press)]) ?_ (kp rfl) rfl
  refine fin_then ?_
  refine aw_ret ?_
  refine post_ret (x := .g [.i a0.Class, .i a0.Power, .i a0.Draught, .i a0.Tonnes, .o 3 4 a0.Thrust.length, .o 5 6 a0.Water.length, .o 7 8 a0.Ice.length, .i a0.Slow, .i a0.Brash, .i a0.Ridge, .i a0.Press]) rfl rfl (resOK_cellN (ys := [.i a0.Class, .i a0.Power, .i a0.Draught, .i a0.Tonnes, .o 3 4 a0.Thrust.length, .o 5 6 a0.Water.length, .o 7 8 a0.Ice.length, .i a0.Slow, .i a0.Brash, .i a0.Ridge, .i a0.Press]) rfl sh_25 rfl ⟨rfl, rfl, rfl, rfl, rfl, rfl, rfl, rfl, rfl, rfl, rfl, trivial⟩ resOK_nil) rfl (fun mm aa ww hr => ?_)
  have hm := Option.some.inj hm
  subst hm
  exact ⟨[⟨ptr0 (mm 3) (mm 4), a0.Thrust.length, mm 4⟩, ⟨ptr0 (mm 5) (mm 6), a0.Water.length, mm 6⟩, ⟨ptr0 (mm 7) (mm 8), a0.Ice.length, mm 8⟩], rfl, ⟨⟨rfl, newAt_row hr mine_nil rfl (flat_length (enc := encPt) (fun _ => rfl) _), rfl, newAt_row hr mine_nil rfl (flat_length (enc := encPt) (fun _ => rfl) _), rfl, newAt_row hr mine_nil rfl (flat_length (enc := encPt) (fun _ => rfl) _), trivial⟩, ⟨⟨apart_rr hr rfl rfl (by decide), apart_rr hr rfl rfl (by decide), trivial⟩, ⟨⟨apart_rr hr rfl rfl (by decide), trivial⟩, ⟨trivial, trivial⟩⟩⟩⟩, hr.below⟩

def m45 (F : Nat) (a0 : List Pt) : Option (List Pt) :=
  join (fun (x1 : List Pt) => some x1) (fun k1 => loopC (fun (x2 : List Pt × Int) n2 => brk (decide (x2.2 < (((a0.length : Nat) : Int)))) (chk (0 ≤ x2.2 ∧ x2.2 < ((a0.length : Nat) : Int)) (chk (x2.1.length ≤ 1000000) (chk (InR (x2.2 + 1)) (n2 ((x2.1 ++ [(pt a0 x2.2)]), x2.2 + 1))))) (k1 x2.1)) F ([], 0))

theorem c45 (F : Nat) (a0 : List Pt) (a0_s : SlV) (w : World) (ha0 : SlIs encPt 2 w a0_s a0) (r : List Pt) (hm : m45 F a0 = some r) : Calls Tryd.prog 45 #[.slice a0_s.p a0_s.n a0_s.c] w fun e w' => ∃ sl : List SlV, e = .returned ((fun vs => (vs.getD 0 (.bool false))) (sl.map SlV.val)) ∧ NewRowsD w w' sl [(r.length, 170, 2, r.flatMap encPt)] ∧ Below w.heap.size w w' := by
  obtain ⟨a0_p, a0_n, a0_c⟩ := a0_s
  have ha0_l : a0_n = a0.length := ha0.1
  subst ha0_l
  obtain ⟨a0_b, a0_o, ha0_p, ha0_L⟩ := SlAt.lies' ha0
  unfold m45 at hm
  refine enter (args := [.v (.slice a0_p a0.length a0_c)]) Tryd.func45 rfl (N := 18) rfl (Nat.le_of_ble_eq_true rfl) ?_
  refine aw_seq ?_
  refine aw_text (rows := [_]) rfl (by kernel_rfl) ⟨
    ok_plain rfl rfl (op_assign (ltN rfl) rfl),
    trivial⟩ ?_
  refine fin_keep (s' := [kt 0 (.v (.slice a0_p a0.length a0_c))]) ?_ (kp rfl) rfl
  refine fin_then ?_
  refine aw_seq ?_
  refine aw_text (rows := [_]) rfl (by kernel_rfl) ⟨
    ok_plain rfl rfl (op_assign (ltN rfl) rfl),
    trivial⟩ ?_
  refine fin_keep (s' := [kt 0 (.v (.slice a0_p a0.length a0_c)), kt 3 (.v (.slice none 0 0))]) ?_ (kp rfl) rfl
  refine fin_then ?_
  refine aw_cutM (ι := List Pt) hm (fun x1 => [kt 3 (.o 300 301 x1.length), (.r 300, some (.vec true 301 170 2 (x1.flatMap encPt)))]) (fun hm => ?_) (fun x1 hm => ?_)
  · have _z := hm
    refine aw_seq ?_
    refine aw_text (rows := [_, _, _]) rfl (by kernel_rfl) ⟨
      ok_plain rfl rfl (op_move (ltN rfl) rfl),
      ok_plain rfl rfl (op_len (n := a0.length) (ltN rfl) (by rw [ss_23]; rfl) rfl rfl),
      ok_plain rfl rfl (op_move (ltN rfl) rfl),
      trivial⟩ ?_
    refine fin_keep (s' := [kt 3 (.v (.slice none 0 0)), kt 6 (.v (.slice a0_p a0.length a0_c)), kt 7 (.i (((a0.length : Nat) : Int))), kt 8 (.i 0)]) ?_ (kp rfl) rfl
    refine fin_then ?_
    refine aw_block ?_
    refine aw_nilRowK (.t 3) 1 2 170 2 rfl rfl rfl (by decide) ?_
    refine aw_swp [(1, 300), (2, 301)] rfl ?_
    refine aw_loopC hm (fun x2 => [kt 3 (.o 300 301 x2.1.length), kt 6 (.v (.slice a0_p a0.length a0_c)), kt 7 (.i (((a0.length : Nat) : Int))), kt 8 (.i x2.2), (.r 300, some (.vec true 301 170 2 (x2.1.flatMap encPt)))]) ⟨rfl, rfl, rfl, rfl, rfl, trivial⟩ rfl (fun x2 n2 hm => ?_)
    refine aw_seq ?_
    refine aw_text (rows := [_]) rfl (by kernel_rfl) ⟨
      ok_plain rfl rfl (op_bin (ltN rfl) rfl rfl rfl),
      trivial⟩ ?_
    refine fin_keep (s' := [kt 3 (.o 300 301 x2.1.length), kt 6 (.v (.slice a0_p a0.length a0_c)), kt 7 (.i (((a0.length : Nat) : Int))), kt 8 (.i x2.2), kt 9 (.B (decide (x2.2 < (((a0.length : Nat) : Int))))), (.r 300, some (.vec true 301 170 2 (x2.1.flatMap encPt)))]) ?_ (kp rfl) rfl
    refine fin_then ?_
    refine aw_seq ?_
    refine aw_cond rfl (fun hz1 => ?_) (fun hz1 => ?_)
    · have hm := brk_t hz1 hm
      refine aw_skip ?_
      refine fin_then ?_
      refine aw_seq ?_
      refine aw_block ?_
      refine aw_seq ?_
      obtain ⟨hp2, hm⟩ := chk_some hm
      refine aw_text (rows := [_, _, _, _]) rfl (by kernel_rfl) ⟨
        ok_plain rfl rfl (op_ixB (ltN rfl) rfl rfl ss_23 (ha0_p (ne_of_ix (i := x2.2) hp2.1 hp2.2)) hp2.1 hp2.2),
        ok_plain rfl rfl (op_loadB (y := .g [.i (((pt a0 x2.2)).X), .i (((pt a0 x2.2)).Y)]) (ltN rfl) rfl (ldN (ha0_L (ne_of_ix (i := x2.2) hp2.1 hp2.2)) ⟨0, 0⟩ (i := x2.2) hp2.1 hp2.2 0 (vs := [(.int .i64 (((pt a0 x2.2)).X)), (.int .i64 (((pt a0 x2.2)).Y))]) (fun zq zv zh => sub_get (vs := [(.int .i64 (((pt a0 x2.2)).X)), (.int .i64 (((pt a0 x2.2)).Y))]) rfl zh) rfl sh_84 rfl)),
        ok_plain rfl rfl (op_alloc (L := 3) (ltN rfl) zl_84),
        ok_plain rfl rfl (op_storeN sz_84 rfl rfl rfl rfl rfl (by decide)),
        trivial⟩ ?_
      refine fin_keep (s' := [kt 3 (.o 300 301 x2.1.length), kt 5 (.p 3 0), kt 6 (.v (.slice a0_p a0.length a0_c)), kt 7 (.i (((a0.length : Nat) : Int))), kt 8 (.i x2.2), kb 3 84 2, (.r 300, some (.vec true 301 170 2 (x2.1.flatMap encPt))), kc 3 0 (.i (((pt a0 x2.2)).X)), kc 3 1 (.i (((pt a0 x2.2)).Y))]) ?_ (kp rfl) rfl
      refine fin_then ?_
      obtain ⟨hp3, hm⟩ := chk_some hm
      refine aw_text (rows := [_, _, _, _, _]) rfl (by kernel_rfl) ⟨
        ok_plain rfl rfl (op_move (ltN rfl) rfl),
        ok_plain rfl rfl (op_loadN (ys := [.i (((pt a0 x2.2)).X), .i (((pt a0 x2.2)).Y)]) (ltN rfl) sh_84 rfl rfl ⟨rfl, rfl, trivial⟩),
        ok_plain rfl rfl (op_buildSlice (L := 4) (ety := 170) (cs := [.i (((pt a0 x2.2)).X), .i (((pt a0 x2.2)).Y)]) (ltN rfl) (EvL.cons rfl EvL.nil) rfl (fun m w => by kernel_rfl)),
        ok_plain rfl rfl (op_append (L' := 5) (C' := 6) (vs := [(.int .i64 (((pt a0 x2.2)).X)), (.int .i64 (((pt a0 x2.2)).Y))]) (ltN rfl) af_62 rfl rfl (flat_length (enc := encPt) (fun _ => rfl) x2.1) rfl ⟨rfl, rfl, trivial⟩ rfl rfl (by decide) (by have := hp3; omega) (by have := hp3; omega) (by decide)),
        ok_plain rfl rfl (op_assign (ltN rfl) rfl),
        trivial⟩ ?_
      refine fin_keep (s' := [kt 3 (.o 5 6 ((x2.1 ++ [(pt a0 x2.2)]).length)), kt 6 (.v (.slice a0_p a0.length a0_c)), kt 7 (.i (((a0.length : Nat) : Int))), kt 8 (.i x2.2), (.r 5, some (.vec true 6 170 2 ((x2.1 ++ [(pt a0 x2.2)]).flatMap encPt)))]) ?_ ⟨(congrArg (fun q => some (Val.x (SV.o 5 6 q))) (len_snoc x2.1 ((pt a0 x2.2)))), rfl, rfl, rfl, (Eq.trans (b := some (Val.vec true 6 170 2 (x2.1.flatMap encPt ++ [(.int .i64 (((pt a0 x2.2)).X)), (.int .i64 (((pt a0 x2.2)).Y))]))) rfl (congrArg (fun q => some (Val.vec true 6 170 2 q)) (flat_snoc (enc := encPt) x2.1 ((pt a0 x2.2))))), trivial⟩ rfl
      refine fin_block ?_
      refine fin_then ?_
      obtain ⟨hp4, hm⟩ := chk_some hm
      refine aw_text (rows := [_, _]) rfl (by kernel_rfl) ⟨
        ok_plain rfl rfl (op_bin (ltN rfl) rfl rfl (nw_add hp4)),
        ok_plain rfl rfl (op_move (ltN rfl) rfl),
        trivial⟩ ?_
      refine fin_keep (s' := [kt 3 (.o 5 6 ((x2.1 ++ [(pt a0 x2.2)]).length)), kt 6 (.v (.slice a0_p a0.length a0_c)), kt 7 (.i (((a0.length : Nat) : Int))), kt 8 (.i (x2.2 + 1)), (.r 5, some (.vec true 6 170 2 ((x2.1 ++ [(pt a0 x2.2)]).flatMap encPt)))]) ?_ (kp rfl) rfl
      refine fin_swp [(5, 300), (6, 301)] rfl ?_
      exact fin_cut ((x2.1 ++ [(pt a0 x2.2)]), x2.2 + 1) hm ⟨rfl, rfl, rfl, rfl, rfl, trivial⟩ rfl
    · have hm := brk_f hz1 hm
      refine aw_exit ?_
      refine fin_then_exit ?_
      refine fin_then_exit ?_
      refine fin_block_exit ?_
      exact fin_cut x2.1 hm ⟨rfl, rfl, trivial⟩ rfl
  · have _z := hm
    refine aw_seq ?_
    refine aw_text (rows := [_, _]) rfl (by kernel_rfl) ⟨
      ok_plain rfl rfl (op_move (ltN rfl) rfl),
      ok_plain rfl rfl (op_assign (ltN rfl) rfl),
      trivial⟩ ?_
    refine fin_keep (s' := [kt 2 (.o 300 301 x1.length), (.r 300, some (.vec true 301 170 2 (x1.flatMap encPt)))]) ?_ (kp rfl) rfl
    refine fin_then ?_
    refine aw_ret ?_
    refine post_ret (x := .o 300 301 x1.length) rfl rfl (resOK_tmp rfl resOK_nil) rfl (fun mm aa ww hr => ?_)
    have hm := Option.some.inj hm
    subst hm
    exact ⟨[⟨ptr0 (mm 300) (mm 301), x1.length, mm 301⟩], rfl, ⟨⟨rfl, newAt_row hr mine_nil rfl (flat_length (enc := encPt) (fun _ => rfl) _), trivial⟩, ⟨trivial, trivial⟩⟩, hr.below⟩

def m32 (F : Nat) (a0 : Ship) : Option (Ship) :=
  bnd (m45 F a0.Thrust) (fun v1 => bnd (m45 F a0.Water) (fun v2 => bnd (m45 F a0.Ice) (fun v3 => some ((⟨a0.Class, a0.Power, a0.Draught, a0.Tonnes, v1, v2, v3, a0.Slow, a0.Brash, a0.Ridge, a0.Press⟩ : Ship)))))

theorem c32 (F : Nat) (a0 : Ship) (a0_Thrust_s : SlV) (a0_Water_s : SlV) (a0_Ice_s : SlV) (w : World) (ha0_Thrust : SlIs encPt 2 w a0_Thrust_s a0.Thrust) (ha0_Water : SlIs encPt 2 w a0_Water_s a0.Water) (ha0_Ice : SlIs encPt 2 w a0_Ice_s a0.Ice) (r : Ship) (hm : m32 F a0 = some r) : Calls Tryd.prog 32 #[.agg #[.int .i64 a0.Class, .int .i64 a0.Power, .int .i64 a0.Draught, .int .i64 a0.Tonnes, .slice a0_Thrust_s.p a0_Thrust_s.n a0_Thrust_s.c, .slice a0_Water_s.p a0_Water_s.n a0_Water_s.c, .slice a0_Ice_s.p a0_Ice_s.n a0_Ice_s.c, .int .i64 a0.Slow, .int .i64 a0.Brash, .int .i64 a0.Ridge, .int .i64 a0.Press]] w fun e w' => ∃ sl : List SlV, e = .returned ((fun vs => .agg #[.int .i64 r.Class, .int .i64 r.Power, .int .i64 r.Draught, .int .i64 r.Tonnes, (vs.getD 0 (.bool false)), (vs.getD 1 (.bool false)), (vs.getD 2 (.bool false)), .int .i64 r.Slow, .int .i64 r.Brash, .int .i64 r.Ridge, .int .i64 r.Press]) (sl.map SlV.val)) ∧ NewRowsD w w' sl [(r.Thrust.length, 170, 2, r.Thrust.flatMap encPt), (r.Water.length, 170, 2, r.Water.flatMap encPt), (r.Ice.length, 170, 2, r.Ice.flatMap encPt)] ∧ Below w.heap.size w w' := by
  obtain ⟨a0_Thrust_p, a0_Thrust_n, a0_Thrust_c⟩ := a0_Thrust_s
  have ha0_Thrust_l : a0_Thrust_n = a0.Thrust.length := ha0_Thrust.1
  subst ha0_Thrust_l
  obtain ⟨a0_Thrust_b, a0_Thrust_o, ha0_Thrust_p, ha0_Thrust_L⟩ := SlAt.lies' ha0_Thrust
  obtain ⟨a0_Water_p, a0_Water_n, a0_Water_c⟩ := a0_Water_s
  have ha0_Water_l : a0_Water_n = a0.Water.length := ha0_Water.1
  subst ha0_Water_l
  obtain ⟨a0_Water_b, a0_Water_o, ha0_Water_p, ha0_Water_L⟩ := SlAt.lies' ha0_Water
  obtain ⟨a0_Ice_p, a0_Ice_n, a0_Ice_c⟩ := a0_Ice_s
  have ha0_Ice_l : a0_Ice_n = a0.Ice.length := ha0_Ice.1
  subst ha0_Ice_l
  obtain ⟨a0_Ice_b, a0_Ice_o, ha0_Ice_p, ha0_Ice_L⟩ := SlAt.lies' ha0_Ice
  unfold m32 at hm
  refine enter (args := [.g [.i a0.Class, .i a0.Power, .i a0.Draught, .i a0.Tonnes, .v (.slice a0_Thrust_p a0.Thrust.length a0_Thrust_c), .v (.slice a0_Water_p a0.Water.length a0_Water_c), .v (.slice a0_Ice_p a0.Ice.length a0_Ice_c), .i a0.Slow, .i a0.Brash, .i a0.Ridge, .i a0.Press]]) Tryd.func32 rfl (N := 29) rfl (Nat.le_of_ble_eq_true rfl) ?_
  refine aw_seq ?_
  refine aw_text (rows := [_, _]) rfl (by kernel_rfl) ⟨
    ok_plain rfl rfl (op_boxN (L := 1) (ltN rfl) rfl rfl rfl),
    ok_plain rfl rfl (op_alloc (L := 2) (ltN rfl) zl_64),
    trivial⟩ ?_
  refine fin_keep (s' := [kt 1 (.p 1 0), kt 2 (.p 2 0), kb 1 25 11, kb 2 64 11, kc 1 0 (.i a0.Class), kc 1 1 (.i a0.Power), kc 1 2 (.i a0.Draught), kc 1 3 (.i a0.Tonnes), kc 1 4 (.v (.slice a0_Thrust_p a0.Thrust.length a0_Thrust_c)), kc 1 5 (.v (.slice a0_Water_p a0.Water.length a0_Water_c)), kc 1 6 (.v (.slice a0_Ice_p a0.Ice.length a0_Ice_c)), kc 1 7 (.i a0.Slow), kc 1 8 (.i a0.Brash), kc 1 9 (.i a0.Ridge), kc 1 10 (.i a0.Press), kc 2 0 (.i 0), kc 2 1 (.i 0), kc 2 2 (.i 0), kc 2 3 (.i 0), kc 2 4 (.v (.slice none 0 0)), kc 2 5 (.v (.slice none 0 0)), kc 2 6 (.v (.slice none 0 0)), kc 2 7 (.i 0), kc 2 8 (.i 0), kc 2 9 (.i 0), kc 2 10 (.i 0)]) ?_ (kp rfl) rfl
  refine fin_then ?_
  refine aw_seq ?_
  obtain ⟨v1, hv1, hm⟩ := bnd_some hm
  obtain ⟨v2, hv2, hm⟩ := bnd_some hm
  obtain ⟨v3, hv3, hm⟩ := bnd_some hm
  refine aw_any (rows := [_, _, _, _, _, _, _, _, _, _, _, _, _, _, _, _, _, _, _, _, _, _, _, _, _, _, _]) (M := [0, 1, 0, 4, 0, 16, 0, 64, 0, 256, 768, 0, 2048, 7936, 0, 16384, 65280, 0, 131072, 0, 524288, 0, 2097152, 0, 8388608, 33554431, 67108863]) Tryd_mixed (by kernel_rfl) rfl (by kernel_rfl) ⟨
    ok_plain rfl rfl (op_fieldAddr (ltN rfl) rfl fo_25_0),
    ok_plain rfl rfl (op_load1 (ltN rfl) sh_3 rfl rfl),
    ok_plain rfl rfl (op_fieldAddr (ltN rfl) rfl fo_25_1),
    ok_plain rfl rfl (op_load1 (ltN rfl) sh_3 rfl rfl),
    ok_plain rfl rfl (op_fieldAddr (ltN rfl) rfl fo_25_2),
    ok_plain rfl rfl (op_load1 (ltN rfl) sh_3 rfl rfl),
    ok_plain rfl rfl (op_fieldAddr (ltN rfl) rfl fo_25_3),
    ok_plain rfl rfl (op_load1 (ltN rfl) sh_3 rfl rfl),
    ok_plain rfl rfl (op_fieldAddr (ltN rfl) rfl fo_25_4),
    ok_plain rfl rfl (op_load1 (ltN rfl) sh_23 rfl rfl),
    ok_plain rfl rfl (op_callRowsD (x := .o 3 4 v1.length) (R := (fun vs => (vs.getD 0 (.bool false)))) (ls := [(3, 4)]) (ds := [(v1.length, 170, 2, v1.flatMap encPt)]) (fs := []) (caps := []) (extra := []) (ltN rfl) en_45 rfl ⟨rfl, rfl, rfl⟩ (EvL.cons rfl EvL.nil) rfl rfl (fun _ => rfl) (fun mm aa ww gg hr hrel => (c45 F a0.Thrust ⟨a0_Thrust_p, a0.Thrust.length, a0_Thrust_c⟩ ww (SlIs.mono ha0_Thrust hrel.below) v1 hv1))),
    ok_plain rfl rfl (op_fieldAddr (ltN rfl) rfl fo_25_5),
    ok_plain rfl rfl (op_load1 (ltN rfl) sh_23 rfl rfl),
    ok_plain rfl rfl (op_callRowsD (x := .o 5 6 v2.length) (R := (fun vs => (vs.getD 0 (.bool false)))) (ls := [(5, 6)]) (ds := [(v2.length, 170, 2, v2.flatMap encPt)]) (fs := []) (caps := []) (extra := []) (ltN rfl) en_45 rfl ⟨rfl, rfl, rfl⟩ (EvL.cons rfl EvL.nil) rfl rfl (fun _ => rfl) (fun mm aa ww gg hr hrel => (c45 F a0.Water ⟨a0_Water_p, a0.Water.length, a0_Water_c⟩ ww (SlIs.mono ha0_Water hrel.below) v2 hv2))),
    ok_plain rfl rfl (op_fieldAddr (ltN rfl) rfl fo_25_6),
    ok_plain rfl rfl (op_load1 (ltN rfl) sh_23 rfl rfl),
    ok_plain rfl rfl (op_callRowsD (x := .o 7 8 v3.length) (R := (fun vs => (vs.getD 0 (.bool false)))) (ls := [(7, 8)]) (ds := [(v3.length, 170, 2, v3.flatMap encPt)]) (fs := []) (caps := []) (extra := []) (ltN rfl) en_45 rfl ⟨rfl, rfl, rfl⟩ (EvL.cons rfl EvL.nil) rfl rfl (fun _ => rfl) (fun mm aa ww gg hr hrel => (c45 F a0.Ice ⟨a0_Ice_p, a0.Ice.length, a0_Ice_c⟩ ww (SlIs.mono ha0_Ice hrel.below) v3 hv3))),
    ok_plain rfl rfl (op_fieldAddr (ltN rfl) rfl fo_25_7),
    ok_plain rfl rfl (op_load1 (ltN rfl) sh_3 rfl rfl),
    ok_plain rfl rfl (op_fieldAddr (ltN rfl) rfl fo_25_8),
    ok_plain rfl rfl (op_load1 (ltN rfl) sh_3 rfl rfl),
    ok_plain rfl rfl (op_fieldAddr (ltN rfl) rfl fo_25_9),
    ok_plain rfl rfl (op_load1 (ltN rfl) sh_3 rfl rfl),
    ok_plain rfl rfl (op_fieldAddr (ltN rfl) rfl fo_25_10),
    ok_plain rfl rfl (op_load1 (ltN rfl) sh_3 rfl rfl),
    ok_plain rfl rfl (op_build (x := .g [.i a0.Class, .i a0.Power, .i a0.Draught, .i a0.Tonnes, .o 3 4 v1.length, .o 5 6 v2.length, .o 7 8 v3.length, .i a0.Slow, .i a0.Brash, .i a0.Ridge, .i a0.Press]) (ltN rfl) (EvL.cons rfl (EvL.cons rfl (EvL.cons rfl (EvL.cons rfl (EvL.cons rfl (EvL.cons rfl (EvL.cons rfl (EvL.cons rfl (EvL.cons rfl (EvL.cons rfl (EvL.cons rfl EvL.nil))))))))))) (fun m w => by kernel_rfl)),
    ok_plain rfl rfl (op_storeN sz_64 rfl rfl rfl rfl rfl (by decide)),
    trivial⟩ ?_
  refine fin_keep (s' := [kt 2 (.p 2 0), kb 2 64 11, (.r 3, some (.vec true 4 170 2 (v1.flatMap encPt))), (.r 5, some (.vec true 6 170 2 (v2.flatMap encPt))), (.r 7, some (.vec true 8 170 2 (v3.flatMap encPt))), kc 2 0 (.i a0.Class), kc 2 1 (.i a0.Power), kc 2 2 (.i a0.Draught), kc 2 3 (.i a0.Tonnes), kc 2 4 (.o 3 4 v1.length), kc 2 5 (.o 5 6 v2.length), kc 2 6 (.o 7 8 v3.length), kc 2 7 (.i a0.Slow), kc 2 8 (.i a0.Brash), kc 2 9 (.i a0.Ridge), kc 2 10 (.i a0.Press)]) ?_ (kp rfl) rfl
  refine fin_then ?_
  refine aw_ret ?_
  refine post_ret (x := .g [.i a0.Class, .i a0.Power, .i a0.Draught, .i a0.Tonnes, .o 3 4 v1.length, .o 5 6 v2.length, .o 7 8 v3.length, .i a0.Slow, .i a0.Brash, .i a0.Ridge, .i a0.Press]) rfl rfl (resOK_cellN (ys := [.i a0.Class, .i a0.Power, .i a0.Draught, .i a0.Tonnes, .o 3 4 v1.length, .o 5 6 v2.length, .o 7 8 v3.length, .i a0.Slow, .i a0.Brash, .i a0.Ridge, .i a0.Press]) rfl sh_64 rfl ⟨rfl, rfl, rfl, rfl, rfl, rfl, rfl, rfl, rfl, rfl, rfl, trivial⟩ resOK_nil) rfl (fun mm aa ww hr => ?_)
  have hm := Option.some.inj hm
  subst hm
  exact ⟨[⟨ptr0 (mm 3) (mm 4), v1.length, mm 4⟩, ⟨ptr0 (mm 5) (mm 6), v2.length, mm 6⟩, ⟨ptr0 (mm 7) (mm 8), v3.length, mm 8⟩], rfl, ⟨⟨rfl, newAt_row hr mine_nil rfl (flat_length (enc := encPt) (fun _ => rfl) _), rfl, newAt_row hr mine_nil rfl (flat_length (enc := encPt) (fun _ => rfl) _), rfl, newAt_row hr mine_nil rfl (flat_length (enc := encPt) (fun _ => rfl) _), trivial⟩, ⟨⟨apart_rr hr rfl rfl (by decide), apart_rr hr rfl rfl (by decide), trivial⟩, ⟨⟨apart_rr hr rfl rfl (by decide), trivial⟩, ⟨trivial, trivial⟩⟩⟩⟩, hr.below⟩

def m33 (F : Nat) (a0 : List Part) : Option (List Part) :=
  join (fun (x1 : List Part) => some x1) (fun k1 => loopC (fun (x2 : List Part × Int) n2 => brk (decide (x2.2 < (((a0.length : Nat) : Int)))) (chk (0 ≤ x2.2 ∧ x2.2 < ((a0.length : Nat) : Int)) (chk (x2.1.length ≤ 1000000) (chk (InR (x2.2 + 1)) (n2 ((x2.1 ++ [(prt a0 x2.2)]), x2.2 + 1))))) (k1 x2.1)) F ([], 0))

theorem c33 (F : Nat) (a0 : List Part) (a0_s : SlV) (w : World) (ha0 : SlIs encPart 10 w a0_s a0) (r : List Part) (hm : m33 F a0 = some r) : Calls Tryd.prog 33 #[.slice a0_s.p a0_s.n a0_s.c] w fun e w' => ∃ sl : List SlV, e = .returned ((fun vs => (vs.getD 0 (.bool false))) (sl.map SlV.val)) ∧ NewRowsD w w' sl [(r.length, 152, 10, r.flatMap encPart)] ∧ Below w.heap.size w w' := by
  obtain ⟨a0_p, a0_n, a0_c⟩ := a0_s
  have ha0_l : a0_n = a0.length := ha0.1
  subst ha0_l
  obtain ⟨a0_b, a0_o, ha0_p, ha0_L⟩ := SlAt.lies' ha0
  unfold m33 at hm
  refine enter (args := [.v (.slice a0_p a0.length a0_c)]) Tryd.func33 rfl (N := 24) rfl (Nat.le_of_ble_eq_true rfl) ?_
  refine aw_seq ?_
  refine aw_text (rows := [_]) rfl (by kernel_rfl) ⟨
    ok_plain rfl rfl (op_assign (ltN rfl) rfl),
    trivial⟩ ?_
  refine fin_keep (s' := [kt 0 (.v (.slice a0_p a0.length a0_c))]) ?_ (kp rfl) rfl
  refine fin_then ?_
  refine aw_seq ?_
  refine aw_text (rows := [_]) rfl (by kernel_rfl) ⟨
    ok_plain rfl rfl (op_assign (ltN rfl) rfl),
    trivial⟩ ?_
  refine fin_keep (s' := [kt 0 (.v (.slice a0_p a0.length a0_c)), kt 3 (.v (.slice none 0 0))]) ?_ (kp rfl) rfl
  refine fin_then ?_
  refine aw_cutM (ι := List Part) hm (fun x1 => [kt 3 (.o 300 301 x1.length), (.r 300, some (.vec true 301 152 10 (x1.flatMap encPart)))]) (fun hm => ?_) (fun x1 hm => ?_)
  · have _z := hm
    refine aw_seq ?_
    refine aw_text (rows := [_, _, _]) rfl (by kernel_rfl) ⟨
      ok_plain rfl rfl (op_move (ltN rfl) rfl),
      ok_plain rfl rfl (op_len (n := a0.length) (ltN rfl) (by rw [ss_46]; rfl) rfl rfl),
      ok_plain rfl rfl (op_move (ltN rfl) rfl),
      trivial⟩ ?_
    refine fin_keep (s' := [kt 3 (.v (.slice none 0 0)), kt 6 (.v (.slice a0_p a0.length a0_c)), kt 7 (.i (((a0.length : Nat) : Int))), kt 8 (.i 0)]) ?_ (kp rfl) rfl
    refine fin_then ?_
    refine aw_block ?_
    refine aw_nilRowK (.t 3) 1 2 152 10 rfl rfl rfl (by decide) ?_
    refine aw_swp [(1, 300), (2, 301)] rfl ?_
    refine aw_loopC hm (fun x2 => [kt 3 (.o 300 301 x2.1.length), kt 6 (.v (.slice a0_p a0.length a0_c)), kt 7 (.i (((a0.length : Nat) : Int))), kt 8 (.i x2.2), (.r 300, some (.vec true 301 152 10 (x2.1.flatMap encPart)))]) ⟨rfl, rfl, rfl, rfl, rfl, trivial⟩ rfl (fun x2 n2 hm => ?_)
    refine aw_seq ?_
    refine aw_text (rows := [_]) rfl (by kernel_rfl) ⟨
      ok_plain rfl rfl (op_bin (ltN rfl) rfl rfl rfl),
      trivial⟩ ?_
    refine fin_keep (s' := [kt 3 (.o 300 301 x2.1.length), kt 6 (.v (.slice a0_p a0.length a0_c)), kt 7 (.i (((a0.length : Nat) : Int))), kt 8 (.i x2.2), kt 9 (.B (decide (x2.2 < (((a0.length : Nat) : Int))))), (.r 300, some (.vec true 301 152 10 (x2.1.flatMap encPart)))]) ?_ (kp rfl) rfl
    refine fin_then ?_
    refine aw_seq ?_
    refine aw_cond rfl (fun hz1 => ?_) (fun hz1 => ?_)
    · have hm := brk_t hz1 hm
      refine aw_skip ?_
      refine fin_then ?_
      refine aw_seq ?_
      refine aw_block ?_
      refine aw_seq ?_
      obtain ⟨hp2, hm⟩ := chk_some hm
      refine aw_text (rows := [_, _, _, _]) rfl (by kernel_rfl) ⟨
        ok_plain rfl rfl (op_ixB (ltN rfl) rfl rfl ss_46 (ha0_p (ne_of_ix (i := x2.2) hp2.1 hp2.2)) hp2.1 hp2.2),
        ok_plain rfl rfl (op_loadB (y := .g [.i (((((prt a0 x2.2)).Cell).Conc).Lo), .i (((((prt a0 x2.2)).Cell).Conc).Hi), .i (((((prt a0 x2.2)).Cell).Thick).Lo), .i (((((prt a0 x2.2)).Cell).Thick).Hi), .i (((((prt a0 x2.2)).Cell).Ridge).Lo), .i (((((prt a0 x2.2)).Cell).Ridge).Hi), .i (((((prt a0 x2.2)).Cell).Press).Lo), .i (((((prt a0 x2.2)).Cell).Press).Hi), .B (((prt a0 x2.2)).Channel), .i (((prt a0 x2.2)).Length)]) (ltN rfl) rfl (ldN (ha0_L (ne_of_ix (i := x2.2) hp2.1 hp2.2)) default (i := x2.2) hp2.1 hp2.2 0 (vs := [(.int .i64 (((((prt a0 x2.2)).Cell).Conc).Lo)), (.int .i64 (((((prt a0 x2.2)).Cell).Conc).Hi)), (.int .i64 (((((prt a0 x2.2)).Cell).Thick).Lo)), (.int .i64 (((((prt a0 x2.2)).Cell).Thick).Hi)), (.int .i64 (((((prt a0 x2.2)).Cell).Ridge).Lo)), (.int .i64 (((((prt a0 x2.2)).Cell).Ridge).Hi)), (.int .i64 (((((prt a0 x2.2)).Cell).Press).Lo)), (.int .i64 (((((prt a0 x2.2)).Cell).Press).Hi)), (.bool (((prt a0 x2.2)).Channel)), (.int .i64 (((prt a0 x2.2)).Length))]) (fun zq zv zh => sub_get (vs := [(.int .i64 (((((prt a0 x2.2)).Cell).Conc).Lo)), (.int .i64 (((((prt a0 x2.2)).Cell).Conc).Hi)), (.int .i64 (((((prt a0 x2.2)).Cell).Thick).Lo)), (.int .i64 (((((prt a0 x2.2)).Cell).Thick).Hi)), (.int .i64 (((((prt a0 x2.2)).Cell).Ridge).Lo)), (.int .i64 (((((prt a0 x2.2)).Cell).Ridge).Hi)), (.int .i64 (((((prt a0 x2.2)).Cell).Press).Lo)), (.int .i64 (((((prt a0 x2.2)).Cell).Press).Hi)), (.bool (((prt a0 x2.2)).Channel)), (.int .i64 (((prt a0 x2.2)).Length))]) rfl zh) rfl sh_48 rfl)),
        ok_plain rfl rfl (op_alloc (L := 3) (ltN rfl) zl_48),
        ok_plain rfl rfl (op_storeN sz_48 rfl rfl rfl rfl rfl (by decide)),
        trivial⟩ ?_
      refine fin_keep (s' := [kt 3 (.o 300 301 x2.1.length), kt 5 (.p 3 0), kt 6 (.v (.slice a0_p a0.length a0_c)), kt 7 (.i (((a0.length : Nat) : Int))), kt 8 (.i x2.2), kb 3 48 10, (.r 300, some (.vec true 301 152 10 (x2.1.flatMap encPart))), kc 3 0 (.i (((((prt a0 x2.2)).Cell).Conc).Lo)), kc 3 1 (.i (((((prt a0 x2.2)).Cell).Conc).Hi)), kc 3 2 (.i (((((prt a0 x2.2)).Cell).Thick).Lo)), kc 3 3 (.i (((((prt a0 x2.2)).Cell).Thick).Hi)), kc 3 4 (.i (((((prt a0 x2.2)).Cell).Ridge).Lo)), kc 3 5 (.i (((((prt a0 x2.2)).Cell).Ridge).Hi)), kc 3 6 (.i (((((prt a0 x2.2)).Cell).Press).Lo)), kc 3 7 (.i (((((prt a0 x2.2)).Cell).Press).Hi)), kc 3 8 (.B (((prt a0 x2.2)).Channel)), kc 3 9 (.i (((prt a0 x2.2)).Length))]) ?_ (kp rfl) rfl
      refine fin_then ?_
      obtain ⟨hp3, hm⟩ := chk_some hm
      refine aw_text (rows := [_, _, _, _, _, _, _, _, _, _, _]) rfl (by kernel_rfl) ⟨
        ok_plain rfl rfl (op_move (ltN rfl) rfl),
        ok_plain rfl rfl (op_fieldAddr (ltN rfl) rfl fo_48_0),
        ok_plain rfl rfl (op_loadN (ys := [.i (((((prt a0 x2.2)).Cell).Conc).Lo), .i (((((prt a0 x2.2)).Cell).Conc).Hi), .i (((((prt a0 x2.2)).Cell).Thick).Lo), .i (((((prt a0 x2.2)).Cell).Thick).Hi), .i (((((prt a0 x2.2)).Cell).Ridge).Lo), .i (((((prt a0 x2.2)).Cell).Ridge).Hi), .i (((((prt a0 x2.2)).Cell).Press).Lo), .i (((((prt a0 x2.2)).Cell).Press).Hi)]) (ltN rfl) sh_34 rfl rfl ⟨rfl, rfl, rfl, rfl, rfl, rfl, rfl, rfl, trivial⟩),
        ok_plain rfl rfl (op_fieldAddr (ltN rfl) rfl fo_48_1),
        ok_plain rfl rfl (op_load1 (ltN rfl) sh_4 rfl rfl),
        ok_plain rfl rfl (op_fieldAddr (ltN rfl) rfl fo_48_2),
        ok_plain rfl rfl (op_load1 (ltN rfl) sh_3 rfl rfl),
        ok_plain rfl rfl (op_build (x := .g [.i (((((prt a0 x2.2)).Cell).Conc).Lo), .i (((((prt a0 x2.2)).Cell).Conc).Hi), .i (((((prt a0 x2.2)).Cell).Thick).Lo), .i (((((prt a0 x2.2)).Cell).Thick).Hi), .i (((((prt a0 x2.2)).Cell).Ridge).Lo), .i (((((prt a0 x2.2)).Cell).Ridge).Hi), .i (((((prt a0 x2.2)).Cell).Press).Lo), .i (((((prt a0 x2.2)).Cell).Press).Hi), .B (((prt a0 x2.2)).Channel), .i (((prt a0 x2.2)).Length)]) (ltN rfl) (EvL.cons rfl (EvL.cons rfl (EvL.cons rfl EvL.nil))) (fun m w => by kernel_rfl)),
        ok_plain rfl rfl (op_buildSlice (L := 4) (ety := 152) (cs := [.i (((((prt a0 x2.2)).Cell).Conc).Lo), .i (((((prt a0 x2.2)).Cell).Conc).Hi), .i (((((prt a0 x2.2)).Cell).Thick).Lo), .i (((((prt a0 x2.2)).Cell).Thick).Hi), .i (((((prt a0 x2.2)).Cell).Ridge).Lo), .i (((((prt a0 x2.2)).Cell).Ridge).Hi), .i (((((prt a0 x2.2)).Cell).Press).Lo), .i (((((prt a0 x2.2)).Cell).Press).Hi), .B (((prt a0 x2.2)).Channel), .i (((prt a0 x2.2)).Length)]) (ltN rfl) (EvL.cons rfl EvL.nil) rfl (fun m w => by kernel_rfl)),
        ok_plain rfl rfl (op_append (L' := 5) (C' := 6) (vs := [(.int .i64 (((((prt a0 x2.2)).Cell).Conc).Lo)), (.int .i64 (((((prt a0 x2.2)).Cell).Conc).Hi)), (.int .i64 (((((prt a0 x2.2)).Cell).Thick).Lo)), (.int .i64 (((((prt a0 x2.2)).Cell).Thick).Hi)), (.int .i64 (((((prt a0 x2.2)).Cell).Ridge).Lo)), (.int .i64 (((((prt a0 x2.2)).Cell).Ridge).Hi)), (.int .i64 (((((prt a0 x2.2)).Cell).Press).Lo)), (.int .i64 (((((prt a0 x2.2)).Cell).Press).Hi)), (.bool (((prt a0 x2.2)).Channel)), (.int .i64 (((prt a0 x2.2)).Length))]) (ltN rfl) af_66 rfl rfl (flat_length (enc := encPart) (fun _ => rfl) x2.1) rfl ⟨rfl, rfl, rfl, rfl, rfl, rfl, rfl, rfl, rfl, rfl, trivial⟩ rfl rfl (by decide) (by have := hp3; omega) (by have := hp3; omega) (by decide)),
        ok_plain rfl rfl (op_assign (ltN rfl) rfl),
        trivial⟩ ?_
      refine fin_keep (s' := [kt 3 (.o 5 6 ((x2.1 ++ [(prt a0 x2.2)]).length)), kt 6 (.v (.slice a0_p a0.length a0_c)), kt 7 (.i (((a0.length : Nat) : Int))), kt 8 (.i x2.2), (.r 5, some (.vec true 6 152 10 ((x2.1 ++ [(prt a0 x2.2)]).flatMap encPart)))]) ?_ ⟨(congrArg (fun q => some (Val.x (SV.o 5 6 q))) (len_snoc x2.1 ((prt a0 x2.2)))), rfl, rfl, rfl, (Eq.trans (b := some (Val.vec true 6 152 10 (x2.1.flatMap encPart ++ [(.int .i64 (((((prt a0 x2.2)).Cell).Conc).Lo)), (.int .i64 (((((prt a0 x2.2)).Cell).Conc).Hi)), (.int .i64 (((((prt a0 x2.2)).Cell).Thick).Lo)), (.int .i64 (((((prt a0 x2.2)).Cell).Thick).Hi)), (.int .i64 (((((prt a0 x2.2)).Cell).Ridge).Lo)), (.int .i64 (((((prt a0 x2.2)).Cell).Ridge).Hi)), (.int .i64 (((((prt a0 x2.2)).Cell).Press).Lo)), (.int .i64 (((((prt a0 x2.2)).Cell).Press).Hi)), (.bool (((prt a0 x2.2)).Channel)), (.int .i64 (((prt a0 x2.2)).Length))]))) rfl (congrArg (fun q => some (Val.vec true 6 152 10 q)) (flat_snoc (enc := encPart) x2.1 ((prt a0 x2.2))))), trivial⟩ rfl
      refine fin_block ?_
      refine fin_then ?_
      obtain ⟨hp4, hm⟩ := chk_some hm
      refine aw_text (rows := [_, _]) rfl (by kernel_rfl) ⟨
        ok_plain rfl rfl (op_bin (ltN rfl) rfl rfl (nw_add hp4)),
        ok_plain rfl rfl (op_move (ltN rfl) rfl),
        trivial⟩ ?_
      refine fin_keep (s' := [kt 3 (.o 5 6 ((x2.1 ++ [(prt a0 x2.2)]).length)), kt 6 (.v (.slice a0_p a0.length a0_c)), kt 7 (.i (((a0.length : Nat) : Int))), kt 8 (.i (x2.2 + 1)), (.r 5, some (.vec true 6 152 10 ((x2.1 ++ [(prt a0 x2.2)]).flatMap encPart)))]) ?_ (kp rfl) rfl
      refine fin_swp [(5, 300), (6, 301)] rfl ?_
      exact fin_cut ((x2.1 ++ [(prt a0 x2.2)]), x2.2 + 1) hm ⟨rfl, rfl, rfl, rfl, rfl, trivial⟩ rfl
    · have hm := brk_f hz1 hm
      refine aw_exit ?_
      refine fin_then_exit ?_
      refine fin_then_exit ?_
      refine fin_block_exit ?_
      exact fin_cut x2.1 hm ⟨rfl, rfl, trivial⟩ rfl
  · have _z := hm
    refine aw_seq ?_
    refine aw_text (rows := [_, _]) rfl (by kernel_rfl) ⟨
      ok_plain rfl rfl (op_move (ltN rfl) rfl),
      ok_plain rfl rfl (op_assign (ltN rfl) rfl),
      trivial⟩ ?_
    refine fin_keep (s' := [kt 2 (.o 300 301 x1.length), (.r 300, some (.vec true 301 152 10 (x1.flatMap encPart)))]) ?_ (kp rfl) rfl
    refine fin_then ?_
    refine aw_ret ?_
    refine post_ret (x := .o 300 301 x1.length) rfl rfl (resOK_tmp rfl resOK_nil) rfl (fun mm aa ww hr => ?_)
    have hm := Option.some.inj hm
    subst hm
    exact ⟨[⟨ptr0 (mm 300) (mm 301), x1.length, mm 301⟩], rfl, ⟨⟨rfl, newAt_row hr mine_nil rfl (flat_length (enc := encPart) (fun _ => rfl) _), trivial⟩, ⟨trivial, trivial⟩⟩, hr.below⟩

def m48 (F : Nat) (a0 : List Pt) (a1 : List Pt) : Option (Bool) :=
  brk ((((a0.length : Nat) : Int)) != (((a1.length : Nat) : Int))) (some false) (join (fun (_ : Unit) => some true) (fun k1 => loopC (fun (x2 : Int) n2 => brk (decide (x2 < (((a0.length : Nat) : Int)))) (chk (0 ≤ x2 ∧ x2 < ((a0.length : Nat) : Int)) (chk (0 ≤ x2 ∧ x2 < ((a1.length : Nat) : Int)) (brk (!decide ((pt a0 x2) = (pt a1 x2))) (some false) (chk (InR (x2 + 1)) (n2 (x2 + 1)))))) (k1 ())) F 0))

theorem c48 (F : Nat) (a0 : List Pt) (a0_s : SlV) (a1 : List Pt) (a1_s : SlV) (w : World) (ha0 : SlIs encPt 2 w a0_s a0) (ha1 : SlIs encPt 2 w a1_s a1) (r : Bool) (hm : m48 F a0 a1 = some r) : Calls Tryd.prog 48 #[.slice a0_s.p a0_s.n a0_s.c, .slice a1_s.p a1_s.n a1_s.c] w fun e w' => e = .returned (.bool r) ∧ Below w.heap.size w w' := by
  obtain ⟨a0_p, a0_n, a0_c⟩ := a0_s
  have ha0_l : a0_n = a0.length := ha0.1
  subst ha0_l
  obtain ⟨a0_b, a0_o, ha0_p, ha0_L⟩ := SlAt.lies' ha0
  obtain ⟨a1_p, a1_n, a1_c⟩ := a1_s
  have ha1_l : a1_n = a1.length := ha1.1
  subst ha1_l
  obtain ⟨a1_b, a1_o, ha1_p, ha1_L⟩ := SlAt.lies' ha1
  unfold m48 at hm
  refine enter (args := [.v (.slice a0_p a0.length a0_c), .v (.slice a1_p a1.length a1_c)]) Tryd.func48 rfl (N := 26) rfl (Nat.le_of_ble_eq_true rfl) ?_
  refine aw_seq ?_
  refine aw_text (rows := [_]) rfl (by kernel_rfl) ⟨
    ok_plain rfl rfl (op_assign (ltN rfl) rfl),
    trivial⟩ ?_
  refine fin_keep (s' := [kt 0 (.v (.slice a0_p a0.length a0_c)), kt 1 (.v (.slice a1_p a1.length a1_c))]) ?_ (kp rfl) rfl
  refine fin_then ?_
  refine aw_seq ?_
  refine aw_seq ?_
  refine aw_text (rows := [_, _, _, _, _]) rfl (by kernel_rfl) ⟨
    ok_plain rfl rfl (op_move (ltN rfl) rfl),
    ok_plain rfl rfl (op_len (n := a0.length) (ltN rfl) (by rw [ss_23]; rfl) rfl rfl),
    ok_plain rfl rfl (op_move (ltN rfl) rfl),
    ok_plain rfl rfl (op_len (n := a1.length) (ltN rfl) (by rw [ss_23]; rfl) rfl rfl),
    ok_plain rfl rfl (op_bin (ltN rfl) rfl rfl rfl),
    trivial⟩ ?_
  refine fin_keep (s' := [kt 0 (.v (.slice a0_p a0.length a0_c)), kt 1 (.v (.slice a1_p a1.length a1_c)), kt 10 (.B ((((a0.length : Nat) : Int)) != (((a1.length : Nat) : Int))))]) ?_ (kp rfl) rfl
  refine fin_then ?_
  refine aw_cond rfl (fun hz1 => ?_) (fun hz1 => ?_)
  · have hm := brk_t hz1 hm
    refine aw_seq ?_
    refine aw_text (rows := [_]) rfl (by kernel_rfl) ⟨
      ok_plain rfl rfl (op_assign (ltN rfl) rfl),
      trivial⟩ ?_
    refine fin_keep (s' := [kt 4 (.B false)]) ?_ (kp rfl) rfl
    refine fin_then ?_
    refine aw_ret ?_
    refine fin_then_ret ?_
    refine post_ret (x := .B false) rfl rfl (resOK_tmp rfl resOK_nil) rfl (fun mm aa ww hr => ?_)
    have hm := Option.some.inj hm
    subst hm
    exact ⟨rfl, hr.below⟩
  · have hm := brk_f hz1 hm
    refine aw_skip ?_
    refine fin_then ?_
    refine aw_cutM (ι := Unit) hm (fun x1 => []) (fun hm => ?_) (fun x1 hm => ?_)
    · have _z := hm
      refine aw_seq ?_
      refine aw_text (rows := [_, _, _]) rfl (by kernel_rfl) ⟨
        ok_plain rfl rfl (op_move (ltN rfl) rfl),
        ok_plain rfl rfl (op_len (n := a0.length) (ltN rfl) (by rw [ss_23]; rfl) rfl rfl),
        ok_plain rfl rfl (op_move (ltN rfl) rfl),
        trivial⟩ ?_
      refine fin_keep (s' := [kt 0 (.v (.slice a0_p a0.length a0_c)), kt 1 (.v (.slice a1_p a1.length a1_c)), kt 12 (.i (((a0.length : Nat) : Int))), kt 13 (.i 0)]) ?_ (kp rfl) rfl
      refine fin_then ?_
      refine aw_block ?_
      refine aw_loopC hm (fun x2 => [kt 0 (.v (.slice a0_p a0.length a0_c)), kt 1 (.v (.slice a1_p a1.length a1_c)), kt 12 (.i (((a0.length : Nat) : Int))), kt 13 (.i x2)]) ⟨rfl, rfl, rfl, rfl, trivial⟩ rfl (fun x2 n2 hm => ?_)
      refine aw_seq ?_
      refine aw_text (rows := [_]) rfl (by kernel_rfl) ⟨
        ok_plain rfl rfl (op_bin (ltN rfl) rfl rfl rfl),
        trivial⟩ ?_
      refine fin_keep (s' := [kt 0 (.v (.slice a0_p a0.length a0_c)), kt 1 (.v (.slice a1_p a1.length a1_c)), kt 12 (.i (((a0.length : Nat) : Int))), kt 13 (.i x2), kt 14 (.B (decide (x2 < (((a0.length : Nat) : Int)))))]) ?_ (kp rfl) rfl
      refine fin_then ?_
      refine aw_seq ?_
      refine aw_cond rfl (fun hz2 => ?_) (fun hz2 => ?_)
      · have hm := brk_t hz2 hm
        refine aw_skip ?_
        refine fin_then ?_
        refine aw_seq ?_
        refine aw_block ?_
        refine aw_seq ?_
        refine aw_text (rows := [_, _]) rfl (by kernel_rfl) ⟨
          ok_plain rfl rfl (op_move (ltN rfl) rfl),
          ok_plain rfl rfl (op_assign (ltN rfl) rfl),
          trivial⟩ ?_
        refine fin_keep (s' := [kt 0 (.v (.slice a0_p a0.length a0_c)), kt 1 (.v (.slice a1_p a1.length a1_c)), kt 5 (.i x2), kt 12 (.i (((a0.length : Nat) : Int))), kt 13 (.i x2)]) ?_ (kp rfl) rfl
        refine fin_then ?_
        refine aw_seq ?_
        obtain ⟨hp3, hm⟩ := chk_some hm
        obtain ⟨hp4, hm⟩ := chk_some hm
        refine aw_any (rows := [_, _, _, _, _, _, _, _, _]) (M := [0, 0, 3, 7, 0, 0, 48, 112, 255]) Tryd_mixed (by kernel_rfl) rfl (by kernel_rfl) ⟨
          ok_plain rfl rfl (op_move (ltN rfl) rfl),
          ok_plain rfl rfl (op_move (ltN rfl) rfl),
          ok_plain rfl rfl (op_ixB (ltN rfl) rfl rfl ss_23 (ha0_p (ne_of_ix (i := x2) hp3.1 hp3.2)) hp3.1 hp3.2),
          ok_plain rfl rfl (op_loadB (y := .g [.i (((pt a0 x2)).X), .i (((pt a0 x2)).Y)]) (ltN rfl) rfl (ldN (ha0_L (ne_of_ix (i := x2) hp3.1 hp3.2)) ⟨0, 0⟩ (i := x2) hp3.1 hp3.2 0 (vs := [(.int .i64 (((pt a0 x2)).X)), (.int .i64 (((pt a0 x2)).Y))]) (fun zq zv zh => sub_get (vs := [(.int .i64 (((pt a0 x2)).X)), (.int .i64 (((pt a0 x2)).Y))]) rfl zh) rfl sh_84 rfl)),
          ok_plain rfl rfl (op_move (ltN rfl) rfl),
          ok_plain rfl rfl (op_move (ltN rfl) rfl),
          ok_plain rfl rfl (op_ixB (ltN rfl) rfl rfl ss_23 (ha1_p (ne_of_ix (i := x2) hp4.1 hp4.2)) hp4.1 hp4.2),
          ok_plain rfl rfl (op_loadB (y := .g [.i (((pt a1 x2)).X), .i (((pt a1 x2)).Y)]) (ltN rfl) rfl (ldN (ha1_L (ne_of_ix (i := x2) hp4.1 hp4.2)) ⟨0, 0⟩ (i := x2) hp4.1 hp4.2 0 (vs := [(.int .i64 (((pt a1 x2)).X)), (.int .i64 (((pt a1 x2)).Y))]) (fun zq zv zh => sub_get (vs := [(.int .i64 (((pt a1 x2)).X)), (.int .i64 (((pt a1 x2)).Y))]) rfl zh) rfl sh_84 rfl)),
          ok_plain rfl rfl (op_neS (r := decide ((pt a0 x2) = (pt a1 x2))) (ltN rfl) rfl rfl eqg_84 (fun _ => Eq.trans (by kernel_rfl) (congrArg some (Pt_eqd ((pt a0 x2)) ((pt a1 x2)))))),
          trivial⟩ ?_
        refine fin_keep (s' := [kt 0 (.v (.slice a0_p a0.length a0_c)), kt 1 (.v (.slice a1_p a1.length a1_c)), kt 12 (.i (((a0.length : Nat) : Int))), kt 13 (.i x2), kt 24 (.B (!decide ((pt a0 x2) = (pt a1 x2))))]) ?_ (kp rfl) rfl
        refine fin_then ?_
        refine aw_cond rfl (fun hz5 => ?_) (fun hz5 => ?_)
        · have hm := brk_t hz5 hm
          refine aw_seq ?_
          refine aw_text (rows := [_]) rfl (by kernel_rfl) ⟨
            ok_plain rfl rfl (op_assign (ltN rfl) rfl),
            trivial⟩ ?_
          refine fin_keep (s' := [kt 4 (.B false)]) ?_ (kp rfl) rfl
          refine fin_then ?_
          refine aw_ret ?_
          refine fin_block_ret ?_
          refine fin_then_ret ?_
          refine fin_then_ret ?_
          refine fin_block_ret ?_
          refine fin_then_ret ?_
          refine post_ret (x := .B false) rfl rfl (resOK_tmp rfl resOK_nil) rfl (fun mm aa ww hr => ?_)
          have hm := Option.some.inj hm
          subst hm
          exact ⟨rfl, hr.below⟩
        · have hm := brk_f hz5 hm
          refine aw_skip ?_
          refine fin_block ?_
          refine fin_then ?_
          obtain ⟨hp6, hm⟩ := chk_some hm
          refine aw_text (rows := [_, _]) rfl (by kernel_rfl) ⟨
            ok_plain rfl rfl (op_bin (ltN rfl) rfl rfl (nw_add hp6)),
            ok_plain rfl rfl (op_move (ltN rfl) rfl),
            trivial⟩ ?_
          refine fin_keep (s' := [kt 0 (.v (.slice a0_p a0.length a0_c)), kt 1 (.v (.slice a1_p a1.length a1_c)), kt 12 (.i (((a0.length : Nat) : Int))), kt 13 (.i (x2 + 1))]) ?_ (kp rfl) rfl
          exact fin_cut (x2 + 1) hm ⟨rfl, rfl, rfl, rfl, trivial⟩ rfl
      · have hm := brk_f hz2 hm
        refine aw_exit ?_
        refine fin_then_exit ?_
        refine fin_then_exit ?_
        refine fin_block_exit ?_
        exact fin_cut () hm trivial rfl
    · have _z := hm
      refine aw_seq ?_
      refine aw_text (rows := [_]) rfl (by kernel_rfl) ⟨
        ok_plain rfl rfl (op_assign (ltN rfl) rfl),
        trivial⟩ ?_
      refine fin_keep (s' := [kt 4 (.B true)]) ?_ (kp rfl) rfl
      refine fin_then ?_
      refine aw_ret ?_
      refine post_ret (x := .B true) rfl rfl (resOK_tmp rfl resOK_nil) rfl (fun mm aa ww hr => ?_)
      have hm := Option.some.inj hm
      subst hm
      exact ⟨rfl, hr.below⟩

def m37 (F : Nat) (a0 : List Part) (a1 : List Part) : Option (Bool) :=
  brk ((((a0.length : Nat) : Int)) != (((a1.length : Nat) : Int))) (some false) (join (fun (_ : Unit) => some true) (fun k1 => loopC (fun (x2 : Int) n2 => brk (decide (x2 < (((a0.length : Nat) : Int)))) (chk (0 ≤ x2 ∧ x2 < ((a0.length : Nat) : Int)) (chk (0 ≤ x2 ∧ x2 < ((a1.length : Nat) : Int)) (brk (!decide ((prt a0 x2) = (prt a1 x2))) (some false) (chk (InR (x2 + 1)) (n2 (x2 + 1)))))) (k1 ())) F 0))

theorem c37 (F : Nat) (a0 : List Part) (a0_s : SlV) (a1 : List Part) (a1_s : SlV) (w : World) (ha0 : SlIs encPart 10 w a0_s a0) (ha1 : SlIs encPart 10 w a1_s a1) (r : Bool) (hm : m37 F a0 a1 = some r) : Calls Tryd.prog 37 #[.slice a0_s.p a0_s.n a0_s.c, .slice a1_s.p a1_s.n a1_s.c] w fun e w' => e = .returned (.bool r) ∧ Below w.heap.size w w' := by
  obtain ⟨a0_p, a0_n, a0_c⟩ := a0_s
  have ha0_l : a0_n = a0.length := ha0.1
  subst ha0_l
  obtain ⟨a0_b, a0_o, ha0_p, ha0_L⟩ := SlAt.lies' ha0
  obtain ⟨a1_p, a1_n, a1_c⟩ := a1_s
  have ha1_l : a1_n = a1.length := ha1.1
  subst ha1_l
  obtain ⟨a1_b, a1_o, ha1_p, ha1_L⟩ := SlAt.lies' ha1
  unfold m37 at hm
  refine enter (args := [.v (.slice a0_p a0.length a0_c), .v (.slice a1_p a1.length a1_c)]) Tryd.func37 rfl (N := 26) rfl (Nat.le_of_ble_eq_true rfl) ?_
  refine aw_seq ?_
  refine aw_text (rows := [_]) rfl (by kernel_rfl) ⟨
    ok_plain rfl rfl (op_assign (ltN rfl) rfl),
    trivial⟩ ?_
  refine fin_keep (s' := [kt 0 (.v (.slice a0_p a0.length a0_c)), kt 1 (.v (.slice a1_p a1.length a1_c))]) ?_ (kp rfl) rfl
  refine fin_then ?_
  refine aw_seq ?_
  refine aw_seq ?_
  refine aw_text (rows := [_, _, _, _, _]) rfl (by kernel_rfl) ⟨
    ok_plain rfl rfl (op_move (ltN rfl) rfl),
    ok_plain rfl rfl (op_len (n := a0.length) (ltN rfl) (by rw [ss_46]; rfl) rfl rfl),
    ok_plain rfl rfl (op_move (ltN rfl) rfl),
    ok_plain rfl rfl (op_len (n := a1.length) (ltN rfl) (by rw [ss_46]; rfl) rfl rfl),
    ok_plain rfl rfl (op_bin (ltN rfl) rfl rfl rfl),
    trivial⟩ ?_
  refine fin_keep (s' := [kt 0 (.v (.slice a0_p a0.length a0_c)), kt 1 (.v (.slice a1_p a1.length a1_c)), kt 10 (.B ((((a0.length : Nat) : Int)) != (((a1.length : Nat) : Int))))]) ?_ (kp rfl) rfl
  refine fin_then ?_
  refine aw_cond rfl (fun hz1 => ?_) (fun hz1 => ?_)
  · have hm := brk_t hz1 hm
    refine aw_seq ?_
    refine aw_text (rows := [_]) rfl (by kernel_rfl) ⟨
      ok_plain rfl rfl (op_assign (ltN rfl) rfl),
      trivial⟩ ?_
    refine fin_keep (s' := [kt 4 (.B false)]) ?_ (kp rfl) rfl
    refine fin_then ?_
    refine aw_ret ?_
    refine fin_then_ret ?_
    refine post_ret (x := .B false) rfl rfl (resOK_tmp rfl resOK_nil) rfl (fun mm aa ww hr => ?_)
    have hm := Option.some.inj hm
    subst hm
    exact ⟨rfl, hr.below⟩
  · have hm := brk_f hz1 hm
    refine aw_skip ?_
    refine fin_then ?_
    refine aw_cutM (ι := Unit) hm (fun x1 => []) (fun hm => ?_) (fun x1 hm => ?_)
    · have _z := hm
      refine aw_seq ?_
      refine aw_text (rows := [_, _, _]) rfl (by kernel_rfl) ⟨
        ok_plain rfl rfl (op_move (ltN rfl) rfl),
        ok_plain rfl rfl (op_len (n := a0.length) (ltN rfl) (by rw [ss_46]; rfl) rfl rfl),
        ok_plain rfl rfl (op_move (ltN rfl) rfl),
        trivial⟩ ?_
      refine fin_keep (s' := [kt 0 (.v (.slice a0_p a0.length a0_c)), kt 1 (.v (.slice a1_p a1.length a1_c)), kt 12 (.i (((a0.length : Nat) : Int))), kt 13 (.i 0)]) ?_ (kp rfl) rfl
      refine fin_then ?_
      refine aw_block ?_
      refine aw_loopC hm (fun x2 => [kt 0 (.v (.slice a0_p a0.length a0_c)), kt 1 (.v (.slice a1_p a1.length a1_c)), kt 12 (.i (((a0.length : Nat) : Int))), kt 13 (.i x2)]) ⟨rfl, rfl, rfl, rfl, trivial⟩ rfl (fun x2 n2 hm => ?_)
      refine aw_seq ?_
      refine aw_text (rows := [_]) rfl (by kernel_rfl) ⟨
        ok_plain rfl rfl (op_bin (ltN rfl) rfl rfl rfl),
        trivial⟩ ?_
      refine fin_keep (s' := [kt 0 (.v (.slice a0_p a0.length a0_c)), kt 1 (.v (.slice a1_p a1.length a1_c)), kt 12 (.i (((a0.length : Nat) : Int))), kt 13 (.i x2), kt 14 (.B (decide (x2 < (((a0.length : Nat) : Int)))))]) ?_ (kp rfl) rfl
      refine fin_then ?_
      refine aw_seq ?_
      refine aw_cond rfl (fun hz2 => ?_) (fun hz2 => ?_)
      · have hm := brk_t hz2 hm
        refine aw_skip ?_
        refine fin_then ?_
        refine aw_seq ?_
        refine aw_block ?_
        refine aw_seq ?_
        refine aw_text (rows := [_, _]) rfl (by kernel_rfl) ⟨
          ok_plain rfl rfl (op_move (ltN rfl) rfl),
          ok_plain rfl rfl (op_assign (ltN rfl) rfl),
          trivial⟩ ?_
        refine fin_keep (s' := [kt 0 (.v (.slice a0_p a0.length a0_c)), kt 1 (.v (.slice a1_p a1.length a1_c)), kt 5 (.i x2), kt 12 (.i (((a0.length : Nat) : Int))), kt 13 (.i x2)]) ?_ (kp rfl) rfl
        refine fin_then ?_
        refine aw_seq ?_
        obtain ⟨hp3, hm⟩ := chk_some hm
        obtain ⟨hp4, hm⟩ := chk_some hm
        refine aw_any (rows := [_, _, _, _, _, _, _, _, _]) (M := [0, 0, 3, 7, 0, 0, 48, 112, 255]) Tryd_mixed (by kernel_rfl) rfl (by kernel_rfl) ⟨
          ok_plain rfl rfl (op_move (ltN rfl) rfl),
          ok_plain rfl rfl (op_move (ltN rfl) rfl),
          ok_plain rfl rfl (op_ixB (ltN rfl) rfl rfl ss_46 (ha0_p (ne_of_ix (i := x2) hp3.1 hp3.2)) hp3.1 hp3.2),
          ok_plain rfl rfl (op_loadB (y := .g [.i (((((prt a0 x2)).Cell).Conc).Lo), .i (((((prt a0 x2)).Cell).Conc).Hi), .i (((((prt a0 x2)).Cell).Thick).Lo), .i (((((prt a0 x2)).Cell).Thick).Hi), .i (((((prt a0 x2)).Cell).Ridge).Lo), .i (((((prt a0 x2)).Cell).Ridge).Hi), .i (((((prt a0 x2)).Cell).Press).Lo), .i (((((prt a0 x2)).Cell).Press).Hi), .B (((prt a0 x2)).Channel), .i (((prt a0 x2)).Length)]) (ltN rfl) rfl (ldN (ha0_L (ne_of_ix (i := x2) hp3.1 hp3.2)) default (i := x2) hp3.1 hp3.2 0 (vs := [(.int .i64 (((((prt a0 x2)).Cell).Conc).Lo)), (.int .i64 (((((prt a0 x2)).Cell).Conc).Hi)), (.int .i64 (((((prt a0 x2)).Cell).Thick).Lo)), (.int .i64 (((((prt a0 x2)).Cell).Thick).Hi)), (.int .i64 (((((prt a0 x2)).Cell).Ridge).Lo)), (.int .i64 (((((prt a0 x2)).Cell).Ridge).Hi)), (.int .i64 (((((prt a0 x2)).Cell).Press).Lo)), (.int .i64 (((((prt a0 x2)).Cell).Press).Hi)), (.bool (((prt a0 x2)).Channel)), (.int .i64 (((prt a0 x2)).Length))]) (fun zq zv zh => sub_get (vs := [(.int .i64 (((((prt a0 x2)).Cell).Conc).Lo)), (.int .i64 (((((prt a0 x2)).Cell).Conc).Hi)), (.int .i64 (((((prt a0 x2)).Cell).Thick).Lo)), (.int .i64 (((((prt a0 x2)).Cell).Thick).Hi)), (.int .i64 (((((prt a0 x2)).Cell).Ridge).Lo)), (.int .i64 (((((prt a0 x2)).Cell).Ridge).Hi)), (.int .i64 (((((prt a0 x2)).Cell).Press).Lo)), (.int .i64 (((((prt a0 x2)).Cell).Press).Hi)), (.bool (((prt a0 x2)).Channel)), (.int .i64 (((prt a0 x2)).Length))]) rfl zh) rfl sh_48 rfl)),
          ok_plain rfl rfl (op_move (ltN rfl) rfl),
          ok_plain rfl rfl (op_move (ltN rfl) rfl),
          ok_plain rfl rfl (op_ixB (ltN rfl) rfl rfl ss_46 (ha1_p (ne_of_ix (i := x2) hp4.1 hp4.2)) hp4.1 hp4.2),
          ok_plain rfl rfl (op_loadB (y := .g [.i (((((prt a1 x2)).Cell).Conc).Lo), .i (((((prt a1 x2)).Cell).Conc).Hi), .i (((((prt a1 x2)).Cell).Thick).Lo), .i (((((prt a1 x2)).Cell).Thick).Hi), .i (((((prt a1 x2)).Cell).Ridge).Lo), .i (((((prt a1 x2)).Cell).Ridge).Hi), .i (((((prt a1 x2)).Cell).Press).Lo), .i (((((prt a1 x2)).Cell).Press).Hi), .B (((prt a1 x2)).Channel), .i (((prt a1 x2)).Length)]) (ltN rfl) rfl (ldN (ha1_L (ne_of_ix (i := x2) hp4.1 hp4.2)) default (i := x2) hp4.1 hp4.2 0 (vs := [(.int .i64 (((((prt a1 x2)).Cell).Conc).Lo)), (.int .i64 (((((prt a1 x2)).Cell).Conc).Hi)), (.int .i64 (((((prt a1 x2)).Cell).Thick).Lo)), (.int .i64 (((((prt a1 x2)).Cell).Thick).Hi)), (.int .i64 (((((prt a1 x2)).Cell).Ridge).Lo)), (.int .i64 (((((prt a1 x2)).Cell).Ridge).Hi)), (.int .i64 (((((prt a1 x2)).Cell).Press).Lo)), (.int .i64 (((((prt a1 x2)).Cell).Press).Hi)), (.bool (((prt a1 x2)).Channel)), (.int .i64 (((prt a1 x2)).Length))]) (fun zq zv zh => sub_get (vs := [(.int .i64 (((((prt a1 x2)).Cell).Conc).Lo)), (.int .i64 (((((prt a1 x2)).Cell).Conc).Hi)), (.int .i64 (((((prt a1 x2)).Cell).Thick).Lo)), (.int .i64 (((((prt a1 x2)).Cell).Thick).Hi)), (.int .i64 (((((prt a1 x2)).Cell).Ridge).Lo)), (.int .i64 (((((prt a1 x2)).Cell).Ridge).Hi)), (.int .i64 (((((prt a1 x2)).Cell).Press).Lo)), (.int .i64 (((((prt a1 x2)).Cell).Press).Hi)), (.bool (((prt a1 x2)).Channel)), (.int .i64 (((prt a1 x2)).Length))]) rfl zh) rfl sh_48 rfl)),
          ok_plain rfl rfl (op_neS (r := decide ((prt a0 x2) = (prt a1 x2))) (ltN rfl) rfl rfl eqg_48 (fun _ => Eq.trans (by kernel_rfl) (congrArg some (Part_eqd ((prt a0 x2)) ((prt a1 x2)))))),
          trivial⟩ ?_
        refine fin_keep (s' := [kt 0 (.v (.slice a0_p a0.length a0_c)), kt 1 (.v (.slice a1_p a1.length a1_c)), kt 12 (.i (((a0.length : Nat) : Int))), kt 13 (.i x2), kt 24 (.B (!decide ((prt a0 x2) = (prt a1 x2))))]) ?_ (kp rfl) rfl
        refine fin_then ?_
        refine aw_cond rfl (fun hz5 => ?_) (fun hz5 => ?_)
        · have hm := brk_t hz5 hm
          refine aw_seq ?_
          refine aw_text (rows := [_]) rfl (by kernel_rfl) ⟨
            ok_plain rfl rfl (op_assign (ltN rfl) rfl),
            trivial⟩ ?_
          refine fin_keep (s' := [kt 4 (.B false)]) ?_ (kp rfl) rfl
          refine fin_then ?_
          refine aw_ret ?_
          refine fin_block_ret ?_
          refine fin_then_ret ?_
          refine fin_then_ret ?_
          refine fin_block_ret ?_
          refine fin_then_ret ?_
          refine post_ret (x := .B false) rfl rfl (resOK_tmp rfl resOK_nil) rfl (fun mm aa ww hr => ?_)
          have hm := Option.some.inj hm
          subst hm
          exact ⟨rfl, hr.below⟩
        · have hm := brk_f hz5 hm
          refine aw_skip ?_
          refine fin_block ?_
          refine fin_then ?_
          obtain ⟨hp6, hm⟩ := chk_some hm
          refine aw_text (rows := [_, _]) rfl (by kernel_rfl) ⟨
            ok_plain rfl rfl (op_bin (ltN rfl) rfl rfl (nw_add hp6)),
            ok_plain rfl rfl (op_move (ltN rfl) rfl),
            trivial⟩ ?_
          refine fin_keep (s' := [kt 0 (.v (.slice a0_p a0.length a0_c)), kt 1 (.v (.slice a1_p a1.length a1_c)), kt 12 (.i (((a0.length : Nat) : Int))), kt 13 (.i (x2 + 1))]) ?_ (kp rfl) rfl
          exact fin_cut (x2 + 1) hm ⟨rfl, rfl, rfl, rfl, trivial⟩ rfl
      · have hm := brk_f hz2 hm
        refine aw_exit ?_
        refine fin_then_exit ?_
        refine fin_then_exit ?_
        refine fin_block_exit ?_
        exact fin_cut () hm trivial rfl
    · have _z := hm
      refine aw_seq ?_
      refine aw_text (rows := [_]) rfl (by kernel_rfl) ⟨
        ok_plain rfl rfl (op_assign (ltN rfl) rfl),
        trivial⟩ ?_
      refine fin_keep (s' := [kt 4 (.B true)]) ?_ (kp rfl) rfl
      refine fin_then ?_
      refine aw_ret ?_
      refine post_ret (x := .B true) rfl rfl (resOK_tmp rfl resOK_nil) rfl (fun mm aa ww hr => ?_)
      have hm := Option.some.inj hm
      subst hm
      exact ⟨rfl, hr.below⟩

def m38 (F : Nat) (a0 : List Span) (a1 : List Span) : Option (Bool) :=
  brk ((((a0.length : Nat) : Int)) != (((a1.length : Nat) : Int))) (some false) (join (fun (_ : Unit) => some true) (fun k1 => loopC (fun (x2 : Int) n2 => brk (decide (x2 < (((a0.length : Nat) : Int)))) (chk (0 ≤ x2 ∧ x2 < ((a0.length : Nat) : Int)) (chk (0 ≤ x2 ∧ x2 < ((a1.length : Nat) : Int)) (brk (!decide ((sp a0 x2) = (sp a1 x2))) (some false) (chk (InR (x2 + 1)) (n2 (x2 + 1)))))) (k1 ())) F 0))

theorem c38 (F : Nat) (a0 : List Span) (a0_s : SlV) (a1 : List Span) (a1_s : SlV) (w : World) (ha0 : SlIs encSpan 2 w a0_s a0) (ha1 : SlIs encSpan 2 w a1_s a1) (r : Bool) (hm : m38 F a0 a1 = some r) : Calls Tryd.prog 38 #[.slice a0_s.p a0_s.n a0_s.c, .slice a1_s.p a1_s.n a1_s.c] w fun e w' => e = .returned (.bool r) ∧ Below w.heap.size w w' := by
  obtain ⟨a0_p, a0_n, a0_c⟩ := a0_s
  have ha0_l : a0_n = a0.length := ha0.1
  subst ha0_l
  obtain ⟨a0_b, a0_o, ha0_p, ha0_L⟩ := SlAt.lies' ha0
  obtain ⟨a1_p, a1_n, a1_c⟩ := a1_s
  have ha1_l : a1_n = a1.length := ha1.1
  subst ha1_l
  obtain ⟨a1_b, a1_o, ha1_p, ha1_L⟩ := SlAt.lies' ha1
  unfold m38 at hm
  refine enter (args := [.v (.slice a0_p a0.length a0_c), .v (.slice a1_p a1.length a1_c)]) Tryd.func38 rfl (N := 26) rfl (Nat.le_of_ble_eq_true rfl) ?_
  refine aw_seq ?_
  refine aw_text (rows := [_]) rfl (by kernel_rfl) ⟨
    ok_plain rfl rfl (op_assign (ltN rfl) rfl),
    trivial⟩ ?_
  refine fin_keep (s' := [kt 0 (.v (.slice a0_p a0.length a0_c)), kt 1 (.v (.slice a1_p a1.length a1_c))]) ?_ (kp rfl) rfl
  refine fin_then ?_
  refine aw_seq ?_
  refine aw_seq ?_
  refine aw_text (rows := [_, _, _, _, _]) rfl (by kernel_rfl) ⟨
    ok_plain rfl rfl (op_move (ltN rfl) rfl),
    ok_plain rfl rfl (op_len (n := a0.length) (ltN rfl) (by rw [ss_56]; rfl) rfl rfl),
    ok_plain rfl rfl (op_move (ltN rfl) rfl),
    ok_plain rfl rfl (op_len (n := a1.length) (ltN rfl) (by rw [ss_56]; rfl) rfl rfl),
    ok_plain rfl rfl (op_bin (ltN rfl) rfl rfl rfl),
    trivial⟩ ?_
  refine fin_keep (s' := [kt 0 (.v (.slice a0_p a0.length a0_c)), kt 1 (.v (.slice a1_p a1.length a1_c)), kt 10 (.B ((((a0.length : Nat) : Int)) != (((a1.length : Nat) : Int))))]) ?_ (kp rfl) rfl
  refine fin_then ?_
  refine aw_cond rfl (fun hz1 => ?_) (fun hz1 => ?_)
  · have hm := brk_t hz1 hm
    refine aw_seq ?_
    refine aw_text (rows := [_]) rfl (by kernel_rfl) ⟨
      ok_plain rfl rfl (op_assign (ltN rfl) rfl),
      trivial⟩ ?_
    refine fin_keep (s' := [kt 4 (.B false)]) ?_ (kp rfl) rfl
    refine fin_then ?_
    refine aw_ret ?_
    refine fin_then_ret ?_
    refine post_ret (x := .B false) rfl rfl (resOK_tmp rfl resOK_nil) rfl (fun mm aa ww hr => ?_)
    have hm := Option.some.inj hm
    subst hm
    exact ⟨rfl, hr.below⟩
  · have hm := brk_f hz1 hm
    refine aw_skip ?_
    refine fin_then ?_
    refine aw_cutM (ι := Unit) hm (fun x1 => []) (fun hm => ?_) (fun x1 hm => ?_)
    · have _z := hm
      refine aw_seq ?_
      refine aw_text (rows := [_]) rfl (by kernel_rfl) ⟨
        ok_plain rfl rfl (op_assign (ltN rfl) rfl),
        trivial⟩ ?_
      refine fin_keep (s' := [kt 0 (.v (.slice a0_p a0.length a0_c)), kt 1 (.v (.slice a1_p a1.length a1_c)), kt 5 (.i 0)]) ?_ (kp rfl) rfl
      refine fin_then ?_
      refine aw_block ?_
      refine aw_loopC hm (fun x2 => [kt 0 (.v (.slice a0_p a0.length a0_c)), kt 1 (.v (.slice a1_p a1.length a1_c)), kt 5 (.i x2)]) ⟨rfl, rfl, rfl, trivial⟩ rfl (fun x2 n2 hm => ?_)
      refine aw_seq ?_
      refine aw_seq ?_
      refine aw_text (rows := [_, _, _, _]) rfl (by kernel_rfl) ⟨
        ok_plain rfl rfl (op_move (ltN rfl) rfl),
        ok_plain rfl rfl (op_move (ltN rfl) rfl),
        ok_plain rfl rfl (op_len (n := a0.length) (ltN rfl) (by rw [ss_56]; rfl) rfl rfl),
        ok_plain rfl rfl (op_bin (ltN rfl) rfl rfl rfl),
        trivial⟩ ?_
      refine fin_keep (s' := [kt 0 (.v (.slice a0_p a0.length a0_c)), kt 1 (.v (.slice a1_p a1.length a1_c)), kt 5 (.i x2), kt 14 (.B (decide (x2 < (((a0.length : Nat) : Int)))))]) ?_ (kp rfl) rfl
      refine fin_then ?_
      refine aw_cond rfl (fun hz2 => ?_) (fun hz2 => ?_)
      · have hm := brk_t hz2 hm
        refine aw_skip ?_
        refine fin_then ?_
        refine aw_seq ?_
        refine aw_block ?_
        refine aw_seq ?_
        obtain ⟨hp3, hm⟩ := chk_some hm
        obtain ⟨hp4, hm⟩ := chk_some hm
        refine aw_any (rows := [_, _, _, _, _, _, _, _, _]) (M := [0, 0, 3, 7, 0, 0, 48, 112, 255]) Tryd_mixed (by kernel_rfl) rfl (by kernel_rfl) ⟨
          ok_plain rfl rfl (op_move (ltN rfl) rfl),
          ok_plain rfl rfl (op_move (ltN rfl) rfl),
          ok_plain rfl rfl (op_ixB (ltN rfl) rfl rfl ss_56 (ha0_p (ne_of_ix (i := x2) hp3.1 hp3.2)) hp3.1 hp3.2),
          ok_plain rfl rfl (op_loadB (y := .g [.i (((sp a0 x2)).Lo), .i (((sp a0 x2)).Hi)]) (ltN rfl) rfl (ldN (ha0_L (ne_of_ix (i := x2) hp3.1 hp3.2)) ⟨0, 0⟩ (i := x2) hp3.1 hp3.2 0 (vs := [(.int .i64 (((sp a0 x2)).Lo)), (.int .i64 (((sp a0 x2)).Hi))]) (fun zq zv zh => sub_get (vs := [(.int .i64 (((sp a0 x2)).Lo)), (.int .i64 (((sp a0 x2)).Hi))]) rfl zh) rfl sh_32 rfl)),
          ok_plain rfl rfl (op_move (ltN rfl) rfl),
          ok_plain rfl rfl (op_move (ltN rfl) rfl),
          ok_plain rfl rfl (op_ixB (ltN rfl) rfl rfl ss_56 (ha1_p (ne_of_ix (i := x2) hp4.1 hp4.2)) hp4.1 hp4.2),
          ok_plain rfl rfl (op_loadB (y := .g [.i (((sp a1 x2)).Lo), .i (((sp a1 x2)).Hi)]) (ltN rfl) rfl (ldN (ha1_L (ne_of_ix (i := x2) hp4.1 hp4.2)) ⟨0, 0⟩ (i := x2) hp4.1 hp4.2 0 (vs := [(.int .i64 (((sp a1 x2)).Lo)), (.int .i64 (((sp a1 x2)).Hi))]) (fun zq zv zh => sub_get (vs := [(.int .i64 (((sp a1 x2)).Lo)), (.int .i64 (((sp a1 x2)).Hi))]) rfl zh) rfl sh_32 rfl)),
          ok_plain rfl rfl (op_neS (r := decide ((sp a0 x2) = (sp a1 x2))) (ltN rfl) rfl rfl eqg_32 (fun _ => Eq.trans (by kernel_rfl) (congrArg some (Span_eqd ((sp a0 x2)) ((sp a1 x2)))))),
          trivial⟩ ?_
        refine fin_keep (s' := [kt 0 (.v (.slice a0_p a0.length a0_c)), kt 1 (.v (.slice a1_p a1.length a1_c)), kt 5 (.i x2), kt 25 (.B (!decide ((sp a0 x2) = (sp a1 x2))))]) ?_ (kp rfl) rfl
        refine fin_then ?_
        refine aw_cond rfl (fun hz5 => ?_) (fun hz5 => ?_)
        · have hm := brk_t hz5 hm
          refine aw_seq ?_
          refine aw_text (rows := [_]) rfl (by kernel_rfl) ⟨
            ok_plain rfl rfl (op_assign (ltN rfl) rfl),
            trivial⟩ ?_
          refine fin_keep (s' := [kt 4 (.B false)]) ?_ (kp rfl) rfl
          refine fin_then ?_
          refine aw_ret ?_
          refine fin_block_ret ?_
          refine fin_then_ret ?_
          refine fin_then_ret ?_
          refine fin_block_ret ?_
          refine fin_then_ret ?_
          refine post_ret (x := .B false) rfl rfl (resOK_tmp rfl resOK_nil) rfl (fun mm aa ww hr => ?_)
          have hm := Option.some.inj hm
          subst hm
          exact ⟨rfl, hr.below⟩
        · have hm := brk_f hz5 hm
          refine aw_skip ?_
          refine fin_block ?_
          refine fin_then ?_
          obtain ⟨hp6, hm⟩ := chk_some hm
          refine aw_text (rows := [_, _, _]) rfl (by kernel_rfl) ⟨
            ok_plain rfl rfl (op_move (ltN rfl) rfl),
            ok_plain rfl rfl (op_bin (ltN rfl) rfl rfl (nw_add hp6)),
            ok_plain rfl rfl (op_assign (ltN rfl) rfl),
            trivial⟩ ?_
          refine fin_keep (s' := [kt 0 (.v (.slice a0_p a0.length a0_c)), kt 1 (.v (.slice a1_p a1.length a1_c)), kt 5 (.i (x2 + 1))]) ?_ (kp rfl) rfl
          exact fin_cut (x2 + 1) hm ⟨rfl, rfl, rfl, trivial⟩ rfl
      · have hm := brk_f hz2 hm
        refine aw_exit ?_
        refine fin_then_exit ?_
        refine fin_then_exit ?_
        refine fin_block_exit ?_
        exact fin_cut () hm trivial rfl
    · have _z := hm
      refine aw_seq ?_
      refine aw_text (rows := [_]) rfl (by kernel_rfl) ⟨
        ok_plain rfl rfl (op_assign (ltN rfl) rfl),
        trivial⟩ ?_
      refine fin_keep (s' := [kt 4 (.B true)]) ?_ (kp rfl) rfl
      refine fin_then ?_
      refine aw_ret ?_
      refine post_ret (x := .B true) rfl rfl (resOK_tmp rfl resOK_nil) rfl (fun mm aa ww hr => ?_)
      have hm := Option.some.inj hm
      subst hm
      exact ⟨rfl, hr.below⟩

def m34 (F : Nat) (a0 : List Int) (a1 : List Int) : Option (Bool) :=
  brk ((((a0.length : Nat) : Int)) != (((a1.length : Nat) : Int))) (some false) (join (fun (_ : Unit) => some true) (fun k1 => loopC (fun (x2 : Int) n2 => brk (decide (x2 < (((a0.length : Nat) : Int)))) (chk (0 ≤ x2 ∧ x2 < ((a0.length : Nat) : Int)) (chk (0 ≤ x2 ∧ x2 < ((a1.length : Nat) : Int)) (brk (((a0.getD x2.toNat 0)) != ((a1.getD x2.toNat 0))) (some false) (chk (InR (x2 + 1)) (n2 (x2 + 1)))))) (k1 ())) F 0))

theorem c34 (F : Nat) (a0 : List Int) (a0_s : SlV) (a1 : List Int) (a1_s : SlV) (w : World) (ha0 : SlIs encInt 1 w a0_s a0) (ha1 : SlIs encInt 1 w a1_s a1) (r : Bool) (hm : m34 F a0 a1 = some r) : Calls Tryd.prog 34 #[.slice a0_s.p a0_s.n a0_s.c, .slice a1_s.p a1_s.n a1_s.c] w fun e w' => e = .returned (.bool r) ∧ Below w.heap.size w w' := by
  obtain ⟨a0_p, a0_n, a0_c⟩ := a0_s
  have ha0_l : a0_n = a0.length := ha0.1
  subst ha0_l
  obtain ⟨a0_b, a0_o, ha0_p, ha0_L⟩ := SlAt.lies' ha0
  obtain ⟨a1_p, a1_n, a1_c⟩ := a1_s
  have ha1_l : a1_n = a1.length := ha1.1
  subst ha1_l
  obtain ⟨a1_b, a1_o, ha1_p, ha1_L⟩ := SlAt.lies' ha1
  unfold m34 at hm
  refine enter (args := [.v (.slice a0_p a0.length a0_c), .v (.slice a1_p a1.length a1_c)]) Tryd.func34 rfl (N := 26) rfl (Nat.le_of_ble_eq_true rfl) ?_
  refine aw_seq ?_
  refine aw_text (rows := [_]) rfl (by kernel_rfl) ⟨
    ok_plain rfl rfl (op_assign (ltN rfl) rfl),
    trivial⟩ ?_
  refine fin_keep (s' := [kt 0 (.v (.slice a0_p a0.length a0_c)), kt 1 (.v (.slice a1_p a1.length a1_c))]) ?_ (kp rfl) rfl
  refine fin_then ?_
  refine aw_seq ?_
  refine aw_seq ?_
  refine aw_text (rows := [_, _, _, _, _]) rfl (by kernel_rfl) ⟨
    ok_plain rfl rfl (op_move (ltN rfl) rfl),
    ok_plain rfl rfl (op_len (n := a0.length) (ltN rfl) (by rw [ss_49]; rfl) rfl rfl),
    ok_plain rfl rfl (op_move (ltN rfl) rfl),
    ok_plain rfl rfl (op_len (n := a1.length) (ltN rfl) (by rw [ss_49]; rfl) rfl rfl),
    ok_plain rfl rfl (op_bin (ltN rfl) rfl rfl rfl),
    trivial⟩ ?_
  refine fin_keep (s' := [kt 0 (.v (.slice a0_p a0.length a0_c)), kt 1 (.v (.slice a1_p a1.length a1_c)), kt 10 (.B ((((a0.length : Nat) : Int)) != (((a1.length : Nat) : Int))))]) ?_ (kp rfl) rfl
  refine fin_then ?_
  refine aw_cond rfl (fun hz1 => ?_) (fun hz1 => ?_)
  · have hm := brk_t hz1 hm
    refine aw_seq ?_
    refine aw_text (rows := [_]) rfl (by kernel_rfl) ⟨
      ok_plain rfl rfl (op_assign (ltN rfl) rfl),
      trivial⟩ ?_
    refine fin_keep (s' := [kt 4 (.B false)]) ?_ (kp rfl) rfl
    refine fin_then ?_
    refine aw_ret ?_
    refine fin_then_ret ?_
    refine post_ret (x := .B false) rfl rfl (resOK_tmp rfl resOK_nil) rfl (fun mm aa ww hr => ?_)
    have hm := Option.some.inj hm
    subst hm
    exact ⟨rfl, hr.below⟩
  · have hm := brk_f hz1 hm
    refine aw_skip ?_
    refine fin_then ?_
    refine aw_cutM (ι := Unit) hm (fun x1 => []) (fun hm => ?_) (fun x1 hm => ?_)
    · have _z := hm
      refine aw_seq ?_
      refine aw_text (rows := [_]) rfl (by kernel_rfl) ⟨
        ok_plain rfl rfl (op_assign (ltN rfl) rfl),
        trivial⟩ ?_
      refine fin_keep (s' := [kt 0 (.v (.slice a0_p a0.length a0_c)), kt 1 (.v (.slice a1_p a1.length a1_c)), kt 5 (.i 0)]) ?_ (kp rfl) rfl
      refine fin_then ?_
      refine aw_block ?_
      refine aw_loopC hm (fun x2 => [kt 0 (.v (.slice a0_p a0.length a0_c)), kt 1 (.v (.slice a1_p a1.length a1_c)), kt 5 (.i x2)]) ⟨rfl, rfl, rfl, trivial⟩ rfl (fun x2 n2 hm => ?_)
      refine aw_seq ?_
      refine aw_seq ?_
      refine aw_text (rows := [_, _, _, _]) rfl (by kernel_rfl) ⟨
        ok_plain rfl rfl (op_move (ltN rfl) rfl),
        ok_plain rfl rfl (op_move (ltN rfl) rfl),
        ok_plain rfl rfl (op_len (n := a0.length) (ltN rfl) (by rw [ss_49]; rfl) rfl rfl),
        ok_plain rfl rfl (op_bin (ltN rfl) rfl rfl rfl),
        trivial⟩ ?_
      refine fin_keep (s' := [kt 0 (.v (.slice a0_p a0.length a0_c)), kt 1 (.v (.slice a1_p a1.length a1_c)), kt 5 (.i x2), kt 14 (.B (decide (x2 < (((a0.length : Nat) : Int)))))]) ?_ (kp rfl) rfl
      refine fin_then ?_
      refine aw_cond rfl (fun hz2 => ?_) (fun hz2 => ?_)
      · have hm := brk_t hz2 hm
        refine aw_skip ?_
        refine fin_then ?_
        refine aw_seq ?_
        refine aw_block ?_
        refine aw_seq ?_
        obtain ⟨hp3, hm⟩ := chk_some hm
        obtain ⟨hp4, hm⟩ := chk_some hm
        refine aw_any (rows := [_, _, _, _, _, _, _, _, _]) (M := [0, 0, 3, 7, 0, 0, 48, 112, 255]) Tryd_mixed (by kernel_rfl) rfl (by kernel_rfl) ⟨
          ok_plain rfl rfl (op_move (ltN rfl) rfl),
          ok_plain rfl rfl (op_move (ltN rfl) rfl),
          ok_plain rfl rfl (op_ixB (ltN rfl) rfl rfl ss_49 (ha0_p (ne_of_ix (i := x2) hp3.1 hp3.2)) hp3.1 hp3.2),
          ok_plain rfl rfl (op_loadB (y := .i ((a0.getD x2.toNat 0))) (ltN rfl) rfl (ld1 (ha0_L (ne_of_ix (i := x2) hp3.1 hp3.2)) 0 (i := x2) hp3.1 hp3.2 0 rfl rfl sh_3)),
          ok_plain rfl rfl (op_move (ltN rfl) rfl),
          ok_plain rfl rfl (op_move (ltN rfl) rfl),
          ok_plain rfl rfl (op_ixB (ltN rfl) rfl rfl ss_49 (ha1_p (ne_of_ix (i := x2) hp4.1 hp4.2)) hp4.1 hp4.2),
          ok_plain rfl rfl (op_loadB (y := .i ((a1.getD x2.toNat 0))) (ltN rfl) rfl (ld1 (ha1_L (ne_of_ix (i := x2) hp4.1 hp4.2)) 0 (i := x2) hp4.1 hp4.2 0 rfl rfl sh_3)),
          ok_plain rfl rfl (op_bin (ltN rfl) rfl rfl rfl),
          trivial⟩ ?_
        refine fin_keep (s' := [kt 0 (.v (.slice a0_p a0.length a0_c)), kt 1 (.v (.slice a1_p a1.length a1_c)), kt 5 (.i x2), kt 25 (.B (((a0.getD x2.toNat 0)) != ((a1.getD x2.toNat 0))))]) ?_ (kp rfl) rfl
        refine fin_then ?_
        refine aw_cond rfl (fun hz5 => ?_) (fun hz5 => ?_)
        · have hm := brk_t hz5 hm
          refine aw_seq ?_
          refine aw_text (rows := [_]) rfl (by kernel_rfl) ⟨
            ok_plain rfl rfl (op_assign (ltN rfl) rfl),
            trivial⟩ ?_
          refine fin_keep (s' := [kt 4 (.B false)]) ?_ (kp rfl) rfl
          refine fin_then ?_
          refine aw_ret ?_
          refine fin_block_ret ?_
          refine fin_then_ret ?_
          refine fin_then_ret ?_
          refine fin_block_ret ?_
          refine fin_then_ret ?_
          refine post_ret (x := .B false) rfl rfl (resOK_tmp rfl resOK_nil) rfl (fun mm aa ww hr => ?_)
          have hm := Option.some.inj hm
          subst hm
          exact ⟨rfl, hr.below⟩
        · have hm := brk_f hz5 hm
          refine aw_skip ?_
          refine fin_block ?_
          refine fin_then ?_
          obtain ⟨hp6, hm⟩ := chk_some hm
          refine aw_text (rows := [_, _, _]) rfl (by kernel_rfl) ⟨
            ok_plain rfl rfl (op_move (ltN rfl) rfl),
            ok_plain rfl rfl (op_bin (ltN rfl) rfl rfl (nw_add hp6)),
            ok_plain rfl rfl (op_assign (ltN rfl) rfl),
            trivial⟩ ?_
          refine fin_keep (s' := [kt 0 (.v (.slice a0_p a0.length a0_c)), kt 1 (.v (.slice a1_p a1.length a1_c)), kt 5 (.i (x2 + 1))]) ?_ (kp rfl) rfl
          exact fin_cut (x2 + 1) hm ⟨rfl, rfl, rfl, trivial⟩ rfl
      · have hm := brk_f hz2 hm
        refine aw_exit ?_
        refine fin_then_exit ?_
        refine fin_then_exit ?_
        refine fin_block_exit ?_
        exact fin_cut () hm trivial rfl
    · have _z := hm
      refine aw_seq ?_
      refine aw_text (rows := [_]) rfl (by kernel_rfl) ⟨
        ok_plain rfl rfl (op_assign (ltN rfl) rfl),
        trivial⟩ ?_
      refine fin_keep (s' := [kt 4 (.B true)]) ?_ (kp rfl) rfl
      refine fin_then ?_
      refine aw_ret ?_
      refine post_ret (x := .B true) rfl rfl (resOK_tmp rfl resOK_nil) rfl (fun mm aa ww hr => ?_)
      have hm := Option.some.inj hm
      subst hm
      exact ⟨rfl, hr.below⟩

def m30 (_F : Nat) (a0 : List Span) : Option (List Span) :=
  chk (a0.length ≤ 1000000) (some a0)

theorem c30 (F : Nat) (a0 : List Span) (a0_s : SlV) (w : World) (ha0 : SlIs encSpan 2 w a0_s a0) (r : List Span) (hm : m30 F a0 = some r) : Calls Tryd.prog 30 #[.slice a0_s.p a0_s.n a0_s.c] w fun e w' => ∃ sl : List SlV, e = .returned ((fun vs => (vs.getD 0 (.bool false))) (sl.map SlV.val)) ∧ NewRowsD w w' sl [(r.length, 32, 2, r.flatMap encSpan)] ∧ Below w.heap.size w w' := by
  obtain ⟨a0_p, a0_n, a0_c⟩ := a0_s
  have ha0_l : a0_n = a0.length := ha0.1
  subst ha0_l
  obtain ⟨a0_b, a0_o, ha0_p, ha0_L⟩ := SlAt.lies' ha0
  unfold m30 at hm
  refine enter (args := [.v (.slice a0_p a0.length a0_c)]) Tryd.func30 rfl (N := 7) rfl (Nat.le_of_ble_eq_true rfl) ?_
  refine aw_seq ?_
  refine aw_text (rows := [_]) rfl (by kernel_rfl) ⟨
    ok_plain rfl rfl (op_assign (ltN rfl) rfl),
    trivial⟩ ?_
  refine fin_keep (s' := [kt 0 (.v (.slice a0_p a0.length a0_c))]) ?_ (kp rfl) rfl
  refine fin_then ?_
  refine aw_seq ?_
  refine aw_text (rows := [_]) rfl (by kernel_rfl) ⟨
    ok_plain rfl rfl (op_assign (ltN rfl) rfl),
    trivial⟩ ?_
  refine fin_keep (s' := [kt 0 (.v (.slice a0_p a0.length a0_c)), kt 3 (.v (.slice none 0 0))]) ?_ (kp rfl) rfl
  refine fin_then ?_
  refine aw_seq ?_
  refine aw_nilRowK (.t 3) 1 2 32 2 rfl rfl rfl (by decide) ?_
  obtain ⟨hp1, hm⟩ := chk_some hm
  refine aw_text (rows := [_, _, _, _]) rfl (by kernel_rfl) ⟨
    ok_plain rfl rfl (op_move (ltN rfl) rfl),
    ok_plain rfl rfl (op_move (ltN rfl) rfl),
    ok_plain rfl rfl (op_appendS (enc := encSpan) (l := a0) (L' := 3) (C' := 4) (ltN rfl) af_56 rfl rfl rfl rfl (fun mm aa ww gg hrel => (SlIs.mono ha0 hrel.below)) (fun _ => rfl) (fun _ => rfl) (by have := hp1; omega) (by have := hp1; omega) (by decide)),
    ok_plain rfl rfl (op_assign (ltN rfl) rfl),
    trivial⟩ ?_
  refine fin_keep (s' := [kt 2 (.o 3 4 a0.length), (.r 3, some (.vec true 4 32 2 (a0.flatMap encSpan)))]) ?_ ⟨(congrArg (fun q => some (Val.x (SV.o 3 4 q))) (Nat.zero_add a0.length)), rfl, trivial⟩ rfl
  refine fin_then ?_
  refine aw_ret ?_
  refine post_ret (x := .o 3 4 a0.length) rfl rfl (resOK_tmp rfl resOK_nil) rfl (fun mm aa ww hr => ?_)
  have hm := Option.some.inj hm
  subst hm
  exact ⟨[⟨ptr0 (mm 3) (mm 4), a0.length, mm 4⟩], rfl, ⟨⟨rfl, newAt_row hr mine_nil rfl (flat_length (enc := encSpan) (fun _ => rfl) _), trivial⟩, ⟨trivial, trivial⟩⟩, hr.below⟩

def m39 (F : Nat) (a0 : Ship) (a1 : Ship) : Option (Bool) :=
  bnd (m48 F a0.Thrust a1.Thrust) (fun v1 => bnd (brk ((!v1)) (some default) (m48 F a0.Water a1.Water)) (fun v2 => bnd (brk (((!v1) || (!v2))) (some default) (m48 F a0.Ice a1.Ice)) (fun v3 => brk (((!v1) || (!v2)) || (!v3)) (some false) (some ((((((((a0.Class == a1.Class) && (a0.Power == a1.Power)) && (a0.Draught == a1.Draught)) && (a0.Tonnes == a1.Tonnes)) && (a0.Slow == a1.Slow)) && (a0.Brash == a1.Brash)) && (a0.Ridge == a1.Ridge)) && (a0.Press == a1.Press))))))

theorem c39 (F : Nat) (a0 : Ship) (a0_Thrust_s : SlV) (a0_Water_s : SlV) (a0_Ice_s : SlV) (a1 : Ship) (a1_Thrust_s : SlV) (a1_Water_s : SlV) (a1_Ice_s : SlV) (w : World) (ha0_Thrust : SlIs encPt 2 w a0_Thrust_s a0.Thrust) (ha0_Water : SlIs encPt 2 w a0_Water_s a0.Water) (ha0_Ice : SlIs encPt 2 w a0_Ice_s a0.Ice) (ha1_Thrust : SlIs encPt 2 w a1_Thrust_s a1.Thrust) (ha1_Water : SlIs encPt 2 w a1_Water_s a1.Water) (ha1_Ice : SlIs encPt 2 w a1_Ice_s a1.Ice) (r : Bool) (hm : m39 F a0 a1 = some r) : Calls Tryd.prog 39 #[.agg #[.int .i64 a0.Class, .int .i64 a0.Power, .int .i64 a0.Draught, .int .i64 a0.Tonnes, .slice a0_Thrust_s.p a0_Thrust_s.n a0_Thrust_s.c, .slice a0_Water_s.p a0_Water_s.n a0_Water_s.c, .slice a0_Ice_s.p a0_Ice_s.n a0_Ice_s.c, .int .i64 a0.Slow, .int .i64 a0.Brash, .int .i64 a0.Ridge, .int .i64 a0.Press], .agg #[.int .i64 a1.Class, .int .i64 a1.Power, .int .i64 a1.Draught, .int .i64 a1.Tonnes, .slice a1_Thrust_s.p a1_Thrust_s.n a1_Thrust_s.c, .slice a1_Water_s.p a1_Water_s.n a1_Water_s.c, .slice a1_Ice_s.p a1_Ice_s.n a1_Ice_s.c, .int .i64 a1.Slow, .int .i64 a1.Brash, .int .i64 a1.Ridge, .int .i64 a1.Press]] w fun e w' => e = .returned (.bool r) ∧ Below w.heap.size w w' := by
  obtain ⟨a0_Thrust_p, a0_Thrust_n, a0_Thrust_c⟩ := a0_Thrust_s
  have ha0_Thrust_l : a0_Thrust_n = a0.Thrust.length := ha0_Thrust.1
  subst ha0_Thrust_l
  obtain ⟨a0_Thrust_b, a0_Thrust_o, ha0_Thrust_p, ha0_Thrust_L⟩ := SlAt.lies' ha0_Thrust
  obtain ⟨a0_Water_p, a0_Water_n, a0_Water_c⟩ := a0_Water_s
  have ha0_Water_l : a0_Water_n = a0.Water.length := ha0_Water.1
  subst ha0_Water_l
  obtain ⟨a0_Water_b, a0_Water_o, ha0_Water_p, ha0_Water_L⟩ := SlAt.lies' ha0_Water
  obtain ⟨a0_Ice_p, a0_Ice_n, a0_Ice_c⟩ := a0_Ice_s
  have ha0_Ice_l : a0_Ice_n = a0.Ice.length := ha0_Ice.1
  subst ha0_Ice_l
  obtain ⟨a0_Ice_b, a0_Ice_o, ha0_Ice_p, ha0_Ice_L⟩ := SlAt.lies' ha0_Ice
  obtain ⟨a1_Thrust_p, a1_Thrust_n, a1_Thrust_c⟩ := a1_Thrust_s
  have ha1_Thrust_l : a1_Thrust_n = a1.Thrust.length := ha1_Thrust.1
  subst ha1_Thrust_l
  obtain ⟨a1_Thrust_b, a1_Thrust_o, ha1_Thrust_p, ha1_Thrust_L⟩ := SlAt.lies' ha1_Thrust
  obtain ⟨a1_Water_p, a1_Water_n, a1_Water_c⟩ := a1_Water_s
  have ha1_Water_l : a1_Water_n = a1.Water.length := ha1_Water.1
  subst ha1_Water_l
  obtain ⟨a1_Water_b, a1_Water_o, ha1_Water_p, ha1_Water_L⟩ := SlAt.lies' ha1_Water
  obtain ⟨a1_Ice_p, a1_Ice_n, a1_Ice_c⟩ := a1_Ice_s
  have ha1_Ice_l : a1_Ice_n = a1.Ice.length := ha1_Ice.1
  subst ha1_Ice_l
  obtain ⟨a1_Ice_b, a1_Ice_o, ha1_Ice_p, ha1_Ice_L⟩ := SlAt.lies' ha1_Ice
  unfold m39 at hm
  refine enter (args := [.g [.i a0.Class, .i a0.Power, .i a0.Draught, .i a0.Tonnes, .v (.slice a0_Thrust_p a0.Thrust.length a0_Thrust_c), .v (.slice a0_Water_p a0.Water.length a0_Water_c), .v (.slice a0_Ice_p a0.Ice.length a0_Ice_c), .i a0.Slow, .i a0.Brash, .i a0.Ridge, .i a0.Press], .g [.i a1.Class, .i a1.Power, .i a1.Draught, .i a1.Tonnes, .v (.slice a1_Thrust_p a1.Thrust.length a1_Thrust_c), .v (.slice a1_Water_p a1.Water.length a1_Water_c), .v (.slice a1_Ice_p a1.Ice.length a1_Ice_c), .i a1.Slow, .i a1.Brash, .i a1.Ridge, .i a1.Press]]) Tryd.func39 rfl (N := 81) rfl (Nat.le_of_ble_eq_true rfl) ?_
  refine aw_seq ?_
  refine aw_text (rows := [_, _, _]) rfl (by kernel_rfl) ⟨
    ok_plain rfl rfl (op_boxN (L := 1) (ltN rfl) rfl rfl rfl),
    ok_plain rfl rfl (op_boxN (L := 2) (ltN rfl) rfl rfl rfl),
    ok_plain rfl rfl (op_assign (ltN rfl) rfl),
    trivial⟩ ?_
  refine fin_keep (s' := [kt 2 (.p 1 0), kt 3 (.p 2 0), kb 1 25 11, kb 2 25 11, kc 1 0 (.i a0.Class), kc 1 1 (.i a0.Power), kc 1 2 (.i a0.Draught), kc 1 3 (.i a0.Tonnes), kc 1 4 (.v (.slice a0_Thrust_p a0.Thrust.length a0_Thrust_c)), kc 1 5 (.v (.slice a0_Water_p a0.Water.length a0_Water_c)), kc 1 6 (.v (.slice a0_Ice_p a0.Ice.length a0_Ice_c)), kc 1 7 (.i a0.Slow), kc 1 8 (.i a0.Brash), kc 1 9 (.i a0.Ridge), kc 1 10 (.i a0.Press), kc 2 0 (.i a1.Class), kc 2 1 (.i a1.Power), kc 2 2 (.i a1.Draught), kc 2 3 (.i a1.Tonnes), kc 2 4 (.v (.slice a1_Thrust_p a1.Thrust.length a1_Thrust_c)), kc 2 5 (.v (.slice a1_Water_p a1.Water.length a1_Water_c)), kc 2 6 (.v (.slice a1_Ice_p a1.Ice.length a1_Ice_c)), kc 2 7 (.i a1.Slow), kc 2 8 (.i a1.Brash), kc 2 9 (.i a1.Ridge), kc 2 10 (.i a1.Press)]) ?_ (kp rfl) rfl
  refine fin_then ?_
  refine aw_seq ?_
  refine aw_seq ?_
  obtain ⟨v1, hv1, hm⟩ := bnd_some hm
  obtain ⟨v2, hv2, hm⟩ := bnd_some hm
  obtain ⟨v3, hv3, hm⟩ := bnd_some hm
  refine aw_text (rows := [_, _, _, _, _, _, _, _, _, _, _, _, _, _, _, _, _, _, _, _, _, _]) rfl (by kernel_rfl) ⟨
    ok_plain rfl rfl (op_fieldAddr (ltN rfl) rfl fo_25_4),
    ok_plain rfl rfl (op_load1 (ltN rfl) sh_23 rfl rfl),
    ok_plain rfl rfl (op_fieldAddr (ltN rfl) rfl fo_25_4),
    ok_plain rfl rfl (op_load1 (ltN rfl) sh_23 rfl rfl),
    ok_plain rfl rfl (op_call (x := .B v1) (fs := []) (caps := []) (extra := []) (ltN rfl) en_48 rfl ⟨rfl, rfl, rfl⟩ (EvL.cons rfl (EvL.cons rfl EvL.nil)) (fun mm aa ww gg hr hrel => (c48 F a0.Thrust ⟨a0_Thrust_p, a0.Thrust.length, a0_Thrust_c⟩ a1.Thrust ⟨a1_Thrust_p, a1.Thrust.length, a1_Thrust_c⟩ ww (SlIs.mono ha0_Thrust hrel.below) (SlIs.mono ha1_Thrust hrel.below) v1 hv1))),
    ok_plain rfl rfl (op_not (ltN rfl) rfl),
    ok_plain rfl rfl (op_move (ltN rfl) rfl),
    ok_if (ltN rfl) rfl rfl rfl rfl rfl rfl (fun hg1 => op_fieldAddr (ltN rfl) (force_x rfl) fo_25_5),
    ok_if (ltN rfl) rfl rfl rfl rfl rfl rfl (fun hg2 => op_load1 (ltN rfl) sh_23 (force_eq (beq_iff_eq.2 hg2) rfl) rfl),
    ok_if (ltN rfl) rfl rfl rfl rfl rfl rfl (fun hg3 => op_fieldAddr (ltN rfl) (force_x rfl) fo_25_5),
    ok_if (ltN rfl) rfl rfl rfl rfl rfl rfl (fun hg4 => op_load1 (ltN rfl) sh_23 (force_eq (beq_iff_eq.2 hg4) rfl) rfl),
    ok_if (ltN rfl) rfl rfl rfl rfl rfl rfl (fun hg5 => op_call (x := .B v2) (fs := []) (caps := []) (extra := []) (ltN rfl) en_48 rfl ⟨rfl, rfl, rfl⟩ (EvL.cons (force_eq (beq_iff_eq.2 hg5) rfl) (EvL.cons (force_eq (beq_iff_eq.2 hg5) rfl) EvL.nil)) (fun mm aa ww gg hr hrel => (c48 F a0.Water ⟨a0_Water_p, a0.Water.length, a0_Water_c⟩ a1.Water ⟨a1_Water_p, a1.Water.length, a1_Water_c⟩ ww (SlIs.mono ha0_Water hrel.below) (SlIs.mono ha1_Water hrel.below) v2 (brk_f hg5 hv2)))),
    ok_if (ltN rfl) rfl rfl rfl rfl rfl rfl (fun hg6 => op_not (ltN rfl) (force_eq (beq_iff_eq.2 hg6) rfl)),
    ok_plain rfl rfl (op_or (ltN rfl) rfl rfl),
    ok_plain rfl rfl (op_move (ltN rfl) rfl),
    ok_if (ltN rfl) rfl rfl rfl rfl rfl rfl (fun hg7 => op_fieldAddr (ltN rfl) (force_x rfl) fo_25_6),
    ok_if (ltN rfl) rfl rfl rfl rfl rfl rfl (fun hg8 => op_load1 (ltN rfl) sh_23 (force_eq (beq_iff_eq.2 hg8) rfl) rfl),
    ok_if (ltN rfl) rfl rfl rfl rfl rfl rfl (fun hg9 => op_fieldAddr (ltN rfl) (force_x rfl) fo_25_6),
    ok_if (ltN rfl) rfl rfl rfl rfl rfl rfl (fun hg10 => op_load1 (ltN rfl) sh_23 (force_eq (beq_iff_eq.2 hg10) rfl) rfl),
    ok_if (ltN rfl) rfl rfl rfl rfl rfl rfl (fun hg11 => op_call (x := .B v3) (fs := []) (caps := []) (extra := []) (ltN rfl) en_48 rfl ⟨rfl, rfl, rfl⟩ (EvL.cons (force_eq (beq_iff_eq.2 hg11) rfl) (EvL.cons (force_eq (beq_iff_eq.2 hg11) rfl) EvL.nil)) (fun mm aa ww gg hr hrel => (c48 F a0.Ice ⟨a0_Ice_p, a0.Ice.length, a0_Ice_c⟩ a1.Ice ⟨a1_Ice_p, a1.Ice.length, a1_Ice_c⟩ ww (SlIs.mono ha0_Ice hrel.below) (SlIs.mono ha1_Ice hrel.below) v3 (brk_f hg11 hv3)))),
    ok_if (ltN rfl) rfl rfl rfl rfl rfl rfl (fun hg12 => op_not (ltN rfl) (force_eq (beq_iff_eq.2 hg12) rfl)),
    ok_plain rfl rfl (op_or (ltN rfl) rfl rfl),
    trivial⟩ ?_
  refine fin_keep (s' := [kt 2 (.p 1 0), kt 3 (.p 2 0), kt 26 (.B (((!v1) || (!v2)) || (!v3))), kb 1 25 11, kb 2 25 11, kc 1 0 (.i a0.Class), kc 1 1 (.i a0.Power), kc 1 2 (.i a0.Draught), kc 1 3 (.i a0.Tonnes), kc 1 4 (.v (.slice a0_Thrust_p a0.Thrust.length a0_Thrust_c)), kc 1 5 (.v (.slice a0_Water_p a0.Water.length a0_Water_c)), kc 1 6 (.v (.slice a0_Ice_p a0.Ice.length a0_Ice_c)), kc 1 7 (.i a0.Slow), kc 1 8 (.i a0.Brash), kc 1 9 (.i a0.Ridge), kc 1 10 (.i a0.Press), kc 2 0 (.i a1.Class), kc 2 1 (.i a1.Power), kc 2 2 (.i a1.Draught), kc 2 3 (.i a1.Tonnes), kc 2 4 (.v (.slice a1_Thrust_p a1.Thrust.length a1_Thrust_c)), kc 2 5 (.v (.slice a1_Water_p a1.Water.length a1_Water_c)), kc 2 6 (.v (.slice a1_Ice_p a1.Ice.length a1_Ice_c)), kc 2 7 (.i a1.Slow), kc 2 8 (.i a1.Brash), kc 2 9 (.i a1.Ridge), kc 2 10 (.i a1.Press)]) ?_ (kp rfl) rfl
  refine fin_then ?_
  refine aw_cond rfl (fun hz13 => ?_) (fun hz13 => ?_)
  · have hm := brk_t hz13 hm
    refine aw_seq ?_
    refine aw_text (rows := [_]) rfl (by kernel_rfl) ⟨
      ok_plain rfl rfl (op_assign (ltN rfl) rfl),
      trivial⟩ ?_
    refine fin_keep (s' := [kt 4 (.B false)]) ?_ (kp rfl) rfl
    refine fin_then ?_
    refine aw_ret ?_
    refine fin_then_ret ?_
    refine post_ret (x := .B false) rfl rfl (resOK_tmp rfl resOK_nil) rfl (fun mm aa ww hr => ?_)
    have hm := Option.some.inj hm
    subst hm
    exact ⟨rfl, hr.below⟩
  · have hm := brk_f hz13 hm
    refine aw_skip ?_
    refine fin_then ?_
    refine aw_seq ?_
    refine aw_text (rows := [_, _, _, _, _, _, _, _, _, _, _, _, _, _, _, _, _, _, _, _, _, _, _, _, _, _, _, _, _, _, _, _, _, _, _, _, _, _, _, _, _, _, _, _, _, _, _, _, _, _, _, _, _, _, _]) rfl (by kernel_rfl) ⟨
      ok_plain rfl rfl (op_fieldAddr (ltN rfl) rfl fo_25_0),
      ok_plain rfl rfl (op_load1 (ltN rfl) sh_3 rfl rfl),
      ok_plain rfl rfl (op_fieldAddr (ltN rfl) rfl fo_25_0),
      ok_plain rfl rfl (op_load1 (ltN rfl) sh_3 rfl rfl),
      ok_plain rfl rfl (op_bin (ltN rfl) rfl rfl rfl),
      ok_plain rfl rfl (op_move (ltN rfl) rfl),
      ok_if (ltN rfl) rfl rfl rfl rfl rfl rfl (fun hg14 => op_fieldAddr (ltN rfl) (force_x rfl) fo_25_1),
      ok_if (ltN rfl) rfl rfl rfl rfl rfl rfl (fun hg15 => op_load1 (ltN rfl) sh_3 (force_eq (beq_iff_eq.2 hg15) rfl) rfl),
      ok_if (ltN rfl) rfl rfl rfl rfl rfl rfl (fun hg16 => op_fieldAddr (ltN rfl) (force_x rfl) fo_25_1),
      ok_if (ltN rfl) rfl rfl rfl rfl rfl rfl (fun hg17 => op_load1 (ltN rfl) sh_3 (force_eq (beq_iff_eq.2 hg17) rfl) rfl),
      ok_if (ltN rfl) rfl rfl rfl rfl rfl rfl (fun hg18 => op_bin (ltN rfl) (force_eq (beq_iff_eq.2 hg18) rfl) (force_eq (beq_iff_eq.2 hg18) rfl) rfl),
      ok_plain rfl rfl (op_and (ltN rfl) rfl rfl),
      ok_plain rfl rfl (op_move (ltN rfl) rfl),
      ok_if (ltN rfl) rfl rfl rfl rfl rfl rfl (fun hg19 => op_fieldAddr (ltN rfl) (force_x rfl) fo_25_2),
      ok_if (ltN rfl) rfl rfl rfl rfl rfl rfl (fun hg20 => op_load1 (ltN rfl) sh_3 (force_eq (beq_iff_eq.2 hg20) rfl) rfl),
      ok_if (ltN rfl) rfl rfl rfl rfl rfl rfl (fun hg21 => op_fieldAddr (ltN rfl) (force_x rfl) fo_25_2),
      ok_if (ltN rfl) rfl rfl rfl rfl rfl rfl (fun hg22 => op_load1 (ltN rfl) sh_3 (force_eq (beq_iff_eq.2 hg22) rfl) rfl),
      ok_if (ltN rfl) rfl rfl rfl rfl rfl rfl (fun hg23 => op_bin (ltN rfl) (force_eq (beq_iff_eq.2 hg23) rfl) (force_eq (beq_iff_eq.2 hg23) rfl) rfl),
      ok_plain rfl rfl (op_and (ltN rfl) rfl rfl),
      ok_plain rfl rfl (op_move (ltN rfl) rfl),
      ok_if (ltN rfl) rfl rfl rfl rfl rfl rfl (fun hg24 => op_fieldAddr (ltN rfl) (force_x rfl) fo_25_3),
      ok_if (ltN rfl) rfl rfl rfl rfl rfl rfl (fun hg25 => op_load1 (ltN rfl) sh_3 (force_eq (beq_iff_eq.2 hg25) rfl) rfl),
      ok_if (ltN rfl) rfl rfl rfl rfl rfl rfl (fun hg26 => op_fieldAddr (ltN rfl) (force_x rfl) fo_25_3),
      ok_if (ltN rfl) rfl rfl rfl rfl rfl rfl (fun hg27 => op_load1 (ltN rfl) sh_3 (force_eq (beq_iff_eq.2 hg27) rfl) rfl),
      ok_if (ltN rfl) rfl rfl rfl rfl rfl rfl (fun hg28 => op_bin (ltN rfl) (force_eq (beq_iff_eq.2 hg28) rfl) (force_eq (beq_iff_eq.2 hg28) rfl) rfl),
      ok_plain rfl rfl (op_and (ltN rfl) rfl rfl),
      ok_plain rfl rfl (op_move (ltN rfl) rfl),
      ok_if (ltN rfl) rfl rfl rfl rfl rfl rfl (fun hg29 => op_fieldAddr (ltN rfl) (force_x rfl) fo_25_7),
      ok_if (ltN rfl) rfl rfl rfl rfl rfl rfl (fun hg30 => op_load1 (ltN rfl) sh_3 (force_eq (beq_iff_eq.2 hg30) rfl) rfl),
      ok_if (ltN rfl) rfl rfl rfl rfl rfl rfl (fun hg31 => op_fieldAddr (ltN rfl) (force_x rfl) fo_25_7),
      ok_if (ltN rfl) rfl rfl rfl rfl rfl rfl (fun hg32 => op_load1 (ltN rfl) sh_3 (force_eq (beq_iff_eq.2 hg32) rfl) rfl),
      ok_if (ltN rfl) rfl rfl rfl rfl rfl rfl (fun hg33 => op_bin (ltN rfl) (force_eq (beq_iff_eq.2 hg33) rfl) (force_eq (beq_iff_eq.2 hg33) rfl) rfl),
      ok_plain rfl rfl (op_and (ltN rfl) rfl rfl),
      ok_plain rfl rfl (op_move (ltN rfl) rfl),
      ok_if (ltN rfl) rfl rfl rfl rfl rfl rfl (fun hg34 => op_fieldAddr (ltN rfl) (force_x rfl) fo_25_8),
      ok_if (ltN rfl) rfl rfl rfl rfl rfl rfl (fun hg35 => op_load1 (ltN rfl) sh_3 (force_eq (beq_iff_eq.2 hg35) rfl) rfl),
      ok_if (ltN rfl) rfl rfl rfl rfl rfl rfl (fun hg36 => op_fieldAddr (ltN rfl) (force_x rfl) fo_25_8),
      ok_if (ltN rfl) rfl rfl rfl rfl rfl rfl (fun hg37 => op_load1 (ltN rfl) sh_3 (force_eq (beq_iff_eq.2 hg37) rfl) rfl),
      ok_if (ltN rfl) rfl rfl rfl rfl rfl rfl (fun hg38 => op_bin (ltN rfl) (force_eq (beq_iff_eq.2 hg38) rfl) (force_eq (beq_iff_eq.2 hg38) rfl) rfl),
      ok_plain rfl rfl (op_and (ltN rfl) rfl rfl),
      ok_plain rfl rfl (op_move (ltN rfl) rfl),
      ok_if (ltN rfl) rfl rfl rfl rfl rfl rfl (fun hg39 => op_fieldAddr (ltN rfl) (force_x rfl) fo_25_9),
      ok_if (ltN rfl) rfl rfl rfl rfl rfl rfl (fun hg40 => op_load1 (ltN rfl) sh_3 (force_eq (beq_iff_eq.2 hg40) rfl) rfl),
      ok_if (ltN rfl) rfl rfl rfl rfl rfl rfl (fun hg41 => op_fieldAddr (ltN rfl) (force_x rfl) fo_25_9),
      ok_if (ltN rfl) rfl rfl rfl rfl rfl rfl (fun hg42 => op_load1 (ltN rfl) sh_3 (force_eq (beq_iff_eq.2 hg42) rfl) rfl),
      ok_if (ltN rfl) rfl rfl rfl rfl rfl rfl (fun hg43 => op_bin (ltN rfl) (force_eq (beq_iff_eq.2 hg43) rfl) (force_eq (beq_iff_eq.2 hg43) rfl) rfl),
      ok_plain rfl rfl (op_and (ltN rfl) rfl rfl),
      ok_plain rfl rfl (op_move (ltN rfl) rfl),
      ok_if (ltN rfl) rfl rfl rfl rfl rfl rfl (fun hg44 => op_fieldAddr (ltN rfl) (force_x rfl) fo_25_10),
      ok_if (ltN rfl) rfl rfl rfl rfl rfl rfl (fun hg45 => op_load1 (ltN rfl) sh_3 (force_eq (beq_iff_eq.2 hg45) rfl) rfl),
      ok_if (ltN rfl) rfl rfl rfl rfl rfl rfl (fun hg46 => op_fieldAddr (ltN rfl) (force_x rfl) fo_25_10),
      ok_if (ltN rfl) rfl rfl rfl rfl rfl rfl (fun hg47 => op_load1 (ltN rfl) sh_3 (force_eq (beq_iff_eq.2 hg47) rfl) rfl),
      ok_if (ltN rfl) rfl rfl rfl rfl rfl rfl (fun hg48 => op_bin (ltN rfl) (force_eq (beq_iff_eq.2 hg48) rfl) (force_eq (beq_iff_eq.2 hg48) rfl) rfl),
      ok_plain rfl rfl (op_and (ltN rfl) rfl rfl),
      ok_plain rfl rfl (op_assign (ltN rfl) rfl),
      trivial⟩ ?_
    refine fin_keep (s' := [kt 4 (.B ((((((((a0.Class == a1.Class) && (a0.Power == a1.Power)) && (a0.Draught == a1.Draught)) && (a0.Tonnes == a1.Tonnes)) && (a0.Slow == a1.Slow)) && (a0.Brash == a1.Brash)) && (a0.Ridge == a1.Ridge)) && (a0.Press == a1.Press)))]) ?_ (kp rfl) rfl
    refine fin_then ?_
    refine aw_ret ?_
    refine post_ret (x := .B ((((((((a0.Class == a1.Class) && (a0.Power == a1.Power)) && (a0.Draught == a1.Draught)) && (a0.Tonnes == a1.Tonnes)) && (a0.Slow == a1.Slow)) && (a0.Brash == a1.Brash)) && (a0.Ridge == a1.Ridge)) && (a0.Press == a1.Press))) rfl rfl (resOK_tmp rfl resOK_nil) rfl (fun mm aa ww hr => ?_)
    have hm := Option.some.inj hm
    subst hm
    exact ⟨rfl, hr.below⟩

end Go.Proofs.T

namespace Go.Proofs.T
open Go Go.AX Go.RowKit Hull
theorem ss_62 : sliceSz Tryd.prog 62 = some 2 := by kernel_rfl
theorem fo_170_0 : fieldOff Tryd.prog 170 0 = some 0 := by kernel_rfl
theorem en_92 : Proofs.Enters Tryd.prog 92 := Proofs.enters_of Tryd.func92 (by kernel_rfl) rfl
theorem fo_170_1 : fieldOff Tryd.prog 170 1 = some 1 := by kernel_rfl
theorem sh_170 : shapeOf Tryd.prog 170 = some (some 2) := by kernel_rfl
theorem zl_170 : zeroL Tryd.prog 170 = some [(.int .i64 0), (.int .i64 0)] := by kernel_rfl
theorem sz_170 : sizeIn Tryd.prog 170 = some 2 := by kernel_rfl
theorem en_110 : Proofs.Enters Tryd.prog 110 := Proofs.enters_of Tryd.func110 (by kernel_rfl) rfl
theorem en_111 : Proofs.Enters Tryd.prog 111 := Proofs.enters_of Tryd.func111 (by kernel_rfl) rfl
theorem fo_64_0 : fieldOff Tryd.prog 64 0 = some 0 := by kernel_rfl
theorem fo_64_1 : fieldOff Tryd.prog 64 1 = some 1 := by kernel_rfl
theorem fo_64_2 : fieldOff Tryd.prog 64 2 = some 2 := by kernel_rfl
theorem fo_64_3 : fieldOff Tryd.prog 64 3 = some 3 := by kernel_rfl
theorem fo_64_7 : fieldOff Tryd.prog 64 7 = some 7 := by kernel_rfl
theorem fo_64_8 : fieldOff Tryd.prog 64 8 = some 8 := by kernel_rfl
theorem fo_64_9 : fieldOff Tryd.prog 64 9 = some 9 := by kernel_rfl
theorem fo_64_10 : fieldOff Tryd.prog 64 10 = some 10 := by kernel_rfl
theorem fo_64_4 : fieldOff Tryd.prog 64 4 = some 4 := by kernel_rfl
theorem sh_62 : shapeOf Tryd.prog 62 = some none := by kernel_rfl
theorem fo_64_5 : fieldOff Tryd.prog 64 5 = some 5 := by kernel_rfl
theorem fo_64_6 : fieldOff Tryd.prog 64 6 = some 6 := by kernel_rfl
theorem en_47 : Proofs.Enters Tryd.prog 47 := Proofs.enters_of Tryd.func47 (by kernel_rfl) rfl
theorem en_115 : Proofs.Enters Tryd.prog 115 := Proofs.enters_of Tryd.func115 (by kernel_rfl) rfl

def m92 (_F : Nat) (a0 : Int) (a1 : Int) (a2 : Int) : Option (Bool) :=
  some ((decide (a0 ≥ a1)) && (decide (a0 ≤ a2)))

theorem c92 (F : Nat) (a0 : Int) (a1 : Int) (a2 : Int) (w : World)  (r : Bool) (hm : m92 F a0 a1 a2 = some r) : Calls Tryd.prog 92 #[.int .i64 a0, .int .i64 a1, .int .i64 a2] w fun e w' => e = .returned (.bool r) ∧ Below w.heap.size w w' := by
  unfold m92 at hm
  refine enter (args := [.i a0, .i a1, .i a2]) Tryd.func92 rfl (N := 15) rfl (Nat.le_of_ble_eq_true rfl) ?_
  refine aw_seq ?_
  refine aw_text (rows := [_]) rfl (by kernel_rfl) ⟨
    ok_plain rfl rfl (op_assign (ltN rfl) rfl),
    trivial⟩ ?_
  refine fin_keep (s' := [kt 0 (.i a0), kt 1 (.i a1), kt 2 (.i a2)]) ?_ (kp rfl) rfl
  refine fin_then ?_
  refine aw_seq ?_
  refine aw_text (rows := [_, _, _, _, _, _, _, _, _]) rfl (by kernel_rfl) ⟨
    ok_plain rfl rfl (op_move (ltN rfl) rfl),
    ok_plain rfl rfl (op_move (ltN rfl) rfl),
    ok_plain rfl rfl (op_bin (ltN rfl) rfl rfl rfl),
    ok_plain rfl rfl (op_move (ltN rfl) rfl),
    ok_if (ltN rfl) rfl rfl rfl rfl rfl rfl (fun hg1 => op_move (ltN rfl) (force_x rfl)),
    ok_if (ltN rfl) rfl rfl rfl rfl rfl rfl (fun hg2 => op_move (ltN rfl) (force_x rfl)),
    ok_if (ltN rfl) rfl rfl rfl rfl rfl rfl (fun hg3 => op_bin (ltN rfl) (force_eq (beq_iff_eq.2 hg3) rfl) (force_eq (beq_iff_eq.2 hg3) rfl) rfl),
    ok_plain rfl rfl (op_and (ltN rfl) rfl rfl),
    ok_plain rfl rfl (op_assign (ltN rfl) rfl),
    trivial⟩ ?_
  refine fin_keep (s' := [kt 6 (.B ((decide (a0 ≥ a1)) && (decide (a0 ≤ a2))))]) ?_ (kp rfl) rfl
  refine fin_then ?_
  refine aw_ret ?_
  refine post_ret (x := .B ((decide (a0 ≥ a1)) && (decide (a0 ≤ a2)))) rfl rfl (resOK_tmp rfl resOK_nil) rfl (fun mm aa ww hr => ?_)
  have hm := Option.some.inj hm
  subst hm
  exact ⟨rfl, hr.below⟩

def m110 (F : Nat) (a0 : List Pt) : Option (Bool) :=
  chk (((decide ((((a0.length : Nat) : Int)) < 2)) || (decide ((((a0.length : Nat) : Int)) > 8))) = false → (0 : Int) ≤ 0 ∧ 0 < ((a0.length : Nat) : Int)) (brk (((decide ((((a0.length : Nat) : Int)) < 2)) || (decide ((((a0.length : Nat) : Int)) > 8))) || ((((pt a0 0)).X) != 0)) (some false) (join (fun (_ : Unit) => some true) (fun k1 => loopC (fun (x2 : Int) n2 => brk (decide (x2 < (((a0.length : Nat) : Int)))) (chk (0 ≤ x2 ∧ x2 < ((a0.length : Nat) : Int)) (bnd (m92 F (((pt a0 x2)).X) 0 400) (fun v1 => bnd (brk ((!v1)) (some default) (m92 F (((pt a0 x2)).Y) 0 20000)) (fun v2 => brk ((!v1) || (!v2)) (some false) (chk ((decide (x2 > 0)) = true → InR (x2 - 1)) (chk ((decide (x2 > 0)) = true → 0 ≤ x2 - 1 ∧ x2 - 1 < ((a0.length : Nat) : Int)) (brk ((decide (x2 > 0)) && (decide ((((pt a0 x2)).X) ≤ (((pt a0 (x2 - 1))).X)))) (some false) (chk (InR (x2 + 1)) (n2 (x2 + 1)))))))))) (k1 ())) F 0)))

theorem c110 (F : Nat) (a0 : List Pt) (a0_s : SlV) (w : World) (ha0 : SlIs encPt 2 w a0_s a0) (r : Bool) (hm : m110 F a0 = some r) : Calls Tryd.prog 110 #[.slice a0_s.p a0_s.n a0_s.c] w fun e w' => e = .returned (.bool r) ∧ Below w.heap.size w w' := by
  obtain ⟨a0_p, a0_n, a0_c⟩ := a0_s
  have ha0_l : a0_n = a0.length := ha0.1
  subst ha0_l
  obtain ⟨a0_b, a0_o, ha0_p, ha0_L⟩ := SlAt.lies' ha0
  unfold m110 at hm
  refine enter (args := [.v (.slice a0_p a0.length a0_c)]) Tryd.func110 rfl (N := 57) rfl (Nat.le_of_ble_eq_true rfl) ?_
  refine aw_seq ?_
  refine aw_text (rows := [_]) rfl (by kernel_rfl) ⟨
    ok_plain rfl rfl (op_assign (ltN rfl) rfl),
    trivial⟩ ?_
  refine fin_keep (s' := [kt 0 (.v (.slice a0_p a0.length a0_c))]) ?_ (kp rfl) rfl
  refine fin_then ?_
  refine aw_seq ?_
  refine aw_seq ?_
  obtain ⟨hp6, hm⟩ := chk_some hm
  refine aw_text (rows := [_, _, _, _, _, _, _, _, _, _, _, _, _, _, _]) rfl (by kernel_rfl) ⟨
    ok_plain rfl rfl (op_move (ltN rfl) rfl),
    ok_plain rfl rfl (op_len (n := a0.length) (ltN rfl) (by rw [ss_62]; rfl) rfl rfl),
    ok_plain rfl rfl (op_bin (ltN rfl) rfl rfl rfl),
    ok_plain rfl rfl (op_move (ltN rfl) rfl),
    ok_if (ltN rfl) rfl rfl rfl rfl rfl rfl (fun hg1 => op_move (ltN rfl) (force_x rfl)),
    ok_if (ltN rfl) rfl rfl rfl rfl rfl rfl (fun hg2 => op_len (n := a0.length) (ltN rfl) (by rw [ss_62]; rfl) (force_eq (beq_iff_eq.2 hg2) rfl) rfl),
    ok_if (ltN rfl) rfl rfl rfl rfl rfl rfl (fun hg3 => op_bin (ltN rfl) (force_eq (beq_iff_eq.2 hg3) rfl) rfl rfl),
    ok_plain rfl rfl (op_or (ltN rfl) rfl rfl),
    ok_plain rfl rfl (op_move (ltN rfl) rfl),
    ok_if (ltN rfl) rfl rfl rfl rfl rfl rfl (fun hg4 => op_move (ltN rfl) (force_x rfl)),
    ok_if (ltN rfl) rfl rfl rfl rfl rfl rfl (fun hg5 => op_ixB (ltN rfl) (force_eq (beq_iff_eq.2 hg5) rfl) rfl ss_62 (ha0_p (ne_of_ix (i := 0) (hp6 hg5).1 (hp6 hg5).2)) (hp6 hg5).1 (hp6 hg5).2),
    ok_if (ltN rfl) rfl rfl rfl rfl rfl rfl (fun hg7 => op_fieldAddrB (ltN rfl) (force_eq (beq_iff_eq.2 hg7) rfl) fo_170_0),
    ok_if (ltN rfl) rfl rfl rfl rfl rfl rfl (fun hg8 => op_loadB (y := .i (((pt a0 0)).X)) (ltN rfl) (force_eq (beq_iff_eq.2 hg8) rfl) (ld1 (ha0_L (ne_of_ix (i := 0) (hp6 hg8).1 (hp6 hg8).2)) ⟨0, 0⟩ (i := 0) (hp6 hg8).1 (hp6 hg8).2 0 rfl rfl sh_3)),
    ok_if (ltN rfl) rfl rfl rfl rfl rfl rfl (fun hg9 => op_bin (ltN rfl) (force_eq (beq_iff_eq.2 hg9) rfl) rfl rfl),
    ok_plain rfl rfl (op_or (ltN rfl) rfl rfl),
    trivial⟩ ?_
  refine fin_keep (s' := [kt 0 (.v (.slice a0_p a0.length a0_c)), kt 18 (.B (((decide ((((a0.length : Nat) : Int)) < 2)) || (decide ((((a0.length : Nat) : Int)) > 8))) || ((((pt a0 0)).X) != 0)))]) ?_ (kp rfl) rfl
  refine fin_then ?_
  refine aw_cond rfl (fun hz10 => ?_) (fun hz10 => ?_)
  · have hm := brk_t hz10 hm
    refine aw_seq ?_
    refine aw_text (rows := [_]) rfl (by kernel_rfl) ⟨
      ok_plain rfl rfl (op_assign (ltN rfl) rfl),
      trivial⟩ ?_
    refine fin_keep (s' := [kt 2 (.B false)]) ?_ (kp rfl) rfl
    refine fin_then ?_
    refine aw_ret ?_
    refine fin_then_ret ?_
    refine post_ret (x := .B false) rfl rfl (resOK_tmp rfl resOK_nil) rfl (fun mm aa ww hr => ?_)
    have hm := Option.some.inj hm
    subst hm
    exact ⟨rfl, hr.below⟩
  · have hm := brk_f hz10 hm
    refine aw_skip ?_
    refine fin_then ?_
    refine aw_cutM (ι := Unit) hm (fun x1 => []) (fun hm => ?_) (fun x1 hm => ?_)
    · have _z := hm
      refine aw_seq ?_
      refine aw_text (rows := [_]) rfl (by kernel_rfl) ⟨
        ok_plain rfl rfl (op_assign (ltN rfl) rfl),
        trivial⟩ ?_
      refine fin_keep (s' := [kt 0 (.v (.slice a0_p a0.length a0_c)), kt 3 (.i 0)]) ?_ (kp rfl) rfl
      refine fin_then ?_
      refine aw_block ?_
      refine aw_loopC hm (fun x2 => [kt 0 (.v (.slice a0_p a0.length a0_c)), kt 3 (.i x2)]) ⟨rfl, rfl, trivial⟩ rfl (fun x2 n2 hm => ?_)
      refine aw_seq ?_
      refine aw_seq ?_
      refine aw_text (rows := [_, _, _, _]) rfl (by kernel_rfl) ⟨
        ok_plain rfl rfl (op_move (ltN rfl) rfl),
        ok_plain rfl rfl (op_move (ltN rfl) rfl),
        ok_plain rfl rfl (op_len (n := a0.length) (ltN rfl) (by rw [ss_62]; rfl) rfl rfl),
        ok_plain rfl rfl (op_bin (ltN rfl) rfl rfl rfl),
        trivial⟩ ?_
      refine fin_keep (s' := [kt 0 (.v (.slice a0_p a0.length a0_c)), kt 3 (.i x2), kt 22 (.B (decide (x2 < (((a0.length : Nat) : Int)))))]) ?_ (kp rfl) rfl
      refine fin_then ?_
      refine aw_cond rfl (fun hz11 => ?_) (fun hz11 => ?_)
      · have hm := brk_t hz11 hm
        refine aw_skip ?_
        refine fin_then ?_
        refine aw_seq ?_
        refine aw_block ?_
        refine aw_seq ?_
        refine aw_seq ?_
        obtain ⟨hp12, hm⟩ := chk_some hm
        obtain ⟨v1, hv1, hm⟩ := bnd_some hm
        obtain ⟨v2, hv2, hm⟩ := bnd_some hm
        refine aw_text (rows := [_, _, _, _, _, _, _, _, _, _, _, _, _, _, _, _]) rfl (by kernel_rfl) ⟨
          ok_plain rfl rfl (op_move (ltN rfl) rfl),
          ok_plain rfl rfl (op_move (ltN rfl) rfl),
          ok_plain rfl rfl (op_ixB (ltN rfl) rfl rfl ss_62 (ha0_p (ne_of_ix (i := x2) hp12.1 hp12.2)) hp12.1 hp12.2),
          ok_plain rfl rfl (op_fieldAddrB (ltN rfl) rfl fo_170_0),
          ok_plain rfl rfl (op_loadB (y := .i (((pt a0 x2)).X)) (ltN rfl) rfl (ld1 (ha0_L (ne_of_ix (i := x2) hp12.1 hp12.2)) ⟨0, 0⟩ (i := x2) hp12.1 hp12.2 0 rfl rfl sh_3)),
          ok_plain rfl rfl (op_call (x := .B v1) (fs := []) (caps := []) (extra := []) (ltN rfl) en_92 rfl ⟨rfl, rfl, rfl⟩ (EvL.cons rfl (EvL.cons rfl (EvL.cons rfl EvL.nil))) (fun mm aa ww gg hr hrel => (c92 F (((pt a0 x2)).X) 0 400 ww v1 hv1))),
          ok_plain rfl rfl (op_not (ltN rfl) rfl),
          ok_plain rfl rfl (op_move (ltN rfl) rfl),
          ok_if (ltN rfl) rfl rfl rfl rfl rfl rfl (fun hg13 => op_move (ltN rfl) (force_x rfl)),
          ok_if (ltN rfl) rfl rfl rfl rfl rfl rfl (fun hg14 => op_move (ltN rfl) (force_x rfl)),
          ok_if (ltN rfl) rfl rfl rfl rfl rfl rfl (fun hg15 => op_ixB (ltN rfl) (force_eq (beq_iff_eq.2 hg15) rfl) (force_eq (beq_iff_eq.2 hg15) rfl) ss_62 (ha0_p (ne_of_ix (i := x2) hp12.1 hp12.2)) hp12.1 hp12.2),
          ok_if (ltN rfl) rfl rfl rfl rfl rfl rfl (fun hg16 => op_fieldAddrB (ltN rfl) (force_eq (beq_iff_eq.2 hg16) rfl) fo_170_1),
          ok_if (ltN rfl) rfl rfl rfl rfl rfl rfl (fun hg17 => op_loadB (y := .i (((pt a0 x2)).Y)) (ltN rfl) (force_eq (beq_iff_eq.2 hg17) rfl) (ld1 (ha0_L (ne_of_ix (i := x2) hp12.1 hp12.2)) ⟨0, 0⟩ (i := x2) hp12.1 hp12.2 1 rfl rfl sh_3)),
          ok_if (ltN rfl) rfl rfl rfl rfl rfl rfl (fun hg18 => op_call (x := .B v2) (fs := []) (caps := []) (extra := []) (ltN rfl) en_92 rfl ⟨rfl, rfl, rfl⟩ (EvL.cons (force_eq (beq_iff_eq.2 hg18) rfl) (EvL.cons rfl (EvL.cons rfl EvL.nil))) (fun mm aa ww gg hr hrel => (c92 F (((pt a0 x2)).Y) 0 20000 ww v2 (brk_f hg18 hv2)))),
          ok_if (ltN rfl) rfl rfl rfl rfl rfl rfl (fun hg19 => op_not (ltN rfl) (force_eq (beq_iff_eq.2 hg19) rfl)),
          ok_plain rfl rfl (op_or (ltN rfl) rfl rfl),
          trivial⟩ ?_
        refine fin_keep (s' := [kt 0 (.v (.slice a0_p a0.length a0_c)), kt 3 (.i x2), kt 40 (.B ((!v1) || (!v2)))]) ?_ (kp rfl) rfl
        refine fin_then ?_
        refine aw_cond rfl (fun hz20 => ?_) (fun hz20 => ?_)
        · have hm := brk_t hz20 hm
          refine aw_seq ?_
          refine aw_text (rows := [_]) rfl (by kernel_rfl) ⟨
            ok_plain rfl rfl (op_assign (ltN rfl) rfl),
            trivial⟩ ?_
          refine fin_keep (s' := [kt 2 (.B false)]) ?_ (kp rfl) rfl
          refine fin_then ?_
          refine aw_ret ?_
          refine fin_then_ret ?_
          refine fin_block_ret ?_
          refine fin_then_ret ?_
          refine fin_then_ret ?_
          refine fin_block_ret ?_
          refine fin_then_ret ?_
          refine post_ret (x := .B false) rfl rfl (resOK_tmp rfl resOK_nil) rfl (fun mm aa ww hr => ?_)
          have hm := Option.some.inj hm
          subst hm
          exact ⟨rfl, hr.below⟩
        · have hm := brk_f hz20 hm
          refine aw_skip ?_
          refine fin_then ?_
          refine aw_seq ?_
          obtain ⟨hp29, hm⟩ := chk_some hm
          obtain ⟨hp31, hm⟩ := chk_some hm
          refine aw_any (rows := [_, _, _, _, _, _, _, _, _, _, _, _, _, _, _, _]) (M := [0, 1, 3, 7, 7, 31, 63, 127, 7, 7, 519, 1799, 3847, 7943, 16383, 32767]) Tryd_mixed (by kernel_rfl) rfl (by kernel_rfl) ⟨
            ok_plain rfl rfl (op_move (ltN rfl) rfl),
            ok_plain rfl rfl (op_bin (ltN rfl) rfl rfl rfl),
            ok_plain rfl rfl (op_move (ltN rfl) rfl),
            ok_if (ltN rfl) rfl rfl rfl rfl rfl rfl (fun hg21 => op_move (ltN rfl) (force_x rfl)),
            ok_if (ltN rfl) rfl rfl rfl rfl rfl rfl (fun hg22 => op_move (ltN rfl) (force_x rfl)),
            ok_if (ltN rfl) rfl rfl rfl rfl rfl rfl (fun hg23 => op_ixB (ltN rfl) (force_eq (beq_iff_eq.2 hg23) rfl) (force_eq (beq_iff_eq.2 hg23) rfl) ss_62 (ha0_p (ne_of_ix (i := x2) hp12.1 hp12.2)) hp12.1 hp12.2),
            ok_if (ltN rfl) rfl rfl rfl rfl rfl rfl (fun hg24 => op_fieldAddrB (ltN rfl) (force_eq (beq_iff_eq.2 hg24) rfl) fo_170_0),
            ok_if (ltN rfl) rfl rfl rfl rfl rfl rfl (fun hg25 => op_loadB (y := .i (((pt a0 x2)).X)) (ltN rfl) (force_eq (beq_iff_eq.2 hg25) rfl) (ld1 (ha0_L (ne_of_ix (i := x2) hp12.1 hp12.2)) ⟨0, 0⟩ (i := x2) hp12.1 hp12.2 0 rfl rfl sh_3)),
            ok_if (ltN rfl) rfl rfl rfl rfl rfl rfl (fun hg26 => op_move (ltN rfl) (force_x rfl)),
            ok_if (ltN rfl) rfl rfl rfl rfl rfl rfl (fun hg27 => op_move (ltN rfl) (force_x rfl)),
            ok_if (ltN rfl) rfl rfl rfl rfl rfl rfl (fun hg28 => op_bin (ltN rfl) (force_eq (beq_iff_eq.2 hg28) rfl) rfl (nw_sub (hp29 hg28))),
            ok_if (ltN rfl) rfl rfl rfl rfl rfl rfl (fun hg30 => op_ixB (ltN rfl) (force_eq (beq_iff_eq.2 hg30) rfl) (force_eq (beq_iff_eq.2 hg30) rfl) ss_62 (ha0_p (ne_of_ix (i := x2 - 1) (hp31 hg30).1 (hp31 hg30).2)) (hp31 hg30).1 (hp31 hg30).2),
            ok_if (ltN rfl) rfl rfl rfl rfl rfl rfl (fun hg32 => op_fieldAddrB (ltN rfl) (force_eq (beq_iff_eq.2 hg32) rfl) fo_170_0),
            ok_if (ltN rfl) rfl rfl rfl rfl rfl rfl (fun hg33 => op_loadB (y := .i (((pt a0 (x2 - 1))).X)) (ltN rfl) (force_eq (beq_iff_eq.2 hg33) rfl) (ld1 (ha0_L (ne_of_ix (i := x2 - 1) (hp31 hg33).1 (hp31 hg33).2)) ⟨0, 0⟩ (i := x2 - 1) (hp31 hg33).1 (hp31 hg33).2 0 rfl rfl sh_3)),
            ok_if (ltN rfl) rfl rfl rfl rfl rfl rfl (fun hg34 => op_bin (ltN rfl) (force_eq (beq_iff_eq.2 hg34) rfl) (force_eq (beq_iff_eq.2 hg34) rfl) rfl),
            ok_plain rfl rfl (op_and (ltN rfl) rfl rfl),
            trivial⟩ ?_
          refine fin_keep (s' := [kt 0 (.v (.slice a0_p a0.length a0_c)), kt 3 (.i x2), kt 56 (.B ((decide (x2 > 0)) && (decide ((((pt a0 x2)).X) ≤ (((pt a0 (x2 - 1))).X)))))]) ?_ (kp rfl) rfl
          refine fin_then ?_
          refine aw_cond rfl (fun hz35 => ?_) (fun hz35 => ?_)
          · have hm := brk_t hz35 hm
            refine aw_seq ?_
            refine aw_text (rows := [_]) rfl (by kernel_rfl) ⟨
              ok_plain rfl rfl (op_assign (ltN rfl) rfl),
              trivial⟩ ?_
            refine fin_keep (s' := [kt 2 (.B false)]) ?_ (kp rfl) rfl
            refine fin_then ?_
            refine aw_ret ?_
            refine fin_block_ret ?_
            refine fin_then_ret ?_
            refine fin_then_ret ?_
            refine fin_block_ret ?_
            refine fin_then_ret ?_
            refine post_ret (x := .B false) rfl rfl (resOK_tmp rfl resOK_nil) rfl (fun mm aa ww hr => ?_)
            have hm := Option.some.inj hm
            subst hm
            exact ⟨rfl, hr.below⟩
          · have hm := brk_f hz35 hm
            refine aw_skip ?_
            refine fin_block ?_
            refine fin_then ?_
            obtain ⟨hp36, hm⟩ := chk_some hm
            refine aw_text (rows := [_, _, _]) rfl (by kernel_rfl) ⟨
              ok_plain rfl rfl (op_move (ltN rfl) rfl),
              ok_plain rfl rfl (op_bin (ltN rfl) rfl rfl (nw_add hp36)),
              ok_plain rfl rfl (op_assign (ltN rfl) rfl),
              trivial⟩ ?_
            refine fin_keep (s' := [kt 0 (.v (.slice a0_p a0.length a0_c)), kt 3 (.i (x2 + 1))]) ?_ (kp rfl) rfl
            exact fin_cut (x2 + 1) hm ⟨rfl, rfl, trivial⟩ rfl
      · have hm := brk_f hz11 hm
        refine aw_exit ?_
        refine fin_then_exit ?_
        refine fin_then_exit ?_
        refine fin_block_exit ?_
        exact fin_cut () hm trivial rfl
    · have _z := hm
      refine aw_seq ?_
      refine aw_text (rows := [_]) rfl (by kernel_rfl) ⟨
        ok_plain rfl rfl (op_assign (ltN rfl) rfl),
        trivial⟩ ?_
      refine fin_keep (s' := [kt 2 (.B true)]) ?_ (kp rfl) rfl
      refine fin_then ?_
      refine aw_ret ?_
      refine post_ret (x := .B true) rfl rfl (resOK_tmp rfl resOK_nil) rfl (fun mm aa ww hr => ?_)
      have hm := Option.some.inj hm
      subst hm
      exact ⟨rfl, hr.below⟩

def m112 (F : Nat) (a0 : Int) (a1 : Int) : Option (Int) :=
  match F with
  | 0 => none
  | F + 1 => brk (a1 == 0) (some a0) (chk ((0 ≤ a0 ∧ a0 ≤ 9223372036854775807) ∧ 0 < a1) (bnd (m112 F a1 (a0 % a1)) (fun v1 => some v1)))

def m111 (F : Nat) (a0 : List Pt) (a1 : Int) : Option (Int × Int) :=
  brk ((((a0.length : Nat) : Int)) == 0) (some (0, 1)) (chk (InR ((((a0.length : Nat) : Int)) - 1)) (chk (0 ≤ (((a0.length : Nat) : Int)) - 1 ∧ (((a0.length : Nat) : Int)) - 1 < ((a0.length : Nat) : Int)) (brk (decide (a1 ≥ (((pt a0 ((((a0.length : Nat) : Int)) - 1))).X))) (some (((pt a0 ((((a0.length : Nat) : Int)) - 1))).Y, 1)) (join (fun (x1 : Int) => chk (0 ≤ x1 ∧ x1 < ((a0.length : Nat) : Int)) (chk (InR (x1 + 1)) (chk (0 ≤ x1 + 1 ∧ x1 + 1 < ((a0.length : Nat) : Int)) (chk (InR ((((pt a0 (x1 + 1))).X) - a1)) (chk (InR ((((pt a0 x1)).Y) * ((((pt a0 (x1 + 1))).X) - a1))) (chk (InR (a1 - (((pt a0 x1)).X))) (chk (InR ((((pt a0 (x1 + 1))).Y) * (a1 - (((pt a0 x1)).X)))) (chk (InR (((((pt a0 x1)).Y) * ((((pt a0 (x1 + 1))).X) - a1)) + ((((pt a0 (x1 + 1))).Y) * (a1 - (((pt a0 x1)).X))))) (chk (InR ((((pt a0 (x1 + 1))).X) - (((pt a0 x1)).X))) (some (((((pt a0 x1)).Y) * ((((pt a0 (x1 + 1))).X) - a1)) + ((((pt a0 (x1 + 1))).Y) * (a1 - (((pt a0 x1)).X))), (((pt a0 (x1 + 1))).X) - (((pt a0 x1)).X)))))))))))) (fun k1 => loopC (fun (x2 : Int) n2 => chk (InR (x2 + 1)) (chk (0 ≤ x2 + 1 ∧ x2 + 1 < ((a0.length : Nat) : Int)) (brk (decide ((((pt a0 (x2 + 1))).X) ≤ a1)) (n2 (x2 + 1)) (k1 x2)))) F 0)))))

theorem c111 (F : Nat) (a0 : List Pt) (a0_s : SlV) (a1 : Int) (w : World) (ha0 : SlIs encPt 2 w a0_s a0) (r : Int × Int) (hm : m111 F a0 a1 = some r) : Calls Tryd.prog 111 #[.slice a0_s.p a0_s.n a0_s.c, .int .i64 a1] w fun e w' => e = .returned (.tuple #[.int .i64 r.1, .int .i64 r.2]) ∧ Below w.heap.size w w' := by
  obtain ⟨a0_p, a0_n, a0_c⟩ := a0_s
  have ha0_l : a0_n = a0.length := ha0.1
  subst ha0_l
  obtain ⟨a0_b, a0_o, ha0_p, ha0_L⟩ := SlAt.lies' ha0
  unfold m111 at hm
  refine enter (args := [.v (.slice a0_p a0.length a0_c), .i a1]) Tryd.func111 rfl (N := 64) rfl (Nat.le_of_ble_eq_true rfl) ?_
  refine aw_seq ?_
  refine aw_text (rows := [_, _]) rfl (by kernel_rfl) ⟨
    ok_plain rfl rfl (op_assign (ltN rfl) rfl),
    ok_plain rfl rfl (op_assign (ltN rfl) rfl),
    trivial⟩ ?_
  refine fin_keep (s' := [kt 0 (.v (.slice a0_p a0.length a0_c)), kt 1 (.i a1)]) ?_ (kp rfl) rfl
  refine fin_then ?_
  refine aw_seq ?_
  refine aw_seq ?_
  refine aw_text (rows := [_, _, _]) rfl (by kernel_rfl) ⟨
    ok_plain rfl rfl (op_move (ltN rfl) rfl),
    ok_plain rfl rfl (op_len (n := a0.length) (ltN rfl) (by rw [ss_62]; rfl) rfl rfl),
    ok_plain rfl rfl (op_bin (ltN rfl) rfl rfl rfl),
    trivial⟩ ?_
  refine fin_keep (s' := [kt 0 (.v (.slice a0_p a0.length a0_c)), kt 1 (.i a1), kt 12 (.B ((((a0.length : Nat) : Int)) == 0))]) ?_ (kp rfl) rfl
  refine fin_then ?_
  refine aw_cond rfl (fun hz1 => ?_) (fun hz1 => ?_)
  · have hm := brk_t hz1 hm
    refine aw_seq ?_
    refine aw_text (rows := [_, _]) rfl (by kernel_rfl) ⟨
      ok_plain rfl rfl (op_assign (ltN rfl) rfl),
      ok_plain rfl rfl (op_assign (ltN rfl) rfl),
      trivial⟩ ?_
    refine fin_keep (s' := [kt 4 (.i 0), kt 5 (.i 1)]) ?_ (kp rfl) rfl
    refine fin_then ?_
    refine aw_ret ?_
    refine fin_then_ret ?_
    refine post_ret (x := .t [.i 0, .i 1]) rfl rfl (resOK_tmp rfl (resOK_tmp rfl resOK_nil)) rfl (fun mm aa ww hr => ?_)
    have hm := Option.some.inj hm
    subst hm
    exact ⟨rfl, hr.below⟩
  · have hm := brk_f hz1 hm
    refine aw_skip ?_
    refine fin_then ?_
    refine aw_seq ?_
    obtain ⟨hp2, hm⟩ := chk_some hm
    obtain ⟨hp3, hm⟩ := chk_some hm
    refine aw_text (rows := [_, _, _, _, _, _, _, _]) rfl (by kernel_rfl) ⟨
      ok_plain rfl rfl (op_move (ltN rfl) rfl),
      ok_plain rfl rfl (op_move (ltN rfl) rfl),
      ok_plain rfl rfl (op_len (n := a0.length) (ltN rfl) (by rw [ss_62]; rfl) rfl rfl),
      ok_plain rfl rfl (op_bin (ltN rfl) rfl rfl (nw_sub hp2)),
      ok_plain rfl rfl (op_ixB (ltN rfl) rfl rfl ss_62 (ha0_p (ne_of_ix (i := (((a0.length : Nat) : Int)) - 1) hp3.1 hp3.2)) hp3.1 hp3.2),
      ok_plain rfl rfl (op_loadB (y := .g [.i (((pt a0 ((((a0.length : Nat) : Int)) - 1))).X), .i (((pt a0 ((((a0.length : Nat) : Int)) - 1))).Y)]) (ltN rfl) rfl (ldN (ha0_L (ne_of_ix (i := (((a0.length : Nat) : Int)) - 1) hp3.1 hp3.2)) ⟨0, 0⟩ (i := (((a0.length : Nat) : Int)) - 1) hp3.1 hp3.2 0 (vs := [(.int .i64 (((pt a0 ((((a0.length : Nat) : Int)) - 1))).X)), (.int .i64 (((pt a0 ((((a0.length : Nat) : Int)) - 1))).Y))]) (fun zq zv zh => sub_get (vs := [(.int .i64 (((pt a0 ((((a0.length : Nat) : Int)) - 1))).X)), (.int .i64 (((pt a0 ((((a0.length : Nat) : Int)) - 1))).Y))]) rfl zh) rfl sh_170 rfl)),
      ok_plain rfl rfl (op_alloc (L := 1) (ltN rfl) zl_170),
      ok_plain rfl rfl (op_storeN sz_170 rfl rfl rfl rfl rfl (by decide)),
      trivial⟩ ?_
    refine fin_keep (s' := [kt 0 (.v (.slice a0_p a0.length a0_c)), kt 1 (.i a1), kt 6 (.p 1 0), kb 1 170 2, kc 1 0 (.i (((pt a0 ((((a0.length : Nat) : Int)) - 1))).X)), kc 1 1 (.i (((pt a0 ((((a0.length : Nat) : Int)) - 1))).Y))]) ?_ (kp rfl) rfl
    refine fin_then ?_
    refine aw_seq ?_
    refine aw_seq ?_
    refine aw_text (rows := [_, _, _, _]) rfl (by kernel_rfl) ⟨
      ok_plain rfl rfl (op_move (ltN rfl) rfl),
      ok_plain rfl rfl (op_fieldAddr (ltN rfl) rfl fo_170_0),
      ok_plain rfl rfl (op_load1 (ltN rfl) sh_3 rfl rfl),
      ok_plain rfl rfl (op_bin (ltN rfl) rfl rfl rfl),
      trivial⟩ ?_
    refine fin_keep (s' := [kt 0 (.v (.slice a0_p a0.length a0_c)), kt 1 (.i a1), kt 6 (.p 1 0), kt 22 (.B (decide (a1 ≥ (((pt a0 ((((a0.length : Nat) : Int)) - 1))).X)))), kb 1 170 2, kc 1 0 (.i (((pt a0 ((((a0.length : Nat) : Int)) - 1))).X)), kc 1 1 (.i (((pt a0 ((((a0.length : Nat) : Int)) - 1))).Y))]) ?_ (kp rfl) rfl
    refine fin_then ?_
    refine aw_cond rfl (fun hz4 => ?_) (fun hz4 => ?_)
    · have hm := brk_t hz4 hm
      refine aw_seq ?_
      refine aw_text (rows := [_, _, _, _]) rfl (by kernel_rfl) ⟨
        ok_plain rfl rfl (op_fieldAddr (ltN rfl) rfl fo_170_1),
        ok_plain rfl rfl (op_load1 (ltN rfl) sh_3 rfl rfl),
        ok_plain rfl rfl (op_assign (ltN rfl) rfl),
        ok_plain rfl rfl (op_assign (ltN rfl) rfl),
        trivial⟩ ?_
      refine fin_keep (s' := [kt 4 (.i (((pt a0 ((((a0.length : Nat) : Int)) - 1))).Y)), kt 5 (.i 1)]) ?_ (kp rfl) rfl
      refine fin_then ?_
      refine aw_ret ?_
      refine fin_then_ret ?_
      refine post_ret (x := .t [.i (((pt a0 ((((a0.length : Nat) : Int)) - 1))).Y), .i 1]) rfl rfl (resOK_tmp rfl (resOK_tmp rfl resOK_nil)) rfl (fun mm aa ww hr => ?_)
      have hm := Option.some.inj hm
      subst hm
      exact ⟨rfl, hr.below⟩
    · have hm := brk_f hz4 hm
      refine aw_skip ?_
      refine fin_then ?_
      refine aw_seq ?_
      refine aw_text (rows := [_]) rfl (by kernel_rfl) ⟨
        ok_plain rfl rfl (op_assign (ltN rfl) rfl),
        trivial⟩ ?_
      refine fin_keep (s' := [kt 0 (.v (.slice a0_p a0.length a0_c)), kt 1 (.i a1), kt 7 (.i 0)]) ?_ (kp rfl) rfl
      refine fin_then ?_
      refine aw_cutM (ι := Int) hm (fun x1 => [kt 0 (.v (.slice a0_p a0.length a0_c)), kt 1 (.i a1), kt 7 (.i x1)]) (fun hm => ?_) (fun x1 hm => ?_)
      · have _z := hm
        refine aw_block ?_
        refine aw_loopC hm (fun x2 => [kt 0 (.v (.slice a0_p a0.length a0_c)), kt 1 (.i a1), kt 7 (.i x2)]) ⟨rfl, rfl, rfl, trivial⟩ rfl (fun x2 n2 hm => ?_)
        refine aw_seq ?_
        refine aw_seq ?_
        obtain ⟨hp5, hm⟩ := chk_some hm
        obtain ⟨hp6, hm⟩ := chk_some hm
        refine aw_text (rows := [_, _, _, _, _, _, _, _]) rfl (by kernel_rfl) ⟨
          ok_plain rfl rfl (op_move (ltN rfl) rfl),
          ok_plain rfl rfl (op_move (ltN rfl) rfl),
          ok_plain rfl rfl (op_bin (ltN rfl) rfl rfl (nw_add hp5)),
          ok_plain rfl rfl (op_ixB (ltN rfl) rfl rfl ss_62 (ha0_p (ne_of_ix (i := x2 + 1) hp6.1 hp6.2)) hp6.1 hp6.2),
          ok_plain rfl rfl (op_fieldAddrB (ltN rfl) rfl fo_170_0),
          ok_plain rfl rfl (op_loadB (y := .i (((pt a0 (x2 + 1))).X)) (ltN rfl) rfl (ld1 (ha0_L (ne_of_ix (i := x2 + 1) hp6.1 hp6.2)) ⟨0, 0⟩ (i := x2 + 1) hp6.1 hp6.2 0 rfl rfl sh_3)),
          ok_plain rfl rfl (op_move (ltN rfl) rfl),
          ok_plain rfl rfl (op_bin (ltN rfl) rfl rfl rfl),
          trivial⟩ ?_
        refine fin_keep (s' := [kt 0 (.v (.slice a0_p a0.length a0_c)), kt 1 (.i a1), kt 7 (.i x2), kt 32 (.B (decide ((((pt a0 (x2 + 1))).X) ≤ a1)))]) ?_ (kp rfl) rfl
        refine fin_then ?_
        refine aw_cond rfl (fun hz7 => ?_) (fun hz7 => ?_)
        · have hm := brk_t hz7 hm
          refine aw_skip ?_
          refine fin_then ?_
          refine aw_block ?_
          refine aw_text (rows := [_, _, _]) rfl (by kernel_rfl) ⟨
            ok_plain rfl rfl (op_move (ltN rfl) rfl),
            ok_plain rfl rfl (op_bin (ltN rfl) rfl rfl (nw_add hp5)),
            ok_plain rfl rfl (op_assign (ltN rfl) rfl),
            trivial⟩ ?_
          refine fin_keep (s' := [kt 0 (.v (.slice a0_p a0.length a0_c)), kt 1 (.i a1), kt 7 (.i (x2 + 1))]) ?_ (kp rfl) rfl
          refine fin_block ?_
          exact fin_cut (x2 + 1) hm ⟨rfl, rfl, rfl, trivial⟩ rfl
        · have hm := brk_f hz7 hm
          refine aw_exit ?_
          refine fin_then_exit ?_
          refine fin_then_exit ?_
          refine fin_block_exit ?_
          exact fin_cut x2 hm ⟨rfl, rfl, rfl, trivial⟩ rfl
      · have _z := hm
        refine aw_seq ?_
        obtain ⟨hp8, hm⟩ := chk_some hm
        obtain ⟨hp9, hm⟩ := chk_some hm
        obtain ⟨hp10, hm⟩ := chk_some hm
        refine aw_any (rows := [_, _, _, _, _, _, _, _, _, _, _, _, _]) (M := [0, 0, 3, 7, 0, 0, 32, 112, 240, 0, 0, 1551, 4095]) Tryd_mixed (by kernel_rfl) rfl (by kernel_rfl) ⟨
          ok_plain rfl rfl (op_move (ltN rfl) rfl),
          ok_plain rfl rfl (op_move (ltN rfl) rfl),
          ok_plain rfl rfl (op_ixB (ltN rfl) rfl rfl ss_62 (ha0_p (ne_of_ix (i := x1) hp8.1 hp8.2)) hp8.1 hp8.2),
          ok_plain rfl rfl (op_loadB (y := .g [.i (((pt a0 x1)).X), .i (((pt a0 x1)).Y)]) (ltN rfl) rfl (ldN (ha0_L (ne_of_ix (i := x1) hp8.1 hp8.2)) ⟨0, 0⟩ (i := x1) hp8.1 hp8.2 0 (vs := [(.int .i64 (((pt a0 x1)).X)), (.int .i64 (((pt a0 x1)).Y))]) (fun zq zv zh => sub_get (vs := [(.int .i64 (((pt a0 x1)).X)), (.int .i64 (((pt a0 x1)).Y))]) rfl zh) rfl sh_170 rfl)),
          ok_plain rfl rfl (op_move (ltN rfl) rfl),
          ok_plain rfl rfl (op_move (ltN rfl) rfl),
          ok_plain rfl rfl (op_bin (ltN rfl) rfl rfl (nw_add hp9)),
          ok_plain rfl rfl (op_ixB (ltN rfl) rfl rfl ss_62 (ha0_p (ne_of_ix (i := x1 + 1) hp10.1 hp10.2)) hp10.1 hp10.2),
          ok_plain rfl rfl (op_loadB (y := .g [.i (((pt a0 (x1 + 1))).X), .i (((pt a0 (x1 + 1))).Y)]) (ltN rfl) rfl (ldN (ha0_L (ne_of_ix (i := x1 + 1) hp10.1 hp10.2)) ⟨0, 0⟩ (i := x1 + 1) hp10.1 hp10.2 0 (vs := [(.int .i64 (((pt a0 (x1 + 1))).X)), (.int .i64 (((pt a0 (x1 + 1))).Y))]) (fun zq zv zh => sub_get (vs := [(.int .i64 (((pt a0 (x1 + 1))).X)), (.int .i64 (((pt a0 (x1 + 1))).Y))]) rfl zh) rfl sh_170 rfl)),
          ok_plain rfl rfl (op_alloc (L := 2) (ltN rfl) zl_170),
          ok_plain rfl rfl (op_alloc (L := 3) (ltN rfl) zl_170),
          ok_plain rfl rfl (op_storeN sz_170 rfl rfl rfl rfl rfl (by decide)),
          ok_plain rfl rfl (op_storeN sz_170 rfl rfl rfl rfl rfl (by decide)),
          trivial⟩ ?_
        refine fin_keep (s' := [kt 1 (.i a1), kt 8 (.p 2 0), kt 9 (.p 3 0), kb 2 170 2, kb 3 170 2, kc 2 0 (.i (((pt a0 x1)).X)), kc 2 1 (.i (((pt a0 x1)).Y)), kc 3 0 (.i (((pt a0 (x1 + 1))).X)), kc 3 1 (.i (((pt a0 (x1 + 1))).Y))]) ?_ (kp rfl) rfl
        refine fin_then ?_
        refine aw_seq ?_
        obtain ⟨hp11, hm⟩ := chk_some hm
        obtain ⟨hp12, hm⟩ := chk_some hm
        obtain ⟨hp13, hm⟩ := chk_some hm
        obtain ⟨hp14, hm⟩ := chk_some hm
        obtain ⟨hp15, hm⟩ := chk_some hm
        obtain ⟨hp16, hm⟩ := chk_some hm
        refine aw_any (rows := [_, _, _, _, _, _, _, _, _, _, _, _, _, _, _, _, _, _, _, _, _, _]) (M := [0, 1, 0, 4, 0, 28, 63, 0, 128, 0, 0, 1024, 3584, 8064, 16383, 0, 32768, 0, 131072, 491520, 32767, 2097151]) Tryd_mixed (by kernel_rfl) rfl (by kernel_rfl) ⟨
          ok_plain rfl rfl (op_fieldAddr (ltN rfl) rfl fo_170_1),
          ok_plain rfl rfl (op_load1 (ltN rfl) sh_3 rfl rfl),
          ok_plain rfl rfl (op_fieldAddr (ltN rfl) rfl fo_170_0),
          ok_plain rfl rfl (op_load1 (ltN rfl) sh_3 rfl rfl),
          ok_plain rfl rfl (op_move (ltN rfl) rfl),
          ok_plain rfl rfl (op_bin (ltN rfl) rfl rfl (nw_sub hp11)),
          ok_plain rfl rfl (op_bin (ltN rfl) rfl rfl (nw_mul hp12)),
          ok_plain rfl rfl (op_fieldAddr (ltN rfl) rfl fo_170_1),
          ok_plain rfl rfl (op_load1 (ltN rfl) sh_3 rfl rfl),
          ok_plain rfl rfl (op_move (ltN rfl) rfl),
          ok_plain rfl rfl (op_fieldAddr (ltN rfl) rfl fo_170_0),
          ok_plain rfl rfl (op_load1 (ltN rfl) sh_3 rfl rfl),
          ok_plain rfl rfl (op_bin (ltN rfl) rfl rfl (nw_sub hp13)),
          ok_plain rfl rfl (op_bin (ltN rfl) rfl rfl (nw_mul hp14)),
          ok_plain rfl rfl (op_bin (ltN rfl) rfl rfl (nw_add hp15)),
          ok_plain rfl rfl (op_fieldAddr (ltN rfl) rfl fo_170_0),
          ok_plain rfl rfl (op_load1 (ltN rfl) sh_3 rfl rfl),
          ok_plain rfl rfl (op_fieldAddr (ltN rfl) rfl fo_170_0),
          ok_plain rfl rfl (op_load1 (ltN rfl) sh_3 rfl rfl),
          ok_plain rfl rfl (op_bin (ltN rfl) rfl rfl (nw_sub hp16)),
          ok_plain rfl rfl (op_assign (ltN rfl) rfl),
          ok_plain rfl rfl (op_assign (ltN rfl) rfl),
          trivial⟩ ?_
        refine fin_keep (s' := [kt 4 (.i (((((pt a0 x1)).Y) * ((((pt a0 (x1 + 1))).X) - a1)) + ((((pt a0 (x1 + 1))).Y) * (a1 - (((pt a0 x1)).X))))), kt 5 (.i ((((pt a0 (x1 + 1))).X) - (((pt a0 x1)).X)))]) ?_ (kp rfl) rfl
        refine fin_then ?_
        refine aw_ret ?_
        refine post_ret (x := .t [.i (((((pt a0 x1)).Y) * ((((pt a0 (x1 + 1))).X) - a1)) + ((((pt a0 (x1 + 1))).Y) * (a1 - (((pt a0 x1)).X)))), .i ((((pt a0 (x1 + 1))).X) - (((pt a0 x1)).X))]) rfl rfl (resOK_tmp rfl (resOK_tmp rfl resOK_nil)) rfl (fun mm aa ww hr => ?_)
        have hm := Option.some.inj hm
        subst hm
        exact ⟨rfl, hr.below⟩

def m44 (F : Nat) (a0 : List Pt) (a1 : Int) : Option (Ratio × Int) :=
  bnd (m110 F a0) (fun v1 => brk (!v1) (some ((⟨0, 0⟩ : Ratio), 40)) (bnd (m92 F a1 0 1000) (fun v2 => brk (!v2) (some ((⟨0, 0⟩ : Ratio), 6)) (bnd (m111 F a0 a1) (fun v3 => bnd (m112 F v3.1 v3.2) (fun v4 => chk ((0 ≤ v3.1 ∧ v3.1 ≤ 9223372036854775807) ∧ 0 < v4) (chk ((0 ≤ v3.2 ∧ v3.2 ≤ 9223372036854775807) ∧ 0 < v4) (some ((⟨v3.1 / v4, v3.2 / v4⟩ : Ratio), 0)))))))))

def m47 (F : Nat) (a0 : Ship) : Option (Int) :=
  bnd (m92 F a0.Class 1 6) (fun v1 => brk (!v1) (some 41) (bnd (m92 F a0.Power 100 100000) (fun v2 => bnd (brk ((!v2)) (some default) (m92 F a0.Draught 10 2000)) (fun v3 => bnd (brk (((!v2) || (!v3))) (some default) (m92 F a0.Tonnes 10 500000)) (fun v4 => brk (((!v2) || (!v3)) || (!v4)) (some 40) (bnd (m92 F a0.Slow 0 20) (fun v5 => bnd (brk ((!v5)) (some default) (m92 F a0.Brash 0 100)) (fun v6 => bnd (brk (((!v5) || (!v6))) (some default) (m92 F a0.Ridge 0 500)) (fun v7 => bnd (brk ((((!v5) || (!v6)) || (!v7))) (some default) (m92 F a0.Press 0 5000)) (fun v8 => brk ((((!v5) || (!v6)) || (!v7)) || (!v8)) (some 40) (bnd (m110 F a0.Thrust) (fun v9 => bnd (brk ((!v9)) (some default) (m110 F a0.Water)) (fun v10 => bnd (brk (((!v9) || (!v10))) (some default) (m110 F a0.Ice)) (fun v11 => brk (((!v9) || (!v10)) || (!v11)) (some 40) (join (fun (_ : Unit) => join (fun (_ : Unit) => join (fun (_ : Unit) => chk (InR ((((a0.Thrust.length : Nat) : Int)) - 1)) (chk (0 ≤ (((a0.Thrust.length : Nat) : Int)) - 1 ∧ (((a0.Thrust.length : Nat) : Int)) - 1 < ((a0.Thrust.length : Nat) : Int)) (bnd (m92 F (((pt a0.Thrust ((((a0.Thrust.length : Nat) : Int)) - 1))).X) 10 250) (fun v12 => chk ((!v12) = false → InR ((((a0.Water.length : Nat) : Int)) - 1)) (chk ((!v12) = false → 0 ≤ (((a0.Water.length : Nat) : Int)) - 1 ∧ (((a0.Water.length : Nat) : Int)) - 1 < ((a0.Water.length : Nat) : Int)) (chk (((!v12) || (decide ((((pt a0.Water ((((a0.Water.length : Nat) : Int)) - 1))).X) > 250))) = false → (0 : Int) ≤ 0 ∧ 0 < ((a0.Ice.length : Nat) : Int)) (chk ((((!v12) || (decide ((((pt a0.Water ((((a0.Water.length : Nat) : Int)) - 1))).X) > 250))) || ((((pt a0.Ice 0)).Y) != 0)) = false → InR ((((a0.Ice.length : Nat) : Int)) - 1)) (chk ((((!v12) || (decide ((((pt a0.Water ((((a0.Water.length : Nat) : Int)) - 1))).X) > 250))) || ((((pt a0.Ice 0)).Y) != 0)) = false → 0 ≤ (((a0.Ice.length : Nat) : Int)) - 1 ∧ (((a0.Ice.length : Nat) : Int)) - 1 < ((a0.Ice.length : Nat) : Int)) (brk ((((!v12) || (decide ((((pt a0.Water ((((a0.Water.length : Nat) : Int)) - 1))).X) > 250))) || ((((pt a0.Ice 0)).Y) != 0)) || ((((pt a0.Ice ((((a0.Ice.length : Nat) : Int)) - 1))).X) != 400)) (some 40) (some 0)))))))))) (fun k5 => loopC (fun (x6 : Int) n6 => brk (decide (x6 < (((a0.Ice.length : Nat) : Int)))) (chk (0 ≤ x6 ∧ x6 < ((a0.Ice.length : Nat) : Int)) (chk (InR (x6 - 1)) (chk (0 ≤ x6 - 1 ∧ x6 - 1 < ((a0.Ice.length : Nat) : Int)) (brk (decide ((((pt a0.Ice x6)).Y) < (((pt a0.Ice (x6 - 1))).Y))) (some 40) (chk (InR (x6 + 1)) (n6 (x6 + 1))))))) (k5 ())) F 1)) (fun k3 => loopC (fun (x4 : Int) n4 => brk (decide (x4 < (((a0.Water.length : Nat) : Int)))) (chk (0 ≤ x4 ∧ x4 < ((a0.Water.length : Nat) : Int)) (chk (InR (x4 - 1)) (chk (0 ≤ x4 - 1 ∧ x4 - 1 < ((a0.Water.length : Nat) : Int)) (brk (decide ((((pt a0.Water x4)).Y) < (((pt a0.Water (x4 - 1))).Y))) (some 40) (chk (InR (x4 + 1)) (n4 (x4 + 1))))))) (k3 ())) F 1)) (fun k1 => loopC (fun (x2 : Int) n2 => brk (decide (x2 < (((a0.Thrust.length : Nat) : Int)))) (chk (0 ≤ x2 ∧ x2 < ((a0.Thrust.length : Nat) : Int)) (chk (InR (x2 - 1)) (chk (0 ≤ x2 - 1 ∧ x2 - 1 < ((a0.Thrust.length : Nat) : Int)) (brk (decide ((((pt a0.Thrust x2)).Y) > (((pt a0.Thrust (x2 - 1))).Y))) (some 40) (chk (InR (x2 + 1)) (n2 (x2 + 1))))))) (k1 ())) F 1))))))))))))))))

theorem c47 (F : Nat) (a0 : Ship) (a0_Thrust_s : SlV) (a0_Water_s : SlV) (a0_Ice_s : SlV) (w : World) (ha0_Thrust : SlIs encPt 2 w a0_Thrust_s a0.Thrust) (ha0_Water : SlIs encPt 2 w a0_Water_s a0.Water) (ha0_Ice : SlIs encPt 2 w a0_Ice_s a0.Ice) (r : Int) (hm : m47 F a0 = some r) : Calls Tryd.prog 47 #[.agg #[.int .i64 a0.Class, .int .i64 a0.Power, .int .i64 a0.Draught, .int .i64 a0.Tonnes, .slice a0_Thrust_s.p a0_Thrust_s.n a0_Thrust_s.c, .slice a0_Water_s.p a0_Water_s.n a0_Water_s.c, .slice a0_Ice_s.p a0_Ice_s.n a0_Ice_s.c, .int .i64 a0.Slow, .int .i64 a0.Brash, .int .i64 a0.Ridge, .int .i64 a0.Press]] w fun e w' => e = .returned (.int .i64 r) ∧ Below w.heap.size w w' := by
  obtain ⟨a0_Thrust_p, a0_Thrust_n, a0_Thrust_c⟩ := a0_Thrust_s
  have ha0_Thrust_l : a0_Thrust_n = a0.Thrust.length := ha0_Thrust.1
  subst ha0_Thrust_l
  obtain ⟨a0_Thrust_b, a0_Thrust_o, ha0_Thrust_p, ha0_Thrust_L⟩ := SlAt.lies' ha0_Thrust
  obtain ⟨a0_Water_p, a0_Water_n, a0_Water_c⟩ := a0_Water_s
  have ha0_Water_l : a0_Water_n = a0.Water.length := ha0_Water.1
  subst ha0_Water_l
  obtain ⟨a0_Water_b, a0_Water_o, ha0_Water_p, ha0_Water_L⟩ := SlAt.lies' ha0_Water
  obtain ⟨a0_Ice_p, a0_Ice_n, a0_Ice_c⟩ := a0_Ice_s
  have ha0_Ice_l : a0_Ice_n = a0.Ice.length := ha0_Ice.1
  subst ha0_Ice_l
  obtain ⟨a0_Ice_b, a0_Ice_o, ha0_Ice_p, ha0_Ice_L⟩ := SlAt.lies' ha0_Ice
  unfold m47 at hm
  refine enter (args := [.g [.i a0.Class, .i a0.Power, .i a0.Draught, .i a0.Tonnes, .v (.slice a0_Thrust_p a0.Thrust.length a0_Thrust_c), .v (.slice a0_Water_p a0.Water.length a0_Water_c), .v (.slice a0_Ice_p a0.Ice.length a0_Ice_c), .i a0.Slow, .i a0.Brash, .i a0.Ridge, .i a0.Press]]) Tryd.func47 rfl (N := 170) rfl (Nat.le_of_ble_eq_true rfl) ?_
  refine aw_seq ?_
  refine aw_text (rows := [_, _]) rfl (by kernel_rfl) ⟨
    ok_plain rfl rfl (op_boxN (L := 1) (ltN rfl) rfl rfl rfl),
    ok_plain rfl rfl (op_assign (ltN rfl) rfl),
    trivial⟩ ?_
  refine fin_keep (s' := [kt 1 (.p 1 0), kb 1 64 11, kc 1 0 (.i a0.Class), kc 1 1 (.i a0.Power), kc 1 2 (.i a0.Draught), kc 1 3 (.i a0.Tonnes), kc 1 4 (.v (.slice a0_Thrust_p a0.Thrust.length a0_Thrust_c)), kc 1 5 (.v (.slice a0_Water_p a0.Water.length a0_Water_c)), kc 1 6 (.v (.slice a0_Ice_p a0.Ice.length a0_Ice_c)), kc 1 7 (.i a0.Slow), kc 1 8 (.i a0.Brash), kc 1 9 (.i a0.Ridge), kc 1 10 (.i a0.Press)]) ?_ (kp rfl) rfl
  refine fin_then ?_
  refine aw_seq ?_
  refine aw_seq ?_
  obtain ⟨v1, hv1, hm⟩ := bnd_some hm
  refine aw_text (rows := [_, _, _, _]) rfl (by kernel_rfl) ⟨
    ok_plain rfl rfl (op_fieldAddr (ltN rfl) rfl fo_64_0),
    ok_plain rfl rfl (op_load1 (ltN rfl) sh_3 rfl rfl),
    ok_plain rfl rfl (op_call (x := .B v1) (fs := []) (caps := []) (extra := []) (ltN rfl) en_92 rfl ⟨rfl, rfl, rfl⟩ (EvL.cons rfl (EvL.cons rfl (EvL.cons rfl EvL.nil))) (fun mm aa ww gg hr hrel => (c92 F a0.Class 1 6 ww v1 hv1))),
    ok_plain rfl rfl (op_not (ltN rfl) rfl),
    trivial⟩ ?_
  refine fin_keep (s' := [kt 1 (.p 1 0), kt 9 (.B (!v1)), kb 1 64 11, kc 1 0 (.i a0.Class), kc 1 1 (.i a0.Power), kc 1 2 (.i a0.Draught), kc 1 3 (.i a0.Tonnes), kc 1 4 (.v (.slice a0_Thrust_p a0.Thrust.length a0_Thrust_c)), kc 1 5 (.v (.slice a0_Water_p a0.Water.length a0_Water_c)), kc 1 6 (.v (.slice a0_Ice_p a0.Ice.length a0_Ice_c)), kc 1 7 (.i a0.Slow), kc 1 8 (.i a0.Brash), kc 1 9 (.i a0.Ridge), kc 1 10 (.i a0.Press)]) ?_ (kp rfl) rfl
  refine fin_then ?_
  refine aw_cond rfl (fun hz1 => ?_) (fun hz1 => ?_)
  · have hm := brk_t hz1 hm
    refine aw_seq ?_
    refine aw_text (rows := [_]) rfl (by kernel_rfl) ⟨
      ok_plain rfl rfl (op_assign (ltN rfl) rfl),
      trivial⟩ ?_
    refine fin_keep (s' := [kt 2 (.i 41)]) ?_ (kp rfl) rfl
    refine fin_then ?_
    refine aw_ret ?_
    refine fin_then_ret ?_
    refine post_ret (x := .i 41) rfl rfl (resOK_tmp rfl resOK_nil) rfl (fun mm aa ww hr => ?_)
    have hm := Option.some.inj hm
    subst hm
    exact ⟨rfl, hr.below⟩
  · have hm := brk_f hz1 hm
    refine aw_skip ?_
    refine fin_then ?_
    refine aw_seq ?_
    refine aw_seq ?_
    obtain ⟨v2, hv2, hm⟩ := bnd_some hm
    obtain ⟨v3, hv3, hm⟩ := bnd_some hm
    obtain ⟨v4, hv4, hm⟩ := bnd_some hm
    refine aw_text (rows := [_, _, _, _, _, _, _, _, _, _, _, _, _, _, _, _]) rfl (by kernel_rfl) ⟨
      ok_plain rfl rfl (op_fieldAddr (ltN rfl) rfl fo_64_1),
      ok_plain rfl rfl (op_load1 (ltN rfl) sh_3 rfl rfl),
      ok_plain rfl rfl (op_call (x := .B v2) (fs := []) (caps := []) (extra := []) (ltN rfl) en_92 rfl ⟨rfl, rfl, rfl⟩ (EvL.cons rfl (EvL.cons rfl (EvL.cons rfl EvL.nil))) (fun mm aa ww gg hr hrel => (c92 F a0.Power 100 100000 ww v2 hv2))),
      ok_plain rfl rfl (op_not (ltN rfl) rfl),
      ok_plain rfl rfl (op_move (ltN rfl) rfl),
      ok_if (ltN rfl) rfl rfl rfl rfl rfl rfl (fun hg2 => op_fieldAddr (ltN rfl) (force_x rfl) fo_64_2),
      ok_if (ltN rfl) rfl rfl rfl rfl rfl rfl (fun hg3 => op_load1 (ltN rfl) sh_3 (force_eq (beq_iff_eq.2 hg3) rfl) rfl),
      ok_if (ltN rfl) rfl rfl rfl rfl rfl rfl (fun hg4 => op_call (x := .B v3) (fs := []) (caps := []) (extra := []) (ltN rfl) en_92 rfl ⟨rfl, rfl, rfl⟩ (EvL.cons (force_eq (beq_iff_eq.2 hg4) rfl) (EvL.cons rfl (EvL.cons rfl EvL.nil))) (fun mm aa ww gg hr hrel => (c92 F a0.Draught 10 2000 ww v3 (brk_f hg4 hv3)))),
      ok_if (ltN rfl) rfl rfl rfl rfl rfl rfl (fun hg5 => op_not (ltN rfl) (force_eq (beq_iff_eq.2 hg5) rfl)),
      ok_plain rfl rfl (op_or (ltN rfl) rfl rfl),
      ok_plain rfl rfl (op_move (ltN rfl) rfl),
      ok_if (ltN rfl) rfl rfl rfl rfl rfl rfl (fun hg6 => op_fieldAddr (ltN rfl) (force_x rfl) fo_64_3),
      ok_if (ltN rfl) rfl rfl rfl rfl rfl rfl (fun hg7 => op_load1 (ltN rfl) sh_3 (force_eq (beq_iff_eq.2 hg7) rfl) rfl),
      ok_if (ltN rfl) rfl rfl rfl rfl rfl rfl (fun hg8 => op_call (x := .B v4) (fs := []) (caps := []) (extra := []) (ltN rfl) en_92 rfl ⟨rfl, rfl, rfl⟩ (EvL.cons (force_eq (beq_iff_eq.2 hg8) rfl) (EvL.cons rfl (EvL.cons rfl EvL.nil))) (fun mm aa ww gg hr hrel => (c92 F a0.Tonnes 10 500000 ww v4 (brk_f hg8 hv4)))),
      ok_if (ltN rfl) rfl rfl rfl rfl rfl rfl (fun hg9 => op_not (ltN rfl) (force_eq (beq_iff_eq.2 hg9) rfl)),
      ok_plain rfl rfl (op_or (ltN rfl) rfl rfl),
      trivial⟩ ?_
    refine fin_keep (s' := [kt 1 (.p 1 0), kt 25 (.B (((!v2) || (!v3)) || (!v4))), kb 1 64 11, kc 1 0 (.i a0.Class), kc 1 1 (.i a0.Power), kc 1 2 (.i a0.Draught), kc 1 3 (.i a0.Tonnes), kc 1 4 (.v (.slice a0_Thrust_p a0.Thrust.length a0_Thrust_c)), kc 1 5 (.v (.slice a0_Water_p a0.Water.length a0_Water_c)), kc 1 6 (.v (.slice a0_Ice_p a0.Ice.length a0_Ice_c)), kc 1 7 (.i a0.Slow), kc 1 8 (.i a0.Brash), kc 1 9 (.i a0.Ridge), kc 1 10 (.i a0.Press)]) ?_ (kp rfl) rfl
    refine fin_then ?_
    refine aw_cond rfl (fun hz10 => ?_) (fun hz10 => ?_)
    · have hm := brk_t hz10 hm
      refine aw_seq ?_
      refine aw_text (rows := [_]) rfl (by kernel_rfl) ⟨
        ok_plain rfl rfl (op_assign (ltN rfl) rfl),
        trivial⟩ ?_
      refine fin_keep (s' := [kt 2 (.i 40)]) ?_ (kp rfl) rfl
      refine fin_then ?_
      refine aw_ret ?_
      refine fin_then_ret ?_
      refine post_ret (x := .i 40) rfl rfl (resOK_tmp rfl resOK_nil) rfl (fun mm aa ww hr => ?_)
      have hm := Option.some.inj hm
      subst hm
      exact ⟨rfl, hr.below⟩
    · have hm := brk_f hz10 hm
      refine aw_skip ?_
      refine fin_then ?_
      refine aw_seq ?_
      refine aw_seq ?_
      obtain ⟨v5, hv5, hm⟩ := bnd_some hm
      obtain ⟨v6, hv6, hm⟩ := bnd_some hm
      obtain ⟨v7, hv7, hm⟩ := bnd_some hm
      obtain ⟨v8, hv8, hm⟩ := bnd_some hm
      refine aw_text (rows := [_, _, _, _, _, _, _, _, _, _, _, _, _, _, _, _, _, _, _, _, _, _]) rfl (by kernel_rfl) ⟨
        ok_plain rfl rfl (op_fieldAddr (ltN rfl) rfl fo_64_7),
        ok_plain rfl rfl (op_load1 (ltN rfl) sh_3 rfl rfl),
        ok_plain rfl rfl (op_call (x := .B v5) (fs := []) (caps := []) (extra := []) (ltN rfl) en_92 rfl ⟨rfl, rfl, rfl⟩ (EvL.cons rfl (EvL.cons rfl (EvL.cons rfl EvL.nil))) (fun mm aa ww gg hr hrel => (c92 F a0.Slow 0 20 ww v5 hv5))),
        ok_plain rfl rfl (op_not (ltN rfl) rfl),
        ok_plain rfl rfl (op_move (ltN rfl) rfl),
        ok_if (ltN rfl) rfl rfl rfl rfl rfl rfl (fun hg11 => op_fieldAddr (ltN rfl) (force_x rfl) fo_64_8),
        ok_if (ltN rfl) rfl rfl rfl rfl rfl rfl (fun hg12 => op_load1 (ltN rfl) sh_3 (force_eq (beq_iff_eq.2 hg12) rfl) rfl),
        ok_if (ltN rfl) rfl rfl rfl rfl rfl rfl (fun hg13 => op_call (x := .B v6) (fs := []) (caps := []) (extra := []) (ltN rfl) en_92 rfl ⟨rfl, rfl, rfl⟩ (EvL.cons (force_eq (beq_iff_eq.2 hg13) rfl) (EvL.cons rfl (EvL.cons rfl EvL.nil))) (fun mm aa ww gg hr hrel => (c92 F a0.Brash 0 100 ww v6 (brk_f hg13 hv6)))),
        ok_if (ltN rfl) rfl rfl rfl rfl rfl rfl (fun hg14 => op_not (ltN rfl) (force_eq (beq_iff_eq.2 hg14) rfl)),
        ok_plain rfl rfl (op_or (ltN rfl) rfl rfl),
        ok_plain rfl rfl (op_move (ltN rfl) rfl),
        ok_if (ltN rfl) rfl rfl rfl rfl rfl rfl (fun hg15 => op_fieldAddr (ltN rfl) (force_x rfl) fo_64_9),
        ok_if (ltN rfl) rfl rfl rfl rfl rfl rfl (fun hg16 => op_load1 (ltN rfl) sh_3 (force_eq (beq_iff_eq.2 hg16) rfl) rfl),
        ok_if (ltN rfl) rfl rfl rfl rfl rfl rfl (fun hg17 => op_call (x := .B v7) (fs := []) (caps := []) (extra := []) (ltN rfl) en_92 rfl ⟨rfl, rfl, rfl⟩ (EvL.cons (force_eq (beq_iff_eq.2 hg17) rfl) (EvL.cons rfl (EvL.cons rfl EvL.nil))) (fun mm aa ww gg hr hrel => (c92 F a0.Ridge 0 500 ww v7 (brk_f hg17 hv7)))),
        ok_if (ltN rfl) rfl rfl rfl rfl rfl rfl (fun hg18 => op_not (ltN rfl) (force_eq (beq_iff_eq.2 hg18) rfl)),
        ok_plain rfl rfl (op_or (ltN rfl) rfl rfl),
        ok_plain rfl rfl (op_move (ltN rfl) rfl),
        ok_if (ltN rfl) rfl rfl rfl rfl rfl rfl (fun hg19 => op_fieldAddr (ltN rfl) (force_x rfl) fo_64_10),
        ok_if (ltN rfl) rfl rfl rfl rfl rfl rfl (fun hg20 => op_load1 (ltN rfl) sh_3 (force_eq (beq_iff_eq.2 hg20) rfl) rfl),
        ok_if (ltN rfl) rfl rfl rfl rfl rfl rfl (fun hg21 => op_call (x := .B v8) (fs := []) (caps := []) (extra := []) (ltN rfl) en_92 rfl ⟨rfl, rfl, rfl⟩ (EvL.cons (force_eq (beq_iff_eq.2 hg21) rfl) (EvL.cons rfl (EvL.cons rfl EvL.nil))) (fun mm aa ww gg hr hrel => (c92 F a0.Press 0 5000 ww v8 (brk_f hg21 hv8)))),
        ok_if (ltN rfl) rfl rfl rfl rfl rfl rfl (fun hg22 => op_not (ltN rfl) (force_eq (beq_iff_eq.2 hg22) rfl)),
        ok_plain rfl rfl (op_or (ltN rfl) rfl rfl),
        trivial⟩ ?_
      refine fin_keep (s' := [kt 1 (.p 1 0), kt 47 (.B ((((!v5) || (!v6)) || (!v7)) || (!v8))), kb 1 64 11, kc 1 0 (.i a0.Class), kc 1 1 (.i a0.Power), kc 1 2 (.i a0.Draught), kc 1 3 (.i a0.Tonnes), kc 1 4 (.v (.slice a0_Thrust_p a0.Thrust.length a0_Thrust_c)), kc 1 5 (.v (.slice a0_Water_p a0.Water.length a0_Water_c)), kc 1 6 (.v (.slice a0_Ice_p a0.Ice.length a0_Ice_c)), kc 1 7 (.i a0.Slow), kc 1 8 (.i a0.Brash), kc 1 9 (.i a0.Ridge), kc 1 10 (.i a0.Press)]) ?_ (kp rfl) rfl
      refine fin_then ?_
      refine aw_cond rfl (fun hz23 => ?_) (fun hz23 => ?_)
      · have hm := brk_t hz23 hm
        refine aw_seq ?_
        refine aw_text (rows := [_]) rfl (by kernel_rfl) ⟨
          ok_plain rfl rfl (op_assign (ltN rfl) rfl),
          trivial⟩ ?_
        refine fin_keep (s' := [kt 2 (.i 40)]) ?_ (kp rfl) rfl
        refine fin_then ?_
        refine aw_ret ?_
        refine fin_then_ret ?_
        refine post_ret (x := .i 40) rfl rfl (resOK_tmp rfl resOK_nil) rfl (fun mm aa ww hr => ?_)
        have hm := Option.some.inj hm
        subst hm
        exact ⟨rfl, hr.below⟩
      · have hm := brk_f hz23 hm
        refine aw_skip ?_
        refine fin_then ?_
        refine aw_seq ?_
        refine aw_seq ?_
        obtain ⟨v9, hv9, hm⟩ := bnd_some hm
        obtain ⟨v10, hv10, hm⟩ := bnd_some hm
        obtain ⟨v11, hv11, hm⟩ := bnd_some hm
        refine aw_text (rows := [_, _, _, _, _, _, _, _, _, _, _, _, _, _, _, _]) rfl (by kernel_rfl) ⟨
          ok_plain rfl rfl (op_fieldAddr (ltN rfl) rfl fo_64_4),
          ok_plain rfl rfl (op_load1 (ltN rfl) sh_62 rfl rfl),
          ok_plain rfl rfl (op_call (x := .B v9) (fs := []) (caps := []) (extra := []) (ltN rfl) en_110 rfl ⟨rfl, rfl, rfl⟩ (EvL.cons rfl EvL.nil) (fun mm aa ww gg hr hrel => (c110 F a0.Thrust ⟨a0_Thrust_p, a0.Thrust.length, a0_Thrust_c⟩ ww (SlIs.mono ha0_Thrust hrel.below) v9 hv9))),
          ok_plain rfl rfl (op_not (ltN rfl) rfl),
          ok_plain rfl rfl (op_move (ltN rfl) rfl),
          ok_if (ltN rfl) rfl rfl rfl rfl rfl rfl (fun hg24 => op_fieldAddr (ltN rfl) (force_x rfl) fo_64_5),
          ok_if (ltN rfl) rfl rfl rfl rfl rfl rfl (fun hg25 => op_load1 (ltN rfl) sh_62 (force_eq (beq_iff_eq.2 hg25) rfl) rfl),
          ok_if (ltN rfl) rfl rfl rfl rfl rfl rfl (fun hg26 => op_call (x := .B v10) (fs := []) (caps := []) (extra := []) (ltN rfl) en_110 rfl ⟨rfl, rfl, rfl⟩ (EvL.cons (force_eq (beq_iff_eq.2 hg26) rfl) EvL.nil) (fun mm aa ww gg hr hrel => (c110 F a0.Water ⟨a0_Water_p, a0.Water.length, a0_Water_c⟩ ww (SlIs.mono ha0_Water hrel.below) v10 (brk_f hg26 hv10)))),
          ok_if (ltN rfl) rfl rfl rfl rfl rfl rfl (fun hg27 => op_not (ltN rfl) (force_eq (beq_iff_eq.2 hg27) rfl)),
          ok_plain rfl rfl (op_or (ltN rfl) rfl rfl),
          ok_plain rfl rfl (op_move (ltN rfl) rfl),
          ok_if (ltN rfl) rfl rfl rfl rfl rfl rfl (fun hg28 => op_fieldAddr (ltN rfl) (force_x rfl) fo_64_6),
          ok_if (ltN rfl) rfl rfl rfl rfl rfl rfl (fun hg29 => op_load1 (ltN rfl) sh_62 (force_eq (beq_iff_eq.2 hg29) rfl) rfl),
          ok_if (ltN rfl) rfl rfl rfl rfl rfl rfl (fun hg30 => op_call (x := .B v11) (fs := []) (caps := []) (extra := []) (ltN rfl) en_110 rfl ⟨rfl, rfl, rfl⟩ (EvL.cons (force_eq (beq_iff_eq.2 hg30) rfl) EvL.nil) (fun mm aa ww gg hr hrel => (c110 F a0.Ice ⟨a0_Ice_p, a0.Ice.length, a0_Ice_c⟩ ww (SlIs.mono ha0_Ice hrel.below) v11 (brk_f hg30 hv11)))),
          ok_if (ltN rfl) rfl rfl rfl rfl rfl rfl (fun hg31 => op_not (ltN rfl) (force_eq (beq_iff_eq.2 hg31) rfl)),
          ok_plain rfl rfl (op_or (ltN rfl) rfl rfl),
          trivial⟩ ?_
        refine fin_keep (s' := [kt 1 (.p 1 0), kt 63 (.B (((!v9) || (!v10)) || (!v11))), kb 1 64 11, kc 1 0 (.i a0.Class), kc 1 1 (.i a0.Power), kc 1 2 (.i a0.Draught), kc 1 3 (.i a0.Tonnes), kc 1 4 (.v (.slice a0_Thrust_p a0.Thrust.length a0_Thrust_c)), kc 1 5 (.v (.slice a0_Water_p a0.Water.length a0_Water_c)), kc 1 6 (.v (.slice a0_Ice_p a0.Ice.length a0_Ice_c)), kc 1 7 (.i a0.Slow), kc 1 8 (.i a0.Brash), kc 1 9 (.i a0.Ridge), kc 1 10 (.i a0.Press)]) ?_ (kp rfl) rfl
        refine fin_then ?_
        refine aw_cond rfl (fun hz32 => ?_) (fun hz32 => ?_)
        · have hm := brk_t hz32 hm
          refine aw_seq ?_
          refine aw_text (rows := [_]) rfl (by kernel_rfl) ⟨
            ok_plain rfl rfl (op_assign (ltN rfl) rfl),
            trivial⟩ ?_
          refine fin_keep (s' := [kt 2 (.i 40)]) ?_ (kp rfl) rfl
          refine fin_then ?_
          refine aw_ret ?_
          refine fin_then_ret ?_
          refine post_ret (x := .i 40) rfl rfl (resOK_tmp rfl resOK_nil) rfl (fun mm aa ww hr => ?_)
          have hm := Option.some.inj hm
          subst hm
          exact ⟨rfl, hr.below⟩
        · have hm := brk_f hz32 hm
          refine aw_skip ?_
          refine fin_then ?_
          refine aw_cutM (ι := Unit) hm (fun x1 => [kt 1 (.p 1 0), kb 1 64 11, kc 1 0 (.i a0.Class), kc 1 1 (.i a0.Power), kc 1 2 (.i a0.Draught), kc 1 3 (.i a0.Tonnes), kc 1 4 (.v (.slice a0_Thrust_p a0.Thrust.length a0_Thrust_c)), kc 1 5 (.v (.slice a0_Water_p a0.Water.length a0_Water_c)), kc 1 6 (.v (.slice a0_Ice_p a0.Ice.length a0_Ice_c)), kc 1 7 (.i a0.Slow), kc 1 8 (.i a0.Brash), kc 1 9 (.i a0.Ridge), kc 1 10 (.i a0.Press)]) (fun hm => ?_) (fun x1 hm => ?_)
          · have _z := hm
            refine aw_seq ?_
            refine aw_text (rows := [_]) rfl (by kernel_rfl) ⟨
              ok_plain rfl rfl (op_assign (ltN rfl) rfl),
              trivial⟩ ?_
            refine fin_keep (s' := [kt 1 (.p 1 0), kt 3 (.i 1), kb 1 64 11, kc 1 0 (.i a0.Class), kc 1 1 (.i a0.Power), kc 1 2 (.i a0.Draught), kc 1 3 (.i a0.Tonnes), kc 1 4 (.v (.slice a0_Thrust_p a0.Thrust.length a0_Thrust_c)), kc 1 5 (.v (.slice a0_Water_p a0.Water.length a0_Water_c)), kc 1 6 (.v (.slice a0_Ice_p a0.Ice.length a0_Ice_c)), kc 1 7 (.i a0.Slow), kc 1 8 (.i a0.Brash), kc 1 9 (.i a0.Ridge), kc 1 10 (.i a0.Press)]) ?_ (kp rfl) rfl
            refine fin_then ?_
            refine aw_block ?_
            refine aw_loopC hm (fun x2 => [kt 1 (.p 1 0), kt 3 (.i x2), kb 1 64 11, kc 1 0 (.i a0.Class), kc 1 1 (.i a0.Power), kc 1 2 (.i a0.Draught), kc 1 3 (.i a0.Tonnes), kc 1 4 (.v (.slice a0_Thrust_p a0.Thrust.length a0_Thrust_c)), kc 1 5 (.v (.slice a0_Water_p a0.Water.length a0_Water_c)), kc 1 6 (.v (.slice a0_Ice_p a0.Ice.length a0_Ice_c)), kc 1 7 (.i a0.Slow), kc 1 8 (.i a0.Brash), kc 1 9 (.i a0.Ridge), kc 1 10 (.i a0.Press)]) ⟨rfl, rfl, rfl, rfl, rfl, rfl, rfl, rfl, rfl, rfl, rfl, rfl, rfl, rfl, trivial⟩ rfl (fun x2 n2 hm => ?_)
            refine aw_seq ?_
            refine aw_seq ?_
            refine aw_text (rows := [_, _, _, _, _]) rfl (by kernel_rfl) ⟨
              ok_plain rfl rfl (op_move (ltN rfl) rfl),
              ok_plain rfl rfl (op_fieldAddr (ltN rfl) rfl fo_64_4),
              ok_plain rfl rfl (op_load1 (ltN rfl) sh_62 rfl rfl),
              ok_plain rfl rfl (op_len (n := a0.Thrust.length) (ltN rfl) (by rw [ss_62]; rfl) rfl rfl),
              ok_plain rfl rfl (op_bin (ltN rfl) rfl rfl rfl),
              trivial⟩ ?_
            refine fin_keep (s' := [kt 1 (.p 1 0), kt 3 (.i x2), kt 68 (.B (decide (x2 < (((a0.Thrust.length : Nat) : Int))))), kb 1 64 11, kc 1 0 (.i a0.Class), kc 1 1 (.i a0.Power), kc 1 2 (.i a0.Draught), kc 1 3 (.i a0.Tonnes), kc 1 4 (.v (.slice a0_Thrust_p a0.Thrust.length a0_Thrust_c)), kc 1 5 (.v (.slice a0_Water_p a0.Water.length a0_Water_c)), kc 1 6 (.v (.slice a0_Ice_p a0.Ice.length a0_Ice_c)), kc 1 7 (.i a0.Slow), kc 1 8 (.i a0.Brash), kc 1 9 (.i a0.Ridge), kc 1 10 (.i a0.Press)]) ?_ (kp rfl) rfl
            refine fin_then ?_
            refine aw_cond rfl (fun hz33 => ?_) (fun hz33 => ?_)
            · have hm := brk_t hz33 hm
              refine aw_skip ?_
              refine fin_then ?_
              refine aw_seq ?_
              refine aw_block ?_
              refine aw_seq ?_
              obtain ⟨hp34, hm⟩ := chk_some hm
              obtain ⟨hp35, hm⟩ := chk_some hm
              obtain ⟨hp36, hm⟩ := chk_some hm
              refine aw_any (rows := [_, _, _, _, _, _, _, _, _, _, _, _, _, _]) (M := [0, 1, 0, 7, 15, 31, 0, 64, 0, 256, 960, 1984, 4032, 8191]) Tryd_mixed (by kernel_rfl) rfl (by kernel_rfl) ⟨
                ok_plain rfl rfl (op_fieldAddr (ltN rfl) rfl fo_64_4),
                ok_plain rfl rfl (op_load1 (ltN rfl) sh_62 rfl rfl),
                ok_plain rfl rfl (op_move (ltN rfl) rfl),
                ok_plain rfl rfl (op_ixB (ltN rfl) rfl rfl ss_62 (ha0_Thrust_p (ne_of_ix (i := x2) hp34.1 hp34.2)) hp34.1 hp34.2),
                ok_plain rfl rfl (op_fieldAddrB (ltN rfl) rfl fo_170_1),
                ok_plain rfl rfl (op_loadB (y := .i (((pt a0.Thrust x2)).Y)) (ltN rfl) rfl (ld1 (ha0_Thrust_L (ne_of_ix (i := x2) hp34.1 hp34.2)) ⟨0, 0⟩ (i := x2) hp34.1 hp34.2 1 rfl rfl sh_3)),
                ok_plain rfl rfl (op_fieldAddr (ltN rfl) rfl fo_64_4),
                ok_plain rfl rfl (op_load1 (ltN rfl) sh_62 rfl rfl),
                ok_plain rfl rfl (op_move (ltN rfl) rfl),
                ok_plain rfl rfl (op_bin (ltN rfl) rfl rfl (nw_sub hp35)),
                ok_plain rfl rfl (op_ixB (ltN rfl) rfl rfl ss_62 (ha0_Thrust_p (ne_of_ix (i := x2 - 1) hp36.1 hp36.2)) hp36.1 hp36.2),
                ok_plain rfl rfl (op_fieldAddrB (ltN rfl) rfl fo_170_1),
                ok_plain rfl rfl (op_loadB (y := .i (((pt a0.Thrust (x2 - 1))).Y)) (ltN rfl) rfl (ld1 (ha0_Thrust_L (ne_of_ix (i := x2 - 1) hp36.1 hp36.2)) ⟨0, 0⟩ (i := x2 - 1) hp36.1 hp36.2 1 rfl rfl sh_3)),
                ok_plain rfl rfl (op_bin (ltN rfl) rfl rfl rfl),
                trivial⟩ ?_
              refine fin_keep (s' := [kt 1 (.p 1 0), kt 3 (.i x2), kt 84 (.B (decide ((((pt a0.Thrust x2)).Y) > (((pt a0.Thrust (x2 - 1))).Y)))), kb 1 64 11, kc 1 0 (.i a0.Class), kc 1 1 (.i a0.Power), kc 1 2 (.i a0.Draught), kc 1 3 (.i a0.Tonnes), kc 1 4 (.v (.slice a0_Thrust_p a0.Thrust.length a0_Thrust_c)), kc 1 5 (.v (.slice a0_Water_p a0.Water.length a0_Water_c)), kc 1 6 (.v (.slice a0_Ice_p a0.Ice.length a0_Ice_c)), kc 1 7 (.i a0.Slow), kc 1 8 (.i a0.Brash), kc 1 9 (.i a0.Ridge), kc 1 10 (.i a0.Press)]) ?_ (kp rfl) rfl
              refine fin_then ?_
              refine aw_cond rfl (fun hz37 => ?_) (fun hz37 => ?_)
              · have hm := brk_t hz37 hm
                refine aw_seq ?_
                refine aw_text (rows := [_]) rfl (by kernel_rfl) ⟨
                  ok_plain rfl rfl (op_assign (ltN rfl) rfl),
                  trivial⟩ ?_
                refine fin_keep (s' := [kt 2 (.i 40)]) ?_ (kp rfl) rfl
                refine fin_then ?_
                refine aw_ret ?_
                refine fin_block_ret ?_
                refine fin_then_ret ?_
                refine fin_then_ret ?_
                refine fin_block_ret ?_
                refine fin_then_ret ?_
                refine post_ret (x := .i 40) rfl rfl (resOK_tmp rfl resOK_nil) rfl (fun mm aa ww hr => ?_)
                have hm := Option.some.inj hm
                subst hm
                exact ⟨rfl, hr.below⟩
              · have hm := brk_f hz37 hm
                refine aw_skip ?_
                refine fin_block ?_
                refine fin_then ?_
                obtain ⟨hp38, hm⟩ := chk_some hm
                refine aw_text (rows := [_, _, _]) rfl (by kernel_rfl) ⟨
                  ok_plain rfl rfl (op_move (ltN rfl) rfl),
                  ok_plain rfl rfl (op_bin (ltN rfl) rfl rfl (nw_add hp38)),
                  ok_plain rfl rfl (op_assign (ltN rfl) rfl),
                  trivial⟩ ?_
                refine fin_keep (s' := [kt 1 (.p 1 0), kt 3 (.i (x2 + 1)), kb 1 64 11, kc 1 0 (.i a0.Class), kc 1 1 (.i a0.Power), kc 1 2 (.i a0.Draught), kc 1 3 (.i a0.Tonnes), kc 1 4 (.v (.slice a0_Thrust_p a0.Thrust.length a0_Thrust_c)), kc 1 5 (.v (.slice a0_Water_p a0.Water.length a0_Water_c)), kc 1 6 (.v (.slice a0_Ice_p a0.Ice.length a0_Ice_c)), kc 1 7 (.i a0.Slow), kc 1 8 (.i a0.Brash), kc 1 9 (.i a0.Ridge), kc 1 10 (.i a0.Press)]) ?_ (kp rfl) rfl
                exact fin_cut (x2 + 1) hm ⟨rfl, rfl, rfl, rfl, rfl, rfl, rfl, rfl, rfl, rfl, rfl, rfl, rfl, rfl, trivial⟩ rfl
            · have hm := brk_f hz33 hm
              refine aw_exit ?_
              refine fin_then_exit ?_
              refine fin_then_exit ?_
              refine fin_block_exit ?_
              exact fin_cut () hm ⟨rfl, rfl, rfl, rfl, rfl, rfl, rfl, rfl, rfl, rfl, rfl, rfl, rfl, trivial⟩ rfl
          · have _z := hm
            refine aw_cutM (ι := Unit) hm (fun x3 => [kt 1 (.p 1 0), kb 1 64 11, kc 1 0 (.i a0.Class), kc 1 1 (.i a0.Power), kc 1 2 (.i a0.Draught), kc 1 3 (.i a0.Tonnes), kc 1 4 (.v (.slice a0_Thrust_p a0.Thrust.length a0_Thrust_c)), kc 1 5 (.v (.slice a0_Water_p a0.Water.length a0_Water_c)), kc 1 6 (.v (.slice a0_Ice_p a0.Ice.length a0_Ice_c)), kc 1 7 (.i a0.Slow), kc 1 8 (.i a0.Brash), kc 1 9 (.i a0.Ridge), kc 1 10 (.i a0.Press)]) (fun hm => ?_) (fun x3 hm => ?_)
            · have _z := hm
              refine aw_seq ?_
              refine aw_text (rows := [_]) rfl (by kernel_rfl) ⟨
                ok_plain rfl rfl (op_assign (ltN rfl) rfl),
                trivial⟩ ?_
              refine fin_keep (s' := [kt 1 (.p 1 0), kt 4 (.i 1), kb 1 64 11, kc 1 0 (.i a0.Class), kc 1 1 (.i a0.Power), kc 1 2 (.i a0.Draught), kc 1 3 (.i a0.Tonnes), kc 1 4 (.v (.slice a0_Thrust_p a0.Thrust.length a0_Thrust_c)), kc 1 5 (.v (.slice a0_Water_p a0.Water.length a0_Water_c)), kc 1 6 (.v (.slice a0_Ice_p a0.Ice.length a0_Ice_c)), kc 1 7 (.i a0.Slow), kc 1 8 (.i a0.Brash), kc 1 9 (.i a0.Ridge), kc 1 10 (.i a0.Press)]) ?_ (kp rfl) rfl
              refine fin_then ?_
              refine aw_block ?_
              refine aw_loopC hm (fun x4 => [kt 1 (.p 1 0), kt 4 (.i x4), kb 1 64 11, kc 1 0 (.i a0.Class), kc 1 1 (.i a0.Power), kc 1 2 (.i a0.Draught), kc 1 3 (.i a0.Tonnes), kc 1 4 (.v (.slice a0_Thrust_p a0.Thrust.length a0_Thrust_c)), kc 1 5 (.v (.slice a0_Water_p a0.Water.length a0_Water_c)), kc 1 6 (.v (.slice a0_Ice_p a0.Ice.length a0_Ice_c)), kc 1 7 (.i a0.Slow), kc 1 8 (.i a0.Brash), kc 1 9 (.i a0.Ridge), kc 1 10 (.i a0.Press)]) ⟨rfl, rfl, rfl, rfl, rfl, rfl, rfl, rfl, rfl, rfl, rfl, rfl, rfl, rfl, trivial⟩ rfl (fun x4 n4 hm => ?_)
              refine aw_seq ?_
              refine aw_seq ?_
              refine aw_text (rows := [_, _, _, _, _]) rfl (by kernel_rfl) ⟨
                ok_plain rfl rfl (op_move (ltN rfl) rfl),
                ok_plain rfl rfl (op_fieldAddr (ltN rfl) rfl fo_64_5),
                ok_plain rfl rfl (op_load1 (ltN rfl) sh_62 rfl rfl),
                ok_plain rfl rfl (op_len (n := a0.Water.length) (ltN rfl) (by rw [ss_62]; rfl) rfl rfl),
                ok_plain rfl rfl (op_bin (ltN rfl) rfl rfl rfl),
                trivial⟩ ?_
              refine fin_keep (s' := [kt 1 (.p 1 0), kt 4 (.i x4), kt 89 (.B (decide (x4 < (((a0.Water.length : Nat) : Int))))), kb 1 64 11, kc 1 0 (.i a0.Class), kc 1 1 (.i a0.Power), kc 1 2 (.i a0.Draught), kc 1 3 (.i a0.Tonnes), kc 1 4 (.v (.slice a0_Thrust_p a0.Thrust.length a0_Thrust_c)), kc 1 5 (.v (.slice a0_Water_p a0.Water.length a0_Water_c)), kc 1 6 (.v (.slice a0_Ice_p a0.Ice.length a0_Ice_c)), kc 1 7 (.i a0.Slow), kc 1 8 (.i a0.Brash), kc 1 9 (.i a0.Ridge), kc 1 10 (.i a0.Press)]) ?_ (kp rfl) rfl
              refine fin_then ?_
              refine aw_cond rfl (fun hz39 => ?_) (fun hz39 => ?_)
              · have hm := brk_t hz39 hm
                refine aw_skip ?_
                refine fin_then ?_
                refine aw_seq ?_
                refine aw_block ?_
                refine aw_seq ?_
                obtain ⟨hp40, hm⟩ := chk_some hm
                obtain ⟨hp41, hm⟩ := chk_some hm
                obtain ⟨hp42, hm⟩ := chk_some hm
                refine aw_any (rows := [_, _, _, _, _, _, _, _, _, _, _, _, _, _]) (M := [0, 1, 0, 7, 15, 31, 0, 64, 0, 256, 960, 1984, 4032, 8191]) Tryd_mixed (by kernel_rfl) rfl (by kernel_rfl) ⟨
                  ok_plain rfl rfl (op_fieldAddr (ltN rfl) rfl fo_64_5),
                  ok_plain rfl rfl (op_load1 (ltN rfl) sh_62 rfl rfl),
                  ok_plain rfl rfl (op_move (ltN rfl) rfl),
                  ok_plain rfl rfl (op_ixB (ltN rfl) rfl rfl ss_62 (ha0_Water_p (ne_of_ix (i := x4) hp40.1 hp40.2)) hp40.1 hp40.2),
                  ok_plain rfl rfl (op_fieldAddrB (ltN rfl) rfl fo_170_1),
                  ok_plain rfl rfl (op_loadB (y := .i (((pt a0.Water x4)).Y)) (ltN rfl) rfl (ld1 (ha0_Water_L (ne_of_ix (i := x4) hp40.1 hp40.2)) ⟨0, 0⟩ (i := x4) hp40.1 hp40.2 1 rfl rfl sh_3)),
                  ok_plain rfl rfl (op_fieldAddr (ltN rfl) rfl fo_64_5),
                  ok_plain rfl rfl (op_load1 (ltN rfl) sh_62 rfl rfl),
                  ok_plain rfl rfl (op_move (ltN rfl) rfl),
                  ok_plain rfl rfl (op_bin (ltN rfl) rfl rfl (nw_sub hp41)),
                  ok_plain rfl rfl (op_ixB (ltN rfl) rfl rfl ss_62 (ha0_Water_p (ne_of_ix (i := x4 - 1) hp42.1 hp42.2)) hp42.1 hp42.2),
                  ok_plain rfl rfl (op_fieldAddrB (ltN rfl) rfl fo_170_1),
                  ok_plain rfl rfl (op_loadB (y := .i (((pt a0.Water (x4 - 1))).Y)) (ltN rfl) rfl (ld1 (ha0_Water_L (ne_of_ix (i := x4 - 1) hp42.1 hp42.2)) ⟨0, 0⟩ (i := x4 - 1) hp42.1 hp42.2 1 rfl rfl sh_3)),
                  ok_plain rfl rfl (op_bin (ltN rfl) rfl rfl rfl),
                  trivial⟩ ?_
                refine fin_keep (s' := [kt 1 (.p 1 0), kt 4 (.i x4), kt 105 (.B (decide ((((pt a0.Water x4)).Y) < (((pt a0.Water (x4 - 1))).Y)))), kb 1 64 11, kc 1 0 (.i a0.Class), kc 1 1 (.i a0.Power), kc 1 2 (.i a0.Draught), kc 1 3 (.i a0.Tonnes), kc 1 4 (.v (.slice a0_Thrust_p a0.Thrust.length a0_Thrust_c)), kc 1 5 (.v (.slice a0_Water_p a0.Water.length a0_Water_c)), kc 1 6 (.v (.slice a0_Ice_p a0.Ice.length a0_Ice_c)), kc 1 7 (.i a0.Slow), kc 1 8 (.i a0.Brash), kc 1 9 (.i a0.Ridge), kc 1 10 (.i a0.Press)]) ?_ (kp rfl) rfl
                refine fin_then ?_
                refine aw_cond rfl (fun hz43 => ?_) (fun hz43 => ?_)
                · have hm := brk_t hz43 hm
                  refine aw_seq ?_
                  refine aw_text (rows := [_]) rfl (by kernel_rfl) ⟨
                    ok_plain rfl rfl (op_assign (ltN rfl) rfl),
                    trivial⟩ ?_
                  refine fin_keep (s' := [kt 2 (.i 40)]) ?_ (kp rfl) rfl
                  refine fin_then ?_
                  refine aw_ret ?_
                  refine fin_block_ret ?_
                  refine fin_then_ret ?_
                  refine fin_then_ret ?_
                  refine fin_block_ret ?_
                  refine fin_then_ret ?_
                  refine post_ret (x := .i 40) rfl rfl (resOK_tmp rfl resOK_nil) rfl (fun mm aa ww hr => ?_)
                  have hm := Option.some.inj hm
                  subst hm
                  exact ⟨rfl, hr.below⟩
                · have hm := brk_f hz43 hm
                  refine aw_skip ?_
                  refine fin_block ?_
                  refine fin_then ?_
                  obtain ⟨hp44, hm⟩ := chk_some hm
                  refine aw_text (rows := [_, _, _]) rfl (by kernel_rfl) ⟨
                    ok_plain rfl rfl (op_move (ltN rfl) rfl),
                    ok_plain rfl rfl (op_bin (ltN rfl) rfl rfl (nw_add hp44)),
                    ok_plain rfl rfl (op_assign (ltN rfl) rfl),
                    trivial⟩ ?_
                  refine fin_keep (s' := [kt 1 (.p 1 0), kt 4 (.i (x4 + 1)), kb 1 64 11, kc 1 0 (.i a0.Class), kc 1 1 (.i a0.Power), kc 1 2 (.i a0.Draught), kc 1 3 (.i a0.Tonnes), kc 1 4 (.v (.slice a0_Thrust_p a0.Thrust.length a0_Thrust_c)), kc 1 5 (.v (.slice a0_Water_p a0.Water.length a0_Water_c)), kc 1 6 (.v (.slice a0_Ice_p a0.Ice.length a0_Ice_c)), kc 1 7 (.i a0.Slow), kc 1 8 (.i a0.Brash), kc 1 9 (.i a0.Ridge), kc 1 10 (.i a0.Press)]) ?_ (kp rfl) rfl
                  exact fin_cut (x4 + 1) hm ⟨rfl, rfl, rfl, rfl, rfl, rfl, rfl, rfl, rfl, rfl, rfl, rfl, rfl, rfl, trivial⟩ rfl
              · have hm := brk_f hz39 hm
                refine aw_exit ?_
                refine fin_then_exit ?_
                refine fin_then_exit ?_
                refine fin_block_exit ?_
                exact fin_cut () hm ⟨rfl, rfl, rfl, rfl, rfl, rfl, rfl, rfl, rfl, rfl, rfl, rfl, rfl, trivial⟩ rfl
            · have _z := hm
              refine aw_cutM (ι := Unit) hm (fun x5 => [kt 1 (.p 1 0), kb 1 64 11, kc 1 0 (.i a0.Class), kc 1 1 (.i a0.Power), kc 1 2 (.i a0.Draught), kc 1 3 (.i a0.Tonnes), kc 1 4 (.v (.slice a0_Thrust_p a0.Thrust.length a0_Thrust_c)), kc 1 5 (.v (.slice a0_Water_p a0.Water.length a0_Water_c)), kc 1 6 (.v (.slice a0_Ice_p a0.Ice.length a0_Ice_c)), kc 1 7 (.i a0.Slow), kc 1 8 (.i a0.Brash), kc 1 9 (.i a0.Ridge), kc 1 10 (.i a0.Press)]) (fun hm => ?_) (fun x5 hm => ?_)
              · have _z := hm
                refine aw_seq ?_
                refine aw_text (rows := [_]) rfl (by kernel_rfl) ⟨
                  ok_plain rfl rfl (op_assign (ltN rfl) rfl),
                  trivial⟩ ?_
                refine fin_keep (s' := [kt 1 (.p 1 0), kt 5 (.i 1), kb 1 64 11, kc 1 0 (.i a0.Class), kc 1 1 (.i a0.Power), kc 1 2 (.i a0.Draught), kc 1 3 (.i a0.Tonnes), kc 1 4 (.v (.slice a0_Thrust_p a0.Thrust.length a0_Thrust_c)), kc 1 5 (.v (.slice a0_Water_p a0.Water.length a0_Water_c)), kc 1 6 (.v (.slice a0_Ice_p a0.Ice.length a0_Ice_c)), kc 1 7 (.i a0.Slow), kc 1 8 (.i a0.Brash), kc 1 9 (.i a0.Ridge), kc 1 10 (.i a0.Press)]) ?_ (kp rfl) rfl
                refine fin_then ?_
                refine aw_block ?_
                refine aw_loopC hm (fun x6 => [kt 1 (.p 1 0), kt 5 (.i x6), kb 1 64 11, kc 1 0 (.i a0.Class), kc 1 1 (.i a0.Power), kc 1 2 (.i a0.Draught), kc 1 3 (.i a0.Tonnes), kc 1 4 (.v (.slice a0_Thrust_p a0.Thrust.length a0_Thrust_c)), kc 1 5 (.v (.slice a0_Water_p a0.Water.length a0_Water_c)), kc 1 6 (.v (.slice a0_Ice_p a0.Ice.length a0_Ice_c)), kc 1 7 (.i a0.Slow), kc 1 8 (.i a0.Brash), kc 1 9 (.i a0.Ridge), kc 1 10 (.i a0.Press)]) ⟨rfl, rfl, rfl, rfl, rfl, rfl, rfl, rfl, rfl, rfl, rfl, rfl, rfl, rfl, trivial⟩ rfl (fun x6 n6 hm => ?_)
                refine aw_seq ?_
                refine aw_seq ?_
                refine aw_text (rows := [_, _, _, _, _]) rfl (by kernel_rfl) ⟨
                  ok_plain rfl rfl (op_move (ltN rfl) rfl),
                  ok_plain rfl rfl (op_fieldAddr (ltN rfl) rfl fo_64_6),
                  ok_plain rfl rfl (op_load1 (ltN rfl) sh_62 rfl rfl),
                  ok_plain rfl rfl (op_len (n := a0.Ice.length) (ltN rfl) (by rw [ss_62]; rfl) rfl rfl),
                  ok_plain rfl rfl (op_bin (ltN rfl) rfl rfl rfl),
                  trivial⟩ ?_
                refine fin_keep (s' := [kt 1 (.p 1 0), kt 5 (.i x6), kt 110 (.B (decide (x6 < (((a0.Ice.length : Nat) : Int))))), kb 1 64 11, kc 1 0 (.i a0.Class), kc 1 1 (.i a0.Power), kc 1 2 (.i a0.Draught), kc 1 3 (.i a0.Tonnes), kc 1 4 (.v (.slice a0_Thrust_p a0.Thrust.length a0_Thrust_c)), kc 1 5 (.v (.slice a0_Water_p a0.Water.length a0_Water_c)), kc 1 6 (.v (.slice a0_Ice_p a0.Ice.length a0_Ice_c)), kc 1 7 (.i a0.Slow), kc 1 8 (.i a0.Brash), kc 1 9 (.i a0.Ridge), kc 1 10 (.i a0.Press)]) ?_ (kp rfl) rfl
                refine fin_then ?_
                refine aw_cond rfl (fun hz45 => ?_) (fun hz45 => ?_)
                · have hm := brk_t hz45 hm
                  refine aw_skip ?_
                  refine fin_then ?_
                  refine aw_seq ?_
                  refine aw_block ?_
                  refine aw_seq ?_
                  obtain ⟨hp46, hm⟩ := chk_some hm
                  obtain ⟨hp47, hm⟩ := chk_some hm
                  obtain ⟨hp48, hm⟩ := chk_some hm
                  refine aw_any (rows := [_, _, _, _, _, _, _, _, _, _, _, _, _, _]) (M := [0, 1, 0, 7, 15, 31, 0, 64, 0, 256, 960, 1984, 4032, 8191]) Tryd_mixed (by kernel_rfl) rfl (by kernel_rfl) ⟨
                    ok_plain rfl rfl (op_fieldAddr (ltN rfl) rfl fo_64_6),
                    ok_plain rfl rfl (op_load1 (ltN rfl) sh_62 rfl rfl),
                    ok_plain rfl rfl (op_move (ltN rfl) rfl),
                    ok_plain rfl rfl (op_ixB (ltN rfl) rfl rfl ss_62 (ha0_Ice_p (ne_of_ix (i := x6) hp46.1 hp46.2)) hp46.1 hp46.2),
                    ok_plain rfl rfl (op_fieldAddrB (ltN rfl) rfl fo_170_1),
                    ok_plain rfl rfl (op_loadB (y := .i (((pt a0.Ice x6)).Y)) (ltN rfl) rfl (ld1 (ha0_Ice_L (ne_of_ix (i := x6) hp46.1 hp46.2)) ⟨0, 0⟩ (i := x6) hp46.1 hp46.2 1 rfl rfl sh_3)),
                    ok_plain rfl rfl (op_fieldAddr (ltN rfl) rfl fo_64_6),
                    ok_plain rfl rfl (op_load1 (ltN rfl) sh_62 rfl rfl),
                    ok_plain rfl rfl (op_move (ltN rfl) rfl),
                    ok_plain rfl rfl (op_bin (ltN rfl) rfl rfl (nw_sub hp47)),
                    ok_plain rfl rfl (op_ixB (ltN rfl) rfl rfl ss_62 (ha0_Ice_p (ne_of_ix (i := x6 - 1) hp48.1 hp48.2)) hp48.1 hp48.2),
                    ok_plain rfl rfl (op_fieldAddrB (ltN rfl) rfl fo_170_1),
                    ok_plain rfl rfl (op_loadB (y := .i (((pt a0.Ice (x6 - 1))).Y)) (ltN rfl) rfl (ld1 (ha0_Ice_L (ne_of_ix (i := x6 - 1) hp48.1 hp48.2)) ⟨0, 0⟩ (i := x6 - 1) hp48.1 hp48.2 1 rfl rfl sh_3)),
                    ok_plain rfl rfl (op_bin (ltN rfl) rfl rfl rfl),
                    trivial⟩ ?_
                  refine fin_keep (s' := [kt 1 (.p 1 0), kt 5 (.i x6), kt 126 (.B (decide ((((pt a0.Ice x6)).Y) < (((pt a0.Ice (x6 - 1))).Y)))), kb 1 64 11, kc 1 0 (.i a0.Class), kc 1 1 (.i a0.Power), kc 1 2 (.i a0.Draught), kc 1 3 (.i a0.Tonnes), kc 1 4 (.v (.slice a0_Thrust_p a0.Thrust.length a0_Thrust_c)), kc 1 5 (.v (.slice a0_Water_p a0.Water.length a0_Water_c)), kc 1 6 (.v (.slice a0_Ice_p a0.Ice.length a0_Ice_c)), kc 1 7 (.i a0.Slow), kc 1 8 (.i a0.Brash), kc 1 9 (.i a0.Ridge), kc 1 10 (.i a0.Press)]) ?_ (kp rfl) rfl
                  refine fin_then ?_
                  refine aw_cond rfl (fun hz49 => ?_) (fun hz49 => ?_)
                  · have hm := brk_t hz49 hm
                    refine aw_seq ?_
                    refine aw_text (rows := [_]) rfl (by kernel_rfl) ⟨
                      ok_plain rfl rfl (op_assign (ltN rfl) rfl),
                      trivial⟩ ?_
                    refine fin_keep (s' := [kt 2 (.i 40)]) ?_ (kp rfl) rfl
                    refine fin_then ?_
                    refine aw_ret ?_
                    refine fin_block_ret ?_
                    refine fin_then_ret ?_
                    refine fin_then_ret ?_
                    refine fin_block_ret ?_
                    refine fin_then_ret ?_
                    refine post_ret (x := .i 40) rfl rfl (resOK_tmp rfl resOK_nil) rfl (fun mm aa ww hr => ?_)
                    have hm := Option.some.inj hm
                    subst hm
                    exact ⟨rfl, hr.below⟩
                  · have hm := brk_f hz49 hm
                    refine aw_skip ?_
                    refine fin_block ?_
                    refine fin_then ?_
                    obtain ⟨hp50, hm⟩ := chk_some hm
                    refine aw_text (rows := [_, _, _]) rfl (by kernel_rfl) ⟨
                      ok_plain rfl rfl (op_move (ltN rfl) rfl),
                      ok_plain rfl rfl (op_bin (ltN rfl) rfl rfl (nw_add hp50)),
                      ok_plain rfl rfl (op_assign (ltN rfl) rfl),
                      trivial⟩ ?_
                    refine fin_keep (s' := [kt 1 (.p 1 0), kt 5 (.i (x6 + 1)), kb 1 64 11, kc 1 0 (.i a0.Class), kc 1 1 (.i a0.Power), kc 1 2 (.i a0.Draught), kc 1 3 (.i a0.Tonnes), kc 1 4 (.v (.slice a0_Thrust_p a0.Thrust.length a0_Thrust_c)), kc 1 5 (.v (.slice a0_Water_p a0.Water.length a0_Water_c)), kc 1 6 (.v (.slice a0_Ice_p a0.Ice.length a0_Ice_c)), kc 1 7 (.i a0.Slow), kc 1 8 (.i a0.Brash), kc 1 9 (.i a0.Ridge), kc 1 10 (.i a0.Press)]) ?_ (kp rfl) rfl
                    exact fin_cut (x6 + 1) hm ⟨rfl, rfl, rfl, rfl, rfl, rfl, rfl, rfl, rfl, rfl, rfl, rfl, rfl, rfl, trivial⟩ rfl
                · have hm := brk_f hz45 hm
                  refine aw_exit ?_
                  refine fin_then_exit ?_
                  refine fin_then_exit ?_
                  refine fin_block_exit ?_
                  exact fin_cut () hm ⟨rfl, rfl, rfl, rfl, rfl, rfl, rfl, rfl, rfl, rfl, rfl, rfl, rfl, trivial⟩ rfl
              · have _z := hm
                refine aw_seq ?_
                refine aw_seq ?_
                obtain ⟨hp51, hm⟩ := chk_some hm
                obtain ⟨hp52, hm⟩ := chk_some hm
                obtain ⟨v12, hv12, hm⟩ := bnd_some hm
                obtain ⟨hp59, hm⟩ := chk_some hm
                obtain ⟨hp61, hm⟩ := chk_some hm
                obtain ⟨hp68, hm⟩ := chk_some hm
                obtain ⟨hp78, hm⟩ := chk_some hm
                obtain ⟨hp80, hm⟩ := chk_some hm
                refine aw_text (rows := [_, _, _, _, _, _, _, _, _, _, _, _, _, _, _, _, _, _, _, _, _, _, _, _, _, _, _, _, _, _, _, _, _, _, _, _, _, _, _, _, _, _, _]) rfl (by kernel_rfl) ⟨
                  ok_plain rfl rfl (op_fieldAddr (ltN rfl) rfl fo_64_4),
                  ok_plain rfl rfl (op_load1 (ltN rfl) sh_62 rfl rfl),
                  ok_plain rfl rfl (op_fieldAddr (ltN rfl) rfl fo_64_4),
                  ok_plain rfl rfl (op_load1 (ltN rfl) sh_62 rfl rfl),
                  ok_plain rfl rfl (op_len (n := a0.Thrust.length) (ltN rfl) (by rw [ss_62]; rfl) rfl rfl),
                  ok_plain rfl rfl (op_bin (ltN rfl) rfl rfl (nw_sub hp51)),
                  ok_plain rfl rfl (op_ixB (ltN rfl) rfl rfl ss_62 (ha0_Thrust_p (ne_of_ix (i := (((a0.Thrust.length : Nat) : Int)) - 1) hp52.1 hp52.2)) hp52.1 hp52.2),
                  ok_plain rfl rfl (op_fieldAddrB (ltN rfl) rfl fo_170_0),
                  ok_plain rfl rfl (op_loadB (y := .i (((pt a0.Thrust ((((a0.Thrust.length : Nat) : Int)) - 1))).X)) (ltN rfl) rfl (ld1 (ha0_Thrust_L (ne_of_ix (i := (((a0.Thrust.length : Nat) : Int)) - 1) hp52.1 hp52.2)) ⟨0, 0⟩ (i := (((a0.Thrust.length : Nat) : Int)) - 1) hp52.1 hp52.2 0 rfl rfl sh_3)),
                  ok_plain rfl rfl (op_call (x := .B v12) (fs := []) (caps := []) (extra := []) (ltN rfl) en_92 rfl ⟨rfl, rfl, rfl⟩ (EvL.cons rfl (EvL.cons rfl (EvL.cons rfl EvL.nil))) (fun mm aa ww gg hr hrel => (c92 F (((pt a0.Thrust ((((a0.Thrust.length : Nat) : Int)) - 1))).X) 10 250 ww v12 hv12))),
                  ok_plain rfl rfl (op_not (ltN rfl) rfl),
                  ok_plain rfl rfl (op_move (ltN rfl) rfl),
                  ok_if (ltN rfl) rfl rfl rfl rfl rfl rfl (fun hg53 => op_fieldAddr (ltN rfl) (force_x rfl) fo_64_5),
                  ok_if (ltN rfl) rfl rfl rfl rfl rfl rfl (fun hg54 => op_load1 (ltN rfl) sh_62 (force_eq (beq_iff_eq.2 hg54) rfl) rfl),
                  ok_if (ltN rfl) rfl rfl rfl rfl rfl rfl (fun hg55 => op_fieldAddr (ltN rfl) (force_x rfl) fo_64_5),
                  ok_if (ltN rfl) rfl rfl rfl rfl rfl rfl (fun hg56 => op_load1 (ltN rfl) sh_62 (force_eq (beq_iff_eq.2 hg56) rfl) rfl),
                  ok_if (ltN rfl) rfl rfl rfl rfl rfl rfl (fun hg57 => op_len (n := a0.Water.length) (ltN rfl) (by rw [ss_62]; rfl) (force_eq (beq_iff_eq.2 hg57) rfl) rfl),
                  ok_if (ltN rfl) rfl rfl rfl rfl rfl rfl (fun hg58 => op_bin (ltN rfl) (force_eq (beq_iff_eq.2 hg58) rfl) rfl (nw_sub (hp59 hg58))),
                  ok_if (ltN rfl) rfl rfl rfl rfl rfl rfl (fun hg60 => op_ixB (ltN rfl) (force_eq (beq_iff_eq.2 hg60) rfl) (force_eq (beq_iff_eq.2 hg60) rfl) ss_62 (ha0_Water_p (ne_of_ix (i := (((a0.Water.length : Nat) : Int)) - 1) (hp61 hg60).1 (hp61 hg60).2)) (hp61 hg60).1 (hp61 hg60).2),
                  ok_if (ltN rfl) rfl rfl rfl rfl rfl rfl (fun hg62 => op_fieldAddrB (ltN rfl) (force_eq (beq_iff_eq.2 hg62) rfl) fo_170_0),
                  ok_if (ltN rfl) rfl rfl rfl rfl rfl rfl (fun hg63 => op_loadB (y := .i (((pt a0.Water ((((a0.Water.length : Nat) : Int)) - 1))).X)) (ltN rfl) (force_eq (beq_iff_eq.2 hg63) rfl) (ld1 (ha0_Water_L (ne_of_ix (i := (((a0.Water.length : Nat) : Int)) - 1) (hp61 hg63).1 (hp61 hg63).2)) ⟨0, 0⟩ (i := (((a0.Water.length : Nat) : Int)) - 1) (hp61 hg63).1 (hp61 hg63).2 0 rfl rfl sh_3)),
                  ok_if (ltN rfl) rfl rfl rfl rfl rfl rfl (fun hg64 => op_bin (ltN rfl) (force_eq (beq_iff_eq.2 hg64) rfl) rfl rfl),
                  ok_plain rfl rfl (op_or (ltN rfl) rfl rfl),
                  ok_plain rfl rfl (op_move (ltN rfl) rfl),
                  ok_if (ltN rfl) rfl rfl rfl rfl rfl rfl (fun hg65 => op_fieldAddr (ltN rfl) (force_x rfl) fo_64_6),
                  ok_if (ltN rfl) rfl rfl rfl rfl rfl rfl (fun hg66 => op_load1 (ltN rfl) sh_62 (force_eq (beq_iff_eq.2 hg66) rfl) rfl),
                  ok_if (ltN rfl) rfl rfl rfl rfl rfl rfl (fun hg67 => op_ixB (ltN rfl) (force_eq (beq_iff_eq.2 hg67) rfl) rfl ss_62 (ha0_Ice_p (ne_of_ix (i := 0) (hp68 hg67).1 (hp68 hg67).2)) (hp68 hg67).1 (hp68 hg67).2),
                  ok_if (ltN rfl) rfl rfl rfl rfl rfl rfl (fun hg69 => op_fieldAddrB (ltN rfl) (force_eq (beq_iff_eq.2 hg69) rfl) fo_170_1),
                  ok_if (ltN rfl) rfl rfl rfl rfl rfl rfl (fun hg70 => op_loadB (y := .i (((pt a0.Ice 0)).Y)) (ltN rfl) (force_eq (beq_iff_eq.2 hg70) rfl) (ld1 (ha0_Ice_L (ne_of_ix (i := 0) (hp68 hg70).1 (hp68 hg70).2)) ⟨0, 0⟩ (i := 0) (hp68 hg70).1 (hp68 hg70).2 1 rfl rfl sh_3)),
                  ok_if (ltN rfl) rfl rfl rfl rfl rfl rfl (fun hg71 => op_bin (ltN rfl) (force_eq (beq_iff_eq.2 hg71) rfl) rfl rfl),
                  ok_plain rfl rfl (op_or (ltN rfl) rfl rfl),
                  ok_plain rfl rfl (op_move (ltN rfl) rfl),
                  ok_if (ltN rfl) rfl rfl rfl rfl rfl rfl (fun hg72 => op_fieldAddr (ltN rfl) (force_x rfl) fo_64_6),
                  ok_if (ltN rfl) rfl rfl rfl rfl rfl rfl (fun hg73 => op_load1 (ltN rfl) sh_62 (force_eq (beq_iff_eq.2 hg73) rfl) rfl),
                  ok_if (ltN rfl) rfl rfl rfl rfl rfl rfl (fun hg74 => op_fieldAddr (ltN rfl) (force_x rfl) fo_64_6),
                  ok_if (ltN rfl) rfl rfl rfl rfl rfl rfl (fun hg75 => op_load1 (ltN rfl) sh_62 (force_eq (beq_iff_eq.2 hg75) rfl) rfl),
                  ok_if (ltN rfl) rfl rfl rfl rfl rfl rfl (fun hg76 => op_len (n := a0.Ice.length) (ltN rfl) (by rw [ss_62]; rfl) (force_eq (beq_iff_eq.2 hg76) rfl) rfl),
                  ok_if (ltN rfl) rfl rfl rfl rfl rfl rfl (fun hg77 => op_bin (ltN rfl) (force_eq (beq_iff_eq.2 hg77) rfl) rfl (nw_sub (hp78 hg77))),
                  ok_if (ltN rfl) rfl rfl rfl rfl rfl rfl (fun hg79 => op_ixB (ltN rfl) (force_eq (beq_iff_eq.2 hg79) rfl) (force_eq (beq_iff_eq.2 hg79) rfl) ss_62 (ha0_Ice_p (ne_of_ix (i := (((a0.Ice.length : Nat) : Int)) - 1) (hp80 hg79).1 (hp80 hg79).2)) (hp80 hg79).1 (hp80 hg79).2),
                  ok_if (ltN rfl) rfl rfl rfl rfl rfl rfl (fun hg81 => op_fieldAddrB (ltN rfl) (force_eq (beq_iff_eq.2 hg81) rfl) fo_170_0),
                  ok_if (ltN rfl) rfl rfl rfl rfl rfl rfl (fun hg82 => op_loadB (y := .i (((pt a0.Ice ((((a0.Ice.length : Nat) : Int)) - 1))).X)) (ltN rfl) (force_eq (beq_iff_eq.2 hg82) rfl) (ld1 (ha0_Ice_L (ne_of_ix (i := (((a0.Ice.length : Nat) : Int)) - 1) (hp80 hg82).1 (hp80 hg82).2)) ⟨0, 0⟩ (i := (((a0.Ice.length : Nat) : Int)) - 1) (hp80 hg82).1 (hp80 hg82).2 0 rfl rfl sh_3)),
                  ok_if (ltN rfl) rfl rfl rfl rfl rfl rfl (fun hg83 => op_bin (ltN rfl) (force_eq (beq_iff_eq.2 hg83) rfl) rfl rfl),
                  ok_plain rfl rfl (op_or (ltN rfl) rfl rfl),
                  trivial⟩ ?_
                refine fin_keep (s' := [kt 169 (.B ((((!v12) || (decide ((((pt a0.Water ((((a0.Water.length : Nat) : Int)) - 1))).X) > 250))) || ((((pt a0.Ice 0)).Y) != 0)) || ((((pt a0.Ice ((((a0.Ice.length : Nat) : Int)) - 1))).X) != 400)))]) ?_ (kp rfl) rfl
                refine fin_then ?_
                refine aw_cond rfl (fun hz84 => ?_) (fun hz84 => ?_)
                · have hm := brk_t hz84 hm
                  refine aw_seq ?_
                  refine aw_text (rows := [_]) rfl (by kernel_rfl) ⟨
                    ok_plain rfl rfl (op_assign (ltN rfl) rfl),
                    trivial⟩ ?_
                  refine fin_keep (s' := [kt 2 (.i 40)]) ?_ (kp rfl) rfl
                  refine fin_then ?_
                  refine aw_ret ?_
                  refine fin_then_ret ?_
                  refine post_ret (x := .i 40) rfl rfl (resOK_tmp rfl resOK_nil) rfl (fun mm aa ww hr => ?_)
                  have hm := Option.some.inj hm
                  subst hm
                  exact ⟨rfl, hr.below⟩
                · have hm := brk_f hz84 hm
                  refine aw_skip ?_
                  refine fin_then ?_
                  refine aw_seq ?_
                  refine aw_text (rows := [_]) rfl (by kernel_rfl) ⟨
                    ok_plain rfl rfl (op_assign (ltN rfl) rfl),
                    trivial⟩ ?_
                  refine fin_keep (s' := [kt 2 (.i 0)]) ?_ (kp rfl) rfl
                  refine fin_then ?_
                  refine aw_ret ?_
                  refine post_ret (x := .i 0) rfl rfl (resOK_tmp rfl resOK_nil) rfl (fun mm aa ww hr => ?_)
                  have hm := Option.some.inj hm
                  subst hm
                  exact ⟨rfl, hr.below⟩

def m115 (F : Nat) (a0 : Ship) (a1 : Int) : Option (Int) :=
  bnd (m111 F a0.Thrust a1) (fun v1 => chk ((0 ≤ v1.1 ∧ v1.1 ≤ 9223372036854775807) ∧ 0 < v1.2) (some (v1.1 / v1.2)))

theorem c115 (F : Nat) (a0 : Ship) (a0_Thrust_s : SlV) (a0_Water_s : SlV) (a0_Ice_s : SlV) (a1 : Int) (w : World) (ha0_Thrust : SlIs encPt 2 w a0_Thrust_s a0.Thrust) (ha0_Water : SlIs encPt 2 w a0_Water_s a0.Water) (ha0_Ice : SlIs encPt 2 w a0_Ice_s a0.Ice) (r : Int) (hm : m115 F a0 a1 = some r) : Calls Tryd.prog 115 #[.agg #[.int .i64 a0.Class, .int .i64 a0.Power, .int .i64 a0.Draught, .int .i64 a0.Tonnes, .slice a0_Thrust_s.p a0_Thrust_s.n a0_Thrust_s.c, .slice a0_Water_s.p a0_Water_s.n a0_Water_s.c, .slice a0_Ice_s.p a0_Ice_s.n a0_Ice_s.c, .int .i64 a0.Slow, .int .i64 a0.Brash, .int .i64 a0.Ridge, .int .i64 a0.Press], .int .i64 a1] w fun e w' => e = .returned (.int .i64 r) ∧ Below w.heap.size w w' := by
  obtain ⟨a0_Thrust_p, a0_Thrust_n, a0_Thrust_c⟩ := a0_Thrust_s
  have ha0_Thrust_l : a0_Thrust_n = a0.Thrust.length := ha0_Thrust.1
  subst ha0_Thrust_l
  obtain ⟨a0_Thrust_b, a0_Thrust_o, ha0_Thrust_p, ha0_Thrust_L⟩ := SlAt.lies' ha0_Thrust
  obtain ⟨a0_Water_p, a0_Water_n, a0_Water_c⟩ := a0_Water_s
  have ha0_Water_l : a0_Water_n = a0.Water.length := ha0_Water.1
  subst ha0_Water_l
  obtain ⟨a0_Water_b, a0_Water_o, ha0_Water_p, ha0_Water_L⟩ := SlAt.lies' ha0_Water
  obtain ⟨a0_Ice_p, a0_Ice_n, a0_Ice_c⟩ := a0_Ice_s
  have ha0_Ice_l : a0_Ice_n = a0.Ice.length := ha0_Ice.1
  subst ha0_Ice_l
  obtain ⟨a0_Ice_b, a0_Ice_o, ha0_Ice_p, ha0_Ice_L⟩ := SlAt.lies' ha0_Ice
  unfold m115 at hm
  refine enter (args := [.g [.i a0.Class, .i a0.Power, .i a0.Draught, .i a0.Tonnes, .v (.slice a0_Thrust_p a0.Thrust.length a0_Thrust_c), .v (.slice a0_Water_p a0.Water.length a0_Water_c), .v (.slice a0_Ice_p a0.Ice.length a0_Ice_c), .i a0.Slow, .i a0.Brash, .i a0.Ridge, .i a0.Press], .i a1]) Tryd.func115 rfl (N := 17) rfl (Nat.le_of_ble_eq_true rfl) ?_
  refine aw_seq ?_
  refine aw_text (rows := [_, _]) rfl (by kernel_rfl) ⟨
    ok_plain rfl rfl (op_boxN (L := 1) (ltN rfl) rfl rfl rfl),
    ok_plain rfl rfl (op_assign (ltN rfl) rfl),
    trivial⟩ ?_
  refine fin_keep (s' := [kt 1 (.i a1), kt 2 (.p 1 0), kb 1 64 11, kc 1 0 (.i a0.Class), kc 1 1 (.i a0.Power), kc 1 2 (.i a0.Draught), kc 1 3 (.i a0.Tonnes), kc 1 4 (.v (.slice a0_Thrust_p a0.Thrust.length a0_Thrust_c)), kc 1 5 (.v (.slice a0_Water_p a0.Water.length a0_Water_c)), kc 1 6 (.v (.slice a0_Ice_p a0.Ice.length a0_Ice_c)), kc 1 7 (.i a0.Slow), kc 1 8 (.i a0.Brash), kc 1 9 (.i a0.Ridge), kc 1 10 (.i a0.Press)]) ?_ (kp rfl) rfl
  refine fin_then ?_
  refine aw_seq ?_
  obtain ⟨v1, hv1, hm⟩ := bnd_some hm
  refine aw_text (rows := [_, _, _, _, _, _, _, _, _]) rfl (by kernel_rfl) ⟨
    ok_plain rfl rfl (op_fieldAddr (ltN rfl) rfl fo_64_4),
    ok_plain rfl rfl (op_load1 (ltN rfl) sh_62 rfl rfl),
    ok_plain rfl rfl (op_move (ltN rfl) rfl),
    ok_plain rfl rfl (op_call (x := .t [.i v1.1, .i v1.2]) (fs := []) (caps := []) (extra := []) (ltN rfl) en_111 rfl ⟨rfl, rfl, rfl⟩ (EvL.cons rfl (EvL.cons rfl EvL.nil)) (fun mm aa ww gg hr hrel => (c111 F a0.Thrust ⟨a0_Thrust_p, a0.Thrust.length, a0_Thrust_c⟩ a1 ww (SlIs.mono ha0_Thrust hrel.below) v1 hv1))),
    ok_plain rfl rfl (op_move (ltN rfl) rfl),
    ok_plain rfl rfl (op_extract (ltN rfl) rfl rfl),
    ok_plain rfl rfl (op_extract (ltN rfl) rfl rfl),
    ok_plain rfl rfl (op_assign (ltN rfl) rfl),
    ok_plain rfl rfl (op_assign (ltN rfl) rfl),
    trivial⟩ ?_
  refine fin_keep (s' := [kt 5 (.i v1.1), kt 6 (.i v1.2)]) ?_ (kp rfl) rfl
  refine fin_then ?_
  refine aw_seq ?_
  obtain ⟨hp1, hm⟩ := chk_some hm
  refine aw_text (rows := [_, _, _, _]) rfl (by kernel_rfl) ⟨
    ok_plain rfl rfl (op_move (ltN rfl) rfl),
    ok_plain rfl rfl (op_move (ltN rfl) rfl),
    ok_plain rfl rfl (op_quo (ltN rfl) rfl rfl (Int.ne_of_gt hp1.2) (quo_nn hp1.1.1 hp1.2 hp1.1.2)),
    ok_plain rfl rfl (op_assign (ltN rfl) rfl),
    trivial⟩ ?_
  refine fin_keep (s' := [kt 4 (.i (v1.1 / v1.2))]) ?_ (kp rfl) rfl
  refine fin_then ?_
  refine aw_ret ?_
  refine post_ret (x := .i (v1.1 / v1.2)) rfl rfl (resOK_tmp rfl resOK_nil) rfl (fun mm aa ww hr => ?_)
  have hm := Option.some.inj hm
  subst hm
  exact ⟨rfl, hr.below⟩

def m50 (F : Nat) (a0 : Ship) (a1 : Int) : Option (Int × Int) :=
  bnd (m47 F a0) (fun v1 => brk (v1 != 0) (some (0, v1)) (bnd (m92 F a1 0 250) (fun v2 => brk (!v2) (some (0, 6)) (bnd (m115 F a0 a1) (fun v3 => some (v3, 0))))))

end Go.Proofs.T
