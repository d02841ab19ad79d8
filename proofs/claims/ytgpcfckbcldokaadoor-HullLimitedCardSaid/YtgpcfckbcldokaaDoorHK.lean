import Derived.Test.YtgpcfckbcldokaaDoorHJ
namespace Go.Proofs.T
open Go Go.AX Go.RowKit Hull
theorem sh_22 : shapeOf Tryd.prog 22 = some none := by kernel_rfl
theorem ss_22 : sliceSz Tryd.prog 22 = some 1 := by kernel_rfl
theorem sh_5 : shapeOf Tryd.prog 5 = some none := by kernel_rfl
theorem us_5 : (Tryd.prog.underlying 5).isSome = true := by kernel_rfl
theorem un_3 : Tryd.prog.underlying 3 = some (.int .i64) := by kernel_rfl

def encU8 (x : Int) : List Value := [(.int .u8 x)]

theorem c83 (n : Int) (i : Int) (k_b : Nat) (l : List Int) (lL_s : SlV) (l_b : Nat) (w : World) (hk_box : w.heap[k_b]? = some (.cells ([.int .i64 i] : List Value).toArray 3 (0, 0))) (hlL : SlIs encU8 1 w lL_s l) (hl_box : BoxAt w l_b [.slice lL_s.p lL_s.n lL_s.c]) (hns_lL : l ≠ [] → ∀ ad, lL_s.p = some ad → ad.block ≠ k_b) (hnb_l : l_b ≠ k_b) (hn : 1 ≤ n ∧ n ≤ 1000000) (hi : 0 ≤ i ∧ i ≤ (l.length : Int)) (h8 : ∀ x ∈ l, 0 ≤ x ∧ x ≤ 255) (hlen : l.length ≤ 9223372036854775807) : Calls Tryd.prog 83 #[.int .i64 n, .pointer (some ⟨k_b, 0, none⟩), .pointer (some ⟨l_b, 0, none⟩)] w fun e w' => e = .returned (.int .i64 ((draw l i n).1)) ∧ Lent w w' k_b 3 [.int .i64 ((draw l i n).2)] := by
  obtain ⟨lL_p, lL_n, lL_c⟩ := lL_s
  have hlL_l : lL_n = l.length := hlL.1
  subst hlL_l
  obtain ⟨lL_b, lL_o, hlL_p, hlL_L⟩ := SlAt.lies' hlL
  refine enterL (args := [.v (.int .i64 n), .v (.pointer (some ⟨k_b, 0, none⟩)), .v (.pointer (some ⟨l_b, 0, none⟩))]) Tryd.func83 rfl (N := 19) rfl (Nat.le_of_ble_eq_true rfl) [(1, 900, k_b, 3, [(.int .i64 i)])] ⟨hk_box, rfl, (by simp [loans]), trivial⟩ rfl ?_
  refine aw_seq ?_
  refine aw_text (rows := [_]) rfl (by kernel_rfl) ⟨
    ok_plain rfl rfl (op_assign (ltN rfl) rfl),
    trivial⟩ ?_
  refine fin_keep (s' := [(.t 0, some (.x (.v (.int .i64 n)))), (.t 1, some (.x (.p 900 0))), (.t 2, some (.x (.v (.pointer (some ⟨l_b, 0, none⟩))))), (.b 900, some (.sh 3 1)), (.c 900 0, some (.x (.v (.int .i64 i))))]) ?_ ⟨rfl, rfl, rfl, rfl, rfl, trivial⟩ rfl
  refine fin_then ?_
  refine aw_seq ?_
  refine aw_seq ?_
  refine aw_text (rows := [_, _, _, _]) rfl (by kernel_rfl) ⟨
    ok_plain rfl rfl (op_load1 (ltN rfl) sh_3 rfl rfl),
    ok_plain rfl rfl (op_loadB (y := .v (.slice lL_p l.length lL_c)) (ltN rfl) rfl (ldCell hl_box.1 (hl_box.2 0 _ rfl) rfl sh_22 (nb := (lent_one hnb_l)))),
    ok_plain rfl rfl (op_len (n := l.length) (ltN rfl) (by rw [ss_22]; rfl) rfl rfl),
    ok_plain rfl rfl (op_bin (ltN rfl) rfl rfl rfl),
    trivial⟩ ?_
  refine fin_keep (s' := [(.t 0, some (.x (.v (.int .i64 n)))), (.t 1, some (.x (.p 900 0))), (.t 2, some (.x (.v (.pointer (some ⟨l_b, 0, none⟩))))), (.t 8, some (.x (.v (.bool (decide (i ≥ (((l.length : Nat) : Int)))))))), (.b 900, some (.sh 3 1)), (.c 900 0, some (.x (.v (.int .i64 i))))]) ?_ ⟨rfl, rfl, rfl, rfl, rfl, rfl, trivial⟩ rfl
  refine fin_then ?_
  refine aw_cond rfl (fun hz1 => ?_) (fun hz1 => ?_)
  · have _z := hz1
    have q2 := of_decide_eq_true hz1
    refine aw_seq ?_
    refine aw_text (rows := [_]) rfl (by kernel_rfl) ⟨
      ok_plain rfl rfl (op_assign (ltN rfl) rfl),
      trivial⟩ ?_
    refine fin_keep (s' := [(.t 4, some (.x (.v (.int .i64 0)))), (.b 900, some (.sh 3 1)), (.c 900 0, some (.x (.v (.int .i64 i))))]) ?_ ⟨rfl, rfl, rfl, trivial⟩ rfl
    refine fin_then ?_
    refine aw_ret ?_
    refine fin_then_ret ?_
    refine post_ret (x := .v (.int .i64 0)) rfl rfl (resOK_tmp rfl resOK_nil) rfl (fun mm aa ww hr => ?_)
    show Ending.returned (.int .i64 0) = _ ∧ _
    rw [draw_end (of_decide_eq_true hz1)]
    exact ⟨rfl, lent_end hr rfl rfl ⟨rfl, trivial⟩⟩
  · have _z := hz1
    have q3 := of_decide_eq_false hz1
    refine aw_skip ?_
    refine fin_then ?_
    refine aw_seq ?_
    refine aw_text (rows := [_, _, _]) rfl (by kernel_rfl) ⟨
      ok_plain rfl rfl (op_load1 (ltN rfl) sh_3 rfl rfl),
      ok_plain rfl rfl (op_bin (ltN rfl) rfl rfl (nw_add ⟨(by omega), (by omega)⟩)),
      ok_plain rfl rfl (op_store1 sz_3 rfl rfl rfl rfl (ltN rfl)),
      trivial⟩ ?_
    refine fin_keep (s' := [(.t 0, some (.x (.v (.int .i64 n)))), (.t 1, some (.x (.p 900 0))), (.t 2, some (.x (.v (.pointer (some ⟨l_b, 0, none⟩))))), (.b 900, some (.sh 3 1)), (.c 900 0, some (.x (.v (.int .i64 (i + 1)))))]) ?_ ⟨rfl, rfl, rfl, rfl, rfl, trivial⟩ rfl
    refine fin_then ?_
    refine aw_seq ?_
    have h255 := h8 (l.getD (i + 1 - 1).toNat 0) (getD_mem (by omega))
    refine aw_text (rows := [_, _, _, _, _, _, _, _, _]) rfl (by kernel_rfl) ⟨
      ok_plain rfl rfl (op_loadB (y := .v (.slice lL_p l.length lL_c)) (ltN rfl) rfl (ldCell hl_box.1 (hl_box.2 0 _ rfl) rfl sh_22 (nb := (lent_one hnb_l)))),
      ok_plain rfl rfl (op_load1 (ltN rfl) sh_3 rfl rfl),
      ok_plain rfl rfl (op_bin (ltN rfl) rfl rfl (nw_sub ⟨(by omega), (by omega)⟩)),
      ok_plain rfl rfl (op_ixB (ltN rfl) rfl rfl ss_22 (hlL_p (ne_of_ix (i := (i + 1) - 1) (by omega) (by omega))) (by omega) (by omega)),
      ok_plain rfl rfl (op_loadB (y := .v (.int .u8 ((l.getD ((i + 1) - 1).toNat 0)))) (ltN rfl) rfl (ld1 (hlL_L (ne_of_ix (i := (i + 1) - 1) (by omega) (by omega))) 0 (i := (i + 1) - 1) (by omega) (by omega) 0 rfl rfl sh_5 (nb := (lent_one (hns_lL (ne_of_ix (i := (i + 1) - 1) (by omega) (by omega)) _ (hlL_p (ne_of_ix (i := (i + 1) - 1) (by omega) (by omega)))))))),
      ok_plain rfl rfl (op_convInt (ltN rfl) (Option.isSome_iff_exists.1 us_5) un_3 rfl (wrap_of ⟨(by omega), (by omega)⟩)),
      ok_plain rfl rfl (op_move (ltN rfl) rfl),
      ok_plain rfl rfl (op_rem (ltN rfl) rfl rfl (by omega) (rem_nn (by omega) (by omega) (by omega))),
      ok_plain rfl rfl (op_assign (ltN rfl) rfl),
      trivial⟩ ?_
    refine fin_keep (s' := [(.t 4, some (.x (.v (.int .i64 (((l.getD ((i + 1) - 1).toNat 0)) % n))))), (.b 900, some (.sh 3 1)), (.c 900 0, some (.x (.v (.int .i64 (i + 1)))))]) ?_ ⟨rfl, rfl, rfl, trivial⟩ rfl
    refine fin_then ?_
    refine aw_ret ?_
    refine post_ret (x := .v (.int .i64 (((l.getD ((i + 1) - 1).toNat 0)) % n))) rfl rfl (resOK_tmp rfl resOK_nil) rfl (fun mm aa ww hr => ?_)
    show Ending.returned (.int .i64 (((l.getD ((i + 1) - 1).toNat 0)) % n)) = _ ∧ _
    rw [draw_go (of_decide_eq_false hz1)]
    exact ⟨rfl, lent_end hr rfl rfl ⟨rfl, trivial⟩⟩

end Go.Proofs.T
