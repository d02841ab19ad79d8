import Derived.Test.YtgpcfckbcldokaaDoorHK
namespace Go.Proofs.T
open Go Go.AX Go.RowKit Hull
theorem zl_3 : zeroL Tryd.prog 3 = some [(.int .i64 0)] := by kernel_rfl

theorem c22 (l : List Int) (l_s : SlV) (w : World) (hl : SlIs encU8 1 w l_s l) : Calls Tryd.prog 22 #[.slice l_s.p l_s.n l_s.c] w fun e w' => ∃ b1 b2, e = .returned (.func (.func 83) #[] #[.pointer (some ⟨b1, 0, none⟩), .pointer (some ⟨b2, 0, none⟩)]) ∧ TwoNew w w' b1 b2 3 22 [.int .i64 0] [.slice l_s.p l_s.n l_s.c] := by
  obtain ⟨l_p, l_n, l_c⟩ := l_s
  have hl_l : l_n = l.length := hl.1
  subst hl_l
  obtain ⟨l_b, l_o, hl_p, hl_L⟩ := SlAt.lies' hl
  refine enter (args := [.v (.slice l_p l.length l_c)]) Tryd.func22 rfl (N := 5) rfl (Nat.le_of_ble_eq_true rfl) ?_
  refine aw_seq ?_
  refine aw_text (rows := [_, _]) rfl (by kernel_rfl) ⟨
    ok_plain rfl rfl (op_box1 (L := 1) (ltN rfl) rfl rfl rfl),
    ok_plain rfl rfl (op_assign (ltN rfl) rfl),
    trivial⟩ ?_
  refine fin_keep (s' := [(.t 1, some (.x (.p 1 0))), (.b 1, some (.sh 22 1)), (.c 1 0, some (.x (.v (.slice l_p l.length l_c))))]) ?_ ⟨rfl, rfl, rfl, trivial⟩ rfl
  refine fin_then ?_
  refine aw_seq ?_
  refine aw_text (rows := [_, _]) rfl (by kernel_rfl) ⟨
    ok_plain rfl rfl (op_alloc (L := 2) (ltN rfl) zl_3),
    ok_plain rfl rfl (op_store1 sz_3 rfl rfl rfl rfl (ltN rfl)),
    trivial⟩ ?_
  refine fin_keep (s' := [(.t 1, some (.x (.p 1 0))), (.t 3, some (.x (.p 2 0))), (.b 1, some (.sh 22 1)), (.b 2, some (.sh 3 1)), (.c 1 0, some (.x (.v (.slice l_p l.length l_c)))), (.c 2 0, some (.x (.v (.int .i64 0))))]) ?_ ⟨rfl, rfl, rfl, rfl, rfl, rfl, trivial⟩ rfl
  refine fin_then ?_
  refine aw_seq ?_
  refine aw_text (rows := [_, _]) rfl (by kernel_rfl) ⟨
    ok_plain rfl rfl (op_mkfn (ltN rfl) EvL.nil (EvL.cons rfl (EvL.cons rfl EvL.nil))),
    ok_plain rfl rfl (op_assign (ltN rfl) rfl),
    trivial⟩ ?_
  refine fin_keep (s' := [(.t 2, some (.x (.f (.func 83) [] [.p 2 0, .p 1 0]))), (.b 1, some (.sh 22 1)), (.b 2, some (.sh 3 1)), (.c 1 0, some (.x (.v (.slice l_p l.length l_c)))), (.c 2 0, some (.x (.v (.int .i64 0))))]) ?_ ⟨rfl, rfl, rfl, rfl, rfl, trivial⟩ rfl
  refine fin_then ?_
  refine aw_ret ?_
  refine post_ret (x := .f (.func 83) [] [.p 2 0, .p 1 0]) rfl rfl (resOK_tmp rfl resOK_nil) rfl (fun mm aa ww hr => ?_)
  exact ⟨mm 2, mm 1, rfl, hr.below, box_hi hr rfl, box_hi hr rfl, box_ne hr rfl rfl (by decide), cells_all hr rfl rfl ⟨rfl, trivial⟩, cells_all hr rfl rfl ⟨rfl, trivial⟩⟩

end Go.Proofs.T
