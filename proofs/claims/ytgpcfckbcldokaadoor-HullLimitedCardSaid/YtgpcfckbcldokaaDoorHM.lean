import Derived.Test.YtgpcfckbcldokaaDoorHL
namespace Go.Proofs.T
open Go Go.AX Go.RowKit Hull


theorem c83i (n : Int) (k : Nat) (k_b : Nat) (l : List Int) (lL_s : SlV) (l_b : Nat) (w : World) (hk_box : w.heap[k_b]? = some (.cells ([.int .i64 (idx l k)] : List Value).toArray 3 (0, 0))) (hlL : SlIs encU8 1 w lL_s l) (hl_box : BoxAt w l_b [.slice lL_s.p lL_s.n lL_s.c]) (hns_lL : l ≠ [] → ∀ ad, lL_s.p = some ad → ad.block ≠ k_b) (hnb_l : l_b ≠ k_b) (hn : 1 ≤ n ∧ n ≤ 1000000) (h8 : ∀ x ∈ l, 0 ≤ x ∧ x ≤ 255) (hlen : l.length ≤ 9223372036854775807) : Calls Tryd.prog 83 #[.int .i64 n, .pointer (some ⟨k_b, 0, none⟩), .pointer (some ⟨l_b, 0, none⟩)] w fun e w' => e = .returned (.int .i64 (dv l k n)) ∧ Lent w w' k_b 3 [.int .i64 (idx l (k + 1))] := by
  have h := c83 n (idx l k) k_b l lL_s l_b w hk_box hlL hl_box hns_lL hnb_l hn (idx_bd l k) h8 hlen
  rw [draw_idx] at h
  exact h

end Go.Proofs.T
