/- The plain law of HullMonotone, second part. -/
import Derived.Test.YtgpcfckbcldokaaDoorPA
namespace Go.Proofs.T
open Go.AX Hull

theorem loaded_zero {i : Ice} (hi : goodIce i) {v : Int} (hv : 0 ≤ v ∧ v ≤ 250) : loaded i v = 0 := by
  unfold loaded
  rw [if_neg (by simp [checkIce_ok.2 hi]), if_neg]
  simp [within]; omega

theorem asked_zero {s : Ship} (hc : check s = 0) {i : Ice} (hi : goodIce i) {v : Int} (hv : 0 ≤ v ∧ v ≤ 250) : asked s i v = 0 := by
  unfold asked
  rw [if_neg (by simp [hc])]; exact loaded_zero hi hv

theorem speedE_eq {s : Ship} (hc : check s = 0) {i : Ice} (hi : goodIce i) (ch : Bool) : speedE s i ch = (speed s i ch, 0) := by
  rw [speedE, if_neg (by simp [asked_zero hc hi (v := 0) (by omega)])]
theorem resistanceE_eq {s : Ship} (hc : check s = 0) {i : Ice} (hi : goodIce i) {v : Int} (hv : 0 ≤ v ∧ v ≤ 250) (ch : Bool) : resistanceE s i v ch = (resistance s i ch v, 0) := by
  rw [resistanceE, if_neg (by simp [asked_zero hc hi hv])]
theorem loadE_eq {i : Ice} (hi : goodIce i) {v : Int} (hv : 0 ≤ v ∧ v ≤ 250) (ch : Bool) : loadE i v ch = (loadI i v ch, 0) := by
  rw [loadE, if_neg (by simp [loaded_zero hi hv])]

theorem m16_eq (F : Nat) (c : Cell) : m16 F c = some (firstI c, lastI c) := rfl

theorem m3_ok {F : Nat} (hF : 100 ≤ F) {l m : List Int} (hl : Bytes l) (hm : Bytes m) {v w : Int} (hv : 0 ≤ v ∧ v ≤ 255) (hw : 0 ≤ w ∧ w ≤ 255) (ch : Bool) : Ok (fun r => r = true) (m3 F l m v w ch) := by
  unfold m3
  refine ok_bnd _ (m15_ok hF hl) fun s hc => ?_
  refine ok_bnd _ (m17_ok hm) fun c hg => ?_
  refine ok_bnde (m16_eq F c) ?_
  have hi := goodCell_first hg
  have hj := goodCell_last hg
  have hij := first_le_last hg
  simp only []
  generalize firstI c = i at hi hij ⊢
  generalize lastI c = j at hj hij ⊢
  have e1 : (if w < v then w else v) ≤ 255 ∧ 0 ≤ (if w < v then w else v) := by split <;> omega
  have e2 : (if w > v then w else v) ≤ 255 ∧ 0 ≤ (if w > v then w else v) := by split <;> omega
  generalize (if w < v then w else v) = a at e1 ⊢
  generalize (if w > v then w else v) = b at e2 ⊢
  repeat' (with_reducible refine ok_chk (by omega) ?_)
  refine ok_join (fun (q : Int × Int) => 0 ≤ q.1 ∧ q.1 ≤ q.2 ∧ q.2 ≤ 250) (fun q hq => ?_) fun k hk => ?_
  · obtain ⟨slow, fast⟩ := q
    obtain ⟨h0, h1, h2⟩ := hq
    simp only [] at h0 h1 h2 ⊢
    have hs : 0 ≤ slow ∧ slow ≤ 250 := by omega
    have hf : 0 ≤ fast ∧ fast ≤ 250 := by omega
    rw [speedE_eq hc hi, speedE_eq hc hj, resistanceE_eq hc hi hs, resistanceE_eq hc hj hs, resistanceE_eq hc hj hf, loadE_eq hi hs, loadE_eq hj hs, loadE_eq hj hf]
    have m1 := speed_mono hc hi hj hij ch
    have m2 := resistance_mono hc hi hj hij (u := slow) (v := slow) (by omega) (Int.le_refl _) ch
    have m3 := resistance_mono hc hj hj .rfl (u := slow) (v := fast) (by omega) h1 ch
    have m4 := load_mono hi hj hij (u := slow) (v := slow) (by omega) (Int.le_refl _) ch
    have m5 := load_mono hj hj .rfl (u := slow) (v := fast) (by omega) h1 ch
    refine ok_brk (fun h => ?_) (fun _ => ?_)
    · exfalso; simp at h; omega
    refine ok_brk (fun h => ?_) (fun _ => ?_)
    · exfalso; simp at h; omega
    refine ok_brk (fun h => ?_) (fun _ => ?_)
    · exfalso; simp at h; omega
    refine ok_join (fun _ => True) (fun _ _ => ok_some rfl) fun k2 hk2 => ?_
    refine ok_loop (fun (q : List Ice × Int) => q.1 = [i, j] ∧ 0 ≤ q.2 ∧ q.2 ≤ 2) (fun q => (2 - q.2).toNat) ⟨rfl, by simp, by simp⟩ (by show (2 - (0 : Int)).toNat < F; omega) fun q next hI hn => ?_
    obtain ⟨q1, q2⟩ := q
    obtain ⟨rfl, h3, h4⟩ := hI
    simp only [] at h3 h4 ⊢
    refine ok_brk (fun h => ?_) (fun _ => hk2 _ trivial)
    have h5 := of_decide_eq_true h
    refine ok_chk (by simp; omega) ?_
    have hx : goodIce (([i, j] : List Ice).getD q2.toNat default) := by
      have : q2 = 0 ∨ q2 = 1 := by omega
      rcases this with rfl | rfl
      · exact hi
      · exact hj
    generalize ([i, j] : List Ice).getD q2.toNat default = x at hx ⊢
    rw [speedE_eq hc hx, speedE_eq hc hx, loadE_eq hx hf, loadE_eq hx hf, resistanceE_eq hc hx hf, resistanceE_eq hc hx hf]
    have m6 := speed_channel hc hx
    have m7 := load_channel hx (v := fast) hf.1
    have m8 := resistance_channel hc hx (v := fast) hf.1
    refine ok_brk (fun h => ?_) (fun _ => ?_)
    · exfalso; simp at h; omega
    refine ok_chk (by omega) ?_
    exact hn _ ⟨rfl, by simp only []; omega, by simp only []; omega⟩ (by simp only []; omega)
  · refine ok_brk (fun h => ?_) (fun h => ?_)
    · have h := of_decide_eq_true h
      refine hk _ ⟨?_, ?_, ?_⟩ <;> simp only [] <;> omega
    · have h := of_decide_eq_false h
      refine hk _ ⟨?_, ?_, ?_⟩ <;> simp only [] <;> omega
end Go.Proofs.T
