/- Plain facts on valid ships and cells that the laws make. -/
import Derived.Test.YtgpcfckbcldokaaDoorPA
namespace Go.Proofs.T
open Go.AX Hull
theorem loaded_zero {i : Ice} (hi : goodIce i) {v : Int} (hv : 0 ≤ v ∧ v ≤ 250) : loaded i v = 0 := by
  unfold loaded
  rw [if_neg (by simp [checkIce_ok.2 hi]), if_neg]
  simp [within]; omega

theorem asked_zero {s : Ship} (hc : check s = 0) {i : Ice} (hi : goodIce i) {v : Int} (hv : 0 ≤ v ∧ v ≤ 250) : asked s i v = 0 := by
  unfold asked
  rw [if_neg (by simp [hc])]; exact loaded_zero hi hv

theorem speedE_eq {s : Ship} (hc : check s = 0) {i : Ice} (hi : goodIce i) (ch : Bool) : speedE s i ch = (speed s i ch, 0) := by
  rw [speedE, if_neg (by simp [asked_zero hc hi (v := 0) (by omega)])]
theorem resistanceE_eq {s : Ship} (hc : check s = 0) {i : Ice} (hi : goodIce i) {v : Int} (hv : 0 ≤ v ∧ v ≤ 250) (ch : Bool) : resistanceE s i v ch = (resistance s i ch v, 0) := by
  rw [resistanceE, if_neg (by simp [asked_zero hc hi hv])]
theorem loadE_eq {i : Ice} (hi : goodIce i) {v : Int} (hv : 0 ≤ v ∧ v ≤ 250) (ch : Bool) : loadE i v ch = (loadI i v ch, 0) := by
  rw [loadE, if_neg (by simp [loaded_zero hi hv])]

theorem m16_eq (F : Nat) (c : Cell) : m16 F c = some (firstI c, lastI c) := rfl

end Go.Proofs.T
