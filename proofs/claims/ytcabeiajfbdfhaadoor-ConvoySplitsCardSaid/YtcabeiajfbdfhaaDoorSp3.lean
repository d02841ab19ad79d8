/- Texts FnA, KLW, KLX, KLN, CvHA, CvHB: own work; each part says what it is. -/
import Derived.Test.YtcabeiajfbdfhaaDoorSp2
import Derived.KernelRfl
namespace Go.Proofs.Cv
open Go Go.KX Go.RowKit
set_option linter.unusedVariables false
set_option maxRecDepth 100000
theorem all0 {α : Type} {P : α → Prop} : ∀ c ∈ ([] : List α), P c := fun _ h => nomatch h
theorem allC {α : Type} {P : α → Prop} {a : α} {l : List α} (h : P a) (t : ∀ c ∈ l, P c) : ∀ c ∈ a :: l, P c := fun c hc => (List.mem_cons.1 hc).elim (fun e => e ▸ h) (t c)
theorem inl0 : InlOK E [] := fun _ _ h => nomatch h
theorem inlC {k : Nat} {fn : Func} {l : List (Nat × Func)} (h : E.P.funcs[k]? = some fn) (e : Proofs.Enters E.P k) (t : InlOK E l) : InlOK E ((k, fn) :: l) := by
  intro k2 fn2 hf
  simp only [findFn] at hf
  cases hb : Nat.beq k k2 with
  | true => rw [hb, cond_true] at hf; cases hf; rw [← Nat.eq_of_beq_eq_true hb]; exact ⟨h, e⟩
  | false => rw [hb, cond_false] at hf; exact t k2 fn2 hf
theorem mix : Tryd.prog.follows .mixedOrders = true := by rfl
theorem hf42 : Tryd.prog.funcs[42]? = some Tryd.f42 := by kernel_rfl
theorem en42 : Proofs.Enters Tryd.prog 42 := Proofs.enters_of hf42 (by kernel_rfl) rfl
theorem hf10 : Tryd.prog.funcs[10]? = some Tryd.f10 := by kernel_rfl
theorem en10 : Proofs.Enters Tryd.prog 10 := Proofs.enters_of hf10 (by kernel_rfl) rfl
theorem hf41 : Tryd.prog.funcs[41]? = some Tryd.f41 := by kernel_rfl
theorem en41 : Proofs.Enters Tryd.prog 41 := Proofs.enters_of hf41 (by kernel_rfl) rfl
noncomputable def law03_Made (F : Nat) (a0 : List Int) : Option (Ship) :=
  join (F) (fun (x : (Int) × (Int)) => chk (InR ((1 : Int) + x.fst)) (join (F) (fun (x_1 : (Int) × (Int)) => chk (InR ((390 : Int) * x_1.fst)) (chk (InR ((100 : Int) + (390 : Int) * x_1.fst)) (join (F) (fun (x_2 : (Int) × (Int)) => chk (InR ((7 : Int) * x_2.fst)) (chk (InR ((10 : Int) + (7 : Int) * x_2.fst)) (join (F) (fun (x_3 : (Int) × (Int)) => chk (InR ((1900 : Int) * x_3.fst)) (chk (InR ((10 : Int) + (1900 : Int) * x_3.fst)) (join (F) (fun (x_4 : (Int) × (Int)) => join (F) (fun (x_5 : (Int) × (Int)) => join (F) (fun (x_6 : (Int) × (Int)) => chk (InR ((2 : Int) * x_6.fst)) (join (F) (fun (x_7 : (Int) × (Int)) => chk (InR ((4 : Int) * x_7.fst)) (join (F) (fun (x_8 : (Int) × (Int)) => chk (InR ((20 : Int) * x_8.fst)) (chk (InR ((200 : Int) + (20 : Int) * x_8.fst)) (join (F) (fun (x_9 : (Int) × (Int)) => chk (InR ((1 : Int) + x_9.fst)) (loopC (fun (x_10 : (Int) × ((Int) × ((Int) × ((List (Point)) × (Int))))) => fun x_11 => brk (decide (x_10.snd.fst < (1 : Int) + x_9.fst)) (chk (InR (x_10.snd.snd.fst + (10 : Int))) (join (F) (fun (x_12 : (Int) × (Int)) => chk (InR (x_10.snd.snd.fst + (10 : Int) + x_12.fst)) (join (F) (fun (x_13 : (Int) × (Int)) => chk (InR (x_10.fst * x_13.fst)) (chk ((0 : Int) ≤ x_10.fst * x_13.fst ∧ x_10.fst * x_13.fst ≤ (9223372036854775807 : Int)) (chk (List.length x_10.snd.snd.snd.fst + [Point.mk (x_10.snd.snd.fst + (10 : Int) + x_12.fst) (x_10.fst * x_13.fst / (100 : Int))].length ≤ (1000000 : Nat)) (chk (InR (x_10.snd.fst + (1 : Int))) (x_11 ((x_10.fst * x_13.fst / (100 : Int), x_10.snd.fst + (1 : Int), x_10.snd.snd.fst + (10 : Int) + x_12.fst, x_10.snd.snd.snd.fst ++ [Point.mk (x_10.snd.snd.fst + (10 : Int) + x_12.fst) (x_10.fst * x_13.fst / (100 : Int))], x_13.snd))))))) (fun x_13 => brk (decide (x_12.snd ≥ (↑a0.length : Int))) (x_13 (((0 : Int), x_12.snd))) (chk (InR (x_12.snd + (1 : Int))) (chk (InR (x_12.snd + (1 : Int) - (1 : Int))) (chk ((0 : Int) ≤ x_12.snd + (1 : Int) - (1 : Int) ∧ x_12.snd + (1 : Int) - (1 : Int) < (↑a0.length : Int)) (chk (InR (a0.getD (x_12.snd + (1 : Int) - (1 : Int)).toNat (0 : Int))) (chk ((0 : Int) ≤ a0.getD (x_12.snd + (1 : Int) - (1 : Int)).toNat (0 : Int) ∧ a0.getD (x_12.snd + (1 : Int) - (1 : Int)).toNat (0 : Int) ≤ (9223372036854775807 : Int)) (x_13 ((a0.getD (x_12.snd + (1 : Int) - (1 : Int)).toNat (0 : Int) % (101 : Int), x_12.snd + (1 : Int)))))))))))) (fun x_12 => brk (decide (x_10.snd.snd.snd.snd ≥ (↑a0.length : Int))) (x_12 (((0 : Int), x_10.snd.snd.snd.snd))) (chk (InR (x_10.snd.snd.snd.snd + (1 : Int))) (chk (InR (x_10.snd.snd.snd.snd + (1 : Int) - (1 : Int))) (chk ((0 : Int) ≤ x_10.snd.snd.snd.snd + (1 : Int) - (1 : Int) ∧ x_10.snd.snd.snd.snd + (1 : Int) - (1 : Int) < (↑a0.length : Int)) (chk (InR (a0.getD (x_10.snd.snd.snd.snd + (1 : Int) - (1 : Int)).toNat (0 : Int))) (chk ((0 : Int) ≤ a0.getD (x_10.snd.snd.snd.snd + (1 : Int) - (1 : Int)).toNat (0 : Int) ∧ a0.getD (x_10.snd.snd.snd.snd + (1 : Int) - (1 : Int)).toNat (0 : Int) ≤ (9223372036854775807 : Int)) (x_12 ((a0.getD (x_10.snd.snd.snd.snd + (1 : Int) - (1 : Int)).toNat (0 : Int) % (40 : Int), x_10.snd.snd.snd.snd + (1 : Int)))))))))))) (join (F) (fun (x_12 : (Int) × (Int)) => join (F) (fun (x_13 : (Int) × (Int)) => chk (InR ((1 : Int) + x_13.fst)) (loopC (fun (x_14 : (Int) × ((Int) × ((Int) × ((List (Point)) × (Int))))) => fun x_15 => brk (decide (x_14.fst < (1 : Int) + x_13.fst)) (chk (InR (x_14.snd.snd.fst + (1 : Int))) (join (F) (fun (x_16 : (Int) × (Int)) => chk (InR (x_14.snd.snd.fst + (1 : Int) + x_16.fst)) (join (F) (fun (x_17 : (Int) × (Int)) => chk (InR ((3 : Int) * x_17.fst)) (chk (InR (x_14.snd.fst + (3 : Int) * x_17.fst)) (chk (List.length x_14.snd.snd.snd.fst + [Point.mk (x_14.snd.snd.fst + (1 : Int) + x_16.fst) (x_14.snd.fst + (3 : Int) * x_17.fst)].length ≤ (1000000 : Nat)) (chk (InR (x_14.fst + (1 : Int))) (x_15 ((x_14.fst + (1 : Int), x_14.snd.fst + (3 : Int) * x_17.fst, x_14.snd.snd.fst + (1 : Int) + x_16.fst, x_14.snd.snd.snd.fst ++ [Point.mk (x_14.snd.snd.fst + (1 : Int) + x_16.fst) (x_14.snd.fst + (3 : Int) * x_17.fst)], x_17.snd))))))) (fun x_17 => brk (decide (x_16.snd ≥ (↑a0.length : Int))) (x_17 (((0 : Int), x_16.snd))) (chk (InR (x_16.snd + (1 : Int))) (chk (InR (x_16.snd + (1 : Int) - (1 : Int))) (chk ((0 : Int) ≤ x_16.snd + (1 : Int) - (1 : Int) ∧ x_16.snd + (1 : Int) - (1 : Int) < (↑a0.length : Int)) (chk (InR (a0.getD (x_16.snd + (1 : Int) - (1 : Int)).toNat (0 : Int))) (chk ((0 : Int) ≤ a0.getD (x_16.snd + (1 : Int) - (1 : Int)).toNat (0 : Int) ∧ a0.getD (x_16.snd + (1 : Int) - (1 : Int)).toNat (0 : Int) ≤ (9223372036854775807 : Int)) (x_17 ((a0.getD (x_16.snd + (1 : Int) - (1 : Int)).toNat (0 : Int) % (256 : Int), x_16.snd + (1 : Int)))))))))))) (fun x_16 => brk (decide (x_14.snd.snd.snd.snd ≥ (↑a0.length : Int))) (x_16 (((0 : Int), x_14.snd.snd.snd.snd))) (chk (InR (x_14.snd.snd.snd.snd + (1 : Int))) (chk (InR (x_14.snd.snd.snd.snd + (1 : Int) - (1 : Int))) (chk ((0 : Int) ≤ x_14.snd.snd.snd.snd + (1 : Int) - (1 : Int) ∧ x_14.snd.snd.snd.snd + (1 : Int) - (1 : Int) < (↑a0.length : Int)) (chk (InR (a0.getD (x_14.snd.snd.snd.snd + (1 : Int) - (1 : Int)).toNat (0 : Int))) (chk ((0 : Int) ≤ a0.getD (x_14.snd.snd.snd.snd + (1 : Int) - (1 : Int)).toNat (0 : Int) ∧ a0.getD (x_14.snd.snd.snd.snd + (1 : Int) - (1 : Int)).toNat (0 : Int) ≤ (9223372036854775807 : Int)) (x_16 ((a0.getD (x_14.snd.snd.snd.snd + (1 : Int) - (1 : Int)).toNat (0 : Int) % (80 : Int), x_14.snd.snd.snd.snd + (1 : Int)))))))))))) (join (F) (fun (x_16 : (Int) × (Int)) => loopC (fun (x_17 : (Int) × ((Int) × ((Int) × ((List (Point)) × (Int))))) => fun x_18 => brk (decide (x_17.snd.fst < x_16.fst)) (chk (InR (x_17.snd.snd.fst + (1 : Int))) (join (F) (fun (x_19 : (Int) × (Int)) => chk (InR (x_17.snd.snd.fst + (1 : Int) + x_19.fst)) (join (F) (fun (x_20 : (Int) × (Int)) => chk (InR ((3 : Int) * x_20.fst)) (chk (InR (x_17.fst + (3 : Int) * x_20.fst)) (chk (List.length x_17.snd.snd.snd.fst + [Point.mk (x_17.snd.snd.fst + (1 : Int) + x_19.fst) (x_17.fst + (3 : Int) * x_20.fst)].length ≤ (1000000 : Nat)) (chk (InR (x_17.snd.fst + (1 : Int))) (x_18 ((x_17.fst + (3 : Int) * x_20.fst, x_17.snd.fst + (1 : Int), x_17.snd.snd.fst + (1 : Int) + x_19.fst, x_17.snd.snd.snd.fst ++ [Point.mk (x_17.snd.snd.fst + (1 : Int) + x_19.fst) (x_17.fst + (3 : Int) * x_20.fst)], x_20.snd))))))) (fun x_20 => brk (decide (x_19.snd ≥ (↑a0.length : Int))) (x_20 (((0 : Int), x_19.snd))) (chk (InR (x_19.snd + (1 : Int))) (chk (InR (x_19.snd + (1 : Int) - (1 : Int))) (chk ((0 : Int) ≤ x_19.snd + (1 : Int) - (1 : Int) ∧ x_19.snd + (1 : Int) - (1 : Int) < (↑a0.length : Int)) (chk (InR (a0.getD (x_19.snd + (1 : Int) - (1 : Int)).toNat (0 : Int))) (chk ((0 : Int) ≤ a0.getD (x_19.snd + (1 : Int) - (1 : Int)).toNat (0 : Int) ∧ a0.getD (x_19.snd + (1 : Int) - (1 : Int)).toNat (0 : Int) ≤ (9223372036854775807 : Int)) (x_20 ((a0.getD (x_19.snd + (1 : Int) - (1 : Int)).toNat (0 : Int) % (256 : Int), x_19.snd + (1 : Int)))))))))))) (fun x_19 => brk (decide (x_17.snd.snd.snd.snd ≥ (↑a0.length : Int))) (x_19 (((0 : Int), x_17.snd.snd.snd.snd))) (chk (InR (x_17.snd.snd.snd.snd + (1 : Int))) (chk (InR (x_17.snd.snd.snd.snd + (1 : Int) - (1 : Int))) (chk ((0 : Int) ≤ x_17.snd.snd.snd.snd + (1 : Int) - (1 : Int) ∧ x_17.snd.snd.snd.snd + (1 : Int) - (1 : Int) < (↑a0.length : Int)) (chk (InR (a0.getD (x_17.snd.snd.snd.snd + (1 : Int) - (1 : Int)).toNat (0 : Int))) (chk ((0 : Int) ≤ a0.getD (x_17.snd.snd.snd.snd + (1 : Int) - (1 : Int)).toNat (0 : Int) ∧ a0.getD (x_17.snd.snd.snd.snd + (1 : Int) - (1 : Int)).toNat (0 : Int) ≤ (9223372036854775807 : Int)) (x_19 ((a0.getD (x_17.snd.snd.snd.snd + (1 : Int) - (1 : Int)).toNat (0 : Int) % (90 : Int), x_17.snd.snd.snd.snd + (1 : Int)))))))))))) (join (F) (fun (x_19 : (Int) × (Int)) => chk (InR ((4 : Int) * x_19.fst)) (chk (InR (x_17.fst + (4 : Int) * x_19.fst)) (chk (List.length x_17.snd.snd.snd.fst + [Point.mk (400 : Int) (x_17.fst + (4 : Int) * x_19.fst)].length ≤ (1000000 : Nat)) (some (Ship.mk ((1 : Int) + x.fst) ((100 : Int) + (390 : Int) * x_1.fst) ((10 : Int) + (7 : Int) * x_2.fst) ((10 : Int) + (1900 : Int) * x_3.fst) x_10.snd.snd.snd.fst x_14.snd.snd.snd.fst (x_17.snd.snd.snd.fst ++ [Point.mk (400 : Int) (x_17.fst + (4 : Int) * x_19.fst)]) x_4.fst x_5.fst ((2 : Int) * x_6.fst) ((4 : Int) * x_7.fst)))))) (fun x_19 => brk (decide (x_17.snd.snd.snd.snd ≥ (↑a0.length : Int))) (x_19 (((0 : Int), x_17.snd.snd.snd.snd))) (chk (InR (x_17.snd.snd.snd.snd + (1 : Int))) (chk (InR (x_17.snd.snd.snd.snd + (1 : Int) - (1 : Int))) (chk ((0 : Int) ≤ x_17.snd.snd.snd.snd + (1 : Int) - (1 : Int) ∧ x_17.snd.snd.snd.snd + (1 : Int) - (1 : Int) < (↑a0.length : Int)) (chk (InR (a0.getD (x_17.snd.snd.snd.snd + (1 : Int) - (1 : Int)).toNat (0 : Int))) (chk ((0 : Int) ≤ a0.getD (x_17.snd.snd.snd.snd + (1 : Int) - (1 : Int)).toNat (0 : Int) ∧ a0.getD (x_17.snd.snd.snd.snd + (1 : Int) - (1 : Int)).toNat (0 : Int) ≤ (9223372036854775807 : Int)) (x_19 ((a0.getD (x_17.snd.snd.snd.snd + (1 : Int) - (1 : Int)).toNat (0 : Int) % (256 : Int), x_17.snd.snd.snd.snd + (1 : Int)))))))))))) (F) (((0 : Int), (0 : Int), (0 : Int), [Point.mk (0 : Int) (0 : Int)], x_16.snd))) (fun x_16 => brk (decide (x_14.snd.snd.snd.snd ≥ (↑a0.length : Int))) (x_16 (((0 : Int), x_14.snd.snd.snd.snd))) (chk (InR (x_14.snd.snd.snd.snd + (1 : Int))) (chk (InR (x_14.snd.snd.snd.snd + (1 : Int) - (1 : Int))) (chk ((0 : Int) ≤ x_14.snd.snd.snd.snd + (1 : Int) - (1 : Int) ∧ x_14.snd.snd.snd.snd + (1 : Int) - (1 : Int) < (↑a0.length : Int)) (chk (InR (a0.getD (x_14.snd.snd.snd.snd + (1 : Int) - (1 : Int)).toNat (0 : Int))) (chk ((0 : Int) ≤ a0.getD (x_14.snd.snd.snd.snd + (1 : Int) - (1 : Int)).toNat (0 : Int) ∧ a0.getD (x_14.snd.snd.snd.snd + (1 : Int) - (1 : Int)).toNat (0 : Int) ≤ (9223372036854775807 : Int)) (x_16 ((a0.getD (x_14.snd.snd.snd.snd + (1 : Int) - (1 : Int)).toNat (0 : Int) % (4 : Int), x_14.snd.snd.snd.snd + (1 : Int)))))))))))) (F) (((0 : Int), x_12.fst, (0 : Int), [Point.mk (0 : Int) x_12.fst], x_13.snd)))) (fun x_13 => brk (decide (x_12.snd ≥ (↑a0.length : Int))) (x_13 (((0 : Int), x_12.snd))) (chk (InR (x_12.snd + (1 : Int))) (chk (InR (x_12.snd + (1 : Int) - (1 : Int))) (chk ((0 : Int) ≤ x_12.snd + (1 : Int) - (1 : Int) ∧ x_12.snd + (1 : Int) - (1 : Int) < (↑a0.length : Int)) (chk (InR (a0.getD (x_12.snd + (1 : Int) - (1 : Int)).toNat (0 : Int))) (chk ((0 : Int) ≤ a0.getD (x_12.snd + (1 : Int) - (1 : Int)).toNat (0 : Int) ∧ a0.getD (x_12.snd + (1 : Int) - (1 : Int)).toNat (0 : Int) ≤ (9223372036854775807 : Int)) (x_13 ((a0.getD (x_12.snd + (1 : Int) - (1 : Int)).toNat (0 : Int) % (3 : Int), x_12.snd + (1 : Int))))))))))) (fun x_12 => brk (decide (x_10.snd.snd.snd.snd ≥ (↑a0.length : Int))) (x_12 (((0 : Int), x_10.snd.snd.snd.snd))) (chk (InR (x_10.snd.snd.snd.snd + (1 : Int))) (chk (InR (x_10.snd.snd.snd.snd + (1 : Int) - (1 : Int))) (chk ((0 : Int) ≤ x_10.snd.snd.snd.snd + (1 : Int) - (1 : Int) ∧ x_10.snd.snd.snd.snd + (1 : Int) - (1 : Int) < (↑a0.length : Int)) (chk (InR (a0.getD (x_10.snd.snd.snd.snd + (1 : Int) - (1 : Int)).toNat (0 : Int))) (chk ((0 : Int) ≤ a0.getD (x_10.snd.snd.snd.snd + (1 : Int) - (1 : Int)).toNat (0 : Int) ∧ a0.getD (x_10.snd.snd.snd.snd + (1 : Int) - (1 : Int)).toNat (0 : Int) ≤ (9223372036854775807 : Int)) (x_12 ((a0.getD (x_10.snd.snd.snd.snd + (1 : Int) - (1 : Int)).toNat (0 : Int) % (50 : Int), x_10.snd.snd.snd.snd + (1 : Int)))))))))))) (F) (((200 : Int) + (20 : Int) * x_8.fst, (0 : Int), (0 : Int), [Point.mk (0 : Int) ((200 : Int) + (20 : Int) * x_8.fst)], x_9.snd)))) (fun x_9 => brk (decide (x_8.snd ≥ (↑a0.length : Int))) (x_9 (((0 : Int), x_8.snd))) (chk (InR (x_8.snd + (1 : Int))) (chk (InR (x_8.snd + (1 : Int) - (1 : Int))) (chk ((0 : Int) ≤ x_8.snd + (1 : Int) - (1 : Int) ∧ x_8.snd + (1 : Int) - (1 : Int) < (↑a0.length : Int)) (chk (InR (a0.getD (x_8.snd + (1 : Int) - (1 : Int)).toNat (0 : Int))) (chk ((0 : Int) ≤ a0.getD (x_8.snd + (1 : Int) - (1 : Int)).toNat (0 : Int) ∧ a0.getD (x_8.snd + (1 : Int) - (1 : Int)).toNat (0 : Int) ≤ (9223372036854775807 : Int)) (x_9 ((a0.getD (x_8.snd + (1 : Int) - (1 : Int)).toNat (0 : Int) % (4 : Int), x_8.snd + (1 : Int))))))))))))) (fun x_8 => brk (decide (x_7.snd ≥ (↑a0.length : Int))) (x_8 (((0 : Int), x_7.snd))) (chk (InR (x_7.snd + (1 : Int))) (chk (InR (x_7.snd + (1 : Int) - (1 : Int))) (chk ((0 : Int) ≤ x_7.snd + (1 : Int) - (1 : Int) ∧ x_7.snd + (1 : Int) - (1 : Int) < (↑a0.length : Int)) (chk (InR (a0.getD (x_7.snd + (1 : Int) - (1 : Int)).toNat (0 : Int))) (chk ((0 : Int) ≤ a0.getD (x_7.snd + (1 : Int) - (1 : Int)).toNat (0 : Int) ∧ a0.getD (x_7.snd + (1 : Int) - (1 : Int)).toNat (0 : Int) ≤ (9223372036854775807 : Int)) (x_8 ((a0.getD (x_7.snd + (1 : Int) - (1 : Int)).toNat (0 : Int) % (256 : Int), x_7.snd + (1 : Int)))))))))))) (fun x_7 => brk (decide (x_6.snd ≥ (↑a0.length : Int))) (x_7 (((0 : Int), x_6.snd))) (chk (InR (x_6.snd + (1 : Int))) (chk (InR (x_6.snd + (1 : Int) - (1 : Int))) (chk ((0 : Int) ≤ x_6.snd + (1 : Int) - (1 : Int) ∧ x_6.snd + (1 : Int) - (1 : Int) < (↑a0.length : Int)) (chk (InR (a0.getD (x_6.snd + (1 : Int) - (1 : Int)).toNat (0 : Int))) (chk ((0 : Int) ≤ a0.getD (x_6.snd + (1 : Int) - (1 : Int)).toNat (0 : Int) ∧ a0.getD (x_6.snd + (1 : Int) - (1 : Int)).toNat (0 : Int) ≤ (9223372036854775807 : Int)) (x_7 ((a0.getD (x_6.snd + (1 : Int) - (1 : Int)).toNat (0 : Int) % (256 : Int), x_6.snd + (1 : Int)))))))))))) (fun x_6 => brk (decide (x_5.snd ≥ (↑a0.length : Int))) (x_6 (((0 : Int), x_5.snd))) (chk (InR (x_5.snd + (1 : Int))) (chk (InR (x_5.snd + (1 : Int) - (1 : Int))) (chk ((0 : Int) ≤ x_5.snd + (1 : Int) - (1 : Int) ∧ x_5.snd + (1 : Int) - (1 : Int) < (↑a0.length : Int)) (chk (InR (a0.getD (x_5.snd + (1 : Int) - (1 : Int)).toNat (0 : Int))) (chk ((0 : Int) ≤ a0.getD (x_5.snd + (1 : Int) - (1 : Int)).toNat (0 : Int) ∧ a0.getD (x_5.snd + (1 : Int) - (1 : Int)).toNat (0 : Int) ≤ (9223372036854775807 : Int)) (x_6 ((a0.getD (x_5.snd + (1 : Int) - (1 : Int)).toNat (0 : Int) % (240 : Int), x_5.snd + (1 : Int))))))))))) (fun x_5 => brk (decide (x_4.snd ≥ (↑a0.length : Int))) (x_5 (((0 : Int), x_4.snd))) (chk (InR (x_4.snd + (1 : Int))) (chk (InR (x_4.snd + (1 : Int) - (1 : Int))) (chk ((0 : Int) ≤ x_4.snd + (1 : Int) - (1 : Int) ∧ x_4.snd + (1 : Int) - (1 : Int) < (↑a0.length : Int)) (chk (InR (a0.getD (x_4.snd + (1 : Int) - (1 : Int)).toNat (0 : Int))) (chk ((0 : Int) ≤ a0.getD (x_4.snd + (1 : Int) - (1 : Int)).toNat (0 : Int) ∧ a0.getD (x_4.snd + (1 : Int) - (1 : Int)).toNat (0 : Int) ≤ (9223372036854775807 : Int)) (x_5 ((a0.getD (x_4.snd + (1 : Int) - (1 : Int)).toNat (0 : Int) % (101 : Int), x_4.snd + (1 : Int))))))))))) (fun x_4 => brk (decide (x_3.snd ≥ (↑a0.length : Int))) (x_4 (((0 : Int), x_3.snd))) (chk (InR (x_3.snd + (1 : Int))) (chk (InR (x_3.snd + (1 : Int) - (1 : Int))) (chk ((0 : Int) ≤ x_3.snd + (1 : Int) - (1 : Int) ∧ x_3.snd + (1 : Int) - (1 : Int) < (↑a0.length : Int)) (chk (InR (a0.getD (x_3.snd + (1 : Int) - (1 : Int)).toNat (0 : Int))) (chk ((0 : Int) ≤ a0.getD (x_3.snd + (1 : Int) - (1 : Int)).toNat (0 : Int) ∧ a0.getD (x_3.snd + (1 : Int) - (1 : Int)).toNat (0 : Int) ≤ (9223372036854775807 : Int)) (x_4 ((a0.getD (x_3.snd + (1 : Int) - (1 : Int)).toNat (0 : Int) % (21 : Int), x_3.snd + (1 : Int))))))))))))) (fun x_3 => brk (decide (x_2.snd ≥ (↑a0.length : Int))) (x_3 (((0 : Int), x_2.snd))) (chk (InR (x_2.snd + (1 : Int))) (chk (InR (x_2.snd + (1 : Int) - (1 : Int))) (chk ((0 : Int) ≤ x_2.snd + (1 : Int) - (1 : Int) ∧ x_2.snd + (1 : Int) - (1 : Int) < (↑a0.length : Int)) (chk (InR (a0.getD (x_2.snd + (1 : Int) - (1 : Int)).toNat (0 : Int))) (chk ((0 : Int) ≤ a0.getD (x_2.snd + (1 : Int) - (1 : Int)).toNat (0 : Int) ∧ a0.getD (x_2.snd + (1 : Int) - (1 : Int)).toNat (0 : Int) ≤ (9223372036854775807 : Int)) (x_3 ((a0.getD (x_2.snd + (1 : Int) - (1 : Int)).toNat (0 : Int) % (256 : Int), x_2.snd + (1 : Int))))))))))))) (fun x_2 => brk (decide (x_1.snd ≥ (↑a0.length : Int))) (x_2 (((0 : Int), x_1.snd))) (chk (InR (x_1.snd + (1 : Int))) (chk (InR (x_1.snd + (1 : Int) - (1 : Int))) (chk ((0 : Int) ≤ x_1.snd + (1 : Int) - (1 : Int) ∧ x_1.snd + (1 : Int) - (1 : Int) < (↑a0.length : Int)) (chk (InR (a0.getD (x_1.snd + (1 : Int) - (1 : Int)).toNat (0 : Int))) (chk ((0 : Int) ≤ a0.getD (x_1.snd + (1 : Int) - (1 : Int)).toNat (0 : Int) ∧ a0.getD (x_1.snd + (1 : Int) - (1 : Int)).toNat (0 : Int) ≤ (9223372036854775807 : Int)) (x_2 ((a0.getD (x_1.snd + (1 : Int) - (1 : Int)).toNat (0 : Int) % (256 : Int), x_1.snd + (1 : Int))))))))))))) (fun x_1 => brk (decide (x.snd ≥ (↑a0.length : Int))) (x_1 (((0 : Int), x.snd))) (chk (InR (x.snd + (1 : Int))) (chk (InR (x.snd + (1 : Int) - (1 : Int))) (chk ((0 : Int) ≤ x.snd + (1 : Int) - (1 : Int) ∧ x.snd + (1 : Int) - (1 : Int) < (↑a0.length : Int)) (chk (InR (a0.getD (x.snd + (1 : Int) - (1 : Int)).toNat (0 : Int))) (chk ((0 : Int) ≤ a0.getD (x.snd + (1 : Int) - (1 : Int)).toNat (0 : Int) ∧ a0.getD (x.snd + (1 : Int) - (1 : Int)).toNat (0 : Int) ≤ (9223372036854775807 : Int)) (x_1 ((a0.getD (x.snd + (1 : Int) - (1 : Int)).toNat (0 : Int) % (256 : Int), x.snd + (1 : Int)))))))))))) (fun x => brk (decide ((0 : Int) ≥ (↑a0.length : Int))) (x (((0 : Int), (0 : Int)))) (chk ((0 : Int) ≤ IntKind.i64.wrap (IntKind.i64.wrap ((0 : Int) + (1 : Int)) - (1 : Int)) ∧ IntKind.i64.wrap (IntKind.i64.wrap ((0 : Int) + (1 : Int)) - (1 : Int)) < (↑a0.length : Int)) (chk (InR (a0.getD (IntKind.i64.wrap (IntKind.i64.wrap ((0 : Int) + (1 : Int)) - (1 : Int))).toNat (0 : Int))) (chk ((0 : Int) ≤ a0.getD (IntKind.i64.wrap (IntKind.i64.wrap ((0 : Int) + (1 : Int)) - (1 : Int))).toNat (0 : Int) ∧ a0.getD (IntKind.i64.wrap (IntKind.i64.wrap ((0 : Int) + (1 : Int)) - (1 : Int))).toNat (0 : Int) ≤ (9223372036854775807 : Int)) (x ((a0.getD (IntKind.i64.wrap (IntKind.i64.wrap ((0 : Int) + (1 : Int)) - (1 : Int))).toNat (0 : Int) % (6 : Int), IntKind.i64.wrap ((0 : Int) + (1 : Int)))))))))
noncomputable def s41 (F : Nat) : CS E.G := ⟨41, [.sl 2], [.v 9 true [104, 104, 104]], fun x => law03_Made F x.1⟩
noncomputable def cx41 (F : Nat) : Ctx E := ⟨[], [(10, Tryd.f10), (42, Tryd.f42)], F, []⟩
noncomputable def h41 : Hint := (.p (.w ⟨[.i, .i], [], [0, 1, 3, 4], [(0, .i IntKind.i64)], [], [(4, 0, .i IntKind.i64)], [], 5⟩ .n (.w ⟨[.i, .i], [], [0, 1, 3, 4], [(0, .i IntKind.i64)], [], [(4, 0, .i IntKind.i64)], [], 5⟩ .n (.w ⟨[.i, .i], [], [0, 1, 3, 4], [(0, .i IntKind.i64)], [], [(4, 0, .i IntKind.i64)], [], 5⟩ .n (.w ⟨[.i, .i], [], [0, 1, 3, 4], [(0, .i IntKind.i64)], [], [(4, 0, .i IntKind.i64)], [], 5⟩ .n (.w ⟨[.i, .i], [], [0, 1, 3, 4], [(0, .i IntKind.i64)], [], [(4, 0, .i IntKind.i64)], [], 5⟩ .n (.w ⟨[.i, .i], [], [0, 1, 3, 4], [(0, .i IntKind.i64)], [], [(4, 0, .i IntKind.i64)], [], 5⟩ .n (.w ⟨[.i, .i], [], [0, 1, 3, 4], [(0, .i IntKind.i64)], [], [(4, 0, .i IntKind.i64)], [], 5⟩ .n (.w ⟨[.i, .i], [], [0, 1, 3, 4], [(0, .i IntKind.i64)], [], [(4, 0, .i IntKind.i64)], [], 5⟩ .n (.w ⟨[.i, .i], [], [0, 1, 3, 4], [(0, .i IntKind.i64)], [], [(4, 0, .i IntKind.i64)], [], 6⟩ .n (.w ⟨[.i, .i], [], [0, 1, 3, 4], [(0, .i IntKind.i64)], [], [(4, 0, .i IntKind.i64)], [], 7⟩ .n (.l ⟨[.i, .i, .i, .l 7, .i], [32, 64, 48, 720], [0, 2, 5, 4, 3, 1], [(96, .i IntKind.i64), (736, .i IntKind.i64), (80, .i IntKind.i64)], [], [(5, 4, .h 7 104 7), (4, 0, .i IntKind.i64)], [], 8⟩ (.c (.w ⟨[.i, .i], [], [0, 1, 3, 4], [(0, .i IntKind.i64)], [], [(4, 0, .i IntKind.i64)], [], 8⟩ .n (.w ⟨[.i, .i], [], [0, 1, 3, 4], [(0, .i IntKind.i64)], [], [(4, 0, .i IntKind.i64)], [], 8⟩ .n .n)) (.w ⟨[.i, .i], [], [0, 1, 3, 4], [(0, .i IntKind.i64)], [], [(4, 0, .i IntKind.i64)], [], 8⟩ .n (.w ⟨[.i, .i], [], [0, 1, 3, 4], [(0, .i IntKind.i64)], [], [(4, 0, .i IntKind.i64)], [], 9⟩ .n (.l ⟨[.i, .i, .i, .l 7, .i], [32, 64, 48, 1200], [0, 2, 5, 4, 3, 7, 1], [(1216, .i IntKind.i64), (96, .i IntKind.i64), (80, .i IntKind.i64)], [], [(5, 5, .h 9 104 7), (4, 0, .i IntKind.i64)], [], 10⟩ (.c (.w ⟨[.i, .i], [], [0, 1, 3, 4], [(0, .i IntKind.i64)], [], [(4, 0, .i IntKind.i64)], [], 10⟩ .n (.w ⟨[.i, .i], [], [0, 1, 3, 4], [(0, .i IntKind.i64)], [], [(4, 0, .i IntKind.i64)], [], 10⟩ .n .n)) (.w ⟨[.i, .i], [], [0, 1, 3, 4], [(0, .i IntKind.i64)], [], [(4, 0, .i IntKind.i64)], [], 11⟩ .n (.l ⟨[.i, .i, .i, .l 7, .i], [32, 64, 48, 1616], [0, 2, 5, 4, 3, 9, 7, 1], [(96, .i IntKind.i64), (1632, .i IntKind.i64), (80, .i IntKind.i64)], [], [(5, 6, .h 11 104 7), (4, 0, .i IntKind.i64)], [], 12⟩ (.c (.w ⟨[.i, .i], [], [0, 1, 3, 4], [(0, .i IntKind.i64)], [], [(4, 0, .i IntKind.i64)], [], 12⟩ .n (.w ⟨[.i, .i], [], [0, 1, 3, 4], [(0, .i IntKind.i64)], [], [(4, 0, .i IntKind.i64)], [], 12⟩ .n .n)) (.w ⟨[.i, .i], [], [0, 1, 3, 4], [(0, .i IntKind.i64)], [], [(4, 0, .i IntKind.i64)], [], 12⟩ .n .n)))))))))))))))))))))
theorem e41 (F : Nat) (a0 : List Int) : fnK (E := E) (cx41 F) Tryd.f41 gl [.sl 2] [.v 9 true [104, 104, 104]] h41 (a0, ()) = law03_Made F a0 := by kernel_rfl
theorem c41 (F : Nat) : CSok E gl (s41 F) := ⟨en41, by
  have h := fn_sound (E := E) (gl := gl) (cx := cx41 F) mix all0 (inlC hf10 en10 (inlC hf42 en42 inl0)) gl_up gl_lt hf41 (ps := [.sl 2]) (rs := [.v 9 true [104, 104, 104]]) (by decide) h41
  rwa [show fnK (E := E) (cx41 F) Tryd.f41 gl [.sl 2] [.v 9 true [104, 104, 104]] h41 = (fun x : AT E.G.car [.sl 2] => law03_Made F x.1) from funext fun x => e41 F x.1] at h⟩
theorem hf40 : Tryd.prog.funcs[40]? = some Tryd.f40 := by kernel_rfl
theorem en40 : Proofs.Enters Tryd.prog 40 := Proofs.enters_of hf40 (by kernel_rfl) rfl
theorem hf9 : Tryd.prog.funcs[9]? = some Tryd.f9 := by kernel_rfl
theorem en9 : Proofs.Enters Tryd.prog 9 := Proofs.enters_of hf9 (by kernel_rfl) rfl
noncomputable def law05_Made (F : Nat) (a0 : List Int) (a1 : Int) : Option (Convoy) :=
  join (F) (fun (x : (Int) × (Int)) => chk (InR ((3 : Int) * x.fst)) (join (F) (fun (x_1 : (Int) × (Int)) => chk (InR ((2 : Int) * x_1.fst)) (chk ((0 : Int) ≤ (2 : Int) * x_1.fst ∧ (2 : Int) * x_1.fst ≤ (9223372036854775807 : Int)) (join (F) (fun (x_2 : (Int) × (Int)) => chk (InR ((2 : Int) * x_2.fst)) (chk ((0 : Int) ≤ (2 : Int) * x_2.fst ∧ (2 : Int) * x_2.fst ≤ (9223372036854775807 : Int)) (join (F) (fun (x_3 : (Int) × (Int)) => chk (InR ((2 : Int) * x_3.fst)) (chk ((0 : Int) ≤ (2 : Int) * x_3.fst ∧ (2 : Int) * x_3.fst ≤ (9223372036854775807 : Int)) (join (F) (fun (x_4 : (Int) × (Int)) => chk (InR ((2 : Int) * x_4.fst)) (chk ((0 : Int) ≤ (2 : Int) * x_4.fst ∧ (2 : Int) * x_4.fst ≤ (9223372036854775807 : Int)) (chk (InR (a1 + (1 : Int))) (join (F) (fun (x_5 : (Int) × (Int)) => loopC (fun (x_6 : (List (Int)) × ((Int) × (Int))) => fun x_7 => brk (decide (x_6.snd.fst < (24 : Int))) (join (F) (fun (x_8 : (Int) × (Int)) => chk (List.length x_6.fst + [IntKind.u8.wrap x_8.fst].length ≤ (1000000 : Nat)) (chk (InR (x_6.snd.fst + (1 : Int))) (x_7 ((x_6.fst ++ [IntKind.u8.wrap x_8.fst], x_6.snd.fst + (1 : Int), x_8.snd))))) (fun x_8 => brk (decide (x_6.snd.snd ≥ (↑a0.length : Int))) (x_8 (((0 : Int), x_6.snd.snd))) (chk (InR (x_6.snd.snd + (1 : Int))) (chk (InR (x_6.snd.snd + (1 : Int) - (1 : Int))) (chk ((0 : Int) ≤ x_6.snd.snd + (1 : Int) - (1 : Int) ∧ x_6.snd.snd + (1 : Int) - (1 : Int) < (↑a0.length : Int)) (chk (InR (a0.getD (x_6.snd.snd + (1 : Int) - (1 : Int)).toNat (0 : Int))) (chk ((0 : Int) ≤ a0.getD (x_6.snd.snd + (1 : Int) - (1 : Int)).toNat (0 : Int) ∧ a0.getD (x_6.snd.snd + (1 : Int) - (1 : Int)).toNat (0 : Int) ≤ (9223372036854775807 : Int)) (x_8 ((a0.getD (x_6.snd.snd + (1 : Int) - (1 : Int)).toNat (0 : Int) % (256 : Int), x_6.snd.snd + (1 : Int))))))))))) (chk ((0 : Int) ≤ (7 : Int) ∧ (7 : Int) < (↑(List.length x_6.fst) : Int)) (chk ((0 : Int) ≤ (7 : Int) ∧ (7 : Int) < (↑(List.length x_6.fst) : Int)) (chk ((0 : Int) ≤ (8 : Int) ∧ (8 : Int) < (↑(List.set x_6.fst (Int.toNat (7 : Int)) (IntKind.u8.wrap (Int.tdiv (List.getD x_6.fst (Int.toNat (7 : Int)) (0 : Int)) (8 : Int)))).length : Int)) (chk ((0 : Int) ≤ (8 : Int) ∧ (8 : Int) < (↑(List.set x_6.fst (Int.toNat (7 : Int)) (IntKind.u8.wrap (Int.tdiv (List.getD x_6.fst (Int.toNat (7 : Int)) (0 : Int)) (8 : Int)))).length : Int)) (bnd (law03_Made F ((List.set x_6.fst (Int.toNat (7 : Int)) (IntKind.u8.wrap (Int.tdiv (List.getD x_6.fst (Int.toNat (7 : Int)) (0 : Int)) (8 : Int)))).set (Int.toNat (8 : Int)) ((128 : Int) + (List.set x_6.fst (Int.toNat (7 : Int)) (IntKind.u8.wrap (Int.tdiv (List.getD x_6.fst (Int.toNat (7 : Int)) (0 : Int)) (8 : Int)))).getD (Int.toNat (8 : Int)) (0 : Int) % (128 : Int)))) (fun (x_8 : Ship) => join (F) (fun (x_9 : (Int) × (Int)) => chk (InR ((2 : Int) * x_9.fst)) (chk (InR ((10 : Int) + (2 : Int) * x_9.fst)) (join (F) (fun (x_10 : (Int) × (Int)) => chk (InR ((3 : Int) * x_10.fst)) (join (F) (fun (x_11 : (Int) × (Int)) => chk (InR ((5 : Int) * x_11.fst)) (join (F) (fun (x_12 : (Int) × (Int)) => loopC (fun (x_13 : (Int) × ((Int) × ((Int) × ((Int) × (List (Point)))))) => fun x_14 => brk (decide (x_13.snd.snd.fst < x_12.fst)) (chk (InR (x_13.fst + (1 : Int))) (join (F) (fun (x_15 : (Int) × (Int)) => chk (InR (x_13.fst + (1 : Int) + x_15.fst)) (join (F) (fun (x_16 : (Int) × (Int)) => chk (InR ((2 : Int) * x_16.fst)) (chk (InR (x_13.snd.fst + (2 : Int) * x_16.fst)) (chk (List.length x_13.snd.snd.snd.snd + [Point.mk (x_13.fst + (1 : Int) + x_15.fst) (x_13.snd.fst + (2 : Int) * x_16.fst)].length ≤ (1000000 : Nat)) (chk (InR (x_13.snd.snd.fst + (1 : Int))) (x_14 ((x_13.fst + (1 : Int) + x_15.fst, x_13.snd.fst + (2 : Int) * x_16.fst, x_13.snd.snd.fst + (1 : Int), x_16.snd, x_13.snd.snd.snd.snd ++ [Point.mk (x_13.fst + (1 : Int) + x_15.fst) (x_13.snd.fst + (2 : Int) * x_16.fst)]))))))) (fun x_16 => brk (decide (x_15.snd ≥ (↑a0.length : Int))) (x_16 (((0 : Int), x_15.snd))) (chk (InR (x_15.snd + (1 : Int))) (chk (InR (x_15.snd + (1 : Int) - (1 : Int))) (chk ((0 : Int) ≤ x_15.snd + (1 : Int) - (1 : Int) ∧ x_15.snd + (1 : Int) - (1 : Int) < (↑a0.length : Int)) (chk (InR (a0.getD (x_15.snd + (1 : Int) - (1 : Int)).toNat (0 : Int))) (chk ((0 : Int) ≤ a0.getD (x_15.snd + (1 : Int) - (1 : Int)).toNat (0 : Int) ∧ a0.getD (x_15.snd + (1 : Int) - (1 : Int)).toNat (0 : Int) ≤ (9223372036854775807 : Int)) (x_16 ((a0.getD (x_15.snd + (1 : Int) - (1 : Int)).toNat (0 : Int) % (256 : Int), x_15.snd + (1 : Int)))))))))))) (fun x_15 => brk (decide (x_13.snd.snd.snd.fst ≥ (↑a0.length : Int))) (x_15 (((0 : Int), x_13.snd.snd.snd.fst))) (chk (InR (x_13.snd.snd.snd.fst + (1 : Int))) (chk (InR (x_13.snd.snd.snd.fst + (1 : Int) - (1 : Int))) (chk ((0 : Int) ≤ x_13.snd.snd.snd.fst + (1 : Int) - (1 : Int) ∧ x_13.snd.snd.snd.fst + (1 : Int) - (1 : Int) < (↑a0.length : Int)) (chk (InR (a0.getD (x_13.snd.snd.snd.fst + (1 : Int) - (1 : Int)).toNat (0 : Int))) (chk ((0 : Int) ≤ a0.getD (x_13.snd.snd.snd.fst + (1 : Int) - (1 : Int)).toNat (0 : Int) ∧ a0.getD (x_13.snd.snd.snd.fst + (1 : Int) - (1 : Int)).toNat (0 : Int) ≤ (9223372036854775807 : Int)) (x_15 ((a0.getD (x_13.snd.snd.snd.fst + (1 : Int) - (1 : Int)).toNat (0 : Int) % (40 : Int), x_13.snd.snd.snd.fst + (1 : Int)))))))))))) (join (F) (fun (x_15 : (Int) × (Int)) => chk (InR ((4 : Int) * x_15.fst)) (chk (InR (x_13.snd.fst + (4 : Int) * x_15.fst)) (chk (List.length x_13.snd.snd.snd.snd + [Point.mk (260 : Int) (x_13.snd.fst + (4 : Int) * x_15.fst)].length ≤ (1000000 : Nat)) (loopC (fun (x_16 : (Int) × ((List (Member)) × (Int))) => fun x_17 => brk (decide (x_16.fst < x_5.fst)) (loopC (fun (x_18 : (List (Int)) × ((Int) × (Int))) => fun x_19 => brk (decide (x_18.snd.fst < (24 : Int))) (join (F) (fun (x_20 : (Int) × (Int)) => chk (List.length x_18.fst + [IntKind.u8.wrap x_20.fst].length ≤ (1000000 : Nat)) (chk (InR (x_18.snd.fst + (1 : Int))) (x_19 ((x_18.fst ++ [IntKind.u8.wrap x_20.fst], x_18.snd.fst + (1 : Int), x_20.snd))))) (fun x_20 => brk (decide (x_18.snd.snd ≥ (↑a0.length : Int))) (x_20 (((0 : Int), x_18.snd.snd))) (chk (InR (x_18.snd.snd + (1 : Int))) (chk (InR (x_18.snd.snd + (1 : Int) - (1 : Int))) (chk ((0 : Int) ≤ x_18.snd.snd + (1 : Int) - (1 : Int) ∧ x_18.snd.snd + (1 : Int) - (1 : Int) < (↑a0.length : Int)) (chk (InR (a0.getD (x_18.snd.snd + (1 : Int) - (1 : Int)).toNat (0 : Int))) (chk ((0 : Int) ≤ a0.getD (x_18.snd.snd + (1 : Int) - (1 : Int)).toNat (0 : Int) ∧ a0.getD (x_18.snd.snd + (1 : Int) - (1 : Int)).toNat (0 : Int) ≤ (9223372036854775807 : Int)) (x_20 ((a0.getD (x_18.snd.snd + (1 : Int) - (1 : Int)).toNat (0 : Int) % (256 : Int), x_18.snd.snd + (1 : Int))))))))))) (chk ((0 : Int) ≤ (7 : Int) ∧ (7 : Int) < (↑(List.length x_18.fst) : Int)) (chk ((0 : Int) ≤ (7 : Int) ∧ (7 : Int) < (↑(List.length x_18.fst) : Int)) (chk ((0 : Int) ≤ (8 : Int) ∧ (8 : Int) < (↑(List.set x_18.fst (Int.toNat (7 : Int)) (IntKind.u8.wrap (Int.tdiv (List.getD x_18.fst (Int.toNat (7 : Int)) (0 : Int)) (8 : Int)))).length : Int)) (chk ((0 : Int) ≤ (8 : Int) ∧ (8 : Int) < (↑(List.set x_18.fst (Int.toNat (7 : Int)) (IntKind.u8.wrap (Int.tdiv (List.getD x_18.fst (Int.toNat (7 : Int)) (0 : Int)) (8 : Int)))).length : Int)) (bnd (law03_Made F ((List.set x_18.fst (Int.toNat (7 : Int)) (IntKind.u8.wrap (Int.tdiv (List.getD x_18.fst (Int.toNat (7 : Int)) (0 : Int)) (8 : Int)))).set (Int.toNat (8 : Int)) ((128 : Int) + (List.set x_18.fst (Int.toNat (7 : Int)) (IntKind.u8.wrap (Int.tdiv (List.getD x_18.fst (Int.toNat (7 : Int)) (0 : Int)) (8 : Int)))).getD (Int.toNat (8 : Int)) (0 : Int) % (128 : Int)))) (fun (x_20 : Ship) => join (F) (fun (x_21 : (Int) × (Int)) => chk (InR ((2 : Int) * x_21.fst)) (chk (InR ((10 : Int) + (2 : Int) * x_21.fst)) (join (F) (fun (x_22 : (Int) × (Int)) => chk (InR ((3 : Int) * x_22.fst)) (join (F) (fun (x_23 : (Int) × (Int)) => chk (InR ((5 : Int) * x_23.fst)) (join (F) (fun (x_24 : (Int) × (Int)) => loopC (fun (x_25 : (Int) × ((Int) × ((Int) × ((Int) × (List (Point)))))) => fun x_26 => brk (decide (x_25.snd.snd.fst < x_24.fst)) (chk (InR (x_25.fst + (1 : Int))) (join (F) (fun (x_27 : (Int) × (Int)) => chk (InR (x_25.fst + (1 : Int) + x_27.fst)) (join (F) (fun (x_28 : (Int) × (Int)) => chk (InR ((2 : Int) * x_28.fst)) (chk (InR (x_25.snd.fst + (2 : Int) * x_28.fst)) (chk (List.length x_25.snd.snd.snd.snd + [Point.mk (x_25.fst + (1 : Int) + x_27.fst) (x_25.snd.fst + (2 : Int) * x_28.fst)].length ≤ (1000000 : Nat)) (chk (InR (x_25.snd.snd.fst + (1 : Int))) (x_26 ((x_25.fst + (1 : Int) + x_27.fst, x_25.snd.fst + (2 : Int) * x_28.fst, x_25.snd.snd.fst + (1 : Int), x_28.snd, x_25.snd.snd.snd.snd ++ [Point.mk (x_25.fst + (1 : Int) + x_27.fst) (x_25.snd.fst + (2 : Int) * x_28.fst)]))))))) (fun x_28 => brk (decide (x_27.snd ≥ (↑a0.length : Int))) (x_28 (((0 : Int), x_27.snd))) (chk (InR (x_27.snd + (1 : Int))) (chk (InR (x_27.snd + (1 : Int) - (1 : Int))) (chk ((0 : Int) ≤ x_27.snd + (1 : Int) - (1 : Int) ∧ x_27.snd + (1 : Int) - (1 : Int) < (↑a0.length : Int)) (chk (InR (a0.getD (x_27.snd + (1 : Int) - (1 : Int)).toNat (0 : Int))) (chk ((0 : Int) ≤ a0.getD (x_27.snd + (1 : Int) - (1 : Int)).toNat (0 : Int) ∧ a0.getD (x_27.snd + (1 : Int) - (1 : Int)).toNat (0 : Int) ≤ (9223372036854775807 : Int)) (x_28 ((a0.getD (x_27.snd + (1 : Int) - (1 : Int)).toNat (0 : Int) % (256 : Int), x_27.snd + (1 : Int)))))))))))) (fun x_27 => brk (decide (x_25.snd.snd.snd.fst ≥ (↑a0.length : Int))) (x_27 (((0 : Int), x_25.snd.snd.snd.fst))) (chk (InR (x_25.snd.snd.snd.fst + (1 : Int))) (chk (InR (x_25.snd.snd.snd.fst + (1 : Int) - (1 : Int))) (chk ((0 : Int) ≤ x_25.snd.snd.snd.fst + (1 : Int) - (1 : Int) ∧ x_25.snd.snd.snd.fst + (1 : Int) - (1 : Int) < (↑a0.length : Int)) (chk (InR (a0.getD (x_25.snd.snd.snd.fst + (1 : Int) - (1 : Int)).toNat (0 : Int))) (chk ((0 : Int) ≤ a0.getD (x_25.snd.snd.snd.fst + (1 : Int) - (1 : Int)).toNat (0 : Int) ∧ a0.getD (x_25.snd.snd.snd.fst + (1 : Int) - (1 : Int)).toNat (0 : Int) ≤ (9223372036854775807 : Int)) (x_27 ((a0.getD (x_25.snd.snd.snd.fst + (1 : Int) - (1 : Int)).toNat (0 : Int) % (40 : Int), x_25.snd.snd.snd.fst + (1 : Int)))))))))))) (join (F) (fun (x_27 : (Int) × (Int)) => chk (InR ((4 : Int) * x_27.fst)) (chk (InR (x_25.snd.fst + (4 : Int) * x_27.fst)) (chk (List.length x_25.snd.snd.snd.snd + [Point.mk (260 : Int) (x_25.snd.fst + (4 : Int) * x_27.fst)].length ≤ (1000000 : Nat)) (chk (List.length x_16.snd.fst + [Member.mk x_20 (x_25.snd.snd.snd.snd ++ [Point.mk (260 : Int) (x_25.snd.fst + (4 : Int) * x_27.fst)]) ((10 : Int) + (2 : Int) * x_21.fst) ((3 : Int) * x_22.fst) ((5 : Int) * x_23.fst)].length ≤ (1000000 : Nat)) (chk (InR (x_16.fst + (1 : Int))) (x_17 ((x_16.fst + (1 : Int), x_16.snd.fst ++ [Member.mk x_20 (x_25.snd.snd.snd.snd ++ [Point.mk (260 : Int) (x_25.snd.fst + (4 : Int) * x_27.fst)]) ((10 : Int) + (2 : Int) * x_21.fst) ((3 : Int) * x_22.fst) ((5 : Int) * x_23.fst)], x_27.snd)))))))) (fun x_27 => brk (decide (x_25.snd.snd.snd.fst ≥ (↑a0.length : Int))) (x_27 (((0 : Int), x_25.snd.snd.snd.fst))) (chk (InR (x_25.snd.snd.snd.fst + (1 : Int))) (chk (InR (x_25.snd.snd.snd.fst + (1 : Int) - (1 : Int))) (chk ((0 : Int) ≤ x_25.snd.snd.snd.fst + (1 : Int) - (1 : Int) ∧ x_25.snd.snd.snd.fst + (1 : Int) - (1 : Int) < (↑a0.length : Int)) (chk (InR (a0.getD (x_25.snd.snd.snd.fst + (1 : Int) - (1 : Int)).toNat (0 : Int))) (chk ((0 : Int) ≤ a0.getD (x_25.snd.snd.snd.fst + (1 : Int) - (1 : Int)).toNat (0 : Int) ∧ a0.getD (x_25.snd.snd.snd.fst + (1 : Int) - (1 : Int)).toNat (0 : Int) ≤ (9223372036854775807 : Int)) (x_27 ((a0.getD (x_25.snd.snd.snd.fst + (1 : Int) - (1 : Int)).toNat (0 : Int) % (256 : Int), x_25.snd.snd.snd.fst + (1 : Int)))))))))))) (F) (((0 : Int), (0 : Int), (0 : Int), x_24.snd, [Point.mk (0 : Int) (0 : Int)]))) (fun x_24 => brk (decide (x_23.snd ≥ (↑a0.length : Int))) (x_24 (((0 : Int), x_23.snd))) (chk (InR (x_23.snd + (1 : Int))) (chk (InR (x_23.snd + (1 : Int) - (1 : Int))) (chk ((0 : Int) ≤ x_23.snd + (1 : Int) - (1 : Int) ∧ x_23.snd + (1 : Int) - (1 : Int) < (↑a0.length : Int)) (chk (InR (a0.getD (x_23.snd + (1 : Int) - (1 : Int)).toNat (0 : Int))) (chk ((0 : Int) ≤ a0.getD (x_23.snd + (1 : Int) - (1 : Int)).toNat (0 : Int) ∧ a0.getD (x_23.snd + (1 : Int) - (1 : Int)).toNat (0 : Int) ≤ (9223372036854775807 : Int)) (x_24 ((a0.getD (x_23.snd + (1 : Int) - (1 : Int)).toNat (0 : Int) % (4 : Int), x_23.snd + (1 : Int)))))))))))) (fun x_23 => brk (decide (x_22.snd ≥ (↑a0.length : Int))) (x_23 (((0 : Int), x_22.snd))) (chk (InR (x_22.snd + (1 : Int))) (chk (InR (x_22.snd + (1 : Int) - (1 : Int))) (chk ((0 : Int) ≤ x_22.snd + (1 : Int) - (1 : Int) ∧ x_22.snd + (1 : Int) - (1 : Int) < (↑a0.length : Int)) (chk (InR (a0.getD (x_22.snd + (1 : Int) - (1 : Int)).toNat (0 : Int))) (chk ((0 : Int) ≤ a0.getD (x_22.snd + (1 : Int) - (1 : Int)).toNat (0 : Int) ∧ a0.getD (x_22.snd + (1 : Int) - (1 : Int)).toNat (0 : Int) ≤ (9223372036854775807 : Int)) (x_23 ((a0.getD (x_22.snd + (1 : Int) - (1 : Int)).toNat (0 : Int) % (200 : Int), x_22.snd + (1 : Int)))))))))))) (fun x_22 => brk (decide (x_21.snd ≥ (↑a0.length : Int))) (x_22 (((0 : Int), x_21.snd))) (chk (InR (x_21.snd + (1 : Int))) (chk (InR (x_21.snd + (1 : Int) - (1 : Int))) (chk ((0 : Int) ≤ x_21.snd + (1 : Int) - (1 : Int) ∧ x_21.snd + (1 : Int) - (1 : Int) < (↑a0.length : Int)) (chk (InR (a0.getD (x_21.snd + (1 : Int) - (1 : Int)).toNat (0 : Int))) (chk ((0 : Int) ≤ a0.getD (x_21.snd + (1 : Int) - (1 : Int)).toNat (0 : Int) ∧ a0.getD (x_21.snd + (1 : Int) - (1 : Int)).toNat (0 : Int) ≤ (9223372036854775807 : Int)) (x_22 ((a0.getD (x_21.snd + (1 : Int) - (1 : Int)).toNat (0 : Int) % (60 : Int), x_21.snd + (1 : Int))))))))))))) (fun x_21 => brk (decide (x_18.snd.snd ≥ (↑a0.length : Int))) (x_21 (((0 : Int), x_18.snd.snd))) (chk (InR (x_18.snd.snd + (1 : Int))) (chk (InR (x_18.snd.snd + (1 : Int) - (1 : Int))) (chk ((0 : Int) ≤ x_18.snd.snd + (1 : Int) - (1 : Int) ∧ x_18.snd.snd + (1 : Int) - (1 : Int) < (↑a0.length : Int)) (chk (InR (a0.getD (x_18.snd.snd + (1 : Int) - (1 : Int)).toNat (0 : Int))) (chk ((0 : Int) ≤ a0.getD (x_18.snd.snd + (1 : Int) - (1 : Int)).toNat (0 : Int) ∧ a0.getD (x_18.snd.snd + (1 : Int) - (1 : Int)).toNat (0 : Int) ≤ (9223372036854775807 : Int)) (x_21 ((a0.getD (x_18.snd.snd + (1 : Int) - (1 : Int)).toNat (0 : Int) % (240 : Int), x_18.snd.snd + (1 : Int))))))))))))))))) (F) (([], (0 : Int), x_16.snd.snd))) (some (Convoy.mk (Member.mk x_8 (x_13.snd.snd.snd.snd ++ [Point.mk (260 : Int) (x_13.snd.fst + (4 : Int) * x_15.fst)]) ((10 : Int) + (2 : Int) * x_9.fst) ((3 : Int) * x_10.fst) ((5 : Int) * x_11.fst)) x_16.snd.fst ((3 : Int) * x.fst) (Numbers.mk (if (2 : Int) * x_1.fst / IntKind.i64.wrap ((1 : Int) + (0 : Int)) < (1440 : Int) then (2 : Int) * x_1.fst / IntKind.i64.wrap ((1 : Int) + (0 : Int)) else (1440 : Int)) (if (2 : Int) * x_2.fst / IntKind.i64.wrap ((1 : Int) + IntKind.i64.wrap ((0 : Int) + (1 : Int))) < if (2 : Int) * x_1.fst / IntKind.i64.wrap ((1 : Int) + (0 : Int)) < (1440 : Int) then (2 : Int) * x_1.fst / IntKind.i64.wrap ((1 : Int) + (0 : Int)) else (1440 : Int) then (2 : Int) * x_2.fst / IntKind.i64.wrap ((1 : Int) + IntKind.i64.wrap ((0 : Int) + (1 : Int))) else if (2 : Int) * x_1.fst / IntKind.i64.wrap ((1 : Int) + (0 : Int)) < (1440 : Int) then (2 : Int) * x_1.fst / IntKind.i64.wrap ((1 : Int) + (0 : Int)) else (1440 : Int)) (if (2 : Int) * x_3.fst / IntKind.i64.wrap ((1 : Int) + IntKind.i64.wrap (IntKind.i64.wrap ((0 : Int) + (1 : Int)) + (1 : Int))) < if (2 : Int) * x_2.fst / IntKind.i64.wrap ((1 : Int) + IntKind.i64.wrap ((0 : Int) + (1 : Int))) < if (2 : Int) * x_1.fst / IntKind.i64.wrap ((1 : Int) + (0 : Int)) < (1440 : Int) then (2 : Int) * x_1.fst / IntKind.i64.wrap ((1 : Int) + (0 : Int)) else (1440 : Int) then (2 : Int) * x_2.fst / IntKind.i64.wrap ((1 : Int) + IntKind.i64.wrap ((0 : Int) + (1 : Int))) else if (2 : Int) * x_1.fst / IntKind.i64.wrap ((1 : Int) + (0 : Int)) < (1440 : Int) then (2 : Int) * x_1.fst / IntKind.i64.wrap ((1 : Int) + (0 : Int)) else (1440 : Int) then (2 : Int) * x_3.fst / IntKind.i64.wrap ((1 : Int) + IntKind.i64.wrap (IntKind.i64.wrap ((0 : Int) + (1 : Int)) + (1 : Int))) else if (2 : Int) * x_2.fst / IntKind.i64.wrap ((1 : Int) + IntKind.i64.wrap ((0 : Int) + (1 : Int))) < if (2 : Int) * x_1.fst / IntKind.i64.wrap ((1 : Int) + (0 : Int)) < (1440 : Int) then (2 : Int) * x_1.fst / IntKind.i64.wrap ((1 : Int) + (0 : Int)) else (1440 : Int) then (2 : Int) * x_2.fst / IntKind.i64.wrap ((1 : Int) + IntKind.i64.wrap ((0 : Int) + (1 : Int))) else if (2 : Int) * x_1.fst / IntKind.i64.wrap ((1 : Int) + (0 : Int)) < (1440 : Int) then (2 : Int) * x_1.fst / IntKind.i64.wrap ((1 : Int) + (0 : Int)) else (1440 : Int)) (if (2 : Int) * x_4.fst / IntKind.i64.wrap ((1 : Int) + IntKind.i64.wrap (IntKind.i64.wrap (IntKind.i64.wrap ((0 : Int) + (1 : Int)) + (1 : Int)) + (1 : Int))) < if (2 : Int) * x_3.fst / IntKind.i64.wrap ((1 : Int) + IntKind.i64.wrap (IntKind.i64.wrap ((0 : Int) + (1 : Int)) + (1 : Int))) < if (2 : Int) * x_2.fst / IntKind.i64.wrap ((1 : Int) + IntKind.i64.wrap ((0 : Int) + (1 : Int))) < if (2 : Int) * x_1.fst / IntKind.i64.wrap ((1 : Int) + (0 : Int)) < (1440 : Int) then (2 : Int) * x_1.fst / IntKind.i64.wrap ((1 : Int) + (0 : Int)) else (1440 : Int) then (2 : Int) * x_2.fst / IntKind.i64.wrap ((1 : Int) + IntKind.i64.wrap ((0 : Int) + (1 : Int))) else if (2 : Int) * x_1.fst / IntKind.i64.wrap ((1 : Int) + (0 : Int)) < (1440 : Int) then (2 : Int) * x_1.fst / IntKind.i64.wrap ((1 : Int) + (0 : Int)) else (1440 : Int) then (2 : Int) * x_3.fst / IntKind.i64.wrap ((1 : Int) + IntKind.i64.wrap (IntKind.i64.wrap ((0 : Int) + (1 : Int)) + (1 : Int))) else if (2 : Int) * x_2.fst / IntKind.i64.wrap ((1 : Int) + IntKind.i64.wrap ((0 : Int) + (1 : Int))) < if (2 : Int) * x_1.fst / IntKind.i64.wrap ((1 : Int) + (0 : Int)) < (1440 : Int) then (2 : Int) * x_1.fst / IntKind.i64.wrap ((1 : Int) + (0 : Int)) else (1440 : Int) then (2 : Int) * x_2.fst / IntKind.i64.wrap ((1 : Int) + IntKind.i64.wrap ((0 : Int) + (1 : Int))) else if (2 : Int) * x_1.fst / IntKind.i64.wrap ((1 : Int) + (0 : Int)) < (1440 : Int) then (2 : Int) * x_1.fst / IntKind.i64.wrap ((1 : Int) + (0 : Int)) else (1440 : Int) then (2 : Int) * x_4.fst / IntKind.i64.wrap ((1 : Int) + IntKind.i64.wrap (IntKind.i64.wrap (IntKind.i64.wrap ((0 : Int) + (1 : Int)) + (1 : Int)) + (1 : Int))) else if (2 : Int) * x_3.fst / IntKind.i64.wrap ((1 : Int) + IntKind.i64.wrap (IntKind.i64.wrap ((0 : Int) + (1 : Int)) + (1 : Int))) < if (2 : Int) * x_2.fst / IntKind.i64.wrap ((1 : Int) + IntKind.i64.wrap ((0 : Int) + (1 : Int))) < if (2 : Int) * x_1.fst / IntKind.i64.wrap ((1 : Int) + (0 : Int)) < (1440 : Int) then (2 : Int) * x_1.fst / IntKind.i64.wrap ((1 : Int) + (0 : Int)) else (1440 : Int) then (2 : Int) * x_2.fst / IntKind.i64.wrap ((1 : Int) + IntKind.i64.wrap ((0 : Int) + (1 : Int))) else if (2 : Int) * x_1.fst / IntKind.i64.wrap ((1 : Int) + (0 : Int)) < (1440 : Int) then (2 : Int) * x_1.fst / IntKind.i64.wrap ((1 : Int) + (0 : Int)) else (1440 : Int) then (2 : Int) * x_3.fst / IntKind.i64.wrap ((1 : Int) + IntKind.i64.wrap (IntKind.i64.wrap ((0 : Int) + (1 : Int)) + (1 : Int))) else if (2 : Int) * x_2.fst / IntKind.i64.wrap ((1 : Int) + IntKind.i64.wrap ((0 : Int) + (1 : Int))) < if (2 : Int) * x_1.fst / IntKind.i64.wrap ((1 : Int) + (0 : Int)) < (1440 : Int) then (2 : Int) * x_1.fst / IntKind.i64.wrap ((1 : Int) + (0 : Int)) else (1440 : Int) then (2 : Int) * x_2.fst / IntKind.i64.wrap ((1 : Int) + IntKind.i64.wrap ((0 : Int) + (1 : Int))) else if (2 : Int) * x_1.fst / IntKind.i64.wrap ((1 : Int) + (0 : Int)) < (1440 : Int) then (2 : Int) * x_1.fst / IntKind.i64.wrap ((1 : Int) + (0 : Int)) else (1440 : Int)))))) (F) (((0 : Int), [], x_15.snd)))))) (fun x_15 => brk (decide (x_13.snd.snd.snd.fst ≥ (↑a0.length : Int))) (x_15 (((0 : Int), x_13.snd.snd.snd.fst))) (chk (InR (x_13.snd.snd.snd.fst + (1 : Int))) (chk (InR (x_13.snd.snd.snd.fst + (1 : Int) - (1 : Int))) (chk ((0 : Int) ≤ x_13.snd.snd.snd.fst + (1 : Int) - (1 : Int) ∧ x_13.snd.snd.snd.fst + (1 : Int) - (1 : Int) < (↑a0.length : Int)) (chk (InR (a0.getD (x_13.snd.snd.snd.fst + (1 : Int) - (1 : Int)).toNat (0 : Int))) (chk ((0 : Int) ≤ a0.getD (x_13.snd.snd.snd.fst + (1 : Int) - (1 : Int)).toNat (0 : Int) ∧ a0.getD (x_13.snd.snd.snd.fst + (1 : Int) - (1 : Int)).toNat (0 : Int) ≤ (9223372036854775807 : Int)) (x_15 ((a0.getD (x_13.snd.snd.snd.fst + (1 : Int) - (1 : Int)).toNat (0 : Int) % (256 : Int), x_13.snd.snd.snd.fst + (1 : Int)))))))))))) (F) (((0 : Int), (0 : Int), (0 : Int), x_12.snd, [Point.mk (0 : Int) (0 : Int)]))) (fun x_12 => brk (decide (x_11.snd ≥ (↑a0.length : Int))) (x_12 (((0 : Int), x_11.snd))) (chk (InR (x_11.snd + (1 : Int))) (chk (InR (x_11.snd + (1 : Int) - (1 : Int))) (chk ((0 : Int) ≤ x_11.snd + (1 : Int) - (1 : Int) ∧ x_11.snd + (1 : Int) - (1 : Int) < (↑a0.length : Int)) (chk (InR (a0.getD (x_11.snd + (1 : Int) - (1 : Int)).toNat (0 : Int))) (chk ((0 : Int) ≤ a0.getD (x_11.snd + (1 : Int) - (1 : Int)).toNat (0 : Int) ∧ a0.getD (x_11.snd + (1 : Int) - (1 : Int)).toNat (0 : Int) ≤ (9223372036854775807 : Int)) (x_12 ((a0.getD (x_11.snd + (1 : Int) - (1 : Int)).toNat (0 : Int) % (4 : Int), x_11.snd + (1 : Int)))))))))))) (fun x_11 => brk (decide (x_10.snd ≥ (↑a0.length : Int))) (x_11 (((0 : Int), x_10.snd))) (chk (InR (x_10.snd + (1 : Int))) (chk (InR (x_10.snd + (1 : Int) - (1 : Int))) (chk ((0 : Int) ≤ x_10.snd + (1 : Int) - (1 : Int) ∧ x_10.snd + (1 : Int) - (1 : Int) < (↑a0.length : Int)) (chk (InR (a0.getD (x_10.snd + (1 : Int) - (1 : Int)).toNat (0 : Int))) (chk ((0 : Int) ≤ a0.getD (x_10.snd + (1 : Int) - (1 : Int)).toNat (0 : Int) ∧ a0.getD (x_10.snd + (1 : Int) - (1 : Int)).toNat (0 : Int) ≤ (9223372036854775807 : Int)) (x_11 ((a0.getD (x_10.snd + (1 : Int) - (1 : Int)).toNat (0 : Int) % (200 : Int), x_10.snd + (1 : Int)))))))))))) (fun x_10 => brk (decide (x_9.snd ≥ (↑a0.length : Int))) (x_10 (((0 : Int), x_9.snd))) (chk (InR (x_9.snd + (1 : Int))) (chk (InR (x_9.snd + (1 : Int) - (1 : Int))) (chk ((0 : Int) ≤ x_9.snd + (1 : Int) - (1 : Int) ∧ x_9.snd + (1 : Int) - (1 : Int) < (↑a0.length : Int)) (chk (InR (a0.getD (x_9.snd + (1 : Int) - (1 : Int)).toNat (0 : Int))) (chk ((0 : Int) ≤ a0.getD (x_9.snd + (1 : Int) - (1 : Int)).toNat (0 : Int) ∧ a0.getD (x_9.snd + (1 : Int) - (1 : Int)).toNat (0 : Int) ≤ (9223372036854775807 : Int)) (x_10 ((a0.getD (x_9.snd + (1 : Int) - (1 : Int)).toNat (0 : Int) % (60 : Int), x_9.snd + (1 : Int))))))))))))) (fun x_9 => brk (decide (x_6.snd.snd ≥ (↑a0.length : Int))) (x_9 (((0 : Int), x_6.snd.snd))) (chk (InR (x_6.snd.snd + (1 : Int))) (chk (InR (x_6.snd.snd + (1 : Int) - (1 : Int))) (chk ((0 : Int) ≤ x_6.snd.snd + (1 : Int) - (1 : Int) ∧ x_6.snd.snd + (1 : Int) - (1 : Int) < (↑a0.length : Int)) (chk (InR (a0.getD (x_6.snd.snd + (1 : Int) - (1 : Int)).toNat (0 : Int))) (chk ((0 : Int) ≤ a0.getD (x_6.snd.snd + (1 : Int) - (1 : Int)).toNat (0 : Int) ∧ a0.getD (x_6.snd.snd + (1 : Int) - (1 : Int)).toNat (0 : Int) ≤ (9223372036854775807 : Int)) (x_9 ((a0.getD (x_6.snd.snd + (1 : Int) - (1 : Int)).toNat (0 : Int) % (240 : Int), x_6.snd.snd + (1 : Int))))))))))))))))) (F) (([], (0 : Int), x_5.snd))) (fun x_5 => brk (decide (x_4.snd ≥ (↑a0.length : Int))) (x_5 (((0 : Int), x_4.snd))) (chk (InR (x_4.snd + (1 : Int))) (chk (InR (x_4.snd + (1 : Int) - (1 : Int))) (chk ((0 : Int) ≤ x_4.snd + (1 : Int) - (1 : Int) ∧ x_4.snd + (1 : Int) - (1 : Int) < (↑a0.length : Int)) (chk (InR (a0.getD (x_4.snd + (1 : Int) - (1 : Int)).toNat (0 : Int))) (chk (((0 : Int) ≤ a0.getD (x_4.snd + (1 : Int) - (1 : Int)).toNat (0 : Int) ∧ a0.getD (x_4.snd + (1 : Int) - (1 : Int)).toNat (0 : Int) ≤ (9223372036854775807 : Int)) ∧ (0 : Int) < a1 + (1 : Int)) (x_5 ((a0.getD (x_4.snd + (1 : Int) - (1 : Int)).toNat (0 : Int) % (a1 + (1 : Int)), x_4.snd + (1 : Int)))))))))))))) (fun x_4 => brk (decide (x_3.snd ≥ (↑a0.length : Int))) (x_4 (((0 : Int), x_3.snd))) (chk (InR (x_3.snd + (1 : Int))) (chk (InR (x_3.snd + (1 : Int) - (1 : Int))) (chk ((0 : Int) ≤ x_3.snd + (1 : Int) - (1 : Int) ∧ x_3.snd + (1 : Int) - (1 : Int) < (↑a0.length : Int)) (chk (InR (a0.getD (x_3.snd + (1 : Int) - (1 : Int)).toNat (0 : Int))) (chk ((0 : Int) ≤ a0.getD (x_3.snd + (1 : Int) - (1 : Int)).toNat (0 : Int) ∧ a0.getD (x_3.snd + (1 : Int) - (1 : Int)).toNat (0 : Int) ≤ (9223372036854775807 : Int)) (x_4 ((a0.getD (x_3.snd + (1 : Int) - (1 : Int)).toNat (0 : Int) % (256 : Int), x_3.snd + (1 : Int))))))))))))) (fun x_3 => brk (decide (x_2.snd ≥ (↑a0.length : Int))) (x_3 (((0 : Int), x_2.snd))) (chk (InR (x_2.snd + (1 : Int))) (chk (InR (x_2.snd + (1 : Int) - (1 : Int))) (chk ((0 : Int) ≤ x_2.snd + (1 : Int) - (1 : Int) ∧ x_2.snd + (1 : Int) - (1 : Int) < (↑a0.length : Int)) (chk (InR (a0.getD (x_2.snd + (1 : Int) - (1 : Int)).toNat (0 : Int))) (chk ((0 : Int) ≤ a0.getD (x_2.snd + (1 : Int) - (1 : Int)).toNat (0 : Int) ∧ a0.getD (x_2.snd + (1 : Int) - (1 : Int)).toNat (0 : Int) ≤ (9223372036854775807 : Int)) (x_3 ((a0.getD (x_2.snd + (1 : Int) - (1 : Int)).toNat (0 : Int) % (256 : Int), x_2.snd + (1 : Int))))))))))))) (fun x_2 => brk (decide (x_1.snd ≥ (↑a0.length : Int))) (x_2 (((0 : Int), x_1.snd))) (chk (InR (x_1.snd + (1 : Int))) (chk (InR (x_1.snd + (1 : Int) - (1 : Int))) (chk ((0 : Int) ≤ x_1.snd + (1 : Int) - (1 : Int) ∧ x_1.snd + (1 : Int) - (1 : Int) < (↑a0.length : Int)) (chk (InR (a0.getD (x_1.snd + (1 : Int) - (1 : Int)).toNat (0 : Int))) (chk ((0 : Int) ≤ a0.getD (x_1.snd + (1 : Int) - (1 : Int)).toNat (0 : Int) ∧ a0.getD (x_1.snd + (1 : Int) - (1 : Int)).toNat (0 : Int) ≤ (9223372036854775807 : Int)) (x_2 ((a0.getD (x_1.snd + (1 : Int) - (1 : Int)).toNat (0 : Int) % (256 : Int), x_1.snd + (1 : Int))))))))))))) (fun x_1 => brk (decide (x.snd ≥ (↑a0.length : Int))) (x_1 (((0 : Int), x.snd))) (chk (InR (x.snd + (1 : Int))) (chk (InR (x.snd + (1 : Int) - (1 : Int))) (chk ((0 : Int) ≤ x.snd + (1 : Int) - (1 : Int) ∧ x.snd + (1 : Int) - (1 : Int) < (↑a0.length : Int)) (chk (InR (a0.getD (x.snd + (1 : Int) - (1 : Int)).toNat (0 : Int))) (chk ((0 : Int) ≤ a0.getD (x.snd + (1 : Int) - (1 : Int)).toNat (0 : Int) ∧ a0.getD (x.snd + (1 : Int) - (1 : Int)).toNat (0 : Int) ≤ (9223372036854775807 : Int)) (x_1 ((a0.getD (x.snd + (1 : Int) - (1 : Int)).toNat (0 : Int) % (256 : Int), x.snd + (1 : Int)))))))))))) (fun x => brk (decide ((0 : Int) ≥ (↑a0.length : Int))) (x (((0 : Int), (0 : Int)))) (chk ((0 : Int) ≤ IntKind.i64.wrap (IntKind.i64.wrap ((0 : Int) + (1 : Int)) - (1 : Int)) ∧ IntKind.i64.wrap (IntKind.i64.wrap ((0 : Int) + (1 : Int)) - (1 : Int)) < (↑a0.length : Int)) (chk (InR (a0.getD (IntKind.i64.wrap (IntKind.i64.wrap ((0 : Int) + (1 : Int)) - (1 : Int))).toNat (0 : Int))) (chk ((0 : Int) ≤ a0.getD (IntKind.i64.wrap (IntKind.i64.wrap ((0 : Int) + (1 : Int)) - (1 : Int))).toNat (0 : Int) ∧ a0.getD (IntKind.i64.wrap (IntKind.i64.wrap ((0 : Int) + (1 : Int)) - (1 : Int))).toNat (0 : Int) ≤ (9223372036854775807 : Int)) (x ((a0.getD (IntKind.i64.wrap (IntKind.i64.wrap ((0 : Int) + (1 : Int)) - (1 : Int))).toNat (0 : Int) % (80 : Int), IntKind.i64.wrap ((0 : Int) + (1 : Int)))))))))
noncomputable def s9 (F : Nat) : CS E.G := ⟨9, [.sl 2, .v 0 false], [.v 13 true [104, 104, 104, 104, 27]], fun x => law05_Made F x.1 x.2.1⟩
noncomputable def cx9 (F : Nat) : Ctx E := ⟨[s41 F], [(10, Tryd.f10), (42, Tryd.f42), (40, Tryd.f40)], F, []⟩
noncomputable def h9 : Hint := (.p (.w ⟨[.i, .i], [], [0, 1, 3, 4], [(0, .i IntKind.i64)], [], [(4, 0, .i IntKind.i64)], [], 6⟩ .n (.u 5 (.w ⟨[.i, .i], [], [0, 1, 3, 4], [(0, .i IntKind.i64)], [], [(4, 0, .i IntKind.i64)], [], 7⟩ .n (.w ⟨[.i, .i], [], [0, 1, 3, 4], [(0, .i IntKind.i64)], [], [(4, 0, .i IntKind.i64)], [], 7⟩ .n (.w ⟨[.i, .i], [], [0, 1, 3, 4], [(0, .i IntKind.i64)], [], [(4, 0, .i IntKind.i64)], [], 7⟩ .n (.w ⟨[.i, .i], [], [0, 1, 3, 4], [(0, .i IntKind.i64)], [], [(4, 0, .i IntKind.i64)], [], 7⟩ .n (.w ⟨[.i, .i], [], [0, 1, 3, 4], [(0, .i IntKind.i64)], [], [(4, 0, .i IntKind.i64)], [], 7⟩ .n (.p (.l ⟨[.l 2, .i, .i], [0, 16], [0, 1, 3, 5, 4, 7], [(32, .h 8 5 2), (96, .i IntKind.i64)], [], [(4, 0, .i IntKind.i64)], [], 9⟩ (.c (.w ⟨[.i, .i], [], [0, 1, 3, 4], [(0, .i IntKind.i64)], [], [(4, 0, .i IntKind.i64)], [], 9⟩ .n .n) (.w ⟨[.i, .i], [], [0, 1, 3, 4], [(0, .i IntKind.i64)], [], [(4, 0, .i IntKind.i64)], [], 12⟩ .n (.w ⟨[.i, .i], [], [0, 1, 3, 4], [(0, .i IntKind.i64)], [], [(4, 0, .i IntKind.i64)], [], 12⟩ .n (.w ⟨[.i, .i], [], [0, 1, 3, 4], [(0, .i IntKind.i64)], [], [(4, 0, .i IntKind.i64)], [], 12⟩ .n (.w ⟨[.i, .i], [], [0, 1, 3, 4], [(0, .i IntKind.i64)], [], [(4, 0, .i IntKind.i64)], [], 14⟩ .n (.l ⟨[.i, .i, .i, .i, .l 7], [0, 16, 672, 48], [0, 1, 3, 5, 4, 7, 12, 11, 10, 9], [(64, .i IntKind.i64), (80, .i IntKind.i64), (688, .i IntKind.i64)], [], [(4, 0, .i IntKind.i64), (12, 11, .h 14 104 7)], [], 15⟩ (.c (.w ⟨[.i, .i], [], [0, 1, 3, 4], [(0, .i IntKind.i64)], [], [(4, 0, .i IntKind.i64)], [], 15⟩ .n (.w ⟨[.i, .i], [], [0, 1, 3, 4], [(0, .i IntKind.i64)], [], [(4, 0, .i IntKind.i64)], [], 15⟩ .n .n)) (.w ⟨[.i, .i], [], [0, 1, 3, 4], [(0, .i IntKind.i64)], [], [(4, 0, .i IntKind.i64)], [], 15⟩ .n (.l ⟨[.i, .l 10, .i], [64, 704, 96, 112], [0, 2, 5, 6, 4, 3, 16, 11, 10, 9, 1], [(720, .i IntKind.i64)], [], [(6, 15, .h 17 27 10), (4, 0, .i IntKind.i64)], [], 18⟩ (.c (.p (.l ⟨[.l 2, .i, .i], [0, 16], [0, 1, 3, 5, 4, 18], [(32, .h 19 5 2), (96, .i IntKind.i64)], [], [(4, 0, .i IntKind.i64)], [], 20⟩ (.c (.w ⟨[.i, .i], [], [0, 1, 3, 4], [(0, .i IntKind.i64)], [], [(4, 0, .i IntKind.i64)], [], 20⟩ .n .n) (.w ⟨[.i, .i], [], [0, 1, 3, 4], [(0, .i IntKind.i64)], [], [(4, 0, .i IntKind.i64)], [], 23⟩ .n (.w ⟨[.i, .i], [], [0, 1, 3, 4], [(0, .i IntKind.i64)], [], [(4, 0, .i IntKind.i64)], [], 23⟩ .n (.w ⟨[.i, .i], [], [0, 1, 3, 4], [(0, .i IntKind.i64)], [], [(4, 0, .i IntKind.i64)], [], 23⟩ .n (.w ⟨[.i, .i], [], [0, 1, 3, 4], [(0, .i IntKind.i64)], [], [(4, 0, .i IntKind.i64)], [], 25⟩ .n (.l ⟨[.i, .i, .i, .i, .l 7], [0, 16, 672, 48], [0, 1, 3, 5, 4, 18, 23, 22, 21, 20], [(64, .i IntKind.i64), (80, .i IntKind.i64), (688, .i IntKind.i64)], [], [(4, 0, .i IntKind.i64), (23, 11, .h 25 104 7)], [], 26⟩ (.c (.w ⟨[.i, .i], [], [0, 1, 3, 4], [(0, .i IntKind.i64)], [], [(4, 0, .i IntKind.i64)], [], 26⟩ .n (.w ⟨[.i, .i], [], [0, 1, 3, 4], [(0, .i IntKind.i64)], [], [(4, 0, .i IntKind.i64)], [], 26⟩ .n .n)) (.w ⟨[.i, .i], [], [0, 1, 3, 4], [(0, .i IntKind.i64)], [], [(4, 0, .i IntKind.i64)], [], 26⟩ .n .n)))))))))) .n))))))))))))))))))))
theorem e9 (F : Nat) (a0 : List Int) (a1 : Int) : fnK (E := E) (cx9 F) Tryd.f9 gl [.sl 2, .v 0 false] [.v 13 true [104, 104, 104, 104, 27]] h9 (a0, a1, ()) = law05_Made F a0 a1 := by kernel_rfl
theorem c9 (F : Nat) : CSok E gl (s9 F) := ⟨en9, by
  have h := fn_sound (E := E) (gl := gl) (cx := cx9 F) mix (allC (c41 F) all0) (inlC hf10 en10 (inlC hf42 en42 (inlC hf40 en40 inl0))) gl_up gl_lt hf9 (ps := [.sl 2, .v 0 false]) (rs := [.v 13 true [104, 104, 104, 104, 27]]) (by decide) h9
  rwa [show fnK (E := E) (cx9 F) Tryd.f9 gl [.sl 2, .v 0 false] [.v 13 true [104, 104, 104, 104, 27]] h9 = (fun x : AT E.G.car [.sl 2, .v 0 false] => law05_Made F x.1 x.2.1) from funext fun x => e9 F x.1 x.2.1] at h⟩
theorem hf46 : Tryd.prog.funcs[46]? = some Tryd.f46 := by kernel_rfl
theorem en46 : Proofs.Enters Tryd.prog 46 := Proofs.enters_of hf46 (by kernel_rfl) rfl
noncomputable def convoy_within (F : Nat) (a0 : Int) (a1 : Int) (a2 : Int) : Option (Bool) :=
  some (decide (a0 ≥ a1) && decide (a0 ≤ a2))
noncomputable def s46 (F : Nat) : CS E.G := ⟨46, [.v 0 false, .v 0 false, .v 0 false], [.v 1 false []], fun x => convoy_within F x.1 x.2.1 x.2.2.1⟩
noncomputable def cx46 (F : Nat) : Ctx E := ⟨[], [], F, []⟩
noncomputable def h46 : Hint := .n
theorem e46 (F : Nat) (a0 : Int) (a1 : Int) (a2 : Int) : fnK (E := E) (cx46 F) Tryd.f46 gl [.v 0 false, .v 0 false, .v 0 false] [.v 1 false []] h46 (a0, a1, a2, ()) = convoy_within F a0 a1 a2 := by kernel_rfl
theorem c46 (F : Nat) : CSok E gl (s46 F) := ⟨en46, by
  have h := fn_sound (E := E) (gl := gl) (cx := cx46 F) mix all0 inl0 gl_up gl_lt hf46 (ps := [.v 0 false, .v 0 false, .v 0 false]) (rs := [.v 1 false []]) (by decide) h46
  rwa [show fnK (E := E) (cx46 F) Tryd.f46 gl [.v 0 false, .v 0 false, .v 0 false] [.v 1 false []] h46 = (fun x : AT E.G.car [.v 0 false, .v 0 false, .v 0 false] => convoy_within F x.1 x.2.1 x.2.2.1) from funext fun x => e46 F x.1 x.2.1 x.2.2.1] at h⟩
theorem hf62 : Tryd.prog.funcs[62]? = some Tryd.f62 := by kernel_rfl
theorem en62 : Proofs.Enters Tryd.prog 62 := Proofs.enters_of hf62 (by kernel_rfl) rfl
noncomputable def hull_within (F : Nat) (a0 : Int) (a1 : Int) (a2 : Int) : Option (Bool) :=
  some (decide (a0 ≥ a1) && decide (a0 ≤ a2))
noncomputable def s62 (F : Nat) : CS E.G := ⟨62, [.v 0 false, .v 0 false, .v 0 false], [.v 1 false []], fun x => hull_within F x.1 x.2.1 x.2.2.1⟩
noncomputable def cx62 (F : Nat) : Ctx E := ⟨[], [], F, []⟩
noncomputable def h62 : Hint := .n
theorem e62 (F : Nat) (a0 : Int) (a1 : Int) (a2 : Int) : fnK (E := E) (cx62 F) Tryd.f62 gl [.v 0 false, .v 0 false, .v 0 false] [.v 1 false []] h62 (a0, a1, a2, ()) = hull_within F a0 a1 a2 := by kernel_rfl
theorem c62 (F : Nat) : CSok E gl (s62 F) := ⟨en62, by
  have h := fn_sound (E := E) (gl := gl) (cx := cx62 F) mix all0 inl0 gl_up gl_lt hf62 (ps := [.v 0 false, .v 0 false, .v 0 false]) (rs := [.v 1 false []]) (by decide) h62
  rwa [show fnK (E := E) (cx62 F) Tryd.f62 gl [.v 0 false, .v 0 false, .v 0 false] [.v 1 false []] h62 = (fun x : AT E.G.car [.v 0 false, .v 0 false, .v 0 false] => hull_within F x.1 x.2.1 x.2.2.1) from funext fun x => e62 F x.1 x.2.1 x.2.2.1] at h⟩
theorem hf135 : Tryd.prog.funcs[135]? = some Tryd.f135 := by kernel_rfl
theorem en135 : Proofs.Enters Tryd.prog 135 := Proofs.enters_of hf135 (by kernel_rfl) rfl
noncomputable def hull_rules_1 (F : Nat) (a0 : Ship) : Option (Bool) :=
  bnd (hull_within F a0.Class (1 : Int) (6 : Int)) (fun (x : Bool) => some (x))
noncomputable def s135 (F : Nat) : CS E.G := ⟨135, [.v 9 true], [.v 1 false []], fun x => hull_rules_1 F x.1⟩
noncomputable def cx135 (F : Nat) : Ctx E := ⟨[s62 F], [], F, []⟩
noncomputable def h135 : Hint := .n
theorem e135 (F : Nat) (a0 : Ship) : fnK (E := E) (cx135 F) Tryd.f135 gl [.v 9 true] [.v 1 false []] h135 (a0, ()) = hull_rules_1 F a0 := by kernel_rfl
theorem c135 (F : Nat) : CSok E gl (s135 F) := ⟨en135, by
  have h := fn_sound (E := E) (gl := gl) (cx := cx135 F) mix (allC (c62 F) all0) inl0 gl_up gl_lt hf135 (ps := [.v 9 true]) (rs := [.v 1 false []]) (by decide) h135
  rwa [show fnK (E := E) (cx135 F) Tryd.f135 gl [.v 9 true] [.v 1 false []] h135 = (fun x : AT E.G.car [.v 9 true] => hull_rules_1 F x.1) from funext fun x => e135 F x.1] at h⟩
theorem hf136 : Tryd.prog.funcs[136]? = some Tryd.f136 := by kernel_rfl
theorem en136 : Proofs.Enters Tryd.prog 136 := Proofs.enters_of hf136 (by kernel_rfl) rfl
noncomputable def hull_rules_2 (F : Nat) (a0 : Ship) : Option (Bool) :=
  bnd (hull_within F a0.Power (100 : Int) (100000 : Int)) (fun (x : Bool) => bnd (brk x (hull_within F a0.Draught (10 : Int) (2000 : Int)) (some false)) (fun (x_1 : Bool) => bnd (brk (x && x_1) (hull_within F a0.Tonnes (10 : Int) (500000 : Int)) (some false)) (fun (x_2 : Bool) => some (x && x_1 && x_2))))
noncomputable def s136 (F : Nat) : CS E.G := ⟨136, [.v 9 true], [.v 1 false []], fun x => hull_rules_2 F x.1⟩
noncomputable def cx136 (F : Nat) : Ctx E := ⟨[s62 F], [], F, []⟩
noncomputable def h136 : Hint := .n
theorem e136 (F : Nat) (a0 : Ship) : fnK (E := E) (cx136 F) Tryd.f136 gl [.v 9 true] [.v 1 false []] h136 (a0, ()) = hull_rules_2 F a0 := by kernel_rfl
theorem c136 (F : Nat) : CSok E gl (s136 F) := ⟨en136, by
  have h := fn_sound (E := E) (gl := gl) (cx := cx136 F) mix (allC (c62 F) all0) inl0 gl_up gl_lt hf136 (ps := [.v 9 true]) (rs := [.v 1 false []]) (by decide) h136
  rwa [show fnK (E := E) (cx136 F) Tryd.f136 gl [.v 9 true] [.v 1 false []] h136 = (fun x : AT E.G.car [.v 9 true] => hull_rules_2 F x.1) from funext fun x => e136 F x.1] at h⟩
theorem hf137 : Tryd.prog.funcs[137]? = some Tryd.f137 := by kernel_rfl
theorem en137 : Proofs.Enters Tryd.prog 137 := Proofs.enters_of hf137 (by kernel_rfl) rfl
noncomputable def hull_rules_3 (F : Nat) (a0 : Ship) : Option (Bool) :=
  bnd (hull_within F a0.Slow (0 : Int) (20 : Int)) (fun (x : Bool) => bnd (brk x (hull_within F a0.Brash (0 : Int) (100 : Int)) (some false)) (fun (x_1 : Bool) => bnd (brk (x && x_1) (hull_within F a0.Ridge (0 : Int) (500 : Int)) (some false)) (fun (x_2 : Bool) => bnd (brk (x && x_1 && x_2) (hull_within F a0.Press (0 : Int) (5000 : Int)) (some false)) (fun (x_3 : Bool) => some (x && x_1 && x_2 && x_3)))))
noncomputable def s137 (F : Nat) : CS E.G := ⟨137, [.v 9 true], [.v 1 false []], fun x => hull_rules_3 F x.1⟩
noncomputable def cx137 (F : Nat) : Ctx E := ⟨[s62 F], [], F, []⟩
noncomputable def h137 : Hint := .n
theorem e137 (F : Nat) (a0 : Ship) : fnK (E := E) (cx137 F) Tryd.f137 gl [.v 9 true] [.v 1 false []] h137 (a0, ()) = hull_rules_3 F a0 := by kernel_rfl
theorem c137 (F : Nat) : CSok E gl (s137 F) := ⟨en137, by
  have h := fn_sound (E := E) (gl := gl) (cx := cx137 F) mix (allC (c62 F) all0) inl0 gl_up gl_lt hf137 (ps := [.v 9 true]) (rs := [.v 1 false []]) (by decide) h137
  rwa [show fnK (E := E) (cx137 F) Tryd.f137 gl [.v 9 true] [.v 1 false []] h137 = (fun x : AT E.G.car [.v 9 true] => hull_rules_3 F x.1) from funext fun x => e137 F x.1] at h⟩
theorem hf120 : Tryd.prog.funcs[120]? = some Tryd.f120 := by kernel_rfl
theorem en120 : Proofs.Enters Tryd.prog 120 := Proofs.enters_of hf120 (by kernel_rfl) rfl
noncomputable def hull_end (F : Nat) (a0 : List Point) : Option (Int) :=
  chk (InR ((↑a0.length : Int) - (1 : Int))) (chk ((0 : Int) ≤ (↑a0.length : Int) - (1 : Int) ∧ (↑a0.length : Int) - (1 : Int) < (↑a0.length : Int)) (some ((a0.getD ((↑a0.length : Int) - (1 : Int)).toNat (Point.mk (0 : Int) (0 : Int))).X)))
noncomputable def s120 (F : Nat) : CS E.G := ⟨120, [.sl 7], [.v 0 false []], fun x => hull_end F x.1⟩
noncomputable def cx120 (F : Nat) : Ctx E := ⟨[], [], F, []⟩
noncomputable def h120 : Hint := .n
theorem e120 (F : Nat) (a0 : List Point) : fnK (E := E) (cx120 F) Tryd.f120 gl [.sl 7] [.v 0 false []] h120 (a0, ()) = hull_end F a0 := by kernel_rfl
theorem c120 (F : Nat) : CSok E gl (s120 F) := ⟨en120, by
  have h := fn_sound (E := E) (gl := gl) (cx := cx120 F) mix all0 inl0 gl_up gl_lt hf120 (ps := [.sl 7]) (rs := [.v 0 false []]) (by decide) h120
  rwa [show fnK (E := E) (cx120 F) Tryd.f120 gl [.sl 7] [.v 0 false []] h120 = (fun x : AT E.G.car [.sl 7] => hull_end F x.1) from funext fun x => e120 F x.1] at h⟩
theorem hf130 : Tryd.prog.funcs[130]? = some Tryd.f130 := by kernel_rfl
theorem en130 : Proofs.Enters Tryd.prog 130 := Proofs.enters_of hf130 (by kernel_rfl) rfl
noncomputable def hull_curve (F : Nat) (a0 : List Point) : Option (Bool) :=
  bnd (hull_within F (↑a0.length : Int) (2 : Int) (8 : Int)) (fun (x : Bool) => chk ((!!x) = true → (0 : Int) ≤ (0 : Int) ∧ (0 : Int) < (↑a0.length : Int)) (brk (!x || (a0.getD (Int.toNat (0 : Int)) (Point.mk (0 : Int) (0 : Int))).X != (0 : Int)) (some (false)) (loopC (fun (x_1 : Int) => fun x_2 => brk (decide (x_1 < (↑a0.length : Int))) (chk ((0 : Int) ≤ x_1 ∧ x_1 < (↑a0.length : Int)) (bnd (hull_within F (a0.getD (Int.toNat x_1) (Point.mk (0 : Int) (0 : Int))).X (0 : Int) (400 : Int)) (fun (x_3 : Bool) => bnd (brk (!!x_3) (hull_within F (a0.getD (Int.toNat x_1) (Point.mk (0 : Int) (0 : Int))).Y (0 : Int) (20000 : Int)) (some false)) (fun (x_4 : Bool) => chk ((!(!x_3 || !x_4) && decide (x_1 > (0 : Int))) = true → InR (x_1 - (1 : Int))) (chk ((!(!x_3 || !x_4) && decide (x_1 > (0 : Int))) = true → (0 : Int) ≤ x_1 - (1 : Int) ∧ x_1 - (1 : Int) < (↑a0.length : Int)) (brk (!x_3 || !x_4 || decide (x_1 > (0 : Int)) && decide ((a0.getD (Int.toNat x_1) (Point.mk (0 : Int) (0 : Int))).X ≤ (a0.getD (x_1 - (1 : Int)).toNat (Point.mk (0 : Int) (0 : Int))).X)) (some (false)) (chk (InR (x_1 + (1 : Int))) (x_2 (x_1 + (1 : Int)))))))))) (some (true))) (F) ((0 : Int)))))
noncomputable def s130 (F : Nat) : CS E.G := ⟨130, [.sl 7], [.v 1 false []], fun x => hull_curve F x.1⟩
noncomputable def cx130 (F : Nat) : Ctx E := ⟨[s62 F], [], F, []⟩
noncomputable def h130 : Hint := (.c .n (.l ⟨[.i], [0, 256, 272], [0, 1], [(288, .i IntKind.i64)], [], [], [], 2⟩ (.c .n .n)))
theorem e130 (F : Nat) (a0 : List Point) : fnK (E := E) (cx130 F) Tryd.f130 gl [.sl 7] [.v 1 false []] h130 (a0, ()) = hull_curve F a0 := by kernel_rfl
theorem c130 (F : Nat) : CSok E gl (s130 F) := ⟨en130, by
  have h := fn_sound (E := E) (gl := gl) (cx := cx130 F) mix (allC (c62 F) all0) inl0 gl_up gl_lt hf130 (ps := [.sl 7]) (rs := [.v 1 false []]) (by decide) h130
  rwa [show fnK (E := E) (cx130 F) Tryd.f130 gl [.sl 7] [.v 1 false []] h130 = (fun x : AT E.G.car [.sl 7] => hull_curve F x.1) from funext fun x => e130 F x.1] at h⟩
theorem hf139 : Tryd.prog.funcs[139]? = some Tryd.f139 := by kernel_rfl
theorem en139 : Proofs.Enters Tryd.prog 139 := Proofs.enters_of hf139 (by kernel_rfl) rfl
noncomputable def hull_steady (F : Nat) (a0 : List Point) (a1 : Int) : Option (Bool) :=
  bnd (hull_curve F a0) (fun (x : Bool) => brk (!x) (some (false)) (loopC (fun (x_1 : Int) => fun x_2 => brk (decide (x_1 < (↑a0.length : Int))) (chk ((0 : Int) ≤ x_1 ∧ x_1 < (↑a0.length : Int)) (chk (InR (x_1 - (1 : Int))) (chk ((0 : Int) ≤ x_1 - (1 : Int) ∧ x_1 - (1 : Int) < (↑a0.length : Int)) (chk (InR ((a0.getD (Int.toNat x_1) (Point.mk (0 : Int) (0 : Int))).Y - (a0.getD (x_1 - (1 : Int)).toNat (Point.mk (0 : Int) (0 : Int))).Y)) (chk (InR (((a0.getD (Int.toNat x_1) (Point.mk (0 : Int) (0 : Int))).Y - (a0.getD (x_1 - (1 : Int)).toNat (Point.mk (0 : Int) (0 : Int))).Y) * a1)) (brk (decide (((a0.getD (Int.toNat x_1) (Point.mk (0 : Int) (0 : Int))).Y - (a0.getD (x_1 - (1 : Int)).toNat (Point.mk (0 : Int) (0 : Int))).Y) * a1 < (0 : Int))) (some (false)) (chk (InR (x_1 + (1 : Int))) (x_2 (x_1 + (1 : Int)))))))))) (some (true))) (F) ((1 : Int))))
noncomputable def s139 (F : Nat) : CS E.G := ⟨139, [.sl 7, .v 0 false], [.v 1 false []], fun x => hull_steady F x.1 x.2.1⟩
noncomputable def cx139 (F : Nat) : Ctx E := ⟨[s130 F], [], F, []⟩
noncomputable def h139 : Hint := (.c .n (.l ⟨[.i], [0, 16], [0, 1], [(80, .i IntKind.i64)], [], [], [], 2⟩ (.c .n .n)))
theorem e139 (F : Nat) (a0 : List Point) (a1 : Int) : fnK (E := E) (cx139 F) Tryd.f139 gl [.sl 7, .v 0 false] [.v 1 false []] h139 (a0, a1, ()) = hull_steady F a0 a1 := by kernel_rfl
theorem c139 (F : Nat) : CSok E gl (s139 F) := ⟨en139, by
  have h := fn_sound (E := E) (gl := gl) (cx := cx139 F) mix (allC (c130 F) all0) inl0 gl_up gl_lt hf139 (ps := [.sl 7, .v 0 false]) (rs := [.v 1 false []]) (by decide) h139
  rwa [show fnK (E := E) (cx139 F) Tryd.f139 gl [.sl 7, .v 0 false] [.v 1 false []] h139 = (fun x : AT E.G.car [.sl 7, .v 0 false] => hull_steady F x.1 x.2.1) from funext fun x => e139 F x.1 x.2.1] at h⟩
theorem hf138 : Tryd.prog.funcs[138]? = some Tryd.f138 := by kernel_rfl
theorem en138 : Proofs.Enters Tryd.prog 138 := Proofs.enters_of hf138 (by kernel_rfl) rfl
noncomputable def hull_rules_4 (F : Nat) (a0 : Ship) : Option (Bool) :=
  bnd (hull_steady F a0.Thrust (-1 : Int)) (fun (x : Bool) => bnd (brk x (hull_end F a0.Thrust) (some (0 : Int))) (fun (x_1 : Int) => bnd (brk x (hull_within F x_1 (10 : Int) (250 : Int)) (some false)) (fun (x_2 : Bool) => some (x && x_2))))
noncomputable def s138 (F : Nat) : CS E.G := ⟨138, [.v 9 true], [.v 1 false []], fun x => hull_rules_4 F x.1⟩
noncomputable def cx138 (F : Nat) : Ctx E := ⟨[s62 F, s120 F, s139 F], [], F, []⟩
noncomputable def h138 : Hint := .n
theorem e138 (F : Nat) (a0 : Ship) : fnK (E := E) (cx138 F) Tryd.f138 gl [.v 9 true] [.v 1 false []] h138 (a0, ()) = hull_rules_4 F a0 := by kernel_rfl
theorem c138 (F : Nat) : CSok E gl (s138 F) := ⟨en138, by
  have h := fn_sound (E := E) (gl := gl) (cx := cx138 F) mix (allC (c62 F) (allC (c120 F) (allC (c139 F) all0))) inl0 gl_up gl_lt hf138 (ps := [.v 9 true]) (rs := [.v 1 false []]) (by decide) h138
  rwa [show fnK (E := E) (cx138 F) Tryd.f138 gl [.v 9 true] [.v 1 false []] h138 = (fun x : AT E.G.car [.v 9 true] => hull_rules_4 F x.1) from funext fun x => e138 F x.1] at h⟩
theorem hf140 : Tryd.prog.funcs[140]? = some Tryd.f140 := by kernel_rfl
theorem en140 : Proofs.Enters Tryd.prog 140 := Proofs.enters_of hf140 (by kernel_rfl) rfl
noncomputable def hull_rules_5 (F : Nat) (a0 : Ship) : Option (Bool) :=
  bnd (hull_steady F a0.Water (1 : Int)) (fun (x : Bool) => bnd (brk x (hull_end F a0.Water) (some (0 : Int))) (fun (x_1 : Int) => some (x && decide (x_1 ≤ (250 : Int)))))
noncomputable def s140 (F : Nat) : CS E.G := ⟨140, [.v 9 true], [.v 1 false []], fun x => hull_rules_5 F x.1⟩
noncomputable def cx140 (F : Nat) : Ctx E := ⟨[s120 F, s139 F], [], F, []⟩
noncomputable def h140 : Hint := .n
theorem e140 (F : Nat) (a0 : Ship) : fnK (E := E) (cx140 F) Tryd.f140 gl [.v 9 true] [.v 1 false []] h140 (a0, ()) = hull_rules_5 F a0 := by kernel_rfl
theorem c140 (F : Nat) : CSok E gl (s140 F) := ⟨en140, by
  have h := fn_sound (E := E) (gl := gl) (cx := cx140 F) mix (allC (c120 F) (allC (c139 F) all0)) inl0 gl_up gl_lt hf140 (ps := [.v 9 true]) (rs := [.v 1 false []]) (by decide) h140
  rwa [show fnK (E := E) (cx140 F) Tryd.f140 gl [.v 9 true] [.v 1 false []] h140 = (fun x : AT E.G.car [.v 9 true] => hull_rules_5 F x.1) from funext fun x => e140 F x.1] at h⟩
theorem hf141 : Tryd.prog.funcs[141]? = some Tryd.f141 := by kernel_rfl
theorem en141 : Proofs.Enters Tryd.prog 141 := Proofs.enters_of hf141 (by kernel_rfl) rfl
noncomputable def hull_rules_6 (F : Nat) (a0 : Ship) : Option (Bool) :=
  bnd (hull_steady F a0.Ice (1 : Int)) (fun (x : Bool) => chk (x = true → (0 : Int) ≤ (0 : Int) ∧ (0 : Int) < (↑a0.Ice.length : Int)) (bnd (brk (x && (a0.Ice.getD (Int.toNat (0 : Int)) (Point.mk (0 : Int) (0 : Int))).Y == (0 : Int)) (hull_end F a0.Ice) (some (0 : Int))) (fun (x_1 : Int) => some (x && (a0.Ice.getD (Int.toNat (0 : Int)) (Point.mk (0 : Int) (0 : Int))).Y == (0 : Int) && x_1 == (400 : Int)))))
noncomputable def s141 (F : Nat) : CS E.G := ⟨141, [.v 9 true], [.v 1 false []], fun x => hull_rules_6 F x.1⟩
noncomputable def cx141 (F : Nat) : Ctx E := ⟨[s120 F, s139 F], [], F, []⟩
noncomputable def h141 : Hint := .n
theorem e141 (F : Nat) (a0 : Ship) : fnK (E := E) (cx141 F) Tryd.f141 gl [.v 9 true] [.v 1 false []] h141 (a0, ()) = hull_rules_6 F a0 := by kernel_rfl
theorem c141 (F : Nat) : CSok E gl (s141 F) := ⟨en141, by
  have h := fn_sound (E := E) (gl := gl) (cx := cx141 F) mix (allC (c120 F) (allC (c139 F) all0)) inl0 gl_up gl_lt hf141 (ps := [.v 9 true]) (rs := [.v 1 false []]) (by decide) h141
  rwa [show fnK (E := E) (cx141 F) Tryd.f141 gl [.v 9 true] [.v 1 false []] h141 = (fun x : AT E.G.car [.v 9 true] => hull_rules_6 F x.1) from funext fun x => e141 F x.1] at h⟩
theorem hf103 : Tryd.prog.funcs[103]? = some Tryd.f103 := by kernel_rfl
theorem en103 : Proofs.Enters Tryd.prog 103 := Proofs.enters_of hf103 (by kernel_rfl) rfl
theorem hf61 : Tryd.prog.funcs[61]? = some Tryd.f61 := by kernel_rfl
theorem en61 : Proofs.Enters Tryd.prog 61 := Proofs.enters_of hf61 (by kernel_rfl) rfl
noncomputable def hull_Check (F : Nat) (a0 : Ship) : Option (Int) :=
  bnd (hull_rules_1 F a0) (fun (x : Bool) => brk (!x) (some ((41 : Int))) (bnd (hull_rules_2 F a0) (fun (x_1 : Bool) => brk (!x_1) (some ((40 : Int))) (bnd (hull_rules_3 F a0) (fun (x_2 : Bool) => brk (!x_2) (some ((40 : Int))) (bnd (hull_rules_4 F a0) (fun (x_3 : Bool) => brk (!x_3) (some ((40 : Int))) (bnd (hull_rules_5 F a0) (fun (x_4 : Bool) => brk (!x_4) (some ((40 : Int))) (bnd (hull_rules_6 F a0) (fun (x_5 : Bool) => brk (!x_5) (some ((40 : Int))) (some ((0 : Int))))))))))))))
noncomputable def s61 (F : Nat) : CS E.G := ⟨61, [.v 9 true], [.v 0 false []], fun x => hull_Check F x.1⟩
noncomputable def cx61 (F : Nat) : Ctx E := ⟨[s135 F, s136 F, s137 F, s138 F, s140 F, s141 F], [(103, Tryd.f103)], F, []⟩
noncomputable def h61 : Hint := (.p (.u 7 (.c .n (.c .n (.c .n (.c .n (.c .n .n)))))))
theorem e61 (F : Nat) (a0 : Ship) : fnK (E := E) (cx61 F) Tryd.f61 gl [.v 9 true] [.v 0 false []] h61 (a0, ()) = hull_Check F a0 := by kernel_rfl
theorem c61 (F : Nat) : CSok E gl (s61 F) := ⟨en61, by
  have h := fn_sound (E := E) (gl := gl) (cx := cx61 F) mix (allC (c135 F) (allC (c136 F) (allC (c137 F) (allC (c138 F) (allC (c140 F) (allC (c141 F) all0)))))) (inlC hf103 en103 inl0) gl_up gl_lt hf61 (ps := [.v 9 true]) (rs := [.v 0 false []]) (by decide) h61
  rwa [show fnK (E := E) (cx61 F) Tryd.f61 gl [.v 9 true] [.v 0 false []] h61 = (fun x : AT E.G.car [.v 9 true] => hull_Check F x.1) from funext fun x => e61 F x.1] at h⟩
theorem hf131 : Tryd.prog.funcs[131]? = some Tryd.f131 := by kernel_rfl
theorem en131 : Proofs.Enters Tryd.prog 131 := Proofs.enters_of hf131 (by kernel_rfl) rfl
noncomputable def hull_lowest (F : Nat) (a0 : Int) (a1 : Int) : Option (Ratio) :=
  loopC (fun (x : (Int) × (Int)) => fun x_1 => brk (x.fst != (0 : Int)) (chk (((0 : Int) ≤ x.snd ∧ x.snd ≤ (9223372036854775807 : Int)) ∧ (0 : Int) < x.fst) (x_1 ((x.snd % x.fst, x.fst)))) (chk (((0 : Int) ≤ a0 ∧ a0 ≤ (9223372036854775807 : Int)) ∧ (0 : Int) < x.snd) (chk (((0 : Int) ≤ a1 ∧ a1 ≤ (9223372036854775807 : Int)) ∧ (0 : Int) < x.snd) (some (Ratio.mk (a0 / x.snd) (a1 / x.snd)))))) (F) ((a1, a0))
noncomputable def s131 (F : Nat) : CS E.G := ⟨131, [.v 0 false, .v 0 false], [.v 29 true []], fun x => hull_lowest F x.1 x.2.1⟩
noncomputable def cx131 (F : Nat) : Ctx E := ⟨[], [], F, []⟩
noncomputable def h131 : Hint := (.l ⟨[.i, .i], [0, 16, 64], [0, 1], [(96, .i IntKind.i64), (80, .i IntKind.i64)], [], [], [], 2⟩ .n)
theorem e131 (F : Nat) (a0 : Int) (a1 : Int) : fnK (E := E) (cx131 F) Tryd.f131 gl [.v 0 false, .v 0 false] [.v 29 true []] h131 (a0, a1, ()) = hull_lowest F a0 a1 := by kernel_rfl
theorem c131 (F : Nat) : CSok E gl (s131 F) := ⟨en131, by
  have h := fn_sound (E := E) (gl := gl) (cx := cx131 F) mix all0 inl0 gl_up gl_lt hf131 (ps := [.v 0 false, .v 0 false]) (rs := [.v 29 true []]) (by decide) h131
  rwa [show fnK (E := E) (cx131 F) Tryd.f131 gl [.v 0 false, .v 0 false] [.v 29 true []] h131 = (fun x : AT E.G.car [.v 0 false, .v 0 false] => hull_lowest F x.1 x.2.1) from funext fun x => e131 F x.1 x.2.1] at h⟩
theorem hf132 : Tryd.prog.funcs[132]? = some Tryd.f132 := by kernel_rfl
theorem en132 : Proofs.Enters Tryd.prog 132 := Proofs.enters_of hf132 (by kernel_rfl) rfl
noncomputable def hull_value (F : Nat) (a0 : List Point) (a1 : Int) : Option (Int × Int) :=
  loopC (fun (x : Int) => fun x_1 => brk (decide (x < (↑a0.length : Int))) (chk (InR (x - (1 : Int))) (chk ((0 : Int) ≤ x - (1 : Int) ∧ x - (1 : Int) < (↑a0.length : Int)) (chk ((0 : Int) ≤ x ∧ x < (↑a0.length : Int)) (brk (decide (a1 ≤ (a0.getD (Int.toNat x) (Point.mk (0 : Int) (0 : Int))).X)) (chk (InR ((a0.getD (Int.toNat x) (Point.mk (0 : Int) (0 : Int))).X - (a0.getD (x - (1 : Int)).toNat (Point.mk (0 : Int) (0 : Int))).X)) (chk (InR ((a0.getD (x - (1 : Int)).toNat (Point.mk (0 : Int) (0 : Int))).Y * ((a0.getD (Int.toNat x) (Point.mk (0 : Int) (0 : Int))).X - (a0.getD (x - (1 : Int)).toNat (Point.mk (0 : Int) (0 : Int))).X))) (chk (InR ((a0.getD (Int.toNat x) (Point.mk (0 : Int) (0 : Int))).Y - (a0.getD (x - (1 : Int)).toNat (Point.mk (0 : Int) (0 : Int))).Y)) (chk (InR (a1 - (a0.getD (x - (1 : Int)).toNat (Point.mk (0 : Int) (0 : Int))).X)) (chk (InR (((a0.getD (Int.toNat x) (Point.mk (0 : Int) (0 : Int))).Y - (a0.getD (x - (1 : Int)).toNat (Point.mk (0 : Int) (0 : Int))).Y) * (a1 - (a0.getD (x - (1 : Int)).toNat (Point.mk (0 : Int) (0 : Int))).X))) (chk (InR ((a0.getD (x - (1 : Int)).toNat (Point.mk (0 : Int) (0 : Int))).Y * ((a0.getD (Int.toNat x) (Point.mk (0 : Int) (0 : Int))).X - (a0.getD (x - (1 : Int)).toNat (Point.mk (0 : Int) (0 : Int))).X) + ((a0.getD (Int.toNat x) (Point.mk (0 : Int) (0 : Int))).Y - (a0.getD (x - (1 : Int)).toNat (Point.mk (0 : Int) (0 : Int))).Y) * (a1 - (a0.getD (x - (1 : Int)).toNat (Point.mk (0 : Int) (0 : Int))).X))) (chk (InR ((a0.getD (Int.toNat x) (Point.mk (0 : Int) (0 : Int))).X - (a0.getD (x - (1 : Int)).toNat (Point.mk (0 : Int) (0 : Int))).X)) (some (((a0.getD (x - (1 : Int)).toNat (Point.mk (0 : Int) (0 : Int))).Y * ((a0.getD (Int.toNat x) (Point.mk (0 : Int) (0 : Int))).X - (a0.getD (x - (1 : Int)).toNat (Point.mk (0 : Int) (0 : Int))).X) + ((a0.getD (Int.toNat x) (Point.mk (0 : Int) (0 : Int))).Y - (a0.getD (x - (1 : Int)).toNat (Point.mk (0 : Int) (0 : Int))).Y) * (a1 - (a0.getD (x - (1 : Int)).toNat (Point.mk (0 : Int) (0 : Int))).X), (a0.getD (Int.toNat x) (Point.mk (0 : Int) (0 : Int))).X - (a0.getD (x - (1 : Int)).toNat (Point.mk (0 : Int) (0 : Int))).X)))))))))) (chk (InR (x + (1 : Int))) (x_1 (x + (1 : Int)))))))) (chk (InR ((↑a0.length : Int) - (1 : Int))) (chk ((0 : Int) ≤ (↑a0.length : Int) - (1 : Int) ∧ (↑a0.length : Int) - (1 : Int) < (↑a0.length : Int)) (some (((a0.getD ((↑a0.length : Int) - (1 : Int)).toNat (Point.mk (0 : Int) (0 : Int))).Y, (1 : Int))))))) (F) ((1 : Int))
noncomputable def s132 (F : Nat) : CS E.G := ⟨132, [.sl 7, .v 0 false], [.v 0 false [], .v 0 false []], fun x => hull_value F x.1 x.2.1⟩
noncomputable def cx132 (F : Nat) : Ctx E := ⟨[], [], F, []⟩
noncomputable def h132 : Hint := (.l ⟨[.i], [0, 16], [0, 1], [(96, .i IntKind.i64)], [], [], [], 2⟩ (.c .n .n))
theorem e132 (F : Nat) (a0 : List Point) (a1 : Int) : fnK (E := E) (cx132 F) Tryd.f132 gl [.sl 7, .v 0 false] [.v 0 false [], .v 0 false []] h132 (a0, a1, ()) = hull_value F a0 a1 := by kernel_rfl
theorem c132 (F : Nat) : CSok E gl (s132 F) := ⟨en132, by
  have h := fn_sound (E := E) (gl := gl) (cx := cx132 F) mix all0 inl0 gl_up gl_lt hf132 (ps := [.sl 7, .v 0 false]) (rs := [.v 0 false [], .v 0 false []]) (by decide) h132
  rwa [show fnK (E := E) (cx132 F) Tryd.f132 gl [.sl 7, .v 0 false] [.v 0 false [], .v 0 false []] h132 = (fun x : AT E.G.car [.sl 7, .v 0 false] => hull_value F x.1 x.2.1) from funext fun x => e132 F x.1 x.2.1] at h⟩
theorem hf92 : Tryd.prog.funcs[92]? = some Tryd.f92 := by kernel_rfl
theorem en92 : Proofs.Enters Tryd.prog 92 := Proofs.enters_of hf92 (by kernel_rfl) rfl
noncomputable def hull_At (F : Nat) (a0 : List Point) (a1 : Int) : Option (Ratio × Int) :=
  bnd (hull_curve F a0) (fun (x : Bool) => brk (!x) (some ((Ratio.mk (0 : Int) (0 : Int), (40 : Int)))) (bnd (hull_within F a1 (0 : Int) (1000 : Int)) (fun (x_1 : Bool) => brk (!x_1) (some ((Ratio.mk (0 : Int) (0 : Int), (6 : Int)))) (bnd (hull_value F a0 a1) (fun (x_2 : (Int) × (Int)) => bnd (hull_lowest F x_2.fst x_2.snd) (fun (x_3 : Ratio) => some ((x_3, (0 : Int)))))))))
noncomputable def s92 (F : Nat) : CS E.G := ⟨92, [.sl 7, .v 0 false], [.v 29 true [], .v 0 false []], fun x => hull_At F x.1 x.2.1⟩
noncomputable def cx92 (F : Nat) : Ctx E := ⟨[s62 F, s130 F, s131 F, s132 F], [], F, []⟩
noncomputable def h92 : Hint := (.c .n .n)
theorem e92 (F : Nat) (a0 : List Point) (a1 : Int) : fnK (E := E) (cx92 F) Tryd.f92 gl [.sl 7, .v 0 false] [.v 29 true [], .v 0 false []] h92 (a0, a1, ()) = hull_At F a0 a1 := by kernel_rfl
theorem c92 (F : Nat) : CSok E gl (s92 F) := ⟨en92, by
  have h := fn_sound (E := E) (gl := gl) (cx := cx92 F) mix (allC (c62 F) (allC (c130 F) (allC (c131 F) (allC (c132 F) all0)))) inl0 gl_up gl_lt hf92 (ps := [.sl 7, .v 0 false]) (rs := [.v 29 true [], .v 0 false []]) (by decide) h92
  rwa [show fnK (E := E) (cx92 F) Tryd.f92 gl [.sl 7, .v 0 false] [.v 29 true [], .v 0 false []] h92 = (fun x : AT E.G.car [.sl 7, .v 0 false] => hull_At F x.1 x.2.1) from funext fun x => e92 F x.1 x.2.1] at h⟩
theorem hf93 : Tryd.prog.funcs[93]? = some Tryd.f93 := by kernel_rfl
theorem en93 : Proofs.Enters Tryd.prog 93 := Proofs.enters_of hf93 (by kernel_rfl) rfl
noncomputable def convoy_top (F : Nat) (a0 : List Point) : Option (Int) :=
  chk (InR ((↑a0.length : Int) - (1 : Int))) (chk ((0 : Int) ≤ (↑a0.length : Int) - (1 : Int) ∧ (↑a0.length : Int) - (1 : Int) < (↑a0.length : Int)) (some ((a0.getD ((↑a0.length : Int) - (1 : Int)).toNat (Point.mk (0 : Int) (0 : Int))).X)))
noncomputable def s93 (F : Nat) : CS E.G := ⟨93, [.sl 7], [.v 0 false []], fun x => convoy_top F x.1⟩
noncomputable def cx93 (F : Nat) : Ctx E := ⟨[], [], F, []⟩
noncomputable def h93 : Hint := .n
theorem e93 (F : Nat) (a0 : List Point) : fnK (E := E) (cx93 F) Tryd.f93 gl [.sl 7] [.v 0 false []] h93 (a0, ()) = convoy_top F a0 := by kernel_rfl
theorem c93 (F : Nat) : CSok E gl (s93 F) := ⟨en93, by
  have h := fn_sound (E := E) (gl := gl) (cx := cx93 F) mix all0 inl0 gl_up gl_lt hf93 (ps := [.sl 7]) (rs := [.v 0 false []]) (by decide) h93
  rwa [show fnK (E := E) (cx93 F) Tryd.f93 gl [.sl 7] [.v 0 false []] h93 = (fun x : AT E.G.car [.sl 7] => convoy_top F x.1) from funext fun x => e93 F x.1] at h⟩
theorem hf94 : Tryd.prog.funcs[94]? = some Tryd.f94 := by kernel_rfl
theorem en94 : Proofs.Enters Tryd.prog 94 := Proofs.enters_of hf94 (by kernel_rfl) rfl
theorem hf95 : Tryd.prog.funcs[95]? = some Tryd.f95 := by kernel_rfl
theorem en95 : Proofs.Enters Tryd.prog 95 := Proofs.enters_of hf95 (by kernel_rfl) rfl
noncomputable def convoy_right_1 (F : Nat) (a0 : Point) (a1 : Point) : Option (Int) :=
  chk (InR (a0.Y - a1.Y)) (some (a0.Y - a1.Y))
noncomputable def s95 (F : Nat) : CS E.G := ⟨95, [.v 7 true, .v 7 true], [.v 0 false []], fun x => convoy_right_1 F x.1 x.2.1⟩
noncomputable def cx95 (F : Nat) : Ctx E := ⟨[], [], F, []⟩
noncomputable def h95 : Hint := .n
theorem e95 (F : Nat) (a0 : Point) (a1 : Point) : fnK (E := E) (cx95 F) Tryd.f95 gl [.v 7 true, .v 7 true] [.v 0 false []] h95 (a0, a1, ()) = convoy_right_1 F a0 a1 := by kernel_rfl
theorem c95 (F : Nat) : CSok E gl (s95 F) := ⟨en95, by
  have h := fn_sound (E := E) (gl := gl) (cx := cx95 F) mix all0 inl0 gl_up gl_lt hf95 (ps := [.v 7 true, .v 7 true]) (rs := [.v 0 false []]) (by decide) h95
  rwa [show fnK (E := E) (cx95 F) Tryd.f95 gl [.v 7 true, .v 7 true] [.v 0 false []] h95 = (fun x : AT E.G.car [.v 7 true, .v 7 true] => convoy_right_1 F x.1 x.2.1) from funext fun x => e95 F x.1 x.2.1] at h⟩
theorem hf45 : Tryd.prog.funcs[45]? = some Tryd.f45 := by kernel_rfl
theorem en45 : Proofs.Enters Tryd.prog 45 := Proofs.enters_of hf45 (by kernel_rfl) rfl
noncomputable def convoy_right (F : Nat) (a0 : Member) : Option (Int) :=
  bnd (hull_Check F a0.Ship) (fun (x : Int) => brk (x != (0 : Int)) (some (x)) (bnd (convoy_within F a0.Length (10 : Int) (500 : Int)) (fun (x_1 : Bool) => bnd (brk (!!x_1) (convoy_within F a0.Delay (0 : Int) (600 : Int)) (some false)) (fun (x_2 : Bool) => bnd (brk (!(!x_1 || !x_2)) (convoy_within F a0.Short (0 : Int) (20000 : Int)) (some false)) (fun (x_3 : Bool) => brk (!x_1 || !x_2 || !x_3) (some ((60 : Int))) (bnd (hull_At F a0.Stop (0 : Int)) (fun (x_4 : (Ratio) × (Int)) => chk ((!x_4.snd != (0 : Int)) = true → (0 : Int) ≤ (0 : Int) ∧ (0 : Int) < (↑a0.Stop.length : Int)) (bnd (brk (!(x_4.snd != (0 : Int) || (a0.Stop.getD (Int.toNat (0 : Int)) (Point.mk (0 : Int) (0 : Int))).Y != (0 : Int))) (convoy_top F a0.Stop) (some (0 : Int))) (fun (x_5 : Int) => bnd (brk (!(x_4.snd != (0 : Int) || (a0.Stop.getD (Int.toNat (0 : Int)) (Point.mk (0 : Int) (0 : Int))).Y != (0 : Int))) (convoy_top F a0.Ship.Thrust) (some (0 : Int))) (fun (x_6 : Int) => brk (x_4.snd != (0 : Int) || (a0.Stop.getD (Int.toNat (0 : Int)) (Point.mk (0 : Int) (0 : Int))).Y != (0 : Int) || decide (x_5 < x_6)) (some ((60 : Int))) (join (F) (fun (x_7 : Bool) => brk (!x_7) (some ((60 : Int))) (some ((0 : Int)))) (fun x_7 => chk (InR ((↑a0.Stop.length : Int) - (1 : Int))) (loopC (fun (x_8 : Int) => fun x_9 => brk (decide (x_8 > (0 : Int))) (chk ((0 : Int) ≤ x_8 ∧ x_8 < (↑a0.Stop.length : Int)) (chk (InR (x_8 - (1 : Int))) (chk ((0 : Int) ≤ x_8 - (1 : Int) ∧ x_8 - (1 : Int) < (↑a0.Stop.length : Int)) (bnd (convoy_right_1 F (a0.Stop.getD (Int.toNat x_8) (Point.mk (0 : Int) (0 : Int))) (a0.Stop.getD (x_8 - (1 : Int)).toNat (Point.mk (0 : Int) (0 : Int)))) (fun (x_10 : Int) => brk (decide (x_10 < (0 : Int))) (x_7 (false)) (chk (InR (x_8 - (1 : Int))) (x_9 (x_8 - (1 : Int))))))))) (x_7 (true))) (F) ((↑a0.Stop.length : Int) - (1 : Int)))))))))))))))
noncomputable def s45 (F : Nat) : CS E.G := ⟨45, [.v 10 true], [.v 0 false []], fun x => convoy_right F x.1⟩
noncomputable def cx45 (F : Nat) : Ctx E := ⟨[s46 F, s61 F, s92 F, s93 F, s95 F], [(94, Tryd.f94)], F, []⟩
noncomputable def h45 : Hint := (.c .n (.c .n (.c .n (.w ⟨[.b], [], [0, 4], [(0, .b)], [], [], [], 7⟩ (.l ⟨[.i], [0, 16], [0, 4], [(80, .i IntKind.i64)], [], [], [], 7⟩ (.c .n .n)) .n))))
theorem e45 (F : Nat) (a0 : Member) : fnK (E := E) (cx45 F) Tryd.f45 gl [.v 10 true] [.v 0 false []] h45 (a0, ()) = convoy_right F a0 := by kernel_rfl
theorem c45 (F : Nat) : CSok E gl (s45 F) := ⟨en45, by
  have h := fn_sound (E := E) (gl := gl) (cx := cx45 F) mix (allC (c46 F) (allC (c61 F) (allC (c92 F) (allC (c93 F) (allC (c95 F) all0))))) (inlC hf94 en94 inl0) gl_up gl_lt hf45 (ps := [.v 10 true]) (rs := [.v 0 false []]) (by decide) h45
  rwa [show fnK (E := E) (cx45 F) Tryd.f45 gl [.v 10 true] [.v 0 false []] h45 = (fun x : AT E.G.car [.v 10 true] => convoy_right F x.1) from funext fun x => e45 F x.1] at h⟩
theorem hf48 : Tryd.prog.funcs[48]? = some Tryd.f48 := by kernel_rfl
theorem en48 : Proofs.Enters Tryd.prog 48 := Proofs.enters_of hf48 (by kernel_rfl) rfl
theorem hf59 : Tryd.prog.funcs[59]? = some Tryd.f59 := by kernel_rfl
theorem en59 : Proofs.Enters Tryd.prog 59 := Proofs.enters_of hf59 (by kernel_rfl) rfl
noncomputable def convoy_Check (F : Nat) (a0 : Convoy) : Option (Int) :=
  brk (decide ((↑a0.Ships.length : Int) > (6 : Int))) (some ((2 : Int))) (chk ([a0.Breaker].length + a0.Ships.length ≤ (1000000 : Nat)) (loopC (fun (x : Int) => fun x_1 => brk (decide (x < (↑([a0.Breaker] ++ a0.Ships).length : Int))) (chk ((0 : Int) ≤ x ∧ x < (↑([a0.Breaker] ++ a0.Ships).length : Int)) (bnd (convoy_right F (([a0.Breaker] ++ a0.Ships).getD (Int.toNat x) (Member.mk (Ship.mk (0 : Int) (0 : Int) (0 : Int) (0 : Int) [] [] [] (0 : Int) (0 : Int) (0 : Int) (0 : Int)) [] (0 : Int) (0 : Int) (0 : Int)))) (fun (x_2 : Int) => brk (x_2 != (0 : Int)) (some (x_2)) (chk (InR (x + (1 : Int))) (x_1 (x + (1 : Int))))))) (bnd (convoy_within F a0.Clear (0 : Int) (2000 : Int)) (fun (x_2 : Bool) => brk (!x_2) (some ((61 : Int))) (loopC (fun (x_3 : (Int) × (Int)) => fun x_4 => brk (decide (x_3.snd < (4 : Int))) (chk ((0 : Int) ≤ x_3.snd ∧ x_3.snd < (↑(4 : Nat) : Int)) (bnd (convoy_within F ([a0.Close.a0, a0.Close.a1, a0.Close.a2, a0.Close.a3].getD (Int.toNat x_3.snd) (0 : Int)) (0 : Int) x_3.fst) (fun (x_5 : Bool) => brk (!x_5) (some ((61 : Int))) (chk (InR (x_3.snd + (1 : Int))) (x_4 (([a0.Close.a0, a0.Close.a1, a0.Close.a2, a0.Close.a3].getD (Int.toNat x_3.snd) (0 : Int), x_3.snd + (1 : Int)))))))) (some ((0 : Int)))) (F) (((1440 : Int), (0 : Int))))))) (F) ((0 : Int))))
noncomputable def s59 (F : Nat) : CS E.G := ⟨59, [.v 13 true], [.v 0 false []], fun x => convoy_Check F x.1⟩
noncomputable def cx59 (F : Nat) : Ctx E := ⟨[s45 F, s46 F], [(48, Tryd.f48)], F, []⟩
noncomputable def h59 : Hint := (.c .n (.p (.l ⟨[.i], [16, 224, 208], [0, 6, 8, 5, 4, 3, 2, 1], [(240, .i IntKind.i64)], [], [], [], 9⟩ (.c .n (.c .n (.l ⟨[.i, .i], [480], [0], [(96, .i IntKind.i64), (496, .i IntKind.i64)], [], [], [], 9⟩ (.c .n .n)))))))
theorem e59 (F : Nat) (a0 : Convoy) : fnK (E := E) (cx59 F) Tryd.f59 gl [.v 13 true] [.v 0 false []] h59 (a0, ()) = convoy_Check F a0 := by kernel_rfl
theorem c59 (F : Nat) : CSok E gl (s59 F) := ⟨en59, by
  have h := fn_sound (E := E) (gl := gl) (cx := cx59 F) mix (allC (c45 F) (allC (c46 F) all0)) (inlC hf48 en48 inl0) gl_up gl_lt hf59 (ps := [.v 13 true]) (rs := [.v 0 false []]) (by decide) h59
  rwa [show fnK (E := E) (cx59 F) Tryd.f59 gl [.v 13 true] [.v 0 false []] h59 = (fun x : AT E.G.car [.v 13 true] => convoy_Check F x.1) from funext fun x => e59 F x.1] at h⟩
theorem hf43 : Tryd.prog.funcs[43]? = some Tryd.f43 := by kernel_rfl
theorem en43 : Proofs.Enters Tryd.prog 43 := Proofs.enters_of hf43 (by kernel_rfl) rfl
noncomputable def convoy_asked (F : Nat) (a0 : Convoy) (a1 : Int) : Option (Int) :=
  bnd (convoy_Check F a0) (fun (x : Int) => brk (x != (0 : Int)) (some (x)) (bnd (convoy_within F a1 (0 : Int) (250 : Int)) (fun (x_1 : Bool) => brk (!x_1) (some ((6 : Int))) (some ((0 : Int))))))
noncomputable def s43 (F : Nat) : CS E.G := ⟨43, [.v 13 true, .v 0 false], [.v 0 false []], fun x => convoy_asked F x.1 x.2.1⟩
noncomputable def cx43 (F : Nat) : Ctx E := ⟨[s46 F, s59 F], [], F, []⟩
noncomputable def h43 : Hint := (.c .n .n)
theorem e43 (F : Nat) (a0 : Convoy) (a1 : Int) : fnK (E := E) (cx43 F) Tryd.f43 gl [.v 13 true, .v 0 false] [.v 0 false []] h43 (a0, a1, ()) = convoy_asked F a0 a1 := by kernel_rfl
theorem c43 (F : Nat) : CSok E gl (s43 F) := ⟨en43, by
  have h := fn_sound (E := E) (gl := gl) (cx := cx43 F) mix (allC (c46 F) (allC (c59 F) all0)) inl0 gl_up gl_lt hf43 (ps := [.v 13 true, .v 0 false]) (rs := [.v 0 false []]) (by decide) h43
  rwa [show fnK (E := E) (cx43 F) Tryd.f43 gl [.v 13 true, .v 0 false] [.v 0 false []] h43 = (fun x : AT E.G.car [.v 13 true, .v 0 false] => convoy_asked F x.1 x.2.1) from funext fun x => e43 F x.1 x.2.1] at h⟩
theorem hf78 : Tryd.prog.funcs[78]? = some Tryd.f78 := by kernel_rfl
theorem en78 : Proofs.Enters Tryd.prog 78 := Proofs.enters_of hf78 (by kernel_rfl) rfl
noncomputable def convoy_way (F : Nat) (a0 : Int) (a1 : Int) : Option (Int × Int) :=
  chk (InR ((463 : Int) * a0)) (chk (InR ((463 : Int) * a0 * a1)) (chk ((0 : Int) ≤ (463 : Int) * a0 * a1 ∧ (463 : Int) * a0 * a1 ≤ (9223372036854775807 : Int)) (chk (InR ((463 : Int) * a0 * a1 + (8999 : Int))) (chk ((0 : Int) ≤ (463 : Int) * a0 * a1 + (8999 : Int) ∧ (463 : Int) * a0 * a1 + (8999 : Int) ≤ (9223372036854775807 : Int)) (some (((463 : Int) * a0 * a1 / (9000 : Int), ((463 : Int) * a0 * a1 + (8999 : Int)) / (9000 : Int))))))))
noncomputable def s78 (F : Nat) : CS E.G := ⟨78, [.v 0 false, .v 0 false], [.v 0 false [], .v 0 false []], fun x => convoy_way F x.1 x.2.1⟩
noncomputable def cx78 (F : Nat) : Ctx E := ⟨[], [], F, []⟩
noncomputable def h78 : Hint := .n
theorem e78 (F : Nat) (a0 : Int) (a1 : Int) : fnK (E := E) (cx78 F) Tryd.f78 gl [.v 0 false, .v 0 false] [.v 0 false [], .v 0 false []] h78 (a0, a1, ()) = convoy_way F a0 a1 := by kernel_rfl
theorem c78 (F : Nat) : CSok E gl (s78 F) := ⟨en78, by
  have h := fn_sound (E := E) (gl := gl) (cx := cx78 F) mix all0 inl0 gl_up gl_lt hf78 (ps := [.v 0 false, .v 0 false]) (rs := [.v 0 false [], .v 0 false []]) (by decide) h78
  rwa [show fnK (E := E) (cx78 F) Tryd.f78 gl [.v 0 false, .v 0 false] [.v 0 false [], .v 0 false []] h78 = (fun x : AT E.G.car [.v 0 false, .v 0 false] => convoy_way F x.1 x.2.1) from funext fun x => e78 F x.1 x.2.1] at h⟩
theorem hf47 : Tryd.prog.funcs[47]? = some Tryd.f47 := by kernel_rfl
theorem en47 : Proofs.Enters Tryd.prog 47 := Proofs.enters_of hf47 (by kernel_rfl) rfl
noncomputable def convoy_Member_halt (F : Nat) (a0 : Member) (a1 : Int) : Option (Span) :=
  bnd (hull_At F a0.Stop a1) (fun (x : (Ratio) × (Int)) => bnd (convoy_way F a1 a0.Delay) (fun (x_1 : (Int) × (Int)) => chk (((0 : Int) ≤ x.fst.N ∧ x.fst.N ≤ (9223372036854775807 : Int)) ∧ (0 : Int) < x.fst.D) (chk (InR (x.fst.N + x.fst.D)) (chk (InR (x.fst.N + x.fst.D - (1 : Int))) (chk (((0 : Int) ≤ x.fst.N + x.fst.D - (1 : Int) ∧ x.fst.N + x.fst.D - (1 : Int) ≤ (9223372036854775807 : Int)) ∧ (0 : Int) < x.fst.D) (chk (InR (x_1.snd + (x.fst.N + x.fst.D - (1 : Int)) / x.fst.D)) (some (Span.mk (if x.fst.N / x.fst.D < a0.Short then x.fst.N / x.fst.D else a0.Short) (x_1.snd + (x.fst.N + x.fst.D - (1 : Int)) / x.fst.D)))))))))
noncomputable def s47 (F : Nat) : CS E.G := ⟨47, [.v 10 true, .v 0 false], [.v 15 true []], fun x => convoy_Member_halt F x.1 x.2.1⟩
noncomputable def cx47 (F : Nat) : Ctx E := ⟨[s78 F, s92 F], [], F, []⟩
noncomputable def h47 : Hint := .n
theorem e47 (F : Nat) (a0 : Member) (a1 : Int) : fnK (E := E) (cx47 F) Tryd.f47 gl [.v 10 true, .v 0 false] [.v 15 true []] h47 (a0, a1, ()) = convoy_Member_halt F a0 a1 := by kernel_rfl
theorem c47 (F : Nat) : CSok E gl (s47 F) := ⟨en47, by
  have h := fn_sound (E := E) (gl := gl) (cx := cx47 F) mix (allC (c78 F) (allC (c92 F) all0)) inl0 gl_up gl_lt hf47 (ps := [.v 10 true, .v 0 false]) (rs := [.v 15 true []]) (by decide) h47
  rwa [show fnK (E := E) (cx47 F) Tryd.f47 gl [.v 10 true, .v 0 false] [.v 15 true []] h47 = (fun x : AT E.G.car [.v 10 true, .v 0 false] => convoy_Member_halt F x.1 x.2.1) from funext fun x => e47 F x.1 x.2.1] at h⟩
theorem hf44 : Tryd.prog.funcs[44]? = some Tryd.f44 := by kernel_rfl
theorem en44 : Proofs.Enters Tryd.prog 44 := Proofs.enters_of hf44 (by kernel_rfl) rfl
theorem hf11 : Tryd.prog.funcs[11]? = some Tryd.f11 := by kernel_rfl
theorem en11 : Proofs.Enters Tryd.prog 11 := Proofs.enters_of hf11 (by kernel_rfl) rfl
noncomputable def convoy_Gaps (F : Nat) (a0 : Convoy) (a1 : Int) : Option ((List Int) × Int) :=
  bnd (convoy_asked F a0 a1) (fun (x : Int) => brk (x != (0 : Int)) (some (([], x))) (bnd (convoy_Member_halt F a0.Breaker a1) (fun (x_1 : Span) => loopC (fun (x_2 : (Int) × ((List (Int)) × ((Int) × (Int)))) => fun x_3 => brk (decide (x_2.fst < (↑a0.Ships.length : Int))) (chk ((0 : Int) ≤ x_2.fst ∧ x_2.fst < (↑a0.Ships.length : Int)) (bnd (convoy_Member_halt F (a0.Ships.getD (Int.toNat x_2.fst) (Member.mk (Ship.mk (0 : Int) (0 : Int) (0 : Int) (0 : Int) [] [] [] (0 : Int) (0 : Int) (0 : Int) (0 : Int)) [] (0 : Int) (0 : Int) (0 : Int))) a1) (fun (x_4 : Span) => chk (InR (x_4.Hi - x_2.snd.snd.snd)) (chk (InR (a0.Clear + if x_4.Hi - x_2.snd.snd.snd > (0 : Int) then x_4.Hi - x_2.snd.snd.snd else (0 : Int))) (chk (List.length x_2.snd.fst + [a0.Clear + if x_4.Hi - x_2.snd.snd.snd > (0 : Int) then x_4.Hi - x_2.snd.snd.snd else (0 : Int)].length ≤ (1000000 : Nat)) (chk (InR (x_2.fst + (1 : Int))) (x_3 ((x_2.fst + (1 : Int), x_2.snd.fst ++ [a0.Clear + if x_4.Hi - x_2.snd.snd.snd > (0 : Int) then x_4.Hi - x_2.snd.snd.snd else (0 : Int)], x_4.Hi, x_4.Lo))))))))) (some ((x_2.snd.fst, (0 : Int))))) (F) (((0 : Int), [], x_1.Hi, x_1.Lo)))))
noncomputable def s11 (F : Nat) : CS E.G := ⟨11, [.v 13 true, .v 0 false], [.sl 0 3, .v 0 false []], fun x => convoy_Gaps F x.1 x.2.1⟩
noncomputable def cx11 (F : Nat) : Ctx E := ⟨[s43 F, s47 F], [(44, Tryd.f44)], F, []⟩
noncomputable def h11 : Hint := (.c .n (.p (.l ⟨[.i, .l 0, .i, .i], [16, 64, 320, 336], [0, 1, 3, 5, 2, 4, 6, 7, 8], [(352, .i IntKind.i64), (48, .h 9 3 0)], [], [(8, 1, .i IntKind.i64), (8, 0, .i IntKind.i64)], [], 10⟩ .n)))
theorem e11 (F : Nat) (a0 : Convoy) (a1 : Int) : fnK (E := E) (cx11 F) Tryd.f11 gl [.v 13 true, .v 0 false] [.sl 0 3, .v 0 false []] h11 (a0, a1, ()) = convoy_Gaps F a0 a1 := by kernel_rfl
theorem c11 (F : Nat) : CSok E gl (s11 F) := ⟨en11, by
  have h := fn_sound (E := E) (gl := gl) (cx := cx11 F) mix (allC (c43 F) (allC (c47 F) all0)) (inlC hf44 en44 inl0) gl_up gl_lt hf11 (ps := [.v 13 true, .v 0 false]) (rs := [.sl 0 3, .v 0 false []]) (by decide) h11
  rwa [show fnK (E := E) (cx11 F) Tryd.f11 gl [.v 13 true, .v 0 false] [.sl 0 3, .v 0 false []] h11 = (fun x : AT E.G.car [.v 13 true, .v 0 false] => convoy_Gaps F x.1 x.2.1) from funext fun x => e11 F x.1 x.2.1] at h⟩
theorem hf12 : Tryd.prog.funcs[12]? = some Tryd.f12 := by kernel_rfl
theorem en12 : Proofs.Enters Tryd.prog 12 := Proofs.enters_of hf12 (by kernel_rfl) rfl
noncomputable def convoy_Halt (F : Nat) (a0 : Member) (a1 : Int) : Option (Span × Int) :=
  bnd (convoy_right F a0) (fun (x : Int) => brk (x != (0 : Int)) (some ((Span.mk (0 : Int) (0 : Int), x))) (bnd (convoy_within F a1 (0 : Int) (250 : Int)) (fun (x_1 : Bool) => brk (!x_1) (some ((Span.mk (0 : Int) (0 : Int), (6 : Int)))) (bnd (convoy_Member_halt F a0 a1) (fun (x_2 : Span) => some ((x_2, (0 : Int))))))))
noncomputable def s12 (F : Nat) : CS E.G := ⟨12, [.v 10 true, .v 0 false], [.v 15 true [], .v 0 false []], fun x => convoy_Halt F x.1 x.2.1⟩
noncomputable def cx12 (F : Nat) : Ctx E := ⟨[s45 F, s46 F, s47 F], [], F, []⟩
noncomputable def h12 : Hint := (.c .n .n)
theorem e12 (F : Nat) (a0 : Member) (a1 : Int) : fnK (E := E) (cx12 F) Tryd.f12 gl [.v 10 true, .v 0 false] [.v 15 true [], .v 0 false []] h12 (a0, a1, ()) = convoy_Halt F a0 a1 := by kernel_rfl
theorem c12 (F : Nat) : CSok E gl (s12 F) := ⟨en12, by
  have h := fn_sound (E := E) (gl := gl) (cx := cx12 F) mix (allC (c45 F) (allC (c46 F) (allC (c47 F) all0))) inl0 gl_up gl_lt hf12 (ps := [.v 10 true, .v 0 false]) (rs := [.v 15 true [], .v 0 false []]) (by decide) h12
  rwa [show fnK (E := E) (cx12 F) Tryd.f12 gl [.v 10 true, .v 0 false] [.v 15 true [], .v 0 false []] h12 = (fun x : AT E.G.car [.v 10 true, .v 0 false] => convoy_Halt F x.1 x.2.1) from funext fun x => e12 F x.1 x.2.1] at h⟩
theorem hf14 : Tryd.prog.funcs[14]? = some Tryd.f14 := by kernel_rfl
theorem en14 : Proofs.Enters Tryd.prog 14 := Proofs.enters_of hf14 (by kernel_rfl) rfl
noncomputable def convoy_Rest (F : Nat) (a0 : Convoy) (a1 : Int) (a2 : List Int) (a3 : Int) (a4 : List Int) : Option ((List Int) × Int) :=
  bnd (convoy_asked F a0 a1) (fun (x : Int) => brk (x != (0 : Int)) (some (([], x))) (bnd (brk (!(↑a2.length : Int) != (↑a0.Ships.length : Int)) (convoy_within F a3 (0 : Int) (↑a0.Ships.length : Int)) (some false)) (fun (x_1 : Bool) => chk ((!((↑a2.length : Int) != (↑a0.Ships.length : Int) || !x_1)) = true → InR ((↑a0.Ships.length : Int) - a3)) (chk ((!((↑a2.length : Int) != (↑a0.Ships.length : Int) || !x_1)) = true → InR ((↑a0.Ships.length : Int) - a3 + (1 : Int))) (brk ((↑a2.length : Int) != (↑a0.Ships.length : Int) || !x_1 || (↑a4.length : Int) != (↑a0.Ships.length : Int) - a3 + (1 : Int)) (some (([], (1 : Int)))) (loopC (fun (x_2 : Int) => fun x_3 => brk (decide (x_2 < (↑a2.length : Int))) (chk ((0 : Int) ≤ x_2 ∧ x_2 < (↑a2.length : Int)) (bnd (convoy_within F (a2.getD (Int.toNat x_2) (0 : Int)) (0 : Int) (1000000 : Int)) (fun (x_4 : Bool) => brk (!x_4) (some (([], (6 : Int)))) (chk (InR (x_2 + (1 : Int))) (x_3 (x_2 + (1 : Int))))))) (chk ([a0.Breaker].length + a0.Ships.length ≤ (1000000 : Nat)) (chk ((0 : Int) ≤ a3 ∧ a3 ≤ (↑([a0.Breaker] ++ a0.Ships).length : Int) ∧ (↑([a0.Breaker] ++ a0.Ships).length : Int) ≤ (↑([a0.Breaker] ++ a0.Ships).length : Int)) (loopC (fun (x_4 : Int) => fun x_5 => brk (decide (x_4 < (↑a4.length : Int))) (chk ((0 : Int) ≤ x_4 ∧ x_4 < (↑a4.length : Int)) (chk ((0 : Int) ≤ x_4 ∧ x_4 < (↑([a0.Breaker] ++ a0.Ships).length : Int) - a3) (bnd (convoy_Member_halt F (([a0.Breaker] ++ a0.Ships).getD (a3 + x_4).toNat (Member.mk (Ship.mk (0 : Int) (0 : Int) (0 : Int) (0 : Int) [] [] [] (0 : Int) (0 : Int) (0 : Int) (0 : Int)) [] (0 : Int) (0 : Int) (0 : Int))) a1) (fun (x_6 : Span) => brk (decide (a4.getD (Int.toNat x_4) (0 : Int) < x_6.Lo) || decide (a4.getD (Int.toNat x_4) (0 : Int) > x_6.Hi)) (some (([], (61 : Int)))) (chk (InR (x_4 + (1 : Int))) (x_5 (x_4 + (1 : Int)))))))) (loopC (fun (x_6 : (Int) × (List (Int))) => fun x_7 => brk (decide (x_6.fst < (↑a4.length : Int))) (chk (InR (a3 + x_6.fst)) (chk (InR (a3 + x_6.fst - (1 : Int))) (chk ((0 : Int) ≤ a3 + x_6.fst - (1 : Int) ∧ a3 + x_6.fst - (1 : Int) < (↑a2.length : Int)) (chk (InR (x_6.fst - (1 : Int))) (chk ((0 : Int) ≤ x_6.fst - (1 : Int) ∧ x_6.fst - (1 : Int) < (↑a4.length : Int)) (chk (InR (a2.getD (a3 + x_6.fst - (1 : Int)).toNat (0 : Int) + a4.getD (x_6.fst - (1 : Int)).toNat (0 : Int))) (chk ((0 : Int) ≤ x_6.fst ∧ x_6.fst < (↑a4.length : Int)) (chk (InR (a2.getD (a3 + x_6.fst - (1 : Int)).toNat (0 : Int) + a4.getD (x_6.fst - (1 : Int)).toNat (0 : Int) - a4.getD (Int.toNat x_6.fst) (0 : Int))) (chk (List.length x_6.snd + [a2.getD (a3 + x_6.fst - (1 : Int)).toNat (0 : Int) + a4.getD (x_6.fst - (1 : Int)).toNat (0 : Int) - a4.getD (Int.toNat x_6.fst) (0 : Int)].length ≤ (1000000 : Nat)) (chk (InR (x_6.fst + (1 : Int))) (x_7 ((x_6.fst + (1 : Int), x_6.snd ++ [a2.getD (a3 + x_6.fst - (1 : Int)).toNat (0 : Int) + a4.getD (x_6.fst - (1 : Int)).toNat (0 : Int) - a4.getD (Int.toNat x_6.fst) (0 : Int)]))))))))))))) (some ((x_6.snd, (0 : Int))))) (F) (((1 : Int), [])))) (F) ((0 : Int)))))) (F) ((0 : Int))))))))
noncomputable def s14 (F : Nat) : CS E.G := ⟨14, [.v 13 true, .v 0 false, .sl 0, .v 0 false, .sl 0], [.sl 0 3, .v 0 false []], fun x => convoy_Rest F x.1 x.2.1 x.2.2.1 x.2.2.2.1 x.2.2.2.2.1⟩
noncomputable def cx14 (F : Nat) : Ctx E := ⟨[s43 F, s46 F, s47 F], [(48, Tryd.f48)], F, []⟩
noncomputable def h14 : Hint := (.c .n (.c .n (.l ⟨[.i], [16, 32, 64, 832, 48, 80, 848], [0, 6, 7, 8, 5, 4, 3, 2, 1], [(864, .i IntKind.i64)], [], [], [], 9⟩ (.c .n (.p (.l ⟨[.i], [16, 32, 64, 1056, 48, 1040, 240], [0, 6, 7, 10], [(1072, .i IntKind.i64)], [], [], [], 11⟩ (.c .n (.l ⟨[.i, .l 0], [32, 64, 48], [0, 6, 7], [(320, .i IntKind.i64), (304, .h 11 3 0)], [], [], [], 12⟩ .n))))))))
theorem e14 (F : Nat) (a0 : Convoy) (a1 : Int) (a2 : List Int) (a3 : Int) (a4 : List Int) : fnK (E := E) (cx14 F) Tryd.f14 gl [.v 13 true, .v 0 false, .sl 0, .v 0 false, .sl 0] [.sl 0 3, .v 0 false []] h14 (a0, a1, a2, a3, a4, ()) = convoy_Rest F a0 a1 a2 a3 a4 := by kernel_rfl
theorem c14 (F : Nat) : CSok E gl (s14 F) := ⟨en14, by
  have h := fn_sound (E := E) (gl := gl) (cx := cx14 F) mix (allC (c43 F) (allC (c46 F) (allC (c47 F) all0))) (inlC hf48 en48 inl0) gl_up gl_lt hf14 (ps := [.v 13 true, .v 0 false, .sl 0, .v 0 false, .sl 0]) (rs := [.sl 0 3, .v 0 false []]) (by decide) h14
  rwa [show fnK (E := E) (cx14 F) Tryd.f14 gl [.v 13 true, .v 0 false, .sl 0, .v 0 false, .sl 0] [.sl 0 3, .v 0 false []] h14 = (fun x : AT E.G.car [.v 13 true, .v 0 false, .sl 0, .v 0 false, .sl 0] => convoy_Rest F x.1 x.2.1 x.2.2.1 x.2.2.2.1 x.2.2.2.2.1) from funext fun x => e14 F x.1 x.2.1 x.2.2.1 x.2.2.2.1 x.2.2.2.2.1] at h⟩
theorem hf68 : Tryd.prog.funcs[68]? = some Tryd.f68 := by kernel_rfl
theorem en68 : Proofs.Enters Tryd.prog 68 := Proofs.enters_of hf68 (by kernel_rfl) rfl
noncomputable def ice_Cell_spans (F : Nat) (a0 : Cell) : Option (Spans) :=
  some (Spans.mk a0.Conc a0.Thick a0.Ridge a0.Press)
noncomputable def s68 (F : Nat) : CS E.G := ⟨68, [.v 17 true], [.v 28 true []], fun x => ice_Cell_spans F x.1⟩
noncomputable def cx68 (F : Nat) : Ctx E := ⟨[], [], F, []⟩
noncomputable def h68 : Hint := .n
theorem e68 (F : Nat) (a0 : Cell) : fnK (E := E) (cx68 F) Tryd.f68 gl [.v 17 true] [.v 28 true []] h68 (a0, ()) = ice_Cell_spans F a0 := by kernel_rfl
theorem c68 (F : Nat) : CSok E gl (s68 F) := ⟨en68, by
  have h := fn_sound (E := E) (gl := gl) (cx := cx68 F) mix all0 inl0 gl_up gl_lt hf68 (ps := [.v 17 true]) (rs := [.v 28 true []]) (by decide) h68
  rwa [show fnK (E := E) (cx68 F) Tryd.f68 gl [.v 17 true] [.v 28 true []] h68 = (fun x : AT E.G.car [.v 17 true] => ice_Cell_spans F x.1) from funext fun x => e68 F x.1] at h⟩
theorem hf116 : Tryd.prog.funcs[116]? = some Tryd.f116 := by kernel_rfl
theorem en116 : Proofs.Enters Tryd.prog 116 := Proofs.enters_of hf116 (by kernel_rfl) rfl
noncomputable def ice_most (F : Nat) : Option (Numbers) :=
  some (Numbers.mk (100 : Int) (400 : Int) (100 : Int) (3 : Int))
noncomputable def s116 (F : Nat) : CS E.G := ⟨116, [], [.v 12 true []], fun x => ice_most F⟩
noncomputable def cx116 (F : Nat) : Ctx E := ⟨[], [], F, []⟩
noncomputable def h116 : Hint := .n
theorem e116 (F : Nat) : fnK (E := E) (cx116 F) Tryd.f116 gl [] [.v 12 true []] h116 (()) = ice_most F := by kernel_rfl
theorem c116 (F : Nat) : CSok E gl (s116 F) := ⟨en116, by
  have h := fn_sound (E := E) (gl := gl) (cx := cx116 F) mix all0 inl0 gl_up gl_lt hf116 (ps := []) (rs := [.v 12 true []]) (by decide) h116
  rwa [show fnK (E := E) (cx116 F) Tryd.f116 gl [] [.v 12 true []] h116 = (fun x : AT E.G.car [] => ice_most F) from funext fun x => e116 F] at h⟩
theorem hf100 : Tryd.prog.funcs[100]? = some Tryd.f100 := by kernel_rfl
theorem en100 : Proofs.Enters Tryd.prog 100 := Proofs.enters_of hf100 (by kernel_rfl) rfl
theorem hf73 : Tryd.prog.funcs[73]? = some Tryd.f73 := by kernel_rfl
theorem en73 : Proofs.Enters Tryd.prog 73 := Proofs.enters_of hf73 (by kernel_rfl) rfl
noncomputable def ice_in (F : Nat) (a0 : Int) (a1 : Int) (a2 : Int) : Option (Bool) :=
  some (decide (a0 ≥ a1) && decide (a0 ≤ a2))
noncomputable def s73 (F : Nat) : CS E.G := ⟨73, [.v 0 false, .v 0 false, .v 0 false], [.v 1 false []], fun x => ice_in F x.1 x.2.1 x.2.2.1⟩
noncomputable def cx73 (F : Nat) : Ctx E := ⟨[], [], F, []⟩
noncomputable def h73 : Hint := .n
theorem e73 (F : Nat) (a0 : Int) (a1 : Int) (a2 : Int) : fnK (E := E) (cx73 F) Tryd.f73 gl [.v 0 false, .v 0 false, .v 0 false] [.v 1 false []] h73 (a0, a1, a2, ()) = ice_in F a0 a1 a2 := by kernel_rfl
theorem c73 (F : Nat) : CSok E gl (s73 F) := ⟨en73, by
  have h := fn_sound (E := E) (gl := gl) (cx := cx73 F) mix all0 inl0 gl_up gl_lt hf73 (ps := [.v 0 false, .v 0 false, .v 0 false]) (rs := [.v 1 false []]) (by decide) h73
  rwa [show fnK (E := E) (cx73 F) Tryd.f73 gl [.v 0 false, .v 0 false, .v 0 false] [.v 1 false []] h73 = (fun x : AT E.G.car [.v 0 false, .v 0 false, .v 0 false] => ice_in F x.1 x.2.1 x.2.2.1) from funext fun x => e73 F x.1 x.2.1 x.2.2.1] at h⟩
theorem hf102 : Tryd.prog.funcs[102]? = some Tryd.f102 := by kernel_rfl
theorem en102 : Proofs.Enters Tryd.prog 102 := Proofs.enters_of hf102 (by kernel_rfl) rfl
noncomputable def ice_right (F : Nat) (a0 : Span) (a1 : Int) : Option (Bool) :=
  bnd (ice_most F) (fun (x : Numbers) => chk ((0 : Int) ≤ a1 ∧ a1 < (↑(4 : Nat) : Int)) (bnd (ice_in F a0.Lo (0 : Int) ([x.a0, x.a1, x.a2, x.a3].getD a1.toNat (0 : Int))) (fun (x_1 : Bool) => bnd (brk x_1 (ice_most F) (some (Numbers.mk (0 : Int) (0 : Int) (0 : Int) (0 : Int)))) (fun (x_2 : Numbers) => chk (x_1 = true → (0 : Int) ≤ a1 ∧ a1 < (↑(4 : Nat) : Int)) (bnd (brk x_1 (ice_in F a0.Hi a0.Lo ([x_2.a0, x_2.a1, x_2.a2, x_2.a3].getD a1.toNat (0 : Int))) (some false)) (fun (x_3 : Bool) => some (x_1 && x_3)))))))
noncomputable def s102 (F : Nat) : CS E.G := ⟨102, [.v 15 true, .v 0 false], [.v 1 false []], fun x => ice_right F x.1 x.2.1⟩
noncomputable def cx102 (F : Nat) : Ctx E := ⟨[s73 F, s116 F], [], F, []⟩
noncomputable def h102 : Hint := .n
theorem e102 (F : Nat) (a0 : Span) (a1 : Int) : fnK (E := E) (cx102 F) Tryd.f102 gl [.v 15 true, .v 0 false] [.v 1 false []] h102 (a0, a1, ()) = ice_right F a0 a1 := by kernel_rfl
theorem c102 (F : Nat) : CSok E gl (s102 F) := ⟨en102, by
  have h := fn_sound (E := E) (gl := gl) (cx := cx102 F) mix (allC (c73 F) (allC (c116 F) all0)) inl0 gl_up gl_lt hf102 (ps := [.v 15 true, .v 0 false]) (rs := [.v 1 false []]) (by decide) h102
  rwa [show fnK (E := E) (cx102 F) Tryd.f102 gl [.v 15 true, .v 0 false] [.v 1 false []] h102 = (fun x : AT E.G.car [.v 15 true, .v 0 false] => ice_right F x.1 x.2.1) from funext fun x => e102 F x.1 x.2.1] at h⟩
theorem hf101 : Tryd.prog.funcs[101]? = some Tryd.f101 := by kernel_rfl
theorem en101 : Proofs.Enters Tryd.prog 101 := Proofs.enters_of hf101 (by kernel_rfl) rfl
theorem hf60 : Tryd.prog.funcs[60]? = some Tryd.f60 := by kernel_rfl
theorem en60 : Proofs.Enters Tryd.prog 60 := Proofs.enters_of hf60 (by kernel_rfl) rfl
noncomputable def ice_CheckCell (F : Nat) (a0 : Cell) : Option (Int) :=
  bnd (ice_Cell_spans F a0) (fun (x : Spans) => join (F) (fun (x_1 : Bool) => brk (!x_1) (some ((20 : Int))) (some ((0 : Int)))) (fun x_1 => bnd (ice_most F) (fun (x_2 : Numbers) => loopC (fun (x_3 : Int) => fun x_4 => brk (decide (x_3 < (4 : Int))) (chk ((0 : Int) ≤ x_3 ∧ x_3 < (↑(4 : Nat) : Int)) (bnd (ice_right F ([x.a0, x.a1, x.a2, x.a3].getD (Int.toNat x_3) (Span.mk (0 : Int) (0 : Int))) x_3) (fun (x_5 : Bool) => brk (!x_5) (x_1 (false)) (chk (InR (x_3 + (1 : Int))) (x_4 (x_3 + (1 : Int))))))) (x_1 (true))) (F) ((0 : Int)))))
noncomputable def s60 (F : Nat) : CS E.G := ⟨60, [.v 17 true], [.v 0 false []], fun x => ice_CheckCell F x.1⟩
noncomputable def cx60 (F : Nat) : Ctx E := ⟨[s68 F, s116 F, s102 F], [(100, Tryd.f100), (101, Tryd.f101)], F, []⟩
noncomputable def h60 : Hint := (.w ⟨[.b], [], [0, 2], [(0, .b)], [], [], [], 3⟩ (.l ⟨[.i], [0], [0, 2], [(80, .i IntKind.i64)], [], [], [], 3⟩ (.c (.p .n) .n)) .n)
theorem e60 (F : Nat) (a0 : Cell) : fnK (E := E) (cx60 F) Tryd.f60 gl [.v 17 true] [.v 0 false []] h60 (a0, ()) = ice_CheckCell F a0 := by kernel_rfl
theorem c60 (F : Nat) : CSok E gl (s60 F) := ⟨en60, by
  have h := fn_sound (E := E) (gl := gl) (cx := cx60 F) mix (allC (c68 F) (allC (c116 F) (allC (c102 F) all0))) (inlC hf100 en100 (inlC hf101 en101 inl0)) gl_up gl_lt hf60 (ps := [.v 17 true]) (rs := [.v 0 false []]) (by decide) h60
  rwa [show fnK (E := E) (cx60 F) Tryd.f60 gl [.v 17 true] [.v 0 false []] h60 = (fun x : AT E.G.car [.v 17 true] => ice_CheckCell F x.1) from funext fun x => e60 F x.1] at h⟩
theorem hf54 : Tryd.prog.funcs[54]? = some Tryd.f54 := by kernel_rfl
theorem en54 : Proofs.Enters Tryd.prog 54 := Proofs.enters_of hf54 (by kernel_rfl) rfl
noncomputable def convoy_met (F : Nat) (a0 : Convoy) (a1 : Cell) : Option (Int) :=
  bnd (convoy_Check F a0) (fun (x : Int) => brk (x != (0 : Int)) (some (x)) (bnd (ice_CheckCell F a1) (fun (x_1 : Int) => some (x_1))))
noncomputable def s54 (F : Nat) : CS E.G := ⟨54, [.v 13 true, .v 17 true], [.v 0 false []], fun x => convoy_met F x.1 x.2.1⟩
noncomputable def cx54 (F : Nat) : Ctx E := ⟨[s59 F, s60 F], [], F, []⟩
noncomputable def h54 : Hint := .n
theorem e54 (F : Nat) (a0 : Convoy) (a1 : Cell) : fnK (E := E) (cx54 F) Tryd.f54 gl [.v 13 true, .v 17 true] [.v 0 false []] h54 (a0, a1, ()) = convoy_met F a0 a1 := by kernel_rfl
theorem c54 (F : Nat) : CSok E gl (s54 F) := ⟨en54, by
  have h := fn_sound (E := E) (gl := gl) (cx := cx54 F) mix (allC (c59 F) (allC (c60 F) all0)) inl0 gl_up gl_lt hf54 (ps := [.v 13 true, .v 17 true]) (rs := [.v 0 false []]) (by decide) h54
  rwa [show fnK (E := E) (cx54 F) Tryd.f54 gl [.v 13 true, .v 17 true] [.v 0 false []] h54 = (fun x : AT E.G.car [.v 13 true, .v 17 true] => convoy_met F x.1 x.2.1) from funext fun x => e54 F x.1 x.2.1] at h⟩
theorem hf91 : Tryd.prog.funcs[91]? = some Tryd.f91 := by kernel_rfl
theorem en91 : Proofs.Enters Tryd.prog 91 := Proofs.enters_of hf91 (by kernel_rfl) rfl
theorem hf98 : Tryd.prog.funcs[98]? = some Tryd.f98 := by kernel_rfl
theorem en98 : Proofs.Enters Tryd.prog 98 := Proofs.enters_of hf98 (by kernel_rfl) rfl
theorem hf75 : Tryd.prog.funcs[75]? = some Tryd.f75 := by kernel_rfl
theorem en75 : Proofs.Enters Tryd.prog 75 := Proofs.enters_of hf75 (by kernel_rfl) rfl
theorem hf55 : Tryd.prog.funcs[55]? = some Tryd.f55 := by kernel_rfl
theorem en55 : Proofs.Enters Tryd.prog 55 := Proofs.enters_of hf55 (by kernel_rfl) rfl
noncomputable def convoy_Convoy_fastest (F : Nat) (a0 : Convoy) (a1 : Int) (a2 : Int) : Option (Int) :=
  loopC (fun (x : Int) => fun x_1 => brk (decide (x ≥ (10 : Int))) (bnd (convoy_Member_halt F a0.Breaker x) (fun (x_2 : Span) => loopC (fun (x_3 : (Int) × ((List (Int)) × ((Int) × (Int)))) => fun x_4 => brk (decide (x_3.fst < (↑a0.Ships.length : Int))) (chk ((0 : Int) ≤ x_3.fst ∧ x_3.fst < (↑a0.Ships.length : Int)) (bnd (convoy_Member_halt F (a0.Ships.getD (Int.toNat x_3.fst) (Member.mk (Ship.mk (0 : Int) (0 : Int) (0 : Int) (0 : Int) [] [] [] (0 : Int) (0 : Int) (0 : Int) (0 : Int)) [] (0 : Int) (0 : Int) (0 : Int))) x) (fun (x_5 : Span) => chk (InR (x_5.Hi - x_3.snd.snd.snd)) (chk (InR (a0.Clear + if x_5.Hi - x_3.snd.snd.snd > (0 : Int) then x_5.Hi - x_3.snd.snd.snd else (0 : Int))) (chk (List.length x_3.snd.fst + [a0.Clear + if x_5.Hi - x_3.snd.snd.snd > (0 : Int) then x_5.Hi - x_3.snd.snd.snd else (0 : Int)].length ≤ (1000000 : Nat)) (chk (InR (x_3.fst + (1 : Int))) (x_4 ((x_3.fst + (1 : Int), x_3.snd.fst ++ [a0.Clear + if x_5.Hi - x_3.snd.snd.snd > (0 : Int) then x_5.Hi - x_3.snd.snd.snd else (0 : Int)], x_5.Hi, x_5.Lo))))))))) (loopC (fun (x_5 : (Int) × (Int)) => fun x_6 => brk (decide (x_5.snd < (↑(List.length x_3.snd.fst) : Int))) (chk ((0 : Int) ≤ x_5.snd ∧ x_5.snd < (↑(List.length x_3.snd.fst) : Int)) (chk ((0 : Int) ≤ x_5.snd ∧ x_5.snd < (↑a0.Ships.length : Int)) (chk (InR (List.getD x_3.snd.fst (Int.toNat x_5.snd) (0 : Int) + (a0.Ships.getD (Int.toNat x_5.snd) (Member.mk (Ship.mk (0 : Int) (0 : Int) (0 : Int) (0 : Int) [] [] [] (0 : Int) (0 : Int) (0 : Int) (0 : Int)) [] (0 : Int) (0 : Int) (0 : Int))).Length)) (chk (InR (x_5.fst + (List.getD x_3.snd.fst (Int.toNat x_5.snd) (0 : Int) + (a0.Ships.getD (Int.toNat x_5.snd) (Member.mk (Ship.mk (0 : Int) (0 : Int) (0 : Int) (0 : Int) [] [] [] (0 : Int) (0 : Int) (0 : Int) (0 : Int)) [] (0 : Int) (0 : Int) (0 : Int))).Length))) (chk (InR (x_5.snd + (1 : Int))) (x_6 ((x_5.fst + (List.getD x_3.snd.fst (Int.toNat x_5.snd) (0 : Int) + (a0.Ships.getD (Int.toNat x_5.snd) (Member.mk (Ship.mk (0 : Int) (0 : Int) (0 : Int) (0 : Int) [] [] [] (0 : Int) (0 : Int) (0 : Int) (0 : Int)) [] (0 : Int) (0 : Int) (0 : Int))).Length), x_5.snd + (1 : Int))))))))) (chk ((0 : Int) ≤ a2 ∧ a2 < (↑(4 : Nat) : Int)) (chk (InR ((60 : Int) * [a0.Close.a0, a0.Close.a1, a0.Close.a2, a0.Close.a3].getD a2.toNat (0 : Int))) (bnd (convoy_way F x ((60 : Int) * [a0.Close.a0, a0.Close.a1, a0.Close.a2, a0.Close.a3].getD a2.toNat (0 : Int))) (fun (x_7 : (Int) × (Int)) => brk (decide (x_5.fst ≤ x_7.fst)) (some (x)) (chk (InR (x - (1 : Int))) (x_1 (x - (1 : Int))))))))) (F) (((0 : Int), (0 : Int))))) (F) (((0 : Int), [], x_2.Hi, x_2.Lo)))) (some ((0 : Int)))) (F) (a1)
noncomputable def s55 (F : Nat) : CS E.G := ⟨55, [.ptr 13, .v 0 false, .v 0 false], [.v 0 false []], fun x => convoy_Convoy_fastest F x.1 x.2.1 x.2.2.1⟩
noncomputable def cx55 (F : Nat) : Ctx E := ⟨[s47 F, s78 F], [(75, Tryd.f75), (91, Tryd.f91), (44, Tryd.f44), (98, Tryd.f98)], F, []⟩
noncomputable def h55 : Hint := (.l ⟨[.i], [0, 32], [0, 1], [(112, .i IntKind.i64)], [], [], [], 2⟩ (.c (.p (.p (.p (.l ⟨[.i, .l 0, .i, .i], [16, 64, 320, 336], [0, 1, 4, 9, 10], [(352, .i IntKind.i64), (48, .h 11 3 0)], [], [(9, 1, .i IntKind.i64), (9, 0, .i IntKind.i64)], [], 12⟩ (.c .n (.l ⟨[.i, .i], [16, 128, 112], [0, 1, 3, 11], [(48, .i IntKind.i64), (144, .i IntKind.i64)], [], [], [], 12⟩ (.c .n (.p .n)))))))) .n))
theorem e55 (F : Nat) (a0 : Convoy) (a1 : Int) (a2 : Int) : fnK (E := E) (cx55 F) Tryd.f55 gl [.ptr 13, .v 0 false, .v 0 false] [.v 0 false []] h55 (a0, a1, a2, ()) = convoy_Convoy_fastest F a0 a1 a2 := by kernel_rfl
theorem c55 (F : Nat) : CSok E gl (s55 F) := ⟨en55, by
  have h := fn_sound (E := E) (gl := gl) (cx := cx55 F) mix (allC (c47 F) (allC (c78 F) all0)) (inlC hf75 en75 (inlC hf91 en91 (inlC hf44 en44 (inlC hf98 en98 inl0)))) gl_up gl_lt hf55 (ps := [.ptr 13, .v 0 false, .v 0 false]) (rs := [.v 0 false []]) (by decide) h55
  rwa [show fnK (E := E) (cx55 F) Tryd.f55 gl [.ptr 13, .v 0 false, .v 0 false] [.v 0 false []] h55 = (fun x : AT E.G.car [.ptr 13, .v 0 false, .v 0 false] => convoy_Convoy_fastest F x.1 x.2.1 x.2.2.1) from funext fun x => e55 F x.1 x.2.1 x.2.2.1] at h⟩
theorem hf106 : Tryd.prog.funcs[106]? = some Tryd.f106 := by kernel_rfl
theorem en106 : Proofs.Enters Tryd.prog 106 := Proofs.enters_of hf106 (by kernel_rfl) rfl
theorem hf121 : Tryd.prog.funcs[121]? = some Tryd.f121 := by kernel_rfl
theorem en121 : Proofs.Enters Tryd.prog 121 := Proofs.enters_of hf121 (by kernel_rfl) rfl
noncomputable def hull_Ship_thrust (F : Nat) (a0 : Ship) (a1 : Int) : Option (Int) :=
  bnd (hull_value F a0.Thrust a1) (fun (x : (Int) × (Int)) => chk (((0 : Int) ≤ x.fst ∧ x.fst ≤ (9223372036854775807 : Int)) ∧ (0 : Int) < x.snd) (some (x.fst / x.snd)))
noncomputable def s121 (F : Nat) : CS E.G := ⟨121, [.ptr 9, .v 0 false], [.v 0 false []], fun x => hull_Ship_thrust F x.1 x.2.1⟩
noncomputable def cx121 (F : Nat) : Ctx E := ⟨[s132 F], [], F, []⟩
noncomputable def h121 : Hint := .n
theorem e121 (F : Nat) (a0 : Ship) (a1 : Int) : fnK (E := E) (cx121 F) Tryd.f121 gl [.ptr 9, .v 0 false] [.v 0 false []] h121 (a0, a1, ()) = hull_Ship_thrust F a0 a1 := by kernel_rfl
theorem c121 (F : Nat) : CSok E gl (s121 F) := ⟨en121, by
  have h := fn_sound (E := E) (gl := gl) (cx := cx121 F) mix (allC (c132 F) all0) inl0 gl_up gl_lt hf121 (ps := [.ptr 9, .v 0 false]) (rs := [.v 0 false []]) (by decide) h121
  rwa [show fnK (E := E) (cx121 F) Tryd.f121 gl [.ptr 9, .v 0 false] [.v 0 false []] h121 = (fun x : AT E.G.car [.ptr 9, .v 0 false] => hull_Ship_thrust F x.1 x.2.1) from funext fun x => e121 F x.1 x.2.1] at h⟩
theorem hf122 : Tryd.prog.funcs[122]? = some Tryd.f122 := by kernel_rfl
theorem en122 : Proofs.Enters Tryd.prog 122 := Proofs.enters_of hf122 (by kernel_rfl) rfl
theorem hf80 : Tryd.prog.funcs[80]? = some Tryd.f80 := by kernel_rfl
theorem en80 : Proofs.Enters Tryd.prog 80 := Proofs.enters_of hf80 (by kernel_rfl) rfl
theorem hf124 : Tryd.prog.funcs[124]? = some Tryd.f124 := by kernel_rfl
theorem en124 : Proofs.Enters Tryd.prog 124 := Proofs.enters_of hf124 (by kernel_rfl) rfl
noncomputable def hull_load (F : Nat) (a0 : Ice) (a1 : Int) (a2 : Bool) : Option (Int) :=
  chk (InR ((100 : Int) + a1)) (chk (InR (a0.Thick * ((100 : Int) + a1))) (join (F) (fun (x : (Int) × (Int)) => brk (a0.Conc == (0 : Int)) (some ((0 : Int))) (chk (InR ((300 : Int) * x.fst)) (chk (InR (x.snd + (300 : Int) * x.fst)) (chk (InR ((2000 : Int) * a0.Press)) (chk (InR (x.snd + (300 : Int) * x.fst + (2000 : Int) * a0.Press)) (some (x.snd + (300 : Int) * x.fst + (2000 : Int) * a0.Press))))))) (fun x => brk (a2) (chk (InR (a0.Thick * ((100 : Int) + a1) + (1 : Int))) (chk ((0 : Int) ≤ a0.Thick * ((100 : Int) + a1) + (1 : Int) ∧ a0.Thick * ((100 : Int) + a1) + (1 : Int) ≤ (9223372036854775807 : Int)) (x (((0 : Int), (a0.Thick * ((100 : Int) + a1) + (1 : Int)) / (2 : Int)))))) (x ((a0.Ridge, a0.Thick * ((100 : Int) + a1)))))))
noncomputable def s124 (F : Nat) : CS E.G := ⟨124, [.v 20 true, .v 0 false, .v 1 false], [.v 0 false []], fun x => hull_load F x.1 x.2.1 x.2.2.1⟩
noncomputable def cx124 (F : Nat) : Ctx E := ⟨[], [], F, []⟩
noncomputable def h124 : Hint := (.k (.k (.j ⟨[.i, .i], [48], [0, 1], [(128, .i IntKind.i64), (112, .i IntKind.i64)], [], [], [], 2⟩ .n .n)))
theorem e124 (F : Nat) (a0 : Ice) (a1 : Int) (a2 : Bool) : fnK (E := E) (cx124 F) Tryd.f124 gl [.v 20 true, .v 0 false, .v 1 false] [.v 0 false []] h124 (a0, a1, a2, ()) = hull_load F a0 a1 a2 := by kernel_rfl
theorem c124 (F : Nat) : CSok E gl (s124 F) := ⟨en124, by
  have h := fn_sound (E := E) (gl := gl) (cx := cx124 F) mix all0 inl0 gl_up gl_lt hf124 (ps := [.v 20 true, .v 0 false, .v 1 false]) (rs := [.v 0 false []]) (by decide) h124
  rwa [show fnK (E := E) (cx124 F) Tryd.f124 gl [.v 20 true, .v 0 false, .v 1 false] [.v 0 false []] h124 = (fun x : AT E.G.car [.v 20 true, .v 0 false, .v 1 false] => hull_load F x.1 x.2.1 x.2.2.1) from funext fun x => e124 F x.1 x.2.1 x.2.2.1] at h⟩
theorem hf84 : Tryd.prog.funcs[84]? = some Tryd.f84 := by kernel_rfl
theorem en84 : Proofs.Enters Tryd.prog 84 := Proofs.enters_of hf84 (by kernel_rfl) rfl
theorem hf107 : Tryd.prog.funcs[107]? = some Tryd.f107 := by kernel_rfl
theorem en107 : Proofs.Enters Tryd.prog 107 := Proofs.enters_of hf107 (by kernel_rfl) rfl
theorem hf66 : Tryd.prog.funcs[66]? = some Tryd.f66 := by kernel_rfl
theorem en66 : Proofs.Enters Tryd.prog 66 := Proofs.enters_of hf66 (by kernel_rfl) rfl
theorem hf104 : Tryd.prog.funcs[104]? = some Tryd.f104 := by kernel_rfl
theorem en104 : Proofs.Enters Tryd.prog 104 := Proofs.enters_of hf104 (by kernel_rfl) rfl
noncomputable def hull_last (F : Nat) (a0 : Cell) : Option (Ice) :=
  some (Ice.mk a0.Conc.Hi a0.Thick.Hi a0.Ridge.Hi a0.Press.Hi)
noncomputable def s104 (F : Nat) : CS E.G := ⟨104, [.v 17 true], [.v 20 true []], fun x => hull_last F x.1⟩
noncomputable def cx104 (F : Nat) : Ctx E := ⟨[], [], F, []⟩
noncomputable def h104 : Hint := .n
theorem e104 (F : Nat) (a0 : Cell) : fnK (E := E) (cx104 F) Tryd.f104 gl [.v 17 true] [.v 20 true []] h104 (a0, ()) = hull_last F a0 := by kernel_rfl
theorem c104 (F : Nat) : CSok E gl (s104 F) := ⟨en104, by
  have h := fn_sound (E := E) (gl := gl) (cx := cx104 F) mix all0 inl0 gl_up gl_lt hf104 (ps := [.v 17 true]) (rs := [.v 20 true []]) (by decide) h104
  rwa [show fnK (E := E) (cx104 F) Tryd.f104 gl [.v 17 true] [.v 20 true []] h104 = (fun x : AT E.G.car [.v 17 true] => hull_last F x.1) from funext fun x => e104 F x.1] at h⟩
theorem hf105 : Tryd.prog.funcs[105]? = some Tryd.f105 := by kernel_rfl
theorem en105 : Proofs.Enters Tryd.prog 105 := Proofs.enters_of hf105 (by kernel_rfl) rfl
theorem hf64 : Tryd.prog.funcs[64]? = some Tryd.f64 := by kernel_rfl
theorem en64 : Proofs.Enters Tryd.prog 64 := Proofs.enters_of hf64 (by kernel_rfl) rfl
noncomputable def hull_Ship_safe (F : Nat) (a0 : Ship) (a1 : Cell) (a2 : Bool) : Option (Int × Int) :=
  bnd (hull_last F a1) (fun (x : Ice) => join (F) (fun (x_1 : (Int) × (Bool)) => brk (decide (x_1.fst < (10 : Int))) (some (((0 : Int), (4 : Int)))) (join (F) (fun (x_2 : (Int) × (Bool)) => brk (!x_2.snd) (some (((0 : Int), (41 : Int)))) (some ((x_2.fst, (0 : Int))))) (fun x_2 => join (F) (fun (x_3 : Bool) => brk (!x_3) (x_2 (((0 : Int), false))) (loopC (fun (x_4 : (Int) × (Int)) => fun x_5 => brk (decide (x_4.fst < x_4.snd)) (chk (InR (x_4.snd - x_4.fst)) (chk (InR (x_4.snd - x_4.fst + (1 : Int))) (chk ((0 : Int) ≤ x_4.snd - x_4.fst + (1 : Int) ∧ x_4.snd - x_4.fst + (1 : Int) ≤ (9223372036854775807 : Int)) (chk (InR (x_4.fst + (x_4.snd - x_4.fst + (1 : Int)) / (2 : Int))) (join (F) (fun (x_6 : Bool) => brk (x_6) (x_5 ((x_4.fst + (x_4.snd - x_4.fst + (1 : Int)) / (2 : Int), x_4.snd))) (chk (InR (x_4.fst + (x_4.snd - x_4.fst + (1 : Int)) / (2 : Int) - (1 : Int))) (x_5 ((x_4.fst, x_4.fst + (x_4.snd - x_4.fst + (1 : Int)) / (2 : Int) - (1 : Int)))))) (fun x_6 => join (F) (fun (x_7 : Bool) => brk (x_7) (bnd (hull_load F x (x_4.fst + (x_4.snd - x_4.fst + (1 : Int)) / (2 : Int)) a2) (fun (x_8 : Int) => chk (InR (a0.Class - (1 : Int))) (chk ((0 : Int) ≤ a0.Class - (1 : Int) ∧ a0.Class - (1 : Int) < (↑(6 : Nat) : Int)) (x_6 (decide (x_8 ≤ [(4000 : Int), (8000 : Int), (14000 : Int), (24000 : Int), (40000 : Int), (90000 : Int)].getD (a0.Class - (1 : Int)).toNat (0 : Int))))))) (x_6 (false))) (fun x_7 => bnd (hull_end F a0.Thrust) (fun (x_8 : Int) => brk (decide (x_4.fst + (x_4.snd - x_4.fst + (1 : Int)) / (2 : Int) ≤ x_8)) (bnd (hull_Ship_thrust F a0 (x_4.fst + (x_4.snd - x_4.fst + (1 : Int)) / (2 : Int))) (fun (x_9 : Int) => bnd (hull_value F a0.Water (x_4.fst + (x_4.snd - x_4.fst + (1 : Int)) / (2 : Int))) (fun (x_10 : (Int) × (Int)) => bnd (hull_value F a0.Ice x.Thick) (fun (x_11 : (Int) × (Int)) => join (F) (fun (x_12 : (Int) × (Int)) => chk (InR (a0.Slow * (x_4.fst + (x_4.snd - x_4.fst + (1 : Int)) / (2 : Int)))) (chk (InR ((1000 : Int) + a0.Slow * (x_4.fst + (x_4.snd - x_4.fst + (1 : Int)) / (2 : Int)))) (chk (InR (x_11.fst * ((1000 : Int) + a0.Slow * (x_4.fst + (x_4.snd - x_4.fst + (1 : Int)) / (2 : Int))))) (chk (InR (x_11.fst * ((1000 : Int) + a0.Slow * (x_4.fst + (x_4.snd - x_4.fst + (1 : Int)) / (2 : Int))) * x_12.snd)) (chk (InR (a0.Ridge * x_12.fst)) (chk (InR (a0.Ridge * x_12.fst * x_11.snd)) (chk (InR (a0.Ridge * x_12.fst * x_11.snd * (100000 : Int))) (chk (InR (x_11.fst * ((1000 : Int) + a0.Slow * (x_4.fst + (x_4.snd - x_4.fst + (1 : Int)) / (2 : Int))) * x_12.snd + a0.Ridge * x_12.fst * x_11.snd * (100000 : Int))) (chk (InR (x.Conc * (x_11.fst * ((1000 : Int) + a0.Slow * (x_4.fst + (x_4.snd - x_4.fst + (1 : Int)) / (2 : Int))) * x_12.snd + a0.Ridge * x_12.fst * x_11.snd * (100000 : Int)))) (chk (InR (x_11.snd * (10000000 : Int))) (chk (InR (x_10.fst * (x_11.snd * (10000000 : Int)))) (chk (InR (x.Conc * (x_11.fst * ((1000 : Int) + a0.Slow * (x_4.fst + (x_4.snd - x_4.fst + (1 : Int)) / (2 : Int))) * x_12.snd + a0.Ridge * x_12.fst * x_11.snd * (100000 : Int)) * x_10.snd)) (chk (InR (x_10.fst * (x_11.snd * (10000000 : Int)) + x.Conc * (x_11.fst * ((1000 : Int) + a0.Slow * (x_4.fst + (x_4.snd - x_4.fst + (1 : Int)) / (2 : Int))) * x_12.snd + a0.Ridge * x_12.fst * x_11.snd * (100000 : Int)) * x_10.snd)) (chk (InR (a0.Press * x.Press)) (chk (InR (a0.Press * x.Press * x_10.snd)) (chk (InR (a0.Press * x.Press * x_10.snd * (x_11.snd * (10000000 : Int)))) (chk (InR (x_10.fst * (x_11.snd * (10000000 : Int)) + x.Conc * (x_11.fst * ((1000 : Int) + a0.Slow * (x_4.fst + (x_4.snd - x_4.fst + (1 : Int)) / (2 : Int))) * x_12.snd + a0.Ridge * x_12.fst * x_11.snd * (100000 : Int)) * x_10.snd + a0.Press * x.Press * x_10.snd * (x_11.snd * (10000000 : Int)))) (chk (InR (x_10.snd * (x_11.snd * (10000000 : Int)))) (chk (InR (x_10.fst * (x_11.snd * (10000000 : Int)) + x.Conc * (x_11.fst * ((1000 : Int) + a0.Slow * (x_4.fst + (x_4.snd - x_4.fst + (1 : Int)) / (2 : Int))) * x_12.snd + a0.Ridge * x_12.fst * x_11.snd * (100000 : Int)) * x_10.snd + a0.Press * x.Press * x_10.snd * (x_11.snd * (10000000 : Int)) + x_10.snd * (x_11.snd * (10000000 : Int)))) (chk (InR (x_10.fst * (x_11.snd * (10000000 : Int)) + x.Conc * (x_11.fst * ((1000 : Int) + a0.Slow * (x_4.fst + (x_4.snd - x_4.fst + (1 : Int)) / (2 : Int))) * x_12.snd + a0.Ridge * x_12.fst * x_11.snd * (100000 : Int)) * x_10.snd + a0.Press * x.Press * x_10.snd * (x_11.snd * (10000000 : Int)) + x_10.snd * (x_11.snd * (10000000 : Int)) - (1 : Int))) (chk (InR (x_10.snd * (x_11.snd * (10000000 : Int)))) (chk (((0 : Int) ≤ x_10.fst * (x_11.snd * (10000000 : Int)) + x.Conc * (x_11.fst * ((1000 : Int) + a0.Slow * (x_4.fst + (x_4.snd - x_4.fst + (1 : Int)) / (2 : Int))) * x_12.snd + a0.Ridge * x_12.fst * x_11.snd * (100000 : Int)) * x_10.snd + a0.Press * x.Press * x_10.snd * (x_11.snd * (10000000 : Int)) + x_10.snd * (x_11.snd * (10000000 : Int)) - (1 : Int) ∧ x_10.fst * (x_11.snd * (10000000 : Int)) + x.Conc * (x_11.fst * ((1000 : Int) + a0.Slow * (x_4.fst + (x_4.snd - x_4.fst + (1 : Int)) / (2 : Int))) * x_12.snd + a0.Ridge * x_12.fst * x_11.snd * (100000 : Int)) * x_10.snd + a0.Press * x.Press * x_10.snd * (x_11.snd * (10000000 : Int)) + x_10.snd * (x_11.snd * (10000000 : Int)) - (1 : Int) ≤ (9223372036854775807 : Int)) ∧ (0 : Int) < x_10.snd * (x_11.snd * (10000000 : Int))) (x_7 (decide (x_9 ≥ (x_10.fst * (x_11.snd * (10000000 : Int)) + x.Conc * (x_11.fst * ((1000 : Int) + a0.Slow * (x_4.fst + (x_4.snd - x_4.fst + (1 : Int)) / (2 : Int))) * x_12.snd + a0.Ridge * x_12.fst * x_11.snd * (100000 : Int)) * x_10.snd + a0.Press * x.Press * x_10.snd * (x_11.snd * (10000000 : Int)) + x_10.snd * (x_11.snd * (10000000 : Int)) - (1 : Int)) / (x_10.snd * (x_11.snd * (10000000 : Int)))))))))))))))))))))))))))) (fun x_12 => brk (a2) (x_12 (((0 : Int), a0.Brash))) (x_12 ((x.Ridge, (100 : Int))))))))) (x_7 (false)))))))))) (x_2 ((x_4.fst, true)))) (F) (((10 : Int), (250 : Int))))) (fun x_3 => join (F) (fun (x_4 : Bool) => brk (x_4) (bnd (hull_load F x (10 : Int) a2) (fun (x_5 : Int) => chk (InR (a0.Class - (1 : Int))) (chk ((0 : Int) ≤ a0.Class - (1 : Int) ∧ a0.Class - (1 : Int) < (↑(6 : Nat) : Int)) (x_3 (decide (x_5 ≤ [(4000 : Int), (8000 : Int), (14000 : Int), (24000 : Int), (40000 : Int), (90000 : Int)].getD (a0.Class - (1 : Int)).toNat (0 : Int))))))) (x_3 (false))) (fun x_4 => bnd (hull_end F a0.Thrust) (fun (x_5 : Int) => brk (decide ((10 : Int) ≤ x_5)) (bnd (hull_Ship_thrust F a0 (10 : Int)) (fun (x_6 : Int) => bnd (hull_value F a0.Water (10 : Int)) (fun (x_7 : (Int) × (Int)) => bnd (hull_value F a0.Ice x.Thick) (fun (x_8 : (Int) × (Int)) => join (F) (fun (x_9 : (Int) × (Int)) => chk (InR (a0.Slow * (10 : Int))) (chk (InR ((1000 : Int) + a0.Slow * (10 : Int))) (chk (InR (x_8.fst * ((1000 : Int) + a0.Slow * (10 : Int)))) (chk (InR (x_8.fst * ((1000 : Int) + a0.Slow * (10 : Int)) * x_9.snd)) (chk (InR (a0.Ridge * x_9.fst)) (chk (InR (a0.Ridge * x_9.fst * x_8.snd)) (chk (InR (a0.Ridge * x_9.fst * x_8.snd * (100000 : Int))) (chk (InR (x_8.fst * ((1000 : Int) + a0.Slow * (10 : Int)) * x_9.snd + a0.Ridge * x_9.fst * x_8.snd * (100000 : Int))) (chk (InR (x.Conc * (x_8.fst * ((1000 : Int) + a0.Slow * (10 : Int)) * x_9.snd + a0.Ridge * x_9.fst * x_8.snd * (100000 : Int)))) (chk (InR (x_8.snd * (10000000 : Int))) (chk (InR (x_7.fst * (x_8.snd * (10000000 : Int)))) (chk (InR (x.Conc * (x_8.fst * ((1000 : Int) + a0.Slow * (10 : Int)) * x_9.snd + a0.Ridge * x_9.fst * x_8.snd * (100000 : Int)) * x_7.snd)) (chk (InR (x_7.fst * (x_8.snd * (10000000 : Int)) + x.Conc * (x_8.fst * ((1000 : Int) + a0.Slow * (10 : Int)) * x_9.snd + a0.Ridge * x_9.fst * x_8.snd * (100000 : Int)) * x_7.snd)) (chk (InR (a0.Press * x.Press)) (chk (InR (a0.Press * x.Press * x_7.snd)) (chk (InR (a0.Press * x.Press * x_7.snd * (x_8.snd * (10000000 : Int)))) (chk (InR (x_7.fst * (x_8.snd * (10000000 : Int)) + x.Conc * (x_8.fst * ((1000 : Int) + a0.Slow * (10 : Int)) * x_9.snd + a0.Ridge * x_9.fst * x_8.snd * (100000 : Int)) * x_7.snd + a0.Press * x.Press * x_7.snd * (x_8.snd * (10000000 : Int)))) (chk (InR (x_7.snd * (x_8.snd * (10000000 : Int)))) (chk (InR (x_7.fst * (x_8.snd * (10000000 : Int)) + x.Conc * (x_8.fst * ((1000 : Int) + a0.Slow * (10 : Int)) * x_9.snd + a0.Ridge * x_9.fst * x_8.snd * (100000 : Int)) * x_7.snd + a0.Press * x.Press * x_7.snd * (x_8.snd * (10000000 : Int)) + x_7.snd * (x_8.snd * (10000000 : Int)))) (chk (InR (x_7.fst * (x_8.snd * (10000000 : Int)) + x.Conc * (x_8.fst * ((1000 : Int) + a0.Slow * (10 : Int)) * x_9.snd + a0.Ridge * x_9.fst * x_8.snd * (100000 : Int)) * x_7.snd + a0.Press * x.Press * x_7.snd * (x_8.snd * (10000000 : Int)) + x_7.snd * (x_8.snd * (10000000 : Int)) - (1 : Int))) (chk (InR (x_7.snd * (x_8.snd * (10000000 : Int)))) (chk (((0 : Int) ≤ x_7.fst * (x_8.snd * (10000000 : Int)) + x.Conc * (x_8.fst * ((1000 : Int) + a0.Slow * (10 : Int)) * x_9.snd + a0.Ridge * x_9.fst * x_8.snd * (100000 : Int)) * x_7.snd + a0.Press * x.Press * x_7.snd * (x_8.snd * (10000000 : Int)) + x_7.snd * (x_8.snd * (10000000 : Int)) - (1 : Int) ∧ x_7.fst * (x_8.snd * (10000000 : Int)) + x.Conc * (x_8.fst * ((1000 : Int) + a0.Slow * (10 : Int)) * x_9.snd + a0.Ridge * x_9.fst * x_8.snd * (100000 : Int)) * x_7.snd + a0.Press * x.Press * x_7.snd * (x_8.snd * (10000000 : Int)) + x_7.snd * (x_8.snd * (10000000 : Int)) - (1 : Int) ≤ (9223372036854775807 : Int)) ∧ (0 : Int) < x_7.snd * (x_8.snd * (10000000 : Int))) (x_4 (decide (x_6 ≥ (x_7.fst * (x_8.snd * (10000000 : Int)) + x.Conc * (x_8.fst * ((1000 : Int) + a0.Slow * (10 : Int)) * x_9.snd + a0.Ridge * x_9.fst * x_8.snd * (100000 : Int)) * x_7.snd + a0.Press * x.Press * x_7.snd * (x_8.snd * (10000000 : Int)) + x_7.snd * (x_8.snd * (10000000 : Int)) - (1 : Int)) / (x_7.snd * (x_8.snd * (10000000 : Int)))))))))))))))))))))))))))) (fun x_9 => brk (a2) (x_9 (((0 : Int), a0.Brash))) (x_9 ((x.Ridge, (100 : Int))))))))) (x_4 (false)))))))) (fun x_1 => join (F) (fun (x_2 : Bool) => brk (!x_2) (x_1 (((0 : Int), false))) (loopC (fun (x_3 : (Int) × (Int)) => fun x_4 => brk (decide (x_3.fst < x_3.snd)) (chk (InR (x_3.snd - x_3.fst)) (chk (InR (x_3.snd - x_3.fst + (1 : Int))) (chk ((0 : Int) ≤ x_3.snd - x_3.fst + (1 : Int) ∧ x_3.snd - x_3.fst + (1 : Int) ≤ (9223372036854775807 : Int)) (chk (InR (x_3.fst + (x_3.snd - x_3.fst + (1 : Int)) / (2 : Int))) (join (F) (fun (x_5 : Bool) => brk (x_5) (x_4 ((x_3.fst + (x_3.snd - x_3.fst + (1 : Int)) / (2 : Int), x_3.snd))) (chk (InR (x_3.fst + (x_3.snd - x_3.fst + (1 : Int)) / (2 : Int) - (1 : Int))) (x_4 ((x_3.fst, x_3.fst + (x_3.snd - x_3.fst + (1 : Int)) / (2 : Int) - (1 : Int)))))) (fun x_5 => bnd (hull_end F a0.Thrust) (fun (x_6 : Int) => brk (decide (x_3.fst + (x_3.snd - x_3.fst + (1 : Int)) / (2 : Int) ≤ x_6)) (bnd (hull_Ship_thrust F a0 (x_3.fst + (x_3.snd - x_3.fst + (1 : Int)) / (2 : Int))) (fun (x_7 : Int) => bnd (hull_value F a0.Water (x_3.fst + (x_3.snd - x_3.fst + (1 : Int)) / (2 : Int))) (fun (x_8 : (Int) × (Int)) => bnd (hull_value F a0.Ice x.Thick) (fun (x_9 : (Int) × (Int)) => join (F) (fun (x_10 : (Int) × (Int)) => chk (InR (a0.Slow * (x_3.fst + (x_3.snd - x_3.fst + (1 : Int)) / (2 : Int)))) (chk (InR ((1000 : Int) + a0.Slow * (x_3.fst + (x_3.snd - x_3.fst + (1 : Int)) / (2 : Int)))) (chk (InR (x_9.fst * ((1000 : Int) + a0.Slow * (x_3.fst + (x_3.snd - x_3.fst + (1 : Int)) / (2 : Int))))) (chk (InR (x_9.fst * ((1000 : Int) + a0.Slow * (x_3.fst + (x_3.snd - x_3.fst + (1 : Int)) / (2 : Int))) * x_10.snd)) (chk (InR (a0.Ridge * x_10.fst)) (chk (InR (a0.Ridge * x_10.fst * x_9.snd)) (chk (InR (a0.Ridge * x_10.fst * x_9.snd * (100000 : Int))) (chk (InR (x_9.fst * ((1000 : Int) + a0.Slow * (x_3.fst + (x_3.snd - x_3.fst + (1 : Int)) / (2 : Int))) * x_10.snd + a0.Ridge * x_10.fst * x_9.snd * (100000 : Int))) (chk (InR (x.Conc * (x_9.fst * ((1000 : Int) + a0.Slow * (x_3.fst + (x_3.snd - x_3.fst + (1 : Int)) / (2 : Int))) * x_10.snd + a0.Ridge * x_10.fst * x_9.snd * (100000 : Int)))) (chk (InR (x_9.snd * (10000000 : Int))) (chk (InR (x_8.fst * (x_9.snd * (10000000 : Int)))) (chk (InR (x.Conc * (x_9.fst * ((1000 : Int) + a0.Slow * (x_3.fst + (x_3.snd - x_3.fst + (1 : Int)) / (2 : Int))) * x_10.snd + a0.Ridge * x_10.fst * x_9.snd * (100000 : Int)) * x_8.snd)) (chk (InR (x_8.fst * (x_9.snd * (10000000 : Int)) + x.Conc * (x_9.fst * ((1000 : Int) + a0.Slow * (x_3.fst + (x_3.snd - x_3.fst + (1 : Int)) / (2 : Int))) * x_10.snd + a0.Ridge * x_10.fst * x_9.snd * (100000 : Int)) * x_8.snd)) (chk (InR (a0.Press * x.Press)) (chk (InR (a0.Press * x.Press * x_8.snd)) (chk (InR (a0.Press * x.Press * x_8.snd * (x_9.snd * (10000000 : Int)))) (chk (InR (x_8.fst * (x_9.snd * (10000000 : Int)) + x.Conc * (x_9.fst * ((1000 : Int) + a0.Slow * (x_3.fst + (x_3.snd - x_3.fst + (1 : Int)) / (2 : Int))) * x_10.snd + a0.Ridge * x_10.fst * x_9.snd * (100000 : Int)) * x_8.snd + a0.Press * x.Press * x_8.snd * (x_9.snd * (10000000 : Int)))) (chk (InR (x_8.snd * (x_9.snd * (10000000 : Int)))) (chk (InR (x_8.fst * (x_9.snd * (10000000 : Int)) + x.Conc * (x_9.fst * ((1000 : Int) + a0.Slow * (x_3.fst + (x_3.snd - x_3.fst + (1 : Int)) / (2 : Int))) * x_10.snd + a0.Ridge * x_10.fst * x_9.snd * (100000 : Int)) * x_8.snd + a0.Press * x.Press * x_8.snd * (x_9.snd * (10000000 : Int)) + x_8.snd * (x_9.snd * (10000000 : Int)))) (chk (InR (x_8.fst * (x_9.snd * (10000000 : Int)) + x.Conc * (x_9.fst * ((1000 : Int) + a0.Slow * (x_3.fst + (x_3.snd - x_3.fst + (1 : Int)) / (2 : Int))) * x_10.snd + a0.Ridge * x_10.fst * x_9.snd * (100000 : Int)) * x_8.snd + a0.Press * x.Press * x_8.snd * (x_9.snd * (10000000 : Int)) + x_8.snd * (x_9.snd * (10000000 : Int)) - (1 : Int))) (chk (InR (x_8.snd * (x_9.snd * (10000000 : Int)))) (chk (((0 : Int) ≤ x_8.fst * (x_9.snd * (10000000 : Int)) + x.Conc * (x_9.fst * ((1000 : Int) + a0.Slow * (x_3.fst + (x_3.snd - x_3.fst + (1 : Int)) / (2 : Int))) * x_10.snd + a0.Ridge * x_10.fst * x_9.snd * (100000 : Int)) * x_8.snd + a0.Press * x.Press * x_8.snd * (x_9.snd * (10000000 : Int)) + x_8.snd * (x_9.snd * (10000000 : Int)) - (1 : Int) ∧ x_8.fst * (x_9.snd * (10000000 : Int)) + x.Conc * (x_9.fst * ((1000 : Int) + a0.Slow * (x_3.fst + (x_3.snd - x_3.fst + (1 : Int)) / (2 : Int))) * x_10.snd + a0.Ridge * x_10.fst * x_9.snd * (100000 : Int)) * x_8.snd + a0.Press * x.Press * x_8.snd * (x_9.snd * (10000000 : Int)) + x_8.snd * (x_9.snd * (10000000 : Int)) - (1 : Int) ≤ (9223372036854775807 : Int)) ∧ (0 : Int) < x_8.snd * (x_9.snd * (10000000 : Int))) (x_5 (decide (x_7 ≥ (x_8.fst * (x_9.snd * (10000000 : Int)) + x.Conc * (x_9.fst * ((1000 : Int) + a0.Slow * (x_3.fst + (x_3.snd - x_3.fst + (1 : Int)) / (2 : Int))) * x_10.snd + a0.Ridge * x_10.fst * x_9.snd * (100000 : Int)) * x_8.snd + a0.Press * x.Press * x_8.snd * (x_9.snd * (10000000 : Int)) + x_8.snd * (x_9.snd * (10000000 : Int)) - (1 : Int)) / (x_8.snd * (x_9.snd * (10000000 : Int)))))))))))))))))))))))))))) (fun x_10 => brk (a2) (x_10 (((0 : Int), a0.Brash))) (x_10 ((x.Ridge, (100 : Int))))))))) (x_5 (false))))))))) (x_1 ((x_3.fst, true)))) (F) (((0 : Int), (250 : Int))))) (fun x_2 => bnd (hull_end F a0.Thrust) (fun (x_3 : Int) => brk (decide ((0 : Int) ≤ x_3)) (bnd (hull_Ship_thrust F a0 (0 : Int)) (fun (x_4 : Int) => bnd (hull_value F a0.Water (0 : Int)) (fun (x_5 : (Int) × (Int)) => bnd (hull_value F a0.Ice x.Thick) (fun (x_6 : (Int) × (Int)) => join (F) (fun (x_7 : (Int) × (Int)) => chk (InR (a0.Slow * (0 : Int))) (chk (InR ((1000 : Int) + a0.Slow * (0 : Int))) (chk (InR (x_6.fst * ((1000 : Int) + a0.Slow * (0 : Int)))) (chk (InR (x_6.fst * ((1000 : Int) + a0.Slow * (0 : Int)) * x_7.snd)) (chk (InR (a0.Ridge * x_7.fst)) (chk (InR (a0.Ridge * x_7.fst * x_6.snd)) (chk (InR (a0.Ridge * x_7.fst * x_6.snd * (100000 : Int))) (chk (InR (x_6.fst * ((1000 : Int) + a0.Slow * (0 : Int)) * x_7.snd + a0.Ridge * x_7.fst * x_6.snd * (100000 : Int))) (chk (InR (x.Conc * (x_6.fst * ((1000 : Int) + a0.Slow * (0 : Int)) * x_7.snd + a0.Ridge * x_7.fst * x_6.snd * (100000 : Int)))) (chk (InR (x_6.snd * (10000000 : Int))) (chk (InR (x_5.fst * (x_6.snd * (10000000 : Int)))) (chk (InR (x.Conc * (x_6.fst * ((1000 : Int) + a0.Slow * (0 : Int)) * x_7.snd + a0.Ridge * x_7.fst * x_6.snd * (100000 : Int)) * x_5.snd)) (chk (InR (x_5.fst * (x_6.snd * (10000000 : Int)) + x.Conc * (x_6.fst * ((1000 : Int) + a0.Slow * (0 : Int)) * x_7.snd + a0.Ridge * x_7.fst * x_6.snd * (100000 : Int)) * x_5.snd)) (chk (InR (a0.Press * x.Press)) (chk (InR (a0.Press * x.Press * x_5.snd)) (chk (InR (a0.Press * x.Press * x_5.snd * (x_6.snd * (10000000 : Int)))) (chk (InR (x_5.fst * (x_6.snd * (10000000 : Int)) + x.Conc * (x_6.fst * ((1000 : Int) + a0.Slow * (0 : Int)) * x_7.snd + a0.Ridge * x_7.fst * x_6.snd * (100000 : Int)) * x_5.snd + a0.Press * x.Press * x_5.snd * (x_6.snd * (10000000 : Int)))) (chk (InR (x_5.snd * (x_6.snd * (10000000 : Int)))) (chk (InR (x_5.fst * (x_6.snd * (10000000 : Int)) + x.Conc * (x_6.fst * ((1000 : Int) + a0.Slow * (0 : Int)) * x_7.snd + a0.Ridge * x_7.fst * x_6.snd * (100000 : Int)) * x_5.snd + a0.Press * x.Press * x_5.snd * (x_6.snd * (10000000 : Int)) + x_5.snd * (x_6.snd * (10000000 : Int)))) (chk (InR (x_5.fst * (x_6.snd * (10000000 : Int)) + x.Conc * (x_6.fst * ((1000 : Int) + a0.Slow * (0 : Int)) * x_7.snd + a0.Ridge * x_7.fst * x_6.snd * (100000 : Int)) * x_5.snd + a0.Press * x.Press * x_5.snd * (x_6.snd * (10000000 : Int)) + x_5.snd * (x_6.snd * (10000000 : Int)) - (1 : Int))) (chk (InR (x_5.snd * (x_6.snd * (10000000 : Int)))) (chk (((0 : Int) ≤ x_5.fst * (x_6.snd * (10000000 : Int)) + x.Conc * (x_6.fst * ((1000 : Int) + a0.Slow * (0 : Int)) * x_7.snd + a0.Ridge * x_7.fst * x_6.snd * (100000 : Int)) * x_5.snd + a0.Press * x.Press * x_5.snd * (x_6.snd * (10000000 : Int)) + x_5.snd * (x_6.snd * (10000000 : Int)) - (1 : Int) ∧ x_5.fst * (x_6.snd * (10000000 : Int)) + x.Conc * (x_6.fst * ((1000 : Int) + a0.Slow * (0 : Int)) * x_7.snd + a0.Ridge * x_7.fst * x_6.snd * (100000 : Int)) * x_5.snd + a0.Press * x.Press * x_5.snd * (x_6.snd * (10000000 : Int)) + x_5.snd * (x_6.snd * (10000000 : Int)) - (1 : Int) ≤ (9223372036854775807 : Int)) ∧ (0 : Int) < x_5.snd * (x_6.snd * (10000000 : Int))) (x_2 (decide (x_4 ≥ (x_5.fst * (x_6.snd * (10000000 : Int)) + x.Conc * (x_6.fst * ((1000 : Int) + a0.Slow * (0 : Int)) * x_7.snd + a0.Ridge * x_7.fst * x_6.snd * (100000 : Int)) * x_5.snd + a0.Press * x.Press * x_5.snd * (x_6.snd * (10000000 : Int)) + x_5.snd * (x_6.snd * (10000000 : Int)) - (1 : Int)) / (x_5.snd * (x_6.snd * (10000000 : Int)))))))))))))))))))))))))))) (fun x_7 => brk (a2) (x_7 (((0 : Int), a0.Brash))) (x_7 ((x.Ridge, (100 : Int))))))))) (x_2 (false))))))
noncomputable def s64 (F : Nat) : CS E.G := ⟨64, [.ptr 9, .v 17 true, .v 1 false], [.v 0 false [], .v 0 false []], fun x => hull_Ship_safe F x.1 x.2.1 x.2.2.1⟩
noncomputable def cx64 (F : Nat) : Ctx E := ⟨[s120 F, s121 F, s132 F, s124 F, s104 F], [(66, Tryd.f66), (106, Tryd.f106), (107, Tryd.f107), (80, Tryd.f80), (122, Tryd.f122), (84, Tryd.f84), (105, Tryd.f105)], F, []⟩
noncomputable def h64 : Hint := (.p (.w ⟨[.i, .b], [], [0, 1], [(0, .t [.i IntKind.i64, .b])], [], [], [], 5⟩ (.w ⟨[.b], [], [0, 1], [(0, .b)], [], [], [], 5⟩ (.s (.p (.k (.k (.k (.k (.j ⟨[.i, .i], [16, 32, 128, 96, 80, 112], [0, 1, 7], [(160, .i IntKind.i64), (144, .i IntKind.i64)], [], [], [], 10⟩ .n .n)))))) .n) (.c .n (.l ⟨[.i, .i], [32], [0, 1], [(0, .i IntKind.i64), (16, .i IntKind.i64)], [], [], [], 5⟩ (.c (.w ⟨[.b], [], [0, 1], [(0, .b)], [], [], [], 5⟩ (.s (.p (.k (.k (.k (.k (.j ⟨[.i, .i], [16, 32, 128, 96, 80, 112], [0, 1, 7], [(160, .i IntKind.i64), (144, .i IntKind.i64)], [], [], [], 10⟩ .n .n)))))) .n) .n) .n)))) (.c .n (.p (.w ⟨[.i, .b], [], [0, 1, 5], [(0, .t [.i IntKind.i64, .b])], [], [], [], 6⟩ (.w ⟨[.b], [], [0, 1, 5], [(0, .b)], [], [], [], 6⟩ (.w ⟨[.b], [], [0, 1], [(0, .b)], [], [], [], 6⟩ (.s (.p (.k (.k (.k (.k (.j ⟨[.i, .i], [16, 32, 128, 96, 80, 112], [0, 1, 8], [(160, .i IntKind.i64), (144, .i IntKind.i64)], [], [], [], 11⟩ .n .n)))))) .n) (.s (.p .n) .n)) (.c .n (.l ⟨[.i, .i], [32], [0, 1, 5], [(0, .i IntKind.i64), (16, .i IntKind.i64)], [], [], [], 6⟩ (.c (.w ⟨[.b], [], [0, 1, 5], [(0, .b)], [], [], [], 6⟩ (.w ⟨[.b], [], [0, 1], [(0, .b)], [], [], [], 6⟩ (.s (.p (.k (.k (.k (.k (.j ⟨[.i, .i], [16, 32, 128, 96, 80, 112], [0, 1, 8], [(160, .i IntKind.i64), (144, .i IntKind.i64)], [], [], [], 11⟩ .n .n)))))) .n) (.s (.p .n) .n)) .n) .n)))) .n)))))
theorem e64 (F : Nat) (a0 : Ship) (a1 : Cell) (a2 : Bool) : fnK (E := E) (cx64 F) Tryd.f64 gl [.ptr 9, .v 17 true, .v 1 false] [.v 0 false [], .v 0 false []] h64 (a0, a1, a2, ()) = hull_Ship_safe F a0 a1 a2 := by kernel_rfl
theorem c64 (F : Nat) : CSok E gl (s64 F) := ⟨en64, by
  have h := fn_sound (E := E) (gl := gl) (cx := cx64 F) mix (allC (c120 F) (allC (c121 F) (allC (c132 F) (allC (c124 F) (allC (c104 F) all0))))) (inlC hf66 en66 (inlC hf106 en106 (inlC hf107 en107 (inlC hf80 en80 (inlC hf122 en122 (inlC hf84 en84 (inlC hf105 en105 inl0))))))) gl_up gl_lt hf64 (ps := [.ptr 9, .v 17 true, .v 1 false]) (rs := [.v 0 false [], .v 0 false []]) (by decide) h64
  rwa [show fnK (E := E) (cx64 F) Tryd.f64 gl [.ptr 9, .v 17 true, .v 1 false] [.v 0 false [], .v 0 false []] h64 = (fun x : AT E.G.car [.ptr 9, .v 17 true, .v 1 false] => hull_Ship_safe F x.1 x.2.1 x.2.2.1) from funext fun x => e64 F x.1 x.2.1 x.2.2.1] at h⟩
theorem hf82 : Tryd.prog.funcs[82]? = some Tryd.f82 := by kernel_rfl
theorem en82 : Proofs.Enters Tryd.prog 82 := Proofs.enters_of hf82 (by kernel_rfl) rfl
noncomputable def hull_met (F : Nat) (a0 : Ship) (a1 : Cell) : Option (Int) :=
  bnd (hull_Check F a0) (fun (x : Int) => brk (x != (0 : Int)) (some (x)) (bnd (ice_CheckCell F a1) (fun (x_1 : Int) => some (x_1))))
noncomputable def s82 (F : Nat) : CS E.G := ⟨82, [.v 9 true, .v 17 true], [.v 0 false []], fun x => hull_met F x.1 x.2.1⟩
noncomputable def cx82 (F : Nat) : Ctx E := ⟨[s60 F, s61 F], [], F, []⟩
noncomputable def h82 : Hint := .n
theorem e82 (F : Nat) (a0 : Ship) (a1 : Cell) : fnK (E := E) (cx82 F) Tryd.f82 gl [.v 9 true, .v 17 true] [.v 0 false []] h82 (a0, a1, ()) = hull_met F a0 a1 := by kernel_rfl
theorem c82 (F : Nat) : CSok E gl (s82 F) := ⟨en82, by
  have h := fn_sound (E := E) (gl := gl) (cx := cx82 F) mix (allC (c60 F) (allC (c61 F) all0)) inl0 gl_up gl_lt hf82 (ps := [.v 9 true, .v 17 true]) (rs := [.v 0 false []]) (by decide) h82
  rwa [show fnK (E := E) (cx82 F) Tryd.f82 gl [.v 9 true, .v 17 true] [.v 0 false []] h82 = (fun x : AT E.G.car [.v 9 true, .v 17 true] => hull_met F x.1 x.2.1) from funext fun x => e82 F x.1 x.2.1] at h⟩
theorem hf99 : Tryd.prog.funcs[99]? = some Tryd.f99 := by kernel_rfl
theorem en99 : Proofs.Enters Tryd.prog 99 := Proofs.enters_of hf99 (by kernel_rfl) rfl
noncomputable def hull_Safe (F : Nat) (a0 : Ship) (a1 : Cell) (a2 : Bool) : Option (Int × Int) :=
  bnd (hull_met F a0 a1) (fun (x : Int) => brk (x != (0 : Int)) (some (((0 : Int), x))) (bnd (hull_Ship_safe F a0 a1 a2) (fun (x_1 : (Int) × (Int)) => some (x_1))))
noncomputable def s99 (F : Nat) : CS E.G := ⟨99, [.v 9 true, .v 17 true, .v 1 false], [.v 0 false [], .v 0 false []], fun x => hull_Safe F x.1 x.2.1 x.2.2.1⟩
noncomputable def cx99 (F : Nat) : Ctx E := ⟨[s64 F, s82 F], [], F, []⟩
noncomputable def h99 : Hint := .n
theorem e99 (F : Nat) (a0 : Ship) (a1 : Cell) (a2 : Bool) : fnK (E := E) (cx99 F) Tryd.f99 gl [.v 9 true, .v 17 true, .v 1 false] [.v 0 false [], .v 0 false []] h99 (a0, a1, a2, ()) = hull_Safe F a0 a1 a2 := by kernel_rfl
theorem c99 (F : Nat) : CSok E gl (s99 F) := ⟨en99, by
  have h := fn_sound (E := E) (gl := gl) (cx := cx99 F) mix (allC (c64 F) (allC (c82 F) all0)) inl0 gl_up gl_lt hf99 (ps := [.v 9 true, .v 17 true, .v 1 false]) (rs := [.v 0 false [], .v 0 false []]) (by decide) h99
  rwa [show fnK (E := E) (cx99 F) Tryd.f99 gl [.v 9 true, .v 17 true, .v 1 false] [.v 0 false [], .v 0 false []] h99 = (fun x : AT E.G.car [.v 9 true, .v 17 true, .v 1 false] => hull_Safe F x.1 x.2.1 x.2.2.1) from funext fun x => e99 F x.1 x.2.1 x.2.2.1] at h⟩
theorem hf56 : Tryd.prog.funcs[56]? = some Tryd.f56 := by kernel_rfl
theorem en56 : Proofs.Enters Tryd.prog 56 := Proofs.enters_of hf56 (by kernel_rfl) rfl
noncomputable def convoy_Convoy_most (F : Nat) (a0 : Convoy) (a1 : Cell) : Option (Int) :=
  chk ([a0.Breaker].length + a0.Ships.length ≤ (1000000 : Nat)) (loopC (fun (x : (Int) × (Int)) => fun x_1 => brk (decide (x.snd < (↑([a0.Breaker] ++ a0.Ships).length : Int))) (chk ((0 : Int) ≤ x.snd ∧ x.snd < (↑([a0.Breaker] ++ a0.Ships).length : Int)) (bnd (hull_Safe F (([a0.Breaker] ++ a0.Ships).getD (Int.toNat x.snd) (Member.mk (Ship.mk (0 : Int) (0 : Int) (0 : Int) (0 : Int) [] [] [] (0 : Int) (0 : Int) (0 : Int) (0 : Int)) [] (0 : Int) (0 : Int) (0 : Int))).Ship a1 (decide (x.snd > (0 : Int)))) (fun (x_2 : (Int) × (Int)) => brk (x_2.snd != (0 : Int)) (some ((0 : Int))) (chk (InR (x.snd + (1 : Int))) (x_1 ((if x_2.fst < x.fst then x_2.fst else x.fst, x.snd + (1 : Int)))))))) (some (x.fst))) (F) (((250 : Int), (0 : Int))))
noncomputable def s56 (F : Nat) : CS E.G := ⟨56, [.ptr 13, .v 17 true], [.v 0 false []], fun x => convoy_Convoy_most F x.1 x.2.1⟩
noncomputable def cx56 (F : Nat) : Ctx E := ⟨[s99 F], [(48, Tryd.f48)], F, []⟩
noncomputable def h56 : Hint := (.p (.l ⟨[.i, .i], [192, 48, 176], [0, 2, 9], [(80, .i IntKind.i64), (208, .i IntKind.i64)], [], [], [], 10⟩ (.c .n .n)))
theorem e56 (F : Nat) (a0 : Convoy) (a1 : Cell) : fnK (E := E) (cx56 F) Tryd.f56 gl [.ptr 13, .v 17 true] [.v 0 false []] h56 (a0, a1, ()) = convoy_Convoy_most F a0 a1 := by kernel_rfl
theorem c56 (F : Nat) : CSok E gl (s56 F) := ⟨en56, by
  have h := fn_sound (E := E) (gl := gl) (cx := cx56 F) mix (allC (c99 F) all0) (inlC hf48 en48 inl0) gl_up gl_lt hf56 (ps := [.ptr 13, .v 17 true]) (rs := [.v 0 false []]) (by decide) h56
  rwa [show fnK (E := E) (cx56 F) Tryd.f56 gl [.ptr 13, .v 17 true] [.v 0 false []] h56 = (fun x : AT E.G.car [.ptr 13, .v 17 true] => convoy_Convoy_most F x.1 x.2.1) from funext fun x => e56 F x.1 x.2.1] at h⟩
theorem hf18 : Tryd.prog.funcs[18]? = some Tryd.f18 := by kernel_rfl
theorem en18 : Proofs.Enters Tryd.prog 18 := Proofs.enters_of hf18 (by kernel_rfl) rfl
noncomputable def convoy_Fastest (F : Nat) (a0 : Convoy) (a1 : Cell) : Option (Int × Int) :=
  bnd (convoy_met F a0 a1) (fun (x : Int) => brk (x != (0 : Int)) (some (((0 : Int), x))) (bnd (convoy_Convoy_most F a0 a1) (fun (x_1 : Int) => bnd (convoy_Convoy_fastest F a0 x_1 a1.Press.Hi) (fun (x_2 : Int) => brk (x_2 == (0 : Int)) (some (((0 : Int), (4 : Int)))) (some ((x_2, (0 : Int))))))))
noncomputable def s18 (F : Nat) : CS E.G := ⟨18, [.v 13 true, .v 17 true], [.v 0 false [], .v 0 false []], fun x => convoy_Fastest F x.1 x.2.1⟩
noncomputable def cx18 (F : Nat) : Ctx E := ⟨[s54 F, s55 F, s56 F], [], F, []⟩
noncomputable def h18 : Hint := (.c .n .n)
theorem e18 (F : Nat) (a0 : Convoy) (a1 : Cell) : fnK (E := E) (cx18 F) Tryd.f18 gl [.v 13 true, .v 17 true] [.v 0 false [], .v 0 false []] h18 (a0, a1, ()) = convoy_Fastest F a0 a1 := by kernel_rfl
theorem c18 (F : Nat) : CSok E gl (s18 F) := ⟨en18, by
  have h := fn_sound (E := E) (gl := gl) (cx := cx18 F) mix (allC (c54 F) (allC (c55 F) (allC (c56 F) all0))) inl0 gl_up gl_lt hf18 (ps := [.v 13 true, .v 17 true]) (rs := [.v 0 false [], .v 0 false []]) (by decide) h18
  rwa [show fnK (E := E) (cx18 F) Tryd.f18 gl [.v 13 true, .v 17 true] [.v 0 false [], .v 0 false []] h18 = (fun x : AT E.G.car [.v 13 true, .v 17 true] => convoy_Fastest F x.1 x.2.1) from funext fun x => e18 F x.1 x.2.1] at h⟩
theorem hf30 : Tryd.prog.funcs[30]? = some Tryd.f30 := by kernel_rfl
theorem en30 : Proofs.Enters Tryd.prog 30 := Proofs.enters_of hf30 (by kernel_rfl) rfl
noncomputable def convoy_Way (F : Nat) (a0 : Int) (a1 : Int) : Option (Int × Int × Int) :=
  bnd (convoy_within F a0 (0 : Int) (250 : Int)) (fun (x : Bool) => bnd (brk (!!x) (convoy_within F a1 (0 : Int) (100000 : Int)) (some false)) (fun (x_1 : Bool) => brk (!x || !x_1) (some (((0 : Int), (0 : Int), (6 : Int)))) (bnd (convoy_way F a0 a1) (fun (x_2 : (Int) × (Int)) => some ((x_2.fst, x_2.snd, (0 : Int)))))))
noncomputable def s30 (F : Nat) : CS E.G := ⟨30, [.v 0 false, .v 0 false], [.v 0 false [], .v 0 false [], .v 0 false []], fun x => convoy_Way F x.1 x.2.1⟩
noncomputable def cx30 (F : Nat) : Ctx E := ⟨[s46 F, s78 F], [], F, []⟩
noncomputable def h30 : Hint := .n
theorem e30 (F : Nat) (a0 : Int) (a1 : Int) : fnK (E := E) (cx30 F) Tryd.f30 gl [.v 0 false, .v 0 false] [.v 0 false [], .v 0 false [], .v 0 false []] h30 (a0, a1, ()) = convoy_Way F a0 a1 := by kernel_rfl
theorem c30 (F : Nat) : CSok E gl (s30 F) := ⟨en30, by
  have h := fn_sound (E := E) (gl := gl) (cx := cx30 F) mix (allC (c46 F) (allC (c78 F) all0)) inl0 gl_up gl_lt hf30 (ps := [.v 0 false, .v 0 false]) (rs := [.v 0 false [], .v 0 false [], .v 0 false []]) (by decide) h30
  rwa [show fnK (E := E) (cx30 F) Tryd.f30 gl [.v 0 false, .v 0 false] [.v 0 false [], .v 0 false [], .v 0 false []] h30 = (fun x : AT E.G.car [.v 0 false, .v 0 false] => convoy_Way F x.1 x.2.1) from funext fun x => e30 F x.1 x.2.1] at h⟩
theorem hf39 : Tryd.prog.funcs[39]? = some Tryd.f39 := by kernel_rfl
theorem en39 : Proofs.Enters Tryd.prog 39 := Proofs.enters_of hf39 (by kernel_rfl) rfl
noncomputable def convoy_Tail (F : Nat) (a0 : Convoy) (a1 : Int) : Option (Int × Int) :=
  bnd (convoy_asked F a0 a1) (fun (x : Int) => brk (x != (0 : Int)) (some (((0 : Int), x))) (bnd (convoy_Member_halt F a0.Breaker a1) (fun (x_1 : Span) => loopC (fun (x_2 : (Int) × ((List (Int)) × ((Int) × (Int)))) => fun x_3 => brk (decide (x_2.fst < (↑a0.Ships.length : Int))) (chk ((0 : Int) ≤ x_2.fst ∧ x_2.fst < (↑a0.Ships.length : Int)) (bnd (convoy_Member_halt F (a0.Ships.getD (Int.toNat x_2.fst) (Member.mk (Ship.mk (0 : Int) (0 : Int) (0 : Int) (0 : Int) [] [] [] (0 : Int) (0 : Int) (0 : Int) (0 : Int)) [] (0 : Int) (0 : Int) (0 : Int))) a1) (fun (x_4 : Span) => chk (InR (x_4.Hi - x_2.snd.snd.snd)) (chk (InR (a0.Clear + if x_4.Hi - x_2.snd.snd.snd > (0 : Int) then x_4.Hi - x_2.snd.snd.snd else (0 : Int))) (chk (List.length x_2.snd.fst + [a0.Clear + if x_4.Hi - x_2.snd.snd.snd > (0 : Int) then x_4.Hi - x_2.snd.snd.snd else (0 : Int)].length ≤ (1000000 : Nat)) (chk (InR (x_2.fst + (1 : Int))) (x_3 ((x_2.fst + (1 : Int), x_2.snd.fst ++ [a0.Clear + if x_4.Hi - x_2.snd.snd.snd > (0 : Int) then x_4.Hi - x_2.snd.snd.snd else (0 : Int)], x_4.Hi, x_4.Lo))))))))) (loopC (fun (x_4 : (Int) × (Int)) => fun x_5 => brk (decide (x_4.snd < (↑(List.length x_2.snd.fst) : Int))) (chk ((0 : Int) ≤ x_4.snd ∧ x_4.snd < (↑(List.length x_2.snd.fst) : Int)) (chk ((0 : Int) ≤ x_4.snd ∧ x_4.snd < (↑a0.Ships.length : Int)) (chk (InR (List.getD x_2.snd.fst (Int.toNat x_4.snd) (0 : Int) + (a0.Ships.getD (Int.toNat x_4.snd) (Member.mk (Ship.mk (0 : Int) (0 : Int) (0 : Int) (0 : Int) [] [] [] (0 : Int) (0 : Int) (0 : Int) (0 : Int)) [] (0 : Int) (0 : Int) (0 : Int))).Length)) (chk (InR (x_4.fst + (List.getD x_2.snd.fst (Int.toNat x_4.snd) (0 : Int) + (a0.Ships.getD (Int.toNat x_4.snd) (Member.mk (Ship.mk (0 : Int) (0 : Int) (0 : Int) (0 : Int) [] [] [] (0 : Int) (0 : Int) (0 : Int) (0 : Int)) [] (0 : Int) (0 : Int) (0 : Int))).Length))) (chk (InR (x_4.snd + (1 : Int))) (x_5 ((x_4.fst + (List.getD x_2.snd.fst (Int.toNat x_4.snd) (0 : Int) + (a0.Ships.getD (Int.toNat x_4.snd) (Member.mk (Ship.mk (0 : Int) (0 : Int) (0 : Int) (0 : Int) [] [] [] (0 : Int) (0 : Int) (0 : Int) (0 : Int)) [] (0 : Int) (0 : Int) (0 : Int))).Length), x_4.snd + (1 : Int))))))))) (some ((x_4.fst, (0 : Int))))) (F) (((0 : Int), (0 : Int))))) (F) (((0 : Int), [], x_1.Hi, x_1.Lo)))))
noncomputable def s39 (F : Nat) : CS E.G := ⟨39, [.v 13 true, .v 0 false], [.v 0 false [], .v 0 false []], fun x => convoy_Tail F x.1 x.2.1⟩
noncomputable def cx39 (F : Nat) : Ctx E := ⟨[s43 F, s47 F], [(91, Tryd.f91), (44, Tryd.f44)], F, []⟩
noncomputable def h39 : Hint := (.c .n (.p (.p (.l ⟨[.i, .l 0, .i, .i], [16, 64, 320, 336], [0, 1, 3, 5, 2, 4, 6, 8, 9], [(352, .i IntKind.i64), (48, .h 10 3 0)], [], [(9, 1, .i IntKind.i64), (9, 0, .i IntKind.i64)], [], 11⟩ (.c .n (.l ⟨[.i, .i], [16, 128, 112], [0, 1, 3, 5, 2, 4, 6, 7, 10], [(48, .i IntKind.i64), (144, .i IntKind.i64)], [], [], [], 11⟩ .n))))))
theorem e39 (F : Nat) (a0 : Convoy) (a1 : Int) : fnK (E := E) (cx39 F) Tryd.f39 gl [.v 13 true, .v 0 false] [.v 0 false [], .v 0 false []] h39 (a0, a1, ()) = convoy_Tail F a0 a1 := by kernel_rfl
theorem c39 (F : Nat) : CSok E gl (s39 F) := ⟨en39, by
  have h := fn_sound (E := E) (gl := gl) (cx := cx39 F) mix (allC (c43 F) (allC (c47 F) all0)) (inlC hf91 en91 (inlC hf44 en44 inl0)) gl_up gl_lt hf39 (ps := [.v 13 true, .v 0 false]) (rs := [.v 0 false [], .v 0 false []]) (by decide) h39
  rwa [show fnK (E := E) (cx39 F) Tryd.f39 gl [.v 13 true, .v 0 false] [.v 0 false [], .v 0 false []] h39 = (fun x : AT E.G.car [.v 13 true, .v 0 false] => convoy_Tail F x.1 x.2.1) from funext fun x => e39 F x.1 x.2.1] at h⟩
theorem hf96 : Tryd.prog.funcs[96]? = some Tryd.f96 := by kernel_rfl
theorem en96 : Proofs.Enters Tryd.prog 96 := Proofs.enters_of hf96 (by kernel_rfl) rfl
noncomputable def law03_Example (F : Nat) : Option (Ship) :=
  some (Ship.mk (3 : Int) (6000 : Int) (800 : Int) (9000 : Int) [Point.mk (0 : Int) (1000 : Int), Point.mk (100 : Int) (800 : Int), Point.mk (200 : Int) (0 : Int)] [Point.mk (0 : Int) (0 : Int), Point.mk (200 : Int) (400 : Int)] [Point.mk (0 : Int) (0 : Int), Point.mk (400 : Int) (2000 : Int)] (0 : Int) (20 : Int) (10 : Int) (100 : Int))
noncomputable def s96 (F : Nat) : CS E.G := ⟨96, [], [.v 9 true [104, 104, 104]], fun x => law03_Example F⟩
noncomputable def cx96 (F : Nat) : Ctx E := ⟨[], [], F, []⟩
noncomputable def h96 : Hint := .n
theorem e96 (F : Nat) : fnK (E := E) (cx96 F) Tryd.f96 gl [] [.v 9 true [104, 104, 104]] h96 (()) = law03_Example F := by kernel_rfl
theorem c96 (F : Nat) : CSok E gl (s96 F) := ⟨en96, by
  have h := fn_sound (E := E) (gl := gl) (cx := cx96 F) mix all0 inl0 gl_up gl_lt hf96 (ps := []) (rs := [.v 9 true [104, 104, 104]]) (by decide) h96
  rwa [show fnK (E := E) (cx96 F) Tryd.f96 gl [] [.v 9 true [104, 104, 104]] h96 = (fun x : AT E.G.car [] => law03_Example F) from funext fun x => e96 F] at h⟩
theorem hf127 : Tryd.prog.funcs[127]? = some Tryd.f127 := by kernel_rfl
theorem en127 : Proofs.Enters Tryd.prog 127 := Proofs.enters_of hf127 (by kernel_rfl) rfl
noncomputable def slices_Clone_hull_Point (F : Nat) (a0 : List Point) : Option ((List Point)) :=
  chk ((0 : Nat) + a0.length ≤ (1000000 : Nat)) (some ([] ++ a0))
noncomputable def s127 (F : Nat) : CS E.G := ⟨127, [.sl 7], [.sl 7 104], fun x => slices_Clone_hull_Point F x.1⟩
noncomputable def cx127 (F : Nat) : Ctx E := ⟨[], [], F, []⟩
noncomputable def h127 : Hint := .n
theorem e127n (F : Nat) (c : Nat) : fnK (E := E) (cx127 F) Tryd.f127 gl [.nl] [.sl 7 104] .n (c, ()) = some ([]) := by kernel_rfl
theorem e127s (F : Nat) (a0 : List Point) : fnK (E := E) (cx127 F) Tryd.f127 gl [.sn 7] [.sl 7 104] h127 (a0, ()) = slices_Clone_hull_Point F a0 := by kernel_rfl
theorem c127 (F : Nat) : CSok E gl (s127 F) := ⟨en127, by
  have h0 := fn_sound (E := E) (gl := gl) (cx := cx127 F) mix all0 inl0 gl_up gl_lt hf127 (ps := [.nl]) (rs := [.sl 7 104]) (by decide) .n
  have h1 := fn_sound (E := E) (gl := gl) (cx := cx127 F) mix all0 inl0 gl_up gl_lt hf127 (ps := [.sn 7]) (rs := [.sl 7 104]) (by decide) h127
  rw [show fnK (E := E) (cx127 F) Tryd.f127 gl [.nl] [.sl 7 104] .n = (fun x : AT E.G.car [.nl] => some ([])) from funext fun x => e127n F x.1] at h0
  rw [show fnK (E := E) (cx127 F) Tryd.f127 gl [.sn 7] [.sl 7 104] h127 = (fun x : AT E.G.car [.sn 7] => slices_Clone_hull_Point F x.1) from funext fun x => e127s F x.1] at h1
  exact contract_nil (E := E) (t := 7) (rs := [.sl 7 104]) (f := slices_Clone_hull_Point F) (f0 := fun _ => some ([])) (f1 := slices_Clone_hull_Point F) h0 h1 (fun _ _ h => (show slices_Clone_hull_Point F [] = some [] by kernel_rfl).symm.trans h) (fun _ _ h => h)⟩
theorem hf145 : Tryd.prog.funcs[145]? = some Tryd.f145 := by kernel_rfl
theorem en145 : Proofs.Enters Tryd.prog 145 := Proofs.enters_of hf145 (by kernel_rfl) rfl
noncomputable def law03_CopyShip (F : Nat) (a0 : Ship) : Option (Ship) :=
  bnd (slices_Clone_hull_Point F a0.Thrust) (fun (x : List (Point)) => bnd (slices_Clone_hull_Point F a0.Water) (fun (x_1 : List (Point)) => bnd (slices_Clone_hull_Point F a0.Ice) (fun (x_2 : List (Point)) => some (Ship.mk a0.Class a0.Power a0.Draught a0.Tonnes x x_1 x_2 a0.Slow a0.Brash a0.Ridge a0.Press))))
noncomputable def s145 (F : Nat) : CS E.G := ⟨145, [.v 9 true], [.v 9 true [104, 104, 104]], fun x => law03_CopyShip F x.1⟩
noncomputable def cx145 (F : Nat) : Ctx E := ⟨[s127 F], [], F, []⟩
noncomputable def h145 : Hint := .n
theorem e145 (F : Nat) (a0 : Ship) : fnK (E := E) (cx145 F) Tryd.f145 gl [.v 9 true] [.v 9 true [104, 104, 104]] h145 (a0, ()) = law03_CopyShip F a0 := by kernel_rfl
theorem c145 (F : Nat) : CSok E gl (s145 F) := ⟨en145, by
  have h := fn_sound (E := E) (gl := gl) (cx := cx145 F) mix (allC (c127 F) all0) inl0 gl_up gl_lt hf145 (ps := [.v 9 true]) (rs := [.v 9 true [104, 104, 104]]) (by decide) h145
  rwa [show fnK (E := E) (cx145 F) Tryd.f145 gl [.v 9 true] [.v 9 true [104, 104, 104]] h145 = (fun x : AT E.G.car [.v 9 true] => law03_CopyShip F x.1) from funext fun x => e145 F x.1] at h⟩
theorem hf133 : Tryd.prog.funcs[133]? = some Tryd.f133 := by kernel_rfl
theorem en133 : Proofs.Enters Tryd.prog 133 := Proofs.enters_of hf133 (by kernel_rfl) rfl
noncomputable def law05_copyMember (F : Nat) (a0 : Member) : Option (Member) :=
  bnd (law03_CopyShip F a0.Ship) (fun (x : Ship) => bnd (slices_Clone_hull_Point F a0.Stop) (fun (x_1 : List (Point)) => some (Member.mk x x_1 a0.Length a0.Delay a0.Short)))
noncomputable def s133 (F : Nat) : CS E.G := ⟨133, [.v 10 true], [.v 10 true [104, 104, 104, 104]], fun x => law05_copyMember F x.1⟩
noncomputable def cx133 (F : Nat) : Ctx E := ⟨[s127 F, s145 F], [], F, []⟩
noncomputable def h133 : Hint := .n
theorem e133 (F : Nat) (a0 : Member) : fnK (E := E) (cx133 F) Tryd.f133 gl [.v 10 true] [.v 10 true [104, 104, 104, 104]] h133 (a0, ()) = law05_copyMember F a0 := by kernel_rfl
theorem c133 (F : Nat) : CSok E gl (s133 F) := ⟨en133, by
  have h := fn_sound (E := E) (gl := gl) (cx := cx133 F) mix (allC (c127 F) (allC (c145 F) all0)) inl0 gl_up gl_lt hf133 (ps := [.v 10 true]) (rs := [.v 10 true [104, 104, 104, 104]]) (by decide) h133
  rwa [show fnK (E := E) (cx133 F) Tryd.f133 gl [.v 10 true] [.v 10 true [104, 104, 104, 104]] h133 = (fun x : AT E.G.car [.v 10 true] => law05_copyMember F x.1) from funext fun x => e133 F x.1] at h⟩
theorem hf134 : Tryd.prog.funcs[134]? = some Tryd.f134 := by kernel_rfl
theorem en134 : Proofs.Enters Tryd.prog 134 := Proofs.enters_of hf134 (by kernel_rfl) rfl
noncomputable def slices_Clone_convoy_Member (F : Nat) (a0 : List Member) : Option ((List Member)) :=
  chk ((0 : Nat) + a0.length ≤ (1000000 : Nat)) (some ([] ++ a0))
noncomputable def s134 (F : Nat) : CS E.G := ⟨134, [.sl 10], [.sl 10 27], fun x => slices_Clone_convoy_Member F x.1⟩
noncomputable def cx134 (F : Nat) : Ctx E := ⟨[], [], F, []⟩
noncomputable def h134 : Hint := .n
theorem e134n (F : Nat) (c : Nat) : fnK (E := E) (cx134 F) Tryd.f134 gl [.nl] [.sl 10 27] .n (c, ()) = some ([]) := by kernel_rfl
theorem e134s (F : Nat) (a0 : List Member) : fnK (E := E) (cx134 F) Tryd.f134 gl [.sn 10] [.sl 10 27] h134 (a0, ()) = slices_Clone_convoy_Member F a0 := by kernel_rfl
theorem c134 (F : Nat) : CSok E gl (s134 F) := ⟨en134, by
  have h0 := fn_sound (E := E) (gl := gl) (cx := cx134 F) mix all0 inl0 gl_up gl_lt hf134 (ps := [.nl]) (rs := [.sl 10 27]) (by decide) .n
  have h1 := fn_sound (E := E) (gl := gl) (cx := cx134 F) mix all0 inl0 gl_up gl_lt hf134 (ps := [.sn 10]) (rs := [.sl 10 27]) (by decide) h134
  rw [show fnK (E := E) (cx134 F) Tryd.f134 gl [.nl] [.sl 10 27] .n = (fun x : AT E.G.car [.nl] => some ([])) from funext fun x => e134n F x.1] at h0
  rw [show fnK (E := E) (cx134 F) Tryd.f134 gl [.sn 10] [.sl 10 27] h134 = (fun x : AT E.G.car [.sn 10] => slices_Clone_convoy_Member F x.1) from funext fun x => e134s F x.1] at h1
  exact contract_nil (E := E) (t := 10) (rs := [.sl 10 27]) (f := slices_Clone_convoy_Member F) (f0 := fun _ => some ([])) (f1 := slices_Clone_convoy_Member F) h0 h1 (fun _ _ h => (show slices_Clone_convoy_Member F [] = some [] by kernel_rfl).symm.trans h) (fun _ _ h => h)⟩
theorem hf97 : Tryd.prog.funcs[97]? = some Tryd.f97 := by kernel_rfl
theorem en97 : Proofs.Enters Tryd.prog 97 := Proofs.enters_of hf97 (by kernel_rfl) rfl
noncomputable def law05_CopyConvoy (F : Nat) (a0 : Convoy) : Option (Convoy) :=
  bnd (law05_copyMember F a0.Breaker) (fun (x : Member) => bnd (slices_Clone_convoy_Member F a0.Ships) (fun (x_1 : List (Member)) => loopC (fun (x_2 : (Int) × (List (Member))) => fun x_3 => brk (decide (x_2.fst < (↑(List.length x_1) : Int))) (chk ((0 : Int) ≤ x_2.fst ∧ x_2.fst < (↑(List.length x_2.snd) : Int)) (bnd (law05_copyMember F (List.getD x_2.snd (Int.toNat x_2.fst) (Member.mk (Ship.mk (0 : Int) (0 : Int) (0 : Int) (0 : Int) [] [] [] (0 : Int) (0 : Int) (0 : Int) (0 : Int)) [] (0 : Int) (0 : Int) (0 : Int)))) (fun (x_4 : Member) => chk ((0 : Int) ≤ x_2.fst ∧ x_2.fst < (↑(List.length x_2.snd) : Int)) (chk (InR (x_2.fst + (1 : Int))) (x_3 ((x_2.fst + (1 : Int), List.set x_2.snd (Int.toNat x_2.fst) x_4))))))) (some (Convoy.mk x x_2.snd a0.Clear a0.Close))) (F) (((0 : Int), x_1))))
noncomputable def s97 (F : Nat) : CS E.G := ⟨97, [.v 13 true], [.v 13 true [104, 104, 104, 104, 27]], fun x => law05_CopyConvoy F x.1⟩
noncomputable def cx97 (F : Nat) : Ctx E := ⟨[s133 F, s134 F], [], F, []⟩
noncomputable def h97 : Hint := (.l ⟨[.i, .l 10], [16, 32, 224], [0, 6, 7, 12, 11, 10, 9, 8], [(240, .i IntKind.i64)], [], [], [(12, 27, 10)], 13⟩ .n)
theorem e97 (F : Nat) (a0 : Convoy) : fnK (E := E) (cx97 F) Tryd.f97 gl [.v 13 true] [.v 13 true [104, 104, 104, 104, 27]] h97 (a0, ()) = law05_CopyConvoy F a0 := by kernel_rfl
theorem c97 (F : Nat) : CSok E gl (s97 F) := ⟨en97, by
  have h := fn_sound (E := E) (gl := gl) (cx := cx97 F) mix (allC (c133 F) (allC (c134 F) all0)) inl0 gl_up gl_lt hf97 (ps := [.v 13 true]) (rs := [.v 13 true [104, 104, 104, 104, 27]]) (by decide) h97
  rwa [show fnK (E := E) (cx97 F) Tryd.f97 gl [.v 13 true] [.v 13 true [104, 104, 104, 104, 27]] h97 = (fun x : AT E.G.car [.v 13 true] => law05_CopyConvoy F x.1) from funext fun x => e97 F x.1] at h⟩
theorem hf49 : Tryd.prog.funcs[49]? = some Tryd.f49 := by kernel_rfl
theorem en49 : Proofs.Enters Tryd.prog 49 := Proofs.enters_of hf49 (by kernel_rfl) rfl
noncomputable def law05_Example (F : Nat) (a0 : Int) : Option (Convoy) :=
  bnd (law03_Example F) (fun (x : Ship) => loopC (fun (x_1 : (Int) × ((List (Member)) × ((List (Point)) × ((List (Point)) × ((List (Point)) × (List (Point))))))) => fun x_2 => brk (decide (x_1.fst < a0)) (chk (List.length x_1.snd.fst + [Member.mk (Ship.mk x.Class x.Power x.Draught x.Tonnes x_1.snd.snd.snd.snd.snd x_1.snd.snd.snd.snd.fst x_1.snd.snd.snd.fst x.Slow x.Brash x.Ridge x.Press) x_1.snd.snd.fst (120 : Int) (30 : Int) (100 : Int)].length ≤ (1000000 : Nat)) (chk (InR (x_1.fst + (1 : Int))) (x_2 ((x_1.fst + (1 : Int), x_1.snd.fst ++ [Member.mk (Ship.mk x.Class x.Power x.Draught x.Tonnes x_1.snd.snd.snd.snd.snd x_1.snd.snd.snd.snd.fst x_1.snd.snd.snd.fst x.Slow x.Brash x.Ridge x.Press) x_1.snd.snd.fst (120 : Int) (30 : Int) (100 : Int)], x_1.snd.snd))))) (bnd (law05_CopyConvoy F (Convoy.mk (Member.mk (Ship.mk x.Class x.Power x.Draught x.Tonnes x_1.snd.snd.snd.snd.snd x_1.snd.snd.snd.snd.fst x_1.snd.snd.snd.fst x.Slow x.Brash x.Ridge x.Press) x_1.snd.snd.fst (120 : Int) (30 : Int) (100 : Int)) x_1.snd.fst (50 : Int) (Numbers.mk (60 : Int) (4 : Int) (2 : Int) (0 : Int)))) (fun (x_3 : Convoy) => some (x_3)))) (F) (((0 : Int), [], [Point.mk (0 : Int) (0 : Int), Point.mk (200 : Int) (1000 : Int)], x.Ice, x.Water, x.Thrust)))
noncomputable def s49 (F : Nat) : CS E.G := ⟨49, [.v 0 false], [.v 13 true [104, 104, 104, 104, 27]], fun x => law05_Example F x.1⟩
noncomputable def cx49 (F : Nat) : Ctx E := ⟨[s96 F, s97 F], [], F, []⟩
noncomputable def h49 : Hint := (.l ⟨[.i, .l 10, .l 7, .l 7, .l 7, .l 7], [32, 64, 48, 208], [0, 1, 7, 6], [(224, .i IntKind.i64)], [], [(7, 15, .h 8 27 10), (7, 11, .x 9 7), (7, 6, .x 10 7), (7, 5, .x 11 7), (7, 4, .x 12 7), (6, 11, .r 9), (6, 6, .r 10), (6, 5, .r 11), (6, 4, .r 12)], [], 13⟩ .n)
theorem e49 (F : Nat) (a0 : Int) : fnK (E := E) (cx49 F) Tryd.f49 gl [.v 0 false] [.v 13 true [104, 104, 104, 104, 27]] h49 (a0, ()) = law05_Example F a0 := by kernel_rfl
theorem c49 (F : Nat) : CSok E gl (s49 F) := ⟨en49, by
  have h := fn_sound (E := E) (gl := gl) (cx := cx49 F) mix (allC (c96 F) (allC (c97 F) all0)) inl0 gl_up gl_lt hf49 (ps := [.v 0 false]) (rs := [.v 13 true [104, 104, 104, 104, 27]]) (by decide) h49
  rwa [show fnK (E := E) (cx49 F) Tryd.f49 gl [.v 0 false] [.v 13 true [104, 104, 104, 104, 27]] h49 = (fun x : AT E.G.car [.v 0 false] => law05_Example F x.1) from funext fun x => e49 F x.1] at h⟩
theorem hf50 : Tryd.prog.funcs[50]? = some Tryd.f50 := by kernel_rfl
theorem en50 : Proofs.Enters Tryd.prog 50 := Proofs.enters_of hf50 (by kernel_rfl) rfl
noncomputable def convoy_Open (F : Nat) (a0 : Convoy) (a1 : Int) (a2 : Int) : Option (Int × Int) :=
  bnd (convoy_asked F a0 a1) (fun (x : Int) => brk (x != (0 : Int)) (some (((0 : Int), x))) (bnd (convoy_within F a2 (0 : Int) (3 : Int)) (fun (x_1 : Bool) => brk (!x_1) (some (((0 : Int), (6 : Int)))) (chk ((0 : Int) ≤ a2 ∧ a2 < (↑(4 : Nat) : Int)) (chk (InR ((60 : Int) * [a0.Close.a0, a0.Close.a1, a0.Close.a2, a0.Close.a3].getD a2.toNat (0 : Int))) (bnd (convoy_way F a1 ((60 : Int) * [a0.Close.a0, a0.Close.a1, a0.Close.a2, a0.Close.a3].getD a2.toNat (0 : Int))) (fun (x_2 : (Int) × (Int)) => some ((x_2.fst, (0 : Int))))))))))
noncomputable def s50 (F : Nat) : CS E.G := ⟨50, [.v 13 true, .v 0 false, .v 0 false], [.v 0 false [], .v 0 false []], fun x => convoy_Open F x.1 x.2.1 x.2.2.1⟩
noncomputable def cx50 (F : Nat) : Ctx E := ⟨[s43 F, s46 F, s78 F], [(98, Tryd.f98)], F, []⟩
noncomputable def h50 : Hint := (.c .n (.c .n (.p .n)))
theorem e50 (F : Nat) (a0 : Convoy) (a1 : Int) (a2 : Int) : fnK (E := E) (cx50 F) Tryd.f50 gl [.v 13 true, .v 0 false, .v 0 false] [.v 0 false [], .v 0 false []] h50 (a0, a1, a2, ()) = convoy_Open F a0 a1 a2 := by kernel_rfl
theorem c50 (F : Nat) : CSok E gl (s50 F) := ⟨en50, by
  have h := fn_sound (E := E) (gl := gl) (cx := cx50 F) mix (allC (c43 F) (allC (c46 F) (allC (c78 F) all0))) (inlC hf98 en98 inl0) gl_up gl_lt hf50 (ps := [.v 13 true, .v 0 false, .v 0 false]) (rs := [.v 0 false [], .v 0 false []]) (by decide) h50
  rwa [show fnK (E := E) (cx50 F) Tryd.f50 gl [.v 13 true, .v 0 false, .v 0 false] [.v 0 false [], .v 0 false []] h50 = (fun x : AT E.G.car [.v 13 true, .v 0 false, .v 0 false] => convoy_Open F x.1 x.2.1 x.2.2.1) from funext fun x => e50 F x.1 x.2.1 x.2.2.1] at h⟩
theorem hf51 : Tryd.prog.funcs[51]? = some Tryd.f51 := by kernel_rfl
theorem en51 : Proofs.Enters Tryd.prog 51 := Proofs.enters_of hf51 (by kernel_rfl) rfl
noncomputable def law03_Level (F : Nat) (a0 : Int) (a1 : Int) : Option (Cell) :=
  some (Cell.mk (Span.mk (100 : Int) (100 : Int)) (Span.mk a0 a1) (Span.mk (0 : Int) (0 : Int)) (Span.mk (0 : Int) (0 : Int)))
noncomputable def s51 (F : Nat) : CS E.G := ⟨51, [.v 0 false, .v 0 false], [.v 17 true []], fun x => law03_Level F x.1 x.2.1⟩
noncomputable def cx51 (F : Nat) : Ctx E := ⟨[], [], F, []⟩
noncomputable def h51 : Hint := .n
theorem e51 (F : Nat) (a0 : Int) (a1 : Int) : fnK (E := E) (cx51 F) Tryd.f51 gl [.v 0 false, .v 0 false] [.v 17 true []] h51 (a0, a1, ()) = law03_Level F a0 a1 := by kernel_rfl
theorem c51 (F : Nat) : CSok E gl (s51 F) := ⟨en51, by
  have h := fn_sound (E := E) (gl := gl) (cx := cx51 F) mix all0 inl0 gl_up gl_lt hf51 (ps := [.v 0 false, .v 0 false]) (rs := [.v 17 true []]) (by decide) h51
  rwa [show fnK (E := E) (cx51 F) Tryd.f51 gl [.v 0 false, .v 0 false] [.v 17 true []] h51 = (fun x : AT E.G.car [.v 0 false, .v 0 false] => law03_Level F x.1 x.2.1) from funext fun x => e51 F x.1 x.2.1] at h⟩
theorem hf52 : Tryd.prog.funcs[52]? = some Tryd.f52 := by kernel_rfl
theorem en52 : Proofs.Enters Tryd.prog 52 := Proofs.enters_of hf52 (by kernel_rfl) rfl
noncomputable def slices_Equal_int (F : Nat) (a0 : List Int) (a1 : List Int) : Option (Bool) :=
  brk ((↑a0.length : Int) != (↑a1.length : Int)) (some (false)) (loopC (fun (x : Int) => fun x_1 => brk (decide (x < (↑a0.length : Int))) (chk ((0 : Int) ≤ x ∧ x < (↑a0.length : Int)) (chk ((0 : Int) ≤ x ∧ x < (↑a1.length : Int)) (brk (a0.getD (Int.toNat x) (0 : Int) != a1.getD (Int.toNat x) (0 : Int)) (some (false)) (chk (InR (x + (1 : Int))) (x_1 (x + (1 : Int))))))) (some (true))) (F) ((0 : Int)))
noncomputable def s52 (F : Nat) : CS E.G := ⟨52, [.sl 0, .sl 0], [.v 1 false []], fun x => slices_Equal_int F x.1 x.2.1⟩
noncomputable def cx52 (F : Nat) : Ctx E := ⟨[], [], F, []⟩
noncomputable def h52 : Hint := (.c .n (.l ⟨[.i], [0, 16, 192], [0, 1, 2], [(208, .i IntKind.i64)], [], [], [], 3⟩ (.c .n .n)))
theorem e52 (F : Nat) (a0 : List Int) (a1 : List Int) : fnK (E := E) (cx52 F) Tryd.f52 gl [.sl 0, .sl 0] [.v 1 false []] h52 (a0, a1, ()) = slices_Equal_int F a0 a1 := by kernel_rfl
theorem c52 (F : Nat) : CSok E gl (s52 F) := ⟨en52, by
  have h := fn_sound (E := E) (gl := gl) (cx := cx52 F) mix all0 inl0 gl_up gl_lt hf52 (ps := [.sl 0, .sl 0]) (rs := [.v 1 false []]) (by decide) h52
  rwa [show fnK (E := E) (cx52 F) Tryd.f52 gl [.sl 0, .sl 0] [.v 1 false []] h52 = (fun x : AT E.G.car [.sl 0, .sl 0] => slices_Equal_int F x.1 x.2.1) from funext fun x => e52 F x.1 x.2.1] at h⟩
theorem hf15 : Tryd.prog.funcs[15]? = some Tryd.f15 := by kernel_rfl
theorem en15 : Proofs.Enters Tryd.prog 15 := Proofs.enters_of hf15 (by kernel_rfl) rfl
noncomputable def law05_awake (F : Nat) : Option (Bool) :=
  bnd (law05_Example F (2 : Int)) (fun (x : Convoy) => bnd (convoy_Way F (100 : Int) (60 : Int)) (fun (x_1 : (Int) × ((Int) × (Int))) => bnd (convoy_Halt F x.Breaker (10 : Int)) (fun (x_2 : (Span) × (Int)) => bnd (convoy_Gaps F x (100 : Int)) (fun (x_3 : (List (Int)) × (Int)) => bnd (convoy_Tail F x (100 : Int)) (fun (x_4 : (Int) × (Int)) => bnd (convoy_Open F x (100 : Int) (1 : Int)) (fun (x_5 : (Int) × (Int)) => bnd (convoy_Rest F x (100 : Int) [(605 : Int), (605 : Int)] (0 : Int) [(100 : Int), (655 : Int), (300 : Int)]) (fun (x_6 : (List (Int)) × (Int)) => bnd (law03_Level F (40 : Int) (60 : Int)) (fun (x_7 : Cell) => bnd (convoy_Fastest F x x_7) (fun (x_8 : (Int) × (Int)) => brk (x_1.snd.snd == (0 : Int) && x_2.snd == (0 : Int) && x_3.snd == (0 : Int) && x_4.snd == (0 : Int) && x_5.snd == (0 : Int) && x_6.snd == (0 : Int) && x_8.snd == (0 : Int) && x_1.fst == (308 : Int) && x_1.snd.fst == (309 : Int)) (brk (x_2.fst.Lo == (50 : Int) && (x_2.fst.Hi == (66 : Int) && true)) (bnd (slices_Equal_int F x_3.fst [(605 : Int), (605 : Int)]) (fun (x_9 : Bool) => brk (x_9) (brk (x_4.fst == (1450 : Int)) (brk (x_5.fst == (1234 : Int)) (bnd (slices_Equal_int F x_6.fst [(50 : Int), (960 : Int)]) (fun (x_10 : Bool) => some (x_10 && x_8.fst == (130 : Int)))) (some (false))) (some (false))) (some (false)))) (some (false))) (some (false)))))))))))
noncomputable def s15 (F : Nat) : CS E.G := ⟨15, [], [.v 1 false []], fun x => law05_awake F⟩
noncomputable def cx15 (F : Nat) : Ctx E := ⟨[s11 F, s12 F, s14 F, s18 F, s30 F, s39 F, s49 F, s50 F, s51 F, s52 F], [], F, []⟩
noncomputable def h15 : Hint := (.k (.k (.k (.k (.k (.k (.k (.k (.k (.k (.k (.k (.k (.k (.k (.k (.k (.k (.k (.k (.k (.k (.k (.k (.k (.k (.s (.s (.s (.s (.s .n .n) .n) .n) .n) .n)))))))))))))))))))))))))))
theorem e15 (F : Nat) : fnK (E := E) (cx15 F) Tryd.f15 gl [] [.v 1 false []] h15 (()) = law05_awake F := by kernel_rfl
theorem c15 (F : Nat) : CSok E gl (s15 F) := ⟨en15, by
  have h := fn_sound (E := E) (gl := gl) (cx := cx15 F) mix (allC (c11 F) (allC (c12 F) (allC (c14 F) (allC (c18 F) (allC (c30 F) (allC (c39 F) (allC (c49 F) (allC (c50 F) (allC (c51 F) (allC (c52 F) all0)))))))))) inl0 gl_up gl_lt hf15 (ps := []) (rs := [.v 1 false []]) (by decide) h15
  rwa [show fnK (E := E) (cx15 F) Tryd.f15 gl [] [.v 1 false []] h15 = (fun x : AT E.G.car [] => law05_awake F) from funext fun x => e15 F] at h⟩
theorem hf53 : Tryd.prog.funcs[53]? = some Tryd.f53 := by kernel_rfl
theorem en53 : Proofs.Enters Tryd.prog 53 := Proofs.enters_of hf53 (by kernel_rfl) rfl
theorem hf16 : Tryd.prog.funcs[16]? = some Tryd.f16 := by kernel_rfl
theorem en16 : Proofs.Enters Tryd.prog 16 := Proofs.enters_of hf16 (by kernel_rfl) rfl
noncomputable def law03_Frozen (F : Nat) (a0 : List Int) : Option (Cell) :=
  join (F) (fun (x : (Int) × (Int)) => chk (InR ((1 : Int) * x.fst)) (chk (InR ((0 : Int) + (1 : Int) * x.fst)) (join (F) (fun (x_1 : (Int) × (Int)) => chk (InR ((0 : Int) + (1 : Int) * x.fst + x_1.fst)) (join (F) (fun (x_2 : (Int) × (Int)) => chk (InR ((2 : Int) * x_2.fst)) (chk (InR ((0 : Int) + (2 : Int) * x_2.fst)) (join (F) (fun (x_3 : (Int) × (Int)) => chk (InR ((0 : Int) + (2 : Int) * x_2.fst + x_3.fst)) (join (F) (fun (x_4 : (Int) × (Int)) => chk (InR ((1 : Int) * x_4.fst)) (chk (InR ((0 : Int) + (1 : Int) * x_4.fst)) (join (F) (fun (x_5 : (Int) × (Int)) => chk (InR ((0 : Int) + (1 : Int) * x_4.fst + x_5.fst)) (join (F) (fun (x_6 : (Int) × (Int)) => chk (InR ((1 : Int) * x_6.fst)) (chk (InR ((0 : Int) + (1 : Int) * x_6.fst)) (join (F) (fun (x_7 : (Int) × (Int)) => chk (InR ((0 : Int) + (1 : Int) * x_6.fst + x_7.fst)) (some (Cell.mk (Span.mk ((0 : Int) + (1 : Int) * x.fst) (if (0 : Int) + (1 : Int) * x.fst + x_1.fst < (100 : Int) then (0 : Int) + (1 : Int) * x.fst + x_1.fst else (100 : Int))) (Span.mk ((0 : Int) + (2 : Int) * x_2.fst) (if (0 : Int) + (2 : Int) * x_2.fst + x_3.fst < (400 : Int) then (0 : Int) + (2 : Int) * x_2.fst + x_3.fst else (400 : Int))) (Span.mk ((0 : Int) + (1 : Int) * x_4.fst) (if (0 : Int) + (1 : Int) * x_4.fst + x_5.fst < (100 : Int) then (0 : Int) + (1 : Int) * x_4.fst + x_5.fst else (100 : Int))) (Span.mk ((0 : Int) + (1 : Int) * x_6.fst) (if (0 : Int) + (1 : Int) * x_6.fst + x_7.fst < (3 : Int) then (0 : Int) + (1 : Int) * x_6.fst + x_7.fst else (3 : Int)))))) (fun x_7 => brk (decide (x_6.snd ≥ (↑a0.length : Int))) (x_7 (((0 : Int), x_6.snd))) (chk (InR (x_6.snd + (1 : Int))) (chk (InR (x_6.snd + (1 : Int) - (1 : Int))) (chk ((0 : Int) ≤ x_6.snd + (1 : Int) - (1 : Int) ∧ x_6.snd + (1 : Int) - (1 : Int) < (↑a0.length : Int)) (chk (InR (a0.getD (x_6.snd + (1 : Int) - (1 : Int)).toNat (0 : Int))) (chk ((0 : Int) ≤ a0.getD (x_6.snd + (1 : Int) - (1 : Int)).toNat (0 : Int) ∧ a0.getD (x_6.snd + (1 : Int) - (1 : Int)).toNat (0 : Int) ≤ (9223372036854775807 : Int)) (x_7 ((a0.getD (x_6.snd + (1 : Int) - (1 : Int)).toNat (0 : Int) % (4 : Int), x_6.snd + (1 : Int))))))))))))) (fun x_6 => brk (decide (x_5.snd ≥ (↑a0.length : Int))) (x_6 (((0 : Int), x_5.snd))) (chk (InR (x_5.snd + (1 : Int))) (chk (InR (x_5.snd + (1 : Int) - (1 : Int))) (chk ((0 : Int) ≤ x_5.snd + (1 : Int) - (1 : Int) ∧ x_5.snd + (1 : Int) - (1 : Int) < (↑a0.length : Int)) (chk (InR (a0.getD (x_5.snd + (1 : Int) - (1 : Int)).toNat (0 : Int))) (chk ((0 : Int) ≤ a0.getD (x_5.snd + (1 : Int) - (1 : Int)).toNat (0 : Int) ∧ a0.getD (x_5.snd + (1 : Int) - (1 : Int)).toNat (0 : Int) ≤ (9223372036854775807 : Int)) (x_6 ((a0.getD (x_5.snd + (1 : Int) - (1 : Int)).toNat (0 : Int) % IntKind.i64.wrap (IntKind.i64.wrap (IntKind.i64.wrap (Int.tdiv (3 : Int) (1 : Int)) + (1 : Int)) - IntKind.i64.wrap (Int.tdiv (0 : Int) (1 : Int))), x_5.snd + (1 : Int)))))))))))) (fun x_5 => brk (decide (x_4.snd ≥ (↑a0.length : Int))) (x_5 (((0 : Int), x_4.snd))) (chk (InR (x_4.snd + (1 : Int))) (chk (InR (x_4.snd + (1 : Int) - (1 : Int))) (chk ((0 : Int) ≤ x_4.snd + (1 : Int) - (1 : Int) ∧ x_4.snd + (1 : Int) - (1 : Int) < (↑a0.length : Int)) (chk (InR (a0.getD (x_4.snd + (1 : Int) - (1 : Int)).toNat (0 : Int))) (chk ((0 : Int) ≤ a0.getD (x_4.snd + (1 : Int) - (1 : Int)).toNat (0 : Int) ∧ a0.getD (x_4.snd + (1 : Int) - (1 : Int)).toNat (0 : Int) ≤ (9223372036854775807 : Int)) (x_5 ((a0.getD (x_4.snd + (1 : Int) - (1 : Int)).toNat (0 : Int) % (20 : Int), x_4.snd + (1 : Int))))))))))))) (fun x_4 => brk (decide (x_3.snd ≥ (↑a0.length : Int))) (x_4 (((0 : Int), x_3.snd))) (chk (InR (x_3.snd + (1 : Int))) (chk (InR (x_3.snd + (1 : Int) - (1 : Int))) (chk ((0 : Int) ≤ x_3.snd + (1 : Int) - (1 : Int) ∧ x_3.snd + (1 : Int) - (1 : Int) < (↑a0.length : Int)) (chk (InR (a0.getD (x_3.snd + (1 : Int) - (1 : Int)).toNat (0 : Int))) (chk ((0 : Int) ≤ a0.getD (x_3.snd + (1 : Int) - (1 : Int)).toNat (0 : Int) ∧ a0.getD (x_3.snd + (1 : Int) - (1 : Int)).toNat (0 : Int) ≤ (9223372036854775807 : Int)) (x_4 ((a0.getD (x_3.snd + (1 : Int) - (1 : Int)).toNat (0 : Int) % IntKind.i64.wrap (IntKind.i64.wrap (IntKind.i64.wrap (Int.tdiv (100 : Int) (1 : Int)) + (1 : Int)) - IntKind.i64.wrap (Int.tdiv (0 : Int) (1 : Int))), x_3.snd + (1 : Int)))))))))))) (fun x_3 => brk (decide (x_2.snd ≥ (↑a0.length : Int))) (x_3 (((0 : Int), x_2.snd))) (chk (InR (x_2.snd + (1 : Int))) (chk (InR (x_2.snd + (1 : Int) - (1 : Int))) (chk ((0 : Int) ≤ x_2.snd + (1 : Int) - (1 : Int) ∧ x_2.snd + (1 : Int) - (1 : Int) < (↑a0.length : Int)) (chk (InR (a0.getD (x_2.snd + (1 : Int) - (1 : Int)).toNat (0 : Int))) (chk ((0 : Int) ≤ a0.getD (x_2.snd + (1 : Int) - (1 : Int)).toNat (0 : Int) ∧ a0.getD (x_2.snd + (1 : Int) - (1 : Int)).toNat (0 : Int) ≤ (9223372036854775807 : Int)) (x_3 ((a0.getD (x_2.snd + (1 : Int) - (1 : Int)).toNat (0 : Int) % (120 : Int), x_2.snd + (1 : Int))))))))))))) (fun x_2 => brk (decide (x_1.snd ≥ (↑a0.length : Int))) (x_2 (((0 : Int), x_1.snd))) (chk (InR (x_1.snd + (1 : Int))) (chk (InR (x_1.snd + (1 : Int) - (1 : Int))) (chk ((0 : Int) ≤ x_1.snd + (1 : Int) - (1 : Int) ∧ x_1.snd + (1 : Int) - (1 : Int) < (↑a0.length : Int)) (chk (InR (a0.getD (x_1.snd + (1 : Int) - (1 : Int)).toNat (0 : Int))) (chk ((0 : Int) ≤ a0.getD (x_1.snd + (1 : Int) - (1 : Int)).toNat (0 : Int) ∧ a0.getD (x_1.snd + (1 : Int) - (1 : Int)).toNat (0 : Int) ≤ (9223372036854775807 : Int)) (x_2 ((a0.getD (x_1.snd + (1 : Int) - (1 : Int)).toNat (0 : Int) % IntKind.i64.wrap (IntKind.i64.wrap (IntKind.i64.wrap (Int.tdiv (400 : Int) (2 : Int)) + (1 : Int)) - IntKind.i64.wrap (Int.tdiv (0 : Int) (2 : Int))), x_1.snd + (1 : Int)))))))))))) (fun x_1 => brk (decide (x.snd ≥ (↑a0.length : Int))) (x_1 (((0 : Int), x.snd))) (chk (InR (x.snd + (1 : Int))) (chk (InR (x.snd + (1 : Int) - (1 : Int))) (chk ((0 : Int) ≤ x.snd + (1 : Int) - (1 : Int) ∧ x.snd + (1 : Int) - (1 : Int) < (↑a0.length : Int)) (chk (InR (a0.getD (x.snd + (1 : Int) - (1 : Int)).toNat (0 : Int))) (chk ((0 : Int) ≤ a0.getD (x.snd + (1 : Int) - (1 : Int)).toNat (0 : Int) ∧ a0.getD (x.snd + (1 : Int) - (1 : Int)).toNat (0 : Int) ≤ (9223372036854775807 : Int)) (x_1 ((a0.getD (x.snd + (1 : Int) - (1 : Int)).toNat (0 : Int) % (40 : Int), x.snd + (1 : Int))))))))))))) (fun x => brk (decide ((0 : Int) ≥ (↑a0.length : Int))) (x (((0 : Int), (0 : Int)))) (chk ((0 : Int) ≤ IntKind.i64.wrap (IntKind.i64.wrap ((0 : Int) + (1 : Int)) - (1 : Int)) ∧ IntKind.i64.wrap (IntKind.i64.wrap ((0 : Int) + (1 : Int)) - (1 : Int)) < (↑a0.length : Int)) (chk (InR (a0.getD (IntKind.i64.wrap (IntKind.i64.wrap ((0 : Int) + (1 : Int)) - (1 : Int))).toNat (0 : Int))) (chk ((0 : Int) ≤ a0.getD (IntKind.i64.wrap (IntKind.i64.wrap ((0 : Int) + (1 : Int)) - (1 : Int))).toNat (0 : Int) ∧ a0.getD (IntKind.i64.wrap (IntKind.i64.wrap ((0 : Int) + (1 : Int)) - (1 : Int))).toNat (0 : Int) ≤ (9223372036854775807 : Int)) (x ((a0.getD (IntKind.i64.wrap (IntKind.i64.wrap ((0 : Int) + (1 : Int)) - (1 : Int))).toNat (0 : Int) % IntKind.i64.wrap (IntKind.i64.wrap (IntKind.i64.wrap (Int.tdiv (100 : Int) (1 : Int)) + (1 : Int)) - IntKind.i64.wrap (Int.tdiv (0 : Int) (1 : Int))), IntKind.i64.wrap ((0 : Int) + (1 : Int)))))))))
noncomputable def s16 (F : Nat) : CS E.G := ⟨16, [.sl 2], [.v 17 true []], fun x => law03_Frozen F x.1⟩
noncomputable def cx16 (F : Nat) : Ctx E := ⟨[], [(10, Tryd.f10), (42, Tryd.f42), (53, Tryd.f53)], F, []⟩
noncomputable def h16 : Hint := (.p (.p (.w ⟨[.i, .i], [], [0, 1, 3, 4], [(0, .i IntKind.i64)], [], [(4, 0, .i IntKind.i64)], [], 7⟩ .n (.w ⟨[.i, .i], [], [0, 1, 3, 4], [(0, .i IntKind.i64)], [], [(4, 0, .i IntKind.i64)], [], 8⟩ .n (.p (.w ⟨[.i, .i], [], [0, 1, 3, 4], [(0, .i IntKind.i64)], [], [(4, 0, .i IntKind.i64)], [], 9⟩ .n (.w ⟨[.i, .i], [], [0, 1, 3, 4], [(0, .i IntKind.i64)], [], [(4, 0, .i IntKind.i64)], [], 10⟩ .n (.p (.w ⟨[.i, .i], [], [0, 1, 3, 4], [(0, .i IntKind.i64)], [], [(4, 0, .i IntKind.i64)], [], 11⟩ .n (.w ⟨[.i, .i], [], [0, 1, 3, 4], [(0, .i IntKind.i64)], [], [(4, 0, .i IntKind.i64)], [], 12⟩ .n (.p (.w ⟨[.i, .i], [], [0, 1, 3, 4], [(0, .i IntKind.i64)], [], [(4, 0, .i IntKind.i64)], [], 13⟩ .n (.w ⟨[.i, .i], [], [0, 1, 3, 4], [(0, .i IntKind.i64)], [], [(4, 0, .i IntKind.i64)], [], 14⟩ .n .n)))))))))))))
theorem e16 (F : Nat) (a0 : List Int) : fnK (E := E) (cx16 F) Tryd.f16 gl [.sl 2] [.v 17 true []] h16 (a0, ()) = law03_Frozen F a0 := by kernel_rfl
theorem c16 (F : Nat) : CSok E gl (s16 F) := ⟨en16, by
  have h := fn_sound (E := E) (gl := gl) (cx := cx16 F) mix all0 (inlC hf10 en10 (inlC hf42 en42 (inlC hf53 en53 inl0))) gl_up gl_lt hf16 (ps := [.sl 2]) (rs := [.v 17 true []]) (by decide) h16
  rwa [show fnK (E := E) (cx16 F) Tryd.f16 gl [.sl 2] [.v 17 true []] h16 = (fun x : AT E.G.car [.sl 2] => law03_Frozen F x.1) from funext fun x => e16 F x.1] at h⟩
theorem hf17 : Tryd.prog.funcs[17]? = some Tryd.f17 := by kernel_rfl
theorem en17 : Proofs.Enters Tryd.prog 17 := Proofs.enters_of hf17 (by kernel_rfl) rfl
theorem hf87 : Tryd.prog.funcs[87]? = some Tryd.f87 := by kernel_rfl
theorem en87 : Proofs.Enters Tryd.prog 87 := Proofs.enters_of hf87 (by kernel_rfl) rfl
noncomputable def convoy_Member_own (F : Nat) (a0 : Member) : Option (Member) :=
  bnd (slices_Clone_hull_Point F a0.Stop) (fun (x : List (Point)) => bnd (slices_Clone_hull_Point F a0.Ship.Thrust) (fun (x_1 : List (Point)) => bnd (slices_Clone_hull_Point F a0.Ship.Water) (fun (x_2 : List (Point)) => bnd (slices_Clone_hull_Point F a0.Ship.Ice) (fun (x_3 : List (Point)) => some (Member.mk (Ship.mk a0.Ship.Class a0.Ship.Power a0.Ship.Draught a0.Ship.Tonnes x_1 x_2 x_3 a0.Ship.Slow a0.Ship.Brash a0.Ship.Ridge a0.Ship.Press) x a0.Length a0.Delay a0.Short)))))
noncomputable def s87 (F : Nat) : CS E.G := ⟨87, [.v 10 true], [.v 10 true [104, 104, 104, 104]], fun x => convoy_Member_own F x.1⟩
noncomputable def cx87 (F : Nat) : Ctx E := ⟨[s127 F], [], F, []⟩
noncomputable def h87 : Hint := .n
theorem e87 (F : Nat) (a0 : Member) : fnK (E := E) (cx87 F) Tryd.f87 gl [.v 10 true] [.v 10 true [104, 104, 104, 104]] h87 (a0, ()) = convoy_Member_own F a0 := by kernel_rfl
theorem c87 (F : Nat) : CSok E gl (s87 F) := ⟨en87, by
  have h := fn_sound (E := E) (gl := gl) (cx := cx87 F) mix (allC (c127 F) all0) inl0 gl_up gl_lt hf87 (ps := [.v 10 true]) (rs := [.v 10 true [104, 104, 104, 104]]) (by decide) h87
  rwa [show fnK (E := E) (cx87 F) Tryd.f87 gl [.v 10 true] [.v 10 true [104, 104, 104, 104]] h87 = (fun x : AT E.G.car [.v 10 true] => convoy_Member_own F x.1) from funext fun x => e87 F x.1] at h⟩
theorem hf57 : Tryd.prog.funcs[57]? = some Tryd.f57 := by kernel_rfl
theorem en57 : Proofs.Enters Tryd.prog 57 := Proofs.enters_of hf57 (by kernel_rfl) rfl
theorem hf58 : Tryd.prog.funcs[58]? = some Tryd.f58 := by kernel_rfl
theorem en58 : Proofs.Enters Tryd.prog 58 := Proofs.enters_of hf58 (by kernel_rfl) rfl
noncomputable def convoy_numbers (F : Nat) (a0 : Int) : Option ((List Int)) :=
  chk ((0 : Int) ≤ a0 ∧ a0 ≤ a0 ∧ a0 ≤ (100000 : Int)) (loopC (fun (x : (Int) × (List (Int))) => fun x_1 => brk (decide (x.fst < (↑(List.replicate a0.toNat (0 : Int)).length : Int))) (chk ((0 : Int) ≤ x.fst ∧ x.fst < (↑(List.length x.snd) : Int)) (chk (InR (x.fst + (1 : Int))) (x_1 ((x.fst + (1 : Int), List.set x.snd (Int.toNat x.fst) x.fst))))) (some (x.snd))) (F) (((0 : Int), List.replicate a0.toNat (0 : Int))))
noncomputable def s58 (F : Nat) : CS E.G := ⟨58, [.v 0 false], [.sl 0 3], fun x => convoy_numbers F x.1⟩
noncomputable def cx58 (F : Nat) : Ctx E := ⟨[], [], F, []⟩
noncomputable def h58 : Hint := (.l ⟨[.i, .l 0], [128, 48], [0, 1], [(144, .i IntKind.i64)], [], [], [(1, 3, 0)], 2⟩ .n)
theorem e58 (F : Nat) (a0 : Int) : fnK (E := E) (cx58 F) Tryd.f58 gl [.v 0 false] [.sl 0 3] h58 (a0, ()) = convoy_numbers F a0 := by kernel_rfl
theorem c58 (F : Nat) : CSok E gl (s58 F) := ⟨en58, by
  have h := fn_sound (E := E) (gl := gl) (cx := cx58 F) mix all0 inl0 gl_up gl_lt hf58 (ps := [.v 0 false]) (rs := [.sl 0 3]) (by decide) h58
  rwa [show fnK (E := E) (cx58 F) Tryd.f58 gl [.v 0 false] [.sl 0 3] h58 = (fun x : AT E.G.car [.v 0 false] => convoy_numbers F x.1) from funext fun x => e58 F x.1] at h⟩
theorem hf19 : Tryd.prog.funcs[19]? = some Tryd.f19 := by kernel_rfl
theorem en19 : Proofs.Enters Tryd.prog 19 := Proofs.enters_of hf19 (by kernel_rfl) rfl
noncomputable def convoy_Split (F : Nat) (a0 : Convoy) (a1 : Cell) : Option ((List Int) × Int) :=
  bnd (convoy_met F a0 a1) (fun (x : Int) => brk (x != (0 : Int)) (some (([], x))) (loopC (fun (x_1 : (Int) × (List (Int))) => fun x_2 => brk (decide (x_1.fst < (↑a0.Ships.length : Int))) (loopC (fun (x_3 : (Int) × (Int)) => fun x_4 => chk (InR (x_1.fst + x_3.fst)) (brk (decide (x_1.fst + x_3.fst ≤ (↑a0.Ships.length : Int))) (join (F) (fun (x_5 : Int) => chk (InR (x_3.fst + (1 : Int))) (x_4 ((x_3.fst + (1 : Int), x_5)))) (fun x_5 => bnd (convoy_numbers F (↑a0.Ships.length : Int)) (fun (x_6 : List (Int)) => chk (InR (x_1.fst + x_3.fst)) (chk ((0 : Int) ≤ x_1.fst ∧ x_1.fst ≤ x_1.fst + x_3.fst ∧ x_1.fst + x_3.fst ≤ (↑(List.length x_6) : Int)) (bnd (convoy_Member_own F a0.Breaker) (fun (x_7 : Member) => loopC (fun (x_8 : (Int) × (List (Member))) => fun x_9 => brk (decide (x_8.fst < x_1.fst + x_3.fst - x_1.fst)) (chk ((0 : Int) ≤ x_8.fst ∧ x_8.fst < x_1.fst + x_3.fst - x_1.fst) (chk ((0 : Int) ≤ List.getD x_6 (x_1.fst + x_8.fst).toNat (0 : Int) ∧ List.getD x_6 (x_1.fst + x_8.fst).toNat (0 : Int) < (↑a0.Ships.length : Int)) (bnd (convoy_Member_own F (a0.Ships.getD (Int.toNat (List.getD x_6 (x_1.fst + x_8.fst).toNat (0 : Int))) (Member.mk (Ship.mk (0 : Int) (0 : Int) (0 : Int) (0 : Int) [] [] [] (0 : Int) (0 : Int) (0 : Int) (0 : Int)) [] (0 : Int) (0 : Int) (0 : Int)))) (fun (x_10 : Member) => chk (List.length x_8.snd + [x_10].length ≤ (1000000 : Nat)) (chk (InR (x_8.fst + (1 : Int))) (x_9 ((x_8.fst + (1 : Int), x_8.snd ++ [x_10])))))))) (bnd (convoy_Convoy_most F (Convoy.mk x_7 x_8.snd a0.Clear a0.Close) a1) (fun (x_10 : Int) => bnd (convoy_Convoy_fastest F (Convoy.mk x_7 x_8.snd a0.Clear a0.Close) x_10 a1.Press.Hi) (fun (x_11 : Int) => brk (decide (x_11 > (0 : Int))) (x_5 (x_3.fst)) (x_5 (x_3.snd)))))) (F) (((0 : Int), [])))))))) (brk (x_3.snd == (0 : Int)) (some (([], (4 : Int)))) (chk (List.length x_1.snd + [x_3.snd].length ≤ (1000000 : Nat)) (chk (InR (x_1.fst + x_3.snd)) (x_2 ((x_1.fst + x_3.snd, x_1.snd ++ [x_3.snd])))))))) (F) (((1 : Int), (0 : Int)))) (some ((x_1.snd, (0 : Int))))) (F) (((0 : Int), []))))
noncomputable def s19 (F : Nat) : CS E.G := ⟨19, [.v 13 true, .v 17 true], [.sl 0 3, .v 0 false []], fun x => convoy_Split F x.1 x.2.1⟩
noncomputable def cx19 (F : Nat) : Ctx E := ⟨[s54 F, s55 F, s56 F, s87 F, s58 F], [(57, Tryd.f57)], F, []⟩
noncomputable def h19 : Hint := (.c .n (.l ⟨[.i, .l 0], [32, 48], [0, 6, 7, 5, 4, 3, 2, 1], [(128, .i IntKind.i64), (112, .h 8 3 0)], [], [], [], 9⟩ (.c (.l ⟨[.i, .i], [32, 128, 48, 112], [0, 6, 7, 8, 5, 4, 3, 2, 1], [(160, .i IntKind.i64), (144, .i IntKind.i64)], [], [], [], 9⟩ (.c (.j ⟨[.i], [32, 128, 160, 48, 112], [0, 6, 7, 8, 5, 4, 3, 2, 1], [(144, .i IntKind.i64)], [], [], [], 9⟩ (.p (.l ⟨[.i, .l 10], [0, 64, 288, 80, 304], [0, 1, 3, 5, 9, 2, 4, 6, 10, 11, 15, 14, 13, 12], [(320, .i IntKind.i64)], [], [(11, 15, .h 16 27 10)], [], 17⟩ (.c .n .n))) .n) .n)) .n)))
theorem e19 (F : Nat) (a0 : Convoy) (a1 : Cell) : fnK (E := E) (cx19 F) Tryd.f19 gl [.v 13 true, .v 17 true] [.sl 0 3, .v 0 false []] h19 (a0, a1, ()) = convoy_Split F a0 a1 := by kernel_rfl
theorem c19 (F : Nat) : CSok E gl (s19 F) := ⟨en19, by
  have h := fn_sound (E := E) (gl := gl) (cx := cx19 F) mix (allC (c54 F) (allC (c55 F) (allC (c56 F) (allC (c87 F) (allC (c58 F) all0))))) (inlC hf57 en57 inl0) gl_up gl_lt hf19 (ps := [.v 13 true, .v 17 true]) (rs := [.sl 0 3, .v 0 false []]) (by decide) h19
  rwa [show fnK (E := E) (cx19 F) Tryd.f19 gl [.v 13 true, .v 17 true] [.sl 0 3, .v 0 false []] h19 = (fun x : AT E.G.car [.v 13 true, .v 17 true] => convoy_Split F x.1 x.2.1) from funext fun x => e19 F x.1 x.2.1] at h⟩
theorem hf4 : Tryd.prog.funcs[4]? = some Tryd.f4 := by kernel_rfl
theorem en4 : Proofs.Enters Tryd.prog 4 := Proofs.enters_of hf4 (by kernel_rfl) rfl
noncomputable def law05_ConvoySplits (F : Nat) (a0 : List Int) (a1 : List Int) (a2 : Int) : Option (Bool) :=
  bnd (law05_Made F a0 (6 : Int)) (fun (x : Convoy) => bnd (law03_Frozen F a1) (fun (x_1 : Cell) => bnd (convoy_Split F x x_1) (fun (x_2 : (List (Int)) × (Int)) => brk (x_2.snd != (0 : Int) && x_2.snd != (4 : Int)) (some (false)) (brk (x_2.snd == (4 : Int)) (loopC (fun (x_3 : Int) => fun x_4 => brk (decide (x_3 < (↑x.Ships.length : Int))) (chk (InR (x_3 + (1 : Int))) (chk ((0 : Int) ≤ x_3 ∧ x_3 ≤ x_3 + (1 : Int) ∧ x_3 + (1 : Int) ≤ (↑x.Ships.length : Int)) (chk ((0 : Int) ≤ x_3 ∧ (0 : Int) ≤ x_3 + (1 : Int) - x_3 ∧ x_3 + (x_3 + (1 : Int) - x_3) ≤ (↑x.Ships.length : Int)) (bnd (convoy_Fastest F (Convoy.mk x.Breaker (List.take (x_3 + (1 : Int) - x_3).toNat (List.drop (Int.toNat x_3) x.Ships)) x.Clear x.Close) x_1) (fun (x_5 : (Int) × (Int)) => brk (!(x_5.snd == (0 : Int) || x_5.snd == (4 : Int)) || !x_5.snd == (0 : Int)) (bnd (brk (x_5.snd == (0 : Int) || x_5.snd == (4 : Int)) (law05_awake F) (some false)) (fun (x_6 : Bool) => some ((x_5.snd == (0 : Int) || x_5.snd == (4 : Int)) && x_6))) (chk (InR (x_3 + (1 : Int))) (x_4 (x_3 + (1 : Int))))))))) (some (false))) (F) ((0 : Int))) (loopC (fun (x_3 : (Int) × (Int)) => fun x_4 => brk (decide (x_3.fst < (↑(List.length x_2.fst) : Int))) (chk ((0 : Int) ≤ x_3.fst ∧ x_3.fst < (↑(List.length x_2.fst) : Int)) (chk ((!decide (List.getD x_2.fst (Int.toNat x_3.fst) (0 : Int) < (1 : Int))) = true → InR (x_3.snd + List.getD x_2.fst (Int.toNat x_3.fst) (0 : Int))) (brk (decide (List.getD x_2.fst (Int.toNat x_3.fst) (0 : Int) < (1 : Int)) || decide (x_3.snd + List.getD x_2.fst (Int.toNat x_3.fst) (0 : Int) > (↑x.Ships.length : Int))) (some (false)) (chk (InR (x_3.snd + List.getD x_2.fst (Int.toNat x_3.fst) (0 : Int))) (chk ((0 : Int) ≤ x_3.snd ∧ x_3.snd ≤ x_3.snd + List.getD x_2.fst (Int.toNat x_3.fst) (0 : Int) ∧ x_3.snd + List.getD x_2.fst (Int.toNat x_3.fst) (0 : Int) ≤ (↑x.Ships.length : Int)) (chk ((0 : Int) ≤ x_3.snd ∧ (0 : Int) ≤ x_3.snd + List.getD x_2.fst (Int.toNat x_3.fst) (0 : Int) - x_3.snd ∧ x_3.snd + (x_3.snd + List.getD x_2.fst (Int.toNat x_3.fst) (0 : Int) - x_3.snd) ≤ (↑x.Ships.length : Int)) (bnd (convoy_Fastest F (Convoy.mk x.Breaker (List.take (x_3.snd + List.getD x_2.fst (Int.toNat x_3.fst) (0 : Int) - x_3.snd).toNat (List.drop (Int.toNat x_3.snd) x.Ships)) x.Clear x.Close) x_1) (fun (x_5 : (Int) × (Int)) => brk (!(x_5.snd == (0 : Int) || x_5.snd == (4 : Int)) || !x_5.snd == (0 : Int)) (some (false)) (chk (InR (x_3.snd + List.getD x_2.fst (Int.toNat x_3.fst) (0 : Int))) (chk (InR (x_3.fst + (1 : Int))) (x_4 ((x_3.fst + (1 : Int), x_3.snd + List.getD x_2.fst (Int.toNat x_3.fst) (0 : Int)))))))))))))) (brk (x_3.snd != (↑x.Ships.length : Int)) (some (false)) (loopC (fun (x_5 : (Int) × ((Bool) × ((Int) × (Int)))) => fun x_6 => brk (decide (x_5.snd.snd.snd ≤ (↑x.Ships.length : Int))) (join (F) (fun (x_7 : (Int) × ((Bool) × (Int))) => chk (InR (x_5.snd.snd.snd + (1 : Int))) (x_6 ((x_7.fst, x_7.snd.fst, x_7.snd.snd, x_5.snd.snd.snd + (1 : Int))))) (fun x_7 => chk ((!x_5.snd.snd.snd == (↑x.Ships.length : Int)) = true → (0 : Int) ≤ x_5.snd.snd.snd ∧ x_5.snd.snd.snd ≤ (↑IntKind.u8.bits : Int)) (brk (x_5.snd.snd.snd == (↑x.Ships.length : Int) || a2.fdiv ((2 : Int) ^ Int.toNat x_5.snd.snd.snd) % (2 : Int) == (1 : Int)) (chk ((0 : Int) ≤ x_5.fst ∧ x_5.fst ≤ x_5.snd.snd.snd ∧ x_5.snd.snd.snd ≤ (↑x.Ships.length : Int)) (chk ((0 : Int) ≤ x_5.fst ∧ (0 : Int) ≤ x_5.snd.snd.snd - x_5.fst ∧ x_5.fst + (x_5.snd.snd.snd - x_5.fst) ≤ (↑x.Ships.length : Int)) (bnd (convoy_Fastest F (Convoy.mk x.Breaker (List.take (x_5.snd.snd.snd - x_5.fst).toNat (List.drop (Int.toNat x_5.fst) x.Ships)) x.Clear x.Close) x_1) (fun (x_8 : (Int) × (Int)) => brk (!(x_8.snd == (0 : Int) || x_8.snd == (4 : Int))) (some (false)) (chk (InR (x_5.snd.snd.fst + (1 : Int))) (x_7 ((x_5.snd.snd.snd, x_5.snd.fst && x_8.snd == (0 : Int), x_5.snd.snd.fst + (1 : Int))))))))) (x_7 ((x_5.fst, x_5.snd.fst, x_5.snd.snd.fst)))))) (bnd (brk (!x_5.snd.fst || decide (x_5.snd.snd.fst ≥ (↑(List.length x_2.fst) : Int))) (law05_awake F) (some false)) (fun (x_7 : Bool) => some ((!x_5.snd.fst || decide (x_5.snd.snd.fst ≥ (↑(List.length x_2.fst) : Int))) && x_7)))) (F) (((0 : Int), true, (0 : Int), (1 : Int)))))) (F) (((0 : Int), (0 : Int))))))))
noncomputable def s4 (F : Nat) : CS E.G := ⟨4, [.sl 2, .sl 2, .v 2 false], [.v 1 false []], fun x => law05_ConvoySplits F x.1 x.2.1 x.2.2.1⟩
noncomputable def cx4 (F : Nat) : Ctx E := ⟨[s9 F, s15 F, s16 F, s18 F, s19 F], [(17, Tryd.f17)], F, []⟩
noncomputable def h4 : Hint := (.c .n (.c (.l ⟨[.i], [144, 752], [0, 8, 9, 7, 6, 5, 4, 3], [(768, .i IntKind.i64)], [], [], [], 11⟩ (.c (.p .n) .n)) (.l ⟨[.i, .i], [32, 160, 1120, 144, 112, 1136], [0, 10, 8, 9, 7, 6, 5, 4, 3], [(1152, .i IntKind.i64), (240, .i IntKind.i64)], [], [], [], 11⟩ (.c (.c .n (.p .n)) (.c .n (.l ⟨[.i, .b, .i, .i], [32, 160, 144, 112], [0, 10, 8, 9, 7, 6, 5, 4, 3], [(320, .i IntKind.i64), (352, .b), (336, .i IntKind.i64), (368, .i IntKind.i64)], [], [], [], 11⟩ (.c (.j ⟨[.i, .b, .i], [32, 160, 144, 112, 368], [0, 10, 8, 9, 7, 6, 5, 4, 3], [(320, .i IntKind.i64), (352, .b), (336, .i IntKind.i64)], [], [], [], 11⟩ (.c (.p .n) .n) .n) .n)))))))
theorem e4 (F : Nat) (a0 : List Int) (a1 : List Int) (a2 : Int) : fnK (E := E) (cx4 F) Tryd.f4 gl [.sl 2, .sl 2, .v 2 false] [.v 1 false []] h4 (a0, a1, a2, ()) = law05_ConvoySplits F a0 a1 a2 := by kernel_rfl
theorem c4 (F : Nat) : CSok E gl (s4 F) := ⟨en4, by
  have h := fn_sound (E := E) (gl := gl) (cx := cx4 F) mix (allC (c9 F) (allC (c15 F) (allC (c16 F) (allC (c18 F) (allC (c19 F) all0))))) (inlC hf17 en17 inl0) gl_up gl_lt hf4 (ps := [.sl 2, .sl 2, .v 2 false]) (rs := [.v 1 false []]) (by decide) h4
  rwa [show fnK (E := E) (cx4 F) Tryd.f4 gl [.sl 2, .sl 2, .v 2 false] [.v 1 false []] h4 = (fun x : AT E.G.car [.sl 2, .sl 2, .v 2 false] => law05_ConvoySplits F x.1 x.2.1 x.2.2.1) from funext fun x => e4 F x.1 x.2.1 x.2.2.1] at h⟩
theorem hf27 : Tryd.prog.funcs[27]? = some Tryd.f27 := by kernel_rfl
theorem en27 : Proofs.Enters Tryd.prog 27 := Proofs.enters_of hf27 (by kernel_rfl) rfl
noncomputable def convoy_Holds (F : Nat) (a0 : Convoy) (a1 : Cell) (a2 : Int) : Option (Bool × Int) :=
  bnd (convoy_met F a0 a1) (fun (x : Int) => brk (x != (0 : Int)) (some ((false, x))) (bnd (convoy_within F a2 (0 : Int) (250 : Int)) (fun (x_1 : Bool) => brk (!x_1) (some ((false, (6 : Int)))) (brk (decide (a2 ≥ (10 : Int))) (bnd (convoy_Convoy_most F a0 a1) (fun (x_2 : Int) => brk (decide (a2 ≤ x_2)) (bnd (convoy_Member_halt F a0.Breaker a2) (fun (x_3 : Span) => loopC (fun (x_4 : (Int) × ((List (Int)) × ((Int) × (Int)))) => fun x_5 => brk (decide (x_4.fst < (↑a0.Ships.length : Int))) (chk ((0 : Int) ≤ x_4.fst ∧ x_4.fst < (↑a0.Ships.length : Int)) (bnd (convoy_Member_halt F (a0.Ships.getD (Int.toNat x_4.fst) (Member.mk (Ship.mk (0 : Int) (0 : Int) (0 : Int) (0 : Int) [] [] [] (0 : Int) (0 : Int) (0 : Int) (0 : Int)) [] (0 : Int) (0 : Int) (0 : Int))) a2) (fun (x_6 : Span) => chk (InR (x_6.Hi - x_4.snd.snd.snd)) (chk (InR (a0.Clear + if x_6.Hi - x_4.snd.snd.snd > (0 : Int) then x_6.Hi - x_4.snd.snd.snd else (0 : Int))) (chk (List.length x_4.snd.fst + [a0.Clear + if x_6.Hi - x_4.snd.snd.snd > (0 : Int) then x_6.Hi - x_4.snd.snd.snd else (0 : Int)].length ≤ (1000000 : Nat)) (chk (InR (x_4.fst + (1 : Int))) (x_5 ((x_4.fst + (1 : Int), x_4.snd.fst ++ [a0.Clear + if x_6.Hi - x_4.snd.snd.snd > (0 : Int) then x_6.Hi - x_4.snd.snd.snd else (0 : Int)], x_6.Hi, x_6.Lo))))))))) (loopC (fun (x_6 : (Int) × (Int)) => fun x_7 => brk (decide (x_6.snd < (↑(List.length x_4.snd.fst) : Int))) (chk ((0 : Int) ≤ x_6.snd ∧ x_6.snd < (↑(List.length x_4.snd.fst) : Int)) (chk ((0 : Int) ≤ x_6.snd ∧ x_6.snd < (↑a0.Ships.length : Int)) (chk (InR (List.getD x_4.snd.fst (Int.toNat x_6.snd) (0 : Int) + (a0.Ships.getD (Int.toNat x_6.snd) (Member.mk (Ship.mk (0 : Int) (0 : Int) (0 : Int) (0 : Int) [] [] [] (0 : Int) (0 : Int) (0 : Int) (0 : Int)) [] (0 : Int) (0 : Int) (0 : Int))).Length)) (chk (InR (x_6.fst + (List.getD x_4.snd.fst (Int.toNat x_6.snd) (0 : Int) + (a0.Ships.getD (Int.toNat x_6.snd) (Member.mk (Ship.mk (0 : Int) (0 : Int) (0 : Int) (0 : Int) [] [] [] (0 : Int) (0 : Int) (0 : Int) (0 : Int)) [] (0 : Int) (0 : Int) (0 : Int))).Length))) (chk (InR (x_6.snd + (1 : Int))) (x_7 ((x_6.fst + (List.getD x_4.snd.fst (Int.toNat x_6.snd) (0 : Int) + (a0.Ships.getD (Int.toNat x_6.snd) (Member.mk (Ship.mk (0 : Int) (0 : Int) (0 : Int) (0 : Int) [] [] [] (0 : Int) (0 : Int) (0 : Int) (0 : Int)) [] (0 : Int) (0 : Int) (0 : Int))).Length), x_6.snd + (1 : Int))))))))) (chk ((0 : Int) ≤ a1.Press.Hi ∧ a1.Press.Hi < (↑(4 : Nat) : Int)) (chk (InR ((60 : Int) * [a0.Close.a0, a0.Close.a1, a0.Close.a2, a0.Close.a3].getD a1.Press.Hi.toNat (0 : Int))) (bnd (convoy_way F a2 ((60 : Int) * [a0.Close.a0, a0.Close.a1, a0.Close.a2, a0.Close.a3].getD a1.Press.Hi.toNat (0 : Int))) (fun (x_8 : (Int) × (Int)) => some ((decide (x_6.fst ≤ x_8.fst), (0 : Int)))))))) (F) (((0 : Int), (0 : Int))))) (F) (((0 : Int), [], x_3.Hi, x_3.Lo)))) (some ((false, (0 : Int)))))) (some ((false, (0 : Int))))))))
noncomputable def s27 (F : Nat) : CS E.G := ⟨27, [.v 13 true, .v 17 true, .v 0 false], [.v 1 false [], .v 0 false []], fun x => convoy_Holds F x.1 x.2.1 x.2.2.1⟩
noncomputable def cx27 (F : Nat) : Ctx E := ⟨[s46 F, s54 F, s56 F, s47 F, s78 F], [(75, Tryd.f75), (91, Tryd.f91), (44, Tryd.f44), (98, Tryd.f98)], F, []⟩
noncomputable def h27 : Hint := (.c .n (.c .n (.s (.s (.p (.p (.p (.l ⟨[.i, .l 0, .i, .i], [16, 64, 320, 336], [0, 1, 3, 5, 2, 4, 6, 10, 11], [(352, .i IntKind.i64), (48, .h 12 3 0)], [], [(11, 1, .i IntKind.i64), (11, 0, .i IntKind.i64)], [], 13⟩ (.c .n (.l ⟨[.i, .i], [16, 128, 112], [0, 1, 3, 5, 2, 4, 6, 9, 12], [(48, .i IntKind.i64), (144, .i IntKind.i64)], [], [], [], 13⟩ (.c .n (.p .n)))))))) .n) .n)))
theorem e27 (F : Nat) (a0 : Convoy) (a1 : Cell) (a2 : Int) : fnK (E := E) (cx27 F) Tryd.f27 gl [.v 13 true, .v 17 true, .v 0 false] [.v 1 false [], .v 0 false []] h27 (a0, a1, a2, ()) = convoy_Holds F a0 a1 a2 := by kernel_rfl
theorem c27 (F : Nat) : CSok E gl (s27 F) := ⟨en27, by
  have h := fn_sound (E := E) (gl := gl) (cx := cx27 F) mix (allC (c46 F) (allC (c54 F) (allC (c56 F) (allC (c47 F) (allC (c78 F) all0))))) (inlC hf75 en75 (inlC hf91 en91 (inlC hf44 en44 (inlC hf98 en98 inl0)))) gl_up gl_lt hf27 (ps := [.v 13 true, .v 17 true, .v 0 false]) (rs := [.v 1 false [], .v 0 false []]) (by decide) h27
  rwa [show fnK (E := E) (cx27 F) Tryd.f27 gl [.v 13 true, .v 17 true, .v 0 false] [.v 1 false [], .v 0 false []] h27 = (fun x : AT E.G.car [.v 13 true, .v 17 true, .v 0 false] => convoy_Holds F x.1 x.2.1 x.2.2.1) from funext fun x => e27 F x.1 x.2.1 x.2.2.1] at h⟩
end Go.Proofs.Cv

namespace Go.KX

def Ok {α : Type} (post : α → Prop) (o : Option α) : Prop := ∃ r, o = some r ∧ post r

section
variable {α β ι σ R : Type} {post : α → Prop}

theorem chk_pos {p : Prop} [Decidable p] {x : Option α} (h : p) : chk p x = x := if_pos h
theorem brk_true {x y : Option α} : brk true x y = x := rfl
theorem brk_false {x y : Option α} : brk false x y = y := rfl
theorem bnd_so {x : β} {f : β → Option α} : bnd (some x) f = f x := rfl
theorem loopC_succ {body : σ → (σ → Option α) → Option α} {n : Nat} {x : σ} : loopC body (n + 1) x = body x (loopC body n) := rfl
theorem ok_some {r : α} (h : post r) : Ok post (some r) := ⟨r, rfl, h⟩
theorem ok_chk {p : Prop} [Decidable p] {x : Option α} (h : p) (hx : Ok post x) : Ok post (chk p x) := by rw [chk_pos h]; exact hx
theorem ok_brk {c : Bool} {x y : Option α} (ht : c = true → Ok post x) (hf : c = false → Ok post y) : Ok post (brk c x y) := by
  cases c with
  | true => exact ht rfl
  | false => exact hf rfl
theorem ok_brkT {c : Bool} {x y : Option α} (hc : c = true) (ht : Ok post x) : Ok post (brk c x y) := by subst hc; exact ht
theorem ok_brkF {c : Bool} {x y : Option α} (hc : c = false) (hf : Ok post y) : Ok post (brk c x y) := by subst hc; exact hf
theorem ok_bnd {x : Option β} {f : β → Option α} (q : β → Prop) (hx : Ok q x) (hf : ∀ b, q b → Ok post (f b)) : Ok post (bnd x f) := by
  obtain ⟨b, rfl, hb⟩ := hx
  exact hf b hb
theorem ok_bnde {x : Option β} {f : β → Option α} {b : β} (hx : x = some b) (hf : Ok post (f b)) : Ok post (bnd x f) := by subst hx; exact hf
theorem ok_join {F : Nat} (hF : 0 < F) {K : ι → Option α} {body : (ι → Option α) → Option α} (J : ι → Prop) (hK : ∀ i, J i → Ok post (K i)) (hb : ∀ k : ι → Option α, (∀ i, J i → Ok post (k i)) → Ok post (body k)) : Ok post (join F K body) := by
  obtain ⟨n, rfl⟩ := Nat.exists_eq_succ_of_ne_zero (Nat.ne_of_gt hF)
  exact hb K hK
theorem join_succ {n : Nat} {K : ι → Option α} {body : (ι → Option α) → Option α} : join (n + 1) K body = body K := rfl
theorem ok_loop {body : σ → (σ → Option α) → Option α} (I : σ → Prop) (μ : σ → Nat) {n : Nat} {x0 : σ} (h0 : I x0) (hn : μ x0 < n)
    (h : ∀ x (next : σ → Option α), I x → (∀ y, I y → μ y < μ x → Ok post (next y)) → Ok post (body x next)) : Ok post (loopC body n x0) := by
  induction n generalizing x0 with
  | zero => omega
  | succ n ih => exact h x0 _ h0 fun y hy hlt => ih hy (by omega)
theorem Ok.mono {post' : α → Prop} {o : Option α} (h : Ok post o) (hp : ∀ r, post r → post' r) : Ok post' o := by obtain ⟨r, h1, h2⟩ := h; exact ⟨r, h1, hp r h2⟩
theorem Ok.eq {o : Option α} {r : α} (h : Ok (fun x => x = r) o) : o = some r := by obtain ⟨r, h1, rfl⟩ := h; exact h1
end

/-! ### Lists -/
theorem getD_mem {α : Type} {l : List α} {i : Nat} {d : α} (h : i < l.length) : l.getD i d ∈ l := by
  rw [List.getD_eq_getElem?_getD, List.getElem?_eq_getElem h]; exact List.getElem_mem h
theorem getD_get {α : Type} {l : List α} {i : Nat} {d : α} (h : i < l.length) : l.getD i d = l[i] := by
  rw [List.getD_eq_getElem?_getD, List.getElem?_eq_getElem h]; rfl
theorem getD_append_left' {α : Type} {l r : List α} {i : Nat} {d : α} (h : i < l.length) : (l ++ r).getD i d = l.getD i d := by
  rw [List.getD_eq_getElem?_getD, List.getElem?_append_left h, ← List.getD_eq_getElem?_getD]
theorem getD_append_here {α : Type} {l : List α} {x d : α} : (l ++ [x]).getD l.length d = x := by
  simp [List.getD_eq_getElem?_getD]
theorem getD_set' {α : Type} {l : List α} {i j : Nat} {x d : α} (h : i < l.length) : (l.set i x).getD j d = if i = j then x else l.getD j d := by
  simp only [List.getD_eq_getElem?_getD, List.getElem?_set]
  by_cases e : i = j
  · subst e; simp [h]
  · simp [e]
theorem list_ext {α : Type} {l r : List α} (d : α) (h : l.length = r.length) (hx : ∀ i, i < l.length → l.getD i d = r.getD i d) : l = r := by
  apply List.ext_getElem h
  intro i h1 h2
  have := hx i h1
  rwa [getD_get h1, getD_get h2] at this
theorem take_succ' {α : Type} {l : List α} {i : Nat} {d : α} (h : i < l.length) : l.take (i + 1) = l.take i ++ [l.getD i d] := by
  rw [getD_get h, List.take_add_one, List.getElem?_eq_getElem h]; rfl

def sumL : List Int → Int
  | [] => 0
  | x :: r => x + sumL r
theorem sumL_append : ∀ l r : List Int, sumL (l ++ r) = sumL l + sumL r
  | [], r => by simp [sumL]
  | x :: l, r => by simp only [List.cons_append, sumL, sumL_append l r]; omega
theorem sumL_set : ∀ (l : List Int) (i : Nat) (v : Int), i < l.length → sumL (l.set i v) = sumL l - l.getD i 0 + v
  | x :: l, 0, v, _ => by simp only [List.set_cons_zero, sumL, List.getD_cons_zero]; omega
  | x :: l, i + 1, v, h => by
    simp only [List.set_cons_succ, sumL, List.getD_cons_succ]
    rw [sumL_set l i v (by simpa using h)]; omega
theorem sumL_nonneg : ∀ (l : List Int), (∀ x ∈ l, 0 ≤ x) → 0 ≤ sumL l
  | [], _ => by simp [sumL]
  | x :: l, h => by
    have h1 := h x (by simp); have h2 := sumL_nonneg l fun y hy => h y (by simp [hy])
    simp only [sumL]; omega
theorem mem_le_sumL : ∀ (l : List Int), (∀ x ∈ l, 0 ≤ x) → ∀ x ∈ l, x ≤ sumL l
  | y :: l, h, x, hx => by
    have h1 := h y (by simp); have h2 := sumL_nonneg l fun y hy => h y (by simp [hy])
    simp only [sumL]
    rcases List.mem_cons.1 hx with rfl | hx
    · omega
    · have := mem_le_sumL l (fun y hy => h y (by simp [hy])) x hx; omega
theorem sumL_le {B : Int} : ∀ (l : List Int), (∀ x ∈ l, x ≤ B) → sumL l ≤ B * l.length
  | [], _ => by simp [sumL]
  | x :: l, h => by
    have h1 := h x (by simp); have h2 := sumL_le l fun y hy => h y (by simp [hy])
    simp only [sumL, List.length_cons, Int.natCast_add, Int.mul_add]; omega
theorem sumL_replicate0 (n : Nat) : sumL (List.replicate n 0) = 0 := by
  induction n with
  | zero => rfl
  | succ n ih => simp [List.replicate_succ, sumL, ih]
theorem getD_nonneg {l : List Int} (h : ∀ x ∈ l, 0 ≤ x) (i : Nat) : 0 ≤ l.getD i 0 := by
  by_cases hi : i < l.length
  · exact h _ (getD_mem hi)
  · simp [List.getD_eq_getElem?_getD, List.getElem?_eq_none (Nat.le_of_not_lt hi)]
theorem getD_le_sum {l : List Int} (h : ∀ x ∈ l, 0 ≤ x) (i : Nat) : l.getD i 0 ≤ sumL l := by
  by_cases hi : i < l.length
  · exact mem_le_sumL l h _ (getD_mem hi)
  · simp [List.getD_eq_getElem?_getD, List.getElem?_eq_none (Nat.le_of_not_lt hi)]; exact sumL_nonneg l h
end Go.KX

namespace Go.KX
section
variable {α β : Type} {post : α → Prop}

theorem nd_true {p : Prop} [Decidable p] (h : (!decide p) = true) : ¬ p := fun q => by rw [decide_eq_true q] at h; cases h
theorem nd_false {p : Prop} [Decidable p] (h : (!decide p) = false) : p := by
  by_cases q : p
  · exact q
  · rw [decide_eq_false q] at h; cases h
theorem ndT {p : Prop} [Decidable p] (h : ¬ p) : (!decide p) = true := by rw [decide_eq_false h]; rfl
theorem ndF {p : Prop} [Decidable p] (h : p) : (!decide p) = false := by rw [decide_eq_true h]; rfl

theorem drop_get {l : List β} {i : Nat} {d : β} (h : i < l.length) : l.drop i = l.getD i d :: l.drop (i + 1) := by
  rw [getD_get h, List.drop_eq_getElem_cons h]

/-- A loop that looks for the first element of which something is so. -/
theorem ok_find {F : Nat} {l : List β} {d : β} {p : β → Bool} {g : β → Option Bool} {hit : Int → Option α} {miss : Option α} (hF : l.length < F) (hl : l.length ≤ 1000000) (hg : ∀ x ∈ l, g x = some (p x))
    (h1 : ∀ i : Nat, i < l.length → p (l.getD i d) = true → Ok post (hit i)) (h2 : (∀ x ∈ l, p x = false) → Ok post miss) :
    Ok post (loopC (fun (x : Int) next => brk (decide (x < (l.length : Int))) (chk (0 ≤ x ∧ x < (l.length : Int)) (bnd (g (l.getD x.toNat d)) fun b => brk b (hit x) (chk (InR (x + 1)) (next (x + 1))))) miss) F 0) := by
  refine ok_loop (fun x : Int => 0 ≤ x ∧ x ≤ l.length ∧ ∀ j : Nat, (j : Int) < x → p (l.getD j d) = false) (fun x : Int => l.length - x.toNat) ⟨by simp, by simp, fun j hj => by omega⟩ (by simp; omega) ?_
  rintro i next ⟨i1, i2, i3⟩ hn
  refine ok_brk (fun hc => ?_) (fun hc => h2 fun x hx => ?_)
  · have hc : i < l.length := of_decide_eq_true hc
    have hi : i.toNat < l.length := by omega
    refine ok_chk ⟨i1, hc⟩ (ok_bnde (hg _ (getD_mem hi)) (ok_brk (fun hb => ?_) (fun hb => ok_chk (show InR _ from ⟨by omega, by omega⟩) (hn _ ⟨by omega, by omega, fun j hj => ?_⟩ (by show l.length - (i + 1).toNat < l.length - i.toNat; omega)))))
    · have := h1 i.toNat hi hb
      rwa [Int.toNat_of_nonneg i1] at this
    · by_cases e : (j : Int) < i
      · exact i3 j e
      · obtain rfl : j = i.toNat := by omega
        exact hb
  · have hc : ¬ i < l.length := of_decide_eq_false hc
    obtain ⟨j, hj, rfl⟩ := List.getElem_of_mem hx
    have := i3 j (by omega)
    rwa [getD_get hj] at this

/-- A loop over a list without a state of its own. -/
theorem ok_all {F : Nat} {l : List β} {d : β} {body : β → Option α → Option α} {exit : Option α} (hF : l.length < F) (hl : l.length ≤ 1000000) (Q : List β → Prop) (h0 : Q l) (he : Q [] → Ok post exit)
    (hb : ∀ x r k, Q (x :: r) → x ∈ l → (Q r → Ok post k) → Ok post (body x k)) :
    Ok post (loopC (fun (x : Int) next => brk (decide (x < (l.length : Int))) (chk (0 ≤ x ∧ x < (l.length : Int)) (body (l.getD x.toNat d) (chk (InR (x + 1)) (next (x + 1))))) exit) F 0) := by
  refine ok_loop (fun x : Int => 0 ≤ x ∧ x ≤ l.length ∧ Q (l.drop x.toNat)) (fun x : Int => l.length - x.toNat) ⟨by simp, by simp, h0⟩ (by simp; omega) ?_
  rintro i next ⟨i1, i2, i3⟩ hn
  refine ok_brk (fun hc => ?_) (fun hc => he ?_)
  · have hc : i < l.length := of_decide_eq_true hc
    have hi : i.toNat < l.length := by omega
    rw [drop_get (d := d) hi] at i3
    refine ok_chk ⟨i1, hc⟩ (hb _ _ _ i3 (getD_mem hi) fun hq => ok_chk (show InR _ from ⟨by omega, by omega⟩) (hn _ ⟨by omega, by omega, ?_⟩ (by show l.length - (i + 1).toNat < l.length - i.toNat; omega)))
    rw [show (i + 1).toNat = i.toNat + 1 by omega]; exact hq
  · have hc : ¬ i < l.length := of_decide_eq_false hc
    rwa [List.drop_eq_nil_of_le (by omega)] at i3

/-- A loop over a list; what is to come is told of the list's rest. -/
theorem ok_rest {σ : Type} {F : Nat} {l : List β} {d : β} {body : σ → (σ → Option α) → Option α} {x0 : σ} (idx : σ → Int) (Q : σ → List β → Prop) (hl : l.length < F) (hi0 : idx x0 = 0) (h0 : Q x0 l)
    (hb : ∀ x next, 0 ≤ idx x → idx x < l.length → Q x (l.getD (idx x).toNat d :: l.drop ((idx x).toNat + 1)) → l.getD (idx x).toNat d ∈ l → (∀ y, idx y = idx x + 1 → Q y (l.drop ((idx x).toNat + 1)) → Ok post (next y)) → Ok post (body x next))
    (he : ∀ x next, idx x = l.length → Q x [] → Ok post (body x next)) : Ok post (loopC body F x0) := by
  refine ok_loop (fun x => 0 ≤ idx x ∧ idx x ≤ l.length ∧ Q x (l.drop (idx x).toNat)) (fun x => l.length - (idx x).toNat) ⟨by omega, by omega, by rw [hi0]; exact h0⟩ (by rw [hi0]; simp; omega) ?_
  rintro x next ⟨i1, i2, i3⟩ hn
  by_cases hc : idx x < l.length
  · have hi : (idx x).toNat < l.length := by omega
    rw [drop_get (d := d) hi] at i3
    refine hb x next i1 hc i3 (getD_mem hi) fun y hy hq => hn y ⟨by omega, by omega, ?_⟩ (by omega)
    rw [hy, show (idx x + 1).toNat = (idx x).toNat + 1 by omega]; exact hq
  · rw [List.drop_eq_nil_of_le (by omega)] at i3
    exact he x next (by omega) i3
end
end Go.KX

namespace Go.KX

/-- Numbers of one byte. -/
structure Bytes (l : List Int) : Prop where
  b : ∀ x ∈ l, 0 ≤ x ∧ x ≤ 255
  len : l.length ≤ 9223372036854775807

section
variable {α : Type} {post : α → Prop} {l : List Int} {pos n : Int}

theorem next_gen (hl : Bytes l) (h0 : 0 ≤ pos) (hp : pos < l.length) (hn : 0 < n) :
    0 ≤ l.getD pos.toNat 0 ∧ l.getD pos.toNat 0 ≤ 255 ∧ 0 ≤ l.getD pos.toNat 0 % n ∧ l.getD pos.toNat 0 % n < n ∧ l.getD pos.toNat 0 % n ≤ 255 := by
  have h := hl.b _ (getD_mem (i := pos.toNat) (d := 0) (by omega))
  have h1 := Int.emod_nonneg (l.getD pos.toNat 0) (by omega : n ≠ 0)
  have h2 := Int.emod_lt_of_pos (l.getD pos.toNat 0) hn
  have h3 : l.getD pos.toNat 0 % n ≤ l.getD pos.toNat 0 := by
    have e := Int.emod_add_mul_ediv (l.getD pos.toNat 0) n
    have e2 := Int.mul_nonneg (by omega : 0 ≤ n) (Int.ediv_nonneg h.1 (by omega : 0 ≤ n))
    omega
  exact ⟨h.1, h.2, h1, h2, by omega⟩

theorem next_ok (hl : Bytes l) (h0 : 0 ≤ pos) (hp : pos ≤ l.length) (hn : 0 < n) (k : Int × Int → Option α) (hk : ∀ v p : Int, 0 ≤ v → v < n → v ≤ 255 → 0 ≤ p → p ≤ l.length → Ok post (k (v, p))) :
    Ok post (brk (decide (pos ≥ (l.length : Int))) (k (0, pos)) (chk (InR (pos + 1)) (chk (InR (pos + 1 - 1)) (chk (0 ≤ pos + 1 - 1 ∧ pos + 1 - 1 < (l.length : Int)) (chk (InR (l.getD (pos + 1 - 1).toNat 0)) (chk (0 ≤ l.getD (pos + 1 - 1).toNat 0 ∧ l.getD (pos + 1 - 1).toNat 0 ≤ 9223372036854775807) (k (l.getD (pos + 1 - 1).toNat 0 % n, pos + 1)))))))) := by
  have hlen := hl.len
  refine ok_brk (fun _ => hk 0 pos (by omega) hn (by omega) h0 hp) (fun hc => ?_)
  have hc : pos < l.length := by simpa using hc
  rw [show pos + 1 - 1 = pos by omega]
  obtain ⟨h1, h2, h3, h4, h5⟩ := next_gen hl h0 hc hn
  exact ok_chk ⟨by omega, by omega⟩ (ok_chk ⟨by omega, by omega⟩ (ok_chk ⟨h0, hc⟩ (ok_chk ⟨by omega, by omega⟩ (ok_chk ⟨h1, by omega⟩ (hk _ _ h3 h4 h5 (by omega) (by omega))))))

theorem next_okS (hl : Bytes l) (h0 : 0 ≤ pos) (hp : pos ≤ l.length) (hn : 0 < n) (k : Int × Int → Option α) (hk : ∀ v p : Int, 0 ≤ v → v < n → v ≤ 255 → 0 ≤ p → p ≤ l.length → Ok post (k (v, p))) :
    Ok post (brk (decide (pos ≥ (l.length : Int))) (k (0, pos)) (chk (InR (pos + 1)) (chk (InR (pos + 1 - 1)) (chk (0 ≤ pos + 1 - 1 ∧ pos + 1 - 1 < (l.length : Int)) (chk (InR (l.getD (pos + 1 - 1).toNat 0)) (chk ((0 ≤ l.getD (pos + 1 - 1).toNat 0 ∧ l.getD (pos + 1 - 1).toNat 0 ≤ 9223372036854775807) ∧ 0 < n) (k (l.getD (pos + 1 - 1).toNat 0 % n, pos + 1)))))))) := by
  have hlen := hl.len
  refine ok_brk (fun _ => hk 0 pos (by omega) hn (by omega) h0 hp) (fun hc => ?_)
  have hc : pos < l.length := by simpa using hc
  rw [show pos + 1 - 1 = pos by omega]
  obtain ⟨h1, h2, h3, h4, h5⟩ := next_gen hl h0 hc hn
  exact ok_chk ⟨by omega, by omega⟩ (ok_chk ⟨by omega, by omega⟩ (ok_chk ⟨h0, hc⟩ (ok_chk ⟨by omega, by omega⟩ (ok_chk ⟨⟨h1, by omega⟩, hn⟩ (hk _ _ h3 h4 h5 (by omega) (by omega))))))

theorem next_ok0 {w0 w1 : Int} (e0 : w0 = 0) (e1 : w1 = 1) (hl : Bytes l) (hn : 0 < n) (k : Int × Int → Option α) (hk : ∀ v p : Int, 0 ≤ v → v < n → v ≤ 255 → 0 ≤ p → p ≤ l.length → Ok post (k (v, p))) :
    Ok post (brk (decide (0 ≥ (l.length : Int))) (k (0, 0)) (chk (0 ≤ w0 ∧ w0 < (l.length : Int)) (chk (InR (l.getD w0.toNat 0)) (chk (0 ≤ l.getD w0.toNat 0 ∧ l.getD w0.toNat 0 ≤ 9223372036854775807) (k (l.getD w0.toNat 0 % n, w1)))))) := by
  subst e0; subst e1
  refine ok_brk (fun _ => hk 0 0 (by omega) hn (by omega) (by omega) (by omega)) (fun hc => ?_)
  have hc : (0 : Int) < l.length := by have := of_decide_eq_false hc; omega
  obtain ⟨h1, h2, h3, h4, h5⟩ := next_gen hl (Int.le_refl 0) hc hn
  exact ok_chk ⟨by omega, hc⟩ (ok_chk ⟨by omega, by omega⟩ (ok_chk ⟨h1, by omega⟩ (hk _ _ h3 h4 h5 (by omega) (by omega))))

theorem ok_next {F : Nat} (hF : 0 < F) (hl : Bytes l) (h0 : 0 ≤ pos) (hp : pos ≤ l.length) (hn : 0 < n) {K : Int × Int → Option α} (hk : ∀ v p : Int, 0 ≤ v → v < n → v ≤ 255 → 0 ≤ p → p ≤ l.length → Ok post (K (v, p))) :
    Ok post (join F K fun k => brk (decide (pos ≥ (l.length : Int))) (k (0, pos)) (chk (InR (pos + 1)) (chk (InR (pos + 1 - 1)) (chk (0 ≤ pos + 1 - 1 ∧ pos + 1 - 1 < (l.length : Int)) (chk (InR (l.getD (pos + 1 - 1).toNat 0)) (chk (0 ≤ l.getD (pos + 1 - 1).toNat 0 ∧ l.getD (pos + 1 - 1).toNat 0 ≤ 9223372036854775807) (k (l.getD (pos + 1 - 1).toNat 0 % n, pos + 1)))))))) :=
  ok_join hF (fun x : Int × Int => 0 ≤ x.1 ∧ x.1 < n ∧ x.1 ≤ 255 ∧ 0 ≤ x.2 ∧ x.2 ≤ l.length) (fun x ⟨a, b, c, d, e⟩ => hk x.1 x.2 a b c d e) fun k hk => next_ok hl h0 hp hn k fun v p a b c d e => hk (v, p) ⟨a, b, c, d, e⟩

theorem ok_nextS {F : Nat} (hF : 0 < F) (hl : Bytes l) (h0 : 0 ≤ pos) (hp : pos ≤ l.length) (hn : 0 < n) {K : Int × Int → Option α} (hk : ∀ v p : Int, 0 ≤ v → v < n → v ≤ 255 → 0 ≤ p → p ≤ l.length → Ok post (K (v, p))) :
    Ok post (join F K fun k => brk (decide (pos ≥ (l.length : Int))) (k (0, pos)) (chk (InR (pos + 1)) (chk (InR (pos + 1 - 1)) (chk (0 ≤ pos + 1 - 1 ∧ pos + 1 - 1 < (l.length : Int)) (chk (InR (l.getD (pos + 1 - 1).toNat 0)) (chk ((0 ≤ l.getD (pos + 1 - 1).toNat 0 ∧ l.getD (pos + 1 - 1).toNat 0 ≤ 9223372036854775807) ∧ 0 < n) (k (l.getD (pos + 1 - 1).toNat 0 % n, pos + 1)))))))) :=
  ok_join hF (fun x : Int × Int => 0 ≤ x.1 ∧ x.1 < n ∧ x.1 ≤ 255 ∧ 0 ≤ x.2 ∧ x.2 ≤ l.length) (fun x ⟨a, b, c, d, e⟩ => hk x.1 x.2 a b c d e) fun k hk => next_okS hl h0 hp hn k fun v p a b c d e => hk (v, p) ⟨a, b, c, d, e⟩

theorem ok_next0 {F : Nat} (hF : 0 < F) (hl : Bytes l) (hn : 0 < n) {K : Int × Int → Option α} (hk : ∀ v p : Int, 0 ≤ v → v < n → v ≤ 255 → 0 ≤ p → p ≤ l.length → Ok post (K (v, p))) :
    Ok post (join F K fun k => brk (decide ((0 : Int) ≥ (l.length : Int))) (k (0, 0)) (chk (0 ≤ IntKind.i64.wrap (IntKind.i64.wrap (0 + 1) - 1) ∧ IntKind.i64.wrap (IntKind.i64.wrap (0 + 1) - 1) < (l.length : Int)) (chk (InR (l.getD (IntKind.i64.wrap (IntKind.i64.wrap (0 + 1) - 1)).toNat 0)) (chk (0 ≤ l.getD (IntKind.i64.wrap (IntKind.i64.wrap (0 + 1) - 1)).toNat 0 ∧ l.getD (IntKind.i64.wrap (IntKind.i64.wrap (0 + 1) - 1)).toNat 0 ≤ 9223372036854775807) (k (l.getD (IntKind.i64.wrap (IntKind.i64.wrap (0 + 1) - 1)).toNat 0 % n, IntKind.i64.wrap (0 + 1))))))) :=
  ok_join hF (fun x : Int × Int => 0 ≤ x.1 ∧ x.1 < n ∧ x.1 ≤ 255 ∧ 0 ≤ x.2 ∧ x.2 ≤ l.length) (fun x ⟨a, b, c, d, e⟩ => hk x.1 x.2 a b c d e) fun k hk => next_ok0 rfl rfl hl hn k fun v p a b c d e => hk (v, p) ⟨a, b, c, d, e⟩
end
end Go.KX

namespace Go.Proofs.Cv
open Go Go.KX
abbrev Pt := Point
def pt (l : List Pt) (i : Int) : Pt := l.getD i.toNat ⟨0, 0⟩

def within (n a b : Int) : Bool := decide (n ≥ a) && decide (n ≤ b)

def curveAt (l : List Pt) (i : Int) : Bool :=
  within (pt l i).X 0 400 && within (pt l i).Y 0 20000 && !(decide (i > 0) && decide ((pt l i).X ≤ (pt l (i - 1)).X))

def curve (l : List Pt) : Bool := within (l.length : Int) 2 8 && ((pt l 0).X == 0) && (List.range l.length).all fun i => curveAt l (i : Int)

def steadyAt (l : List Pt) (way : Int) (i : Int) : Bool := !decide (((pt l i).Y - (pt l (i - 1)).Y) * way < 0)

def steady (l : List Pt) (way : Int) : Bool := curve l && (List.range (l.length - 1)).all fun i => steadyAt l way ((i + 1 : Nat) : Int)

def endX (l : List Pt) : Int := (pt l ((l.length : Int) - 1)).X

def valFrom (l : List Pt) (x : Int) : Nat → Nat → Int × Int
  | 0, _ => ((pt l ((l.length : Int) - 1)).Y, 1)
  | f + 1, i =>
    if x ≤ (pt l (i : Int)).X then
      ((pt l ((i : Int) - 1)).Y * ((pt l (i : Int)).X - (pt l ((i : Int) - 1)).X) + ((pt l (i : Int)).Y - (pt l ((i : Int) - 1)).Y) * (x - (pt l ((i : Int) - 1)).X), (pt l (i : Int)).X - (pt l ((i : Int) - 1)).X)
    else valFrom l x f (i + 1)

def value (l : List Pt) (x : Int) : Int × Int := valFrom l x (l.length - 1) 1

/-- Bounds on the points, as a curve has them. -/
def Bd (l : List Pt) : Prop := ∀ i : Int, 0 ≤ i → i < l.length → 0 ≤ (pt l i).X ∧ (pt l i).X ≤ 400 ∧ 0 ≤ (pt l i).Y ∧ (pt l i).Y ≤ 20000

theorem mul_bd {x y A B : Int} (hx : -A ≤ x ∧ x ≤ A) (hy : -B ≤ y ∧ y ≤ B) : -(A * B) ≤ x * y ∧ x * y ≤ A * B := by
  have h1 : 0 ≤ (A - x) * (B + y) := Int.mul_nonneg (by omega) (by omega)
  have h2 : 0 ≤ (A + x) * (B - y) := Int.mul_nonneg (by omega) (by omega)
  have h3 : 0 ≤ (A - x) * (B - y) := Int.mul_nonneg (by omega) (by omega)
  have h4 : 0 ≤ (A + x) * (B + y) := Int.mul_nonneg (by omega) (by omega)
  simp only [Int.sub_mul, Int.mul_sub, Int.add_mul, Int.mul_add] at h1 h2 h3 h4
  constructor <;> omega

theorem curve_lt {l : List Pt} (h : curve l = true) : l ≠ [] ∧ 2 ≤ l.length ∧ l.length ≤ 8 := by
  simp only [curve, within, Bool.and_eq_true, decide_eq_true_eq] at h
  obtain ⟨⟨⟨h1, h2⟩, _⟩, _⟩ := h
  refine ⟨fun e => by subst e; simp at h1, by omega, by omega⟩

theorem curve_at {l : List Pt} (h : curve l = true) {i : Int} (h0 : 0 ≤ i) (h1 : i < l.length) : curveAt l i = true := by
  simp only [curve, Bool.and_eq_true, List.all_eq_true, List.mem_range] at h
  have := h.2 i.toNat (by omega)
  rwa [Int.toNat_of_nonneg h0] at this

theorem curve_bd {l : List Pt} (h : curve l = true) : Bd l := by
  intro i h0 h1
  have := curve_at h h0 h1
  simp only [curveAt, within, Bool.and_eq_true, decide_eq_true_eq] at this
  omega

def rule1 (s : Ship) : Bool := within s.Class 1 6
def rule2 (s : Ship) : Bool := within s.Power 100 100000 && within s.Draught 10 2000 && within s.Tonnes 10 500000
def rule3 (s : Ship) : Bool := within s.Slow 0 20 && within s.Brash 0 100 && within s.Ridge 0 500 && within s.Press 0 5000
def rule4 (s : Ship) : Bool := steady s.Thrust (-1) && within (endX s.Thrust) 10 250
def rule5 (s : Ship) : Bool := steady s.Water 1 && decide (endX s.Water ≤ 250)
def rule6 (s : Ship) : Bool := steady s.Ice 1 && ((pt s.Ice 0).Y == 0) && (endX s.Ice == 400)

def check (s : Ship) : Int :=
  if rule1 s = false then 41 else if rule2 s = false then 40 else if rule3 s = false then 40 else if rule4 s = false then 40 else if rule5 s = false then 40 else if rule6 s = false then 40 else 0

theorem steady_curve {l : List Pt} {w : Int} (h : steady l w = true) : curve l = true := by
  simp only [steady, Bool.and_eq_true] at h; exact h.1


theorem within_t {n a b : Int} (h : within n a b = true) : a ≤ n ∧ n ≤ b := by
  simp only [within, Bool.and_eq_true, decide_eq_true_eq] at h; omega
theorem within_f {n a b : Int} (h : within n a b = false) : ¬ (a ≤ n ∧ n ≤ b) := by
  simp only [within, Bool.and_eq_false_iff, decide_eq_false_iff_not] at h; omega

theorem b1 {a b c : Bool} : (!a || !b || c) = true → (a && b && !c) = false := by cases a <;> cases b <;> cases c <;> simp
theorem b3 {a b c : Bool} : (!a || !b || c) = false → (a && b && !c) = true := by cases a <;> cases b <;> cases c <;> simp
theorem b4 {a : Bool} : a = false → (!a) = true := by cases a <;> simp
theorem f2t {a : Bool} : a = false → ¬ a = true := by cases a <;> simp
theorem b2 {a : Bool} : a = true → (!a) = false := by cases a <;> simp

theorem steady_len {l : List Pt} {w : Int} (h : steady l w = true) : 2 ≤ l.length ∧ l.length ≤ 8 := (curve_lt (steady_curve h)).2

theorem curve_no1 {l : List Pt} (h : (!within (l.length : Int) 2 8 || (pt l 0).X != 0) = true) : curve l = false := by
  cases h1 : within (l.length : Int) 2 8 <;> simp_all [curve]

theorem curve_no2 {l : List Pt} {k : Nat} (hk : k < l.length) (h : curveAt l (k : Int) = false) : curve l = false := by
  cases hc : curve l with
  | false => rfl
  | true => have := curve_at hc (i := (k : Int)) (by omega) (by omega); rw [h] at this; cases this

theorem curve_yes {l : List Pt} {k : Nat} (h1 : within (l.length : Int) 2 8 = true) (h2 : (pt l 0).X = 0) (h : ∀ j < k, curveAt l (j : Int) = true) (hk : l.length ≤ k) : curve l = true := by
  simp only [curve, h1, h2, beq_self_eq_true, Bool.and_self, Bool.true_and, List.all_eq_true, List.mem_range]
  exact fun i hi => h i (by omega)

theorem steady_no {l : List Pt} {w : Int} {k : Nat} (h1 : 1 ≤ k) (hk : k < l.length) (h : steadyAt l w (k : Int) = false) : steady l w = false := by
  cases hs : steady l w with
  | false => rfl
  | true =>
    simp only [steady, Bool.and_eq_true, List.all_eq_true, List.mem_range] at hs
    have := hs.2 (k - 1) (by omega)
    rw [show k - 1 + 1 = k by omega, h] at this
    cases this

theorem steady_yes {l : List Pt} {w : Int} {k : Nat} (hc : curve l = true) (h : ∀ j < k, 1 ≤ j → steadyAt l w (j : Int) = true) (hk : l.length ≤ k) : steady l w = true := by
  simp only [steady, hc, Bool.true_and, List.all_eq_true, List.mem_range]
  exact fun i hi => h (i + 1) (by omega) (by omega)

theorem mul_nn {x y a A b B : Int} (hx : a ≤ x ∧ x ≤ A) (hy : b ≤ y ∧ y ≤ B) (ha : 0 ≤ a) (hb : 0 ≤ b) : a * b ≤ x * y ∧ x * y ≤ A * B := by
  constructor
  · exact Int.mul_le_mul hx.1 hy.1 hb (by omega)
  · exact Int.mul_le_mul hx.2 hy.2 (by omega) (by omega)

theorem valFrom_bd {l : List Pt} (hc : curve l = true) {x : Int} (_hx : 0 ≤ x) : ∀ (f i : Nat), 1 ≤ i → i + f = l.length → (pt l ((i : Int) - 1)).X ≤ x →
    1 ≤ (valFrom l x f i).2 ∧ (valFrom l x f i).2 ≤ 400 ∧ 0 ≤ (valFrom l x f i).1 ∧ (valFrom l x f i).1 ≤ 20000 * (valFrom l x f i).2 := by
  have hB := curve_bd hc
  have hlen := (curve_lt hc).2
  intro f
  induction f with
  | zero =>
    intro i h1 h2 h3
    have := hB ((l.length : Int) - 1) (by omega) (by omega)
    simp only [valFrom]
    omega
  | succ f ih =>
    intro i h1 h2 h3
    have ha := hB ((i : Int) - 1) (by omega) (by omega)
    have hb := hB (i : Int) (by omega) (by omega)
    have hat := curve_at hc (i := (i : Int)) (by omega) (by omega)
    simp only [valFrom]
    by_cases hle : x ≤ (pt l (i : Int)).X
    · rw [if_pos hle]
      have hlt : (pt l ((i : Int) - 1)).X < (pt l (i : Int)).X := by
        simp only [curveAt, Bool.and_eq_true, Bool.not_eq_true', Bool.and_eq_false_iff, decide_eq_false_iff_not] at hat
        rcases hat.2 with h | h <;> omega
      refine ⟨by omega, by omega, ?_, ?_⟩
      all_goals
        have e1 : (pt l ((i : Int) - 1)).Y * ((pt l (i : Int)).X - (pt l ((i : Int) - 1)).X) + ((pt l (i : Int)).Y - (pt l ((i : Int) - 1)).Y) * (x - (pt l ((i : Int) - 1)).X) =
          (pt l ((i : Int) - 1)).Y * ((pt l (i : Int)).X - x) + (pt l (i : Int)).Y * (x - (pt l ((i : Int) - 1)).X) := by
          simp only [Int.sub_mul, Int.mul_sub]; omega
        have p1 := Int.mul_nonneg (a := (pt l ((i : Int) - 1)).Y) (b := (pt l (i : Int)).X - x) (by omega) (by omega)
        have p2 := Int.mul_nonneg (a := (pt l (i : Int)).Y) (b := x - (pt l ((i : Int) - 1)).X) (by omega) (by omega)
        have p3 := Int.mul_le_mul_of_nonneg_right (a := (pt l ((i : Int) - 1)).Y) (b := 20000) (c := (pt l (i : Int)).X - x) (by omega) (by omega)
        have p4 := Int.mul_le_mul_of_nonneg_right (a := (pt l (i : Int)).Y) (b := 20000) (c := x - (pt l ((i : Int) - 1)).X) (by omega) (by omega)
        rw [e1]
        simp only []
        omega
    · rw [if_neg hle]
      exact ih (i + 1) (by omega) (by omega) (by rw [show ((i + 1 : Nat) : Int) - 1 = (i : Int) by omega]; omega)

theorem curve_x0 {l : List Pt} (hc : curve l = true) : (pt l 0).X = 0 := by
  simp only [curve, Bool.and_eq_true, beq_iff_eq] at hc
  exact hc.1.2

theorem value_bd {l : List Pt} (hc : curve l = true) {x : Int} (hx : 0 ≤ x) : 1 ≤ (value l x).2 ∧ (value l x).2 ≤ 400 ∧ 0 ≤ (value l x).1 ∧ (value l x).1 ≤ 20000 * (value l x).2 := by
  have hlen := (curve_lt hc).2
  exact valFrom_bd hc hx _ 1 (Nat.le_refl 1) (by omega) (by have := curve_x0 hc; simp; omega)

def firstI (c : Cell) : Ice := ⟨c.Conc.Lo, c.Thick.Lo, c.Ridge.Lo, c.Press.Lo⟩
def lastI (c : Cell) : Ice := ⟨c.Conc.Hi, c.Thick.Hi, c.Ridge.Hi, c.Press.Hi⟩

def inI (a b c : Int) : Bool := decide (a ≥ b) && decide (a ≤ c)

def goodIce (i : Ice) : Prop := (0 ≤ i.Conc ∧ i.Conc ≤ 100) ∧ (0 ≤ i.Thick ∧ i.Thick ≤ 400) ∧ (0 ≤ i.Ridge ∧ i.Ridge ≤ 100) ∧ (0 ≤ i.Press ∧ i.Press ≤ 3)

theorem goodIce_bd {i : Ice} (h : goodIce i) : (0 ≤ i.Conc ∧ i.Conc ≤ 100) ∧ (0 ≤ i.Thick ∧ i.Thick ≤ 400) ∧ (0 ≤ i.Ridge ∧ i.Ridge ≤ 100) ∧ (0 ≤ i.Press ∧ i.Press ≤ 3) := h

def loadI (i : Ice) (v : Int) (ch : Bool) : Int :=
  if i.Conc = 0 then 0
  else (if ch then (i.Thick * (100 + v) + 1) / 2 else i.Thick * (100 + v)) + 300 * (if ch then 0 else i.Ridge) + 2000 * i.Press

def lowest (n d : Int) : Int × Int := (n / (Int.gcd n d : Int), d / (Int.gcd n d : Int))

theorem gcd_step {a b : Int} (ha : 0 ≤ a) (hb : 0 ≤ b) : Int.gcd b (a % b) = Int.gcd a b := by
  obtain ⟨x, rfl⟩ := Int.eq_ofNat_of_zero_le ha
  obtain ⟨y, rfl⟩ := Int.eq_ofNat_of_zero_le hb
  show Nat.gcd y (x % y) = Nat.gcd x y
  rw [Nat.gcd_comm x y, Nat.gcd_rec y x, Nat.gcd_comm]

def at_ (l : List Pt) (x : Int) : (Int × Int) × Int :=
  if curve l = false then ((0, 0), 40) else if within x 0 1000 = false then ((0, 0), 6) else (lowest (value l x).1 (value l x).2, 0)

theorem check_rules {s : Ship} (h : check s = 0) : rule1 s = true ∧ rule2 s = true ∧ rule3 s = true ∧ rule4 s = true ∧ rule5 s = true ∧ rule6 s = true := by
  unfold check at h
  refine ⟨?_, ?_, ?_, ?_, ?_, ?_⟩
  · cases e : rule1 s <;> simp_all
  · cases e : rule2 s <;> cases e1 : rule1 s <;> simp_all
  · cases e : rule3 s <;> cases e1 : rule1 s <;> cases e2 : rule2 s <;> simp_all
  · cases e : rule4 s <;> cases e1 : rule1 s <;> cases e2 : rule2 s <;> cases e3 : rule3 s <;> simp_all
  · cases e : rule5 s <;> cases e1 : rule1 s <;> cases e2 : rule2 s <;> cases e3 : rule3 s <;> cases e4 : rule4 s <;> simp_all
  · cases e : rule6 s <;> cases e1 : rule1 s <;> cases e2 : rule2 s <;> cases e3 : rule3 s <;> cases e4 : rule4 s <;> cases e5 : rule5 s <;> simp_all

theorem check_steadyThrust {s : Ship} (h : check s = 0) : steady s.Thrust (-1) = true := by
  have := (check_rules h).2.2.2.1; simp only [rule4, Bool.and_eq_true] at this; exact this.1
theorem check_steadyWater {s : Ship} (h : check s = 0) : steady s.Water 1 = true := by
  have := (check_rules h).2.2.2.2.1; simp only [rule5, Bool.and_eq_true] at this; exact this.1
theorem check_steadyIce {s : Ship} (h : check s = 0) : steady s.Ice 1 = true := by
  have := (check_rules h).2.2.2.2.2; simp only [rule6, Bool.and_eq_true] at this; exact this.1.1
theorem check_curveThrust {s : Ship} (h : check s = 0) : curve s.Thrust = true := steady_curve (check_steadyThrust h)
theorem check_curveWater {s : Ship} (h : check s = 0) : curve s.Water = true := steady_curve (check_steadyWater h)
theorem check_curveIce {s : Ship} (h : check s = 0) : curve s.Ice = true := steady_curve (check_steadyIce h)

theorem check_bd {s : Ship} (h : check s = 0) : (1 ≤ s.Class ∧ s.Class ≤ 6) ∧ (100 ≤ s.Power ∧ s.Power ≤ 100000) ∧ (0 ≤ s.Slow ∧ s.Slow ≤ 20) ∧ (0 ≤ s.Brash ∧ s.Brash ≤ 100) ∧ (0 ≤ s.Ridge ∧ s.Ridge ≤ 500) ∧ (0 ≤ s.Press ∧ s.Press ≤ 5000) := by
  obtain ⟨h1, h2, h3, _⟩ := check_rules h
  simp only [rule1, rule2, rule3, within, Bool.and_eq_true, decide_eq_true_eq] at h1 h2 h3
  omega

def thrust (s : Ship) (v : Int) : Int := (value s.Thrust v).1 / (value s.Thrust v).2

def resN (s : Ship) (i : Ice) (ch : Bool) (v : Int) : Int :=
  i.Conc * ((value s.Ice i.Thick).1 * (1000 + s.Slow * v) * (if ch = true then s.Brash else 100) + s.Ridge * (if ch = true then 0 else i.Ridge) * (value s.Ice i.Thick).2 * 100000)

def resistance (s : Ship) (i : Ice) (ch : Bool) (v : Int) : Int :=
  ((value s.Water v).1 * ((value s.Ice i.Thick).2 * 10000000) + resN s i ch v * (value s.Water v).2 + s.Press * i.Press * (value s.Water v).2 * ((value s.Ice i.Thick).2 * 10000000)
    + (value s.Water v).2 * ((value s.Ice i.Thick).2 * 10000000) - 1) / ((value s.Water v).2 * ((value s.Ice i.Thick).2 * 10000000))

def makes (s : Ship) (i : Ice) (ch : Bool) (v : Int) : Bool := decide (v ≤ endX s.Thrust) && decide (thrust s v ≥ resistance s i ch v)

def strengths : List Int := [4000, 8000, 14000, 24000, 40000, 90000]

def bears (s : Ship) (i : Ice) (ch : Bool) (v : Int) : Bool := decide (loadI i v ch ≤ strengths.getD (s.Class - 1).toNat 0)

def greatFrom (so : Int → Bool) : Nat → Int → Int → Int
  | 0, lo, _ => lo
  | f + 1, lo, hi => if lo < hi then (if so (lo + (hi - lo + 1) / 2) = true then greatFrom so f (lo + (hi - lo + 1) / 2) hi else greatFrom so f lo (lo + (hi - lo + 1) / 2 - 1)) else lo

def great (so : Int → Bool) (lo hi : Int) : Int := greatFrom so (hi - lo).toNat lo hi

theorem greatFrom_fuel {so : Int → Bool} : ∀ {f g : Nat} {lo hi : Int}, (hi - lo).toNat ≤ f → (hi - lo).toNat ≤ g → greatFrom so f lo hi = greatFrom so g lo hi := by
  intro f
  induction f with
  | zero =>
    intro g lo hi h1 _
    cases g with
    | zero => rfl
    | succ g => simp only [greatFrom]; rw [if_neg (by omega)]
  | succ f ih =>
    intro g lo hi h1 h2
    cases g with
    | zero => simp only [greatFrom]; rw [if_neg (by omega)]
    | succ g =>
      simp only [greatFrom]
      by_cases h : lo < hi
      · rw [if_pos h, if_pos h]
        rw [ih (g := g) (lo := lo + (hi - lo + 1) / 2) (hi := hi) (by omega) (by omega), ih (g := g) (lo := lo) (hi := lo + (hi - lo + 1) / 2 - 1) (by omega) (by omega)]
      · rw [if_neg h, if_neg h]

theorem great_step {so : Int → Bool} {lo hi : Int} (h : lo < hi) : great so lo hi = if so (lo + (hi - lo + 1) / 2) = true then great so (lo + (hi - lo + 1) / 2) hi else great so lo (lo + (hi - lo + 1) / 2 - 1) := by
  unfold great
  rw [show (hi - lo).toNat = ((hi - lo).toNat - 1) + 1 by omega, greatFrom, if_pos h]
  rw [greatFrom_fuel (f := (hi - lo).toNat - 1) (g := (hi - (lo + (hi - lo + 1) / 2)).toNat) (lo := lo + (hi - lo + 1) / 2) (by omega) (by omega),
    greatFrom_fuel (f := (hi - lo).toNat - 1) (g := ((lo + (hi - lo + 1) / 2 - 1) - lo).toNat) (lo := lo) (hi := lo + (hi - lo + 1) / 2 - 1) (by omega) (by omega)]

theorem great_done {so : Int → Bool} {lo hi : Int} (h : ¬ lo < hi) : great so lo hi = lo := by
  unfold great
  rw [show (hi - lo).toNat = 0 by omega, greatFrom]

def greatest (so : Int → Bool) (lo hi : Int) : Int × Bool := if so lo = true then (great so lo hi, true) else (0, false)

def speed (s : Ship) (i : Ice) (ch : Bool) : Int := (greatest (fun v => makes s i ch v) 0 250).1

def goes (s : Ship) (i : Ice) (ch : Bool) : Int × Bool := greatest (fun v => makes s i ch v && bears s i ch v) 10 250

def all4 (so : Int → Bool) : Bool := so 0 && so 1 && so 2 && so 3

def checkIce (i : Ice) : Int :=
  if all4 (fun n => inI (([i.Conc, i.Thick, i.Ridge, i.Press] : List Int).getD n.toNat 0) 0 (([100, 400, 100, 3] : List Int).getD n.toNat 0)) = false then 20 else 0

def rightS (s : Span) (n : Int) : Bool := inI s.Lo 0 (([100, 400, 100, 3] : List Int).getD n.toNat 0) && inI s.Hi s.Lo (([100, 400, 100, 3] : List Int).getD n.toNat 0)

def checkCell (c : Cell) : Int :=
  if all4 (fun n => rightS (([c.Conc, c.Thick, c.Ridge, c.Press] : List Span).getD n.toNat ⟨0, 0⟩) n) = false then 20 else 0

theorem ite_err {c : Bool} {e : Int} (he : e ≠ 0) : (if c = false then e else 0) = 0 ↔ c = true := by cases c <;> simp [he]

theorem checkIce_ok {i : Ice} : checkIce i = 0 ↔ goodIce i := by
  unfold checkIce
  rw [ite_err (by decide)]
  simp only [all4, inI, Bool.and_eq_true, decide_eq_true_eq, goodIce]
  constructor
  · rintro ⟨⟨⟨⟨a, b⟩, c, d⟩, e, f⟩, g, h⟩; exact ⟨⟨a, b⟩, ⟨c, d⟩, ⟨e, f⟩, g, h⟩
  · rintro ⟨⟨a, b⟩, ⟨c, d⟩, ⟨e, f⟩, g, h⟩; exact ⟨⟨⟨⟨a, b⟩, c, d⟩, e, f⟩, g, h⟩

def goodSpan (s : Span) (n : Int) : Prop := 0 ≤ s.Lo ∧ s.Lo ≤ s.Hi ∧ s.Hi ≤ n

def goodCell (c : Cell) : Prop := goodSpan c.Conc 100 ∧ goodSpan c.Thick 400 ∧ goodSpan c.Ridge 100 ∧ goodSpan c.Press 3

theorem checkCell_ok {c : Cell} : checkCell c = 0 ↔ goodCell c := by
  unfold checkCell
  rw [ite_err (by decide)]
  simp only [all4, rightS, inI, Bool.and_eq_true, decide_eq_true_eq, goodCell, goodSpan]
  constructor
  · rintro ⟨⟨⟨⟨⟨_, _⟩, _, _⟩, ⟨_, _⟩, _, _⟩, ⟨_, _⟩, _, _⟩, ⟨_, _⟩, _, _⟩
    exact ⟨⟨by assumption, by assumption, by assumption⟩, ⟨by assumption, by assumption, by assumption⟩, ⟨by assumption, by assumption, by assumption⟩, ⟨by assumption, by assumption, by assumption⟩⟩
  · rintro ⟨⟨h1, h2, h3⟩, ⟨h4, h5, h6⟩, ⟨h7, h8, h9⟩, ⟨h10, h11, h12⟩⟩
    exact ⟨⟨⟨⟨⟨h1, Int.le_trans h2 h3⟩, h2, h3⟩, ⟨h4, Int.le_trans h5 h6⟩, h5, h6⟩, ⟨h7, Int.le_trans h8 h9⟩, h8, h9⟩, ⟨h10, Int.le_trans h11 h12⟩, h11, h12⟩

theorem goodCell_last {c : Cell} (h : goodCell c) : goodIce (lastI c) := by
  obtain ⟨⟨_, _, _⟩, ⟨_, _, _⟩, ⟨_, _, _⟩, ⟨_, _, _⟩⟩ := h
  simp only [goodIce, lastI]; omega

theorem goodCell_first {c : Cell} (h : goodCell c) : goodIce (firstI c) := by
  obtain ⟨⟨_, _, _⟩, ⟨_, _, _⟩, ⟨_, _, _⟩, ⟨_, _, _⟩⟩ := h
  simp only [goodIce, firstI]; omega

def loaded (i : Ice) (v : Int) : Int := if checkIce i ≠ 0 then checkIce i else if within v 0 250 = false then 6 else 0

theorem loaded_ok {i : Ice} {v : Int} (h : loaded i v = 0) : goodIce i ∧ 0 ≤ v ∧ v ≤ 255 := by
  unfold loaded at h
  by_cases h1 : checkIce i = 0
  · rw [if_neg (by simp [h1])] at h
    rw [ite_err (by decide)] at h
    have := within_t h
    exact ⟨checkIce_ok.1 h1, by omega, by omega⟩
  · rw [if_pos h1] at h; exact absurd h h1

def asked (s : Ship) (i : Ice) (v : Int) : Int := if check s ≠ 0 then check s else loaded i v

theorem asked_ok {s : Ship} {i : Ice} {v : Int} (h : asked s i v = 0) : check s = 0 ∧ goodIce i ∧ 0 ≤ v ∧ v ≤ 255 := by
  unfold asked at h
  by_cases h1 : check s = 0
  · rw [if_neg (by simp [h1])] at h; exact ⟨h1, loaded_ok h⟩
  · rw [if_pos h1] at h; exact absurd h h1

def met (s : Ship) (c : Cell) : Int := if check s ≠ 0 then check s else checkCell c

theorem met_ok {s : Ship} {c : Cell} (h : met s c = 0) : check s = 0 ∧ goodCell c := by
  unfold met at h
  by_cases h1 : check s = 0
  · rw [if_neg (by simp [h1])] at h; exact ⟨h1, checkCell_ok.1 h⟩
  · rw [if_pos h1] at h; exact absurd h h1

def safe (s : Ship) (c : Cell) (ch : Bool) : Int × Int :=
  if speed s (lastI c) ch < 10 then (0, 4) else if (goes s (lastI c) ch).2 = false then (0, 41) else ((goes s (lastI c) ch).1, 0)

def speedE (s : Ship) (i : Ice) (ch : Bool) : Int × Int := if asked s i 0 ≠ 0 then (0, asked s i 0) else (speed s i ch, 0)
def resistanceE (s : Ship) (i : Ice) (v : Int) (ch : Bool) : Int × Int := if asked s i v ≠ 0 then (0, asked s i v) else (resistance s i ch v, 0)
def loadE (i : Ice) (v : Int) (ch : Bool) : Int × Int := if loaded i v ≠ 0 then (0, loaded i v) else (loadI i v ch, 0)

def takes (p : Part) (v : Int) : Int := (60 * p.Length + v - 1) / v
theorem mulL {a b c : Int} (h : a ≤ b) (hc : 0 ≤ c) : c * a ≤ c * b := Int.mul_le_mul_of_nonneg_left h hc
theorem mulR {a b c : Int} (h : a ≤ b) (hc : 0 ≤ c) : a * c ≤ b * c := Int.mul_le_mul_of_nonneg_right h hc

theorem ceil_mono {a b c d : Int} (hb : 0 < b) (hd : 0 < d) (h : a * d ≤ c * b) : (a + b - 1) / b ≤ (c + d - 1) / d := by
  have h1 := Int.lt_mul_ediv_self_add (x := c + d - 1) hd
  have h2 : c ≤ d * ((c + d - 1) / d) := by omega
  have h3 : c * b ≤ d * ((c + d - 1) / d) * b := mulR h2 (by omega)
  have h4 : a * d ≤ ((c + d - 1) / d * b) * d := by
    have e : d * ((c + d - 1) / d) * b = ((c + d - 1) / d * b) * d := by ac_rfl
    omega
  have h5 : a ≤ (c + d - 1) / d * b := Int.le_of_mul_le_mul_right h4 hd
  have h6 : (a + b - 1) / b < (c + d - 1) / d + 1 := Int.ediv_lt_of_lt_mul hb (by rw [Int.add_mul]; omega)
  omega

theorem floor_mono {a b c d : Int} (hb : 0 < b) (hd : 0 < d) (h : a * d ≤ c * b) : a / b ≤ c / d := by
  have h1 : a / b * b ≤ a := Int.ediv_mul_le a (by omega)
  refine Int.le_ediv_of_mul_le hd ?_
  have h2 : a / b * b * d ≤ a * d := mulR h1 (by omega)
  have h3 : (a / b * d) * b ≤ c * b := by
    have e : a / b * b * d = (a / b * d) * b := by ac_rfl
    omega
  exact Int.le_of_mul_le_mul_right h3 hb

/-- The value between points, over any numbers. -/
def vf (X Z : Nat → Int) (n : Nat) (x : Int) : Nat → Nat → Int × Int
  | 0, _ => (Z (n - 1), 1)
  | f + 1, i => if x ≤ X i then (Z (i - 1) * (X i - X (i - 1)) + (Z i - Z (i - 1)) * (x - X (i - 1)), X i - X (i - 1)) else vf X Z n x f (i + 1)

theorem vf_ge {X Z : Nat → Int} {n : Nat} (hX : ∀ i, 1 ≤ i → i < n → X (i - 1) < X i) (hZ : ∀ i, 1 ≤ i → i < n → Z (i - 1) ≤ Z i) {x : Int} : ∀ (f i : Nat), 1 ≤ i → i + f = n → X (i - 1) ≤ x →
    1 ≤ (vf X Z n x f i).2 ∧ Z (i - 1) * (vf X Z n x f i).2 ≤ (vf X Z n x f i).1 := by
  intro f
  induction f with
  | zero => intro i h1 h2 h3; simp only [vf]; rw [show n - 1 = i - 1 by omega]; omega
  | succ f ih =>
    intro i h1 h2 h3
    simp only [vf]
    have hx := hX i h1 (by omega)
    have hz := hZ i h1 (by omega)
    by_cases h : x ≤ X i
    · rw [if_pos h]
      have := Int.mul_nonneg (a := Z i - Z (i - 1)) (b := x - X (i - 1)) (by omega) (by omega)
      simp only []
      omega
    · rw [if_neg h]
      obtain ⟨h4, h5⟩ := ih (i + 1) (by omega) (by omega) (by rw [show i + 1 - 1 = i by omega]; omega)
      rw [show i + 1 - 1 = i by omega] at h5
      have := mulR hz (c := (vf X Z n x f (i + 1)).2) (by omega)
      exact ⟨h4, by omega⟩

theorem vf_mono {X Z : Nat → Int} {n : Nat} (hX : ∀ i, 1 ≤ i → i < n → X (i - 1) < X i) (hZ : ∀ i, 1 ≤ i → i < n → Z (i - 1) ≤ Z i) {x y : Int} (hxy : x ≤ y) : ∀ (f i : Nat), 1 ≤ i → i + f = n → X (i - 1) ≤ x →
    (vf X Z n x f i).1 * (vf X Z n y f i).2 ≤ (vf X Z n y f i).1 * (vf X Z n x f i).2 := by
  intro f
  induction f with
  | zero => intro i _ _ _; simp only [vf]; omega
  | succ f ih =>
    intro i h1 h2 h3
    simp only [vf]
    have hx := hX i h1 (by omega)
    have hz := hZ i h1 (by omega)
    by_cases h : x ≤ X i
    · rw [if_pos h]
      by_cases hy : y ≤ X i
      · rw [if_pos hy]
        simp only []
        refine mulR ?_ (by omega)
        have := mulL (a := x - X (i - 1)) (b := y - X (i - 1)) (c := Z i - Z (i - 1)) (by omega) (by omega)
        omega
      · rw [if_neg hy]
        obtain ⟨h4, h5⟩ := vf_ge hX hZ (x := y) f (i + 1) (by omega) (by omega) (by rw [show i + 1 - 1 = i by omega]; omega)
        rw [show i + 1 - 1 = i by omega] at h5
        simp only []
        have h6 : Z (i - 1) * (X i - X (i - 1)) + (Z i - Z (i - 1)) * (x - X (i - 1)) ≤ Z i * (X i - X (i - 1)) := by
          have := mulL (a := x - X (i - 1)) (b := X i - X (i - 1)) (c := Z i - Z (i - 1)) (by omega) (by omega)
          rw [Int.sub_mul (Z i) (Z (i - 1)) (X i - X (i - 1))] at this
          omega
        have h7 := mulR h6 (c := (vf X Z n y f (i + 1)).2) (by omega)
        have h8 := mulR h5 (c := X i - X (i - 1)) (by omega)
        have e : Z i * (X i - X (i - 1)) * (vf X Z n y f (i + 1)).2 = Z i * (vf X Z n y f (i + 1)).2 * (X i - X (i - 1)) := by ac_rfl
        omega
    · rw [if_neg h, if_neg (by omega)]
      exact ih (i + 1) (by omega) (by omega) (by rw [show i + 1 - 1 = i by omega]; omega)

theorem valFrom_vf {l : List Pt} {x : Int} : ∀ (f i : Nat), 1 ≤ i → i + f = l.length → valFrom l x f i = vf (fun i => (pt l (i : Int)).X) (fun i => (pt l (i : Int)).Y) l.length x f i := by
  intro f
  induction f with
  | zero => intro i h1 h2; simp only [valFrom, vf]; rw [show ((l.length - 1 : Nat) : Int) = (l.length : Int) - 1 by omega]
  | succ f ih =>
    intro i h1 h2
    simp only [valFrom, vf]
    rw [show ((i - 1 : Nat) : Int) = (i : Int) - 1 by omega, ih (i + 1) (by omega) (by omega)]

theorem vf_neg {X Z : Nat → Int} {n : Nat} {x : Int} : ∀ (f i : Nat), vf X (fun i => -Z i) n x f i = (-(vf X Z n x f i).1, (vf X Z n x f i).2) := by
  intro f
  induction f with
  | zero => intro i; rfl
  | succ f ih =>
    intro i
    simp only [vf]
    by_cases h : x ≤ X i
    · rw [if_pos h, if_pos h]
      simp only [Prod.mk.injEq, and_true]
      rw [show -Z i - -Z (i - 1) = -(Z i - Z (i - 1)) by omega, Int.neg_mul, Int.neg_mul, Int.neg_add]
    · rw [if_neg h, if_neg h]; exact ih (i + 1)

theorem steady_at {l : List Pt} {w : Int} (h : steady l w = true) {i : Nat} (h1 : 1 ≤ i) (h2 : i < l.length) : 0 ≤ ((pt l (i : Int)).Y - (pt l ((i : Int) - 1)).Y) * w := by
  simp only [steady, Bool.and_eq_true, List.all_eq_true, List.mem_range] at h
  have := h.2 (i - 1) (by omega)
  rw [show i - 1 + 1 = i by omega] at this
  simp only [steadyAt, Bool.not_eq_true', decide_eq_false_iff_not] at this
  omega

theorem curve_up {l : List Pt} (hc : curve l = true) {i : Nat} (h1 : 1 ≤ i) (h2 : i < l.length) : (pt l ((i - 1 : Nat) : Int)).X < (pt l (i : Int)).X := by
  have hat := curve_at hc (i := (i : Int)) (by omega) (by omega)
  simp only [curveAt, Bool.and_eq_true, Bool.not_eq_true', Bool.and_eq_false_iff, decide_eq_false_iff_not] at hat
  rw [show ((i - 1 : Nat) : Int) = (i : Int) - 1 by omega]
  rcases hat.2 with h | h <;> omega

theorem value_up {l : List Pt} (h : steady l 1 = true) {x y : Int} (hx : 0 ≤ x) (hxy : x ≤ y) : (value l x).1 * (value l y).2 ≤ (value l y).1 * (value l x).2 := by
  have hc := steady_curve h
  have hlen := (curve_lt hc).2
  have h0 := curve_x0 hc
  unfold value
  rw [valFrom_vf _ 1 (Nat.le_refl 1) (by omega), valFrom_vf _ 1 (Nat.le_refl 1) (by omega)]
  refine vf_mono (fun i h1 h2 => curve_up hc h1 h2) (fun i h1 h2 => ?_) hxy _ 1 (Nat.le_refl 1) (by omega) (by simp; omega)
  have := steady_at h h1 h2
  rw [show ((i - 1 : Nat) : Int) = (i : Int) - 1 by omega]
  omega

theorem value_down {l : List Pt} (h : steady l (-1) = true) {x y : Int} (hx : 0 ≤ x) (hxy : x ≤ y) : (value l y).1 * (value l x).2 ≤ (value l x).1 * (value l y).2 := by
  have hc := steady_curve h
  have hlen := (curve_lt hc).2
  have h0 := curve_x0 hc
  unfold value
  rw [valFrom_vf _ 1 (Nat.le_refl 1) (by omega), valFrom_vf _ 1 (Nat.le_refl 1) (by omega)]
  have := vf_mono (X := fun i => (pt l (i : Int)).X) (Z := fun i => -(pt l (i : Int)).Y) (n := l.length) (fun i h1 h2 => curve_up hc h1 h2) (fun i h1 h2 => by
    have := steady_at h h1 h2
    rw [show ((i - 1 : Nat) : Int) = (i : Int) - 1 by omega]
    omega) hxy (l.length - 1) 1 (Nat.le_refl 1) (by omega) (by simp; omega)
  rw [vf_neg, vf_neg] at this
  simp only [Int.neg_mul] at this
  omega


def resG (w wd n d c A sh R rd P : Int) : Int :=
  (w * (d * 10000000) + c * (n * A * sh + R * rd * d * 100000) * wd + P * wd * (d * 10000000) + wd * (d * 10000000) - 1) / (wd * (d * 10000000))

theorem resG_mono {w wd n d c A sh R rd P w' wd' n' d' c' A' sh' rd' P' : Int} (hwd : 0 < wd) (hd : 0 < d) (hwd' : 0 < wd') (hd' : 0 < d') (hn : 0 ≤ n) (hn' : 0 ≤ n') (hc : 0 ≤ c) (hA : 0 ≤ A) (hsh : 0 ≤ sh) (hR : 0 ≤ R) (hrd : 0 ≤ rd)
    (h1 : w * wd' ≤ w' * wd) (h2 : n * d' ≤ n' * d) (h3 : c ≤ c') (h4 : A ≤ A') (h5 : sh ≤ sh') (h6 : rd ≤ rd') (h7 : P ≤ P') :
    resG w wd n d c A sh R rd P ≤ resG w' wd' n' d' c' A' sh' R rd' P' := by
  unfold resG
  have pd : 0 < d * 10000000 := by omega
  have pd' : 0 < d' * 10000000 := by omega
  refine ceil_mono (Int.mul_pos hwd pd) (Int.mul_pos hwd' pd') ?_
  have t1 : w * (d * 10000000) * (wd' * (d' * 10000000)) ≤ w' * (d' * 10000000) * (wd * (d * 10000000)) := by
    have := mulR h1 (c := (d * 10000000) * (d' * 10000000)) (Int.le_of_lt (Int.mul_pos pd pd'))
    have e1 : w * (d * 10000000) * (wd' * (d' * 10000000)) = w * wd' * ((d * 10000000) * (d' * 10000000)) := by ac_rfl
    have e2 : w' * (d' * 10000000) * (wd * (d * 10000000)) = w' * wd * ((d * 10000000) * (d' * 10000000)) := by ac_rfl
    omega
  have t3 : P * wd * (d * 10000000) * (wd' * (d' * 10000000)) ≤ P' * wd' * (d' * 10000000) * (wd * (d * 10000000)) := by
    have := mulR h7 (c := wd * (d * 10000000) * (wd' * (d' * 10000000))) (Int.le_of_lt (Int.mul_pos (Int.mul_pos hwd pd) (Int.mul_pos hwd' pd')))
    have e1 : P * wd * (d * 10000000) * (wd' * (d' * 10000000)) = P * (wd * (d * 10000000) * (wd' * (d' * 10000000))) := by ac_rfl
    have e2 : P' * wd' * (d' * 10000000) * (wd * (d * 10000000)) = P' * (wd * (d * 10000000) * (wd' * (d' * 10000000))) := by ac_rfl
    omega
  have a1 : n * A * sh * d' ≤ n' * A' * sh' * d := by
    have hA' : A * sh ≤ A' * sh' := Int.mul_le_mul h4 h5 hsh (by omega)
    have := Int.mul_le_mul h2 hA' (Int.mul_nonneg hA hsh) (Int.mul_nonneg hn' (by omega))
    have e1 : n * A * sh * d' = n * d' * (A * sh) := by ac_rfl
    have e2 : n' * A' * sh' * d = n' * d * (A' * sh') := by ac_rfl
    omega
  have a2 : R * rd * d * 100000 * d' ≤ R * rd' * d' * 100000 * d := by
    have := mulR (mulL h6 hR) (c := d * 100000 * d') (Int.mul_nonneg (by omega) (by omega))
    have e1 : R * rd * d * 100000 * d' = R * rd * (d * 100000 * d') := by ac_rfl
    have e2 : R * rd' * d' * 100000 * d = R * rd' * (d * 100000 * d') := by ac_rfl
    omega
  have hin : (n * A * sh + R * rd * d * 100000) * d' ≤ (n' * A' * sh' + R * rd' * d' * 100000) * d := by rw [Int.add_mul, Int.add_mul]; omega
  have pin : 0 ≤ (n * A * sh + R * rd * d * 100000) * d' :=
    Int.mul_nonneg (Int.add_nonneg (Int.mul_nonneg (Int.mul_nonneg hn hA) hsh) (Int.mul_nonneg (Int.mul_nonneg (Int.mul_nonneg hR hrd) (by omega)) (by omega))) (by omega)
  have hcin := Int.mul_le_mul h3 hin pin (by omega : 0 ≤ c')
  have t2 : c * (n * A * sh + R * rd * d * 100000) * wd * (wd' * (d' * 10000000)) ≤ c' * (n' * A' * sh' + R * rd' * d' * 100000) * wd' * (wd * (d * 10000000)) := by
    have := mulR hcin (c := wd * wd' * 10000000) (Int.mul_nonneg (Int.mul_nonneg (by omega) (by omega)) (by omega))
    have e1 : c * (n * A * sh + R * rd * d * 100000) * wd * (wd' * (d' * 10000000)) = c * ((n * A * sh + R * rd * d * 100000) * d') * (wd * wd' * 10000000) := by ac_rfl
    have e2 : c' * (n' * A' * sh' + R * rd' * d' * 100000) * wd' * (wd * (d * 10000000)) = c' * ((n' * A' * sh' + R * rd' * d' * 100000) * d) * (wd * wd' * 10000000) := by ac_rfl
    omega
  rw [Int.add_mul, Int.add_mul, Int.add_mul, Int.add_mul]
  omega

theorem resistance_G (s : Ship) (i : Ice) (ch : Bool) (v : Int) : resistance s i ch v =
    resG (value s.Water v).1 (value s.Water v).2 (value s.Ice i.Thick).1 (value s.Ice i.Thick).2 i.Conc (1000 + s.Slow * v) (if ch = true then s.Brash else 100) s.Ridge (if ch = true then 0 else i.Ridge) (s.Press * i.Press) := rfl

structure LeI (i j : Ice) : Prop where
  conc : i.Conc ≤ j.Conc
  thick : i.Thick ≤ j.Thick
  ridge : i.Ridge ≤ j.Ridge
  press : i.Press ≤ j.Press

theorem LeI.rfl {i : Ice} : LeI i i := ⟨Int.le_refl _, Int.le_refl _, Int.le_refl _, Int.le_refl _⟩

theorem resistance_mono {s : Ship} (hc : check s = 0) {i j : Ice} (hi : goodIce i) (hj : goodIce j) (hij : LeI i j) {u v : Int} (hu : 0 ≤ u) (huv : u ≤ v) (ch : Bool) : resistance s i ch u ≤ resistance s j ch v := by
  rw [resistance_G, resistance_G]
  obtain ⟨hcl, hpo, hsl, hbr, hri, hpr⟩ := check_bd hc
  obtain ⟨i1, i2, i3, i4⟩ := goodIce_bd hi
  obtain ⟨j1, j2, j3, j4⟩ := goodIce_bd hj
  have w1 := value_bd (check_curveWater hc) hu
  have w2 := value_bd (check_curveWater hc) (x := v) (by omega)
  have n1 := value_bd (check_curveIce hc) i2.1
  have n2 := value_bd (check_curveIce hc) j2.1
  have hsu := Int.mul_nonneg hsl.1 hu
  refine resG_mono (by omega) (by omega) (by omega) (by omega) (by omega) (by omega) i1.1 (by omega) (by split <;> omega) hri.1 (by split <;> omega)
    (value_up (check_steadyWater hc) hu huv) (value_up (check_steadyIce hc) i2.1 hij.thick) hij.conc (by have := mulL huv hsl.1; omega) (Int.le_refl _) (by split; exact Int.le_refl _; exact hij.ridge) (mulL hij.press hpr.1)

theorem resistance_channel {s : Ship} (hc : check s = 0) {i : Ice} (hi : goodIce i) {v : Int} (hv : 0 ≤ v) : resistance s i true v ≤ resistance s i false v := by
  rw [resistance_G, resistance_G]
  obtain ⟨hcl, hpo, hsl, hbr, hri, hpr⟩ := check_bd hc
  obtain ⟨i1, i2, i3, i4⟩ := goodIce_bd hi
  have w1 := value_bd (check_curveWater hc) hv
  have n1 := value_bd (check_curveIce hc) i2.1
  have hsu := Int.mul_nonneg hsl.1 hv
  exact resG_mono (by omega) (by omega) (by omega) (by omega) (by omega) (by omega) i1.1 (by omega) (by simpa using hbr.1) hri.1 (by simp)
    (Int.le_refl _) (Int.le_refl _) (Int.le_refl _) (Int.le_refl _) (by simpa using hbr.2) (by simpa using i3.1) (Int.le_refl _)

theorem thrust_mono {s : Ship} (hc : check s = 0) {u v : Int} (hu : 0 ≤ u) (huv : u ≤ v) : thrust s v ≤ thrust s u := by
  have t1 := value_bd (check_curveThrust hc) hu
  have t2 := value_bd (check_curveThrust hc) (x := v) (by omega)
  exact floor_mono (by omega) (by omega) (value_down (check_steadyThrust hc) hu huv)

theorem makes_mono {s : Ship} (hc : check s = 0) {i j : Ice} (hi : goodIce i) (hj : goodIce j) (hij : LeI i j) {u v : Int} (hu : 0 ≤ u) (huv : u ≤ v) {ch : Bool} (h : makes s j ch v = true) : makes s i ch u = true := by
  simp only [makes, Bool.and_eq_true, decide_eq_true_eq] at h ⊢
  have h1 := resistance_mono hc hi hj hij hu huv ch
  have h2 := thrust_mono hc hu huv
  exact ⟨by omega, by omega⟩

theorem makes_channel {s : Ship} (hc : check s = 0) {i : Ice} (hi : goodIce i) {v : Int} (hv : 0 ≤ v) (h : makes s i false v = true) : makes s i true v = true := by
  simp only [makes, Bool.and_eq_true, decide_eq_true_eq] at h ⊢
  have h1 := resistance_channel hc hi hv
  exact ⟨h.1, by omega⟩

theorem load_mono {i j : Ice} (hi : goodIce i) (hj : goodIce j) (hij : LeI i j) {u v : Int} (hu : 0 ≤ u) (huv : u ≤ v) (ch : Bool) : loadI i u ch ≤ loadI j v ch := by
  obtain ⟨i1, i2, i3, i4⟩ := goodIce_bd hi
  obtain ⟨j1, j2, j3, j4⟩ := goodIce_bd hj
  have h1 := Int.mul_le_mul hij.thick (show 100 + u ≤ 100 + v by omega) (by omega) j2.1
  have h2 := Int.mul_nonneg i2.1 (show 0 ≤ 100 + u by omega)
  have a := hij.conc; have b := hij.ridge; have c := hij.press
  unfold loadI
  by_cases e : i.Conc = 0
  · rw [if_pos e]
    by_cases e2 : j.Conc = 0
    · rw [if_pos e2]; exact Int.le_refl _
    · rw [if_neg e2]; cases ch <;> simp only [if_true, if_false, Bool.false_eq_true] <;> omega
  · rw [if_neg e, if_neg (show ¬ j.Conc = 0 by omega)]
    cases ch <;> simp only [if_true, if_false, Bool.false_eq_true] <;> omega

theorem load_channel {i : Ice} (hi : goodIce i) {v : Int} (hv : 0 ≤ v) : loadI i v true ≤ loadI i v false := by
  obtain ⟨i1, i2, i3, i4⟩ := goodIce_bd hi
  have h2 := Int.mul_nonneg i2.1 (show 0 ≤ 100 + v by omega)
  unfold loadI
  by_cases e : i.Conc = 0
  · rw [if_pos e, if_pos e]; exact Int.le_refl _
  · rw [if_neg e, if_neg e]; simp only [if_true, if_false, Bool.false_eq_true]; omega

theorem bears_mono {s : Ship} {i j : Ice} (hi : goodIce i) (hj : goodIce j) (hij : LeI i j) {u v : Int} (hu : 0 ≤ u) (huv : u ≤ v) {ch : Bool} (h : bears s j ch v = true) : bears s i ch u = true := by
  simp only [bears, decide_eq_true_eq] at h ⊢
  have := load_mono hi hj hij hu huv ch
  omega

/-! ### The greatest one -/

theorem great_spec {so : Int → Bool} : ∀ (f : Nat) {lo hi : Int}, (hi - lo).toNat ≤ f → lo ≤ hi → so lo = true → (∀ u v, lo ≤ u → u ≤ v → v ≤ hi → so v = true → so u = true) →
    lo ≤ great so lo hi ∧ great so lo hi ≤ hi ∧ so (great so lo hi) = true ∧ ∀ v, great so lo hi < v → v ≤ hi → so v = false := by
  intro f
  induction f with
  | zero =>
    intro lo hi hf hle h1 hd
    rw [great_done (by omega)]
    exact ⟨Int.le_refl _, hle, h1, fun v h2 h3 => absurd h3 (by omega)⟩
  | succ f ih =>
    intro lo hi hf hle h1 hd
    by_cases h : lo < hi
    · rw [great_step h]
      by_cases hm : so (lo + (hi - lo + 1) / 2) = true
      · rw [if_pos hm]
        obtain ⟨a, b, c, d⟩ := ih (lo := lo + (hi - lo + 1) / 2) (hi := hi) (by omega) (by omega) hm (fun u v h2 h3 h4 h5 => hd u v (by omega) h3 h4 h5)
        exact ⟨by omega, b, c, d⟩
      · rw [if_neg hm]
        obtain ⟨a, b, c, d⟩ := ih (lo := lo) (hi := lo + (hi - lo + 1) / 2 - 1) (by omega) (by omega) h1 (fun u v h2 h3 h4 h5 => hd u v h2 h3 (by omega) h5)
        refine ⟨a, by omega, c, fun v h2 h3 => ?_⟩
        by_cases h4 : v ≤ lo + (hi - lo + 1) / 2 - 1
        · exact d v h2 h4
        · cases hv : so v with
          | false => rfl
          | true => exact absurd (hd (lo + (hi - lo + 1) / 2) v (by omega) (by omega) h3 hv) hm
    · rw [great_done h]
      exact ⟨Int.le_refl _, hle, h1, fun v h2 h3 => absurd h3 (by omega)⟩

/-- What is known of the greatest one for what goes down. -/
theorem great_is {so : Int → Bool} {lo hi : Int} (hle : lo ≤ hi) (h1 : so lo = true) (hd : ∀ u v, lo ≤ u → u ≤ v → v ≤ hi → so v = true → so u = true) :
    lo ≤ great so lo hi ∧ great so lo hi ≤ hi ∧ ∀ v, lo ≤ v → v ≤ hi → (so v = true ↔ v ≤ great so lo hi) := by
  obtain ⟨a, b, c, d⟩ := great_spec _ (Nat.le_refl _) hle h1 hd
  refine ⟨a, b, fun v h2 h3 => ⟨fun h => ?_, fun h => hd v _ h2 h b c⟩⟩
  rcases Int.lt_or_le (great so lo hi) v with h4 | h4
  · rw [d v h4 h3] at h; cases h
  · exact h4

theorem great_le {so so' : Int → Bool} {lo hi : Int} (hle : lo ≤ hi) (h1 : so lo = true) (hd : ∀ u v, lo ≤ u → u ≤ v → v ≤ hi → so v = true → so u = true) (hd' : ∀ u v, lo ≤ u → u ≤ v → v ≤ hi → so' v = true → so' u = true)
    (h : ∀ v, lo ≤ v → v ≤ hi → so v = true → so' v = true) : great so lo hi ≤ great so' lo hi := by
  obtain ⟨a, b, c⟩ := great_is hle h1 hd
  obtain ⟨a', b', c'⟩ := great_is hle (h lo (Int.le_refl _) hle h1) hd'
  exact (c' _ a b).1 (h _ a b ((c _ a b).2 (Int.le_refl _)))

theorem speed_mono {s : Ship} (hc : check s = 0) {i j : Ice} (hi : goodIce i) (hj : goodIce j) (hij : LeI i j) (ch : Bool) : speed s j ch ≤ speed s i ch := by
  have down : ∀ k, goodIce k → ∀ u v, (0 : Int) ≤ u → u ≤ v → v ≤ 250 → makes s k ch v = true → makes s k ch u = true := fun k hk u v h1 h2 _ h => makes_mono hc hk hk .rfl h1 h2 h
  unfold speed greatest
  by_cases h0 : makes s j ch 0 = true
  · have h1 := makes_mono hc hi hj hij (Int.le_refl 0) (Int.le_refl 0) h0
    rw [if_pos h0, if_pos h1]
    exact great_le (by decide) h0 (down j hj) (down i hi) fun v h2 h3 h => makes_mono hc hi hj hij h2 (Int.le_refl v) h
  · rw [if_neg h0]
    by_cases h1 : makes s i ch 0 = true
    · rw [if_pos h1]; exact (great_is (by decide) h1 (down i hi)).1
    · rw [if_neg h1]; exact Int.le_refl _

theorem speed_channel {s : Ship} (hc : check s = 0) {i : Ice} (hi : goodIce i) : speed s i false ≤ speed s i true := by
  have down : ∀ ch, ∀ u v, (0 : Int) ≤ u → u ≤ v → v ≤ 250 → makes s i ch v = true → makes s i ch u = true := fun ch u v h1 h2 _ h => makes_mono hc hi hi .rfl h1 h2 h
  unfold speed greatest
  by_cases h0 : makes s i false 0 = true
  · have h1 := makes_channel hc hi (Int.le_refl 0) h0
    rw [if_pos h0, if_pos h1]
    exact great_le (by decide) h0 (down false) (down true) fun v h2 h3 h => makes_channel hc hi h2 h
  · rw [if_neg h0]
    by_cases h1 : makes s i true 0 = true
    · rw [if_pos h1]; exact (great_is (by decide) h1 (down true)).1
    · rw [if_neg h1]; exact Int.le_refl _
end Go.Proofs.Cv

namespace Go.Proofs.Cv
open Go Go.KX
instance : Inhabited Part := ⟨⟨⟨⟨0,0⟩,⟨0,0⟩,⟨0,0⟩,⟨0,0⟩⟩,false,0⟩⟩
def goesP (s : Ship) (i : Ice) (ch : Bool) (v : Int) : Bool := makes s i ch v && bears s i ch v

theorem goesP_mono {s : Ship} (hc : check s = 0) {i j : Ice} (hi : goodIce i) (hj : goodIce j) (hij : LeI i j) {u v : Int} (hu : 0 ≤ u) (huv : u ≤ v) {ch : Bool} (h : goesP s j ch v = true) : goesP s i ch u = true := by
  simp only [goesP, Bool.and_eq_true] at h ⊢
  exact ⟨makes_mono hc hi hj hij hu huv h.1, bears_mono hi hj hij hu huv h.2⟩

theorem goes_eq (s : Ship) (i : Ice) (ch : Bool) : goes s i ch = if goesP s i ch 10 = true then (great (goesP s i ch) 10 250, true) else (0, false) := rfl

theorem goes_down {s : Ship} (hc : check s = 0) {i : Ice} (hi : goodIce i) (ch : Bool) : ∀ u v, (10 : Int) ≤ u → u ≤ v → v ≤ 250 → goesP s i ch v = true → goesP s i ch u = true :=
  fun u v h1 h2 _ h => goesP_mono hc hi hi .rfl (by omega) h2 h

theorem goes_ok {s : Ship} {i : Ice} {ch : Bool} : (goes s i ch).2 = goesP s i ch 10 := by
  rw [goes_eq]
  cases h : goesP s i ch 10 <;> simp

theorem goes_bd {s : Ship} (hc : check s = 0) {i : Ice} (hi : goodIce i) {ch : Bool} (h : (goes s i ch).2 = true) : 10 ≤ (goes s i ch).1 ∧ (goes s i ch).1 ≤ 250 := by
  rw [goes_ok] at h
  rw [goes_eq, if_pos h]
  have := great_is (by decide) h (goes_down hc hi ch)
  exact ⟨this.1, this.2.1⟩

theorem first_le_last {c : Cell} (h : goodCell c) : LeI (firstI c) (lastI c) := ⟨h.1.2.1, h.2.1.2.1, h.2.2.1.2.1, h.2.2.2.2.1⟩

theorem safe_goes {s : Ship} (hc : check s = 0) {c : Cell} (hg : goodCell c) {ch : Bool} (h : (safe s c ch).2 = 0) :
    (safe s c ch).1 = (goes s (lastI c) ch).1 ∧ (10 ≤ (safe s c ch).1 ∧ (safe s c ch).1 ≤ 250) ∧ (10 ≤ (goes s (firstI c) ch).1 ∧ (goes s (firstI c) ch).1 ≤ 250) := by
  have hl := goodCell_last hg
  have hf := goodCell_first hg
  unfold safe at h ⊢
  by_cases h1 : speed s (lastI c) ch < 10
  · rw [if_pos h1] at h; cases h
  · rw [if_neg h1] at h ⊢
    cases h2 : (goes s (lastI c) ch).2 with
    | false => rw [h2, if_pos rfl] at h; cases h
    | true =>
      rw [if_neg (by simp)]
      refine ⟨rfl, goes_bd hc hl h2, goes_bd hc hf ?_⟩
      rw [goes_ok] at h2 ⊢
      exact goesP_mono hc hf hl (first_le_last hg) (by decide) (Int.le_refl _) h2

def prt (l : List Part) (i : Int) : Part := l.getD i.toNat default
def sp (l : List Span) (i : Int) : Span := l.getD i.toNat ⟨0, 0⟩

theorem drop_getD {α : Type} {l : List α} {k : Nat} (d : α) (h : k < l.length) : l.drop k = l.getD k d :: l.drop (k + 1) := by
  rw [List.drop_eq_getElem_cons h]
  simp [List.getD, h]

theorem drop_prt {l : List Part} {k : Nat} (h : k < l.length) : l.drop k = prt l (k : Int) :: l.drop (k + 1) := by
  simpa [prt] using drop_getD default h
theorem drop_sp {l : List Span} {k : Nat} (h : k < l.length) : l.drop k = sp l (k : Int) :: l.drop (k + 1) := by
  simpa [sp] using drop_getD ⟨0, 0⟩ h

def partErr (p : Part) : Int := if within p.Length 1 10000 = false then 6 else checkCell p.Cell

def partsErr : List Part → Int
  | [] => 0
  | p :: r => if partErr p ≠ 0 then partErr p else partsErr r

def goodPart (p : Part) : Prop := (1 ≤ p.Length ∧ p.Length ≤ 10000) ∧ goodCell p.Cell

theorem partErr_ok {p : Part} : partErr p = 0 ↔ goodPart p := by
  unfold partErr goodPart
  cases h : within p.Length 1 10000 with
  | false => have := within_f h; simp only [if_true]; exact ⟨fun h => (by cases h), fun h => absurd h.1 this⟩
  | true =>
    have := within_t h
    simp only [Bool.true_eq_false, if_false]
    rw [checkCell_ok]
    exact ⟨fun h => ⟨this, h⟩, fun h => h.2⟩

def legFrom (s : Ship) : List Part → Int → List Int → Int → Int → List Int × Span × Int
  | [], _, v, lo, hi => (v, ⟨lo, hi⟩, 0)
  | p :: r, i, v, lo, hi =>
    if (safe s p.Cell p.Channel).2 ≠ 0 then ([], ⟨i, 0⟩, (safe s p.Cell p.Channel).2)
    else legFrom s r (i + 1) (v ++ [(safe s p.Cell p.Channel).1]) (lo + takes p (goes s (firstI p.Cell) p.Channel).1) (hi + takes p (safe s p.Cell p.Channel).1)

def leg (s : Ship) (l : List Part) : List Int × Span × Int :=
  if check s ≠ 0 then ([], ⟨0, 0⟩, check s) else if within (l.length : Int) 1 100 = false then ([], ⟨0, 0⟩, 2) else if partsErr l ≠ 0 then ([], ⟨0, 0⟩, partsErr l) else legFrom s l 0 [] 0 0

theorem takes_bd {p : Part} (hp : 1 ≤ p.Length ∧ p.Length ≤ 10000) {v : Int} (hv : 10 ≤ v ∧ v ≤ 250) : 0 ≤ takes p v ∧ takes p v ≤ 60025 := by
  unfold takes
  constructor
  · exact Int.ediv_nonneg (by omega) (by omega)
  · have : (60 * p.Length + v - 1) / v < 60026 := Int.ediv_lt_of_lt_mul (by omega) (by omega)
    omega

def pressOK (p : Span) : Bool := !(decide (p.Lo < 0) || decide (p.Hi > 3) || decide (p.Lo > p.Hi))

def freeFrom (s : Ship) (c : Cell) : List Span → Int → Int → Span × Int
  | [], _, _ => (⟨0, 0⟩, 4)
  | p :: r, h, lo =>
    if speed s (lastI ⟨c.Conc, c.Thick, c.Ridge, p⟩) false ≥ 10 then (⟨if (decide (lo < 0) && decide (speed s (firstI ⟨c.Conc, c.Thick, c.Ridge, p⟩) false ≥ 10)) = true then h else lo, h⟩, 0)
    else freeFrom s c r (h + 1) (if (decide (lo < 0) && decide (speed s (firstI ⟨c.Conc, c.Thick, c.Ridge, p⟩) false ≥ 10)) = true then h else lo)

def free (s : Ship) (c : Cell) (l : List Span) : Span × Int :=
  if met s c ≠ 0 then (⟨0, 0⟩, met s c) else if (l.length : Int) > 240 then (⟨0, 0⟩, 2) else if l.all pressOK = false then (⟨0, 0⟩, 6) else freeFrom s c l 0 (-1)

theorem all_sp_no {l : List Span} {f : Span → Bool} {k : Nat} (hk : k < l.length) (h : f (sp l (k : Int)) = false) : l.all f = false := by
  cases e : l.all f with
  | false => rfl
  | true =>
    have := List.all_eq_true.1 e l[k] (List.getElem_mem hk)
    rw [show sp l (k : Int) = l[k] by simp [sp, List.getD, hk]] at h
    rw [h] at this; cases this

theorem all_sp {l : List Span} {f : Span → Bool} {k : Nat} (hk : l.length ≤ k) (h : ∀ j < k, f (sp l (j : Int)) = true) : l.all f = true := by
  rw [List.all_eq_true]
  intro x hx
  obtain ⟨j, hj, rfl⟩ := List.getElem_of_mem hx
  have := h j (by omega)
  rwa [show sp l (j : Int) = l[j] by simp [sp, List.getD, hj]] at this

theorem pressOK_good {c : Cell} (hg : goodCell c) {p : Span} (h : pressOK p = true) : goodCell ⟨c.Conc, c.Thick, c.Ridge, p⟩ := by
  simp only [pressOK, Bool.not_eq_true', Bool.or_eq_false_iff, decide_eq_false_iff_not] at h
  exact ⟨hg.1, hg.2.1, hg.2.2.1, by unfold goodSpan; simp only []; omega⟩


def level (lo hi : Int) : Cell := ⟨⟨100, 100⟩, ⟨lo, hi⟩, ⟨0, 0⟩, ⟨0, 0⟩⟩

def exampleShip : Ship := ⟨3, 6000, 800, 9000, [⟨0, 1000⟩, ⟨100, 800⟩, ⟨200, 0⟩], [⟨0, 0⟩, ⟨200, 400⟩], [⟨0, 0⟩, ⟨400, 2000⟩], 0, 20, 10, 100⟩

theorem eqInts_no1 {a b : List Int} (h : (a.length : Int) ≠ b.length) : decide (a = b) = false := by
  rw [decide_eq_false_iff_not]; intro e; subst e; exact h rfl

theorem eqInts_no2 {a b : List Int} {i : Nat} (h : a.getD i 0 ≠ b.getD i 0) : decide (a = b) = false := by
  rw [decide_eq_false_iff_not]; intro e; subst e; exact h rfl

theorem eqInts_yes {a b : List Int} {k : Nat} (hl : (a.length : Int) = b.length) (hk : a.length ≤ k) (h : ∀ j < k, a.getD ((j : Int)).toNat 0 = b.getD ((j : Int)).toNat 0) : decide (a = b) = true := by
  rw [decide_eq_true_eq]
  refine List.ext_getElem (by omega) fun i h1 h2 => ?_
  have := h i (by omega)
  simpa [List.getD, h1, h2] using this

/-- One number drawn: what is drawn, and how many have been drawn then. -/
def draw (l : List Int) (i n : Int) : Int × Int := if i ≥ (l.length : Int) then (0, i) else (l.getD (i + 1 - 1).toNat 0 % n, i + 1)

theorem draw_end {l : List Int} {i n : Int} (h : i ≥ (l.length : Int)) : draw l i n = (0, i) := by rw [draw, if_pos h]
theorem draw_go {l : List Int} {i n : Int} (h : ¬ i ≥ (l.length : Int)) : draw l i n = (l.getD (i + 1 - 1).toNat 0 % n, i + 1) := by rw [draw, if_neg h]

theorem getD_memI {l : List Int} {i : Nat} (h : i < l.length) : l.getD i 0 ∈ l := by
  simp [List.getD, h]

/-- Where the drawing stands after k numbers, and the k-th number drawn below n. -/
def idx (l : List Int) (k : Nat) : Int := ((min k l.length : Nat) : Int)
def dv (l : List Int) (k : Nat) (n : Int) : Int := if k < l.length then l.getD k 0 % n else 0

theorem draw_idx (l : List Int) (k : Nat) (n : Int) : draw l (idx l k) n = (dv l k n, idx l (k + 1)) := by
  unfold idx dv
  by_cases h : k < l.length
  · rw [draw_go (by omega), if_pos h, show (((min k l.length : Nat) : Int) + 1 - 1).toNat = k by omega, show (((min (k + 1) l.length : Nat)) : Int) = ((min k l.length : Nat) : Int) + 1 by omega]
  · rw [draw_end (by omega), if_neg h, show (((min (k + 1) l.length : Nat)) : Int) = ((min k l.length : Nat) : Int) by omega]

theorem idx_bd (l : List Int) (k : Nat) : 0 ≤ idx l k ∧ idx l k ≤ (l.length : Int) := by unfold idx; omega

theorem dv_bd {l : List Int} {k : Nat} {n : Int} (h8 : ∀ x ∈ l, 0 ≤ x ∧ x ≤ 255) (hn : 1 ≤ n) : 0 ≤ dv l k n ∧ dv l k n ≤ n - 1 ∧ dv l k n ≤ 255 := by
  unfold dv
  by_cases h : k < l.length
  · rw [if_pos h]
    have h1 := h8 _ (getD_memI h)
    have h2 := Int.emod_nonneg (l.getD k 0) (b := n) (by omega)
    have h3 := Int.emod_lt_of_pos (l.getD k 0) (b := n) (by omega)
    have h4 : l.getD k 0 % n ≤ l.getD k 0 := by
      by_cases h5 : l.getD k 0 < n
      · rw [Int.emod_eq_of_lt h1.1 h5]; exact Int.le_refl _
      · omega
    omega
  · rw [if_neg h]; omega
def lev (n : Int) : Ice := ⟨100, n, 0, 0⟩

theorem lev_good {n : Int} (h : 0 ≤ n ∧ n ≤ 400) : goodIce (lev n) := by
  simp only [goodIce, lev]; omega

def limitE (s : Ship) (v : Int) (ch : Bool) : Int × Int :=
  if asked s ⟨0, 0, 0, 0⟩ v ≠ 0 then (0, asked s ⟨0, 0, 0, 0⟩ v)
  else if (greatest (fun n => makes s (lev n) ch v) 0 400).2 = false then (0, 4) else ((greatest (fun n => makes s (lev n) ch v) 0 400).1, 0)

def makesE (s : Ship) (i : Ice) (v : Int) (ch : Bool) : Bool × Int := if asked s i v ≠ 0 then (false, asked s i v) else (makes s i ch v, 0)

def safeE (s : Ship) (c : Cell) (ch : Bool) : Int × Int := if met s c ≠ 0 then (0, met s c) else safe s c ch
end Go.Proofs.Cv
