/- Texts FnA, KLW, PXA, PWA, PWB, PWC: own work; each part says what it is. -/
import Derived.Test.YthojfpmmocenkaaBe2
import Derived.KernelRfl
namespace Go.Proofs.Sp
open Go Go.KX Go.RowKit
set_option linter.unusedVariables false
set_option maxRecDepth 100000
theorem all0 {α : Type} {P : α → Prop} : ∀ c ∈ ([] : List α), P c := fun _ h => nomatch h
theorem allC {α : Type} {P : α → Prop} {a : α} {l : List α} (h : P a) (t : ∀ c ∈ l, P c) : ∀ c ∈ a :: l, P c := fun c hc => (List.mem_cons.1 hc).elim (fun e => e ▸ h) (t c)
theorem inl0 : InlOK E [] := fun _ _ h => nomatch h
theorem inlC {k : Nat} {fn : Func} {l : List (Nat × Func)} (h : E.P.funcs[k]? = some fn) (e : Proofs.Enters E.P k) (t : InlOK E l) : InlOK E ((k, fn) :: l) := by
  intro k2 fn2 hf
  simp only [findFn] at hf
  cases hb : Nat.beq k k2 with
  | true => rw [hb, cond_true] at hf; cases hf; rw [← Nat.eq_of_beq_eq_true hb]; exact ⟨h, e⟩
  | false => rw [hb, cond_false] at hf; exact t k2 fn2 hf
theorem mix : Try.prog.follows .mixedOrders = true := by rfl
theorem hf78 : Try.prog.funcs[78]? = some Try.f78 := by kernel_rfl
theorem en78 : Proofs.Enters Try.prog 78 := Proofs.enters_of hf78 (by kernel_rfl) rfl
theorem hf13 : Try.prog.funcs[13]? = some Try.f13 := by kernel_rfl
theorem en13 : Proofs.Enters Try.prog 13 := Proofs.enters_of hf13 (by kernel_rfl) rfl
theorem hf12 : Try.prog.funcs[12]? = some Try.f12 := by kernel_rfl
theorem en12 : Proofs.Enters Try.prog 12 := Proofs.enters_of hf12 (by kernel_rfl) rfl
noncomputable def law11_Made (F : Nat) (a0 : List Int) : Option (Field × (List Span) × (List Int)) :=
  join F (fun (x : (Int) × (Int)) => chk (InR ((1 : Int) + x.fst)) (join F (fun (x_1 : (Int) × (Int)) => chk (InR ((1 : Int) + x_1.fst)) (chk (InR (((1 : Int) + x.fst) * ((1 : Int) + x_1.fst))) (loopC (fun (x_2 : (List (Int)) × ((Int) × ((List (Span)) × ((List (Span)) × (Int))))) => fun x_3 => brk (decide (x_2.snd.fst < ((1 : Int) + x.fst) * ((1 : Int) + x_1.fst))) (join F (fun (x_4 : (Int) × (Int)) => chk (InR ((4 : Int) * x_4.fst)) (chk (InR ((4 : Int) * x_4.fst - (500 : Int))) (join F (fun (x_5 : (Int) × (Int)) => chk (InR ((if (4 : Int) * x_4.fst - (500 : Int) > (0 : Int) then (4 : Int) * x_4.fst - (500 : Int) else (0 : Int)) + x_5.fst)) (chk (List.length x_2.snd.snd.snd.fst + [Span.mk (if (4 : Int) * x_4.fst - (500 : Int) > (0 : Int) then (4 : Int) * x_4.fst - (500 : Int) else (0 : Int)) ((if (4 : Int) * x_4.fst - (500 : Int) > (0 : Int) then (4 : Int) * x_4.fst - (500 : Int) else (0 : Int)) + x_5.fst)].length ≤ (1000000 : Nat)) (chk (InR ((if (4 : Int) * x_4.fst - (500 : Int) > (0 : Int) then (4 : Int) * x_4.fst - (500 : Int) else (0 : Int)) + x_5.fst - if (4 : Int) * x_4.fst - (500 : Int) > (0 : Int) then (4 : Int) * x_4.fst - (500 : Int) else (0 : Int))) (chk (InR (((if (4 : Int) * x_4.fst - (500 : Int) > (0 : Int) then (4 : Int) * x_4.fst - (500 : Int) else (0 : Int)) + x_5.fst - if (4 : Int) * x_4.fst - (500 : Int) > (0 : Int) then (4 : Int) * x_4.fst - (500 : Int) else (0 : Int)) + (1 : Int))) (join F (fun (x_6 : (Int) × (Int)) => chk (InR ((if (4 : Int) * x_4.fst - (500 : Int) > (0 : Int) then (4 : Int) * x_4.fst - (500 : Int) else (0 : Int)) + x_6.fst)) (chk (List.length x_2.fst + [(if (4 : Int) * x_4.fst - (500 : Int) > (0 : Int) then (4 : Int) * x_4.fst - (500 : Int) else (0 : Int)) + x_6.fst].length ≤ (1000000 : Nat)) (join F (fun (x_7 : (Int) × (Int)) => join F (fun (x_8 : (Int) × (Int)) => chk (InR (x_7.fst + x_8.fst)) (chk (List.length x_2.snd.snd.fst + [Span.mk x_7.fst (x_7.fst + x_8.fst)].length ≤ (1000000 : Nat)) (chk (InR (x_2.snd.fst + (1 : Int))) (x_3 ((x_2.fst ++ [(if (4 : Int) * x_4.fst - (500 : Int) > (0 : Int) then (4 : Int) * x_4.fst - (500 : Int) else (0 : Int)) + x_6.fst], x_2.snd.fst + (1 : Int), x_2.snd.snd.fst ++ [Span.mk x_7.fst (x_7.fst + x_8.fst)], x_2.snd.snd.snd.fst ++ [Span.mk (if (4 : Int) * x_4.fst - (500 : Int) > (0 : Int) then (4 : Int) * x_4.fst - (500 : Int) else (0 : Int)) ((if (4 : Int) * x_4.fst - (500 : Int) > (0 : Int) then (4 : Int) * x_4.fst - (500 : Int) else (0 : Int)) + x_5.fst)], x_8.snd)))))) (fun x_8 => brk (decide (x_7.snd ≥ (↑a0.length : Int))) (x_8 (((0 : Int), x_7.snd))) (chk (InR (x_7.snd + (1 : Int))) (chk (InR (x_7.snd + (1 : Int) - (1 : Int))) (chk ((0 : Int) ≤ x_7.snd + (1 : Int) - (1 : Int) ∧ x_7.snd + (1 : Int) - (1 : Int) < (↑a0.length : Int)) (chk (InR (a0.getD (x_7.snd + (1 : Int) - (1 : Int)).toNat (0 : Int))) (chk ((0 : Int) ≤ a0.getD (x_7.snd + (1 : Int) - (1 : Int)).toNat (0 : Int) ∧ a0.getD (x_7.snd + (1 : Int) - (1 : Int)).toNat (0 : Int) ≤ (9223372036854775807 : Int)) (x_8 ((a0.getD (x_7.snd + (1 : Int) - (1 : Int)).toNat (0 : Int) % (40 : Int), x_7.snd + (1 : Int))))))))))) (fun x_7 => brk (decide (x_6.snd ≥ (↑a0.length : Int))) (x_7 (((0 : Int), x_6.snd))) (chk (InR (x_6.snd + (1 : Int))) (chk (InR (x_6.snd + (1 : Int) - (1 : Int))) (chk ((0 : Int) ≤ x_6.snd + (1 : Int) - (1 : Int) ∧ x_6.snd + (1 : Int) - (1 : Int) < (↑a0.length : Int)) (chk (InR (a0.getD (x_6.snd + (1 : Int) - (1 : Int)).toNat (0 : Int))) (chk ((0 : Int) ≤ a0.getD (x_6.snd + (1 : Int) - (1 : Int)).toNat (0 : Int) ∧ a0.getD (x_6.snd + (1 : Int) - (1 : Int)).toNat (0 : Int) ≤ (9223372036854775807 : Int)) (x_7 ((a0.getD (x_6.snd + (1 : Int) - (1 : Int)).toNat (0 : Int) % (100 : Int), x_6.snd + (1 : Int))))))))))))) (fun x_6 => brk (decide (x_5.snd ≥ (↑a0.length : Int))) (x_6 (((0 : Int), x_5.snd))) (chk (InR (x_5.snd + (1 : Int))) (chk (InR (x_5.snd + (1 : Int) - (1 : Int))) (chk ((0 : Int) ≤ x_5.snd + (1 : Int) - (1 : Int) ∧ x_5.snd + (1 : Int) - (1 : Int) < (↑a0.length : Int)) (chk (InR (a0.getD (x_5.snd + (1 : Int) - (1 : Int)).toNat (0 : Int))) (chk (((0 : Int) ≤ a0.getD (x_5.snd + (1 : Int) - (1 : Int)).toNat (0 : Int) ∧ a0.getD (x_5.snd + (1 : Int) - (1 : Int)).toNat (0 : Int) ≤ (9223372036854775807 : Int)) ∧ (0 : Int) < ((if (4 : Int) * x_4.fst - (500 : Int) > (0 : Int) then (4 : Int) * x_4.fst - (500 : Int) else (0 : Int)) + x_5.fst - if (4 : Int) * x_4.fst - (500 : Int) > (0 : Int) then (4 : Int) * x_4.fst - (500 : Int) else (0 : Int)) + (1 : Int)) (x_6 ((a0.getD (x_5.snd + (1 : Int) - (1 : Int)).toNat (0 : Int) % (((if (4 : Int) * x_4.fst - (500 : Int) > (0 : Int) then (4 : Int) * x_4.fst - (500 : Int) else (0 : Int)) + x_5.fst - if (4 : Int) * x_4.fst - (500 : Int) > (0 : Int) then (4 : Int) * x_4.fst - (500 : Int) else (0 : Int)) + (1 : Int)), x_5.snd + (1 : Int))))))))))))))) (fun x_5 => brk (decide (x_4.snd ≥ (↑a0.length : Int))) (x_5 (((0 : Int), x_4.snd))) (chk (InR (x_4.snd + (1 : Int))) (chk (InR (x_4.snd + (1 : Int) - (1 : Int))) (chk ((0 : Int) ≤ x_4.snd + (1 : Int) - (1 : Int) ∧ x_4.snd + (1 : Int) - (1 : Int) < (↑a0.length : Int)) (chk (InR (a0.getD (x_4.snd + (1 : Int) - (1 : Int)).toNat (0 : Int))) (chk ((0 : Int) ≤ a0.getD (x_4.snd + (1 : Int) - (1 : Int)).toNat (0 : Int) ∧ a0.getD (x_4.snd + (1 : Int) - (1 : Int)).toNat (0 : Int) ≤ (9223372036854775807 : Int)) (x_5 ((a0.getD (x_4.snd + (1 : Int) - (1 : Int)).toNat (0 : Int) % (60 : Int), x_4.snd + (1 : Int))))))))))))) (fun x_4 => brk (decide (x_2.snd.snd.snd.snd ≥ (↑a0.length : Int))) (x_4 (((0 : Int), x_2.snd.snd.snd.snd))) (chk (InR (x_2.snd.snd.snd.snd + (1 : Int))) (chk (InR (x_2.snd.snd.snd.snd + (1 : Int) - (1 : Int))) (chk ((0 : Int) ≤ x_2.snd.snd.snd.snd + (1 : Int) - (1 : Int) ∧ x_2.snd.snd.snd.snd + (1 : Int) - (1 : Int) < (↑a0.length : Int)) (chk (InR (a0.getD (x_2.snd.snd.snd.snd + (1 : Int) - (1 : Int)).toNat (0 : Int))) (chk ((0 : Int) ≤ a0.getD (x_2.snd.snd.snd.snd + (1 : Int) - (1 : Int)).toNat (0 : Int) ∧ a0.getD (x_2.snd.snd.snd.snd + (1 : Int) - (1 : Int)).toNat (0 : Int) ≤ (9223372036854775807 : Int)) (x_4 ((a0.getD (x_2.snd.snd.snd.snd + (1 : Int) - (1 : Int)).toNat (0 : Int) % (256 : Int), x_2.snd.snd.snd.snd + (1 : Int))))))))))) (some ((Field.mk ((1 : Int) + x.fst) ((1 : Int) + x_1.fst) (x_2.snd.snd.snd.fst), x_2.snd.snd.fst, x_2.fst)))) (F) (([], (0 : Int), [], [], x_1.snd))))) (fun x_1 => brk (decide (x.snd ≥ (↑a0.length : Int))) (x_1 (((0 : Int), x.snd))) (chk (InR (x.snd + (1 : Int))) (chk (InR (x.snd + (1 : Int) - (1 : Int))) (chk ((0 : Int) ≤ x.snd + (1 : Int) - (1 : Int) ∧ x.snd + (1 : Int) - (1 : Int) < (↑a0.length : Int)) (chk (InR (a0.getD (x.snd + (1 : Int) - (1 : Int)).toNat (0 : Int))) (chk ((0 : Int) ≤ a0.getD (x.snd + (1 : Int) - (1 : Int)).toNat (0 : Int) ∧ a0.getD (x.snd + (1 : Int) - (1 : Int)).toNat (0 : Int) ≤ (9223372036854775807 : Int)) (x_1 ((a0.getD (x.snd + (1 : Int) - (1 : Int)).toNat (0 : Int) % (4 : Int), x.snd + (1 : Int)))))))))))) (fun x => brk (decide ((0 : Int) ≥ (↑a0.length : Int))) (x (((0 : Int), (0 : Int)))) (chk ((0 : Int) ≤ IntKind.i64.wrap (IntKind.i64.wrap ((0 : Int) + (1 : Int)) - (1 : Int)) ∧ IntKind.i64.wrap (IntKind.i64.wrap ((0 : Int) + (1 : Int)) - (1 : Int)) < (↑a0.length : Int)) (chk (InR (a0.getD (IntKind.i64.wrap (IntKind.i64.wrap ((0 : Int) + (1 : Int)) - (1 : Int))).toNat (0 : Int))) (chk ((0 : Int) ≤ a0.getD (IntKind.i64.wrap (IntKind.i64.wrap ((0 : Int) + (1 : Int)) - (1 : Int))).toNat (0 : Int) ∧ a0.getD (IntKind.i64.wrap (IntKind.i64.wrap ((0 : Int) + (1 : Int)) - (1 : Int))).toNat (0 : Int) ≤ (9223372036854775807 : Int)) (x ((a0.getD (IntKind.i64.wrap (IntKind.i64.wrap ((0 : Int) + (1 : Int)) - (1 : Int))).toNat (0 : Int) % (4 : Int), IntKind.i64.wrap ((0 : Int) + (1 : Int)))))))))
noncomputable def s12 (F : Nat) : CS E.G := ⟨12, [.sl 2], [.v 9 true [34], .sl 7 34, .sl 0 3], fun x => law11_Made F x.1⟩
noncomputable def cx12 (F : Nat) : Ctx E := ⟨[], [(13, Try.f13), (78, Try.f78)], F, []⟩
noncomputable def h12 : Hint := (.p (.w ⟨[.i, .i], [], [0, 3, 2], [(0, .i IntKind.i64)], [], [(3, 0, .i IntKind.i64)], [], 4⟩ .n (.w ⟨[.i, .i], [], [0, 3, 2], [(0, .i IntKind.i64)], [], [(3, 0, .i IntKind.i64)], [], 4⟩ .n (.l ⟨[.l 0, .i, .l 7, .l 7, .i], [32, 384, 96, 80], [1, 4, 3, 2, 0], [(128, .h 5 3 0), (400, .i IntKind.i64), (112, .h 6 34 7)], [], [(4, 2, .h 7 34 7), (3, 0, .i IntKind.i64)], [], 8⟩ (.c (.w ⟨[.i, .i], [], [0, 3, 2], [(0, .i IntKind.i64)], [], [(3, 0, .i IntKind.i64)], [], 8⟩ .n (.w ⟨[.i, .i], [], [0, 3, 2], [(0, .i IntKind.i64)], [], [(3, 0, .i IntKind.i64)], [], 9⟩ .n (.w ⟨[.i, .i], [], [0, 3, 2], [(0, .i IntKind.i64)], [], [(3, 0, .i IntKind.i64)], [], 11⟩ .n (.w ⟨[.i, .i], [], [0, 3, 2], [(0, .i IntKind.i64)], [], [(3, 0, .i IntKind.i64)], [], 13⟩ .n (.w ⟨[.i, .i], [], [0, 3, 2], [(0, .i IntKind.i64)], [], [(3, 0, .i IntKind.i64)], [], 14⟩ .n .n))))) .n)))))
theorem e12 (F : Nat) (a0 : List Int) : fnK (E := E) (cx12 F) Try.f12 [] [.sl 2] [.v 9 true [34], .sl 7 34, .sl 0 3] h12 (a0, ()) = law11_Made F a0 := by kernel_rfl
theorem c12 (F : Nat) : CSok E [] (s12 F) := ⟨en12, by
  have h := fn_sound (E := E) (gl := []) (cx := cx12 F) mix all0 (inlC hf13 en13 (inlC hf78 en78 inl0)) rfl (fun _ h => nomatch h) hf12 (ps := [.sl 2]) (rs := [.v 9 true [34], .sl 7 34, .sl 0 3]) (by decide) h12
  rwa [show fnK (E := E) (cx12 F) Try.f12 [] [.sl 2] [.v 9 true [34], .sl 7 34, .sl 0 3] h12 = (fun x : AT E.G.car [.sl 2] => law11_Made F x.1) from funext fun x => e12 F x.1] at h⟩
theorem hf15 : Try.prog.funcs[15]? = some Try.f15 := by kernel_rfl
theorem en15 : Proofs.Enters Try.prog 15 := Proofs.enters_of hf15 (by kernel_rfl) rfl
noncomputable def slices_Clone_api_Span (F : Nat) (a0 : List Span) : Option ((List Span)) :=
  chk ((0 : Nat) + a0.length ≤ (1000000 : Nat)) (some ([] ++ a0))
noncomputable def s15 (F : Nat) : CS E.G := ⟨15, [.sl 7], [.sl 7 34], fun x => slices_Clone_api_Span F x.1⟩
noncomputable def cx15 (F : Nat) : Ctx E := ⟨[], [], F, []⟩
noncomputable def h15 : Hint := .n
theorem e15n (F : Nat) (c : Nat) : fnK (E := E) (cx15 F) Try.f15 [] [.nl] [.sl 7 34] .n (c, ()) = some ([]) := by kernel_rfl
theorem e15s (F : Nat) (a0 : List Span) : fnK (E := E) (cx15 F) Try.f15 [] [.sn 7] [.sl 7 34] h15 (a0, ()) = slices_Clone_api_Span F a0 := by kernel_rfl
theorem c15 (F : Nat) : CSok E [] (s15 F) := ⟨en15, by
  have h0 := fn_sound (E := E) (gl := []) (cx := cx15 F) mix all0 inl0 rfl (fun _ h => nomatch h) hf15 (ps := [.nl]) (rs := [.sl 7 34]) (by decide) .n
  have h1 := fn_sound (E := E) (gl := []) (cx := cx15 F) mix all0 inl0 rfl (fun _ h => nomatch h) hf15 (ps := [.sn 7]) (rs := [.sl 7 34]) (by decide) h15
  rw [show fnK (E := E) (cx15 F) Try.f15 [] [.nl] [.sl 7 34] .n = (fun x : AT E.G.car [.nl] => some ([])) from funext fun x => e15n F x.1] at h0
  rw [show fnK (E := E) (cx15 F) Try.f15 [] [.sn 7] [.sl 7 34] h15 = (fun x : AT E.G.car [.sn 7] => slices_Clone_api_Span F x.1) from funext fun x => e15s F x.1] at h1
  exact contract_nil (E := E) (t := 7) (rs := [.sl 7 34]) (f := slices_Clone_api_Span F) (f0 := fun _ => some ([])) (f1 := slices_Clone_api_Span F) h0 h1 (fun _ _ h => (show slices_Clone_api_Span F [] = some [] by kernel_rfl).symm.trans h) (fun _ _ h => h)⟩
theorem hf80 : Try.prog.funcs[80]? = some Try.f80 := by kernel_rfl
theorem en80 : Proofs.Enters Try.prog 80 := Proofs.enters_of hf80 (by kernel_rfl) rfl
noncomputable def spill_within (F : Nat) (a0 : Int) (a1 : Int) (a2 : Int) : Option (Bool) :=
  some (decide (a0 ≥ a1) && decide (a0 ≤ a2))
noncomputable def s80 (F : Nat) : CS E.G := ⟨80, [.v 0 false, .v 0 false, .v 0 false], [.v 1 false []], fun x => spill_within F x.1 x.2.1 x.2.2.1⟩
noncomputable def cx80 (F : Nat) : Ctx E := ⟨[], [], F, []⟩
noncomputable def h80 : Hint := .n
theorem e80 (F : Nat) (a0 : Int) (a1 : Int) (a2 : Int) : fnK (E := E) (cx80 F) Try.f80 [] [.v 0 false, .v 0 false, .v 0 false] [.v 1 false []] h80 (a0, a1, a2, ()) = spill_within F a0 a1 a2 := by kernel_rfl
theorem c80 (F : Nat) : CSok E [] (s80 F) := ⟨en80, by
  have h := fn_sound (E := E) (gl := []) (cx := cx80 F) mix all0 inl0 rfl (fun _ h => nomatch h) hf80 (ps := [.v 0 false, .v 0 false, .v 0 false]) (rs := [.v 1 false []]) (by decide) h80
  rwa [show fnK (E := E) (cx80 F) Try.f80 [] [.v 0 false, .v 0 false, .v 0 false] [.v 1 false []] h80 = (fun x : AT E.G.car [.v 0 false, .v 0 false, .v 0 false] => spill_within F x.1 x.2.1 x.2.2.1) from funext fun x => e80 F x.1 x.2.1 x.2.2.1] at h⟩
theorem hf133 : Try.prog.funcs[133]? = some Try.f133 := by kernel_rfl
theorem en133 : Proofs.Enters Try.prog 133 := Proofs.enters_of hf133 (by kernel_rfl) rfl
theorem hf91 : Try.prog.funcs[91]? = some Try.f91 := by kernel_rfl
theorem en91 : Proofs.Enters Try.prog 91 := Proofs.enters_of hf91 (by kernel_rfl) rfl
theorem hf87 : Try.prog.funcs[87]? = some Try.f87 := by kernel_rfl
theorem en87 : Proofs.Enters Try.prog 87 := Proofs.enters_of hf87 (by kernel_rfl) rfl
noncomputable def spill_span (F : Nat) (a0 : Span) (a1 : Int) : Option (Bool) :=
  bnd (spill_within F a0.Lo (0 : Int) a1) (fun (x : Bool) => bnd (brk x (spill_within F a0.Hi a0.Lo a1) (some false)) (fun (x_1 : Bool) => some (x && x_1)))
noncomputable def s87 (F : Nat) : CS E.G := ⟨87, [.v 7 true, .v 0 false], [.v 1 false []], fun x => spill_span F x.1 x.2.1⟩
noncomputable def cx87 (F : Nat) : Ctx E := ⟨[s80 F], [], F, []⟩
noncomputable def h87 : Hint := .n
theorem e87 (F : Nat) (a0 : Span) (a1 : Int) : fnK (E := E) (cx87 F) Try.f87 [] [.v 7 true, .v 0 false] [.v 1 false []] h87 (a0, a1, ()) = spill_span F a0 a1 := by kernel_rfl
theorem c87 (F : Nat) : CSok E [] (s87 F) := ⟨en87, by
  have h := fn_sound (E := E) (gl := []) (cx := cx87 F) mix (allC (c80 F) all0) inl0 rfl (fun _ h => nomatch h) hf87 (ps := [.v 7 true, .v 0 false]) (rs := [.v 1 false []]) (by decide) h87
  rwa [show fnK (E := E) (cx87 F) Try.f87 [] [.v 7 true, .v 0 false] [.v 1 false []] h87 = (fun x : AT E.G.car [.v 7 true, .v 0 false] => spill_span F x.1 x.2.1) from funext fun x => e87 F x.1 x.2.1] at h⟩
theorem hf92 : Try.prog.funcs[92]? = some Try.f92 := by kernel_rfl
theorem en92 : Proofs.Enters Try.prog 92 := Proofs.enters_of hf92 (by kernel_rfl) rfl
noncomputable def spill_Check_1 (F : Nat) (a0 : Span) : Option (Bool) :=
  bnd (spill_span F (Span.mk a0.Lo a0.Hi) (1000000 : Int)) (fun (x : Bool) => some (!x))
noncomputable def s92 (F : Nat) : CS E.G := ⟨92, [.v 7 true], [.v 1 false []], fun x => spill_Check_1 F x.1⟩
noncomputable def cx92 (F : Nat) : Ctx E := ⟨[s87 F], [], F, []⟩
noncomputable def h92 : Hint := .n
theorem e92 (F : Nat) (a0 : Span) : fnK (E := E) (cx92 F) Try.f92 [] [.v 7 true] [.v 1 false []] h92 (a0, ()) = spill_Check_1 F a0 := by kernel_rfl
theorem c92 (F : Nat) : CSok E [] (s92 F) := ⟨en92, by
  have h := fn_sound (E := E) (gl := []) (cx := cx92 F) mix (allC (c87 F) all0) inl0 rfl (fun _ h => nomatch h) hf92 (ps := [.v 7 true]) (rs := [.v 1 false []]) (by decide) h92
  rwa [show fnK (E := E) (cx92 F) Try.f92 [] [.v 7 true] [.v 1 false []] h92 = (fun x : AT E.G.car [.v 7 true] => spill_Check_1 F x.1) from funext fun x => e92 F x.1] at h⟩
theorem hf34 : Try.prog.funcs[34]? = some Try.f34 := by kernel_rfl
theorem en34 : Proofs.Enters Try.prog 34 := Proofs.enters_of hf34 (by kernel_rfl) rfl
noncomputable def spill_Check (F : Nat) (a0 : Field) : Option (Int) :=
  bnd (spill_within F a0.W (1 : Int) (8 : Int)) (fun (x : Bool) => bnd (brk (!!x) (spill_within F a0.H (1 : Int) (8 : Int)) (some false)) (fun (x_1 : Bool) => brk (!x || !x_1) (some ((6 : Int))) (chk (InR (a0.W * a0.H)) (brk ((↑a0.Cells.length : Int) != a0.W * a0.H) (some ((1 : Int))) (join F (fun (x_2 : Int) => brk (decide (x_2 ≥ (0 : Int))) (some ((120 : Int))) (some ((0 : Int)))) (fun x_2 => loopC (fun (x_3 : Int) => fun x_4 => brk (decide (x_3 < (↑a0.Cells.length : Int))) (chk ((0 : Int) ≤ x_3 ∧ x_3 < (↑a0.Cells.length : Int)) (bnd (spill_Check_1 F (Span.mk (a0.Cells.getD (Int.toNat x_3) (Span.mk (0 : Int) (0 : Int))).Lo (a0.Cells.getD (Int.toNat x_3) (Span.mk (0 : Int) (0 : Int))).Hi)) (fun (x_5 : Bool) => brk (x_5) (x_2 (x_3)) (chk (InR (x_3 + (1 : Int))) (x_4 (x_3 + (1 : Int))))))) (x_2 ((-1 : Int)))) (F) ((0 : Int))))))))
noncomputable def s34 (F : Nat) : CS E.G := ⟨34, [.v 9 true], [.v 0 false []], fun x => spill_Check F x.1⟩
noncomputable def cx34 (F : Nat) : Ctx E := ⟨[s80 F, s92 F], [(91, Try.f91), (133, Try.f133)], F, []⟩
noncomputable def h34 : Hint := (.c .n (.c .n (.p (.w ⟨[.i], [], [0], [(0, .i IntKind.i64)], [], [], [], 2⟩ (.l ⟨[.i], [0, 16, 112], [0], [(128, .i IntKind.i64)], [], [], [], 2⟩ (.c .n .n)) .n))))
theorem e34 (F : Nat) (a0 : Field) : fnK (E := E) (cx34 F) Try.f34 [] [.v 9 true] [.v 0 false []] h34 (a0, ()) = spill_Check F a0 := by kernel_rfl
theorem c34 (F : Nat) : CSok E [] (s34 F) := ⟨en34, by
  have h := fn_sound (E := E) (gl := []) (cx := cx34 F) mix (allC (c80 F) (allC (c92 F) all0)) (inlC hf91 en91 (inlC hf133 en133 inl0)) rfl (fun _ h => nomatch h) hf34 (ps := [.v 9 true]) (rs := [.v 0 false []]) (by decide) h34
  rwa [show fnK (E := E) (cx34 F) Try.f34 [] [.v 9 true] [.v 0 false []] h34 = (fun x : AT E.G.car [.v 9 true] => spill_Check F x.1) from funext fun x => e34 F x.1] at h⟩
theorem hf129 : Try.prog.funcs[129]? = some Try.f129 := by kernel_rfl
theorem en129 : Proofs.Enters Try.prog 129 := Proofs.enters_of hf129 (by kernel_rfl) rfl
noncomputable def spill_begin_1 (F : Nat) (a0 : Span) : Option (Bool) :=
  bnd (spill_span F (Span.mk a0.Lo a0.Hi) (10000 : Int)) (fun (x : Bool) => some (!x))
noncomputable def s129 (F : Nat) : CS E.G := ⟨129, [.v 7 true], [.v 1 false []], fun x => spill_begin_1 F x.1⟩
noncomputable def cx129 (F : Nat) : Ctx E := ⟨[s87 F], [], F, []⟩
noncomputable def h129 : Hint := .n
theorem e129 (F : Nat) (a0 : Span) : fnK (E := E) (cx129 F) Try.f129 [] [.v 7 true] [.v 1 false []] h129 (a0, ()) = spill_begin_1 F a0 := by kernel_rfl
theorem c129 (F : Nat) : CSok E [] (s129 F) := ⟨en129, by
  have h := fn_sound (E := E) (gl := []) (cx := cx129 F) mix (allC (c87 F) all0) inl0 rfl (fun _ h => nomatch h) hf129 (ps := [.v 7 true]) (rs := [.v 1 false []]) (by decide) h129
  rwa [show fnK (E := E) (cx129 F) Try.f129 [] [.v 7 true] [.v 1 false []] h129 = (fun x : AT E.G.car [.v 7 true] => spill_begin_1 F x.1) from funext fun x => e129 F x.1] at h⟩
theorem hf79 : Try.prog.funcs[79]? = some Try.f79 := by kernel_rfl
theorem en79 : Proofs.Enters Try.prog 79 := Proofs.enters_of hf79 (by kernel_rfl) rfl
theorem hf149 : Try.prog.funcs[149]? = some Try.f149 := by kernel_rfl
theorem en149 : Proofs.Enters Try.prog 149 := Proofs.enters_of hf149 (by kernel_rfl) rfl
theorem hf131 : Try.prog.funcs[131]? = some Try.f131 := by kernel_rfl
theorem en131 : Proofs.Enters Try.prog 131 := Proofs.enters_of hf131 (by kernel_rfl) rfl
theorem hf132 : Try.prog.funcs[132]? = some Try.f132 := by kernel_rfl
theorem en132 : Proofs.Enters Try.prog 132 := Proofs.enters_of hf132 (by kernel_rfl) rfl
noncomputable def spill_off (F : Nat) (a0 : Int) (a1 : Int) : Option (Int) :=
  chk (InR (a0 - a1)) (chk (((0 : Int) ≤ if a0 - a1 > (0 : Int) then a0 - a1 else (0 : Int)) ∧ (if a0 - a1 > (0 : Int) then a0 - a1 else (0 : Int)) ≤ (9223372036854775807 : Int)) (some ((if a0 - a1 > (0 : Int) then a0 - a1 else (0 : Int)) / (2 : Int))))
noncomputable def s132 (F : Nat) : CS E.G := ⟨132, [.v 0 false, .v 0 false], [.v 0 false []], fun x => spill_off F x.1 x.2.1⟩
noncomputable def cx132 (F : Nat) : Ctx E := ⟨[], [], F, []⟩
noncomputable def h132 : Hint := .n
theorem e132 (F : Nat) (a0 : Int) (a1 : Int) : fnK (E := E) (cx132 F) Try.f132 [] [.v 0 false, .v 0 false] [.v 0 false []] h132 (a0, a1, ()) = spill_off F a0 a1 := by kernel_rfl
theorem c132 (F : Nat) : CSok E [] (s132 F) := ⟨en132, by
  have h := fn_sound (E := E) (gl := []) (cx := cx132 F) mix all0 inl0 rfl (fun _ h => nomatch h) hf132 (ps := [.v 0 false, .v 0 false]) (rs := [.v 0 false []]) (by decide) h132
  rwa [show fnK (E := E) (cx132 F) Try.f132 [] [.v 0 false, .v 0 false] [.v 0 false []] h132 = (fun x : AT E.G.car [.v 0 false, .v 0 false] => spill_off F x.1 x.2.1) from funext fun x => e132 F x.1 x.2.1] at h⟩
theorem hf82 : Try.prog.funcs[82]? = some Try.f82 := by kernel_rfl
theorem en82 : Proofs.Enters Try.prog 82 := Proofs.enters_of hf82 (by kernel_rfl) rfl
noncomputable def spill_grid_hour (F : Nat) (a0 : Field) (a1 : List Int) (a2 : List Int) (a3 : List Int) : Option ((List Int)) :=
  chk ((0 : Int) ≤ (↑a1.length : Int) ∧ (↑a1.length : Int) ≤ (↑a1.length : Int) ∧ (↑a1.length : Int) ≤ (100000 : Int)) (loopC (fun (x : (Int) × (List (Int))) => fun x_1 => brk (decide (x.fst < (↑a1.length : Int))) (join F (fun (x_2 : List (Int)) => chk (InR (x.fst + (1 : Int))) (x_1 ((x.fst + (1 : Int), x_2)))) (fun x_2 => chk ((0 : Int) ≤ x.fst ∧ x.fst < (↑a1.length : Int)) (chk (((0 : Int) ≤ x.fst ∧ x.fst ≤ (9223372036854775807 : Int)) ∧ (0 : Int) < a0.W) (chk (((0 : Int) ≤ x.fst ∧ x.fst ≤ (9223372036854775807 : Int)) ∧ (0 : Int) < a0.W) (loopC (fun (x_3 : (Int) × ((Int) × (Int))) => fun x_4 => brk (decide (x_3.snd.fst < (4 : Int))) (join F (fun (x_5 : (Int) × (Int)) => chk (InR (x_3.snd.fst + (1 : Int))) (x_4 ((x_5.fst, x_3.snd.fst + (1 : Int), x_5.snd)))) (fun x_5 => chk ((0 : Int) ≤ x_3.snd.fst ∧ x_3.snd.fst < (↑(4 : Nat) : Int)) (chk (InR (x.fst % a0.W + ([A2ofInt.mk (0 : Int) (-1 : Int), A2ofInt.mk (1 : Int) (0 : Int), A2ofInt.mk (0 : Int) (1 : Int), A2ofInt.mk (-1 : Int) (0 : Int)].getD (Int.toNat x_3.snd.fst) (A2ofInt.mk (0 : Int) (0 : Int))).a0)) (chk (InR (x.fst / a0.W + ([A2ofInt.mk (0 : Int) (-1 : Int), A2ofInt.mk (1 : Int) (0 : Int), A2ofInt.mk (0 : Int) (1 : Int), A2ofInt.mk (-1 : Int) (0 : Int)].getD (Int.toNat x_3.snd.fst) (A2ofInt.mk (0 : Int) (0 : Int))).a1)) (chk (InR (a0.W - (1 : Int))) (bnd (spill_within F (x.fst % a0.W + ([A2ofInt.mk (0 : Int) (-1 : Int), A2ofInt.mk (1 : Int) (0 : Int), A2ofInt.mk (0 : Int) (1 : Int), A2ofInt.mk (-1 : Int) (0 : Int)].getD (Int.toNat x_3.snd.fst) (A2ofInt.mk (0 : Int) (0 : Int))).a0) (0 : Int) (a0.W - (1 : Int))) (fun (x_6 : Bool) => chk (x_6 = true → InR (a0.H - (1 : Int))) (bnd (brk x_6 (spill_within F (x.fst / a0.W + ([A2ofInt.mk (0 : Int) (-1 : Int), A2ofInt.mk (1 : Int) (0 : Int), A2ofInt.mk (0 : Int) (1 : Int), A2ofInt.mk (-1 : Int) (0 : Int)].getD (Int.toNat x_3.snd.fst) (A2ofInt.mk (0 : Int) (0 : Int))).a1) (0 : Int) (a0.H - (1 : Int))) (some false)) (fun (x_7 : Bool) => brk (x_6 && x_7) (chk (InR ((x.fst / a0.W + ([A2ofInt.mk (0 : Int) (-1 : Int), A2ofInt.mk (1 : Int) (0 : Int), A2ofInt.mk (0 : Int) (1 : Int), A2ofInt.mk (-1 : Int) (0 : Int)].getD (Int.toNat x_3.snd.fst) (A2ofInt.mk (0 : Int) (0 : Int))).a1) * a0.W)) (chk (InR ((x.fst / a0.W + ([A2ofInt.mk (0 : Int) (-1 : Int), A2ofInt.mk (1 : Int) (0 : Int), A2ofInt.mk (0 : Int) (1 : Int), A2ofInt.mk (-1 : Int) (0 : Int)].getD (Int.toNat x_3.snd.fst) (A2ofInt.mk (0 : Int) (0 : Int))).a1) * a0.W + (x.fst % a0.W + ([A2ofInt.mk (0 : Int) (-1 : Int), A2ofInt.mk (1 : Int) (0 : Int), A2ofInt.mk (0 : Int) (1 : Int), A2ofInt.mk (-1 : Int) (0 : Int)].getD (Int.toNat x_3.snd.fst) (A2ofInt.mk (0 : Int) (0 : Int))).a0))) (chk (InR (x_3.snd.snd + (1 : Int))) (chk (InR (x_3.fst + (1 : Int))) (x_5 ((x_3.fst + (1 : Int), x_3.snd.snd + (1 : Int)))))))) (x_5 ((x_3.fst, x_3.snd.snd)))))))))))) (brk (x_3.snd.snd == (0 : Int)) (chk ((0 : Int) ≤ x.fst ∧ x.fst < (↑(List.length x.snd) : Int)) (chk (InR (List.getD x.snd (Int.toNat x.fst) (0 : Int) + a1.getD (Int.toNat x.fst) (0 : Int))) (chk ((0 : Int) ≤ x.fst ∧ x.fst < (↑(List.length x.snd) : Int)) (x_2 (List.set x.snd (Int.toNat x.fst) (List.getD x.snd (Int.toNat x.fst) (0 : Int) + a1.getD (Int.toNat x.fst) (0 : Int))))))) (chk ((0 : Int) ≤ x.fst ∧ x.fst < (↑(List.length x.snd) : Int)) (chk ((0 : Int) ≤ x.fst ∧ x.fst < (↑a2.length : Int)) (bnd (spill_off F (a1.getD (Int.toNat x.fst) (0 : Int)) (a2.getD (Int.toNat x.fst) (0 : Int))) (fun (x_5 : Int) => chk (InR (a1.getD (Int.toNat x.fst) (0 : Int) - x_5)) (chk (InR (List.getD x.snd (Int.toNat x.fst) (0 : Int) + (a1.getD (Int.toNat x.fst) (0 : Int) - x_5))) (chk ((0 : Int) ≤ x.fst ∧ x.fst < (↑(List.length x.snd) : Int)) (chk ((0 : Int) ≤ x.fst ∧ x.fst < (↑a3.length : Int)) (bnd (spill_off F (a1.getD (Int.toNat x.fst) (0 : Int)) (a3.getD (Int.toNat x.fst) (0 : Int))) (fun (x_6 : Int) => chk (((0 : Int) ≤ x.fst ∧ x.fst ≤ (9223372036854775807 : Int)) ∧ (0 : Int) < a0.W) (chk (((0 : Int) ≤ x.fst ∧ x.fst ≤ (9223372036854775807 : Int)) ∧ (0 : Int) < a0.W) (loopC (fun (x_7 : (Int) × ((Int) × (List (Int)))) => fun x_8 => brk (decide (x_7.snd.fst < (4 : Int))) (join F (fun (x_9 : (Int) × (List (Int))) => chk (InR (x_7.snd.fst + (1 : Int))) (x_8 ((x_9.fst, x_7.snd.fst + (1 : Int), x_9.snd)))) (fun x_9 => chk ((0 : Int) ≤ x_7.snd.fst ∧ x_7.snd.fst < (↑(4 : Nat) : Int)) (chk (InR (x.fst % a0.W + ([A2ofInt.mk (0 : Int) (-1 : Int), A2ofInt.mk (1 : Int) (0 : Int), A2ofInt.mk (0 : Int) (1 : Int), A2ofInt.mk (-1 : Int) (0 : Int)].getD (Int.toNat x_7.snd.fst) (A2ofInt.mk (0 : Int) (0 : Int))).a0)) (chk (InR (x.fst / a0.W + ([A2ofInt.mk (0 : Int) (-1 : Int), A2ofInt.mk (1 : Int) (0 : Int), A2ofInt.mk (0 : Int) (1 : Int), A2ofInt.mk (-1 : Int) (0 : Int)].getD (Int.toNat x_7.snd.fst) (A2ofInt.mk (0 : Int) (0 : Int))).a1)) (chk (InR (a0.W - (1 : Int))) (bnd (spill_within F (x.fst % a0.W + ([A2ofInt.mk (0 : Int) (-1 : Int), A2ofInt.mk (1 : Int) (0 : Int), A2ofInt.mk (0 : Int) (1 : Int), A2ofInt.mk (-1 : Int) (0 : Int)].getD (Int.toNat x_7.snd.fst) (A2ofInt.mk (0 : Int) (0 : Int))).a0) (0 : Int) (a0.W - (1 : Int))) (fun (x_10 : Bool) => chk (x_10 = true → InR (a0.H - (1 : Int))) (bnd (brk x_10 (spill_within F (x.fst / a0.W + ([A2ofInt.mk (0 : Int) (-1 : Int), A2ofInt.mk (1 : Int) (0 : Int), A2ofInt.mk (0 : Int) (1 : Int), A2ofInt.mk (-1 : Int) (0 : Int)].getD (Int.toNat x_7.snd.fst) (A2ofInt.mk (0 : Int) (0 : Int))).a1) (0 : Int) (a0.H - (1 : Int))) (some false)) (fun (x_11 : Bool) => brk (x_10 && x_11) (chk (InR ((x.fst / a0.W + ([A2ofInt.mk (0 : Int) (-1 : Int), A2ofInt.mk (1 : Int) (0 : Int), A2ofInt.mk (0 : Int) (1 : Int), A2ofInt.mk (-1 : Int) (0 : Int)].getD (Int.toNat x_7.snd.fst) (A2ofInt.mk (0 : Int) (0 : Int))).a1) * a0.W)) (chk (InR ((x.fst / a0.W + ([A2ofInt.mk (0 : Int) (-1 : Int), A2ofInt.mk (1 : Int) (0 : Int), A2ofInt.mk (0 : Int) (1 : Int), A2ofInt.mk (-1 : Int) (0 : Int)].getD (Int.toNat x_7.snd.fst) (A2ofInt.mk (0 : Int) (0 : Int))).a1) * a0.W + (x.fst % a0.W + ([A2ofInt.mk (0 : Int) (-1 : Int), A2ofInt.mk (1 : Int) (0 : Int), A2ofInt.mk (0 : Int) (1 : Int), A2ofInt.mk (-1 : Int) (0 : Int)].getD (Int.toNat x_7.snd.fst) (A2ofInt.mk (0 : Int) (0 : Int))).a0))) (chk ((0 : Int) ≤ (x.fst / a0.W + ([A2ofInt.mk (0 : Int) (-1 : Int), A2ofInt.mk (1 : Int) (0 : Int), A2ofInt.mk (0 : Int) (1 : Int), A2ofInt.mk (-1 : Int) (0 : Int)].getD (Int.toNat x_7.snd.fst) (A2ofInt.mk (0 : Int) (0 : Int))).a1) * a0.W + (x.fst % a0.W + ([A2ofInt.mk (0 : Int) (-1 : Int), A2ofInt.mk (1 : Int) (0 : Int), A2ofInt.mk (0 : Int) (1 : Int), A2ofInt.mk (-1 : Int) (0 : Int)].getD (Int.toNat x_7.snd.fst) (A2ofInt.mk (0 : Int) (0 : Int))).a0) ∧ (x.fst / a0.W + ([A2ofInt.mk (0 : Int) (-1 : Int), A2ofInt.mk (1 : Int) (0 : Int), A2ofInt.mk (0 : Int) (1 : Int), A2ofInt.mk (-1 : Int) (0 : Int)].getD (Int.toNat x_7.snd.fst) (A2ofInt.mk (0 : Int) (0 : Int))).a1) * a0.W + (x.fst % a0.W + ([A2ofInt.mk (0 : Int) (-1 : Int), A2ofInt.mk (1 : Int) (0 : Int), A2ofInt.mk (0 : Int) (1 : Int), A2ofInt.mk (-1 : Int) (0 : Int)].getD (Int.toNat x_7.snd.fst) (A2ofInt.mk (0 : Int) (0 : Int))).a0) < (↑(List.length x_7.snd.snd) : Int)) (chk (InR (x_6 + x_7.fst)) (chk (((0 : Int) ≤ x_6 + x_7.fst ∧ x_6 + x_7.fst ≤ (9223372036854775807 : Int)) ∧ (0 : Int) < x_3.snd.snd) (chk (InR (List.getD x_7.snd.snd ((x.fst / a0.W + ([A2ofInt.mk (0 : Int) (-1 : Int), A2ofInt.mk (1 : Int) (0 : Int), A2ofInt.mk (0 : Int) (1 : Int), A2ofInt.mk (-1 : Int) (0 : Int)].getD (Int.toNat x_7.snd.fst) (A2ofInt.mk (0 : Int) (0 : Int))).a1) * a0.W + (x.fst % a0.W + ([A2ofInt.mk (0 : Int) (-1 : Int), A2ofInt.mk (1 : Int) (0 : Int), A2ofInt.mk (0 : Int) (1 : Int), A2ofInt.mk (-1 : Int) (0 : Int)].getD (Int.toNat x_7.snd.fst) (A2ofInt.mk (0 : Int) (0 : Int))).a0)).toNat (0 : Int) + (x_6 + x_7.fst) / x_3.snd.snd)) (chk ((0 : Int) ≤ (x.fst / a0.W + ([A2ofInt.mk (0 : Int) (-1 : Int), A2ofInt.mk (1 : Int) (0 : Int), A2ofInt.mk (0 : Int) (1 : Int), A2ofInt.mk (-1 : Int) (0 : Int)].getD (Int.toNat x_7.snd.fst) (A2ofInt.mk (0 : Int) (0 : Int))).a1) * a0.W + (x.fst % a0.W + ([A2ofInt.mk (0 : Int) (-1 : Int), A2ofInt.mk (1 : Int) (0 : Int), A2ofInt.mk (0 : Int) (1 : Int), A2ofInt.mk (-1 : Int) (0 : Int)].getD (Int.toNat x_7.snd.fst) (A2ofInt.mk (0 : Int) (0 : Int))).a0) ∧ (x.fst / a0.W + ([A2ofInt.mk (0 : Int) (-1 : Int), A2ofInt.mk (1 : Int) (0 : Int), A2ofInt.mk (0 : Int) (1 : Int), A2ofInt.mk (-1 : Int) (0 : Int)].getD (Int.toNat x_7.snd.fst) (A2ofInt.mk (0 : Int) (0 : Int))).a1) * a0.W + (x.fst % a0.W + ([A2ofInt.mk (0 : Int) (-1 : Int), A2ofInt.mk (1 : Int) (0 : Int), A2ofInt.mk (0 : Int) (1 : Int), A2ofInt.mk (-1 : Int) (0 : Int)].getD (Int.toNat x_7.snd.fst) (A2ofInt.mk (0 : Int) (0 : Int))).a0) < (↑(List.length x_7.snd.snd) : Int)) (chk (InR (x_7.fst + (1 : Int))) (x_9 ((x_7.fst + (1 : Int), List.set x_7.snd.snd ((x.fst / a0.W + ([A2ofInt.mk (0 : Int) (-1 : Int), A2ofInt.mk (1 : Int) (0 : Int), A2ofInt.mk (0 : Int) (1 : Int), A2ofInt.mk (-1 : Int) (0 : Int)].getD (Int.toNat x_7.snd.fst) (A2ofInt.mk (0 : Int) (0 : Int))).a1) * a0.W + (x.fst % a0.W + ([A2ofInt.mk (0 : Int) (-1 : Int), A2ofInt.mk (1 : Int) (0 : Int), A2ofInt.mk (0 : Int) (1 : Int), A2ofInt.mk (-1 : Int) (0 : Int)].getD (Int.toNat x_7.snd.fst) (A2ofInt.mk (0 : Int) (0 : Int))).a0)).toNat (List.getD x_7.snd.snd ((x.fst / a0.W + ([A2ofInt.mk (0 : Int) (-1 : Int), A2ofInt.mk (1 : Int) (0 : Int), A2ofInt.mk (0 : Int) (1 : Int), A2ofInt.mk (-1 : Int) (0 : Int)].getD (Int.toNat x_7.snd.fst) (A2ofInt.mk (0 : Int) (0 : Int))).a1) * a0.W + (x.fst % a0.W + ([A2ofInt.mk (0 : Int) (-1 : Int), A2ofInt.mk (1 : Int) (0 : Int), A2ofInt.mk (0 : Int) (1 : Int), A2ofInt.mk (-1 : Int) (0 : Int)].getD (Int.toNat x_7.snd.fst) (A2ofInt.mk (0 : Int) (0 : Int))).a0)).toNat (0 : Int) + (x_6 + x_7.fst) / x_3.snd.snd)))))))))))) (x_9 ((x_7.fst, x_7.snd.snd)))))))))))) (x_2 (x_7.snd.snd))) (F) (((0 : Int), (0 : Int), List.set x.snd (Int.toNat x.fst) (List.getD x.snd (Int.toNat x.fst) (0 : Int) + (a1.getD (Int.toNat x.fst) (0 : Int) - x_5))))))))))))))))) (F) (((0 : Int), (0 : Int), (0 : Int)))))))) (some (x.snd))) (F) (((0 : Int), List.replicate (↑a1.length : Int).toNat (0 : Int))))
noncomputable def s82 (F : Nat) : CS E.G := ⟨82, [.gp 9, .sl 0, .sl 0, .sl 0], [.sl 0 3], fun x => spill_grid_hour F x.1 x.2.1 x.2.2.1 x.2.2.2.1⟩
noncomputable def cx82 (F : Nat) : Ctx E := ⟨[s80 F, s132 F], [(131, Try.f131), (149, Try.f149)], F, []⟩
noncomputable def h82 : Hint := (.l ⟨[.i, .l 0], [32, 64, 320, 48, 144, 304], [2, 4, 3, 6, 1, 0, 5], [(336, .i IntKind.i64)], [], [], [(5, 3, 0)], 7⟩ (.c (.j ⟨[.l 0], [32, 64, 320, 48, 144, 336, 304], [2, 4, 3, 6, 1, 0, 5], [], [], [], [(5, 3, 0)], 7⟩ (.p (.l ⟨[.i, .i, .i], [0, 16, 32, 224, 48], [0, 1, 3, 7, 5, 9, 2, 4, 8, 6, 10], [(80, .i IntKind.i64), (240, .i IntKind.i64)], [], [(7, 0, .i IntKind.i64)], [], 12⟩ (.c (.j ⟨[.i, .i], [0, 16, 32, 224, 48, 240], [0, 1, 3, 7, 5, 9, 2, 4, 8, 6, 10], [(80, .i IntKind.i64)], [], [(7, 0, .i IntKind.i64)], [], 12⟩ (.c (.p .n) .n) .n) (.c .n (.p (.l ⟨[.i, .i, .l 0], [0, 16, 32, 224, 48], [0, 1, 3, 7, 15, 5, 9, 13, 2, 4, 8, 12, 6, 10, 14], [(80, .i IntKind.i64), (240, .i IntKind.i64)], [], [], [(5, 3, 0)], 17⟩ (.c (.j ⟨[.i, .l 0], [0, 16, 32, 224, 48, 240], [0, 1, 3, 7, 15, 5, 9, 13, 2, 4, 8, 12, 6, 10, 14], [(80, .i IntKind.i64)], [], [], [(5, 3, 0)], 17⟩ (.c (.p .n) .n) .n) .n))))))) .n) .n))
theorem e82 (F : Nat) (a0 : Field) (a1 : List Int) (a2 : List Int) (a3 : List Int) : fnK (E := E) (cx82 F) Try.f82 [] [.gp 9, .sl 0, .sl 0, .sl 0] [.sl 0 3] h82 (a0, a1, a2, a3, ()) = spill_grid_hour F a0 a1 a2 a3 := by kernel_rfl
theorem c82 (F : Nat) : CSok E [] (s82 F) := ⟨en82, by
  have h := fn_sound (E := E) (gl := []) (cx := cx82 F) mix (allC (c80 F) (allC (c132 F) all0)) (inlC hf131 en131 (inlC hf149 en149 inl0)) rfl (fun _ h => nomatch h) hf82 (ps := [.gp 9, .sl 0, .sl 0, .sl 0]) (rs := [.sl 0 3]) (by decide) h82
  rwa [show fnK (E := E) (cx82 F) Try.f82 [] [.gp 9, .sl 0, .sl 0, .sl 0] [.sl 0 3] h82 = (fun x : AT E.G.car [.gp 9, .sl 0, .sl 0, .sl 0] => spill_grid_hour F x.1 x.2.1 x.2.2.1 x.2.2.2.1) from funext fun x => e82 F x.1 x.2.1 x.2.2.1 x.2.2.2.1] at h⟩
theorem hf130 : Try.prog.funcs[130]? = some Try.f130 := by kernel_rfl
theorem en130 : Proofs.Enters Try.prog 130 := Proofs.enters_of hf130 (by kernel_rfl) rfl
noncomputable def spill_ends (F : Nat) (a0 : List Span) : Option ((List Int) × (List Int)) :=
  loopC (fun (x : (List (Int)) × ((Int) × (List (Int)))) => fun x_1 => brk (decide (x.snd.fst < (↑a0.length : Int))) (chk ((0 : Int) ≤ x.snd.fst ∧ x.snd.fst < (↑a0.length : Int)) (chk (List.length x.fst + [(a0.getD (Int.toNat x.snd.fst) (Span.mk (0 : Int) (0 : Int))).Lo].length ≤ (1000000 : Nat)) (chk (List.length x.snd.snd + [(a0.getD (Int.toNat x.snd.fst) (Span.mk (0 : Int) (0 : Int))).Hi].length ≤ (1000000 : Nat)) (chk (InR (x.snd.fst + (1 : Int))) (x_1 ((x.fst ++ [(a0.getD (Int.toNat x.snd.fst) (Span.mk (0 : Int) (0 : Int))).Lo], x.snd.fst + (1 : Int), x.snd.snd ++ [(a0.getD (Int.toNat x.snd.fst) (Span.mk (0 : Int) (0 : Int))).Hi]))))))) (some ((x.fst, x.snd.snd)))) (F) (([], (0 : Int), []))
noncomputable def s130 (F : Nat) : CS E.G := ⟨130, [.sl 7], [.sl 0 3, .sl 0 3], fun x => spill_ends F x.1⟩
noncomputable def cx130 (F : Nat) : Ctx E := ⟨[], [], F, []⟩
noncomputable def h130 : Hint := (.l ⟨[.l 0, .i, .l 0], [96, 112], [0], [(32, .h 1 3 0), (128, .i IntKind.i64), (48, .h 2 3 0)], [], [], [], 3⟩ .n)
theorem e130 (F : Nat) (a0 : List Span) : fnK (E := E) (cx130 F) Try.f130 [] [.sl 7] [.sl 0 3, .sl 0 3] h130 (a0, ()) = spill_ends F a0 := by kernel_rfl
theorem c130 (F : Nat) : CSok E [] (s130 F) := ⟨en130, by
  have h := fn_sound (E := E) (gl := []) (cx := cx130 F) mix all0 inl0 rfl (fun _ h => nomatch h) hf130 (ps := [.sl 7]) (rs := [.sl 0 3, .sl 0 3]) (by decide) h130
  rwa [show fnK (E := E) (cx130 F) Try.f130 [] [.sl 7] [.sl 0 3, .sl 0 3] h130 = (fun x : AT E.G.car [.sl 7] => spill_ends F x.1) from funext fun x => e130 F x.1] at h⟩
theorem hf81 : Try.prog.funcs[81]? = some Try.f81 := by kernel_rfl
theorem en81 : Proofs.Enters Try.prog 81 := Proofs.enters_of hf81 (by kernel_rfl) rfl
noncomputable def spill_grid_spread (F : Nat) (a0 : Field) (a1 : List Span) : Option ((List Span)) :=
  bnd (spill_ends F a0.Cells) (fun (x : (List (Int)) × (List (Int))) => bnd (spill_ends F a1) (fun (x_1 : (List (Int)) × (List (Int))) => bnd (spill_grid_hour F (Field.mk a0.W a0.H (a0.Cells)) x.fst x_1.fst x_1.snd) (fun (x_2 : List (Int)) => bnd (spill_grid_hour F (Field.mk a0.W a0.H (a0.Cells)) x.snd x_1.snd x_1.fst) (fun (x_3 : List (Int)) => loopC (fun (x_4 : (Int) × (List (Span))) => fun x_5 => brk (decide (x_4.fst < (↑(List.length x_2) : Int))) (chk ((0 : Int) ≤ x_4.fst ∧ x_4.fst < (↑(List.length x_2) : Int)) (chk ((0 : Int) ≤ x_4.fst ∧ x_4.fst < (↑(List.length x_3) : Int)) (chk (List.length x_4.snd + [Span.mk (if (1000000 : Int) < List.getD x_2 (Int.toNat x_4.fst) (0 : Int) then (1000000 : Int) else List.getD x_2 (Int.toNat x_4.fst) (0 : Int)) (if (1000000 : Int) < List.getD x_3 (Int.toNat x_4.fst) (0 : Int) then (1000000 : Int) else List.getD x_3 (Int.toNat x_4.fst) (0 : Int))].length ≤ (1000000 : Nat)) (chk (InR (x_4.fst + (1 : Int))) (x_5 ((x_4.fst + (1 : Int), x_4.snd ++ [Span.mk (if (1000000 : Int) < List.getD x_2 (Int.toNat x_4.fst) (0 : Int) then (1000000 : Int) else List.getD x_2 (Int.toNat x_4.fst) (0 : Int)) (if (1000000 : Int) < List.getD x_3 (Int.toNat x_4.fst) (0 : Int) then (1000000 : Int) else List.getD x_3 (Int.toNat x_4.fst) (0 : Int))]))))))) (some (x_4.snd))) (F) (((0 : Int), []))))))
noncomputable def s81 (F : Nat) : CS E.G := ⟨81, [.gp 9, .sl 7], [.sl 7 34], fun x => spill_grid_spread F x.1 x.2.1⟩
noncomputable def cx81 (F : Nat) : Ctx E := ⟨[s82 F, s130 F], [], F, []⟩
noncomputable def h81 : Hint := (.l ⟨[.i, .l 7], [576, 96, 592], [8, 9], [(608, .i IntKind.i64), (144, .h 10 34 7)], [], [], [], 11⟩ .n)
theorem e81 (F : Nat) (a0 : Field) (a1 : List Span) : fnK (E := E) (cx81 F) Try.f81 [] [.gp 9, .sl 7] [.sl 7 34] h81 (a0, a1, ()) = spill_grid_spread F a0 a1 := by kernel_rfl
theorem c81 (F : Nat) : CSok E [] (s81 F) := ⟨en81, by
  have h := fn_sound (E := E) (gl := []) (cx := cx81 F) mix (allC (c82 F) (allC (c130 F) all0)) inl0 rfl (fun _ h => nomatch h) hf81 (ps := [.gp 9, .sl 7]) (rs := [.sl 7 34]) (by decide) h81
  rwa [show fnK (E := E) (cx81 F) Try.f81 [] [.gp 9, .sl 7] [.sl 7 34] h81 = (fun x : AT E.G.car [.gp 9, .sl 7] => spill_grid_spread F x.1 x.2.1) from funext fun x => e81 F x.1 x.2.1] at h⟩
theorem hf16 : Try.prog.funcs[16]? = some Try.f16 := by kernel_rfl
theorem en16 : Proofs.Enters Try.prog 16 := Proofs.enters_of hf16 (by kernel_rfl) rfl
noncomputable def spill_Spread (F : Nat) (a0 : Field) (a1 : List Span) (a2 : Int) : Option (Field × Int) :=
  bnd (spill_Check F (Field.mk a0.W a0.H (a0.Cells))) (fun (x : Int) => brk (x != (0 : Int)) (brk (x != (0 : Int)) (some ((Field.mk (0 : Int) (0 : Int) ([]), x))) (none)) (brk ((↑a1.length : Int) != (↑a0.Cells.length : Int)) (some ((Field.mk (0 : Int) (0 : Int) ([]), (1 : Int)))) (join F (fun (x_1 : Int) => brk (decide (x_1 ≥ (0 : Int))) (some ((Field.mk (0 : Int) (0 : Int) ([]), (120 : Int)))) (bnd (slices_Clone_api_Span F a0.Cells) (fun (x_2 : List (Span)) => bnd (spill_within F a2 (0 : Int) (48 : Int)) (fun (x_3 : Bool) => brk (!x_3) (some ((Field.mk (0 : Int) (0 : Int) ([]), (6 : Int)))) (loopC (fun (x_4 : (Int) × (List (Span))) => fun x_5 => brk (decide (x_4.fst < a2)) (bnd (spill_grid_spread F (Field.mk a0.W a0.H (x_4.snd)) a1) (fun (x_6 : List (Span)) => chk (InR (x_4.fst + (1 : Int))) (x_5 ((x_4.fst + (1 : Int), x_6))))) (some ((Field.mk a0.W a0.H (x_4.snd), (0 : Int))))) (F) (((0 : Int), x_2))))))) (fun x_1 => loopC (fun (x_2 : Int) => fun x_3 => brk (decide (x_2 < (↑a1.length : Int))) (chk ((0 : Int) ≤ x_2 ∧ x_2 < (↑a1.length : Int)) (bnd (spill_begin_1 F (Span.mk (a1.getD (Int.toNat x_2) (Span.mk (0 : Int) (0 : Int))).Lo (a1.getD (Int.toNat x_2) (Span.mk (0 : Int) (0 : Int))).Hi)) (fun (x_4 : Bool) => brk (x_4) (x_1 (x_2)) (chk (InR (x_2 + (1 : Int))) (x_3 (x_2 + (1 : Int))))))) (x_1 ((-1 : Int)))) (F) ((0 : Int))))))
noncomputable def s16 (F : Nat) : CS E.G := ⟨16, [.v 9 true, .sl 7, .v 0 false], [.v 9 true [34], .v 0 false []], fun x => spill_Spread F x.1 x.2.1 x.2.2.1⟩
noncomputable def cx16 (F : Nat) : Ctx E := ⟨[s15 F, s34 F, s129 F, s80 F, s81 F], [(79, Try.f79), (91, Try.f91), (133, Try.f133)], F, []⟩
noncomputable def h16 : Hint := (.p (.c (.c .n (.u 0 .n)) (.c .n (.p (.w ⟨[.i], [], [1], [(0, .i IntKind.i64)], [], [], [], 6⟩ (.l ⟨[.i], [0, 16, 112], [1], [(128, .i IntKind.i64)], [], [], [], 6⟩ (.c .n .n)) (.c .n (.c .n (.l ⟨[.i, .l 7], [16, 128, 96, 416], [1, 7, 3, 4], [(432, .i IntKind.i64)], [], [(4, 2, .h 8 34 7)], [], 9⟩ .n))))))))
theorem e16 (F : Nat) (a0 : Field) (a1 : List Span) (a2 : Int) : fnK (E := E) (cx16 F) Try.f16 [] [.v 9 true, .sl 7, .v 0 false] [.v 9 true [34], .v 0 false []] h16 (a0, a1, a2, ()) = spill_Spread F a0 a1 a2 := by kernel_rfl
theorem c16 (F : Nat) : CSok E [] (s16 F) := ⟨en16, by
  have h := fn_sound (E := E) (gl := []) (cx := cx16 F) mix (allC (c15 F) (allC (c34 F) (allC (c129 F) (allC (c80 F) (allC (c81 F) all0))))) (inlC hf79 en79 (inlC hf91 en91 (inlC hf133 en133 inl0))) rfl (fun _ h => nomatch h) hf16 (ps := [.v 9 true, .sl 7, .v 0 false]) (rs := [.v 9 true [34], .v 0 false []]) (by decide) h16
  rwa [show fnK (E := E) (cx16 F) Try.f16 [] [.v 9 true, .sl 7, .v 0 false] [.v 9 true [34], .v 0 false []] h16 = (fun x : AT E.G.car [.v 9 true, .sl 7, .v 0 false] => spill_Spread F x.1 x.2.1 x.2.2.1) from funext fun x => e16 F x.1 x.2.1 x.2.2.1] at h⟩
theorem hf19 : Try.prog.funcs[19]? = some Try.f19 := by kernel_rfl
theorem en19 : Proofs.Enters Try.prog 19 := Proofs.enters_of hf19 (by kernel_rfl) rfl
noncomputable def spill_Flow (F : Nat) (a0 : Int) (a1 : Int) (a2 : List Int) (a3 : List Int) : Option ((List Int) × Int) :=
  bnd (spill_within F a0 (1 : Int) (8 : Int)) (fun (x : Bool) => bnd (brk (!!x) (spill_within F a1 (1 : Int) (8 : Int)) (some false)) (fun (x_1 : Bool) => brk (!x || !x_1) (some (([], (6 : Int)))) (chk (InR (a0 * a1)) (chk ((!(↑a2.length : Int) != a0 * a1) = true → InR (a0 * a1)) (brk ((↑a2.length : Int) != a0 * a1 || (↑a3.length : Int) != a0 * a1) (some (([], (1 : Int)))) (loopC (fun (x_2 : (Int) × (Int)) => fun x_3 => brk (decide (x_2.snd < (↑a2.length : Int))) (chk ((0 : Int) ≤ x_2.snd ∧ x_2.snd < (↑a2.length : Int)) (bnd (spill_within F (a2.getD (Int.toNat x_2.snd) (0 : Int)) (0 : Int) x_2.fst) (fun (x_4 : Bool) => chk ((!!x_4) = true → (0 : Int) ≤ x_2.snd ∧ x_2.snd < (↑a3.length : Int)) (bnd (brk (!!x_4) (spill_within F (a3.getD (Int.toNat x_2.snd) (0 : Int)) (0 : Int) (10000 : Int)) (some false)) (fun (x_5 : Bool) => brk (!x_4 || !x_5) (some (([], (120 : Int)))) (chk (InR (x_2.fst - a2.getD (Int.toNat x_2.snd) (0 : Int))) (chk (InR (x_2.snd + (1 : Int))) (x_3 ((x_2.fst - a2.getD (Int.toNat x_2.snd) (0 : Int), x_2.snd + (1 : Int))))))))))) (bnd (spill_grid_hour F (Field.mk a0 a1 ([])) a2 a3 a3) (fun (x_4 : List (Int)) => some ((x_4, (0 : Int)))))) (F) (((1000000 : Int), (0 : Int)))))))))
noncomputable def s19 (F : Nat) : CS E.G := ⟨19, [.v 0 false, .v 0 false, .sl 0, .sl 0], [.sl 0 3, .v 0 false []], fun x => spill_Flow F x.1 x.2.1 x.2.2.1 x.2.2.2.1⟩
noncomputable def cx19 (F : Nat) : Ctx E := ⟨[s80 F, s82 F], [], F, []⟩
noncomputable def h19 : Hint := (.c .n (.c .n (.l ⟨[.i, .i], [0, 16, 32, 608, 48, 592], [0, 1], [(160, .i IntKind.i64), (624, .i IntKind.i64)], [], [], [], 2⟩ (.c .n .n))))
theorem e19 (F : Nat) (a0 : Int) (a1 : Int) (a2 : List Int) (a3 : List Int) : fnK (E := E) (cx19 F) Try.f19 [] [.v 0 false, .v 0 false, .sl 0, .sl 0] [.sl 0 3, .v 0 false []] h19 (a0, a1, a2, a3, ()) = spill_Flow F a0 a1 a2 a3 := by kernel_rfl
theorem c19 (F : Nat) : CSok E [] (s19 F) := ⟨en19, by
  have h := fn_sound (E := E) (gl := []) (cx := cx19 F) mix (allC (c80 F) (allC (c82 F) all0)) inl0 rfl (fun _ h => nomatch h) hf19 (ps := [.v 0 false, .v 0 false, .sl 0, .sl 0]) (rs := [.sl 0 3, .v 0 false []]) (by decide) h19
  rwa [show fnK (E := E) (cx19 F) Try.f19 [] [.v 0 false, .v 0 false, .sl 0, .sl 0] [.sl 0 3, .v 0 false []] h19 = (fun x : AT E.G.car [.v 0 false, .v 0 false, .sl 0, .sl 0] => spill_Flow F x.1 x.2.1 x.2.2.1 x.2.2.2.1) from funext fun x => e19 F x.1 x.2.1 x.2.2.1 x.2.2.2.1] at h⟩
theorem hf86 : Try.prog.funcs[86]? = some Try.f86 := by kernel_rfl
theorem en86 : Proofs.Enters Try.prog 86 := Proofs.enters_of hf86 (by kernel_rfl) rfl
noncomputable def spill_grid_total (F : Nat) (a0 : Field) : Option (Span) :=
  loopC (fun (x : (Int) × ((Int) × (Int))) => fun x_1 => brk (decide (x.fst < (↑a0.Cells.length : Int))) (chk ((0 : Int) ≤ x.fst ∧ x.fst < (↑a0.Cells.length : Int)) (chk (InR (x.snd.snd + (a0.Cells.getD (Int.toNat x.fst) (Span.mk (0 : Int) (0 : Int))).Lo)) (chk (InR (x.snd.fst + (a0.Cells.getD (Int.toNat x.fst) (Span.mk (0 : Int) (0 : Int))).Hi)) (chk (InR (x.fst + (1 : Int))) (x_1 ((x.fst + (1 : Int), x.snd.fst + (a0.Cells.getD (Int.toNat x.fst) (Span.mk (0 : Int) (0 : Int))).Hi, x.snd.snd + (a0.Cells.getD (Int.toNat x.fst) (Span.mk (0 : Int) (0 : Int))).Lo))))))) (some (Span.mk x.snd.snd x.snd.fst))) (F) (((0 : Int), (0 : Int), (0 : Int)))
noncomputable def s86 (F : Nat) : CS E.G := ⟨86, [.gp 9], [.v 7 true []], fun x => spill_grid_total F x.1⟩
noncomputable def cx86 (F : Nat) : Ctx E := ⟨[], [], F, []⟩
noncomputable def h86 : Hint := (.l ⟨[.i, .i, .i], [32, 160, 48, 176], [2, 4, 3], [(192, .i IntKind.i64)], [], [(3, 1, .i IntKind.i64), (3, 0, .i IntKind.i64)], [], 5⟩ .n)
theorem e86 (F : Nat) (a0 : Field) : fnK (E := E) (cx86 F) Try.f86 [] [.gp 9] [.v 7 true []] h86 (a0, ()) = spill_grid_total F a0 := by kernel_rfl
theorem c86 (F : Nat) : CSok E [] (s86 F) := ⟨en86, by
  have h := fn_sound (E := E) (gl := []) (cx := cx86 F) mix all0 inl0 rfl (fun _ h => nomatch h) hf86 (ps := [.gp 9]) (rs := [.v 7 true []]) (by decide) h86
  rwa [show fnK (E := E) (cx86 F) Try.f86 [] [.gp 9] [.v 7 true []] h86 = (fun x : AT E.G.car [.gp 9] => spill_grid_total F x.1) from funext fun x => e86 F x.1] at h⟩
theorem hf88 : Try.prog.funcs[88]? = some Try.f88 := by kernel_rfl
theorem en88 : Proofs.Enters Try.prog 88 := Proofs.enters_of hf88 (by kernel_rfl) rfl
noncomputable def spill_meets_cut (F : Nat) (a0 : Span) (a1 : Span) : Option (Span) :=
  some (Span.mk (if a1.Lo > a0.Lo then a1.Lo else a0.Lo) (if a1.Hi < a0.Hi then a1.Hi else a0.Hi))
noncomputable def s88 (F : Nat) : CS E.G := ⟨88, [.v 7 true, .v 7 true], [.v 7 true []], fun x => spill_meets_cut F x.1 x.2.1⟩
noncomputable def cx88 (F : Nat) : Ctx E := ⟨[], [], F, []⟩
noncomputable def h88 : Hint := .n
theorem e88 (F : Nat) (a0 : Span) (a1 : Span) : fnK (E := E) (cx88 F) Try.f88 [] [.v 7 true, .v 7 true] [.v 7 true []] h88 (a0, a1, ()) = spill_meets_cut F a0 a1 := by kernel_rfl
theorem c88 (F : Nat) : CSok E [] (s88 F) := ⟨en88, by
  have h := fn_sound (E := E) (gl := []) (cx := cx88 F) mix all0 inl0 rfl (fun _ h => nomatch h) hf88 (ps := [.v 7 true, .v 7 true]) (rs := [.v 7 true []]) (by decide) h88
  rwa [show fnK (E := E) (cx88 F) Try.f88 [] [.v 7 true, .v 7 true] [.v 7 true []] h88 = (fun x : AT E.G.car [.v 7 true, .v 7 true] => spill_meets_cut F x.1 x.2.1) from funext fun x => e88 F x.1 x.2.1] at h⟩
theorem hf24 : Try.prog.funcs[24]? = some Try.f24 := by kernel_rfl
theorem en24 : Proofs.Enters Try.prog 24 := Proofs.enters_of hf24 (by kernel_rfl) rfl
noncomputable def spill_Tighten (F : Nat) (a0 : Field) (a1 : Span) : Option (Field × Int) :=
  bnd (spill_Check F (Field.mk a0.W a0.H (a0.Cells))) (fun (x : Int) => brk (x != (0 : Int)) (some ((Field.mk (0 : Int) (0 : Int) ([]), x))) (bnd (spill_span F (Span.mk a1.Lo a1.Hi) (1000000 : Int)) (fun (x_1 : Bool) => brk (!x_1) (some ((Field.mk (0 : Int) (0 : Int) ([]), (6 : Int)))) (bnd (spill_grid_total F (Field.mk a0.W a0.H (a0.Cells))) (fun (x_2 : Span) => brk (decide (x_2.Lo > a1.Hi) || decide (x_2.Hi < a1.Lo)) (some ((Field.mk (0 : Int) (0 : Int) ([]), (21 : Int)))) (loopC (fun (x_3 : (Int) × (List (Span))) => fun x_4 => brk (decide (x_3.fst < (↑a0.Cells.length : Int))) (chk ((0 : Int) ≤ x_3.fst ∧ x_3.fst < (↑a0.Cells.length : Int)) (chk (InR (x_2.Hi - (a0.Cells.getD (Int.toNat x_3.fst) (Span.mk (0 : Int) (0 : Int))).Hi)) (chk (InR (a1.Lo - (x_2.Hi - (a0.Cells.getD (Int.toNat x_3.fst) (Span.mk (0 : Int) (0 : Int))).Hi))) (chk (InR (x_2.Lo - (a0.Cells.getD (Int.toNat x_3.fst) (Span.mk (0 : Int) (0 : Int))).Lo)) (chk (InR (a1.Hi - (x_2.Lo - (a0.Cells.getD (Int.toNat x_3.fst) (Span.mk (0 : Int) (0 : Int))).Lo))) (bnd (spill_meets_cut F (Span.mk (a1.Lo - (x_2.Hi - (a0.Cells.getD (Int.toNat x_3.fst) (Span.mk (0 : Int) (0 : Int))).Hi)) (a1.Hi - (x_2.Lo - (a0.Cells.getD (Int.toNat x_3.fst) (Span.mk (0 : Int) (0 : Int))).Lo))) (Span.mk (a0.Cells.getD (Int.toNat x_3.fst) (Span.mk (0 : Int) (0 : Int))).Lo (a0.Cells.getD (Int.toNat x_3.fst) (Span.mk (0 : Int) (0 : Int))).Hi)) (fun (x_5 : Span) => chk (List.length x_3.snd + [Span.mk x_5.Lo x_5.Hi].length ≤ (1000000 : Nat)) (chk (InR (x_3.fst + (1 : Int))) (x_4 ((x_3.fst + (1 : Int), x_3.snd ++ [Span.mk x_5.Lo x_5.Hi]))))))))))) (some ((Field.mk a0.W a0.H (x_3.snd), (0 : Int))))) (F) (((0 : Int), []))))))))
noncomputable def s24 (F : Nat) : CS E.G := ⟨24, [.v 9 true, .v 7 true], [.v 9 true [34], .v 0 false []], fun x => spill_Tighten F x.1 x.2.1⟩
noncomputable def cx24 (F : Nat) : Ctx E := ⟨[s34 F, s86 F, s87 F, s88 F], [], F, []⟩
noncomputable def h24 : Hint := (.c .n (.c .n (.c .n (.l ⟨[.i, .l 7], [64, 128, 704, 48, 112, 688], [3, 5, 2, 4, 0], [(720, .i IntKind.i64)], [], [(5, 2, .h 6 34 7)], [], 7⟩ .n))))
theorem e24 (F : Nat) (a0 : Field) (a1 : Span) : fnK (E := E) (cx24 F) Try.f24 [] [.v 9 true, .v 7 true] [.v 9 true [34], .v 0 false []] h24 (a0, a1, ()) = spill_Tighten F a0 a1 := by kernel_rfl
theorem c24 (F : Nat) : CSok E [] (s24 F) := ⟨en24, by
  have h := fn_sound (E := E) (gl := []) (cx := cx24 F) mix (allC (c34 F) (allC (c86 F) (allC (c87 F) (allC (c88 F) all0)))) inl0 rfl (fun _ h => nomatch h) hf24 (ps := [.v 9 true, .v 7 true]) (rs := [.v 9 true [34], .v 0 false []]) (by decide) h24
  rwa [show fnK (E := E) (cx24 F) Try.f24 [] [.v 9 true, .v 7 true] [.v 9 true [34], .v 0 false []] h24 = (fun x : AT E.G.car [.v 9 true, .v 7 true] => spill_Tighten F x.1 x.2.1) from funext fun x => e24 F x.1 x.2.1] at h⟩
theorem hf137 : Try.prog.funcs[137]? = some Try.f137 := by kernel_rfl
theorem en137 : Proofs.Enters Try.prog 137 := Proofs.enters_of hf137 (by kernel_rfl) rfl
noncomputable def spill_grid_right (F : Nat) (a0 : Field) (a1 : Fleet) : Option (Bool) :=
  chk (InR ((↑a0.Cells.length : Int) - (1 : Int))) (bnd (spill_within F a1.Base (0 : Int) ((↑a0.Cells.length : Int) - (1 : Int))) (fun (x : Bool) => bnd (brk x (spill_within F a1.Range (0 : Int) (100 : Int)) (some false)) (fun (x_1 : Bool) => bnd (brk (x && x_1) (spill_within F a1.Speed (1 : Int) (20 : Int)) (some false)) (fun (x_2 : Bool) => bnd (brk (x && x_1 && x_2) (spill_within F a1.Count (1 : Int) (6 : Int)) (some false)) (fun (x_3 : Bool) => some (x && x_1 && x_2 && x_3))))))
noncomputable def s137 (F : Nat) : CS E.G := ⟨137, [.gp 9, .v 13 true], [.v 1 false []], fun x => spill_grid_right F x.1 x.2.1⟩
noncomputable def cx137 (F : Nat) : Ctx E := ⟨[s80 F], [], F, []⟩
noncomputable def h137 : Hint := .n
theorem e137 (F : Nat) (a0 : Field) (a1 : Fleet) : fnK (E := E) (cx137 F) Try.f137 [] [.gp 9, .v 13 true] [.v 1 false []] h137 (a0, a1, ()) = spill_grid_right F a0 a1 := by kernel_rfl
theorem c137 (F : Nat) : CSok E [] (s137 F) := ⟨en137, by
  have h := fn_sound (E := E) (gl := []) (cx := cx137 F) mix (allC (c80 F) all0) inl0 rfl (fun _ h => nomatch h) hf137 (ps := [.gp 9, .v 13 true]) (rs := [.v 1 false []]) (by decide) h137
  rwa [show fnK (E := E) (cx137 F) Try.f137 [] [.gp 9, .v 13 true] [.v 1 false []] h137 = (fun x : AT E.G.car [.gp 9, .v 13 true] => spill_grid_right F x.1 x.2.1) from funext fun x => e137 F x.1 x.2.1] at h⟩
theorem hf100 : Try.prog.funcs[100]? = some Try.f100 := by kernel_rfl
theorem en100 : Proofs.Enters Try.prog 100 := Proofs.enters_of hf100 (by kernel_rfl) rfl
theorem hf138 : Try.prog.funcs[138]? = some Try.f138 := by kernel_rfl
theorem en138 : Proofs.Enters Try.prog 138 := Proofs.enters_of hf138 (by kernel_rfl) rfl
noncomputable def spill_grid_path (F : Nat) (a0 : Field) (a1 : Fleet) (a2 : List Int) : Option (Bool) :=
  chk ((!(↑a2.length : Int) == (0 : Int)) = true → (0 : Int) ≤ (0 : Int) ∧ (0 : Int) < (↑a2.length : Int)) (chk ((!((↑a2.length : Int) == (0 : Int) || a2.getD (Int.toNat (0 : Int)) (0 : Int) != a1.Base)) = true → InR ((↑a2.length : Int) - (1 : Int))) (chk ((!((↑a2.length : Int) == (0 : Int) || a2.getD (Int.toNat (0 : Int)) (0 : Int) != a1.Base)) = true → (0 : Int) ≤ (↑a2.length : Int) - (1 : Int) ∧ (↑a2.length : Int) - (1 : Int) < (↑a2.length : Int)) (brk ((↑a2.length : Int) == (0 : Int) || a2.getD (Int.toNat (0 : Int)) (0 : Int) != a1.Base || a2.getD ((↑a2.length : Int) - (1 : Int)).toNat (0 : Int) != a1.Base) (some (false)) (loopC (fun (x : Int) => fun x_1 => brk (decide (x < (↑a2.length : Int))) (chk ((0 : Int) ≤ x ∧ x < (↑a2.length : Int)) (chk (InR ((↑a0.Cells.length : Int) - (1 : Int))) (bnd (spill_within F (a2.getD (Int.toNat x) (0 : Int)) (0 : Int) ((↑a0.Cells.length : Int) - (1 : Int))) (fun (x_2 : Bool) => brk (!x_2) (some (false)) (chk (((0 : Int) ≤ a2.getD (Int.toNat x) (0 : Int) ∧ a2.getD (Int.toNat x) (0 : Int) ≤ (9223372036854775807 : Int)) ∧ (0 : Int) < a0.W) (chk (((0 : Int) ≤ a2.getD (Int.toNat x) (0 : Int) ∧ a2.getD (Int.toNat x) (0 : Int) ≤ (9223372036854775807 : Int)) ∧ (0 : Int) < a0.W) (loopC (fun (x_3 : (Int) × ((Int) × (Bool))) => fun x_4 => brk (decide (x_3.snd.fst < (4 : Int))) (join F (fun (x_5 : (Int) × (Bool)) => chk (InR (x_3.snd.fst + (1 : Int))) (x_4 ((x_5.fst, x_3.snd.fst + (1 : Int), x_5.snd)))) (fun x_5 => chk ((0 : Int) ≤ x_3.snd.fst ∧ x_3.snd.fst < (↑(4 : Nat) : Int)) (chk (InR (a2.getD (Int.toNat x) (0 : Int) % a0.W + ([A2ofInt.mk (0 : Int) (-1 : Int), A2ofInt.mk (1 : Int) (0 : Int), A2ofInt.mk (0 : Int) (1 : Int), A2ofInt.mk (-1 : Int) (0 : Int)].getD (Int.toNat x_3.snd.fst) (A2ofInt.mk (0 : Int) (0 : Int))).a0)) (chk (InR (a2.getD (Int.toNat x) (0 : Int) / a0.W + ([A2ofInt.mk (0 : Int) (-1 : Int), A2ofInt.mk (1 : Int) (0 : Int), A2ofInt.mk (0 : Int) (1 : Int), A2ofInt.mk (-1 : Int) (0 : Int)].getD (Int.toNat x_3.snd.fst) (A2ofInt.mk (0 : Int) (0 : Int))).a1)) (chk (InR (a0.W - (1 : Int))) (bnd (spill_within F (a2.getD (Int.toNat x) (0 : Int) % a0.W + ([A2ofInt.mk (0 : Int) (-1 : Int), A2ofInt.mk (1 : Int) (0 : Int), A2ofInt.mk (0 : Int) (1 : Int), A2ofInt.mk (-1 : Int) (0 : Int)].getD (Int.toNat x_3.snd.fst) (A2ofInt.mk (0 : Int) (0 : Int))).a0) (0 : Int) (a0.W - (1 : Int))) (fun (x_6 : Bool) => chk (x_6 = true → InR (a0.H - (1 : Int))) (bnd (brk x_6 (spill_within F (a2.getD (Int.toNat x) (0 : Int) / a0.W + ([A2ofInt.mk (0 : Int) (-1 : Int), A2ofInt.mk (1 : Int) (0 : Int), A2ofInt.mk (0 : Int) (1 : Int), A2ofInt.mk (-1 : Int) (0 : Int)].getD (Int.toNat x_3.snd.fst) (A2ofInt.mk (0 : Int) (0 : Int))).a1) (0 : Int) (a0.H - (1 : Int))) (some false)) (fun (x_7 : Bool) => brk (x_6 && x_7) (chk (InR ((a2.getD (Int.toNat x) (0 : Int) / a0.W + ([A2ofInt.mk (0 : Int) (-1 : Int), A2ofInt.mk (1 : Int) (0 : Int), A2ofInt.mk (0 : Int) (1 : Int), A2ofInt.mk (-1 : Int) (0 : Int)].getD (Int.toNat x_3.snd.fst) (A2ofInt.mk (0 : Int) (0 : Int))).a1) * a0.W)) (chk (InR ((a2.getD (Int.toNat x) (0 : Int) / a0.W + ([A2ofInt.mk (0 : Int) (-1 : Int), A2ofInt.mk (1 : Int) (0 : Int), A2ofInt.mk (0 : Int) (1 : Int), A2ofInt.mk (-1 : Int) (0 : Int)].getD (Int.toNat x_3.snd.fst) (A2ofInt.mk (0 : Int) (0 : Int))).a1) * a0.W + (a2.getD (Int.toNat x) (0 : Int) % a0.W + ([A2ofInt.mk (0 : Int) (-1 : Int), A2ofInt.mk (1 : Int) (0 : Int), A2ofInt.mk (0 : Int) (1 : Int), A2ofInt.mk (-1 : Int) (0 : Int)].getD (Int.toNat x_3.snd.fst) (A2ofInt.mk (0 : Int) (0 : Int))).a0))) (chk ((!x_3.snd.snd) = true → InR (x - (1 : Int))) (chk ((!x_3.snd.snd) = true → (0 : Int) ≤ x - (1 : Int) ∧ x - (1 : Int) < (↑a2.length : Int)) (chk (InR (x_3.fst + (1 : Int))) (x_5 ((x_3.fst + (1 : Int), x_3.snd.snd || (a2.getD (Int.toNat x) (0 : Int) / a0.W + ([A2ofInt.mk (0 : Int) (-1 : Int), A2ofInt.mk (1 : Int) (0 : Int), A2ofInt.mk (0 : Int) (1 : Int), A2ofInt.mk (-1 : Int) (0 : Int)].getD (Int.toNat x_3.snd.fst) (A2ofInt.mk (0 : Int) (0 : Int))).a1) * a0.W + (a2.getD (Int.toNat x) (0 : Int) % a0.W + ([A2ofInt.mk (0 : Int) (-1 : Int), A2ofInt.mk (1 : Int) (0 : Int), A2ofInt.mk (0 : Int) (1 : Int), A2ofInt.mk (-1 : Int) (0 : Int)].getD (Int.toNat x_3.snd.fst) (A2ofInt.mk (0 : Int) (0 : Int))).a0) == a2.getD (x - (1 : Int)).toNat (0 : Int))))))))) (x_5 ((x_3.fst, x_3.snd.snd)))))))))))) (brk (!x_3.snd.snd) (some (false)) (chk (InR (x + (1 : Int))) (x_1 (x + (1 : Int)))))) (F) (((0 : Int), (0 : Int), x == (0 : Int)))))))))) (some (true))) (F) ((0 : Int))))))
noncomputable def s138 (F : Nat) : CS E.G := ⟨138, [.gp 9, .v 13 true, .sl 0], [.v 1 false []], fun x => spill_grid_path F x.1 x.2.1 x.2.2.1⟩
noncomputable def cx138 (F : Nat) : Ctx E := ⟨[s80 F], [(131, Try.f131), (149, Try.f149)], F, []⟩
noncomputable def h138 : Hint := (.c .n (.l ⟨[.i], [544, 48, 80, 560], [1, 2, 4, 0], [(576, .i IntKind.i64)], [], [], [], 5⟩ (.c (.c .n (.p (.l ⟨[.i, .i, .b], [0, 16, 32, 224, 48], [0, 1, 7, 5, 9, 2, 4, 8, 6, 10], [(80, .i IntKind.i64), (240, .i IntKind.i64)], [], [(7, 0, .b)], [], 12⟩ (.c (.j ⟨[.i, .b], [0, 16, 32, 224, 48, 240], [0, 1, 7, 5, 9, 2, 4, 8, 6, 10], [(80, .i IntKind.i64)], [], [(7, 0, .b)], [], 12⟩ (.c (.p .n) .n) .n) .n)))) .n)))
theorem e138 (F : Nat) (a0 : Field) (a1 : Fleet) (a2 : List Int) : fnK (E := E) (cx138 F) Try.f138 [] [.gp 9, .v 13 true, .sl 0] [.v 1 false []] h138 (a0, a1, a2, ()) = spill_grid_path F a0 a1 a2 := by kernel_rfl
theorem c138 (F : Nat) : CSok E [] (s138 F) := ⟨en138, by
  have h := fn_sound (E := E) (gl := []) (cx := cx138 F) mix (allC (c80 F) all0) (inlC hf131 en131 (inlC hf149 en149 inl0)) rfl (fun _ h => nomatch h) hf138 (ps := [.gp 9, .v 13 true, .sl 0]) (rs := [.v 1 false []]) (by decide) h138
  rwa [show fnK (E := E) (cx138 F) Try.f138 [] [.gp 9, .v 13 true, .sl 0] [.v 1 false []] h138 = (fun x : AT E.G.car [.gp 9, .v 13 true, .sl 0] => spill_grid_path F x.1 x.2.1 x.2.2.1) from funext fun x => e138 F x.1 x.2.1 x.2.2.1] at h⟩
theorem hf101 : Try.prog.funcs[101]? = some Try.f101 := by kernel_rfl
theorem en101 : Proofs.Enters Try.prog 101 := Proofs.enters_of hf101 (by kernel_rfl) rfl
noncomputable def spill_grid_job (F : Nat) (a0 : Field) (a1 : Fleet) (a2 : Flight) : Option (Job × Int) :=
  bnd (spill_within F a2.From (0 : Int) (47 : Int)) (fun (x : Bool) => brk (!x) (some ((Job.mk (0 : Int) (0 : Int) (0 : Int), (12 : Int)))) (bnd (spill_grid_path F (Field.mk a0.W a0.H (a0.Cells)) (Fleet.mk a1.Base a1.Range a1.Speed a1.Count) a2.Path) (fun (x_1 : Bool) => brk (!x_1) (some ((Job.mk (0 : Int) (0 : Int) (0 : Int), (120 : Int)))) (chk (InR ((↑a2.Path.length : Int) - (1 : Int))) (brk (decide ((↑a2.Path.length : Int) - (1 : Int) > a1.Range)) (some ((Job.mk (0 : Int) (0 : Int) (0 : Int), (6 : Int)))) (chk (InR ((↑a2.Path.length : Int) + a1.Speed)) (chk (InR ((↑a2.Path.length : Int) + a1.Speed - (2 : Int))) (chk (((0 : Int) ≤ (↑a2.Path.length : Int) + a1.Speed - (2 : Int) ∧ (↑a2.Path.length : Int) + a1.Speed - (2 : Int) ≤ (9223372036854775807 : Int)) ∧ (0 : Int) < a1.Speed) (chk (InR (a2.From + if ((↑a2.Path.length : Int) + a1.Speed - (2 : Int)) / a1.Speed > (1 : Int) then ((↑a2.Path.length : Int) + a1.Speed - (2 : Int)) / a1.Speed else (1 : Int))) (brk (decide ((a2.From + if ((↑a2.Path.length : Int) + a1.Speed - (2 : Int)) / a1.Speed > (1 : Int) then ((↑a2.Path.length : Int) + a1.Speed - (2 : Int)) / a1.Speed else (1 : Int)) > (48 : Int))) (some ((Job.mk (0 : Int) (0 : Int) (0 : Int), (12 : Int)))) (loopC (fun (x_2 : (Int) × ((Int) × (List (Int)))) => fun x_3 => brk (decide (x_2.fst < (↑a2.Path.length : Int))) (join F (fun (x_4 : (Int) × (List (Int))) => chk (InR (x_2.fst + (1 : Int))) (x_3 ((x_2.fst + (1 : Int), x_4.fst, x_4.snd)))) (fun x_4 => chk ((0 : Int) ≤ x_2.fst ∧ x_2.fst < (↑a2.Path.length : Int)) (brk (!hasI x_2.snd.snd (a2.Path.getD (Int.toNat x_2.fst) (0 : Int))) (chk ((0 : Int) ≤ a2.Path.getD (Int.toNat x_2.fst) (0 : Int) ∧ a2.Path.getD (Int.toNat x_2.fst) (0 : Int) < (↑a0.Cells.length : Int)) (chk ((0 : Int) ≤ a2.Path.getD (Int.toNat x_2.fst) (0 : Int) ∧ a2.Path.getD (Int.toNat x_2.fst) (0 : Int) < (↑a0.Cells.length : Int)) (chk (InR ((a0.Cells.getD (Int.toNat (a2.Path.getD (Int.toNat x_2.fst) (0 : Int))) (Span.mk (0 : Int) (0 : Int))).Hi - (a0.Cells.getD (Int.toNat (a2.Path.getD (Int.toNat x_2.fst) (0 : Int))) (Span.mk (0 : Int) (0 : Int))).Lo)) (chk (InR (x_2.snd.fst + ((a0.Cells.getD (Int.toNat (a2.Path.getD (Int.toNat x_2.fst) (0 : Int))) (Span.mk (0 : Int) (0 : Int))).Hi - (a0.Cells.getD (Int.toNat (a2.Path.getD (Int.toNat x_2.fst) (0 : Int))) (Span.mk (0 : Int) (0 : Int))).Lo))) (x_4 ((x_2.snd.fst + ((a0.Cells.getD (Int.toNat (a2.Path.getD (Int.toNat x_2.fst) (0 : Int))) (Span.mk (0 : Int) (0 : Int))).Hi - (a0.Cells.getD (Int.toNat (a2.Path.getD (Int.toNat x_2.fst) (0 : Int))) (Span.mk (0 : Int) (0 : Int))).Lo), insI x_2.snd.snd (a2.Path.getD (Int.toNat x_2.fst) (0 : Int))))))))) (x_4 ((x_2.snd.fst, x_2.snd.snd)))))) (some ((Job.mk a2.From (a2.From + if ((↑a2.Path.length : Int) + a1.Speed - (2 : Int)) / a1.Speed > (1 : Int) then ((↑a2.Path.length : Int) + a1.Speed - (2 : Int)) / a1.Speed else (1 : Int)) x_2.snd.fst, (0 : Int))))) (F) (((0 : Int), (0 : Int), [])))))))))))))
noncomputable def s101 (F : Nat) : CS E.G := ⟨101, [.gp 9, .v 13 true, .v 14 true], [.v 24 true [], .v 0 false []], fun x => spill_grid_job F x.1 x.2.1 x.2.2.1⟩
noncomputable def cx101 (F : Nat) : Ctx E := ⟨[s80 F, s138 F], [], F, []⟩
noncomputable def h101 : Hint := (.c .n (.c .n (.c .n (.c .n (.l ⟨[.i, .i, .m], [128, 96, 928, 48, 144, 944], [6, 5, 1, 2, 7, 0], [(960, .i IntKind.i64)], [], [(6, 2, .i IntKind.i64)], [(7, 0, 1000000)], 8⟩ (.c (.j ⟨[.i, .m], [128, 960, 96, 928, 48, 144, 944], [6, 5, 1, 2, 7, 0], [], [], [(6, 2, .i IntKind.i64)], [(7, 0, 1000000)], 8⟩ .n .n) .n))))))
theorem e101 (F : Nat) (a0 : Field) (a1 : Fleet) (a2 : Flight) : fnK (E := E) (cx101 F) Try.f101 [] [.gp 9, .v 13 true, .v 14 true] [.v 24 true [], .v 0 false []] h101 (a0, a1, a2, ()) = spill_grid_job F a0 a1 a2 := by kernel_rfl
theorem c101 (F : Nat) : CSok E [] (s101 F) := ⟨en101, by
  have h := fn_sound (E := E) (gl := []) (cx := cx101 F) mix (allC (c80 F) (allC (c138 F) all0)) inl0 rfl (fun _ h => nomatch h) hf101 (ps := [.gp 9, .v 13 true, .v 14 true]) (rs := [.v 24 true [], .v 0 false []]) (by decide) h101
  rwa [show fnK (E := E) (cx101 F) Try.f101 [] [.gp 9, .v 13 true, .v 14 true] [.v 24 true [], .v 0 false []] h101 = (fun x : AT E.G.car [.gp 9, .v 13 true, .v 14 true] => spill_grid_job F x.1 x.2.1 x.2.2.1) from funext fun x => e101 F x.1 x.2.1 x.2.2.1] at h⟩
theorem hf104 : Try.prog.funcs[104]? = some Try.f104 := by kernel_rfl
theorem en104 : Proofs.Enters Try.prog 104 := Proofs.enters_of hf104 (by kernel_rfl) rfl
noncomputable def spill_jobs (F : Nat) (a0 : Field) (a1 : Fleet) (a2 : List Flight) : Option ((List Job) × Int) :=
  bnd (spill_Check F (Field.mk a0.W a0.H (a0.Cells))) (fun (x : Int) => brk (x != (0 : Int)) (join F (fun (x_1 : Int) => brk (x_1 != (0 : Int)) (some (([], x_1))) (loopC (fun (x_2 : PUnit) => fun x_3 => brk (decide ((0 : Int) < (↑a2.length : Int))) (chk ((0 : Int) ≤ (0 : Int) ∧ (0 : Int) < (↑a2.length : Int)) (none)) (some (([], (0 : Int))))) (F) (()))) (fun x_1 => brk (x == (0 : Int) && decide ((↑a2.length : Int) > (12 : Int))) (x_1 ((2 : Int))) (x_1 (x)))) (bnd (spill_grid_right F (Field.mk a0.W a0.H (a0.Cells)) (Fleet.mk a1.Base a1.Range a1.Speed a1.Count)) (fun (x_1 : Bool) => brk (!x_1) (some (([], (120 : Int)))) (join F (fun (x_2 : Int) => brk (x_2 != (0 : Int)) (some (([], x_2))) (loopC (fun (x_3 : (List (Job)) × (Int)) => fun x_4 => brk (decide (x_3.snd < (↑a2.length : Int))) (chk ((0 : Int) ≤ x_3.snd ∧ x_3.snd < (↑a2.length : Int)) (bnd (spill_grid_job F (Field.mk a0.W a0.H (a0.Cells)) (Fleet.mk a1.Base a1.Range a1.Speed a1.Count) (Flight.mk (a2.getD (Int.toNat x_3.snd) (Flight.mk (0 : Int) [])).From ((a2.getD (Int.toNat x_3.snd) (Flight.mk (0 : Int) [])).Path))) (fun (x_5 : (Job) × (Int)) => brk (x_5.snd != (0 : Int)) (some (([], x_5.snd))) (chk (List.length x_3.fst + [Job.mk x_5.fst.f_from x_5.fst.f_to x_5.fst.f_worth].length ≤ (1000000 : Nat)) (chk (InR (x_3.snd + (1 : Int))) (x_4 ((x_3.fst ++ [Job.mk x_5.fst.f_from x_5.fst.f_to x_5.fst.f_worth], x_3.snd + (1 : Int))))))))) (some ((x_3.fst, (0 : Int))))) (F) (([], (0 : Int))))) (fun x_2 => brk (decide ((↑a2.length : Int) > (12 : Int))) (x_2 ((2 : Int))) (x_2 ((0 : Int))))))))
noncomputable def s104 (F : Nat) : CS E.G := ⟨104, [.v 9 true, .v 13 true, .sl 14], [.sl 24 161, .v 0 false []], fun x => spill_jobs F x.1 x.2.1 x.2.2.1⟩
noncomputable def cx104 (F : Nat) : Ctx E := ⟨[s34 F, s137 F, s101 F], [(100, Try.f100)], F, []⟩
noncomputable def h104 : Hint := (.p (.c (.k (.j ⟨[.i], [32, 64, 128], [1, 3, 7], [(144, .i IntKind.i64)], [], [], [], 8⟩ .n (.c .n (.l ⟨[], [64, 128, 512, 160, 528, 496], [3, 7, 1], [], [], [], [], 8⟩ .n)))) (.c .n (.k (.j ⟨[.i], [32, 64, 128], [1, 3, 8, 4, 0], [(144, .i IntKind.i64)], [], [], [], 9⟩ .n (.c .n (.l ⟨[.l 24, .i], [64, 128, 512, 496], [3, 8, 1, 4, 0], [(160, .h 9 161 24), (528, .i IntKind.i64)], [], [], [], 10⟩ (.c .n .n))))))))
theorem e104 (F : Nat) (a0 : Field) (a1 : Fleet) (a2 : List Flight) : fnK (E := E) (cx104 F) Try.f104 [] [.v 9 true, .v 13 true, .sl 14] [.sl 24 161, .v 0 false []] h104 (a0, a1, a2, ()) = spill_jobs F a0 a1 a2 := by kernel_rfl
theorem c104 (F : Nat) : CSok E [] (s104 F) := ⟨en104, by
  have h := fn_sound (E := E) (gl := []) (cx := cx104 F) mix (allC (c34 F) (allC (c137 F) (allC (c101 F) all0))) (inlC hf100 en100 inl0) rfl (fun _ h => nomatch h) hf104 (ps := [.v 9 true, .v 13 true, .sl 14]) (rs := [.sl 24 161, .v 0 false []]) (by decide) h104
  rwa [show fnK (E := E) (cx104 F) Try.f104 [] [.v 9 true, .v 13 true, .sl 14] [.sl 24 161, .v 0 false []] h104 = (fun x : AT E.G.car [.v 9 true, .v 13 true, .sl 14] => spill_jobs F x.1 x.2.1 x.2.2.1) from funext fun x => e104 F x.1 x.2.1 x.2.2.1] at h⟩
theorem hf140 : Try.prog.funcs[140]? = some Try.f140 := by kernel_rfl
theorem en140 : Proofs.Enters Try.prog 140 := Proofs.enters_of hf140 (by kernel_rfl) rfl
theorem hf107 : Try.prog.funcs[107]? = some Try.f107 := by kernel_rfl
theorem en107 : Proofs.Enters Try.prog 107 := Proofs.enters_of hf107 (by kernel_rfl) rfl
noncomputable def spill_costs (F : Nat) (a0 : List Job) (a1 : List Bool) (a2 : List Int) : Option ((List Int) × (List Int)) :=
  chk ((0 : Int) ≤ (49 : Int) ∧ (49 : Int) ≤ (49 : Int) ∧ (49 : Int) ≤ (100000 : Int)) (chk ((0 : Int) ≤ (49 : Int) ∧ (49 : Int) ≤ (49 : Int) ∧ (49 : Int) ≤ (100000 : Int)) (loopC (fun (x : (Int) × (List (Int))) => fun x_1 => brk (decide (x.fst < (↑(List.replicate (Int.toNat (49 : Int)) (0 : Int)).length : Int))) (chk ((0 : Int) ≤ x.fst ∧ x.fst < (↑(List.length x.snd) : Int)) (chk (InR (x.fst + (1 : Int))) (x_1 ((x.fst + (1 : Int), List.set x.snd (Int.toNat x.fst) (-1 : Int)))))) (loopC (fun (x_2 : (List (Int)) × (List (Int))) => fun x_3 => loopC (fun (x_4 : (Bool) × ((Int) × ((List (Int)) × (List (Int))))) => fun x_5 => brk (decide (x_4.snd.fst < (48 : Int))) (join F (fun (x_6 : (Bool) × ((List (Int)) × (List (Int)))) => chk (InR (x_4.snd.fst + (1 : Int))) (x_5 ((x_6.fst, x_4.snd.fst + (1 : Int), x_6.snd.fst, x_6.snd.snd)))) (fun x_6 => chk (InR (x_4.snd.fst + (1 : Int))) (chk ((0 : Int) ≤ x_4.snd.fst ∧ x_4.snd.fst < (↑(List.length x_4.snd.snd.fst) : Int)) (join F (fun (x_7 : (Bool) × ((List (Int)) × (List (Int)))) => chk ((0 : Int) ≤ x_4.snd.fst ∧ x_4.snd.fst < (↑a2.length : Int)) (brk (decide (a2.getD (Int.toNat x_4.snd.fst) (0 : Int) > (0 : Int))) (chk (InR (x_4.snd.fst + (1 : Int))) (chk ((0 : Int) ≤ x_4.snd.fst + (1 : Int) ∧ x_4.snd.fst + (1 : Int) < (↑(List.length x_7.snd.fst) : Int)) (join F (fun (x_8 : (Bool) × ((List (Int)) × (List (Int)))) => x_6 ((x_8.fst || (x_7.fst || x_4.fst), x_8.snd.fst, x_8.snd.snd))) (fun x_8 => chk ((0 : Int) ≤ x_4.snd.fst ∧ x_4.snd.fst < (↑(List.length x_7.snd.fst) : Int)) (brk (decide (List.getD x_7.snd.fst (x_4.snd.fst + (1 : Int)).toNat (0 : Int) ≥ List.getD x_7.snd.fst (Int.toNat x_4.snd.fst) (0 : Int))) (x_8 ((false, x_7.snd.fst, x_7.snd.snd))) (chk ((0 : Int) ≤ x_4.snd.fst ∧ x_4.snd.fst < (↑(List.length x_7.snd.fst) : Int)) (chk ((0 : Int) ≤ x_4.snd.fst ∧ x_4.snd.fst < (↑(List.length x_7.snd.snd) : Int)) (x_8 ((true, List.set x_7.snd.fst (Int.toNat x_4.snd.fst) (List.getD x_7.snd.fst (x_4.snd.fst + (1 : Int)).toNat (0 : Int)), List.set x_7.snd.snd (Int.toNat x_4.snd.fst) (-2 : Int))))))))))) (x_6 ((x_7.fst || x_4.fst, x_7.snd.fst, x_7.snd.snd))))) (fun x_7 => chk ((0 : Int) ≤ x_4.snd.fst + (1 : Int) ∧ x_4.snd.fst + (1 : Int) < (↑(List.length x_4.snd.snd.fst) : Int)) (brk (decide (List.getD x_4.snd.snd.fst (Int.toNat x_4.snd.fst) (0 : Int) ≥ List.getD x_4.snd.snd.fst (x_4.snd.fst + (1 : Int)).toNat (0 : Int))) (x_7 ((false, x_4.snd.snd.fst, x_4.snd.snd.snd))) (chk ((0 : Int) ≤ x_4.snd.fst + (1 : Int) ∧ x_4.snd.fst + (1 : Int) < (↑(List.length x_4.snd.snd.fst) : Int)) (chk ((0 : Int) ≤ x_4.snd.fst + (1 : Int) ∧ x_4.snd.fst + (1 : Int) < (↑(List.length x_4.snd.snd.snd) : Int)) (x_7 ((true, List.set x_4.snd.snd.fst (x_4.snd.fst + (1 : Int)).toNat (List.getD x_4.snd.snd.fst (Int.toNat x_4.snd.fst) (0 : Int)), List.set x_4.snd.snd.snd (x_4.snd.fst + (1 : Int)).toNat (-1 : Int)))))))))))) (loopC (fun (x_6 : (Bool) × ((Int) × ((List (Int)) × (List (Int))))) => fun x_7 => brk (decide (x_6.snd.fst < (↑a0.length : Int))) (join F (fun (x_8 : (Bool) × ((List (Int)) × (List (Int)))) => chk (InR (x_6.snd.fst + (1 : Int))) (x_7 ((x_8.fst, x_6.snd.fst + (1 : Int), x_8.snd.fst, x_8.snd.snd)))) (fun x_8 => chk ((0 : Int) ≤ x_6.snd.fst ∧ x_6.snd.fst < (↑a0.length : Int)) (chk ((0 : Int) ≤ x_6.snd.fst ∧ x_6.snd.fst < (↑a1.length : Int)) (brk (a1.getD (Int.toNat x_6.snd.fst) false) (chk ((0 : Int) ≤ (a0.getD (Int.toNat x_6.snd.fst) (Job.mk (0 : Int) (0 : Int) (0 : Int))).f_to ∧ (a0.getD (Int.toNat x_6.snd.fst) (Job.mk (0 : Int) (0 : Int) (0 : Int))).f_to < (↑(List.length x_6.snd.snd.fst) : Int)) (chk (InR (List.getD x_6.snd.snd.fst (a0.getD (Int.toNat x_6.snd.fst) (Job.mk (0 : Int) (0 : Int) (0 : Int))).f_to.toNat (0 : Int) + (a0.getD (Int.toNat x_6.snd.fst) (Job.mk (0 : Int) (0 : Int) (0 : Int))).f_worth)) (join F (fun (x_9 : (Bool) × ((List (Int)) × (List (Int)))) => x_8 ((x_9.fst || x_6.fst, x_9.snd.fst, x_9.snd.snd))) (fun x_9 => chk ((0 : Int) ≤ (a0.getD (Int.toNat x_6.snd.fst) (Job.mk (0 : Int) (0 : Int) (0 : Int))).f_from ∧ (a0.getD (Int.toNat x_6.snd.fst) (Job.mk (0 : Int) (0 : Int) (0 : Int))).f_from < (↑(List.length x_6.snd.snd.fst) : Int)) (brk (decide (List.getD x_6.snd.snd.fst (a0.getD (Int.toNat x_6.snd.fst) (Job.mk (0 : Int) (0 : Int) (0 : Int))).f_to.toNat (0 : Int) + (a0.getD (Int.toNat x_6.snd.fst) (Job.mk (0 : Int) (0 : Int) (0 : Int))).f_worth ≥ List.getD x_6.snd.snd.fst (a0.getD (Int.toNat x_6.snd.fst) (Job.mk (0 : Int) (0 : Int) (0 : Int))).f_from.toNat (0 : Int))) (x_9 ((false, x_6.snd.snd.fst, x_6.snd.snd.snd))) (chk ((0 : Int) ≤ (a0.getD (Int.toNat x_6.snd.fst) (Job.mk (0 : Int) (0 : Int) (0 : Int))).f_from ∧ (a0.getD (Int.toNat x_6.snd.fst) (Job.mk (0 : Int) (0 : Int) (0 : Int))).f_from < (↑(List.length x_6.snd.snd.fst) : Int)) (chk ((0 : Int) ≤ (a0.getD (Int.toNat x_6.snd.fst) (Job.mk (0 : Int) (0 : Int) (0 : Int))).f_from ∧ (a0.getD (Int.toNat x_6.snd.fst) (Job.mk (0 : Int) (0 : Int) (0 : Int))).f_from < (↑(List.length x_6.snd.snd.snd) : Int)) (x_9 ((true, List.set x_6.snd.snd.fst (a0.getD (Int.toNat x_6.snd.fst) (Job.mk (0 : Int) (0 : Int) (0 : Int))).f_from.toNat (List.getD x_6.snd.snd.fst (a0.getD (Int.toNat x_6.snd.fst) (Job.mk (0 : Int) (0 : Int) (0 : Int))).f_to.toNat (0 : Int) + (a0.getD (Int.toNat x_6.snd.fst) (Job.mk (0 : Int) (0 : Int) (0 : Int))).f_worth), List.set x_6.snd.snd.snd (a0.getD (Int.toNat x_6.snd.fst) (Job.mk (0 : Int) (0 : Int) (0 : Int))).f_from.toNat x_6.snd.fst)))))))))) (chk ((0 : Int) ≤ (a0.getD (Int.toNat x_6.snd.fst) (Job.mk (0 : Int) (0 : Int) (0 : Int))).f_from ∧ (a0.getD (Int.toNat x_6.snd.fst) (Job.mk (0 : Int) (0 : Int) (0 : Int))).f_from < (↑(List.length x_6.snd.snd.fst) : Int)) (chk (InR (List.getD x_6.snd.snd.fst (a0.getD (Int.toNat x_6.snd.fst) (Job.mk (0 : Int) (0 : Int) (0 : Int))).f_from.toNat (0 : Int) - (a0.getD (Int.toNat x_6.snd.fst) (Job.mk (0 : Int) (0 : Int) (0 : Int))).f_worth)) (join F (fun (x_9 : (Bool) × ((List (Int)) × (List (Int)))) => x_8 ((x_9.fst || x_6.fst, x_9.snd.fst, x_9.snd.snd))) (fun x_9 => chk ((0 : Int) ≤ (a0.getD (Int.toNat x_6.snd.fst) (Job.mk (0 : Int) (0 : Int) (0 : Int))).f_to ∧ (a0.getD (Int.toNat x_6.snd.fst) (Job.mk (0 : Int) (0 : Int) (0 : Int))).f_to < (↑(List.length x_6.snd.snd.fst) : Int)) (brk (decide (List.getD x_6.snd.snd.fst (a0.getD (Int.toNat x_6.snd.fst) (Job.mk (0 : Int) (0 : Int) (0 : Int))).f_from.toNat (0 : Int) - (a0.getD (Int.toNat x_6.snd.fst) (Job.mk (0 : Int) (0 : Int) (0 : Int))).f_worth ≥ List.getD x_6.snd.snd.fst (a0.getD (Int.toNat x_6.snd.fst) (Job.mk (0 : Int) (0 : Int) (0 : Int))).f_to.toNat (0 : Int))) (x_9 ((false, x_6.snd.snd.fst, x_6.snd.snd.snd))) (chk ((0 : Int) ≤ (a0.getD (Int.toNat x_6.snd.fst) (Job.mk (0 : Int) (0 : Int) (0 : Int))).f_to ∧ (a0.getD (Int.toNat x_6.snd.fst) (Job.mk (0 : Int) (0 : Int) (0 : Int))).f_to < (↑(List.length x_6.snd.snd.fst) : Int)) (chk ((0 : Int) ≤ (a0.getD (Int.toNat x_6.snd.fst) (Job.mk (0 : Int) (0 : Int) (0 : Int))).f_to ∧ (a0.getD (Int.toNat x_6.snd.fst) (Job.mk (0 : Int) (0 : Int) (0 : Int))).f_to < (↑(List.length x_6.snd.snd.snd) : Int)) (x_9 ((true, List.set x_6.snd.snd.fst (a0.getD (Int.toNat x_6.snd.fst) (Job.mk (0 : Int) (0 : Int) (0 : Int))).f_to.toNat (List.getD x_6.snd.snd.fst (a0.getD (Int.toNat x_6.snd.fst) (Job.mk (0 : Int) (0 : Int) (0 : Int))).f_from.toNat (0 : Int) - (a0.getD (Int.toNat x_6.snd.fst) (Job.mk (0 : Int) (0 : Int) (0 : Int))).f_worth), List.set x_6.snd.snd.snd (a0.getD (Int.toNat x_6.snd.fst) (Job.mk (0 : Int) (0 : Int) (0 : Int))).f_to.toNat x_6.snd.fst)))))))))))))) (brk (!x_6.fst) (some ((x_6.snd.snd.fst, x_6.snd.snd.snd))) (x_3 ((x_6.snd.snd.fst, x_6.snd.snd.snd))))) (F) ((x_4.fst, (0 : Int), x_4.snd.snd.fst, x_4.snd.snd.snd)))) (F) ((false, (0 : Int), x_2.fst, x_2.snd))) (F) ((List.replicate (Int.toNat (49 : Int)) (0 : Int), x.snd)))) (F) (((0 : Int), List.replicate (Int.toNat (49 : Int)) (0 : Int)))))
noncomputable def s107 (F : Nat) : CS E.G := ⟨107, [.sl 24, .sl 1, .sl 0], [.sl 0 3, .sl 0 3], fun x => spill_costs F x.1 x.2.1 x.2.2.1⟩
noncomputable def cx107 (F : Nat) : Ctx E := ⟨[], [(140, Try.f140)], F, []⟩
noncomputable def h107 : Hint := (.l ⟨[.i, .l 0], [0, 16, 32, 96, 272, 112], [0, 1, 2, 3, 4, 5, 6], [(288, .i IntKind.i64)], [], [], [(6, 3, 0)], 7⟩ (.c .n (.l ⟨[.l 0, .l 0], [0, 16, 32, 96, 144, 112], [0, 1, 2, 3, 4, 5, 6], [], [], [], [(5, 3, 0), (6, 3, 0)], 7⟩ (.l ⟨[.b, .i, .l 0, .l 0], [0, 16, 32, 96, 144, 112], [0, 1, 2, 3, 4, 5, 6], [(160, .b), (416, .i IntKind.i64)], [], [], [(5, 3, 0), (6, 3, 0)], 7⟩ (.c (.j ⟨[.b, .l 0, .l 0], [0, 16, 32, 96, 416, 144, 112], [0, 1, 2, 3, 4, 5, 6], [(160, .b)], [], [], [(5, 3, 0), (6, 3, 0)], 7⟩ (.w ⟨[.b, .l 0, .l 0], [], [3, 5, 4, 6], [(0, .b)], [], [], [(5, 3, 0), (6, 3, 0)], 7⟩ .n (.c (.w ⟨[.b, .l 0, .l 0], [], [3, 5, 4, 6], [(0, .b)], [], [], [(5, 3, 0), (6, 3, 0)], 7⟩ .n .n) .n)) .n) (.l ⟨[.b, .i, .l 0, .l 0], [0, 16, 32, 96, 928, 144, 912, 112], [0, 1, 2, 3, 4, 5, 6], [(160, .b), (944, .i IntKind.i64)], [], [], [(5, 3, 0), (6, 3, 0)], 7⟩ (.c (.j ⟨[.b, .l 0, .l 0], [0, 16, 32, 96, 928, 144, 912, 112, 944], [0, 1, 2, 3, 4, 5, 6], [(160, .b)], [], [], [(5, 3, 0), (6, 3, 0)], 7⟩ (.c (.w ⟨[.b, .l 0, .l 0], [], [3, 5, 4, 6], [(0, .b)], [], [], [(5, 3, 0), (6, 3, 0)], 8⟩ .n .n) (.w ⟨[.b, .l 0, .l 0], [], [3, 5, 4, 6], [(0, .b)], [], [], [(5, 3, 0), (6, 3, 0)], 8⟩ .n .n)) .n) .n)))))))
theorem e107 (F : Nat) (a0 : List Job) (a1 : List Bool) (a2 : List Int) : fnK (E := E) (cx107 F) Try.f107 [] [.sl 24, .sl 1, .sl 0] [.sl 0 3, .sl 0 3] h107 (a0, a1, a2, ()) = spill_costs F a0 a1 a2 := by kernel_rfl
theorem c107 (F : Nat) : CSok E [] (s107 F) := ⟨en107, by
  have h := fn_sound (E := E) (gl := []) (cx := cx107 F) mix all0 (inlC hf140 en140 inl0) rfl (fun _ h => nomatch h) hf107 (ps := [.sl 24, .sl 1, .sl 0]) (rs := [.sl 0 3, .sl 0 3]) (by decide) h107
  rwa [show fnK (E := E) (cx107 F) Try.f107 [] [.sl 24, .sl 1, .sl 0] [.sl 0 3, .sl 0 3] h107 = (fun x : AT E.G.car [.sl 24, .sl 1, .sl 0] => spill_costs F x.1 x.2.1 x.2.2.1) from funext fun x => e107 F x.1 x.2.1 x.2.2.1] at h⟩
theorem hf105 : Try.prog.funcs[105]? = some Try.f105 := by kernel_rfl
theorem en105 : Proofs.Enters Try.prog 105 := Proofs.enters_of hf105 (by kernel_rfl) rfl
noncomputable def spill_choose (F : Nat) (a0 : List Job) (a1 : Int) : Option ((List Bool) × (List Int)) :=
  chk ((0 : Int) ≤ (↑a0.length : Int) ∧ (↑a0.length : Int) ≤ (↑a0.length : Int) ∧ (↑a0.length : Int) ≤ (100000 : Int)) (chk ((0 : Int) ≤ (48 : Int) ∧ (48 : Int) ≤ (48 : Int) ∧ (48 : Int) ≤ (100000 : Int)) (loopC (fun (x : (Int) × ((List (Bool)) × (List (Int)))) => fun x_1 => brk (decide (x.fst < a1)) (bnd (spill_costs F a0 x.snd.fst x.snd.snd) (fun (x_2 : (List (Int)) × (List (Int))) => loopC (fun (x_3 : (Int) × ((List (Bool)) × (List (Int)))) => fun x_4 => brk (decide (x_3.fst > (0 : Int))) (chk ((0 : Int) ≤ x_3.fst ∧ x_3.fst < (↑(List.length x_2.snd) : Int)) (brk (List.getD x_2.snd (Int.toNat x_3.fst) (0 : Int) == (-1 : Int)) (chk (InR (x_3.fst - (1 : Int))) (chk ((0 : Int) ≤ x_3.fst - (1 : Int) ∧ x_3.fst - (1 : Int) < (↑(List.length x_3.snd.snd) : Int)) (chk (InR (List.getD x_3.snd.snd (x_3.fst - (1 : Int)).toNat (0 : Int) + (1 : Int))) (chk ((0 : Int) ≤ x_3.fst - (1 : Int) ∧ x_3.fst - (1 : Int) < (↑(List.length x_3.snd.snd) : Int)) (x_4 ((x_3.fst - (1 : Int), x_3.snd.fst, List.set x_3.snd.snd (x_3.fst - (1 : Int)).toNat (List.getD x_3.snd.snd (x_3.fst - (1 : Int)).toNat (0 : Int) + (1 : Int))))))))) (brk (List.getD x_2.snd (Int.toNat x_3.fst) (0 : Int) == (-2 : Int)) (chk ((0 : Int) ≤ x_3.fst ∧ x_3.fst < (↑(List.length x_3.snd.snd) : Int)) (chk (InR (List.getD x_3.snd.snd (Int.toNat x_3.fst) (0 : Int) - (1 : Int))) (chk ((0 : Int) ≤ x_3.fst ∧ x_3.fst < (↑(List.length x_3.snd.snd) : Int)) (chk (InR (x_3.fst + (1 : Int))) (x_4 ((x_3.fst + (1 : Int), x_3.snd.fst, List.set x_3.snd.snd (Int.toNat x_3.fst) (List.getD x_3.snd.snd (Int.toNat x_3.fst) (0 : Int) - (1 : Int))))))))) (chk ((0 : Int) ≤ List.getD x_2.snd (Int.toNat x_3.fst) (0 : Int) ∧ List.getD x_2.snd (Int.toNat x_3.fst) (0 : Int) < (↑(List.length x_3.snd.fst) : Int)) (brk (List.getD x_3.snd.fst (Int.toNat (List.getD x_2.snd (Int.toNat x_3.fst) (0 : Int))) false) (chk ((0 : Int) ≤ List.getD x_2.snd (Int.toNat x_3.fst) (0 : Int) ∧ List.getD x_2.snd (Int.toNat x_3.fst) (0 : Int) < (↑a0.length : Int)) (chk ((0 : Int) ≤ List.getD x_2.snd (Int.toNat x_3.fst) (0 : Int) ∧ List.getD x_2.snd (Int.toNat x_3.fst) (0 : Int) < (↑(List.length x_3.snd.fst) : Int)) (x_4 (((a0.getD (Int.toNat (List.getD x_2.snd (Int.toNat x_3.fst) (0 : Int))) (Job.mk (0 : Int) (0 : Int) (0 : Int))).f_to, List.set x_3.snd.fst (Int.toNat (List.getD x_2.snd (Int.toNat x_3.fst) (0 : Int))) false, x_3.snd.snd))))) (chk ((0 : Int) ≤ List.getD x_2.snd (Int.toNat x_3.fst) (0 : Int) ∧ List.getD x_2.snd (Int.toNat x_3.fst) (0 : Int) < (↑a0.length : Int)) (chk ((0 : Int) ≤ List.getD x_2.snd (Int.toNat x_3.fst) (0 : Int) ∧ List.getD x_2.snd (Int.toNat x_3.fst) (0 : Int) < (↑(List.length x_3.snd.fst) : Int)) (x_4 (((a0.getD (Int.toNat (List.getD x_2.snd (Int.toNat x_3.fst) (0 : Int))) (Job.mk (0 : Int) (0 : Int) (0 : Int))).f_from, List.set x_3.snd.fst (Int.toNat (List.getD x_2.snd (Int.toNat x_3.fst) (0 : Int))) true, x_3.snd.snd)))))))))) (chk (InR (x.fst + (1 : Int))) (x_1 ((x.fst + (1 : Int), x_3.snd.fst, x_3.snd.snd))))) (F) (((48 : Int), x.snd.fst, x.snd.snd)))) (some ((x.snd.fst, x.snd.snd)))) (F) (((0 : Int), List.replicate (↑a0.length : Int).toNat false, List.replicate (Int.toNat (48 : Int)) (0 : Int)))))
noncomputable def s105 (F : Nat) : CS E.G := ⟨105, [.sl 24, .v 0 false], [.sl 1 4, .sl 0 3], fun x => spill_choose F x.1 x.2.1⟩
noncomputable def cx105 (F : Nat) : Ctx E := ⟨[s107 F], [], F, []⟩
noncomputable def h105 : Hint := (.l ⟨[.i, .l 1, .l 0], [0, 256, 96, 112], [0, 1, 2], [(272, .i IntKind.i64)], [], [], [(1, 4, 1), (2, 3, 0)], 3⟩ (.c (.l ⟨[.i, .l 1, .l 0], [0, 256, 96, 144, 272, 112], [0, 1, 4, 2], [(160, .i IntKind.i64)], [], [], [(1, 4, 1), (2, 3, 0)], 5⟩ (.c (.c .n (.c .n .n)) .n)) .n))
theorem e105 (F : Nat) (a0 : List Job) (a1 : Int) : fnK (E := E) (cx105 F) Try.f105 [] [.sl 24, .v 0 false] [.sl 1 4, .sl 0 3] h105 (a0, a1, ()) = spill_choose F a0 a1 := by kernel_rfl
theorem c105 (F : Nat) : CSok E [] (s105 F) := ⟨en105, by
  have h := fn_sound (E := E) (gl := []) (cx := cx105 F) mix (allC (c107 F) all0) inl0 rfl (fun _ h => nomatch h) hf105 (ps := [.sl 24, .v 0 false]) (rs := [.sl 1 4, .sl 0 3]) (by decide) h105
  rwa [show fnK (E := E) (cx105 F) Try.f105 [] [.sl 24, .v 0 false] [.sl 1 4, .sl 0 3] h105 = (fun x : AT E.G.car [.sl 24, .v 0 false] => spill_choose F x.1 x.2.1) from funext fun x => e105 F x.1 x.2.1] at h⟩
theorem hf51 : Try.prog.funcs[51]? = some Try.f51 := by kernel_rfl
theorem en51 : Proofs.Enters Try.prog 51 := Proofs.enters_of hf51 (by kernel_rfl) rfl
noncomputable def spill_Best (F : Nat) (a0 : Field) (a1 : Fleet) (a2 : List Flight) : Option ((List Bool) × Int × Int) :=
  bnd (spill_jobs F (Field.mk a0.W a0.H (a0.Cells)) (Fleet.mk a1.Base a1.Range a1.Speed a1.Count) a2) (fun (x : (List (Job)) × (Int)) => brk (x.snd != (0 : Int)) (some (([], (0 : Int), x.snd))) (bnd (spill_choose F x.fst a1.Count) (fun (x_1 : (List (Bool)) × (List (Int))) => loopC (fun (x_2 : (Int) × (Int)) => fun x_3 => brk (decide (x_2.snd < (↑(List.length x.fst) : Int))) (join F (fun (x_4 : Int) => chk (InR (x_2.snd + (1 : Int))) (x_3 ((x_4, x_2.snd + (1 : Int))))) (fun x_4 => chk ((0 : Int) ≤ x_2.snd ∧ x_2.snd < (↑(List.length x.fst) : Int)) (chk ((0 : Int) ≤ x_2.snd ∧ x_2.snd < (↑(List.length x_1.fst) : Int)) (brk (List.getD x_1.fst (Int.toNat x_2.snd) false) (chk (InR (x_2.fst + (List.getD x.fst (Int.toNat x_2.snd) (Job.mk (0 : Int) (0 : Int) (0 : Int))).f_worth)) (x_4 (x_2.fst + (List.getD x.fst (Int.toNat x_2.snd) (Job.mk (0 : Int) (0 : Int) (0 : Int))).f_worth))) (x_4 (x_2.fst)))))) (some ((x_1.fst, x_2.fst, (0 : Int))))) (F) (((0 : Int), (0 : Int))))))
noncomputable def s51 (F : Nat) : CS E.G := ⟨51, [.v 9 true, .v 13 true, .sl 14], [.sl 1 4, .v 0 false [], .v 0 false []], fun x => spill_Best F x.1 x.2.1 x.2.2.1⟩
noncomputable def cx51 (F : Nat) : Ctx E := ⟨[s104 F, s105 F], [], F, []⟩
noncomputable def h51 : Hint := (.c .n (.l ⟨[.i, .i], [544, 528, 176], [4, 5], [(208, .i IntKind.i64), (560, .i IntKind.i64)], [], [], [], 7⟩ (.c (.j ⟨[.i], [544, 528, 176, 560], [4, 5], [(208, .i IntKind.i64)], [], [], [], 7⟩ .n .n) .n)))
theorem e51 (F : Nat) (a0 : Field) (a1 : Fleet) (a2 : List Flight) : fnK (E := E) (cx51 F) Try.f51 [] [.v 9 true, .v 13 true, .sl 14] [.sl 1 4, .v 0 false [], .v 0 false []] h51 (a0, a1, a2, ()) = spill_Best F a0 a1 a2 := by kernel_rfl
theorem c51 (F : Nat) : CSok E [] (s51 F) := ⟨en51, by
  have h := fn_sound (E := E) (gl := []) (cx := cx51 F) mix (allC (c104 F) (allC (c105 F) all0)) inl0 rfl (fun _ h => nomatch h) hf51 (ps := [.v 9 true, .v 13 true, .sl 14]) (rs := [.sl 1 4, .v 0 false [], .v 0 false []]) (by decide) h51
  rwa [show fnK (E := E) (cx51 F) Try.f51 [] [.v 9 true, .v 13 true, .sl 14] [.sl 1 4, .v 0 false [], .v 0 false []] h51 = (fun x : AT E.G.car [.v 9 true, .v 13 true, .sl 14] => spill_Best F x.1 x.2.1 x.2.2.1) from funext fun x => e51 F x.1 x.2.1 x.2.2.1] at h⟩
theorem hf83 : Try.prog.funcs[83]? = some Try.f83 := by kernel_rfl
theorem en83 : Proofs.Enters Try.prog 83 := Proofs.enters_of hf83 (by kernel_rfl) rfl
theorem hf84 : Try.prog.funcs[84]? = some Try.f84 := by kernel_rfl
theorem en84 : Proofs.Enters Try.prog 84 := Proofs.enters_of hf84 (by kernel_rfl) rfl
noncomputable def slices_Equal_int (F : Nat) (a0 : List Int) (a1 : List Int) : Option (Bool) :=
  brk ((↑a0.length : Int) != (↑a1.length : Int)) (some (false)) (loopC (fun (x : Int) => fun x_1 => brk (decide (x < (↑a0.length : Int))) (chk ((0 : Int) ≤ x ∧ x < (↑a0.length : Int)) (chk ((0 : Int) ≤ x ∧ x < (↑a1.length : Int)) (brk (a0.getD (Int.toNat x) (0 : Int) != a1.getD (Int.toNat x) (0 : Int)) (some (false)) (chk (InR (x + (1 : Int))) (x_1 (x + (1 : Int))))))) (some (true))) (F) ((0 : Int)))
noncomputable def s84 (F : Nat) : CS E.G := ⟨84, [.sl 0, .sl 0], [.v 1 false []], fun x => slices_Equal_int F x.1 x.2.1⟩
noncomputable def cx84 (F : Nat) : Ctx E := ⟨[], [], F, []⟩
noncomputable def h84 : Hint := (.c .n (.l ⟨[.i], [0, 16, 192], [0, 1], [(208, .i IntKind.i64)], [], [], [], 2⟩ (.c .n .n)))
theorem e84 (F : Nat) (a0 : List Int) (a1 : List Int) : fnK (E := E) (cx84 F) Try.f84 [] [.sl 0, .sl 0] [.v 1 false []] h84 (a0, a1, ()) = slices_Equal_int F a0 a1 := by kernel_rfl
theorem c84 (F : Nat) : CSok E [] (s84 F) := ⟨en84, by
  have h := fn_sound (E := E) (gl := []) (cx := cx84 F) mix all0 inl0 rfl (fun _ h => nomatch h) hf84 (ps := [.sl 0, .sl 0]) (rs := [.v 1 false []]) (by decide) h84
  rwa [show fnK (E := E) (cx84 F) Try.f84 [] [.sl 0, .sl 0] [.v 1 false []] h84 = (fun x : AT E.G.car [.sl 0, .sl 0] => slices_Equal_int F x.1 x.2.1) from funext fun x => e84 F x.1 x.2.1] at h⟩
theorem hf85 : Try.prog.funcs[85]? = some Try.f85 := by kernel_rfl
theorem en85 : Proofs.Enters Try.prog 85 := Proofs.enters_of hf85 (by kernel_rfl) rfl
noncomputable def slices_Equal_api_Span (F : Nat) (a0 : List Span) (a1 : List Span) : Option (Bool) :=
  brk ((↑a0.length : Int) != (↑a1.length : Int)) (some (false)) (loopC (fun (x : Int) => fun x_1 => brk (decide (x < (↑a0.length : Int))) (chk ((0 : Int) ≤ x ∧ x < (↑a0.length : Int)) (chk ((0 : Int) ≤ x ∧ x < (↑a1.length : Int)) (brk (!((a0.getD (Int.toNat x) (Span.mk (0 : Int) (0 : Int))).Lo == (a1.getD (Int.toNat x) (Span.mk (0 : Int) (0 : Int))).Lo && ((a0.getD (Int.toNat x) (Span.mk (0 : Int) (0 : Int))).Hi == (a1.getD (Int.toNat x) (Span.mk (0 : Int) (0 : Int))).Hi && true))) (some (false)) (chk (InR (x + (1 : Int))) (x_1 (x + (1 : Int))))))) (some (true))) (F) ((0 : Int)))
noncomputable def s85 (F : Nat) : CS E.G := ⟨85, [.sl 7, .sl 7], [.v 1 false []], fun x => slices_Equal_api_Span F x.1 x.2.1⟩
noncomputable def cx85 (F : Nat) : Ctx E := ⟨[], [], F, []⟩
noncomputable def h85 : Hint := (.c .n (.l ⟨[.i], [0, 16, 192], [0, 1], [(208, .i IntKind.i64)], [], [], [], 2⟩ (.c .n .n)))
theorem e85 (F : Nat) (a0 : List Span) (a1 : List Span) : fnK (E := E) (cx85 F) Try.f85 [] [.sl 7, .sl 7] [.v 1 false []] h85 (a0, a1, ()) = slices_Equal_api_Span F a0 a1 := by kernel_rfl
theorem c85 (F : Nat) : CSok E [] (s85 F) := ⟨en85, by
  have h := fn_sound (E := E) (gl := []) (cx := cx85 F) mix all0 inl0 rfl (fun _ h => nomatch h) hf85 (ps := [.sl 7, .sl 7]) (rs := [.v 1 false []]) (by decide) h85
  rwa [show fnK (E := E) (cx85 F) Try.f85 [] [.sl 7, .sl 7] [.v 1 false []] h85 = (fun x : AT E.G.car [.sl 7, .sl 7] => slices_Equal_api_Span F x.1 x.2.1) from funext fun x => e85 F x.1 x.2.1] at h⟩
theorem hf20 : Try.prog.funcs[20]? = some Try.f20 := by kernel_rfl
theorem en20 : Proofs.Enters Try.prog 20 := Proofs.enters_of hf20 (by kernel_rfl) rfl
noncomputable def law11_awake (F : Nat) : Option (Bool) :=
  bnd (spill_Flow F (3 : Int) (1 : Int) [(0 : Int), (21 : Int), (0 : Int)] [(5 : Int), (4 : Int), (5 : Int)]) (fun (x : (List (Int)) × (Int)) => bnd (spill_Flow F (2 : Int) (2 : Int) [(18 : Int), (0 : Int), (0 : Int), (0 : Int)] [(3 : Int), (3 : Int), (3 : Int), (3 : Int)]) (fun (x_1 : (List (Int)) × (Int)) => bnd (spill_Spread F (Field.mk (↑[Span.mk (10 : Int) (20 : Int), Span.mk (0 : Int) (2 : Int)].length : Int) (1 : Int) ([Span.mk (10 : Int) (20 : Int), Span.mk (0 : Int) (2 : Int)])) [Span.mk (4 : Int) (6 : Int), Span.mk (4 : Int) (6 : Int)] (1 : Int)) (fun (x_2 : (Field) × (Int)) => bnd (spill_Tighten F (Field.mk (↑[Span.mk (10 : Int) (20 : Int), Span.mk (0 : Int) (2 : Int)].length : Int) (1 : Int) ([Span.mk (10 : Int) (20 : Int), Span.mk (0 : Int) (2 : Int)])) (Span.mk (21 : Int) (22 : Int))) (fun (x_3 : (Field) × (Int)) => bnd (spill_Best F (Field.mk (↑[Span.mk (10 : Int) (20 : Int), Span.mk (0 : Int) (2 : Int)].length : Int) (1 : Int) ([Span.mk (10 : Int) (20 : Int), Span.mk (0 : Int) (2 : Int)])) (Fleet.mk (0 : Int) (4 : Int) (1 : Int) (1 : Int)) [Flight.mk (0 : Int) ([(0 : Int), (1 : Int), (0 : Int)]), Flight.mk (1 : Int) ([(0 : Int)]), Flight.mk (2 : Int) ([(0 : Int)])]) (fun (x_4 : (List (Bool)) × ((Int) × (Int))) => brk (x.snd != (0 : Int) || x_1.snd != (0 : Int) || x_2.snd != (0 : Int) || x_3.snd != (0 : Int) || x_4.snd.snd != (0 : Int) || x_4.snd.fst != (22 : Int)) (some (false)) (bnd (slices_Equal_int F x.fst [(4 : Int), (13 : Int), (4 : Int)]) (fun (x_5 : Bool) => brk (x_5) (bnd (slices_Equal_int F x_1.fst [(11 : Int), (3 : Int), (4 : Int), (0 : Int)]) (fun (x_6 : Bool) => brk (x_6) (bnd (slices_Equal_api_Span F x_2.fst.Cells [Span.mk (7 : Int) (13 : Int), Span.mk (2 : Int) (10 : Int)]) (fun (x_7 : Bool) => brk (x_7) (bnd (slices_Equal_api_Span F x_3.fst.Cells [Span.mk (19 : Int) (20 : Int), Span.mk (1 : Int) (2 : Int)]) (fun (x_8 : Bool) => some (x_8))) (some (false)))) (some (false)))) (some (false)))))))))
noncomputable def s20 (F : Nat) : CS E.G := ⟨20, [], [.v 1 false []], fun x => law11_awake F⟩
noncomputable def cx20 (F : Nat) : Ctx E := ⟨[s16 F, s19 F, s24 F, s51 F, s84 F, s85 F], [(83, Try.f83)], F, []⟩
noncomputable def h20 : Hint := (.p (.c .n (.s (.s (.s .n .n) .n) .n)))
theorem e20 (F : Nat) : fnK (E := E) (cx20 F) Try.f20 [] [] [.v 1 false []] h20 (()) = law11_awake F := by kernel_rfl
theorem c20 (F : Nat) : CSok E [] (s20 F) := ⟨en20, by
  have h := fn_sound (E := E) (gl := []) (cx := cx20 F) mix (allC (c16 F) (allC (c19 F) (allC (c24 F) (allC (c51 F) (allC (c84 F) (allC (c85 F) all0)))))) (inlC hf83 en83 inl0) rfl (fun _ h => nomatch h) hf20 (ps := []) (rs := [.v 1 false []]) (by decide) h20
  rwa [show fnK (E := E) (cx20 F) Try.f20 [] [] [.v 1 false []] h20 = (fun x : AT E.G.car [] => law11_awake F) from funext fun x => e20 F] at h⟩
theorem hf27 : Try.prog.funcs[27]? = some Try.f27 := by kernel_rfl
theorem en27 : Proofs.Enters Try.prog 27 := Proofs.enters_of hf27 (by kernel_rfl) rfl
noncomputable def spill_See (F : Nat) (a0 : Field) (a1 : List Sight) : Option (Field × Int) :=
  bnd (spill_Check F (Field.mk a0.W a0.H (a0.Cells))) (fun (x : Int) => brk (x != (0 : Int)) (some ((Field.mk (0 : Int) (0 : Int) ([]), x))) (brk (decide ((↑a1.length : Int) > (100 : Int))) (some ((Field.mk (0 : Int) (0 : Int) ([]), (2 : Int)))) (bnd (slices_Clone_api_Span F a0.Cells) (fun (x_1 : List (Span)) => loopC (fun (x_2 : (Int) × (List (Span))) => fun x_3 => brk (decide (x_2.fst < (↑a1.length : Int))) (chk ((0 : Int) ≤ x_2.fst ∧ x_2.fst < (↑a1.length : Int)) (chk (InR ((↑(List.length x_2.snd) : Int) - (1 : Int))) (bnd (spill_within F (a1.getD (Int.toNat x_2.fst) (Sight.mk (0 : Int) (Span.mk (0 : Int) (0 : Int)))).Cell (0 : Int) ((↑(List.length x_2.snd) : Int) - (1 : Int))) (fun (x_4 : Bool) => brk (!x_4) (some ((Field.mk (0 : Int) (0 : Int) ([]), (1 : Int)))) (bnd (spill_span F (Span.mk (a1.getD (Int.toNat x_2.fst) (Sight.mk (0 : Int) (Span.mk (0 : Int) (0 : Int)))).Oil.Lo (a1.getD (Int.toNat x_2.fst) (Sight.mk (0 : Int) (Span.mk (0 : Int) (0 : Int)))).Oil.Hi) (1000000 : Int)) (fun (x_5 : Bool) => brk (!x_5) (some ((Field.mk (0 : Int) (0 : Int) ([]), (120 : Int)))) (chk ((0 : Int) ≤ (a1.getD (Int.toNat x_2.fst) (Sight.mk (0 : Int) (Span.mk (0 : Int) (0 : Int)))).Cell ∧ (a1.getD (Int.toNat x_2.fst) (Sight.mk (0 : Int) (Span.mk (0 : Int) (0 : Int)))).Cell < (↑(List.length x_2.snd) : Int)) (bnd (spill_meets_cut F (Span.mk (a1.getD (Int.toNat x_2.fst) (Sight.mk (0 : Int) (Span.mk (0 : Int) (0 : Int)))).Oil.Lo (a1.getD (Int.toNat x_2.fst) (Sight.mk (0 : Int) (Span.mk (0 : Int) (0 : Int)))).Oil.Hi) (Span.mk (List.getD x_2.snd (a1.getD (Int.toNat x_2.fst) (Sight.mk (0 : Int) (Span.mk (0 : Int) (0 : Int)))).Cell.toNat (Span.mk (0 : Int) (0 : Int))).Lo (List.getD x_2.snd (a1.getD (Int.toNat x_2.fst) (Sight.mk (0 : Int) (Span.mk (0 : Int) (0 : Int)))).Cell.toNat (Span.mk (0 : Int) (0 : Int))).Hi)) (fun (x_6 : Span) => chk ((0 : Int) ≤ (a1.getD (Int.toNat x_2.fst) (Sight.mk (0 : Int) (Span.mk (0 : Int) (0 : Int)))).Cell ∧ (a1.getD (Int.toNat x_2.fst) (Sight.mk (0 : Int) (Span.mk (0 : Int) (0 : Int)))).Cell < (↑(List.length x_2.snd) : Int)) (chk ((0 : Int) ≤ (a1.getD (Int.toNat x_2.fst) (Sight.mk (0 : Int) (Span.mk (0 : Int) (0 : Int)))).Cell ∧ (a1.getD (Int.toNat x_2.fst) (Sight.mk (0 : Int) (Span.mk (0 : Int) (0 : Int)))).Cell < (↑(List.set x_2.snd (a1.getD (Int.toNat x_2.fst) (Sight.mk (0 : Int) (Span.mk (0 : Int) (0 : Int)))).Cell.toNat (Span.mk x_6.Lo x_6.Hi)).length : Int)) (chk ((0 : Int) ≤ (a1.getD (Int.toNat x_2.fst) (Sight.mk (0 : Int) (Span.mk (0 : Int) (0 : Int)))).Cell ∧ (a1.getD (Int.toNat x_2.fst) (Sight.mk (0 : Int) (Span.mk (0 : Int) (0 : Int)))).Cell < (↑(List.set x_2.snd (a1.getD (Int.toNat x_2.fst) (Sight.mk (0 : Int) (Span.mk (0 : Int) (0 : Int)))).Cell.toNat (Span.mk x_6.Lo x_6.Hi)).length : Int)) (brk (decide (((List.set x_2.snd (a1.getD (Int.toNat x_2.fst) (Sight.mk (0 : Int) (Span.mk (0 : Int) (0 : Int)))).Cell.toNat (Span.mk x_6.Lo x_6.Hi)).getD (a1.getD (Int.toNat x_2.fst) (Sight.mk (0 : Int) (Span.mk (0 : Int) (0 : Int)))).Cell.toNat (Span.mk (0 : Int) (0 : Int))).Lo > ((List.set x_2.snd (a1.getD (Int.toNat x_2.fst) (Sight.mk (0 : Int) (Span.mk (0 : Int) (0 : Int)))).Cell.toNat (Span.mk x_6.Lo x_6.Hi)).getD (a1.getD (Int.toNat x_2.fst) (Sight.mk (0 : Int) (Span.mk (0 : Int) (0 : Int)))).Cell.toNat (Span.mk (0 : Int) (0 : Int))).Hi)) (some ((Field.mk (0 : Int) (0 : Int) ([]), (21 : Int)))) (chk (InR (x_2.fst + (1 : Int))) (x_3 ((x_2.fst + (1 : Int), List.set x_2.snd (a1.getD (Int.toNat x_2.fst) (Sight.mk (0 : Int) (Span.mk (0 : Int) (0 : Int)))).Cell.toNat (Span.mk x_6.Lo x_6.Hi))))))))))))))))) (some ((Field.mk a0.W a0.H (x_2.snd), (0 : Int))))) (F) (((0 : Int), x_1))))))
noncomputable def s27 (F : Nat) : CS E.G := ⟨27, [.v 9 true, .sl 11], [.v 9 true [34], .v 0 false []], fun x => spill_See F x.1 x.2.1⟩
noncomputable def cx27 (F : Nat) : Ctx E := ⟨[s15 F, s34 F, s80 F, s87 F, s88 F], [], F, []⟩
noncomputable def h27 : Hint := (.c .n (.c .n (.l ⟨[.i, .l 7], [32, 64, 384, 400, 112], [2, 3, 1, 4, 0], [(416, .i IntKind.i64)], [], [], [(4, 34, 7)], 5⟩ (.c (.c .n (.c .n .n)) .n))))
theorem e27 (F : Nat) (a0 : Field) (a1 : List Sight) : fnK (E := E) (cx27 F) Try.f27 [] [.v 9 true, .sl 11] [.v 9 true [34], .v 0 false []] h27 (a0, a1, ()) = spill_See F a0 a1 := by kernel_rfl
theorem c27 (F : Nat) : CSok E [] (s27 F) := ⟨en27, by
  have h := fn_sound (E := E) (gl := []) (cx := cx27 F) mix (allC (c15 F) (allC (c34 F) (allC (c80 F) (allC (c87 F) (allC (c88 F) all0))))) inl0 rfl (fun _ h => nomatch h) hf27 (ps := [.v 9 true, .sl 11]) (rs := [.v 9 true [34], .v 0 false []]) (by decide) h27
  rwa [show fnK (E := E) (cx27 F) Try.f27 [] [.v 9 true, .sl 11] [.v 9 true [34], .v 0 false []] h27 = (fun x : AT E.G.car [.v 9 true, .sl 11] => spill_See F x.1 x.2.1) from funext fun x => e27 F x.1 x.2.1] at h⟩
theorem hf49 : Try.prog.funcs[49]? = some Try.f49 := by kernel_rfl
theorem en49 : Proofs.Enters Try.prog 49 := Proofs.enters_of hf49 (by kernel_rfl) rfl
noncomputable def spill_Worth (F : Nat) (a0 : Field) (a1 : Fleet) (a2 : Flight) : Option (Int × Int × Int) :=
  bnd (spill_Check F (Field.mk a0.W a0.H (a0.Cells))) (fun (x : Int) => brk (x != (0 : Int)) (brk (x != (0 : Int)) (some (((0 : Int), (0 : Int), x))) (none)) (bnd (spill_grid_right F (Field.mk a0.W a0.H (a0.Cells)) (Fleet.mk a1.Base a1.Range a1.Speed a1.Count)) (fun (x_1 : Bool) => brk (!x_1) (some (((0 : Int), (0 : Int), (120 : Int)))) (bnd (spill_grid_job F (Field.mk a0.W a0.H (a0.Cells)) (Fleet.mk a1.Base a1.Range a1.Speed a1.Count) (Flight.mk a2.From (a2.Path))) (fun (x_2 : (Job) × (Int)) => brk (x_2.snd != (0 : Int)) (some (((0 : Int), (0 : Int), x_2.snd))) (chk (InR (x_2.fst.f_to - x_2.fst.f_from)) (some ((x_2.fst.f_worth, x_2.fst.f_to - x_2.fst.f_from, (0 : Int))))))))))
noncomputable def s49 (F : Nat) : CS E.G := ⟨49, [.v 9 true, .v 13 true, .v 14 true], [.v 0 false [], .v 0 false [], .v 0 false []], fun x => spill_Worth F x.1 x.2.1 x.2.2.1⟩
noncomputable def cx49 (F : Nat) : Ctx E := ⟨[s34 F, s137 F, s101 F], [(100, Try.f100)], F, []⟩
noncomputable def h49 : Hint := (.p (.c (.c .n (.u 0 .n)) (.c .n .n)))
theorem e49 (F : Nat) (a0 : Field) (a1 : Fleet) (a2 : Flight) : fnK (E := E) (cx49 F) Try.f49 [] [.v 9 true, .v 13 true, .v 14 true] [.v 0 false [], .v 0 false [], .v 0 false []] h49 (a0, a1, a2, ()) = spill_Worth F a0 a1 a2 := by kernel_rfl
theorem c49 (F : Nat) : CSok E [] (s49 F) := ⟨en49, by
  have h := fn_sound (E := E) (gl := []) (cx := cx49 F) mix (allC (c34 F) (allC (c137 F) (allC (c101 F) all0))) (inlC hf100 en100 inl0) rfl (fun _ h => nomatch h) hf49 (ps := [.v 9 true, .v 13 true, .v 14 true]) (rs := [.v 0 false [], .v 0 false [], .v 0 false []]) (by decide) h49
  rwa [show fnK (E := E) (cx49 F) Try.f49 [] [.v 9 true, .v 13 true, .v 14 true] [.v 0 false [], .v 0 false [], .v 0 false []] h49 = (fun x : AT E.G.car [.v 9 true, .v 13 true, .v 14 true] => spill_Worth F x.1 x.2.1 x.2.2.1) from funext fun x => e49 F x.1 x.2.1 x.2.2.1] at h⟩
theorem hf54 : Try.prog.funcs[54]? = some Try.f54 := by kernel_rfl
theorem en54 : Proofs.Enters Try.prog 54 := Proofs.enters_of hf54 (by kernel_rfl) rfl
noncomputable def spill_Prices (F : Nat) (a0 : Field) (a1 : Fleet) (a2 : List Flight) : Option ((List Int) × Int) :=
  bnd (spill_jobs F (Field.mk a0.W a0.H (a0.Cells)) (Fleet.mk a1.Base a1.Range a1.Speed a1.Count) a2) (fun (x : (List (Job)) × (Int)) => brk (x.snd != (0 : Int)) (some (([], x.snd))) (bnd (spill_choose F x.fst a1.Count) (fun (x_1 : (List (Bool)) × (List (Int))) => bnd (spill_costs F x.fst x_1.fst x_1.snd) (fun (x_2 : (List (Int)) × (List (Int))) => chk ((0 : Int) ≤ (48 : Int) ∧ (48 : Int) ≤ (48 : Int) ∧ (48 : Int) ≤ (100000 : Int)) (loopC (fun (x_3 : (Int) × (List (Int))) => fun x_4 => brk (decide (x_3.fst < (↑(List.replicate (Int.toNat (48 : Int)) (0 : Int)).length : Int))) (chk ((0 : Int) ≤ x_3.fst ∧ x_3.fst < (↑(List.length x_2.fst) : Int)) (chk (InR (x_3.fst + (1 : Int))) (chk ((0 : Int) ≤ x_3.fst + (1 : Int) ∧ x_3.fst + (1 : Int) < (↑(List.length x_2.fst) : Int)) (chk (InR (List.getD x_2.fst (Int.toNat x_3.fst) (0 : Int) - List.getD x_2.fst (x_3.fst + (1 : Int)).toNat (0 : Int))) (chk ((0 : Int) ≤ x_3.fst ∧ x_3.fst < (↑(List.length x_3.snd) : Int)) (chk (InR (x_3.fst + (1 : Int))) (x_4 ((x_3.fst + (1 : Int), List.set x_3.snd (Int.toNat x_3.fst) (List.getD x_2.fst (Int.toNat x_3.fst) (0 : Int) - List.getD x_2.fst (x_3.fst + (1 : Int)).toNat (0 : Int))))))))))) (some ((x_3.snd, (0 : Int))))) (F) (((0 : Int), List.replicate (Int.toNat (48 : Int)) (0 : Int))))))))
noncomputable def s54 (F : Nat) : CS E.G := ⟨54, [.v 9 true, .v 13 true, .sl 14], [.sl 0 3, .v 0 false []], fun x => spill_Prices F x.1 x.2.1 x.2.2.1⟩
noncomputable def cx54 (F : Nat) : Ctx E := ⟨[s104 F, s105 F, s107 F], [], F, []⟩
noncomputable def h54 : Hint := (.c .n (.l ⟨[.i, .l 0], [192, 672, 224], [7, 9], [(688, .i IntKind.i64)], [], [], [(9, 3, 0)], 10⟩ .n))
theorem e54 (F : Nat) (a0 : Field) (a1 : Fleet) (a2 : List Flight) : fnK (E := E) (cx54 F) Try.f54 [] [.v 9 true, .v 13 true, .sl 14] [.sl 0 3, .v 0 false []] h54 (a0, a1, a2, ()) = spill_Prices F a0 a1 a2 := by kernel_rfl
theorem c54 (F : Nat) : CSok E [] (s54 F) := ⟨en54, by
  have h := fn_sound (E := E) (gl := []) (cx := cx54 F) mix (allC (c104 F) (allC (c105 F) (allC (c107 F) all0))) inl0 rfl (fun _ h => nomatch h) hf54 (ps := [.v 9 true, .v 13 true, .sl 14]) (rs := [.sl 0 3, .v 0 false []]) (by decide) h54
  rwa [show fnK (E := E) (cx54 F) Try.f54 [] [.v 9 true, .v 13 true, .sl 14] [.sl 0 3, .v 0 false []] h54 = (fun x : AT E.G.car [.v 9 true, .v 13 true, .sl 14] => spill_Prices F x.1 x.2.1 x.2.2.1) from funext fun x => e54 F x.1 x.2.1 x.2.2.1] at h⟩
theorem hf89 : Try.prog.funcs[89]? = some Try.f89 := by kernel_rfl
theorem en89 : Proofs.Enters Try.prog 89 := Proofs.enters_of hf89 (by kernel_rfl) rfl
theorem hf25 : Try.prog.funcs[25]? = some Try.f25 := by kernel_rfl
theorem en25 : Proofs.Enters Try.prog 25 := Proofs.enters_of hf25 (by kernel_rfl) rfl
theorem hf108 : Try.prog.funcs[108]? = some Try.f108 := by kernel_rfl
theorem en108 : Proofs.Enters Try.prog 108 := Proofs.enters_of hf108 (by kernel_rfl) rfl
noncomputable def spill_Bound_1 (F : Nat) (a0 : Int) : Option (Bool) :=
  bnd (spill_within F a0 (0 : Int) (1000000000 : Int)) (fun (x : Bool) => some (!x))
noncomputable def s108 (F : Nat) : CS E.G := ⟨108, [.v 0 false], [.v 1 false []], fun x => spill_Bound_1 F x.1⟩
noncomputable def cx108 (F : Nat) : Ctx E := ⟨[s80 F], [], F, []⟩
noncomputable def h108 : Hint := .n
theorem e108 (F : Nat) (a0 : Int) : fnK (E := E) (cx108 F) Try.f108 [] [.v 0 false] [.v 1 false []] h108 (a0, ()) = spill_Bound_1 F a0 := by kernel_rfl
theorem c108 (F : Nat) : CSok E [] (s108 F) := ⟨en108, by
  have h := fn_sound (E := E) (gl := []) (cx := cx108 F) mix (allC (c80 F) all0) inl0 rfl (fun _ h => nomatch h) hf108 (ps := [.v 0 false]) (rs := [.v 1 false []]) (by decide) h108
  rwa [show fnK (E := E) (cx108 F) Try.f108 [] [.v 0 false] [.v 1 false []] h108 = (fun x : AT E.G.car [.v 0 false] => spill_Bound_1 F x.1) from funext fun x => e108 F x.1] at h⟩
theorem hf56 : Try.prog.funcs[56]? = some Try.f56 := by kernel_rfl
theorem en56 : Proofs.Enters Try.prog 56 := Proofs.enters_of hf56 (by kernel_rfl) rfl
noncomputable def spill_Bound (F : Nat) (a0 : Field) (a1 : Fleet) (a2 : List Flight) (a3 : List Int) : Option (Int × Int) :=
  bnd (spill_jobs F (Field.mk a0.W a0.H (a0.Cells)) (Fleet.mk a1.Base a1.Range a1.Speed a1.Count) a2) (fun (x : (List (Job)) × (Int)) => brk (x.snd != (0 : Int)) (some (((0 : Int), x.snd))) (brk ((↑a3.length : Int) != (48 : Int)) (some (((0 : Int), (1 : Int)))) (join F (fun (x_1 : Int) => brk (decide (x_1 ≥ (0 : Int))) (some (((0 : Int), (6 : Int)))) (loopC (fun (x_2 : (Int) × (Int)) => fun x_3 => brk (decide (x_2.fst < (↑a3.length : Int))) (chk ((0 : Int) ≤ x_2.fst ∧ x_2.fst < (↑a3.length : Int)) (chk (InR (a1.Count * a3.getD (Int.toNat x_2.fst) (0 : Int))) (chk (InR (x_2.snd + a1.Count * a3.getD (Int.toNat x_2.fst) (0 : Int))) (chk (InR (x_2.fst + (1 : Int))) (x_3 ((x_2.fst + (1 : Int), x_2.snd + a1.Count * a3.getD (Int.toNat x_2.fst) (0 : Int)))))))) (loopC (fun (x_4 : (Int) × (Int)) => fun x_5 => brk (decide (x_4.snd < (↑(List.length x.fst) : Int))) (chk ((0 : Int) ≤ x_4.snd ∧ x_4.snd < (↑(List.length x.fst) : Int)) (chk ((0 : Int) ≤ (List.getD x.fst (Int.toNat x_4.snd) (Job.mk (0 : Int) (0 : Int) (0 : Int))).f_from ∧ (List.getD x.fst (Int.toNat x_4.snd) (Job.mk (0 : Int) (0 : Int) (0 : Int))).f_from ≤ (List.getD x.fst (Int.toNat x_4.snd) (Job.mk (0 : Int) (0 : Int) (0 : Int))).f_to ∧ (List.getD x.fst (Int.toNat x_4.snd) (Job.mk (0 : Int) (0 : Int) (0 : Int))).f_to ≤ (↑a3.length : Int)) (loopC (fun (x_6 : (Int) × (Int)) => fun x_7 => brk (decide (x_6.fst < (List.getD x.fst (Int.toNat x_4.snd) (Job.mk (0 : Int) (0 : Int) (0 : Int))).f_to - (List.getD x.fst (Int.toNat x_4.snd) (Job.mk (0 : Int) (0 : Int) (0 : Int))).f_from)) (chk ((0 : Int) ≤ x_6.fst ∧ x_6.fst < (List.getD x.fst (Int.toNat x_4.snd) (Job.mk (0 : Int) (0 : Int) (0 : Int))).f_to - (List.getD x.fst (Int.toNat x_4.snd) (Job.mk (0 : Int) (0 : Int) (0 : Int))).f_from) (chk (InR (x_6.snd - a3.getD ((List.getD x.fst (Int.toNat x_4.snd) (Job.mk (0 : Int) (0 : Int) (0 : Int))).f_from + x_6.fst).toNat (0 : Int))) (chk (InR (x_6.fst + (1 : Int))) (x_7 ((x_6.fst + (1 : Int), x_6.snd - a3.getD ((List.getD x.fst (Int.toNat x_4.snd) (Job.mk (0 : Int) (0 : Int) (0 : Int))).f_from + x_6.fst).toNat (0 : Int))))))) (chk (InR (x_4.fst + if x_6.snd > (0 : Int) then x_6.snd else (0 : Int))) (chk (InR (x_4.snd + (1 : Int))) (x_5 ((x_4.fst + if x_6.snd > (0 : Int) then x_6.snd else (0 : Int), x_4.snd + (1 : Int))))))) (F) (((0 : Int), (List.getD x.fst (Int.toNat x_4.snd) (Job.mk (0 : Int) (0 : Int) (0 : Int))).f_worth))))) (some ((x_4.fst, (0 : Int))))) (F) ((x_2.snd, (0 : Int))))) (F) (((0 : Int), (0 : Int))))) (fun x_1 => loopC (fun (x_2 : Int) => fun x_3 => brk (decide (x_2 < (↑a3.length : Int))) (chk ((0 : Int) ≤ x_2 ∧ x_2 < (↑a3.length : Int)) (bnd (spill_Bound_1 F (a3.getD (Int.toNat x_2) (0 : Int))) (fun (x_4 : Bool) => brk (x_4) (x_1 (x_2)) (chk (InR (x_2 + (1 : Int))) (x_3 (x_2 + (1 : Int))))))) (x_1 ((-1 : Int)))) (F) ((0 : Int))))))
noncomputable def s56 (F : Nat) : CS E.G := ⟨56, [.v 9 true, .v 13 true, .sl 14, .sl 0], [.v 0 false [], .v 0 false []], fun x => spill_Bound F x.1 x.2.1 x.2.2.1 x.2.2.2.1⟩
noncomputable def cx56 (F : Nat) : Ctx E := ⟨[s104 F, s108 F], [(25, Try.f25), (89, Try.f89)], F, []⟩
noncomputable def h56 : Hint := (.c .n (.c .n (.p (.w ⟨[.i], [], [2], [(0, .i IntKind.i64)], [], [], [], 6⟩ (.l ⟨[.i], [0, 16, 112], [2], [(128, .i IntKind.i64)], [], [], [], 6⟩ (.c .n .n)) (.c .n (.l ⟨[.i, .i], [160, 608, 48, 80, 624], [5, 2, 4], [(640, .i IntKind.i64), (192, .i IntKind.i64)], [], [], [], 6⟩ (.c .n (.l ⟨[.i, .i], [832, 48, 816], [2, 5], [(192, .i IntKind.i64), (848, .i IntKind.i64)], [], [], [], 6⟩ (.c (.l ⟨[.i, .i], [1024, 192, 832, 48, 1040, 848, 816], [2, 5], [(1056, .i IntKind.i64), (272, .i IntKind.i64)], [], [], [], 7⟩ .n) .n)))))))))
theorem e56 (F : Nat) (a0 : Field) (a1 : Fleet) (a2 : List Flight) (a3 : List Int) : fnK (E := E) (cx56 F) Try.f56 [] [.v 9 true, .v 13 true, .sl 14, .sl 0] [.v 0 false [], .v 0 false []] h56 (a0, a1, a2, a3, ()) = spill_Bound F a0 a1 a2 a3 := by kernel_rfl
theorem c56 (F : Nat) : CSok E [] (s56 F) := ⟨en56, by
  have h := fn_sound (E := E) (gl := []) (cx := cx56 F) mix (allC (c104 F) (allC (c108 F) all0)) (inlC hf25 en25 (inlC hf89 en89 inl0)) rfl (fun _ h => nomatch h) hf56 (ps := [.v 9 true, .v 13 true, .sl 14, .sl 0]) (rs := [.v 0 false [], .v 0 false []]) (by decide) h56
  rwa [show fnK (E := E) (cx56 F) Try.f56 [] [.v 9 true, .v 13 true, .sl 14, .sl 0] [.v 0 false [], .v 0 false []] h56 = (fun x : AT E.G.car [.v 9 true, .v 13 true, .sl 14, .sl 0] => spill_Bound F x.1 x.2.1 x.2.2.1 x.2.2.2.1) from funext fun x => e56 F x.1 x.2.1 x.2.2.1 x.2.2.2.1] at h⟩
theorem hf58 : Try.prog.funcs[58]? = some Try.f58 := by kernel_rfl
theorem en58 : Proofs.Enters Try.prog 58 := Proofs.enters_of hf58 (by kernel_rfl) rfl
noncomputable def law11_trips (F : Nat) (a0 : Field) (a1 : Fleet) (a2 : List Int) : Option ((List Flight)) :=
  join F (fun (x : (Int) × (Int)) => loopC (fun (x_1 : (List (Flight)) × ((Int) × (Int))) => fun x_2 => brk (decide (x_1.snd.fst < x.fst)) (join F (fun (x_3 : (Int) × (Int)) => join F (fun (x_4 : (Int) × (Int)) => loopC (fun (x_5 : (Int) × ((Int) × ((List (Int)) × (Int)))) => fun x_6 => brk (decide (x_5.snd.fst < x_4.fst)) (join F (fun (x_7 : (Int) × ((List (Int)) × (Int))) => chk (InR (x_5.snd.fst + (1 : Int))) (x_6 ((x_7.fst, x_5.snd.fst + (1 : Int), x_7.snd.fst, x_7.snd.snd)))) (fun x_7 => join F (fun (x_8 : (Int) × (Int)) => brk (x_8.fst != x_5.fst) (chk (List.length x_5.snd.snd.fst + [x_8.fst].length ≤ (1000000 : Nat)) (x_7 ((x_8.fst, x_5.snd.snd.fst ++ [x_8.fst], x_8.snd)))) (x_7 ((x_5.fst, x_5.snd.snd.fst, x_8.snd)))) (fun x_8 => join F (fun (x_9 : (Int) × (Int)) => brk (x_9.fst == (0 : Int)) (brk (decide (x_5.fst ≥ a0.W)) (chk (InR (x_5.fst - a0.W)) (x_8 ((x_5.fst - a0.W, x_9.snd)))) (x_8 ((x_5.fst, x_9.snd)))) (brk (x_9.fst == (1 : Int)) (chk (((0 : Int) ≤ x_5.fst ∧ x_5.fst ≤ (9223372036854775807 : Int)) ∧ (0 : Int) < a0.W) (chk (InR (a0.W - (1 : Int))) (brk (decide (x_5.fst % a0.W < a0.W - (1 : Int))) (chk (InR (x_5.fst + (1 : Int))) (x_8 ((x_5.fst + (1 : Int), x_9.snd)))) (x_8 ((x_5.fst, x_9.snd)))))) (brk (x_9.fst == (2 : Int)) (chk (((0 : Int) ≤ x_5.fst ∧ x_5.fst ≤ (9223372036854775807 : Int)) ∧ (0 : Int) < a0.W) (chk (InR (a0.H - (1 : Int))) (brk (decide (x_5.fst / a0.W < a0.H - (1 : Int))) (chk (InR (x_5.fst + a0.W)) (x_8 ((x_5.fst + a0.W, x_9.snd)))) (x_8 ((x_5.fst, x_9.snd)))))) (chk (((0 : Int) ≤ x_5.fst ∧ x_5.fst ≤ (9223372036854775807 : Int)) ∧ (0 : Int) < a0.W) (brk (decide (x_5.fst % a0.W > (0 : Int))) (chk (InR (x_5.fst - (1 : Int))) (x_8 ((x_5.fst - (1 : Int), x_9.snd)))) (x_8 ((x_5.fst, x_9.snd)))))))) (fun x_9 => brk (decide (x_5.snd.snd.snd ≥ (↑a2.length : Int))) (x_9 (((0 : Int), x_5.snd.snd.snd))) (chk (InR (x_5.snd.snd.snd + (1 : Int))) (chk (InR (x_5.snd.snd.snd + (1 : Int) - (1 : Int))) (chk ((0 : Int) ≤ x_5.snd.snd.snd + (1 : Int) - (1 : Int) ∧ x_5.snd.snd.snd + (1 : Int) - (1 : Int) < (↑a2.length : Int)) (chk (InR (a2.getD (x_5.snd.snd.snd + (1 : Int) - (1 : Int)).toNat (0 : Int))) (chk ((0 : Int) ≤ a2.getD (x_5.snd.snd.snd + (1 : Int) - (1 : Int)).toNat (0 : Int) ∧ a2.getD (x_5.snd.snd.snd + (1 : Int) - (1 : Int)).toNat (0 : Int) ≤ (9223372036854775807 : Int)) (x_9 ((a2.getD (x_5.snd.snd.snd + (1 : Int) - (1 : Int)).toNat (0 : Int) % (4 : Int), x_5.snd.snd.snd + (1 : Int))))))))))))) (chk (InR ((↑(List.length x_5.snd.snd.fst) : Int) - (2 : Int))) (loopC (fun (x_7 : (Int) × (List (Int))) => fun x_8 => brk (decide (x_7.fst ≥ (0 : Int))) (chk ((0 : Int) ≤ x_7.fst ∧ x_7.fst < (↑(List.length x_7.snd) : Int)) (chk (List.length x_7.snd + [List.getD x_7.snd (Int.toNat x_7.fst) (0 : Int)].length ≤ (1000000 : Nat)) (chk (InR (x_7.fst - (1 : Int))) (x_8 ((x_7.fst - (1 : Int), x_7.snd ++ [List.getD x_7.snd (Int.toNat x_7.fst) (0 : Int)])))))) (chk (List.length x_1.fst + [Flight.mk x_3.fst (x_7.snd)].length ≤ (1000000 : Nat)) (chk (InR (x_1.snd.fst + (1 : Int))) (x_2 ((x_1.fst ++ [Flight.mk x_3.fst (x_7.snd)], x_1.snd.fst + (1 : Int), x_5.snd.snd.snd)))))) (F) (((↑(List.length x_5.snd.snd.fst) : Int) - (2 : Int), x_5.snd.snd.fst))))) (F) ((a1.Base, (0 : Int), [a1.Base], x_4.snd))) (fun x_4 => brk (decide (x_3.snd ≥ (↑a2.length : Int))) (x_4 (((0 : Int), x_3.snd))) (chk (InR (x_3.snd + (1 : Int))) (chk (InR (x_3.snd + (1 : Int) - (1 : Int))) (chk ((0 : Int) ≤ x_3.snd + (1 : Int) - (1 : Int) ∧ x_3.snd + (1 : Int) - (1 : Int) < (↑a2.length : Int)) (chk (InR (a2.getD (x_3.snd + (1 : Int) - (1 : Int)).toNat (0 : Int))) (chk ((0 : Int) ≤ a2.getD (x_3.snd + (1 : Int) - (1 : Int)).toNat (0 : Int) ∧ a2.getD (x_3.snd + (1 : Int) - (1 : Int)).toNat (0 : Int) ≤ (9223372036854775807 : Int)) (x_4 ((a2.getD (x_3.snd + (1 : Int) - (1 : Int)).toNat (0 : Int) % (5 : Int), x_3.snd + (1 : Int))))))))))) (fun x_3 => brk (decide (x_1.snd.snd ≥ (↑a2.length : Int))) (x_3 (((0 : Int), x_1.snd.snd))) (chk (InR (x_1.snd.snd + (1 : Int))) (chk (InR (x_1.snd.snd + (1 : Int) - (1 : Int))) (chk ((0 : Int) ≤ x_1.snd.snd + (1 : Int) - (1 : Int) ∧ x_1.snd.snd + (1 : Int) - (1 : Int) < (↑a2.length : Int)) (chk (InR (a2.getD (x_1.snd.snd + (1 : Int) - (1 : Int)).toNat (0 : Int))) (chk ((0 : Int) ≤ a2.getD (x_1.snd.snd + (1 : Int) - (1 : Int)).toNat (0 : Int) ∧ a2.getD (x_1.snd.snd + (1 : Int) - (1 : Int)).toNat (0 : Int) ≤ (9223372036854775807 : Int)) (x_3 ((a2.getD (x_1.snd.snd + (1 : Int) - (1 : Int)).toNat (0 : Int) % (14 : Int), x_1.snd.snd + (1 : Int))))))))))) (some (x_1.fst))) (F) (([], (0 : Int), x.snd))) (fun x => brk (decide ((0 : Int) ≥ (↑a2.length : Int))) (x (((0 : Int), (0 : Int)))) (chk ((0 : Int) ≤ IntKind.i64.wrap (IntKind.i64.wrap ((0 : Int) + (1 : Int)) - (1 : Int)) ∧ IntKind.i64.wrap (IntKind.i64.wrap ((0 : Int) + (1 : Int)) - (1 : Int)) < (↑a2.length : Int)) (chk (InR (a2.getD (IntKind.i64.wrap (IntKind.i64.wrap ((0 : Int) + (1 : Int)) - (1 : Int))).toNat (0 : Int))) (chk ((0 : Int) ≤ a2.getD (IntKind.i64.wrap (IntKind.i64.wrap ((0 : Int) + (1 : Int)) - (1 : Int))).toNat (0 : Int) ∧ a2.getD (IntKind.i64.wrap (IntKind.i64.wrap ((0 : Int) + (1 : Int)) - (1 : Int))).toNat (0 : Int) ≤ (9223372036854775807 : Int)) (x ((a2.getD (IntKind.i64.wrap (IntKind.i64.wrap ((0 : Int) + (1 : Int)) - (1 : Int))).toNat (0 : Int) % (9 : Int), IntKind.i64.wrap ((0 : Int) + (1 : Int)))))))))
noncomputable def s58 (F : Nat) : CS E.G := ⟨58, [.v 9 true, .v 13 true, .sl 2], [.sl 14 83], fun x => law11_trips F x.1 x.2.1 x.2.2.1⟩
noncomputable def cx58 (F : Nat) : Ctx E := ⟨[], [(13, Try.f13), (78, Try.f78)], F, []⟩
noncomputable def h58 : Hint := (.p (.w ⟨[.i, .i], [], [1, 5, 4], [(0, .i IntKind.i64)], [], [(5, 0, .i IntKind.i64)], [], 6⟩ .n (.l ⟨[.l 14, .i, .i], [64, 256, 48, 112], [3, 2, 5, 4, 0, 1], [(128, .h 6 83 14), (272, .i IntKind.i64)], [], [(5, 0, .i IntKind.i64)], [], 7⟩ (.c (.w ⟨[.i, .i], [], [1, 5, 4], [(0, .i IntKind.i64)], [], [(5, 0, .i IntKind.i64)], [], 7⟩ .n (.w ⟨[.i, .i], [], [1, 5, 4], [(0, .i IntKind.i64)], [], [(5, 0, .i IntKind.i64)], [], 9⟩ .n (.l ⟨[.i, .i, .l 0, .i], [64, 128, 256, 448, 48, 144, 272, 112], [3, 6, 2, 8, 5, 4, 0, 1], [(160, .i IntKind.i64), (464, .i IntKind.i64)], [], [(8, 1, .h 9 3 0), (5, 0, .i IntKind.i64)], [], 10⟩ (.c (.j ⟨[.i, .l 0, .i], [64, 128, 256, 448, 48, 144, 272, 464, 112], [3, 6, 2, 8, 5, 4, 0, 1], [(160, .i IntKind.i64)], [], [(8, 1, .h 10 3 0), (5, 0, .i IntKind.i64)], [], 11⟩ (.k (.j ⟨[.i, .i], [64, 128, 256, 448, 160, 48, 144, 272, 464, 112], [3, 6, 2, 8, 5, 4, 0, 9, 1], [(176, .i IntKind.i64)], [], [(5, 0, .i IntKind.i64)], [], 10⟩ (.w ⟨[.i, .i], [], [1, 5, 4], [(0, .i IntKind.i64)], [], [(5, 0, .i IntKind.i64)], [], 10⟩ .n (.c .n (.c .n (.c .n .n)))) .n)) .n) (.l ⟨[.i, .l 0], [64, 128, 256, 48, 144, 272, 112], [3, 6, 2, 8, 5, 4, 0, 1], [(192, .i IntKind.i64)], [], [(8, 1, .h 10 3 0)], [], 11⟩ .n))))) .n))))
theorem e58 (F : Nat) (a0 : Field) (a1 : Fleet) (a2 : List Int) : fnK (E := E) (cx58 F) Try.f58 [] [.v 9 true, .v 13 true, .sl 2] [.sl 14 83] h58 (a0, a1, a2, ()) = law11_trips F a0 a1 a2 := by kernel_rfl
theorem c58 (F : Nat) : CSok E [] (s58 F) := ⟨en58, by
  have h := fn_sound (E := E) (gl := []) (cx := cx58 F) mix all0 (inlC hf13 en13 (inlC hf78 en78 inl0)) rfl (fun _ h => nomatch h) hf58 (ps := [.v 9 true, .v 13 true, .sl 2]) (rs := [.sl 14 83]) (by decide) h58
  rwa [show fnK (E := E) (cx58 F) Try.f58 [] [.v 9 true, .v 13 true, .sl 2] [.sl 14 83] h58 = (fun x : AT E.G.car [.v 9 true, .v 13 true, .sl 2] => law11_trips F x.1 x.2.1 x.2.2.1) from funext fun x => e58 F x.1 x.2.1 x.2.2.1] at h⟩
theorem hf60 : Try.prog.funcs[60]? = some Try.f60 := by kernel_rfl
theorem en60 : Proofs.Enters Try.prog 60 := Proofs.enters_of hf60 (by kernel_rfl) rfl
noncomputable def slices_Max_int (F : Nat) (a0 : List Int) : Option (Int) :=
  brk (decide ((↑a0.length : Int) < (1 : Int))) (none) (chk ((0 : Int) ≤ (0 : Int) ∧ (0 : Int) < (↑a0.length : Int)) (loopC (fun (x : (Int) × (Int)) => fun x_1 => brk (decide (x.fst < (↑a0.length : Int))) (chk ((0 : Int) ≤ x.fst ∧ x.fst < (↑a0.length : Int)) (chk (InR (x.fst + (1 : Int))) (x_1 ((x.fst + (1 : Int), if a0.getD (Int.toNat x.fst) (0 : Int) > x.snd then a0.getD (Int.toNat x.fst) (0 : Int) else x.snd))))) (some (x.snd))) (F) (((1 : Int), a0.getD (Int.toNat (0 : Int)) (0 : Int)))))
noncomputable def s60 (F : Nat) : CS E.G := ⟨60, [.sl 0], [.v 0 false []], fun x => slices_Max_int F x.1⟩
noncomputable def cx60 (F : Nat) : Ctx E := ⟨[], [], F, []⟩
noncomputable def h60 : Hint := (.c .n (.l ⟨[.i, .i], [0], [0], [(64, .i IntKind.i64), (48, .i IntKind.i64)], [], [], [], 1⟩ .n))
theorem e60 (F : Nat) (a0 : List Int) : fnK (E := E) (cx60 F) Try.f60 [] [.sl 0] [.v 0 false []] h60 (a0, ()) = slices_Max_int F a0 := by kernel_rfl
theorem c60 (F : Nat) : CSok E [] (s60 F) := ⟨en60, by
  have h := fn_sound (E := E) (gl := []) (cx := cx60 F) mix all0 inl0 rfl (fun _ h => nomatch h) hf60 (ps := [.sl 0]) (rs := [.v 0 false []]) (by decide) h60
  rwa [show fnK (E := E) (cx60 F) Try.f60 [] [.sl 0] [.v 0 false []] h60 = (fun x : AT E.G.car [.sl 0] => slices_Max_int F x.1) from funext fun x => e60 F x.1] at h⟩
theorem hf59 : Try.prog.funcs[59]? = some Try.f59 := by kernel_rfl
theorem en59 : Proofs.Enters Try.prog 59 := Proofs.enters_of hf59 (by kernel_rfl) rfl
theorem hf61 : Try.prog.funcs[61]? = some Try.f61 := by kernel_rfl
theorem en61 : Proofs.Enters Try.prog 61 := Proofs.enters_of hf61 (by kernel_rfl) rfl
theorem hf62 : Try.prog.funcs[62]? = some Try.f62 := by kernel_rfl
theorem en62 : Proofs.Enters Try.prog 62 := Proofs.enters_of hf62 (by kernel_rfl) rfl
theorem hf9 : Try.prog.funcs[9]? = some Try.f9 := by kernel_rfl
theorem en9 : Proofs.Enters Try.prog 9 := Proofs.enters_of hf9 (by kernel_rfl) rfl
noncomputable def law11_SpillBest (F : Nat) (a0 : List Int) (a1 : List Int) (a2 : List Int) (a3 : Int) (a4 : Int) (a5 : Int) (a6 : List Int) : Option (Bool) :=
  bnd (law11_Made F a0) (fun (x : (Field) × ((List (Span)) × (List (Int)))) => chk (InR a3) (chk (((0 : Int) ≤ a3 ∧ a3 ≤ (9223372036854775807 : Int)) ∧ (0 : Int) < (↑x.fst.Cells.length : Int)) (chk (InR a4) (chk ((0 : Int) ≤ a4 ∧ a4 ≤ (9223372036854775807 : Int)) (chk (InR ((1 : Int) + a4 % (4 : Int))) (chk (InR a5) (chk ((0 : Int) ≤ a5 ∧ a5 ≤ (9223372036854775807 : Int)) (chk (InR ((1 : Int) + a5 % (4 : Int))) (bnd (law11_trips F (Field.mk x.fst.W x.fst.H (x.fst.Cells)) (Fleet.mk (a3 % (↑x.fst.Cells.length : Int)) (20 : Int) ((1 : Int) + a4 % (4 : Int)) ((1 : Int) + a5 % (4 : Int))) a1) (fun (x_1 : List (Flight)) => bnd (spill_Best F (Field.mk x.fst.W x.fst.H (x.fst.Cells)) (Fleet.mk (a3 % (↑x.fst.Cells.length : Int)) (20 : Int) ((1 : Int) + a4 % (4 : Int)) ((1 : Int) + a5 % (4 : Int))) x_1) (fun (x_2 : (List (Bool)) × ((Int) × (Int))) => bnd (spill_Prices F (Field.mk x.fst.W x.fst.H (x.fst.Cells)) (Fleet.mk (a3 % (↑x.fst.Cells.length : Int)) (20 : Int) ((1 : Int) + a4 % (4 : Int)) ((1 : Int) + a5 % (4 : Int))) x_1) (fun (x_3 : (List (Int)) × (Int)) => brk (x_2.snd.snd != (0 : Int) || x_3.snd != (0 : Int) || (↑(List.length x_2.fst) : Int) != (↑(List.length x_1) : Int) || (↑(List.length x_3.fst) : Int) != (48 : Int)) (some (false)) (join F (fun (x_4 : (Int) × (Bool)) => brk (!x_4.snd || x_4.fst != x_2.snd.fst) (some (false)) (join F (fun (x_5 : (Int) × ((Bool) × (Int))) => brk (!x_5.snd.fst || decide (x_5.fst > x_2.snd.fst)) (some (false)) (bnd (spill_Bound F (Field.mk x.fst.W x.fst.H (x.fst.Cells)) (Fleet.mk (a3 % (↑x.fst.Cells.length : Int)) (20 : Int) ((1 : Int) + a4 % (4 : Int)) ((1 : Int) + a5 % (4 : Int))) x_1 x_3.fst) (fun (x_6 : (Int) × (Int)) => chk ((0 : Int) ≤ (48 : Int) ∧ (48 : Int) ≤ (48 : Int) ∧ (48 : Int) ≤ (100000 : Int)) (loopC (fun (x_7 : (Int) × (List (Int))) => fun x_8 => brk (decide (x_7.fst < (↑(List.replicate (Int.toNat (48 : Int)) (0 : Int)).length : Int))) (join F (fun (x_9 : List (Int)) => chk (InR (x_7.fst + (1 : Int))) (x_8 ((x_7.fst + (1 : Int), x_9)))) (fun x_9 => brk (decide ((↑a6.length : Int) > (0 : Int))) (chk (((0 : Int) ≤ x_7.fst ∧ x_7.fst ≤ (9223372036854775807 : Int)) ∧ (0 : Int) < (↑a6.length : Int)) (chk ((0 : Int) ≤ x_7.fst % (↑a6.length : Int) ∧ x_7.fst % (↑a6.length : Int) < (↑a6.length : Int)) (chk (InR (a6.getD (x_7.fst % (↑a6.length : Int)).toNat (0 : Int))) (chk ((0 : Int) ≤ x_7.fst ∧ x_7.fst < (↑(List.length x_7.snd) : Int)) (x_9 (List.set x_7.snd (Int.toNat x_7.fst) (a6.getD (x_7.fst % (↑a6.length : Int)).toNat (0 : Int)))))))) (x_9 (x_7.snd)))) (bnd (spill_Bound F (Field.mk x.fst.W x.fst.H (x.fst.Cells)) (Fleet.mk (a3 % (↑x.fst.Cells.length : Int)) (20 : Int) ((1 : Int) + a4 % (4 : Int)) ((1 : Int) + a5 % (4 : Int))) x_1 x_7.snd) (fun (x_9 : (Int) × (Int)) => brk (x_6.snd != (0 : Int) || x_9.snd != (0 : Int) || x_6.fst != x_2.snd.fst || decide (x_9.fst < x_2.snd.fst)) (some (false)) (chk (InR ((1 : Int) + a5 % (4 : Int) + (1 : Int))) (bnd (spill_Best F (Field.mk x.fst.W x.fst.H (x.fst.Cells)) (Fleet.mk (a3 % (↑x.fst.Cells.length : Int)) (20 : Int) ((1 : Int) + a4 % (4 : Int)) ((1 : Int) + a5 % (4 : Int) + (1 : Int))) x_1) (fun (x_10 : (List (Bool)) × ((Int) × (Int))) => brk (x_10.snd.snd != (0 : Int) || decide (x_10.snd.fst < x_2.snd.fst)) (some (false)) (join F (fun (x_11 : PUnit) => bnd (law11_awake F) (fun (x_12 : Bool) => some (x_12))) (fun x_11 => brk (decide ((↑(List.length x_1) : Int) > (0 : Int))) (chk ((0 : Int) ≤ (1 : Int) ∧ (1 : Int) ≤ (↑(List.length x_1) : Int) ∧ (↑(List.length x_1) : Int) ≤ (↑(List.length x_1) : Int)) (bnd (spill_Best F (Field.mk x.fst.W x.fst.H (x.fst.Cells)) (Fleet.mk (a3 % (↑x.fst.Cells.length : Int)) (20 : Int) ((1 : Int) + a4 % (4 : Int)) ((1 : Int) + a5 % (4 : Int))) (List.take ((↑(List.length x_1) : Int) - (1 : Int)).toNat (List.drop (Int.toNat (1 : Int)) x_1))) (fun (x_12 : (List (Bool)) × ((Int) × (Int))) => brk (x_12.snd.snd != (0 : Int) || decide (x_12.snd.fst > x_2.snd.fst)) (some (false)) (chk ((0 : Int) ≤ (0 : Int) ∧ (0 : Int) < (↑(List.length x_1) : Int)) (loopC (fun (x_13 : (List (Sight)) × (Int)) => fun x_14 => brk (decide (x_13.snd < (↑(List.getD x_1 (Int.toNat (0 : Int)) (Flight.mk (0 : Int) [])).Path.length : Int))) (chk ((0 : Int) ≤ x_13.snd ∧ x_13.snd < (↑(List.getD x_1 (Int.toNat (0 : Int)) (Flight.mk (0 : Int) [])).Path.length : Int)) (chk ((0 : Int) ≤ (List.getD x_1 (Int.toNat (0 : Int)) (Flight.mk (0 : Int) [])).Path.getD (Int.toNat x_13.snd) (0 : Int) ∧ (List.getD x_1 (Int.toNat (0 : Int)) (Flight.mk (0 : Int) [])).Path.getD (Int.toNat x_13.snd) (0 : Int) < (↑(List.length x.snd.snd) : Int)) (chk ((0 : Int) ≤ (List.getD x_1 (Int.toNat (0 : Int)) (Flight.mk (0 : Int) [])).Path.getD (Int.toNat x_13.snd) (0 : Int) ∧ (List.getD x_1 (Int.toNat (0 : Int)) (Flight.mk (0 : Int) [])).Path.getD (Int.toNat x_13.snd) (0 : Int) < (↑(List.length x.snd.snd) : Int)) (chk (List.length x_13.fst + [Sight.mk ((List.getD x_1 (Int.toNat (0 : Int)) (Flight.mk (0 : Int) [])).Path.getD (Int.toNat x_13.snd) (0 : Int)) (Span.mk (List.getD x.snd.snd (Int.toNat ((List.getD x_1 (Int.toNat (0 : Int)) (Flight.mk (0 : Int) [])).Path.getD (Int.toNat x_13.snd) (0 : Int))) (0 : Int)) (List.getD x.snd.snd (Int.toNat ((List.getD x_1 (Int.toNat (0 : Int)) (Flight.mk (0 : Int) [])).Path.getD (Int.toNat x_13.snd) (0 : Int))) (0 : Int)))].length ≤ (1000000 : Nat)) (chk (InR (x_13.snd + (1 : Int))) (x_14 ((x_13.fst ++ [Sight.mk ((List.getD x_1 (Int.toNat (0 : Int)) (Flight.mk (0 : Int) [])).Path.getD (Int.toNat x_13.snd) (0 : Int)) (Span.mk (List.getD x.snd.snd (Int.toNat ((List.getD x_1 (Int.toNat (0 : Int)) (Flight.mk (0 : Int) [])).Path.getD (Int.toNat x_13.snd) (0 : Int))) (0 : Int)) (List.getD x.snd.snd (Int.toNat ((List.getD x_1 (Int.toNat (0 : Int)) (Flight.mk (0 : Int) [])).Path.getD (Int.toNat x_13.snd) (0 : Int))) (0 : Int)))], x_13.snd + (1 : Int))))))))) (bnd (spill_See F (Field.mk x.fst.W x.fst.H (x.fst.Cells)) x_13.fst) (fun (x_15 : (Field) × (Int)) => chk ((0 : Int) ≤ (0 : Int) ∧ (0 : Int) < (↑(List.length x_1) : Int)) (bnd (spill_Worth F (Field.mk x_15.fst.W x_15.fst.H (x_15.fst.Cells)) (Fleet.mk (a3 % (↑x.fst.Cells.length : Int)) (20 : Int) ((1 : Int) + a4 % (4 : Int)) ((1 : Int) + a5 % (4 : Int))) (Flight.mk (List.getD x_1 (Int.toNat (0 : Int)) (Flight.mk (0 : Int) [])).From ((List.getD x_1 (Int.toNat (0 : Int)) (Flight.mk (0 : Int) [])).Path))) (fun (x_16 : (Int) × ((Int) × (Int))) => brk (x_15.snd != (0 : Int) || x_16.snd.snd != (0 : Int) || x_16.fst != (0 : Int)) (some (false)) (x_11 (()))))))) (F) (([], (0 : Int)))))))) (x_11 (())))))))))) (F) (((0 : Int), List.replicate (Int.toNat (48 : Int)) (0 : Int))))))) (fun x_5 => chk ((0 : Int) ≤ (48 : Int) ∧ (48 : Int) ≤ (48 : Int) ∧ (48 : Int) ≤ (100000 : Int)) (loopC (fun (x_6 : (Int) × ((Int) × ((Int) × (List (Int))))) => fun x_7 => brk (decide (x_6.snd.fst < (↑(List.length x_1) : Int))) (join F (fun (x_8 : (Int) × ((Int) × (List (Int)))) => chk (InR (x_6.snd.fst + (1 : Int))) (x_7 ((x_8.fst, x_6.snd.fst + (1 : Int), x_8.snd.fst, x_8.snd.snd)))) (fun x_8 => chk ((0 : Int) ≤ x_6.snd.fst ∧ x_6.snd.fst < (↑(List.length x_1) : Int)) (bnd (spill_Worth F (Field.mk x.fst.W x.fst.H (x.fst.Cells)) (Fleet.mk (a3 % (↑x.fst.Cells.length : Int)) (20 : Int) ((1 : Int) + a4 % (4 : Int)) ((1 : Int) + a5 % (4 : Int))) (Flight.mk (List.getD x_1 (Int.toNat x_6.snd.fst) (Flight.mk (0 : Int) [])).From ((List.getD x_1 (Int.toNat x_6.snd.fst) (Flight.mk (0 : Int) [])).Path))) (fun (x_9 : (Int) × ((Int) × (Int))) => chk ((!(x_9.snd.snd != (0 : Int) || decide (x_9.fst < (0 : Int)))) = true → InR ((List.getD x_1 (Int.toNat x_6.snd.fst) (Flight.mk (0 : Int) [])).From + x_9.snd.fst)) (brk (x_9.snd.snd != (0 : Int) || decide (x_9.fst < (0 : Int)) || decide ((List.getD x_1 (Int.toNat x_6.snd.fst) (Flight.mk (0 : Int) [])).From + x_9.snd.fst > (48 : Int)) || decide (x_9.snd.fst < (1 : Int))) (x_5 (((0 : Int), false, x_6.snd.snd.fst))) (join F (fun (x_10 : (Int) × (Int)) => brk (!x_10.fst == (1 : Int)) (x_8 ((x_6.fst, x_10.snd, x_6.snd.snd.snd))) (chk (InR ((List.getD x_1 (Int.toNat x_6.snd.fst) (Flight.mk (0 : Int) [])).From + x_9.snd.fst)) (chk ((0 : Int) ≤ (List.getD x_1 (Int.toNat x_6.snd.fst) (Flight.mk (0 : Int) [])).From ∧ (List.getD x_1 (Int.toNat x_6.snd.fst) (Flight.mk (0 : Int) [])).From ≤ (List.getD x_1 (Int.toNat x_6.snd.fst) (Flight.mk (0 : Int) [])).From + x_9.snd.fst ∧ (List.getD x_1 (Int.toNat x_6.snd.fst) (Flight.mk (0 : Int) [])).From + x_9.snd.fst ≤ (↑(List.length x_6.snd.snd.snd) : Int)) (bnd (slices_Max_int F (List.take ((List.getD x_1 (Int.toNat x_6.snd.fst) (Flight.mk (0 : Int) [])).From + x_9.snd.fst - (List.getD x_1 (Int.toNat x_6.snd.fst) (Flight.mk (0 : Int) [])).From).toNat (List.drop (List.getD x_1 (Int.toNat x_6.snd.fst) (Flight.mk (0 : Int) [])).From.toNat x_6.snd.snd.snd))) (fun (x_11 : Int) => brk (decide (x_11 ≥ (1 : Int) + a5 % (4 : Int)) && false) (x_5 (((0 : Int), false, x_10.snd))) (brk (decide (x_11 ≥ (1 : Int) + a5 % (4 : Int))) (x_8 ((x_6.fst, x_10.snd, x_6.snd.snd.snd))) (loopC (fun (x_12 : (Int) × (List (Int))) => fun x_13 => chk (InR ((List.getD x_1 (Int.toNat x_6.snd.fst) (Flight.mk (0 : Int) [])).From + x_9.snd.fst)) (brk (decide (x_12.fst < (List.getD x_1 (Int.toNat x_6.snd.fst) (Flight.mk (0 : Int) [])).From + x_9.snd.fst)) (chk ((0 : Int) ≤ x_12.fst ∧ x_12.fst < (↑(List.length x_12.snd) : Int)) (chk (InR (List.getD x_12.snd (Int.toNat x_12.fst) (0 : Int) + (1 : Int))) (chk ((0 : Int) ≤ x_12.fst ∧ x_12.fst < (↑(List.length x_12.snd) : Int)) (chk (InR (x_12.fst + (1 : Int))) (x_13 ((x_12.fst + (1 : Int), List.set x_12.snd (Int.toNat x_12.fst) (List.getD x_12.snd (Int.toNat x_12.fst) (0 : Int) + (1 : Int))))))))) (chk (InR (x_6.fst + x_9.fst)) (x_8 ((x_6.fst + x_9.fst, x_10.snd, x_12.snd)))))) (F) (((List.getD x_1 (Int.toNat x_6.snd.fst) (Flight.mk (0 : Int) [])).From, x_6.snd.snd.snd))))))))) (fun x_10 => brk (decide (x_6.snd.snd.fst ≥ (↑a2.length : Int))) (x_10 (((0 : Int), x_6.snd.snd.fst))) (chk (InR (x_6.snd.snd.fst + (1 : Int))) (chk (InR (x_6.snd.snd.fst + (1 : Int) - (1 : Int))) (chk ((0 : Int) ≤ x_6.snd.snd.fst + (1 : Int) - (1 : Int) ∧ x_6.snd.snd.fst + (1 : Int) - (1 : Int) < (↑a2.length : Int)) (chk (InR (a2.getD (x_6.snd.snd.fst + (1 : Int) - (1 : Int)).toNat (0 : Int))) (chk ((0 : Int) ≤ a2.getD (x_6.snd.snd.fst + (1 : Int) - (1 : Int)).toNat (0 : Int) ∧ a2.getD (x_6.snd.snd.fst + (1 : Int) - (1 : Int)).toNat (0 : Int) ≤ (9223372036854775807 : Int)) (x_10 ((a2.getD (x_6.snd.snd.fst + (1 : Int) - (1 : Int)).toNat (0 : Int) % (2 : Int), x_6.snd.snd.fst + (1 : Int)))))))))))))))) (x_5 ((x_6.fst, true, x_6.snd.snd.fst)))) (F) (((0 : Int), (0 : Int), (0 : Int), List.replicate (Int.toNat (48 : Int)) (0 : Int))))))) (fun x_4 => chk ((0 : Int) ≤ (48 : Int) ∧ (48 : Int) ≤ (48 : Int) ∧ (48 : Int) ≤ (100000 : Int)) (loopC (fun (x_5 : (Int) × ((Int) × (List (Int)))) => fun x_6 => brk (decide (x_5.snd.fst < (↑(List.length x_1) : Int))) (join F (fun (x_7 : (Int) × (List (Int))) => chk (InR (x_5.snd.fst + (1 : Int))) (x_6 ((x_7.fst, x_5.snd.fst + (1 : Int), x_7.snd)))) (fun x_7 => chk ((0 : Int) ≤ x_5.snd.fst ∧ x_5.snd.fst < (↑(List.length x_1) : Int)) (bnd (spill_Worth F (Field.mk x.fst.W x.fst.H (x.fst.Cells)) (Fleet.mk (a3 % (↑x.fst.Cells.length : Int)) (20 : Int) ((1 : Int) + a4 % (4 : Int)) ((1 : Int) + a5 % (4 : Int))) (Flight.mk (List.getD x_1 (Int.toNat x_5.snd.fst) (Flight.mk (0 : Int) [])).From ((List.getD x_1 (Int.toNat x_5.snd.fst) (Flight.mk (0 : Int) [])).Path))) (fun (x_8 : (Int) × ((Int) × (Int))) => chk ((!(x_8.snd.snd != (0 : Int) || decide (x_8.fst < (0 : Int)))) = true → InR ((List.getD x_1 (Int.toNat x_5.snd.fst) (Flight.mk (0 : Int) [])).From + x_8.snd.fst)) (brk (x_8.snd.snd != (0 : Int) || decide (x_8.fst < (0 : Int)) || decide ((List.getD x_1 (Int.toNat x_5.snd.fst) (Flight.mk (0 : Int) [])).From + x_8.snd.fst > (48 : Int)) || decide (x_8.snd.fst < (1 : Int))) (x_4 (((0 : Int), false))) (chk ((0 : Int) ≤ x_5.snd.fst ∧ x_5.snd.fst < (↑(List.length x_2.fst) : Int)) (brk (!List.getD x_2.fst (Int.toNat x_5.snd.fst) false) (x_7 ((x_5.fst, x_5.snd.snd))) (chk (InR ((List.getD x_1 (Int.toNat x_5.snd.fst) (Flight.mk (0 : Int) [])).From + x_8.snd.fst)) (chk ((0 : Int) ≤ (List.getD x_1 (Int.toNat x_5.snd.fst) (Flight.mk (0 : Int) [])).From ∧ (List.getD x_1 (Int.toNat x_5.snd.fst) (Flight.mk (0 : Int) [])).From ≤ (List.getD x_1 (Int.toNat x_5.snd.fst) (Flight.mk (0 : Int) [])).From + x_8.snd.fst ∧ (List.getD x_1 (Int.toNat x_5.snd.fst) (Flight.mk (0 : Int) [])).From + x_8.snd.fst ≤ (↑(List.length x_5.snd.snd) : Int)) (bnd (slices_Max_int F (List.take ((List.getD x_1 (Int.toNat x_5.snd.fst) (Flight.mk (0 : Int) [])).From + x_8.snd.fst - (List.getD x_1 (Int.toNat x_5.snd.fst) (Flight.mk (0 : Int) [])).From).toNat (List.drop (List.getD x_1 (Int.toNat x_5.snd.fst) (Flight.mk (0 : Int) [])).From.toNat x_5.snd.snd))) (fun (x_9 : Int) => brk (decide (x_9 ≥ (1 : Int) + a5 % (4 : Int)) && true) (x_4 (((0 : Int), false))) (brk (decide (x_9 ≥ (1 : Int) + a5 % (4 : Int))) (x_7 ((x_5.fst, x_5.snd.snd))) (loopC (fun (x_10 : (Int) × (List (Int))) => fun x_11 => chk (InR ((List.getD x_1 (Int.toNat x_5.snd.fst) (Flight.mk (0 : Int) [])).From + x_8.snd.fst)) (brk (decide (x_10.fst < (List.getD x_1 (Int.toNat x_5.snd.fst) (Flight.mk (0 : Int) [])).From + x_8.snd.fst)) (chk ((0 : Int) ≤ x_10.fst ∧ x_10.fst < (↑(List.length x_10.snd) : Int)) (chk (InR (List.getD x_10.snd (Int.toNat x_10.fst) (0 : Int) + (1 : Int))) (chk ((0 : Int) ≤ x_10.fst ∧ x_10.fst < (↑(List.length x_10.snd) : Int)) (chk (InR (x_10.fst + (1 : Int))) (x_11 ((x_10.fst + (1 : Int), List.set x_10.snd (Int.toNat x_10.fst) (List.getD x_10.snd (Int.toNat x_10.fst) (0 : Int) + (1 : Int))))))))) (chk (InR (x_5.fst + x_8.fst)) (x_7 ((x_5.fst + x_8.fst, x_10.snd)))))) (F) (((List.getD x_1 (Int.toNat x_5.snd.fst) (Flight.mk (0 : Int) [])).From, x_5.snd.snd))))))))))))))) (x_4 ((x_5.fst, true)))) (F) (((0 : Int), (0 : Int), List.replicate (Int.toNat (48 : Int)) (0 : Int))))))))))))))))))
noncomputable def s9 (F : Nat) : CS E.G := ⟨9, [.sl 2, .sl 2, .sl 2, .v 2 false, .v 2 false, .v 2 false, .sl 2], [.v 1 false []], fun x => law11_SpillBest F x.1 x.2.1 x.2.2.1 x.2.2.2.1 x.2.2.2.2.1 x.2.2.2.2.2.1 x.2.2.2.2.2.2.1⟩
noncomputable def cx9 (F : Nat) : Ctx E := ⟨[s12 F, s20 F, s27 F, s49 F, s51 F, s54 F, s56 F, s58 F, s60 F], [(13, Try.f13), (78, Try.f78), (59, Try.f59), (61, Try.f61), (62, Try.f62)], F, []⟩
noncomputable def h9 : Hint := (.c .n (.p (.w ⟨[.i, .b], [], [7, 11, 9, 4, 8, 12, 10], [(0, .t [.i IntKind.i64, .b])], [], [], [], 17⟩ (.l ⟨[.i, .i, .l 0], [0, 16, 64, 320, 48, 144, 304], [7, 11, 9, 4, 8, 12, 10, 17], [(160, .i IntKind.i64), (336, .i IntKind.i64)], [], [], [(17, 3, 0)], 18⟩ (.c (.j ⟨[.i, .l 0], [0, 16, 64, 320, 48, 144, 336, 304], [7, 11, 9, 4, 8, 12, 10, 17], [(160, .i IntKind.i64)], [], [], [(17, 3, 0)], 18⟩ (.c .n (.p (.c .n (.c .n (.c .n (.l ⟨[.i, .l 0], [0, 16, 64, 192, 320, 160, 224, 48, 144, 208, 336, 304], [7, 11, 9, 4, 8, 12, 10, 19, 17, 18], [(272, .i IntKind.i64)], [], [], [(17, 3, 0)], 20⟩ .n)))))) .n) .n)) (.c .n (.w ⟨[.i, .b, .i], [], [7, 15, 9, 2, 4, 8, 16, 10, 14], [(0, .t [.i IntKind.i64, .b])], [], [(15, 0, .i IntKind.i64)], [], 17⟩ (.l ⟨[.i, .i, .i, .l 0], [0, 16, 64, 320, 48, 144, 304], [7, 15, 9, 2, 4, 8, 16, 10, 14, 17], [(160, .i IntKind.i64), (336, .i IntKind.i64)], [], [(15, 0, .i IntKind.i64)], [(17, 3, 0)], 18⟩ (.c (.j ⟨[.i, .i, .l 0], [0, 16, 64, 320, 48, 144, 336, 304], [7, 15, 9, 2, 4, 8, 16, 10, 14, 17], [(160, .i IntKind.i64)], [], [(15, 0, .i IntKind.i64)], [(17, 3, 0)], 18⟩ (.c .n (.p (.w ⟨[.i, .i], [], [15, 2, 14], [(0, .i IntKind.i64)], [], [(15, 0, .i IntKind.i64)], [], 20⟩ .n (.c .n (.c .n (.c .n (.l ⟨[.i, .l 0], [0, 16, 64, 192, 320, 160, 224, 48, 144, 208, 336, 304], [7, 15, 9, 2, 4, 8, 16, 10, 14, 19, 17, 18], [(272, .i IntKind.i64)], [], [], [(17, 3, 0)], 20⟩ .n))))))) .n) .n)) (.c .n (.l ⟨[.i, .l 0], [96, 288, 352, 480, 2272, 272, 336, 304, 240, 496], [3, 8, 6, 10, 7, 17, 9, 4], [(2288, .i IntKind.i64)], [], [], [(17, 3, 0)], 18⟩ (.c (.j ⟨[.l 0], [96, 288, 352, 480, 2272, 272, 336, 304, 240, 496, 2288], [3, 8, 6, 10, 7, 17, 9, 4], [], [], [], [(17, 3, 0)], 18⟩ .n .n) (.c .n (.c .n (.j ⟨[], [], [], [], [], [], [], 20⟩ (.c (.c .n (.l ⟨[.l 11, .i], [3648, 288, 272, 304, 3632, 240], [8, 6, 10, 21, 7, 9, 4], [(592, .h 22 56 11), (3664, .i IntKind.i64)], [], [], [], 23⟩ (.c .n .n))) .n) .n)))))))))))
theorem e9 (F : Nat) (a0 : List Int) (a1 : List Int) (a2 : List Int) (a3 : Int) (a4 : Int) (a5 : Int) (a6 : List Int) : fnK (E := E) (cx9 F) Try.f9 [] [.sl 2, .sl 2, .sl 2, .v 2 false, .v 2 false, .v 2 false, .sl 2] [.v 1 false []] h9 (a0, a1, a2, a3, a4, a5, a6, ()) = law11_SpillBest F a0 a1 a2 a3 a4 a5 a6 := by kernel_rfl
theorem c9 (F : Nat) : CSok E [] (s9 F) := ⟨en9, by
  have h := fn_sound (E := E) (gl := []) (cx := cx9 F) mix (allC (c12 F) (allC (c20 F) (allC (c27 F) (allC (c49 F) (allC (c51 F) (allC (c54 F) (allC (c56 F) (allC (c58 F) (allC (c60 F) all0))))))))) (inlC hf13 en13 (inlC hf78 en78 (inlC hf59 en59 (inlC hf61 en61 (inlC hf62 en62 inl0))))) rfl (fun _ h => nomatch h) hf9 (ps := [.sl 2, .sl 2, .sl 2, .v 2 false, .v 2 false, .v 2 false, .sl 2]) (rs := [.v 1 false []]) (by decide) h9
  rwa [show fnK (E := E) (cx9 F) Try.f9 [] [.sl 2, .sl 2, .sl 2, .v 2 false, .v 2 false, .v 2 false, .sl 2] [.v 1 false []] h9 = (fun x : AT E.G.car [.sl 2, .sl 2, .sl 2, .v 2 false, .v 2 false, .v 2 false, .sl 2] => law11_SpillBest F x.1 x.2.1 x.2.2.1 x.2.2.2.1 x.2.2.2.2.1 x.2.2.2.2.2.1 x.2.2.2.2.2.2.1) from funext fun x => e9 F x.1 x.2.1 x.2.2.1 x.2.2.2.1 x.2.2.2.2.1 x.2.2.2.2.2.1 x.2.2.2.2.2.2.1] at h⟩
theorem hf32 : Try.prog.funcs[32]? = some Try.f32 := by kernel_rfl
theorem en32 : Proofs.Enters Try.prog 32 := Proofs.enters_of hf32 (by kernel_rfl) rfl
noncomputable def kit_CopySpans (F : Nat) (a0 : List Span) : Option ((List Span)) :=
  chk (a0.length ≤ (1000000 : Nat)) (some (a0))
noncomputable def s32 (F : Nat) : CS E.G := ⟨32, [.sl 7], [.sl 7 34], fun x => kit_CopySpans F x.1⟩
noncomputable def cx32 (F : Nat) : Ctx E := ⟨[], [], F, []⟩
noncomputable def h32 : Hint := .n
theorem e32 (F : Nat) (a0 : List Span) : fnK (E := E) (cx32 F) Try.f32 [] [.sl 7] [.sl 7 34] h32 (a0, ()) = kit_CopySpans F a0 := by kernel_rfl
theorem c32 (F : Nat) : CSok E [] (s32 F) := ⟨en32, by
  have h := fn_sound (E := E) (gl := []) (cx := cx32 F) mix all0 inl0 rfl (fun _ h => nomatch h) hf32 (ps := [.sl 7]) (rs := [.sl 7 34]) (by decide) h32
  rwa [show fnK (E := E) (cx32 F) Try.f32 [] [.sl 7] [.sl 7 34] h32 = (fun x : AT E.G.car [.sl 7] => kit_CopySpans F x.1) from funext fun x => e32 F x.1] at h⟩
theorem hf14 : Try.prog.funcs[14]? = some Try.f14 := by kernel_rfl
theorem en14 : Proofs.Enters Try.prog 14 := Proofs.enters_of hf14 (by kernel_rfl) rfl
noncomputable def law11_CopyField (F : Nat) (a0 : Field) : Option (Field) :=
  bnd (kit_CopySpans F a0.Cells) (fun (x : List (Span)) => some (Field.mk a0.W a0.H (x)))
noncomputable def s14 (F : Nat) : CS E.G := ⟨14, [.v 9 true], [.v 9 true [34]], fun x => law11_CopyField F x.1⟩
noncomputable def cx14 (F : Nat) : Ctx E := ⟨[s32 F], [], F, []⟩
noncomputable def h14 : Hint := .n
theorem e14 (F : Nat) (a0 : Field) : fnK (E := E) (cx14 F) Try.f14 [] [.v 9 true] [.v 9 true [34]] h14 (a0, ()) = law11_CopyField F a0 := by kernel_rfl
theorem c14 (F : Nat) : CSok E [] (s14 F) := ⟨en14, by
  have h := fn_sound (E := E) (gl := []) (cx := cx14 F) mix (allC (c32 F) all0) inl0 rfl (fun _ h => nomatch h) hf14 (ps := [.v 9 true]) (rs := [.v 9 true [34]]) (by decide) h14
  rwa [show fnK (E := E) (cx14 F) Try.f14 [] [.v 9 true] [.v 9 true [34]] h14 = (fun x : AT E.G.car [.v 9 true] => law11_CopyField F x.1) from funext fun x => e14 F x.1] at h⟩
theorem hf44 : Try.prog.funcs[44]? = some Try.f44 := by kernel_rfl
theorem en44 : Proofs.Enters Try.prog 44 := Proofs.enters_of hf44 (by kernel_rfl) rfl
noncomputable def kit_SameSpans (F : Nat) (a0 : List Span) (a1 : List Span) : Option (Bool) :=
  brk ((↑a0.length : Int) != (↑a1.length : Int)) (some (false)) (loopC (fun (x : Int) => fun x_1 => brk (decide (x < (↑a0.length : Int))) (chk ((0 : Int) ≤ x ∧ x < (↑a0.length : Int)) (chk ((0 : Int) ≤ x ∧ x < (↑a1.length : Int)) (brk (!((a0.getD (Int.toNat x) (Span.mk (0 : Int) (0 : Int))).Lo == (a1.getD (Int.toNat x) (Span.mk (0 : Int) (0 : Int))).Lo && ((a0.getD (Int.toNat x) (Span.mk (0 : Int) (0 : Int))).Hi == (a1.getD (Int.toNat x) (Span.mk (0 : Int) (0 : Int))).Hi && true))) (some (false)) (chk (InR (x + (1 : Int))) (x_1 (x + (1 : Int))))))) (some (true))) (F) ((0 : Int)))
noncomputable def s44 (F : Nat) : CS E.G := ⟨44, [.sl 7, .sl 7], [.v 1 false []], fun x => kit_SameSpans F x.1 x.2.1⟩
noncomputable def cx44 (F : Nat) : Ctx E := ⟨[], [], F, []⟩
noncomputable def h44 : Hint := (.c .n (.l ⟨[.i], [0, 16], [0, 1], [(80, .i IntKind.i64)], [], [], [], 2⟩ (.c .n .n)))
theorem e44 (F : Nat) (a0 : List Span) (a1 : List Span) : fnK (E := E) (cx44 F) Try.f44 [] [.sl 7, .sl 7] [.v 1 false []] h44 (a0, a1, ()) = kit_SameSpans F a0 a1 := by kernel_rfl
theorem c44 (F : Nat) : CSok E [] (s44 F) := ⟨en44, by
  have h := fn_sound (E := E) (gl := []) (cx := cx44 F) mix all0 inl0 rfl (fun _ h => nomatch h) hf44 (ps := [.sl 7, .sl 7]) (rs := [.v 1 false []]) (by decide) h44
  rwa [show fnK (E := E) (cx44 F) Try.f44 [] [.sl 7, .sl 7] [.v 1 false []] h44 = (fun x : AT E.G.car [.sl 7, .sl 7] => kit_SameSpans F x.1 x.2.1) from funext fun x => e44 F x.1 x.2.1] at h⟩
theorem hf17 : Try.prog.funcs[17]? = some Try.f17 := by kernel_rfl
theorem en17 : Proofs.Enters Try.prog 17 := Proofs.enters_of hf17 (by kernel_rfl) rfl
noncomputable def law11_same (F : Nat) (a0 : Field) (a1 : Field) : Option (Bool) :=
  bnd (brk (a0.W == a1.W && a0.H == a1.H) (kit_SameSpans F a0.Cells a1.Cells) (some false)) (fun (x : Bool) => some (a0.W == a1.W && a0.H == a1.H && x))
noncomputable def s17 (F : Nat) : CS E.G := ⟨17, [.v 9 true, .v 9 true], [.v 1 false []], fun x => law11_same F x.1 x.2.1⟩
noncomputable def cx17 (F : Nat) : Ctx E := ⟨[s44 F], [], F, []⟩
noncomputable def h17 : Hint := .n
theorem e17 (F : Nat) (a0 : Field) (a1 : Field) : fnK (E := E) (cx17 F) Try.f17 [] [.v 9 true, .v 9 true] [.v 1 false []] h17 (a0, a1, ()) = law11_same F a0 a1 := by kernel_rfl
theorem c17 (F : Nat) : CSok E [] (s17 F) := ⟨en17, by
  have h := fn_sound (E := E) (gl := []) (cx := cx17 F) mix (allC (c44 F) all0) inl0 rfl (fun _ h => nomatch h) hf17 (ps := [.v 9 true, .v 9 true]) (rs := [.v 1 false []]) (by decide) h17
  rwa [show fnK (E := E) (cx17 F) Try.f17 [] [.v 9 true, .v 9 true] [.v 1 false []] h17 = (fun x : AT E.G.car [.v 9 true, .v 9 true] => law11_same F x.1 x.2.1) from funext fun x => e17 F x.1 x.2.1] at h⟩
theorem hf33 : Try.prog.funcs[33]? = some Try.f33 := by kernel_rfl
theorem en33 : Proofs.Enters Try.prog 33 := Proofs.enters_of hf33 (by kernel_rfl) rfl
noncomputable def kit_CopyInts (F : Nat) (a0 : List Int) : Option ((List Int)) :=
  chk (a0.length ≤ (1000000 : Nat)) (some (a0))
noncomputable def s33 (F : Nat) : CS E.G := ⟨33, [.sl 0], [.sl 0 3], fun x => kit_CopyInts F x.1⟩
noncomputable def cx33 (F : Nat) : Ctx E := ⟨[], [], F, []⟩
noncomputable def h33 : Hint := .n
theorem e33 (F : Nat) (a0 : List Int) : fnK (E := E) (cx33 F) Try.f33 [] [.sl 0] [.sl 0 3] h33 (a0, ()) = kit_CopyInts F a0 := by kernel_rfl
theorem c33 (F : Nat) : CSok E [] (s33 F) := ⟨en33, by
  have h := fn_sound (E := E) (gl := []) (cx := cx33 F) mix all0 inl0 rfl (fun _ h => nomatch h) hf33 (ps := [.sl 0]) (rs := [.sl 0 3]) (by decide) h33
  rwa [show fnK (E := E) (cx33 F) Try.f33 [] [.sl 0] [.sl 0 3] h33 = (fun x : AT E.G.car [.sl 0] => kit_CopyInts F x.1) from funext fun x => e33 F x.1] at h⟩
theorem hf37 : Try.prog.funcs[37]? = some Try.f37 := by kernel_rfl
theorem en37 : Proofs.Enters Try.prog 37 := Proofs.enters_of hf37 (by kernel_rfl) rfl
noncomputable def kit_SameInts (F : Nat) (a0 : List Int) (a1 : List Int) : Option (Bool) :=
  brk ((↑a0.length : Int) != (↑a1.length : Int)) (some (false)) (loopC (fun (x : Int) => fun x_1 => brk (decide (x < (↑a0.length : Int))) (chk ((0 : Int) ≤ x ∧ x < (↑a0.length : Int)) (chk ((0 : Int) ≤ x ∧ x < (↑a1.length : Int)) (brk (a0.getD (Int.toNat x) (0 : Int) != a1.getD (Int.toNat x) (0 : Int)) (some (false)) (chk (InR (x + (1 : Int))) (x_1 (x + (1 : Int))))))) (some (true))) (F) ((0 : Int)))
noncomputable def s37 (F : Nat) : CS E.G := ⟨37, [.sl 0, .sl 0], [.v 1 false []], fun x => kit_SameInts F x.1 x.2.1⟩
noncomputable def cx37 (F : Nat) : Ctx E := ⟨[], [], F, []⟩
noncomputable def h37 : Hint := (.c .n (.l ⟨[.i], [0, 16], [0, 1], [(80, .i IntKind.i64)], [], [], [], 2⟩ (.c .n .n)))
theorem e37 (F : Nat) (a0 : List Int) (a1 : List Int) : fnK (E := E) (cx37 F) Try.f37 [] [.sl 0, .sl 0] [.v 1 false []] h37 (a0, a1, ()) = kit_SameInts F a0 a1 := by kernel_rfl
theorem c37 (F : Nat) : CSok E [] (s37 F) := ⟨en37, by
  have h := fn_sound (E := E) (gl := []) (cx := cx37 F) mix all0 inl0 rfl (fun _ h => nomatch h) hf37 (ps := [.sl 0, .sl 0]) (rs := [.v 1 false []]) (by decide) h37
  rwa [show fnK (E := E) (cx37 F) Try.f37 [] [.sl 0, .sl 0] [.v 1 false []] h37 = (fun x : AT E.G.car [.sl 0, .sl 0] => kit_SameInts F x.1 x.2.1) from funext fun x => e37 F x.1 x.2.1] at h⟩
theorem hf98 : Try.prog.funcs[98]? = some Try.f98 := by kernel_rfl
theorem en98 : Proofs.Enters Try.prog 98 := Proofs.enters_of hf98 (by kernel_rfl) rfl
theorem hf45 : Try.prog.funcs[45]? = some Try.f45 := by kernel_rfl
theorem en45 : Proofs.Enters Try.prog 45 := Proofs.enters_of hf45 (by kernel_rfl) rfl
theorem hf46 : Try.prog.funcs[46]? = some Try.f46 := by kernel_rfl
theorem en46 : Proofs.Enters Try.prog 46 := Proofs.enters_of hf46 (by kernel_rfl) rfl
noncomputable def law11_SpillFlights_1 (F : Nat) (a0 : Flight) : Option (Bool) :=
  some (decide ((↑a0.Path.length : Int) > (120 : Int)))
noncomputable def s46 (F : Nat) : CS E.G := ⟨46, [.v 14 true], [.v 1 false []], fun x => law11_SpillFlights_1 F x.1⟩
noncomputable def cx46 (F : Nat) : Ctx E := ⟨[], [], F, []⟩
noncomputable def h46 : Hint := .n
theorem e46 (F : Nat) (a0 : Flight) : fnK (E := E) (cx46 F) Try.f46 [] [.v 14 true] [.v 1 false []] h46 (a0, ()) = law11_SpillFlights_1 F a0 := by kernel_rfl
theorem c46 (F : Nat) : CSok E [] (s46 F) := ⟨en46, by
  have h := fn_sound (E := E) (gl := []) (cx := cx46 F) mix all0 inl0 rfl (fun _ h => nomatch h) hf46 (ps := [.v 14 true]) (rs := [.v 1 false []]) (by decide) h46
  rwa [show fnK (E := E) (cx46 F) Try.f46 [] [.v 14 true] [.v 1 false []] h46 = (fun x : AT E.G.car [.v 14 true] => law11_SpillFlights_1 F x.1) from funext fun x => e46 F x.1] at h⟩
theorem hf99 : Try.prog.funcs[99]? = some Try.f99 := by kernel_rfl
theorem en99 : Proofs.Enters Try.prog 99 := Proofs.enters_of hf99 (by kernel_rfl) rfl
noncomputable def slices_Clone_spill_Flight (F : Nat) (a0 : List Flight) : Option ((List Flight)) :=
  chk ((0 : Nat) + a0.length ≤ (1000000 : Nat)) (some ([] ++ a0))
noncomputable def s99 (F : Nat) : CS E.G := ⟨99, [.sl 14], [.sl 14 83], fun x => slices_Clone_spill_Flight F x.1⟩
noncomputable def cx99 (F : Nat) : Ctx E := ⟨[], [], F, []⟩
noncomputable def h99 : Hint := .n
theorem e99n (F : Nat) (c : Nat) : fnK (E := E) (cx99 F) Try.f99 [] [.nl] [.sl 14 83] .n (c, ()) = some ([]) := by kernel_rfl
theorem e99s (F : Nat) (a0 : List Flight) : fnK (E := E) (cx99 F) Try.f99 [] [.sn 14] [.sl 14 83] h99 (a0, ()) = slices_Clone_spill_Flight F a0 := by kernel_rfl
theorem c99 (F : Nat) : CSok E [] (s99 F) := ⟨en99, by
  have h0 := fn_sound (E := E) (gl := []) (cx := cx99 F) mix all0 inl0 rfl (fun _ h => nomatch h) hf99 (ps := [.nl]) (rs := [.sl 14 83]) (by decide) .n
  have h1 := fn_sound (E := E) (gl := []) (cx := cx99 F) mix all0 inl0 rfl (fun _ h => nomatch h) hf99 (ps := [.sn 14]) (rs := [.sl 14 83]) (by decide) h99
  rw [show fnK (E := E) (cx99 F) Try.f99 [] [.nl] [.sl 14 83] .n = (fun x : AT E.G.car [.nl] => some ([])) from funext fun x => e99n F x.1] at h0
  rw [show fnK (E := E) (cx99 F) Try.f99 [] [.sn 14] [.sl 14 83] h99 = (fun x : AT E.G.car [.sn 14] => slices_Clone_spill_Flight F x.1) from funext fun x => e99s F x.1] at h1
  exact contract_nil (E := E) (t := 14) (rs := [.sl 14 83]) (f := slices_Clone_spill_Flight F) (f0 := fun _ => some ([])) (f1 := slices_Clone_spill_Flight F) h0 h1 (fun _ _ h => (show slices_Clone_spill_Flight F [] = some [] by kernel_rfl).symm.trans h) (fun _ _ h => h)⟩
theorem hf47 : Try.prog.funcs[47]? = some Try.f47 := by kernel_rfl
theorem en47 : Proofs.Enters Try.prog 47 := Proofs.enters_of hf47 (by kernel_rfl) rfl
noncomputable def law11_copyFlights (F : Nat) (a0 : List Flight) : Option ((List Flight)) :=
  bnd (slices_Clone_spill_Flight F a0) (fun (x : List (Flight)) => loopC (fun (x_1 : (Int) × (List (Flight))) => fun x_2 => brk (decide (x_1.fst < (↑(List.length x) : Int))) (chk ((0 : Int) ≤ x_1.fst ∧ x_1.fst < (↑(List.length x_1.snd) : Int)) (bnd (kit_CopyInts F (List.getD x_1.snd (Int.toNat x_1.fst) (Flight.mk (0 : Int) [])).Path) (fun (x_3 : List (Int)) => chk ((0 : Int) ≤ x_1.fst ∧ x_1.fst < (↑(List.length x_1.snd) : Int)) (chk (InR (x_1.fst + (1 : Int))) (x_2 ((x_1.fst + (1 : Int), List.set x_1.snd (Int.toNat x_1.fst) (Flight.mk (List.getD x_1.snd (Int.toNat x_1.fst) (Flight.mk (0 : Int) [])).From (x_3))))))))) (some (x_1.snd))) (F) (((0 : Int), x)))
noncomputable def s47 (F : Nat) : CS E.G := ⟨47, [.sl 14], [.sl 14 83], fun x => law11_copyFlights F x.1⟩
noncomputable def cx47 (F : Nat) : Ctx E := ⟨[s33 F, s99 F], [], F, []⟩
noncomputable def h47 : Hint := (.l ⟨[.i, .l 14], [128, 48], [1], [(144, .i IntKind.i64)], [], [], [(1, 83, 14)], 2⟩ .n)
theorem e47 (F : Nat) (a0 : List Flight) : fnK (E := E) (cx47 F) Try.f47 [] [.sl 14] [.sl 14 83] h47 (a0, ()) = law11_copyFlights F a0 := by kernel_rfl
theorem c47 (F : Nat) : CSok E [] (s47 F) := ⟨en47, by
  have h := fn_sound (E := E) (gl := []) (cx := cx47 F) mix (allC (c33 F) (allC (c99 F) all0)) inl0 rfl (fun _ h => nomatch h) hf47 (ps := [.sl 14]) (rs := [.sl 14 83]) (by decide) h47
  rwa [show fnK (E := E) (cx47 F) Try.f47 [] [.sl 14] [.sl 14 83] h47 = (fun x : AT E.G.car [.sl 14] => law11_copyFlights F x.1) from funext fun x => e47 F x.1] at h⟩
theorem hf48 : Try.prog.funcs[48]? = some Try.f48 := by kernel_rfl
theorem en48 : Proofs.Enters Try.prog 48 := Proofs.enters_of hf48 (by kernel_rfl) rfl
noncomputable def law11_flights (F : Nat) (a0 : List Flight) : Option ((List Flight)) :=
  loopC (fun (x : (Int) × (List (Flight))) => fun x_1 => brk (decide (x.fst < (↑a0.length : Int))) (chk ((0 : Int) ≤ x.fst ∧ x.fst < (↑a0.length : Int)) (bnd (kit_CopyInts F (a0.getD (Int.toNat x.fst) (Flight.mk (0 : Int) [])).Path) (fun (x_2 : List (Int)) => chk (List.length x.snd + [Flight.mk (a0.getD (Int.toNat x.fst) (Flight.mk (0 : Int) [])).From (x_2)].length ≤ (1000000 : Nat)) (chk (InR (x.fst + (1 : Int))) (x_1 ((x.fst + (1 : Int), x.snd ++ [Flight.mk (a0.getD (Int.toNat x.fst) (Flight.mk (0 : Int) [])).From (x_2)]))))))) (some (x.snd))) (F) (((0 : Int), []))
noncomputable def s48 (F : Nat) : CS E.G := ⟨48, [.sl 14], [.sl 14 92], fun x => law11_flights F x.1⟩
noncomputable def cx48 (F : Nat) : Ctx E := ⟨[s33 F], [], F, []⟩
noncomputable def h48 : Hint := (.l ⟨[.i, .l 14], [96, 112], [0], [(128, .i IntKind.i64), (48, .h 1 92 14)], [], [], [], 2⟩ .n)
theorem e48 (F : Nat) (a0 : List Flight) : fnK (E := E) (cx48 F) Try.f48 [] [.sl 14] [.sl 14 92] h48 (a0, ()) = law11_flights F a0 := by kernel_rfl
theorem c48 (F : Nat) : CSok E [] (s48 F) := ⟨en48, by
  have h := fn_sound (E := E) (gl := []) (cx := cx48 F) mix (allC (c33 F) all0) inl0 rfl (fun _ h => nomatch h) hf48 (ps := [.sl 14]) (rs := [.sl 14 92]) (by decide) h48
  rwa [show fnK (E := E) (cx48 F) Try.f48 [] [.sl 14] [.sl 14 92] h48 = (fun x : AT E.G.car [.sl 14] => law11_flights F x.1) from funext fun x => e48 F x.1] at h⟩
theorem hf93 : Try.prog.funcs[93]? = some Try.f93 := by kernel_rfl
theorem en93 : Proofs.Enters Try.prog 93 := Proofs.enters_of hf93 (by kernel_rfl) rfl
noncomputable def ref11_in (F : Nat) (a0 : Int) (a1 : Int) (a2 : Int) : Option (Bool) :=
  some (decide (a0 ≥ a1) && decide (a0 ≤ a2))
noncomputable def s93 (F : Nat) : CS E.G := ⟨93, [.v 0 false, .v 0 false, .v 0 false], [.v 1 false []], fun x => ref11_in F x.1 x.2.1 x.2.2.1⟩
noncomputable def cx93 (F : Nat) : Ctx E := ⟨[], [], F, []⟩
noncomputable def h93 : Hint := .n
theorem e93 (F : Nat) (a0 : Int) (a1 : Int) (a2 : Int) : fnK (E := E) (cx93 F) Try.f93 [] [.v 0 false, .v 0 false, .v 0 false] [.v 1 false []] h93 (a0, a1, a2, ()) = ref11_in F a0 a1 a2 := by kernel_rfl
theorem c93 (F : Nat) : CSok E [] (s93 F) := ⟨en93, by
  have h := fn_sound (E := E) (gl := []) (cx := cx93 F) mix all0 inl0 rfl (fun _ h => nomatch h) hf93 (ps := [.v 0 false, .v 0 false, .v 0 false]) (rs := [.v 1 false []]) (by decide) h93
  rwa [show fnK (E := E) (cx93 F) Try.f93 [] [.v 0 false, .v 0 false, .v 0 false] [.v 1 false []] h93 = (fun x : AT E.G.car [.v 0 false, .v 0 false, .v 0 false] => ref11_in F x.1 x.2.1 x.2.2.1) from funext fun x => e93 F x.1 x.2.1 x.2.2.1] at h⟩
theorem hf94 : Try.prog.funcs[94]? = some Try.f94 := by kernel_rfl
theorem en94 : Proofs.Enters Try.prog 94 := Proofs.enters_of hf94 (by kernel_rfl) rfl
noncomputable def ref11_span (F : Nat) (a0 : Span) (a1 : Int) : Option (Bool) :=
  some (decide (a0.Lo ≥ (0 : Int)) && decide (a0.Hi ≤ a1) && decide (a0.Lo ≤ a0.Hi))
noncomputable def s94 (F : Nat) : CS E.G := ⟨94, [.v 7 true, .v 0 false], [.v 1 false []], fun x => ref11_span F x.1 x.2.1⟩
noncomputable def cx94 (F : Nat) : Ctx E := ⟨[], [], F, []⟩
noncomputable def h94 : Hint := .n
theorem e94 (F : Nat) (a0 : Span) (a1 : Int) : fnK (E := E) (cx94 F) Try.f94 [] [.v 7 true, .v 0 false] [.v 1 false []] h94 (a0, a1, ()) = ref11_span F a0 a1 := by kernel_rfl
theorem c94 (F : Nat) : CSok E [] (s94 F) := ⟨en94, by
  have h := fn_sound (E := E) (gl := []) (cx := cx94 F) mix all0 inl0 rfl (fun _ h => nomatch h) hf94 (ps := [.v 7 true, .v 0 false]) (rs := [.v 1 false []]) (by decide) h94
  rwa [show fnK (E := E) (cx94 F) Try.f94 [] [.v 7 true, .v 0 false] [.v 1 false []] h94 = (fun x : AT E.G.car [.v 7 true, .v 0 false] => ref11_span F x.1 x.2.1) from funext fun x => e94 F x.1 x.2.1] at h⟩
theorem hf35 : Try.prog.funcs[35]? = some Try.f35 := by kernel_rfl
theorem en35 : Proofs.Enters Try.prog 35 := Proofs.enters_of hf35 (by kernel_rfl) rfl
noncomputable def ref11_Check (F : Nat) (a0 : Field) : Option (Int) :=
  bnd (ref11_in F a0.W (1 : Int) (8 : Int)) (fun (x : Bool) => bnd (brk (!!x) (ref11_in F a0.H (1 : Int) (8 : Int)) (some false)) (fun (x_1 : Bool) => brk (!x || !x_1) (some ((6 : Int))) (chk (InR (a0.W * a0.H)) (brk ((↑a0.Cells.length : Int) != a0.W * a0.H) (some ((1 : Int))) (loopC (fun (x_2 : Int) => fun x_3 => brk (decide (x_2 < (↑a0.Cells.length : Int))) (chk ((0 : Int) ≤ x_2 ∧ x_2 < (↑a0.Cells.length : Int)) (bnd (ref11_span F (Span.mk (a0.Cells.getD (Int.toNat x_2) (Span.mk (0 : Int) (0 : Int))).Lo (a0.Cells.getD (Int.toNat x_2) (Span.mk (0 : Int) (0 : Int))).Hi) (1000000 : Int)) (fun (x_4 : Bool) => brk (!x_4) (some ((120 : Int))) (chk (InR (x_2 + (1 : Int))) (x_3 (x_2 + (1 : Int))))))) (some ((0 : Int)))) (F) ((0 : Int)))))))
noncomputable def s35 (F : Nat) : CS E.G := ⟨35, [.v 9 true], [.v 0 false []], fun x => ref11_Check F x.1⟩
noncomputable def cx35 (F : Nat) : Ctx E := ⟨[s93 F, s94 F], [], F, []⟩
noncomputable def h35 : Hint := (.c .n (.c .n (.l ⟨[.i], [16], [1, 0], [(48, .i IntKind.i64)], [], [], [], 2⟩ (.c .n .n))))
theorem e35 (F : Nat) (a0 : Field) : fnK (E := E) (cx35 F) Try.f35 [] [.v 9 true] [.v 0 false []] h35 (a0, ()) = ref11_Check F a0 := by kernel_rfl
theorem c35 (F : Nat) : CSok E [] (s35 F) := ⟨en35, by
  have h := fn_sound (E := E) (gl := []) (cx := cx35 F) mix (allC (c93 F) (allC (c94 F) all0)) inl0 rfl (fun _ h => nomatch h) hf35 (ps := [.v 9 true]) (rs := [.v 0 false []]) (by decide) h35
  rwa [show fnK (E := E) (cx35 F) Try.f35 [] [.v 9 true] [.v 0 false []] h35 = (fun x : AT E.G.car [.v 9 true] => ref11_Check F x.1) from funext fun x => e35 F x.1] at h⟩
theorem hf102 : Try.prog.funcs[102]? = some Try.f102 := by kernel_rfl
theorem en102 : Proofs.Enters Try.prog 102 := Proofs.enters_of hf102 (by kernel_rfl) rfl
noncomputable def ref11_fleet (F : Nat) (a0 : Field) (a1 : Fleet) : Option (Bool) :=
  chk (InR ((↑a0.Cells.length : Int) - (1 : Int))) (bnd (ref11_in F a1.Base (0 : Int) ((↑a0.Cells.length : Int) - (1 : Int))) (fun (x : Bool) => bnd (brk x (ref11_in F a1.Range (0 : Int) (100 : Int)) (some false)) (fun (x_1 : Bool) => bnd (brk (x && x_1) (ref11_in F a1.Speed (1 : Int) (20 : Int)) (some false)) (fun (x_2 : Bool) => bnd (brk (x && x_1 && x_2) (ref11_in F a1.Count (1 : Int) (6 : Int)) (some false)) (fun (x_3 : Bool) => some (x && x_1 && x_2 && x_3))))))
noncomputable def s102 (F : Nat) : CS E.G := ⟨102, [.v 9 true, .v 13 true], [.v 1 false []], fun x => ref11_fleet F x.1 x.2.1⟩
noncomputable def cx102 (F : Nat) : Ctx E := ⟨[s93 F], [], F, []⟩
noncomputable def h102 : Hint := .n
theorem e102 (F : Nat) (a0 : Field) (a1 : Fleet) : fnK (E := E) (cx102 F) Try.f102 [] [.v 9 true, .v 13 true] [.v 1 false []] h102 (a0, a1, ()) = ref11_fleet F a0 a1 := by kernel_rfl
theorem c102 (F : Nat) : CSok E [] (s102 F) := ⟨en102, by
  have h := fn_sound (E := E) (gl := []) (cx := cx102 F) mix (allC (c93 F) all0) inl0 rfl (fun _ h => nomatch h) hf102 (ps := [.v 9 true, .v 13 true]) (rs := [.v 1 false []]) (by decide) h102
  rwa [show fnK (E := E) (cx102 F) Try.f102 [] [.v 9 true, .v 13 true] [.v 1 false []] h102 = (fun x : AT E.G.car [.v 9 true, .v 13 true] => ref11_fleet F x.1 x.2.1) from funext fun x => e102 F x.1 x.2.1] at h⟩
theorem hf134 : Try.prog.funcs[134]? = some Try.f134 := by kernel_rfl
theorem en134 : Proofs.Enters Try.prog 134 := Proofs.enters_of hf134 (by kernel_rfl) rfl
noncomputable def ref11_Neighbours (F : Nat) (a0 : Int) (a1 : Int) (a2 : Int) : Option ((List Int)) :=
  chk (((0 : Int) ≤ a2 ∧ a2 ≤ (9223372036854775807 : Int)) ∧ (0 : Int) < a0) (chk (((0 : Int) ≤ a2 ∧ a2 ≤ (9223372036854775807 : Int)) ∧ (0 : Int) < a0) (join F (fun (x : List (Int)) => join F (fun (x_1 : List (Int)) => join F (fun (x_2 : List (Int)) => join F (fun (x_3 : List (Int)) => some (x_3)) (fun x_3 => brk (decide (a2 % a0 > (0 : Int))) (chk (InR (a2 - (1 : Int))) (chk (List.length x_2 + [a2 - (1 : Int)].length ≤ (1000000 : Nat)) (x_3 (x_2 ++ [a2 - (1 : Int)])))) (x_3 (x_2)))) (fun x_2 => chk (InR (a1 - (1 : Int))) (brk (decide (a2 / a0 < a1 - (1 : Int))) (chk (InR (a2 + a0)) (chk (List.length x_1 + [a2 + a0].length ≤ (1000000 : Nat)) (x_2 (x_1 ++ [a2 + a0])))) (x_2 (x_1))))) (fun x_1 => chk (InR (a0 - (1 : Int))) (brk (decide (a2 % a0 < a0 - (1 : Int))) (chk (InR (a2 + (1 : Int))) (chk (List.length x + [a2 + (1 : Int)].length ≤ (1000000 : Nat)) (x_1 (x ++ [a2 + (1 : Int)])))) (x_1 (x))))) (fun x => brk (decide (a2 / a0 > (0 : Int))) (chk (InR (a2 - a0)) (chk ([a2 - a0].length ≤ (1000000 : Nat)) (x ([a2 - a0])))) (x ([])))))
noncomputable def s134 (F : Nat) : CS E.G := ⟨134, [.v 0 false, .v 0 false, .v 0 false], [.sl 0 3], fun x => ref11_Neighbours F x.1 x.2.1 x.2.2.1⟩
noncomputable def cx134 (F : Nat) : Ctx E := ⟨[], [], F, []⟩
noncomputable def h134 : Hint := (.k (.k (.k (.j ⟨[.l 0], [0, 16, 32, 128, 112], [], [(144, .h 0 3 0)], [], [], [], 1⟩ .n (.j ⟨[.l 0], [0, 16, 32, 128, 112], [], [(144, .h 1 3 0)], [], [], [], 2⟩ .n (.j ⟨[.l 0], [32, 112], [], [(144, .h 2 3 0)], [], [], [], 3⟩ .n (.j ⟨[.l 0], [], [], [(144, .h 3 3 0)], [], [], [], 4⟩ .n .n)))))))
theorem e134 (F : Nat) (a0 : Int) (a1 : Int) (a2 : Int) : fnK (E := E) (cx134 F) Try.f134 [] [.v 0 false, .v 0 false, .v 0 false] [.sl 0 3] h134 (a0, a1, a2, ()) = ref11_Neighbours F a0 a1 a2 := by kernel_rfl
theorem c134 (F : Nat) : CSok E [] (s134 F) := ⟨en134, by
  have h := fn_sound (E := E) (gl := []) (cx := cx134 F) mix all0 inl0 rfl (fun _ h => nomatch h) hf134 (ps := [.v 0 false, .v 0 false, .v 0 false]) (rs := [.sl 0 3]) (by decide) h134
  rwa [show fnK (E := E) (cx134 F) Try.f134 [] [.v 0 false, .v 0 false, .v 0 false] [.sl 0 3] h134 = (fun x : AT E.G.car [.v 0 false, .v 0 false, .v 0 false] => ref11_Neighbours F x.1 x.2.1 x.2.2.1) from funext fun x => e134 F x.1 x.2.1 x.2.2.1] at h⟩
theorem hf139 : Try.prog.funcs[139]? = some Try.f139 := by kernel_rfl
theorem en139 : Proofs.Enters Try.prog 139 := Proofs.enters_of hf139 (by kernel_rfl) rfl
noncomputable def ref11_path (F : Nat) (a0 : Field) (a1 : Fleet) (a2 : List Int) : Option (Bool) :=
  chk ((!(↑a2.length : Int) == (0 : Int)) = true → (0 : Int) ≤ (0 : Int) ∧ (0 : Int) < (↑a2.length : Int)) (chk ((!((↑a2.length : Int) == (0 : Int) || a2.getD (Int.toNat (0 : Int)) (0 : Int) != a1.Base)) = true → InR ((↑a2.length : Int) - (1 : Int))) (chk ((!((↑a2.length : Int) == (0 : Int) || a2.getD (Int.toNat (0 : Int)) (0 : Int) != a1.Base)) = true → (0 : Int) ≤ (↑a2.length : Int) - (1 : Int) ∧ (↑a2.length : Int) - (1 : Int) < (↑a2.length : Int)) (brk ((↑a2.length : Int) == (0 : Int) || a2.getD (Int.toNat (0 : Int)) (0 : Int) != a1.Base || a2.getD ((↑a2.length : Int) - (1 : Int)).toNat (0 : Int) != a1.Base) (some (false)) (loopC (fun (x : Int) => fun x_1 => brk (decide (x < (↑a2.length : Int))) (join F (fun (x_2 : PUnit) => chk (InR (x + (1 : Int))) (x_1 (x + (1 : Int)))) (fun x_2 => chk ((0 : Int) ≤ x ∧ x < (↑a2.length : Int)) (chk (InR ((↑a0.Cells.length : Int) - (1 : Int))) (bnd (ref11_in F (a2.getD (Int.toNat x) (0 : Int)) (0 : Int) ((↑a0.Cells.length : Int) - (1 : Int))) (fun (x_3 : Bool) => brk (!x_3) (some (false)) (brk (x == (0 : Int)) (x_2 (())) (chk (InR (x - (1 : Int))) (chk ((0 : Int) ≤ x - (1 : Int) ∧ x - (1 : Int) < (↑a2.length : Int)) (bnd (ref11_Neighbours F a0.W a0.H (a2.getD (x - (1 : Int)).toNat (0 : Int))) (fun (x_4 : List (Int)) => loopC (fun (x_5 : (Int) × (Bool)) => fun x_6 => brk (decide (x_5.fst < (↑(List.length x_4) : Int))) (chk ((!x_5.snd) = true → (0 : Int) ≤ x_5.fst ∧ x_5.fst < (↑(List.length x_4) : Int)) (chk ((!x_5.snd) = true → (0 : Int) ≤ x ∧ x < (↑a2.length : Int)) (chk (InR (x_5.fst + (1 : Int))) (x_6 ((x_5.fst + (1 : Int), x_5.snd || List.getD x_4 (Int.toNat x_5.fst) (0 : Int) == a2.getD (Int.toNat x) (0 : Int))))))) (brk (!x_5.snd) (some (false)) (x_2 (())))) (F) (((0 : Int), false)))))))))))) (some (true))) (F) ((0 : Int))))))
noncomputable def s139 (F : Nat) : CS E.G := ⟨139, [.v 9 true, .v 13 true, .sl 0], [.v 1 false []], fun x => ref11_path F x.1 x.2.1 x.2.2.1⟩
noncomputable def cx139 (F : Nat) : Ctx E := ⟨[s93 F, s134 F], [], F, []⟩
noncomputable def h139 : Hint := (.c .n (.l ⟨[.i], [32, 48], [1, 2, 0], [(112, .i IntKind.i64)], [], [], [], 4⟩ (.c (.j ⟨[], [32, 48, 112], [1, 2, 0], [], [], [], [], 4⟩ (.c .n (.c .n (.l ⟨[.i, .b], [32, 128, 48, 112], [1, 4, 2, 0], [(160, .i IntKind.i64), (144, .b)], [], [], [], 5⟩ (.c .n .n)))) .n) .n)))
theorem e139 (F : Nat) (a0 : Field) (a1 : Fleet) (a2 : List Int) : fnK (E := E) (cx139 F) Try.f139 [] [.v 9 true, .v 13 true, .sl 0] [.v 1 false []] h139 (a0, a1, a2, ()) = ref11_path F a0 a1 a2 := by kernel_rfl
theorem c139 (F : Nat) : CSok E [] (s139 F) := ⟨en139, by
  have h := fn_sound (E := E) (gl := []) (cx := cx139 F) mix (allC (c93 F) (allC (c134 F) all0)) inl0 rfl (fun _ h => nomatch h) hf139 (ps := [.v 9 true, .v 13 true, .sl 0]) (rs := [.v 1 false []]) (by decide) h139
  rwa [show fnK (E := E) (cx139 F) Try.f139 [] [.v 9 true, .v 13 true, .sl 0] [.v 1 false []] h139 = (fun x : AT E.G.car [.v 9 true, .v 13 true, .sl 0] => ref11_path F x.1 x.2.1 x.2.2.1) from funext fun x => e139 F x.1 x.2.1 x.2.2.1] at h⟩
theorem hf103 : Try.prog.funcs[103]? = some Try.f103 := by kernel_rfl
theorem en103 : Proofs.Enters Try.prog 103 := Proofs.enters_of hf103 (by kernel_rfl) rfl
noncomputable def ref11_worth (F : Nat) (a0 : Field) (a1 : Fleet) (a2 : Flight) : Option (Int × Int × Int) :=
  bnd (ref11_in F a2.From (0 : Int) (47 : Int)) (fun (x : Bool) => brk (!x) (some (((0 : Int), (0 : Int), (12 : Int)))) (bnd (ref11_path F (Field.mk a0.W a0.H (a0.Cells)) (Fleet.mk a1.Base a1.Range a1.Speed a1.Count) a2.Path) (fun (x_1 : Bool) => brk (!x_1) (some (((0 : Int), (0 : Int), (120 : Int)))) (chk (InR (a1.Range + (1 : Int))) (brk (decide ((↑a2.Path.length : Int) > a1.Range + (1 : Int))) (some (((0 : Int), (0 : Int), (6 : Int)))) (loopC (fun (x_2 : Int) => fun x_3 => chk (InR (x_2 * a1.Speed)) (chk (InR ((↑a2.Path.length : Int) - (1 : Int))) (brk (decide (x_2 * a1.Speed < (↑a2.Path.length : Int) - (1 : Int))) (chk (InR (x_2 + (1 : Int))) (x_3 (x_2 + (1 : Int)))) (chk (InR (a2.From + x_2)) (brk (decide (a2.From + x_2 > (48 : Int))) (some (((0 : Int), (0 : Int), (12 : Int)))) (loopC (fun (x_4 : (Int) × (Int)) => fun x_5 => brk (decide (x_4.snd < (↑a0.Cells.length : Int))) (join F (fun (x_6 : Int) => chk (InR (x_4.snd + (1 : Int))) (x_5 ((x_6, x_4.snd + (1 : Int))))) (fun x_6 => loopC (fun (x_7 : (Bool) × (Int)) => fun x_8 => brk (decide (x_7.snd < (↑a2.Path.length : Int))) (chk ((!x_7.fst) = true → (0 : Int) ≤ x_7.snd ∧ x_7.snd < (↑a2.Path.length : Int)) (chk (InR (x_7.snd + (1 : Int))) (x_8 ((x_7.fst || a2.Path.getD (Int.toNat x_7.snd) (0 : Int) == x_4.snd, x_7.snd + (1 : Int)))))) (brk (x_7.fst) (chk ((0 : Int) ≤ x_4.snd ∧ x_4.snd < (↑a0.Cells.length : Int)) (chk (InR (x_4.fst + (a0.Cells.getD (Int.toNat x_4.snd) (Span.mk (0 : Int) (0 : Int))).Hi)) (chk ((0 : Int) ≤ x_4.snd ∧ x_4.snd < (↑a0.Cells.length : Int)) (chk (InR (x_4.fst + (a0.Cells.getD (Int.toNat x_4.snd) (Span.mk (0 : Int) (0 : Int))).Hi - (a0.Cells.getD (Int.toNat x_4.snd) (Span.mk (0 : Int) (0 : Int))).Lo)) (x_6 (x_4.fst + (a0.Cells.getD (Int.toNat x_4.snd) (Span.mk (0 : Int) (0 : Int))).Hi - (a0.Cells.getD (Int.toNat x_4.snd) (Span.mk (0 : Int) (0 : Int))).Lo)))))) (x_6 (x_4.fst)))) (F) ((false, (0 : Int))))) (some ((x_4.fst, x_2, (0 : Int))))) (F) (((0 : Int), (0 : Int))))))))) (F) ((1 : Int))))))))
noncomputable def s103 (F : Nat) : CS E.G := ⟨103, [.v 9 true, .v 13 true, .v 14 true], [.v 0 false [], .v 0 false [], .v 0 false []], fun x => ref11_worth F x.1 x.2.1 x.2.2.1⟩
noncomputable def cx103 (F : Nat) : Ctx E := ⟨[s93 F, s139 F], [], F, []⟩
noncomputable def h103 : Hint := (.c .n (.c .n (.c .n (.l ⟨[.i], [64, 48, 80], [3, 2, 4, 0, 1], [(144, .i IntKind.i64)], [], [], [], 5⟩ (.c .n (.c .n (.l ⟨[.i, .i], [48, 80, 144], [2, 4, 0, 1], [(160, .i IntKind.i64), (176, .i IntKind.i64)], [], [], [], 5⟩ (.c (.j ⟨[.i], [48, 80, 144, 176], [2, 4, 0, 1], [(160, .i IntKind.i64)], [], [], [], 5⟩ (.l ⟨[.b, .i], [160, 48, 80, 144, 176], [2, 4, 0, 1], [(192, .b), (208, .i IntKind.i64)], [], [], [], 5⟩ (.c .n .n)) .n) .n))))))))
theorem e103 (F : Nat) (a0 : Field) (a1 : Fleet) (a2 : Flight) : fnK (E := E) (cx103 F) Try.f103 [] [.v 9 true, .v 13 true, .v 14 true] [.v 0 false [], .v 0 false [], .v 0 false []] h103 (a0, a1, a2, ()) = ref11_worth F a0 a1 a2 := by kernel_rfl
theorem c103 (F : Nat) : CSok E [] (s103 F) := ⟨en103, by
  have h := fn_sound (E := E) (gl := []) (cx := cx103 F) mix (allC (c93 F) (allC (c139 F) all0)) inl0 rfl (fun _ h => nomatch h) hf103 (ps := [.v 9 true, .v 13 true, .v 14 true]) (rs := [.v 0 false [], .v 0 false [], .v 0 false []]) (by decide) h103
  rwa [show fnK (E := E) (cx103 F) Try.f103 [] [.v 9 true, .v 13 true, .v 14 true] [.v 0 false [], .v 0 false [], .v 0 false []] h103 = (fun x : AT E.G.car [.v 9 true, .v 13 true, .v 14 true] => ref11_worth F x.1 x.2.1 x.2.2.1) from funext fun x => e103 F x.1 x.2.1 x.2.2.1] at h⟩
theorem hf50 : Try.prog.funcs[50]? = some Try.f50 := by kernel_rfl
theorem en50 : Proofs.Enters Try.prog 50 := Proofs.enters_of hf50 (by kernel_rfl) rfl
noncomputable def ref11_Worth (F : Nat) (a0 : Field) (a1 : Fleet) (a2 : Flight) : Option (Int × Int × Int) :=
  bnd (ref11_Check F (Field.mk a0.W a0.H (a0.Cells))) (fun (x : Int) => brk (x != (0 : Int)) (some (((0 : Int), (0 : Int), x))) (bnd (ref11_fleet F (Field.mk a0.W a0.H (a0.Cells)) (Fleet.mk a1.Base a1.Range a1.Speed a1.Count)) (fun (x_1 : Bool) => brk (!x_1) (some (((0 : Int), (0 : Int), (120 : Int)))) (bnd (ref11_worth F (Field.mk a0.W a0.H (a0.Cells)) (Fleet.mk a1.Base a1.Range a1.Speed a1.Count) (Flight.mk a2.From (a2.Path))) (fun (x_2 : (Int) × ((Int) × (Int))) => some ((x_2.fst, x_2.snd.fst, x_2.snd.snd)))))))
noncomputable def s50 (F : Nat) : CS E.G := ⟨50, [.v 9 true, .v 13 true, .v 14 true], [.v 0 false [], .v 0 false [], .v 0 false []], fun x => ref11_Worth F x.1 x.2.1 x.2.2.1⟩
noncomputable def cx50 (F : Nat) : Ctx E := ⟨[s35 F, s102 F, s103 F], [], F, []⟩
noncomputable def h50 : Hint := (.c .n .n)
theorem e50 (F : Nat) (a0 : Field) (a1 : Fleet) (a2 : Flight) : fnK (E := E) (cx50 F) Try.f50 [] [.v 9 true, .v 13 true, .v 14 true] [.v 0 false [], .v 0 false [], .v 0 false []] h50 (a0, a1, a2, ()) = ref11_Worth F a0 a1 a2 := by kernel_rfl
theorem c50 (F : Nat) : CSok E [] (s50 F) := ⟨en50, by
  have h := fn_sound (E := E) (gl := []) (cx := cx50 F) mix (allC (c35 F) (allC (c102 F) (allC (c103 F) all0))) inl0 rfl (fun _ h => nomatch h) hf50 (ps := [.v 9 true, .v 13 true, .v 14 true]) (rs := [.v 0 false [], .v 0 false [], .v 0 false []]) (by decide) h50
  rwa [show fnK (E := E) (cx50 F) Try.f50 [] [.v 9 true, .v 13 true, .v 14 true] [.v 0 false [], .v 0 false [], .v 0 false []] h50 = (fun x : AT E.G.car [.v 9 true, .v 13 true, .v 14 true] => ref11_Worth F x.1 x.2.1 x.2.2.1) from funext fun x => e50 F x.1 x.2.1 x.2.2.1] at h⟩
theorem hf106 : Try.prog.funcs[106]? = some Try.f106 := by kernel_rfl
theorem en106 : Proofs.Enters Try.prog 106 := Proofs.enters_of hf106 (by kernel_rfl) rfl
noncomputable def ref11_asked (F : Nat) (a0 : Field) (a1 : Fleet) (a2 : List Flight) : Option (Int) :=
  bnd (ref11_Check F (Field.mk a0.W a0.H (a0.Cells))) (fun (x : Int) => brk (x != (0 : Int)) (some (x)) (bnd (ref11_fleet F (Field.mk a0.W a0.H (a0.Cells)) (Fleet.mk a1.Base a1.Range a1.Speed a1.Count)) (fun (x_1 : Bool) => brk (!x_1) (some ((120 : Int))) (brk (decide ((↑a2.length : Int) > (12 : Int))) (some ((2 : Int))) (loopC (fun (x_2 : Int) => fun x_3 => brk (decide (x_2 < (↑a2.length : Int))) (chk ((0 : Int) ≤ x_2 ∧ x_2 < (↑a2.length : Int)) (bnd (ref11_worth F (Field.mk a0.W a0.H (a0.Cells)) (Fleet.mk a1.Base a1.Range a1.Speed a1.Count) (Flight.mk (a2.getD (Int.toNat x_2) (Flight.mk (0 : Int) [])).From ((a2.getD (Int.toNat x_2) (Flight.mk (0 : Int) [])).Path))) (fun (x_4 : (Int) × ((Int) × (Int))) => brk (x_4.snd.snd != (0 : Int)) (some (x_4.snd.snd)) (chk (InR (x_2 + (1 : Int))) (x_3 (x_2 + (1 : Int))))))) (some ((0 : Int)))) (F) ((0 : Int)))))))
noncomputable def s106 (F : Nat) : CS E.G := ⟨106, [.v 9 true, .v 13 true, .sl 14], [.v 0 false []], fun x => ref11_asked F x.1 x.2.1 x.2.2.1⟩
noncomputable def cx106 (F : Nat) : Ctx E := ⟨[s35 F, s102 F, s103 F], [], F, []⟩
noncomputable def h106 : Hint := (.c .n (.c .n (.c .n (.l ⟨[.i], [32, 64, 48], [1, 3, 2, 0], [(128, .i IntKind.i64)], [], [], [], 4⟩ (.c .n .n)))))
theorem e106 (F : Nat) (a0 : Field) (a1 : Fleet) (a2 : List Flight) : fnK (E := E) (cx106 F) Try.f106 [] [.v 9 true, .v 13 true, .sl 14] [.v 0 false []] h106 (a0, a1, a2, ()) = ref11_asked F a0 a1 a2 := by kernel_rfl
theorem c106 (F : Nat) : CSok E [] (s106 F) := ⟨en106, by
  have h := fn_sound (E := E) (gl := []) (cx := cx106 F) mix (allC (c35 F) (allC (c102 F) (allC (c103 F) all0))) inl0 rfl (fun _ h => nomatch h) hf106 (ps := [.v 9 true, .v 13 true, .sl 14]) (rs := [.v 0 false []]) (by decide) h106
  rwa [show fnK (E := E) (cx106 F) Try.f106 [] [.v 9 true, .v 13 true, .sl 14] [.v 0 false []] h106 = (fun x : AT E.G.car [.v 9 true, .v 13 true, .sl 14] => ref11_asked F x.1 x.2.1 x.2.2.1) from funext fun x => e106 F x.1 x.2.1 x.2.2.1] at h⟩
theorem hf52 : Try.prog.funcs[52]? = some Try.f52 := by kernel_rfl
theorem en52 : Proofs.Enters Try.prog 52 := Proofs.enters_of hf52 (by kernel_rfl) rfl
noncomputable def ref11_Best (F : Nat) (a0 : Field) (a1 : Fleet) (a2 : List Flight) : Option (Int × Int) :=
  bnd (ref11_asked F (Field.mk a0.W a0.H (a0.Cells)) (Fleet.mk a1.Base a1.Range a1.Speed a1.Count) a2) (fun (x : Int) => brk (x != (0 : Int)) (some (((0 : Int), x))) (loopC (fun (x_1 : (List (Int)) × ((List (Int)) × (Int))) => fun x_2 => brk (decide (x_1.snd.snd < (↑a2.length : Int))) (chk ((0 : Int) ≤ x_1.snd.snd ∧ x_1.snd.snd < (↑a2.length : Int)) (bnd (ref11_worth F (Field.mk a0.W a0.H (a0.Cells)) (Fleet.mk a1.Base a1.Range a1.Speed a1.Count) (Flight.mk (a2.getD (Int.toNat x_1.snd.snd) (Flight.mk (0 : Int) [])).From ((a2.getD (Int.toNat x_1.snd.snd) (Flight.mk (0 : Int) [])).Path))) (fun (x_3 : (Int) × ((Int) × (Int))) => chk (List.length x_1.snd.fst + [x_3.fst].length ≤ (1000000 : Nat)) (chk (List.length x_1.fst + [x_3.snd.fst].length ≤ (1000000 : Nat)) (chk (InR (x_1.snd.snd + (1 : Int))) (x_2 ((x_1.fst ++ [x_3.snd.fst], x_1.snd.fst ++ [x_3.fst], x_1.snd.snd + (1 : Int))))))))) (loopC (fun (x_3 : (Int) × (Int)) => fun x_4 => chk (((0 : Int) ≤ (↑a2.length : Int) ∧ (↑a2.length : Int) ≤ (62 : Int)) ∧ InR ((1 : Int) * (2 : Int) ^ (↑a2.length : Int).toNat)) (brk (decide (x_3.fst < (1 : Int) * (2 : Int) ^ (↑a2.length : Int).toNat)) (join F (fun (x_5 : Int) => chk (InR (x_3.fst + (1 : Int))) (x_4 ((x_3.fst + (1 : Int), x_5)))) (fun x_5 => chk ((0 : Int) ≤ (48 : Int) ∧ (48 : Int) ≤ (48 : Int) ∧ (48 : Int) ≤ (100000 : Int)) (loopC (fun (x_6 : (Int) × ((Int) × ((Bool) × (List (Int))))) => fun x_7 => brk (decide (x_6.fst < (↑a2.length : Int)) && x_6.snd.snd.fst) (join F (fun (x_8 : (Int) × ((Bool) × (List (Int)))) => chk (InR (x_6.fst + (1 : Int))) (x_7 ((x_6.fst + (1 : Int), x_8.fst, x_8.snd.fst, x_8.snd.snd)))) (fun x_8 => chk ((0 : Int) ≤ x_6.fst ∧ x_6.fst ≤ (↑IntKind.i64.bits : Int)) (chk ((0 : Int) ≤ Int.fdiv x_3.fst ((2 : Int) ^ Int.toNat x_6.fst) ∧ Int.fdiv x_3.fst ((2 : Int) ^ Int.toNat x_6.fst) ≤ (9223372036854775807 : Int)) (brk (Int.fdiv x_3.fst ((2 : Int) ^ Int.toNat x_6.fst) % (2 : Int) == (0 : Int)) (x_8 ((x_6.snd.fst, x_6.snd.snd.fst, x_6.snd.snd.snd))) (chk ((0 : Int) ≤ x_6.fst ∧ x_6.fst < (↑(List.length x_1.snd.fst) : Int)) (chk (InR (x_6.snd.fst + List.getD x_1.snd.fst (Int.toNat x_6.fst) (0 : Int))) (chk ((0 : Int) ≤ x_6.fst ∧ x_6.fst < (↑a2.length : Int)) (loopC (fun (x_9 : (Int) × ((Bool) × (List (Int)))) => fun x_10 => chk ((0 : Int) ≤ x_6.fst ∧ x_6.fst < (↑a2.length : Int)) (chk ((0 : Int) ≤ x_6.fst ∧ x_6.fst < (↑(List.length x_1.fst) : Int)) (chk (InR ((a2.getD (Int.toNat x_6.fst) (Flight.mk (0 : Int) [])).From + List.getD x_1.fst (Int.toNat x_6.fst) (0 : Int))) (brk (decide (x_9.fst < (a2.getD (Int.toNat x_6.fst) (Flight.mk (0 : Int) [])).From + List.getD x_1.fst (Int.toNat x_6.fst) (0 : Int))) (chk ((0 : Int) ≤ x_9.fst ∧ x_9.fst < (↑(List.length x_9.snd.snd) : Int)) (chk (InR (List.getD x_9.snd.snd (Int.toNat x_9.fst) (0 : Int) + (1 : Int))) (chk ((0 : Int) ≤ x_9.fst ∧ x_9.fst < (↑(List.length x_9.snd.snd) : Int)) (chk (x_9.snd.fst = true → (0 : Int) ≤ x_9.fst ∧ x_9.fst < (↑(List.set x_9.snd.snd (Int.toNat x_9.fst) (List.getD x_9.snd.snd (Int.toNat x_9.fst) (0 : Int) + (1 : Int))).length : Int)) (chk (InR (x_9.fst + (1 : Int))) (x_10 ((x_9.fst + (1 : Int), x_9.snd.fst && decide ((List.set x_9.snd.snd (Int.toNat x_9.fst) (List.getD x_9.snd.snd (Int.toNat x_9.fst) (0 : Int) + (1 : Int))).getD (Int.toNat x_9.fst) (0 : Int) ≤ a1.Count), List.set x_9.snd.snd (Int.toNat x_9.fst) (List.getD x_9.snd.snd (Int.toNat x_9.fst) (0 : Int) + (1 : Int)))))))))) (x_8 ((x_6.snd.fst + List.getD x_1.snd.fst (Int.toNat x_6.fst) (0 : Int), x_9.snd.fst, x_9.snd.snd))))))) (F) (((a2.getD (Int.toNat x_6.fst) (Flight.mk (0 : Int) [])).From, x_6.snd.snd.fst, x_6.snd.snd.snd)))))))))) (brk (x_6.snd.snd.fst) (x_5 (if x_6.snd.fst > x_3.snd then x_6.snd.fst else x_3.snd)) (x_5 (x_3.snd)))) (F) (((0 : Int), (0 : Int), true, List.replicate (Int.toNat (48 : Int)) (0 : Int)))))) (some ((x_3.snd, (0 : Int)))))) (F) (((0 : Int), (0 : Int))))) (F) (([], [], (0 : Int)))))
noncomputable def s52 (F : Nat) : CS E.G := ⟨52, [.v 9 true, .v 13 true, .sl 14], [.v 0 false [], .v 0 false []], fun x => ref11_Best F x.1 x.2.1 x.2.2.1⟩
noncomputable def cx52 (F : Nat) : Ctx E := ⟨[s103 F, s106 F], [], F, []⟩
noncomputable def h52 : Hint := (.c .n (.l ⟨[.l 0, .l 0, .i], [32, 64, 48], [1, 3, 2, 0], [(160, .h 4 3 0), (144, .h 5 3 0), (176, .i IntKind.i64)], [], [], [], 6⟩ (.c .n (.l ⟨[.i, .i], [32, 64, 160, 144], [1, 3, 4, 5], [(256, .i IntKind.i64), (240, .i IntKind.i64)], [], [], [], 6⟩ (.c (.j ⟨[.i], [32, 64, 256, 160, 144], [1, 3, 4, 5], [(240, .i IntKind.i64)], [], [], [], 6⟩ (.l ⟨[.i, .i, .b, .l 0], [32, 64, 256, 160, 144, 272, 240], [1, 3, 4, 5, 6], [(320, .i IntKind.i64), (288, .i IntKind.i64), (304, .b)], [], [], [(6, 3, 0)], 7⟩ (.c (.j ⟨[.i, .b, .l 0], [32, 64, 256, 320, 160, 144, 272, 240], [1, 3, 4, 5, 6], [(288, .i IntKind.i64), (304, .b)], [], [], [(6, 3, 0)], 7⟩ (.c .n (.l ⟨[.i, .b, .l 0], [32, 64, 256, 320, 160, 288, 144, 272, 240], [1, 3, 4, 5, 6], [(336, .i IntKind.i64), (304, .b)], [], [], [(6, 3, 0)], 7⟩ .n)) .n) .n)) .n) .n)))))
theorem e52 (F : Nat) (a0 : Field) (a1 : Fleet) (a2 : List Flight) : fnK (E := E) (cx52 F) Try.f52 [] [.v 9 true, .v 13 true, .sl 14] [.v 0 false [], .v 0 false []] h52 (a0, a1, a2, ()) = ref11_Best F a0 a1 a2 := by kernel_rfl
theorem c52 (F : Nat) : CSok E [] (s52 F) := ⟨en52, by
  have h := fn_sound (E := E) (gl := []) (cx := cx52 F) mix (allC (c103 F) (allC (c106 F) all0)) inl0 rfl (fun _ h => nomatch h) hf52 (ps := [.v 9 true, .v 13 true, .sl 14]) (rs := [.v 0 false [], .v 0 false []]) (by decide) h52
  rwa [show fnK (E := E) (cx52 F) Try.f52 [] [.v 9 true, .v 13 true, .sl 14] [.v 0 false [], .v 0 false []] h52 = (fun x : AT E.G.car [.v 9 true, .v 13 true, .sl 14] => ref11_Best F x.1 x.2.1 x.2.2.1) from funext fun x => e52 F x.1 x.2.1 x.2.2.1] at h⟩
theorem hf53 : Try.prog.funcs[53]? = some Try.f53 := by kernel_rfl
theorem en53 : Proofs.Enters Try.prog 53 := Proofs.enters_of hf53 (by kernel_rfl) rfl
noncomputable def ref11_Right (F : Nat) (a0 : Field) (a1 : Fleet) (a2 : List Flight) (a3 : List Bool) : Option (Bool × Int) :=
  chk ((0 : Int) ≤ (48 : Int) ∧ (48 : Int) ≤ (48 : Int) ∧ (48 : Int) ≤ (100000 : Int)) (loopC (fun (x : (Int) × ((Int) × (List (Int)))) => fun x_1 => brk (decide (x.fst < (↑a2.length : Int)) && decide (x.fst < (↑a3.length : Int))) (join F (fun (x_2 : (Int) × (List (Int))) => chk (InR (x.fst + (1 : Int))) (x_1 ((x.fst + (1 : Int), x_2.fst, x_2.snd)))) (fun x_2 => chk ((0 : Int) ≤ x.fst ∧ x.fst < (↑a3.length : Int)) (brk (!a3.getD (Int.toNat x.fst) false) (x_2 ((x.snd.fst, x.snd.snd))) (chk ((0 : Int) ≤ x.fst ∧ x.fst < (↑a2.length : Int)) (bnd (ref11_worth F (Field.mk a0.W a0.H (a0.Cells)) (Fleet.mk a1.Base a1.Range a1.Speed a1.Count) (Flight.mk (a2.getD (Int.toNat x.fst) (Flight.mk (0 : Int) [])).From ((a2.getD (Int.toNat x.fst) (Flight.mk (0 : Int) [])).Path))) (fun (x_3 : (Int) × ((Int) × (Int))) => brk (x_3.snd.snd != (0 : Int)) (some ((false, (0 : Int)))) (chk (InR (x.snd.fst + x_3.fst)) (chk ((0 : Int) ≤ x.fst ∧ x.fst < (↑a2.length : Int)) (loopC (fun (x_4 : (Int) × (List (Int))) => fun x_5 => chk ((0 : Int) ≤ x.fst ∧ x.fst < (↑a2.length : Int)) (chk (InR ((a2.getD (Int.toNat x.fst) (Flight.mk (0 : Int) [])).From + x_3.snd.fst)) (brk (decide (x_4.fst < (a2.getD (Int.toNat x.fst) (Flight.mk (0 : Int) [])).From + x_3.snd.fst)) (chk ((0 : Int) ≤ x_4.fst ∧ x_4.fst < (↑(List.length x_4.snd) : Int)) (chk (InR (List.getD x_4.snd (Int.toNat x_4.fst) (0 : Int) + (1 : Int))) (chk ((0 : Int) ≤ x_4.fst ∧ x_4.fst < (↑(List.length x_4.snd) : Int)) (chk ((0 : Int) ≤ x_4.fst ∧ x_4.fst < (↑(List.set x_4.snd (Int.toNat x_4.fst) (List.getD x_4.snd (Int.toNat x_4.fst) (0 : Int) + (1 : Int))).length : Int)) (brk (decide ((List.set x_4.snd (Int.toNat x_4.fst) (List.getD x_4.snd (Int.toNat x_4.fst) (0 : Int) + (1 : Int))).getD (Int.toNat x_4.fst) (0 : Int) > a1.Count)) (some ((false, (0 : Int)))) (chk (InR (x_4.fst + (1 : Int))) (x_5 ((x_4.fst + (1 : Int), List.set x_4.snd (Int.toNat x_4.fst) (List.getD x_4.snd (Int.toNat x_4.fst) (0 : Int) + (1 : Int))))))))))) (x_2 ((x.snd.fst + x_3.fst, x_4.snd)))))) (F) (((a2.getD (Int.toNat x.fst) (Flight.mk (0 : Int) [])).From, x.snd.snd))))))))))) (some (((↑a2.length : Int) == (↑a3.length : Int), x.snd.fst)))) (F) (((0 : Int), (0 : Int), List.replicate (Int.toNat (48 : Int)) (0 : Int))))
noncomputable def s53 (F : Nat) : CS E.G := ⟨53, [.v 9 true, .v 13 true, .sl 14, .sl 1], [.v 1 false [], .v 0 false []], fun x => ref11_Right F x.1 x.2.1 x.2.2.1 x.2.2.2.1⟩
noncomputable def cx53 (F : Nat) : Ctx E := ⟨[s103 F], [], F, []⟩
noncomputable def h53 : Hint := (.l ⟨[.i, .i, .l 0], [32, 64, 160, 48, 80], [1, 3, 5, 2, 4, 0], [(192, .i IntKind.i64), (176, .i IntKind.i64)], [], [], [(5, 3, 0)], 6⟩ (.c (.j ⟨[.i, .l 0], [32, 64, 192, 160, 48, 80], [1, 3, 5, 2, 4, 0], [(176, .i IntKind.i64)], [], [], [(5, 3, 0)], 6⟩ (.c .n (.c .n (.l ⟨[.i, .l 0], [32, 64, 192, 160, 224, 48, 80, 176], [1, 3, 5, 2, 4, 0], [(256, .i IntKind.i64)], [], [], [(5, 3, 0)], 7⟩ (.c .n .n)))) .n) .n))
theorem e53 (F : Nat) (a0 : Field) (a1 : Fleet) (a2 : List Flight) (a3 : List Bool) : fnK (E := E) (cx53 F) Try.f53 [] [.v 9 true, .v 13 true, .sl 14, .sl 1] [.v 1 false [], .v 0 false []] h53 (a0, a1, a2, a3, ()) = ref11_Right F a0 a1 a2 a3 := by kernel_rfl
theorem c53 (F : Nat) : CSok E [] (s53 F) := ⟨en53, by
  have h := fn_sound (E := E) (gl := []) (cx := cx53 F) mix (allC (c103 F) all0) inl0 rfl (fun _ h => nomatch h) hf53 (ps := [.v 9 true, .v 13 true, .sl 14, .sl 1]) (rs := [.v 1 false [], .v 0 false []]) (by decide) h53
  rwa [show fnK (E := E) (cx53 F) Try.f53 [] [.v 9 true, .v 13 true, .sl 14, .sl 1] [.v 1 false [], .v 0 false []] h53 = (fun x : AT E.G.car [.v 9 true, .v 13 true, .sl 14, .sl 1] => ref11_Right F x.1 x.2.1 x.2.2.1 x.2.2.2.1) from funext fun x => e53 F x.1 x.2.1 x.2.2.1 x.2.2.2.1] at h⟩
theorem hf55 : Try.prog.funcs[55]? = some Try.f55 := by kernel_rfl
theorem en55 : Proofs.Enters Try.prog 55 := Proofs.enters_of hf55 (by kernel_rfl) rfl
noncomputable def ref11_Bound (F : Nat) (a0 : Field) (a1 : Fleet) (a2 : List Flight) (a3 : List Int) : Option (Int × Int) :=
  bnd (ref11_asked F (Field.mk a0.W a0.H (a0.Cells)) (Fleet.mk a1.Base a1.Range a1.Speed a1.Count) a2) (fun (x : Int) => brk (x != (0 : Int)) (some (((0 : Int), x))) (brk ((↑a3.length : Int) != (48 : Int)) (some (((0 : Int), (1 : Int)))) (loopC (fun (x_1 : (Int) × (Int)) => fun x_2 => brk (decide (x_1.fst < (48 : Int))) (chk ((0 : Int) ≤ x_1.fst ∧ x_1.fst < (↑a3.length : Int)) (bnd (ref11_in F (a3.getD (Int.toNat x_1.fst) (0 : Int)) (0 : Int) (1000000000 : Int)) (fun (x_3 : Bool) => brk (!x_3) (some (((0 : Int), (6 : Int)))) (chk ((0 : Int) ≤ x_1.fst ∧ x_1.fst < (↑a3.length : Int)) (chk (InR (a1.Count * a3.getD (Int.toNat x_1.fst) (0 : Int))) (chk (InR (x_1.snd + a1.Count * a3.getD (Int.toNat x_1.fst) (0 : Int))) (chk (InR (x_1.fst + (1 : Int))) (x_2 ((x_1.fst + (1 : Int), x_1.snd + a1.Count * a3.getD (Int.toNat x_1.fst) (0 : Int))))))))))) (loopC (fun (x_3 : (Int) × (Int)) => fun x_4 => brk (decide (x_3.fst < (↑a2.length : Int))) (join F (fun (x_5 : Int) => chk (InR (x_3.fst + (1 : Int))) (x_4 ((x_3.fst + (1 : Int), x_5)))) (fun x_5 => chk ((0 : Int) ≤ x_3.fst ∧ x_3.fst < (↑a2.length : Int)) (bnd (ref11_worth F (Field.mk a0.W a0.H (a0.Cells)) (Fleet.mk a1.Base a1.Range a1.Speed a1.Count) (Flight.mk (a2.getD (Int.toNat x_3.fst) (Flight.mk (0 : Int) [])).From ((a2.getD (Int.toNat x_3.fst) (Flight.mk (0 : Int) [])).Path))) (fun (x_6 : (Int) × ((Int) × (Int))) => chk ((0 : Int) ≤ x_3.fst ∧ x_3.fst < (↑a2.length : Int)) (loopC (fun (x_7 : (Int) × (Int)) => fun x_8 => chk ((0 : Int) ≤ x_3.fst ∧ x_3.fst < (↑a2.length : Int)) (chk (InR ((a2.getD (Int.toNat x_3.fst) (Flight.mk (0 : Int) [])).From + x_6.snd.fst)) (brk (decide (x_7.snd < (a2.getD (Int.toNat x_3.fst) (Flight.mk (0 : Int) [])).From + x_6.snd.fst)) (chk ((0 : Int) ≤ x_7.snd ∧ x_7.snd < (↑a3.length : Int)) (chk (InR (x_7.fst - a3.getD (Int.toNat x_7.snd) (0 : Int))) (chk (InR (x_7.snd + (1 : Int))) (x_8 ((x_7.fst - a3.getD (Int.toNat x_7.snd) (0 : Int), x_7.snd + (1 : Int))))))) (brk (decide (x_7.fst > (0 : Int))) (chk (InR (x_3.snd + x_7.fst)) (x_5 (x_3.snd + x_7.fst))) (x_5 (x_3.snd)))))) (F) ((x_6.fst, (a2.getD (Int.toNat x_3.fst) (Flight.mk (0 : Int) [])).From))))))) (some ((x_3.snd, (0 : Int))))) (F) (((0 : Int), x_1.snd)))) (F) (((0 : Int), (0 : Int))))))
noncomputable def s55 (F : Nat) : CS E.G := ⟨55, [.v 9 true, .v 13 true, .sl 14, .sl 0], [.v 0 false [], .v 0 false []], fun x => ref11_Bound F x.1 x.2.1 x.2.2.1 x.2.2.2.1⟩
noncomputable def cx55 (F : Nat) : Ctx E := ⟨[s93 F, s103 F, s106 F], [], F, []⟩
noncomputable def h55 : Hint := (.c .n (.c .n (.l ⟨[.i, .i], [32, 64, 48, 80], [1, 3, 2, 4, 0], [(192, .i IntKind.i64), (176, .i IntKind.i64)], [], [], [], 5⟩ (.c .n (.l ⟨[.i, .i], [32, 64, 48, 80], [1, 3, 2, 4, 0], [(208, .i IntKind.i64), (176, .i IntKind.i64)], [], [], [], 5⟩ (.c (.j ⟨[.i], [32, 64, 48, 80, 208], [1, 3, 2, 4, 0], [(176, .i IntKind.i64)], [], [], [], 5⟩ (.l ⟨[.i, .i], [32, 64, 48, 80, 208, 176, 240], [1, 3, 2, 4, 0], [(224, .i IntKind.i64), (272, .i IntKind.i64)], [], [], [], 6⟩ (.c .n .n)) .n) .n))))))
theorem e55 (F : Nat) (a0 : Field) (a1 : Fleet) (a2 : List Flight) (a3 : List Int) : fnK (E := E) (cx55 F) Try.f55 [] [.v 9 true, .v 13 true, .sl 14, .sl 0] [.v 0 false [], .v 0 false []] h55 (a0, a1, a2, a3, ()) = ref11_Bound F a0 a1 a2 a3 := by kernel_rfl
theorem c55 (F : Nat) : CSok E [] (s55 F) := ⟨en55, by
  have h := fn_sound (E := E) (gl := []) (cx := cx55 F) mix (allC (c93 F) (allC (c103 F) (allC (c106 F) all0))) inl0 rfl (fun _ h => nomatch h) hf55 (ps := [.v 9 true, .v 13 true, .sl 14, .sl 0]) (rs := [.v 0 false [], .v 0 false []]) (by decide) h55
  rwa [show fnK (E := E) (cx55 F) Try.f55 [] [.v 9 true, .v 13 true, .sl 14, .sl 0] [.v 0 false [], .v 0 false []] h55 = (fun x : AT E.G.car [.v 9 true, .v 13 true, .sl 14, .sl 0] => ref11_Bound F x.1 x.2.1 x.2.2.1 x.2.2.2.1) from funext fun x => e55 F x.1 x.2.1 x.2.2.1 x.2.2.2.1] at h⟩
theorem hf109 : Try.prog.funcs[109]? = some Try.f109 := by kernel_rfl
theorem en109 : Proofs.Enters Try.prog 109 := Proofs.enters_of hf109 (by kernel_rfl) rfl
theorem hf110 : Try.prog.funcs[110]? = some Try.f110 := by kernel_rfl
theorem en110 : Proofs.Enters Try.prog 110 := Proofs.enters_of hf110 (by kernel_rfl) rfl
noncomputable def law11_sameFlights_1 (F : Nat) (a0 : Flight) (a1 : Flight) : Option (Bool) :=
  bnd (brk (a0.From == a1.From) (kit_SameInts F a0.Path a1.Path) (some false)) (fun (x : Bool) => some (a0.From == a1.From && x))
noncomputable def s110 (F : Nat) : CS E.G := ⟨110, [.v 14 true, .v 14 true], [.v 1 false []], fun x => law11_sameFlights_1 F x.1 x.2.1⟩
noncomputable def cx110 (F : Nat) : Ctx E := ⟨[s37 F], [], F, []⟩
noncomputable def h110 : Hint := .n
theorem e110 (F : Nat) (a0 : Flight) (a1 : Flight) : fnK (E := E) (cx110 F) Try.f110 [] [.v 14 true, .v 14 true] [.v 1 false []] h110 (a0, a1, ()) = law11_sameFlights_1 F a0 a1 := by kernel_rfl
theorem c110 (F : Nat) : CSok E [] (s110 F) := ⟨en110, by
  have h := fn_sound (E := E) (gl := []) (cx := cx110 F) mix (allC (c37 F) all0) inl0 rfl (fun _ h => nomatch h) hf110 (ps := [.v 14 true, .v 14 true]) (rs := [.v 1 false []]) (by decide) h110
  rwa [show fnK (E := E) (cx110 F) Try.f110 [] [.v 14 true, .v 14 true] [.v 1 false []] h110 = (fun x : AT E.G.car [.v 14 true, .v 14 true] => law11_sameFlights_1 F x.1 x.2.1) from funext fun x => e110 F x.1 x.2.1] at h⟩
theorem hf57 : Try.prog.funcs[57]? = some Try.f57 := by kernel_rfl
theorem en57 : Proofs.Enters Try.prog 57 := Proofs.enters_of hf57 (by kernel_rfl) rfl
noncomputable def law11_sameFlights (F : Nat) (a0 : List Flight) (a1 : List Flight) : Option (Bool) :=
  join F (fun (x : Bool) => some (x)) (fun x => brk ((↑a0.length : Int) != (↑a1.length : Int)) (x (false)) (loopC (fun (x_1 : Int) => fun x_2 => brk (decide (x_1 < (↑a0.length : Int))) (chk ((0 : Int) ≤ x_1 ∧ x_1 < (↑a0.length : Int)) (chk ((0 : Int) ≤ x_1 ∧ x_1 < (↑a1.length : Int)) (bnd (law11_sameFlights_1 F (Flight.mk (a0.getD (Int.toNat x_1) (Flight.mk (0 : Int) [])).From ((a0.getD (Int.toNat x_1) (Flight.mk (0 : Int) [])).Path)) (Flight.mk (a1.getD (Int.toNat x_1) (Flight.mk (0 : Int) [])).From ((a1.getD (Int.toNat x_1) (Flight.mk (0 : Int) [])).Path))) (fun (x_3 : Bool) => brk (!x_3) (x (false)) (chk (InR (x_1 + (1 : Int))) (x_2 (x_1 + (1 : Int)))))))) (x (true))) (F) ((0 : Int))))
noncomputable def s57 (F : Nat) : CS E.G := ⟨57, [.sl 14, .sl 14], [.v 1 false []], fun x => law11_sameFlights F x.1 x.2.1⟩
noncomputable def cx57 (F : Nat) : Ctx E := ⟨[s110 F], [(109, Try.f109)], F, []⟩
noncomputable def h57 : Hint := (.w ⟨[.b], [], [0, 1], [(0, .b)], [], [], [], 2⟩ (.c .n (.l ⟨[.i], [16, 32, 256, 240], [0, 1], [(272, .i IntKind.i64)], [], [], [], 2⟩ (.c .n .n))) .n)
theorem e57 (F : Nat) (a0 : List Flight) (a1 : List Flight) : fnK (E := E) (cx57 F) Try.f57 [] [.sl 14, .sl 14] [.v 1 false []] h57 (a0, a1, ()) = law11_sameFlights F a0 a1 := by kernel_rfl
theorem c57 (F : Nat) : CSok E [] (s57 F) := ⟨en57, by
  have h := fn_sound (E := E) (gl := []) (cx := cx57 F) mix (allC (c110 F) all0) (inlC hf109 en109 inl0) rfl (fun _ h => nomatch h) hf57 (ps := [.sl 14, .sl 14]) (rs := [.v 1 false []]) (by decide) h57
  rwa [show fnK (E := E) (cx57 F) Try.f57 [] [.sl 14, .sl 14] [.v 1 false []] h57 = (fun x : AT E.G.car [.sl 14, .sl 14] => law11_sameFlights F x.1 x.2.1) from funext fun x => e57 F x.1 x.2.1] at h⟩
theorem hf8 : Try.prog.funcs[8]? = some Try.f8 := by kernel_rfl
theorem en8 : Proofs.Enters Try.prog 8 := Proofs.enters_of hf8 (by kernel_rfl) rfl
noncomputable def law11_SpillFlights (F : Nat) (a0 : Field) (a1 : Fleet) (a2 : List Flight) (a3 : List Int) : Option (Bool) :=
  brk (decide ((↑a0.Cells.length : Int) > (80 : Int)) || decide ((↑a2.length : Int) > (8 : Int)) && decide ((↑a2.length : Int) ≤ (12 : Int))) (bnd (law11_awake F) (fun (x : Bool) => some (x))) (brk (decide ((↑a2.length : Int) > (20 : Int))) (bnd (law11_awake F) (fun (x : Bool) => some (x))) (brk (decide ((↑a3.length : Int) > (60 : Int))) (bnd (law11_awake F) (fun (x : Bool) => some (x))) (join F (fun (x : Int) => brk (decide (x ≥ (0 : Int))) (bnd (law11_awake F) (fun (x_1 : Bool) => some (x_1))) (bnd (law11_CopyField F (Field.mk a0.W a0.H (a0.Cells))) (fun (x_1 : Field) => bnd (law11_copyFlights F a2) (fun (x_2 : List (Flight)) => bnd (kit_CopyInts F a3) (fun (x_3 : List (Int)) => bnd (law11_CopyField F (Field.mk a0.W a0.H (a0.Cells))) (fun (x_4 : Field) => bnd (law11_flights F a2) (fun (x_5 : List (Flight)) => loopC (fun (x_6 : Int) => fun x_7 => brk (decide (x_6 < (↑(List.length x_2) : Int))) (chk ((0 : Int) ≤ x_6 ∧ x_6 < (↑(List.length x_2) : Int)) (bnd (spill_Worth F (Field.mk x_1.W x_1.H (x_1.Cells)) (Fleet.mk a1.Base a1.Range a1.Speed a1.Count) (Flight.mk (List.getD x_2 (Int.toNat x_6) (Flight.mk (0 : Int) [])).From ((List.getD x_2 (Int.toNat x_6) (Flight.mk (0 : Int) [])).Path))) (fun (x_8 : (Int) × ((Int) × (Int))) => chk ((0 : Int) ≤ x_6 ∧ x_6 < (↑(List.length x_5) : Int)) (bnd (ref11_Worth F (Field.mk x_4.W x_4.H (x_4.Cells)) (Fleet.mk a1.Base a1.Range a1.Speed a1.Count) (Flight.mk (List.getD x_5 (Int.toNat x_6) (Flight.mk (0 : Int) [])).From ((List.getD x_5 (Int.toNat x_6) (Flight.mk (0 : Int) [])).Path))) (fun (x_9 : (Int) × ((Int) × (Int))) => brk (x_8.fst != x_9.fst || x_8.snd.fst != x_9.snd.fst || x_8.snd.snd != x_9.snd.snd) (some (false)) (chk (InR (x_6 + (1 : Int))) (x_7 (x_6 + (1 : Int))))))))) (bnd (spill_Best F (Field.mk x_1.W x_1.H (x_1.Cells)) (Fleet.mk a1.Base a1.Range a1.Speed a1.Count) x_2) (fun (x_8 : (List (Bool)) × ((Int) × (Int))) => bnd (ref11_Best F (Field.mk x_4.W x_4.H (x_4.Cells)) (Fleet.mk a1.Base a1.Range a1.Speed a1.Count) x_5) (fun (x_9 : (Int) × (Int)) => brk (x_8.snd.fst != x_9.fst || x_8.snd.snd != x_9.snd) (some (false)) (join F (fun (x_10 : PUnit) => bnd (spill_Prices F (Field.mk x_1.W x_1.H (x_1.Cells)) (Fleet.mk a1.Base a1.Range a1.Speed a1.Count) x_2) (fun (x_11 : (List (Int)) × (Int)) => brk (x_11.snd != x_9.snd) (some (false)) (join F (fun (x_12 : PUnit) => bnd (spill_Bound F (Field.mk x_1.W x_1.H (x_1.Cells)) (Fleet.mk a1.Base a1.Range a1.Speed a1.Count) x_2 x_3) (fun (x_13 : (Int) × (Int)) => bnd (ref11_Bound F (Field.mk x_4.W x_4.H (x_4.Cells)) (Fleet.mk a1.Base a1.Range a1.Speed a1.Count) x_5 a3) (fun (x_14 : (Int) × (Int)) => bnd (brk (x_13.fst == x_14.fst && x_13.snd == x_14.snd) (law11_same F (Field.mk a0.W a0.H (a0.Cells)) (Field.mk x_1.W x_1.H (x_1.Cells))) (some false)) (fun (x_15 : Bool) => bnd (brk (x_13.fst == x_14.fst && x_13.snd == x_14.snd && x_15) (law11_sameFlights F x_2 a2) (some false)) (fun (x_16 : Bool) => bnd (brk (x_13.fst == x_14.fst && x_13.snd == x_14.snd && x_15 && x_16) (kit_SameInts F x_3 a3) (some false)) (fun (x_17 : Bool) => bnd (brk (x_13.fst == x_14.fst && x_13.snd == x_14.snd && x_15 && x_16 && x_17) (law11_awake F) (some false)) (fun (x_18 : Bool) => some (x_13.fst == x_14.fst && x_13.snd == x_14.snd && x_15 && x_16 && x_17 && x_18)))))))) (fun x_12 => brk (x_11.snd == (0 : Int)) (bnd (ref11_Bound F (Field.mk x_4.W x_4.H (x_4.Cells)) (Fleet.mk a1.Base a1.Range a1.Speed a1.Count) x_5 x_11.fst) (fun (x_13 : (Int) × (Int)) => brk (x_13.fst != x_8.snd.fst || x_13.snd != (0 : Int)) (some (false)) (x_12 (())))) (brk ((↑(List.length x_11.fst) : Int) != (0 : Int)) (some (false)) (x_12 (()))))))) (fun x_10 => brk (x_8.snd.snd == (0 : Int)) (bnd (ref11_Right F (Field.mk x_4.W x_4.H (x_4.Cells)) (Fleet.mk a1.Base a1.Range a1.Speed a1.Count) x_5 x_8.fst) (fun (x_11 : (Bool) × (Int)) => brk (!x_11.fst || x_11.snd != x_8.snd.fst) (some (false)) (x_10 (())))) (brk ((↑(List.length x_8.fst) : Int) != (0 : Int)) (some (false)) (x_10 (()))))))))) (F) ((0 : Int))))))))) (fun x => loopC (fun (x_1 : Int) => fun x_2 => brk (decide (x_1 < (↑a2.length : Int))) (chk ((0 : Int) ≤ x_1 ∧ x_1 < (↑a2.length : Int)) (bnd (law11_SpillFlights_1 F (Flight.mk (a2.getD (Int.toNat x_1) (Flight.mk (0 : Int) [])).From ((a2.getD (Int.toNat x_1) (Flight.mk (0 : Int) [])).Path))) (fun (x_3 : Bool) => brk (x_3) (x (x_1)) (chk (InR (x_1 + (1 : Int))) (x_2 (x_1 + (1 : Int))))))) (x ((-1 : Int)))) (F) ((0 : Int))))))
noncomputable def s8 (F : Nat) : CS E.G := ⟨8, [.v 9 true, .v 13 true, .sl 14, .sl 0], [.v 1 false []], fun x => law11_SpillFlights F x.1 x.2.1 x.2.2.1 x.2.2.2.1⟩
noncomputable def cx8 (F : Nat) : Ctx E := ⟨[s14 F, s17 F, s20 F, s33 F, s37 F, s46 F, s47 F, s48 F, s49 F, s50 F, s51 F, s52 F, s53 F, s54 F, s55 F, s56 F, s57 F], [(45, Try.f45), (98, Try.f98)], F, []⟩
noncomputable def h8 : Hint := (.k (.k (.k (.k (.k (.k (.k (.k (.k (.k (.k (.s .n (.s .n (.s .n (.p (.w ⟨[.i], [], [1], [(0, .i IntKind.i64)], [], [], [], 5⟩ (.l ⟨[.i], [0, 16, 112], [1], [(128, .i IntKind.i64)], [], [], [], 5⟩ (.c .n .n)) (.c .n (.l ⟨[.i], [32, 64, 192, 160, 1184, 224, 48, 80, 144, 1168, 208, 176], [1, 3, 11, 6, 10, 2, 4, 8, 12, 7, 0, 9, 5], [(1200, .i IntKind.i64)], [], [], [], 13⟩ (.c .n (.c .n (.j ⟨[], [32, 64, 384, 192, 160, 224, 48, 80, 144, 208, 176, 432], [1, 3, 11, 6, 10, 2, 4, 8, 12, 7, 0, 9, 5], [], [], [], [], 14⟩ (.c .n .n) (.c .n (.j ⟨[], [32, 64, 192, 160, 224, 48, 80, 144, 208, 176], [1, 3, 11, 6, 10, 2, 4, 8, 12, 7, 0, 9, 5], [], [], [], [], 15⟩ (.c .n .n) .n)))))))))))))))))))))))
theorem e8 (F : Nat) (a0 : Field) (a1 : Fleet) (a2 : List Flight) (a3 : List Int) : fnK (E := E) (cx8 F) Try.f8 [] [.v 9 true, .v 13 true, .sl 14, .sl 0] [.v 1 false []] h8 (a0, a1, a2, a3, ()) = law11_SpillFlights F a0 a1 a2 a3 := by kernel_rfl
theorem c8 (F : Nat) : CSok E [] (s8 F) := ⟨en8, by
  have h := fn_sound (E := E) (gl := []) (cx := cx8 F) mix (allC (c14 F) (allC (c17 F) (allC (c20 F) (allC (c33 F) (allC (c37 F) (allC (c46 F) (allC (c47 F) (allC (c48 F) (allC (c49 F) (allC (c50 F) (allC (c51 F) (allC (c52 F) (allC (c53 F) (allC (c54 F) (allC (c55 F) (allC (c56 F) (allC (c57 F) all0))))))))))))))))) (inlC hf45 en45 (inlC hf98 en98 inl0)) rfl (fun _ h => nomatch h) hf8 (ps := [.v 9 true, .v 13 true, .sl 14, .sl 0]) (rs := [.v 1 false []]) (by decide) h8
  rwa [show fnK (E := E) (cx8 F) Try.f8 [] [.v 9 true, .v 13 true, .sl 14, .sl 0] [.v 1 false []] h8 = (fun x : AT E.G.car [.v 9 true, .v 13 true, .sl 14, .sl 0] => law11_SpillFlights F x.1 x.2.1 x.2.2.1 x.2.2.2.1) from funext fun x => e8 F x.1 x.2.1 x.2.2.1 x.2.2.2.1] at h⟩
end Go.Proofs.Sp

namespace Go.KX

def Ok {α : Type} (post : α → Prop) (o : Option α) : Prop := ∃ r, o = some r ∧ post r

section
variable {α β ι σ R : Type} {post : α → Prop}

theorem chk_pos {p : Prop} [Decidable p] {x : Option α} (h : p) : chk p x = x := if_pos h
theorem brk_true {x y : Option α} : brk true x y = x := rfl
theorem brk_false {x y : Option α} : brk false x y = y := rfl
theorem bnd_so {x : β} {f : β → Option α} : bnd (some x) f = f x := rfl
theorem loopC_succ {body : σ → (σ → Option α) → Option α} {n : Nat} {x : σ} : loopC body (n + 1) x = body x (loopC body n) := rfl
theorem ok_some {r : α} (h : post r) : Ok post (some r) := ⟨r, rfl, h⟩
theorem ok_chk {p : Prop} [Decidable p] {x : Option α} (h : p) (hx : Ok post x) : Ok post (chk p x) := by rw [chk_pos h]; exact hx
theorem ok_brk {c : Bool} {x y : Option α} (ht : c = true → Ok post x) (hf : c = false → Ok post y) : Ok post (brk c x y) := by
  cases c with
  | true => exact ht rfl
  | false => exact hf rfl
theorem ok_brkT {c : Bool} {x y : Option α} (hc : c = true) (ht : Ok post x) : Ok post (brk c x y) := by subst hc; exact ht
theorem ok_brkF {c : Bool} {x y : Option α} (hc : c = false) (hf : Ok post y) : Ok post (brk c x y) := by subst hc; exact hf
theorem ok_bnd {x : Option β} {f : β → Option α} (q : β → Prop) (hx : Ok q x) (hf : ∀ b, q b → Ok post (f b)) : Ok post (bnd x f) := by
  obtain ⟨b, rfl, hb⟩ := hx
  exact hf b hb
theorem ok_bnde {x : Option β} {f : β → Option α} {b : β} (hx : x = some b) (hf : Ok post (f b)) : Ok post (bnd x f) := by subst hx; exact hf
theorem ok_join {F : Nat} (hF : 0 < F) {K : ι → Option α} {body : (ι → Option α) → Option α} (J : ι → Prop) (hK : ∀ i, J i → Ok post (K i)) (hb : ∀ k : ι → Option α, (∀ i, J i → Ok post (k i)) → Ok post (body k)) : Ok post (join F K body) := by
  obtain ⟨n, rfl⟩ := Nat.exists_eq_succ_of_ne_zero (Nat.ne_of_gt hF)
  exact hb K hK
theorem join_succ {n : Nat} {K : ι → Option α} {body : (ι → Option α) → Option α} : join (n + 1) K body = body K := rfl
theorem ok_loop {body : σ → (σ → Option α) → Option α} (I : σ → Prop) (μ : σ → Nat) {n : Nat} {x0 : σ} (h0 : I x0) (hn : μ x0 < n)
    (h : ∀ x (next : σ → Option α), I x → (∀ y, I y → μ y < μ x → Ok post (next y)) → Ok post (body x next)) : Ok post (loopC body n x0) := by
  induction n generalizing x0 with
  | zero => omega
  | succ n ih => exact h x0 _ h0 fun y hy hlt => ih hy (by omega)
theorem Ok.mono {post' : α → Prop} {o : Option α} (h : Ok post o) (hp : ∀ r, post r → post' r) : Ok post' o := by obtain ⟨r, h1, h2⟩ := h; exact ⟨r, h1, hp r h2⟩
theorem Ok.eq {o : Option α} {r : α} (h : Ok (fun x => x = r) o) : o = some r := by obtain ⟨r, h1, rfl⟩ := h; exact h1
end

/-! ### Lists -/
theorem getD_mem {α : Type} {l : List α} {i : Nat} {d : α} (h : i < l.length) : l.getD i d ∈ l := by
  rw [List.getD_eq_getElem?_getD, List.getElem?_eq_getElem h]; exact List.getElem_mem h
theorem getD_get {α : Type} {l : List α} {i : Nat} {d : α} (h : i < l.length) : l.getD i d = l[i] := by
  rw [List.getD_eq_getElem?_getD, List.getElem?_eq_getElem h]; rfl
theorem getD_append_left' {α : Type} {l r : List α} {i : Nat} {d : α} (h : i < l.length) : (l ++ r).getD i d = l.getD i d := by
  rw [List.getD_eq_getElem?_getD, List.getElem?_append_left h, ← List.getD_eq_getElem?_getD]
theorem getD_append_here {α : Type} {l : List α} {x d : α} : (l ++ [x]).getD l.length d = x := by
  simp [List.getD_eq_getElem?_getD]
theorem getD_set' {α : Type} {l : List α} {i j : Nat} {x d : α} (h : i < l.length) : (l.set i x).getD j d = if i = j then x else l.getD j d := by
  simp only [List.getD_eq_getElem?_getD, List.getElem?_set]
  by_cases e : i = j
  · subst e; simp [h]
  · simp [e]
theorem list_ext {α : Type} {l r : List α} (d : α) (h : l.length = r.length) (hx : ∀ i, i < l.length → l.getD i d = r.getD i d) : l = r := by
  apply List.ext_getElem h
  intro i h1 h2
  have := hx i h1
  rwa [getD_get h1, getD_get h2] at this
theorem take_succ' {α : Type} {l : List α} {i : Nat} {d : α} (h : i < l.length) : l.take (i + 1) = l.take i ++ [l.getD i d] := by
  rw [getD_get h, List.take_add_one, List.getElem?_eq_getElem h]; rfl

def sumL : List Int → Int
  | [] => 0
  | x :: r => x + sumL r
theorem sumL_append : ∀ l r : List Int, sumL (l ++ r) = sumL l + sumL r
  | [], r => by simp [sumL]
  | x :: l, r => by simp only [List.cons_append, sumL, sumL_append l r]; omega
theorem sumL_set : ∀ (l : List Int) (i : Nat) (v : Int), i < l.length → sumL (l.set i v) = sumL l - l.getD i 0 + v
  | x :: l, 0, v, _ => by simp only [List.set_cons_zero, sumL, List.getD_cons_zero]; omega
  | x :: l, i + 1, v, h => by
    simp only [List.set_cons_succ, sumL, List.getD_cons_succ]
    rw [sumL_set l i v (by simpa using h)]; omega
theorem sumL_nonneg : ∀ (l : List Int), (∀ x ∈ l, 0 ≤ x) → 0 ≤ sumL l
  | [], _ => by simp [sumL]
  | x :: l, h => by
    have h1 := h x (by simp); have h2 := sumL_nonneg l fun y hy => h y (by simp [hy])
    simp only [sumL]; omega
theorem mem_le_sumL : ∀ (l : List Int), (∀ x ∈ l, 0 ≤ x) → ∀ x ∈ l, x ≤ sumL l
  | y :: l, h, x, hx => by
    have h1 := h y (by simp); have h2 := sumL_nonneg l fun y hy => h y (by simp [hy])
    simp only [sumL]
    rcases List.mem_cons.1 hx with rfl | hx
    · omega
    · have := mem_le_sumL l (fun y hy => h y (by simp [hy])) x hx; omega
theorem sumL_le {B : Int} : ∀ (l : List Int), (∀ x ∈ l, x ≤ B) → sumL l ≤ B * l.length
  | [], _ => by simp [sumL]
  | x :: l, h => by
    have h1 := h x (by simp); have h2 := sumL_le l fun y hy => h y (by simp [hy])
    simp only [sumL, List.length_cons, Int.natCast_add, Int.mul_add]; omega
theorem sumL_replicate0 (n : Nat) : sumL (List.replicate n 0) = 0 := by
  induction n with
  | zero => rfl
  | succ n ih => simp [List.replicate_succ, sumL, ih]
theorem getD_nonneg {l : List Int} (h : ∀ x ∈ l, 0 ≤ x) (i : Nat) : 0 ≤ l.getD i 0 := by
  by_cases hi : i < l.length
  · exact h _ (getD_mem hi)
  · simp [List.getD_eq_getElem?_getD, List.getElem?_eq_none (Nat.le_of_not_lt hi)]
theorem getD_le_sum {l : List Int} (h : ∀ x ∈ l, 0 ≤ x) (i : Nat) : l.getD i 0 ≤ sumL l := by
  by_cases hi : i < l.length
  · exact mem_le_sumL l h _ (getD_mem hi)
  · simp [List.getD_eq_getElem?_getD, List.getElem?_eq_none (Nat.le_of_not_lt hi)]; exact sumL_nonneg l h
end Go.KX

namespace Go.Proofs.Sp
open Go Go.KX

theorem within_eq (F : Nat) (a b c : Int) : spill_within F a b c = some (decide (a ≥ b) && decide (a ≤ c)) := rfl

/-- A span that is allowed. -/
abbrev SpanOK (m : Int) (s : Span) : Prop := 0 ≤ s.Lo ∧ s.Lo ≤ s.Hi ∧ s.Hi ≤ m

theorem span_eq (F : Nat) (s : Span) (m : Int) : spill_span F s m = some (decide (SpanOK m s)) := by
  unfold spill_span
  rw [within_eq, bnd_so]
  cases h : (decide (s.Lo ≥ 0) && decide (s.Lo ≤ m)) with
  | true =>
    simp only [Bool.and_eq_true, decide_eq_true_eq] at h
    rw [brk_true, within_eq, bnd_so, Bool.true_and]
    congr 1
    rw [← Bool.decide_and]
    exact decide_eq_decide.2 ⟨fun h' => ⟨h.1, h'.1, h'.2⟩, fun h' => ⟨h'.2.1, h'.2.2⟩⟩
  | false =>
    simp only [Bool.and_eq_false_iff, decide_eq_false_iff_not] at h
    rw [brk_false, bnd_so, Bool.false_and]
    congr 1
    symm
    rw [decide_eq_false_iff_not]
    rintro ⟨h1, h2, h3⟩
    omega

/-- The error of a field. -/
def checkV (f : Field) : Int :=
  if ¬ (1 ≤ f.W ∧ f.W ≤ 8 ∧ 1 ≤ f.H ∧ f.H ≤ 8) then 6
  else if (f.Cells.length : Int) ≠ f.W * f.H then 1
  else if ∀ s ∈ f.Cells, SpanOK 1000000 s then 0 else 120

theorem mul_bound {w h : Int} (h1 : 1 ≤ w) (h2 : w ≤ 8) (h3 : 1 ≤ h) (h4 : h ≤ 8) : 1 ≤ w * h ∧ w * h ≤ 64 := by
  have : w = 1 ∨ w = 2 ∨ w = 3 ∨ w = 4 ∨ w = 5 ∨ w = 6 ∨ w = 7 ∨ w = 8 := by omega
  rcases this with rfl | rfl | rfl | rfl | rfl | rfl | rfl | rfl <;> omega

/-- The loop of ContainsFunc: the first index of which p is so; here p is that a span is not allowed. -/
theorem find_ok {F : Nat} {m : Int} {l : List Span} {g : Nat → Span → Option Bool} (hg : ∀ s, g F s = some (!decide (SpanOK m s))) {α : Type} {post : α → Prop} (k : Int → Option α) (hF : l.length < F) (hl : l.length ≤ 1000000)
    (hk : ∀ i : Int, (0 ≤ i ↔ ¬ ∀ s ∈ l, SpanOK m s) → Ok post (k i)) :
    Ok post (loopC (fun (x_3 : Int) => fun x_4 => brk (decide (x_3 < (↑l.length : Int))) (chk ((0 : Int) ≤ x_3 ∧ x_3 < (↑l.length : Int)) (bnd (g F (Span.mk (l.getD (Int.toNat x_3) (Span.mk (0 : Int) (0 : Int))).Lo (l.getD (Int.toNat x_3) (Span.mk (0 : Int) (0 : Int))).Hi)) (fun (x_5 : Bool) => brk (x_5) (k (x_3)) (chk (InR (x_3 + (1 : Int))) (x_4 (x_3 + (1 : Int))))))) (k ((-1 : Int)))) (F) ((0 : Int))) := by
  refine ok_loop (fun i : Int => 0 ≤ i ∧ i ≤ l.length ∧ ∀ j : Nat, (j : Int) < i → SpanOK m (l.getD j ⟨0, 0⟩)) (fun i : Int => l.length - i.toNat) ⟨by omega, by omega, fun j hj => by omega⟩ (by simp; omega) fun i next ⟨h1, h2, h3⟩ hn => ?_
  refine ok_brk (fun hc => ?_) (fun hc => ?_)
  · have hc : i < l.length := by simpa using hc
    have hi : i.toNat < l.length := by omega
    refine ok_chk ⟨h1, hc⟩ ?_
    rw [hg, bnd_so]
    refine ok_brk (fun hb => ?_) (fun hb => ?_)
    · simp only [Bool.not_eq_true', decide_eq_false_iff_not] at hb
      exact hk i ⟨fun _ h => hb (h _ (getD_mem hi)), fun _ => h1⟩
    · simp only [Bool.not_eq_false', decide_eq_true_eq] at hb
      refine ok_chk (by constructor <;> omega) (hn _ ⟨by omega, by omega, fun j hj => ?_⟩ (by omega))
      by_cases e : (j : Int) < i
      · exact h3 j e
      · obtain rfl : j = i.toNat := by omega
        exact hb
  · have hc : ¬ i < l.length := by simpa using hc
    refine hk (-1) ⟨fun h => by omega, fun h => absurd (fun s hs => ?_) h⟩
    obtain ⟨j, hj, rfl⟩ := List.getElem_of_mem hs
    have := h3 j (by omega)
    rwa [getD_get hj] at this

theorem Check_eq {F : Nat} {f : Field} (hF : f.Cells.length < F) : spill_Check F f = some (checkV f) := by
  refine Ok.eq ?_
  unfold spill_Check
  rw [within_eq, bnd_so]
  have key : Ok (fun x => x = checkV f) (brk (!decide (1 ≤ f.W ∧ f.W ≤ 8) || !decide (1 ≤ f.H ∧ f.H ≤ 8)) (some ((6 : Int))) (chk (InR (f.W * f.H)) (brk ((↑f.Cells.length : Int) != f.W * f.H) (some ((1 : Int))) (join F (fun (x_2 : Int) => brk (decide (x_2 ≥ (0 : Int))) (some ((120 : Int))) (some ((0 : Int)))) (fun x_2 => loopC (fun (x_3 : Int) => fun x_4 => brk (decide (x_3 < (↑f.Cells.length : Int))) (chk ((0 : Int) ≤ x_3 ∧ x_3 < (↑f.Cells.length : Int)) (bnd (spill_Check_1 F (Span.mk (f.Cells.getD (Int.toNat x_3) (Span.mk (0 : Int) (0 : Int))).Lo (f.Cells.getD (Int.toNat x_3) (Span.mk (0 : Int) (0 : Int))).Hi)) (fun (x_5 : Bool) => brk (x_5) (x_2 (x_3)) (chk (InR (x_3 + (1 : Int))) (x_4 (x_3 + (1 : Int))))))) (x_2 ((-1 : Int)))) (F) ((0 : Int))))))) := by
    refine ok_brk (fun h => ok_some ?_) (fun h => ?_)
    · rw [checkV, if_pos]
      simp only [Bool.or_eq_true, Bool.not_eq_true', decide_eq_false_iff_not] at h
      omega
    · simp only [Bool.or_eq_false_iff, Bool.not_eq_false', decide_eq_true_eq] at h
      obtain ⟨hb1, hb2⟩ := mul_bound h.1.1 h.1.2 h.2.1 h.2.2
      have e1 : ¬ ¬ (1 ≤ f.W ∧ f.W ≤ 8 ∧ 1 ≤ f.H ∧ f.H ≤ 8) := by omega
      refine ok_chk (by constructor <;> omega) (ok_brk (fun h2 => ok_some ?_) (fun h2 => ?_))
      · rw [checkV, if_neg e1, if_pos (by simpa using h2)]
      · have h2 : (f.Cells.length : Int) = f.W * f.H := by simpa using h2
        refine ok_join (by omega) (fun i : Int => 0 ≤ i ↔ ¬ ∀ s ∈ f.Cells, SpanOK 1000000 s) (fun i hi => ?_) fun k hk => find_ok (g := spill_Check_1) (fun s => by unfold spill_Check_1; rw [span_eq, bnd_so]) k hF (by omega) hk
        refine ok_brk (fun h3 => ok_some ?_) (fun h3 => ok_some ?_)
        · rw [checkV, if_neg e1, if_neg (fun h => h h2), if_neg (hi.1 (by simpa using h3))]
        · rw [checkV, if_neg e1, if_neg (fun h => h h2), if_pos]
          exact Classical.not_not.1 fun h => absurd (hi.2 h) (by simpa using h3)
  have e : ∀ a b c : Int, (decide (a ≥ b) && decide (a ≤ c)) = decide (b ≤ a ∧ a ≤ c) := fun a b c => by rw [← Bool.decide_and]
  rw [e]
  by_cases h : 1 ≤ f.W ∧ f.W ≤ 8
  · rw [decide_eq_true h] at key ⊢
    simp only [Bool.not_true, Bool.not_false, brk_true, within_eq, bnd_so, e]
    exact key
  · rw [decide_eq_false h] at key ⊢
    simp only [Bool.not_false, Bool.not_true, brk_false, bnd_so] at key ⊢
    simpa only [Bool.true_or, brk_true] using key

/-- A field that is right. -/
structure FieldOK (f : Field) : Prop where
  w : 1 ≤ f.W ∧ f.W ≤ 8
  h : 1 ≤ f.H ∧ f.H ≤ 8
  len : (f.Cells.length : Int) = f.W * f.H
  cells : ∀ s ∈ f.Cells, SpanOK 1000000 s

theorem FieldOK.check {f : Field} (h : FieldOK f) : checkV f = 0 := by
  rw [checkV, if_neg (by have := h.w; have := h.h; omega), if_neg (fun e => e h.len), if_pos h.cells]
theorem FieldOK.small {f : Field} (h : FieldOK f) : 1 ≤ f.Cells.length ∧ f.Cells.length ≤ 64 := by
  have h1 := mul_bound h.w.1 h.w.2 h.h.1 h.h.2
  have := h.len
  omega
theorem checkV_ok {f : Field} (h : checkV f = 0) : FieldOK f := by
  unfold checkV at h
  split at h
  · cases h
  · rename_i h1
    split at h
    · cases h
    · rename_i h2
      split at h
      · rename_i h3; exact ⟨by omega, by omega, by omega, h3⟩
      · cases h

abbrev d0 : A2ofInt := A2ofInt.mk (0 : Int) (0 : Int)
abbrev dirs : List A2ofInt := [A2ofInt.mk (0 : Int) (-1 : Int), A2ofInt.mk (1 : Int) (0 : Int), A2ofInt.mk (0 : Int) (1 : Int), A2ofInt.mk (-1 : Int) (0 : Int)]

def okD (W H c : Int) (d : A2ofInt) : Bool := (decide (c % W + d.a0 ≥ 0) && decide (c % W + d.a0 ≤ W - 1)) && (decide (c / W + d.a1 ≥ 0) && decide (c / W + d.a1 ≤ H - 1))
def toD (W c : Int) (d : A2ofInt) : Int := (c / W + d.a1) * W + (c % W + d.a0)
def nbl (W H c : Int) (l : List A2ofInt) : List Int := (l.filter (okD W H c)).map (toD W c)
/-- The neighbours of a cell. -/
def nb (W H c : Int) : List Int := nbl W H c dirs

def addAt (l : List Int) (k : Int) (v : Int) : List Int := l.set k.toNat (l.getD k.toNat 0 + v)
def adds : List Int → List (Int × Int) → List Int
  | l, [] => l
  | l, p :: cs => adds (addAt l p.1 p.2) cs
theorem adds_append : ∀ (cs ds : List (Int × Int)) (l : List Int), adds l (cs ++ ds) = adds (adds l cs) ds
  | [], _, _ => rfl
  | _ :: cs, ds, l => adds_append cs ds _

def give (f m : Int) : Int → List Int → List (Int × Int)
  | _, [] => []
  | i, k :: ks => (k, (f + i) / m) :: give f m (i + 1) ks
theorem give_append (f m : Int) : ∀ (ks : List Int) (i k : Int), give f m i (ks ++ [k]) = give f m i ks ++ [(k, (f + (i + ks.length)) / m)]
  | [], i, k => by simp [give]
  | q :: ks, i, k => by
    simp only [List.cons_append, give, give_append f m ks, List.length_cons]
    rw [show i + 1 + (ks.length : Int) = i + ((ks.length + 1 : Nat) : Int) by omega]

def offV (a c : Int) : Int := (if a - c > 0 then a - c else 0) / 2
def contr (W H c n s g : Int) : List (Int × Int) := if (nb W H c).length = 0 then [(c, n)] else (c, n - offV n s) :: give (offV n g) (nb W H c).length 0 (nb W H c)
def contrs (W H : Int) (am st gi : List Int) : Nat → List (Int × Int)
  | 0 => []
  | k + 1 => contrs W H am st gi k ++ contr W H k (am.getD k 0) (st.getD k 0) (gi.getD k 0)
/-- The amounts after an hour. -/
def hourV (W H : Int) (am st gi : List Int) : List Int := adds (List.replicate am.length 0) (contrs W H am st gi am.length)

theorem off_eq {F : Nat} {a c : Int} (ha : 0 ≤ a ∧ a ≤ 1000000) (hc : 0 ≤ c ∧ c ≤ 1000000) : spill_off F a c = some (offV a c) := by
  unfold spill_off
  rw [chk_pos (by constructor <;> (first | omega | (dsimp only; omega))), chk_pos (by split <;> constructor <;> omega)]
  rfl
theorem offV_bound {a c : Int} (ha : 0 ≤ a ∧ a ≤ 1000000) (hc : 0 ≤ c) : 0 ≤ offV a c ∧ offV a c ≤ a ∧ offV a c ≤ 1000000 := by
  unfold offV
  split <;> refine ⟨by omega, by omega, by omega⟩

structure Good (L : Nat) (B : Int) (out : List Int) : Prop where
  len : out.length = L
  nn : ∀ x ∈ out, 0 ≤ x
  sum : sumL out ≤ B

theorem Good.get {L : Nat} {B : Int} {out : List Int} (h : Good L B out) (i : Nat) : 0 ≤ out.getD i 0 ∧ out.getD i 0 ≤ B :=
  ⟨getD_nonneg h.nn i, Int.le_trans (getD_le_sum h.nn i) h.sum⟩
theorem Good.mono {L : Nat} {B B' : Int} {out : List Int} (h : Good L B out) (hB : B ≤ B') : Good L B' out := ⟨h.len, h.nn, Int.le_trans h.sum hB⟩
theorem Good.addAt {L : Nat} {B V : Int} {out : List Int} {k v : Int} (h : Good L B out) (h1 : 0 ≤ k) (h2 : k < L) (h3 : 0 ≤ v) (h4 : v ≤ V) : Good L (B + V) (Sp.addAt out k v) := by
  have hk : k.toNat < out.length := by rw [h.len]; omega
  refine ⟨by rw [Sp.addAt, List.length_set, h.len], fun x hx => ?_, ?_⟩
  · have := (h.get k.toNat).1
    rcases List.mem_or_eq_of_mem_set hx with hx | rfl
    · exact h.nn x hx
    · omega
  · have := h.sum
    rw [Sp.addAt, sumL_set _ _ _ hk]; omega

theorem dirs_small : ∀ d ∈ dirs, -1 ≤ d.a0 ∧ d.a0 ≤ 1 ∧ -1 ≤ d.a1 ∧ d.a1 ≤ 1 := by decide

theorem pos_bound {W H c : Int} (hW : 1 ≤ W ∧ W ≤ 8) (hH : 1 ≤ H ∧ H ≤ 8) (hc : 0 ≤ c ∧ c < W * H) : 0 ≤ c % W ∧ c % W ≤ W - 1 ∧ 0 ≤ c / W ∧ c / W ≤ H - 1 := by
  have h1 := Int.emod_nonneg c (by omega : W ≠ 0)
  have h2 := Int.emod_lt_of_pos c (by omega : 0 < W)
  have h3 := Int.ediv_nonneg hc.1 (by omega : 0 ≤ W)
  have h4 := Int.ediv_lt_of_lt_mul (by omega : 0 < W) (show c < H * W by rw [Int.mul_comm]; exact hc.2)
  omega

theorem toD_bound {W H c : Int} {d : A2ofInt} (hW : 1 ≤ W ∧ W ≤ 8) (hH : 1 ≤ H ∧ H ≤ 8) (h : okD W H c d = true) : 0 ≤ (c / W + d.a1) * W ∧ (c / W + d.a1) * W ≤ 64 ∧ 0 ≤ toD W c d ∧ toD W c d < W * H := by
  simp only [okD, Bool.and_eq_true, decide_eq_true_eq] at h
  obtain ⟨⟨h1, h2⟩, h3, h4⟩ := h
  have h5 : 0 ≤ (c / W + d.a1) * W := Int.mul_nonneg h3 (by omega)
  have h6 : (c / W + d.a1) * W ≤ (H - 1) * W := Int.mul_le_mul_of_nonneg_right h4 (by omega)
  have h7 : (H - 1) * W = W * H - W := by rw [Int.sub_mul, Int.one_mul, Int.mul_comm]
  have h8 := mul_bound hW.1 hW.2 hH.1 hH.2
  refine ⟨h5, by omega, ?_, ?_⟩ <;> unfold toD <;> omega

theorem nbl_snoc (W H c : Int) (l : List A2ofInt) (d : A2ofInt) : nbl W H c (l ++ [d]) = bif okD W H c d then nbl W H c l ++ [toD W c d] else nbl W H c l := by
  unfold nbl
  rw [List.filter_append, List.map_append]
  cases h : okD W H c d <;> simp [h]

theorem nbl_mem {W H c : Int} (hW : 1 ≤ W ∧ W ≤ 8) (hH : 1 ≤ H ∧ H ≤ 8) {l : List A2ofInt} : ∀ k ∈ nbl W H c l, 0 ≤ k ∧ k < W * H := by
  intro k hk
  unfold nbl at hk
  simp only [List.mem_map, List.mem_filter] at hk
  obtain ⟨d, ⟨_, hd⟩, rfl⟩ := hk
  have := toD_bound hW hH hd
  exact ⟨this.2.2.1, this.2.2.2⟩

theorem brk_and {F : Nat} {b : Bool} {x m : Int} : brk b (spill_within F x 0 m) (some false) = some (b && (decide (x ≥ 0) && decide (x ≤ m))) := by
  cases b <;> rfl

theorem nbl_le4 (W H c : Int) (j : Nat) : (nbl W H c (dirs.take j)).length ≤ 4 := by
  unfold nbl
  rw [List.length_map]
  refine Nat.le_trans (List.length_filter_le _ _) ?_
  rw [List.length_take]; exact Nat.min_le_right _ _

theorem nd_true {p : Prop} [Decidable p] (h : (!decide p) = true) : ¬ p := by simpa using h
theorem nd_false {p : Prop} [Decidable p] (h : (!decide p) = false) : p := by simpa using h

theorem drop_cons' {α : Type} {l : List α} {i : Nat} {d : α} (h : i < l.length) : l.drop i = l.getD i d :: l.drop (i + 1) := by
  rw [getD_get h]; exact List.drop_eq_getElem_cons h

theorem refSpan_eq (F : Nat) (s : Span) (m : Int) : ref11_span F s m = some (decide (SpanOK m s)) := by
  unfold ref11_span
  congr 1
  by_cases h : SpanOK m s
  · rw [decide_eq_true h, decide_eq_true (show s.Lo ≥ 0 from h.1), decide_eq_true h.2.2, decide_eq_true h.2.1]; rfl
  · rw [decide_eq_false h]
    by_cases h1 : s.Lo ≥ 0
    · by_cases h2 : s.Hi ≤ m
      · rw [decide_eq_true h1, decide_eq_true h2, decide_eq_false (fun h3 => h ⟨h1, h3, h2⟩)]; rfl
      · rw [decide_eq_false h2]; simp
    · rw [decide_eq_false h1]; simp

theorem refIn_eq (F : Nat) (a b c : Int) : ref11_in F a b c = some (decide (a ≥ b) && decide (a ≤ c)) := rfl

theorem refCheck_eq {F : Nat} {f : Field} (hF : f.Cells.length < F) : ref11_Check F f = some (checkV f) := by
  refine Ok.eq ?_
  unfold ref11_Check
  rw [refIn_eq, bnd_so]
  have e : ∀ a b c : Int, (decide (a ≥ b) && decide (a ≤ c)) = decide (b ≤ a ∧ a ≤ c) := fun a b c => by rw [← Bool.decide_and]
  rw [e]
  refine ok_bnde (b := decide (1 ≤ f.W ∧ f.W ≤ 8) && decide (1 ≤ f.H ∧ f.H ≤ 8)) ?_ ?_
  · cases decide (1 ≤ f.W ∧ f.W ≤ 8)
    · rfl
    · rw [refIn_eq, e]; rfl
  have e2 : (!decide (1 ≤ f.W ∧ f.W ≤ 8) || !(decide (1 ≤ f.W ∧ f.W ≤ 8) && decide (1 ≤ f.H ∧ f.H ≤ 8))) = (!decide (1 ≤ f.W ∧ f.W ≤ 8) || !decide (1 ≤ f.H ∧ f.H ≤ 8)) := by
    cases decide (1 ≤ f.W ∧ f.W ≤ 8) <;> rfl
  rw [e2]
  refine ok_brk (fun h => ok_some ?_) (fun h => ?_)
  · rw [checkV, if_pos]
    simp only [Bool.or_eq_true, Bool.not_eq_true', decide_eq_false_iff_not] at h
    omega
  · simp only [Bool.or_eq_false_iff, Bool.not_eq_false', decide_eq_true_eq] at h
    obtain ⟨hb1, hb2⟩ := mul_bound h.1.1 h.1.2 h.2.1 h.2.2
    have e1 : ¬ ¬ (1 ≤ f.W ∧ f.W ≤ 8 ∧ 1 ≤ f.H ∧ f.H ≤ 8) := by omega
    refine ok_chk (by constructor <;> omega) (ok_brk (fun h2 => ok_some ?_) (fun h2 => ?_))
    · rw [checkV, if_neg e1, if_pos (by simpa using h2)]
    · have h2 : (f.Cells.length : Int) = f.W * f.H := by simpa using h2
      refine ok_loop (fun i : Int => 0 ≤ i ∧ i ≤ f.Cells.length ∧ ∀ j : Nat, (j : Int) < i → SpanOK 1000000 (f.Cells.getD j ⟨0, 0⟩)) (fun i : Int => f.Cells.length - i.toNat) ⟨by omega, by omega, fun j hj => by omega⟩ (by simp; omega) fun i next ⟨h3, h4, h5⟩ hn => ?_
      refine ok_brk (fun hc => ?_) (fun hc => ok_some ?_)
      · have hc : i < f.Cells.length := by simpa using hc
        have hi : i.toNat < f.Cells.length := by omega
        refine ok_chk ⟨h3, hc⟩ (ok_bnde (refSpan_eq F (Span.mk (f.Cells.getD i.toNat ⟨0, 0⟩).Lo (f.Cells.getD i.toNat ⟨0, 0⟩).Hi) 1000000) (ok_brk (fun hb => ok_some ?_) (fun hb => ok_chk ⟨by omega, by omega⟩ (hn _ ⟨by omega, by omega, fun j hj => ?_⟩ (by omega)))))
        · have hb : ¬ SpanOK 1000000 (f.Cells.getD i.toNat ⟨0, 0⟩) := nd_true hb
          rw [checkV, if_neg e1, if_neg (fun h => h h2), if_neg (fun h => hb (h _ (getD_mem hi)))]
        · by_cases e : (j : Int) < i
          · exact h5 j e
          · obtain rfl : j = i.toNat := by omega
            exact nd_false hb
      · have hc : ¬ i < f.Cells.length := by simpa using hc
        rw [checkV, if_neg e1, if_neg (fun h => h h2), if_pos]
        intro s hs
        obtain ⟨j, hj, rfl⟩ := List.getElem_of_mem hs
        have := h5 j (by omega)
        rwa [getD_get hj] at this


/-! ### Neighbours -/

def nbR (W H c : Int) : List Int := (((if c / W > 0 then [c - W] else []) ++ (if c % W < W - 1 then [c + 1] else [])) ++ (if c / W < H - 1 then [c + W] else [])) ++ (if c % W > 0 then [c - 1] else [])

theorem nbR_eq {W H c : Int} (hW : 1 ≤ W ∧ W ≤ 8) (hH : 1 ≤ H ∧ H ≤ 8) (hc : 0 ≤ c ∧ c < W * H) : nb W H c = nbR W H c := by
  obtain ⟨p1, p2, p3, p4⟩ := pos_bound hW hH hc
  have e := Int.emod_add_mul_ediv c W
  have e2 : c / W * W = W * (c / W) := Int.mul_comm _ _
  have o1 : okD W H c ⟨0, -1⟩ = decide (c / W > 0) := by
    simp only [okD]
    by_cases h : c / W > 0
    · rw [decide_eq_true h, decide_eq_true (by omega), decide_eq_true (by omega), decide_eq_true (by omega), decide_eq_true (by omega)]; rfl
    · rw [decide_eq_false h, decide_eq_false (show ¬ (c / W + -1 ≥ 0) by omega)]; simp
  have o2 : okD W H c ⟨1, 0⟩ = decide (c % W < W - 1) := by
    simp only [okD]
    by_cases h : c % W < W - 1
    · rw [decide_eq_true h, decide_eq_true (by omega), decide_eq_true (by omega), decide_eq_true (by omega), decide_eq_true (by omega)]; rfl
    · rw [decide_eq_false h, decide_eq_false (show ¬ (c % W + 1 ≤ W - 1) by omega)]; simp
  have o3 : okD W H c ⟨0, 1⟩ = decide (c / W < H - 1) := by
    simp only [okD]
    by_cases h : c / W < H - 1
    · rw [decide_eq_true h, decide_eq_true (by omega), decide_eq_true (by omega), decide_eq_true (by omega), decide_eq_true (by omega)]; rfl
    · rw [decide_eq_false h, decide_eq_false (show ¬ (c / W + 1 ≤ H - 1) by omega)]; simp
  have o4 : okD W H c ⟨-1, 0⟩ = decide (c % W > 0) := by
    simp only [okD]
    by_cases h : c % W > 0
    · rw [decide_eq_true h, decide_eq_true (by omega), decide_eq_true (by omega), decide_eq_true (by omega), decide_eq_true (by omega)]; rfl
    · rw [decide_eq_false h, decide_eq_false (show ¬ (c % W + -1 ≥ 0) by omega)]; simp
  have t1 : toD W c ⟨0, -1⟩ = c - W := by simp only [toD, Int.add_mul]; omega
  have t2 : toD W c ⟨1, 0⟩ = c + 1 := by simp only [toD, Int.add_mul]; omega
  have t3 : toD W c ⟨0, 1⟩ = c + W := by simp only [toD, Int.add_mul]; omega
  have t4 : toD W c ⟨-1, 0⟩ = c - 1 := by simp only [toD, Int.add_mul]; omega
  unfold nb nbl nbR
  have f1 : dirs.filter (okD W H c) = (((if c / W > 0 then [⟨0, -1⟩] else []) ++ (if c % W < W - 1 then [⟨1, 0⟩] else [])) ++ (if c / W < H - 1 then [⟨0, 1⟩] else [])) ++ (if c % W > 0 then [⟨-1, 0⟩] else []) := by
    simp only [List.filter, o1, o2, o3, o4]
    by_cases h1 : c / W > 0 <;> by_cases h2 : c % W < W - 1 <;> by_cases h3 : c / W < H - 1 <;> by_cases h4 : c % W > 0 <;> simp [h1, h2, h3, h4]
  rw [f1]
  simp only [List.map_append]
  congr 1
  · congr 1
    · congr 1
      · split <;> simp [t1]
      · split <;> simp [t2]
    · split <;> simp [t3]
  · split <;> simp [t4]

theorem refNb_eq {F : Nat} {W H c : Int} (hF0 : 0 < F) (hW : 1 ≤ W ∧ W ≤ 8) (hH : 1 ≤ H ∧ H ≤ 8) (hc : 0 ≤ c ∧ c < W * H) : ref11_Neighbours F W H c = some (nb W H c) := by
  rw [nbR_eq hW hH hc]
  obtain ⟨p1, p2, p3, p4⟩ := pos_bound hW hH hc
  have hb := mul_bound hW.1 hW.2 hH.1 hH.2
  refine Ok.eq ?_
  unfold ref11_Neighbours
  refine ok_chk ⟨⟨by omega, by omega⟩, by omega⟩ (ok_chk ⟨⟨by omega, by omega⟩, by omega⟩ ?_)
  refine ok_join (by omega) (fun x : List Int => x = (if c / W > 0 then [c - W] else [])) (fun x hx => ?_) fun k hk => ?_
  rotate_left
  · refine ok_brk (fun h => ?_) (fun h => hk _ ?_)
    · have h : c / W > 0 := of_decide_eq_true h
      exact ok_chk ⟨by omega, by omega⟩ (ok_chk (by simp) (hk _ (by rw [if_pos h])))
    · rw [if_neg (of_decide_eq_false h)]
  have lx : x.length ≤ 1 := by rw [hx]; split <;> simp
  refine ok_join (by omega) (fun y : List Int => y = x ++ (if c % W < W - 1 then [c + 1] else [])) (fun y hy => ?_) fun k hk => ?_
  rotate_left
  · refine ok_chk ⟨by omega, by omega⟩ (ok_brk (fun h => ?_) (fun h => hk _ ?_))
    · have h : c % W < W - 1 := of_decide_eq_true h
      exact ok_chk ⟨by omega, by omega⟩ (ok_chk (by simp; omega) (hk _ (by rw [if_pos h])))
    · rw [if_neg (of_decide_eq_false h)]; simp
  have ly : y.length ≤ 2 := by rw [hy, List.length_append]; split <;> simp <;> omega
  refine ok_join (by omega) (fun z : List Int => z = y ++ (if c / W < H - 1 then [c + W] else [])) (fun z hz => ?_) fun k hk => ?_
  rotate_left
  · refine ok_chk ⟨by omega, by omega⟩ (ok_brk (fun h => ?_) (fun h => hk _ ?_))
    · have h : c / W < H - 1 := of_decide_eq_true h
      exact ok_chk ⟨by omega, by omega⟩ (ok_chk (by simp; omega) (hk _ (by rw [if_pos h])))
    · rw [if_neg (of_decide_eq_false h)]; simp
  have lz : z.length ≤ 3 := by rw [hz, List.length_append]; split <;> simp <;> omega
  refine ok_join (by omega) (fun u : List Int => u = nbR W H c) (fun u hu => ok_some hu) fun k hk => ?_
  refine ok_brk (fun h => ?_) (fun h => hk _ ?_)
  · have h : c % W > 0 := of_decide_eq_true h
    refine ok_chk ⟨by omega, by omega⟩ (ok_chk (by simp; omega) (hk _ ?_))
    rw [hz, hy, hx, nbR, if_pos h]
  · rw [hz, hy, hx, nbR, if_neg (of_decide_eq_false h)]; simp

/-- Facts of all grids: neighbours are there both ways, once, and are others. -/
def gridOK (W H : Int) : Bool := (List.range (W * H).toNat).all fun c => decide ((nbR W H c).Nodup) && !(nbR W H c).contains (c : Int) && (List.range (W * H).toNat).all fun k => (nbR W H c).contains (k : Int) == (nbR W H k).contains (c : Int)
theorem grids_ok : ((List.range 9).all fun W => (List.range 9).all fun H => gridOK W H) = true := by decide +kernel

theorem grid_of {W H : Int} (hW : 1 ≤ W ∧ W ≤ 8) (hH : 1 ≤ H ∧ H ≤ 8) {c : Int} (hc : 0 ≤ c ∧ c < W * H) : (nb W H c).Nodup ∧ c ∉ nb W H c ∧ ∀ k, 0 ≤ k → k < W * H → (k ∈ nb W H c ↔ c ∈ nb W H k) := by
  have h := grids_ok
  rw [List.all_eq_true] at h
  have h1 := h W.toNat (List.mem_range.2 (by omega))
  rw [List.all_eq_true] at h1
  have h2 := h1 H.toNat (List.mem_range.2 (by omega))
  rw [show ((W.toNat : Nat) : Int) = W by omega, show ((H.toNat : Nat) : Int) = H by omega, gridOK, List.all_eq_true] at h2
  have h3 := h2 c.toNat (List.mem_range.2 (by omega))
  rw [show ((c.toNat : Nat) : Int) = c by omega] at h3
  simp only [Bool.and_eq_true, decide_eq_true_eq, Bool.not_eq_true', List.all_eq_true] at h3
  rw [nbR_eq hW hH hc]
  refine ⟨h3.1.1, fun hm => ?_, fun k k1 k2 => ?_⟩
  · have := h3.1.2
    rw [List.contains_iff_mem.2 hm] at this; cases this
  · have h4 := h3.2 k.toNat (List.mem_range.2 (by omega))
    rw [show ((k.toNat : Nat) : Int) = k by omega] at h4
    rw [nbR_eq hW hH ⟨k1, k2⟩]
    have h5 : (nbR W H c).contains k = (nbR W H k).contains c := by simpa using h4
    constructor
    · intro hm; exact List.contains_iff_mem.1 (by rw [← h5]; exact List.contains_iff_mem.2 hm)
    · intro hm; exact List.contains_iff_mem.1 (by rw [h5]; exact List.contains_iff_mem.2 hm)

end Go.Proofs.Sp

namespace Go.Proofs.Sp
open Go Go.KX

abbrev j0 : Job := Job.mk (0 : Int) (0 : Int) (0 : Int)

structure JobOK (j : Job) : Prop where
  f0 : 0 ≤ j.f_from
  ft : j.f_from < j.f_to
  t1 : j.f_to ≤ 48
  w0 : 0 ≤ j.f_worth
  w1 : j.f_worth ≤ 64000000

structure JobsOK (J : List Job) : Prop where
  len : J.length ≤ 12
  ok : ∀ j ∈ J, JobOK j

theorem JobsOK.at {J : List Job} (h : JobsOK J) {i : Nat} (hi : i < J.length) : JobOK (J.getD i j0) := h.ok _ (getD_mem hi)

/-- With b the node v is reached from u at the cost c. -/
def Arc (J : List Job) (ch : List Bool) (idle : List Int) (b : Int) (v u : Nat) (c : Int) : Prop :=
  (b = -1 ∧ v = u + 1 ∧ u < 48 ∧ c = 0) ∨ (b = -2 ∧ u = v + 1 ∧ v < 48 ∧ c = 0 ∧ 0 < idle.getD v 0) ∨
  (0 ≤ b ∧ b < J.length ∧ ch.getD b.toNat false = true ∧ v = (J.getD b.toNat j0).f_from.toNat ∧ u = (J.getD b.toNat j0).f_to.toNat ∧ c = (J.getD b.toNat j0).f_worth) ∨
  (0 ≤ b ∧ b < J.length ∧ ch.getD b.toNat false = false ∧ v = (J.getD b.toNat j0).f_to.toNat ∧ u = (J.getD b.toNat j0).f_from.toNat ∧ c = -(J.getD b.toNat j0).f_worth)

theorem Arc.lt {J : List Job} {ch : List Bool} {idle : List Int} {b : Int} {v u : Nat} {c : Int} (hJ : JobsOK J) (h : Arc J ch idle b v u c) : v < 49 ∧ u < 49 ∧ v ≠ u := by
  rcases h with ⟨_, h1, h2, _⟩ | ⟨_, h1, h2, _⟩ | ⟨h0, h1, _, h2, h3, _⟩ | ⟨h0, h1, _, h2, h3, _⟩
  · omega
  · omega
  · have := hJ.at (i := b.toNat) (by omega)
    obtain ⟨q1, q2, q3, _, _⟩ := this
    omega
  · have := hJ.at (i := b.toNat) (by omega)
    obtain ⟨q1, q2, q3, _, _⟩ := this
    omega

theorem Arc.one {J : List Job} {ch : List Bool} {idle : List Int} {b : Int} {v u u' : Nat} {c c' : Int} (h : Arc J ch idle b v u c) (h' : Arc J ch idle b v u' c') : u = u' ∧ c = c' := by
  rcases h with ⟨h0, h1, h2, h3⟩ | ⟨h0, h1, h2, h3, _⟩ | ⟨h0, h1, hc, h2, h3, h4⟩ | ⟨h0, h1, hc, h2, h3, h4⟩ <;>
    rcases h' with ⟨g0, g1, g2, g3⟩ | ⟨g0, g1, g2, g3, _⟩ | ⟨g0, g1, gc, g2, g3, g4⟩ | ⟨g0, g1, gc, g2, g3, g4⟩ <;>
    first | (exfalso; omega) | (rw [hc] at gc; cases gc) | skip
  · exact ⟨by omega, by omega⟩
  · exact ⟨by omega, by omega⟩
  · exact ⟨by rw [h3, g3], by rw [h4, g4]⟩
  · exact ⟨by rw [h3, g3], by rw [h4, g4]⟩

/-- A flight's pointer stands at one node alone. -/
theorem Arc.node {J : List Job} {ch : List Bool} {idle : List Int} {b : Int} {v v' u u' : Nat} {c c' : Int} (h : Arc J ch idle b v u c) (h' : Arc J ch idle b v' u' c') (hb : 0 ≤ b) : v = v' := by
  rcases h with ⟨h0, _⟩ | ⟨h0, _⟩ | ⟨h0, h1, hc, h2, h3, h4⟩ | ⟨h0, h1, hc, h2, h3, h4⟩
  · omega
  · omega
  · rcases h' with ⟨g0, _⟩ | ⟨g0, _⟩ | ⟨g0, g1, gc, g2, g3, g4⟩ | ⟨g0, g1, gc, g2, g3, g4⟩
    · omega
    · omega
    · rw [h2, g2]
    · rw [hc] at gc; cases gc
  · rcases h' with ⟨g0, _⟩ | ⟨g0, _⟩ | ⟨g0, g1, gc, g2, g3, g4⟩ | ⟨g0, g1, gc, g2, g3, g4⟩
    · omega
    · omega
    · rw [hc] at gc; cases gc
    · rw [h2, g2]

def Feas (J : List Job) (ch : List Bool) (idle : List Int) (p : Nat → Int) : Prop := ∀ b v u c, Arc J ch idle b v u c → p v ≤ p u + c

/-- Costs and pointers on the way. -/
structure CI (J : List Job) (ch : List Bool) (idle : List Int) (p : Nat → Int) (cost bys : List Int) : Prop where
  lc : cost.length = 49
  lb : bys.length = 49
  c0 : cost.getD 0 0 = 0
  lo : ∀ v, v < 49 → p v ≤ cost.getD v 0
  hi : ∀ v, v < 49 → cost.getD v 0 ≤ 0
  rk : ∃ D : Nat → Nat, ∀ v, 1 ≤ v → v < 49 → ∃ u c, Arc J ch idle (bys.getD v 0) v u c ∧ cost.getD u 0 + c ≤ cost.getD v 0 ∧ D u < D v

/-- From w the pointers lead to v. -/
inductive Via (R : Nat → Nat → Prop) (v : Nat) : Nat → Prop
  | here : Via R v v
  | step {w u : Nat} (h : R w u) (hu : Via R v u) : Via R v w

theorem CI.reach {J : List Job} {ch : List Bool} {idle : List Int} {p : Nat → Int} {cost bys : List Int} (hJ : JobsOK J) (hp : Feas J ch idle p) (p0 : p 0 = 0) (h : CI J ch idle p cost bys) {b : Int} {v u : Nat} {c : Int} (ha : Arc J ch idle b v u c) (hlt : cost.getD u 0 + c < cost.getD v 0) :
    CI J ch idle p (cost.set v (cost.getD u 0 + c)) (bys.set v b) := by
  obtain ⟨hv, hu, hne⟩ := ha.lt hJ
  have hlc := h.lc
  have hlb := h.lb
  have hl := h.lo u hu
  have hpa := hp _ _ _ _ ha
  have hv0 : v ≠ 0 := by
    rintro rfl
    have := h.c0
    omega
  have gc : ∀ w, (cost.set v (cost.getD u 0 + c)).getD w 0 = if v = w then cost.getD u 0 + c else cost.getD w 0 := fun w => getD_set' (by omega)
  have gb : ∀ w, (bys.set v b).getD w 0 = if v = w then b else bys.getD w 0 := fun w => getD_set' (by omega)
  refine ⟨by rw [List.length_set, hlc], by rw [List.length_set, hlb], by rw [gc, if_neg (by omega), h.c0], fun w hw => ?_, fun w hw => ?_, ?_⟩
  · rw [gc]
    split
    · rename_i e; subst e; omega
    · exact h.lo w hw
  · rw [gc]
    split
    · have := h.hi v hv; omega
    · exact h.hi w hw
  · obtain ⟨D, hD⟩ := h.rk
    -- pointers before
    let R : Nat → Nat → Prop := fun w x => 1 ≤ w ∧ w < 49 ∧ ∃ c', Arc J ch idle (bys.getD w 0) w x c' ∧ cost.getD x 0 + c' ≤ cost.getD w 0
    have Rone : ∀ w x x', R w x → R w x' → x = x' := fun w x x' ⟨_, _, _, a, _⟩ ⟨_, _, _, a', _⟩ => (a.one a').1
    have via_cost : ∀ w, Via R v w → p w - p v ≤ cost.getD w 0 - cost.getD v 0 := by
      intro w hw
      induction hw with
      | here => omega
      | step hr _ ih =>
        obtain ⟨_, _, c', a, hc⟩ := hr
        have := hp _ _ _ _ a
        omega
    have hnu : ¬ Via R v u := fun hh => by
      have := via_cost u hh
      omega
    classical
    refine ⟨fun w => if Via R v w then D w + D u + 1 else D w, fun w hw1 hw2 => ?_⟩
    rw [gb]
    by_cases e : v = w
    · subst e
      rw [if_pos rfl]
      refine ⟨u, c, ha, ?_, ?_⟩
      · rw [gc, gc, if_pos rfl, if_neg hne]; exact Int.le_refl _
      · show (if Via R v u then _ else _) < (if Via R v v then _ else _)
        rw [if_neg hnu, if_pos Via.here]; omega
    · rw [if_neg e]
      obtain ⟨x, c', a, hc, hd⟩ := hD w hw1 hw2
      have hr : R w x := ⟨hw1, hw2, c', a, hc⟩
      refine ⟨x, c', a, ?_, ?_⟩
      · rw [gc, gc, if_neg e]
        split
        · rename_i e2; subst e2; omega
        · exact hc
      · show (if Via R v x then _ else _) < (if Via R v w then _ else _)
        by_cases hx : Via R v x
        · rw [if_pos hx, if_pos (Via.step hr hx)]; omega
        · rw [if_neg hx, if_neg (fun hw => by
            cases hw with
            | here => exact e rfl
            | step hr' hu' => exact hx (Rone _ _ _ hr hr' ▸ hu'))]
          exact hd

/-- Where costs begin. -/
theorem CI.init {J : List Job} {ch : List Bool} {idle : List Int} {p : Nat → Int} {bys : List Int} (hp : Feas J ch idle p) (p0 : p 0 = 0) (hb : bys.length = 49) (hb1 : ∀ v, v < 49 → bys.getD v 0 = -1) : CI J ch idle p (List.replicate 49 0) bys := by
  have hdown : ∀ v, v < 49 → p v ≤ 0 := by
    intro v
    induction v with
    | zero => intro _; omega
    | succ n ih =>
      intro hn
      have h1 := ih (by omega)
      have := hp (-1) (n + 1) n 0 (.inl ⟨rfl, rfl, by omega, rfl⟩)
      omega
  have g : ∀ v, v < 49 → (List.replicate 49 (0 : Int)).getD v 0 = 0 := fun v hv => by rw [getD_get (by rw [List.length_replicate]; exact hv), List.getElem_replicate]
  refine ⟨by rw [List.length_replicate], hb, g 0 (by omega), fun v hv => by rw [g v hv]; exact hdown v hv, fun v hv => by rw [g v hv]; exact Int.le_refl _, id, fun v h1 h2 => ⟨v - 1, 0, .inl ⟨hb1 v h2, by omega, by omega, rfl⟩, by rw [g v h2, g (v - 1) (by omega)]; exact Int.le_refl _, by show v - 1 < v; omega⟩⟩

/-- Ranks below 49. -/
theorem small_rank (D : Nat → Nat) : ∃ D' : Nat → Nat, (∀ v, D' v ≤ 49) ∧ ∀ u v, u < 49 → D u < D v → D' u < D' v := by
  refine ⟨fun v => ((List.range 49).filter fun w => decide (D w < D v)).length, fun v => ?_, fun u v hu h => ?_⟩
  · refine Nat.le_trans (List.length_filter_le _ _) ?_
    rw [List.length_range]; exact Nat.le_refl _
  · have key : ∀ l : List Nat, u ∈ l → (l.filter fun w => decide (D w < D u)).length < (l.filter fun w => decide (D w < D v)).length := by
      intro l
      have mono : ∀ l : List Nat, (l.filter fun w => decide (D w < D u)).length ≤ (l.filter fun w => decide (D w < D v)).length := by
        intro l
        induction l with
        | nil => exact Nat.le_refl _
        | cons x l ih =>
          rw [List.filter_cons, List.filter_cons]
          by_cases h1 : D x < D u
          · rw [if_pos (decide_eq_true h1), if_pos (decide_eq_true (Nat.lt_trans h1 h))]
            simp only [List.length_cons]; omega
          · rw [if_neg (by simpa using h1)]
            split
            · simp only [List.length_cons]; omega
            · exact ih
      induction l with
      | nil => intro hh; cases hh
      | cons x l ih =>
        intro hh
        rw [List.filter_cons, List.filter_cons]
        by_cases e : x = u
        · subst e
          rw [if_neg (by simp), if_pos (decide_eq_true h)]
          have := mono l
          simp only [List.length_cons]; omega
        · have := ih (by simpa [Ne.symm e] using hh)
          by_cases h1 : D x < D u
          · rw [if_pos (decide_eq_true h1), if_pos (decide_eq_true (Nat.lt_trans h1 h))]
            simp only [List.length_cons]; omega
          · rw [if_neg (by simpa using h1)]
            split
            · simp only [List.length_cons]; omega
            · exact this
    exact key _ (List.mem_range.2 hu)
end Go.Proofs.Sp

namespace Go.Proofs.Sp
open Go Go.KX

theorem sumL_ge {B : Int} : ∀ l : List Int, (∀ x ∈ l, -B ≤ x) → -(B * l.length) ≤ sumL l
  | [], _ => by simp [sumL]
  | x :: l, h => by
    have h1 := sumL_ge l fun y hy => h y (List.mem_cons_of_mem _ hy)
    have h2 := h x List.mem_cons_self
    have e : B * ((x :: l).length : Int) = B * (l.length : Int) + B := by rw [List.length_cons]; push_cast; rw [Int.mul_add, Int.mul_one]
    simp only [sumL]
    omega

theorem CI.sum {J : List Job} {ch : List Bool} {idle : List Int} {p : Nat → Int} {cost bys : List Int} (h : CI J ch idle p cost bys) (hb : ∀ v, v < 49 → -1000000000 ≤ p v) : -49000000000 ≤ sumL cost ∧ sumL cost ≤ 0 := by
  have hl := h.lc
  constructor
  · have := sumL_ge (B := 1000000000) cost fun x hx => by
      obtain ⟨i, hi, rfl⟩ := List.getElem_of_mem hx
      have h1 := h.lo i (by omega)
      have h2 := hb i (by omega)
      rw [getD_get hi] at h1
      omega
    rw [hl] at this
    omega
  · have := sumL_le (B := 0) cost fun x hx => by
      obtain ⟨i, hi, rfl⟩ := List.getElem_of_mem hx
      have h1 := h.hi i (by omega)
      rw [getD_get hi] at h1
      exact h1
    omega

theorem reach_ok {R : Type} {post : R → Prop} {J : List Job} {ch : List Bool} {idle : List Int} {p : Nat → Int} {cost bys : List Int} (hJ : JobsOK J) (hp : Feas J ch idle p) (p0 : p 0 = 0) (h : CI J ch idle p cost bys) {b : Int} {v u : Nat} {c : Int} (ha : Arc J ch idle b v u c) {t n : Int} (ht : t.toNat = v) (ht0 : 0 ≤ t) (hn : n = cost.getD u 0 + c)
    {k : Bool × List Int × List Int → Option R} (hk1 : cost.getD v 0 ≤ cost.getD u 0 + c → Ok post (k (false, cost, bys))) (hk2 : ∀ cost' bys', CI J ch idle p cost' bys' → sumL cost' < sumL cost → Ok post (k (true, cost', bys'))) :
    Ok post (chk (0 ≤ t ∧ t < (cost.length : Int)) (brk (decide (n ≥ cost.getD t.toNat 0)) (k (false, cost, bys)) (chk (0 ≤ t ∧ t < (cost.length : Int)) (chk (0 ≤ t ∧ t < (bys.length : Int)) (k (true, cost.set t.toNat n, bys.set t.toNat b)))))) := by
  obtain ⟨hv, hu, hne⟩ := ha.lt hJ
  have hlc := h.lc
  have hlb := h.lb
  subst hn
  refine ok_chk ⟨ht0, by omega⟩ (ok_brk (fun hb => hk1 ?_) (fun hb => ok_chk ⟨ht0, by omega⟩ (ok_chk ⟨ht0, by omega⟩ (hk2 _ _ ?_ ?_))))
  · have : cost.getD u 0 + c ≥ cost.getD t.toNat 0 := of_decide_eq_true hb
    rw [ht] at this
    exact this
  · have : ¬ cost.getD u 0 + c ≥ cost.getD t.toNat 0 := of_decide_eq_false hb
    rw [ht] at this ⊢
    exact h.reach hJ hp p0 ha (by omega)
  · have : ¬ cost.getD u 0 + c ≥ cost.getD t.toNat 0 := of_decide_eq_false hb
    rw [sumL_set _ _ _ (by omega)]
    omega

/-- A round on the way: whether something has changed, and else which steps were looked at. -/
structure RI (J : List Job) (ch : List Bool) (idle : List Int) (p : Nat → Int) (c0 b0 : List Int) (D : Int → Nat → Nat → Prop) (changed : Bool) (cost bys : List Int) : Prop where
  ci : CI J ch idle p cost bys
  no : changed = false → cost = c0 ∧ bys = b0 ∧ ∀ b v u c, Arc J ch idle b v u c → D b v u → c0.getD v 0 ≤ c0.getD u 0 + c
  yes : changed = true → sumL cost < sumL c0

theorem RI.le {J : List Job} {ch : List Bool} {idle : List Int} {p : Nat → Int} {c0 b0 : List Int} {D : Int → Nat → Nat → Prop} {changed : Bool} {cost bys : List Int} (h : RI J ch idle p c0 b0 D changed cost bys) : sumL cost ≤ sumL c0 := by
  cases hc : changed with
  | false => rw [(h.no hc).1]; exact Int.le_refl _
  | true => have := h.yes hc; omega

theorem RI.keep {J : List Job} {ch : List Bool} {idle : List Int} {p : Nat → Int} {c0 b0 : List Int} {D D' : Int → Nat → Nat → Prop} {changed : Bool} {cost bys : List Int} (h : RI J ch idle p c0 b0 D changed cost bys)
    (hD : ∀ b v u c, Arc J ch idle b v u c → D' b v u → D b v u ∨ cost.getD v 0 ≤ cost.getD u 0 + c) : RI J ch idle p c0 b0 D' changed cost bys :=
  ⟨h.ci, (fun hc => by
    obtain ⟨e1, e2, e3⟩ := h.no hc
    refine ⟨e1, e2, fun b v u c ha hd => ?_⟩
    rcases hD b v u c ha hd with q | q
    · exact e3 b v u c ha q
    · rw [← e1]; exact q), h.yes⟩

theorem RI.new {J : List Job} {ch : List Bool} {idle : List Int} {p : Nat → Int} {c0 b0 : List Int} {D D' : Int → Nat → Nat → Prop} {changed : Bool} {cost bys cost' bys' : List Int} (h : RI J ch idle p c0 b0 D changed cost bys) (hc : CI J ch idle p cost' bys') (hs : sumL cost' < sumL cost) :
    RI J ch idle p c0 b0 D' true cost' bys' :=
  ⟨hc, (fun e => by cases e), fun _ => by have := h.le; omega⟩

def DoneA (m : Int) (b : Int) (v u : Nat) : Prop := (b = -1 ∧ (u : Int) < m) ∨ (b = -2 ∧ (v : Int) < m)
def DoneA' (m : Int) (b : Int) (v u : Nat) : Prop := (b = -1 ∧ (u : Int) ≤ m) ∨ (b = -2 ∧ (v : Int) < m)
def DoneB (i : Int) (b : Int) (_v _u : Nat) : Prop := b < i

structure CostOK (J : List Job) (ch : List Bool) (idle : List Int) (p : Nat → Int) (r : List Int × List Int) : Prop where
  ci : CI J ch idle p r.1 r.2
  fs : Feas J ch idle fun v => r.1.getD v 0

theorem costs_ok {F : Nat} (hF : 100000000000 < F) {J : List Job} {ch : List Bool} {idle : List Int} {p : Nat → Int} (hJ : JobsOK J) (hch : ch.length = J.length) (hid : idle.length = 48) (hp : Feas J ch idle p) (p0 : p 0 = 0) (pb : ∀ v, v < 49 → -1000000000 ≤ p v) : Ok (CostOK J ch idle p) (spill_costs F J ch idle) := by
  have hJl := hJ.len
  unfold spill_costs
  have r49 : ∀ v : Int, (List.replicate (Int.toNat 49) v).length = 49 := fun v => by rw [List.length_replicate]; rfl
  refine ok_chk ⟨by omega, by omega, by omega⟩ (ok_chk ⟨by omega, by omega, by omega⟩ ?_)
  refine ok_loop (fun x : Int × List Int => 0 ≤ x.1 ∧ x.1 ≤ 49 ∧ x.2.length = 49 ∧ ∀ v : Nat, (v : Int) < x.1 → x.2.getD v 0 = -1) (fun x : Int × List Int => 49 - x.1.toNat) ⟨by simp, by simp, r49 0, fun v hv => by simp at hv; omega⟩ (by simp; omega) ?_
  rintro ⟨i, l⟩ next ⟨i1, i2, i3, i4⟩ hn
  simp only at i1 i2 i3 i4
  refine ok_brk (fun hc => ?_) (fun hc => ?_)
  · have hc : i < (List.replicate (Int.toNat 49) (0 : Int)).length := of_decide_eq_true hc
    rw [r49] at hc
    refine ok_chk ⟨i1, by show i < (l.length : Int); omega⟩ (ok_chk (show InR (i + 1) from ⟨by omega, by omega⟩) (hn _ ⟨by show 0 ≤ i + 1; omega, by show i + 1 ≤ 49; omega, by rw [List.length_set]; exact i3, fun v hv => ?_⟩ (by show 49 - (i + 1).toNat < 49 - i.toNat; omega)))
    have hv : (v : Int) < i + 1 := hv
    show (l.set i.toNat (-1)).getD v 0 = -1
    rw [getD_set' (by omega)]
    split
    · rfl
    · exact i4 v (by omega)
  have hc : ¬ i < (List.replicate (Int.toNat 49) (0 : Int)).length := of_decide_eq_false hc
  rw [r49] at hc
  have hci : CI J ch idle p (List.replicate 49 0) l := CI.init hp p0 i3 fun v hv => i4 v (by omega)
  clear hn next
  refine ok_loop (fun x : List Int × List Int => CI J ch idle p x.1 x.2) (fun x : List Int × List Int => (sumL x.1 + 49000000000).toNat) hci (by have := hci.sum pb; show (sumL (List.replicate 49 0) + 49000000000).toNat < F; omega) ?_
  clear hci
  rintro ⟨c0, b0⟩ next hci hnext
  simp only at hci
  have hs0 := hci.sum pb
  refine ok_loop (fun x : Bool × Int × List Int × List Int => 0 ≤ x.2.1 ∧ x.2.1 ≤ 48 ∧ RI J ch idle p c0 b0 (DoneA x.2.1) x.1 x.2.2.1 x.2.2.2) (fun x : Bool × Int × List Int × List Int => 48 - x.2.1.toNat)
    ⟨by simp, by simp, hci, fun _ => ⟨rfl, rfl, fun b v u c ha hd => by rcases hd with ⟨_, h⟩ | ⟨_, h⟩ <;> simp at h <;> omega⟩, fun e => by cases e⟩ (by simp; omega) ?_
  rintro ⟨chg, h, cost, bys⟩ next1 ⟨i1, i2, i3⟩ hn
  simp only at i1 i2 i3
  dsimp only
  have hlc := i3.ci.lc
  refine ok_brk (fun hc => ?_) (fun hc => ?_)
  · have hc : h < 48 := of_decide_eq_true hc
    refine ok_join (by omega) (fun x : Bool × List Int × List Int => RI J ch idle p c0 b0 (DoneA (h + 1)) x.1 x.2.1 x.2.2) (fun x hx => ok_chk (show InR (h + 1) from ⟨by omega, by omega⟩) (hn _ ⟨by show 0 ≤ h + 1; omega, by show h + 1 ≤ 48; omega, hx⟩ (by show 48 - (h + 1).toNat < 48 - h.toNat; omega))) fun k hk => ?_
    refine ok_chk (show InR (h + 1) from ⟨by omega, by omega⟩) (ok_chk ⟨i1, by show h < (cost.length : Int); omega⟩ ?_)
    refine ok_join (by omega) (fun x : Bool × List Int × List Int => RI J ch idle p c0 b0 (DoneA' h) (x.1 || chg) x.2.1 x.2.2) (fun x hx => ?_) fun k2 hk2 => ?_
    · obtain ⟨c1, cost1, bys1⟩ := x
      have hx : RI J ch idle p c0 b0 (DoneA' h) (c1 || chg) cost1 bys1 := hx
      have hl1 := hx.ci.lc
      refine ok_chk ⟨i1, by omega⟩ (ok_brk (fun hi => ?_) (fun hi => hk _ ?_))
      · have hi : 0 < idle.getD h.toNat 0 := of_decide_eq_true hi
        refine ok_chk (show InR (h + 1) from ⟨by omega, by omega⟩) (ok_chk ⟨by omega, by show h + 1 < (cost1.length : Int); omega⟩ ?_)
        refine ok_join (by omega) (fun x : Bool × List Int × List Int => RI J ch idle p c0 b0 (DoneA (h + 1)) (x.1 || (c1 || chg)) x.2.1 x.2.2) (fun x hx => hk _ hx) fun k3 hk3 => ?_
        refine reach_ok (R := _) hJ hp p0 hx.ci (b := -2) (v := h.toNat) (u := h.toNat + 1) (c := 0) (.inr (.inl ⟨rfl, rfl, by omega, rfl, hi⟩)) (t := h) rfl i1 (n := cost1.getD (h + 1).toNat 0) (by rw [show (h + 1).toNat = h.toNat + 1 by omega, Int.add_zero]) (k := k3) (fun hle => hk3 _ ?_) (fun cost' bys' g1 g2 => hk3 _ (hx.new g1 g2))
        refine hx.keep fun b v u c ha hd => ?_
        rcases hd with ⟨e, hd⟩ | ⟨e, hd⟩
        · exact .inl (.inl ⟨e, by omega⟩)
        · by_cases e2 : (v : Int) < h
          · exact .inl (.inr ⟨e, e2⟩)
          · right
            subst e
            obtain rfl : v = h.toNat := by omega
            obtain ⟨rfl, rfl⟩ := ha.one (.inr (.inl ⟨rfl, rfl, by omega, rfl, hi⟩))
            exact hle
      · have hi : ¬ 0 < idle.getD h.toNat 0 := of_decide_eq_false hi
        refine hx.keep fun b v u c ha hd => ?_
        rcases hd with ⟨e, hd⟩ | ⟨e, hd⟩
        · exact .inl (.inl ⟨e, by omega⟩)
        · by_cases e2 : (v : Int) < h
          · exact .inl (.inr ⟨e, e2⟩)
          · exfalso
            subst e
            obtain rfl : v = h.toNat := by omega
            rcases ha with ⟨q, _⟩ | ⟨_, _, _, _, q⟩ | ⟨q, _⟩ | ⟨q, _⟩ <;> omega
    · refine reach_ok (R := _) hJ hp p0 i3.ci (b := -1) (v := h.toNat + 1) (u := h.toNat) (c := 0) (.inl ⟨rfl, rfl, by omega, rfl⟩) (t := h + 1) (by omega) (by omega) (n := cost.getD h.toNat 0) (by rw [Int.add_zero]) (k := k2) (fun hle => hk2 _ ?_) (fun cost' bys' g1 g2 => hk2 _ (i3.new g1 g2))
      refine i3.keep fun b v u c ha hd => ?_
      rcases hd with ⟨e, hd⟩ | ⟨e, hd⟩
      · by_cases e2 : (u : Int) < h
        · exact .inl (.inl ⟨e, e2⟩)
        · right
          subst e
          obtain rfl : u = h.toNat := by omega
          obtain rfl : v = h.toNat + 1 := by rcases ha with ⟨_, q, _⟩ | ⟨q, _⟩ | ⟨q, _⟩ | ⟨q, _⟩ <;> omega
          obtain ⟨_, rfl⟩ := ha.one (.inl ⟨rfl, rfl, by omega, rfl⟩)
          exact hle
      · exact .inl (.inr ⟨e, hd⟩)
  -- the flights
  have hc : ¬ h < 48 := of_decide_eq_false hc
  have e48 : h = 48 := by omega
  subst e48
  have i3 : RI J ch idle p c0 b0 (DoneB 0) chg cost bys := i3.keep fun b v u c ha hd => by
    have hd : b < 0 := hd
    rcases ha with ⟨q, q1, q2, _⟩ | ⟨q, q1, q2, _⟩ | ⟨q, _⟩ | ⟨q, _⟩
    · exact .inl (.inl ⟨q, by omega⟩)
    · exact .inl (.inr ⟨q, by omega⟩)
    · omega
    · omega
  clear hn next1
  refine ok_loop (fun x : Bool × Int × List Int × List Int => 0 ≤ x.2.1 ∧ x.2.1 ≤ J.length ∧ RI J ch idle p c0 b0 (DoneB x.2.1) x.1 x.2.2.1 x.2.2.2) (fun x : Bool × Int × List Int × List Int => J.length - x.2.1.toNat)
    ⟨by simp, by simp, i3⟩ (by simp; omega) ?_
  clear i3
  rintro ⟨chg, i, cost, bys⟩ next2 ⟨i1, i2, i3⟩ hn
  simp only at i1 i2 i3
  dsimp only
  have hlc := i3.ci.lc
  refine ok_brk (fun hc => ?_) (fun hc => ?_)
  · have hc : i < J.length := of_decide_eq_true hc
    have hj := hJ.at (i := i.toNat) (by omega)
    obtain ⟨j1, j2, j3, j4, j5⟩ := hj
    have hat : (J.getD i.toNat (Job.mk (0 : Int) (0 : Int) (0 : Int))) = J.getD i.toNat j0 := rfl
    rw [hat]
    refine ok_join (by omega) (fun x : Bool × List Int × List Int => RI J ch idle p c0 b0 (DoneB (i + 1)) x.1 x.2.1 x.2.2) (fun x hx => ok_chk (show InR (i + 1) from ⟨by omega, by omega⟩) (hn _ ⟨by show 0 ≤ i + 1; omega, by show i + 1 ≤ J.length; omega, hx⟩ (by show J.length - (i + 1).toNat < J.length - i.toNat; omega))) fun k hk => ?_
    have hbd : ∀ v : Nat, v < 49 → -1000000000 ≤ cost.getD v 0 ∧ cost.getD v 0 ≤ 0 := fun v hv => ⟨by have := i3.ci.lo v hv; have := pb v hv; omega, i3.ci.hi v hv⟩
    have fin : ∀ v u c, Arc J ch idle i v u c → cost.getD v 0 ≤ cost.getD u 0 + c → RI J ch idle p c0 b0 (DoneB (i + 1)) chg cost bys := fun v u c ha hle => i3.keep fun b v' u' c' ha' hd => by
      have hd : b < i + 1 := hd
      by_cases e : b < i
      · exact .inl e
      · right
        obtain rfl : b = i := by omega
        obtain rfl := ha.node ha' i1
        obtain ⟨rfl, rfl⟩ := ha.one ha'
        exact hle
    refine ok_chk ⟨i1, hc⟩ (ok_chk ⟨i1, by omega⟩ (ok_brk (fun hb => ?_) (fun hb => ?_)))
    · have ht := hbd (J.getD i.toNat j0).f_to.toNat (by omega)
      refine ok_chk ⟨by omega, by show _ < (cost.length : Int); omega⟩ (ok_chk (show InR _ from ⟨by omega, by omega⟩) ?_)
      refine ok_join (by omega) (fun x : Bool × List Int × List Int => RI J ch idle p c0 b0 (DoneB (i + 1)) (x.1 || chg) x.2.1 x.2.2) (fun x hx => hk _ hx) fun k3 hk3 => ?_
      have ha : Arc J ch idle i (J.getD i.toNat j0).f_from.toNat (J.getD i.toNat j0).f_to.toNat (J.getD i.toNat j0).f_worth := .inr (.inr (.inl ⟨i1, hc, hb, rfl, rfl, rfl⟩))
      exact reach_ok (R := _) hJ hp p0 i3.ci ha (t := (J.getD i.toNat j0).f_from) rfl j1 rfl (k := k3) (fun hle => hk3 _ (fin _ _ _ ha hle)) (fun cost' bys' g1 g2 => hk3 _ (i3.new g1 g2))
    · have ht := hbd (J.getD i.toNat j0).f_from.toNat (by omega)
      refine ok_chk ⟨by omega, by show _ < (cost.length : Int); omega⟩ (ok_chk (show InR _ from ⟨by omega, by omega⟩) ?_)
      refine ok_join (by omega) (fun x : Bool × List Int × List Int => RI J ch idle p c0 b0 (DoneB (i + 1)) (x.1 || chg) x.2.1 x.2.2) (fun x hx => hk _ hx) fun k3 hk3 => ?_
      have ha : Arc J ch idle i (J.getD i.toNat j0).f_to.toNat (J.getD i.toNat j0).f_from.toNat (-(J.getD i.toNat j0).f_worth) := .inr (.inr (.inr ⟨i1, hc, hb, rfl, rfl, rfl⟩))
      exact reach_ok (R := _) hJ hp p0 i3.ci ha (t := (J.getD i.toNat j0).f_to) rfl (by omega) (by omega) (k := k3) (fun hle => hk3 _ (fin _ _ _ ha hle)) (fun cost' bys' g1 g2 => hk3 _ (i3.new g1 g2))
  · have hc : ¬ i < J.length := of_decide_eq_false hc
    obtain rfl : i = J.length := by omega
    refine ok_brk (fun hb => ok_some ⟨i3.ci, fun b v u c ha => ?_⟩) (fun hb => ?_)
    · have hb : chg = false := by simpa using hb
      obtain ⟨e1, e2, e3⟩ := i3.no hb
      show cost.getD v 0 ≤ cost.getD u 0 + c
      rw [e1]
      refine e3 b v u c ha ?_
      show b < J.length
      rcases ha with ⟨q, _⟩ | ⟨q, _⟩ | ⟨_, q, _⟩ | ⟨_, q, _⟩ <;> omega
    · have hb : chg = true := by simpa using hb
      have hlt := i3.yes hb
      have hs := i3.ci.sum pb
      exact hnext _ i3.ci (by show (sumL cost + 49000000000).toNat < (sumL c0 + 49000000000).toNat; omega)
end Go.Proofs.Sp

namespace Go.Proofs.Sp
open Go Go.KX

/-! ### Sums -/

def sumN : Nat → (Nat → Int) → Int
  | 0, _ => 0
  | n + 1, f => sumN n f + f n

theorem sumN_congr {f g : Nat → Int} : ∀ n : Nat, (∀ i, i < n → f i = g i) → sumN n f = sumN n g
  | 0, _ => rfl
  | n + 1, h => by simp only [sumN]; rw [sumN_congr n fun i hi => h i (by omega), h n (by omega)]
theorem sumN_le {f g : Nat → Int} : ∀ n : Nat, (∀ i, i < n → f i ≤ g i) → sumN n f ≤ sumN n g
  | 0, _ => Int.le_refl _
  | n + 1, h => by
    have h1 := sumN_le n fun i hi => h i (by omega)
    have h2 := h n (by omega)
    simp only [sumN]; omega
theorem sumN_add {f g : Nat → Int} : ∀ n : Nat, sumN n (fun i => f i + g i) = sumN n f + sumN n g
  | 0 => rfl
  | n + 1 => by simp only [sumN]; rw [sumN_add n]; omega
theorem sumN_zero {f : Nat → Int} : ∀ n : Nat, (∀ i, i < n → f i = 0) → sumN n f = 0
  | 0, _ => rfl
  | n + 1, h => by simp only [sumN]; rw [sumN_zero n fun i hi => h i (by omega), h n (by omega)]; rfl
theorem sumN_nonneg {f : Nat → Int} : ∀ n : Nat, (∀ i, i < n → 0 ≤ f i) → 0 ≤ sumN n f
  | 0, _ => Int.le_refl _
  | n + 1, h => by
    have h1 := sumN_nonneg n fun i hi => h i (by omega)
    have h2 := h n (by omega)
    simp only [sumN]; omega
theorem sumN_one {f g : Nat → Int} {j : Nat} : ∀ n : Nat, j < n → (∀ i, i < n → i ≠ j → f i = g i) → sumN n f = sumN n g + (f j - g j)
  | 0, h, _ => absurd h (Nat.not_lt_zero _)
  | n + 1, h, he => by
    simp only [sumN]
    by_cases e : j = n
    · subst e
      rw [sumN_congr j fun i hi => he i (by omega) (by omega)]; omega
    · rw [sumN_one n (by omega) fun i hi => he i (by omega), he n (by omega) (fun q => e q.symm)]; omega
theorem sumN_mul {c : Int} {f : Nat → Int} : ∀ n : Nat, sumN n (fun i => c * f i) = c * sumN n f
  | 0 => by simp [sumN]
  | n + 1 => by simp only [sumN]; rw [sumN_mul n, Int.mul_add]
theorem sumN_comm {f : Nat → Nat → Int} (m : Nat) : ∀ n : Nat, sumN n (fun i => sumN m fun h => f i h) = sumN m fun h => sumN n fun i => f i h
  | 0 => (sumN_zero m fun _ _ => rfl).symm
  | n + 1 => by
    simp only [sumN]
    rw [sumN_comm m n, ← sumN_add]
theorem sumN_bound {f : Nat → Int} {B : Int} : ∀ n : Nat, (∀ i, i < n → f i ≤ B) → sumN n f ≤ B * n
  | 0, _ => by simp [sumN]
  | n + 1, h => by
    have h1 := sumN_bound n fun i hi => h i (by omega)
    have h2 := h n (by omega)
    simp only [sumN]
    push_cast
    rw [Int.mul_add]; omega

/-! ### Choices -/

def on (J : List Job) (i h : Nat) : Prop := (J.getD i j0).f_from ≤ h ∧ (h : Int) < (J.getD i j0).f_to
instance (J : List Job) (i h : Nat) : Decidable (on J i h) := inferInstanceAs (Decidable (_ ∧ _))
/-- How many are in the air. -/
def cov (J : List Job) (ch : List Bool) (h : Nat) : Int := sumN J.length fun i => if ch.getD i false = true ∧ on J i h then 1 else 0
def val (J : List Job) (ch : List Bool) : Int := sumN J.length fun i => if ch.getD i false = true then (J.getD i j0).f_worth else 0

theorem cov_nonneg (J : List Job) (ch : List Bool) (h : Nat) : 0 ≤ cov J ch h := sumN_nonneg _ fun i _ => by split <;> omega

theorem cov_set {J : List Job} {ch : List Bool} {i : Nat} {x : Bool} (hi : i < J.length) (hl : ch.length = J.length) (h : Nat) :
    cov J (ch.set i x) h = cov J ch h + ((if x = true ∧ on J i h then 1 else 0) - if ch.getD i false = true ∧ on J i h then 1 else 0) := by
  unfold cov
  rw [sumN_one (j := i) (g := fun i => if ch.getD i false = true ∧ on J i h then 1 else 0) _ hi fun k _ hk => by
    rw [getD_set' (by omega), if_neg (show ¬ i = k from fun e => hk e.symm)]]
  rw [getD_set' (by omega), if_pos rfl]

structure ChOK (J : List Job) (k : Int) (ch : List Bool) (idle : List Int) (p : Nat → Int) : Prop where
  lc : ch.length = J.length
  li : idle.length = 48
  fs : Feas J ch idle p
  p0 : p 0 = 0
  pb : ∀ v, v < 49 → -1000000000 ≤ p v
  i0 : ∀ h, h < 48 → 0 ≤ idle.getD h 0
  ct : ∀ h, h < 48 → idle.getD h 0 + cov J ch h = k

/-- On the way back. -/
structure WI (J : List Job) (k : Int) (ch0 : List Bool) (idle0 cost bys : List Int) (D : Nat → Nat) (x : Int) (ch : List Bool) (idle : List Int) : Prop where
  x0 : 0 ≤ x
  x1 : x ≤ 48
  lc : ch.length = J.length
  li : idle.length = 48
  fs : Feas J ch idle fun v => cost.getD v 0
  i0 : ∀ h, h < 48 → 0 ≤ idle.getD h 0
  ct : ∀ h : Nat, h < 48 → idle.getD h 0 + cov J ch h = k + if x ≤ h then 1 else 0
  dn : ∀ h : Nat, h < 48 → idle0.getD h 0 ≤ idle.getD h 0 ∨ (bys.getD h 0 = -2 ∧ D x.toNat < D h ∧ idle0.getD h 0 - 1 ≤ idle.getD h 0)
  tg : ∀ i, i < J.length → ch.getD i false = ch0.getD i false ∨ ∃ w, 1 ≤ w ∧ w < 49 ∧ bys.getD w 0 = (i : Int) ∧ D x.toNat < D w

theorem choose_ok {F : Nat} (hF : 100000000000 < F) {J : List Job} {k : Int} (hJ : JobsOK J) (hk : 0 ≤ k ∧ k ≤ 10) : Ok (fun r : List Bool × List Int => ∃ p, ChOK J k r.1 r.2 p) (spill_choose F J k) := by
  have hJl := hJ.len
  unfold spill_choose
  refine ok_chk ⟨by omega, by omega, by omega⟩ (ok_chk ⟨by omega, by omega, by omega⟩ ?_)
  refine ok_loop (fun x : Int × List Bool × List Int => 0 ≤ x.1 ∧ x.1 ≤ k ∧ ∃ p, ChOK J x.1 x.2.1 x.2.2 p) (fun x => (k - x.1).toNat) ⟨by simp, hk.1, ?_⟩ (by show (k - 0).toNat < F; omega) ?_
  · -- nothing is chosen
    have hf : ∀ i, (List.replicate ((J.length : Int)).toNat false).getD i false = false := fun i => by
      by_cases hi : i < (List.replicate ((J.length : Int)).toNat false).length
      · rw [getD_get hi, List.getElem_replicate]
      · rw [List.getD_eq_getElem?_getD, List.getElem?_eq_none (Nat.le_of_not_lt hi)]; rfl
    have hz : ∀ h, (List.replicate (Int.toNat 48) (0 : Int)).getD h 0 = 0 := fun h => by
      by_cases hi : h < (List.replicate (Int.toNat 48) (0 : Int)).length
      · rw [getD_get hi, List.getElem_replicate]
      · rw [List.getD_eq_getElem?_getD, List.getElem?_eq_none (Nat.le_of_not_lt hi)]; rfl
    let p : Nat → Int := fun v => -sumN J.length fun i => if (J.getD i j0).f_to ≤ v then (J.getD i j0).f_worth else 0
    have hw : ∀ i, i < J.length → 0 ≤ (J.getD i j0).f_worth ∧ (J.getD i j0).f_worth ≤ 64000000 := fun i hi => by have := hJ.at hi; exact ⟨this.w0, this.w1⟩
    have hmono : ∀ u v : Nat, u ≤ v → p v ≤ p u := fun u v huv => by
      have := sumN_le (f := fun i => if (J.getD i j0).f_to ≤ u then (J.getD i j0).f_worth else 0) (g := fun i => if (J.getD i j0).f_to ≤ v then (J.getD i j0).f_worth else 0) J.length fun i hi => by
        have := hw i hi
        try dsimp only
        split <;> split <;> omega
      show -_ ≤ -_
      omega
    refine ⟨p, by rw [List.length_replicate]; omega, by rw [List.length_replicate]; rfl, fun b v u c ha => ?_, ?_, fun v hv => ?_, fun h _ => by show 0 ≤ (List.replicate (Int.toNat 48) (0 : Int)).getD h 0; rw [hz]; omega, fun h _ => ?_⟩
    · rcases ha with ⟨_, h1, h2, h3⟩ | ⟨_, _, _, _, h3⟩ | ⟨_, _, h3, _⟩ | ⟨h0, h1, _, h2, h3, h4⟩
      · rw [h1, h3]
        have := hmono u (u + 1) (by omega)
        omega
      · rw [hz] at h3; omega
      · rw [hf] at h3; cases h3
      · have hi : b.toNat < J.length := by omega
        have hj := hJ.at hi
        obtain ⟨j1, j2, j3, j4, j5⟩ := hj
        rw [h2, h3, h4]
        have := sumN_le (f := fun i => (if (J.getD i j0).f_to ≤ ((J.getD b.toNat j0).f_from.toNat : Int) then (J.getD i j0).f_worth else 0) + if i = b.toNat then (J.getD b.toNat j0).f_worth else 0) (g := fun i => if (J.getD i j0).f_to ≤ ((J.getD b.toNat j0).f_to.toNat : Int) then (J.getD i j0).f_worth else 0) J.length fun i hi => by
          have := hw i hi
          try dsimp only
          by_cases e : i = b.toNat
          · subst e
            rw [if_neg (by omega), if_pos rfl, if_pos (by omega)]; omega
          · rw [if_neg e]
            split <;> split <;> omega
        rw [sumN_add, sumN_one (f := fun i => if i = b.toNat then (J.getD b.toNat j0).f_worth else 0) (g := fun _ => 0) (j := b.toNat) _ hi fun i _ e => by rw [if_neg e], sumN_zero J.length (f := fun _ => 0) fun _ _ => rfl] at this
        simp only [if_true] at this
        show -_ ≤ -_ + -_
        omega
    · show -_ = (0 : Int)
      rw [sumN_zero J.length fun i hi => by
        have := hJ.at hi
        obtain ⟨j1, j2, j3, j4, j5⟩ := this
        try dsimp only
        rw [if_neg (by omega)]]
      rfl
    · have := sumN_bound (f := fun i => if (J.getD i j0).f_to ≤ v then (J.getD i j0).f_worth else 0) (B := 64000000) J.length fun i hi => by
        have := hw i hi
        try dsimp only
        split <;> omega
      show _ ≤ -_
      omega
    · show (List.replicate (Int.toNat 48) (0 : Int)).getD h 0 + cov J _ h = 0
      rw [hz]
      unfold cov
      rw [sumN_zero J.length fun i _ => by
        rw [hf, if_neg (fun q => Bool.false_ne_true q.1)]]
      rfl
  rintro ⟨n, ch0, idle0⟩ next ⟨n0, n1, p, hC⟩ hnext
  simp only at n0 n1 hC
  dsimp only
  refine ok_brk (fun hc => ?_) (fun hc => ok_some ?_)
  · have hc : n < k := of_decide_eq_true hc
    refine ok_bnd _ (costs_ok hF hJ hC.lc hC.li hC.fs hC.p0 hC.pb) ?_
    rintro ⟨cost, bys⟩ ⟨hci, hfs⟩
    simp only at hci hfs
    dsimp only
    obtain ⟨D0, hD0⟩ := hci.rk
    obtain ⟨D, hD1, hD2⟩ := small_rank D0
    have hD : ∀ v, 1 ≤ v → v < 49 → ∃ u c, Arc J ch0 idle0 (bys.getD v 0) v u c ∧ cost.getD u 0 + c ≤ cost.getD v 0 ∧ D u < D v := fun v h1 h2 => by
      obtain ⟨u, c, a, b, d⟩ := hD0 v h1 h2
      exact ⟨u, c, a, b, hD2 u v (a.lt hJ).2.1 d⟩
    have hlb := hci.lb
    refine ok_loop (fun x : Int × List Bool × List Int => WI J n ch0 idle0 cost bys D x.1 x.2.1 x.2.2) (fun x => D x.1.toNat)
      ⟨by simp, by simp, hC.lc, hC.li, hfs, hC.i0, fun h hh => by
        show idle0.getD h 0 + cov J ch0 h = n + if (48 : Int) ≤ h then 1 else 0
        rw [if_neg (by omega), hC.ct h hh]; omega, fun h _ => .inl (Int.le_refl _), fun i _ => .inl rfl⟩ (by have := hD1 48; show D 48 < F; omega) ?_
    rintro ⟨x, ch, idle⟩ next2 hW hn2
    simp only at hW
    dsimp only
    obtain ⟨x0, x1, lc, li, fs, i0, ct, dn, tg⟩ := hW
    have ib : ∀ h, h < 48 → idle.getD h 0 ≤ 12 := fun h hh => by
      have h1 := ct h hh
      have h2 := cov_nonneg J ch h
      split at h1 <;> omega
    refine ok_brk (fun hx => ?_) (fun hx => ?_)
    · have hx : x > 0 := of_decide_eq_true hx
      obtain ⟨u, c, ha, htight, hdec⟩ := hD x.toNat (by omega) (by omega)
      -- nobody has turned this one
      have htg : ∀ i, i < J.length → bys.getD x.toNat 0 = (i : Int) → ch.getD i false = ch0.getD i false := fun i hi hb => by
        rcases tg i hi with q | ⟨w, w1, w2, w3, w4⟩
        · exact q
        · exfalso
          obtain ⟨u', c', ha', _, _⟩ := hD w w1 w2
          rw [w3, ← hb] at ha'
          have := ha.node ha' (by rw [hb]; omega)
          rw [this] at w4
          exact Nat.lt_irrefl _ w4
      refine ok_chk ⟨x0, by omega⟩ ?_
      generalize hby : bys.getD x.toNat 0 = b at ha htg ⊢
      rcases ha with ⟨h1, h2, h3, h4⟩ | ⟨h1, h2, h3, h4, h5⟩ | ⟨h0, h1, h2, h3, h4, h5⟩ | ⟨h0, h1, h2, h3, h4, h5⟩
      · -- an hour back in which nothing is done
        subst h1 h4
        have hu : (x - 1).toNat = u := by omega
        refine ok_brkT rfl (ok_chk (show InR _ from ⟨by omega, by omega⟩) (ok_chk ⟨by omega, by omega⟩ ?_))
        rw [hu]
        have hi0 := i0 u h3
        have hib := ib u h3
        refine ok_chk (show InR _ from ⟨by omega, by omega⟩) (ok_chk ⟨by omega, by omega⟩ (hn2 _ ?_ (by show D (x - 1).toNat < D x.toNat; rw [hu]; exact hdec)))
        have gi : ∀ h, (idle.set u (idle.getD u 0 + 1)).getD h 0 = if u = h then idle.getD u 0 + 1 else idle.getD h 0 := fun h => getD_set' (by omega)
        refine ⟨by show 0 ≤ x - 1; omega, by show x - 1 ≤ 48; omega, lc, by show (idle.set _ _).length = 48; rw [List.length_set]; exact li, ?_, fun h hh => ?_, fun h hh => ?_, fun h hh => ?_, fun i hi => ?_⟩
        · intro b v w c' ha'
          rcases ha' with q | ⟨q1, q2, q3, q4, q5⟩ | q | q
          · exact fs _ _ _ _ (.inl q)
          · by_cases e : u = v
            · subst e
              subst q2 q4
              show cost.getD u 0 ≤ cost.getD (u + 1) 0 + 0
              rw [show x.toNat = u + 1 by omega] at htight
              omega
            · rw [gi, if_neg e] at q5
              exact fs _ _ _ _ (.inr (.inl ⟨q1, q2, q3, q4, q5⟩))
          · exact fs _ _ _ _ (.inr (.inr (.inl q)))
          · exact fs _ _ _ _ (.inr (.inr (.inr q)))
        · show 0 ≤ (idle.set u _).getD h 0
          rw [gi]
          have := i0 h hh
          split <;> omega
        · show (idle.set u _).getD h 0 + cov J ch h = n + if x - 1 ≤ (h : Int) then 1 else 0
          rw [gi]
          have := ct h hh
          by_cases e : u = h
          · subst e
            rw [if_pos rfl, if_pos (by omega)]
            rw [if_neg (by omega)] at this
            omega
          · rw [if_neg e]
            by_cases q : x ≤ (h : Int)
            · rw [if_pos q] at this; rw [if_pos (by omega)]; exact this
            · rw [if_neg q] at this; rw [if_neg (by omega)]; exact this
        · show _ ≤ (idle.set u _).getD h 0 ∨ (_ ∧ D (x - 1).toNat < D h ∧ _ ≤ (idle.set u _).getD h 0)
          rw [gi, hu]
          rcases dn h hh with q | ⟨q1, q2, q3⟩
          · left; split
            · rename_i e; subst e; omega
            · exact q
          · right
            refine ⟨q1, by omega, ?_⟩
            split
            · rename_i e; subst e; omega
            · exact q3
        · rcases tg i hi with q | ⟨w, w1, w2, w3, w4⟩
          · exact .inl q
          · exact .inr ⟨w, w1, w2, w3, by show D (x - 1).toNat < D w; rw [hu]; omega⟩
      · -- an hour given back
        subst h1 h4
        have hxu : (x + 1).toNat = u := by omega
        have hge : 1 ≤ idle.getD x.toNat 0 := by
          rcases dn x.toNat h3 with q | ⟨_, q, _⟩
          · omega
          · exact absurd q (Nat.lt_irrefl _)
        have hib := ib x.toNat h3
        refine ok_brkF rfl (ok_brkT rfl (ok_chk ⟨x0, by omega⟩ (ok_chk (show InR _ from ⟨by omega, by omega⟩) (ok_chk ⟨x0, by omega⟩ (ok_chk (show InR _ from ⟨by omega, by omega⟩) (hn2 _ ?_ (by show D (x + 1).toNat < D x.toNat; rw [hxu]; exact hdec)))))))
        have gi : ∀ h, (idle.set x.toNat (idle.getD x.toNat 0 - 1)).getD h 0 = if x.toNat = h then idle.getD x.toNat 0 - 1 else idle.getD h 0 := fun h => getD_set' (by omega)
        refine ⟨by show 0 ≤ x + 1; omega, by show x + 1 ≤ 48; omega, lc, by show (idle.set _ _).length = 48; rw [List.length_set]; exact li, ?_, fun h hh => ?_, fun h hh => ?_, fun h hh => ?_, fun i hi => ?_⟩
        · intro b v w c' ha'
          rcases ha' with q | ⟨q1, q2, q3, q4, q5⟩ | q | q
          · exact fs _ _ _ _ (.inl q)
          · rw [gi] at q5
            refine fs _ _ _ _ (.inr (.inl ⟨q1, q2, q3, q4, ?_⟩))
            split at q5
            · rename_i e; rw [← e]; omega
            · exact q5
          · exact fs _ _ _ _ (.inr (.inr (.inl q)))
          · exact fs _ _ _ _ (.inr (.inr (.inr q)))
        · show 0 ≤ (idle.set x.toNat _).getD h 0
          rw [gi]
          have := i0 h hh
          split <;> omega
        · show (idle.set x.toNat _).getD h 0 + cov J ch h = n + if x + 1 ≤ (h : Int) then 1 else 0
          rw [gi]
          have := ct h hh
          by_cases e : x.toNat = h
          · rw [if_pos e, if_neg (by omega)]
            rw [if_pos (by omega)] at this
            rw [e]; omega
          · rw [if_neg e]
            by_cases q : x ≤ (h : Int)
            · rw [if_pos q] at this; rw [if_pos (by omega)]; exact this
            · rw [if_neg q] at this; rw [if_neg (by omega)]; exact this
        · show _ ≤ (idle.set x.toNat _).getD h 0 ∨ (_ ∧ D (x + 1).toNat < D h ∧ _ ≤ (idle.set x.toNat _).getD h 0)
          rw [gi, hxu]
          by_cases e : x.toNat = h
          · right
            subst e
            rw [if_pos rfl]
            refine ⟨hby, hdec, ?_⟩
            rcases dn x.toNat h3 with q | ⟨_, q, _⟩
            · omega
            · exact absurd q (Nat.lt_irrefl _)
          · rw [if_neg e]
            rcases dn h hh with q | ⟨q1, q2, q3⟩
            · exact .inl q
            · exact .inr ⟨q1, by omega, q3⟩
        · rcases tg i hi with q | ⟨w, w1, w2, w3, w4⟩
          · exact .inl q
          · exact .inr ⟨w, w1, w2, w3, by show D (x + 1).toNat < D w; rw [hxu]; omega⟩
      · -- a flight given back
        have hb : b.toNat < J.length := by omega
        have hcur : ch.getD b.toNat false = true := by rw [htg b.toNat hb (by omega)]; exact h2
        have hj := hJ.at hb
        obtain ⟨j1, j2, j3, j4, j5⟩ := hj
        have hat : (J.getD b.toNat (Job.mk (0 : Int) (0 : Int) (0 : Int))) = J.getD b.toNat j0 := rfl
        refine ok_brkF (by simp; omega) (ok_brkF (by simp; omega) (ok_chk ⟨h0, by omega⟩ (ok_brkT hcur (ok_chk ⟨h0, h1⟩ (ok_chk ⟨h0, by omega⟩ (hn2 _ ?_ ?_))))))
        · rw [hat]
          have gc : ∀ i, (ch.set b.toNat false).getD i false = if b.toNat = i then false else ch.getD i false := fun i => getD_set' (by omega)
          refine ⟨by show 0 ≤ (J.getD b.toNat j0).f_to; omega, by show (J.getD b.toNat j0).f_to ≤ 48; omega, by show (ch.set _ _).length = _; rw [List.length_set]; exact lc, li, ?_, i0, fun h hh => ?_, fun h hh => ?_, fun i hi => ?_⟩
          · intro e v w c' ha'
            rcases ha' with q | q | ⟨q0, q1, q2, q3⟩ | ⟨q0, q1, q2, q3, q4, q5⟩
            · exact fs _ _ _ _ (.inl q)
            · exact fs _ _ _ _ (.inr (.inl q))
            · rw [gc] at q2
              split at q2
              · cases q2
              · exact fs _ _ _ _ (.inr (.inr (.inl ⟨q0, q1, q2, q3⟩)))
            · by_cases ee : b.toNat = e.toNat
              · rw [← ee] at q3 q4 q5
                show cost.getD v 0 ≤ cost.getD w 0 + c'
                rw [q3, q4, q5, ← h3, ← h4]
                omega
              · rw [gc, if_neg ee] at q2
                exact fs _ _ _ _ (.inr (.inr (.inr ⟨q0, q1, q2, q3, q4, q5⟩)))
          · show idle.getD h 0 + cov J (ch.set b.toNat false) h = n + if (J.getD b.toNat j0).f_to ≤ (h : Int) then 1 else 0
            have := ct h hh
            rw [cov_set hb lc, hcur]
            have hon : on J b.toNat h ↔ (x ≤ (h : Int) ∧ ¬ (J.getD b.toNat j0).f_to ≤ (h : Int)) := by unfold on; omega
            by_cases q : x ≤ (h : Int)
            · rw [if_pos q] at this
              by_cases q2 : (J.getD b.toNat j0).f_to ≤ (h : Int)
              · rw [if_neg (fun t => Bool.false_ne_true t.1), if_neg (fun t => (hon.1 t.2).2 q2), if_pos q2]; omega
              · rw [if_neg (fun t => Bool.false_ne_true t.1), if_pos ⟨rfl, hon.2 ⟨q, q2⟩⟩, if_neg q2]; omega
            · rw [if_neg q] at this
              rw [if_neg (fun t => Bool.false_ne_true t.1), if_neg (fun t => q (hon.1 t.2).1), if_neg (by omega)]; omega
          · rcases dn h hh with q | ⟨q1, q2, q3⟩
            · exact .inl q
            · exact .inr ⟨q1, by show D (J.getD b.toNat j0).f_to.toNat < D h; rw [← h4]; omega, q3⟩
          · show (ch.set b.toNat false).getD i false = _ ∨ ∃ w, _ ∧ _ ∧ _ ∧ D (J.getD b.toNat j0).f_to.toNat < D w
            rw [← h4]
            by_cases e : b.toNat = i
            · exact .inr ⟨x.toNat, by omega, by omega, by rw [hby]; omega, hdec⟩
            · rw [gc, if_neg e]
              rcases tg i hi with q | ⟨w, w1, w2, w3, w4⟩
              · exact .inl q
              · exact .inr ⟨w, w1, w2, w3, by omega⟩
        · rw [hat]
          show D (J.getD b.toNat j0).f_to.toNat < D x.toNat
          rw [← h4]; exact hdec
      · -- a flight taken
        have hb : b.toNat < J.length := by omega
        have hcur : ch.getD b.toNat false = false := by rw [htg b.toNat hb (by omega)]; exact h2
        have hj := hJ.at hb
        obtain ⟨j1, j2, j3, j4, j5⟩ := hj
        have hat : (J.getD b.toNat (Job.mk (0 : Int) (0 : Int) (0 : Int))) = J.getD b.toNat j0 := rfl
        refine ok_brkF (by simp; omega) (ok_brkF (by simp; omega) (ok_chk ⟨h0, by omega⟩ (ok_brkF hcur (ok_chk ⟨h0, h1⟩ (ok_chk ⟨h0, by omega⟩ (hn2 _ ?_ ?_))))))
        · rw [hat]
          have gc : ∀ i, (ch.set b.toNat true).getD i false = if b.toNat = i then true else ch.getD i false := fun i => getD_set' (by omega)
          refine ⟨by show 0 ≤ (J.getD b.toNat j0).f_from; omega, by show (J.getD b.toNat j0).f_from ≤ 48; omega, by show (ch.set _ _).length = _; rw [List.length_set]; exact lc, li, ?_, i0, fun h hh => ?_, fun h hh => ?_, fun i hi => ?_⟩
          · intro e v w c' ha'
            rcases ha' with q | q | ⟨q0, q1, q2, q3, q4, q5⟩ | ⟨q0, q1, q2, q3⟩
            · exact fs _ _ _ _ (.inl q)
            · exact fs _ _ _ _ (.inr (.inl q))
            · by_cases ee : b.toNat = e.toNat
              · rw [← ee] at q3 q4 q5
                show cost.getD v 0 ≤ cost.getD w 0 + c'
                rw [q3, q4, q5, ← h3, ← h4]
                omega
              · rw [gc, if_neg ee] at q2
                exact fs _ _ _ _ (.inr (.inr (.inl ⟨q0, q1, q2, q3, q4, q5⟩)))
            · rw [gc] at q2
              split at q2
              · cases q2
              · exact fs _ _ _ _ (.inr (.inr (.inr ⟨q0, q1, q2, q3⟩)))
          · show idle.getD h 0 + cov J (ch.set b.toNat true) h = n + if (J.getD b.toNat j0).f_from ≤ (h : Int) then 1 else 0
            have := ct h hh
            rw [cov_set hb lc, hcur]
            have hon : on J b.toNat h ↔ ((J.getD b.toNat j0).f_from ≤ (h : Int) ∧ ¬ x ≤ (h : Int)) := by unfold on; omega
            by_cases q : x ≤ (h : Int)
            · rw [if_pos q] at this
              rw [if_neg (fun t => (hon.1 t.2).2 q), if_neg (fun t => Bool.false_ne_true t.1), if_pos (by omega)]; omega
            · rw [if_neg q] at this
              by_cases q2 : (J.getD b.toNat j0).f_from ≤ (h : Int)
              · rw [if_pos ⟨rfl, hon.2 ⟨q2, q⟩⟩, if_neg (fun t => Bool.false_ne_true t.1), if_pos q2]; omega
              · rw [if_neg (fun t => q2 (hon.1 t.2).1), if_neg (fun t => Bool.false_ne_true t.1), if_neg q2]; omega
          · rcases dn h hh with q | ⟨q1, q2, q3⟩
            · exact .inl q
            · exact .inr ⟨q1, by show D (J.getD b.toNat j0).f_from.toNat < D h; rw [← h4]; omega, q3⟩
          · show (ch.set b.toNat true).getD i false = _ ∨ ∃ w, _ ∧ _ ∧ _ ∧ D (J.getD b.toNat j0).f_from.toNat < D w
            rw [← h4]
            by_cases e : b.toNat = i
            · exact .inr ⟨x.toNat, by omega, by omega, by rw [hby]; omega, hdec⟩
            · rw [gc, if_neg e]
              rcases tg i hi with q | ⟨w, w1, w2, w3, w4⟩
              · exact .inl q
              · exact .inr ⟨w, w1, w2, w3, by omega⟩
        · rw [hat]
          show D (J.getD b.toNat j0).f_from.toNat < D x.toNat
          rw [← h4]; exact hdec
    · have hx : ¬ x > 0 := of_decide_eq_false hx
      obtain rfl : x = 0 := by omega
      refine ok_chk (show InR _ from ⟨by omega, by omega⟩) (hnext _ ⟨by show 0 ≤ n + 1; omega, by show n + 1 ≤ k; omega, fun v => cost.getD v 0, lc, li, fs, hci.c0, fun v hv => ?_, i0, fun h hh => ?_⟩ (by show (k - (n + 1)).toNat < (k - n).toNat; omega))
      · have := hci.lo v hv
        have := hC.pb v hv
        show _ ≤ cost.getD v 0
        omega
      · have := ct h hh
        rw [if_pos (by omega)] at this
        exact this
  · have hc : ¬ n < k := of_decide_eq_false hc
    obtain rfl : n = k := by omega
    exact ⟨p, hC⟩
end Go.Proofs.Sp
