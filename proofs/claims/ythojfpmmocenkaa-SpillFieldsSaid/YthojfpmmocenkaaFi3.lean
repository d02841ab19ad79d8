/- Texts FnA, KLW, PSA, PSB, PSC, PSD, Aw, PSE, PSF, PSH, PSN: own work; each part says what it is. -/
import Derived.Test.YthojfpmmocenkaaFi2
import Derived.KernelRfl
namespace Go.Proofs.Sp
open Go Go.KX Go.RowKit
set_option linter.unusedVariables false
set_option maxRecDepth 100000
theorem all0 {α : Type} {P : α → Prop} : ∀ c ∈ ([] : List α), P c := fun _ h => nomatch h
theorem allC {α : Type} {P : α → Prop} {a : α} {l : List α} (h : P a) (t : ∀ c ∈ l, P c) : ∀ c ∈ a :: l, P c := fun c hc => (List.mem_cons.1 hc).elim (fun e => e ▸ h) (t c)
theorem inl0 : InlOK E [] := fun _ _ h => nomatch h
theorem inlC {k : Nat} {fn : Func} {l : List (Nat × Func)} (h : E.P.funcs[k]? = some fn) (e : Proofs.Enters E.P k) (t : InlOK E l) : InlOK E ((k, fn) :: l) := by
  intro k2 fn2 hf
  simp only [findFn] at hf
  cases hb : Nat.beq k k2 with
  | true => rw [hb, cond_true] at hf; cases hf; rw [← Nat.eq_of_beq_eq_true hb]; exact ⟨h, e⟩
  | false => rw [hb, cond_false] at hf; exact t k2 fn2 hf
theorem mix : Try.prog.follows .mixedOrders = true := by rfl
theorem hf32 : Try.prog.funcs[32]? = some Try.f32 := by kernel_rfl
theorem en32 : Proofs.Enters Try.prog 32 := Proofs.enters_of hf32 (by kernel_rfl) rfl
noncomputable def kit_CopySpans (F : Nat) (a0 : List Span) : Option ((List Span)) :=
  chk (a0.length ≤ (1000000 : Nat)) (some (a0))
noncomputable def s32 (F : Nat) : CS E.G := ⟨32, [.sl 7], [.sl 7 34], fun x => kit_CopySpans F x.1⟩
noncomputable def cx32 (F : Nat) : Ctx E := ⟨[], [], F, []⟩
noncomputable def h32 : Hint := .n
theorem e32 (F : Nat) (a0 : List Span) : fnK (E := E) (cx32 F) Try.f32 [] [.sl 7] [.sl 7 34] h32 (a0, ()) = kit_CopySpans F a0 := by kernel_rfl
theorem c32 (F : Nat) : CSok E [] (s32 F) := ⟨en32, by
  have h := fn_sound (E := E) (gl := []) (cx := cx32 F) mix all0 inl0 rfl (fun _ h => nomatch h) hf32 (ps := [.sl 7]) (rs := [.sl 7 34]) (by decide) h32
  rwa [show fnK (E := E) (cx32 F) Try.f32 [] [.sl 7] [.sl 7 34] h32 = (fun x : AT E.G.car [.sl 7] => kit_CopySpans F x.1) from funext fun x => e32 F x.1] at h⟩
theorem hf14 : Try.prog.funcs[14]? = some Try.f14 := by kernel_rfl
theorem en14 : Proofs.Enters Try.prog 14 := Proofs.enters_of hf14 (by kernel_rfl) rfl
noncomputable def law11_CopyField (F : Nat) (a0 : Field) : Option (Field) :=
  bnd (kit_CopySpans F a0.Cells) (fun (x : List (Span)) => some (Field.mk a0.W a0.H (x)))
noncomputable def s14 (F : Nat) : CS E.G := ⟨14, [.v 9 true], [.v 9 true [34]], fun x => law11_CopyField F x.1⟩
noncomputable def cx14 (F : Nat) : Ctx E := ⟨[s32 F], [], F, []⟩
noncomputable def h14 : Hint := .n
theorem e14 (F : Nat) (a0 : Field) : fnK (E := E) (cx14 F) Try.f14 [] [.v 9 true] [.v 9 true [34]] h14 (a0, ()) = law11_CopyField F a0 := by kernel_rfl
theorem c14 (F : Nat) : CSok E [] (s14 F) := ⟨en14, by
  have h := fn_sound (E := E) (gl := []) (cx := cx14 F) mix (allC (c32 F) all0) inl0 rfl (fun _ h => nomatch h) hf14 (ps := [.v 9 true]) (rs := [.v 9 true [34]]) (by decide) h14
  rwa [show fnK (E := E) (cx14 F) Try.f14 [] [.v 9 true] [.v 9 true [34]] h14 = (fun x : AT E.G.car [.v 9 true] => law11_CopyField F x.1) from funext fun x => e14 F x.1] at h⟩
theorem hf15 : Try.prog.funcs[15]? = some Try.f15 := by kernel_rfl
theorem en15 : Proofs.Enters Try.prog 15 := Proofs.enters_of hf15 (by kernel_rfl) rfl
noncomputable def slices_Clone_api_Span (F : Nat) (a0 : List Span) : Option ((List Span)) :=
  chk ((0 : Nat) + a0.length ≤ (1000000 : Nat)) (some ([] ++ a0))
noncomputable def s15 (F : Nat) : CS E.G := ⟨15, [.sl 7], [.sl 7 34], fun x => slices_Clone_api_Span F x.1⟩
noncomputable def cx15 (F : Nat) : Ctx E := ⟨[], [], F, []⟩
noncomputable def h15 : Hint := .n
theorem e15n (F : Nat) (c : Nat) : fnK (E := E) (cx15 F) Try.f15 [] [.nl] [.sl 7 34] .n (c, ()) = some ([]) := by kernel_rfl
theorem e15s (F : Nat) (a0 : List Span) : fnK (E := E) (cx15 F) Try.f15 [] [.sn 7] [.sl 7 34] h15 (a0, ()) = slices_Clone_api_Span F a0 := by kernel_rfl
theorem c15 (F : Nat) : CSok E [] (s15 F) := ⟨en15, by
  have h0 := fn_sound (E := E) (gl := []) (cx := cx15 F) mix all0 inl0 rfl (fun _ h => nomatch h) hf15 (ps := [.nl]) (rs := [.sl 7 34]) (by decide) .n
  have h1 := fn_sound (E := E) (gl := []) (cx := cx15 F) mix all0 inl0 rfl (fun _ h => nomatch h) hf15 (ps := [.sn 7]) (rs := [.sl 7 34]) (by decide) h15
  rw [show fnK (E := E) (cx15 F) Try.f15 [] [.nl] [.sl 7 34] .n = (fun x : AT E.G.car [.nl] => some ([])) from funext fun x => e15n F x.1] at h0
  rw [show fnK (E := E) (cx15 F) Try.f15 [] [.sn 7] [.sl 7 34] h15 = (fun x : AT E.G.car [.sn 7] => slices_Clone_api_Span F x.1) from funext fun x => e15s F x.1] at h1
  exact contract_nil (E := E) (t := 7) (rs := [.sl 7 34]) (f := slices_Clone_api_Span F) (f0 := fun _ => some ([])) (f1 := slices_Clone_api_Span F) h0 h1 (fun _ _ h => (show slices_Clone_api_Span F [] = some [] by kernel_rfl).symm.trans h) (fun _ _ h => h)⟩
theorem hf80 : Try.prog.funcs[80]? = some Try.f80 := by kernel_rfl
theorem en80 : Proofs.Enters Try.prog 80 := Proofs.enters_of hf80 (by kernel_rfl) rfl
noncomputable def spill_within (F : Nat) (a0 : Int) (a1 : Int) (a2 : Int) : Option (Bool) :=
  some (decide (a0 ≥ a1) && decide (a0 ≤ a2))
noncomputable def s80 (F : Nat) : CS E.G := ⟨80, [.v 0 false, .v 0 false, .v 0 false], [.v 1 false []], fun x => spill_within F x.1 x.2.1 x.2.2.1⟩
noncomputable def cx80 (F : Nat) : Ctx E := ⟨[], [], F, []⟩
noncomputable def h80 : Hint := .n
theorem e80 (F : Nat) (a0 : Int) (a1 : Int) (a2 : Int) : fnK (E := E) (cx80 F) Try.f80 [] [.v 0 false, .v 0 false, .v 0 false] [.v 1 false []] h80 (a0, a1, a2, ()) = spill_within F a0 a1 a2 := by kernel_rfl
theorem c80 (F : Nat) : CSok E [] (s80 F) := ⟨en80, by
  have h := fn_sound (E := E) (gl := []) (cx := cx80 F) mix all0 inl0 rfl (fun _ h => nomatch h) hf80 (ps := [.v 0 false, .v 0 false, .v 0 false]) (rs := [.v 1 false []]) (by decide) h80
  rwa [show fnK (E := E) (cx80 F) Try.f80 [] [.v 0 false, .v 0 false, .v 0 false] [.v 1 false []] h80 = (fun x : AT E.G.car [.v 0 false, .v 0 false, .v 0 false] => spill_within F x.1 x.2.1 x.2.2.1) from funext fun x => e80 F x.1 x.2.1 x.2.2.1] at h⟩
theorem hf133 : Try.prog.funcs[133]? = some Try.f133 := by kernel_rfl
theorem en133 : Proofs.Enters Try.prog 133 := Proofs.enters_of hf133 (by kernel_rfl) rfl
theorem hf91 : Try.prog.funcs[91]? = some Try.f91 := by kernel_rfl
theorem en91 : Proofs.Enters Try.prog 91 := Proofs.enters_of hf91 (by kernel_rfl) rfl
theorem hf87 : Try.prog.funcs[87]? = some Try.f87 := by kernel_rfl
theorem en87 : Proofs.Enters Try.prog 87 := Proofs.enters_of hf87 (by kernel_rfl) rfl
noncomputable def spill_span (F : Nat) (a0 : Span) (a1 : Int) : Option (Bool) :=
  bnd (spill_within F a0.Lo (0 : Int) a1) (fun (x : Bool) => bnd (brk x (spill_within F a0.Hi a0.Lo a1) (some false)) (fun (x_1 : Bool) => some (x && x_1)))
noncomputable def s87 (F : Nat) : CS E.G := ⟨87, [.v 7 true, .v 0 false], [.v 1 false []], fun x => spill_span F x.1 x.2.1⟩
noncomputable def cx87 (F : Nat) : Ctx E := ⟨[s80 F], [], F, []⟩
noncomputable def h87 : Hint := .n
theorem e87 (F : Nat) (a0 : Span) (a1 : Int) : fnK (E := E) (cx87 F) Try.f87 [] [.v 7 true, .v 0 false] [.v 1 false []] h87 (a0, a1, ()) = spill_span F a0 a1 := by kernel_rfl
theorem c87 (F : Nat) : CSok E [] (s87 F) := ⟨en87, by
  have h := fn_sound (E := E) (gl := []) (cx := cx87 F) mix (allC (c80 F) all0) inl0 rfl (fun _ h => nomatch h) hf87 (ps := [.v 7 true, .v 0 false]) (rs := [.v 1 false []]) (by decide) h87
  rwa [show fnK (E := E) (cx87 F) Try.f87 [] [.v 7 true, .v 0 false] [.v 1 false []] h87 = (fun x : AT E.G.car [.v 7 true, .v 0 false] => spill_span F x.1 x.2.1) from funext fun x => e87 F x.1 x.2.1] at h⟩
theorem hf92 : Try.prog.funcs[92]? = some Try.f92 := by kernel_rfl
theorem en92 : Proofs.Enters Try.prog 92 := Proofs.enters_of hf92 (by kernel_rfl) rfl
noncomputable def spill_Check_1 (F : Nat) (a0 : Span) : Option (Bool) :=
  bnd (spill_span F (Span.mk a0.Lo a0.Hi) (1000000 : Int)) (fun (x : Bool) => some (!x))
noncomputable def s92 (F : Nat) : CS E.G := ⟨92, [.v 7 true], [.v 1 false []], fun x => spill_Check_1 F x.1⟩
noncomputable def cx92 (F : Nat) : Ctx E := ⟨[s87 F], [], F, []⟩
noncomputable def h92 : Hint := .n
theorem e92 (F : Nat) (a0 : Span) : fnK (E := E) (cx92 F) Try.f92 [] [.v 7 true] [.v 1 false []] h92 (a0, ()) = spill_Check_1 F a0 := by kernel_rfl
theorem c92 (F : Nat) : CSok E [] (s92 F) := ⟨en92, by
  have h := fn_sound (E := E) (gl := []) (cx := cx92 F) mix (allC (c87 F) all0) inl0 rfl (fun _ h => nomatch h) hf92 (ps := [.v 7 true]) (rs := [.v 1 false []]) (by decide) h92
  rwa [show fnK (E := E) (cx92 F) Try.f92 [] [.v 7 true] [.v 1 false []] h92 = (fun x : AT E.G.car [.v 7 true] => spill_Check_1 F x.1) from funext fun x => e92 F x.1] at h⟩
theorem hf34 : Try.prog.funcs[34]? = some Try.f34 := by kernel_rfl
theorem en34 : Proofs.Enters Try.prog 34 := Proofs.enters_of hf34 (by kernel_rfl) rfl
noncomputable def spill_Check (F : Nat) (a0 : Field) : Option (Int) :=
  bnd (spill_within F a0.W (1 : Int) (8 : Int)) (fun (x : Bool) => bnd (brk (!!x) (spill_within F a0.H (1 : Int) (8 : Int)) (some false)) (fun (x_1 : Bool) => brk (!x || !x_1) (some ((6 : Int))) (chk (InR (a0.W * a0.H)) (brk ((↑a0.Cells.length : Int) != a0.W * a0.H) (some ((1 : Int))) (join (fun (x_2 : Int) => brk (decide (x_2 ≥ (0 : Int))) (some ((120 : Int))) (some ((0 : Int)))) (fun x_2 => loopC (fun (x_3 : Int) => fun x_4 => brk (decide (x_3 < (↑a0.Cells.length : Int))) (chk ((0 : Int) ≤ x_3 ∧ x_3 < (↑a0.Cells.length : Int)) (bnd (spill_Check_1 F (Span.mk (a0.Cells.getD (Int.toNat x_3) (Span.mk (0 : Int) (0 : Int))).Lo (a0.Cells.getD (Int.toNat x_3) (Span.mk (0 : Int) (0 : Int))).Hi)) (fun (x_5 : Bool) => brk (x_5) (x_2 (x_3)) (chk (InR (x_3 + (1 : Int))) (x_4 (x_3 + (1 : Int))))))) (x_2 ((-1 : Int)))) (F) ((0 : Int))))))))
noncomputable def s34 (F : Nat) : CS E.G := ⟨34, [.v 9 true], [.v 0 false []], fun x => spill_Check F x.1⟩
noncomputable def cx34 (F : Nat) : Ctx E := ⟨[s80 F, s92 F], [(91, Try.f91), (133, Try.f133)], F, []⟩
noncomputable def h34 : Hint := (.c .n (.c .n (.p (.w ⟨[.i], [], [0], [(0, .i IntKind.i64)], [], [], [], 2⟩ (.l ⟨[.i], [0, 16, 112], [0], [(128, .i IntKind.i64)], [], [], [], 2⟩ (.c .n .n)) .n))))
theorem e34 (F : Nat) (a0 : Field) : fnK (E := E) (cx34 F) Try.f34 [] [.v 9 true] [.v 0 false []] h34 (a0, ()) = spill_Check F a0 := by kernel_rfl
theorem c34 (F : Nat) : CSok E [] (s34 F) := ⟨en34, by
  have h := fn_sound (E := E) (gl := []) (cx := cx34 F) mix (allC (c80 F) (allC (c92 F) all0)) (inlC hf91 en91 (inlC hf133 en133 inl0)) rfl (fun _ h => nomatch h) hf34 (ps := [.v 9 true]) (rs := [.v 0 false []]) (by decide) h34
  rwa [show fnK (E := E) (cx34 F) Try.f34 [] [.v 9 true] [.v 0 false []] h34 = (fun x : AT E.G.car [.v 9 true] => spill_Check F x.1) from funext fun x => e34 F x.1] at h⟩
theorem hf129 : Try.prog.funcs[129]? = some Try.f129 := by kernel_rfl
theorem en129 : Proofs.Enters Try.prog 129 := Proofs.enters_of hf129 (by kernel_rfl) rfl
noncomputable def spill_begin_1 (F : Nat) (a0 : Span) : Option (Bool) :=
  bnd (spill_span F (Span.mk a0.Lo a0.Hi) (10000 : Int)) (fun (x : Bool) => some (!x))
noncomputable def s129 (F : Nat) : CS E.G := ⟨129, [.v 7 true], [.v 1 false []], fun x => spill_begin_1 F x.1⟩
noncomputable def cx129 (F : Nat) : Ctx E := ⟨[s87 F], [], F, []⟩
noncomputable def h129 : Hint := .n
theorem e129 (F : Nat) (a0 : Span) : fnK (E := E) (cx129 F) Try.f129 [] [.v 7 true] [.v 1 false []] h129 (a0, ()) = spill_begin_1 F a0 := by kernel_rfl
theorem c129 (F : Nat) : CSok E [] (s129 F) := ⟨en129, by
  have h := fn_sound (E := E) (gl := []) (cx := cx129 F) mix (allC (c87 F) all0) inl0 rfl (fun _ h => nomatch h) hf129 (ps := [.v 7 true]) (rs := [.v 1 false []]) (by decide) h129
  rwa [show fnK (E := E) (cx129 F) Try.f129 [] [.v 7 true] [.v 1 false []] h129 = (fun x : AT E.G.car [.v 7 true] => spill_begin_1 F x.1) from funext fun x => e129 F x.1] at h⟩
theorem hf79 : Try.prog.funcs[79]? = some Try.f79 := by kernel_rfl
theorem en79 : Proofs.Enters Try.prog 79 := Proofs.enters_of hf79 (by kernel_rfl) rfl
theorem hf149 : Try.prog.funcs[149]? = some Try.f149 := by kernel_rfl
theorem en149 : Proofs.Enters Try.prog 149 := Proofs.enters_of hf149 (by kernel_rfl) rfl
theorem hf131 : Try.prog.funcs[131]? = some Try.f131 := by kernel_rfl
theorem en131 : Proofs.Enters Try.prog 131 := Proofs.enters_of hf131 (by kernel_rfl) rfl
theorem hf132 : Try.prog.funcs[132]? = some Try.f132 := by kernel_rfl
theorem en132 : Proofs.Enters Try.prog 132 := Proofs.enters_of hf132 (by kernel_rfl) rfl
noncomputable def spill_off (F : Nat) (a0 : Int) (a1 : Int) : Option (Int) :=
  chk (InR (a0 - a1)) (chk (((0 : Int) ≤ if a0 - a1 > (0 : Int) then a0 - a1 else (0 : Int)) ∧ (if a0 - a1 > (0 : Int) then a0 - a1 else (0 : Int)) ≤ (9223372036854775807 : Int)) (some ((if a0 - a1 > (0 : Int) then a0 - a1 else (0 : Int)) / (2 : Int))))
noncomputable def s132 (F : Nat) : CS E.G := ⟨132, [.v 0 false, .v 0 false], [.v 0 false []], fun x => spill_off F x.1 x.2.1⟩
noncomputable def cx132 (F : Nat) : Ctx E := ⟨[], [], F, []⟩
noncomputable def h132 : Hint := .n
theorem e132 (F : Nat) (a0 : Int) (a1 : Int) : fnK (E := E) (cx132 F) Try.f132 [] [.v 0 false, .v 0 false] [.v 0 false []] h132 (a0, a1, ()) = spill_off F a0 a1 := by kernel_rfl
theorem c132 (F : Nat) : CSok E [] (s132 F) := ⟨en132, by
  have h := fn_sound (E := E) (gl := []) (cx := cx132 F) mix all0 inl0 rfl (fun _ h => nomatch h) hf132 (ps := [.v 0 false, .v 0 false]) (rs := [.v 0 false []]) (by decide) h132
  rwa [show fnK (E := E) (cx132 F) Try.f132 [] [.v 0 false, .v 0 false] [.v 0 false []] h132 = (fun x : AT E.G.car [.v 0 false, .v 0 false] => spill_off F x.1 x.2.1) from funext fun x => e132 F x.1 x.2.1] at h⟩
theorem hf82 : Try.prog.funcs[82]? = some Try.f82 := by kernel_rfl
theorem en82 : Proofs.Enters Try.prog 82 := Proofs.enters_of hf82 (by kernel_rfl) rfl
noncomputable def spill_grid_hour (F : Nat) (a0 : Field) (a1 : List Int) (a2 : List Int) (a3 : List Int) : Option ((List Int)) :=
  chk ((0 : Int) ≤ (↑a1.length : Int) ∧ (↑a1.length : Int) ≤ (↑a1.length : Int) ∧ (↑a1.length : Int) ≤ (100000 : Int)) (loopC (fun (x : (Int) × (List (Int))) => fun x_1 => brk (decide (x.fst < (↑a1.length : Int))) (join (fun (x_2 : List (Int)) => chk (InR (x.fst + (1 : Int))) (x_1 ((x.fst + (1 : Int), x_2)))) (fun x_2 => chk ((0 : Int) ≤ x.fst ∧ x.fst < (↑a1.length : Int)) (chk (((0 : Int) ≤ x.fst ∧ x.fst ≤ (9223372036854775807 : Int)) ∧ (0 : Int) < a0.W) (chk (((0 : Int) ≤ x.fst ∧ x.fst ≤ (9223372036854775807 : Int)) ∧ (0 : Int) < a0.W) (loopC (fun (x_3 : (Int) × ((Int) × (Int))) => fun x_4 => brk (decide (x_3.snd.fst < (4 : Int))) (join (fun (x_5 : (Int) × (Int)) => chk (InR (x_3.snd.fst + (1 : Int))) (x_4 ((x_5.fst, x_3.snd.fst + (1 : Int), x_5.snd)))) (fun x_5 => chk ((0 : Int) ≤ x_3.snd.fst ∧ x_3.snd.fst < (↑(4 : Nat) : Int)) (chk (InR (x.fst % a0.W + ([A2ofInt.mk (0 : Int) (-1 : Int), A2ofInt.mk (1 : Int) (0 : Int), A2ofInt.mk (0 : Int) (1 : Int), A2ofInt.mk (-1 : Int) (0 : Int)].getD (Int.toNat x_3.snd.fst) (A2ofInt.mk (0 : Int) (0 : Int))).a0)) (chk (InR (x.fst / a0.W + ([A2ofInt.mk (0 : Int) (-1 : Int), A2ofInt.mk (1 : Int) (0 : Int), A2ofInt.mk (0 : Int) (1 : Int), A2ofInt.mk (-1 : Int) (0 : Int)].getD (Int.toNat x_3.snd.fst) (A2ofInt.mk (0 : Int) (0 : Int))).a1)) (chk (InR (a0.W - (1 : Int))) (bnd (spill_within F (x.fst % a0.W + ([A2ofInt.mk (0 : Int) (-1 : Int), A2ofInt.mk (1 : Int) (0 : Int), A2ofInt.mk (0 : Int) (1 : Int), A2ofInt.mk (-1 : Int) (0 : Int)].getD (Int.toNat x_3.snd.fst) (A2ofInt.mk (0 : Int) (0 : Int))).a0) (0 : Int) (a0.W - (1 : Int))) (fun (x_6 : Bool) => chk (x_6 = true → InR (a0.H - (1 : Int))) (bnd (brk x_6 (spill_within F (x.fst / a0.W + ([A2ofInt.mk (0 : Int) (-1 : Int), A2ofInt.mk (1 : Int) (0 : Int), A2ofInt.mk (0 : Int) (1 : Int), A2ofInt.mk (-1 : Int) (0 : Int)].getD (Int.toNat x_3.snd.fst) (A2ofInt.mk (0 : Int) (0 : Int))).a1) (0 : Int) (a0.H - (1 : Int))) (some false)) (fun (x_7 : Bool) => brk (x_6 && x_7) (chk (InR ((x.fst / a0.W + ([A2ofInt.mk (0 : Int) (-1 : Int), A2ofInt.mk (1 : Int) (0 : Int), A2ofInt.mk (0 : Int) (1 : Int), A2ofInt.mk (-1 : Int) (0 : Int)].getD (Int.toNat x_3.snd.fst) (A2ofInt.mk (0 : Int) (0 : Int))).a1) * a0.W)) (chk (InR ((x.fst / a0.W + ([A2ofInt.mk (0 : Int) (-1 : Int), A2ofInt.mk (1 : Int) (0 : Int), A2ofInt.mk (0 : Int) (1 : Int), A2ofInt.mk (-1 : Int) (0 : Int)].getD (Int.toNat x_3.snd.fst) (A2ofInt.mk (0 : Int) (0 : Int))).a1) * a0.W + (x.fst % a0.W + ([A2ofInt.mk (0 : Int) (-1 : Int), A2ofInt.mk (1 : Int) (0 : Int), A2ofInt.mk (0 : Int) (1 : Int), A2ofInt.mk (-1 : Int) (0 : Int)].getD (Int.toNat x_3.snd.fst) (A2ofInt.mk (0 : Int) (0 : Int))).a0))) (chk (InR (x_3.snd.snd + (1 : Int))) (chk (InR (x_3.fst + (1 : Int))) (x_5 ((x_3.fst + (1 : Int), x_3.snd.snd + (1 : Int)))))))) (x_5 ((x_3.fst, x_3.snd.snd)))))))))))) (brk (x_3.snd.snd == (0 : Int)) (chk ((0 : Int) ≤ x.fst ∧ x.fst < (↑(List.length x.snd) : Int)) (chk (InR (List.getD x.snd (Int.toNat x.fst) (0 : Int) + a1.getD (Int.toNat x.fst) (0 : Int))) (chk ((0 : Int) ≤ x.fst ∧ x.fst < (↑(List.length x.snd) : Int)) (x_2 (List.set x.snd (Int.toNat x.fst) (List.getD x.snd (Int.toNat x.fst) (0 : Int) + a1.getD (Int.toNat x.fst) (0 : Int))))))) (chk ((0 : Int) ≤ x.fst ∧ x.fst < (↑(List.length x.snd) : Int)) (chk ((0 : Int) ≤ x.fst ∧ x.fst < (↑a2.length : Int)) (bnd (spill_off F (a1.getD (Int.toNat x.fst) (0 : Int)) (a2.getD (Int.toNat x.fst) (0 : Int))) (fun (x_5 : Int) => chk (InR (a1.getD (Int.toNat x.fst) (0 : Int) - x_5)) (chk (InR (List.getD x.snd (Int.toNat x.fst) (0 : Int) + (a1.getD (Int.toNat x.fst) (0 : Int) - x_5))) (chk ((0 : Int) ≤ x.fst ∧ x.fst < (↑(List.length x.snd) : Int)) (chk ((0 : Int) ≤ x.fst ∧ x.fst < (↑a3.length : Int)) (bnd (spill_off F (a1.getD (Int.toNat x.fst) (0 : Int)) (a3.getD (Int.toNat x.fst) (0 : Int))) (fun (x_6 : Int) => chk (((0 : Int) ≤ x.fst ∧ x.fst ≤ (9223372036854775807 : Int)) ∧ (0 : Int) < a0.W) (chk (((0 : Int) ≤ x.fst ∧ x.fst ≤ (9223372036854775807 : Int)) ∧ (0 : Int) < a0.W) (loopC (fun (x_7 : (Int) × ((Int) × (List (Int)))) => fun x_8 => brk (decide (x_7.snd.fst < (4 : Int))) (join (fun (x_9 : (Int) × (List (Int))) => chk (InR (x_7.snd.fst + (1 : Int))) (x_8 ((x_9.fst, x_7.snd.fst + (1 : Int), x_9.snd)))) (fun x_9 => chk ((0 : Int) ≤ x_7.snd.fst ∧ x_7.snd.fst < (↑(4 : Nat) : Int)) (chk (InR (x.fst % a0.W + ([A2ofInt.mk (0 : Int) (-1 : Int), A2ofInt.mk (1 : Int) (0 : Int), A2ofInt.mk (0 : Int) (1 : Int), A2ofInt.mk (-1 : Int) (0 : Int)].getD (Int.toNat x_7.snd.fst) (A2ofInt.mk (0 : Int) (0 : Int))).a0)) (chk (InR (x.fst / a0.W + ([A2ofInt.mk (0 : Int) (-1 : Int), A2ofInt.mk (1 : Int) (0 : Int), A2ofInt.mk (0 : Int) (1 : Int), A2ofInt.mk (-1 : Int) (0 : Int)].getD (Int.toNat x_7.snd.fst) (A2ofInt.mk (0 : Int) (0 : Int))).a1)) (chk (InR (a0.W - (1 : Int))) (bnd (spill_within F (x.fst % a0.W + ([A2ofInt.mk (0 : Int) (-1 : Int), A2ofInt.mk (1 : Int) (0 : Int), A2ofInt.mk (0 : Int) (1 : Int), A2ofInt.mk (-1 : Int) (0 : Int)].getD (Int.toNat x_7.snd.fst) (A2ofInt.mk (0 : Int) (0 : Int))).a0) (0 : Int) (a0.W - (1 : Int))) (fun (x_10 : Bool) => chk (x_10 = true → InR (a0.H - (1 : Int))) (bnd (brk x_10 (spill_within F (x.fst / a0.W + ([A2ofInt.mk (0 : Int) (-1 : Int), A2ofInt.mk (1 : Int) (0 : Int), A2ofInt.mk (0 : Int) (1 : Int), A2ofInt.mk (-1 : Int) (0 : Int)].getD (Int.toNat x_7.snd.fst) (A2ofInt.mk (0 : Int) (0 : Int))).a1) (0 : Int) (a0.H - (1 : Int))) (some false)) (fun (x_11 : Bool) => brk (x_10 && x_11) (chk (InR ((x.fst / a0.W + ([A2ofInt.mk (0 : Int) (-1 : Int), A2ofInt.mk (1 : Int) (0 : Int), A2ofInt.mk (0 : Int) (1 : Int), A2ofInt.mk (-1 : Int) (0 : Int)].getD (Int.toNat x_7.snd.fst) (A2ofInt.mk (0 : Int) (0 : Int))).a1) * a0.W)) (chk (InR ((x.fst / a0.W + ([A2ofInt.mk (0 : Int) (-1 : Int), A2ofInt.mk (1 : Int) (0 : Int), A2ofInt.mk (0 : Int) (1 : Int), A2ofInt.mk (-1 : Int) (0 : Int)].getD (Int.toNat x_7.snd.fst) (A2ofInt.mk (0 : Int) (0 : Int))).a1) * a0.W + (x.fst % a0.W + ([A2ofInt.mk (0 : Int) (-1 : Int), A2ofInt.mk (1 : Int) (0 : Int), A2ofInt.mk (0 : Int) (1 : Int), A2ofInt.mk (-1 : Int) (0 : Int)].getD (Int.toNat x_7.snd.fst) (A2ofInt.mk (0 : Int) (0 : Int))).a0))) (chk ((0 : Int) ≤ (x.fst / a0.W + ([A2ofInt.mk (0 : Int) (-1 : Int), A2ofInt.mk (1 : Int) (0 : Int), A2ofInt.mk (0 : Int) (1 : Int), A2ofInt.mk (-1 : Int) (0 : Int)].getD (Int.toNat x_7.snd.fst) (A2ofInt.mk (0 : Int) (0 : Int))).a1) * a0.W + (x.fst % a0.W + ([A2ofInt.mk (0 : Int) (-1 : Int), A2ofInt.mk (1 : Int) (0 : Int), A2ofInt.mk (0 : Int) (1 : Int), A2ofInt.mk (-1 : Int) (0 : Int)].getD (Int.toNat x_7.snd.fst) (A2ofInt.mk (0 : Int) (0 : Int))).a0) ∧ (x.fst / a0.W + ([A2ofInt.mk (0 : Int) (-1 : Int), A2ofInt.mk (1 : Int) (0 : Int), A2ofInt.mk (0 : Int) (1 : Int), A2ofInt.mk (-1 : Int) (0 : Int)].getD (Int.toNat x_7.snd.fst) (A2ofInt.mk (0 : Int) (0 : Int))).a1) * a0.W + (x.fst % a0.W + ([A2ofInt.mk (0 : Int) (-1 : Int), A2ofInt.mk (1 : Int) (0 : Int), A2ofInt.mk (0 : Int) (1 : Int), A2ofInt.mk (-1 : Int) (0 : Int)].getD (Int.toNat x_7.snd.fst) (A2ofInt.mk (0 : Int) (0 : Int))).a0) < (↑(List.length x_7.snd.snd) : Int)) (chk (InR (x_6 + x_7.fst)) (chk (((0 : Int) ≤ x_6 + x_7.fst ∧ x_6 + x_7.fst ≤ (9223372036854775807 : Int)) ∧ (0 : Int) < x_3.snd.snd) (chk (InR (List.getD x_7.snd.snd ((x.fst / a0.W + ([A2ofInt.mk (0 : Int) (-1 : Int), A2ofInt.mk (1 : Int) (0 : Int), A2ofInt.mk (0 : Int) (1 : Int), A2ofInt.mk (-1 : Int) (0 : Int)].getD (Int.toNat x_7.snd.fst) (A2ofInt.mk (0 : Int) (0 : Int))).a1) * a0.W + (x.fst % a0.W + ([A2ofInt.mk (0 : Int) (-1 : Int), A2ofInt.mk (1 : Int) (0 : Int), A2ofInt.mk (0 : Int) (1 : Int), A2ofInt.mk (-1 : Int) (0 : Int)].getD (Int.toNat x_7.snd.fst) (A2ofInt.mk (0 : Int) (0 : Int))).a0)).toNat (0 : Int) + (x_6 + x_7.fst) / x_3.snd.snd)) (chk ((0 : Int) ≤ (x.fst / a0.W + ([A2ofInt.mk (0 : Int) (-1 : Int), A2ofInt.mk (1 : Int) (0 : Int), A2ofInt.mk (0 : Int) (1 : Int), A2ofInt.mk (-1 : Int) (0 : Int)].getD (Int.toNat x_7.snd.fst) (A2ofInt.mk (0 : Int) (0 : Int))).a1) * a0.W + (x.fst % a0.W + ([A2ofInt.mk (0 : Int) (-1 : Int), A2ofInt.mk (1 : Int) (0 : Int), A2ofInt.mk (0 : Int) (1 : Int), A2ofInt.mk (-1 : Int) (0 : Int)].getD (Int.toNat x_7.snd.fst) (A2ofInt.mk (0 : Int) (0 : Int))).a0) ∧ (x.fst / a0.W + ([A2ofInt.mk (0 : Int) (-1 : Int), A2ofInt.mk (1 : Int) (0 : Int), A2ofInt.mk (0 : Int) (1 : Int), A2ofInt.mk (-1 : Int) (0 : Int)].getD (Int.toNat x_7.snd.fst) (A2ofInt.mk (0 : Int) (0 : Int))).a1) * a0.W + (x.fst % a0.W + ([A2ofInt.mk (0 : Int) (-1 : Int), A2ofInt.mk (1 : Int) (0 : Int), A2ofInt.mk (0 : Int) (1 : Int), A2ofInt.mk (-1 : Int) (0 : Int)].getD (Int.toNat x_7.snd.fst) (A2ofInt.mk (0 : Int) (0 : Int))).a0) < (↑(List.length x_7.snd.snd) : Int)) (chk (InR (x_7.fst + (1 : Int))) (x_9 ((x_7.fst + (1 : Int), List.set x_7.snd.snd ((x.fst / a0.W + ([A2ofInt.mk (0 : Int) (-1 : Int), A2ofInt.mk (1 : Int) (0 : Int), A2ofInt.mk (0 : Int) (1 : Int), A2ofInt.mk (-1 : Int) (0 : Int)].getD (Int.toNat x_7.snd.fst) (A2ofInt.mk (0 : Int) (0 : Int))).a1) * a0.W + (x.fst % a0.W + ([A2ofInt.mk (0 : Int) (-1 : Int), A2ofInt.mk (1 : Int) (0 : Int), A2ofInt.mk (0 : Int) (1 : Int), A2ofInt.mk (-1 : Int) (0 : Int)].getD (Int.toNat x_7.snd.fst) (A2ofInt.mk (0 : Int) (0 : Int))).a0)).toNat (List.getD x_7.snd.snd ((x.fst / a0.W + ([A2ofInt.mk (0 : Int) (-1 : Int), A2ofInt.mk (1 : Int) (0 : Int), A2ofInt.mk (0 : Int) (1 : Int), A2ofInt.mk (-1 : Int) (0 : Int)].getD (Int.toNat x_7.snd.fst) (A2ofInt.mk (0 : Int) (0 : Int))).a1) * a0.W + (x.fst % a0.W + ([A2ofInt.mk (0 : Int) (-1 : Int), A2ofInt.mk (1 : Int) (0 : Int), A2ofInt.mk (0 : Int) (1 : Int), A2ofInt.mk (-1 : Int) (0 : Int)].getD (Int.toNat x_7.snd.fst) (A2ofInt.mk (0 : Int) (0 : Int))).a0)).toNat (0 : Int) + (x_6 + x_7.fst) / x_3.snd.snd)))))))))))) (x_9 ((x_7.fst, x_7.snd.snd)))))))))))) (x_2 (x_7.snd.snd))) (F) (((0 : Int), (0 : Int), List.set x.snd (Int.toNat x.fst) (List.getD x.snd (Int.toNat x.fst) (0 : Int) + (a1.getD (Int.toNat x.fst) (0 : Int) - x_5))))))))))))))))) (F) (((0 : Int), (0 : Int), (0 : Int)))))))) (some (x.snd))) (F) (((0 : Int), List.replicate (↑a1.length : Int).toNat (0 : Int))))
noncomputable def s82 (F : Nat) : CS E.G := ⟨82, [.gp 9, .sl 0, .sl 0, .sl 0], [.sl 0 3], fun x => spill_grid_hour F x.1 x.2.1 x.2.2.1 x.2.2.2.1⟩
noncomputable def cx82 (F : Nat) : Ctx E := ⟨[s80 F, s132 F], [(131, Try.f131), (149, Try.f149)], F, []⟩
noncomputable def h82 : Hint := (.l ⟨[.i, .l 0], [32, 64, 320, 48, 144, 304], [2, 4, 3, 6, 1, 0, 5], [(336, .i IntKind.i64)], [], [], [(5, 3, 0)], 7⟩ (.c (.j ⟨[.l 0], [32, 64, 320, 48, 144, 336, 304], [2, 4, 3, 6, 1, 0, 5], [], [], [], [(5, 3, 0)], 7⟩ (.p (.l ⟨[.i, .i, .i], [0, 16, 32, 224, 48], [0, 1, 3, 7, 5, 9, 2, 4, 8, 6, 10], [(80, .i IntKind.i64), (240, .i IntKind.i64)], [], [(7, 0, .i IntKind.i64)], [], 12⟩ (.c (.j ⟨[.i, .i], [0, 16, 32, 224, 48, 240], [0, 1, 3, 7, 5, 9, 2, 4, 8, 6, 10], [(80, .i IntKind.i64)], [], [(7, 0, .i IntKind.i64)], [], 12⟩ (.c (.p .n) .n) .n) (.c .n (.p (.l ⟨[.i, .i, .l 0], [0, 16, 32, 224, 48], [0, 1, 3, 7, 15, 5, 9, 13, 2, 4, 8, 12, 6, 10, 14], [(80, .i IntKind.i64), (240, .i IntKind.i64)], [], [], [(5, 3, 0)], 17⟩ (.c (.j ⟨[.i, .l 0], [0, 16, 32, 224, 48, 240], [0, 1, 3, 7, 15, 5, 9, 13, 2, 4, 8, 12, 6, 10, 14], [(80, .i IntKind.i64)], [], [], [(5, 3, 0)], 17⟩ (.c (.p .n) .n) .n) .n))))))) .n) .n))
theorem e82 (F : Nat) (a0 : Field) (a1 : List Int) (a2 : List Int) (a3 : List Int) : fnK (E := E) (cx82 F) Try.f82 [] [.gp 9, .sl 0, .sl 0, .sl 0] [.sl 0 3] h82 (a0, a1, a2, a3, ()) = spill_grid_hour F a0 a1 a2 a3 := by kernel_rfl
theorem c82 (F : Nat) : CSok E [] (s82 F) := ⟨en82, by
  have h := fn_sound (E := E) (gl := []) (cx := cx82 F) mix (allC (c80 F) (allC (c132 F) all0)) (inlC hf131 en131 (inlC hf149 en149 inl0)) rfl (fun _ h => nomatch h) hf82 (ps := [.gp 9, .sl 0, .sl 0, .sl 0]) (rs := [.sl 0 3]) (by decide) h82
  rwa [show fnK (E := E) (cx82 F) Try.f82 [] [.gp 9, .sl 0, .sl 0, .sl 0] [.sl 0 3] h82 = (fun x : AT E.G.car [.gp 9, .sl 0, .sl 0, .sl 0] => spill_grid_hour F x.1 x.2.1 x.2.2.1 x.2.2.2.1) from funext fun x => e82 F x.1 x.2.1 x.2.2.1 x.2.2.2.1] at h⟩
theorem hf130 : Try.prog.funcs[130]? = some Try.f130 := by kernel_rfl
theorem en130 : Proofs.Enters Try.prog 130 := Proofs.enters_of hf130 (by kernel_rfl) rfl
noncomputable def spill_ends (F : Nat) (a0 : List Span) : Option ((List Int) × (List Int)) :=
  loopC (fun (x : (List (Int)) × ((Int) × (List (Int)))) => fun x_1 => brk (decide (x.snd.fst < (↑a0.length : Int))) (chk ((0 : Int) ≤ x.snd.fst ∧ x.snd.fst < (↑a0.length : Int)) (chk (List.length x.fst + [(a0.getD (Int.toNat x.snd.fst) (Span.mk (0 : Int) (0 : Int))).Lo].length ≤ (1000000 : Nat)) (chk (List.length x.snd.snd + [(a0.getD (Int.toNat x.snd.fst) (Span.mk (0 : Int) (0 : Int))).Hi].length ≤ (1000000 : Nat)) (chk (InR (x.snd.fst + (1 : Int))) (x_1 ((x.fst ++ [(a0.getD (Int.toNat x.snd.fst) (Span.mk (0 : Int) (0 : Int))).Lo], x.snd.fst + (1 : Int), x.snd.snd ++ [(a0.getD (Int.toNat x.snd.fst) (Span.mk (0 : Int) (0 : Int))).Hi]))))))) (some ((x.fst, x.snd.snd)))) (F) (([], (0 : Int), []))
noncomputable def s130 (F : Nat) : CS E.G := ⟨130, [.sl 7], [.sl 0 3, .sl 0 3], fun x => spill_ends F x.1⟩
noncomputable def cx130 (F : Nat) : Ctx E := ⟨[], [], F, []⟩
noncomputable def h130 : Hint := (.l ⟨[.l 0, .i, .l 0], [96, 112], [0], [(32, .h 1 3 0), (128, .i IntKind.i64), (48, .h 2 3 0)], [], [], [], 3⟩ .n)
theorem e130 (F : Nat) (a0 : List Span) : fnK (E := E) (cx130 F) Try.f130 [] [.sl 7] [.sl 0 3, .sl 0 3] h130 (a0, ()) = spill_ends F a0 := by kernel_rfl
theorem c130 (F : Nat) : CSok E [] (s130 F) := ⟨en130, by
  have h := fn_sound (E := E) (gl := []) (cx := cx130 F) mix all0 inl0 rfl (fun _ h => nomatch h) hf130 (ps := [.sl 7]) (rs := [.sl 0 3, .sl 0 3]) (by decide) h130
  rwa [show fnK (E := E) (cx130 F) Try.f130 [] [.sl 7] [.sl 0 3, .sl 0 3] h130 = (fun x : AT E.G.car [.sl 7] => spill_ends F x.1) from funext fun x => e130 F x.1] at h⟩
theorem hf81 : Try.prog.funcs[81]? = some Try.f81 := by kernel_rfl
theorem en81 : Proofs.Enters Try.prog 81 := Proofs.enters_of hf81 (by kernel_rfl) rfl
noncomputable def spill_grid_spread (F : Nat) (a0 : Field) (a1 : List Span) : Option ((List Span)) :=
  bnd (spill_ends F a0.Cells) (fun (x : (List (Int)) × (List (Int))) => bnd (spill_ends F a1) (fun (x_1 : (List (Int)) × (List (Int))) => bnd (spill_grid_hour F (Field.mk a0.W a0.H (a0.Cells)) x.fst x_1.fst x_1.snd) (fun (x_2 : List (Int)) => bnd (spill_grid_hour F (Field.mk a0.W a0.H (a0.Cells)) x.snd x_1.snd x_1.fst) (fun (x_3 : List (Int)) => loopC (fun (x_4 : (Int) × (List (Span))) => fun x_5 => brk (decide (x_4.fst < (↑(List.length x_2) : Int))) (chk ((0 : Int) ≤ x_4.fst ∧ x_4.fst < (↑(List.length x_2) : Int)) (chk ((0 : Int) ≤ x_4.fst ∧ x_4.fst < (↑(List.length x_3) : Int)) (chk (List.length x_4.snd + [Span.mk (if (1000000 : Int) < List.getD x_2 (Int.toNat x_4.fst) (0 : Int) then (1000000 : Int) else List.getD x_2 (Int.toNat x_4.fst) (0 : Int)) (if (1000000 : Int) < List.getD x_3 (Int.toNat x_4.fst) (0 : Int) then (1000000 : Int) else List.getD x_3 (Int.toNat x_4.fst) (0 : Int))].length ≤ (1000000 : Nat)) (chk (InR (x_4.fst + (1 : Int))) (x_5 ((x_4.fst + (1 : Int), x_4.snd ++ [Span.mk (if (1000000 : Int) < List.getD x_2 (Int.toNat x_4.fst) (0 : Int) then (1000000 : Int) else List.getD x_2 (Int.toNat x_4.fst) (0 : Int)) (if (1000000 : Int) < List.getD x_3 (Int.toNat x_4.fst) (0 : Int) then (1000000 : Int) else List.getD x_3 (Int.toNat x_4.fst) (0 : Int))]))))))) (some (x_4.snd))) (F) (((0 : Int), []))))))
noncomputable def s81 (F : Nat) : CS E.G := ⟨81, [.gp 9, .sl 7], [.sl 7 34], fun x => spill_grid_spread F x.1 x.2.1⟩
noncomputable def cx81 (F : Nat) : Ctx E := ⟨[s82 F, s130 F], [], F, []⟩
noncomputable def h81 : Hint := (.l ⟨[.i, .l 7], [576, 96, 592], [8, 9], [(608, .i IntKind.i64), (144, .h 10 34 7)], [], [], [], 11⟩ .n)
theorem e81 (F : Nat) (a0 : Field) (a1 : List Span) : fnK (E := E) (cx81 F) Try.f81 [] [.gp 9, .sl 7] [.sl 7 34] h81 (a0, a1, ()) = spill_grid_spread F a0 a1 := by kernel_rfl
theorem c81 (F : Nat) : CSok E [] (s81 F) := ⟨en81, by
  have h := fn_sound (E := E) (gl := []) (cx := cx81 F) mix (allC (c82 F) (allC (c130 F) all0)) inl0 rfl (fun _ h => nomatch h) hf81 (ps := [.gp 9, .sl 7]) (rs := [.sl 7 34]) (by decide) h81
  rwa [show fnK (E := E) (cx81 F) Try.f81 [] [.gp 9, .sl 7] [.sl 7 34] h81 = (fun x : AT E.G.car [.gp 9, .sl 7] => spill_grid_spread F x.1 x.2.1) from funext fun x => e81 F x.1 x.2.1] at h⟩
theorem hf16 : Try.prog.funcs[16]? = some Try.f16 := by kernel_rfl
theorem en16 : Proofs.Enters Try.prog 16 := Proofs.enters_of hf16 (by kernel_rfl) rfl
noncomputable def spill_Spread (F : Nat) (a0 : Field) (a1 : List Span) (a2 : Int) : Option (Field × Int) :=
  bnd (spill_Check F (Field.mk a0.W a0.H (a0.Cells))) (fun (x : Int) => brk (x != (0 : Int)) (brk (x != (0 : Int)) (some ((Field.mk (0 : Int) (0 : Int) ([]), x))) (none)) (brk ((↑a1.length : Int) != (↑a0.Cells.length : Int)) (some ((Field.mk (0 : Int) (0 : Int) ([]), (1 : Int)))) (join (fun (x_1 : Int) => brk (decide (x_1 ≥ (0 : Int))) (some ((Field.mk (0 : Int) (0 : Int) ([]), (120 : Int)))) (bnd (slices_Clone_api_Span F a0.Cells) (fun (x_2 : List (Span)) => bnd (spill_within F a2 (0 : Int) (48 : Int)) (fun (x_3 : Bool) => brk (!x_3) (some ((Field.mk (0 : Int) (0 : Int) ([]), (6 : Int)))) (loopC (fun (x_4 : (Int) × (List (Span))) => fun x_5 => brk (decide (x_4.fst < a2)) (bnd (spill_grid_spread F (Field.mk a0.W a0.H (x_4.snd)) a1) (fun (x_6 : List (Span)) => chk (InR (x_4.fst + (1 : Int))) (x_5 ((x_4.fst + (1 : Int), x_6))))) (some ((Field.mk a0.W a0.H (x_4.snd), (0 : Int))))) (F) (((0 : Int), x_2))))))) (fun x_1 => loopC (fun (x_2 : Int) => fun x_3 => brk (decide (x_2 < (↑a1.length : Int))) (chk ((0 : Int) ≤ x_2 ∧ x_2 < (↑a1.length : Int)) (bnd (spill_begin_1 F (Span.mk (a1.getD (Int.toNat x_2) (Span.mk (0 : Int) (0 : Int))).Lo (a1.getD (Int.toNat x_2) (Span.mk (0 : Int) (0 : Int))).Hi)) (fun (x_4 : Bool) => brk (x_4) (x_1 (x_2)) (chk (InR (x_2 + (1 : Int))) (x_3 (x_2 + (1 : Int))))))) (x_1 ((-1 : Int)))) (F) ((0 : Int))))))
noncomputable def s16 (F : Nat) : CS E.G := ⟨16, [.v 9 true, .sl 7, .v 0 false], [.v 9 true [34], .v 0 false []], fun x => spill_Spread F x.1 x.2.1 x.2.2.1⟩
noncomputable def cx16 (F : Nat) : Ctx E := ⟨[s15 F, s34 F, s129 F, s80 F, s81 F], [(79, Try.f79), (91, Try.f91), (133, Try.f133)], F, []⟩
noncomputable def h16 : Hint := (.p (.c (.c .n (.u 0 .n)) (.c .n (.p (.w ⟨[.i], [], [1], [(0, .i IntKind.i64)], [], [], [], 6⟩ (.l ⟨[.i], [0, 16, 112], [1], [(128, .i IntKind.i64)], [], [], [], 6⟩ (.c .n .n)) (.c .n (.c .n (.l ⟨[.i, .l 7], [16, 128, 96, 416], [1, 7, 3, 4], [(432, .i IntKind.i64)], [], [(4, 2, .h 8 34 7)], [], 9⟩ .n))))))))
theorem e16 (F : Nat) (a0 : Field) (a1 : List Span) (a2 : Int) : fnK (E := E) (cx16 F) Try.f16 [] [.v 9 true, .sl 7, .v 0 false] [.v 9 true [34], .v 0 false []] h16 (a0, a1, a2, ()) = spill_Spread F a0 a1 a2 := by kernel_rfl
theorem c16 (F : Nat) : CSok E [] (s16 F) := ⟨en16, by
  have h := fn_sound (E := E) (gl := []) (cx := cx16 F) mix (allC (c15 F) (allC (c34 F) (allC (c129 F) (allC (c80 F) (allC (c81 F) all0))))) (inlC hf79 en79 (inlC hf91 en91 (inlC hf133 en133 inl0))) rfl (fun _ h => nomatch h) hf16 (ps := [.v 9 true, .sl 7, .v 0 false]) (rs := [.v 9 true [34], .v 0 false []]) (by decide) h16
  rwa [show fnK (E := E) (cx16 F) Try.f16 [] [.v 9 true, .sl 7, .v 0 false] [.v 9 true [34], .v 0 false []] h16 = (fun x : AT E.G.car [.v 9 true, .sl 7, .v 0 false] => spill_Spread F x.1 x.2.1 x.2.2.1) from funext fun x => e16 F x.1 x.2.1 x.2.2.1] at h⟩
theorem hf44 : Try.prog.funcs[44]? = some Try.f44 := by kernel_rfl
theorem en44 : Proofs.Enters Try.prog 44 := Proofs.enters_of hf44 (by kernel_rfl) rfl
noncomputable def kit_SameSpans (F : Nat) (a0 : List Span) (a1 : List Span) : Option (Bool) :=
  brk ((↑a0.length : Int) != (↑a1.length : Int)) (some (false)) (loopC (fun (x : Int) => fun x_1 => brk (decide (x < (↑a0.length : Int))) (chk ((0 : Int) ≤ x ∧ x < (↑a0.length : Int)) (chk ((0 : Int) ≤ x ∧ x < (↑a1.length : Int)) (brk (!((a0.getD (Int.toNat x) (Span.mk (0 : Int) (0 : Int))).Lo == (a1.getD (Int.toNat x) (Span.mk (0 : Int) (0 : Int))).Lo && ((a0.getD (Int.toNat x) (Span.mk (0 : Int) (0 : Int))).Hi == (a1.getD (Int.toNat x) (Span.mk (0 : Int) (0 : Int))).Hi && true))) (some (false)) (chk (InR (x + (1 : Int))) (x_1 (x + (1 : Int))))))) (some (true))) (F) ((0 : Int)))
noncomputable def s44 (F : Nat) : CS E.G := ⟨44, [.sl 7, .sl 7], [.v 1 false []], fun x => kit_SameSpans F x.1 x.2.1⟩
noncomputable def cx44 (F : Nat) : Ctx E := ⟨[], [], F, []⟩
noncomputable def h44 : Hint := (.c .n (.l ⟨[.i], [0, 16], [0, 1], [(80, .i IntKind.i64)], [], [], [], 2⟩ (.c .n .n)))
theorem e44 (F : Nat) (a0 : List Span) (a1 : List Span) : fnK (E := E) (cx44 F) Try.f44 [] [.sl 7, .sl 7] [.v 1 false []] h44 (a0, a1, ()) = kit_SameSpans F a0 a1 := by kernel_rfl
theorem c44 (F : Nat) : CSok E [] (s44 F) := ⟨en44, by
  have h := fn_sound (E := E) (gl := []) (cx := cx44 F) mix all0 inl0 rfl (fun _ h => nomatch h) hf44 (ps := [.sl 7, .sl 7]) (rs := [.v 1 false []]) (by decide) h44
  rwa [show fnK (E := E) (cx44 F) Try.f44 [] [.sl 7, .sl 7] [.v 1 false []] h44 = (fun x : AT E.G.car [.sl 7, .sl 7] => kit_SameSpans F x.1 x.2.1) from funext fun x => e44 F x.1 x.2.1] at h⟩
theorem hf17 : Try.prog.funcs[17]? = some Try.f17 := by kernel_rfl
theorem en17 : Proofs.Enters Try.prog 17 := Proofs.enters_of hf17 (by kernel_rfl) rfl
noncomputable def law11_same (F : Nat) (a0 : Field) (a1 : Field) : Option (Bool) :=
  bnd (brk (a0.W == a1.W && a0.H == a1.H) (kit_SameSpans F a0.Cells a1.Cells) (some false)) (fun (x : Bool) => some (a0.W == a1.W && a0.H == a1.H && x))
noncomputable def s17 (F : Nat) : CS E.G := ⟨17, [.v 9 true, .v 9 true], [.v 1 false []], fun x => law11_same F x.1 x.2.1⟩
noncomputable def cx17 (F : Nat) : Ctx E := ⟨[s44 F], [], F, []⟩
noncomputable def h17 : Hint := .n
theorem e17 (F : Nat) (a0 : Field) (a1 : Field) : fnK (E := E) (cx17 F) Try.f17 [] [.v 9 true, .v 9 true] [.v 1 false []] h17 (a0, a1, ()) = law11_same F a0 a1 := by kernel_rfl
theorem c17 (F : Nat) : CSok E [] (s17 F) := ⟨en17, by
  have h := fn_sound (E := E) (gl := []) (cx := cx17 F) mix (allC (c44 F) all0) inl0 rfl (fun _ h => nomatch h) hf17 (ps := [.v 9 true, .v 9 true]) (rs := [.v 1 false []]) (by decide) h17
  rwa [show fnK (E := E) (cx17 F) Try.f17 [] [.v 9 true, .v 9 true] [.v 1 false []] h17 = (fun x : AT E.G.car [.v 9 true, .v 9 true] => law11_same F x.1 x.2.1) from funext fun x => e17 F x.1 x.2.1] at h⟩
theorem hf19 : Try.prog.funcs[19]? = some Try.f19 := by kernel_rfl
theorem en19 : Proofs.Enters Try.prog 19 := Proofs.enters_of hf19 (by kernel_rfl) rfl
noncomputable def spill_Flow (F : Nat) (a0 : Int) (a1 : Int) (a2 : List Int) (a3 : List Int) : Option ((List Int) × Int) :=
  bnd (spill_within F a0 (1 : Int) (8 : Int)) (fun (x : Bool) => bnd (brk (!!x) (spill_within F a1 (1 : Int) (8 : Int)) (some false)) (fun (x_1 : Bool) => brk (!x || !x_1) (some (([], (6 : Int)))) (chk (InR (a0 * a1)) (chk ((!(↑a2.length : Int) != a0 * a1) = true → InR (a0 * a1)) (brk ((↑a2.length : Int) != a0 * a1 || (↑a3.length : Int) != a0 * a1) (some (([], (1 : Int)))) (loopC (fun (x_2 : (Int) × (Int)) => fun x_3 => brk (decide (x_2.snd < (↑a2.length : Int))) (chk ((0 : Int) ≤ x_2.snd ∧ x_2.snd < (↑a2.length : Int)) (bnd (spill_within F (a2.getD (Int.toNat x_2.snd) (0 : Int)) (0 : Int) x_2.fst) (fun (x_4 : Bool) => chk ((!!x_4) = true → (0 : Int) ≤ x_2.snd ∧ x_2.snd < (↑a3.length : Int)) (bnd (brk (!!x_4) (spill_within F (a3.getD (Int.toNat x_2.snd) (0 : Int)) (0 : Int) (10000 : Int)) (some false)) (fun (x_5 : Bool) => brk (!x_4 || !x_5) (some (([], (120 : Int)))) (chk (InR (x_2.fst - a2.getD (Int.toNat x_2.snd) (0 : Int))) (chk (InR (x_2.snd + (1 : Int))) (x_3 ((x_2.fst - a2.getD (Int.toNat x_2.snd) (0 : Int), x_2.snd + (1 : Int))))))))))) (bnd (spill_grid_hour F (Field.mk a0 a1 ([])) a2 a3 a3) (fun (x_4 : List (Int)) => some ((x_4, (0 : Int)))))) (F) (((1000000 : Int), (0 : Int)))))))))
noncomputable def s19 (F : Nat) : CS E.G := ⟨19, [.v 0 false, .v 0 false, .sl 0, .sl 0], [.sl 0 3, .v 0 false []], fun x => spill_Flow F x.1 x.2.1 x.2.2.1 x.2.2.2.1⟩
noncomputable def cx19 (F : Nat) : Ctx E := ⟨[s80 F, s82 F], [], F, []⟩
noncomputable def h19 : Hint := (.c .n (.c .n (.l ⟨[.i, .i], [0, 16, 32, 608, 48, 592], [0, 1], [(160, .i IntKind.i64), (624, .i IntKind.i64)], [], [], [], 2⟩ (.c .n .n))))
theorem e19 (F : Nat) (a0 : Int) (a1 : Int) (a2 : List Int) (a3 : List Int) : fnK (E := E) (cx19 F) Try.f19 [] [.v 0 false, .v 0 false, .sl 0, .sl 0] [.sl 0 3, .v 0 false []] h19 (a0, a1, a2, a3, ()) = spill_Flow F a0 a1 a2 a3 := by kernel_rfl
theorem c19 (F : Nat) : CSok E [] (s19 F) := ⟨en19, by
  have h := fn_sound (E := E) (gl := []) (cx := cx19 F) mix (allC (c80 F) (allC (c82 F) all0)) inl0 rfl (fun _ h => nomatch h) hf19 (ps := [.v 0 false, .v 0 false, .sl 0, .sl 0]) (rs := [.sl 0 3, .v 0 false []]) (by decide) h19
  rwa [show fnK (E := E) (cx19 F) Try.f19 [] [.v 0 false, .v 0 false, .sl 0, .sl 0] [.sl 0 3, .v 0 false []] h19 = (fun x : AT E.G.car [.v 0 false, .v 0 false, .sl 0, .sl 0] => spill_Flow F x.1 x.2.1 x.2.2.1 x.2.2.2.1) from funext fun x => e19 F x.1 x.2.1 x.2.2.1 x.2.2.2.1] at h⟩
theorem hf86 : Try.prog.funcs[86]? = some Try.f86 := by kernel_rfl
theorem en86 : Proofs.Enters Try.prog 86 := Proofs.enters_of hf86 (by kernel_rfl) rfl
noncomputable def spill_grid_total (F : Nat) (a0 : Field) : Option (Span) :=
  loopC (fun (x : (Int) × ((Int) × (Int))) => fun x_1 => brk (decide (x.fst < (↑a0.Cells.length : Int))) (chk ((0 : Int) ≤ x.fst ∧ x.fst < (↑a0.Cells.length : Int)) (chk (InR (x.snd.snd + (a0.Cells.getD (Int.toNat x.fst) (Span.mk (0 : Int) (0 : Int))).Lo)) (chk (InR (x.snd.fst + (a0.Cells.getD (Int.toNat x.fst) (Span.mk (0 : Int) (0 : Int))).Hi)) (chk (InR (x.fst + (1 : Int))) (x_1 ((x.fst + (1 : Int), x.snd.fst + (a0.Cells.getD (Int.toNat x.fst) (Span.mk (0 : Int) (0 : Int))).Hi, x.snd.snd + (a0.Cells.getD (Int.toNat x.fst) (Span.mk (0 : Int) (0 : Int))).Lo))))))) (some (Span.mk x.snd.snd x.snd.fst))) (F) (((0 : Int), (0 : Int), (0 : Int)))
noncomputable def s86 (F : Nat) : CS E.G := ⟨86, [.gp 9], [.v 7 true []], fun x => spill_grid_total F x.1⟩
noncomputable def cx86 (F : Nat) : Ctx E := ⟨[], [], F, []⟩
noncomputable def h86 : Hint := (.l ⟨[.i, .i, .i], [32, 160, 48, 176], [2, 4, 3], [(192, .i IntKind.i64)], [], [(3, 1, .i IntKind.i64), (3, 0, .i IntKind.i64)], [], 5⟩ .n)
theorem e86 (F : Nat) (a0 : Field) : fnK (E := E) (cx86 F) Try.f86 [] [.gp 9] [.v 7 true []] h86 (a0, ()) = spill_grid_total F a0 := by kernel_rfl
theorem c86 (F : Nat) : CSok E [] (s86 F) := ⟨en86, by
  have h := fn_sound (E := E) (gl := []) (cx := cx86 F) mix all0 inl0 rfl (fun _ h => nomatch h) hf86 (ps := [.gp 9]) (rs := [.v 7 true []]) (by decide) h86
  rwa [show fnK (E := E) (cx86 F) Try.f86 [] [.gp 9] [.v 7 true []] h86 = (fun x : AT E.G.car [.gp 9] => spill_grid_total F x.1) from funext fun x => e86 F x.1] at h⟩
theorem hf88 : Try.prog.funcs[88]? = some Try.f88 := by kernel_rfl
theorem en88 : Proofs.Enters Try.prog 88 := Proofs.enters_of hf88 (by kernel_rfl) rfl
noncomputable def spill_meets_cut (F : Nat) (a0 : Span) (a1 : Span) : Option (Span) :=
  some (Span.mk (if a1.Lo > a0.Lo then a1.Lo else a0.Lo) (if a1.Hi < a0.Hi then a1.Hi else a0.Hi))
noncomputable def s88 (F : Nat) : CS E.G := ⟨88, [.v 7 true, .v 7 true], [.v 7 true []], fun x => spill_meets_cut F x.1 x.2.1⟩
noncomputable def cx88 (F : Nat) : Ctx E := ⟨[], [], F, []⟩
noncomputable def h88 : Hint := .n
theorem e88 (F : Nat) (a0 : Span) (a1 : Span) : fnK (E := E) (cx88 F) Try.f88 [] [.v 7 true, .v 7 true] [.v 7 true []] h88 (a0, a1, ()) = spill_meets_cut F a0 a1 := by kernel_rfl
theorem c88 (F : Nat) : CSok E [] (s88 F) := ⟨en88, by
  have h := fn_sound (E := E) (gl := []) (cx := cx88 F) mix all0 inl0 rfl (fun _ h => nomatch h) hf88 (ps := [.v 7 true, .v 7 true]) (rs := [.v 7 true []]) (by decide) h88
  rwa [show fnK (E := E) (cx88 F) Try.f88 [] [.v 7 true, .v 7 true] [.v 7 true []] h88 = (fun x : AT E.G.car [.v 7 true, .v 7 true] => spill_meets_cut F x.1 x.2.1) from funext fun x => e88 F x.1 x.2.1] at h⟩
theorem hf24 : Try.prog.funcs[24]? = some Try.f24 := by kernel_rfl
theorem en24 : Proofs.Enters Try.prog 24 := Proofs.enters_of hf24 (by kernel_rfl) rfl
noncomputable def spill_Tighten (F : Nat) (a0 : Field) (a1 : Span) : Option (Field × Int) :=
  bnd (spill_Check F (Field.mk a0.W a0.H (a0.Cells))) (fun (x : Int) => brk (x != (0 : Int)) (some ((Field.mk (0 : Int) (0 : Int) ([]), x))) (bnd (spill_span F (Span.mk a1.Lo a1.Hi) (1000000 : Int)) (fun (x_1 : Bool) => brk (!x_1) (some ((Field.mk (0 : Int) (0 : Int) ([]), (6 : Int)))) (bnd (spill_grid_total F (Field.mk a0.W a0.H (a0.Cells))) (fun (x_2 : Span) => brk (decide (x_2.Lo > a1.Hi) || decide (x_2.Hi < a1.Lo)) (some ((Field.mk (0 : Int) (0 : Int) ([]), (21 : Int)))) (loopC (fun (x_3 : (Int) × (List (Span))) => fun x_4 => brk (decide (x_3.fst < (↑a0.Cells.length : Int))) (chk ((0 : Int) ≤ x_3.fst ∧ x_3.fst < (↑a0.Cells.length : Int)) (chk (InR (x_2.Hi - (a0.Cells.getD (Int.toNat x_3.fst) (Span.mk (0 : Int) (0 : Int))).Hi)) (chk (InR (a1.Lo - (x_2.Hi - (a0.Cells.getD (Int.toNat x_3.fst) (Span.mk (0 : Int) (0 : Int))).Hi))) (chk (InR (x_2.Lo - (a0.Cells.getD (Int.toNat x_3.fst) (Span.mk (0 : Int) (0 : Int))).Lo)) (chk (InR (a1.Hi - (x_2.Lo - (a0.Cells.getD (Int.toNat x_3.fst) (Span.mk (0 : Int) (0 : Int))).Lo))) (bnd (spill_meets_cut F (Span.mk (a1.Lo - (x_2.Hi - (a0.Cells.getD (Int.toNat x_3.fst) (Span.mk (0 : Int) (0 : Int))).Hi)) (a1.Hi - (x_2.Lo - (a0.Cells.getD (Int.toNat x_3.fst) (Span.mk (0 : Int) (0 : Int))).Lo))) (Span.mk (a0.Cells.getD (Int.toNat x_3.fst) (Span.mk (0 : Int) (0 : Int))).Lo (a0.Cells.getD (Int.toNat x_3.fst) (Span.mk (0 : Int) (0 : Int))).Hi)) (fun (x_5 : Span) => chk (List.length x_3.snd + [Span.mk x_5.Lo x_5.Hi].length ≤ (1000000 : Nat)) (chk (InR (x_3.fst + (1 : Int))) (x_4 ((x_3.fst + (1 : Int), x_3.snd ++ [Span.mk x_5.Lo x_5.Hi]))))))))))) (some ((Field.mk a0.W a0.H (x_3.snd), (0 : Int))))) (F) (((0 : Int), []))))))))
noncomputable def s24 (F : Nat) : CS E.G := ⟨24, [.v 9 true, .v 7 true], [.v 9 true [34], .v 0 false []], fun x => spill_Tighten F x.1 x.2.1⟩
noncomputable def cx24 (F : Nat) : Ctx E := ⟨[s34 F, s86 F, s87 F, s88 F], [], F, []⟩
noncomputable def h24 : Hint := (.c .n (.c .n (.c .n (.l ⟨[.i, .l 7], [64, 128, 704, 48, 112, 688], [3, 5, 2, 4, 0], [(720, .i IntKind.i64)], [], [(5, 2, .h 6 34 7)], [], 7⟩ .n))))
theorem e24 (F : Nat) (a0 : Field) (a1 : Span) : fnK (E := E) (cx24 F) Try.f24 [] [.v 9 true, .v 7 true] [.v 9 true [34], .v 0 false []] h24 (a0, a1, ()) = spill_Tighten F a0 a1 := by kernel_rfl
theorem c24 (F : Nat) : CSok E [] (s24 F) := ⟨en24, by
  have h := fn_sound (E := E) (gl := []) (cx := cx24 F) mix (allC (c34 F) (allC (c86 F) (allC (c87 F) (allC (c88 F) all0)))) inl0 rfl (fun _ h => nomatch h) hf24 (ps := [.v 9 true, .v 7 true]) (rs := [.v 9 true [34], .v 0 false []]) (by decide) h24
  rwa [show fnK (E := E) (cx24 F) Try.f24 [] [.v 9 true, .v 7 true] [.v 9 true [34], .v 0 false []] h24 = (fun x : AT E.G.car [.v 9 true, .v 7 true] => spill_Tighten F x.1 x.2.1) from funext fun x => e24 F x.1 x.2.1] at h⟩
theorem hf137 : Try.prog.funcs[137]? = some Try.f137 := by kernel_rfl
theorem en137 : Proofs.Enters Try.prog 137 := Proofs.enters_of hf137 (by kernel_rfl) rfl
noncomputable def spill_grid_right (F : Nat) (a0 : Field) (a1 : Fleet) : Option (Bool) :=
  chk (InR ((↑a0.Cells.length : Int) - (1 : Int))) (bnd (spill_within F a1.Base (0 : Int) ((↑a0.Cells.length : Int) - (1 : Int))) (fun (x : Bool) => bnd (brk x (spill_within F a1.Range (0 : Int) (100 : Int)) (some false)) (fun (x_1 : Bool) => bnd (brk (x && x_1) (spill_within F a1.Speed (1 : Int) (20 : Int)) (some false)) (fun (x_2 : Bool) => bnd (brk (x && x_1 && x_2) (spill_within F a1.Count (1 : Int) (6 : Int)) (some false)) (fun (x_3 : Bool) => some (x && x_1 && x_2 && x_3))))))
noncomputable def s137 (F : Nat) : CS E.G := ⟨137, [.gp 9, .v 13 true], [.v 1 false []], fun x => spill_grid_right F x.1 x.2.1⟩
noncomputable def cx137 (F : Nat) : Ctx E := ⟨[s80 F], [], F, []⟩
noncomputable def h137 : Hint := .n
theorem e137 (F : Nat) (a0 : Field) (a1 : Fleet) : fnK (E := E) (cx137 F) Try.f137 [] [.gp 9, .v 13 true] [.v 1 false []] h137 (a0, a1, ()) = spill_grid_right F a0 a1 := by kernel_rfl
theorem c137 (F : Nat) : CSok E [] (s137 F) := ⟨en137, by
  have h := fn_sound (E := E) (gl := []) (cx := cx137 F) mix (allC (c80 F) all0) inl0 rfl (fun _ h => nomatch h) hf137 (ps := [.gp 9, .v 13 true]) (rs := [.v 1 false []]) (by decide) h137
  rwa [show fnK (E := E) (cx137 F) Try.f137 [] [.gp 9, .v 13 true] [.v 1 false []] h137 = (fun x : AT E.G.car [.gp 9, .v 13 true] => spill_grid_right F x.1 x.2.1) from funext fun x => e137 F x.1 x.2.1] at h⟩
theorem hf100 : Try.prog.funcs[100]? = some Try.f100 := by kernel_rfl
theorem en100 : Proofs.Enters Try.prog 100 := Proofs.enters_of hf100 (by kernel_rfl) rfl
theorem hf138 : Try.prog.funcs[138]? = some Try.f138 := by kernel_rfl
theorem en138 : Proofs.Enters Try.prog 138 := Proofs.enters_of hf138 (by kernel_rfl) rfl
noncomputable def spill_grid_path (F : Nat) (a0 : Field) (a1 : Fleet) (a2 : List Int) : Option (Bool) :=
  chk ((!(↑a2.length : Int) == (0 : Int)) = true → (0 : Int) ≤ (0 : Int) ∧ (0 : Int) < (↑a2.length : Int)) (chk ((!((↑a2.length : Int) == (0 : Int) || a2.getD (Int.toNat (0 : Int)) (0 : Int) != a1.Base)) = true → InR ((↑a2.length : Int) - (1 : Int))) (chk ((!((↑a2.length : Int) == (0 : Int) || a2.getD (Int.toNat (0 : Int)) (0 : Int) != a1.Base)) = true → (0 : Int) ≤ (↑a2.length : Int) - (1 : Int) ∧ (↑a2.length : Int) - (1 : Int) < (↑a2.length : Int)) (brk ((↑a2.length : Int) == (0 : Int) || a2.getD (Int.toNat (0 : Int)) (0 : Int) != a1.Base || a2.getD ((↑a2.length : Int) - (1 : Int)).toNat (0 : Int) != a1.Base) (some (false)) (loopC (fun (x : Int) => fun x_1 => brk (decide (x < (↑a2.length : Int))) (chk ((0 : Int) ≤ x ∧ x < (↑a2.length : Int)) (chk (InR ((↑a0.Cells.length : Int) - (1 : Int))) (bnd (spill_within F (a2.getD (Int.toNat x) (0 : Int)) (0 : Int) ((↑a0.Cells.length : Int) - (1 : Int))) (fun (x_2 : Bool) => brk (!x_2) (some (false)) (chk (((0 : Int) ≤ a2.getD (Int.toNat x) (0 : Int) ∧ a2.getD (Int.toNat x) (0 : Int) ≤ (9223372036854775807 : Int)) ∧ (0 : Int) < a0.W) (chk (((0 : Int) ≤ a2.getD (Int.toNat x) (0 : Int) ∧ a2.getD (Int.toNat x) (0 : Int) ≤ (9223372036854775807 : Int)) ∧ (0 : Int) < a0.W) (loopC (fun (x_3 : (Int) × ((Int) × (Bool))) => fun x_4 => brk (decide (x_3.snd.fst < (4 : Int))) (join (fun (x_5 : (Int) × (Bool)) => chk (InR (x_3.snd.fst + (1 : Int))) (x_4 ((x_5.fst, x_3.snd.fst + (1 : Int), x_5.snd)))) (fun x_5 => chk ((0 : Int) ≤ x_3.snd.fst ∧ x_3.snd.fst < (↑(4 : Nat) : Int)) (chk (InR (a2.getD (Int.toNat x) (0 : Int) % a0.W + ([A2ofInt.mk (0 : Int) (-1 : Int), A2ofInt.mk (1 : Int) (0 : Int), A2ofInt.mk (0 : Int) (1 : Int), A2ofInt.mk (-1 : Int) (0 : Int)].getD (Int.toNat x_3.snd.fst) (A2ofInt.mk (0 : Int) (0 : Int))).a0)) (chk (InR (a2.getD (Int.toNat x) (0 : Int) / a0.W + ([A2ofInt.mk (0 : Int) (-1 : Int), A2ofInt.mk (1 : Int) (0 : Int), A2ofInt.mk (0 : Int) (1 : Int), A2ofInt.mk (-1 : Int) (0 : Int)].getD (Int.toNat x_3.snd.fst) (A2ofInt.mk (0 : Int) (0 : Int))).a1)) (chk (InR (a0.W - (1 : Int))) (bnd (spill_within F (a2.getD (Int.toNat x) (0 : Int) % a0.W + ([A2ofInt.mk (0 : Int) (-1 : Int), A2ofInt.mk (1 : Int) (0 : Int), A2ofInt.mk (0 : Int) (1 : Int), A2ofInt.mk (-1 : Int) (0 : Int)].getD (Int.toNat x_3.snd.fst) (A2ofInt.mk (0 : Int) (0 : Int))).a0) (0 : Int) (a0.W - (1 : Int))) (fun (x_6 : Bool) => chk (x_6 = true → InR (a0.H - (1 : Int))) (bnd (brk x_6 (spill_within F (a2.getD (Int.toNat x) (0 : Int) / a0.W + ([A2ofInt.mk (0 : Int) (-1 : Int), A2ofInt.mk (1 : Int) (0 : Int), A2ofInt.mk (0 : Int) (1 : Int), A2ofInt.mk (-1 : Int) (0 : Int)].getD (Int.toNat x_3.snd.fst) (A2ofInt.mk (0 : Int) (0 : Int))).a1) (0 : Int) (a0.H - (1 : Int))) (some false)) (fun (x_7 : Bool) => brk (x_6 && x_7) (chk (InR ((a2.getD (Int.toNat x) (0 : Int) / a0.W + ([A2ofInt.mk (0 : Int) (-1 : Int), A2ofInt.mk (1 : Int) (0 : Int), A2ofInt.mk (0 : Int) (1 : Int), A2ofInt.mk (-1 : Int) (0 : Int)].getD (Int.toNat x_3.snd.fst) (A2ofInt.mk (0 : Int) (0 : Int))).a1) * a0.W)) (chk (InR ((a2.getD (Int.toNat x) (0 : Int) / a0.W + ([A2ofInt.mk (0 : Int) (-1 : Int), A2ofInt.mk (1 : Int) (0 : Int), A2ofInt.mk (0 : Int) (1 : Int), A2ofInt.mk (-1 : Int) (0 : Int)].getD (Int.toNat x_3.snd.fst) (A2ofInt.mk (0 : Int) (0 : Int))).a1) * a0.W + (a2.getD (Int.toNat x) (0 : Int) % a0.W + ([A2ofInt.mk (0 : Int) (-1 : Int), A2ofInt.mk (1 : Int) (0 : Int), A2ofInt.mk (0 : Int) (1 : Int), A2ofInt.mk (-1 : Int) (0 : Int)].getD (Int.toNat x_3.snd.fst) (A2ofInt.mk (0 : Int) (0 : Int))).a0))) (chk ((!x_3.snd.snd) = true → InR (x - (1 : Int))) (chk ((!x_3.snd.snd) = true → (0 : Int) ≤ x - (1 : Int) ∧ x - (1 : Int) < (↑a2.length : Int)) (chk (InR (x_3.fst + (1 : Int))) (x_5 ((x_3.fst + (1 : Int), x_3.snd.snd || (a2.getD (Int.toNat x) (0 : Int) / a0.W + ([A2ofInt.mk (0 : Int) (-1 : Int), A2ofInt.mk (1 : Int) (0 : Int), A2ofInt.mk (0 : Int) (1 : Int), A2ofInt.mk (-1 : Int) (0 : Int)].getD (Int.toNat x_3.snd.fst) (A2ofInt.mk (0 : Int) (0 : Int))).a1) * a0.W + (a2.getD (Int.toNat x) (0 : Int) % a0.W + ([A2ofInt.mk (0 : Int) (-1 : Int), A2ofInt.mk (1 : Int) (0 : Int), A2ofInt.mk (0 : Int) (1 : Int), A2ofInt.mk (-1 : Int) (0 : Int)].getD (Int.toNat x_3.snd.fst) (A2ofInt.mk (0 : Int) (0 : Int))).a0) == a2.getD (x - (1 : Int)).toNat (0 : Int))))))))) (x_5 ((x_3.fst, x_3.snd.snd)))))))))))) (brk (!x_3.snd.snd) (some (false)) (chk (InR (x + (1 : Int))) (x_1 (x + (1 : Int)))))) (F) (((0 : Int), (0 : Int), x == (0 : Int)))))))))) (some (true))) (F) ((0 : Int))))))
noncomputable def s138 (F : Nat) : CS E.G := ⟨138, [.gp 9, .v 13 true, .sl 0], [.v 1 false []], fun x => spill_grid_path F x.1 x.2.1 x.2.2.1⟩
noncomputable def cx138 (F : Nat) : Ctx E := ⟨[s80 F], [(131, Try.f131), (149, Try.f149)], F, []⟩
noncomputable def h138 : Hint := (.c .n (.l ⟨[.i], [544, 48, 80, 560], [1, 2, 4, 0], [(576, .i IntKind.i64)], [], [], [], 5⟩ (.c (.c .n (.p (.l ⟨[.i, .i, .b], [0, 16, 32, 224, 48], [0, 1, 7, 5, 9, 2, 4, 8, 6, 10], [(80, .i IntKind.i64), (240, .i IntKind.i64)], [], [(7, 0, .b)], [], 12⟩ (.c (.j ⟨[.i, .b], [0, 16, 32, 224, 48, 240], [0, 1, 7, 5, 9, 2, 4, 8, 6, 10], [(80, .i IntKind.i64)], [], [(7, 0, .b)], [], 12⟩ (.c (.p .n) .n) .n) .n)))) .n)))
theorem e138 (F : Nat) (a0 : Field) (a1 : Fleet) (a2 : List Int) : fnK (E := E) (cx138 F) Try.f138 [] [.gp 9, .v 13 true, .sl 0] [.v 1 false []] h138 (a0, a1, a2, ()) = spill_grid_path F a0 a1 a2 := by kernel_rfl
theorem c138 (F : Nat) : CSok E [] (s138 F) := ⟨en138, by
  have h := fn_sound (E := E) (gl := []) (cx := cx138 F) mix (allC (c80 F) all0) (inlC hf131 en131 (inlC hf149 en149 inl0)) rfl (fun _ h => nomatch h) hf138 (ps := [.gp 9, .v 13 true, .sl 0]) (rs := [.v 1 false []]) (by decide) h138
  rwa [show fnK (E := E) (cx138 F) Try.f138 [] [.gp 9, .v 13 true, .sl 0] [.v 1 false []] h138 = (fun x : AT E.G.car [.gp 9, .v 13 true, .sl 0] => spill_grid_path F x.1 x.2.1 x.2.2.1) from funext fun x => e138 F x.1 x.2.1 x.2.2.1] at h⟩
theorem hf101 : Try.prog.funcs[101]? = some Try.f101 := by kernel_rfl
theorem en101 : Proofs.Enters Try.prog 101 := Proofs.enters_of hf101 (by kernel_rfl) rfl
noncomputable def spill_grid_job (F : Nat) (a0 : Field) (a1 : Fleet) (a2 : Flight) : Option (Job × Int) :=
  bnd (spill_within F a2.From (0 : Int) (47 : Int)) (fun (x : Bool) => brk (!x) (some ((Job.mk (0 : Int) (0 : Int) (0 : Int), (12 : Int)))) (bnd (spill_grid_path F (Field.mk a0.W a0.H (a0.Cells)) (Fleet.mk a1.Base a1.Range a1.Speed a1.Count) a2.Path) (fun (x_1 : Bool) => brk (!x_1) (some ((Job.mk (0 : Int) (0 : Int) (0 : Int), (120 : Int)))) (chk (InR ((↑a2.Path.length : Int) - (1 : Int))) (brk (decide ((↑a2.Path.length : Int) - (1 : Int) > a1.Range)) (some ((Job.mk (0 : Int) (0 : Int) (0 : Int), (6 : Int)))) (chk (InR ((↑a2.Path.length : Int) + a1.Speed)) (chk (InR ((↑a2.Path.length : Int) + a1.Speed - (2 : Int))) (chk (((0 : Int) ≤ (↑a2.Path.length : Int) + a1.Speed - (2 : Int) ∧ (↑a2.Path.length : Int) + a1.Speed - (2 : Int) ≤ (9223372036854775807 : Int)) ∧ (0 : Int) < a1.Speed) (chk (InR (a2.From + if ((↑a2.Path.length : Int) + a1.Speed - (2 : Int)) / a1.Speed > (1 : Int) then ((↑a2.Path.length : Int) + a1.Speed - (2 : Int)) / a1.Speed else (1 : Int))) (brk (decide ((a2.From + if ((↑a2.Path.length : Int) + a1.Speed - (2 : Int)) / a1.Speed > (1 : Int) then ((↑a2.Path.length : Int) + a1.Speed - (2 : Int)) / a1.Speed else (1 : Int)) > (48 : Int))) (some ((Job.mk (0 : Int) (0 : Int) (0 : Int), (12 : Int)))) (loopC (fun (x_2 : (Int) × ((Int) × (List (Int)))) => fun x_3 => brk (decide (x_2.fst < (↑a2.Path.length : Int))) (join (fun (x_4 : (Int) × (List (Int))) => chk (InR (x_2.fst + (1 : Int))) (x_3 ((x_2.fst + (1 : Int), x_4.fst, x_4.snd)))) (fun x_4 => chk ((0 : Int) ≤ x_2.fst ∧ x_2.fst < (↑a2.Path.length : Int)) (brk (!hasI x_2.snd.snd (a2.Path.getD (Int.toNat x_2.fst) (0 : Int))) (chk ((0 : Int) ≤ a2.Path.getD (Int.toNat x_2.fst) (0 : Int) ∧ a2.Path.getD (Int.toNat x_2.fst) (0 : Int) < (↑a0.Cells.length : Int)) (chk ((0 : Int) ≤ a2.Path.getD (Int.toNat x_2.fst) (0 : Int) ∧ a2.Path.getD (Int.toNat x_2.fst) (0 : Int) < (↑a0.Cells.length : Int)) (chk (InR ((a0.Cells.getD (Int.toNat (a2.Path.getD (Int.toNat x_2.fst) (0 : Int))) (Span.mk (0 : Int) (0 : Int))).Hi - (a0.Cells.getD (Int.toNat (a2.Path.getD (Int.toNat x_2.fst) (0 : Int))) (Span.mk (0 : Int) (0 : Int))).Lo)) (chk (InR (x_2.snd.fst + ((a0.Cells.getD (Int.toNat (a2.Path.getD (Int.toNat x_2.fst) (0 : Int))) (Span.mk (0 : Int) (0 : Int))).Hi - (a0.Cells.getD (Int.toNat (a2.Path.getD (Int.toNat x_2.fst) (0 : Int))) (Span.mk (0 : Int) (0 : Int))).Lo))) (x_4 ((x_2.snd.fst + ((a0.Cells.getD (Int.toNat (a2.Path.getD (Int.toNat x_2.fst) (0 : Int))) (Span.mk (0 : Int) (0 : Int))).Hi - (a0.Cells.getD (Int.toNat (a2.Path.getD (Int.toNat x_2.fst) (0 : Int))) (Span.mk (0 : Int) (0 : Int))).Lo), insI x_2.snd.snd (a2.Path.getD (Int.toNat x_2.fst) (0 : Int))))))))) (x_4 ((x_2.snd.fst, x_2.snd.snd)))))) (some ((Job.mk a2.From (a2.From + if ((↑a2.Path.length : Int) + a1.Speed - (2 : Int)) / a1.Speed > (1 : Int) then ((↑a2.Path.length : Int) + a1.Speed - (2 : Int)) / a1.Speed else (1 : Int)) x_2.snd.fst, (0 : Int))))) (F) (((0 : Int), (0 : Int), [])))))))))))))
noncomputable def s101 (F : Nat) : CS E.G := ⟨101, [.gp 9, .v 13 true, .v 14 true], [.v 24 true [], .v 0 false []], fun x => spill_grid_job F x.1 x.2.1 x.2.2.1⟩
noncomputable def cx101 (F : Nat) : Ctx E := ⟨[s80 F, s138 F], [], F, []⟩
noncomputable def h101 : Hint := (.c .n (.c .n (.c .n (.c .n (.l ⟨[.i, .i, .m], [128, 96, 928, 48, 144, 944], [6, 5, 1, 2, 7, 0], [(960, .i IntKind.i64)], [], [(6, 2, .i IntKind.i64)], [(7, 0, 1000000)], 8⟩ (.c (.j ⟨[.i, .m], [128, 960, 96, 928, 48, 144, 944], [6, 5, 1, 2, 7, 0], [], [], [(6, 2, .i IntKind.i64)], [(7, 0, 1000000)], 8⟩ .n .n) .n))))))
theorem e101 (F : Nat) (a0 : Field) (a1 : Fleet) (a2 : Flight) : fnK (E := E) (cx101 F) Try.f101 [] [.gp 9, .v 13 true, .v 14 true] [.v 24 true [], .v 0 false []] h101 (a0, a1, a2, ()) = spill_grid_job F a0 a1 a2 := by kernel_rfl
theorem c101 (F : Nat) : CSok E [] (s101 F) := ⟨en101, by
  have h := fn_sound (E := E) (gl := []) (cx := cx101 F) mix (allC (c80 F) (allC (c138 F) all0)) inl0 rfl (fun _ h => nomatch h) hf101 (ps := [.gp 9, .v 13 true, .v 14 true]) (rs := [.v 24 true [], .v 0 false []]) (by decide) h101
  rwa [show fnK (E := E) (cx101 F) Try.f101 [] [.gp 9, .v 13 true, .v 14 true] [.v 24 true [], .v 0 false []] h101 = (fun x : AT E.G.car [.gp 9, .v 13 true, .v 14 true] => spill_grid_job F x.1 x.2.1 x.2.2.1) from funext fun x => e101 F x.1 x.2.1 x.2.2.1] at h⟩
theorem hf104 : Try.prog.funcs[104]? = some Try.f104 := by kernel_rfl
theorem en104 : Proofs.Enters Try.prog 104 := Proofs.enters_of hf104 (by kernel_rfl) rfl
noncomputable def spill_jobs (F : Nat) (a0 : Field) (a1 : Fleet) (a2 : List Flight) : Option ((List Job) × Int) :=
  bnd (spill_Check F (Field.mk a0.W a0.H (a0.Cells))) (fun (x : Int) => brk (x != (0 : Int)) (join (fun (x_1 : Int) => brk (x_1 != (0 : Int)) (some (([], x_1))) (loopC (fun (x_2 : PUnit) => fun x_3 => brk (decide ((0 : Int) < (↑a2.length : Int))) (chk ((0 : Int) ≤ (0 : Int) ∧ (0 : Int) < (↑a2.length : Int)) (none)) (some (([], (0 : Int))))) (F) (()))) (fun x_1 => brk (x == (0 : Int) && decide ((↑a2.length : Int) > (12 : Int))) (x_1 ((2 : Int))) (x_1 (x)))) (bnd (spill_grid_right F (Field.mk a0.W a0.H (a0.Cells)) (Fleet.mk a1.Base a1.Range a1.Speed a1.Count)) (fun (x_1 : Bool) => brk (!x_1) (some (([], (120 : Int)))) (join (fun (x_2 : Int) => brk (x_2 != (0 : Int)) (some (([], x_2))) (loopC (fun (x_3 : (List (Job)) × (Int)) => fun x_4 => brk (decide (x_3.snd < (↑a2.length : Int))) (chk ((0 : Int) ≤ x_3.snd ∧ x_3.snd < (↑a2.length : Int)) (bnd (spill_grid_job F (Field.mk a0.W a0.H (a0.Cells)) (Fleet.mk a1.Base a1.Range a1.Speed a1.Count) (Flight.mk (a2.getD (Int.toNat x_3.snd) (Flight.mk (0 : Int) [])).From ((a2.getD (Int.toNat x_3.snd) (Flight.mk (0 : Int) [])).Path))) (fun (x_5 : (Job) × (Int)) => brk (x_5.snd != (0 : Int)) (some (([], x_5.snd))) (chk (List.length x_3.fst + [Job.mk x_5.fst.f_from x_5.fst.f_to x_5.fst.f_worth].length ≤ (1000000 : Nat)) (chk (InR (x_3.snd + (1 : Int))) (x_4 ((x_3.fst ++ [Job.mk x_5.fst.f_from x_5.fst.f_to x_5.fst.f_worth], x_3.snd + (1 : Int))))))))) (some ((x_3.fst, (0 : Int))))) (F) (([], (0 : Int))))) (fun x_2 => brk (decide ((↑a2.length : Int) > (12 : Int))) (x_2 ((2 : Int))) (x_2 ((0 : Int))))))))
noncomputable def s104 (F : Nat) : CS E.G := ⟨104, [.v 9 true, .v 13 true, .sl 14], [.sl 24 161, .v 0 false []], fun x => spill_jobs F x.1 x.2.1 x.2.2.1⟩
noncomputable def cx104 (F : Nat) : Ctx E := ⟨[s34 F, s137 F, s101 F], [(100, Try.f100)], F, []⟩
noncomputable def h104 : Hint := (.p (.c (.k (.j ⟨[.i], [32, 64, 128], [1, 3, 7], [(144, .i IntKind.i64)], [], [], [], 8⟩ .n (.c .n (.l ⟨[], [64, 128, 512, 160, 528, 496], [3, 7, 1], [], [], [], [], 8⟩ .n)))) (.c .n (.k (.j ⟨[.i], [32, 64, 128], [1, 3, 8, 4, 0], [(144, .i IntKind.i64)], [], [], [], 9⟩ .n (.c .n (.l ⟨[.l 24, .i], [64, 128, 512, 496], [3, 8, 1, 4, 0], [(160, .h 9 161 24), (528, .i IntKind.i64)], [], [], [], 10⟩ (.c .n .n))))))))
theorem e104 (F : Nat) (a0 : Field) (a1 : Fleet) (a2 : List Flight) : fnK (E := E) (cx104 F) Try.f104 [] [.v 9 true, .v 13 true, .sl 14] [.sl 24 161, .v 0 false []] h104 (a0, a1, a2, ()) = spill_jobs F a0 a1 a2 := by kernel_rfl
theorem c104 (F : Nat) : CSok E [] (s104 F) := ⟨en104, by
  have h := fn_sound (E := E) (gl := []) (cx := cx104 F) mix (allC (c34 F) (allC (c137 F) (allC (c101 F) all0))) (inlC hf100 en100 inl0) rfl (fun _ h => nomatch h) hf104 (ps := [.v 9 true, .v 13 true, .sl 14]) (rs := [.sl 24 161, .v 0 false []]) (by decide) h104
  rwa [show fnK (E := E) (cx104 F) Try.f104 [] [.v 9 true, .v 13 true, .sl 14] [.sl 24 161, .v 0 false []] h104 = (fun x : AT E.G.car [.v 9 true, .v 13 true, .sl 14] => spill_jobs F x.1 x.2.1 x.2.2.1) from funext fun x => e104 F x.1 x.2.1 x.2.2.1] at h⟩
theorem hf140 : Try.prog.funcs[140]? = some Try.f140 := by kernel_rfl
theorem en140 : Proofs.Enters Try.prog 140 := Proofs.enters_of hf140 (by kernel_rfl) rfl
theorem hf107 : Try.prog.funcs[107]? = some Try.f107 := by kernel_rfl
theorem en107 : Proofs.Enters Try.prog 107 := Proofs.enters_of hf107 (by kernel_rfl) rfl
noncomputable def spill_costs (F : Nat) (a0 : List Job) (a1 : List Bool) (a2 : List Int) : Option ((List Int) × (List Int)) :=
  chk ((0 : Int) ≤ (49 : Int) ∧ (49 : Int) ≤ (49 : Int) ∧ (49 : Int) ≤ (100000 : Int)) (chk ((0 : Int) ≤ (49 : Int) ∧ (49 : Int) ≤ (49 : Int) ∧ (49 : Int) ≤ (100000 : Int)) (loopC (fun (x : (Int) × (List (Int))) => fun x_1 => brk (decide (x.fst < (↑(List.replicate (Int.toNat (49 : Int)) (0 : Int)).length : Int))) (chk ((0 : Int) ≤ x.fst ∧ x.fst < (↑(List.length x.snd) : Int)) (chk (InR (x.fst + (1 : Int))) (x_1 ((x.fst + (1 : Int), List.set x.snd (Int.toNat x.fst) (-1 : Int)))))) (loopC (fun (x_2 : (List (Int)) × (List (Int))) => fun x_3 => loopC (fun (x_4 : (Bool) × ((Int) × ((List (Int)) × (List (Int))))) => fun x_5 => brk (decide (x_4.snd.fst < (48 : Int))) (join (fun (x_6 : (Bool) × ((List (Int)) × (List (Int)))) => chk (InR (x_4.snd.fst + (1 : Int))) (x_5 ((x_6.fst, x_4.snd.fst + (1 : Int), x_6.snd.fst, x_6.snd.snd)))) (fun x_6 => chk (InR (x_4.snd.fst + (1 : Int))) (chk ((0 : Int) ≤ x_4.snd.fst ∧ x_4.snd.fst < (↑(List.length x_4.snd.snd.fst) : Int)) (join (fun (x_7 : (Bool) × ((List (Int)) × (List (Int)))) => chk ((0 : Int) ≤ x_4.snd.fst ∧ x_4.snd.fst < (↑a2.length : Int)) (brk (decide (a2.getD (Int.toNat x_4.snd.fst) (0 : Int) > (0 : Int))) (chk (InR (x_4.snd.fst + (1 : Int))) (chk ((0 : Int) ≤ x_4.snd.fst + (1 : Int) ∧ x_4.snd.fst + (1 : Int) < (↑(List.length x_7.snd.fst) : Int)) (join (fun (x_8 : (Bool) × ((List (Int)) × (List (Int)))) => x_6 ((x_8.fst || (x_7.fst || x_4.fst), x_8.snd.fst, x_8.snd.snd))) (fun x_8 => chk ((0 : Int) ≤ x_4.snd.fst ∧ x_4.snd.fst < (↑(List.length x_7.snd.fst) : Int)) (brk (decide (List.getD x_7.snd.fst (x_4.snd.fst + (1 : Int)).toNat (0 : Int) ≥ List.getD x_7.snd.fst (Int.toNat x_4.snd.fst) (0 : Int))) (x_8 ((false, x_7.snd.fst, x_7.snd.snd))) (chk ((0 : Int) ≤ x_4.snd.fst ∧ x_4.snd.fst < (↑(List.length x_7.snd.fst) : Int)) (chk ((0 : Int) ≤ x_4.snd.fst ∧ x_4.snd.fst < (↑(List.length x_7.snd.snd) : Int)) (x_8 ((true, List.set x_7.snd.fst (Int.toNat x_4.snd.fst) (List.getD x_7.snd.fst (x_4.snd.fst + (1 : Int)).toNat (0 : Int)), List.set x_7.snd.snd (Int.toNat x_4.snd.fst) (-2 : Int))))))))))) (x_6 ((x_7.fst || x_4.fst, x_7.snd.fst, x_7.snd.snd))))) (fun x_7 => chk ((0 : Int) ≤ x_4.snd.fst + (1 : Int) ∧ x_4.snd.fst + (1 : Int) < (↑(List.length x_4.snd.snd.fst) : Int)) (brk (decide (List.getD x_4.snd.snd.fst (Int.toNat x_4.snd.fst) (0 : Int) ≥ List.getD x_4.snd.snd.fst (x_4.snd.fst + (1 : Int)).toNat (0 : Int))) (x_7 ((false, x_4.snd.snd.fst, x_4.snd.snd.snd))) (chk ((0 : Int) ≤ x_4.snd.fst + (1 : Int) ∧ x_4.snd.fst + (1 : Int) < (↑(List.length x_4.snd.snd.fst) : Int)) (chk ((0 : Int) ≤ x_4.snd.fst + (1 : Int) ∧ x_4.snd.fst + (1 : Int) < (↑(List.length x_4.snd.snd.snd) : Int)) (x_7 ((true, List.set x_4.snd.snd.fst (x_4.snd.fst + (1 : Int)).toNat (List.getD x_4.snd.snd.fst (Int.toNat x_4.snd.fst) (0 : Int)), List.set x_4.snd.snd.snd (x_4.snd.fst + (1 : Int)).toNat (-1 : Int)))))))))))) (loopC (fun (x_6 : (Bool) × ((Int) × ((List (Int)) × (List (Int))))) => fun x_7 => brk (decide (x_6.snd.fst < (↑a0.length : Int))) (join (fun (x_8 : (Bool) × ((List (Int)) × (List (Int)))) => chk (InR (x_6.snd.fst + (1 : Int))) (x_7 ((x_8.fst, x_6.snd.fst + (1 : Int), x_8.snd.fst, x_8.snd.snd)))) (fun x_8 => chk ((0 : Int) ≤ x_6.snd.fst ∧ x_6.snd.fst < (↑a0.length : Int)) (chk ((0 : Int) ≤ x_6.snd.fst ∧ x_6.snd.fst < (↑a1.length : Int)) (brk (a1.getD (Int.toNat x_6.snd.fst) false) (chk ((0 : Int) ≤ (a0.getD (Int.toNat x_6.snd.fst) (Job.mk (0 : Int) (0 : Int) (0 : Int))).f_to ∧ (a0.getD (Int.toNat x_6.snd.fst) (Job.mk (0 : Int) (0 : Int) (0 : Int))).f_to < (↑(List.length x_6.snd.snd.fst) : Int)) (chk (InR (List.getD x_6.snd.snd.fst (a0.getD (Int.toNat x_6.snd.fst) (Job.mk (0 : Int) (0 : Int) (0 : Int))).f_to.toNat (0 : Int) + (a0.getD (Int.toNat x_6.snd.fst) (Job.mk (0 : Int) (0 : Int) (0 : Int))).f_worth)) (join (fun (x_9 : (Bool) × ((List (Int)) × (List (Int)))) => x_8 ((x_9.fst || x_6.fst, x_9.snd.fst, x_9.snd.snd))) (fun x_9 => chk ((0 : Int) ≤ (a0.getD (Int.toNat x_6.snd.fst) (Job.mk (0 : Int) (0 : Int) (0 : Int))).f_from ∧ (a0.getD (Int.toNat x_6.snd.fst) (Job.mk (0 : Int) (0 : Int) (0 : Int))).f_from < (↑(List.length x_6.snd.snd.fst) : Int)) (brk (decide (List.getD x_6.snd.snd.fst (a0.getD (Int.toNat x_6.snd.fst) (Job.mk (0 : Int) (0 : Int) (0 : Int))).f_to.toNat (0 : Int) + (a0.getD (Int.toNat x_6.snd.fst) (Job.mk (0 : Int) (0 : Int) (0 : Int))).f_worth ≥ List.getD x_6.snd.snd.fst (a0.getD (Int.toNat x_6.snd.fst) (Job.mk (0 : Int) (0 : Int) (0 : Int))).f_from.toNat (0 : Int))) (x_9 ((false, x_6.snd.snd.fst, x_6.snd.snd.snd))) (chk ((0 : Int) ≤ (a0.getD (Int.toNat x_6.snd.fst) (Job.mk (0 : Int) (0 : Int) (0 : Int))).f_from ∧ (a0.getD (Int.toNat x_6.snd.fst) (Job.mk (0 : Int) (0 : Int) (0 : Int))).f_from < (↑(List.length x_6.snd.snd.fst) : Int)) (chk ((0 : Int) ≤ (a0.getD (Int.toNat x_6.snd.fst) (Job.mk (0 : Int) (0 : Int) (0 : Int))).f_from ∧ (a0.getD (Int.toNat x_6.snd.fst) (Job.mk (0 : Int) (0 : Int) (0 : Int))).f_from < (↑(List.length x_6.snd.snd.snd) : Int)) (x_9 ((true, List.set x_6.snd.snd.fst (a0.getD (Int.toNat x_6.snd.fst) (Job.mk (0 : Int) (0 : Int) (0 : Int))).f_from.toNat (List.getD x_6.snd.snd.fst (a0.getD (Int.toNat x_6.snd.fst) (Job.mk (0 : Int) (0 : Int) (0 : Int))).f_to.toNat (0 : Int) + (a0.getD (Int.toNat x_6.snd.fst) (Job.mk (0 : Int) (0 : Int) (0 : Int))).f_worth), List.set x_6.snd.snd.snd (a0.getD (Int.toNat x_6.snd.fst) (Job.mk (0 : Int) (0 : Int) (0 : Int))).f_from.toNat x_6.snd.fst)))))))))) (chk ((0 : Int) ≤ (a0.getD (Int.toNat x_6.snd.fst) (Job.mk (0 : Int) (0 : Int) (0 : Int))).f_from ∧ (a0.getD (Int.toNat x_6.snd.fst) (Job.mk (0 : Int) (0 : Int) (0 : Int))).f_from < (↑(List.length x_6.snd.snd.fst) : Int)) (chk (InR (List.getD x_6.snd.snd.fst (a0.getD (Int.toNat x_6.snd.fst) (Job.mk (0 : Int) (0 : Int) (0 : Int))).f_from.toNat (0 : Int) - (a0.getD (Int.toNat x_6.snd.fst) (Job.mk (0 : Int) (0 : Int) (0 : Int))).f_worth)) (join (fun (x_9 : (Bool) × ((List (Int)) × (List (Int)))) => x_8 ((x_9.fst || x_6.fst, x_9.snd.fst, x_9.snd.snd))) (fun x_9 => chk ((0 : Int) ≤ (a0.getD (Int.toNat x_6.snd.fst) (Job.mk (0 : Int) (0 : Int) (0 : Int))).f_to ∧ (a0.getD (Int.toNat x_6.snd.fst) (Job.mk (0 : Int) (0 : Int) (0 : Int))).f_to < (↑(List.length x_6.snd.snd.fst) : Int)) (brk (decide (List.getD x_6.snd.snd.fst (a0.getD (Int.toNat x_6.snd.fst) (Job.mk (0 : Int) (0 : Int) (0 : Int))).f_from.toNat (0 : Int) - (a0.getD (Int.toNat x_6.snd.fst) (Job.mk (0 : Int) (0 : Int) (0 : Int))).f_worth ≥ List.getD x_6.snd.snd.fst (a0.getD (Int.toNat x_6.snd.fst) (Job.mk (0 : Int) (0 : Int) (0 : Int))).f_to.toNat (0 : Int))) (x_9 ((false, x_6.snd.snd.fst, x_6.snd.snd.snd))) (chk ((0 : Int) ≤ (a0.getD (Int.toNat x_6.snd.fst) (Job.mk (0 : Int) (0 : Int) (0 : Int))).f_to ∧ (a0.getD (Int.toNat x_6.snd.fst) (Job.mk (0 : Int) (0 : Int) (0 : Int))).f_to < (↑(List.length x_6.snd.snd.fst) : Int)) (chk ((0 : Int) ≤ (a0.getD (Int.toNat x_6.snd.fst) (Job.mk (0 : Int) (0 : Int) (0 : Int))).f_to ∧ (a0.getD (Int.toNat x_6.snd.fst) (Job.mk (0 : Int) (0 : Int) (0 : Int))).f_to < (↑(List.length x_6.snd.snd.snd) : Int)) (x_9 ((true, List.set x_6.snd.snd.fst (a0.getD (Int.toNat x_6.snd.fst) (Job.mk (0 : Int) (0 : Int) (0 : Int))).f_to.toNat (List.getD x_6.snd.snd.fst (a0.getD (Int.toNat x_6.snd.fst) (Job.mk (0 : Int) (0 : Int) (0 : Int))).f_from.toNat (0 : Int) - (a0.getD (Int.toNat x_6.snd.fst) (Job.mk (0 : Int) (0 : Int) (0 : Int))).f_worth), List.set x_6.snd.snd.snd (a0.getD (Int.toNat x_6.snd.fst) (Job.mk (0 : Int) (0 : Int) (0 : Int))).f_to.toNat x_6.snd.fst)))))))))))))) (brk (!x_6.fst) (some ((x_6.snd.snd.fst, x_6.snd.snd.snd))) (x_3 ((x_6.snd.snd.fst, x_6.snd.snd.snd))))) (F) ((x_4.fst, (0 : Int), x_4.snd.snd.fst, x_4.snd.snd.snd)))) (F) ((false, (0 : Int), x_2.fst, x_2.snd))) (F) ((List.replicate (Int.toNat (49 : Int)) (0 : Int), x.snd)))) (F) (((0 : Int), List.replicate (Int.toNat (49 : Int)) (0 : Int)))))
noncomputable def s107 (F : Nat) : CS E.G := ⟨107, [.sl 24, .sl 1, .sl 0], [.sl 0 3, .sl 0 3], fun x => spill_costs F x.1 x.2.1 x.2.2.1⟩
noncomputable def cx107 (F : Nat) : Ctx E := ⟨[], [(140, Try.f140)], F, []⟩
noncomputable def h107 : Hint := (.l ⟨[.i, .l 0], [0, 16, 32, 96, 272, 112], [0, 1, 2, 3, 4, 5, 6], [(288, .i IntKind.i64)], [], [], [(6, 3, 0)], 7⟩ (.c .n (.l ⟨[.l 0, .l 0], [0, 16, 32, 96, 144, 112], [0, 1, 2, 3, 4, 5, 6], [], [], [], [(5, 3, 0), (6, 3, 0)], 7⟩ (.l ⟨[.b, .i, .l 0, .l 0], [0, 16, 32, 96, 144, 112], [0, 1, 2, 3, 4, 5, 6], [(160, .b), (416, .i IntKind.i64)], [], [], [(5, 3, 0), (6, 3, 0)], 7⟩ (.c (.j ⟨[.b, .l 0, .l 0], [0, 16, 32, 96, 416, 144, 112], [0, 1, 2, 3, 4, 5, 6], [(160, .b)], [], [], [(5, 3, 0), (6, 3, 0)], 7⟩ (.w ⟨[.b, .l 0, .l 0], [], [3, 5, 4, 6], [(0, .b)], [], [], [(5, 3, 0), (6, 3, 0)], 7⟩ .n (.c (.w ⟨[.b, .l 0, .l 0], [], [3, 5, 4, 6], [(0, .b)], [], [], [(5, 3, 0), (6, 3, 0)], 7⟩ .n .n) .n)) .n) (.l ⟨[.b, .i, .l 0, .l 0], [0, 16, 32, 96, 928, 144, 912, 112], [0, 1, 2, 3, 4, 5, 6], [(160, .b), (944, .i IntKind.i64)], [], [], [(5, 3, 0), (6, 3, 0)], 7⟩ (.c (.j ⟨[.b, .l 0, .l 0], [0, 16, 32, 96, 928, 144, 912, 112, 944], [0, 1, 2, 3, 4, 5, 6], [(160, .b)], [], [], [(5, 3, 0), (6, 3, 0)], 7⟩ (.c (.w ⟨[.b, .l 0, .l 0], [], [3, 5, 4, 6], [(0, .b)], [], [], [(5, 3, 0), (6, 3, 0)], 8⟩ .n .n) (.w ⟨[.b, .l 0, .l 0], [], [3, 5, 4, 6], [(0, .b)], [], [], [(5, 3, 0), (6, 3, 0)], 8⟩ .n .n)) .n) .n)))))))
theorem e107 (F : Nat) (a0 : List Job) (a1 : List Bool) (a2 : List Int) : fnK (E := E) (cx107 F) Try.f107 [] [.sl 24, .sl 1, .sl 0] [.sl 0 3, .sl 0 3] h107 (a0, a1, a2, ()) = spill_costs F a0 a1 a2 := by kernel_rfl
theorem c107 (F : Nat) : CSok E [] (s107 F) := ⟨en107, by
  have h := fn_sound (E := E) (gl := []) (cx := cx107 F) mix all0 (inlC hf140 en140 inl0) rfl (fun _ h => nomatch h) hf107 (ps := [.sl 24, .sl 1, .sl 0]) (rs := [.sl 0 3, .sl 0 3]) (by decide) h107
  rwa [show fnK (E := E) (cx107 F) Try.f107 [] [.sl 24, .sl 1, .sl 0] [.sl 0 3, .sl 0 3] h107 = (fun x : AT E.G.car [.sl 24, .sl 1, .sl 0] => spill_costs F x.1 x.2.1 x.2.2.1) from funext fun x => e107 F x.1 x.2.1 x.2.2.1] at h⟩
theorem hf105 : Try.prog.funcs[105]? = some Try.f105 := by kernel_rfl
theorem en105 : Proofs.Enters Try.prog 105 := Proofs.enters_of hf105 (by kernel_rfl) rfl
noncomputable def spill_choose (F : Nat) (a0 : List Job) (a1 : Int) : Option ((List Bool) × (List Int)) :=
  chk ((0 : Int) ≤ (↑a0.length : Int) ∧ (↑a0.length : Int) ≤ (↑a0.length : Int) ∧ (↑a0.length : Int) ≤ (100000 : Int)) (chk ((0 : Int) ≤ (48 : Int) ∧ (48 : Int) ≤ (48 : Int) ∧ (48 : Int) ≤ (100000 : Int)) (loopC (fun (x : (Int) × ((List (Bool)) × (List (Int)))) => fun x_1 => brk (decide (x.fst < a1)) (bnd (spill_costs F a0 x.snd.fst x.snd.snd) (fun (x_2 : (List (Int)) × (List (Int))) => loopC (fun (x_3 : (Int) × ((List (Bool)) × (List (Int)))) => fun x_4 => brk (decide (x_3.fst > (0 : Int))) (chk ((0 : Int) ≤ x_3.fst ∧ x_3.fst < (↑(List.length x_2.snd) : Int)) (brk (List.getD x_2.snd (Int.toNat x_3.fst) (0 : Int) == (-1 : Int)) (chk (InR (x_3.fst - (1 : Int))) (chk ((0 : Int) ≤ x_3.fst - (1 : Int) ∧ x_3.fst - (1 : Int) < (↑(List.length x_3.snd.snd) : Int)) (chk (InR (List.getD x_3.snd.snd (x_3.fst - (1 : Int)).toNat (0 : Int) + (1 : Int))) (chk ((0 : Int) ≤ x_3.fst - (1 : Int) ∧ x_3.fst - (1 : Int) < (↑(List.length x_3.snd.snd) : Int)) (x_4 ((x_3.fst - (1 : Int), x_3.snd.fst, List.set x_3.snd.snd (x_3.fst - (1 : Int)).toNat (List.getD x_3.snd.snd (x_3.fst - (1 : Int)).toNat (0 : Int) + (1 : Int))))))))) (brk (List.getD x_2.snd (Int.toNat x_3.fst) (0 : Int) == (-2 : Int)) (chk ((0 : Int) ≤ x_3.fst ∧ x_3.fst < (↑(List.length x_3.snd.snd) : Int)) (chk (InR (List.getD x_3.snd.snd (Int.toNat x_3.fst) (0 : Int) - (1 : Int))) (chk ((0 : Int) ≤ x_3.fst ∧ x_3.fst < (↑(List.length x_3.snd.snd) : Int)) (chk (InR (x_3.fst + (1 : Int))) (x_4 ((x_3.fst + (1 : Int), x_3.snd.fst, List.set x_3.snd.snd (Int.toNat x_3.fst) (List.getD x_3.snd.snd (Int.toNat x_3.fst) (0 : Int) - (1 : Int))))))))) (chk ((0 : Int) ≤ List.getD x_2.snd (Int.toNat x_3.fst) (0 : Int) ∧ List.getD x_2.snd (Int.toNat x_3.fst) (0 : Int) < (↑(List.length x_3.snd.fst) : Int)) (brk (List.getD x_3.snd.fst (Int.toNat (List.getD x_2.snd (Int.toNat x_3.fst) (0 : Int))) false) (chk ((0 : Int) ≤ List.getD x_2.snd (Int.toNat x_3.fst) (0 : Int) ∧ List.getD x_2.snd (Int.toNat x_3.fst) (0 : Int) < (↑a0.length : Int)) (chk ((0 : Int) ≤ List.getD x_2.snd (Int.toNat x_3.fst) (0 : Int) ∧ List.getD x_2.snd (Int.toNat x_3.fst) (0 : Int) < (↑(List.length x_3.snd.fst) : Int)) (x_4 (((a0.getD (Int.toNat (List.getD x_2.snd (Int.toNat x_3.fst) (0 : Int))) (Job.mk (0 : Int) (0 : Int) (0 : Int))).f_to, List.set x_3.snd.fst (Int.toNat (List.getD x_2.snd (Int.toNat x_3.fst) (0 : Int))) false, x_3.snd.snd))))) (chk ((0 : Int) ≤ List.getD x_2.snd (Int.toNat x_3.fst) (0 : Int) ∧ List.getD x_2.snd (Int.toNat x_3.fst) (0 : Int) < (↑a0.length : Int)) (chk ((0 : Int) ≤ List.getD x_2.snd (Int.toNat x_3.fst) (0 : Int) ∧ List.getD x_2.snd (Int.toNat x_3.fst) (0 : Int) < (↑(List.length x_3.snd.fst) : Int)) (x_4 (((a0.getD (Int.toNat (List.getD x_2.snd (Int.toNat x_3.fst) (0 : Int))) (Job.mk (0 : Int) (0 : Int) (0 : Int))).f_from, List.set x_3.snd.fst (Int.toNat (List.getD x_2.snd (Int.toNat x_3.fst) (0 : Int))) true, x_3.snd.snd)))))))))) (chk (InR (x.fst + (1 : Int))) (x_1 ((x.fst + (1 : Int), x_3.snd.fst, x_3.snd.snd))))) (F) (((48 : Int), x.snd.fst, x.snd.snd)))) (some ((x.snd.fst, x.snd.snd)))) (F) (((0 : Int), List.replicate (↑a0.length : Int).toNat false, List.replicate (Int.toNat (48 : Int)) (0 : Int)))))
noncomputable def s105 (F : Nat) : CS E.G := ⟨105, [.sl 24, .v 0 false], [.sl 1 4, .sl 0 3], fun x => spill_choose F x.1 x.2.1⟩
noncomputable def cx105 (F : Nat) : Ctx E := ⟨[s107 F], [], F, []⟩
noncomputable def h105 : Hint := (.l ⟨[.i, .l 1, .l 0], [0, 256, 96, 112], [0, 1, 2], [(272, .i IntKind.i64)], [], [], [(1, 4, 1), (2, 3, 0)], 3⟩ (.c (.l ⟨[.i, .l 1, .l 0], [0, 256, 96, 144, 272, 112], [0, 1, 4, 2], [(160, .i IntKind.i64)], [], [], [(1, 4, 1), (2, 3, 0)], 5⟩ (.c (.c .n (.c .n .n)) .n)) .n))
theorem e105 (F : Nat) (a0 : List Job) (a1 : Int) : fnK (E := E) (cx105 F) Try.f105 [] [.sl 24, .v 0 false] [.sl 1 4, .sl 0 3] h105 (a0, a1, ()) = spill_choose F a0 a1 := by kernel_rfl
theorem c105 (F : Nat) : CSok E [] (s105 F) := ⟨en105, by
  have h := fn_sound (E := E) (gl := []) (cx := cx105 F) mix (allC (c107 F) all0) inl0 rfl (fun _ h => nomatch h) hf105 (ps := [.sl 24, .v 0 false]) (rs := [.sl 1 4, .sl 0 3]) (by decide) h105
  rwa [show fnK (E := E) (cx105 F) Try.f105 [] [.sl 24, .v 0 false] [.sl 1 4, .sl 0 3] h105 = (fun x : AT E.G.car [.sl 24, .v 0 false] => spill_choose F x.1 x.2.1) from funext fun x => e105 F x.1 x.2.1] at h⟩
theorem hf51 : Try.prog.funcs[51]? = some Try.f51 := by kernel_rfl
theorem en51 : Proofs.Enters Try.prog 51 := Proofs.enters_of hf51 (by kernel_rfl) rfl
noncomputable def spill_Best (F : Nat) (a0 : Field) (a1 : Fleet) (a2 : List Flight) : Option ((List Bool) × Int × Int) :=
  bnd (spill_jobs F (Field.mk a0.W a0.H (a0.Cells)) (Fleet.mk a1.Base a1.Range a1.Speed a1.Count) a2) (fun (x : (List (Job)) × (Int)) => brk (x.snd != (0 : Int)) (some (([], (0 : Int), x.snd))) (bnd (spill_choose F x.fst a1.Count) (fun (x_1 : (List (Bool)) × (List (Int))) => loopC (fun (x_2 : (Int) × (Int)) => fun x_3 => brk (decide (x_2.snd < (↑(List.length x.fst) : Int))) (join (fun (x_4 : Int) => chk (InR (x_2.snd + (1 : Int))) (x_3 ((x_4, x_2.snd + (1 : Int))))) (fun x_4 => chk ((0 : Int) ≤ x_2.snd ∧ x_2.snd < (↑(List.length x.fst) : Int)) (chk ((0 : Int) ≤ x_2.snd ∧ x_2.snd < (↑(List.length x_1.fst) : Int)) (brk (List.getD x_1.fst (Int.toNat x_2.snd) false) (chk (InR (x_2.fst + (List.getD x.fst (Int.toNat x_2.snd) (Job.mk (0 : Int) (0 : Int) (0 : Int))).f_worth)) (x_4 (x_2.fst + (List.getD x.fst (Int.toNat x_2.snd) (Job.mk (0 : Int) (0 : Int) (0 : Int))).f_worth))) (x_4 (x_2.fst)))))) (some ((x_1.fst, x_2.fst, (0 : Int))))) (F) (((0 : Int), (0 : Int))))))
noncomputable def s51 (F : Nat) : CS E.G := ⟨51, [.v 9 true, .v 13 true, .sl 14], [.sl 1 4, .v 0 false [], .v 0 false []], fun x => spill_Best F x.1 x.2.1 x.2.2.1⟩
noncomputable def cx51 (F : Nat) : Ctx E := ⟨[s104 F, s105 F], [], F, []⟩
noncomputable def h51 : Hint := (.c .n (.l ⟨[.i, .i], [544, 528, 176], [4, 5], [(208, .i IntKind.i64), (560, .i IntKind.i64)], [], [], [], 7⟩ (.c (.j ⟨[.i], [544, 528, 176, 560], [4, 5], [(208, .i IntKind.i64)], [], [], [], 7⟩ .n .n) .n)))
theorem e51 (F : Nat) (a0 : Field) (a1 : Fleet) (a2 : List Flight) : fnK (E := E) (cx51 F) Try.f51 [] [.v 9 true, .v 13 true, .sl 14] [.sl 1 4, .v 0 false [], .v 0 false []] h51 (a0, a1, a2, ()) = spill_Best F a0 a1 a2 := by kernel_rfl
theorem c51 (F : Nat) : CSok E [] (s51 F) := ⟨en51, by
  have h := fn_sound (E := E) (gl := []) (cx := cx51 F) mix (allC (c104 F) (allC (c105 F) all0)) inl0 rfl (fun _ h => nomatch h) hf51 (ps := [.v 9 true, .v 13 true, .sl 14]) (rs := [.sl 1 4, .v 0 false [], .v 0 false []]) (by decide) h51
  rwa [show fnK (E := E) (cx51 F) Try.f51 [] [.v 9 true, .v 13 true, .sl 14] [.sl 1 4, .v 0 false [], .v 0 false []] h51 = (fun x : AT E.G.car [.v 9 true, .v 13 true, .sl 14] => spill_Best F x.1 x.2.1 x.2.2.1) from funext fun x => e51 F x.1 x.2.1 x.2.2.1] at h⟩
theorem hf83 : Try.prog.funcs[83]? = some Try.f83 := by kernel_rfl
theorem en83 : Proofs.Enters Try.prog 83 := Proofs.enters_of hf83 (by kernel_rfl) rfl
theorem hf84 : Try.prog.funcs[84]? = some Try.f84 := by kernel_rfl
theorem en84 : Proofs.Enters Try.prog 84 := Proofs.enters_of hf84 (by kernel_rfl) rfl
noncomputable def slices_Equal_int (F : Nat) (a0 : List Int) (a1 : List Int) : Option (Bool) :=
  brk ((↑a0.length : Int) != (↑a1.length : Int)) (some (false)) (loopC (fun (x : Int) => fun x_1 => brk (decide (x < (↑a0.length : Int))) (chk ((0 : Int) ≤ x ∧ x < (↑a0.length : Int)) (chk ((0 : Int) ≤ x ∧ x < (↑a1.length : Int)) (brk (a0.getD (Int.toNat x) (0 : Int) != a1.getD (Int.toNat x) (0 : Int)) (some (false)) (chk (InR (x + (1 : Int))) (x_1 (x + (1 : Int))))))) (some (true))) (F) ((0 : Int)))
noncomputable def s84 (F : Nat) : CS E.G := ⟨84, [.sl 0, .sl 0], [.v 1 false []], fun x => slices_Equal_int F x.1 x.2.1⟩
noncomputable def cx84 (F : Nat) : Ctx E := ⟨[], [], F, []⟩
noncomputable def h84 : Hint := (.c .n (.l ⟨[.i], [0, 16, 192], [0, 1], [(208, .i IntKind.i64)], [], [], [], 2⟩ (.c .n .n)))
theorem e84 (F : Nat) (a0 : List Int) (a1 : List Int) : fnK (E := E) (cx84 F) Try.f84 [] [.sl 0, .sl 0] [.v 1 false []] h84 (a0, a1, ()) = slices_Equal_int F a0 a1 := by kernel_rfl
theorem c84 (F : Nat) : CSok E [] (s84 F) := ⟨en84, by
  have h := fn_sound (E := E) (gl := []) (cx := cx84 F) mix all0 inl0 rfl (fun _ h => nomatch h) hf84 (ps := [.sl 0, .sl 0]) (rs := [.v 1 false []]) (by decide) h84
  rwa [show fnK (E := E) (cx84 F) Try.f84 [] [.sl 0, .sl 0] [.v 1 false []] h84 = (fun x : AT E.G.car [.sl 0, .sl 0] => slices_Equal_int F x.1 x.2.1) from funext fun x => e84 F x.1 x.2.1] at h⟩
theorem hf85 : Try.prog.funcs[85]? = some Try.f85 := by kernel_rfl
theorem en85 : Proofs.Enters Try.prog 85 := Proofs.enters_of hf85 (by kernel_rfl) rfl
noncomputable def slices_Equal_api_Span (F : Nat) (a0 : List Span) (a1 : List Span) : Option (Bool) :=
  brk ((↑a0.length : Int) != (↑a1.length : Int)) (some (false)) (loopC (fun (x : Int) => fun x_1 => brk (decide (x < (↑a0.length : Int))) (chk ((0 : Int) ≤ x ∧ x < (↑a0.length : Int)) (chk ((0 : Int) ≤ x ∧ x < (↑a1.length : Int)) (brk (!((a0.getD (Int.toNat x) (Span.mk (0 : Int) (0 : Int))).Lo == (a1.getD (Int.toNat x) (Span.mk (0 : Int) (0 : Int))).Lo && ((a0.getD (Int.toNat x) (Span.mk (0 : Int) (0 : Int))).Hi == (a1.getD (Int.toNat x) (Span.mk (0 : Int) (0 : Int))).Hi && true))) (some (false)) (chk (InR (x + (1 : Int))) (x_1 (x + (1 : Int))))))) (some (true))) (F) ((0 : Int)))
noncomputable def s85 (F : Nat) : CS E.G := ⟨85, [.sl 7, .sl 7], [.v 1 false []], fun x => slices_Equal_api_Span F x.1 x.2.1⟩
noncomputable def cx85 (F : Nat) : Ctx E := ⟨[], [], F, []⟩
noncomputable def h85 : Hint := (.c .n (.l ⟨[.i], [0, 16, 192], [0, 1], [(208, .i IntKind.i64)], [], [], [], 2⟩ (.c .n .n)))
theorem e85 (F : Nat) (a0 : List Span) (a1 : List Span) : fnK (E := E) (cx85 F) Try.f85 [] [.sl 7, .sl 7] [.v 1 false []] h85 (a0, a1, ()) = slices_Equal_api_Span F a0 a1 := by kernel_rfl
theorem c85 (F : Nat) : CSok E [] (s85 F) := ⟨en85, by
  have h := fn_sound (E := E) (gl := []) (cx := cx85 F) mix all0 inl0 rfl (fun _ h => nomatch h) hf85 (ps := [.sl 7, .sl 7]) (rs := [.v 1 false []]) (by decide) h85
  rwa [show fnK (E := E) (cx85 F) Try.f85 [] [.sl 7, .sl 7] [.v 1 false []] h85 = (fun x : AT E.G.car [.sl 7, .sl 7] => slices_Equal_api_Span F x.1 x.2.1) from funext fun x => e85 F x.1 x.2.1] at h⟩
theorem hf20 : Try.prog.funcs[20]? = some Try.f20 := by kernel_rfl
theorem en20 : Proofs.Enters Try.prog 20 := Proofs.enters_of hf20 (by kernel_rfl) rfl
noncomputable def law11_awake (F : Nat) : Option (Bool) :=
  bnd (spill_Flow F (3 : Int) (1 : Int) [(0 : Int), (21 : Int), (0 : Int)] [(5 : Int), (4 : Int), (5 : Int)]) (fun (x : (List (Int)) × (Int)) => bnd (spill_Flow F (2 : Int) (2 : Int) [(18 : Int), (0 : Int), (0 : Int), (0 : Int)] [(3 : Int), (3 : Int), (3 : Int), (3 : Int)]) (fun (x_1 : (List (Int)) × (Int)) => bnd (spill_Spread F (Field.mk (↑[Span.mk (10 : Int) (20 : Int), Span.mk (0 : Int) (2 : Int)].length : Int) (1 : Int) ([Span.mk (10 : Int) (20 : Int), Span.mk (0 : Int) (2 : Int)])) [Span.mk (4 : Int) (6 : Int), Span.mk (4 : Int) (6 : Int)] (1 : Int)) (fun (x_2 : (Field) × (Int)) => bnd (spill_Tighten F (Field.mk (↑[Span.mk (10 : Int) (20 : Int), Span.mk (0 : Int) (2 : Int)].length : Int) (1 : Int) ([Span.mk (10 : Int) (20 : Int), Span.mk (0 : Int) (2 : Int)])) (Span.mk (21 : Int) (22 : Int))) (fun (x_3 : (Field) × (Int)) => bnd (spill_Best F (Field.mk (↑[Span.mk (10 : Int) (20 : Int), Span.mk (0 : Int) (2 : Int)].length : Int) (1 : Int) ([Span.mk (10 : Int) (20 : Int), Span.mk (0 : Int) (2 : Int)])) (Fleet.mk (0 : Int) (4 : Int) (1 : Int) (1 : Int)) [Flight.mk (0 : Int) ([(0 : Int), (1 : Int), (0 : Int)]), Flight.mk (1 : Int) ([(0 : Int)]), Flight.mk (2 : Int) ([(0 : Int)])]) (fun (x_4 : (List (Bool)) × ((Int) × (Int))) => brk (x.snd != (0 : Int) || x_1.snd != (0 : Int) || x_2.snd != (0 : Int) || x_3.snd != (0 : Int) || x_4.snd.snd != (0 : Int) || x_4.snd.fst != (22 : Int)) (some (false)) (bnd (slices_Equal_int F x.fst [(4 : Int), (13 : Int), (4 : Int)]) (fun (x_5 : Bool) => brk (x_5) (bnd (slices_Equal_int F x_1.fst [(11 : Int), (3 : Int), (4 : Int), (0 : Int)]) (fun (x_6 : Bool) => brk (x_6) (bnd (slices_Equal_api_Span F x_2.fst.Cells [Span.mk (7 : Int) (13 : Int), Span.mk (2 : Int) (10 : Int)]) (fun (x_7 : Bool) => brk (x_7) (bnd (slices_Equal_api_Span F x_3.fst.Cells [Span.mk (19 : Int) (20 : Int), Span.mk (1 : Int) (2 : Int)]) (fun (x_8 : Bool) => some (x_8))) (some (false)))) (some (false)))) (some (false)))))))))
noncomputable def s20 (F : Nat) : CS E.G := ⟨20, [], [.v 1 false []], fun x => law11_awake F⟩
noncomputable def cx20 (F : Nat) : Ctx E := ⟨[s16 F, s19 F, s24 F, s51 F, s84 F, s85 F], [(83, Try.f83)], F, []⟩
noncomputable def h20 : Hint := (.p (.c .n (.s (.s (.s .n .n) .n) .n)))
theorem e20 (F : Nat) : fnK (E := E) (cx20 F) Try.f20 [] [] [.v 1 false []] h20 (()) = law11_awake F := by kernel_rfl
theorem c20 (F : Nat) : CSok E [] (s20 F) := ⟨en20, by
  have h := fn_sound (E := E) (gl := []) (cx := cx20 F) mix (allC (c16 F) (allC (c19 F) (allC (c24 F) (allC (c51 F) (allC (c84 F) (allC (c85 F) all0)))))) (inlC hf83 en83 inl0) rfl (fun _ h => nomatch h) hf20 (ps := []) (rs := [.v 1 false []]) (by decide) h20
  rwa [show fnK (E := E) (cx20 F) Try.f20 [] [] [.v 1 false []] h20 = (fun x : AT E.G.car [] => law11_awake F) from funext fun x => e20 F] at h⟩
theorem hf22 : Try.prog.funcs[22]? = some Try.f22 := by kernel_rfl
theorem en22 : Proofs.Enters Try.prog 22 := Proofs.enters_of hf22 (by kernel_rfl) rfl
noncomputable def spill_Holds (F : Nat) (a0 : Field) (a1 : List Int) : Option (Bool × Int) :=
  bnd (spill_Check F (Field.mk a0.W a0.H (a0.Cells))) (fun (x : Int) => brk (x != (0 : Int)) (some ((false, x))) (brk ((↑a1.length : Int) != (↑a0.Cells.length : Int)) (some ((false, (1 : Int)))) (loopC (fun (x_1 : Int) => fun x_2 => brk (decide (x_1 < (↑a1.length : Int))) (chk ((0 : Int) ≤ x_1 ∧ x_1 < (↑a1.length : Int)) (chk ((0 : Int) ≤ x_1 ∧ x_1 < (↑a0.Cells.length : Int)) (chk ((0 : Int) ≤ x_1 ∧ x_1 < (↑a0.Cells.length : Int)) (bnd (spill_within F (a1.getD (Int.toNat x_1) (0 : Int)) (a0.Cells.getD (Int.toNat x_1) (Span.mk (0 : Int) (0 : Int))).Lo (a0.Cells.getD (Int.toNat x_1) (Span.mk (0 : Int) (0 : Int))).Hi) (fun (x_3 : Bool) => brk (!x_3) (some ((false, (0 : Int)))) (chk (InR (x_1 + (1 : Int))) (x_2 (x_1 + (1 : Int))))))))) (some ((true, (0 : Int))))) (F) ((0 : Int)))))
noncomputable def s22 (F : Nat) : CS E.G := ⟨22, [.v 9 true, .sl 0], [.v 1 false [], .v 0 false []], fun x => spill_Holds F x.1 x.2.1⟩
noncomputable def cx22 (F : Nat) : Ctx E := ⟨[s34 F, s80 F], [], F, []⟩
noncomputable def h22 : Hint := (.c .n (.c .n (.l ⟨[.i], [32, 320, 336], [2, 1, 0], [(352, .i IntKind.i64)], [], [], [], 3⟩ (.c .n .n))))
theorem e22 (F : Nat) (a0 : Field) (a1 : List Int) : fnK (E := E) (cx22 F) Try.f22 [] [.v 9 true, .sl 0] [.v 1 false [], .v 0 false []] h22 (a0, a1, ()) = spill_Holds F a0 a1 := by kernel_rfl
theorem c22 (F : Nat) : CSok E [] (s22 F) := ⟨en22, by
  have h := fn_sound (E := E) (gl := []) (cx := cx22 F) mix (allC (c34 F) (allC (c80 F) all0)) inl0 rfl (fun _ h => nomatch h) hf22 (ps := [.v 9 true, .sl 0]) (rs := [.v 1 false [], .v 0 false []]) (by decide) h22
  rwa [show fnK (E := E) (cx22 F) Try.f22 [] [.v 9 true, .sl 0] [.v 1 false [], .v 0 false []] h22 = (fun x : AT E.G.car [.v 9 true, .sl 0] => spill_Holds F x.1 x.2.1) from funext fun x => e22 F x.1 x.2.1] at h⟩
theorem hf23 : Try.prog.funcs[23]? = some Try.f23 := by kernel_rfl
theorem en23 : Proofs.Enters Try.prog 23 := Proofs.enters_of hf23 (by kernel_rfl) rfl
noncomputable def spill_Total (F : Nat) (a0 : Field) : Option (Span × Int) :=
  bnd (spill_Check F (Field.mk a0.W a0.H (a0.Cells))) (fun (x : Int) => brk (x != (0 : Int)) (some ((Span.mk (0 : Int) (0 : Int), x))) (bnd (spill_grid_total F (Field.mk a0.W a0.H (a0.Cells))) (fun (x_1 : Span) => some ((Span.mk x_1.Lo x_1.Hi, (0 : Int))))))
noncomputable def s23 (F : Nat) : CS E.G := ⟨23, [.v 9 true], [.v 7 true [], .v 0 false []], fun x => spill_Total F x.1⟩
noncomputable def cx23 (F : Nat) : Ctx E := ⟨[s34 F, s86 F], [], F, []⟩
noncomputable def h23 : Hint := .n
theorem e23 (F : Nat) (a0 : Field) : fnK (E := E) (cx23 F) Try.f23 [] [.v 9 true] [.v 7 true [], .v 0 false []] h23 (a0, ()) = spill_Total F a0 := by kernel_rfl
theorem c23 (F : Nat) : CSok E [] (s23 F) := ⟨en23, by
  have h := fn_sound (E := E) (gl := []) (cx := cx23 F) mix (allC (c34 F) (allC (c86 F) all0)) inl0 rfl (fun _ h => nomatch h) hf23 (ps := [.v 9 true]) (rs := [.v 7 true [], .v 0 false []]) (by decide) h23
  rwa [show fnK (E := E) (cx23 F) Try.f23 [] [.v 9 true] [.v 7 true [], .v 0 false []] h23 = (fun x : AT E.G.car [.v 9 true] => spill_Total F x.1) from funext fun x => e23 F x.1] at h⟩
theorem hf29 : Try.prog.funcs[29]? = some Try.f29 := by kernel_rfl
theorem en29 : Proofs.Enters Try.prog 29 := Proofs.enters_of hf29 (by kernel_rfl) rfl
noncomputable def spill_When (F : Nat) (a0 : Field) (a1 : List Span) (a2 : Int) : Option (Span × Int) :=
  bnd (spill_Check F (Field.mk a0.W a0.H (a0.Cells))) (fun (x : Int) => brk (x != (0 : Int)) (brk (x != (0 : Int)) (some ((Span.mk (0 : Int) (0 : Int), x))) (none)) (brk ((↑a1.length : Int) != (↑a0.Cells.length : Int)) (some ((Span.mk (0 : Int) (0 : Int), (1 : Int)))) (join (fun (x_1 : Int) => brk (decide (x_1 ≥ (0 : Int))) (some ((Span.mk (0 : Int) (0 : Int), (120 : Int)))) (bnd (slices_Clone_api_Span F a0.Cells) (fun (x_2 : List (Span)) => chk (InR ((↑a0.Cells.length : Int) - (1 : Int))) (bnd (spill_within F a2 (0 : Int) ((↑a0.Cells.length : Int) - (1 : Int))) (fun (x_3 : Bool) => brk (!x_3) (some ((Span.mk (0 : Int) (0 : Int), (1 : Int)))) (loopC (fun (x_4 : (Int) × ((Int) × (List (Span)))) => fun x_5 => brk (decide (x_4.fst ≤ (48 : Int))) (join (fun (x_6 : Int) => chk ((0 : Int) ≤ a2 ∧ a2 < (↑(List.length x_4.snd.snd) : Int)) (brk (decide ((List.getD x_4.snd.snd a2.toNat (Span.mk (0 : Int) (0 : Int))).Lo > (0 : Int))) (some ((Span.mk x_6 x_4.fst, (0 : Int)))) (bnd (spill_grid_spread F (Field.mk a0.W a0.H (x_4.snd.snd)) a1) (fun (x_7 : List (Span)) => chk (InR (x_4.fst + (1 : Int))) (x_5 ((x_4.fst + (1 : Int), x_6, x_7))))))) (fun x_6 => chk (decide (x_4.snd.fst < (0 : Int)) = true → (0 : Int) ≤ a2 ∧ a2 < (↑(List.length x_4.snd.snd) : Int)) (brk (decide (x_4.snd.fst < (0 : Int)) && decide ((List.getD x_4.snd.snd a2.toNat (Span.mk (0 : Int) (0 : Int))).Hi > (0 : Int))) (x_6 (x_4.fst)) (x_6 (x_4.snd.fst))))) (some ((Span.mk (0 : Int) (0 : Int), (4 : Int))))) (F) (((0 : Int), (-1 : Int), x_2)))))))) (fun x_1 => loopC (fun (x_2 : Int) => fun x_3 => brk (decide (x_2 < (↑a1.length : Int))) (chk ((0 : Int) ≤ x_2 ∧ x_2 < (↑a1.length : Int)) (bnd (spill_begin_1 F (Span.mk (a1.getD (Int.toNat x_2) (Span.mk (0 : Int) (0 : Int))).Lo (a1.getD (Int.toNat x_2) (Span.mk (0 : Int) (0 : Int))).Hi)) (fun (x_4 : Bool) => brk (x_4) (x_1 (x_2)) (chk (InR (x_2 + (1 : Int))) (x_3 (x_2 + (1 : Int))))))) (x_1 ((-1 : Int)))) (F) ((0 : Int))))))
noncomputable def s29 (F : Nat) : CS E.G := ⟨29, [.v 9 true, .sl 7, .v 0 false], [.v 7 true [], .v 0 false []], fun x => spill_When F x.1 x.2.1 x.2.2.1⟩
noncomputable def cx29 (F : Nat) : Ctx E := ⟨[s15 F, s34 F, s129 F, s80 F, s81 F], [(79, Try.f79), (91, Try.f91), (133, Try.f133)], F, []⟩
noncomputable def h29 : Hint := (.p (.c (.c .n (.u 0 .n)) (.c .n (.p (.w ⟨[.i], [], [1], [(0, .i IntKind.i64)], [], [], [], 6⟩ (.l ⟨[.i], [0, 16, 112], [1], [(128, .i IntKind.i64)], [], [], [], 6⟩ (.c .n .n)) (.c .n (.c .n (.l ⟨[.i, .i, .l 7], [16, 32, 128, 96, 160], [1, 7, 3, 8, 4], [(176, .i IntKind.i64)], [], [(8, 0, .i IntKind.i64), (4, 2, .h 9 34 7)], [], 10⟩ (.c (.k (.j ⟨[.i], [16, 32, 128, 96, 160, 176], [1, 7, 3, 8, 4, 9], [], [], [(8, 0, .i IntKind.i64)], [], 10⟩ .n .n)) .n)))))))))
theorem e29 (F : Nat) (a0 : Field) (a1 : List Span) (a2 : Int) : fnK (E := E) (cx29 F) Try.f29 [] [.v 9 true, .sl 7, .v 0 false] [.v 7 true [], .v 0 false []] h29 (a0, a1, a2, ()) = spill_When F a0 a1 a2 := by kernel_rfl
theorem c29 (F : Nat) : CSok E [] (s29 F) := ⟨en29, by
  have h := fn_sound (E := E) (gl := []) (cx := cx29 F) mix (allC (c15 F) (allC (c34 F) (allC (c129 F) (allC (c80 F) (allC (c81 F) all0))))) (inlC hf79 en79 (inlC hf91 en91 (inlC hf133 en133 inl0))) rfl (fun _ h => nomatch h) hf29 (ps := [.v 9 true, .sl 7, .v 0 false]) (rs := [.v 7 true [], .v 0 false []]) (by decide) h29
  rwa [show fnK (E := E) (cx29 F) Try.f29 [] [.v 9 true, .sl 7, .v 0 false] [.v 7 true [], .v 0 false []] h29 = (fun x : AT E.G.car [.v 9 true, .sl 7, .v 0 false] => spill_When F x.1 x.2.1 x.2.2.1) from funext fun x => e29 F x.1 x.2.1 x.2.2.1] at h⟩
theorem hf30 : Try.prog.funcs[30]? = some Try.f30 := by kernel_rfl
theorem en30 : Proofs.Enters Try.prog 30 := Proofs.enters_of hf30 (by kernel_rfl) rfl
noncomputable def spill_Dirty (F : Nat) (a0 : Field) : Option ((List Int) × (List Int) × Int) :=
  bnd (spill_Check F (Field.mk a0.W a0.H (a0.Cells))) (fun (x : Int) => brk (x != (0 : Int)) (some (([], [], x))) (loopC (fun (x_1 : (List (Int)) × ((Int) × (List (Int)))) => fun x_2 => brk (decide (x_1.snd.fst < (↑a0.Cells.length : Int))) (join (fun (x_3 : (List (Int)) × (List (Int))) => chk (InR (x_1.snd.fst + (1 : Int))) (x_2 ((x_3.fst, x_1.snd.fst + (1 : Int), x_3.snd)))) (fun x_3 => chk ((0 : Int) ≤ x_1.snd.fst ∧ x_1.snd.fst < (↑a0.Cells.length : Int)) (join (fun (x_4 : List (Int)) => brk (decide ((a0.Cells.getD (Int.toNat x_1.snd.fst) (Span.mk (0 : Int) (0 : Int))).Hi > (0 : Int))) (chk (List.length x_1.snd.snd + [x_1.snd.fst].length ≤ (1000000 : Nat)) (x_3 ((x_4, x_1.snd.snd ++ [x_1.snd.fst])))) (x_3 ((x_4, x_1.snd.snd)))) (fun x_4 => brk (decide ((a0.Cells.getD (Int.toNat x_1.snd.fst) (Span.mk (0 : Int) (0 : Int))).Lo > (0 : Int))) (chk (List.length x_1.fst + [x_1.snd.fst].length ≤ (1000000 : Nat)) (x_4 (x_1.fst ++ [x_1.snd.fst]))) (x_4 (x_1.fst)))))) (some ((x_1.fst, x_1.snd.snd, (0 : Int))))) (F) (([], (0 : Int), []))))
noncomputable def s30 (F : Nat) : CS E.G := ⟨30, [.v 9 true], [.sl 0 3, .sl 0 3, .v 0 false []], fun x => spill_Dirty F x.1⟩
noncomputable def cx30 (F : Nat) : Ctx E := ⟨[s34 F], [], F, []⟩
noncomputable def h30 : Hint := (.c .n (.l ⟨[.l 0, .i, .l 0], [256, 272], [0], [(96, .h 2 3 0), (288, .i IntKind.i64), (112, .h 3 3 0)], [], [], [], 4⟩ (.c (.j ⟨[.l 0, .l 0], [256, 288, 272], [0], [(96, .h 4 3 0), (112, .h 5 3 0)], [], [], [], 6⟩ (.k (.j ⟨[.l 0], [128, 256, 288, 144, 272, 112], [0, 4, 3], [(96, .h 5 3 0)], [], [], [], 6⟩ .n .n)) .n) .n)))
theorem e30 (F : Nat) (a0 : Field) : fnK (E := E) (cx30 F) Try.f30 [] [.v 9 true] [.sl 0 3, .sl 0 3, .v 0 false []] h30 (a0, ()) = spill_Dirty F a0 := by kernel_rfl
theorem c30 (F : Nat) : CSok E [] (s30 F) := ⟨en30, by
  have h := fn_sound (E := E) (gl := []) (cx := cx30 F) mix (allC (c34 F) all0) inl0 rfl (fun _ h => nomatch h) hf30 (ps := [.v 9 true]) (rs := [.sl 0 3, .sl 0 3, .v 0 false []]) (by decide) h30
  rwa [show fnK (E := E) (cx30 F) Try.f30 [] [.v 9 true] [.sl 0 3, .sl 0 3, .v 0 false []] h30 = (fun x : AT E.G.car [.v 9 true] => spill_Dirty F x.1) from funext fun x => e30 F x.1] at h⟩
theorem hf33 : Try.prog.funcs[33]? = some Try.f33 := by kernel_rfl
theorem en33 : Proofs.Enters Try.prog 33 := Proofs.enters_of hf33 (by kernel_rfl) rfl
noncomputable def kit_CopyInts (F : Nat) (a0 : List Int) : Option ((List Int)) :=
  chk (a0.length ≤ (1000000 : Nat)) (some (a0))
noncomputable def s33 (F : Nat) : CS E.G := ⟨33, [.sl 0], [.sl 0 3], fun x => kit_CopyInts F x.1⟩
noncomputable def cx33 (F : Nat) : Ctx E := ⟨[], [], F, []⟩
noncomputable def h33 : Hint := .n
theorem e33 (F : Nat) (a0 : List Int) : fnK (E := E) (cx33 F) Try.f33 [] [.sl 0] [.sl 0 3] h33 (a0, ()) = kit_CopyInts F a0 := by kernel_rfl
theorem c33 (F : Nat) : CSok E [] (s33 F) := ⟨en33, by
  have h := fn_sound (E := E) (gl := []) (cx := cx33 F) mix all0 inl0 rfl (fun _ h => nomatch h) hf33 (ps := [.sl 0]) (rs := [.sl 0 3]) (by decide) h33
  rwa [show fnK (E := E) (cx33 F) Try.f33 [] [.sl 0] [.sl 0 3] h33 = (fun x : AT E.G.car [.sl 0] => kit_CopyInts F x.1) from funext fun x => e33 F x.1] at h⟩
theorem hf93 : Try.prog.funcs[93]? = some Try.f93 := by kernel_rfl
theorem en93 : Proofs.Enters Try.prog 93 := Proofs.enters_of hf93 (by kernel_rfl) rfl
noncomputable def ref11_in (F : Nat) (a0 : Int) (a1 : Int) (a2 : Int) : Option (Bool) :=
  some (decide (a0 ≥ a1) && decide (a0 ≤ a2))
noncomputable def s93 (F : Nat) : CS E.G := ⟨93, [.v 0 false, .v 0 false, .v 0 false], [.v 1 false []], fun x => ref11_in F x.1 x.2.1 x.2.2.1⟩
noncomputable def cx93 (F : Nat) : Ctx E := ⟨[], [], F, []⟩
noncomputable def h93 : Hint := .n
theorem e93 (F : Nat) (a0 : Int) (a1 : Int) (a2 : Int) : fnK (E := E) (cx93 F) Try.f93 [] [.v 0 false, .v 0 false, .v 0 false] [.v 1 false []] h93 (a0, a1, a2, ()) = ref11_in F a0 a1 a2 := by kernel_rfl
theorem c93 (F : Nat) : CSok E [] (s93 F) := ⟨en93, by
  have h := fn_sound (E := E) (gl := []) (cx := cx93 F) mix all0 inl0 rfl (fun _ h => nomatch h) hf93 (ps := [.v 0 false, .v 0 false, .v 0 false]) (rs := [.v 1 false []]) (by decide) h93
  rwa [show fnK (E := E) (cx93 F) Try.f93 [] [.v 0 false, .v 0 false, .v 0 false] [.v 1 false []] h93 = (fun x : AT E.G.car [.v 0 false, .v 0 false, .v 0 false] => ref11_in F x.1 x.2.1 x.2.2.1) from funext fun x => e93 F x.1 x.2.1 x.2.2.1] at h⟩
theorem hf94 : Try.prog.funcs[94]? = some Try.f94 := by kernel_rfl
theorem en94 : Proofs.Enters Try.prog 94 := Proofs.enters_of hf94 (by kernel_rfl) rfl
noncomputable def ref11_span (F : Nat) (a0 : Span) (a1 : Int) : Option (Bool) :=
  some (decide (a0.Lo ≥ (0 : Int)) && decide (a0.Hi ≤ a1) && decide (a0.Lo ≤ a0.Hi))
noncomputable def s94 (F : Nat) : CS E.G := ⟨94, [.v 7 true, .v 0 false], [.v 1 false []], fun x => ref11_span F x.1 x.2.1⟩
noncomputable def cx94 (F : Nat) : Ctx E := ⟨[], [], F, []⟩
noncomputable def h94 : Hint := .n
theorem e94 (F : Nat) (a0 : Span) (a1 : Int) : fnK (E := E) (cx94 F) Try.f94 [] [.v 7 true, .v 0 false] [.v 1 false []] h94 (a0, a1, ()) = ref11_span F a0 a1 := by kernel_rfl
theorem c94 (F : Nat) : CSok E [] (s94 F) := ⟨en94, by
  have h := fn_sound (E := E) (gl := []) (cx := cx94 F) mix all0 inl0 rfl (fun _ h => nomatch h) hf94 (ps := [.v 7 true, .v 0 false]) (rs := [.v 1 false []]) (by decide) h94
  rwa [show fnK (E := E) (cx94 F) Try.f94 [] [.v 7 true, .v 0 false] [.v 1 false []] h94 = (fun x : AT E.G.car [.v 7 true, .v 0 false] => ref11_span F x.1 x.2.1) from funext fun x => e94 F x.1 x.2.1] at h⟩
theorem hf35 : Try.prog.funcs[35]? = some Try.f35 := by kernel_rfl
theorem en35 : Proofs.Enters Try.prog 35 := Proofs.enters_of hf35 (by kernel_rfl) rfl
noncomputable def ref11_Check (F : Nat) (a0 : Field) : Option (Int) :=
  bnd (ref11_in F a0.W (1 : Int) (8 : Int)) (fun (x : Bool) => bnd (brk (!!x) (ref11_in F a0.H (1 : Int) (8 : Int)) (some false)) (fun (x_1 : Bool) => brk (!x || !x_1) (some ((6 : Int))) (chk (InR (a0.W * a0.H)) (brk ((↑a0.Cells.length : Int) != a0.W * a0.H) (some ((1 : Int))) (loopC (fun (x_2 : Int) => fun x_3 => brk (decide (x_2 < (↑a0.Cells.length : Int))) (chk ((0 : Int) ≤ x_2 ∧ x_2 < (↑a0.Cells.length : Int)) (bnd (ref11_span F (Span.mk (a0.Cells.getD (Int.toNat x_2) (Span.mk (0 : Int) (0 : Int))).Lo (a0.Cells.getD (Int.toNat x_2) (Span.mk (0 : Int) (0 : Int))).Hi) (1000000 : Int)) (fun (x_4 : Bool) => brk (!x_4) (some ((120 : Int))) (chk (InR (x_2 + (1 : Int))) (x_3 (x_2 + (1 : Int))))))) (some ((0 : Int)))) (F) ((0 : Int)))))))
noncomputable def s35 (F : Nat) : CS E.G := ⟨35, [.v 9 true], [.v 0 false []], fun x => ref11_Check F x.1⟩
noncomputable def cx35 (F : Nat) : Ctx E := ⟨[s93 F, s94 F], [], F, []⟩
noncomputable def h35 : Hint := (.c .n (.c .n (.l ⟨[.i], [16], [1, 0], [(48, .i IntKind.i64)], [], [], [], 2⟩ (.c .n .n))))
theorem e35 (F : Nat) (a0 : Field) : fnK (E := E) (cx35 F) Try.f35 [] [.v 9 true] [.v 0 false []] h35 (a0, ()) = ref11_Check F a0 := by kernel_rfl
theorem c35 (F : Nat) : CSok E [] (s35 F) := ⟨en35, by
  have h := fn_sound (E := E) (gl := []) (cx := cx35 F) mix (allC (c93 F) (allC (c94 F) all0)) inl0 rfl (fun _ h => nomatch h) hf35 (ps := [.v 9 true]) (rs := [.v 0 false []]) (by decide) h35
  rwa [show fnK (E := E) (cx35 F) Try.f35 [] [.v 9 true] [.v 0 false []] h35 = (fun x : AT E.G.car [.v 9 true] => ref11_Check F x.1) from funext fun x => e35 F x.1] at h⟩
theorem hf134 : Try.prog.funcs[134]? = some Try.f134 := by kernel_rfl
theorem en134 : Proofs.Enters Try.prog 134 := Proofs.enters_of hf134 (by kernel_rfl) rfl
noncomputable def ref11_Neighbours (F : Nat) (a0 : Int) (a1 : Int) (a2 : Int) : Option ((List Int)) :=
  chk (((0 : Int) ≤ a2 ∧ a2 ≤ (9223372036854775807 : Int)) ∧ (0 : Int) < a0) (chk (((0 : Int) ≤ a2 ∧ a2 ≤ (9223372036854775807 : Int)) ∧ (0 : Int) < a0) (join (fun (x : List (Int)) => join (fun (x_1 : List (Int)) => join (fun (x_2 : List (Int)) => join (fun (x_3 : List (Int)) => some (x_3)) (fun x_3 => brk (decide (a2 % a0 > (0 : Int))) (chk (InR (a2 - (1 : Int))) (chk (List.length x_2 + [a2 - (1 : Int)].length ≤ (1000000 : Nat)) (x_3 (x_2 ++ [a2 - (1 : Int)])))) (x_3 (x_2)))) (fun x_2 => chk (InR (a1 - (1 : Int))) (brk (decide (a2 / a0 < a1 - (1 : Int))) (chk (InR (a2 + a0)) (chk (List.length x_1 + [a2 + a0].length ≤ (1000000 : Nat)) (x_2 (x_1 ++ [a2 + a0])))) (x_2 (x_1))))) (fun x_1 => chk (InR (a0 - (1 : Int))) (brk (decide (a2 % a0 < a0 - (1 : Int))) (chk (InR (a2 + (1 : Int))) (chk (List.length x + [a2 + (1 : Int)].length ≤ (1000000 : Nat)) (x_1 (x ++ [a2 + (1 : Int)])))) (x_1 (x))))) (fun x => brk (decide (a2 / a0 > (0 : Int))) (chk (InR (a2 - a0)) (chk ([a2 - a0].length ≤ (1000000 : Nat)) (x ([a2 - a0])))) (x ([])))))
noncomputable def s134 (F : Nat) : CS E.G := ⟨134, [.v 0 false, .v 0 false, .v 0 false], [.sl 0 3], fun x => ref11_Neighbours F x.1 x.2.1 x.2.2.1⟩
noncomputable def cx134 (F : Nat) : Ctx E := ⟨[], [], F, []⟩
noncomputable def h134 : Hint := (.k (.k (.k (.j ⟨[.l 0], [0, 16, 32, 128, 112], [], [(144, .h 0 3 0)], [], [], [], 1⟩ .n (.j ⟨[.l 0], [0, 16, 32, 128, 112], [], [(144, .h 1 3 0)], [], [], [], 2⟩ .n (.j ⟨[.l 0], [32, 112], [], [(144, .h 2 3 0)], [], [], [], 3⟩ .n (.j ⟨[.l 0], [], [], [(144, .h 3 3 0)], [], [], [], 4⟩ .n .n)))))))
theorem e134 (F : Nat) (a0 : Int) (a1 : Int) (a2 : Int) : fnK (E := E) (cx134 F) Try.f134 [] [.v 0 false, .v 0 false, .v 0 false] [.sl 0 3] h134 (a0, a1, a2, ()) = ref11_Neighbours F a0 a1 a2 := by kernel_rfl
theorem c134 (F : Nat) : CSok E [] (s134 F) := ⟨en134, by
  have h := fn_sound (E := E) (gl := []) (cx := cx134 F) mix all0 inl0 rfl (fun _ h => nomatch h) hf134 (ps := [.v 0 false, .v 0 false, .v 0 false]) (rs := [.sl 0 3]) (by decide) h134
  rwa [show fnK (E := E) (cx134 F) Try.f134 [] [.v 0 false, .v 0 false, .v 0 false] [.sl 0 3] h134 = (fun x : AT E.G.car [.v 0 false, .v 0 false, .v 0 false] => ref11_Neighbours F x.1 x.2.1 x.2.2.1) from funext fun x => e134 F x.1 x.2.1 x.2.2.1] at h⟩
theorem hf135 : Try.prog.funcs[135]? = some Try.f135 := by kernel_rfl
theorem en135 : Proofs.Enters Try.prog 135 := Proofs.enters_of hf135 (by kernel_rfl) rfl
noncomputable def ref11_off (F : Nat) (a0 : Int) (a1 : Int) : Option (Int) :=
  brk (decide (a0 ≤ a1)) (some ((0 : Int))) (chk (InR (a0 - a1)) (chk ((0 : Int) ≤ a0 - a1 ∧ a0 - a1 ≤ (9223372036854775807 : Int)) (some ((a0 - a1) / (2 : Int)))))
noncomputable def s135 (F : Nat) : CS E.G := ⟨135, [.v 0 false, .v 0 false], [.v 0 false []], fun x => ref11_off F x.1 x.2.1⟩
noncomputable def cx135 (F : Nat) : Ctx E := ⟨[], [], F, []⟩
noncomputable def h135 : Hint := .n
theorem e135 (F : Nat) (a0 : Int) (a1 : Int) : fnK (E := E) (cx135 F) Try.f135 [] [.v 0 false, .v 0 false] [.v 0 false []] h135 (a0, a1, ()) = ref11_off F a0 a1 := by kernel_rfl
theorem c135 (F : Nat) : CSok E [] (s135 F) := ⟨en135, by
  have h := fn_sound (E := E) (gl := []) (cx := cx135 F) mix all0 inl0 rfl (fun _ h => nomatch h) hf135 (ps := [.v 0 false, .v 0 false]) (rs := [.v 0 false []]) (by decide) h135
  rwa [show fnK (E := E) (cx135 F) Try.f135 [] [.v 0 false, .v 0 false] [.v 0 false []] h135 = (fun x : AT E.G.car [.v 0 false, .v 0 false] => ref11_off F x.1 x.2.1) from funext fun x => e135 F x.1 x.2.1] at h⟩
theorem hf136 : Try.prog.funcs[136]? = some Try.f136 := by kernel_rfl
theorem en136 : Proofs.Enters Try.prog 136 := Proofs.enters_of hf136 (by kernel_rfl) rfl
noncomputable def ref11_Given (F : Nat) (a0 : Int) (a1 : Int) (a2 : Int) (a3 : Int) (a4 : Int) (a5 : Int) : Option (Int) :=
  bnd (ref11_Neighbours F a0 a1 a2) (fun (x : List (Int)) => loopC (fun (x_1 : Int) => fun x_2 => brk (decide (x_1 < (↑(List.length x) : Int))) (chk ((0 : Int) ≤ x_1 ∧ x_1 < (↑(List.length x) : Int)) (brk (List.getD x (Int.toNat x_1) (0 : Int) == a3) (bnd (ref11_off F a4 a5) (fun (x_3 : Int) => chk (InR (x_3 + x_1)) (chk (((0 : Int) ≤ x_3 + x_1 ∧ x_3 + x_1 ≤ (9223372036854775807 : Int)) ∧ (0 : Int) < (↑(List.length x) : Int)) (some ((x_3 + x_1) / (↑(List.length x) : Int)))))) (chk (InR (x_1 + (1 : Int))) (x_2 (x_1 + (1 : Int)))))) (some ((0 : Int)))) (F) ((0 : Int)))
noncomputable def s136 (F : Nat) : CS E.G := ⟨136, [.v 0 false, .v 0 false, .v 0 false, .v 0 false, .v 0 false, .v 0 false], [.v 0 false []], fun x => ref11_Given F x.1 x.2.1 x.2.2.1 x.2.2.2.1 x.2.2.2.2.1 x.2.2.2.2.2.1⟩
noncomputable def cx136 (F : Nat) : Ctx E := ⟨[s134 F, s135 F], [], F, []⟩
noncomputable def h136 : Hint := (.l ⟨[.i], [64, 48, 80, 208], [0], [(224, .i IntKind.i64)], [], [], [], 1⟩ (.c .n .n))
theorem e136 (F : Nat) (a0 : Int) (a1 : Int) (a2 : Int) (a3 : Int) (a4 : Int) (a5 : Int) : fnK (E := E) (cx136 F) Try.f136 [] [.v 0 false, .v 0 false, .v 0 false, .v 0 false, .v 0 false, .v 0 false] [.v 0 false []] h136 (a0, a1, a2, a3, a4, a5, ()) = ref11_Given F a0 a1 a2 a3 a4 a5 := by kernel_rfl
theorem c136 (F : Nat) : CSok E [] (s136 F) := ⟨en136, by
  have h := fn_sound (E := E) (gl := []) (cx := cx136 F) mix (allC (c134 F) (allC (c135 F) all0)) inl0 rfl (fun _ h => nomatch h) hf136 (ps := [.v 0 false, .v 0 false, .v 0 false, .v 0 false, .v 0 false, .v 0 false]) (rs := [.v 0 false []]) (by decide) h136
  rwa [show fnK (E := E) (cx136 F) Try.f136 [] [.v 0 false, .v 0 false, .v 0 false, .v 0 false, .v 0 false, .v 0 false] [.v 0 false []] h136 = (fun x : AT E.G.car [.v 0 false, .v 0 false, .v 0 false, .v 0 false, .v 0 false, .v 0 false] => ref11_Given F x.1 x.2.1 x.2.2.1 x.2.2.2.1 x.2.2.2.2.1 x.2.2.2.2.2.1) from funext fun x => e136 F x.1 x.2.1 x.2.2.1 x.2.2.2.1 x.2.2.2.2.1 x.2.2.2.2.2.1] at h⟩
theorem hf95 : Try.prog.funcs[95]? = some Try.f95 := by kernel_rfl
theorem en95 : Proofs.Enters Try.prog 95 := Proofs.enters_of hf95 (by kernel_rfl) rfl
noncomputable def ref11_after (F : Nat) (a0 : Int) (a1 : Int) (a2 : Int) (a3 : List Int) (a4 : Int) (a5 : List Int) : Option (Int) :=
  bnd (ref11_Neighbours F a0 a1 a2) (fun (x : List (Int)) => brk ((↑(List.length x) : Int) == (0 : Int)) (chk ((0 : Int) ≤ a2 ∧ a2 < (↑a3.length : Int)) (some (a3.getD a2.toNat (0 : Int)))) (chk ((0 : Int) ≤ a2 ∧ a2 < (↑a3.length : Int)) (chk ((0 : Int) ≤ a2 ∧ a2 < (↑a3.length : Int)) (bnd (ref11_off F (a3.getD a2.toNat (0 : Int)) a4) (fun (x_1 : Int) => chk (InR (a3.getD a2.toNat (0 : Int) - x_1)) (loopC (fun (x_2 : (Int) × (Int)) => fun x_3 => brk (decide (x_2.snd < (↑(List.length x) : Int))) (chk ((0 : Int) ≤ x_2.snd ∧ x_2.snd < (↑(List.length x) : Int)) (chk ((0 : Int) ≤ x_2.snd ∧ x_2.snd < (↑(List.length x) : Int)) (chk ((0 : Int) ≤ List.getD x (Int.toNat x_2.snd) (0 : Int) ∧ List.getD x (Int.toNat x_2.snd) (0 : Int) < (↑a3.length : Int)) (chk ((0 : Int) ≤ x_2.snd ∧ x_2.snd < (↑(List.length x) : Int)) (chk ((0 : Int) ≤ List.getD x (Int.toNat x_2.snd) (0 : Int) ∧ List.getD x (Int.toNat x_2.snd) (0 : Int) < (↑a5.length : Int)) (bnd (ref11_Given F a0 a1 (List.getD x (Int.toNat x_2.snd) (0 : Int)) a2 (a3.getD (Int.toNat (List.getD x (Int.toNat x_2.snd) (0 : Int))) (0 : Int)) (a5.getD (Int.toNat (List.getD x (Int.toNat x_2.snd) (0 : Int))) (0 : Int))) (fun (x_4 : Int) => chk (InR (x_2.fst + x_4)) (chk (InR (x_2.snd + (1 : Int))) (x_3 ((x_2.fst + x_4, x_2.snd + (1 : Int)))))))))))) (some (x_2.fst))) (F) ((a3.getD a2.toNat (0 : Int) - x_1, (0 : Int)))))))))
noncomputable def s95 (F : Nat) : CS E.G := ⟨95, [.v 0 false, .v 0 false, .v 0 false, .sl 0, .v 0 false, .sl 0], [.v 0 false []], fun x => ref11_after F x.1 x.2.1 x.2.2.1 x.2.2.2.1 x.2.2.2.2.1 x.2.2.2.2.2.1⟩
noncomputable def cx95 (F : Nat) : Ctx E := ⟨[s134 F, s135 F, s136 F], [], F, []⟩
noncomputable def h95 : Hint := (.c .n (.l ⟨[.i, .i], [0, 16, 32, 48, 80, 208], [0, 1, 2], [(224, .i IntKind.i64), (240, .i IntKind.i64)], [], [], [], 3⟩ .n))
theorem e95 (F : Nat) (a0 : Int) (a1 : Int) (a2 : Int) (a3 : List Int) (a4 : Int) (a5 : List Int) : fnK (E := E) (cx95 F) Try.f95 [] [.v 0 false, .v 0 false, .v 0 false, .sl 0, .v 0 false, .sl 0] [.v 0 false []] h95 (a0, a1, a2, a3, a4, a5, ()) = ref11_after F a0 a1 a2 a3 a4 a5 := by kernel_rfl
theorem c95 (F : Nat) : CSok E [] (s95 F) := ⟨en95, by
  have h := fn_sound (E := E) (gl := []) (cx := cx95 F) mix (allC (c134 F) (allC (c135 F) (allC (c136 F) all0))) inl0 rfl (fun _ h => nomatch h) hf95 (ps := [.v 0 false, .v 0 false, .v 0 false, .sl 0, .v 0 false, .sl 0]) (rs := [.v 0 false []]) (by decide) h95
  rwa [show fnK (E := E) (cx95 F) Try.f95 [] [.v 0 false, .v 0 false, .v 0 false, .sl 0, .v 0 false, .sl 0] [.v 0 false []] h95 = (fun x : AT E.G.car [.v 0 false, .v 0 false, .v 0 false, .sl 0, .v 0 false, .sl 0] => ref11_after F x.1 x.2.1 x.2.2.1 x.2.2.2.1 x.2.2.2.2.1 x.2.2.2.2.2.1) from funext fun x => e95 F x.1 x.2.1 x.2.2.1 x.2.2.2.1 x.2.2.2.2.1 x.2.2.2.2.2.1] at h⟩
theorem hf36 : Try.prog.funcs[36]? = some Try.f36 := by kernel_rfl
theorem en36 : Proofs.Enters Try.prog 36 := Proofs.enters_of hf36 (by kernel_rfl) rfl
noncomputable def ref11_Flow (F : Nat) (a0 : Int) (a1 : Int) (a2 : List Int) (a3 : List Int) : Option ((List Int) × Int) :=
  bnd (ref11_in F a0 (1 : Int) (8 : Int)) (fun (x : Bool) => bnd (brk (!!x) (ref11_in F a1 (1 : Int) (8 : Int)) (some false)) (fun (x_1 : Bool) => brk (!x || !x_1) (some (([], (6 : Int)))) (chk (InR (a0 * a1)) (chk ((!(↑a2.length : Int) != a0 * a1) = true → InR (a0 * a1)) (brk ((↑a2.length : Int) != a0 * a1 || (↑a3.length : Int) != a0 * a1) (some (([], (1 : Int)))) (loopC (fun (x_2 : (Int) × (Int)) => fun x_3 => chk (InR (a0 * a1)) (brk (decide (x_2.snd < a0 * a1)) (chk ((0 : Int) ≤ x_2.snd ∧ x_2.snd < (↑a2.length : Int)) (bnd (ref11_in F (a2.getD (Int.toNat x_2.snd) (0 : Int)) (0 : Int) (1000000 : Int)) (fun (x_4 : Bool) => chk ((!!x_4) = true → (0 : Int) ≤ x_2.snd ∧ x_2.snd < (↑a3.length : Int)) (bnd (brk (!!x_4) (ref11_in F (a3.getD (Int.toNat x_2.snd) (0 : Int)) (0 : Int) (10000 : Int)) (some false)) (fun (x_5 : Bool) => brk (!x_4 || !x_5) (some (([], (120 : Int)))) (chk ((0 : Int) ≤ x_2.snd ∧ x_2.snd < (↑a2.length : Int)) (chk (InR (x_2.fst + a2.getD (Int.toNat x_2.snd) (0 : Int))) (chk (InR (x_2.snd + (1 : Int))) (x_3 ((x_2.fst + a2.getD (Int.toNat x_2.snd) (0 : Int), x_2.snd + (1 : Int)))))))))))) (brk (decide (x_2.fst > (1000000 : Int))) (some (([], (120 : Int)))) (loopC (fun (x_4 : (List (Int)) × (Int)) => fun x_5 => chk (InR (a0 * a1)) (brk (decide (x_4.snd < a0 * a1)) (chk ((0 : Int) ≤ x_4.snd ∧ x_4.snd < (↑a3.length : Int)) (bnd (ref11_after F a0 a1 x_4.snd a2 (a3.getD (Int.toNat x_4.snd) (0 : Int)) a3) (fun (x_6 : Int) => chk (List.length x_4.fst + [x_6].length ≤ (1000000 : Nat)) (chk (InR (x_4.snd + (1 : Int))) (x_5 ((x_4.fst ++ [x_6], x_4.snd + (1 : Int)))))))) (some ((x_4.fst, (0 : Int)))))) (F) (([], (0 : Int))))))) (F) (((0 : Int), (0 : Int)))))))))
noncomputable def s36 (F : Nat) : CS E.G := ⟨36, [.v 0 false, .v 0 false, .sl 0, .sl 0], [.sl 0 3, .v 0 false []], fun x => ref11_Flow F x.1 x.2.1 x.2.2.1 x.2.2.2.1⟩
noncomputable def cx36 (F : Nat) : Ctx E := ⟨[s93 F, s95 F], [], F, []⟩
noncomputable def h36 : Hint := (.c .n (.c .n (.l ⟨[.i, .i], [0, 16, 32, 48], [0, 1], [(160, .i IntKind.i64), (176, .i IntKind.i64)], [], [], [], 2⟩ (.c .n (.c .n (.l ⟨[.l 0, .i], [0, 16, 32, 48], [0, 1], [(192, .h 2 3 0), (208, .i IntKind.i64)], [], [], [], 3⟩ .n))))))
theorem e36 (F : Nat) (a0 : Int) (a1 : Int) (a2 : List Int) (a3 : List Int) : fnK (E := E) (cx36 F) Try.f36 [] [.v 0 false, .v 0 false, .sl 0, .sl 0] [.sl 0 3, .v 0 false []] h36 (a0, a1, a2, a3, ()) = ref11_Flow F a0 a1 a2 a3 := by kernel_rfl
theorem c36 (F : Nat) : CSok E [] (s36 F) := ⟨en36, by
  have h := fn_sound (E := E) (gl := []) (cx := cx36 F) mix (allC (c93 F) (allC (c95 F) all0)) inl0 rfl (fun _ h => nomatch h) hf36 (ps := [.v 0 false, .v 0 false, .sl 0, .sl 0]) (rs := [.sl 0 3, .v 0 false []]) (by decide) h36
  rwa [show fnK (E := E) (cx36 F) Try.f36 [] [.v 0 false, .v 0 false, .sl 0, .sl 0] [.sl 0 3, .v 0 false []] h36 = (fun x : AT E.G.car [.v 0 false, .v 0 false, .sl 0, .sl 0] => ref11_Flow F x.1 x.2.1 x.2.2.1 x.2.2.2.1) from funext fun x => e36 F x.1 x.2.1 x.2.2.1 x.2.2.2.1] at h⟩
theorem hf37 : Try.prog.funcs[37]? = some Try.f37 := by kernel_rfl
theorem en37 : Proofs.Enters Try.prog 37 := Proofs.enters_of hf37 (by kernel_rfl) rfl
noncomputable def kit_SameInts (F : Nat) (a0 : List Int) (a1 : List Int) : Option (Bool) :=
  brk ((↑a0.length : Int) != (↑a1.length : Int)) (some (false)) (loopC (fun (x : Int) => fun x_1 => brk (decide (x < (↑a0.length : Int))) (chk ((0 : Int) ≤ x ∧ x < (↑a0.length : Int)) (chk ((0 : Int) ≤ x ∧ x < (↑a1.length : Int)) (brk (a0.getD (Int.toNat x) (0 : Int) != a1.getD (Int.toNat x) (0 : Int)) (some (false)) (chk (InR (x + (1 : Int))) (x_1 (x + (1 : Int))))))) (some (true))) (F) ((0 : Int)))
noncomputable def s37 (F : Nat) : CS E.G := ⟨37, [.sl 0, .sl 0], [.v 1 false []], fun x => kit_SameInts F x.1 x.2.1⟩
noncomputable def cx37 (F : Nat) : Ctx E := ⟨[], [], F, []⟩
noncomputable def h37 : Hint := (.c .n (.l ⟨[.i], [0, 16], [0, 1], [(80, .i IntKind.i64)], [], [], [], 2⟩ (.c .n .n)))
theorem e37 (F : Nat) (a0 : List Int) (a1 : List Int) : fnK (E := E) (cx37 F) Try.f37 [] [.sl 0, .sl 0] [.v 1 false []] h37 (a0, a1, ()) = kit_SameInts F a0 a1 := by kernel_rfl
theorem c37 (F : Nat) : CSok E [] (s37 F) := ⟨en37, by
  have h := fn_sound (E := E) (gl := []) (cx := cx37 F) mix all0 inl0 rfl (fun _ h => nomatch h) hf37 (ps := [.sl 0, .sl 0]) (rs := [.v 1 false []]) (by decide) h37
  rwa [show fnK (E := E) (cx37 F) Try.f37 [] [.sl 0, .sl 0] [.v 1 false []] h37 = (fun x : AT E.G.car [.sl 0, .sl 0] => kit_SameInts F x.1 x.2.1) from funext fun x => e37 F x.1 x.2.1] at h⟩
theorem hf96 : Try.prog.funcs[96]? = some Try.f96 := by kernel_rfl
theorem en96 : Proofs.Enters Try.prog 96 := Proofs.enters_of hf96 (by kernel_rfl) rfl
noncomputable def ref11_begun (F : Nat) (a0 : Field) (a1 : List Span) : Option (Int) :=
  bnd (ref11_Check F (Field.mk a0.W a0.H (a0.Cells))) (fun (x : Int) => brk (x != (0 : Int)) (some (x)) (brk ((↑a1.length : Int) != (↑a0.Cells.length : Int)) (some ((1 : Int))) (loopC (fun (x_1 : Int) => fun x_2 => brk (decide (x_1 < (↑a1.length : Int))) (chk ((0 : Int) ≤ x_1 ∧ x_1 < (↑a1.length : Int)) (bnd (ref11_span F (Span.mk (a1.getD (Int.toNat x_1) (Span.mk (0 : Int) (0 : Int))).Lo (a1.getD (Int.toNat x_1) (Span.mk (0 : Int) (0 : Int))).Hi) (10000 : Int)) (fun (x_3 : Bool) => brk (!x_3) (some ((120 : Int))) (chk (InR (x_1 + (1 : Int))) (x_2 (x_1 + (1 : Int))))))) (some ((0 : Int)))) (F) ((0 : Int)))))
noncomputable def s96 (F : Nat) : CS E.G := ⟨96, [.v 9 true, .sl 7], [.v 0 false []], fun x => ref11_begun F x.1 x.2.1⟩
noncomputable def cx96 (F : Nat) : Ctx E := ⟨[s35 F, s94 F], [], F, []⟩
noncomputable def h96 : Hint := (.c .n (.c .n (.l ⟨[.i], [16], [1], [(96, .i IntKind.i64)], [], [], [], 3⟩ (.c .n .n))))
theorem e96 (F : Nat) (a0 : Field) (a1 : List Span) : fnK (E := E) (cx96 F) Try.f96 [] [.v 9 true, .sl 7] [.v 0 false []] h96 (a0, a1, ()) = ref11_begun F a0 a1 := by kernel_rfl
theorem c96 (F : Nat) : CSok E [] (s96 F) := ⟨en96, by
  have h := fn_sound (E := E) (gl := []) (cx := cx96 F) mix (allC (c35 F) (allC (c94 F) all0)) inl0 rfl (fun _ h => nomatch h) hf96 (ps := [.v 9 true, .sl 7]) (rs := [.v 0 false []]) (by decide) h96
  rwa [show fnK (E := E) (cx96 F) Try.f96 [] [.v 9 true, .sl 7] [.v 0 false []] h96 = (fun x : AT E.G.car [.v 9 true, .sl 7] => ref11_begun F x.1 x.2.1) from funext fun x => e96 F x.1 x.2.1] at h⟩
theorem hf97 : Try.prog.funcs[97]? = some Try.f97 := by kernel_rfl
theorem en97 : Proofs.Enters Try.prog 97 := Proofs.enters_of hf97 (by kernel_rfl) rfl
noncomputable def ref11_hour (F : Nat) (a0 : Field) (a1 : List Span) : Option (Field) :=
  loopC (fun (x : (List (Int)) × ((List (Int)) × ((List (Int)) × ((Int) × (List (Int)))))) => fun x_1 => brk (decide (x.snd.snd.snd.fst < (↑a0.Cells.length : Int))) (chk ((0 : Int) ≤ x.snd.snd.snd.fst ∧ x.snd.snd.snd.fst < (↑a0.Cells.length : Int)) (chk (List.length x.snd.snd.fst + [(a0.Cells.getD (Int.toNat x.snd.snd.snd.fst) (Span.mk (0 : Int) (0 : Int))).Lo].length ≤ (1000000 : Nat)) (chk ((0 : Int) ≤ x.snd.snd.snd.fst ∧ x.snd.snd.snd.fst < (↑a0.Cells.length : Int)) (chk (List.length x.snd.fst + [(a0.Cells.getD (Int.toNat x.snd.snd.snd.fst) (Span.mk (0 : Int) (0 : Int))).Hi].length ≤ (1000000 : Nat)) (chk ((0 : Int) ≤ x.snd.snd.snd.fst ∧ x.snd.snd.snd.fst < (↑a1.length : Int)) (chk (List.length x.snd.snd.snd.snd + [(a1.getD (Int.toNat x.snd.snd.snd.fst) (Span.mk (0 : Int) (0 : Int))).Lo].length ≤ (1000000 : Nat)) (chk ((0 : Int) ≤ x.snd.snd.snd.fst ∧ x.snd.snd.snd.fst < (↑a1.length : Int)) (chk (List.length x.fst + [(a1.getD (Int.toNat x.snd.snd.snd.fst) (Span.mk (0 : Int) (0 : Int))).Hi].length ≤ (1000000 : Nat)) (chk (InR (x.snd.snd.snd.fst + (1 : Int))) (x_1 ((x.fst ++ [(a1.getD (Int.toNat x.snd.snd.snd.fst) (Span.mk (0 : Int) (0 : Int))).Hi], x.snd.fst ++ [(a0.Cells.getD (Int.toNat x.snd.snd.snd.fst) (Span.mk (0 : Int) (0 : Int))).Hi], x.snd.snd.fst ++ [(a0.Cells.getD (Int.toNat x.snd.snd.snd.fst) (Span.mk (0 : Int) (0 : Int))).Lo], x.snd.snd.snd.fst + (1 : Int), x.snd.snd.snd.snd ++ [(a1.getD (Int.toNat x.snd.snd.snd.fst) (Span.mk (0 : Int) (0 : Int))).Lo])))))))))))) (loopC (fun (x_2 : (Int) × (List (Span))) => fun x_3 => brk (decide (x_2.fst < (↑a0.Cells.length : Int))) (chk ((0 : Int) ≤ x_2.fst ∧ x_2.fst < (↑(List.length x.snd.snd.snd.snd) : Int)) (bnd (ref11_after F a0.W a0.H x_2.fst x.snd.snd.fst (List.getD x.snd.snd.snd.snd (Int.toNat x_2.fst) (0 : Int)) x.fst) (fun (x_4 : Int) => chk ((0 : Int) ≤ x_2.fst ∧ x_2.fst < (↑(List.length x.fst) : Int)) (bnd (ref11_after F a0.W a0.H x_2.fst x.snd.fst (List.getD x.fst (Int.toNat x_2.fst) (0 : Int)) x.snd.snd.snd.snd) (fun (x_5 : Int) => chk (List.length x_2.snd + [Span.mk (if (1000000 : Int) < x_4 then (1000000 : Int) else x_4) (if (1000000 : Int) < x_5 then (1000000 : Int) else x_5)].length ≤ (1000000 : Nat)) (chk (InR (x_2.fst + (1 : Int))) (x_3 ((x_2.fst + (1 : Int), x_2.snd ++ [Span.mk (if (1000000 : Int) < x_4 then (1000000 : Int) else x_4) (if (1000000 : Int) < x_5 then (1000000 : Int) else x_5)]))))))))) (some (Field.mk a0.W a0.H (x_2.snd)))) (F) (((0 : Int), [])))) (F) (([], [], [], (0 : Int), []))
noncomputable def s97 (F : Nat) : CS E.G := ⟨97, [.v 9 true, .sl 7], [.v 9 true [34]], fun x => ref11_hour F x.1 x.2.1⟩
noncomputable def cx97 (F : Nat) : Ctx E := ⟨[s95 F], [], F, []⟩
noncomputable def h97 : Hint := (.l ⟨[.l 0, .l 0, .l 0, .i, .l 0], [16, 32, 64], [1, 2, 3, 0], [(128, .h 4 3 0), (96, .h 5 3 0), (80, .h 6 3 0), (144, .i IntKind.i64), (112, .h 7 3 0)], [], [], [], 8⟩ (.c .n (.l ⟨[.i, .l 7], [32, 64, 128, 96, 160, 80, 112], [2, 3, 4, 5, 8, 6, 7, 0], [(176, .i IntKind.i64)], [], [(8, 2, .h 9 34 7)], [], 10⟩ .n)))
theorem e97 (F : Nat) (a0 : Field) (a1 : List Span) : fnK (E := E) (cx97 F) Try.f97 [] [.v 9 true, .sl 7] [.v 9 true [34]] h97 (a0, a1, ()) = ref11_hour F a0 a1 := by kernel_rfl
theorem c97 (F : Nat) : CSok E [] (s97 F) := ⟨en97, by
  have h := fn_sound (E := E) (gl := []) (cx := cx97 F) mix (allC (c95 F) all0) inl0 rfl (fun _ h => nomatch h) hf97 (ps := [.v 9 true, .sl 7]) (rs := [.v 9 true [34]]) (by decide) h97
  rwa [show fnK (E := E) (cx97 F) Try.f97 [] [.v 9 true, .sl 7] [.v 9 true [34]] h97 = (fun x : AT E.G.car [.v 9 true, .sl 7] => ref11_hour F x.1 x.2.1) from funext fun x => e97 F x.1 x.2.1] at h⟩
theorem hf38 : Try.prog.funcs[38]? = some Try.f38 := by kernel_rfl
theorem en38 : Proofs.Enters Try.prog 38 := Proofs.enters_of hf38 (by kernel_rfl) rfl
noncomputable def ref11_Spread (F : Nat) (a0 : Field) (a1 : List Span) (a2 : Int) : Option (Field × Int) :=
  bnd (ref11_begun F (Field.mk a0.W a0.H (a0.Cells)) a1) (fun (x : Int) => brk (x != (0 : Int)) (some ((Field.mk (0 : Int) (0 : Int) ([]), x))) (bnd (ref11_in F a2 (0 : Int) (48 : Int)) (fun (x_1 : Bool) => brk (!x_1) (some ((Field.mk (0 : Int) (0 : Int) ([]), (6 : Int)))) (loopC (fun (x_2 : (Int) × ((List (Span)) × ((Int) × (Int)))) => fun x_3 => brk (decide (x_2.fst < a2)) (bnd (ref11_hour F (Field.mk x_2.snd.snd.snd x_2.snd.snd.fst (x_2.snd.fst)) a1) (fun (x_4 : Field) => chk (InR (x_2.fst + (1 : Int))) (x_3 ((x_2.fst + (1 : Int), x_4.Cells, x_4.H, x_4.W))))) (some ((Field.mk x_2.snd.snd.snd x_2.snd.snd.fst (x_2.snd.fst), (0 : Int))))) (F) (((0 : Int), a0.Cells, a0.H, a0.W))))))
noncomputable def s38 (F : Nat) : CS E.G := ⟨38, [.v 9 true, .sl 7, .v 0 false], [.r 9 true, .v 0 false []], fun x => ref11_Spread F x.1 x.2.1 x.2.2.1⟩
noncomputable def cx38 (F : Nat) : Ctx E := ⟨[s93 F, s96 F, s97 F], [], F, []⟩
noncomputable def h38 : Hint := (.c .n (.c .n (.l ⟨[.i, .l 7, .i, .i], [16, 32, 96, 48], [1, 3, 2], [(144, .i IntKind.i64)], [], [(2, 2, .x 4 7), (2, 1, .i IntKind.i64), (2, 0, .i IntKind.i64)], [], 5⟩ .n)))
theorem e38 (F : Nat) (a0 : Field) (a1 : List Span) (a2 : Int) : fnK (E := E) (cx38 F) Try.f38 [] [.v 9 true, .sl 7, .v 0 false] [.r 9 true, .v 0 false []] h38 (a0, a1, a2, ()) = ref11_Spread F a0 a1 a2 := by kernel_rfl
theorem c38 (F : Nat) : CSok E [] (s38 F) := ⟨en38, by
  have h := fn_sound (E := E) (gl := []) (cx := cx38 F) mix (allC (c93 F) (allC (c96 F) (allC (c97 F) all0))) inl0 rfl (fun _ h => nomatch h) hf38 (ps := [.v 9 true, .sl 7, .v 0 false]) (rs := [.r 9 true, .v 0 false []]) (by decide) h38
  rwa [show fnK (E := E) (cx38 F) Try.f38 [] [.v 9 true, .sl 7, .v 0 false] [.r 9 true, .v 0 false []] h38 = (fun x : AT E.G.car [.v 9 true, .sl 7, .v 0 false] => ref11_Spread F x.1 x.2.1 x.2.2.1) from funext fun x => e38 F x.1 x.2.1 x.2.2.1] at h⟩
theorem hf39 : Try.prog.funcs[39]? = some Try.f39 := by kernel_rfl
theorem en39 : Proofs.Enters Try.prog 39 := Proofs.enters_of hf39 (by kernel_rfl) rfl
noncomputable def ref11_Holds (F : Nat) (a0 : Field) (a1 : List Int) : Option (Bool × Int) :=
  bnd (ref11_Check F (Field.mk a0.W a0.H (a0.Cells))) (fun (x : Int) => brk (x != (0 : Int)) (some ((false, x))) (brk ((↑a1.length : Int) != (↑a0.Cells.length : Int)) (some ((false, (1 : Int)))) (loopC (fun (x_1 : Int) => fun x_2 => brk (decide (x_1 < (↑a1.length : Int))) (chk ((0 : Int) ≤ x_1 ∧ x_1 < (↑a1.length : Int)) (chk ((0 : Int) ≤ x_1 ∧ x_1 < (↑a0.Cells.length : Int)) (chk ((!decide (a1.getD (Int.toNat x_1) (0 : Int) < (a0.Cells.getD (Int.toNat x_1) (Span.mk (0 : Int) (0 : Int))).Lo)) = true → (0 : Int) ≤ x_1 ∧ x_1 < (↑a1.length : Int)) (chk ((!decide (a1.getD (Int.toNat x_1) (0 : Int) < (a0.Cells.getD (Int.toNat x_1) (Span.mk (0 : Int) (0 : Int))).Lo)) = true → (0 : Int) ≤ x_1 ∧ x_1 < (↑a0.Cells.length : Int)) (brk (decide (a1.getD (Int.toNat x_1) (0 : Int) < (a0.Cells.getD (Int.toNat x_1) (Span.mk (0 : Int) (0 : Int))).Lo) || decide (a1.getD (Int.toNat x_1) (0 : Int) > (a0.Cells.getD (Int.toNat x_1) (Span.mk (0 : Int) (0 : Int))).Hi)) (some ((false, (0 : Int)))) (chk (InR (x_1 + (1 : Int))) (x_2 (x_1 + (1 : Int))))))))) (some ((true, (0 : Int))))) (F) ((0 : Int)))))
noncomputable def s39 (F : Nat) : CS E.G := ⟨39, [.v 9 true, .sl 0], [.v 1 false [], .v 0 false []], fun x => ref11_Holds F x.1 x.2.1⟩
noncomputable def cx39 (F : Nat) : Ctx E := ⟨[s35 F], [], F, []⟩
noncomputable def h39 : Hint := (.c .n (.c .n (.l ⟨[.i], [16, 32], [1, 2, 0], [(112, .i IntKind.i64)], [], [], [], 3⟩ (.c .n .n))))
theorem e39 (F : Nat) (a0 : Field) (a1 : List Int) : fnK (E := E) (cx39 F) Try.f39 [] [.v 9 true, .sl 0] [.v 1 false [], .v 0 false []] h39 (a0, a1, ()) = ref11_Holds F a0 a1 := by kernel_rfl
theorem c39 (F : Nat) : CSok E [] (s39 F) := ⟨en39, by
  have h := fn_sound (E := E) (gl := []) (cx := cx39 F) mix (allC (c35 F) all0) inl0 rfl (fun _ h => nomatch h) hf39 (ps := [.v 9 true, .sl 0]) (rs := [.v 1 false [], .v 0 false []]) (by decide) h39
  rwa [show fnK (E := E) (cx39 F) Try.f39 [] [.v 9 true, .sl 0] [.v 1 false [], .v 0 false []] h39 = (fun x : AT E.G.car [.v 9 true, .sl 0] => ref11_Holds F x.1 x.2.1) from funext fun x => e39 F x.1 x.2.1] at h⟩
theorem hf40 : Try.prog.funcs[40]? = some Try.f40 := by kernel_rfl
theorem en40 : Proofs.Enters Try.prog 40 := Proofs.enters_of hf40 (by kernel_rfl) rfl
noncomputable def ref11_Total (F : Nat) (a0 : Field) : Option (Span × Int) :=
  bnd (ref11_Check F (Field.mk a0.W a0.H (a0.Cells))) (fun (x : Int) => brk (x != (0 : Int)) (some ((Span.mk (0 : Int) (0 : Int), x))) (loopC (fun (x_1 : (Int) × ((Int) × (Int))) => fun x_2 => brk (decide (x_1.fst < (↑a0.Cells.length : Int))) (chk ((0 : Int) ≤ x_1.fst ∧ x_1.fst < (↑a0.Cells.length : Int)) (chk (InR (x_1.snd.snd + (a0.Cells.getD (Int.toNat x_1.fst) (Span.mk (0 : Int) (0 : Int))).Lo)) (chk ((0 : Int) ≤ x_1.fst ∧ x_1.fst < (↑a0.Cells.length : Int)) (chk (InR (x_1.snd.fst + (a0.Cells.getD (Int.toNat x_1.fst) (Span.mk (0 : Int) (0 : Int))).Hi)) (chk (InR (x_1.fst + (1 : Int))) (x_2 ((x_1.fst + (1 : Int), x_1.snd.fst + (a0.Cells.getD (Int.toNat x_1.fst) (Span.mk (0 : Int) (0 : Int))).Hi, x_1.snd.snd + (a0.Cells.getD (Int.toNat x_1.fst) (Span.mk (0 : Int) (0 : Int))).Lo)))))))) (some ((Span.mk x_1.snd.snd x_1.snd.fst, (0 : Int))))) (F) (((0 : Int), (0 : Int), (0 : Int)))))
noncomputable def s40 (F : Nat) : CS E.G := ⟨40, [.v 9 true], [.v 7 true [], .v 0 false []], fun x => ref11_Total F x.1⟩
noncomputable def cx40 (F : Nat) : Ctx E := ⟨[s35 F], [], F, []⟩
noncomputable def h40 : Hint := (.c .n (.l ⟨[.i, .i, .i], [16, 32, 80], [1, 2, 3, 0], [(96, .i IntKind.i64)], [], [(3, 1, .i IntKind.i64), (3, 0, .i IntKind.i64)], [], 4⟩ .n))
theorem e40 (F : Nat) (a0 : Field) : fnK (E := E) (cx40 F) Try.f40 [] [.v 9 true] [.v 7 true [], .v 0 false []] h40 (a0, ()) = ref11_Total F a0 := by kernel_rfl
theorem c40 (F : Nat) : CSok E [] (s40 F) := ⟨en40, by
  have h := fn_sound (E := E) (gl := []) (cx := cx40 F) mix (allC (c35 F) all0) inl0 rfl (fun _ h => nomatch h) hf40 (ps := [.v 9 true]) (rs := [.v 7 true [], .v 0 false []]) (by decide) h40
  rwa [show fnK (E := E) (cx40 F) Try.f40 [] [.v 9 true] [.v 7 true [], .v 0 false []] h40 = (fun x : AT E.G.car [.v 9 true] => ref11_Total F x.1) from funext fun x => e40 F x.1] at h⟩
theorem hf41 : Try.prog.funcs[41]? = some Try.f41 := by kernel_rfl
theorem en41 : Proofs.Enters Try.prog 41 := Proofs.enters_of hf41 (by kernel_rfl) rfl
noncomputable def ref11_Tighten (F : Nat) (a0 : Field) (a1 : Span) : Option (Field × Int) :=
  bnd (ref11_Check F (Field.mk a0.W a0.H (a0.Cells))) (fun (x : Int) => brk (x != (0 : Int)) (some ((Field.mk (0 : Int) (0 : Int) ([]), x))) (bnd (ref11_span F (Span.mk a1.Lo a1.Hi) (1000000 : Int)) (fun (x_1 : Bool) => brk (!x_1) (some ((Field.mk (0 : Int) (0 : Int) ([]), (6 : Int)))) (bnd (ref11_Total F (Field.mk a0.W a0.H (a0.Cells))) (fun (x_2 : (Span) × (Int)) => brk (decide (x_2.fst.Hi < a1.Lo) || decide (x_2.fst.Lo > a1.Hi)) (some ((Field.mk (0 : Int) (0 : Int) ([]), (21 : Int)))) (loopC (fun (x_3 : (Int) × (List (Span))) => fun x_4 => brk (decide (x_3.fst < (↑a0.Cells.length : Int))) (chk ((0 : Int) ≤ x_3.fst ∧ x_3.fst < (↑a0.Cells.length : Int)) (loopC (fun (x_5 : (Int) × ((Int) × (Int))) => fun x_6 => brk (decide (x_5.snd.fst < (↑a0.Cells.length : Int))) (join (fun (x_7 : (Int) × (Int)) => chk (InR (x_5.snd.fst + (1 : Int))) (x_6 ((x_7.fst, x_5.snd.fst + (1 : Int), x_7.snd)))) (fun x_7 => brk (x_5.snd.fst != x_3.fst) (chk ((0 : Int) ≤ x_5.snd.fst ∧ x_5.snd.fst < (↑a0.Cells.length : Int)) (chk (InR (x_5.fst + (a0.Cells.getD (Int.toNat x_5.snd.fst) (Span.mk (0 : Int) (0 : Int))).Lo)) (chk ((0 : Int) ≤ x_5.snd.fst ∧ x_5.snd.fst < (↑a0.Cells.length : Int)) (chk (InR (x_5.snd.snd + (a0.Cells.getD (Int.toNat x_5.snd.fst) (Span.mk (0 : Int) (0 : Int))).Hi)) (x_7 ((x_5.fst + (a0.Cells.getD (Int.toNat x_5.snd.fst) (Span.mk (0 : Int) (0 : Int))).Lo, x_5.snd.snd + (a0.Cells.getD (Int.toNat x_5.snd.fst) (Span.mk (0 : Int) (0 : Int))).Hi))))))) (x_7 ((x_5.fst, x_5.snd.snd))))) (chk (InR (a1.Lo - x_5.snd.snd)) (chk (InR (a1.Hi - x_5.fst)) (chk (List.length x_3.snd + [Span.mk (if a1.Lo - x_5.snd.snd > (a0.Cells.getD (Int.toNat x_3.fst) (Span.mk (0 : Int) (0 : Int))).Lo then a1.Lo - x_5.snd.snd else (a0.Cells.getD (Int.toNat x_3.fst) (Span.mk (0 : Int) (0 : Int))).Lo) (if a1.Hi - x_5.fst < (a0.Cells.getD (Int.toNat x_3.fst) (Span.mk (0 : Int) (0 : Int))).Hi then a1.Hi - x_5.fst else (a0.Cells.getD (Int.toNat x_3.fst) (Span.mk (0 : Int) (0 : Int))).Hi)].length ≤ (1000000 : Nat)) (chk (InR (x_3.fst + (1 : Int))) (x_4 ((x_3.fst + (1 : Int), x_3.snd ++ [Span.mk (if a1.Lo - x_5.snd.snd > (a0.Cells.getD (Int.toNat x_3.fst) (Span.mk (0 : Int) (0 : Int))).Lo then a1.Lo - x_5.snd.snd else (a0.Cells.getD (Int.toNat x_3.fst) (Span.mk (0 : Int) (0 : Int))).Lo) (if a1.Hi - x_5.fst < (a0.Cells.getD (Int.toNat x_3.fst) (Span.mk (0 : Int) (0 : Int))).Hi then a1.Hi - x_5.fst else (a0.Cells.getD (Int.toNat x_3.fst) (Span.mk (0 : Int) (0 : Int))).Hi)])))))))) (F) (((0 : Int), (0 : Int), (0 : Int))))) (some ((Field.mk a0.W a0.H (x_3.snd), (0 : Int))))) (F) (((0 : Int), []))))))))
noncomputable def s41 (F : Nat) : CS E.G := ⟨41, [.v 9 true, .v 7 true], [.v 9 true [34], .v 0 false []], fun x => ref11_Tighten F x.1 x.2.1⟩
noncomputable def cx41 (F : Nat) : Ctx E := ⟨[s35 F, s40 F, s94 F], [], F, []⟩
noncomputable def h41 : Hint := (.c .n (.c .n (.c .n (.l ⟨[.i, .l 7], [32, 64, 48, 144], [1, 3, 2, 5, 0], [(160, .i IntKind.i64)], [], [(5, 2, .h 6 34 7)], [], 7⟩ (.c (.l ⟨[.i, .i, .i], [32, 64, 160, 48, 144, 176], [1, 3, 2, 5, 7, 0, 6], [(192, .i IntKind.i64), (224, .i IntKind.i64), (208, .i IntKind.i64)], [], [], [], 8⟩ (.c (.j ⟨[.i, .i], [32, 64, 160, 224, 48, 144, 176], [1, 3, 2, 5, 7, 0, 6], [(192, .i IntKind.i64), (208, .i IntKind.i64)], [], [], [], 8⟩ .n .n) .n)) .n)))))
theorem e41 (F : Nat) (a0 : Field) (a1 : Span) : fnK (E := E) (cx41 F) Try.f41 [] [.v 9 true, .v 7 true] [.v 9 true [34], .v 0 false []] h41 (a0, a1, ()) = ref11_Tighten F a0 a1 := by kernel_rfl
theorem c41 (F : Nat) : CSok E [] (s41 F) := ⟨en41, by
  have h := fn_sound (E := E) (gl := []) (cx := cx41 F) mix (allC (c35 F) (allC (c40 F) (allC (c94 F) all0))) inl0 rfl (fun _ h => nomatch h) hf41 (ps := [.v 9 true, .v 7 true]) (rs := [.v 9 true [34], .v 0 false []]) (by decide) h41
  rwa [show fnK (E := E) (cx41 F) Try.f41 [] [.v 9 true, .v 7 true] [.v 9 true [34], .v 0 false []] h41 = (fun x : AT E.G.car [.v 9 true, .v 7 true] => ref11_Tighten F x.1 x.2.1) from funext fun x => e41 F x.1 x.2.1] at h⟩
theorem hf42 : Try.prog.funcs[42]? = some Try.f42 := by kernel_rfl
theorem en42 : Proofs.Enters Try.prog 42 := Proofs.enters_of hf42 (by kernel_rfl) rfl
noncomputable def ref11_Dirty (F : Nat) (a0 : Field) : Option ((List Int) × (List Int) × Int) :=
  bnd (ref11_Check F (Field.mk a0.W a0.H (a0.Cells))) (fun (x : Int) => brk (x != (0 : Int)) (some (([], [], x))) (loopC (fun (x_1 : (Int) × ((List (Int)) × (List (Int)))) => fun x_2 => brk (decide (x_1.fst < (↑a0.Cells.length : Int))) (join (fun (x_3 : (List (Int)) × (List (Int))) => chk (InR (x_1.fst + (1 : Int))) (x_2 ((x_1.fst + (1 : Int), x_3.fst, x_3.snd)))) (fun x_3 => join (fun (x_4 : List (Int)) => chk ((0 : Int) ≤ x_1.fst ∧ x_1.fst < (↑a0.Cells.length : Int)) (brk (decide ((a0.Cells.getD (Int.toNat x_1.fst) (Span.mk (0 : Int) (0 : Int))).Hi > (0 : Int))) (chk (List.length x_1.snd.snd + [x_1.fst].length ≤ (1000000 : Nat)) (x_3 ((x_4, x_1.snd.snd ++ [x_1.fst])))) (x_3 ((x_4, x_1.snd.snd))))) (fun x_4 => chk ((0 : Int) ≤ x_1.fst ∧ x_1.fst < (↑a0.Cells.length : Int)) (brk (decide ((a0.Cells.getD (Int.toNat x_1.fst) (Span.mk (0 : Int) (0 : Int))).Lo > (0 : Int))) (chk (List.length x_1.snd.fst + [x_1.fst].length ≤ (1000000 : Nat)) (x_4 (x_1.snd.fst ++ [x_1.fst]))) (x_4 (x_1.snd.fst)))))) (some ((x_1.snd.fst, x_1.snd.snd, (0 : Int))))) (F) (((0 : Int), [], []))))
noncomputable def s42 (F : Nat) : CS E.G := ⟨42, [.v 9 true], [.sl 0 3, .sl 0 3, .v 0 false []], fun x => ref11_Dirty F x.1⟩
noncomputable def cx42 (F : Nat) : Ctx E := ⟨[s35 F], [], F, []⟩
noncomputable def h42 : Hint := (.c .n (.l ⟨[.i, .l 0, .l 0], [16], [1, 0], [(128, .i IntKind.i64), (96, .h 2 3 0), (112, .h 3 3 0)], [], [], [], 4⟩ (.c (.j ⟨[.l 0, .l 0], [16, 128], [1, 0], [(96, .h 4 3 0), (112, .h 5 3 0)], [], [], [], 6⟩ (.j ⟨[.l 0], [16, 128, 112], [1, 3, 0], [(96, .h 4 3 0)], [], [], [], 5⟩ .n .n) .n) .n)))
theorem e42 (F : Nat) (a0 : Field) : fnK (E := E) (cx42 F) Try.f42 [] [.v 9 true] [.sl 0 3, .sl 0 3, .v 0 false []] h42 (a0, ()) = ref11_Dirty F a0 := by kernel_rfl
theorem c42 (F : Nat) : CSok E [] (s42 F) := ⟨en42, by
  have h := fn_sound (E := E) (gl := []) (cx := cx42 F) mix (allC (c35 F) all0) inl0 rfl (fun _ h => nomatch h) hf42 (ps := [.v 9 true]) (rs := [.sl 0 3, .sl 0 3, .v 0 false []]) (by decide) h42
  rwa [show fnK (E := E) (cx42 F) Try.f42 [] [.v 9 true] [.sl 0 3, .sl 0 3, .v 0 false []] h42 = (fun x : AT E.G.car [.v 9 true] => ref11_Dirty F x.1) from funext fun x => e42 F x.1] at h⟩
theorem hf43 : Try.prog.funcs[43]? = some Try.f43 := by kernel_rfl
theorem en43 : Proofs.Enters Try.prog 43 := Proofs.enters_of hf43 (by kernel_rfl) rfl
noncomputable def ref11_When (F : Nat) (a0 : Field) (a1 : List Span) (a2 : Int) : Option (Span × Int) :=
  bnd (ref11_begun F (Field.mk a0.W a0.H (a0.Cells)) a1) (fun (x : Int) => brk (x != (0 : Int)) (some ((Span.mk (0 : Int) (0 : Int), x))) (chk (InR ((↑a0.Cells.length : Int) - (1 : Int))) (bnd (ref11_in F a2 (0 : Int) ((↑a0.Cells.length : Int) - (1 : Int))) (fun (x_1 : Bool) => brk (!x_1) (some ((Span.mk (0 : Int) (0 : Int), (1 : Int)))) (loopC (fun (x_2 : (Int) × ((Int) × ((Int) × ((List (Span)) × ((Int) × (Int)))))) => fun x_3 => brk (decide (x_2.snd.snd.fst ≤ (48 : Int))) (join (fun (x_4 : Int) => join (fun (x_5 : Int) => bnd (ref11_hour F (Field.mk x_2.snd.snd.snd.snd.snd x_2.snd.snd.snd.snd.fst (x_2.snd.snd.snd.fst)) a1) (fun (x_6 : Field) => chk (InR (x_2.snd.snd.fst + (1 : Int))) (x_3 ((x_5, x_4, x_2.snd.snd.fst + (1 : Int), x_6.Cells, x_6.H, x_6.W))))) (fun x_5 => chk (decide (x_2.fst < (0 : Int)) = true → (0 : Int) ≤ a2 ∧ a2 < (↑(List.length x_2.snd.snd.snd.fst) : Int)) (brk (decide (x_2.fst < (0 : Int)) && decide ((List.getD x_2.snd.snd.snd.fst a2.toNat (Span.mk (0 : Int) (0 : Int))).Lo > (0 : Int))) (x_5 (x_2.snd.snd.fst)) (x_5 (x_2.fst))))) (fun x_4 => chk (decide (x_2.snd.fst < (0 : Int)) = true → (0 : Int) ≤ a2 ∧ a2 < (↑(List.length x_2.snd.snd.snd.fst) : Int)) (brk (decide (x_2.snd.fst < (0 : Int)) && decide ((List.getD x_2.snd.snd.snd.fst a2.toNat (Span.mk (0 : Int) (0 : Int))).Hi > (0 : Int))) (x_4 (x_2.snd.snd.fst)) (x_4 (x_2.snd.fst))))) (brk (decide (x_2.fst < (0 : Int))) (some ((Span.mk (0 : Int) (0 : Int), (4 : Int)))) (some ((Span.mk x_2.snd.fst x_2.fst, (0 : Int)))))) (F) (((-1 : Int), (-1 : Int), (0 : Int), a0.Cells, a0.H, a0.W)))))))
noncomputable def s43 (F : Nat) : CS E.G := ⟨43, [.v 9 true, .sl 7, .v 0 false], [.v 7 true [], .v 0 false []], fun x => ref11_When F x.1 x.2.1 x.2.2.1⟩
noncomputable def cx43 (F : Nat) : Ctx E := ⟨[s93 F, s96 F, s97 F], [], F, []⟩
noncomputable def h43 : Hint := (.c .n (.c .n (.l ⟨[.i, .i, .i, .l 7, .i, .i], [16, 32, 96, 48], [1, 3, 2], [(160, .i IntKind.i64), (144, .i IntKind.i64), (176, .i IntKind.i64)], [], [(2, 2, .x 4 7), (2, 1, .i IntKind.i64), (2, 0, .i IntKind.i64)], [], 5⟩ (.c (.k (.j ⟨[.i], [16, 32, 96, 160, 48, 176], [1, 3, 2, 4], [(144, .i IntKind.i64)], [], [], [], 5⟩ .n (.j ⟨[.i], [16, 32, 96, 48, 144, 176], [1, 3, 2, 4], [(160, .i IntKind.i64)], [], [], [], 5⟩ .n .n))) .n))))
theorem e43 (F : Nat) (a0 : Field) (a1 : List Span) (a2 : Int) : fnK (E := E) (cx43 F) Try.f43 [] [.v 9 true, .sl 7, .v 0 false] [.v 7 true [], .v 0 false []] h43 (a0, a1, a2, ()) = ref11_When F a0 a1 a2 := by kernel_rfl
theorem c43 (F : Nat) : CSok E [] (s43 F) := ⟨en43, by
  have h := fn_sound (E := E) (gl := []) (cx := cx43 F) mix (allC (c93 F) (allC (c96 F) (allC (c97 F) all0))) inl0 rfl (fun _ h => nomatch h) hf43 (ps := [.v 9 true, .sl 7, .v 0 false]) (rs := [.v 7 true [], .v 0 false []]) (by decide) h43
  rwa [show fnK (E := E) (cx43 F) Try.f43 [] [.v 9 true, .sl 7, .v 0 false] [.v 7 true [], .v 0 false []] h43 = (fun x : AT E.G.car [.v 9 true, .sl 7, .v 0 false] => ref11_When F x.1 x.2.1 x.2.2.1) from funext fun x => e43 F x.1 x.2.1 x.2.2.1] at h⟩
theorem hf7 : Try.prog.funcs[7]? = some Try.f7 := by kernel_rfl
theorem en7 : Proofs.Enters Try.prog 7 := Proofs.enters_of hf7 (by kernel_rfl) rfl
noncomputable def law11_SpillFields (F : Nat) (a0 : Field) (a1 : List Span) (a2 : List Int) (a3 : List Int) (a4 : Int) (a5 : Int) (a6 : Int) (a7 : Int) (a8 : Span) : Option (Bool) :=
  brk (decide ((↑a0.Cells.length : Int) > (80 : Int)) || decide ((↑a1.length : Int) > (80 : Int)) || decide ((↑a2.length : Int) > (80 : Int)) || decide ((↑a3.length : Int) > (80 : Int))) (bnd (law11_awake F) (fun (x : Bool) => some (x))) (bnd (law11_CopyField F (Field.mk a0.W a0.H (a0.Cells))) (fun (x : Field) => bnd (kit_CopySpans F a1) (fun (x_1 : List (Span)) => bnd (kit_CopyInts F a2) (fun (x_2 : List (Int)) => bnd (kit_CopyInts F a3) (fun (x_3 : List (Int)) => bnd (law11_CopyField F (Field.mk a0.W a0.H (a0.Cells))) (fun (x_4 : Field) => bnd (spill_Check F (Field.mk x.W x.H (x.Cells))) (fun (x_5 : Int) => bnd (ref11_Check F (Field.mk x_4.W x_4.H (x_4.Cells))) (fun (x_6 : Int) => brk (x_5 != x_6) (some (false)) (bnd (spill_Flow F a4 a5 x_2 x_3) (fun (x_7 : (List (Int)) × (Int)) => bnd (ref11_Flow F a4 a5 a2 a3) (fun (x_8 : (List (Int)) × (Int)) => bnd (brk (!x_7.snd != x_8.snd) (kit_SameInts F x_7.fst x_8.fst) (some false)) (fun (x_9 : Bool) => brk (x_7.snd != x_8.snd || !x_9) (some (false)) (bnd (spill_Spread F (Field.mk x.W x.H (x.Cells)) x_1 a6) (fun (x_10 : (Field) × (Int)) => bnd (ref11_Spread F (Field.mk x_4.W x_4.H (x_4.Cells)) a1 a6) (fun (x_11 : (Field) × (Int)) => bnd (brk (!x_10.snd != x_11.snd) (law11_same F (Field.mk x_10.fst.W x_10.fst.H (x_10.fst.Cells)) (Field.mk x_11.fst.W x_11.fst.H (x_11.fst.Cells))) (some false)) (fun (x_12 : Bool) => brk (x_10.snd != x_11.snd || !x_12) (some (false)) (loopC (fun (x_13 : (Int) × (List (Span))) => fun x_14 => brk (decide (x_13.fst < (↑x_10.fst.Cells.length : Int))) (chk ((0 : Int) ≤ x_13.fst ∧ x_13.fst < (↑(List.length x_13.snd) : Int)) (chk (InR (x_13.fst + (1 : Int))) (x_14 ((x_13.fst + (1 : Int), List.set x_13.snd (Int.toNat x_13.fst) (Span.mk (77 : Int) (List.getD x_13.snd (Int.toNat x_13.fst) (Span.mk (0 : Int) (0 : Int))).Hi)))))) (bnd (spill_Holds F (Field.mk x.W x.H (x.Cells)) x_2) (fun (x_15 : (Bool) × (Int)) => bnd (ref11_Holds F (Field.mk x_4.W x_4.H (x_4.Cells)) a2) (fun (x_16 : (Bool) × (Int)) => brk (!x_15.fst == x_16.fst || x_15.snd != x_16.snd) (some (false)) (bnd (spill_Total F (Field.mk x.W x.H (x.Cells))) (fun (x_17 : (Span) × (Int)) => bnd (ref11_Total F (Field.mk x_4.W x_4.H (x_4.Cells))) (fun (x_18 : (Span) × (Int)) => brk (!(x_17.fst.Lo == x_18.fst.Lo && (x_17.fst.Hi == x_18.fst.Hi && true)) || x_17.snd != x_18.snd) (some (false)) (bnd (spill_Tighten F (Field.mk x.W x.H (x.Cells)) (Span.mk a8.Lo a8.Hi)) (fun (x_19 : (Field) × (Int)) => bnd (ref11_Tighten F (Field.mk x_4.W x_4.H (x_4.Cells)) (Span.mk a8.Lo a8.Hi)) (fun (x_20 : (Field) × (Int)) => bnd (brk (!x_19.snd != x_20.snd) (law11_same F (Field.mk x_19.fst.W x_19.fst.H (x_19.fst.Cells)) (Field.mk x_20.fst.W x_20.fst.H (x_20.fst.Cells))) (some false)) (fun (x_21 : Bool) => brk (x_19.snd != x_20.snd || !x_21) (some (false)) (bnd (spill_Dirty F (Field.mk x.W x.H (x.Cells))) (fun (x_22 : (List (Int)) × ((List (Int)) × (Int))) => bnd (ref11_Dirty F (Field.mk x_4.W x_4.H (x_4.Cells))) (fun (x_23 : (List (Int)) × ((List (Int)) × (Int))) => bnd (brk (!x_22.snd.snd != x_23.snd.snd) (kit_SameInts F x_22.fst x_23.fst) (some false)) (fun (x_24 : Bool) => bnd (brk (!(x_22.snd.snd != x_23.snd.snd || !x_24)) (kit_SameInts F x_22.snd.fst x_23.snd.fst) (some false)) (fun (x_25 : Bool) => brk (x_22.snd.snd != x_23.snd.snd || !x_24 || !x_25) (some (false)) (bnd (spill_When F (Field.mk x.W x.H (x.Cells)) x_1 a7) (fun (x_26 : (Span) × (Int)) => bnd (ref11_When F (Field.mk x_4.W x_4.H (x_4.Cells)) a1 a7) (fun (x_27 : (Span) × (Int)) => bnd (brk (x_26.fst.Lo == x_27.fst.Lo && (x_26.fst.Hi == x_27.fst.Hi && true) && x_26.snd == x_27.snd) (law11_same F (Field.mk a0.W a0.H (a0.Cells)) (Field.mk x.W x.H (x.Cells))) (some false)) (fun (x_28 : Bool) => bnd (brk (x_26.fst.Lo == x_27.fst.Lo && (x_26.fst.Hi == x_27.fst.Hi && true) && x_26.snd == x_27.snd && x_28) (kit_SameSpans F x_1 a1) (some false)) (fun (x_29 : Bool) => bnd (brk (x_26.fst.Lo == x_27.fst.Lo && (x_26.fst.Hi == x_27.fst.Hi && true) && x_26.snd == x_27.snd && x_28 && x_29) (kit_SameInts F x_2 a2) (some false)) (fun (x_30 : Bool) => bnd (brk (x_26.fst.Lo == x_27.fst.Lo && (x_26.fst.Hi == x_27.fst.Hi && true) && x_26.snd == x_27.snd && x_28 && x_29 && x_30) (kit_SameInts F x_3 a3) (some false)) (fun (x_31 : Bool) => bnd (brk (x_26.fst.Lo == x_27.fst.Lo && (x_26.fst.Hi == x_27.fst.Hi && true) && x_26.snd == x_27.snd && x_28 && x_29 && x_30 && x_31) (law11_awake F) (some false)) (fun (x_32 : Bool) => some (x_26.fst.Lo == x_27.fst.Lo && (x_26.fst.Hi == x_27.fst.Hi && true) && x_26.snd == x_27.snd && x_28 && x_29 && x_30 && x_31 && x_32))))))))))))))))))))))))) (F) (((0 : Int), x_10.fst.Cells)))))))))))))))))))
noncomputable def s7 (F : Nat) : CS E.G := ⟨7, [.v 9 true, .sl 7, .sl 0, .sl 0, .v 0 false, .v 0 false, .v 0 false, .v 0 false, .v 7 true], [.v 1 false []], fun x => law11_SpillFields F x.1 x.2.1 x.2.2.1 x.2.2.2.1 x.2.2.2.2.1 x.2.2.2.2.2.1 x.2.2.2.2.2.2.1 x.2.2.2.2.2.2.2.1 x.2.2.2.2.2.2.2.2.1⟩
noncomputable def cx7 (F : Nat) : Ctx E := ⟨[s14 F, s16 F, s17 F, s19 F, s20 F, s22 F, s23 F, s24 F, s29 F, s30 F, s32 F, s33 F, s34 F, s35 F, s36 F, s37 F, s38 F, s39 F, s40 F, s41 F, s42 F, s43 F, s44 F], [], F, []⟩
noncomputable def h7 : Hint := (.c .n (.c .n (.c .n (.c .n (.l ⟨[.i, .l 7], [16, 32, 320, 448, 1984, 352, 48, 144, 272, 336, 464, 112, 304, 368], [1, 2, 7, 16, 9, 3, 4, 5, 8, 18, 10, 12, 15, 0, 17, 6, 11], [(2000, .i IntKind.i64)], [], [], [(15, 34, 7)], 19⟩ (.c .n (.c .n (.c .n (.c .n .n)))))))))
theorem e7 (F : Nat) (a0 : Field) (a1 : List Span) (a2 : List Int) (a3 : List Int) (a4 : Int) (a5 : Int) (a6 : Int) (a7 : Int) (a8 : Span) : fnK (E := E) (cx7 F) Try.f7 [] [.v 9 true, .sl 7, .sl 0, .sl 0, .v 0 false, .v 0 false, .v 0 false, .v 0 false, .v 7 true] [.v 1 false []] h7 (a0, a1, a2, a3, a4, a5, a6, a7, a8, ()) = law11_SpillFields F a0 a1 a2 a3 a4 a5 a6 a7 a8 := by kernel_rfl
theorem c7 (F : Nat) : CSok E [] (s7 F) := ⟨en7, by
  have h := fn_sound (E := E) (gl := []) (cx := cx7 F) mix (allC (c14 F) (allC (c16 F) (allC (c17 F) (allC (c19 F) (allC (c20 F) (allC (c22 F) (allC (c23 F) (allC (c24 F) (allC (c29 F) (allC (c30 F) (allC (c32 F) (allC (c33 F) (allC (c34 F) (allC (c35 F) (allC (c36 F) (allC (c37 F) (allC (c38 F) (allC (c39 F) (allC (c40 F) (allC (c41 F) (allC (c42 F) (allC (c43 F) (allC (c44 F) all0))))))))))))))))))))))) inl0 rfl (fun _ h => nomatch h) hf7 (ps := [.v 9 true, .sl 7, .sl 0, .sl 0, .v 0 false, .v 0 false, .v 0 false, .v 0 false, .v 7 true]) (rs := [.v 1 false []]) (by decide) h7
  rwa [show fnK (E := E) (cx7 F) Try.f7 [] [.v 9 true, .sl 7, .sl 0, .sl 0, .v 0 false, .v 0 false, .v 0 false, .v 0 false, .v 7 true] [.v 1 false []] h7 = (fun x : AT E.G.car [.v 9 true, .sl 7, .sl 0, .sl 0, .v 0 false, .v 0 false, .v 0 false, .v 0 false, .v 7 true] => law11_SpillFields F x.1 x.2.1 x.2.2.1 x.2.2.2.1 x.2.2.2.2.1 x.2.2.2.2.2.1 x.2.2.2.2.2.2.1 x.2.2.2.2.2.2.2.1 x.2.2.2.2.2.2.2.2.1) from funext fun x => e7 F x.1 x.2.1 x.2.2.1 x.2.2.2.1 x.2.2.2.2.1 x.2.2.2.2.2.1 x.2.2.2.2.2.2.1 x.2.2.2.2.2.2.2.1 x.2.2.2.2.2.2.2.2.1] at h⟩
theorem hf21 : Try.prog.funcs[21]? = some Try.f21 := by kernel_rfl
theorem en21 : Proofs.Enters Try.prog 21 := Proofs.enters_of hf21 (by kernel_rfl) rfl
noncomputable def law11_sum (F : Nat) (a0 : List Int) : Option (Int) :=
  loopC (fun (x : (Int) × (Int)) => fun x_1 => brk (decide (x.fst < (↑a0.length : Int))) (chk ((0 : Int) ≤ x.fst ∧ x.fst < (↑a0.length : Int)) (chk (InR (x.snd + a0.getD (Int.toNat x.fst) (0 : Int))) (chk (InR (x.fst + (1 : Int))) (x_1 ((x.fst + (1 : Int), x.snd + a0.getD (Int.toNat x.fst) (0 : Int))))))) (some (x.snd))) (F) (((0 : Int), (0 : Int)))
noncomputable def s21 (F : Nat) : CS E.G := ⟨21, [.sl 0], [.v 0 false []], fun x => law11_sum F x.1⟩
noncomputable def cx21 (F : Nat) : Ctx E := ⟨[], [], F, []⟩
noncomputable def h21 : Hint := (.l ⟨[.i, .i], [96, 112], [0], [(128, .i IntKind.i64), (48, .i IntKind.i64)], [], [], [], 1⟩ .n)
theorem e21 (F : Nat) (a0 : List Int) : fnK (E := E) (cx21 F) Try.f21 [] [.sl 0] [.v 0 false []] h21 (a0, ()) = law11_sum F a0 := by kernel_rfl
theorem c21 (F : Nat) : CSok E [] (s21 F) := ⟨en21, by
  have h := fn_sound (E := E) (gl := []) (cx := cx21 F) mix all0 inl0 rfl (fun _ h => nomatch h) hf21 (ps := [.sl 0]) (rs := [.v 0 false []]) (by decide) h21
  rwa [show fnK (E := E) (cx21 F) Try.f21 [] [.sl 0] [.v 0 false []] h21 = (fun x : AT E.G.car [.sl 0] => law11_sum F x.1) from funext fun x => e21 F x.1] at h⟩
theorem hf78 : Try.prog.funcs[78]? = some Try.f78 := by kernel_rfl
theorem en78 : Proofs.Enters Try.prog 78 := Proofs.enters_of hf78 (by kernel_rfl) rfl
theorem hf13 : Try.prog.funcs[13]? = some Try.f13 := by kernel_rfl
theorem en13 : Proofs.Enters Try.prog 13 := Proofs.enters_of hf13 (by kernel_rfl) rfl
theorem hf12 : Try.prog.funcs[12]? = some Try.f12 := by kernel_rfl
theorem en12 : Proofs.Enters Try.prog 12 := Proofs.enters_of hf12 (by kernel_rfl) rfl
noncomputable def law11_Made (F : Nat) (a0 : List Int) : Option (Field × (List Span) × (List Int)) :=
  join (fun (x : (Int) × (Int)) => chk (InR ((1 : Int) + x.fst)) (join (fun (x_1 : (Int) × (Int)) => chk (InR ((1 : Int) + x_1.fst)) (chk (InR (((1 : Int) + x.fst) * ((1 : Int) + x_1.fst))) (loopC (fun (x_2 : (List (Int)) × ((Int) × ((List (Span)) × ((List (Span)) × (Int))))) => fun x_3 => brk (decide (x_2.snd.fst < ((1 : Int) + x.fst) * ((1 : Int) + x_1.fst))) (join (fun (x_4 : (Int) × (Int)) => chk (InR ((4 : Int) * x_4.fst)) (chk (InR ((4 : Int) * x_4.fst - (500 : Int))) (join (fun (x_5 : (Int) × (Int)) => chk (InR ((if (4 : Int) * x_4.fst - (500 : Int) > (0 : Int) then (4 : Int) * x_4.fst - (500 : Int) else (0 : Int)) + x_5.fst)) (chk (List.length x_2.snd.snd.snd.fst + [Span.mk (if (4 : Int) * x_4.fst - (500 : Int) > (0 : Int) then (4 : Int) * x_4.fst - (500 : Int) else (0 : Int)) ((if (4 : Int) * x_4.fst - (500 : Int) > (0 : Int) then (4 : Int) * x_4.fst - (500 : Int) else (0 : Int)) + x_5.fst)].length ≤ (1000000 : Nat)) (chk (InR ((if (4 : Int) * x_4.fst - (500 : Int) > (0 : Int) then (4 : Int) * x_4.fst - (500 : Int) else (0 : Int)) + x_5.fst - if (4 : Int) * x_4.fst - (500 : Int) > (0 : Int) then (4 : Int) * x_4.fst - (500 : Int) else (0 : Int))) (chk (InR (((if (4 : Int) * x_4.fst - (500 : Int) > (0 : Int) then (4 : Int) * x_4.fst - (500 : Int) else (0 : Int)) + x_5.fst - if (4 : Int) * x_4.fst - (500 : Int) > (0 : Int) then (4 : Int) * x_4.fst - (500 : Int) else (0 : Int)) + (1 : Int))) (join (fun (x_6 : (Int) × (Int)) => chk (InR ((if (4 : Int) * x_4.fst - (500 : Int) > (0 : Int) then (4 : Int) * x_4.fst - (500 : Int) else (0 : Int)) + x_6.fst)) (chk (List.length x_2.fst + [(if (4 : Int) * x_4.fst - (500 : Int) > (0 : Int) then (4 : Int) * x_4.fst - (500 : Int) else (0 : Int)) + x_6.fst].length ≤ (1000000 : Nat)) (join (fun (x_7 : (Int) × (Int)) => join (fun (x_8 : (Int) × (Int)) => chk (InR (x_7.fst + x_8.fst)) (chk (List.length x_2.snd.snd.fst + [Span.mk x_7.fst (x_7.fst + x_8.fst)].length ≤ (1000000 : Nat)) (chk (InR (x_2.snd.fst + (1 : Int))) (x_3 ((x_2.fst ++ [(if (4 : Int) * x_4.fst - (500 : Int) > (0 : Int) then (4 : Int) * x_4.fst - (500 : Int) else (0 : Int)) + x_6.fst], x_2.snd.fst + (1 : Int), x_2.snd.snd.fst ++ [Span.mk x_7.fst (x_7.fst + x_8.fst)], x_2.snd.snd.snd.fst ++ [Span.mk (if (4 : Int) * x_4.fst - (500 : Int) > (0 : Int) then (4 : Int) * x_4.fst - (500 : Int) else (0 : Int)) ((if (4 : Int) * x_4.fst - (500 : Int) > (0 : Int) then (4 : Int) * x_4.fst - (500 : Int) else (0 : Int)) + x_5.fst)], x_8.snd)))))) (fun x_8 => brk (decide (x_7.snd ≥ (↑a0.length : Int))) (x_8 (((0 : Int), x_7.snd))) (chk (InR (x_7.snd + (1 : Int))) (chk (InR (x_7.snd + (1 : Int) - (1 : Int))) (chk ((0 : Int) ≤ x_7.snd + (1 : Int) - (1 : Int) ∧ x_7.snd + (1 : Int) - (1 : Int) < (↑a0.length : Int)) (chk (InR (a0.getD (x_7.snd + (1 : Int) - (1 : Int)).toNat (0 : Int))) (chk ((0 : Int) ≤ a0.getD (x_7.snd + (1 : Int) - (1 : Int)).toNat (0 : Int) ∧ a0.getD (x_7.snd + (1 : Int) - (1 : Int)).toNat (0 : Int) ≤ (9223372036854775807 : Int)) (x_8 ((a0.getD (x_7.snd + (1 : Int) - (1 : Int)).toNat (0 : Int) % (40 : Int), x_7.snd + (1 : Int))))))))))) (fun x_7 => brk (decide (x_6.snd ≥ (↑a0.length : Int))) (x_7 (((0 : Int), x_6.snd))) (chk (InR (x_6.snd + (1 : Int))) (chk (InR (x_6.snd + (1 : Int) - (1 : Int))) (chk ((0 : Int) ≤ x_6.snd + (1 : Int) - (1 : Int) ∧ x_6.snd + (1 : Int) - (1 : Int) < (↑a0.length : Int)) (chk (InR (a0.getD (x_6.snd + (1 : Int) - (1 : Int)).toNat (0 : Int))) (chk ((0 : Int) ≤ a0.getD (x_6.snd + (1 : Int) - (1 : Int)).toNat (0 : Int) ∧ a0.getD (x_6.snd + (1 : Int) - (1 : Int)).toNat (0 : Int) ≤ (9223372036854775807 : Int)) (x_7 ((a0.getD (x_6.snd + (1 : Int) - (1 : Int)).toNat (0 : Int) % (100 : Int), x_6.snd + (1 : Int))))))))))))) (fun x_6 => brk (decide (x_5.snd ≥ (↑a0.length : Int))) (x_6 (((0 : Int), x_5.snd))) (chk (InR (x_5.snd + (1 : Int))) (chk (InR (x_5.snd + (1 : Int) - (1 : Int))) (chk ((0 : Int) ≤ x_5.snd + (1 : Int) - (1 : Int) ∧ x_5.snd + (1 : Int) - (1 : Int) < (↑a0.length : Int)) (chk (InR (a0.getD (x_5.snd + (1 : Int) - (1 : Int)).toNat (0 : Int))) (chk (((0 : Int) ≤ a0.getD (x_5.snd + (1 : Int) - (1 : Int)).toNat (0 : Int) ∧ a0.getD (x_5.snd + (1 : Int) - (1 : Int)).toNat (0 : Int) ≤ (9223372036854775807 : Int)) ∧ (0 : Int) < ((if (4 : Int) * x_4.fst - (500 : Int) > (0 : Int) then (4 : Int) * x_4.fst - (500 : Int) else (0 : Int)) + x_5.fst - if (4 : Int) * x_4.fst - (500 : Int) > (0 : Int) then (4 : Int) * x_4.fst - (500 : Int) else (0 : Int)) + (1 : Int)) (x_6 ((a0.getD (x_5.snd + (1 : Int) - (1 : Int)).toNat (0 : Int) % (((if (4 : Int) * x_4.fst - (500 : Int) > (0 : Int) then (4 : Int) * x_4.fst - (500 : Int) else (0 : Int)) + x_5.fst - if (4 : Int) * x_4.fst - (500 : Int) > (0 : Int) then (4 : Int) * x_4.fst - (500 : Int) else (0 : Int)) + (1 : Int)), x_5.snd + (1 : Int))))))))))))))) (fun x_5 => brk (decide (x_4.snd ≥ (↑a0.length : Int))) (x_5 (((0 : Int), x_4.snd))) (chk (InR (x_4.snd + (1 : Int))) (chk (InR (x_4.snd + (1 : Int) - (1 : Int))) (chk ((0 : Int) ≤ x_4.snd + (1 : Int) - (1 : Int) ∧ x_4.snd + (1 : Int) - (1 : Int) < (↑a0.length : Int)) (chk (InR (a0.getD (x_4.snd + (1 : Int) - (1 : Int)).toNat (0 : Int))) (chk ((0 : Int) ≤ a0.getD (x_4.snd + (1 : Int) - (1 : Int)).toNat (0 : Int) ∧ a0.getD (x_4.snd + (1 : Int) - (1 : Int)).toNat (0 : Int) ≤ (9223372036854775807 : Int)) (x_5 ((a0.getD (x_4.snd + (1 : Int) - (1 : Int)).toNat (0 : Int) % (60 : Int), x_4.snd + (1 : Int))))))))))))) (fun x_4 => brk (decide (x_2.snd.snd.snd.snd ≥ (↑a0.length : Int))) (x_4 (((0 : Int), x_2.snd.snd.snd.snd))) (chk (InR (x_2.snd.snd.snd.snd + (1 : Int))) (chk (InR (x_2.snd.snd.snd.snd + (1 : Int) - (1 : Int))) (chk ((0 : Int) ≤ x_2.snd.snd.snd.snd + (1 : Int) - (1 : Int) ∧ x_2.snd.snd.snd.snd + (1 : Int) - (1 : Int) < (↑a0.length : Int)) (chk (InR (a0.getD (x_2.snd.snd.snd.snd + (1 : Int) - (1 : Int)).toNat (0 : Int))) (chk ((0 : Int) ≤ a0.getD (x_2.snd.snd.snd.snd + (1 : Int) - (1 : Int)).toNat (0 : Int) ∧ a0.getD (x_2.snd.snd.snd.snd + (1 : Int) - (1 : Int)).toNat (0 : Int) ≤ (9223372036854775807 : Int)) (x_4 ((a0.getD (x_2.snd.snd.snd.snd + (1 : Int) - (1 : Int)).toNat (0 : Int) % (256 : Int), x_2.snd.snd.snd.snd + (1 : Int))))))))))) (some ((Field.mk ((1 : Int) + x.fst) ((1 : Int) + x_1.fst) (x_2.snd.snd.snd.fst), x_2.snd.snd.fst, x_2.fst)))) (F) (([], (0 : Int), [], [], x_1.snd))))) (fun x_1 => brk (decide (x.snd ≥ (↑a0.length : Int))) (x_1 (((0 : Int), x.snd))) (chk (InR (x.snd + (1 : Int))) (chk (InR (x.snd + (1 : Int) - (1 : Int))) (chk ((0 : Int) ≤ x.snd + (1 : Int) - (1 : Int) ∧ x.snd + (1 : Int) - (1 : Int) < (↑a0.length : Int)) (chk (InR (a0.getD (x.snd + (1 : Int) - (1 : Int)).toNat (0 : Int))) (chk ((0 : Int) ≤ a0.getD (x.snd + (1 : Int) - (1 : Int)).toNat (0 : Int) ∧ a0.getD (x.snd + (1 : Int) - (1 : Int)).toNat (0 : Int) ≤ (9223372036854775807 : Int)) (x_1 ((a0.getD (x.snd + (1 : Int) - (1 : Int)).toNat (0 : Int) % (4 : Int), x.snd + (1 : Int)))))))))))) (fun x => brk (decide ((0 : Int) ≥ (↑a0.length : Int))) (x (((0 : Int), (0 : Int)))) (chk ((0 : Int) ≤ IntKind.i64.wrap (IntKind.i64.wrap ((0 : Int) + (1 : Int)) - (1 : Int)) ∧ IntKind.i64.wrap (IntKind.i64.wrap ((0 : Int) + (1 : Int)) - (1 : Int)) < (↑a0.length : Int)) (chk (InR (a0.getD (IntKind.i64.wrap (IntKind.i64.wrap ((0 : Int) + (1 : Int)) - (1 : Int))).toNat (0 : Int))) (chk ((0 : Int) ≤ a0.getD (IntKind.i64.wrap (IntKind.i64.wrap ((0 : Int) + (1 : Int)) - (1 : Int))).toNat (0 : Int) ∧ a0.getD (IntKind.i64.wrap (IntKind.i64.wrap ((0 : Int) + (1 : Int)) - (1 : Int))).toNat (0 : Int) ≤ (9223372036854775807 : Int)) (x ((a0.getD (IntKind.i64.wrap (IntKind.i64.wrap ((0 : Int) + (1 : Int)) - (1 : Int))).toNat (0 : Int) % (4 : Int), IntKind.i64.wrap ((0 : Int) + (1 : Int)))))))))
noncomputable def s12 (F : Nat) : CS E.G := ⟨12, [.sl 2], [.v 9 true [34], .sl 7 34, .sl 0 3], fun x => law11_Made F x.1⟩
noncomputable def cx12 (F : Nat) : Ctx E := ⟨[], [(13, Try.f13), (78, Try.f78)], F, []⟩
noncomputable def h12 : Hint := (.p (.w ⟨[.i, .i], [], [0, 3, 2], [(0, .i IntKind.i64)], [], [(3, 0, .i IntKind.i64)], [], 4⟩ .n (.w ⟨[.i, .i], [], [0, 3, 2], [(0, .i IntKind.i64)], [], [(3, 0, .i IntKind.i64)], [], 4⟩ .n (.l ⟨[.l 0, .i, .l 7, .l 7, .i], [32, 384, 96, 80], [1, 4, 3, 2, 0], [(128, .h 5 3 0), (400, .i IntKind.i64), (112, .h 6 34 7)], [], [(4, 2, .h 7 34 7), (3, 0, .i IntKind.i64)], [], 8⟩ (.c (.w ⟨[.i, .i], [], [0, 3, 2], [(0, .i IntKind.i64)], [], [(3, 0, .i IntKind.i64)], [], 8⟩ .n (.w ⟨[.i, .i], [], [0, 3, 2], [(0, .i IntKind.i64)], [], [(3, 0, .i IntKind.i64)], [], 9⟩ .n (.w ⟨[.i, .i], [], [0, 3, 2], [(0, .i IntKind.i64)], [], [(3, 0, .i IntKind.i64)], [], 11⟩ .n (.w ⟨[.i, .i], [], [0, 3, 2], [(0, .i IntKind.i64)], [], [(3, 0, .i IntKind.i64)], [], 13⟩ .n (.w ⟨[.i, .i], [], [0, 3, 2], [(0, .i IntKind.i64)], [], [(3, 0, .i IntKind.i64)], [], 14⟩ .n .n))))) .n)))))
theorem e12 (F : Nat) (a0 : List Int) : fnK (E := E) (cx12 F) Try.f12 [] [.sl 2] [.v 9 true [34], .sl 7 34, .sl 0 3] h12 (a0, ()) = law11_Made F a0 := by kernel_rfl
theorem c12 (F : Nat) : CSok E [] (s12 F) := ⟨en12, by
  have h := fn_sound (E := E) (gl := []) (cx := cx12 F) mix all0 (inlC hf13 en13 (inlC hf78 en78 inl0)) rfl (fun _ h => nomatch h) hf12 (ps := [.sl 2]) (rs := [.v 9 true [34], .sl 7 34, .sl 0 3]) (by decide) h12
  rwa [show fnK (E := E) (cx12 F) Try.f12 [] [.sl 2] [.v 9 true [34], .sl 7 34, .sl 0 3] h12 = (fun x : AT E.G.car [.sl 2] => law11_Made F x.1) from funext fun x => e12 F x.1] at h⟩
theorem hf27 : Try.prog.funcs[27]? = some Try.f27 := by kernel_rfl
theorem en27 : Proofs.Enters Try.prog 27 := Proofs.enters_of hf27 (by kernel_rfl) rfl
noncomputable def spill_See (F : Nat) (a0 : Field) (a1 : List Sight) : Option (Field × Int) :=
  bnd (spill_Check F (Field.mk a0.W a0.H (a0.Cells))) (fun (x : Int) => brk (x != (0 : Int)) (some ((Field.mk (0 : Int) (0 : Int) ([]), x))) (brk (decide ((↑a1.length : Int) > (100 : Int))) (some ((Field.mk (0 : Int) (0 : Int) ([]), (2 : Int)))) (bnd (slices_Clone_api_Span F a0.Cells) (fun (x_1 : List (Span)) => loopC (fun (x_2 : (Int) × (List (Span))) => fun x_3 => brk (decide (x_2.fst < (↑a1.length : Int))) (chk ((0 : Int) ≤ x_2.fst ∧ x_2.fst < (↑a1.length : Int)) (chk (InR ((↑(List.length x_2.snd) : Int) - (1 : Int))) (bnd (spill_within F (a1.getD (Int.toNat x_2.fst) (Sight.mk (0 : Int) (Span.mk (0 : Int) (0 : Int)))).Cell (0 : Int) ((↑(List.length x_2.snd) : Int) - (1 : Int))) (fun (x_4 : Bool) => brk (!x_4) (some ((Field.mk (0 : Int) (0 : Int) ([]), (1 : Int)))) (bnd (spill_span F (Span.mk (a1.getD (Int.toNat x_2.fst) (Sight.mk (0 : Int) (Span.mk (0 : Int) (0 : Int)))).Oil.Lo (a1.getD (Int.toNat x_2.fst) (Sight.mk (0 : Int) (Span.mk (0 : Int) (0 : Int)))).Oil.Hi) (1000000 : Int)) (fun (x_5 : Bool) => brk (!x_5) (some ((Field.mk (0 : Int) (0 : Int) ([]), (120 : Int)))) (chk ((0 : Int) ≤ (a1.getD (Int.toNat x_2.fst) (Sight.mk (0 : Int) (Span.mk (0 : Int) (0 : Int)))).Cell ∧ (a1.getD (Int.toNat x_2.fst) (Sight.mk (0 : Int) (Span.mk (0 : Int) (0 : Int)))).Cell < (↑(List.length x_2.snd) : Int)) (bnd (spill_meets_cut F (Span.mk (a1.getD (Int.toNat x_2.fst) (Sight.mk (0 : Int) (Span.mk (0 : Int) (0 : Int)))).Oil.Lo (a1.getD (Int.toNat x_2.fst) (Sight.mk (0 : Int) (Span.mk (0 : Int) (0 : Int)))).Oil.Hi) (Span.mk (List.getD x_2.snd (a1.getD (Int.toNat x_2.fst) (Sight.mk (0 : Int) (Span.mk (0 : Int) (0 : Int)))).Cell.toNat (Span.mk (0 : Int) (0 : Int))).Lo (List.getD x_2.snd (a1.getD (Int.toNat x_2.fst) (Sight.mk (0 : Int) (Span.mk (0 : Int) (0 : Int)))).Cell.toNat (Span.mk (0 : Int) (0 : Int))).Hi)) (fun (x_6 : Span) => chk ((0 : Int) ≤ (a1.getD (Int.toNat x_2.fst) (Sight.mk (0 : Int) (Span.mk (0 : Int) (0 : Int)))).Cell ∧ (a1.getD (Int.toNat x_2.fst) (Sight.mk (0 : Int) (Span.mk (0 : Int) (0 : Int)))).Cell < (↑(List.length x_2.snd) : Int)) (chk ((0 : Int) ≤ (a1.getD (Int.toNat x_2.fst) (Sight.mk (0 : Int) (Span.mk (0 : Int) (0 : Int)))).Cell ∧ (a1.getD (Int.toNat x_2.fst) (Sight.mk (0 : Int) (Span.mk (0 : Int) (0 : Int)))).Cell < (↑(List.set x_2.snd (a1.getD (Int.toNat x_2.fst) (Sight.mk (0 : Int) (Span.mk (0 : Int) (0 : Int)))).Cell.toNat (Span.mk x_6.Lo x_6.Hi)).length : Int)) (chk ((0 : Int) ≤ (a1.getD (Int.toNat x_2.fst) (Sight.mk (0 : Int) (Span.mk (0 : Int) (0 : Int)))).Cell ∧ (a1.getD (Int.toNat x_2.fst) (Sight.mk (0 : Int) (Span.mk (0 : Int) (0 : Int)))).Cell < (↑(List.set x_2.snd (a1.getD (Int.toNat x_2.fst) (Sight.mk (0 : Int) (Span.mk (0 : Int) (0 : Int)))).Cell.toNat (Span.mk x_6.Lo x_6.Hi)).length : Int)) (brk (decide (((List.set x_2.snd (a1.getD (Int.toNat x_2.fst) (Sight.mk (0 : Int) (Span.mk (0 : Int) (0 : Int)))).Cell.toNat (Span.mk x_6.Lo x_6.Hi)).getD (a1.getD (Int.toNat x_2.fst) (Sight.mk (0 : Int) (Span.mk (0 : Int) (0 : Int)))).Cell.toNat (Span.mk (0 : Int) (0 : Int))).Lo > ((List.set x_2.snd (a1.getD (Int.toNat x_2.fst) (Sight.mk (0 : Int) (Span.mk (0 : Int) (0 : Int)))).Cell.toNat (Span.mk x_6.Lo x_6.Hi)).getD (a1.getD (Int.toNat x_2.fst) (Sight.mk (0 : Int) (Span.mk (0 : Int) (0 : Int)))).Cell.toNat (Span.mk (0 : Int) (0 : Int))).Hi)) (some ((Field.mk (0 : Int) (0 : Int) ([]), (21 : Int)))) (chk (InR (x_2.fst + (1 : Int))) (x_3 ((x_2.fst + (1 : Int), List.set x_2.snd (a1.getD (Int.toNat x_2.fst) (Sight.mk (0 : Int) (Span.mk (0 : Int) (0 : Int)))).Cell.toNat (Span.mk x_6.Lo x_6.Hi))))))))))))))))) (some ((Field.mk a0.W a0.H (x_2.snd), (0 : Int))))) (F) (((0 : Int), x_1))))))
noncomputable def s27 (F : Nat) : CS E.G := ⟨27, [.v 9 true, .sl 11], [.v 9 true [34], .v 0 false []], fun x => spill_See F x.1 x.2.1⟩
noncomputable def cx27 (F : Nat) : Ctx E := ⟨[s15 F, s34 F, s80 F, s87 F, s88 F], [], F, []⟩
noncomputable def h27 : Hint := (.c .n (.c .n (.l ⟨[.i, .l 7], [32, 64, 384, 400, 112], [2, 3, 1, 4, 0], [(416, .i IntKind.i64)], [], [], [(4, 34, 7)], 5⟩ (.c (.c .n (.c .n .n)) .n))))
theorem e27 (F : Nat) (a0 : Field) (a1 : List Sight) : fnK (E := E) (cx27 F) Try.f27 [] [.v 9 true, .sl 11] [.v 9 true [34], .v 0 false []] h27 (a0, a1, ()) = spill_See F a0 a1 := by kernel_rfl
theorem c27 (F : Nat) : CSok E [] (s27 F) := ⟨en27, by
  have h := fn_sound (E := E) (gl := []) (cx := cx27 F) mix (allC (c15 F) (allC (c34 F) (allC (c80 F) (allC (c87 F) (allC (c88 F) all0))))) inl0 rfl (fun _ h => nomatch h) hf27 (ps := [.v 9 true, .sl 11]) (rs := [.v 9 true [34], .v 0 false []]) (by decide) h27
  rwa [show fnK (E := E) (cx27 F) Try.f27 [] [.v 9 true, .sl 11] [.v 9 true [34], .v 0 false []] h27 = (fun x : AT E.G.car [.v 9 true, .sl 11] => spill_See F x.1 x.2.1) from funext fun x => e27 F x.1 x.2.1] at h⟩
theorem hf64 : Try.prog.funcs[64]? = some Try.f64 := by kernel_rfl
theorem en64 : Proofs.Enters Try.prog 64 := Proofs.enters_of hf64 (by kernel_rfl) rfl
noncomputable def ref11_See (F : Nat) (a0 : Field) (a1 : List Sight) : Option (Field × Int) :=
  bnd (ref11_Check F (Field.mk a0.W a0.H (a0.Cells))) (fun (x : Int) => brk (x != (0 : Int)) (some ((Field.mk (0 : Int) (0 : Int) ([]), x))) (brk (decide ((↑a1.length : Int) > (100 : Int))) (some ((Field.mk (0 : Int) (0 : Int) ([]), (2 : Int)))) (chk ((0 : Nat) + a0.Cells.length ≤ (1000000 : Nat)) (loopC (fun (x_1 : (Int) × (List (Span))) => fun x_2 => brk (decide (x_1.fst < (↑a1.length : Int))) (chk ((0 : Int) ≤ x_1.fst ∧ x_1.fst < (↑a1.length : Int)) (chk (InR ((↑(List.length x_1.snd) : Int) - (1 : Int))) (bnd (ref11_in F (a1.getD (Int.toNat x_1.fst) (Sight.mk (0 : Int) (Span.mk (0 : Int) (0 : Int)))).Cell (0 : Int) ((↑(List.length x_1.snd) : Int) - (1 : Int))) (fun (x_3 : Bool) => brk (!x_3) (some ((Field.mk (0 : Int) (0 : Int) ([]), (1 : Int)))) (chk ((0 : Int) ≤ x_1.fst ∧ x_1.fst < (↑a1.length : Int)) (bnd (ref11_span F (Span.mk (a1.getD (Int.toNat x_1.fst) (Sight.mk (0 : Int) (Span.mk (0 : Int) (0 : Int)))).Oil.Lo (a1.getD (Int.toNat x_1.fst) (Sight.mk (0 : Int) (Span.mk (0 : Int) (0 : Int)))).Oil.Hi) (1000000 : Int)) (fun (x_4 : Bool) => brk (!x_4) (some ((Field.mk (0 : Int) (0 : Int) ([]), (120 : Int)))) (join (fun (x_5 : List (Span)) => join (fun (x_6 : List (Span)) => chk ((0 : Int) ≤ (a1.getD (Int.toNat x_1.fst) (Sight.mk (0 : Int) (Span.mk (0 : Int) (0 : Int)))).Cell ∧ (a1.getD (Int.toNat x_1.fst) (Sight.mk (0 : Int) (Span.mk (0 : Int) (0 : Int)))).Cell < (↑(List.length x_6) : Int)) (chk ((0 : Int) ≤ (a1.getD (Int.toNat x_1.fst) (Sight.mk (0 : Int) (Span.mk (0 : Int) (0 : Int)))).Cell ∧ (a1.getD (Int.toNat x_1.fst) (Sight.mk (0 : Int) (Span.mk (0 : Int) (0 : Int)))).Cell < (↑(List.length x_6) : Int)) (brk (decide ((List.getD x_6 (a1.getD (Int.toNat x_1.fst) (Sight.mk (0 : Int) (Span.mk (0 : Int) (0 : Int)))).Cell.toNat (Span.mk (0 : Int) (0 : Int))).Lo > (List.getD x_6 (a1.getD (Int.toNat x_1.fst) (Sight.mk (0 : Int) (Span.mk (0 : Int) (0 : Int)))).Cell.toNat (Span.mk (0 : Int) (0 : Int))).Hi)) (some ((Field.mk (0 : Int) (0 : Int) ([]), (21 : Int)))) (chk (InR (x_1.fst + (1 : Int))) (x_2 ((x_1.fst + (1 : Int), x_6))))))) (fun x_6 => chk ((0 : Int) ≤ x_1.fst ∧ x_1.fst < (↑a1.length : Int)) (chk ((0 : Int) ≤ (a1.getD (Int.toNat x_1.fst) (Sight.mk (0 : Int) (Span.mk (0 : Int) (0 : Int)))).Cell ∧ (a1.getD (Int.toNat x_1.fst) (Sight.mk (0 : Int) (Span.mk (0 : Int) (0 : Int)))).Cell < (↑(List.length x_5) : Int)) (brk (decide ((a1.getD (Int.toNat x_1.fst) (Sight.mk (0 : Int) (Span.mk (0 : Int) (0 : Int)))).Oil.Hi < (List.getD x_5 (a1.getD (Int.toNat x_1.fst) (Sight.mk (0 : Int) (Span.mk (0 : Int) (0 : Int)))).Cell.toNat (Span.mk (0 : Int) (0 : Int))).Hi)) (chk ((0 : Int) ≤ x_1.fst ∧ x_1.fst < (↑a1.length : Int)) (chk ((0 : Int) ≤ (a1.getD (Int.toNat x_1.fst) (Sight.mk (0 : Int) (Span.mk (0 : Int) (0 : Int)))).Cell ∧ (a1.getD (Int.toNat x_1.fst) (Sight.mk (0 : Int) (Span.mk (0 : Int) (0 : Int)))).Cell < (↑(List.length x_5) : Int)) (x_6 (List.set x_5 (a1.getD (Int.toNat x_1.fst) (Sight.mk (0 : Int) (Span.mk (0 : Int) (0 : Int)))).Cell.toNat (Span.mk (List.getD x_5 (a1.getD (Int.toNat x_1.fst) (Sight.mk (0 : Int) (Span.mk (0 : Int) (0 : Int)))).Cell.toNat (Span.mk (0 : Int) (0 : Int))).Lo (a1.getD (Int.toNat x_1.fst) (Sight.mk (0 : Int) (Span.mk (0 : Int) (0 : Int)))).Oil.Hi))))) (x_6 (x_5)))))) (fun x_5 => chk ((0 : Int) ≤ x_1.fst ∧ x_1.fst < (↑a1.length : Int)) (chk ((0 : Int) ≤ (a1.getD (Int.toNat x_1.fst) (Sight.mk (0 : Int) (Span.mk (0 : Int) (0 : Int)))).Cell ∧ (a1.getD (Int.toNat x_1.fst) (Sight.mk (0 : Int) (Span.mk (0 : Int) (0 : Int)))).Cell < (↑(List.length x_1.snd) : Int)) (brk (decide ((a1.getD (Int.toNat x_1.fst) (Sight.mk (0 : Int) (Span.mk (0 : Int) (0 : Int)))).Oil.Lo > (List.getD x_1.snd (a1.getD (Int.toNat x_1.fst) (Sight.mk (0 : Int) (Span.mk (0 : Int) (0 : Int)))).Cell.toNat (Span.mk (0 : Int) (0 : Int))).Lo)) (chk ((0 : Int) ≤ x_1.fst ∧ x_1.fst < (↑a1.length : Int)) (chk ((0 : Int) ≤ (a1.getD (Int.toNat x_1.fst) (Sight.mk (0 : Int) (Span.mk (0 : Int) (0 : Int)))).Cell ∧ (a1.getD (Int.toNat x_1.fst) (Sight.mk (0 : Int) (Span.mk (0 : Int) (0 : Int)))).Cell < (↑(List.length x_1.snd) : Int)) (x_5 (List.set x_1.snd (a1.getD (Int.toNat x_1.fst) (Sight.mk (0 : Int) (Span.mk (0 : Int) (0 : Int)))).Cell.toNat (Span.mk (a1.getD (Int.toNat x_1.fst) (Sight.mk (0 : Int) (Span.mk (0 : Int) (0 : Int)))).Oil.Lo (List.getD x_1.snd (a1.getD (Int.toNat x_1.fst) (Sight.mk (0 : Int) (Span.mk (0 : Int) (0 : Int)))).Cell.toNat (Span.mk (0 : Int) (0 : Int))).Hi))))) (x_5 (x_1.snd))))))))))))) (some ((Field.mk a0.W a0.H (x_1.snd), (0 : Int))))) (F) (((0 : Int), [] ++ a0.Cells))))))
noncomputable def s64 (F : Nat) : CS E.G := ⟨64, [.v 9 true, .sl 11], [.v 9 true [34], .v 0 false []], fun x => ref11_See F x.1 x.2.1⟩
noncomputable def cx64 (F : Nat) : Ctx E := ⟨[s35 F, s93 F, s94 F], [], F, []⟩
noncomputable def h64 : Hint := (.c .n (.c .n (.l ⟨[.i, .l 7], [16, 32, 64, 112], [1, 2, 3, 5, 0], [(128, .i IntKind.i64)], [], [], [(5, 34, 7)], 6⟩ (.c (.c .n (.c .n (.j ⟨[.l 7], [16, 32, 64, 128, 144, 112], [1, 2, 3, 5, 0], [], [], [], [(5, 34, 7)], 6⟩ .n (.j ⟨[.l 7], [16, 32, 64, 128, 144, 112], [1, 2, 3, 5, 0], [], [], [], [(5, 34, 7)], 6⟩ .n .n)))) .n))))
theorem e64 (F : Nat) (a0 : Field) (a1 : List Sight) : fnK (E := E) (cx64 F) Try.f64 [] [.v 9 true, .sl 11] [.v 9 true [34], .v 0 false []] h64 (a0, a1, ()) = ref11_See F a0 a1 := by kernel_rfl
theorem c64 (F : Nat) : CSok E [] (s64 F) := ⟨en64, by
  have h := fn_sound (E := E) (gl := []) (cx := cx64 F) mix (allC (c35 F) (allC (c93 F) (allC (c94 F) all0))) inl0 rfl (fun _ h => nomatch h) hf64 (ps := [.v 9 true, .sl 11]) (rs := [.v 9 true [34], .v 0 false []]) (by decide) h64
  rwa [show fnK (E := E) (cx64 F) Try.f64 [] [.v 9 true, .sl 11] [.v 9 true [34], .v 0 false []] h64 = (fun x : AT E.G.car [.v 9 true, .sl 11] => ref11_See F x.1 x.2.1) from funext fun x => e64 F x.1 x.2.1] at h⟩
end Go.Proofs.Sp

namespace Go.KX

def Ok {α : Type} (post : α → Prop) (o : Option α) : Prop := ∃ r, o = some r ∧ post r

section
variable {α β ι σ R : Type} {post : α → Prop}

theorem chk_pos {p : Prop} [Decidable p] {x : Option α} (h : p) : chk p x = x := if_pos h
theorem brk_true {x y : Option α} : brk true x y = x := rfl
theorem brk_false {x y : Option α} : brk false x y = y := rfl
theorem bnd_so {x : β} {f : β → Option α} : bnd (some x) f = f x := rfl
theorem loopC_succ {body : σ → (σ → Option α) → Option α} {n : Nat} {x : σ} : loopC body (n + 1) x = body x (loopC body n) := rfl
theorem ok_some {r : α} (h : post r) : Ok post (some r) := ⟨r, rfl, h⟩
theorem ok_chk {p : Prop} [Decidable p] {x : Option α} (h : p) (hx : Ok post x) : Ok post (chk p x) := by rw [chk_pos h]; exact hx
theorem ok_brk {c : Bool} {x y : Option α} (ht : c = true → Ok post x) (hf : c = false → Ok post y) : Ok post (brk c x y) := by
  cases c with
  | true => exact ht rfl
  | false => exact hf rfl
theorem ok_brkT {c : Bool} {x y : Option α} (hc : c = true) (ht : Ok post x) : Ok post (brk c x y) := by subst hc; exact ht
theorem ok_brkF {c : Bool} {x y : Option α} (hc : c = false) (hf : Ok post y) : Ok post (brk c x y) := by subst hc; exact hf
theorem ok_bnd {x : Option β} {f : β → Option α} (q : β → Prop) (hx : Ok q x) (hf : ∀ b, q b → Ok post (f b)) : Ok post (bnd x f) := by
  obtain ⟨b, rfl, hb⟩ := hx
  exact hf b hb
theorem ok_bnde {x : Option β} {f : β → Option α} {b : β} (hx : x = some b) (hf : Ok post (f b)) : Ok post (bnd x f) := by subst hx; exact hf
theorem ok_join {K : ι → Option α} {body : (ι → Option α) → Option α} (J : ι → Prop) (hK : ∀ i, J i → Ok post (K i)) (hb : ∀ k : ι → Option α, (∀ i, J i → Ok post (k i)) → Ok post (body k)) : Ok post (join K body) := hb K hK
theorem ok_loop {body : σ → (σ → Option α) → Option α} (I : σ → Prop) (μ : σ → Nat) {n : Nat} {x0 : σ} (h0 : I x0) (hn : μ x0 < n)
    (h : ∀ x (next : σ → Option α), I x → (∀ y, I y → μ y < μ x → Ok post (next y)) → Ok post (body x next)) : Ok post (loopC body n x0) := by
  induction n generalizing x0 with
  | zero => omega
  | succ n ih => exact h x0 _ h0 fun y hy hlt => ih hy (by omega)
theorem Ok.mono {post' : α → Prop} {o : Option α} (h : Ok post o) (hp : ∀ r, post r → post' r) : Ok post' o := by obtain ⟨r, h1, h2⟩ := h; exact ⟨r, h1, hp r h2⟩
theorem Ok.eq {o : Option α} {r : α} (h : Ok (fun x => x = r) o) : o = some r := by obtain ⟨r, h1, rfl⟩ := h; exact h1
end

/-! ### Lists -/
theorem getD_mem {α : Type} {l : List α} {i : Nat} {d : α} (h : i < l.length) : l.getD i d ∈ l := by
  rw [List.getD_eq_getElem?_getD, List.getElem?_eq_getElem h]; exact List.getElem_mem h
theorem getD_get {α : Type} {l : List α} {i : Nat} {d : α} (h : i < l.length) : l.getD i d = l[i] := by
  rw [List.getD_eq_getElem?_getD, List.getElem?_eq_getElem h]; rfl
theorem getD_append_left' {α : Type} {l r : List α} {i : Nat} {d : α} (h : i < l.length) : (l ++ r).getD i d = l.getD i d := by
  rw [List.getD_eq_getElem?_getD, List.getElem?_append_left h, ← List.getD_eq_getElem?_getD]
theorem getD_append_here {α : Type} {l : List α} {x d : α} : (l ++ [x]).getD l.length d = x := by
  simp [List.getD_eq_getElem?_getD]
theorem getD_set' {α : Type} {l : List α} {i j : Nat} {x d : α} (h : i < l.length) : (l.set i x).getD j d = if i = j then x else l.getD j d := by
  simp only [List.getD_eq_getElem?_getD, List.getElem?_set]
  by_cases e : i = j
  · subst e; simp [h]
  · simp [e]
theorem list_ext {α : Type} {l r : List α} (d : α) (h : l.length = r.length) (hx : ∀ i, i < l.length → l.getD i d = r.getD i d) : l = r := by
  apply List.ext_getElem h
  intro i h1 h2
  have := hx i h1
  rwa [getD_get h1, getD_get h2] at this
theorem take_succ' {α : Type} {l : List α} {i : Nat} {d : α} (h : i < l.length) : l.take (i + 1) = l.take i ++ [l.getD i d] := by
  rw [getD_get h, List.take_add_one, List.getElem?_eq_getElem h]; rfl

def sumL : List Int → Int
  | [] => 0
  | x :: r => x + sumL r
theorem sumL_append : ∀ l r : List Int, sumL (l ++ r) = sumL l + sumL r
  | [], r => by simp [sumL]
  | x :: l, r => by simp only [List.cons_append, sumL, sumL_append l r]; omega
theorem sumL_set : ∀ (l : List Int) (i : Nat) (v : Int), i < l.length → sumL (l.set i v) = sumL l - l.getD i 0 + v
  | x :: l, 0, v, _ => by simp only [List.set_cons_zero, sumL, List.getD_cons_zero]; omega
  | x :: l, i + 1, v, h => by
    simp only [List.set_cons_succ, sumL, List.getD_cons_succ]
    rw [sumL_set l i v (by simpa using h)]; omega
theorem sumL_nonneg : ∀ (l : List Int), (∀ x ∈ l, 0 ≤ x) → 0 ≤ sumL l
  | [], _ => by simp [sumL]
  | x :: l, h => by
    have h1 := h x (by simp); have h2 := sumL_nonneg l fun y hy => h y (by simp [hy])
    simp only [sumL]; omega
theorem mem_le_sumL : ∀ (l : List Int), (∀ x ∈ l, 0 ≤ x) → ∀ x ∈ l, x ≤ sumL l
  | y :: l, h, x, hx => by
    have h1 := h y (by simp); have h2 := sumL_nonneg l fun y hy => h y (by simp [hy])
    simp only [sumL]
    rcases List.mem_cons.1 hx with rfl | hx
    · omega
    · have := mem_le_sumL l (fun y hy => h y (by simp [hy])) x hx; omega
theorem sumL_le {B : Int} : ∀ (l : List Int), (∀ x ∈ l, x ≤ B) → sumL l ≤ B * l.length
  | [], _ => by simp [sumL]
  | x :: l, h => by
    have h1 := h x (by simp); have h2 := sumL_le l fun y hy => h y (by simp [hy])
    simp only [sumL, List.length_cons, Int.natCast_add, Int.mul_add]; omega
theorem sumL_replicate0 (n : Nat) : sumL (List.replicate n 0) = 0 := by
  induction n with
  | zero => rfl
  | succ n ih => simp [List.replicate_succ, sumL, ih]
theorem getD_nonneg {l : List Int} (h : ∀ x ∈ l, 0 ≤ x) (i : Nat) : 0 ≤ l.getD i 0 := by
  by_cases hi : i < l.length
  · exact h _ (getD_mem hi)
  · simp [List.getD_eq_getElem?_getD, List.getElem?_eq_none (Nat.le_of_not_lt hi)]
theorem getD_le_sum {l : List Int} (h : ∀ x ∈ l, 0 ≤ x) (i : Nat) : l.getD i 0 ≤ sumL l := by
  by_cases hi : i < l.length
  · exact mem_le_sumL l h _ (getD_mem hi)
  · simp [List.getD_eq_getElem?_getD, List.getElem?_eq_none (Nat.le_of_not_lt hi)]; exact sumL_nonneg l h
end Go.KX

namespace Go.Proofs.Sp
open Go Go.KX

theorem within_eq (F : Nat) (a b c : Int) : spill_within F a b c = some (decide (a ≥ b) && decide (a ≤ c)) := rfl

/-- A span that is allowed. -/
abbrev SpanOK (m : Int) (s : Span) : Prop := 0 ≤ s.Lo ∧ s.Lo ≤ s.Hi ∧ s.Hi ≤ m

theorem span_eq (F : Nat) (s : Span) (m : Int) : spill_span F s m = some (decide (SpanOK m s)) := by
  unfold spill_span
  rw [within_eq, bnd_so]
  cases h : (decide (s.Lo ≥ 0) && decide (s.Lo ≤ m)) with
  | true =>
    simp only [Bool.and_eq_true, decide_eq_true_eq] at h
    rw [brk_true, within_eq, bnd_so, Bool.true_and]
    congr 1
    rw [← Bool.decide_and]
    exact decide_eq_decide.2 ⟨fun h' => ⟨h.1, h'.1, h'.2⟩, fun h' => ⟨h'.2.1, h'.2.2⟩⟩
  | false =>
    simp only [Bool.and_eq_false_iff, decide_eq_false_iff_not] at h
    rw [brk_false, bnd_so, Bool.false_and]
    congr 1
    symm
    rw [decide_eq_false_iff_not]
    rintro ⟨h1, h2, h3⟩
    omega

/-- The error of a field. -/
def checkV (f : Field) : Int :=
  if ¬ (1 ≤ f.W ∧ f.W ≤ 8 ∧ 1 ≤ f.H ∧ f.H ≤ 8) then 6
  else if (f.Cells.length : Int) ≠ f.W * f.H then 1
  else if ∀ s ∈ f.Cells, SpanOK 1000000 s then 0 else 120

theorem mul_bound {w h : Int} (h1 : 1 ≤ w) (h2 : w ≤ 8) (h3 : 1 ≤ h) (h4 : h ≤ 8) : 1 ≤ w * h ∧ w * h ≤ 64 := by
  have : w = 1 ∨ w = 2 ∨ w = 3 ∨ w = 4 ∨ w = 5 ∨ w = 6 ∨ w = 7 ∨ w = 8 := by omega
  rcases this with rfl | rfl | rfl | rfl | rfl | rfl | rfl | rfl <;> omega

/-- The loop of ContainsFunc: the first index of which p is so; here p is that a span is not allowed. -/
theorem find_ok {F : Nat} {m : Int} {l : List Span} {g : Nat → Span → Option Bool} (hg : ∀ s, g F s = some (!decide (SpanOK m s))) {α : Type} {post : α → Prop} (k : Int → Option α) (hF : l.length < F) (hl : l.length ≤ 1000000)
    (hk : ∀ i : Int, (0 ≤ i ↔ ¬ ∀ s ∈ l, SpanOK m s) → Ok post (k i)) :
    Ok post (loopC (fun (x_3 : Int) => fun x_4 => brk (decide (x_3 < (↑l.length : Int))) (chk ((0 : Int) ≤ x_3 ∧ x_3 < (↑l.length : Int)) (bnd (g F (Span.mk (l.getD (Int.toNat x_3) (Span.mk (0 : Int) (0 : Int))).Lo (l.getD (Int.toNat x_3) (Span.mk (0 : Int) (0 : Int))).Hi)) (fun (x_5 : Bool) => brk (x_5) (k (x_3)) (chk (InR (x_3 + (1 : Int))) (x_4 (x_3 + (1 : Int))))))) (k ((-1 : Int)))) (F) ((0 : Int))) := by
  refine ok_loop (fun i : Int => 0 ≤ i ∧ i ≤ l.length ∧ ∀ j : Nat, (j : Int) < i → SpanOK m (l.getD j ⟨0, 0⟩)) (fun i : Int => l.length - i.toNat) ⟨by omega, by omega, fun j hj => by omega⟩ (by simp; omega) fun i next ⟨h1, h2, h3⟩ hn => ?_
  refine ok_brk (fun hc => ?_) (fun hc => ?_)
  · have hc : i < l.length := by simpa using hc
    have hi : i.toNat < l.length := by omega
    refine ok_chk ⟨h1, hc⟩ ?_
    rw [hg, bnd_so]
    refine ok_brk (fun hb => ?_) (fun hb => ?_)
    · simp only [Bool.not_eq_true', decide_eq_false_iff_not] at hb
      exact hk i ⟨fun _ h => hb (h _ (getD_mem hi)), fun _ => h1⟩
    · simp only [Bool.not_eq_false', decide_eq_true_eq] at hb
      refine ok_chk (by constructor <;> omega) (hn _ ⟨by omega, by omega, fun j hj => ?_⟩ (by omega))
      by_cases e : (j : Int) < i
      · exact h3 j e
      · obtain rfl : j = i.toNat := by omega
        exact hb
  · have hc : ¬ i < l.length := by simpa using hc
    refine hk (-1) ⟨fun h => by omega, fun h => absurd (fun s hs => ?_) h⟩
    obtain ⟨j, hj, rfl⟩ := List.getElem_of_mem hs
    have := h3 j (by omega)
    rwa [getD_get hj] at this

theorem Check_eq {F : Nat} {f : Field} (hF : f.Cells.length < F) : spill_Check F f = some (checkV f) := by
  refine Ok.eq ?_
  unfold spill_Check
  rw [within_eq, bnd_so]
  have key : Ok (fun x => x = checkV f) (brk (!decide (1 ≤ f.W ∧ f.W ≤ 8) || !decide (1 ≤ f.H ∧ f.H ≤ 8)) (some ((6 : Int))) (chk (InR (f.W * f.H)) (brk ((↑f.Cells.length : Int) != f.W * f.H) (some ((1 : Int))) (join (fun (x_2 : Int) => brk (decide (x_2 ≥ (0 : Int))) (some ((120 : Int))) (some ((0 : Int)))) (fun x_2 => loopC (fun (x_3 : Int) => fun x_4 => brk (decide (x_3 < (↑f.Cells.length : Int))) (chk ((0 : Int) ≤ x_3 ∧ x_3 < (↑f.Cells.length : Int)) (bnd (spill_Check_1 F (Span.mk (f.Cells.getD (Int.toNat x_3) (Span.mk (0 : Int) (0 : Int))).Lo (f.Cells.getD (Int.toNat x_3) (Span.mk (0 : Int) (0 : Int))).Hi)) (fun (x_5 : Bool) => brk (x_5) (x_2 (x_3)) (chk (InR (x_3 + (1 : Int))) (x_4 (x_3 + (1 : Int))))))) (x_2 ((-1 : Int)))) (F) ((0 : Int))))))) := by
    refine ok_brk (fun h => ok_some ?_) (fun h => ?_)
    · rw [checkV, if_pos]
      simp only [Bool.or_eq_true, Bool.not_eq_true', decide_eq_false_iff_not] at h
      omega
    · simp only [Bool.or_eq_false_iff, Bool.not_eq_false', decide_eq_true_eq] at h
      obtain ⟨hb1, hb2⟩ := mul_bound h.1.1 h.1.2 h.2.1 h.2.2
      have e1 : ¬ ¬ (1 ≤ f.W ∧ f.W ≤ 8 ∧ 1 ≤ f.H ∧ f.H ≤ 8) := by omega
      refine ok_chk (by constructor <;> omega) (ok_brk (fun h2 => ok_some ?_) (fun h2 => ?_))
      · rw [checkV, if_neg e1, if_pos (by simpa using h2)]
      · have h2 : (f.Cells.length : Int) = f.W * f.H := by simpa using h2
        refine ok_join (fun i : Int => 0 ≤ i ↔ ¬ ∀ s ∈ f.Cells, SpanOK 1000000 s) (fun i hi => ?_) fun k hk => find_ok (g := spill_Check_1) (fun s => by unfold spill_Check_1; rw [span_eq, bnd_so]) k hF (by omega) hk
        refine ok_brk (fun h3 => ok_some ?_) (fun h3 => ok_some ?_)
        · rw [checkV, if_neg e1, if_neg (fun h => h h2), if_neg (hi.1 (by simpa using h3))]
        · rw [checkV, if_neg e1, if_neg (fun h => h h2), if_pos]
          exact Classical.not_not.1 fun h => absurd (hi.2 h) (by simpa using h3)
  have e : ∀ a b c : Int, (decide (a ≥ b) && decide (a ≤ c)) = decide (b ≤ a ∧ a ≤ c) := fun a b c => by rw [← Bool.decide_and]
  rw [e]
  by_cases h : 1 ≤ f.W ∧ f.W ≤ 8
  · rw [decide_eq_true h] at key ⊢
    simp only [Bool.not_true, Bool.not_false, brk_true, within_eq, bnd_so, e]
    exact key
  · rw [decide_eq_false h] at key ⊢
    simp only [Bool.not_false, Bool.not_true, brk_false, bnd_so] at key ⊢
    simpa only [Bool.true_or, brk_true] using key

/-- A field that is right. -/
structure FieldOK (f : Field) : Prop where
  w : 1 ≤ f.W ∧ f.W ≤ 8
  h : 1 ≤ f.H ∧ f.H ≤ 8
  len : (f.Cells.length : Int) = f.W * f.H
  cells : ∀ s ∈ f.Cells, SpanOK 1000000 s

theorem FieldOK.check {f : Field} (h : FieldOK f) : checkV f = 0 := by
  rw [checkV, if_neg (by have := h.w; have := h.h; omega), if_neg (fun e => e h.len), if_pos h.cells]
theorem FieldOK.small {f : Field} (h : FieldOK f) : 1 ≤ f.Cells.length ∧ f.Cells.length ≤ 64 := by
  have h1 := mul_bound h.w.1 h.w.2 h.h.1 h.h.2
  have := h.len
  omega
theorem checkV_ok {f : Field} (h : checkV f = 0) : FieldOK f := by
  unfold checkV at h
  split at h
  · cases h
  · rename_i h1
    split at h
    · cases h
    · rename_i h2
      split at h
      · rename_i h3; exact ⟨by omega, by omega, by omega, h3⟩
      · cases h
end Go.Proofs.Sp

namespace Go.Proofs.Sp
open Go Go.KX

abbrev d0 : A2ofInt := A2ofInt.mk (0 : Int) (0 : Int)
abbrev dirs : List A2ofInt := [A2ofInt.mk (0 : Int) (-1 : Int), A2ofInt.mk (1 : Int) (0 : Int), A2ofInt.mk (0 : Int) (1 : Int), A2ofInt.mk (-1 : Int) (0 : Int)]

def okD (W H c : Int) (d : A2ofInt) : Bool := (decide (c % W + d.a0 ≥ 0) && decide (c % W + d.a0 ≤ W - 1)) && (decide (c / W + d.a1 ≥ 0) && decide (c / W + d.a1 ≤ H - 1))
def toD (W c : Int) (d : A2ofInt) : Int := (c / W + d.a1) * W + (c % W + d.a0)
def nbl (W H c : Int) (l : List A2ofInt) : List Int := (l.filter (okD W H c)).map (toD W c)
/-- The neighbours of a cell. -/
def nb (W H c : Int) : List Int := nbl W H c dirs

def addAt (l : List Int) (k : Int) (v : Int) : List Int := l.set k.toNat (l.getD k.toNat 0 + v)
def adds : List Int → List (Int × Int) → List Int
  | l, [] => l
  | l, p :: cs => adds (addAt l p.1 p.2) cs
theorem adds_append : ∀ (cs ds : List (Int × Int)) (l : List Int), adds l (cs ++ ds) = adds (adds l cs) ds
  | [], _, _ => rfl
  | _ :: cs, ds, l => adds_append cs ds _

def give (f m : Int) : Int → List Int → List (Int × Int)
  | _, [] => []
  | i, k :: ks => (k, (f + i) / m) :: give f m (i + 1) ks
theorem give_append (f m : Int) : ∀ (ks : List Int) (i k : Int), give f m i (ks ++ [k]) = give f m i ks ++ [(k, (f + (i + ks.length)) / m)]
  | [], i, k => by simp [give]
  | q :: ks, i, k => by
    simp only [List.cons_append, give, give_append f m ks, List.length_cons]
    rw [show i + 1 + (ks.length : Int) = i + ((ks.length + 1 : Nat) : Int) by omega]

def offV (a c : Int) : Int := (if a - c > 0 then a - c else 0) / 2
def contr (W H c n s g : Int) : List (Int × Int) := if (nb W H c).length = 0 then [(c, n)] else (c, n - offV n s) :: give (offV n g) (nb W H c).length 0 (nb W H c)
def contrs (W H : Int) (am st gi : List Int) : Nat → List (Int × Int)
  | 0 => []
  | k + 1 => contrs W H am st gi k ++ contr W H k (am.getD k 0) (st.getD k 0) (gi.getD k 0)
/-- The amounts after an hour. -/
def hourV (W H : Int) (am st gi : List Int) : List Int := adds (List.replicate am.length 0) (contrs W H am st gi am.length)

theorem off_eq {F : Nat} {a c : Int} (ha : 0 ≤ a ∧ a ≤ 1000000) (hc : 0 ≤ c ∧ c ≤ 1000000) : spill_off F a c = some (offV a c) := by
  unfold spill_off
  rw [chk_pos (by constructor <;> (first | omega | (dsimp only; omega))), chk_pos (by split <;> constructor <;> omega)]
  rfl
theorem offV_bound {a c : Int} (ha : 0 ≤ a ∧ a ≤ 1000000) (hc : 0 ≤ c) : 0 ≤ offV a c ∧ offV a c ≤ a ∧ offV a c ≤ 1000000 := by
  unfold offV
  split <;> refine ⟨by omega, by omega, by omega⟩

structure Good (L : Nat) (B : Int) (out : List Int) : Prop where
  len : out.length = L
  nn : ∀ x ∈ out, 0 ≤ x
  sum : sumL out ≤ B

theorem Good.get {L : Nat} {B : Int} {out : List Int} (h : Good L B out) (i : Nat) : 0 ≤ out.getD i 0 ∧ out.getD i 0 ≤ B :=
  ⟨getD_nonneg h.nn i, Int.le_trans (getD_le_sum h.nn i) h.sum⟩
theorem Good.mono {L : Nat} {B B' : Int} {out : List Int} (h : Good L B out) (hB : B ≤ B') : Good L B' out := ⟨h.len, h.nn, Int.le_trans h.sum hB⟩
theorem Good.addAt {L : Nat} {B V : Int} {out : List Int} {k v : Int} (h : Good L B out) (h1 : 0 ≤ k) (h2 : k < L) (h3 : 0 ≤ v) (h4 : v ≤ V) : Good L (B + V) (Sp.addAt out k v) := by
  have hk : k.toNat < out.length := by rw [h.len]; omega
  refine ⟨by rw [Sp.addAt, List.length_set, h.len], fun x hx => ?_, ?_⟩
  · have := (h.get k.toNat).1
    rcases List.mem_or_eq_of_mem_set hx with hx | rfl
    · exact h.nn x hx
    · omega
  · have := h.sum
    rw [Sp.addAt, sumL_set _ _ _ hk]; omega

theorem dirs_small : ∀ d ∈ dirs, -1 ≤ d.a0 ∧ d.a0 ≤ 1 ∧ -1 ≤ d.a1 ∧ d.a1 ≤ 1 := by decide

theorem pos_bound {W H c : Int} (hW : 1 ≤ W ∧ W ≤ 8) (hH : 1 ≤ H ∧ H ≤ 8) (hc : 0 ≤ c ∧ c < W * H) : 0 ≤ c % W ∧ c % W ≤ W - 1 ∧ 0 ≤ c / W ∧ c / W ≤ H - 1 := by
  have h1 := Int.emod_nonneg c (by omega : W ≠ 0)
  have h2 := Int.emod_lt_of_pos c (by omega : 0 < W)
  have h3 := Int.ediv_nonneg hc.1 (by omega : 0 ≤ W)
  have h4 := Int.ediv_lt_of_lt_mul (by omega : 0 < W) (show c < H * W by rw [Int.mul_comm]; exact hc.2)
  omega

theorem toD_bound {W H c : Int} {d : A2ofInt} (hW : 1 ≤ W ∧ W ≤ 8) (hH : 1 ≤ H ∧ H ≤ 8) (h : okD W H c d = true) : 0 ≤ (c / W + d.a1) * W ∧ (c / W + d.a1) * W ≤ 64 ∧ 0 ≤ toD W c d ∧ toD W c d < W * H := by
  simp only [okD, Bool.and_eq_true, decide_eq_true_eq] at h
  obtain ⟨⟨h1, h2⟩, h3, h4⟩ := h
  have h5 : 0 ≤ (c / W + d.a1) * W := Int.mul_nonneg h3 (by omega)
  have h6 : (c / W + d.a1) * W ≤ (H - 1) * W := Int.mul_le_mul_of_nonneg_right h4 (by omega)
  have h7 : (H - 1) * W = W * H - W := by rw [Int.sub_mul, Int.one_mul, Int.mul_comm]
  have h8 := mul_bound hW.1 hW.2 hH.1 hH.2
  refine ⟨h5, by omega, ?_, ?_⟩ <;> unfold toD <;> omega

theorem nbl_snoc (W H c : Int) (l : List A2ofInt) (d : A2ofInt) : nbl W H c (l ++ [d]) = bif okD W H c d then nbl W H c l ++ [toD W c d] else nbl W H c l := by
  unfold nbl
  rw [List.filter_append, List.map_append]
  cases h : okD W H c d <;> simp [h]

theorem nbl_mem {W H c : Int} (hW : 1 ≤ W ∧ W ≤ 8) (hH : 1 ≤ H ∧ H ≤ 8) {l : List A2ofInt} : ∀ k ∈ nbl W H c l, 0 ≤ k ∧ k < W * H := by
  intro k hk
  unfold nbl at hk
  simp only [List.mem_map, List.mem_filter] at hk
  obtain ⟨d, ⟨_, hd⟩, rfl⟩ := hk
  have := toD_bound hW hH hd
  exact ⟨this.2.2.1, this.2.2.2⟩

theorem brk_and {F : Nat} {b : Bool} {x m : Int} : brk b (spill_within F x 0 m) (some false) = some (b && (decide (x ≥ 0) && decide (x ≤ m))) := by
  cases b <;> rfl

theorem nbl_le4 (W H c : Int) (j : Nat) : (nbl W H c (dirs.take j)).length ≤ 4 := by
  unfold nbl
  rw [List.length_map]
  refine Nat.le_trans (List.length_filter_le _ _) ?_
  rw [List.length_take]; exact Nat.min_le_right _ _

theorem hour_eq {F : Nat} {f : Field} {am st gi : List Int} (hF : 100 < F) (hW : 1 ≤ f.W ∧ f.W ≤ 8) (hH : 1 ≤ f.H ∧ f.H ≤ 8) (hl : (am.length : Int) = f.W * f.H) (hs : st.length = am.length) (hg : gi.length = am.length)
    (ha : ∀ a ∈ am, 0 ≤ a ∧ a ≤ 1000000) (hst : ∀ a ∈ st, 0 ≤ a ∧ a ≤ 10000) (hgi : ∀ a ∈ gi, 0 ≤ a ∧ a ≤ 10000) :
    spill_grid_hour F f am st gi = some (hourV f.W f.H am st gi) ∧ Good am.length 1000000000 (hourV f.W f.H am st gi) := by
  have hL := mul_bound hW.1 hW.2 hH.1 hH.2
  suffices h : Ok (fun r => r = hourV f.W f.H am st gi ∧ Good am.length 1000000000 r) (spill_grid_hour F f am st gi) by
    obtain ⟨r, h1, rfl, h2⟩ := h
    exact ⟨h1, h2⟩
  unfold spill_grid_hour
  refine ok_chk (by omega) ?_
  refine ok_loop (fun x : Int × List Int => 0 ≤ x.1 ∧ x.1 ≤ am.length ∧ x.2 = adds (List.replicate am.length 0) (contrs f.W f.H am st gi x.1.toNat) ∧ Good am.length (x.1 * 10000000) x.2) (fun x : Int × List Int => am.length - x.1.toNat) ?_ (by simp; omega) ?_
  · refine ⟨Int.le_refl _, by simp, rfl, by simp, fun x hx => ?_, ?_⟩
    · have := List.eq_of_mem_replicate hx; omega
    · rw [sumL_replicate0]; exact Int.le_refl _
  rintro ⟨c, out⟩ next ⟨h1, h2, h3, h4⟩ hn
  simp only at h1 h2 h3 h4
  refine ok_brk (fun hc => ?_) (fun hc => ok_some ?_)
  rotate_left
  · have hc : ¬ c < am.length := by simpa using hc
    obtain rfl : c = am.length := by omega
    exact ⟨h3, h4.mono (by omega)⟩
  have hc : c < am.length := by simpa using hc
  have hcn : c.toNat < am.length := by omega
  obtain ⟨p1, p2, p3, p4⟩ := pos_bound hW hH ⟨h1, by omega⟩
  have hn1 := ha _ (getD_mem (d := 0) hcn)
  have hs1 := hst _ (getD_mem (i := c.toNat) (d := 0) (by omega))
  have hg1 := hgi _ (getD_mem (i := c.toNat) (d := 0) (by omega))
  have hcontr : contrs f.W f.H am st gi (c + 1).toNat = contrs f.W f.H am st gi c.toNat ++ contr f.W f.H c (am.getD c.toNat 0) (st.getD c.toNat 0) (gi.getD c.toNat 0) := by
    rw [show (c + 1).toNat = c.toNat + 1 by omega, contrs, show ((c.toNat : Nat) : Int) = c by omega]
  refine ok_join (fun o : List Int => o = adds out (contr f.W f.H c (am.getD c.toNat 0) (st.getD c.toNat 0) (gi.getD c.toNat 0)) ∧ Good am.length ((c + 1) * 10000000) o) (fun o ho => ?_) fun k hk => ?_
  · refine ok_chk (by constructor <;> (first | omega | (dsimp only; omega))) (hn _ ⟨by show 0 ≤ c + 1; omega, by show c + 1 ≤ _; omega, ?_, ho.2⟩ (by show am.length - (c + 1).toNat < am.length - c.toNat; omega))
    show o = _
    rw [hcontr, adds_append, ← h3]; exact ho.1
  refine ok_chk ⟨h1, hc⟩ (ok_chk (by constructor <;> (first | omega | (dsimp only; omega))) (ok_chk (by constructor <;> (first | omega | (dsimp only; omega))) ?_))
  have dsm : ∀ j : Nat, j < 4 → -1 ≤ (dirs.getD j d0).a0 ∧ (dirs.getD j d0).a0 ≤ 1 ∧ -1 ≤ (dirs.getD j d0).a1 ∧ (dirs.getD j d0).a1 ≤ 1 := fun j hj => dirs_small _ (getD_mem (l := dirs) hj)
  refine ok_loop (fun x : Int × Int × Int => 0 ≤ x.2.1 ∧ x.2.1 ≤ 4 ∧ x.1 = (nbl f.W f.H c (dirs.take x.2.1.toNat)).length ∧ x.2.2 = x.1) (fun x : Int × Int × Int => 4 - x.2.1.toNat) ⟨by simp, by simp, rfl, rfl⟩ (by simp; omega) ?_
  rintro ⟨q, j, i⟩ next1 ⟨g1, g2, g3, g4⟩ hn1'
  simp only at g1 g2 g3 g4
  subst g4
  have l4 := nbl_le4 f.W f.H c j.toNat
  refine ok_brk (fun hj => ?_) (fun hj => ?_)
  · have hj : j < 4 := by simpa using hj
    have ht : dirs.take (j + 1).toNat = dirs.take j.toNat ++ [dirs.getD j.toNat d0] := by
      rw [show (j + 1).toNat = j.toNat + 1 by omega]; exact take_succ' (l := dirs) (by show j.toNat < 4; omega)
    obtain ⟨q1, q2, q3, q4⟩ := dsm j.toNat (by omega)
    refine ok_join (fun y : Int × Int => y.1 = (nbl f.W f.H c (dirs.take (j + 1).toNat)).length ∧ y.2 = y.1) (fun y hy => ?_) fun k1 hk1 => ?_
    · exact ok_chk (by constructor <;> (first | omega | (dsimp only; omega))) (hn1' _ ⟨by show 0 ≤ j + 1; omega, by show j + 1 ≤ 4; omega, hy.1, hy.2⟩ (by show 4 - (j + 1).toNat < 4 - j.toNat; omega))
    have i5 : InR (c % f.W + (dirs.getD j.toNat d0).a0) := ⟨by omega, by omega⟩
    have i6 : InR (c / f.W + (dirs.getD j.toNat d0).a1) := ⟨by omega, by omega⟩
    refine ok_chk ⟨g1, hj⟩ (ok_chk i5 (ok_chk i6 (ok_chk (by constructor <;> (first | omega | (dsimp only; omega))) ?_)))
    rw [within_eq, bnd_so]
    refine ok_chk (fun _ => by constructor <;> omega) ?_
    rw [brk_and, bnd_so, Bool.and_self_left]
    rw [ht, nbl_snoc] at hk1
    refine ok_brk (fun hb => ?_) (fun hb => ?_)
    · have hb : okD f.W f.H c (dirs.getD j.toNat d0) = true := hb
      obtain ⟨b1, b2, b3, b4⟩ := toD_bound hW hH hb
      rw [hb, cond_true] at hk1
      unfold toD at b3 b4
      have i1 : InR ((c / f.W + (dirs.getD j.toNat d0).a1) * f.W) := ⟨by omega, by omega⟩
      have i2 : InR ((c / f.W + (dirs.getD j.toNat d0).a1) * f.W + (c % f.W + (dirs.getD j.toNat d0).a0)) := ⟨by omega, by omega⟩
      refine ok_chk i1 (ok_chk i2 (ok_chk (by constructor <;> (first | omega | (dsimp only; omega))) (ok_chk (by constructor <;> (first | omega | (dsimp only; omega))) (hk1 _ ⟨?_, rfl⟩))))
      simp only [List.length_append, List.length_singleton]; omega
    · have hb : okD f.W f.H c (dirs.getD j.toNat d0) = false := hb
      rw [hb, cond_false] at hk1
      exact hk1 _ ⟨g3, rfl⟩
  have hj : ¬ j < 4 := by simpa using hj
  obtain rfl : j = 4 := by omega
  have g3 : i = (nb f.W f.H c).length := g3
  have hcb := h4.get c.toNat
  have hmem : ∀ k ∈ nb f.W f.H c, 0 ≤ k ∧ k < f.W * f.H := nbl_mem hW hH
  refine ok_brk (fun hz => ?_) (fun hz => ?_)
  · have hz : i = 0 := by simpa using hz
    have e : contr f.W f.H c (am.getD c.toNat 0) (st.getD c.toNat 0) (gi.getD c.toNat 0) = [(c, am.getD c.toNat 0)] := by rw [contr, if_pos (by omega)]
    refine ok_chk ⟨h1, by rw [h4.len]; exact hc⟩ (ok_chk (by constructor <;> (first | omega | (dsimp only; omega))) (ok_chk ⟨h1, by rw [h4.len]; exact hc⟩ (hk _ ?_)))
    rw [e]
    exact ⟨rfl, (h4.addAt h1 hc hn1.1 hn1.2).mono (by omega)⟩
  have hz : ¬ i = 0 := by simpa using hz
  have hob := offV_bound hn1 hs1.1
  have hog := offV_bound hn1 hg1.1
  have e : contr f.W f.H c (am.getD c.toNat 0) (st.getD c.toNat 0) (gi.getD c.toNat 0) = (c, am.getD c.toNat 0 - offV (am.getD c.toNat 0) (st.getD c.toNat 0)) :: give (offV (am.getD c.toNat 0) (gi.getD c.toNat 0)) i 0 (nb f.W f.H c) := by
    rw [contr, if_neg (by omega), g3]
  have hbase := h4.addAt (k := c) (v := am.getD c.toNat 0 - offV (am.getD c.toNat 0) (st.getD c.toNat 0)) (V := 1000000) h1 hc (by omega) (by omega)
  refine ok_chk ⟨h1, by rw [h4.len]; exact hc⟩ (ok_chk ⟨h1, by rw [hs]; exact hc⟩ ?_)
  have hs2 : 0 ≤ st.getD c.toNat 0 ∧ st.getD c.toNat 0 ≤ 1000000 := ⟨hs1.1, by omega⟩
  have hg2 : 0 ≤ gi.getD c.toNat 0 ∧ gi.getD c.toNat 0 ≤ 1000000 := ⟨hg1.1, by omega⟩
  refine ok_bnde (off_eq hn1 hs2) ?_
  have i7 : InR (am.getD c.toNat 0 - offV (am.getD c.toNat 0) (st.getD c.toNat 0)) := ⟨by omega, by omega⟩
  have i8 : InR (out.getD c.toNat 0 + (am.getD c.toNat 0 - offV (am.getD c.toNat 0) (st.getD c.toNat 0))) := ⟨by omega, by omega⟩
  refine ok_chk i7 (ok_chk i8 (ok_chk ⟨h1, by rw [h4.len]; exact hc⟩ (ok_chk ⟨h1, by rw [hg]; exact hc⟩ ?_)))
  refine ok_bnde (off_eq hn1 hg2) ?_
  refine ok_chk (by constructor <;> (first | omega | (dsimp only; omega))) (ok_chk (by constructor <;> (first | omega | (dsimp only; omega))) ?_)
  refine ok_loop (fun x : Int × Int × List Int => 0 ≤ x.2.1 ∧ x.2.1 ≤ 4 ∧ x.1 = (nbl f.W f.H c (dirs.take x.2.1.toNat)).length ∧
    x.2.2 = adds (addAt out c (am.getD c.toNat 0 - offV (am.getD c.toNat 0) (st.getD c.toNat 0))) (give (offV (am.getD c.toNat 0) (gi.getD c.toNat 0)) i 0 (nbl f.W f.H c (dirs.take x.2.1.toNat))) ∧
    Good am.length (c * 10000000 + 1000000 + x.2.1 * 2000000) x.2.2) (fun x : Int × Int × List Int => 4 - x.2.1.toNat) ⟨by simp, by simp, rfl, rfl, hbase.mono (by simp)⟩ (by simp; omega) ?_
  rintro ⟨p, j, o⟩ next2 ⟨k1, k2, k3, k4, k5⟩ hn2
  simp only at k1 k2 k3 k4 k5
  have l4' := nbl_le4 f.W f.H c j.toNat
  refine ok_brk (fun hj => ?_) (fun hj => ?_)
  · have hj : j < 4 := by simpa using hj
    have ht : dirs.take (j + 1).toNat = dirs.take j.toNat ++ [dirs.getD j.toNat d0] := by
      rw [show (j + 1).toNat = j.toNat + 1 by omega]; exact take_succ' (l := dirs) (by show j.toNat < 4; omega)
    obtain ⟨q1, q2, q3, q4⟩ := dsm j.toNat (by omega)
    refine ok_join (fun y : Int × List Int => y.1 = (nbl f.W f.H c (dirs.take (j + 1).toNat)).length ∧
      y.2 = adds (addAt out c (am.getD c.toNat 0 - offV (am.getD c.toNat 0) (st.getD c.toNat 0))) (give (offV (am.getD c.toNat 0) (gi.getD c.toNat 0)) i 0 (nbl f.W f.H c (dirs.take (j + 1).toNat))) ∧
      Good am.length (c * 10000000 + 1000000 + (j + 1) * 2000000) y.2) (fun y hy => ?_) fun k6 hk6 => ?_
    · exact ok_chk (by constructor <;> (first | omega | (dsimp only; omega))) (hn2 _ ⟨by show 0 ≤ j + 1; omega, by show j + 1 ≤ 4; omega, hy.1, hy.2⟩ (by show 4 - (j + 1).toNat < 4 - j.toNat; omega))
    have i5 : InR (c % f.W + (dirs.getD j.toNat d0).a0) := ⟨by omega, by omega⟩
    have i6 : InR (c / f.W + (dirs.getD j.toNat d0).a1) := ⟨by omega, by omega⟩
    refine ok_chk ⟨k1, hj⟩ (ok_chk i5 (ok_chk i6 (ok_chk (by constructor <;> (first | omega | (dsimp only; omega))) ?_)))
    rw [within_eq, bnd_so]
    refine ok_chk (fun _ => by constructor <;> omega) ?_
    rw [brk_and, bnd_so, Bool.and_self_left]
    rw [ht, nbl_snoc] at hk6
    refine ok_brk (fun hb => ?_) (fun hb => ?_)
    · have hb : okD f.W f.H c (dirs.getD j.toNat d0) = true := hb
      obtain ⟨b1, b2, b3, b4⟩ := toD_bound hW hH hb
      rw [hb, cond_true] at hk6
      have b3' := b3
      have b4' := b4
      unfold toD at b3 b4
      have hgo := k5.get (toD f.W c (dirs.getD j.toNat d0)).toNat
      unfold toD at hgo
      have hdiv0 : 0 ≤ (offV (am.getD c.toNat 0) (gi.getD c.toNat 0) + p) / i := Int.ediv_nonneg (by omega) (by omega)
      have hdiv1 : (offV (am.getD c.toNat 0) (gi.getD c.toNat 0) + p) / i ≤ offV (am.getD c.toNat 0) (gi.getD c.toNat 0) + p := Int.ediv_le_self _ (by omega)
      have i1 : InR ((c / f.W + (dirs.getD j.toNat d0).a1) * f.W) := ⟨by omega, by omega⟩
      have i2 : InR ((c / f.W + (dirs.getD j.toNat d0).a1) * f.W + (c % f.W + (dirs.getD j.toNat d0).a0)) := ⟨by omega, by omega⟩
      have i3 : 0 ≤ (c / f.W + (dirs.getD j.toNat d0).a1) * f.W + (c % f.W + (dirs.getD j.toNat d0).a0) ∧ (c / f.W + (dirs.getD j.toNat d0).a1) * f.W + (c % f.W + (dirs.getD j.toNat d0).a0) < (o.length : Int) := ⟨b3, by rw [k5.len]; omega⟩
      have i4 : InR (o.getD ((c / f.W + (dirs.getD j.toNat d0).a1) * f.W + (c % f.W + (dirs.getD j.toNat d0).a0)).toNat 0 + (offV (am.getD c.toNat 0) (gi.getD c.toNat 0) + p) / i) := ⟨by omega, by omega⟩
      refine ok_chk i1 (ok_chk i2 (ok_chk i3 (ok_chk (by constructor <;> (first | omega | (dsimp only; omega))) (ok_chk (by constructor <;> (first | omega | (dsimp only; omega))) (ok_chk i4 (ok_chk i3 (ok_chk (by constructor <;> (first | omega | (dsimp only; omega))) (hk6 _ ⟨?_, ?_, ?_⟩))))))))
      · simp only [List.length_append, List.length_singleton]; omega
      · rw [give_append, adds_append, ← k4, Int.zero_add, ← k3]
        rfl
      · exact (k5.addAt (k := toD f.W c (dirs.getD j.toNat d0)) (V := 2000000) b3' (by omega) hdiv0 (by omega)).mono (by omega)
    · have hb : okD f.W f.H c (dirs.getD j.toNat d0) = false := hb
      rw [hb, cond_false] at hk6
      exact hk6 _ ⟨k3, k4, k5.mono (by omega)⟩
  have hj : ¬ j < 4 := by simpa using hj
  obtain rfl : j = 4 := by omega
  refine hk _ ⟨?_, k5.mono (by omega)⟩
  rw [e]
  exact k4
end Go.Proofs.Sp

namespace Go.Proofs.Sp
open Go Go.KX

/-! ### Order and sums of contributions -/

/-- Numbers that are nowhere greater. -/
def LeL (l r : List Int) : Prop := l.length = r.length ∧ ∀ i, l.getD i 0 ≤ r.getD i 0
inductive LeC : List (Int × Int) → List (Int × Int) → Prop
  | nil : LeC [] []
  | cons {k v v' : Int} {l r : List (Int × Int)} (h : v ≤ v') (t : LeC l r) : LeC ((k, v) :: l) ((k, v') :: r)
theorem LeC.append {a b c d : List (Int × Int)} (h : LeC a b) (h' : LeC c d) : LeC (a ++ c) (b ++ d) := by
  induction h with
  | nil => exact h'
  | cons h t ih => exact .cons h ih
theorem LeL.addAt {l r : List Int} {k v v' : Int} (h : LeL l r) (hv : v ≤ v') : LeL (addAt l k v) (addAt r k v') := by
  refine ⟨by simp only [Sp.addAt, List.length_set]; exact h.1, fun i => ?_⟩
  unfold Sp.addAt
  by_cases hk : k.toNat < l.length
  · rw [getD_set' hk, getD_set' (by rw [← h.1]; exact hk)]
    have := h.2 i
    have := h.2 k.toNat
    split <;> omega
  · rw [List.set_eq_of_length_le (by omega), List.set_eq_of_length_le (by rw [← h.1]; omega)]
    exact h.2 i
theorem LeL.adds {c d : List (Int × Int)} (hc : LeC c d) : ∀ {l r : List Int}, LeL l r → LeL (adds l c) (adds r d) := by
  induction hc with
  | nil => intro l r h; exact h
  | cons h t ih => intro l r hl; exact ih (hl.addAt h)
theorem LeL.refl (l : List Int) : LeL l l := ⟨rfl, fun _ => Int.le_refl _⟩

theorem give_le {f f' m : Int} (hm : 0 ≤ m) (h : f ≤ f') : ∀ (ks : List Int) (i : Int), LeC (give f m i ks) (give f' m i ks)
  | [], _ => .nil
  | k :: ks, i => .cons (by
      rcases Int.eq_ofNat_of_zero_le hm with ⟨n, rfl⟩
      rcases Nat.eq_zero_or_pos n with h0 | h0
      · subst h0; simp
      · exact Int.ediv_le_ediv (by omega) (by omega)) (give_le hm h ks (i + 1))

theorem contr_le {W H c n s g n' s' g' : Int} (hn : n ≤ n') (hs : s ≤ s') (hg : g' ≤ g) : LeC (contr W H c n s g) (contr W H c n' s' g') := by
  unfold contr
  split
  · exact .cons hn .nil
  · refine .cons ?_ (give_le (by omega) ?_ _ _)
    · unfold offV; split <;> split <;> omega
    · unfold offV; split <;> split <;> omega

theorem contrs_le {W H : Int} {am st gi am' st' gi' : List Int} (ha : LeL am am') (hs : LeL st st') (hg : LeL gi' gi) : ∀ k, LeC (contrs W H am st gi k) (contrs W H am' st' gi' k)
  | 0 => .nil
  | k + 1 => (contrs_le ha hs hg k).append (contr_le (ha.2 k) (hs.2 k) (hg.2 k))

theorem hour_le {W H : Int} {am st gi am' st' gi' : List Int} (ha : LeL am am') (hs : LeL st st') (hg : LeL gi' gi) : LeL (hourV W H am st gi) (hourV W H am' st' gi') := by
  unfold hourV
  rw [ha.1]
  exact (LeL.refl _).adds (contrs_le ha hs hg _)

def sumC : List (Int × Int) → Int
  | [] => 0
  | p :: r => p.2 + sumC r
theorem sumC_append : ∀ l r : List (Int × Int), sumC (l ++ r) = sumC l + sumC r
  | [], r => by simp [sumC]
  | x :: l, r => by simp only [List.cons_append, sumC, sumC_append l r]; omega
theorem addAt_len (l : List Int) (k v : Int) : (addAt l k v).length = l.length := by simp [addAt]
theorem adds_len : ∀ (cs : List (Int × Int)) (l : List Int), (adds l cs).length = l.length
  | [], _ => rfl
  | _ :: cs, l => by rw [adds, adds_len cs, addAt_len]
theorem sum_adds : ∀ (cs : List (Int × Int)) (l : List Int), (∀ p ∈ cs, 0 ≤ p.1 ∧ p.1 < l.length) → sumL (adds l cs) = sumL l + sumC cs
  | [], l, _ => by simp [adds, sumC]
  | p :: cs, l, h => by
    have h1 := h p (by simp)
    rw [adds, sum_adds cs _ (fun q hq => by rw [addAt_len]; exact h q (by simp [hq])), addAt, sumL_set _ _ _ (by omega), sumC]
    omega

theorem sum_give {f : Int} (hf : 0 ≤ f) : ∀ (ks : List Int), ks.length ≤ 4 → ks.length ≠ 0 → sumC (give f ks.length 0 ks) = f
  | [], _, h => absurd rfl h
  | [_], _, _ => by simp [give, sumC]
  | [_, _], _, _ => by simp only [give, sumC, List.length_cons, List.length_nil]; omega
  | [_, _, _], _, _ => by simp only [give, sumC, List.length_cons, List.length_nil]; omega
  | [_, _, _, _], _, _ => by simp only [give, sumC, List.length_cons, List.length_nil]; omega
  | _ :: _ :: _ :: _ :: _ :: _, h, _ => by simp only [List.length_cons] at h; omega

theorem sum_contr {W H c n s : Int} : sumC (contr W H c n s s) = n := by
  unfold contr
  split
  · simp [sumC]
  · rename_i h
    have h4 : (nb W H c).length ≤ 4 := nbl_le4 W H c 4
    have hf : 0 ≤ offV n s := by unfold offV; split <;> omega
    rw [sumC, sum_give hf _ h4 h]; simp only; omega

theorem give_keys {f m : Int} : ∀ (ks : List Int) (i : Int) (p : Int × Int), p ∈ give f m i ks → p.1 ∈ ks
  | [], _, _, h => by simp [give] at h
  | k :: ks, i, p, h => by
    rcases List.mem_cons.1 h with rfl | h
    · simp
    · exact List.mem_cons_of_mem _ (give_keys ks _ p h)

theorem contr_keys {W H c n s g : Int} (hW : 1 ≤ W ∧ W ≤ 8) (hH : 1 ≤ H ∧ H ≤ 8) (hc : 0 ≤ c ∧ c < W * H) : ∀ p ∈ contr W H c n s g, 0 ≤ p.1 ∧ p.1 < W * H := by
  intro p hp
  unfold contr at hp
  split at hp
  · rcases List.mem_singleton.1 hp with rfl; exact hc
  · rcases List.mem_cons.1 hp with rfl | hp
    · exact hc
    · exact nbl_mem hW hH _ (give_keys _ _ _ hp)

theorem contrs_keys {W H : Int} {am st gi : List Int} (hW : 1 ≤ W ∧ W ≤ 8) (hH : 1 ≤ H ∧ H ≤ 8) : ∀ k : Nat, (k : Int) ≤ W * H → ∀ p ∈ contrs W H am st gi k, 0 ≤ p.1 ∧ p.1 < W * H
  | 0, _, p, hp => by simp [contrs] at hp
  | k + 1, hk, p, hp => by
    rcases List.mem_append.1 hp with hp | hp
    · exact contrs_keys hW hH k (by omega) p hp
    · exact contr_keys hW hH ⟨by omega, by omega⟩ p hp

theorem sumL_take_succ {l : List Int} {i : Nat} (h : i < l.length) : sumL (l.take (i + 1)) = sumL (l.take i) + l.getD i 0 := by
  rw [take_succ' (d := 0) h, sumL_append]; simp [sumL]

theorem sum_hour {W H : Int} {am st : List Int} (hW : 1 ≤ W ∧ W ≤ 8) (hH : 1 ≤ H ∧ H ≤ 8) (hl : (am.length : Int) = W * H) : sumL (hourV W H am st st) = sumL am := by
  unfold hourV
  rw [sum_adds _ _ (fun p hp => by rw [List.length_replicate, hl]; exact contrs_keys hW hH _ (by omega) p hp), sumL_replicate0, Int.zero_add]
  have : ∀ k, k ≤ am.length → sumC (contrs W H am st st k) = sumL (am.take k) := by
    intro k
    induction k with
    | zero => intro _; simp [contrs, sumC, sumL]
    | succ k ih =>
      intro hk
      rw [contrs, sumC_append, ih (by omega), sum_contr, sumL_take_succ (by omega)]
  rw [this _ (Nat.le_refl _), List.take_length]

/-! ### The functions -/

theorem ends_eq {F : Nat} {l : List Span} (hF : l.length < F) (hl : l.length ≤ 1000) : spill_ends F l = some (l.map (·.Lo), l.map (·.Hi)) := by
  refine Ok.eq ?_
  unfold spill_ends
  refine ok_loop (fun x : List Int × Int × List Int => 0 ≤ x.2.1 ∧ x.2.1 ≤ l.length ∧ x.1 = (l.map (·.Lo)).take x.2.1.toNat ∧ x.2.2 = (l.map (·.Hi)).take x.2.1.toNat) (fun x : List Int × Int × List Int => l.length - x.2.1.toNat) ⟨by simp, by simp, rfl, rfl⟩ (by simp; omega) ?_
  rintro ⟨a, i, b⟩ next ⟨h1, h2, h3, h4⟩ hn
  simp only at h1 h2 h3 h4
  have la : a.length ≤ 1000 := by rw [h3, List.length_take, List.length_map]; omega
  have lb : b.length ≤ 1000 := by rw [h4, List.length_take, List.length_map]; omega
  refine ok_brk (fun hc => ?_) (fun hc => ok_some ?_)
  · have hc : i < l.length := by simpa using hc
    have hi : i.toNat < l.length := by omega
    refine ok_chk ⟨h1, hc⟩ (ok_chk (by simp only [List.length_singleton]; omega) (ok_chk (by simp only [List.length_singleton]; omega) (ok_chk (by constructor <;> (first | omega | (dsimp only; omega))) (hn _ ⟨by show 0 ≤ i + 1; omega, by show i + 1 ≤ _; omega, ?_, ?_⟩ (by show l.length - (i + 1).toNat < l.length - i.toNat; omega)))))
    · show a ++ [_] = (l.map (·.Lo)).take (i + 1).toNat
      rw [show (i + 1).toNat = i.toNat + 1 by omega, take_succ' (d := 0) (by simpa using hi), h3]
      congr 2
      rw [getD_get hi, getD_get (by simpa using hi)]; simp
    · show b ++ [_] = (l.map (·.Hi)).take (i + 1).toNat
      rw [show (i + 1).toNat = i.toNat + 1 by omega, take_succ' (d := 0) (by simpa using hi), h4]
      congr 2
      rw [getD_get hi, getD_get (by simpa using hi)]; simp
  · have hc : ¬ i < l.length := by simpa using hc
    obtain rfl : i = l.length := by omega
    show (a, b) = _
    rw [h3, h4]
    simp [List.take_of_length_le]

def minO (n : Int) : Int := if 1000000 < n then 1000000 else n
theorem minO_le (n : Int) : minO n ≤ 1000000 := by unfold minO; split <;> omega
theorem minO_mono {a b : Int} (h : a ≤ b) : minO a ≤ minO b := by unfold minO; split <;> split <;> omega
theorem minO_nn {a : Int} (h : 0 ≤ a) : 0 ≤ minO a := by unfold minO; split <;> omega
theorem minO_self (n : Int) : minO n ≤ n := by unfold minO; split <;> omega
theorem minO_ge {n m : Int} (h : n ≤ m) (h' : n ≤ 1000000) : n ≤ minO m := by unfold minO; split <;> omega

/-- The bounds after an hour. -/
def loV (W H : Int) (cells caps : List Span) : List Int := hourV W H (cells.map (·.Lo)) (caps.map (·.Lo)) (caps.map (·.Hi))
def hiV (W H : Int) (cells caps : List Span) : List Int := hourV W H (cells.map (·.Hi)) (caps.map (·.Hi)) (caps.map (·.Lo))
def spreadV (W H : Int) (cells caps : List Span) : List Span := List.zipWith (fun a b => Span.mk (minO a) (minO b)) (loV W H cells caps) (hiV W H cells caps)
def spreadN (W H : Int) (caps : List Span) : Nat → List Span → List Span
  | 0, cells => cells
  | n + 1, cells => spreadV W H (spreadN W H caps n cells) caps

/-- Capacities for a field. -/
structure CapsOK (n : Nat) (caps : List Span) : Prop where
  len : caps.length = n
  ok : ∀ s ∈ caps, SpanOK 10000 s

theorem getD_map {α β : Type} (f : α → β) (l : List α) (i : Nat) (d : α) (e : β) (h : i < l.length) : (l.map f).getD i e = f (l.getD i d) := by
  rw [getD_get (by simpa using h), getD_get h]; simp
theorem leL_map {l : List Span} {m : Int} (h : ∀ s ∈ l, SpanOK m s) : LeL (l.map (·.Lo)) (l.map (·.Hi)) := by
  refine ⟨by simp, fun i => ?_⟩
  by_cases hi : i < l.length
  · rw [getD_map _ _ _ ⟨0, 0⟩ _ hi, getD_map _ _ _ ⟨0, 0⟩ _ hi]
    exact (h _ (getD_mem hi)).2.1
  · simp [List.getD_eq_getElem?_getD, List.getElem?_eq_none (show (l.map (·.Lo)).length ≤ i by simpa using hi), List.getElem?_eq_none (show (l.map (·.Hi)).length ≤ i by simpa using hi)]

theorem spread_eq {F : Nat} {f : Field} {caps : List Span} (hF : 100 < F) (hf : FieldOK f) (hc : CapsOK f.Cells.length caps) :
    spill_grid_spread F f caps = some (spreadV f.W f.H f.Cells caps) ∧ FieldOK ⟨f.W, f.H, spreadV f.W f.H f.Cells caps⟩ ∧ (loV f.W f.H f.Cells caps).length = f.Cells.length ∧ (hiV f.W f.H f.Cells caps).length = f.Cells.length ∧
      (∀ i, 0 ≤ (loV f.W f.H f.Cells caps).getD i 0) := by
  have hs := hf.small
  have hcl := hc.len
  have m1 : ∀ (l : List Span) (m : Int), (∀ s ∈ l, SpanOK m s) → ∀ a ∈ l.map (·.Lo), 0 ≤ a ∧ a ≤ m := by
    intro l m h a ha
    obtain ⟨s, hs, rfl⟩ := List.mem_map.1 ha
    have := h s hs
    exact ⟨this.1, by omega⟩
  have m2 : ∀ (l : List Span) (m : Int), (∀ s ∈ l, SpanOK m s) → ∀ a ∈ l.map (·.Hi), 0 ≤ a ∧ a ≤ m := by
    intro l m h a ha
    obtain ⟨s, hs, rfl⟩ := List.mem_map.1 ha
    have := h s hs
    exact ⟨by omega, this.2.2⟩
  obtain ⟨e1, g1⟩ := hour_eq (F := F) (f := f) (am := f.Cells.map (·.Lo)) (st := caps.map (·.Lo)) (gi := caps.map (·.Hi)) hF hf.w hf.h (by simpa using hf.len) (by simpa using hcl) (by simpa using hcl) (m1 _ _ hf.cells) (m1 _ _ hc.ok) (m2 _ _ hc.ok)
  obtain ⟨e2, g2⟩ := hour_eq (F := F) (f := f) (am := f.Cells.map (·.Hi)) (st := caps.map (·.Hi)) (gi := caps.map (·.Lo)) hF hf.w hf.h (by simpa using hf.len) (by simpa using hcl) (by simpa using hcl) (m2 _ _ hf.cells) (m2 _ _ hc.ok) (m1 _ _ hc.ok)
  have hle := hour_le (W := f.W) (H := f.H) (leL_map hf.cells) (leL_map hc.ok) (leL_map hc.ok)
  have l1 : (loV f.W f.H f.Cells caps).length = f.Cells.length := by have := g1.len; simpa [loV] using this
  have l2 : (hiV f.W f.H f.Cells caps).length = f.Cells.length := by have := g2.len; simpa [hiV] using this
  have lv : (spreadV f.W f.H f.Cells caps).length = f.Cells.length := by rw [spreadV, List.length_zipWith, l1, l2, Nat.min_self]
  have gv : ∀ i, i < f.Cells.length → (spreadV f.W f.H f.Cells caps).getD i ⟨0, 0⟩ = ⟨minO ((loV f.W f.H f.Cells caps).getD i 0), minO ((hiV f.W f.H f.Cells caps).getD i 0)⟩ := by
    intro i hi
    rw [getD_get (by rw [lv]; exact hi), getD_get (by rw [l1]; exact hi), getD_get (by rw [l2]; exact hi)]
    simp [spreadV]
  refine ⟨Ok.eq ?_, ⟨hf.w, hf.h, by rw [lv]; exact hf.len, fun s hs => ?_⟩, l1, l2, fun i => (g1.get i).1⟩
  · unfold spill_grid_spread
    refine ok_bnde (ends_eq (by omega) (by omega)) (ok_bnde (ends_eq (by omega) (by omega)) (ok_bnde e1 (ok_bnde e2 ?_)))
    show Ok (fun x => x = spreadV f.W f.H f.Cells caps) (loopC _ F _)
    refine ok_loop (fun x : Int × List Span => 0 ≤ x.1 ∧ x.1 ≤ f.Cells.length ∧ x.2 = (spreadV f.W f.H f.Cells caps).take x.1.toNat) (fun x : Int × List Span => f.Cells.length - x.1.toNat) ⟨by simp, by simp, rfl⟩ (by simp; omega) ?_
    rintro ⟨i, o⟩ next ⟨h1, h2, h3⟩ hn
    simp only at h1 h2 h3
    have lo : o.length ≤ 64 := by rw [h3, List.length_take, lv]; omega
    have l1' : (hourV f.W f.H (f.Cells.map (·.Lo)) (caps.map (·.Lo)) (caps.map (·.Hi))).length = f.Cells.length := l1
    have l2' : (hourV f.W f.H (f.Cells.map (·.Hi)) (caps.map (·.Hi)) (caps.map (·.Lo))).length = f.Cells.length := l2
    refine ok_brk (fun hcc => ?_) (fun hcc => ok_some ?_)
    · have hcc : i < f.Cells.length := by simpa [l1'] using hcc
      have hi : i.toNat < f.Cells.length := by omega
      refine ok_chk ⟨h1, by rw [l1']; exact hcc⟩ (ok_chk ⟨h1, by rw [l2']; exact hcc⟩ (ok_chk (by simp only [List.length_singleton]; omega) (ok_chk (by constructor <;> (first | omega | (dsimp only; omega))) (hn _ ⟨by show 0 ≤ i + 1; omega, by show i + 1 ≤ _; omega, ?_⟩ (by show f.Cells.length - (i + 1).toNat < f.Cells.length - i.toNat; omega)))))
      show o ++ [_] = (spreadV f.W f.H f.Cells caps).take (i + 1).toNat
      rw [show (i + 1).toNat = i.toNat + 1 by omega, take_succ' (d := ⟨0, 0⟩) (by rw [lv]; exact hi), h3, gv _ hi]
      rfl
    · have hcc : ¬ i < f.Cells.length := by simpa [l1'] using hcc
      obtain rfl : i = f.Cells.length := by omega
      show o = _
      rw [h3, List.take_of_length_le (by rw [lv]; simp)]
  · obtain ⟨i, hi, rfl⟩ := List.getElem_of_mem hs
    have hi' : i < f.Cells.length := by
      have : i < (spreadV f.W f.H f.Cells caps).length := hi
      omega
    have := gv i hi'
    rw [getD_get (by rw [lv]; exact hi')] at this
    show SpanOK 1000000 ((spreadV f.W f.H f.Cells caps)[i])
    rw [this]
    exact ⟨minO_nn (g1.get i).1, minO_mono (hle.2 i), minO_le _⟩
end Go.Proofs.Sp

namespace Go.Proofs.Sp
open Go Go.KX

theorem wb {x lo hi : Int} (h1 : lo ≤ x) (h2 : x ≤ hi) : (decide (x ≥ lo) && decide (x ≤ hi)) = true := by rw [decide_eq_true (show x ≥ lo from h1), decide_eq_true h2]; rfl

theorem clone_eq {F : Nat} {l : List Span} (h : l.length ≤ 1000000) : slices_Clone_api_Span F l = some l := by
  unfold slices_Clone_api_Span
  rw [chk_pos (by simpa using h)]; rfl

theorem spreadN_ok {F : Nat} {f : Field} {caps : List Span} (hF : 100 < F) (hf : FieldOK f) (hc : CapsOK f.Cells.length caps) : ∀ n, FieldOK ⟨f.W, f.H, spreadN f.W f.H caps n f.Cells⟩ ∧ (spreadN f.W f.H caps n f.Cells).length = f.Cells.length
  | 0 => ⟨hf, rfl⟩
  | n + 1 => by
    obtain ⟨h1, h2⟩ := spreadN_ok hF hf hc n
    obtain ⟨_, h3, _⟩ := spread_eq (F := F) (f := ⟨f.W, f.H, spreadN f.W f.H caps n f.Cells⟩) hF h1 (by rw [h2]; exact hc)
    refine ⟨h3, ?_⟩
    have e1 := h3.len
    have e2 := hf.len
    simp only at e1
    show (spreadV f.W f.H (spreadN f.W f.H caps n f.Cells) caps).length = _
    omega

theorem Spread_eq {F : Nat} {f : Field} {caps : List Span} {hours : Int} (hF : 100 < F) (hf : FieldOK f) (hc : CapsOK f.Cells.length caps) (hh : 0 ≤ hours ∧ hours ≤ 48) :
    spill_Spread F f caps hours = some (⟨f.W, f.H, spreadN f.W f.H caps hours.toNat f.Cells⟩, 0) := by
  have hs := hf.small
  have hcl := hc.len
  refine Ok.eq ?_
  unfold spill_Spread
  refine ok_bnde (Check_eq (by show f.Cells.length < F; omega)) ?_
  rw [show checkV (Field.mk f.W f.H f.Cells) = 0 from hf.check]
  refine ok_brkF (by simp) (ok_brkF (by simp [hcl]) ?_)
  refine ok_join (fun i : Int => 0 ≤ i ↔ ¬ ∀ s ∈ caps, SpanOK 10000 s) (fun i hi => ?_) fun k hk => find_ok (g := spill_begin_1) (m := 10000) (fun s => by unfold spill_begin_1; rw [span_eq, bnd_so]) k (by omega) (by omega) hk
  refine ok_brkF ?_ ?_
  · rw [decide_eq_false_iff_not]
    exact fun h => (hi.1 h) hc.ok
  refine ok_bnde (clone_eq (by omega)) ?_
  rw [within_eq, bnd_so]
  refine ok_brkF (by simp; omega) ?_
  refine ok_loop (fun x : Int × List Span => 0 ≤ x.1 ∧ x.1 ≤ hours ∧ x.2 = spreadN f.W f.H caps x.1.toNat f.Cells) (fun x : Int × List Span => hours.toNat - x.1.toNat) ⟨by simp, by simp; omega, rfl⟩ (by simp; omega) ?_
  rintro ⟨i, o⟩ next ⟨h1, h2, h3⟩ hn
  simp only at h1 h2 h3
  refine ok_brk (fun hcc => ?_) (fun hcc => ok_some ?_)
  · have hcc : i < hours := by simpa using hcc
    obtain ⟨h4, h5⟩ := spreadN_ok hF hf hc i.toNat
    rw [← h3] at h4 h5
    refine ok_bnde (spread_eq (f := ⟨f.W, f.H, o⟩) hF h4 (by rw [h5]; exact hc)).1 (ok_chk (by constructor <;> (first | omega | (dsimp only; omega))) (hn _ ⟨by show 0 ≤ i + 1; omega, by show i + 1 ≤ hours; omega, ?_⟩ (by show hours.toNat - (i + 1).toNat < hours.toNat - i.toNat; omega)))
    show spreadV f.W f.H o caps = spreadN f.W f.H caps (i + 1).toNat f.Cells
    rw [show (i + 1).toNat = i.toNat + 1 by omega, spreadN, h3]
  · have hcc : ¬ i < hours := by simpa using hcc
    obtain rfl : i = hours := by omega
    rw [h3]

/-- Amounts that can flow. -/
structure FlowOK (W H : Int) (am caps : List Int) : Prop where
  w : 1 ≤ W ∧ W ≤ 8
  h : 1 ≤ H ∧ H ≤ 8
  la : (am.length : Int) = W * H
  lc : (caps.length : Int) = W * H
  nn : ∀ a ∈ am, 0 ≤ a
  sum : sumL am ≤ 1000000
  caps : ∀ a ∈ caps, 0 ≤ a ∧ a ≤ 10000

theorem sumL_take_le {l : List Int} (h : ∀ x ∈ l, 0 ≤ x) (k : Nat) : sumL (l.take k) ≤ sumL l := by
  have e : sumL l = sumL (l.take k) + sumL (l.drop k) := by rw [← sumL_append, List.take_append_drop]
  have := sumL_nonneg (l.drop k) fun x hx => h x (List.mem_of_mem_drop hx)
  omega

theorem within_brk {F : Nat} {b : Bool} {x lo m : Int} : brk b (spill_within F x lo m) (some false) = some (b && (decide (x ≥ lo) && decide (x ≤ m))) := by
  cases b <;> rfl

theorem Flow_eq {F : Nat} {W H : Int} {am caps : List Int} (hF : 100 < F) (h : FlowOK W H am caps) :
    spill_Flow F W H am caps = some (hourV W H am caps caps, 0) ∧ Good am.length 1000000 (hourV W H am caps caps) ∧ sumL (hourV W H am caps caps) = sumL am := by
  have hb := mul_bound h.w.1 h.w.2 h.h.1 h.h.2
  have hla := h.la
  have hlc := h.lc
  have ha1 : ∀ a ∈ am, 0 ≤ a ∧ a ≤ 1000000 := fun a ha => ⟨h.nn a ha, Int.le_trans (mem_le_sumL am h.nn a ha) h.sum⟩
  obtain ⟨e1, g1⟩ := hour_eq (F := F) (f := ⟨W, H, []⟩) (am := am) (st := caps) (gi := caps) hF h.w h.h h.la (by omega) (by omega) ha1 h.caps h.caps
  have hsum := sum_hour (st := caps) h.w h.h h.la
  refine ⟨Ok.eq ?_, ⟨g1.len, g1.nn, by rw [hsum]; exact h.sum⟩, hsum⟩
  unfold spill_Flow
  rw [within_eq, bnd_so]
  have ew : (decide (W ≥ 1) && decide (W ≤ 8)) = true := wb h.w.1 h.w.2
  have eh : (decide (H ≥ 1) && decide (H ≤ 8)) = true := wb h.h.1 h.h.2
  rw [ew, within_brk, bnd_so, eh]
  refine ok_brkF rfl (ok_chk (by constructor <;> omega) (ok_chk (fun _ => by constructor <;> omega) (ok_brkF (by simp [hla, hlc]) ?_)))
  refine ok_loop (fun x : Int × Int => 0 ≤ x.2 ∧ x.2 ≤ am.length ∧ x.1 = 1000000 - sumL (am.take x.2.toNat)) (fun x : Int × Int => am.length - x.2.toNat) ⟨by simp, by simp, rfl⟩ (by simp; omega) ?_
  rintro ⟨left, i⟩ next ⟨h1, h2, h3⟩ hn
  simp only at h1 h2 h3
  have hs0 := sumL_nonneg (am.take i.toNat) fun x hx => h.nn x (List.mem_of_mem_take hx)
  have hs1 := sumL_take_le h.nn i.toNat
  have hs := h.sum
  refine ok_brk (fun hcc => ?_) (fun hcc => ?_)
  · have hcc : i < am.length := by simpa using hcc
    have hi : i.toNat < am.length := by omega
    have hsn := sumL_take_succ hi
    have hsl := sumL_take_le h.nn (i.toNat + 1)
    have hai := ha1 _ (getD_mem (d := 0) hi)
    have hci := h.caps _ (getD_mem (i := i.toNat) (d := 0) (by omega))
    refine ok_chk ⟨h1, hcc⟩ ?_
    have eb : (decide (am.getD i.toNat 0 ≥ 0) && decide (am.getD i.toNat 0 ≤ left)) = true := wb hai.1 (by omega)
    have ec : (decide (caps.getD i.toNat 0 ≥ 0) && decide (caps.getD i.toNat 0 ≤ 10000)) = true := wb hci.1 hci.2
    refine ok_bnde (b := true) (show spill_within F (am.getD i.toNat 0) 0 left = some true from congrArg some eb) (ok_chk (fun _ => ⟨h1, by show i < _; omega⟩) ?_)
    refine ok_bnde (b := true) (show brk (!!true) (spill_within F (caps.getD i.toNat 0) 0 10000) (some false) = some true from congrArg some ec) ?_
    refine ok_brkF rfl (ok_chk (show InR (left - am.getD i.toNat 0) from ⟨by omega, by omega⟩) (ok_chk (by constructor <;> (first | omega | (dsimp only; omega))) (hn _ ⟨by show 0 ≤ i + 1; omega, by show i + 1 ≤ _; omega, ?_⟩ (by show am.length - (i + 1).toNat < am.length - i.toNat; omega))))
    show left - am.getD i.toNat 0 = 1000000 - sumL (am.take (i + 1).toNat)
    rw [show (i + 1).toNat = i.toNat + 1 by omega, hsn]; omega
  · exact ok_bnde e1 (ok_some rfl)

theorem Holds_eq {F : Nat} {f : Field} {am : List Int} (hF : 100 < F) (hf : FieldOK f) (hl : am.length = f.Cells.length) :
    spill_Holds F f am = some (decide (∀ i, i < am.length → (f.Cells.getD i ⟨0, 0⟩).Lo ≤ am.getD i 0 ∧ am.getD i 0 ≤ (f.Cells.getD i ⟨0, 0⟩).Hi), 0) := by
  have hs := hf.small
  refine Ok.eq ?_
  unfold spill_Holds
  refine ok_bnde (Check_eq (by show f.Cells.length < F; omega)) ?_
  rw [show checkV (Field.mk f.W f.H f.Cells) = 0 from hf.check]
  refine ok_brkF (by simp) (ok_brkF (by simp [hl]) ?_)
  refine ok_loop (fun x : Int => 0 ≤ x ∧ x ≤ am.length ∧ ∀ j : Nat, (j : Int) < x → (f.Cells.getD j ⟨0, 0⟩).Lo ≤ am.getD j 0 ∧ am.getD j 0 ≤ (f.Cells.getD j ⟨0, 0⟩).Hi) (fun x : Int => am.length - x.toNat) ⟨by omega, by omega, fun j hj => by omega⟩ (by simp; omega) ?_
  intro i next ⟨h1, h2, h3⟩ hn
  refine ok_brk (fun hcc => ?_) (fun hcc => ok_some ?_)
  · have hcc : i < am.length := by simpa using hcc
    have hi : i.toNat < am.length := by omega
    refine ok_chk ⟨h1, hcc⟩ (ok_chk ⟨h1, by omega⟩ (ok_chk ⟨h1, by omega⟩ ?_))
    rw [within_eq, bnd_so]
    refine ok_brk (fun hb => ok_some ?_) (fun hb => ok_chk (by constructor <;> omega) (hn _ ⟨by omega, by omega, fun j hj => ?_⟩ (by omega)))
    · congr 1
      symm
      rw [decide_eq_false_iff_not]
      intro h
      obtain ⟨a1, a2⟩ := h _ hi
      rw [wb a1 a2] at hb; cases hb
    · by_cases e : (j : Int) < i
      · exact h3 j e
      · obtain rfl : j = i.toNat := by omega
        simp only [Bool.not_eq_false', Bool.and_eq_true, decide_eq_true_eq] at hb
        exact hb
  · have hcc : ¬ i < am.length := by simpa using hcc
    congr 1
    symm
    rw [decide_eq_true_eq]
    exact fun j hj => h3 j (by omega)

/-- The sums of a field. -/
def totV (cells : List Span) : Span := ⟨sumL (cells.map (·.Lo)), sumL (cells.map (·.Hi))⟩

theorem tot_bound {cells : List Span} {n : Nat} (h : ∀ s ∈ cells, SpanOK 1000000 s) (hn : cells.length ≤ n) : 0 ≤ (totV cells).Lo ∧ (totV cells).Lo ≤ (totV cells).Hi ∧ (totV cells).Hi ≤ 1000000 * n := by
  induction cells generalizing n with
  | nil => simp [totV, sumL]; omega
  | cons s r ih =>
    have h1 := h s (by simp)
    cases n with
    | zero => simp at hn
    | succ n =>
      have h2 := ih (n := n) (fun x hx => h x (by simp [hx])) (by simpa using hn)
      simp only [totV, List.map_cons, sumL] at h2 ⊢
      omega

theorem tot_take {cells : List Span} {i : Nat} (h : i < cells.length) : totV (cells.take (i + 1)) = ⟨(totV (cells.take i)).Lo + (cells.getD i ⟨0, 0⟩).Lo, (totV (cells.take i)).Hi + (cells.getD i ⟨0, 0⟩).Hi⟩ := by
  rw [take_succ' (d := ⟨0, 0⟩) h]
  simp [totV, sumL_append, sumL]

theorem total_eq {F : Nat} {f : Field} (hF : 100 < F) (hf : FieldOK f) : spill_grid_total F f = some (totV f.Cells) := by
  have hs := hf.small
  refine Ok.eq ?_
  unfold spill_grid_total
  refine ok_loop (fun x : Int × Int × Int => 0 ≤ x.1 ∧ x.1 ≤ f.Cells.length ∧ x.2.2 = (totV (f.Cells.take x.1.toNat)).Lo ∧ x.2.1 = (totV (f.Cells.take x.1.toNat)).Hi) (fun x : Int × Int × Int => f.Cells.length - x.1.toNat) ⟨by simp, by simp, rfl, rfl⟩ (by simp; omega) ?_
  rintro ⟨i, hi', lo'⟩ next ⟨h1, h2, h3, h4⟩ hn
  simp only at h1 h2 h3 h4
  refine ok_brk (fun hcc => ?_) (fun hcc => ok_some ?_)
  · have hcc : i < f.Cells.length := by simpa using hcc
    have hi : i.toNat < f.Cells.length := by omega
    have hb := tot_bound (cells := f.Cells.take i.toNat) (n := 64) (fun s hs => hf.cells s (List.mem_of_mem_take hs)) (by rw [List.length_take]; omega)
    have hc := hf.cells _ (getD_mem (d := ⟨0, 0⟩) hi)
    have ht := tot_take hi
    refine ok_chk ⟨h1, hcc⟩ (ok_chk (show InR (lo' + (f.Cells.getD i.toNat ⟨0, 0⟩).Lo) from ⟨by omega, by omega⟩) (ok_chk (show InR (hi' + (f.Cells.getD i.toNat ⟨0, 0⟩).Hi) from ⟨by omega, by omega⟩) (ok_chk (by constructor <;> (first | omega | (dsimp only; omega))) (hn _ ⟨by show 0 ≤ i + 1; omega, by show i + 1 ≤ _; omega, ?_, ?_⟩ (by show f.Cells.length - (i + 1).toNat < f.Cells.length - i.toNat; omega)))))
    · show lo' + _ = (totV (f.Cells.take (i + 1).toNat)).Lo
      rw [show (i + 1).toNat = i.toNat + 1 by omega, ht, h3]
    · show hi' + _ = (totV (f.Cells.take (i + 1).toNat)).Hi
      rw [show (i + 1).toNat = i.toNat + 1 by omega, ht, h4]
  · have hcc : ¬ i < f.Cells.length := by simpa using hcc
    obtain rfl : i = f.Cells.length := by omega
    show Span.mk lo' hi' = _
    rw [h3, h4]
    simp [List.take_of_length_le]

theorem Total_eq {F : Nat} {f : Field} (hF : 100 < F) (hf : FieldOK f) : spill_Total F f = some (totV f.Cells, 0) := by
  have hs := hf.small
  refine Ok.eq ?_
  unfold spill_Total
  refine ok_bnde (Check_eq (by show f.Cells.length < F; omega)) ?_
  rw [show checkV (Field.mk f.W f.H f.Cells) = 0 from hf.check]
  exact ok_brkF (by simp) (ok_bnde (total_eq hF hf) (ok_some rfl))

theorem sum_eq {F : Nat} {l : List Int} (hF : l.length < F) (hl : l.length ≤ 1000) (h : ∀ x ∈ l, 0 ≤ x ∧ x ≤ 1000000) : law11_sum F l = some (sumL l) := by
  refine Ok.eq ?_
  unfold law11_sum
  refine ok_loop (fun x : Int × Int => 0 ≤ x.1 ∧ x.1 ≤ l.length ∧ x.2 = sumL (l.take x.1.toNat)) (fun x : Int × Int => l.length - x.1.toNat) ⟨by simp, by simp, rfl⟩ (by simp; omega) ?_
  rintro ⟨i, s⟩ next ⟨h1, h2, h3⟩ hn
  simp only at h1 h2 h3
  refine ok_brk (fun hcc => ?_) (fun hcc => ok_some ?_)
  · have hcc : i < l.length := by simpa using hcc
    have hi : i.toNat < l.length := by omega
    have e := h _ (getD_mem (d := 0) hi)
    have s0 := sumL_nonneg (l.take i.toNat) fun x hx => (h x (List.mem_of_mem_take hx)).1
    have s1 := sumL_le (B := 1000000) (l.take i.toNat) fun x hx => (h x (List.mem_of_mem_take hx)).2
    rw [List.length_take] at s1
    refine ok_chk ⟨h1, hcc⟩ (ok_chk (show InR (s + l.getD i.toNat 0) from ⟨by omega, by omega⟩) (ok_chk (by constructor <;> (first | omega | (dsimp only; omega))) (hn _ ⟨by show 0 ≤ i + 1; omega, by show i + 1 ≤ _; omega, ?_⟩ (by show l.length - (i + 1).toNat < l.length - i.toNat; omega))))
    show s + _ = sumL (l.take (i + 1).toNat)
    rw [show (i + 1).toNat = i.toNat + 1 by omega, sumL_take_succ hi, h3]
  · have hcc : ¬ i < l.length := by simpa using hcc
    obtain rfl : i = l.length := by omega
    show s = _
    rw [h3]; simp [List.take_of_length_le]

/-- What is left of a span, if all amounts together are in the span t. -/
def cutV (t sum s : Span) : Span := ⟨if s.Lo > t.Lo - (sum.Hi - s.Hi) then s.Lo else t.Lo - (sum.Hi - s.Hi), if s.Hi < t.Hi - (sum.Lo - s.Lo) then s.Hi else t.Hi - (sum.Lo - s.Lo)⟩

theorem Tighten_eq {F : Nat} {f : Field} {t : Span} (hF : 100 < F) (hf : FieldOK f) (ht : SpanOK 1000000 t) (h1 : (totV f.Cells).Lo ≤ t.Hi) (h2 : t.Lo ≤ (totV f.Cells).Hi) :
    spill_Tighten F f t = some (⟨f.W, f.H, f.Cells.map (cutV t (totV f.Cells))⟩, 0) := by
  have hs := hf.small
  have hb := tot_bound hf.cells hs.2
  refine Ok.eq ?_
  unfold spill_Tighten
  refine ok_bnde (Check_eq (by show f.Cells.length < F; omega)) ?_
  rw [show checkV (Field.mk f.W f.H f.Cells) = 0 from hf.check]
  refine ok_brkF (by simp) (ok_bnde (span_eq F ⟨t.Lo, t.Hi⟩ 1000000) ?_)
  rw [decide_eq_true (show SpanOK 1000000 ⟨t.Lo, t.Hi⟩ from ht)]
  refine ok_brkF rfl (ok_bnde (total_eq (f := ⟨f.W, f.H, f.Cells⟩) hF hf) (ok_brkF ?_ ?_))
  · rw [Bool.or_eq_false_iff, decide_eq_false_iff_not, decide_eq_false_iff_not]
    exact ⟨by show ¬ (totV f.Cells).Lo > t.Hi; omega, by show ¬ (totV f.Cells).Hi < t.Lo; omega⟩
  refine ok_loop (fun x : Int × List Span => 0 ≤ x.1 ∧ x.1 ≤ f.Cells.length ∧ x.2 = (f.Cells.map (cutV t (totV f.Cells))).take x.1.toNat) (fun x : Int × List Span => f.Cells.length - x.1.toNat) ⟨by simp, by simp, rfl⟩ (by simp; omega) ?_
  rintro ⟨i, o⟩ next ⟨g1, g2, g3⟩ hn
  simp only at g1 g2 g3
  have lo : o.length ≤ 64 := by rw [g3, List.length_take, List.length_map]; omega
  refine ok_brk (fun hcc => ?_) (fun hcc => ok_some ?_)
  · have hcc : i < f.Cells.length := by simpa using hcc
    have hi : i.toNat < f.Cells.length := by omega
    have hc := hf.cells _ (getD_mem (d := ⟨0, 0⟩) hi)
    refine ok_chk ⟨g1, hcc⟩ ?_
    refine ok_chk (show InR ((totV f.Cells).Hi - (f.Cells.getD i.toNat ⟨0, 0⟩).Hi) from ⟨by omega, by omega⟩) (ok_chk (show InR (t.Lo - ((totV f.Cells).Hi - (f.Cells.getD i.toNat ⟨0, 0⟩).Hi)) from ⟨by omega, by omega⟩) ?_)
    refine ok_chk (show InR ((totV f.Cells).Lo - (f.Cells.getD i.toNat ⟨0, 0⟩).Lo) from ⟨by omega, by omega⟩) (ok_chk (show InR (t.Hi - ((totV f.Cells).Lo - (f.Cells.getD i.toNat ⟨0, 0⟩).Lo)) from ⟨by omega, by omega⟩) ?_)
    refine ok_bnde (b := cutV t (totV f.Cells) (f.Cells.getD i.toNat ⟨0, 0⟩)) rfl (ok_chk (by simp only [List.length_singleton]; omega) (ok_chk (by constructor <;> (first | omega | (dsimp only; omega))) (hn _ ⟨by show 0 ≤ i + 1; omega, by show i + 1 ≤ _; omega, ?_⟩ (by show f.Cells.length - (i + 1).toNat < f.Cells.length - i.toNat; omega))))
    show o ++ [cutV t (totV f.Cells) (f.Cells.getD i.toNat ⟨0, 0⟩)] = (f.Cells.map (cutV t (totV f.Cells))).take (i + 1).toNat
    rw [show (i + 1).toNat = i.toNat + 1 by omega, take_succ' (d := ⟨0, 0⟩) (by simpa using hi), g3, getD_map _ _ _ ⟨0, 0⟩ _ hi]
  · have hcc : ¬ i < f.Cells.length := by simpa using hcc
    obtain rfl : i = f.Cells.length := by omega
    rw [g3]; simp [List.take_of_length_le]
end Go.Proofs.Sp

namespace Go.Proofs.Sp
open Go Go.KX
set_option maxRecDepth 100000
theorem awake_ok : law11_awake 1000 = some true := by kernel_rfl
end Go.Proofs.Sp

namespace Go.Proofs.Sp
open Go Go.KX

/-- Numbers of one byte. -/
structure Bytes (l : List Int) : Prop where
  b : ∀ x ∈ l, 0 ≤ x ∧ x ≤ 255
  len : l.length ≤ 9223372036854775807

section
variable {α : Type} {post : α → Prop} {l : List Int} {pos n : Int}

theorem next_gen (hl : Bytes l) (h0 : 0 ≤ pos) (hp : pos < l.length) (hn : 0 < n) :
    0 ≤ l.getD pos.toNat 0 ∧ l.getD pos.toNat 0 ≤ 255 ∧ 0 ≤ l.getD pos.toNat 0 % n ∧ l.getD pos.toNat 0 % n < n ∧ l.getD pos.toNat 0 % n ≤ 255 := by
  have h := hl.b _ (getD_mem (i := pos.toNat) (d := 0) (by omega))
  have h1 := Int.emod_nonneg (l.getD pos.toNat 0) (by omega : n ≠ 0)
  have h2 := Int.emod_lt_of_pos (l.getD pos.toNat 0) hn
  have h3 : l.getD pos.toNat 0 % n ≤ l.getD pos.toNat 0 := by
    have e := Int.emod_add_mul_ediv (l.getD pos.toNat 0) n
    have e2 := Int.mul_nonneg (by omega : 0 ≤ n) (Int.ediv_nonneg h.1 (by omega : 0 ≤ n))
    omega
  exact ⟨h.1, h.2, h1, h2, by omega⟩

theorem next_ok (hl : Bytes l) (h0 : 0 ≤ pos) (hp : pos ≤ l.length) (hn : 0 < n) (k : Int × Int → Option α) (hk : ∀ v p : Int, 0 ≤ v → v < n → v ≤ 255 → 0 ≤ p → p ≤ l.length → Ok post (k (v, p))) :
    Ok post (brk (decide (pos ≥ (l.length : Int))) (k (0, pos)) (chk (InR (pos + 1)) (chk (InR (pos + 1 - 1)) (chk (0 ≤ pos + 1 - 1 ∧ pos + 1 - 1 < (l.length : Int)) (chk (InR (l.getD (pos + 1 - 1).toNat 0)) (chk (0 ≤ l.getD (pos + 1 - 1).toNat 0 ∧ l.getD (pos + 1 - 1).toNat 0 ≤ 9223372036854775807) (k (l.getD (pos + 1 - 1).toNat 0 % n, pos + 1)))))))) := by
  have hlen := hl.len
  refine ok_brk (fun _ => hk 0 pos (by omega) hn (by omega) h0 hp) (fun hc => ?_)
  have hc : pos < l.length := by simpa using hc
  rw [show pos + 1 - 1 = pos by omega]
  obtain ⟨h1, h2, h3, h4, h5⟩ := next_gen hl h0 hc hn
  exact ok_chk ⟨by omega, by omega⟩ (ok_chk ⟨by omega, by omega⟩ (ok_chk ⟨h0, hc⟩ (ok_chk ⟨by omega, by omega⟩ (ok_chk ⟨h1, by omega⟩ (hk _ _ h3 h4 h5 (by omega) (by omega))))))

theorem next_okS (hl : Bytes l) (h0 : 0 ≤ pos) (hp : pos ≤ l.length) (hn : 0 < n) (k : Int × Int → Option α) (hk : ∀ v p : Int, 0 ≤ v → v < n → v ≤ 255 → 0 ≤ p → p ≤ l.length → Ok post (k (v, p))) :
    Ok post (brk (decide (pos ≥ (l.length : Int))) (k (0, pos)) (chk (InR (pos + 1)) (chk (InR (pos + 1 - 1)) (chk (0 ≤ pos + 1 - 1 ∧ pos + 1 - 1 < (l.length : Int)) (chk (InR (l.getD (pos + 1 - 1).toNat 0)) (chk ((0 ≤ l.getD (pos + 1 - 1).toNat 0 ∧ l.getD (pos + 1 - 1).toNat 0 ≤ 9223372036854775807) ∧ 0 < n) (k (l.getD (pos + 1 - 1).toNat 0 % n, pos + 1)))))))) := by
  have hlen := hl.len
  refine ok_brk (fun _ => hk 0 pos (by omega) hn (by omega) h0 hp) (fun hc => ?_)
  have hc : pos < l.length := by simpa using hc
  rw [show pos + 1 - 1 = pos by omega]
  obtain ⟨h1, h2, h3, h4, h5⟩ := next_gen hl h0 hc hn
  exact ok_chk ⟨by omega, by omega⟩ (ok_chk ⟨by omega, by omega⟩ (ok_chk ⟨h0, hc⟩ (ok_chk ⟨by omega, by omega⟩ (ok_chk ⟨⟨h1, by omega⟩, hn⟩ (hk _ _ h3 h4 h5 (by omega) (by omega))))))

theorem next_ok0 {w0 w1 : Int} (e0 : w0 = 0) (e1 : w1 = 1) (hl : Bytes l) (hn : 0 < n) (k : Int × Int → Option α) (hk : ∀ v p : Int, 0 ≤ v → v < n → v ≤ 255 → 0 ≤ p → p ≤ l.length → Ok post (k (v, p))) :
    Ok post (brk (decide (0 ≥ (l.length : Int))) (k (0, 0)) (chk (0 ≤ w0 ∧ w0 < (l.length : Int)) (chk (InR (l.getD w0.toNat 0)) (chk (0 ≤ l.getD w0.toNat 0 ∧ l.getD w0.toNat 0 ≤ 9223372036854775807) (k (l.getD w0.toNat 0 % n, w1)))))) := by
  subst e0; subst e1
  refine ok_brk (fun _ => hk 0 0 (by omega) hn (by omega) (by omega) (by omega)) (fun hc => ?_)
  have hc : (0 : Int) < l.length := by have := of_decide_eq_false hc; omega
  obtain ⟨h1, h2, h3, h4, h5⟩ := next_gen hl (Int.le_refl 0) hc hn
  exact ok_chk ⟨by omega, hc⟩ (ok_chk ⟨by omega, by omega⟩ (ok_chk ⟨h1, by omega⟩ (hk _ _ h3 h4 h5 (by omega) (by omega))))
end

/-- Amounts in a field's bounds. -/
def Inside (cells : List Span) (am : List Int) : Prop := ∀ i, i < am.length → (cells.getD i ⟨0, 0⟩).Lo ≤ am.getD i 0 ∧ am.getD i 0 ≤ (cells.getD i ⟨0, 0⟩).Hi

structure MadeOK (x : Field × List Span × List Int) : Prop where
  f : FieldOK x.1
  small : x.1.W ≤ 4 ∧ x.1.H ≤ 4
  caps : CapsOK x.1.Cells.length x.2.1
  len : x.2.2.length = x.1.Cells.length
  inside : Inside x.1.Cells x.2.2
  nn : ∀ a ∈ x.2.2, 0 ≤ a ∧ a ≤ 600
  hi : ∀ s ∈ x.1.Cells, s.Hi ≤ 600
  chi : ∀ s ∈ x.2.1, s.Hi ≤ 200

theorem inside_snoc {cells : List Span} {am : List Int} {s : Span} {a : Int} (hl : am.length = cells.length) (h : Inside cells am) (h1 : s.Lo ≤ a) (h2 : a ≤ s.Hi) : Inside (cells ++ [s]) (am ++ [a]) := by
  intro i hi
  rw [List.length_append, List.length_singleton] at hi
  by_cases e : i < am.length
  · rw [getD_append_left' e, getD_append_left' (by omega)]; exact h i e
  · obtain rfl : i = am.length := by omega
    rw [getD_append_here, hl, getD_append_here]; exact ⟨h1, h2⟩

theorem mem_snoc {α : Type} {p : α → Prop} {l : List α} {x : α} (h : ∀ y ∈ l, p y) (hx : p x) : ∀ y ∈ l ++ [x], p y := by
  intro y hy
  rcases List.mem_append.1 hy with hy | hy
  · exact h y hy
  · rcases List.mem_singleton.1 hy with rfl; exact hx

theorem Made_ok {F : Nat} {l : List Int} (hF : 100 < F) (hl : Bytes l) : Ok MadeOK (law11_Made F l) := by
  unfold law11_Made
  refine ok_join (fun x : Int × Int => 0 ≤ x.1 ∧ x.1 < 4 ∧ 0 ≤ x.2 ∧ x.2 ≤ l.length) ?_ fun k hk => next_ok0 (by decide) (by decide) hl (by decide) k fun v p h1 h2 _ h3 h4 => hk _ ⟨h1, h2, h3, h4⟩
  rintro ⟨w, p0⟩ ⟨w1, w2, w3, w4⟩
  simp only at w1 w2 w3 w4
  refine ok_chk (by constructor <;> (first | omega | (dsimp only; omega))) ?_
  refine ok_join (fun x : Int × Int => 0 ≤ x.1 ∧ x.1 < 4 ∧ 0 ≤ x.2 ∧ x.2 ≤ l.length) ?_ fun k hk => next_ok hl w3 w4 (by decide) k fun v p h1 h2 _ h3 h4 => hk _ ⟨h1, h2, h3, h4⟩
  rintro ⟨h, p1⟩ ⟨v1, v2, v3, v4⟩
  simp only at v1 v2 v3 v4
  have hb := mul_bound (w := 1 + w) (h := 1 + h) (by omega) (by omega) (by omega) (by omega)
  refine ok_chk (by constructor <;> (first | omega | (dsimp only; omega))) (ok_chk (show InR ((1 + w) * (1 + h)) from ⟨by omega, by omega⟩) ?_)
  refine ok_loop (fun x : List Int × Int × List Span × List Span × Int => 0 ≤ x.2.1 ∧ x.2.1 ≤ (1 + w) * (1 + h) ∧ (x.1.length : Int) = x.2.1 ∧ (x.2.2.1.length : Int) = x.2.1 ∧ (x.2.2.2.1.length : Int) = x.2.1 ∧ 0 ≤ x.2.2.2.2 ∧ x.2.2.2.2 ≤ l.length ∧
    Inside x.2.2.2.1 x.1 ∧ (∀ a ∈ x.1, 0 ≤ a ∧ a ≤ 600) ∧ (∀ s ∈ x.2.2.1, SpanOK 200 s) ∧ (∀ s ∈ x.2.2.2.1, SpanOK 600 s)) (fun x : List Int × Int × List Span × List Span × Int => ((1 + w) * (1 + h)).toNat - x.2.1.toNat)
    ⟨by simp, by simp; omega, rfl, rfl, rfl, v3, v4, fun i hi => absurd hi (Nat.not_lt_zero _), by simp, by simp, by simp⟩ (by simp; omega) ?_
  rintro ⟨am, i, caps, cells, pos⟩ next ⟨i1, i2, i3, i4, i5, i6, i7, i8, i9, i10, i11⟩ hn
  simp only at i1 i2 i3 i4 i5 i6 i7 i8 i9 i10 i11
  refine ok_brk (fun hc => ?_) (fun hc => ok_some ?_)
  · have hc : i < (1 + w) * (1 + h) := by simpa using hc
    refine ok_join (fun x : Int × Int => 0 ≤ x.1 ∧ x.1 < 256 ∧ 0 ≤ x.2 ∧ x.2 ≤ l.length) ?_ fun k hk => next_ok hl i6 i7 (by decide) k fun v p h1 h2 _ h3 h4 => hk _ ⟨h1, h2, h3, h4⟩
    rintro ⟨a, p2⟩ ⟨a1, a2, a3, a4⟩
    simp only at a1 a2 a3 a4
    have hlo : 0 ≤ (if 4 * a - 500 > 0 then 4 * a - 500 else 0) ∧ (if 4 * a - 500 > 0 then 4 * a - 500 else 0) ≤ 520 := by split <;> omega
    refine ok_chk (by constructor <;> (first | omega | (dsimp only; omega))) (ok_chk (by constructor <;> (first | omega | (dsimp only; omega))) ?_)
    refine ok_join (fun x : Int × Int => 0 ≤ x.1 ∧ x.1 < 60 ∧ 0 ≤ x.2 ∧ x.2 ≤ l.length) ?_ fun k hk => next_ok hl a3 a4 (by decide) k fun v p h1 h2 _ h3 h4 => hk _ ⟨h1, h2, h3, h4⟩
    rintro ⟨b, p3⟩ ⟨b1, b2, b3, b4⟩
    simp only at b1 b2 b3 b4
    show Ok MadeOK (chk (InR ((if 4 * a - 500 > 0 then 4 * a - 500 else 0) + b)) _)
    generalize (if 4 * a - 500 > 0 then 4 * a - 500 else 0) = lo at hlo ⊢
    refine ok_chk ⟨by omega, by omega⟩ (ok_chk (show cells.length + 1 ≤ 1000000 by omega) (ok_chk (show InR (lo + b - lo) from ⟨by omega, by omega⟩) (ok_chk (show InR (lo + b - lo + 1) from ⟨by omega, by omega⟩) ?_)))
    refine ok_join (fun x : Int × Int => 0 ≤ x.1 ∧ x.1 < lo + b - lo + 1 ∧ 0 ≤ x.2 ∧ x.2 ≤ l.length) ?_ fun k hk => next_okS (n := lo + b - lo + 1) hl b3 b4 (by omega) k fun v p h1 h2 _ h3 h4 => hk _ ⟨h1, h2, h3, h4⟩
    rintro ⟨c, p4⟩ ⟨c1, c2, c3, c4⟩
    simp only at c1 c2 c3 c4
    refine ok_chk (show InR (lo + c) from ⟨by omega, by omega⟩) (ok_chk (show am.length + 1 ≤ 1000000 by omega) ?_)
    refine ok_join (fun x : Int × Int => 0 ≤ x.1 ∧ x.1 < 100 ∧ 0 ≤ x.2 ∧ x.2 ≤ l.length) ?_ fun k hk => next_ok hl c3 c4 (by decide) k fun v p h1 h2 _ h3 h4 => hk _ ⟨h1, h2, h3, h4⟩
    rintro ⟨d, p5⟩ ⟨d1, d2, d3, d4⟩
    simp only at d1 d2 d3 d4
    refine ok_join (fun x : Int × Int => 0 ≤ x.1 ∧ x.1 < 40 ∧ 0 ≤ x.2 ∧ x.2 ≤ l.length) ?_ fun k hk => next_ok hl d3 d4 (by decide) k fun v p h1 h2 _ h3 h4 => hk _ ⟨h1, h2, h3, h4⟩
    rintro ⟨e, p6⟩ ⟨e1, e2, e3, e4⟩
    simp only at e1 e2 e3 e4
    refine ok_chk (show InR (d + e) from ⟨by omega, by omega⟩) (ok_chk (show caps.length + 1 ≤ 1000000 by omega) (ok_chk (show InR (i + 1) from ⟨by omega, by omega⟩) (hn _ ?_ ?_)))
    · refine ⟨by show 0 ≤ i + 1; omega, by show i + 1 ≤ _; omega, ?_, ?_, ?_, e3, e4, inside_snoc (show am.length = cells.length by omega) i8 ?_ ?_, mem_snoc i9 ⟨by omega, by omega⟩, mem_snoc i10 ⟨by show 0 ≤ d; omega, by show d ≤ d + e; omega, by show d + e ≤ 200; omega⟩, mem_snoc i11 ⟨by show 0 ≤ lo; omega, by show lo ≤ lo + b; omega, by show lo + b ≤ 600; omega⟩⟩
      · show ((am ++ [_]).length : Int) = i + 1
        rw [List.length_append, List.length_singleton]; omega
      · show ((caps ++ [_]).length : Int) = i + 1
        rw [List.length_append, List.length_singleton]; omega
      · show ((cells ++ [_]).length : Int) = i + 1
        rw [List.length_append, List.length_singleton]; omega
      · show lo ≤ lo + c; omega
      · show lo + c ≤ lo + b; omega
    · show ((1 + w) * (1 + h)).toNat - (i + 1).toNat < ((1 + w) * (1 + h)).toNat - i.toNat
      omega
  · have hc : ¬ i < (1 + w) * (1 + h) := by simpa using hc
    have hi : i = (1 + w) * (1 + h) := by omega
    exact ⟨⟨⟨by show 1 ≤ 1 + w; omega, by show 1 + w ≤ 8; omega⟩, ⟨by show 1 ≤ 1 + h; omega, by show 1 + h ≤ 8; omega⟩, by show (cells.length : Int) = (1 + w) * (1 + h); omega, fun s hs => by have := i11 s hs; exact ⟨this.1, this.2.1, by have := this.2.2; omega⟩⟩,
      ⟨by show 1 + w ≤ 4; omega, by show 1 + h ≤ 4; omega⟩, ⟨by show caps.length = cells.length; omega, fun s hs => by have := i10 s hs; exact ⟨this.1, this.2.1, by have := this.2.2; omega⟩⟩, by show am.length = cells.length; omega, i8, i9, fun s hs => (i11 s hs).2.2, fun s hs => (i10 s hs).2.2⟩
end Go.Proofs.Sp

namespace Go.Proofs.Sp
open Go Go.KX

theorem inside_le {cells : List Span} {am : List Int} (hl : am.length = cells.length) (h : Inside cells am) : LeL (cells.map (·.Lo)) am ∧ LeL am (cells.map (·.Hi)) := by
  refine ⟨⟨by simp [hl], fun i => ?_⟩, ⟨by simp [hl], fun i => ?_⟩⟩
  · by_cases hi : i < am.length
    · rw [getD_map _ _ _ ⟨0, 0⟩ _ (by omega)]; exact (h i hi).1
    · simp [List.getD_eq_getElem?_getD, List.getElem?_eq_none (show (cells.map (·.Lo)).length ≤ i by simp; omega), List.getElem?_eq_none (show am.length ≤ i by omega)]
  · by_cases hi : i < am.length
    · rw [getD_map _ _ _ ⟨0, 0⟩ _ (by omega)]; exact (h i hi).2
    · simp [List.getD_eq_getElem?_getD, List.getElem?_eq_none (show (cells.map (·.Hi)).length ≤ i by simp; omega), List.getElem?_eq_none (show am.length ≤ i by omega)]

theorem leL_tail {a b : Int} {l r : List Int} (h : LeL (a :: l) (b :: r)) : a ≤ b ∧ LeL l r :=
  ⟨by simpa using h.2 0, by simpa using h.1, fun i => by simpa using h.2 (i + 1)⟩
theorem sumL_mono : ∀ {l r : List Int}, LeL l r → sumL l ≤ sumL r
  | [], [], _ => Int.le_refl _
  | [], _ :: _, h => by have := h.1; simp at this
  | _ :: _, [], h => by have := h.1; simp at this
  | a :: l, b :: r, h => by
    obtain ⟨h1, h2⟩ := leL_tail h
    have := sumL_mono h2
    simp only [sumL]; omega
theorem sumL_rest {l r : List Int} (h : LeL l r) {i : Nat} (hi : i < l.length) : sumL l - l.getD i 0 ≤ sumL r - r.getD i 0 := by
  have h1 : LeL (l.set i 0) (r.set i 0) := by
    refine ⟨by simp [h.1], fun j => ?_⟩
    rw [getD_set' hi, getD_set' (by rw [← h.1]; exact hi)]
    split
    · exact Int.le_refl _
    · exact h.2 j
  have := sumL_mono h1
  rw [sumL_set _ _ _ hi, sumL_set _ _ _ (by rw [← h.1]; exact hi)] at this
  omega

/-- Capacities in spans. -/
structure OwnIn (caps : List Span) (own : List Int) : Prop where
  len : own.length = caps.length
  ok : Inside caps own

theorem flow_inside {F : Nat} {f : Field} {caps : List Span} {am own : List Int} (hF : 100 < F) (hf : FieldOK f) (hc : CapsOK f.Cells.length caps) (ho : OwnIn caps own) (hl : am.length = f.Cells.length)
    (h : Inside f.Cells am) (hfl : FlowOK f.W f.H am own) : Inside (spreadV f.W f.H f.Cells caps) (hourV f.W f.H am own own) := by
  obtain ⟨_, _, l1, l2, _⟩ := spread_eq hF hf hc
  obtain ⟨_, g, hs⟩ := Flow_eq hF hfl
  obtain ⟨a1, a2⟩ := inside_le hl h
  obtain ⟨b1, b2⟩ := inside_le ho.len ho.ok
  have c1 := hour_le (W := f.W) (H := f.H) a1 b1 b2
  have c2 := hour_le (W := f.W) (H := f.H) a2 b2 b1
  intro i hi
  rw [g.len] at hi
  have e : (spreadV f.W f.H f.Cells caps).getD i ⟨0, 0⟩ = ⟨minO ((loV f.W f.H f.Cells caps).getD i 0), minO ((hiV f.W f.H f.Cells caps).getD i 0)⟩ := by
    rw [getD_get (by rw [spreadV, List.length_zipWith, l1, l2]; omega), getD_get (by omega), getD_get (by omega)]
    simp [spreadV]
  rw [e]
  exact ⟨Int.le_trans (minO_self _) (c1.2 i), minO_ge (c2.2 i) (g.get i).2⟩

theorem tot_inside {cells : List Span} {am : List Int} (hl : am.length = cells.length) (h : Inside cells am) : (totV cells).Lo ≤ sumL am ∧ sumL am ≤ (totV cells).Hi := by
  obtain ⟨a1, a2⟩ := inside_le hl h
  exact ⟨sumL_mono a1, sumL_mono a2⟩

theorem cut_inside {cells : List Span} {am : List Int} {t : Span} (hl : am.length = cells.length) (h : Inside cells am) (h1 : t.Lo ≤ sumL am) (h2 : sumL am ≤ t.Hi) : Inside (cells.map (cutV t (totV cells))) am := by
  obtain ⟨a1, a2⟩ := inside_le hl h
  intro i hi
  have hi' : i < cells.length := by omega
  rw [getD_map _ _ _ ⟨0, 0⟩ _ hi']
  have r1 := sumL_rest a1 (i := i) (by simpa using hi')
  have r2 := sumL_rest a2 (i := i) hi
  rw [getD_map _ _ _ ⟨0, 0⟩ _ hi'] at r1 r2
  have h3 := h i hi
  have e1 : (totV cells).Lo = sumL (cells.map (·.Lo)) := rfl
  have e2 : (totV cells).Hi = sumL (cells.map (·.Hi)) := rfl
  constructor
  · simp only [cutV]
    split <;> omega
  · simp only [cutV]
    split <;> omega

theorem cut_field {f : Field} {am : List Int} {t : Span} (hf : FieldOK f) (hl : am.length = f.Cells.length) (h : Inside (f.Cells.map (cutV t (totV f.Cells))) am) : FieldOK ⟨f.W, f.H, f.Cells.map (cutV t (totV f.Cells))⟩ := by
  refine ⟨hf.w, hf.h, by simpa using hf.len, fun s hs => ?_⟩
  obtain ⟨i, hi, rfl⟩ := List.getElem_of_mem hs
  have hi' : i < f.Cells.length := by simpa using hi
  have h1 := h i (by omega)
  have h2 := hf.cells _ (List.getElem_mem hi')
  rw [getD_get hi] at h1
  refine ⟨?_, by omega, ?_⟩
  · simp only [List.getElem_map, cutV]; split <;> omega
  · simp only [List.getElem_map, cutV]; split <;> omega

theorem own_step {caps : List Span} {own : List Int} {i v : Int} (h1 : 0 ≤ i) (h2 : i < caps.length) (hl : (own.length : Int) = i) (h : ∀ j, j < own.length → (caps.getD j ⟨0, 0⟩).Lo ≤ own.getD j 0 ∧ own.getD j 0 ≤ (caps.getD j ⟨0, 0⟩).Hi)
    (hv : 0 ≤ v) (hv2 : (caps.getD i.toNat ⟨0, 0⟩).Lo + v ≤ (caps.getD i.toNat ⟨0, 0⟩).Hi) :
    Inside caps (own ++ [(caps.getD i.toNat ⟨0, 0⟩).Lo + v]) := by
  intro j hj
  rw [List.length_append, List.length_singleton] at hj
  by_cases e : j < own.length
  · rw [getD_append_left' e]; exact h j e
  · obtain rfl : j = own.length := by omega
    rw [getD_append_here, show own.length = i.toNat by omega]
    exact ⟨by omega, hv2⟩
end Go.Proofs.Sp

namespace Go.Proofs.Sp
open Go Go.KX

theorem own_loop {F : Nat} {caps : List Span} {a1 : List Int} {pos : Int} (hF : 100 < F) (hcp : ∀ s ∈ caps, SpanOK 10000 s) (hlen : caps.length ≤ 64) (h1 : Bytes a1) (h0 : 0 ≤ pos) (hp : pos ≤ a1.length) {α : Type} {post : α → Prop} (K : Int × List Int × Int → Option α)
    (hK : ∀ x : Int × List Int × Int, OwnIn caps x.2.1 → 0 ≤ x.2.2 → x.2.2 ≤ a1.length → Ok post (K x)) :
    Ok post (loopC (fun (x_12 : Int × List Int × Int) => fun x_13 => brk (decide (x_12.fst < (↑(List.length caps) : Int))) (chk ((0 : Int) ≤ x_12.fst ∧ x_12.fst < (↑(List.length caps) : Int)) (chk (InR ((List.getD caps (Int.toNat x_12.fst) (Span.mk (0 : Int) (0 : Int))).Hi - (List.getD caps (Int.toNat x_12.fst) (Span.mk (0 : Int) (0 : Int))).Lo)) (chk (InR ((List.getD caps (Int.toNat x_12.fst) (Span.mk (0 : Int) (0 : Int))).Hi - (List.getD caps (Int.toNat x_12.fst) (Span.mk (0 : Int) (0 : Int))).Lo + (1 : Int))) (join (fun (x_14 : Int × Int) => chk (InR ((List.getD caps (Int.toNat x_12.fst) (Span.mk (0 : Int) (0 : Int))).Lo + x_14.fst)) (chk (List.length x_12.snd.fst + [(List.getD caps (Int.toNat x_12.fst) (Span.mk (0 : Int) (0 : Int))).Lo + x_14.fst].length ≤ (1000000 : Nat)) (chk (InR (x_12.fst + (1 : Int))) (x_13 ((x_12.fst + (1 : Int), x_12.snd.fst ++ [(List.getD caps (Int.toNat x_12.fst) (Span.mk (0 : Int) (0 : Int))).Lo + x_14.fst], x_14.snd))))))
      (fun x_14 => brk (decide (x_12.snd.snd ≥ (↑a1.length : Int))) (x_14 (((0 : Int), x_12.snd.snd))) (chk (InR (x_12.snd.snd + (1 : Int))) (chk (InR (x_12.snd.snd + (1 : Int) - (1 : Int))) (chk ((0 : Int) ≤ x_12.snd.snd + (1 : Int) - (1 : Int) ∧ x_12.snd.snd + (1 : Int) - (1 : Int) < (↑a1.length : Int)) (chk (InR (a1.getD (x_12.snd.snd + (1 : Int) - (1 : Int)).toNat (0 : Int))) (chk (((0 : Int) ≤ a1.getD (x_12.snd.snd + (1 : Int) - (1 : Int)).toNat (0 : Int) ∧ a1.getD (x_12.snd.snd + (1 : Int) - (1 : Int)).toNat (0 : Int) ≤ (9223372036854775807 : Int)) ∧ (0 : Int) < if (List.getD caps (Int.toNat x_12.fst) (Span.mk (0 : Int) (0 : Int))).Hi - (List.getD caps (Int.toNat x_12.fst) (Span.mk (0 : Int) (0 : Int))).Lo + (1 : Int) < (256 : Int) then (List.getD caps (Int.toNat x_12.fst) (Span.mk (0 : Int) (0 : Int))).Hi - (List.getD caps (Int.toNat x_12.fst) (Span.mk (0 : Int) (0 : Int))).Lo + (1 : Int) else (256 : Int)) (x_14 ((a1.getD (x_12.snd.snd + (1 : Int) - (1 : Int)).toNat (0 : Int) % if (List.getD caps (Int.toNat x_12.fst) (Span.mk (0 : Int) (0 : Int))).Hi - (List.getD caps (Int.toNat x_12.fst) (Span.mk (0 : Int) (0 : Int))).Lo + (1 : Int) < (256 : Int) then (List.getD caps (Int.toNat x_12.fst) (Span.mk (0 : Int) (0 : Int))).Hi - (List.getD caps (Int.toNat x_12.fst) (Span.mk (0 : Int) (0 : Int))).Lo + (1 : Int) else (256 : Int), x_12.snd.snd + (1 : Int)))))))))))))) (K x_12)) F ((0 : Int), [], pos)) := by
  refine ok_loop (fun x : Int × List Int × Int => 0 ≤ x.1 ∧ x.1 ≤ caps.length ∧ (x.2.1.length : Int) = x.1 ∧ Inside caps x.2.1 ∧ 0 ≤ x.2.2 ∧ x.2.2 ≤ a1.length) (fun x : Int × List Int × Int => caps.length - x.1.toNat) ⟨by simp, by simp, rfl, fun j hj => absurd hj (Nat.not_lt_zero _), h0, hp⟩ (by simp; omega) ?_
  rintro ⟨i, own, p9⟩ next2 ⟨j1, j2, j3, j4, j5, j6⟩ hn2
  simp only at j1 j2 j3 j4 j5 j6
  refine ok_brk (fun hcc => ?_) (fun hcc => ?_)
  · have hcc : i < caps.length := by simpa using hcc
    have hs1 := hcp _ (getD_mem (i := i.toNat) (d := ⟨0, 0⟩) (by omega : i.toNat < caps.length))
    refine ok_chk ⟨j1, hcc⟩ (ok_chk (show InR ((caps.getD i.toNat ⟨0, 0⟩).Hi - (caps.getD i.toNat ⟨0, 0⟩).Lo) from ⟨by omega, by omega⟩) (ok_chk (show InR ((caps.getD i.toNat ⟨0, 0⟩).Hi - (caps.getD i.toNat ⟨0, 0⟩).Lo + 1) from ⟨by omega, by omega⟩) ?_))
    have hmn : 0 < (if (caps.getD i.toNat ⟨0, 0⟩).Hi - (caps.getD i.toNat ⟨0, 0⟩).Lo + 1 < 256 then (caps.getD i.toNat ⟨0, 0⟩).Hi - (caps.getD i.toNat ⟨0, 0⟩).Lo + 1 else 256) ∧ (if (caps.getD i.toNat ⟨0, 0⟩).Hi - (caps.getD i.toNat ⟨0, 0⟩).Lo + 1 < 256 then (caps.getD i.toNat ⟨0, 0⟩).Hi - (caps.getD i.toNat ⟨0, 0⟩).Lo + 1 else 256) ≤ (caps.getD i.toNat ⟨0, 0⟩).Hi - (caps.getD i.toNat ⟨0, 0⟩).Lo + 1 := by split <;> omega
    refine ok_join (fun x : Int × Int => 0 ≤ x.1 ∧ (caps.getD i.toNat ⟨0, 0⟩).Lo + x.1 ≤ (caps.getD i.toNat ⟨0, 0⟩).Hi ∧ 0 ≤ x.2 ∧ x.2 ≤ a1.length) ?_ fun k hk => next_okS (n := if (caps.getD i.toNat ⟨0, 0⟩).Hi - (caps.getD i.toNat ⟨0, 0⟩).Lo + 1 < 256 then (caps.getD i.toNat ⟨0, 0⟩).Hi - (caps.getD i.toNat ⟨0, 0⟩).Lo + 1 else 256) h1 j5 j6 hmn.1 k fun v p e1 e2 _ e3 e4 => hk _ ⟨e1, by show _ + v ≤ _; omega, e3, e4⟩
    rintro ⟨v, p⟩ ⟨d1, d2, d3, d4⟩
    simp only at d1 d2 d3 d4
    refine ok_chk (show InR ((caps.getD i.toNat ⟨0, 0⟩).Lo + v) from ⟨by omega, by omega⟩) (ok_chk (show own.length + 1 ≤ 1000000 by omega) (ok_chk (show InR (i + 1) from ⟨by omega, by omega⟩) (hn2 _ ⟨by show 0 ≤ i + 1; omega, by show i + 1 ≤ _; omega, ?_, own_step j1 hcc j3 j4 d1 d2, d3, d4⟩ (by show caps.length - (i + 1).toNat < caps.length - i.toNat; omega))))
    show ((own ++ [_]).length : Int) = i + 1
    rw [List.length_append, List.length_singleton]; omega
  · have hcc : ¬ i < caps.length := by simpa using hcc
    exact hK _ ⟨by show own.length = _; omega, j4⟩ j5 j6

theorem getD_set_here {l : List Span} {i : Nat} {s d : Span} (h : i < l.length) : (l.set i s).getD i d = s := by rw [getD_set' h, if_pos rfl]

/-- A narrower field. -/
def Narrow (l r : List Span) : Prop := l.length = r.length ∧ ∀ j, j < l.length → (r.getD j ⟨0, 0⟩).Lo ≤ (l.getD j ⟨0, 0⟩).Lo ∧ (l.getD j ⟨0, 0⟩).Hi ≤ (r.getD j ⟨0, 0⟩).Hi
theorem Narrow.le {l r : List Span} (h : Narrow l r) : LeL (r.map (·.Lo)) (l.map (·.Lo)) ∧ LeL (l.map (·.Hi)) (r.map (·.Hi)) := by
  refine ⟨⟨by simp [h.1], fun i => ?_⟩, ⟨by simp [h.1], fun i => ?_⟩⟩
  · by_cases hi : i < l.length
    · rw [getD_map _ _ _ ⟨0, 0⟩ _ hi, getD_map _ _ _ ⟨0, 0⟩ _ (by rw [← h.1]; exact hi)]; exact (h.2 i hi).1
    · simp [List.getD_eq_getElem?_getD, List.getElem?_eq_none (show (r.map (·.Lo)).length ≤ i by simp; have := h.1; omega), List.getElem?_eq_none (show (l.map (·.Lo)).length ≤ i by simp; omega)]
  · by_cases hi : i < l.length
    · rw [getD_map _ _ _ ⟨0, 0⟩ _ hi, getD_map _ _ _ ⟨0, 0⟩ _ (by rw [← h.1]; exact hi)]; exact (h.2 i hi).2
    · simp [List.getD_eq_getElem?_getD, List.getElem?_eq_none (show (r.map (·.Hi)).length ≤ i by simp; have := h.1; omega), List.getElem?_eq_none (show (l.map (·.Hi)).length ≤ i by simp; omega)]

theorem spreadV_get {F : Nat} {f : Field} {caps : List Span} (hF : 100 < F) (hf : FieldOK f) (hc : CapsOK f.Cells.length caps) {i : Nat} (hi : i < f.Cells.length) :
    (spreadV f.W f.H f.Cells caps).getD i ⟨0, 0⟩ = ⟨minO ((loV f.W f.H f.Cells caps).getD i 0), minO ((hiV f.W f.H f.Cells caps).getD i 0)⟩ := by
  obtain ⟨_, _, l1, l2, _⟩ := spread_eq hF hf hc
  rw [getD_get (by rw [spreadV, List.length_zipWith, l1, l2]; omega), getD_get (by omega), getD_get (by omega)]
  simp [spreadV]
theorem spreadV_len {F : Nat} {f : Field} {caps : List Span} (hF : 100 < F) (hf : FieldOK f) (hc : CapsOK f.Cells.length caps) : (spreadV f.W f.H f.Cells caps).length = f.Cells.length := by
  obtain ⟨_, _, l1, l2, _⟩ := spread_eq hF hf hc
  rw [spreadV, List.length_zipWith, l1, l2, Nat.min_self]

theorem spread_narrow {F : Nat} {W H : Int} {l r cl cr : List Span} (hF : 100 < F) (hl : FieldOK ⟨W, H, l⟩) (hr : FieldOK ⟨W, H, r⟩) (hcl : CapsOK l.length cl) (hcr : CapsOK r.length cr) (h : Narrow l r) (hc : Narrow cl cr) :
    Narrow (spreadV W H l cl) (spreadV W H r cr) := by
  have e1 := spreadV_len (f := ⟨W, H, l⟩) hF hl hcl
  have e2 := spreadV_len (f := ⟨W, H, r⟩) hF hr hcr
  simp only at e1 e2
  refine ⟨by rw [e1, e2, h.1], fun j hj => ?_⟩
  rw [e1] at hj
  have g1 := spreadV_get (f := ⟨W, H, l⟩) hF hl hcl hj
  have g2 := spreadV_get (f := ⟨W, H, r⟩) hF hr hcr (i := j) (by rw [← h.1]; exact hj)
  simp only at g1 g2
  rw [g1, g2]
  exact ⟨minO_mono ((hour_le (W := W) (H := H) h.le.1 hc.le.1 hc.le.2).2 j), minO_mono ((hour_le (W := W) (H := H) h.le.2 hc.le.2 hc.le.1).2 j)⟩

theorem spreadN_narrow {F : Nat} {W H : Int} {l r cl cr : List Span} (hF : 100 < F) (hl : FieldOK ⟨W, H, l⟩) (hr : FieldOK ⟨W, H, r⟩) (hcl : CapsOK l.length cl) (hcr : CapsOK r.length cr) (h : Narrow l r) (hc : Narrow cl cr) :
    ∀ n, Narrow (spreadN W H cl n l) (spreadN W H cr n r)
  | 0 => h
  | n + 1 => by
    obtain ⟨a1, a2⟩ := spreadN_ok (f := ⟨W, H, l⟩) hF hl hcl n
    obtain ⟨b1, b2⟩ := spreadN_ok (f := ⟨W, H, r⟩) hF hr hcr n
    simp only at a1 a2 b1 b2
    exact spread_narrow hF a1 b1 (by rw [a2]; exact hcl) (by rw [b2]; exact hcr) (spreadN_narrow hF hl hr hcl hcr h hc n) hc

theorem spreadN_add (W H : Int) (caps cells : List Span) (a : Nat) : ∀ b, spreadN W H caps b (spreadN W H caps a cells) = spreadN W H caps (a + b) cells
  | 0 => rfl
  | b + 1 => by rw [spreadN, spreadN_add W H caps cells a b]; rfl

theorem same_refl {F : Nat} {f : Field} (hF : f.Cells.length < F) (hl : f.Cells.length ≤ 1000000) : law11_same F f f = some true := by
  have h : kit_SameSpans F f.Cells f.Cells = some true := by
    refine Ok.eq ?_
    unfold kit_SameSpans
    refine ok_brkF (by simp) ?_
    refine ok_loop (fun x : Int => 0 ≤ x) (fun x : Int => f.Cells.length - x.toNat) (by omega) (by simp; omega) ?_
    intro x next h0 hn
    refine ok_brk (fun hc => ?_) (fun _ => ok_some rfl)
    have hc : x < f.Cells.length := by simpa using hc
    exact ok_chk ⟨h0, hc⟩ (ok_chk ⟨h0, hc⟩ (ok_brkF (by simp) (ok_chk ⟨by omega, by omega⟩ (hn _ (by omega) (by omega)))))
  unfold law11_same
  simp [h, brk_true, bnd_so]
end Go.Proofs.Sp

namespace Go.Proofs.Sp
open Go Go.KX

abbrev g0 : Sight := Sight.mk (0 : Int) (Span.mk (0 : Int) (0 : Int))

def cutS (t : Sight) (s : Span) : Span := ⟨if s.Lo > t.Oil.Lo then s.Lo else t.Oil.Lo, if s.Hi < t.Oil.Hi then s.Hi else t.Oil.Hi⟩
/-- The cells, narrowed by sights one after the other; or an error. -/
def seeGo : List Sight → List Span → List Span × Int
  | [], c => (c, 0)
  | t :: r, c => if ¬ (0 ≤ t.Cell ∧ t.Cell ≤ (c.length : Int) - 1) then ([], 1) else if ¬ SpanOK 1000000 t.Oil then ([], 120) else
      if (cutS t (c.getD t.Cell.toNat ⟨0, 0⟩)).Lo > (cutS t (c.getD t.Cell.toNat ⟨0, 0⟩)).Hi then ([], 21) else seeGo r (c.set t.Cell.toNat (cutS t (c.getD t.Cell.toNat ⟨0, 0⟩)))
def seeRes (f : Field) (x : List Span × Int) : Field × Int := if x.2 = 0 then (⟨f.W, f.H, x.1⟩, 0) else (⟨0, 0, []⟩, x.2)
def seeV (f : Field) (S : List Sight) : Field × Int := if checkV f ≠ 0 then (⟨0, 0, []⟩, checkV f) else if S.length > 100 then (⟨0, 0, []⟩, 2) else seeRes f (seeGo S f.Cells)

theorem nd_true {p : Prop} [Decidable p] (h : (!decide p) = true) : ¬ p := by simpa using h
theorem nd_false {p : Prop} [Decidable p] (h : (!decide p) = false) : p := by simpa using h

theorem drop_cons' {α : Type} {l : List α} {i : Nat} {d : α} (h : i < l.length) : l.drop i = l.getD i d :: l.drop (i + 1) := by
  rw [getD_get h]; exact List.drop_eq_getElem_cons h

theorem See_eq {F : Nat} {f : Field} {S : List Sight} (hF : 200 < F) (hl : f.Cells.length ≤ 80) (hS : S.length ≤ 120) : spill_See F f S = some (seeV f S) := by
  refine Ok.eq ?_
  unfold spill_See seeV
  refine ok_bnde (Check_eq (by show f.Cells.length < F; omega)) ?_
  show Ok _ (brk (checkV f != 0) _ _)
  refine ok_brk (fun h => ok_some ?_) (fun h => ?_)
  · rw [if_pos (by simpa using h)]
  have h : checkV f = 0 := by simpa using h
  have hf := checkV_ok h
  have hs := hf.small
  rw [if_neg (by simp [h])]
  refine ok_brk (fun h2 => ok_some ?_) (fun h2 => ?_)
  · rw [if_pos (by have := of_decide_eq_true h2; omega)]
  have h2 : S.length ≤ 100 := by have := of_decide_eq_false h2; omega
  rw [if_neg (by omega)]
  refine ok_bnde (clone_eq (by omega)) ?_
  refine ok_loop (fun x : Int × List Span => 0 ≤ x.1 ∧ x.1 ≤ S.length ∧ x.2.length = f.Cells.length ∧ seeGo (S.drop x.1.toNat) x.2 = seeGo S f.Cells) (fun x : Int × List Span => S.length - x.1.toNat) ⟨by simp, by simp, rfl, rfl⟩ (by simp; omega) ?_
  rintro ⟨i, c⟩ next ⟨i1, i2, i3, i4⟩ hn
  simp only at i1 i2 i3 i4
  rw [← i4]
  refine ok_brk (fun hc => ?_) (fun hc => ok_some ?_)
  · have hc : i < S.length := by simpa using hc
    have hi : i.toNat < S.length := by omega
    have hd := drop_cons' (d := g0) hi
    rw [hd, seeGo]
    refine ok_chk ⟨i1, hc⟩ (ok_chk (show InR ((c.length : Int) - 1) from ⟨by omega, by omega⟩) ?_)
    dsimp only
    show Ok _ (bnd (spill_within F (S.getD i.toNat g0).Cell 0 ((c.length : Int) - 1)) _)
    generalize hteq : S.getD i.toNat g0 = t at hd
    rw [within_eq, bnd_so]
    refine ok_brk (fun hb => ok_some ?_) (fun hb => ?_)
    · rw [if_pos]
      · rfl
      · intro h3
        rw [wb h3.1 h3.2] at hb; cases hb
    · have hb : 0 ≤ t.Cell ∧ t.Cell ≤ (c.length : Int) - 1 := by simpa using hb
      rw [if_neg (fun h => h hb)]
      have htn : t.Cell.toNat < c.length := by omega
      have hidx : 0 ≤ t.Cell ∧ t.Cell < (c.length : Int) := by omega
      refine ok_bnde (span_eq F ⟨t.Oil.Lo, t.Oil.Hi⟩ 1000000) (ok_brk (fun hb2 => ok_some ?_) (fun hb2 => ?_))
      · have hb2 : ¬ SpanOK 1000000 t.Oil := nd_true hb2
        rw [if_pos hb2]; rfl
      · have hb2 : SpanOK 1000000 t.Oil := nd_false hb2
        rw [if_neg (fun h => h hb2)]
        refine ok_chk hidx (ok_bnde rfl (ok_chk hidx (ok_chk ⟨hb.1, by show t.Cell < ((List.set _ _ _).length : Int); rw [List.length_set]; omega⟩ (ok_chk ⟨hb.1, by show t.Cell < ((List.set _ _ _).length : Int); rw [List.length_set]; omega⟩ ?_))))
        simp only [getD_set_here htn]
        show Ok _ (brk (decide ((cutS t (c.getD t.Cell.toNat ⟨0, 0⟩)).Lo > (cutS t (c.getD t.Cell.toNat ⟨0, 0⟩)).Hi)) _ _)
        refine ok_brk (fun hb3 => ok_some ?_) (fun hb3 => ?_)
        · rw [if_pos (of_decide_eq_true hb3)]; rfl
        · rw [if_neg (of_decide_eq_false hb3)]
          have i4' := i4
          rw [hd, seeGo, if_neg (fun h => h hb), if_neg (fun h => h hb2), if_neg (of_decide_eq_false hb3)] at i4'
          rw [i4']
          refine ok_chk (show InR (i + 1) from ⟨by omega, by omega⟩) (hn _ ⟨by show 0 ≤ i + 1; omega, by show i + 1 ≤ _; omega, by show (c.set _ _).length = _; rw [List.length_set]; exact i3, ?_⟩ (by show S.length - (i + 1).toNat < S.length - i.toNat; omega))
          show seeGo (S.drop (i + 1).toNat) (c.set t.Cell.toNat (cutS t (c.getD t.Cell.toNat ⟨0, 0⟩))) = _
          rw [show (i + 1).toNat = i.toNat + 1 by omega]; exact i4'
  · have hc : ¬ i < S.length := by simpa using hc
    rw [List.drop_eq_nil_of_le (by omega)]; rfl

theorem refSpan_eq (F : Nat) (s : Span) (m : Int) : ref11_span F s m = some (decide (SpanOK m s)) := by
  unfold ref11_span
  congr 1
  by_cases h : SpanOK m s
  · rw [decide_eq_true h, decide_eq_true (show s.Lo ≥ 0 from h.1), decide_eq_true h.2.2, decide_eq_true h.2.1]; rfl
  · rw [decide_eq_false h]
    by_cases h1 : s.Lo ≥ 0
    · by_cases h2 : s.Hi ≤ m
      · rw [decide_eq_true h1, decide_eq_true h2, decide_eq_false (fun h3 => h ⟨h1, h3, h2⟩)]; rfl
      · rw [decide_eq_false h2]; simp
    · rw [decide_eq_false h1]; simp

theorem refIn_eq (F : Nat) (a b c : Int) : ref11_in F a b c = some (decide (a ≥ b) && decide (a ≤ c)) := rfl

theorem refCheck_eq {F : Nat} {f : Field} (hF : f.Cells.length < F) : ref11_Check F f = some (checkV f) := by
  refine Ok.eq ?_
  unfold ref11_Check
  rw [refIn_eq, bnd_so]
  have e : ∀ a b c : Int, (decide (a ≥ b) && decide (a ≤ c)) = decide (b ≤ a ∧ a ≤ c) := fun a b c => by rw [← Bool.decide_and]
  rw [e]
  refine ok_bnde (b := decide (1 ≤ f.W ∧ f.W ≤ 8) && decide (1 ≤ f.H ∧ f.H ≤ 8)) ?_ ?_
  · cases decide (1 ≤ f.W ∧ f.W ≤ 8)
    · rfl
    · rw [refIn_eq, e]; rfl
  have e2 : (!decide (1 ≤ f.W ∧ f.W ≤ 8) || !(decide (1 ≤ f.W ∧ f.W ≤ 8) && decide (1 ≤ f.H ∧ f.H ≤ 8))) = (!decide (1 ≤ f.W ∧ f.W ≤ 8) || !decide (1 ≤ f.H ∧ f.H ≤ 8)) := by
    cases decide (1 ≤ f.W ∧ f.W ≤ 8) <;> rfl
  rw [e2]
  refine ok_brk (fun h => ok_some ?_) (fun h => ?_)
  · rw [checkV, if_pos]
    simp only [Bool.or_eq_true, Bool.not_eq_true', decide_eq_false_iff_not] at h
    omega
  · simp only [Bool.or_eq_false_iff, Bool.not_eq_false', decide_eq_true_eq] at h
    obtain ⟨hb1, hb2⟩ := mul_bound h.1.1 h.1.2 h.2.1 h.2.2
    have e1 : ¬ ¬ (1 ≤ f.W ∧ f.W ≤ 8 ∧ 1 ≤ f.H ∧ f.H ≤ 8) := by omega
    refine ok_chk (by constructor <;> omega) (ok_brk (fun h2 => ok_some ?_) (fun h2 => ?_))
    · rw [checkV, if_neg e1, if_pos (by simpa using h2)]
    · have h2 : (f.Cells.length : Int) = f.W * f.H := by simpa using h2
      refine ok_loop (fun i : Int => 0 ≤ i ∧ i ≤ f.Cells.length ∧ ∀ j : Nat, (j : Int) < i → SpanOK 1000000 (f.Cells.getD j ⟨0, 0⟩)) (fun i : Int => f.Cells.length - i.toNat) ⟨by omega, by omega, fun j hj => by omega⟩ (by simp; omega) fun i next ⟨h3, h4, h5⟩ hn => ?_
      refine ok_brk (fun hc => ?_) (fun hc => ok_some ?_)
      · have hc : i < f.Cells.length := by simpa using hc
        have hi : i.toNat < f.Cells.length := by omega
        refine ok_chk ⟨h3, hc⟩ (ok_bnde (refSpan_eq F (Span.mk (f.Cells.getD i.toNat ⟨0, 0⟩).Lo (f.Cells.getD i.toNat ⟨0, 0⟩).Hi) 1000000) (ok_brk (fun hb => ok_some ?_) (fun hb => ok_chk ⟨by omega, by omega⟩ (hn _ ⟨by omega, by omega, fun j hj => ?_⟩ (by omega)))))
        · have hb : ¬ SpanOK 1000000 (f.Cells.getD i.toNat ⟨0, 0⟩) := nd_true hb
          rw [checkV, if_neg e1, if_neg (fun h => h h2), if_neg (fun h => hb (h _ (getD_mem hi)))]
        · by_cases e : (j : Int) < i
          · exact h5 j e
          · obtain rfl : j = i.toNat := by omega
            exact nd_false hb
      · have hc : ¬ i < f.Cells.length := by simpa using hc
        rw [checkV, if_neg e1, if_neg (fun h => h h2), if_pos]
        intro s hs
        obtain ⟨j, hj, rfl⟩ := List.getElem_of_mem hs
        have := h5 j (by omega)
        rwa [getD_get hj] at this

theorem set_self {l : List Span} {k : Nat} (h : k < l.length) : l.set k (l.getD k ⟨0, 0⟩) = l := by
  rw [getD_get h]; exact List.set_getElem_self h

theorem refSee_eq {F : Nat} {f : Field} {S : List Sight} (hF : 200 < F) (hl : f.Cells.length ≤ 80) (hS : S.length ≤ 120) : ref11_See F f S = some (seeV f S) := by
  refine Ok.eq ?_
  unfold ref11_See seeV
  refine ok_bnde (refCheck_eq (by show f.Cells.length < F; omega)) ?_
  show Ok _ (brk (checkV f != 0) _ _)
  refine ok_brk (fun h => ok_some ?_) (fun h => ?_)
  · rw [if_pos (by simpa using h)]
  have h : checkV f = 0 := by simpa using h
  have hf := checkV_ok h
  have hs := hf.small
  rw [if_neg (by simp [h])]
  refine ok_brk (fun h2 => ok_some ?_) (fun h2 => ?_)
  · rw [if_pos (by have := of_decide_eq_true h2; omega)]
  have h2 : S.length ≤ 100 := by have := of_decide_eq_false h2; omega
  rw [if_neg (by omega)]
  refine ok_chk (by show 0 + f.Cells.length ≤ 1000000; omega) ?_
  show Ok _ (loopC _ F (0, f.Cells))
  refine ok_loop (fun x : Int × List Span => 0 ≤ x.1 ∧ x.1 ≤ S.length ∧ x.2.length = f.Cells.length ∧ seeGo (S.drop x.1.toNat) x.2 = seeGo S f.Cells) (fun x : Int × List Span => S.length - x.1.toNat) ⟨by simp, by simp, rfl, rfl⟩ (by simp; omega) ?_
  rintro ⟨i, c⟩ next ⟨i1, i2, i3, i4⟩ hn
  simp only at i1 i2 i3 i4
  rw [← i4]
  refine ok_brk (fun hc => ?_) (fun hc => ok_some ?_)
  · have hc : i < S.length := by simpa using hc
    have hi : i.toNat < S.length := by omega
    have hd := drop_cons' (d := g0) hi
    rw [hd, seeGo]
    refine ok_chk ⟨i1, hc⟩ (ok_chk (show InR ((c.length : Int) - 1) from ⟨by omega, by omega⟩) ?_)
    have ix : 0 ≤ i ∧ i < (S.length : Int) := ⟨i1, hc⟩
    dsimp only
    show Ok _ (bnd (ref11_in F (S.getD i.toNat g0).Cell 0 ((c.length : Int) - 1)) _)
    generalize hteq : S.getD i.toNat g0 = t at hd
    rw [refIn_eq, bnd_so]
    refine ok_brk (fun hb => ok_some ?_) (fun hb => ?_)
    · rw [if_pos]
      · rfl
      · intro h3
        rw [wb h3.1 h3.2] at hb; cases hb
    · have hb : 0 ≤ t.Cell ∧ t.Cell ≤ (c.length : Int) - 1 := by simpa using hb
      rw [if_neg (fun h => h hb)]
      have htn : t.Cell.toNat < c.length := by omega
      have hidx : 0 ≤ t.Cell ∧ t.Cell < (c.length : Int) := by omega
      refine ok_chk ix (ok_bnde (refSpan_eq F ⟨t.Oil.Lo, t.Oil.Hi⟩ 1000000) (ok_brk (fun hb2 => ok_some ?_) (fun hb2 => ?_)))
      · have hb2 : ¬ SpanOK 1000000 t.Oil := nd_true hb2
        rw [if_pos hb2]; rfl
      · have hb2 : SpanOK 1000000 t.Oil := nd_false hb2
        rw [if_neg (fun h => h hb2)]
        have q1 : ∀ a b : Int, (if b > a then b else a) = (if a > b then a else b) := fun a b => by split <;> split <;> omega
        have q2 : ∀ a b : Int, (if b < a then b else a) = (if a < b then a else b) := fun a b => by split <;> split <;> omega
        refine ok_join (fun c1 : List Span => c1 = c.set t.Cell.toNat ⟨if (c.getD t.Cell.toNat ⟨0, 0⟩).Lo > t.Oil.Lo then (c.getD t.Cell.toNat ⟨0, 0⟩).Lo else t.Oil.Lo, (c.getD t.Cell.toNat ⟨0, 0⟩).Hi⟩) (fun c1 hc1 => ?_) fun k hk => ?_
        · subst hc1
          refine ok_join (fun c2 : List Span => c2 = c.set t.Cell.toNat (cutS t (c.getD t.Cell.toNat ⟨0, 0⟩))) (fun c2 hc2 => ?_) fun k hk => ?_
          · subst hc2
            have hidx2 : 0 ≤ t.Cell ∧ t.Cell < ((c.set t.Cell.toNat (cutS t (c.getD t.Cell.toNat ⟨0, 0⟩))).length : Int) := ⟨hb.1, by rw [List.length_set]; omega⟩
            refine ok_chk hidx2 (ok_chk hidx2 ?_)
            simp only [getD_set_here htn]
            refine ok_brk (fun hb3 => ok_some ?_) (fun hb3 => ?_)
            · rw [if_pos (of_decide_eq_true hb3)]; rfl
            · rw [if_neg (of_decide_eq_false hb3)]
              have i4' := i4
              rw [hd, seeGo, if_neg (fun h => h hb), if_neg (fun h => h hb2), if_neg (of_decide_eq_false hb3)] at i4'
              rw [i4']
              refine ok_chk (show InR (i + 1) from ⟨by omega, by omega⟩) (hn _ ⟨by show 0 ≤ i + 1; omega, by show i + 1 ≤ _; omega, by show (c.set _ _).length = _; rw [List.length_set]; exact i3, ?_⟩ (by show S.length - (i + 1).toNat < S.length - i.toNat; omega))
              show seeGo (S.drop (i + 1).toNat) (c.set t.Cell.toNat (cutS t (c.getD t.Cell.toNat ⟨0, 0⟩))) = _
              rw [show (i + 1).toNat = i.toNat + 1 by omega]; exact i4'
          · have hidx2 : ∀ s : Span, 0 ≤ t.Cell ∧ t.Cell < ((c.set t.Cell.toNat s).length : Int) := fun s => ⟨hb.1, by rw [List.length_set]; omega⟩
            refine ok_chk ix (ok_chk (hidx2 _) ?_)
            simp only [getD_set_here htn, List.set_set]
            refine ok_brk (fun hb3 => ok_chk ix (ok_chk (hidx2 _) (hk _ ?_))) (fun hb3 => hk _ ?_)
            · have hb3 : t.Oil.Hi < (c.getD t.Cell.toNat ⟨0, 0⟩).Hi := of_decide_eq_true hb3
              simp only [cutS]
              rw [if_neg (show ¬ (c.getD t.Cell.toNat ⟨0, 0⟩).Hi < t.Oil.Hi by omega)]
            · have hb3 : ¬ t.Oil.Hi < (c.getD t.Cell.toNat ⟨0, 0⟩).Hi := of_decide_eq_false hb3
              simp only [cutS]
              congr 2
              split <;> omega
        · refine ok_chk ix (ok_chk hidx (ok_brk (fun hb3 => ok_chk ix (ok_chk hidx (hk _ ?_))) (fun hb3 => hk _ ?_)))
          · have hb3 : t.Oil.Lo > (c.getD t.Cell.toNat ⟨0, 0⟩).Lo := of_decide_eq_true hb3
            rw [if_neg (show ¬ (c.getD t.Cell.toNat ⟨0, 0⟩).Lo > t.Oil.Lo by omega)]
          · have hb3 : ¬ t.Oil.Lo > (c.getD t.Cell.toNat ⟨0, 0⟩).Lo := of_decide_eq_false hb3
            have : (if (c.getD t.Cell.toNat ⟨0, 0⟩).Lo > t.Oil.Lo then (c.getD t.Cell.toNat ⟨0, 0⟩).Lo else t.Oil.Lo) = (c.getD t.Cell.toNat ⟨0, 0⟩).Lo := by split <;> omega
            rw [this]
            exact (set_self htn).symm
  · have hc : ¬ i < S.length := by simpa using hc
    rw [List.drop_eq_nil_of_le (by omega)]; rfl

theorem seeGo_ok : ∀ (S : List Sight) (c : List Span), (∀ s ∈ c, SpanOK 1000000 s) → (∀ s ∈ (seeGo S c).1, SpanOK 1000000 s) ∧ (seeGo S c).1.length ≤ c.length
  | [], c, h => ⟨h, Nat.le_refl _⟩
  | t :: r, c, h => by
    rw [seeGo]
    split
    · exact ⟨fun s hs => by simp at hs, by simp⟩
    · rename_i h1
      split
      · exact ⟨fun s hs => by simp at hs, by simp⟩
      · rename_i h2
        split
        · exact ⟨fun s hs => by simp at hs, by simp⟩
        · rename_i h3
          have h1 := Classical.not_not.1 h1
          have h2 := Classical.not_not.1 h2
          have hk := h _ (getD_mem (i := t.Cell.toNat) (d := (⟨0, 0⟩ : Span)) (by omega : t.Cell.toNat < c.length))
          obtain ⟨g1, g2⟩ := seeGo_ok r (c.set t.Cell.toNat (cutS t (c.getD t.Cell.toNat ⟨0, 0⟩))) (fun s hs => by
            rcases List.mem_or_eq_of_mem_set hs with hs | rfl
            · exact h s hs
            · refine ⟨?_, by omega, ?_⟩
              · simp only [cutS]; split <;> omega
              · simp only [cutS]; split <;> omega)
          exact ⟨g1, by rw [List.length_set] at g2; exact g2⟩

theorem seeV_ok (f : Field) (S : List Sight) : (∀ s ∈ (seeV f S).1.Cells, SpanOK 1000000 s) ∧ (seeV f S).1.Cells.length ≤ f.Cells.length := by
  unfold seeV
  split
  · exact ⟨fun s hs => by simp at hs, by simp⟩
  · rename_i h
    split
    · exact ⟨fun s hs => by simp at hs, by simp⟩
    · have hf := checkV_ok (Classical.not_not.1 h)
      have := seeGo_ok S f.Cells hf.cells
      unfold seeRes
      split
      · exact this
      · exact ⟨fun s hs => by simp at hs, by simp⟩
end Go.Proofs.Sp
