/- Texts FnA, KLW, KLX, FePFA, FePFAw, FePFB, KLN, FePFC: own work; each part says what it is. -/
import Derived.Test.YtglcljiadhcopaaAs2
import Derived.KernelRfl
namespace Go.Proofs.Fe
open Go Go.KX Go.RowKit
set_option linter.unusedVariables false
set_option maxRecDepth 100000
theorem all0 {α : Type} {P : α → Prop} : ∀ c ∈ ([] : List α), P c := fun _ h => nomatch h
theorem allC {α : Type} {P : α → Prop} {a : α} {l : List α} (h : P a) (t : ∀ c ∈ l, P c) : ∀ c ∈ a :: l, P c := fun c hc => (List.mem_cons.1 hc).elim (fun e => e ▸ h) (t c)
theorem inl0 : InlOK E [] := fun _ _ h => nomatch h
theorem inlC {k : Nat} {fn : Func} {l : List (Nat × Func)} (h : E.P.funcs[k]? = some fn) (e : Proofs.Enters E.P k) (t : InlOK E l) : InlOK E ((k, fn) :: l) := by
  intro k2 fn2 hf
  simp only [findFn] at hf
  cases hb : Nat.beq k k2 with
  | true => rw [hb, cond_true] at hf; cases hf; rw [← Nat.eq_of_beq_eq_true hb]; exact ⟨h, e⟩
  | false => rw [hb, cond_false] at hf; exact t k2 fn2 hf
theorem mix : Try.prog.follows .mixedOrders = true := by rfl
theorem hf85 : Try.prog.funcs[85]? = some Try.f85 := by kernel_rfl
theorem en85 : Proofs.Enters Try.prog 85 := Proofs.enters_of hf85 (by kernel_rfl) rfl
theorem hf29 : Try.prog.funcs[29]? = some Try.f29 := by kernel_rfl
theorem en29 : Proofs.Enters Try.prog 29 := Proofs.enters_of hf29 (by kernel_rfl) rfl
theorem hf74 : Try.prog.funcs[74]? = some Try.f74 := by kernel_rfl
theorem en74 : Proofs.Enters Try.prog 74 := Proofs.enters_of hf74 (by kernel_rfl) rfl
noncomputable def fees_within (F : Nat) (a0 : Int) (a1 : Int) (a2 : Int) : Option (Bool) :=
  some (decide (a0 ≥ a1) && decide (a0 ≤ a2))
noncomputable def s74 (F : Nat) : CS E.G := ⟨74, [.v 0 false, .v 0 false, .v 0 false], [.v 1 false []], fun x => fees_within F x.1 x.2.1 x.2.2.1⟩
noncomputable def cx74 (F : Nat) : Ctx E := ⟨[], [], F, []⟩
noncomputable def h74 : Hint := .n
theorem e74 (F : Nat) (a0 : Int) (a1 : Int) (a2 : Int) : fnK (E := E) (cx74 F) Try.f74 [] [.v 0 false, .v 0 false, .v 0 false] [.v 1 false []] h74 (a0, a1, a2, ()) = fees_within F a0 a1 a2 := by kernel_rfl
theorem c74 (F : Nat) : CSok E [] (s74 F) := ⟨en74, by
  have h := fn_sound (E := E) (gl := []) (cx := cx74 F) mix all0 inl0 rfl (fun _ h => nomatch h) hf74 (ps := [.v 0 false, .v 0 false, .v 0 false]) (rs := [.v 1 false []]) (by decide) h74
  rwa [show fnK (E := E) (cx74 F) Try.f74 [] [.v 0 false, .v 0 false, .v 0 false] [.v 1 false []] h74 = (fun x : AT E.G.car [.v 0 false, .v 0 false, .v 0 false] => fees_within F x.1 x.2.1 x.2.2.1) from funext fun x => e74 F x.1 x.2.1 x.2.2.1] at h⟩
theorem hf106 : Try.prog.funcs[106]? = some Try.f106 := by kernel_rfl
theorem en106 : Proofs.Enters Try.prog 106 := Proofs.enters_of hf106 (by kernel_rfl) rfl
noncomputable def fees_claimed_1 (F : Nat) (a0 : Int) : Option (Bool) :=
  bnd (fees_within F a0 (0 : Int) (1000000000000 : Int)) (fun (x : Bool) => some (!x))
noncomputable def s106 (F : Nat) : CS E.G := ⟨106, [.v 0 false], [.v 1 false []], fun x => fees_claimed_1 F x.1⟩
noncomputable def cx106 (F : Nat) : Ctx E := ⟨[s74 F], [], F, []⟩
noncomputable def h106 : Hint := .n
theorem e106 (F : Nat) (a0 : Int) : fnK (E := E) (cx106 F) Try.f106 [] [.v 0 false] [.v 1 false []] h106 (a0, ()) = fees_claimed_1 F a0 := by kernel_rfl
theorem c106 (F : Nat) : CSok E [] (s106 F) := ⟨en106, by
  have h := fn_sound (E := E) (gl := []) (cx := cx106 F) mix (allC (c74 F) all0) inl0 rfl (fun _ h => nomatch h) hf106 (ps := [.v 0 false]) (rs := [.v 1 false []]) (by decide) h106
  rwa [show fnK (E := E) (cx106 F) Try.f106 [] [.v 0 false] [.v 1 false []] h106 = (fun x : AT E.G.car [.v 0 false] => fees_claimed_1 F x.1) from funext fun x => e106 F x.1] at h⟩
theorem hf67 : Try.prog.funcs[67]? = some Try.f67 := by kernel_rfl
theorem en67 : Proofs.Enters Try.prog 67 := Proofs.enters_of hf67 (by kernel_rfl) rfl
noncomputable def fees_claimed (F : Nat) (a0 : List Int) (a1 : Int) : Option (Int) :=
  bnd (fees_within F (↑a0.length : Int) (1 : Int) (40 : Int)) (fun (x : Bool) => brk (!x) (some ((2 : Int))) (join F (fun (x_1 : Int) => bnd (brk (!decide (x_1 ≥ (0 : Int))) (fees_within F a1 (0 : Int) (1000000000000 : Int)) (some false)) (fun (x_2 : Bool) => brk (decide (x_1 ≥ (0 : Int)) || !x_2) (some ((6 : Int))) (some ((0 : Int))))) (fun x_1 => loopC (fun (x_2 : Int) => fun x_3 => brk (decide (x_2 < (↑a0.length : Int))) (chk ((0 : Int) ≤ x_2 ∧ x_2 < (↑a0.length : Int)) (bnd (fees_claimed_1 F (a0.getD (Int.toNat x_2) (0 : Int))) (fun (x_4 : Bool) => brk (x_4) (x_1 (x_2)) (chk (InR (x_2 + (1 : Int))) (x_3 (x_2 + (1 : Int))))))) (x_1 ((-1 : Int)))) (F) ((0 : Int)))))
noncomputable def s67 (F : Nat) : CS E.G := ⟨67, [.sl 0, .v 0 false], [.v 0 false []], fun x => fees_claimed F x.1 x.2.1⟩
noncomputable def cx67 (F : Nat) : Ctx E := ⟨[s74 F, s106 F], [(29, Try.f29), (85, Try.f85)], F, []⟩
noncomputable def h67 : Hint := (.c .n (.p (.w ⟨[.i], [], [0], [(0, .i IntKind.i64)], [], [], [], 1⟩ (.l ⟨[.i], [0, 16, 112], [0], [(128, .i IntKind.i64)], [], [], [], 1⟩ (.c .n .n)) .n)))
theorem e67 (F : Nat) (a0 : List Int) (a1 : Int) : fnK (E := E) (cx67 F) Try.f67 [] [.sl 0, .v 0 false] [.v 0 false []] h67 (a0, a1, ()) = fees_claimed F a0 a1 := by kernel_rfl
theorem c67 (F : Nat) : CSok E [] (s67 F) := ⟨en67, by
  have h := fn_sound (E := E) (gl := []) (cx := cx67 F) mix (allC (c74 F) (allC (c106 F) all0)) (inlC hf29 en29 (inlC hf85 en85 inl0)) rfl (fun _ h => nomatch h) hf67 (ps := [.sl 0, .v 0 false]) (rs := [.v 0 false []]) (by decide) h67
  rwa [show fnK (E := E) (cx67 F) Try.f67 [] [.sl 0, .v 0 false] [.v 0 false []] h67 = (fun x : AT E.G.car [.sl 0, .v 0 false] => fees_claimed F x.1 x.2.1) from funext fun x => e67 F x.1 x.2.1] at h⟩
theorem hf35 : Try.prog.funcs[35]? = some Try.f35 := by kernel_rfl
theorem en35 : Proofs.Enters Try.prog 35 := Proofs.enters_of hf35 (by kernel_rfl) rfl
noncomputable def slices_Max_int (F : Nat) (a0 : List Int) : Option (Int) :=
  brk (decide ((↑a0.length : Int) < (1 : Int))) (none) (chk ((0 : Int) ≤ (0 : Int) ∧ (0 : Int) < (↑a0.length : Int)) (loopC (fun (x : (Int) × (Int)) => fun x_1 => brk (decide (x.fst < (↑a0.length : Int))) (chk ((0 : Int) ≤ x.fst ∧ x.fst < (↑a0.length : Int)) (chk (InR (x.fst + (1 : Int))) (x_1 ((x.fst + (1 : Int), if a0.getD (Int.toNat x.fst) (0 : Int) > x.snd then a0.getD (Int.toNat x.fst) (0 : Int) else x.snd))))) (some (x.snd))) (F) (((1 : Int), a0.getD (Int.toNat (0 : Int)) (0 : Int)))))
noncomputable def s35 (F : Nat) : CS E.G := ⟨35, [.sl 0], [.v 0 false []], fun x => slices_Max_int F x.1⟩
noncomputable def cx35 (F : Nat) : Ctx E := ⟨[], [], F, []⟩
noncomputable def h35 : Hint := (.c .n (.l ⟨[.i, .i], [0], [0], [(64, .i IntKind.i64), (48, .i IntKind.i64)], [], [], [], 1⟩ .n))
theorem e35 (F : Nat) (a0 : List Int) : fnK (E := E) (cx35 F) Try.f35 [] [.sl 0] [.v 0 false []] h35 (a0, ()) = slices_Max_int F a0 := by kernel_rfl
theorem c35 (F : Nat) : CSok E [] (s35 F) := ⟨en35, by
  have h := fn_sound (E := E) (gl := []) (cx := cx35 F) mix all0 inl0 rfl (fun _ h => nomatch h) hf35 (ps := [.sl 0]) (rs := [.v 0 false []]) (by decide) h35
  rwa [show fnK (E := E) (cx35 F) Try.f35 [] [.sl 0] [.v 0 false []] h35 = (fun x : AT E.G.car [.sl 0] => slices_Max_int F x.1) from funext fun x => e35 F x.1] at h⟩
theorem hf76 : Try.prog.funcs[76]? = some Try.f76 := by kernel_rfl
theorem en76 : Proofs.Enters Try.prog 76 := Proofs.enters_of hf76 (by kernel_rfl) rfl
theorem hf108 : Try.prog.funcs[108]? = some Try.f108 := by kernel_rfl
theorem en108 : Proofs.Enters Try.prog 108 := Proofs.enters_of hf108 (by kernel_rfl) rfl
noncomputable def fees_cut (F : Nat) (a0 : List Int) (a1 : Int) : Option (Int) :=
  loopC (fun (x : (Int) × (Int)) => fun x_1 => brk (decide (x.fst < (↑a0.length : Int))) (chk ((0 : Int) ≤ x.fst ∧ x.fst < (↑a0.length : Int)) (chk (InR (x.snd + if a1 < a0.getD (Int.toNat x.fst) (0 : Int) then a1 else a0.getD (Int.toNat x.fst) (0 : Int))) (chk (InR (x.fst + (1 : Int))) (x_1 ((x.fst + (1 : Int), x.snd + if a1 < a0.getD (Int.toNat x.fst) (0 : Int) then a1 else a0.getD (Int.toNat x.fst) (0 : Int))))))) (some (x.snd))) (F) (((0 : Int), (0 : Int)))
noncomputable def s108 (F : Nat) : CS E.G := ⟨108, [.sl 0, .v 0 false], [.v 0 false []], fun x => fees_cut F x.1 x.2.1⟩
noncomputable def cx108 (F : Nat) : Ctx E := ⟨[], [], F, []⟩
noncomputable def h108 : Hint := (.l ⟨[.i, .i], [16, 128, 144], [0], [(160, .i IntKind.i64), (80, .i IntKind.i64)], [], [], [], 1⟩ .n)
theorem e108 (F : Nat) (a0 : List Int) (a1 : Int) : fnK (E := E) (cx108 F) Try.f108 [] [.sl 0, .v 0 false] [.v 0 false []] h108 (a0, a1, ()) = fees_cut F a0 a1 := by kernel_rfl
theorem c108 (F : Nat) : CSok E [] (s108 F) := ⟨en108, by
  have h := fn_sound (E := E) (gl := []) (cx := cx108 F) mix all0 inl0 rfl (fun _ h => nomatch h) hf108 (ps := [.sl 0, .v 0 false]) (rs := [.v 0 false []]) (by decide) h108
  rwa [show fnK (E := E) (cx108 F) Try.f108 [] [.sl 0, .v 0 false] [.v 0 false []] h108 = (fun x : AT E.G.car [.sl 0, .v 0 false] => fees_cut F x.1 x.2.1) from funext fun x => e108 F x.1 x.2.1] at h⟩
theorem hf107 : Try.prog.funcs[107]? = some Try.f107 := by kernel_rfl
theorem en107 : Proofs.Enters Try.prog 107 := Proofs.enters_of hf107 (by kernel_rfl) rfl
theorem hf68 : Try.prog.funcs[68]? = some Try.f68 := by kernel_rfl
theorem en68 : Proofs.Enters Try.prog 68 := Proofs.enters_of hf68 (by kernel_rfl) rfl
noncomputable def fees_level (F : Nat) (a0 : List Int) (a1 : Int) : Option (Int × Int) :=
  bnd (slices_Max_int F a0) (fun (x : Int) => loopC (fun (x_1 : (Int) × (Int)) => fun x_2 => brk (decide (x_1.snd < x_1.fst)) (chk (InR (x_1.fst - x_1.snd)) (chk (InR (x_1.fst - x_1.snd + (1 : Int))) (chk ((0 : Int) ≤ x_1.fst - x_1.snd + (1 : Int) ∧ x_1.fst - x_1.snd + (1 : Int) ≤ (9223372036854775807 : Int)) (chk (InR (x_1.snd + (x_1.fst - x_1.snd + (1 : Int)) / (2 : Int))) (bnd (fees_cut F a0 (x_1.snd + (x_1.fst - x_1.snd + (1 : Int)) / (2 : Int))) (fun (x_3 : Int) => brk (decide (x_3 ≤ a1)) (x_2 ((x_1.fst, x_1.snd + (x_1.fst - x_1.snd + (1 : Int)) / (2 : Int)))) (chk (InR (x_1.snd + (x_1.fst - x_1.snd + (1 : Int)) / (2 : Int) - (1 : Int))) (x_2 ((x_1.snd + (x_1.fst - x_1.snd + (1 : Int)) / (2 : Int) - (1 : Int), x_1.snd)))))))))) (bnd (fees_cut F a0 x_1.snd) (fun (x_3 : Int) => chk (InR (a1 - x_3)) (some ((x_1.snd, a1 - x_3)))))) (F) ((x, IntKind.i64.wrap ((0 : Int) - (1 : Int)))))
noncomputable def s68 (F : Nat) : CS E.G := ⟨68, [.sl 0, .v 0 false], [.v 0 false [], .v 0 false []], fun x => fees_level F x.1 x.2.1⟩
noncomputable def cx68 (F : Nat) : Ctx E := ⟨[s35 F, s108 F], [(76, Try.f76), (107, Try.f107)], F, []⟩
noncomputable def h68 : Hint := (.p (.l ⟨[.i, .i], [32], [0, 1, 2], [(16, .i IntKind.i64), (112, .i IntKind.i64)], [], [], [], 3⟩ (.c (.p .n) .n)))
theorem e68 (F : Nat) (a0 : List Int) (a1 : Int) : fnK (E := E) (cx68 F) Try.f68 [] [.sl 0, .v 0 false] [.v 0 false [], .v 0 false []] h68 (a0, a1, ()) = fees_level F a0 a1 := by kernel_rfl
theorem c68 (F : Nat) : CSok E [] (s68 F) := ⟨en68, by
  have h := fn_sound (E := E) (gl := []) (cx := cx68 F) mix (allC (c35 F) (allC (c108 F) all0)) (inlC hf76 en76 (inlC hf107 en107 inl0)) rfl (fun _ h => nomatch h) hf68 (ps := [.sl 0, .v 0 false]) (rs := [.v 0 false [], .v 0 false []]) (by decide) h68
  rwa [show fnK (E := E) (cx68 F) Try.f68 [] [.sl 0, .v 0 false] [.v 0 false [], .v 0 false []] h68 = (fun x : AT E.G.car [.sl 0, .v 0 false] => fees_level F x.1 x.2.1) from funext fun x => e68 F x.1 x.2.1] at h⟩
theorem hf71 : Try.prog.funcs[71]? = some Try.f71 := by kernel_rfl
theorem en71 : Proofs.Enters Try.prog 71 := Proofs.enters_of hf71 (by kernel_rfl) rfl
noncomputable def fees_awards (F : Nat) (a0 : List Int) (a1 : Int) : Option ((List Int)) :=
  bnd (fees_level F a0 a1) (fun (x : (Int) × (Int)) => loopC (fun (x_1 : (Int) × ((List (Int)) × (Int))) => fun x_2 => brk (decide (x_1.snd.snd < (↑a0.length : Int))) (chk ((0 : Int) ≤ x_1.snd.snd ∧ x_1.snd.snd < (↑a0.length : Int)) (join F (fun (x_3 : (Int) × (Int)) => chk (List.length x_1.snd.fst + [x_3.snd].length ≤ (1000000 : Nat)) (chk (InR (x_1.snd.snd + (1 : Int))) (x_2 ((x_3.fst, x_1.snd.fst ++ [x_3.snd], x_1.snd.snd + (1 : Int)))))) (fun x_3 => brk (decide (a0.getD (Int.toNat x_1.snd.snd) (0 : Int) > x.fst) && decide (x_1.fst > (0 : Int))) (chk (InR ((if x.fst < a0.getD (Int.toNat x_1.snd.snd) (0 : Int) then x.fst else a0.getD (Int.toNat x_1.snd.snd) (0 : Int)) + (1 : Int))) (chk (InR (x_1.fst - (1 : Int))) (x_3 ((x_1.fst - (1 : Int), (if x.fst < a0.getD (Int.toNat x_1.snd.snd) (0 : Int) then x.fst else a0.getD (Int.toNat x_1.snd.snd) (0 : Int)) + (1 : Int)))))) (x_3 ((x_1.fst, if x.fst < a0.getD (Int.toNat x_1.snd.snd) (0 : Int) then x.fst else a0.getD (Int.toNat x_1.snd.snd) (0 : Int))))))) (some (x_1.snd.fst))) (F) ((x.snd, [], (0 : Int))))
noncomputable def s71 (F : Nat) : CS E.G := ⟨71, [.sl 0, .v 0 false], [.sl 0 3], fun x => fees_awards F x.1 x.2.1⟩
noncomputable def cx71 (F : Nat) : Ctx E := ⟨[s68 F], [], F, []⟩
noncomputable def h71 : Hint := (.l ⟨[.i, .l 0, .i], [288, 80, 272], [0], [(96, .i IntKind.i64), (112, .h 1 3 0), (304, .i IntKind.i64)], [], [], [], 2⟩ (.c (.k (.k (.k (.j ⟨[.i, .i], [288, 80, 272, 112, 304], [0, 1], [(96, .i IntKind.i64), (160, .i IntKind.i64)], [], [], [], 2⟩ .n .n)))) .n))
theorem e71 (F : Nat) (a0 : List Int) (a1 : Int) : fnK (E := E) (cx71 F) Try.f71 [] [.sl 0, .v 0 false] [.sl 0 3] h71 (a0, a1, ()) = fees_awards F a0 a1 := by kernel_rfl
theorem c71 (F : Nat) : CSok E [] (s71 F) := ⟨en71, by
  have h := fn_sound (E := E) (gl := []) (cx := cx71 F) mix (allC (c68 F) all0) inl0 rfl (fun _ h => nomatch h) hf71 (ps := [.sl 0, .v 0 false]) (rs := [.sl 0 3]) (by decide) h71
  rwa [show fnK (E := E) (cx71 F) Try.f71 [] [.sl 0, .v 0 false] [.sl 0 3] h71 = (fun x : AT E.G.car [.sl 0, .v 0 false] => fees_awards F x.1 x.2.1) from funext fun x => e71 F x.1 x.2.1] at h⟩
theorem hf17 : Try.prog.funcs[17]? = some Try.f17 := by kernel_rfl
theorem en17 : Proofs.Enters Try.prog 17 := Proofs.enters_of hf17 (by kernel_rfl) rfl
noncomputable def fees_Awards (F : Nat) (a0 : List Int) (a1 : Int) : Option ((List Int) × Int) :=
  bnd (fees_claimed F a0 a1) (fun (x : Int) => brk (x != (0 : Int)) (some (([], x))) (bnd (fees_awards F a0 a1) (fun (x_1 : List (Int)) => some ((x_1, (0 : Int))))))
noncomputable def s17 (F : Nat) : CS E.G := ⟨17, [.sl 0, .v 0 false], [.sl 0 3, .v 0 false []], fun x => fees_Awards F x.1 x.2.1⟩
noncomputable def cx17 (F : Nat) : Ctx E := ⟨[s67 F, s71 F], [], F, []⟩
noncomputable def h17 : Hint := .n
theorem e17 (F : Nat) (a0 : List Int) (a1 : Int) : fnK (E := E) (cx17 F) Try.f17 [] [.sl 0, .v 0 false] [.sl 0 3, .v 0 false []] h17 (a0, a1, ()) = fees_Awards F a0 a1 := by kernel_rfl
theorem c17 (F : Nat) : CSok E [] (s17 F) := ⟨en17, by
  have h := fn_sound (E := E) (gl := []) (cx := cx17 F) mix (allC (c67 F) (allC (c71 F) all0)) inl0 rfl (fun _ h => nomatch h) hf17 (ps := [.sl 0, .v 0 false]) (rs := [.sl 0 3, .v 0 false []]) (by decide) h17
  rwa [show fnK (E := E) (cx17 F) Try.f17 [] [.sl 0, .v 0 false] [.sl 0 3, .v 0 false []] h17 = (fun x : AT E.G.car [.sl 0, .v 0 false] => fees_Awards F x.1 x.2.1) from funext fun x => e17 F x.1 x.2.1] at h⟩
theorem hf102 : Try.prog.funcs[102]? = some Try.f102 := by kernel_rfl
theorem en102 : Proofs.Enters Try.prog 102 := Proofs.enters_of hf102 (by kernel_rfl) rfl
noncomputable def fees_Check_1 (F : Nat) (a0 : Int) : Option (Bool) :=
  bnd (fees_within F a0 (0 : Int) (1000000 : Int)) (fun (x : Bool) => some (!x))
noncomputable def s102 (F : Nat) : CS E.G := ⟨102, [.v 0 false], [.v 1 false []], fun x => fees_Check_1 F x.1⟩
noncomputable def cx102 (F : Nat) : Ctx E := ⟨[s74 F], [], F, []⟩
noncomputable def h102 : Hint := .n
theorem e102 (F : Nat) (a0 : Int) : fnK (E := E) (cx102 F) Try.f102 [] [.v 0 false] [.v 1 false []] h102 (a0, ()) = fees_Check_1 F a0 := by kernel_rfl
theorem c102 (F : Nat) : CSok E [] (s102 F) := ⟨en102, by
  have h := fn_sound (E := E) (gl := []) (cx := cx102 F) mix (allC (c74 F) all0) inl0 rfl (fun _ h => nomatch h) hf102 (ps := [.v 0 false]) (rs := [.v 1 false []]) (by decide) h102
  rwa [show fnK (E := E) (cx102 F) Try.f102 [] [.v 0 false] [.v 1 false []] h102 = (fun x : AT E.G.car [.v 0 false] => fees_Check_1 F x.1) from funext fun x => e102 F x.1] at h⟩
theorem hf55 : Try.prog.funcs[55]? = some Try.f55 := by kernel_rfl
theorem en55 : Proofs.Enters Try.prog 55 := Proofs.enters_of hf55 (by kernel_rfl) rfl
noncomputable def fees_Check (F : Nat) (a0 : Tariff) : Option (Int) :=
  bnd (fees_within F (↑a0.Bands.length : Int) (1 : Int) (8 : Int)) (fun (x : Bool) => brk (!x) (some ((2 : Int))) (loopC (fun (x_1 : (Int) × (Int)) => fun x_2 => brk (decide (x_1.fst < (↑a0.Bands.length : Int))) (chk ((0 : Int) ≤ x_1.fst ∧ x_1.fst < (↑a0.Bands.length : Int)) (chk (InR (x_1.snd + (1 : Int))) (bnd (fees_within F (a0.Bands.getD (Int.toNat x_1.fst) (Band.mk (0 : Int) (0 : Int))).Upto (x_1.snd + (1 : Int)) (500000 : Int)) (fun (x_3 : Bool) => bnd (brk (!!x_3) (fees_within F (a0.Bands.getD (Int.toNat x_1.fst) (Band.mk (0 : Int) (0 : Int))).Rate (0 : Int) (1000 : Int)) (some false)) (fun (x_4 : Bool) => brk (!x_3 || !x_4) (some ((130 : Int))) (chk (InR (x_1.fst + (1 : Int))) (x_2 ((x_1.fst + (1 : Int), (a0.Bands.getD (Int.toNat x_1.fst) (Band.mk (0 : Int) (0 : Int))).Upto))))))))) (loopC (fun (x_3 : (Int) × (Int)) => fun x_4 => brk (decide (x_3.snd < (7 : Int))) (chk ((0 : Int) ≤ x_3.snd ∧ x_3.snd < (↑(7 : Nat) : Int)) (bnd (fees_within F ([a0.Class.a0, a0.Class.a1, a0.Class.a2, a0.Class.a3, a0.Class.a4, a0.Class.a5, a0.Class.a6].getD (Int.toNat x_3.snd) (0 : Int)) (0 : Int) x_3.fst) (fun (x_5 : Bool) => brk (!x_5) (some ((130 : Int))) (chk (InR (x_3.snd + (1 : Int))) (x_4 (([a0.Class.a0, a0.Class.a1, a0.Class.a2, a0.Class.a3, a0.Class.a4, a0.Class.a5, a0.Class.a6].getD (Int.toNat x_3.snd) (0 : Int), x_3.snd + (1 : Int)))))))) (brk (x_1.snd != (500000 : Int)) (some ((130 : Int))) (bnd (fees_within F a0.Most (0 : Int) (1000000000 : Int)) (fun (x_5 : Bool) => brk (!x_5) (some ((130 : Int))) (bnd (fees_within F a0.Least (0 : Int) a0.Most) (fun (x_6 : Bool) => brk (!x_6) (some ((130 : Int))) (bnd (fees_within F a0.Paid (1 : Int) (1000 : Int)) (fun (x_7 : Bool) => brk (!x_7) (some ((130 : Int))) (bnd (fees_within F a0.Mile (0 : Int) (100000 : Int)) (fun (x_8 : Bool) => brk (!x_8) (some ((130 : Int))) (join F (fun (x_9 : Int) => brk (decide (x_9 ≥ (0 : Int))) (some ((130 : Int))) (some ((0 : Int)))) (fun x_9 => loopC (fun (x_10 : Int) => fun x_11 => brk (decide (x_10 < (↑[a0.Escort, a0.Cut, a0.Tow].length : Int))) (chk ((0 : Int) ≤ x_10 ∧ x_10 < (↑[a0.Escort, a0.Cut, a0.Tow].length : Int)) (bnd (fees_Check_1 F ([a0.Escort, a0.Cut, a0.Tow].getD (Int.toNat x_10) (0 : Int))) (fun (x_12 : Bool) => brk (x_12) (x_9 (x_10)) (chk (InR (x_10 + (1 : Int))) (x_11 (x_10 + (1 : Int))))))) (x_9 ((-1 : Int)))) (F) ((0 : Int)))))))))))))) (F) (((300 : Int), (0 : Int))))) (F) (((0 : Int), (0 : Int)))))
noncomputable def s55 (F : Nat) : CS E.G := ⟨55, [.v 13 true], [.v 0 false []], fun x => fees_Check F x.1⟩
noncomputable def cx55 (F : Nat) : Ctx E := ⟨[s74 F, s102 F], [(29, Try.f29), (85, Try.f85)], F, []⟩
noncomputable def h55 : Hint := (.c .n (.l ⟨[.i, .i], [16, 256, 272], [1, 0], [(288, .i IntKind.i64), (48, .i IntKind.i64)], [], [], [], 2⟩ (.c .n (.l ⟨[.i, .i], [16, 608, 48], [1, 0], [(96, .i IntKind.i64), (624, .i IntKind.i64)], [], [], [], 2⟩ (.c .n (.s .n (.s .n (.s .n (.s .n (.s .n (.p (.w ⟨[.i], [], [2], [(0, .i IntKind.i64)], [], [], [], 3⟩ (.l ⟨[.i], [0, 16, 112], [2], [(128, .i IntKind.i64)], [], [], [], 3⟩ (.c .n .n)) .n))))))))))))
theorem e55 (F : Nat) (a0 : Tariff) : fnK (E := E) (cx55 F) Try.f55 [] [.v 13 true] [.v 0 false []] h55 (a0, ()) = fees_Check F a0 := by kernel_rfl
theorem c55 (F : Nat) : CSok E [] (s55 F) := ⟨en55, by
  have h := fn_sound (E := E) (gl := []) (cx := cx55 F) mix (allC (c74 F) (allC (c102 F) all0)) (inlC hf29 en29 (inlC hf85 en85 inl0)) rfl (fun _ h => nomatch h) hf55 (ps := [.v 13 true]) (rs := [.v 0 false []]) (by decide) h55
  rwa [show fnK (E := E) (cx55 F) Try.f55 [] [.v 13 true] [.v 0 false []] h55 = (fun x : AT E.G.car [.v 13 true] => fees_Check F x.1) from funext fun x => e55 F x.1] at h⟩
theorem hf75 : Try.prog.funcs[75]? = some Try.f75 := by kernel_rfl
theorem en75 : Proofs.Enters Try.prog 75 := Proofs.enters_of hf75 (by kernel_rfl) rfl
noncomputable def fees_Tariff_dues (F : Nat) (a0 : Tariff) (a1 : Int) (a2 : Int) : Option (Int) :=
  loopC (fun (x : (Int) × ((Int) × (Int))) => fun x_1 => brk (decide (x.snd.fst < (↑a0.Bands.length : Int))) (chk ((0 : Int) ≤ x.snd.fst ∧ x.snd.fst < (↑a0.Bands.length : Int)) (chk (InR ((if (a0.Bands.getD (Int.toNat x.snd.fst) (Band.mk (0 : Int) (0 : Int))).Upto < a2 then (a0.Bands.getD (Int.toNat x.snd.fst) (Band.mk (0 : Int) (0 : Int))).Upto else a2) - x.fst)) (chk (InR ((a0.Bands.getD (Int.toNat x.snd.fst) (Band.mk (0 : Int) (0 : Int))).Rate * if (if (a0.Bands.getD (Int.toNat x.snd.fst) (Band.mk (0 : Int) (0 : Int))).Upto < a2 then (a0.Bands.getD (Int.toNat x.snd.fst) (Band.mk (0 : Int) (0 : Int))).Upto else a2) - x.fst > (0 : Int) then (if (a0.Bands.getD (Int.toNat x.snd.fst) (Band.mk (0 : Int) (0 : Int))).Upto < a2 then (a0.Bands.getD (Int.toNat x.snd.fst) (Band.mk (0 : Int) (0 : Int))).Upto else a2) - x.fst else (0 : Int))) (chk (InR (x.snd.snd + (a0.Bands.getD (Int.toNat x.snd.fst) (Band.mk (0 : Int) (0 : Int))).Rate * if (if (a0.Bands.getD (Int.toNat x.snd.fst) (Band.mk (0 : Int) (0 : Int))).Upto < a2 then (a0.Bands.getD (Int.toNat x.snd.fst) (Band.mk (0 : Int) (0 : Int))).Upto else a2) - x.fst > (0 : Int) then (if (a0.Bands.getD (Int.toNat x.snd.fst) (Band.mk (0 : Int) (0 : Int))).Upto < a2 then (a0.Bands.getD (Int.toNat x.snd.fst) (Band.mk (0 : Int) (0 : Int))).Upto else a2) - x.fst else (0 : Int))) (chk (InR (x.snd.fst + (1 : Int))) (x_1 (((a0.Bands.getD (Int.toNat x.snd.fst) (Band.mk (0 : Int) (0 : Int))).Upto, x.snd.fst + (1 : Int), x.snd.snd + (a0.Bands.getD (Int.toNat x.snd.fst) (Band.mk (0 : Int) (0 : Int))).Rate * if (if (a0.Bands.getD (Int.toNat x.snd.fst) (Band.mk (0 : Int) (0 : Int))).Upto < a2 then (a0.Bands.getD (Int.toNat x.snd.fst) (Band.mk (0 : Int) (0 : Int))).Upto else a2) - x.fst > (0 : Int) then (if (a0.Bands.getD (Int.toNat x.snd.fst) (Band.mk (0 : Int) (0 : Int))).Upto < a2 then (a0.Bands.getD (Int.toNat x.snd.fst) (Band.mk (0 : Int) (0 : Int))).Upto else a2) - x.fst else (0 : Int))))))))) (chk ((0 : Int) ≤ a1 ∧ a1 < (↑(7 : Nat) : Int)) (chk (InR (x.snd.snd * [a0.Class.a0, a0.Class.a1, a0.Class.a2, a0.Class.a3, a0.Class.a4, a0.Class.a5, a0.Class.a6].getD a1.toNat (0 : Int))) (chk (InR (x.snd.snd * [a0.Class.a0, a0.Class.a1, a0.Class.a2, a0.Class.a3, a0.Class.a4, a0.Class.a5, a0.Class.a6].getD a1.toNat (0 : Int) + (50 : Int))) (chk ((0 : Int) ≤ x.snd.snd * [a0.Class.a0, a0.Class.a1, a0.Class.a2, a0.Class.a3, a0.Class.a4, a0.Class.a5, a0.Class.a6].getD a1.toNat (0 : Int) + (50 : Int) ∧ x.snd.snd * [a0.Class.a0, a0.Class.a1, a0.Class.a2, a0.Class.a3, a0.Class.a4, a0.Class.a5, a0.Class.a6].getD a1.toNat (0 : Int) + (50 : Int) ≤ (9223372036854775807 : Int)) (some (if (if (x.snd.snd * [a0.Class.a0, a0.Class.a1, a0.Class.a2, a0.Class.a3, a0.Class.a4, a0.Class.a5, a0.Class.a6].getD a1.toNat (0 : Int) + (50 : Int)) / (100 : Int) > a0.Least then (x.snd.snd * [a0.Class.a0, a0.Class.a1, a0.Class.a2, a0.Class.a3, a0.Class.a4, a0.Class.a5, a0.Class.a6].getD a1.toNat (0 : Int) + (50 : Int)) / (100 : Int) else a0.Least) < a0.Most then if (x.snd.snd * [a0.Class.a0, a0.Class.a1, a0.Class.a2, a0.Class.a3, a0.Class.a4, a0.Class.a5, a0.Class.a6].getD a1.toNat (0 : Int) + (50 : Int)) / (100 : Int) > a0.Least then (x.snd.snd * [a0.Class.a0, a0.Class.a1, a0.Class.a2, a0.Class.a3, a0.Class.a4, a0.Class.a5, a0.Class.a6].getD a1.toNat (0 : Int) + (50 : Int)) / (100 : Int) else a0.Least else a0.Most))))))) (F) (((0 : Int), (0 : Int), (0 : Int)))
noncomputable def s75 (F : Nat) : CS E.G := ⟨75, [.ptr 13, .v 0 false, .v 0 false], [.v 0 false []], fun x => fees_Tariff_dues F x.1 x.2.1 x.2.2.1⟩
noncomputable def cx75 (F : Nat) : Ctx E := ⟨[], [], F, []⟩
noncomputable def h75 : Hint := (.l ⟨[.i, .i, .i], [0, 16, 32, 224, 240], [0, 1], [(128, .i IntKind.i64), (256, .i IntKind.i64), (112, .i IntKind.i64)], [], [], [], 2⟩ .n)
theorem e75 (F : Nat) (a0 : Tariff) (a1 : Int) (a2 : Int) : fnK (E := E) (cx75 F) Try.f75 [] [.ptr 13, .v 0 false, .v 0 false] [.v 0 false []] h75 (a0, a1, a2, ()) = fees_Tariff_dues F a0 a1 a2 := by kernel_rfl
theorem c75 (F : Nat) : CSok E [] (s75 F) := ⟨en75, by
  have h := fn_sound (E := E) (gl := []) (cx := cx75 F) mix all0 inl0 rfl (fun _ h => nomatch h) hf75 (ps := [.ptr 13, .v 0 false, .v 0 false]) (rs := [.v 0 false []]) (by decide) h75
  rwa [show fnK (E := E) (cx75 F) Try.f75 [] [.ptr 13, .v 0 false, .v 0 false] [.v 0 false []] h75 = (fun x : AT E.G.car [.ptr 13, .v 0 false, .v 0 false] => fees_Tariff_dues F x.1 x.2.1 x.2.2.1) from funext fun x => e75 F x.1 x.2.1 x.2.2.1] at h⟩
theorem hf22 : Try.prog.funcs[22]? = some Try.f22 := by kernel_rfl
theorem en22 : Proofs.Enters Try.prog 22 := Proofs.enters_of hf22 (by kernel_rfl) rfl
noncomputable def fees_Dues (F : Nat) (a0 : Tariff) (a1 : Int) (a2 : Int) : Option (Int × Int) :=
  bnd (fees_Check F (Tariff.mk (a0.Bands) (A7ofInt.mk a0.Class.a0 a0.Class.a1 a0.Class.a2 a0.Class.a3 a0.Class.a4 a0.Class.a5 a0.Class.a6) a0.Least a0.Most a0.Paid a0.Mile a0.Escort a0.Cut a0.Tow)) (fun (x : Int) => brk (x != (0 : Int)) (some (((0 : Int), x))) (bnd (fees_within F a1 (0 : Int) (6 : Int)) (fun (x_1 : Bool) => bnd (brk (!!x_1) (fees_within F a2 (1 : Int) (500000 : Int)) (some false)) (fun (x_2 : Bool) => brk (!x_1 || !x_2) (some (((0 : Int), (1 : Int)))) (bnd (fees_Tariff_dues F (Tariff.mk (a0.Bands) (A7ofInt.mk a0.Class.a0 a0.Class.a1 a0.Class.a2 a0.Class.a3 a0.Class.a4 a0.Class.a5 a0.Class.a6) a0.Least a0.Most a0.Paid a0.Mile a0.Escort a0.Cut a0.Tow) a1 a2) (fun (x_3 : Int) => some ((x_3, (0 : Int)))))))))
noncomputable def s22 (F : Nat) : CS E.G := ⟨22, [.v 13 true, .v 0 false, .v 0 false], [.v 0 false [], .v 0 false []], fun x => fees_Dues F x.1 x.2.1 x.2.2.1⟩
noncomputable def cx22 (F : Nat) : Ctx E := ⟨[s55 F, s74 F, s75 F], [], F, []⟩
noncomputable def h22 : Hint := (.c .n .n)
theorem e22 (F : Nat) (a0 : Tariff) (a1 : Int) (a2 : Int) : fnK (E := E) (cx22 F) Try.f22 [] [.v 13 true, .v 0 false, .v 0 false] [.v 0 false [], .v 0 false []] h22 (a0, a1, a2, ()) = fees_Dues F a0 a1 a2 := by kernel_rfl
theorem c22 (F : Nat) : CSok E [] (s22 F) := ⟨en22, by
  have h := fn_sound (E := E) (gl := []) (cx := cx22 F) mix (allC (c55 F) (allC (c74 F) (allC (c75 F) all0))) inl0 rfl (fun _ h => nomatch h) hf22 (ps := [.v 13 true, .v 0 false, .v 0 false]) (rs := [.v 0 false [], .v 0 false []]) (by decide) h22
  rwa [show fnK (E := E) (cx22 F) Try.f22 [] [.v 13 true, .v 0 false, .v 0 false] [.v 0 false [], .v 0 false []] h22 = (fun x : AT E.G.car [.v 13 true, .v 0 false, .v 0 false] => fees_Dues F x.1 x.2.1 x.2.2.1) from funext fun x => e22 F x.1 x.2.1 x.2.2.1] at h⟩
theorem hf109 : Try.prog.funcs[109]? = some Try.f109 := by kernel_rfl
theorem en109 : Proofs.Enters Try.prog 109 := Proofs.enters_of hf109 (by kernel_rfl) rfl
noncomputable def fees_Voyage_right_1 (F : Nat) (a0 : Int) : Option (Bool) :=
  bnd (fees_within F a0 (0 : Int) (1000 : Int)) (fun (x : Bool) => some (!x))
noncomputable def s109 (F : Nat) : CS E.G := ⟨109, [.v 0 false], [.v 1 false []], fun x => fees_Voyage_right_1 F x.1⟩
noncomputable def cx109 (F : Nat) : Ctx E := ⟨[s74 F], [], F, []⟩
noncomputable def h109 : Hint := .n
theorem e109 (F : Nat) (a0 : Int) : fnK (E := E) (cx109 F) Try.f109 [] [.v 0 false] [.v 1 false []] h109 (a0, ()) = fees_Voyage_right_1 F a0 := by kernel_rfl
theorem c109 (F : Nat) : CSok E [] (s109 F) := ⟨en109, by
  have h := fn_sound (E := E) (gl := []) (cx := cx109 F) mix (allC (c74 F) all0) inl0 rfl (fun _ h => nomatch h) hf109 (ps := [.v 0 false]) (rs := [.v 1 false []]) (by decide) h109
  rwa [show fnK (E := E) (cx109 F) Try.f109 [] [.v 0 false] [.v 1 false []] h109 = (fun x : AT E.G.car [.v 0 false] => fees_Voyage_right_1 F x.1) from funext fun x => e109 F x.1] at h⟩
theorem hf78 : Try.prog.funcs[78]? = some Try.f78 := by kernel_rfl
theorem en78 : Proofs.Enters Try.prog 78 := Proofs.enters_of hf78 (by kernel_rfl) rfl
noncomputable def fees_Voyage_right (F : Nat) (a0 : Voyage) : Option (Bool) :=
  bnd (fees_within F a0.Ship (0 : Int) (1000000 : Int)) (fun (x : Bool) => brk (x) (bnd (fees_within F a0.Class (0 : Int) (6 : Int)) (fun (x_1 : Bool) => brk (x_1) (bnd (fees_within F a0.Tonnes (1 : Int) (500000 : Int)) (fun (x_2 : Bool) => brk (x_2) (bnd (fees_within F a0.Tenths (0 : Int) (100000 : Int)) (fun (x_3 : Bool) => brk (x_3) (join F (fun (x_4 : Int) => some (!decide (x_4 ≥ (0 : Int)))) (fun x_4 => loopC (fun (x_5 : Int) => fun x_6 => brk (decide (x_5 < (↑[a0.Escort, a0.Cut, a0.Tow].length : Int))) (chk ((0 : Int) ≤ x_5 ∧ x_5 < (↑[a0.Escort, a0.Cut, a0.Tow].length : Int)) (bnd (fees_Voyage_right_1 F ([a0.Escort, a0.Cut, a0.Tow].getD (Int.toNat x_5) (0 : Int))) (fun (x_7 : Bool) => brk (x_7) (x_4 (x_5)) (chk (InR (x_5 + (1 : Int))) (x_6 (x_5 + (1 : Int))))))) (x_4 ((-1 : Int)))) (F) ((0 : Int)))) (some (false)))) (some (false)))) (some (false)))) (some (false)))
noncomputable def s78 (F : Nat) : CS E.G := ⟨78, [.v 14 true], [.v 1 false []], fun x => fees_Voyage_right F x.1⟩
noncomputable def cx78 (F : Nat) : Ctx E := ⟨[s74 F, s109 F], [(29, Try.f29), (85, Try.f85)], F, []⟩
noncomputable def h78 : Hint := (.s (.s (.s (.s (.p (.w ⟨[.i], [], [1], [(0, .i IntKind.i64)], [], [], [], 2⟩ (.l ⟨[.i], [0, 16, 112], [1], [(128, .i IntKind.i64)], [], [], [], 2⟩ (.c .n .n)) .n)) .n) .n) .n) .n)
theorem e78 (F : Nat) (a0 : Voyage) : fnK (E := E) (cx78 F) Try.f78 [] [.v 14 true] [.v 1 false []] h78 (a0, ()) = fees_Voyage_right F a0 := by kernel_rfl
theorem c78 (F : Nat) : CSok E [] (s78 F) := ⟨en78, by
  have h := fn_sound (E := E) (gl := []) (cx := cx78 F) mix (allC (c74 F) (allC (c109 F) all0)) (inlC hf29 en29 (inlC hf85 en85 inl0)) rfl (fun _ h => nomatch h) hf78 (ps := [.v 14 true]) (rs := [.v 1 false []]) (by decide) h78
  rwa [show fnK (E := E) (cx78 F) Try.f78 [] [.v 14 true] [.v 1 false []] h78 = (fun x : AT E.G.car [.v 14 true] => fees_Voyage_right F x.1) from funext fun x => e78 F x.1] at h⟩
theorem hf110 : Try.prog.funcs[110]? = some Try.f110 := by kernel_rfl
theorem en110 : Proofs.Enters Try.prog 110 := Proofs.enters_of hf110 (by kernel_rfl) rfl
noncomputable def fees_account (F : Nat) (a0 : List Int) : Option (Account) :=
  brk (decide ((0 : Int) < (↑a0.length : Int))) (chk ((0 : Int) ≤ (0 : Int) ∧ (0 : Int) < (↑a0.length : Int)) (chk (InR ((0 : Int) + a0.getD (Int.toNat (0 : Int)) (0 : Int))) (brk (decide (IntKind.i64.wrap ((0 : Int) + (1 : Int)) < (↑a0.length : Int))) (chk ((0 : Int) ≤ IntKind.i64.wrap ((0 : Int) + (1 : Int)) ∧ IntKind.i64.wrap ((0 : Int) + (1 : Int)) < (↑a0.length : Int)) (chk (InR ((0 : Int) + a0.getD (Int.toNat (0 : Int)) (0 : Int) + a0.getD (IntKind.i64.wrap ((0 : Int) + (1 : Int))).toNat (0 : Int))) (brk (decide (IntKind.i64.wrap (IntKind.i64.wrap ((0 : Int) + (1 : Int)) + (1 : Int)) < (↑a0.length : Int))) (chk ((0 : Int) ≤ IntKind.i64.wrap (IntKind.i64.wrap ((0 : Int) + (1 : Int)) + (1 : Int)) ∧ IntKind.i64.wrap (IntKind.i64.wrap ((0 : Int) + (1 : Int)) + (1 : Int)) < (↑a0.length : Int)) (chk (InR ((0 : Int) + a0.getD (Int.toNat (0 : Int)) (0 : Int) + a0.getD (IntKind.i64.wrap ((0 : Int) + (1 : Int))).toNat (0 : Int) + a0.getD (IntKind.i64.wrap (IntKind.i64.wrap ((0 : Int) + (1 : Int)) + (1 : Int))).toNat (0 : Int))) (brk (decide (IntKind.i64.wrap (IntKind.i64.wrap (IntKind.i64.wrap ((0 : Int) + (1 : Int)) + (1 : Int)) + (1 : Int)) < (↑a0.length : Int))) (chk ((0 : Int) ≤ IntKind.i64.wrap (IntKind.i64.wrap (IntKind.i64.wrap ((0 : Int) + (1 : Int)) + (1 : Int)) + (1 : Int)) ∧ IntKind.i64.wrap (IntKind.i64.wrap (IntKind.i64.wrap ((0 : Int) + (1 : Int)) + (1 : Int)) + (1 : Int)) < (↑a0.length : Int)) (chk (InR ((0 : Int) + a0.getD (Int.toNat (0 : Int)) (0 : Int) + a0.getD (IntKind.i64.wrap ((0 : Int) + (1 : Int))).toNat (0 : Int) + a0.getD (IntKind.i64.wrap (IntKind.i64.wrap ((0 : Int) + (1 : Int)) + (1 : Int))).toNat (0 : Int) + a0.getD (IntKind.i64.wrap (IntKind.i64.wrap (IntKind.i64.wrap ((0 : Int) + (1 : Int)) + (1 : Int)) + (1 : Int))).toNat (0 : Int))) (brk (decide (IntKind.i64.wrap (IntKind.i64.wrap (IntKind.i64.wrap (IntKind.i64.wrap ((0 : Int) + (1 : Int)) + (1 : Int)) + (1 : Int)) + (1 : Int)) < (↑a0.length : Int))) (chk ((0 : Int) ≤ IntKind.i64.wrap (IntKind.i64.wrap (IntKind.i64.wrap (IntKind.i64.wrap ((0 : Int) + (1 : Int)) + (1 : Int)) + (1 : Int)) + (1 : Int)) ∧ IntKind.i64.wrap (IntKind.i64.wrap (IntKind.i64.wrap (IntKind.i64.wrap ((0 : Int) + (1 : Int)) + (1 : Int)) + (1 : Int)) + (1 : Int)) < (↑a0.length : Int)) (chk (InR ((0 : Int) + a0.getD (Int.toNat (0 : Int)) (0 : Int) + a0.getD (IntKind.i64.wrap ((0 : Int) + (1 : Int))).toNat (0 : Int) + a0.getD (IntKind.i64.wrap (IntKind.i64.wrap ((0 : Int) + (1 : Int)) + (1 : Int))).toNat (0 : Int) + a0.getD (IntKind.i64.wrap (IntKind.i64.wrap (IntKind.i64.wrap ((0 : Int) + (1 : Int)) + (1 : Int)) + (1 : Int))).toNat (0 : Int) + a0.getD (IntKind.i64.wrap (IntKind.i64.wrap (IntKind.i64.wrap (IntKind.i64.wrap ((0 : Int) + (1 : Int)) + (1 : Int)) + (1 : Int)) + (1 : Int))).toNat (0 : Int))) (brk (decide (IntKind.i64.wrap (IntKind.i64.wrap (IntKind.i64.wrap (IntKind.i64.wrap (IntKind.i64.wrap ((0 : Int) + (1 : Int)) + (1 : Int)) + (1 : Int)) + (1 : Int)) + (1 : Int)) < (↑a0.length : Int))) (chk ((0 : Int) ≤ IntKind.i64.wrap (IntKind.i64.wrap (IntKind.i64.wrap (IntKind.i64.wrap (IntKind.i64.wrap ((0 : Int) + (1 : Int)) + (1 : Int)) + (1 : Int)) + (1 : Int)) + (1 : Int)) ∧ IntKind.i64.wrap (IntKind.i64.wrap (IntKind.i64.wrap (IntKind.i64.wrap (IntKind.i64.wrap ((0 : Int) + (1 : Int)) + (1 : Int)) + (1 : Int)) + (1 : Int)) + (1 : Int)) < (↑a0.length : Int)) (none)) (some (Account.mk (A5ofInt.mk (a0.getD (Int.toNat (0 : Int)) (0 : Int)) (a0.getD (IntKind.i64.wrap ((0 : Int) + (1 : Int))).toNat (0 : Int)) (a0.getD (IntKind.i64.wrap (IntKind.i64.wrap ((0 : Int) + (1 : Int)) + (1 : Int))).toNat (0 : Int)) (a0.getD (IntKind.i64.wrap (IntKind.i64.wrap (IntKind.i64.wrap ((0 : Int) + (1 : Int)) + (1 : Int)) + (1 : Int))).toNat (0 : Int)) (a0.getD (IntKind.i64.wrap (IntKind.i64.wrap (IntKind.i64.wrap (IntKind.i64.wrap ((0 : Int) + (1 : Int)) + (1 : Int)) + (1 : Int)) + (1 : Int))).toNat (0 : Int))) ((0 : Int) + a0.getD (Int.toNat (0 : Int)) (0 : Int) + a0.getD (IntKind.i64.wrap ((0 : Int) + (1 : Int))).toNat (0 : Int) + a0.getD (IntKind.i64.wrap (IntKind.i64.wrap ((0 : Int) + (1 : Int)) + (1 : Int))).toNat (0 : Int) + a0.getD (IntKind.i64.wrap (IntKind.i64.wrap (IntKind.i64.wrap ((0 : Int) + (1 : Int)) + (1 : Int)) + (1 : Int))).toNat (0 : Int) + a0.getD (IntKind.i64.wrap (IntKind.i64.wrap (IntKind.i64.wrap (IntKind.i64.wrap ((0 : Int) + (1 : Int)) + (1 : Int)) + (1 : Int)) + (1 : Int))).toNat (0 : Int))))))) (some (Account.mk (A5ofInt.mk (a0.getD (Int.toNat (0 : Int)) (0 : Int)) (a0.getD (IntKind.i64.wrap ((0 : Int) + (1 : Int))).toNat (0 : Int)) (a0.getD (IntKind.i64.wrap (IntKind.i64.wrap ((0 : Int) + (1 : Int)) + (1 : Int))).toNat (0 : Int)) (a0.getD (IntKind.i64.wrap (IntKind.i64.wrap (IntKind.i64.wrap ((0 : Int) + (1 : Int)) + (1 : Int)) + (1 : Int))).toNat (0 : Int)) (0 : Int)) ((0 : Int) + a0.getD (Int.toNat (0 : Int)) (0 : Int) + a0.getD (IntKind.i64.wrap ((0 : Int) + (1 : Int))).toNat (0 : Int) + a0.getD (IntKind.i64.wrap (IntKind.i64.wrap ((0 : Int) + (1 : Int)) + (1 : Int))).toNat (0 : Int) + a0.getD (IntKind.i64.wrap (IntKind.i64.wrap (IntKind.i64.wrap ((0 : Int) + (1 : Int)) + (1 : Int)) + (1 : Int))).toNat (0 : Int))))))) (some (Account.mk (A5ofInt.mk (a0.getD (Int.toNat (0 : Int)) (0 : Int)) (a0.getD (IntKind.i64.wrap ((0 : Int) + (1 : Int))).toNat (0 : Int)) (a0.getD (IntKind.i64.wrap (IntKind.i64.wrap ((0 : Int) + (1 : Int)) + (1 : Int))).toNat (0 : Int)) (0 : Int) (0 : Int)) ((0 : Int) + a0.getD (Int.toNat (0 : Int)) (0 : Int) + a0.getD (IntKind.i64.wrap ((0 : Int) + (1 : Int))).toNat (0 : Int) + a0.getD (IntKind.i64.wrap (IntKind.i64.wrap ((0 : Int) + (1 : Int)) + (1 : Int))).toNat (0 : Int))))))) (some (Account.mk (A5ofInt.mk (a0.getD (Int.toNat (0 : Int)) (0 : Int)) (a0.getD (IntKind.i64.wrap ((0 : Int) + (1 : Int))).toNat (0 : Int)) (0 : Int) (0 : Int) (0 : Int)) ((0 : Int) + a0.getD (Int.toNat (0 : Int)) (0 : Int) + a0.getD (IntKind.i64.wrap ((0 : Int) + (1 : Int))).toNat (0 : Int))))))) (some (Account.mk (A5ofInt.mk (a0.getD (Int.toNat (0 : Int)) (0 : Int)) (0 : Int) (0 : Int) (0 : Int) (0 : Int)) ((0 : Int) + a0.getD (Int.toNat (0 : Int)) (0 : Int))))))) (some (Account.mk (A5ofInt.mk (0 : Int) (0 : Int) (0 : Int) (0 : Int) (0 : Int)) (0 : Int)))
noncomputable def s110 (F : Nat) : CS E.G := ⟨110, [.sl 0], [.v 16 true []], fun x => fees_account F x.1⟩
noncomputable def cx110 (F : Nat) : Ctx E := ⟨[], [], F, []⟩
noncomputable def h110 : Hint := (.u 6 (.c (.c (.c (.c (.c .n .n) .n) .n) .n) .n))
theorem e110 (F : Nat) (a0 : List Int) : fnK (E := E) (cx110 F) Try.f110 [] [.sl 0] [.v 16 true []] h110 (a0, ()) = fees_account F a0 := by kernel_rfl
theorem c110 (F : Nat) : CSok E [] (s110 F) := ⟨en110, by
  have h := fn_sound (E := E) (gl := []) (cx := cx110 F) mix all0 inl0 rfl (fun _ h => nomatch h) hf110 (ps := [.sl 0]) (rs := [.v 16 true []]) (by decide) h110
  rwa [show fnK (E := E) (cx110 F) Try.f110 [] [.sl 0] [.v 16 true []] h110 = (fun x : AT E.G.car [.sl 0] => fees_account F x.1) from funext fun x => e110 F x.1] at h⟩
theorem hf79 : Try.prog.funcs[79]? = some Try.f79 := by kernel_rfl
theorem en79 : Proofs.Enters Try.prog 79 := Proofs.enters_of hf79 (by kernel_rfl) rfl
noncomputable def fees_Tariff_bill (F : Nat) (a0 : Tariff) (a1 : Voyage) (a2 : Int) : Option (Account) :=
  join F (fun (x : Int) => chk (InR (a1.Tonnes + (999 : Int))) (chk ((0 : Int) ≤ a1.Tonnes + (999 : Int) ∧ a1.Tonnes + (999 : Int) ≤ (9223372036854775807 : Int)) (chk (InR (a0.Mile * a1.Tenths)) (chk (InR (a0.Mile * a1.Tenths * ((a1.Tonnes + (999 : Int)) / (1000 : Int)))) (chk (InR (a0.Mile * a1.Tenths * ((a1.Tonnes + (999 : Int)) / (1000 : Int)) + (9 : Int))) (chk ((0 : Int) ≤ a0.Mile * a1.Tenths * ((a1.Tonnes + (999 : Int)) / (1000 : Int)) + (9 : Int) ∧ a0.Mile * a1.Tenths * ((a1.Tonnes + (999 : Int)) / (1000 : Int)) + (9 : Int) ≤ (9223372036854775807 : Int)) (chk (InR (a0.Escort * a1.Escort)) (chk (InR (a0.Cut * a1.Cut)) (chk (InR (a0.Tow * a1.Tow)) (bnd (fees_account F [x, (a0.Mile * a1.Tenths * ((a1.Tonnes + (999 : Int)) / (1000 : Int)) + (9 : Int)) / (10 : Int), a0.Escort * a1.Escort, a0.Cut * a1.Cut, a0.Tow * a1.Tow]) (fun (x_1 : Account) => some (Account.mk (A5ofInt.mk x_1.Lines.a0 x_1.Lines.a1 x_1.Lines.a2 x_1.Lines.a3 x_1.Lines.a4) x_1.Sum)))))))))))) (fun x => brk (decide (a2 < a0.Paid)) (bnd (fees_Tariff_dues F (Tariff.mk (a0.Bands) (A7ofInt.mk a0.Class.a0 a0.Class.a1 a0.Class.a2 a0.Class.a3 a0.Class.a4 a0.Class.a5 a0.Class.a6) a0.Least a0.Most a0.Paid a0.Mile a0.Escort a0.Cut a0.Tow) a1.Class a1.Tonnes) (fun (x_1 : Int) => x (x_1))) (x ((0 : Int))))
noncomputable def s79 (F : Nat) : CS E.G := ⟨79, [.ptr 13, .v 14 true, .v 0 false], [.v 16 true []], fun x => fees_Tariff_bill F x.1 x.2.1 x.2.2.1⟩
noncomputable def cx79 (F : Nat) : Ctx E := ⟨[s75 F, s110 F], [], F, []⟩
noncomputable def h79 : Hint := (.k (.k (.j ⟨[.i], [0, 64, 96], [0, 1, 2], [(112, .i IntKind.i64)], [], [], [], 3⟩ .n .n)))
theorem e79 (F : Nat) (a0 : Tariff) (a1 : Voyage) (a2 : Int) : fnK (E := E) (cx79 F) Try.f79 [] [.ptr 13, .v 14 true, .v 0 false] [.v 16 true []] h79 (a0, a1, a2, ()) = fees_Tariff_bill F a0 a1 a2 := by kernel_rfl
theorem c79 (F : Nat) : CSok E [] (s79 F) := ⟨en79, by
  have h := fn_sound (E := E) (gl := []) (cx := cx79 F) mix (allC (c75 F) (allC (c110 F) all0)) inl0 rfl (fun _ h => nomatch h) hf79 (ps := [.ptr 13, .v 14 true, .v 0 false]) (rs := [.v 16 true []]) (by decide) h79
  rwa [show fnK (E := E) (cx79 F) Try.f79 [] [.ptr 13, .v 14 true, .v 0 false] [.v 16 true []] h79 = (fun x : AT E.G.car [.ptr 13, .v 14 true, .v 0 false] => fees_Tariff_bill F x.1 x.2.1 x.2.2.1) from funext fun x => e79 F x.1 x.2.1 x.2.2.1] at h⟩
theorem hf24 : Try.prog.funcs[24]? = some Try.f24 := by kernel_rfl
theorem en24 : Proofs.Enters Try.prog 24 := Proofs.enters_of hf24 (by kernel_rfl) rfl
noncomputable def fees_Bill (F : Nat) (a0 : Tariff) (a1 : Voyage) (a2 : Int) : Option (Account × Int) :=
  bnd (fees_Check F (Tariff.mk (a0.Bands) (A7ofInt.mk a0.Class.a0 a0.Class.a1 a0.Class.a2 a0.Class.a3 a0.Class.a4 a0.Class.a5 a0.Class.a6) a0.Least a0.Most a0.Paid a0.Mile a0.Escort a0.Cut a0.Tow)) (fun (x : Int) => brk (x != (0 : Int)) (some ((Account.mk (A5ofInt.mk (0 : Int) (0 : Int) (0 : Int) (0 : Int) (0 : Int)) (0 : Int), x))) (bnd (fees_Voyage_right F (Voyage.mk a1.Ship a1.Class a1.Tonnes a1.Tenths a1.Escort a1.Cut a1.Tow)) (fun (x_1 : Bool) => brk (!x_1) (some ((Account.mk (A5ofInt.mk (0 : Int) (0 : Int) (0 : Int) (0 : Int) (0 : Int)) (0 : Int), (1 : Int)))) (brk (decide (a2 < (0 : Int))) (some ((Account.mk (A5ofInt.mk (0 : Int) (0 : Int) (0 : Int) (0 : Int) (0 : Int)) (0 : Int), (6 : Int)))) (bnd (fees_Tariff_bill F (Tariff.mk (a0.Bands) (A7ofInt.mk a0.Class.a0 a0.Class.a1 a0.Class.a2 a0.Class.a3 a0.Class.a4 a0.Class.a5 a0.Class.a6) a0.Least a0.Most a0.Paid a0.Mile a0.Escort a0.Cut a0.Tow) (Voyage.mk a1.Ship a1.Class a1.Tonnes a1.Tenths a1.Escort a1.Cut a1.Tow) a2) (fun (x_2 : Account) => some ((Account.mk (A5ofInt.mk x_2.Lines.a0 x_2.Lines.a1 x_2.Lines.a2 x_2.Lines.a3 x_2.Lines.a4) x_2.Sum, (0 : Int)))))))))
noncomputable def s24 (F : Nat) : CS E.G := ⟨24, [.v 13 true, .v 14 true, .v 0 false], [.v 16 true [], .v 0 false []], fun x => fees_Bill F x.1 x.2.1 x.2.2.1⟩
noncomputable def cx24 (F : Nat) : Ctx E := ⟨[s55 F, s78 F, s79 F], [], F, []⟩
noncomputable def h24 : Hint := (.c .n (.c .n .n))
theorem e24 (F : Nat) (a0 : Tariff) (a1 : Voyage) (a2 : Int) : fnK (E := E) (cx24 F) Try.f24 [] [.v 13 true, .v 14 true, .v 0 false] [.v 16 true [], .v 0 false []] h24 (a0, a1, a2, ()) = fees_Bill F a0 a1 a2 := by kernel_rfl
theorem c24 (F : Nat) : CSok E [] (s24 F) := ⟨en24, by
  have h := fn_sound (E := E) (gl := []) (cx := cx24 F) mix (allC (c55 F) (allC (c78 F) (allC (c79 F) all0))) inl0 rfl (fun _ h => nomatch h) hf24 (ps := [.v 13 true, .v 14 true, .v 0 false]) (rs := [.v 16 true [], .v 0 false []]) (by decide) h24
  rwa [show fnK (E := E) (cx24 F) Try.f24 [] [.v 13 true, .v 14 true, .v 0 false] [.v 16 true [], .v 0 false []] h24 = (fun x : AT E.G.car [.v 13 true, .v 14 true, .v 0 false] => fees_Bill F x.1 x.2.1 x.2.2.1) from funext fun x => e24 F x.1 x.2.1 x.2.2.1] at h⟩
theorem hf96 : Try.prog.funcs[96]? = some Try.f96 := by kernel_rfl
theorem en96 : Proofs.Enters Try.prog 96 := Proofs.enters_of hf96 (by kernel_rfl) rfl
theorem hf45 : Try.prog.funcs[45]? = some Try.f45 := by kernel_rfl
theorem en45 : Proofs.Enters Try.prog 45 := Proofs.enters_of hf45 (by kernel_rfl) rfl
theorem hf111 : Try.prog.funcs[111]? = some Try.f111 := by kernel_rfl
theorem en111 : Proofs.Enters Try.prog 111 := Proofs.enters_of hf111 (by kernel_rfl) rfl
theorem hf81 : Try.prog.funcs[81]? = some Try.f81 := by kernel_rfl
theorem en81 : Proofs.Enters Try.prog 81 := Proofs.enters_of hf81 (by kernel_rfl) rfl
noncomputable def fees_table (F : Nat) (a0 : List (List Int)) (a1 : Int) (a2 : Int) : Option (Int) :=
  brk ((↑a0.length : Int) != a1) (some ((1 : Int))) (join F (fun (x : Int) => brk (decide (x ≥ (0 : Int))) (some ((1 : Int))) (some ((0 : Int)))) (fun x => loopC (fun (x_1 : Int) => fun x_2 => brk (decide (x_1 < (↑a0.length : Int))) (chk ((0 : Int) ≤ x_1 ∧ x_1 < (↑a0.length : Int)) (brk ((↑(List.length (a0.getD (Int.toNat x_1) [])) : Int) != a2) (x (x_1)) (chk (InR (x_1 + (1 : Int))) (x_2 (x_1 + (1 : Int)))))) (x ((-1 : Int)))) (F) ((0 : Int))))
noncomputable def s81 (F : Nat) : CS E.G := ⟨81, [.sl 6, .v 0 false, .v 0 false], [.v 0 false []], fun x => fees_table F x.1 x.2.1 x.2.2.1⟩
noncomputable def cx81 (F : Nat) : Ctx E := ⟨[], [(45, Try.f45), (96, Try.f96), (111, Try.f111)], F, []⟩
noncomputable def h81 : Hint := (.s .n (.p (.w ⟨[.i], [], [0, 1], [(0, .i IntKind.i64)], [], [], [], 2⟩ (.l ⟨[.i], [0, 16, 112], [0, 1], [(128, .i IntKind.i64)], [], [], [], 2⟩ (.c (.p .n) .n)) .n)))
theorem e81 (F : Nat) (a0 : List (List Int)) (a1 : Int) (a2 : Int) : fnK (E := E) (cx81 F) Try.f81 [] [.sl 6, .v 0 false, .v 0 false] [.v 0 false []] h81 (a0, a1, a2, ()) = fees_table F a0 a1 a2 := by kernel_rfl
theorem c81 (F : Nat) : CSok E [] (s81 F) := ⟨en81, by
  have h := fn_sound (E := E) (gl := []) (cx := cx81 F) mix all0 (inlC hf45 en45 (inlC hf96 en96 (inlC hf111 en111 inl0))) rfl (fun _ h => nomatch h) hf81 (ps := [.sl 6, .v 0 false, .v 0 false]) (rs := [.v 0 false []]) (by decide) h81
  rwa [show fnK (E := E) (cx81 F) Try.f81 [] [.sl 6, .v 0 false, .v 0 false] [.v 0 false []] h81 = (fun x : AT E.G.car [.sl 6, .v 0 false, .v 0 false] => fees_table F x.1 x.2.1 x.2.2.1) from funext fun x => e81 F x.1 x.2.1 x.2.2.1] at h⟩
theorem hf112 : Try.prog.funcs[112]? = some Try.f112 := by kernel_rfl
theorem en112 : Proofs.Enters Try.prog 112 := Proofs.enters_of hf112 (by kernel_rfl) rfl
noncomputable def fees_amounts_1 (F : Nat) (a0 : Int) : Option (Bool) :=
  bnd (fees_within F a0 (0 : Int) (1000000000000 : Int)) (fun (x : Bool) => some (!x))
noncomputable def s112 (F : Nat) : CS E.G := ⟨112, [.v 0 false], [.v 1 false []], fun x => fees_amounts_1 F x.1⟩
noncomputable def cx112 (F : Nat) : Ctx E := ⟨[s74 F], [], F, []⟩
noncomputable def h112 : Hint := .n
theorem e112 (F : Nat) (a0 : Int) : fnK (E := E) (cx112 F) Try.f112 [] [.v 0 false] [.v 1 false []] h112 (a0, ()) = fees_amounts_1 F a0 := by kernel_rfl
theorem c112 (F : Nat) : CSok E [] (s112 F) := ⟨en112, by
  have h := fn_sound (E := E) (gl := []) (cx := cx112 F) mix (allC (c74 F) all0) inl0 rfl (fun _ h => nomatch h) hf112 (ps := [.v 0 false]) (rs := [.v 1 false []]) (by decide) h112
  rwa [show fnK (E := E) (cx112 F) Try.f112 [] [.v 0 false] [.v 1 false []] h112 = (fun x : AT E.G.car [.v 0 false] => fees_amounts_1 F x.1) from funext fun x => e112 F x.1] at h⟩
theorem hf82 : Try.prog.funcs[82]? = some Try.f82 := by kernel_rfl
theorem en82 : Proofs.Enters Try.prog 82 := Proofs.enters_of hf82 (by kernel_rfl) rfl
noncomputable def fees_amounts (F : Nat) (a0 : List (List Int)) : Option (Int) :=
  loopC (fun (x : Int) => fun x_1 => brk (decide (x < (↑a0.length : Int))) (chk ((0 : Int) ≤ x ∧ x < (↑a0.length : Int)) (join F (fun (x_2 : Int) => brk (decide (x_2 ≥ (0 : Int))) (some ((6 : Int))) (chk (InR (x + (1 : Int))) (x_1 (x + (1 : Int))))) (fun x_2 => loopC (fun (x_3 : Int) => fun x_4 => brk (decide (x_3 < (↑(List.length (a0.getD (Int.toNat x) [])) : Int))) (chk ((0 : Int) ≤ x_3 ∧ x_3 < (↑(List.length (a0.getD (Int.toNat x) [])) : Int)) (bnd (fees_amounts_1 F (List.getD (a0.getD (Int.toNat x) []) (Int.toNat x_3) (0 : Int))) (fun (x_5 : Bool) => brk (x_5) (x_2 (x_3)) (chk (InR (x_3 + (1 : Int))) (x_4 (x_3 + (1 : Int))))))) (x_2 ((-1 : Int)))) (F) ((0 : Int))))) (some ((0 : Int)))) (F) ((0 : Int))
noncomputable def s82 (F : Nat) : CS E.G := ⟨82, [.sl 6], [.v 0 false []], fun x => fees_amounts F x.1⟩
noncomputable def cx82 (F : Nat) : Ctx E := ⟨[s112 F], [(29, Try.f29), (85, Try.f85)], F, []⟩
noncomputable def h82 : Hint := (.l ⟨[.i], [96, 80], [0], [(112, .i IntKind.i64)], [], [], [], 1⟩ (.c (.p (.w ⟨[.i], [], [1], [(0, .i IntKind.i64)], [], [], [], 2⟩ (.l ⟨[.i], [0, 16, 112], [1], [(128, .i IntKind.i64)], [], [], [], 2⟩ (.c .n .n)) .n)) .n))
theorem e82 (F : Nat) (a0 : List (List Int)) : fnK (E := E) (cx82 F) Try.f82 [] [.sl 6] [.v 0 false []] h82 (a0, ()) = fees_amounts F a0 := by kernel_rfl
theorem c82 (F : Nat) : CSok E [] (s82 F) := ⟨en82, by
  have h := fn_sound (E := E) (gl := []) (cx := cx82 F) mix (allC (c112 F) all0) (inlC hf29 en29 (inlC hf85 en85 inl0)) rfl (fun _ h => nomatch h) hf82 (ps := [.sl 6]) (rs := [.v 0 false []]) (by decide) h82
  rwa [show fnK (E := E) (cx82 F) Try.f82 [] [.sl 6] [.v 0 false []] h82 = (fun x : AT E.G.car [.sl 6] => fees_amounts F x.1) from funext fun x => e82 F x.1] at h⟩
theorem hf83 : Try.prog.funcs[83]? = some Try.f83 := by kernel_rfl
theorem en83 : Proofs.Enters Try.prog 83 := Proofs.enters_of hf83 (by kernel_rfl) rfl
noncomputable def slices_Clone_Lint (F : Nat) (a0 : List (List Int)) : Option ((List (List Int))) :=
  chk ((0 : Nat) + a0.length ≤ (1000000 : Nat)) (some ([] ++ a0))
noncomputable def s83 (F : Nat) : CS E.G := ⟨83, [.sl 6], [.sl 6 22], fun x => slices_Clone_Lint F x.1⟩
noncomputable def cx83 (F : Nat) : Ctx E := ⟨[], [], F, []⟩
noncomputable def h83 : Hint := .n
theorem e83n (F : Nat) (c : Nat) : fnK (E := E) (cx83 F) Try.f83 [] [.nl] [.sl 6 22] .n (c, ()) = some ([]) := by kernel_rfl
theorem e83s (F : Nat) (a0 : List (List Int)) : fnK (E := E) (cx83 F) Try.f83 [] [.sn 6] [.sl 6 22] h83 (a0, ()) = slices_Clone_Lint F a0 := by kernel_rfl
theorem c83 (F : Nat) : CSok E [] (s83 F) := ⟨en83, by
  have h0 := fn_sound (E := E) (gl := []) (cx := cx83 F) mix all0 inl0 rfl (fun _ h => nomatch h) hf83 (ps := [.nl]) (rs := [.sl 6 22]) (by decide) .n
  have h1 := fn_sound (E := E) (gl := []) (cx := cx83 F) mix all0 inl0 rfl (fun _ h => nomatch h) hf83 (ps := [.sn 6]) (rs := [.sl 6 22]) (by decide) h83
  rw [show fnK (E := E) (cx83 F) Try.f83 [] [.nl] [.sl 6 22] .n = (fun x : AT E.G.car [.nl] => some ([])) from funext fun x => e83n F x.1] at h0
  rw [show fnK (E := E) (cx83 F) Try.f83 [] [.sn 6] [.sl 6 22] h83 = (fun x : AT E.G.car [.sn 6] => slices_Clone_Lint F x.1) from funext fun x => e83s F x.1] at h1
  exact contract_nil (E := E) (t := 6) (rs := [.sl 6 22]) (f := slices_Clone_Lint F) (f0 := fun _ => some ([])) (f1 := slices_Clone_Lint F) h0 h1 (fun _ _ h => (show slices_Clone_Lint F [] = some [] by kernel_rfl).symm.trans h) (fun _ _ h => h)⟩
theorem hf80 : Try.prog.funcs[80]? = some Try.f80 := by kernel_rfl
theorem en80 : Proofs.Enters Try.prog 80 := Proofs.enters_of hf80 (by kernel_rfl) rfl
noncomputable def fees_State_check (F : Nat) (a0 : State) : Option (Int) :=
  bnd (fees_within F (↑a0.Deposits.length : Int) (1 : Int) (10 : Int)) (fun (x : Bool) => brk (!x) (some ((2 : Int))) (brk ((↑a0.Owed.length : Int) == (0 : Int)) (some ((1 : Int))) (chk ((0 : Int) ≤ (0 : Int) ∧ (0 : Int) < (↑a0.Owed.length : Int)) (bnd (fees_within F (↑(List.length (a0.Owed.getD (Int.toNat (0 : Int)) [])) : Int) (1 : Int) (6 : Int)) (fun (x_1 : Bool) => brk (!x_1) (some ((2 : Int))) (chk ((0 : Int) ≤ (0 : Int) ∧ (0 : Int) < (↑a0.Owed.length : Int)) (bnd (fees_table F a0.Owed (↑a0.Deposits.length : Int) (↑(List.length (a0.Owed.getD (Int.toNat (0 : Int)) [])) : Int)) (fun (x_2 : Int) => brk (x_2 != (0 : Int)) (some (x_2)) (bnd (slices_Clone_Lint F a0.Owed) (fun (x_3 : List (List (Int))) => chk (List.length x_3 + [a0.Deposits].length ≤ (1000000 : Nat)) (bnd (fees_amounts F (x_3 ++ [a0.Deposits])) (fun (x_4 : Int) => some (x_4)))))))))))))
noncomputable def s80 (F : Nat) : CS E.G := ⟨80, [.v 18 true], [.v 0 false []], fun x => fees_State_check F x.1⟩
noncomputable def cx80 (F : Nat) : Ctx E := ⟨[s74 F, s81 F, s82 F, s83 F], [], F, []⟩
noncomputable def h80 : Hint := (.c .n (.c .n (.c .n .n)))
theorem e80 (F : Nat) (a0 : State) : fnK (E := E) (cx80 F) Try.f80 [] [.v 18 true] [.v 0 false []] h80 (a0, ()) = fees_State_check F a0 := by kernel_rfl
theorem c80 (F : Nat) : CSok E [] (s80 F) := ⟨en80, by
  have h := fn_sound (E := E) (gl := []) (cx := cx80 F) mix (allC (c74 F) (allC (c81 F) (allC (c82 F) (allC (c83 F) all0)))) inl0 rfl (fun _ h => nomatch h) hf80 (ps := [.v 18 true]) (rs := [.v 0 false []]) (by decide) h80
  rwa [show fnK (E := E) (cx80 F) Try.f80 [] [.v 18 true] [.v 0 false []] h80 = (fun x : AT E.G.car [.v 18 true] => fees_State_check F x.1) from funext fun x => e80 F x.1] at h⟩
theorem hf113 : Try.prog.funcs[113]? = some Try.f113 := by kernel_rfl
theorem en113 : Proofs.Enters Try.prog 113 := Proofs.enters_of hf113 (by kernel_rfl) rfl
noncomputable def slices_Clone_int (F : Nat) (a0 : List Int) : Option ((List Int)) :=
  chk ((0 : Nat) + a0.length ≤ (1000000 : Nat)) (some ([] ++ a0))
noncomputable def s113 (F : Nat) : CS E.G := ⟨113, [.sl 0], [.sl 0 3], fun x => slices_Clone_int F x.1⟩
noncomputable def cx113 (F : Nat) : Ctx E := ⟨[], [], F, []⟩
noncomputable def h113 : Hint := .n
theorem e113n (F : Nat) (c : Nat) : fnK (E := E) (cx113 F) Try.f113 [] [.nl] [.sl 0 3] .n (c, ()) = some ([]) := by kernel_rfl
theorem e113s (F : Nat) (a0 : List Int) : fnK (E := E) (cx113 F) Try.f113 [] [.sn 0] [.sl 0 3] h113 (a0, ()) = slices_Clone_int F a0 := by kernel_rfl
theorem c113 (F : Nat) : CSok E [] (s113 F) := ⟨en113, by
  have h0 := fn_sound (E := E) (gl := []) (cx := cx113 F) mix all0 inl0 rfl (fun _ h => nomatch h) hf113 (ps := [.nl]) (rs := [.sl 0 3]) (by decide) .n
  have h1 := fn_sound (E := E) (gl := []) (cx := cx113 F) mix all0 inl0 rfl (fun _ h => nomatch h) hf113 (ps := [.sn 0]) (rs := [.sl 0 3]) (by decide) h113
  rw [show fnK (E := E) (cx113 F) Try.f113 [] [.nl] [.sl 0 3] .n = (fun x : AT E.G.car [.nl] => some ([])) from funext fun x => e113n F x.1] at h0
  rw [show fnK (E := E) (cx113 F) Try.f113 [] [.sn 0] [.sl 0 3] h113 = (fun x : AT E.G.car [.sn 0] => slices_Clone_int F x.1) from funext fun x => e113s F x.1] at h1
  exact contract_nil (E := E) (t := 0) (rs := [.sl 0 3]) (f := slices_Clone_int F) (f0 := fun _ => some ([])) (f1 := slices_Clone_int F) h0 h1 (fun _ _ h => (show slices_Clone_int F [] = some [] by kernel_rfl).symm.trans h) (fun _ _ h => h)⟩
theorem hf84 : Try.prog.funcs[84]? = some Try.f84 := by kernel_rfl
theorem en84 : Proofs.Enters Try.prog 84 := Proofs.enters_of hf84 (by kernel_rfl) rfl
noncomputable def fees_State_settle (F : Nat) (a0 : State) : Option (State × (List (List Int))) :=
  bnd (slices_Clone_int F a0.Deposits) (fun (x : List (Int)) => loopC (fun (x_1 : (List (List (Int))) × ((Int) × ((List (List (Int))) × (List (Int))))) => fun x_2 => brk (decide (x_1.snd.fst < (↑a0.Owed.length : Int))) (chk ((0 : Int) ≤ x_1.snd.fst ∧ x_1.snd.fst < (↑a0.Owed.length : Int)) (chk ((0 : Int) ≤ x_1.snd.fst ∧ x_1.snd.fst < (↑a0.Deposits.length : Int)) (bnd (fees_awards F (a0.Owed.getD (Int.toNat x_1.snd.fst) []) (a0.Deposits.getD (Int.toNat x_1.snd.fst) (0 : Int))) (fun (x_3 : List (Int)) => bnd (slices_Clone_int F (a0.Owed.getD (Int.toNat x_1.snd.fst) [])) (fun (x_4 : List (Int)) => loopC (fun (x_5 : (Int) × ((List (Int)) × (List (Int)))) => fun x_6 => brk (decide (x_5.fst < (↑(List.length x_3) : Int))) (chk ((0 : Int) ≤ x_5.fst ∧ x_5.fst < (↑(List.length x_3) : Int)) (chk ((0 : Int) ≤ x_5.fst ∧ x_5.fst < (↑(List.length x_5.snd.fst) : Int)) (chk (InR (List.getD x_5.snd.fst (Int.toNat x_5.fst) (0 : Int) - List.getD x_3 (Int.toNat x_5.fst) (0 : Int))) (chk ((0 : Int) ≤ x_5.fst ∧ x_5.fst < (↑(List.length x_5.snd.fst) : Int)) (chk ((0 : Int) ≤ x_1.snd.fst ∧ x_1.snd.fst < (↑(List.length x_5.snd.snd) : Int)) (chk (InR (List.getD x_5.snd.snd (Int.toNat x_1.snd.fst) (0 : Int) - List.getD x_3 (Int.toNat x_5.fst) (0 : Int))) (chk ((0 : Int) ≤ x_1.snd.fst ∧ x_1.snd.fst < (↑(List.length x_5.snd.snd) : Int)) (chk (InR (x_5.fst + (1 : Int))) (x_6 ((x_5.fst + (1 : Int), List.set x_5.snd.fst (Int.toNat x_5.fst) (List.getD x_5.snd.fst (Int.toNat x_5.fst) (0 : Int) - List.getD x_3 (Int.toNat x_5.fst) (0 : Int)), List.set x_5.snd.snd (Int.toNat x_1.snd.fst) (List.getD x_5.snd.snd (Int.toNat x_1.snd.fst) (0 : Int) - List.getD x_3 (Int.toNat x_5.fst) (0 : Int))))))))))))) (chk (List.length x_1.snd.snd.fst + [x_5.snd.fst].length ≤ (1000000 : Nat)) (chk (List.length x_1.fst + [x_3].length ≤ (1000000 : Nat)) (chk (InR (x_1.snd.fst + (1 : Int))) (x_2 ((x_1.fst ++ [x_3], x_1.snd.fst + (1 : Int), x_1.snd.snd.fst ++ [x_5.snd.fst], x_5.snd.snd))))))) (F) (((0 : Int), x_4, x_1.snd.snd.snd))))))) (some ((State.mk (x_1.snd.snd.snd) (x_1.snd.snd.fst), x_1.fst)))) (F) (([], (0 : Int), [], x)))
noncomputable def s84 (F : Nat) : CS E.G := ⟨84, [.v 18 true], [.v 18 true [3, 22], .sl 6 22], fun x => fees_State_settle F x.1⟩
noncomputable def cx84 (F : Nat) : Ctx E := ⟨[s71 F, s113 F], [], F, []⟩
noncomputable def h84 : Hint := (.l ⟨[.l 6, .i, .l 6, .l 0], [16, 32, 64, 288, 272], [2, 3, 5, 1, 0, 4], [(80, .h 6 22 6), (304, .i IntKind.i64)], [], [(5, 1, .h 7 22 6)], [(4, 3, 0)], 8⟩ (.c (.l ⟨[.i, .l 0, .l 0], [16, 32, 64, 128, 96, 288, 544, 80, 144, 272, 528, 304], [2, 3, 5, 9, 6, 10, 1, 0, 7, 4], [(560, .i IntKind.i64)], [], [], [(10, 3, 0), (4, 3, 0)], 11⟩ .n) .n))
theorem e84 (F : Nat) (a0 : State) : fnK (E := E) (cx84 F) Try.f84 [] [.v 18 true] [.v 18 true [3, 22], .sl 6 22] h84 (a0, ()) = fees_State_settle F a0 := by kernel_rfl
theorem c84 (F : Nat) : CSok E [] (s84 F) := ⟨en84, by
  have h := fn_sound (E := E) (gl := []) (cx := cx84 F) mix (allC (c71 F) (allC (c113 F) all0)) inl0 rfl (fun _ h => nomatch h) hf84 (ps := [.v 18 true]) (rs := [.v 18 true [3, 22], .sl 6 22]) (by decide) h84
  rwa [show fnK (E := E) (cx84 F) Try.f84 [] [.v 18 true] [.v 18 true [3, 22], .sl 6 22] h84 = (fun x : AT E.G.car [.v 18 true] => fees_State_settle F x.1) from funext fun x => e84 F x.1] at h⟩
theorem hf25 : Try.prog.funcs[25]? = some Try.f25 := by kernel_rfl
theorem en25 : Proofs.Enters Try.prog 25 := Proofs.enters_of hf25 (by kernel_rfl) rfl
noncomputable def fees_Month (F : Nat) (a0 : State) (a1 : List Int) (a2 : List (List Int)) (a3 : Int) : Option (State × (List (List Int)) × Int) :=
  bnd (fees_State_check F (State.mk (a0.Deposits) (a0.Owed))) (fun (x : Int) => brk (x != (0 : Int)) (some ((State.mk ([]) ([]), [], x))) (chk ((0 : Int) ≤ (0 : Int) ∧ (0 : Int) < (↑a0.Owed.length : Int)) (bnd (fees_table F a2 (↑a0.Deposits.length : Int) (↑(List.length (a0.Owed.getD (Int.toNat (0 : Int)) [])) : Int)) (fun (x_1 : Int) => join F (fun (x_2 : Int) => join F (fun (x_3 : Int) => join F (fun (x_4 : Int) => brk (x_4 != (0 : Int)) (some ((State.mk ([]) ([]), [], x_4))) (loopC (fun (x_5 : (Int) × ((List (List (Int))) × (List (Int)))) => fun x_6 => brk (decide (x_5.fst < (↑a0.Owed.length : Int))) (chk ((0 : Int) ≤ x_5.fst ∧ x_5.fst < (↑a0.Owed.length : Int)) (chk ((0 : Int) ≤ x_5.fst ∧ x_5.fst < (↑a0.Deposits.length : Int)) (chk ((0 : Int) ≤ x_5.fst ∧ x_5.fst < (↑a1.length : Int)) (chk (InR (a0.Deposits.getD (Int.toNat x_5.fst) (0 : Int) + a1.getD (Int.toNat x_5.fst) (0 : Int))) (chk (List.length x_5.snd.snd + [a0.Deposits.getD (Int.toNat x_5.fst) (0 : Int) + a1.getD (Int.toNat x_5.fst) (0 : Int)].length ≤ (1000000 : Nat)) (loopC (fun (x_7 : (List (Int)) × (Int)) => fun x_8 => brk (decide (x_7.snd < (↑(List.length (a0.Owed.getD (Int.toNat x_5.fst) [])) : Int))) (chk ((0 : Int) ≤ x_7.snd ∧ x_7.snd < (↑(List.length (a0.Owed.getD (Int.toNat x_5.fst) [])) : Int)) (chk (InR (List.getD (a0.Owed.getD (Int.toNat x_5.fst) []) (Int.toNat x_7.snd) (0 : Int) * a3)) (chk (InR (List.getD (a0.Owed.getD (Int.toNat x_5.fst) []) (Int.toNat x_7.snd) (0 : Int) * a3 + (99 : Int))) (chk ((0 : Int) ≤ List.getD (a0.Owed.getD (Int.toNat x_5.fst) []) (Int.toNat x_7.snd) (0 : Int) * a3 + (99 : Int) ∧ List.getD (a0.Owed.getD (Int.toNat x_5.fst) []) (Int.toNat x_7.snd) (0 : Int) * a3 + (99 : Int) ≤ (9223372036854775807 : Int)) (chk (InR (List.getD (a0.Owed.getD (Int.toNat x_5.fst) []) (Int.toNat x_7.snd) (0 : Int) + (List.getD (a0.Owed.getD (Int.toNat x_5.fst) []) (Int.toNat x_7.snd) (0 : Int) * a3 + (99 : Int)) / (100 : Int))) (chk ((0 : Int) ≤ x_5.fst ∧ x_5.fst < (↑a2.length : Int)) (chk ((0 : Int) ≤ x_7.snd ∧ x_7.snd < (↑(List.length (a2.getD (Int.toNat x_5.fst) [])) : Int)) (chk (InR (List.getD (a0.Owed.getD (Int.toNat x_5.fst) []) (Int.toNat x_7.snd) (0 : Int) + (List.getD (a0.Owed.getD (Int.toNat x_5.fst) []) (Int.toNat x_7.snd) (0 : Int) * a3 + (99 : Int)) / (100 : Int) + List.getD (a2.getD (Int.toNat x_5.fst) []) (Int.toNat x_7.snd) (0 : Int))) (chk (List.length x_7.fst + [List.getD (a0.Owed.getD (Int.toNat x_5.fst) []) (Int.toNat x_7.snd) (0 : Int) + (List.getD (a0.Owed.getD (Int.toNat x_5.fst) []) (Int.toNat x_7.snd) (0 : Int) * a3 + (99 : Int)) / (100 : Int) + List.getD (a2.getD (Int.toNat x_5.fst) []) (Int.toNat x_7.snd) (0 : Int)].length ≤ (1000000 : Nat)) (chk (InR (x_7.snd + (1 : Int))) (x_8 ((x_7.fst ++ [List.getD (a0.Owed.getD (Int.toNat x_5.fst) []) (Int.toNat x_7.snd) (0 : Int) + (List.getD (a0.Owed.getD (Int.toNat x_5.fst) []) (Int.toNat x_7.snd) (0 : Int) * a3 + (99 : Int)) / (100 : Int) + List.getD (a2.getD (Int.toNat x_5.fst) []) (Int.toNat x_7.snd) (0 : Int)], x_7.snd + (1 : Int)))))))))))))) (chk (List.length x_5.snd.fst + [x_7.fst].length ≤ (1000000 : Nat)) (chk (InR (x_5.fst + (1 : Int))) (x_6 ((x_5.fst + (1 : Int), x_5.snd.fst ++ [x_7.fst], x_5.snd.snd ++ [a0.Deposits.getD (Int.toNat x_5.fst) (0 : Int) + a1.getD (Int.toNat x_5.fst) (0 : Int)])))))) (F) (([], (0 : Int))))))))) (bnd (slices_Clone_Lint F x_5.snd.fst) (fun (x_7 : List (List (Int))) => chk (List.length x_7 + [x_5.snd.snd].length ≤ (1000000 : Nat)) (bnd (fees_amounts F (x_7 ++ [x_5.snd.snd])) (fun (x_8 : Int) => brk (x_8 != (0 : Int)) (some ((State.mk ([]) ([]), [], (8 : Int)))) (bnd (fees_State_settle F (State.mk (x_5.snd.snd) (x_5.snd.fst))) (fun (x_9 : (State) × (List (List (Int)))) => some ((State.mk (x_9.fst.Deposits) (x_9.fst.Owed), x_9.snd, (0 : Int)))))))))) (F) (((0 : Int), [], [])))) (fun x_4 => brk (x_3 == (0 : Int)) (bnd (slices_Clone_Lint F a2) (fun (x_5 : List (List (Int))) => chk (List.length x_5 + [a1].length ≤ (1000000 : Nat)) (bnd (fees_amounts F (x_5 ++ [a1])) (fun (x_6 : Int) => x_4 (x_6))))) (x_4 (x_3)))) (fun x_3 => bnd (brk (x_2 == (0 : Int)) (fees_within F a3 (0 : Int) (100 : Int)) (some false)) (fun (x_4 : Bool) => brk (x_2 == (0 : Int) && !x_4) (x_3 ((6 : Int))) (x_3 (x_2))))) (fun x_2 => brk ((↑a1.length : Int) != (↑a0.Deposits.length : Int)) (x_2 ((1 : Int))) (x_2 (x_1)))))))
noncomputable def s25 (F : Nat) : CS E.G := ⟨25, [.v 18 true, .sl 0, .sl 6, .v 0 false], [.v 18 true [3, 22], .sl 6 22, .v 0 false []], fun x => fees_Month F x.1 x.2.1 x.2.2.1 x.2.2.2.1⟩
noncomputable def cx25 (F : Nat) : Ctx E := ⟨[s74 F, s80 F, s81 F, s82 F, s83 F, s84 F], [], F, []⟩
noncomputable def h25 : Hint := (.c .n (.k (.j ⟨[.i], [16, 32, 64, 128, 48], [2, 3, 4, 5, 1, 0], [(192, .i IntKind.i64)], [], [], [], 7⟩ .n (.j ⟨[.i], [16, 32, 64, 128, 48], [2, 3, 4, 5, 1, 0], [(192, .i IntKind.i64)], [], [], [], 7⟩ .n (.j ⟨[.i], [16, 32, 64, 128, 48], [2, 3, 4, 5, 1, 0], [(192, .i IntKind.i64)], [], [], [], 7⟩ .n (.c .n (.l ⟨[.i, .l 6, .l 0], [16, 32, 64, 128, 1024, 48, 1040, 208], [2, 3, 4, 5, 1, 7, 0], [(1056, .i IntKind.i64)], [], [(7, 1, .h 8 22 6), (7, 0, .h 9 3 0)], [], 10⟩ (.c (.l ⟨[.l 0, .i], [16, 32, 64, 128, 1024, 1056, 224, 1376, 48, 1040, 208, 1392], [2, 3, 4, 5, 1, 10, 7, 0, 8, 12], [(256, .h 13 3 0), (1408, .i IntKind.i64)], [], [], [], 14⟩ .n) .n))))))))
theorem e25 (F : Nat) (a0 : State) (a1 : List Int) (a2 : List (List Int)) (a3 : Int) : fnK (E := E) (cx25 F) Try.f25 [] [.v 18 true, .sl 0, .sl 6, .v 0 false] [.v 18 true [3, 22], .sl 6 22, .v 0 false []] h25 (a0, a1, a2, a3, ()) = fees_Month F a0 a1 a2 a3 := by kernel_rfl
theorem c25 (F : Nat) : CSok E [] (s25 F) := ⟨en25, by
  have h := fn_sound (E := E) (gl := []) (cx := cx25 F) mix (allC (c74 F) (allC (c80 F) (allC (c81 F) (allC (c82 F) (allC (c83 F) (allC (c84 F) all0)))))) inl0 rfl (fun _ h => nomatch h) hf25 (ps := [.v 18 true, .sl 0, .sl 6, .v 0 false]) (rs := [.v 18 true [3, 22], .sl 6 22, .v 0 false []]) (by decide) h25
  rwa [show fnK (E := E) (cx25 F) Try.f25 [] [.v 18 true, .sl 0, .sl 6, .v 0 false] [.v 18 true [3, 22], .sl 6 22, .v 0 false []] h25 = (fun x : AT E.G.car [.v 18 true, .sl 0, .sl 6, .v 0 false] => fees_Month F x.1 x.2.1 x.2.2.1 x.2.2.2.1) from funext fun x => e25 F x.1 x.2.1 x.2.2.1 x.2.2.2.1] at h⟩
theorem hf28 : Try.prog.funcs[28]? = some Try.f28 := by kernel_rfl
theorem en28 : Proofs.Enters Try.prog 28 := Proofs.enters_of hf28 (by kernel_rfl) rfl
noncomputable def slices_Equal_int (F : Nat) (a0 : List Int) (a1 : List Int) : Option (Bool) :=
  brk ((↑a0.length : Int) != (↑a1.length : Int)) (some (false)) (loopC (fun (x : Int) => fun x_1 => brk (decide (x < (↑a0.length : Int))) (chk ((0 : Int) ≤ x ∧ x < (↑a0.length : Int)) (chk ((0 : Int) ≤ x ∧ x < (↑a1.length : Int)) (brk (a0.getD (Int.toNat x) (0 : Int) != a1.getD (Int.toNat x) (0 : Int)) (some (false)) (chk (InR (x + (1 : Int))) (x_1 (x + (1 : Int))))))) (some (true))) (F) ((0 : Int)))
noncomputable def s28 (F : Nat) : CS E.G := ⟨28, [.sl 0, .sl 0], [.v 1 false []], fun x => slices_Equal_int F x.1 x.2.1⟩
noncomputable def cx28 (F : Nat) : Ctx E := ⟨[], [], F, []⟩
noncomputable def h28 : Hint := (.c .n (.l ⟨[.i], [0, 16, 192], [0, 1], [(208, .i IntKind.i64)], [], [], [], 2⟩ (.c .n .n)))
theorem e28 (F : Nat) (a0 : List Int) (a1 : List Int) : fnK (E := E) (cx28 F) Try.f28 [] [.sl 0, .sl 0] [.v 1 false []] h28 (a0, a1, ()) = slices_Equal_int F a0 a1 := by kernel_rfl
theorem c28 (F : Nat) : CSok E [] (s28 F) := ⟨en28, by
  have h := fn_sound (E := E) (gl := []) (cx := cx28 F) mix all0 inl0 rfl (fun _ h => nomatch h) hf28 (ps := [.sl 0, .sl 0]) (rs := [.v 1 false []]) (by decide) h28
  rwa [show fnK (E := E) (cx28 F) Try.f28 [] [.sl 0, .sl 0] [.v 1 false []] h28 = (fun x : AT E.G.car [.sl 0, .sl 0] => slices_Equal_int F x.1 x.2.1) from funext fun x => e28 F x.1 x.2.1] at h⟩
theorem hf116 : Try.prog.funcs[116]? = some Try.f116 := by kernel_rfl
theorem en116 : Proofs.Enters Try.prog 116 := Proofs.enters_of hf116 (by kernel_rfl) rfl
noncomputable def fees_asked_1 (F : Nat) (a0 : Int) : Option (Bool) :=
  bnd (fees_within F a0 (0 : Int) (1000000000 : Int)) (fun (x : Bool) => some (!x))
noncomputable def s116 (F : Nat) : CS E.G := ⟨116, [.v 0 false], [.v 1 false []], fun x => fees_asked_1 F x.1⟩
noncomputable def cx116 (F : Nat) : Ctx E := ⟨[s74 F], [], F, []⟩
noncomputable def h116 : Hint := .n
theorem e116 (F : Nat) (a0 : Int) : fnK (E := E) (cx116 F) Try.f116 [] [.v 0 false] [.v 1 false []] h116 (a0, ()) = fees_asked_1 F a0 := by kernel_rfl
theorem c116 (F : Nat) : CSok E [] (s116 F) := ⟨en116, by
  have h := fn_sound (E := E) (gl := []) (cx := cx116 F) mix (allC (c74 F) all0) inl0 rfl (fun _ h => nomatch h) hf116 (ps := [.v 0 false]) (rs := [.v 1 false []]) (by decide) h116
  rwa [show fnK (E := E) (cx116 F) Try.f116 [] [.v 0 false] [.v 1 false []] h116 = (fun x : AT E.G.car [.v 0 false] => fees_asked_1 F x.1) from funext fun x => e116 F x.1] at h⟩
theorem hf87 : Try.prog.funcs[87]? = some Try.f87 := by kernel_rfl
theorem en87 : Proofs.Enters Try.prog 87 := Proofs.enters_of hf87 (by kernel_rfl) rfl
noncomputable def fees_asked (F : Nat) (a0 : List Int) : Option (Int) :=
  bnd (fees_within F (↑a0.length : Int) (1 : Int) (12 : Int)) (fun (x : Bool) => brk (!x) (some ((2 : Int))) (join F (fun (x_1 : Int) => brk (decide (x_1 ≥ (0 : Int))) (some ((6 : Int))) (some ((0 : Int)))) (fun x_1 => loopC (fun (x_2 : Int) => fun x_3 => brk (decide (x_2 < (↑a0.length : Int))) (chk ((0 : Int) ≤ x_2 ∧ x_2 < (↑a0.length : Int)) (bnd (fees_asked_1 F (a0.getD (Int.toNat x_2) (0 : Int))) (fun (x_4 : Bool) => brk (x_4) (x_1 (x_2)) (chk (InR (x_2 + (1 : Int))) (x_3 (x_2 + (1 : Int))))))) (x_1 ((-1 : Int)))) (F) ((0 : Int)))))
noncomputable def s87 (F : Nat) : CS E.G := ⟨87, [.sl 0], [.v 0 false []], fun x => fees_asked F x.1⟩
noncomputable def cx87 (F : Nat) : Ctx E := ⟨[s74 F, s116 F], [(29, Try.f29), (85, Try.f85)], F, []⟩
noncomputable def h87 : Hint := (.c .n (.p (.w ⟨[.i], [], [0], [(0, .i IntKind.i64)], [], [], [], 1⟩ (.l ⟨[.i], [0, 16, 112], [0], [(128, .i IntKind.i64)], [], [], [], 1⟩ (.c .n .n)) .n)))
theorem e87 (F : Nat) (a0 : List Int) : fnK (E := E) (cx87 F) Try.f87 [] [.sl 0] [.v 0 false []] h87 (a0, ()) = fees_asked F a0 := by kernel_rfl
theorem c87 (F : Nat) : CSok E [] (s87 F) := ⟨en87, by
  have h := fn_sound (E := E) (gl := []) (cx := cx87 F) mix (allC (c74 F) (allC (c116 F) all0)) (inlC hf29 en29 (inlC hf85 en85 inl0)) rfl (fun _ h => nomatch h) hf87 (ps := [.sl 0]) (rs := [.v 0 false []]) (by decide) h87
  rwa [show fnK (E := E) (cx87 F) Try.f87 [] [.sl 0] [.v 0 false []] h87 = (fun x : AT E.G.car [.sl 0] => fees_asked F x.1) from funext fun x => e87 F x.1] at h⟩
theorem hf122 : Try.prog.funcs[122]? = some Try.f122 := by kernel_rfl
theorem en122 : Proofs.Enters Try.prog 122 := Proofs.enters_of hf122 (by kernel_rfl) rfl
theorem hf126 : Try.prog.funcs[126]? = some Try.f126 := by kernel_rfl
theorem en126 : Proofs.Enters Try.prog 126 := Proofs.enters_of hf126 (by kernel_rfl) rfl
theorem hf125 : Try.prog.funcs[125]? = some Try.f125 := by kernel_rfl
theorem en125 : Proofs.Enters Try.prog 125 := Proofs.enters_of hf125 (by kernel_rfl) rfl
theorem hf123 : Try.prog.funcs[123]? = some Try.f123 := by kernel_rfl
theorem en123 : Proofs.Enters Try.prog 123 := Proofs.enters_of hf123 (by kernel_rfl) rfl
theorem hf118 : Try.prog.funcs[118]? = some Try.f118 := by kernel_rfl
theorem en118 : Proofs.Enters Try.prog 118 := Proofs.enters_of hf118 (by kernel_rfl) rfl
theorem hf92 : Try.prog.funcs[92]? = some Try.f92 := by kernel_rfl
theorem en92 : Proofs.Enters Try.prog 92 := Proofs.enters_of hf92 (by kernel_rfl) rfl
theorem hf120 : Try.prog.funcs[120]? = some Try.f120 := by kernel_rfl
theorem en120 : Proofs.Enters Try.prog 120 := Proofs.enters_of hf120 (by kernel_rfl) rfl
theorem hf121 : Try.prog.funcs[121]? = some Try.f121 := by kernel_rfl
theorem en121 : Proofs.Enters Try.prog 121 := Proofs.enters_of hf121 (by kernel_rfl) rfl
theorem hf117 : Try.prog.funcs[117]? = some Try.f117 := by kernel_rfl
theorem en117 : Proofs.Enters Try.prog 117 := Proofs.enters_of hf117 (by kernel_rfl) rfl
theorem hf88 : Try.prog.funcs[88]? = some Try.f88 := by kernel_rfl
theorem en88 : Proofs.Enters Try.prog 88 := Proofs.enters_of hf88 (by kernel_rfl) rfl
noncomputable def fees_exact (F : Nat) (a0 : List Int) : Option ((List Int)) :=
  chk ((0 : Int) ≤ (↑a0.length : Int) ∧ (↑a0.length : Int) ≤ (↑a0.length : Int) ∧ (↑a0.length : Int) ≤ (100000 : Int)) (chk ((0 : Int) ≤ (↑a0.length : Int) ∧ (↑a0.length : Int) ≤ (↑a0.length : Int) ∧ (↑a0.length : Int) ≤ (100000 : Int)) (loopC (fun (x : (Int) × (List (Int))) => fun x_1 => brk (decide (x.fst < (↑(List.replicate (↑a0.length : Int).toNat (0 : Int)).length : Int))) (chk ((0 : Int) ≤ x.fst ∧ x.fst < (↑(List.length x.snd) : Int)) (chk (InR (x.fst + (1 : Int))) (x_1 ((x.fst + (1 : Int), List.set x.snd (Int.toNat x.fst) x.fst))))) (loopC (fun (x_2 : (Int) × (Int)) => fun x_3 => brk (decide (x_2.fst ≤ (↑(List.length x.snd) : Int))) (none) (chk (InR (x_2.snd + (1 : Int))) (loopC (fun (x_4 : (Int) × (List (Int))) => fun x_5 => brk (decide (x_4.fst < (↑(List.length x.snd) : Int))) (loopC (fun (x_6 : (Int) × (List (Int))) => fun x_7 => brk (decide (x_6.fst > x_2.snd)) (chk ((0 : Int) ≤ x_6.fst ∧ x_6.fst < (↑(List.length x_6.snd) : Int)) (chk (InR (x_6.fst - (1 : Int))) (chk ((0 : Int) ≤ x_6.fst - (1 : Int) ∧ x_6.fst - (1 : Int) < (↑(List.length x_6.snd) : Int)) (chk ((0 : Int) ≤ List.getD x_6.snd (Int.toNat x_6.fst) (0 : Int) ∧ List.getD x_6.snd (Int.toNat x_6.fst) (0 : Int) < (↑a0.length : Int)) (chk ((0 : Int) ≤ List.getD x_6.snd (x_6.fst - (1 : Int)).toNat (0 : Int) ∧ List.getD x_6.snd (x_6.fst - (1 : Int)).toNat (0 : Int) < (↑a0.length : Int)) (chk (InR (a0.getD (Int.toNat (List.getD x_6.snd (Int.toNat x_6.fst) (0 : Int))) (0 : Int) - a0.getD (Int.toNat (List.getD x_6.snd (x_6.fst - (1 : Int)).toNat (0 : Int))) (0 : Int))) (brk (decide (a0.getD (Int.toNat (List.getD x_6.snd (Int.toNat x_6.fst) (0 : Int))) (0 : Int) - a0.getD (Int.toNat (List.getD x_6.snd (x_6.fst - (1 : Int)).toNat (0 : Int))) (0 : Int) < (0 : Int))) (chk (InR (x_6.fst - (1 : Int))) (chk (InR (x_6.fst - (1 : Int))) (chk ((0 : Int) ≤ x_6.fst - (1 : Int) ∧ x_6.fst - (1 : Int) < (↑(List.length x_6.snd) : Int)) (chk ((0 : Int) ≤ x_6.fst ∧ x_6.fst < (↑(List.length x_6.snd) : Int)) (chk ((0 : Int) ≤ x_6.fst ∧ x_6.fst < (↑(List.length x_6.snd) : Int)) (chk ((0 : Int) ≤ x_6.fst - (1 : Int) ∧ x_6.fst - (1 : Int) < (↑(List.set x_6.snd (Int.toNat x_6.fst) (List.getD x_6.snd (x_6.fst - (1 : Int)).toNat (0 : Int))).length : Int)) (chk (InR (x_6.fst - (1 : Int))) (x_7 ((x_6.fst - (1 : Int), (List.set x_6.snd (Int.toNat x_6.fst) (List.getD x_6.snd (x_6.fst - (1 : Int)).toNat (0 : Int))).set (x_6.fst - (1 : Int)).toNat (List.getD x_6.snd (Int.toNat x_6.fst) (0 : Int)))))))))))) (chk (InR (x_4.fst + (1 : Int))) (x_5 ((x_4.fst + (1 : Int), x_6.snd))))))))))) (chk (InR (x_4.fst + (1 : Int))) (x_5 ((x_4.fst + (1 : Int), x_6.snd))))) (F) ((x_4.fst, x_4.snd))) (loopC (fun (x_6 : Int) => fun x_7 => brk (decide (x_6 < (↑(List.length x.snd) : Int))) (none) (loopC (fun (x_8 : (Int) × ((Int) × (List (Int)))) => fun x_9 => brk (decide (x_8.snd.fst < (↑(List.length x_4.snd) : Int))) (chk ((0 : Int) ≤ x_8.snd.fst ∧ x_8.snd.fst < (↑(List.length x_4.snd) : Int)) (chk ((0 : Int) ≤ List.getD x_4.snd (Int.toNat x_8.snd.fst) (0 : Int) ∧ List.getD x_4.snd (Int.toNat x_8.snd.fst) (0 : Int) < (↑a0.length : Int)) (chk (InR (a0.getD (Int.toNat (List.getD x_4.snd (Int.toNat x_8.snd.fst) (0 : Int))) (0 : Int) - x_8.fst)) (chk ((0 : Int) ≤ x_8.snd.fst ∧ x_8.snd.fst ≤ (↑(List.length x_4.snd) : Int) ∧ (↑(List.length x_4.snd) : Int) ≤ (↑(List.length x_4.snd) : Int)) (loopC (fun (x_10 : (Int) × (List (Int))) => fun x_11 => brk (decide (x_10.fst < (↑(List.length x_4.snd) : Int) - x_8.snd.fst)) (chk ((0 : Int) ≤ x_10.fst ∧ x_10.fst < (↑(List.length x_4.snd) : Int) - x_8.snd.fst) (chk ((0 : Int) ≤ List.getD x_4.snd (x_8.snd.fst + x_10.fst).toNat (0 : Int) ∧ List.getD x_4.snd (x_8.snd.fst + x_10.fst).toNat (0 : Int) < (↑(List.length x_10.snd) : Int)) (chk (((0 : Int) ≤ (27720 : Int) ∧ (27720 : Int) ≤ (9223372036854775807 : Int)) ∧ (0 : Int) < (↑(List.length x_4.snd) : Int) - x_8.snd.fst) (chk (InR ((a0.getD (Int.toNat (List.getD x_4.snd (Int.toNat x_8.snd.fst) (0 : Int))) (0 : Int) - x_8.fst) * ((27720 : Int) / ((↑(List.length x_4.snd) : Int) - x_8.snd.fst)))) (chk (InR (List.getD x_10.snd (Int.toNat (List.getD x_4.snd (x_8.snd.fst + x_10.fst).toNat (0 : Int))) (0 : Int) + (a0.getD (Int.toNat (List.getD x_4.snd (Int.toNat x_8.snd.fst) (0 : Int))) (0 : Int) - x_8.fst) * ((27720 : Int) / ((↑(List.length x_4.snd) : Int) - x_8.snd.fst)))) (chk ((0 : Int) ≤ List.getD x_4.snd (x_8.snd.fst + x_10.fst).toNat (0 : Int) ∧ List.getD x_4.snd (x_8.snd.fst + x_10.fst).toNat (0 : Int) < (↑(List.length x_10.snd) : Int)) (chk (InR (x_10.fst + (1 : Int))) (x_11 ((x_10.fst + (1 : Int), List.set x_10.snd (Int.toNat (List.getD x_4.snd (x_8.snd.fst + x_10.fst).toNat (0 : Int))) (List.getD x_10.snd (Int.toNat (List.getD x_4.snd (x_8.snd.fst + x_10.fst).toNat (0 : Int))) (0 : Int) + (a0.getD (Int.toNat (List.getD x_4.snd (Int.toNat x_8.snd.fst) (0 : Int))) (0 : Int) - x_8.fst) * ((27720 : Int) / ((↑(List.length x_4.snd) : Int) - x_8.snd.fst))))))))))))) (chk ((0 : Int) ≤ List.getD x_4.snd (Int.toNat x_8.snd.fst) (0 : Int) ∧ List.getD x_4.snd (Int.toNat x_8.snd.fst) (0 : Int) < (↑a0.length : Int)) (chk (InR (x_8.snd.fst + (1 : Int))) (x_9 ((a0.getD (Int.toNat (List.getD x_4.snd (Int.toNat x_8.snd.fst) (0 : Int))) (0 : Int), x_8.snd.fst + (1 : Int), x_10.snd)))))) (F) (((0 : Int), x_8.snd.snd))))))) (some (x_8.snd.snd))) (F) (((0 : Int), (0 : Int), List.replicate (↑a0.length : Int).toNat (0 : Int))))) (F) ((20 : Int)))) (F) ((x_2.snd + (1 : Int), x.snd))))) (F) (((20 : Int), (0 : Int))))) (F) (((0 : Int), List.replicate (↑a0.length : Int).toNat (0 : Int)))))
noncomputable def s88 (F : Nat) : CS E.G := ⟨88, [.sl 0], [.sl 0 3], fun x => fees_exact F x.1⟩
noncomputable def cx88 (F : Nat) : Ctx E := ⟨[], [(117, Try.f117), (92, Try.f92), (118, Try.f118), (122, Try.f122), (123, Try.f123), (125, Try.f125), (126, Try.f126), (120, Try.f120), (121, Try.f121)], F, []⟩
noncomputable def h88 : Hint := (.p (.l ⟨[.i, .l 0], [16, 48, 144], [0, 3, 5, 4], [(160, .i IntKind.i64)], [], [], [(4, 3, 0)], 6⟩ (.c .n (.p (.p (.l ⟨[.i, .i], [0, 16, 32, 96], [0, 3, 4], [(128, .i IntKind.i64), (112, .i IntKind.i64)], [], [], [], 6⟩ (.c (.u 0 .n) (.p (.l ⟨[.i, .l 0], [0, 16, 32, 48], [0, 3, 4], [(128, .i IntKind.i64)], [], [], [(4, 3, 0)], 6⟩ (.c (.l ⟨[.i, .l 0], [0, 16, 32, 128, 48], [0, 3, 4], [(144, .i IntKind.i64)], [], [], [(4, 3, 0)], 6⟩ (.s (.p .n) .n)) (.l ⟨[.i], [0, 16, 32], [0, 3, 4], [(96, .i IntKind.i64)], [], [], [], 6⟩ (.c (.u 0 .n) (.l ⟨[.i, .i, .l 0], [0, 16, 32, 128, 112], [0, 1, 3, 5, 2, 4], [(64, .i IntKind.i64), (144, .i IntKind.i64)], [], [], [(1, 3, 0)], 7⟩ (.c (.p (.l ⟨[.i, .l 0], [64, 256, 48, 80, 240], [0, 1, 3, 5, 2, 4], [(272, .i IntKind.i64)], [], [], [(1, 3, 0)], 7⟩ .n)) .n))))))))))))))
theorem e88 (F : Nat) (a0 : List Int) : fnK (E := E) (cx88 F) Try.f88 [] [.sl 0] [.sl 0 3] h88 (a0, ()) = fees_exact F a0 := by kernel_rfl
theorem c88 (F : Nat) : CSok E [] (s88 F) := ⟨en88, by
  have h := fn_sound (E := E) (gl := []) (cx := cx88 F) mix all0 (inlC hf117 en117 (inlC hf92 en92 (inlC hf118 en118 (inlC hf122 en122 (inlC hf123 en123 (inlC hf125 en125 (inlC hf126 en126 (inlC hf120 en120 (inlC hf121 en121 inl0))))))))) rfl (fun _ h => nomatch h) hf88 (ps := [.sl 0]) (rs := [.sl 0 3]) (by decide) h88
  rwa [show fnK (E := E) (cx88 F) Try.f88 [] [.sl 0] [.sl 0 3] h88 = (fun x : AT E.G.car [.sl 0] => fees_exact F x.1) from funext fun x => e88 F x.1] at h⟩
theorem hf36 : Try.prog.funcs[36]? = some Try.f36 := by kernel_rfl
theorem en36 : Proofs.Enters Try.prog 36 := Proofs.enters_of hf36 (by kernel_rfl) rfl
noncomputable def fees_Exact (F : Nat) (a0 : List Int) : Option ((List Ratio) × Int) :=
  bnd (fees_asked F a0) (fun (x : Int) => brk (x != (0 : Int)) (some (([], x))) (bnd (fees_exact F a0) (fun (x_1 : List (Int)) => loopC (fun (x_2 : (Int) × (List (Ratio))) => fun x_3 => brk (decide (x_2.fst < (↑(List.length x_1) : Int))) (chk ((0 : Int) ≤ x_2.fst ∧ x_2.fst < (↑(List.length x_1) : Int)) (loopC (fun (x_4 : (Int) × (Int)) => fun x_5 => brk (x_4.snd != (0 : Int)) (chk (((0 : Int) ≤ x_4.fst ∧ x_4.fst ≤ (9223372036854775807 : Int)) ∧ (0 : Int) < x_4.snd) (x_5 ((x_4.snd, x_4.fst % x_4.snd)))) (chk (((0 : Int) ≤ List.getD x_1 (Int.toNat x_2.fst) (0 : Int) ∧ List.getD x_1 (Int.toNat x_2.fst) (0 : Int) ≤ (9223372036854775807 : Int)) ∧ (0 : Int) < x_4.fst) (chk (((0 : Int) ≤ (27720 : Int) ∧ (27720 : Int) ≤ (9223372036854775807 : Int)) ∧ (0 : Int) < x_4.fst) (chk (List.length x_2.snd + [Ratio.mk (List.getD x_1 (Int.toNat x_2.fst) (0 : Int) / x_4.fst) ((27720 : Int) / x_4.fst)].length ≤ (1000000 : Nat)) (chk (InR (x_2.fst + (1 : Int))) (x_3 ((x_2.fst + (1 : Int), x_2.snd ++ [Ratio.mk (List.getD x_1 (Int.toNat x_2.fst) (0 : Int) / x_4.fst) ((27720 : Int) / x_4.fst)])))))))) (F) ((List.getD x_1 (Int.toNat x_2.fst) (0 : Int), (27720 : Int))))) (some ((x_2.snd, (0 : Int))))) (F) (((0 : Int), [])))))
noncomputable def s36 (F : Nat) : CS E.G := ⟨36, [.sl 0], [.sl 22 81, .v 0 false []], fun x => fees_Exact F x.1⟩
noncomputable def cx36 (F : Nat) : Ctx E := ⟨[s87 F, s88 F], [], F, []⟩
noncomputable def h36 : Hint := (.c .n (.l ⟨[.i, .l 22], [256, 272], [1], [(288, .i IntKind.i64), (80, .h 2 81 22)], [], [], [], 3⟩ (.c (.l ⟨[.i, .i], [256, 288, 80, 272, 112], [1, 2], [(128, .i IntKind.i64), (144, .i IntKind.i64)], [], [], [], 3⟩ .n) .n)))
theorem e36 (F : Nat) (a0 : List Int) : fnK (E := E) (cx36 F) Try.f36 [] [.sl 0] [.sl 22 81, .v 0 false []] h36 (a0, ()) = fees_Exact F a0 := by kernel_rfl
theorem c36 (F : Nat) : CSok E [] (s36 F) := ⟨en36, by
  have h := fn_sound (E := E) (gl := []) (cx := cx36 F) mix (allC (c87 F) (allC (c88 F) all0)) inl0 rfl (fun _ h => nomatch h) hf36 (ps := [.sl 0]) (rs := [.sl 22 81, .v 0 false []]) (by decide) h36
  rwa [show fnK (E := E) (cx36 F) Try.f36 [] [.sl 0] [.sl 22 81, .v 0 false []] h36 = (fun x : AT E.G.car [.sl 0] => fees_Exact F x.1) from funext fun x => e36 F x.1] at h⟩
theorem hf93 : Try.prog.funcs[93]? = some Try.f93 := by kernel_rfl
theorem en93 : Proofs.Enters Try.prog 93 := Proofs.enters_of hf93 (by kernel_rfl) rfl
theorem hf39 : Try.prog.funcs[39]? = some Try.f39 := by kernel_rfl
theorem en39 : Proofs.Enters Try.prog 39 := Proofs.enters_of hf39 (by kernel_rfl) rfl
noncomputable def fees_Share (F : Nat) (a0 : List Int) : Option ((List Int) × Int) :=
  bnd (fees_asked F a0) (fun (x : Int) => brk (x != (0 : Int)) (some (([], x))) (bnd (fees_exact F a0) (fun (x_1 : List (Int)) => bnd (slices_Max_int F a0) (fun (x_2 : Int) => chk ((0 : Int) ≤ (↑(List.length x_1) : Int) ∧ (↑(List.length x_1) : Int) ≤ (↑(List.length x_1) : Int) ∧ (↑(List.length x_1) : Int) ≤ (100000 : Int)) (chk ((0 : Int) ≤ (↑(List.length x_1) : Int) ∧ (↑(List.length x_1) : Int) ≤ (↑(List.length x_1) : Int) ∧ (↑(List.length x_1) : Int) ≤ (100000 : Int)) (loopC (fun (x_3 : (Int) × ((Int) × ((List (Int)) × (List (Int))))) => fun x_4 => brk (decide (x_3.snd.fst < (↑(List.length x_1) : Int))) (chk ((0 : Int) ≤ x_3.snd.fst ∧ x_3.snd.fst < (↑(List.length x_1) : Int)) (chk ((0 : Int) ≤ List.getD x_1 (Int.toNat x_3.snd.fst) (0 : Int) ∧ List.getD x_1 (Int.toNat x_3.snd.fst) (0 : Int) ≤ (9223372036854775807 : Int)) (chk ((0 : Int) ≤ x_3.snd.fst ∧ x_3.snd.fst < (↑(List.length x_3.snd.snd.snd) : Int)) (chk ((0 : Int) ≤ x_3.snd.fst ∧ x_3.snd.fst < (↑(List.length x_3.snd.snd.fst) : Int)) (chk ((0 : Int) ≤ x_3.snd.fst ∧ x_3.snd.fst < (↑(List.set x_3.snd.snd.snd (Int.toNat x_3.snd.fst) (List.getD x_1 (Int.toNat x_3.snd.fst) (0 : Int) / (27720 : Int))).length : Int)) (chk (InR (x_3.fst - (List.set x_3.snd.snd.snd (Int.toNat x_3.snd.fst) (List.getD x_1 (Int.toNat x_3.snd.fst) (0 : Int) / (27720 : Int))).getD (Int.toNat x_3.snd.fst) (0 : Int))) (chk (InR (x_3.snd.fst + (1 : Int))) (x_4 ((x_3.fst - (List.set x_3.snd.snd.snd (Int.toNat x_3.snd.fst) (List.getD x_1 (Int.toNat x_3.snd.fst) (0 : Int) / (27720 : Int))).getD (Int.toNat x_3.snd.fst) (0 : Int), x_3.snd.fst + (1 : Int), List.set x_3.snd.snd.fst (Int.toNat x_3.snd.fst) x_3.snd.fst, List.set x_3.snd.snd.snd (Int.toNat x_3.snd.fst) (List.getD x_1 (Int.toNat x_3.snd.fst) (0 : Int) / (27720 : Int)))))))))))) (loopC (fun (x_5 : (Int) × (Int)) => fun x_6 => brk (decide (x_5.fst ≤ (↑(List.length x_3.snd.snd.fst) : Int))) (none) (chk (InR (x_5.snd + (1 : Int))) (loopC (fun (x_7 : (Int) × (List (Int))) => fun x_8 => brk (decide (x_7.fst < (↑(List.length x_3.snd.snd.fst) : Int))) (loopC (fun (x_9 : (Int) × (List (Int))) => fun x_10 => brk (decide (x_9.fst > x_5.snd)) (chk ((0 : Int) ≤ x_9.fst ∧ x_9.fst < (↑(List.length x_9.snd) : Int)) (chk (InR (x_9.fst - (1 : Int))) (chk ((0 : Int) ≤ x_9.fst - (1 : Int) ∧ x_9.fst - (1 : Int) < (↑(List.length x_9.snd) : Int)) (chk ((0 : Int) ≤ List.getD x_9.snd (x_9.fst - (1 : Int)).toNat (0 : Int) ∧ List.getD x_9.snd (x_9.fst - (1 : Int)).toNat (0 : Int) < (↑(List.length x_1) : Int)) (chk ((0 : Int) ≤ List.getD x_1 (Int.toNat (List.getD x_9.snd (x_9.fst - (1 : Int)).toNat (0 : Int))) (0 : Int) ∧ List.getD x_1 (Int.toNat (List.getD x_9.snd (x_9.fst - (1 : Int)).toNat (0 : Int))) (0 : Int) ≤ (9223372036854775807 : Int)) (chk ((0 : Int) ≤ List.getD x_9.snd (Int.toNat x_9.fst) (0 : Int) ∧ List.getD x_9.snd (Int.toNat x_9.fst) (0 : Int) < (↑(List.length x_1) : Int)) (chk ((0 : Int) ≤ List.getD x_1 (Int.toNat (List.getD x_9.snd (Int.toNat x_9.fst) (0 : Int))) (0 : Int) ∧ List.getD x_1 (Int.toNat (List.getD x_9.snd (Int.toNat x_9.fst) (0 : Int))) (0 : Int) ≤ (9223372036854775807 : Int)) (chk (InR (List.getD x_1 (Int.toNat (List.getD x_9.snd (x_9.fst - (1 : Int)).toNat (0 : Int))) (0 : Int) % (27720 : Int) - List.getD x_1 (Int.toNat (List.getD x_9.snd (Int.toNat x_9.fst) (0 : Int))) (0 : Int) % (27720 : Int))) (brk (decide (List.getD x_1 (Int.toNat (List.getD x_9.snd (x_9.fst - (1 : Int)).toNat (0 : Int))) (0 : Int) % (27720 : Int) - List.getD x_1 (Int.toNat (List.getD x_9.snd (Int.toNat x_9.fst) (0 : Int))) (0 : Int) % (27720 : Int) < (0 : Int))) (chk (InR (x_9.fst - (1 : Int))) (chk (InR (x_9.fst - (1 : Int))) (chk ((0 : Int) ≤ x_9.fst - (1 : Int) ∧ x_9.fst - (1 : Int) < (↑(List.length x_9.snd) : Int)) (chk ((0 : Int) ≤ x_9.fst ∧ x_9.fst < (↑(List.length x_9.snd) : Int)) (chk ((0 : Int) ≤ x_9.fst ∧ x_9.fst < (↑(List.length x_9.snd) : Int)) (chk ((0 : Int) ≤ x_9.fst - (1 : Int) ∧ x_9.fst - (1 : Int) < (↑(List.set x_9.snd (Int.toNat x_9.fst) (List.getD x_9.snd (x_9.fst - (1 : Int)).toNat (0 : Int))).length : Int)) (chk (InR (x_9.fst - (1 : Int))) (x_10 ((x_9.fst - (1 : Int), (List.set x_9.snd (Int.toNat x_9.fst) (List.getD x_9.snd (x_9.fst - (1 : Int)).toNat (0 : Int))).set (x_9.fst - (1 : Int)).toNat (List.getD x_9.snd (Int.toNat x_9.fst) (0 : Int)))))))))))) (chk (InR (x_7.fst + (1 : Int))) (x_8 ((x_7.fst + (1 : Int), x_9.snd))))))))))))) (chk (InR (x_7.fst + (1 : Int))) (x_8 ((x_7.fst + (1 : Int), x_9.snd))))) (F) ((x_7.fst, x_7.snd))) (loopC (fun (x_9 : Int) => fun x_10 => brk (decide (x_9 < (↑(List.length x_3.snd.snd.fst) : Int))) (none) (chk ((0 : Int) ≤ (0 : Int) ∧ (0 : Int) ≤ x_3.fst ∧ x_3.fst ≤ (↑(List.length x_7.snd) : Int)) (loopC (fun (x_11 : (Int) × (List (Int))) => fun x_12 => brk (decide (x_11.fst < x_3.fst - (0 : Int))) (chk ((0 : Int) ≤ x_11.fst ∧ x_11.fst < x_3.fst - (0 : Int)) (chk ((0 : Int) ≤ List.getD x_7.snd ((0 : Int) + x_11.fst).toNat (0 : Int) ∧ List.getD x_7.snd ((0 : Int) + x_11.fst).toNat (0 : Int) < (↑(List.length x_11.snd) : Int)) (chk (InR (List.getD x_11.snd (Int.toNat (List.getD x_7.snd ((0 : Int) + x_11.fst).toNat (0 : Int))) (0 : Int) + (1 : Int))) (chk ((0 : Int) ≤ List.getD x_7.snd ((0 : Int) + x_11.fst).toNat (0 : Int) ∧ List.getD x_7.snd ((0 : Int) + x_11.fst).toNat (0 : Int) < (↑(List.length x_11.snd) : Int)) (chk (InR (x_11.fst + (1 : Int))) (x_12 ((x_11.fst + (1 : Int), List.set x_11.snd (Int.toNat (List.getD x_7.snd ((0 : Int) + x_11.fst).toNat (0 : Int))) (List.getD x_11.snd (Int.toNat (List.getD x_7.snd ((0 : Int) + x_11.fst).toNat (0 : Int))) (0 : Int) + (1 : Int)))))))))) (some ((x_11.snd, (0 : Int))))) (F) (((0 : Int), x_3.snd.snd.snd))))) (F) ((20 : Int)))) (F) ((x_5.snd + (1 : Int), x_3.snd.snd.fst))))) (F) (((20 : Int), (0 : Int))))) (F) ((x_2, (0 : Int), List.replicate (↑(List.length x_1) : Int).toNat (0 : Int), List.replicate (↑(List.length x_1) : Int).toNat (0 : Int)))))))))
noncomputable def s39 (F : Nat) : CS E.G := ⟨39, [.sl 0], [.sl 0 3, .v 0 false []], fun x => fees_Share F x.1⟩
noncomputable def cx39 (F : Nat) : Ctx E := ⟨[s35 F, s87 F, s88 F], [(92, Try.f92), (118, Try.f118), (122, Try.f122), (123, Try.f123), (125, Try.f125), (126, Try.f126), (93, Try.f93)], F, []⟩
noncomputable def h39 : Hint := (.c .n (.l ⟨[.i, .i, .l 0, .l 0], [128, 448, 80, 464, 112], [4, 1, 2, 3], [(96, .i IntKind.i64), (480, .i IntKind.i64)], [], [], [(4, 3, 0), (3, 3, 0)], 5⟩ (.c .n (.p (.p (.l ⟨[.i, .i], [0, 16, 32, 96], [1, 2, 4], [(128, .i IntKind.i64), (112, .i IntKind.i64)], [], [], [], 5⟩ (.c (.u 0 .n) (.p (.l ⟨[.i, .l 0], [0, 16, 32, 48], [1, 2, 4], [(128, .i IntKind.i64)], [], [], [(4, 3, 0)], 5⟩ (.c (.l ⟨[.i, .l 0], [0, 16, 32, 128, 48], [1, 2, 4], [(144, .i IntKind.i64)], [], [], [(4, 3, 0)], 5⟩ (.s (.p .n) .n)) (.l ⟨[.i], [0, 16, 32], [1, 2, 4], [(96, .i IntKind.i64)], [], [], [], 5⟩ (.c (.u 0 .n) (.l ⟨[.i, .l 0], [896, 912, 112], [4, 3], [(928, .i IntKind.i64)], [], [], [(3, 3, 0)], 5⟩ .n)))))))))))))
theorem e39 (F : Nat) (a0 : List Int) : fnK (E := E) (cx39 F) Try.f39 [] [.sl 0] [.sl 0 3, .v 0 false []] h39 (a0, ()) = fees_Share F a0 := by kernel_rfl
theorem c39 (F : Nat) : CSok E [] (s39 F) := ⟨en39, by
  have h := fn_sound (E := E) (gl := []) (cx := cx39 F) mix (allC (c35 F) (allC (c87 F) (allC (c88 F) all0))) (inlC hf92 en92 (inlC hf118 en118 (inlC hf122 en122 (inlC hf123 en123 (inlC hf125 en125 (inlC hf126 en126 (inlC hf93 en93 inl0))))))) rfl (fun _ h => nomatch h) hf39 (ps := [.sl 0]) (rs := [.sl 0 3, .v 0 false []]) (by decide) h39
  rwa [show fnK (E := E) (cx39 F) Try.f39 [] [.sl 0] [.sl 0 3, .v 0 false []] h39 = (fun x : AT E.G.car [.sl 0] => fees_Share F x.1) from funext fun x => e39 F x.1] at h⟩
theorem hf65 : Try.prog.funcs[65]? = some Try.f65 := by kernel_rfl
theorem en65 : Proofs.Enters Try.prog 65 := Proofs.enters_of hf65 (by kernel_rfl) rfl
noncomputable def law12_Example (F : Nat) : Option (Tariff) :=
  some (Tariff.mk ([Band.mk (2000 : Int) (50 : Int), Band.mk (500000 : Int) (20 : Int)]) (A7ofInt.mk (150 : Int) (120 : Int) (100 : Int) (80 : Int) (70 : Int) (60 : Int) (50 : Int)) (1000 : Int) (1000000000 : Int) (3 : Int) (7 : Int) (900 : Int) (2000 : Int) (3000 : Int))
noncomputable def s65 (F : Nat) : CS E.G := ⟨65, [], [.v 13 true [103]], fun x => law12_Example F⟩
noncomputable def cx65 (F : Nat) : Ctx E := ⟨[], [], F, []⟩
noncomputable def h65 : Hint := .n
theorem e65 (F : Nat) : fnK (E := E) (cx65 F) Try.f65 [] [] [.v 13 true [103]] h65 (()) = law12_Example F := by kernel_rfl
theorem c65 (F : Nat) : CSok E [] (s65 F) := ⟨en65, by
  have h := fn_sound (E := E) (gl := []) (cx := cx65 F) mix all0 inl0 rfl (fun _ h => nomatch h) hf65 (ps := []) (rs := [.v 13 true [103]]) (by decide) h65
  rwa [show fnK (E := E) (cx65 F) Try.f65 [] [] [.v 13 true [103]] h65 = (fun x : AT E.G.car [] => law12_Example F) from funext fun x => e65 F] at h⟩
theorem hf66 : Try.prog.funcs[66]? = some Try.f66 := by kernel_rfl
theorem en66 : Proofs.Enters Try.prog 66 := Proofs.enters_of hf66 (by kernel_rfl) rfl
noncomputable def slices_Equal_api_Ratio (F : Nat) (a0 : List Ratio) (a1 : List Ratio) : Option (Bool) :=
  brk ((↑a0.length : Int) != (↑a1.length : Int)) (some (false)) (loopC (fun (x : Int) => fun x_1 => brk (decide (x < (↑a0.length : Int))) (chk ((0 : Int) ≤ x ∧ x < (↑a0.length : Int)) (chk ((0 : Int) ≤ x ∧ x < (↑a1.length : Int)) (brk (!((a0.getD (Int.toNat x) (Ratio.mk (0 : Int) (0 : Int))).N == (a1.getD (Int.toNat x) (Ratio.mk (0 : Int) (0 : Int))).N && ((a0.getD (Int.toNat x) (Ratio.mk (0 : Int) (0 : Int))).D == (a1.getD (Int.toNat x) (Ratio.mk (0 : Int) (0 : Int))).D && true))) (some (false)) (chk (InR (x + (1 : Int))) (x_1 (x + (1 : Int))))))) (some (true))) (F) ((0 : Int)))
noncomputable def s66 (F : Nat) : CS E.G := ⟨66, [.sl 22, .sl 22], [.v 1 false []], fun x => slices_Equal_api_Ratio F x.1 x.2.1⟩
noncomputable def cx66 (F : Nat) : Ctx E := ⟨[], [], F, []⟩
noncomputable def h66 : Hint := (.c .n (.l ⟨[.i], [0, 16, 192], [0, 1], [(208, .i IntKind.i64)], [], [], [], 2⟩ (.c .n .n)))
theorem e66 (F : Nat) (a0 : List Ratio) (a1 : List Ratio) : fnK (E := E) (cx66 F) Try.f66 [] [.sl 22, .sl 22] [.v 1 false []] h66 (a0, a1, ()) = slices_Equal_api_Ratio F a0 a1 := by kernel_rfl
theorem c66 (F : Nat) : CSok E [] (s66 F) := ⟨en66, by
  have h := fn_sound (E := E) (gl := []) (cx := cx66 F) mix all0 inl0 rfl (fun _ h => nomatch h) hf66 (ps := [.sl 22, .sl 22]) (rs := [.v 1 false []]) (by decide) h66
  rwa [show fnK (E := E) (cx66 F) Try.f66 [] [.sl 22, .sl 22] [.v 1 false []] h66 = (fun x : AT E.G.car [.sl 22, .sl 22] => slices_Equal_api_Ratio F x.1 x.2.1) from funext fun x => e66 F x.1 x.2.1] at h⟩
theorem hf13 : Try.prog.funcs[13]? = some Try.f13 := by kernel_rfl
theorem en13 : Proofs.Enters Try.prog 13 := Proofs.enters_of hf13 (by kernel_rfl) rfl
noncomputable def law12_awake (F : Nat) : Option (Bool) :=
  bnd (law12_Example F) (fun (x : Tariff) => bnd (fees_Dues F (Tariff.mk (x.Bands) (A7ofInt.mk x.Class.a0 x.Class.a1 x.Class.a2 x.Class.a3 x.Class.a4 x.Class.a5 x.Class.a6) x.Least x.Most x.Paid x.Mile x.Escort x.Cut x.Tow) (3 : Int) (5000 : Int)) (fun (x_1 : (Int) × (Int)) => bnd (law12_Example F) (fun (x_2 : Tariff) => bnd (fees_Bill F (Tariff.mk (x_2.Bands) (A7ofInt.mk x_2.Class.a0 x_2.Class.a1 x_2.Class.a2 x_2.Class.a3 x_2.Class.a4 x_2.Class.a5 x_2.Class.a6) x_2.Least x_2.Most x_2.Paid x_2.Mile x_2.Escort x_2.Cut x_2.Tow) (Voyage.mk (0 : Int) (3 : Int) (5000 : Int) (123 : Int) (0 : Int) (0 : Int) (0 : Int)) (3 : Int)) (fun (x_3 : (Account) × (Int)) => bnd (fees_Exact F [(10 : Int), (10 : Int), (11 : Int)]) (fun (x_4 : (List (Ratio)) × (Int)) => bnd (fees_Share F [(90 : Int), (30 : Int), (60 : Int)]) (fun (x_5 : (List (Int)) × (Int)) => bnd (fees_Awards F [(30 : Int), (10 : Int), (50 : Int)] (61 : Int)) (fun (x_6 : (List (Int)) × (Int)) => bnd (fees_Month F (State.mk ([(61 : Int)]) ([[(30 : Int), (10 : Int), (50 : Int)]])) [(9 : Int)] [[(0 : Int), (5 : Int), (0 : Int)]] (10 : Int)) (fun (x_7 : (State) × ((List (List (Int))) × (Int))) => brk (x_1.snd != (0 : Int) || x_3.snd != (0 : Int) || x_4.snd != (0 : Int) || x_5.snd != (0 : Int) || x_6.snd != (0 : Int) || x_7.snd.snd != (0 : Int) || x_1.fst != (128000 : Int) || !(x_3.fst.Lines.a0 == (0 : Int) && (x_3.fst.Lines.a1 == (431 : Int) && (x_3.fst.Lines.a2 == (0 : Int) && (x_3.fst.Lines.a3 == (0 : Int) && (x_3.fst.Lines.a4 == (0 : Int) && true)))) && (x_3.fst.Sum == (431 : Int) && true)) || (↑x_7.fst.Owed.length : Int) != (1 : Int) || (↑(List.length x_7.snd.fst) : Int) != (1 : Int)) (some (false)) (bnd (slices_Equal_api_Ratio F x_4.fst [Ratio.mk (10 : Int) (3 : Int), Ratio.mk (10 : Int) (3 : Int), Ratio.mk (13 : Int) (3 : Int)]) (fun (x_8 : Bool) => brk (x_8) (bnd (slices_Equal_int F x_5.fst [(55 : Int), (10 : Int), (25 : Int)]) (fun (x_9 : Bool) => brk (x_9) (bnd (slices_Equal_int F x_6.fst [(26 : Int), (10 : Int), (25 : Int)]) (fun (x_10 : Bool) => brk (x_10) (bnd (slices_Equal_int F x_7.fst.Deposits [(0 : Int)]) (fun (x_11 : Bool) => brk (x_11) (chk ((0 : Int) ≤ (0 : Int) ∧ (0 : Int) < (↑x_7.fst.Owed.length : Int)) (bnd (slices_Equal_int F (x_7.fst.Owed.getD (Int.toNat (0 : Int)) []) [(6 : Int), (0 : Int), (28 : Int)]) (fun (x_12 : Bool) => brk (x_12) (chk ((0 : Int) ≤ (0 : Int) ∧ (0 : Int) < (↑(List.length x_7.snd.fst) : Int)) (bnd (slices_Equal_int F (List.getD x_7.snd.fst (Int.toNat (0 : Int)) []) [(27 : Int), (16 : Int), (27 : Int)]) (fun (x_13 : Bool) => some (x_13)))) (some (false))))) (some (false)))) (some (false)))) (some (false)))) (some (false))))))))))))
noncomputable def s13 (F : Nat) : CS E.G := ⟨13, [], [.v 1 false []], fun x => law12_awake F⟩
noncomputable def cx13 (F : Nat) : Ctx E := ⟨[s17 F, s22 F, s24 F, s25 F, s28 F, s36 F, s39 F, s65 F, s66 F], [], F, []⟩
noncomputable def h13 : Hint := (.c .n (.s (.s (.s (.s (.s .n .n) .n) .n) .n) .n))
theorem e13 (F : Nat) : fnK (E := E) (cx13 F) Try.f13 [] [] [.v 1 false []] h13 (()) = law12_awake F := by kernel_rfl
theorem c13 (F : Nat) : CSok E [] (s13 F) := ⟨en13, by
  have h := fn_sound (E := E) (gl := []) (cx := cx13 F) mix (allC (c17 F) (allC (c22 F) (allC (c24 F) (allC (c25 F) (allC (c28 F) (allC (c36 F) (allC (c39 F) (allC (c65 F) (allC (c66 F) all0))))))))) inl0 rfl (fun _ h => nomatch h) hf13 (ps := []) (rs := [.v 1 false []]) (by decide) h13
  rwa [show fnK (E := E) (cx13 F) Try.f13 [] [] [.v 1 false []] h13 = (fun x : AT E.G.car [] => law12_awake F) from funext fun x => e13 F] at h⟩
theorem hf73 : Try.prog.funcs[73]? = some Try.f73 := by kernel_rfl
theorem en73 : Proofs.Enters Try.prog 73 := Proofs.enters_of hf73 (by kernel_rfl) rfl
theorem hf20 : Try.prog.funcs[20]? = some Try.f20 := by kernel_rfl
theorem en20 : Proofs.Enters Try.prog 20 := Proofs.enters_of hf20 (by kernel_rfl) rfl
theorem hf94 : Try.prog.funcs[94]? = some Try.f94 := by kernel_rfl
theorem en94 : Proofs.Enters Try.prog 94 := Proofs.enters_of hf94 (by kernel_rfl) rfl
noncomputable def fees_Core_1 (F : Nat) (a0 : Int) : Option (Bool) :=
  bnd (fees_within F a0 (0 : Int) (1000000000 : Int)) (fun (x : Bool) => some (!x))
noncomputable def s94 (F : Nat) : CS E.G := ⟨94, [.v 0 false], [.v 1 false []], fun x => fees_Core_1 F x.1⟩
noncomputable def cx94 (F : Nat) : Ctx E := ⟨[s74 F], [], F, []⟩
noncomputable def h94 : Hint := .n
theorem e94 (F : Nat) (a0 : Int) : fnK (E := E) (cx94 F) Try.f94 [] [.v 0 false] [.v 1 false []] h94 (a0, ()) = fees_Core_1 F a0 := by kernel_rfl
theorem c94 (F : Nat) : CSok E [] (s94 F) := ⟨en94, by
  have h := fn_sound (E := E) (gl := []) (cx := cx94 F) mix (allC (c74 F) all0) inl0 rfl (fun _ h => nomatch h) hf94 (ps := [.v 0 false]) (rs := [.v 1 false []]) (by decide) h94
  rwa [show fnK (E := E) (cx94 F) Try.f94 [] [.v 0 false] [.v 1 false []] h94 = (fun x : AT E.G.car [.v 0 false] => fees_Core_1 F x.1) from funext fun x => e94 F x.1] at h⟩
theorem hf41 : Try.prog.funcs[41]? = some Try.f41 := by kernel_rfl
theorem en41 : Proofs.Enters Try.prog 41 := Proofs.enters_of hf41 (by kernel_rfl) rfl
noncomputable def fees_Core (F : Nat) (a0 : List Int) (a1 : List Int) : Option (Bool × Int) :=
  bnd (fees_asked F a0) (fun (x : Int) => brk (x != (0 : Int)) (some ((false, x))) (brk ((↑a1.length : Int) != (↑a0.length : Int)) (some ((false, (1 : Int)))) (join F (fun (x_1 : Int) => brk (decide (x_1 ≥ (0 : Int))) (some ((false, (6 : Int)))) (loopC (fun (x_2 : Int) => fun x_3 => brk (decide (x_2 < (↑a0.length : Int))) (chk ((0 : Int) ≤ x_2 ∧ x_2 < (↑a0.length : Int)) (loopC (fun (x_4 : (Int) × (Int)) => fun x_5 => brk (decide (x_4.fst < (↑a0.length : Int))) (join F (fun (x_6 : Int) => chk (InR (x_4.fst + (1 : Int))) (x_5 ((x_4.fst + (1 : Int), x_6)))) (fun x_6 => chk ((0 : Int) ≤ x_4.fst ∧ x_4.fst < (↑a0.length : Int)) (brk (decide (a0.getD (Int.toNat x_4.fst) (0 : Int) ≤ a0.getD (Int.toNat x_2) (0 : Int))) (chk ((0 : Int) ≤ x_4.fst ∧ x_4.fst < (↑a1.length : Int)) (chk (InR (x_4.snd + a1.getD (Int.toNat x_4.fst) (0 : Int))) (x_6 (x_4.snd + a1.getD (Int.toNat x_4.fst) (0 : Int))))) (x_6 (x_4.snd))))) (bnd (brk (!decide (x_4.snd > a0.getD (Int.toNat x_2) (0 : Int))) (slices_Max_int F a0) (some (0 : Int))) (fun (x_6 : Int) => brk (decide (x_4.snd > a0.getD (Int.toNat x_2) (0 : Int)) || a0.getD (Int.toNat x_2) (0 : Int) == x_6 && x_4.snd != a0.getD (Int.toNat x_2) (0 : Int)) (some ((false, (0 : Int)))) (chk (InR (x_2 + (1 : Int))) (x_3 (x_2 + (1 : Int))))))) (F) (((0 : Int), (0 : Int))))) (some ((true, (0 : Int))))) (F) ((0 : Int)))) (fun x_1 => loopC (fun (x_2 : Int) => fun x_3 => brk (decide (x_2 < (↑a1.length : Int))) (chk ((0 : Int) ≤ x_2 ∧ x_2 < (↑a1.length : Int)) (bnd (fees_Core_1 F (a1.getD (Int.toNat x_2) (0 : Int))) (fun (x_4 : Bool) => brk (x_4) (x_1 (x_2)) (chk (InR (x_2 + (1 : Int))) (x_3 (x_2 + (1 : Int))))))) (x_1 ((-1 : Int)))) (F) ((0 : Int))))))
noncomputable def s41 (F : Nat) : CS E.G := ⟨41, [.sl 0, .sl 0], [.v 1 false [], .v 0 false []], fun x => fees_Core F x.1 x.2.1⟩
noncomputable def cx41 (F : Nat) : Ctx E := ⟨[s35 F, s87 F, s94 F], [(29, Try.f29), (85, Try.f85)], F, []⟩
noncomputable def h41 : Hint := (.c .n (.c .n (.p (.w ⟨[.i], [], [1], [(0, .i IntKind.i64)], [], [], [], 2⟩ (.l ⟨[.i], [0, 16, 112], [1], [(128, .i IntKind.i64)], [], [], [], 2⟩ (.c .n .n)) (.c .n (.l ⟨[.i], [0, 16, 416, 432], [0, 1], [(448, .i IntKind.i64)], [], [], [], 2⟩ (.c (.l ⟨[.i, .i], [0, 16, 128, 512, 448, 416, 528, 432], [0, 1], [(544, .i IntKind.i64), (144, .i IntKind.i64)], [], [], [], 2⟩ (.c (.j ⟨[.i], [0, 16, 128, 512, 448, 544, 416, 528, 432], [0, 1], [(144, .i IntKind.i64)], [], [], [], 2⟩ .n .n) .n)) .n)))))))
theorem e41 (F : Nat) (a0 : List Int) (a1 : List Int) : fnK (E := E) (cx41 F) Try.f41 [] [.sl 0, .sl 0] [.v 1 false [], .v 0 false []] h41 (a0, a1, ()) = fees_Core F a0 a1 := by kernel_rfl
theorem c41 (F : Nat) : CSok E [] (s41 F) := ⟨en41, by
  have h := fn_sound (E := E) (gl := []) (cx := cx41 F) mix (allC (c35 F) (allC (c87 F) (allC (c94 F) all0))) (inlC hf29 en29 (inlC hf85 en85 inl0)) rfl (fun _ h => nomatch h) hf41 (ps := [.sl 0, .sl 0]) (rs := [.v 1 false [], .v 0 false []]) (by decide) h41
  rwa [show fnK (E := E) (cx41 F) Try.f41 [] [.sl 0, .sl 0] [.v 1 false [], .v 0 false []] h41 = (fun x : AT E.G.car [.sl 0, .sl 0] => fees_Core F x.1 x.2.1) from funext fun x => e41 F x.1 x.2.1] at h⟩
theorem hf43 : Try.prog.funcs[43]? = some Try.f43 := by kernel_rfl
theorem en43 : Proofs.Enters Try.prog 43 := Proofs.enters_of hf43 (by kernel_rfl) rfl
noncomputable def law12_wants (F : Nat) (a0 : List Int) : Option ((List Int)) :=
  join F (fun (x : (Int) × (Int)) => chk (InR ((1 : Int) + x.fst)) (loopC (fun (x_1 : (List (Int)) × ((Int) × (Int))) => fun x_2 => brk (decide (x_1.snd.fst < (1 : Int) + x.fst)) (join F (fun (x_3 : (Int) × (Int)) => join F (fun (x_4 : (Int) × (Int)) => chk (InR (x_3.fst * x_4.fst)) (chk (List.length x_1.fst + [x_3.fst * x_4.fst].length ≤ (1000000 : Nat)) (chk (InR (x_1.snd.fst + (1 : Int))) (x_2 ((x_1.fst ++ [x_3.fst * x_4.fst], x_1.snd.fst + (1 : Int), x_4.snd)))))) (fun x_4 => brk (decide (x_3.snd ≥ (↑a0.length : Int))) (x_4 (((0 : Int), x_3.snd))) (chk (InR (x_3.snd + (1 : Int))) (chk (InR (x_3.snd + (1 : Int) - (1 : Int))) (chk ((0 : Int) ≤ x_3.snd + (1 : Int) - (1 : Int) ∧ x_3.snd + (1 : Int) - (1 : Int) < (↑a0.length : Int)) (chk (InR (a0.getD (x_3.snd + (1 : Int) - (1 : Int)).toNat (0 : Int))) (chk ((0 : Int) ≤ a0.getD (x_3.snd + (1 : Int) - (1 : Int)).toNat (0 : Int) ∧ a0.getD (x_3.snd + (1 : Int) - (1 : Int)).toNat (0 : Int) ≤ (9223372036854775807 : Int)) (x_4 ((a0.getD (x_3.snd + (1 : Int) - (1 : Int)).toNat (0 : Int) % (256 : Int), x_3.snd + (1 : Int))))))))))) (fun x_3 => brk (decide (x_1.snd.snd ≥ (↑a0.length : Int))) (x_3 (((0 : Int), x_1.snd.snd))) (chk (InR (x_1.snd.snd + (1 : Int))) (chk (InR (x_1.snd.snd + (1 : Int) - (1 : Int))) (chk ((0 : Int) ≤ x_1.snd.snd + (1 : Int) - (1 : Int) ∧ x_1.snd.snd + (1 : Int) - (1 : Int) < (↑a0.length : Int)) (chk (InR (a0.getD (x_1.snd.snd + (1 : Int) - (1 : Int)).toNat (0 : Int))) (chk ((0 : Int) ≤ a0.getD (x_1.snd.snd + (1 : Int) - (1 : Int)).toNat (0 : Int) ∧ a0.getD (x_1.snd.snd + (1 : Int) - (1 : Int)).toNat (0 : Int) ≤ (9223372036854775807 : Int)) (x_3 ((a0.getD (x_1.snd.snd + (1 : Int) - (1 : Int)).toNat (0 : Int) % (7 : Int), x_1.snd.snd + (1 : Int))))))))))) (some (x_1.fst))) (F) (([], (0 : Int), x.snd)))) (fun x => brk (decide ((0 : Int) ≥ (↑a0.length : Int))) (x (((0 : Int), (0 : Int)))) (chk ((0 : Int) ≤ IntKind.i64.wrap (IntKind.i64.wrap ((0 : Int) + (1 : Int)) - (1 : Int)) ∧ IntKind.i64.wrap (IntKind.i64.wrap ((0 : Int) + (1 : Int)) - (1 : Int)) < (↑a0.length : Int)) (chk (InR (a0.getD (IntKind.i64.wrap (IntKind.i64.wrap ((0 : Int) + (1 : Int)) - (1 : Int))).toNat (0 : Int))) (chk ((0 : Int) ≤ a0.getD (IntKind.i64.wrap (IntKind.i64.wrap ((0 : Int) + (1 : Int)) - (1 : Int))).toNat (0 : Int) ∧ a0.getD (IntKind.i64.wrap (IntKind.i64.wrap ((0 : Int) + (1 : Int)) - (1 : Int))).toNat (0 : Int) ≤ (9223372036854775807 : Int)) (x ((a0.getD (IntKind.i64.wrap (IntKind.i64.wrap ((0 : Int) + (1 : Int)) - (1 : Int))).toNat (0 : Int) % (12 : Int), IntKind.i64.wrap ((0 : Int) + (1 : Int)))))))))
noncomputable def s43 (F : Nat) : CS E.G := ⟨43, [.sl 2], [.sl 0 3], fun x => law12_wants F x.1⟩
noncomputable def cx43 (F : Nat) : Ctx E := ⟨[], [(20, Try.f20), (73, Try.f73)], F, []⟩
noncomputable def h43 : Hint := (.p (.w ⟨[.i, .i], [], [0, 1, 2], [(0, .i IntKind.i64)], [], [(2, 0, .i IntKind.i64)], [], 3⟩ .n (.l ⟨[.l 0, .i, .i], [48, 144], [2, 1, 0], [(64, .h 3 3 0), (160, .i IntKind.i64)], [], [(2, 0, .i IntKind.i64)], [], 4⟩ (.c (.w ⟨[.i, .i], [], [0, 1, 2], [(0, .i IntKind.i64)], [], [(2, 0, .i IntKind.i64)], [], 4⟩ .n (.w ⟨[.i, .i], [], [0, 1, 2], [(0, .i IntKind.i64)], [], [(2, 0, .i IntKind.i64)], [], 4⟩ .n .n)) .n))))
theorem e43 (F : Nat) (a0 : List Int) : fnK (E := E) (cx43 F) Try.f43 [] [.sl 2] [.sl 0 3] h43 (a0, ()) = law12_wants F a0 := by kernel_rfl
theorem c43 (F : Nat) : CSok E [] (s43 F) := ⟨en43, by
  have h := fn_sound (E := E) (gl := []) (cx := cx43 F) mix all0 (inlC hf20 en20 (inlC hf73 en73 inl0)) rfl (fun _ h => nomatch h) hf43 (ps := [.sl 2]) (rs := [.sl 0 3]) (by decide) h43
  rwa [show fnK (E := E) (cx43 F) Try.f43 [] [.sl 2] [.sl 0 3] h43 = (fun x : AT E.G.car [.sl 2] => law12_wants F x.1) from funext fun x => e43 F x.1] at h⟩
theorem hf44 : Try.prog.funcs[44]? = some Try.f44 := by kernel_rfl
theorem en44 : Proofs.Enters Try.prog 44 := Proofs.enters_of hf44 (by kernel_rfl) rfl
theorem hf10 : Try.prog.funcs[10]? = some Try.f10 := by kernel_rfl
theorem en10 : Proofs.Enters Try.prog 10 := Proofs.enters_of hf10 (by kernel_rfl) rfl
noncomputable def law12_FeesAsked (F : Nat) (a0 : List Int) (a1 : List Int) (a2 : Int) : Option (Bool) :=
  bnd (law12_wants F a0) (fun (x : List (Int)) => bnd (fees_Share F x) (fun (x_1 : (List (Int)) × (Int)) => brk (x_1.snd != (0 : Int) || (↑(List.length x_1.fst) : Int) != (↑(List.length x) : Int)) (some (false)) (join F (fun (x_2 : (Int) × (Int)) => loopC (fun (x_3 : (Int) × ((Int) × (List (Int)))) => fun x_4 => brk (decide (x_3.fst < x_2.fst)) (join F (fun (x_5 : (Int) × (Int)) => join F (fun (x_6 : (Int) × (Int)) => join F (fun (x_7 : (Int) × (Int)) => chk ((0 : Int) ≤ x_5.fst ∧ x_5.fst < (↑(List.length x_3.snd.snd) : Int)) (chk ((0 : Int) ≤ x_5.fst ∧ x_5.fst < (↑(List.length x_3.snd.snd) : Int)) (chk (InR (List.getD x_3.snd.snd (Int.toNat x_5.fst) (0 : Int) - if List.getD x_3.snd.snd (Int.toNat x_5.fst) (0 : Int) < x_7.fst then List.getD x_3.snd.snd (Int.toNat x_5.fst) (0 : Int) else x_7.fst)) (chk ((0 : Int) ≤ x_5.fst ∧ x_5.fst < (↑(List.length x_3.snd.snd) : Int)) (chk ((0 : Int) ≤ x_6.fst ∧ x_6.fst < (↑(List.set x_3.snd.snd (Int.toNat x_5.fst) (List.getD x_3.snd.snd (Int.toNat x_5.fst) (0 : Int) - if List.getD x_3.snd.snd (Int.toNat x_5.fst) (0 : Int) < x_7.fst then List.getD x_3.snd.snd (Int.toNat x_5.fst) (0 : Int) else x_7.fst)).length : Int)) (chk (InR ((List.set x_3.snd.snd (Int.toNat x_5.fst) (List.getD x_3.snd.snd (Int.toNat x_5.fst) (0 : Int) - if List.getD x_3.snd.snd (Int.toNat x_5.fst) (0 : Int) < x_7.fst then List.getD x_3.snd.snd (Int.toNat x_5.fst) (0 : Int) else x_7.fst)).getD (Int.toNat x_6.fst) (0 : Int) + if List.getD x_3.snd.snd (Int.toNat x_5.fst) (0 : Int) < x_7.fst then List.getD x_3.snd.snd (Int.toNat x_5.fst) (0 : Int) else x_7.fst)) (chk ((0 : Int) ≤ x_6.fst ∧ x_6.fst < (↑(List.set x_3.snd.snd (Int.toNat x_5.fst) (List.getD x_3.snd.snd (Int.toNat x_5.fst) (0 : Int) - if List.getD x_3.snd.snd (Int.toNat x_5.fst) (0 : Int) < x_7.fst then List.getD x_3.snd.snd (Int.toNat x_5.fst) (0 : Int) else x_7.fst)).length : Int)) (chk (InR (x_3.fst + (1 : Int))) (x_4 ((x_3.fst + (1 : Int), x_7.snd, (List.set x_3.snd.snd (Int.toNat x_5.fst) (List.getD x_3.snd.snd (Int.toNat x_5.fst) (0 : Int) - if List.getD x_3.snd.snd (Int.toNat x_5.fst) (0 : Int) < x_7.fst then List.getD x_3.snd.snd (Int.toNat x_5.fst) (0 : Int) else x_7.fst)).set (Int.toNat x_6.fst) ((List.set x_3.snd.snd (Int.toNat x_5.fst) (List.getD x_3.snd.snd (Int.toNat x_5.fst) (0 : Int) - if List.getD x_3.snd.snd (Int.toNat x_5.fst) (0 : Int) < x_7.fst then List.getD x_3.snd.snd (Int.toNat x_5.fst) (0 : Int) else x_7.fst)).getD (Int.toNat x_6.fst) (0 : Int) + if List.getD x_3.snd.snd (Int.toNat x_5.fst) (0 : Int) < x_7.fst then List.getD x_3.snd.snd (Int.toNat x_5.fst) (0 : Int) else x_7.fst)))))))))))) (fun x_7 => brk (decide (x_6.snd ≥ (↑a1.length : Int))) (x_7 (((0 : Int), x_6.snd))) (chk (InR (x_6.snd + (1 : Int))) (chk (InR (x_6.snd + (1 : Int) - (1 : Int))) (chk ((0 : Int) ≤ x_6.snd + (1 : Int) - (1 : Int) ∧ x_6.snd + (1 : Int) - (1 : Int) < (↑a1.length : Int)) (chk (InR (a1.getD (x_6.snd + (1 : Int) - (1 : Int)).toNat (0 : Int))) (chk ((0 : Int) ≤ a1.getD (x_6.snd + (1 : Int) - (1 : Int)).toNat (0 : Int) ∧ a1.getD (x_6.snd + (1 : Int) - (1 : Int)).toNat (0 : Int) ≤ (9223372036854775807 : Int)) (x_7 ((a1.getD (x_6.snd + (1 : Int) - (1 : Int)).toNat (0 : Int) % (20 : Int), x_6.snd + (1 : Int))))))))))) (fun x_6 => brk (decide (x_5.snd ≥ (↑a1.length : Int))) (x_6 (((0 : Int), x_5.snd))) (chk (InR (x_5.snd + (1 : Int))) (chk (InR (x_5.snd + (1 : Int) - (1 : Int))) (chk ((0 : Int) ≤ x_5.snd + (1 : Int) - (1 : Int) ∧ x_5.snd + (1 : Int) - (1 : Int) < (↑a1.length : Int)) (chk (InR (a1.getD (x_5.snd + (1 : Int) - (1 : Int)).toNat (0 : Int))) (chk (((0 : Int) ≤ a1.getD (x_5.snd + (1 : Int) - (1 : Int)).toNat (0 : Int) ∧ a1.getD (x_5.snd + (1 : Int) - (1 : Int)).toNat (0 : Int) ≤ (9223372036854775807 : Int)) ∧ (0 : Int) < (↑(List.length x_3.snd.snd) : Int)) (x_6 ((a1.getD (x_5.snd + (1 : Int) - (1 : Int)).toNat (0 : Int) % (↑(List.length x_3.snd.snd) : Int), x_5.snd + (1 : Int))))))))))) (fun x_5 => brk (decide (x_3.snd.fst ≥ (↑a1.length : Int))) (x_5 (((0 : Int), x_3.snd.fst))) (chk (InR (x_3.snd.fst + (1 : Int))) (chk (InR (x_3.snd.fst + (1 : Int) - (1 : Int))) (chk ((0 : Int) ≤ x_3.snd.fst + (1 : Int) - (1 : Int) ∧ x_3.snd.fst + (1 : Int) - (1 : Int) < (↑a1.length : Int)) (chk (InR (a1.getD (x_3.snd.fst + (1 : Int) - (1 : Int)).toNat (0 : Int))) (chk (((0 : Int) ≤ a1.getD (x_3.snd.fst + (1 : Int) - (1 : Int)).toNat (0 : Int) ∧ a1.getD (x_3.snd.fst + (1 : Int) - (1 : Int)).toNat (0 : Int) ≤ (9223372036854775807 : Int)) ∧ (0 : Int) < (↑(List.length x_3.snd.snd) : Int)) (x_5 ((a1.getD (x_3.snd.fst + (1 : Int) - (1 : Int)).toNat (0 : Int) % (↑(List.length x_3.snd.snd) : Int), x_3.snd.fst + (1 : Int))))))))))) (join F (fun (x_5 : List (Int)) => bnd (fees_Core F x x_5) (fun (x_6 : (Bool) × (Int)) => brk (x_6.snd != (0 : Int)) (some (false)) (chk (((0 : Int) ≤ (↑(List.length x) : Int) ∧ (↑(List.length x) : Int) ≤ (62 : Int)) ∧ InR ((1 : Int) * (2 : Int) ^ (↑(List.length x) : Int).toNat)) (chk (InR ((1 : Int) * (2 : Int) ^ (↑(List.length x) : Int).toNat - (1 : Int))) (loopC (fun (x_7 : (Int) × ((Int) × (Int))) => fun x_8 => brk (decide (x_7.fst < (↑(List.length x) : Int))) (join F (fun (x_9 : (Int) × (Int)) => chk (InR (x_7.fst + (1 : Int))) (x_8 ((x_7.fst + (1 : Int), x_9.fst, x_9.snd)))) (fun x_9 => chk ((0 : Int) ≤ x_7.fst ∧ x_7.fst < (↑(List.length x) : Int)) (chk ((0 : Int) ≤ x_7.fst ∧ x_7.fst ≤ (↑IntKind.i64.bits : Int)) (brk (((1 : Int) * (2 : Int) ^ (↑(List.length x) : Int).toNat - (1 : Int)).fdiv ((2 : Int) ^ Int.toNat x_7.fst) % (2 : Int) == (1 : Int)) (chk ((0 : Int) ≤ x_7.fst ∧ x_7.fst < (↑(List.length x_5) : Int)) (chk (InR (x_7.snd.fst + List.getD x_5 (Int.toNat x_7.fst) (0 : Int))) (x_9 ((x_7.snd.fst + List.getD x_5 (Int.toNat x_7.fst) (0 : Int), if List.getD x (Int.toNat x_7.fst) (0 : Int) > x_7.snd.snd then List.getD x (Int.toNat x_7.fst) (0 : Int) else x_7.snd.snd))))) (x_9 ((x_7.snd.fst, x_7.snd.snd))))))) (brk (x_6.fst && !x_7.snd.fst == x_7.snd.snd) (some (false)) (chk (InR a2) (chk (((0 : Int) ≤ (↑(List.length x) : Int) ∧ (↑(List.length x) : Int) ≤ (62 : Int)) ∧ InR ((1 : Int) * (2 : Int) ^ (↑(List.length x) : Int).toNat)) (chk (((0 : Int) ≤ a2 ∧ a2 ≤ (9223372036854775807 : Int)) ∧ (0 : Int) < (1 : Int) * (2 : Int) ^ (↑(List.length x) : Int).toNat) (loopC (fun (x_9 : (Int) × ((Int) × (Int))) => fun x_10 => brk (decide (x_9.fst < (↑(List.length x) : Int))) (join F (fun (x_11 : (Int) × (Int)) => chk (InR (x_9.fst + (1 : Int))) (x_10 ((x_9.fst + (1 : Int), x_11.fst, x_11.snd)))) (fun x_11 => chk ((0 : Int) ≤ x_9.fst ∧ x_9.fst < (↑(List.length x) : Int)) (chk ((0 : Int) ≤ x_9.fst ∧ x_9.fst ≤ (↑IntKind.i64.bits : Int)) (brk ((a2 % ((1 : Int) * (2 : Int) ^ (↑(List.length x) : Int).toNat)).fdiv ((2 : Int) ^ Int.toNat x_9.fst) % (2 : Int) == (1 : Int)) (chk ((0 : Int) ≤ x_9.fst ∧ x_9.fst < (↑(List.length x_5) : Int)) (chk (InR (x_9.snd.fst + List.getD x_5 (Int.toNat x_9.fst) (0 : Int))) (x_11 ((x_9.snd.fst + List.getD x_5 (Int.toNat x_9.fst) (0 : Int), if List.getD x (Int.toNat x_9.fst) (0 : Int) > x_9.snd.snd then List.getD x (Int.toNat x_9.fst) (0 : Int) else x_9.snd.snd))))) (x_11 ((x_9.snd.fst, x_9.snd.snd))))))) (brk (x_6.fst && decide (x_9.snd.fst > x_9.snd.snd)) (some (false)) (join F (fun (x_11 : PUnit) => bnd (law12_awake F) (fun (x_12 : Bool) => some (x_12))) (fun x_11 => brk (decide ((↑(List.length x) : Int) ≤ (6 : Int))) (loopC (fun (x_12 : (Bool) × (Int)) => fun x_13 => chk (((0 : Int) ≤ (↑(List.length x) : Int) ∧ (↑(List.length x) : Int) ≤ (62 : Int)) ∧ InR ((1 : Int) * (2 : Int) ^ (↑(List.length x) : Int).toNat)) (brk (decide (x_12.snd < (1 : Int) * (2 : Int) ^ (↑(List.length x) : Int).toNat)) (loopC (fun (x_14 : (Int) × ((Int) × (Int))) => fun x_15 => brk (decide (x_14.fst < (↑(List.length x) : Int))) (join F (fun (x_16 : (Int) × (Int)) => chk (InR (x_14.fst + (1 : Int))) (x_15 ((x_14.fst + (1 : Int), x_16.fst, x_16.snd)))) (fun x_16 => chk ((0 : Int) ≤ x_14.fst ∧ x_14.fst < (↑(List.length x) : Int)) (chk ((0 : Int) ≤ x_14.fst ∧ x_14.fst ≤ (↑IntKind.i64.bits : Int)) (brk (Int.fdiv x_12.snd ((2 : Int) ^ Int.toNat x_14.fst) % (2 : Int) == (1 : Int)) (chk ((0 : Int) ≤ x_14.fst ∧ x_14.fst < (↑(List.length x_5) : Int)) (chk (InR (x_14.snd.fst + List.getD x_5 (Int.toNat x_14.fst) (0 : Int))) (x_16 ((x_14.snd.fst + List.getD x_5 (Int.toNat x_14.fst) (0 : Int), if List.getD x (Int.toNat x_14.fst) (0 : Int) > x_14.snd.snd then List.getD x (Int.toNat x_14.fst) (0 : Int) else x_14.snd.snd))))) (x_16 ((x_14.snd.fst, x_14.snd.snd))))))) (chk (InR (x_12.snd + (1 : Int))) (x_13 ((x_12.fst && decide (x_14.snd.fst ≤ x_14.snd.snd), x_12.snd + (1 : Int)))))) (F) (((0 : Int), (0 : Int), (0 : Int)))) (brk (!x_12.fst == x_6.fst) (some (false)) (x_11 (()))))) (F) ((x_7.snd.fst == x_7.snd.snd, (1 : Int)))) (x_11 (())))))) (F) (((0 : Int), (0 : Int), (0 : Int))))))))) (F) (((0 : Int), (0 : Int), (0 : Int)))))))) (fun x_5 => join F (fun (x_6 : (Int) × (Int)) => brk (x_6.fst == (0 : Int)) (join F (fun (x_7 : (Int) × (Int)) => chk ((0 : Int) ≤ x_7.fst ∧ x_7.fst < (↑(List.length x_3.snd.snd) : Int)) (join F (fun (x_8 : (Int) × (Int)) => chk (InR (List.getD x_3.snd.snd (Int.toNat x_7.fst) (0 : Int) + x_8.fst)) (chk ((0 : Int) ≤ x_7.fst ∧ x_7.fst < (↑(List.length x_3.snd.snd) : Int)) (x_5 (List.set x_3.snd.snd (Int.toNat x_7.fst) (List.getD x_3.snd.snd (Int.toNat x_7.fst) (0 : Int) + x_8.fst))))) (fun x_8 => brk (decide (x_7.snd ≥ (↑a1.length : Int))) (x_8 (((0 : Int), x_7.snd))) (chk (InR (x_7.snd + (1 : Int))) (chk (InR (x_7.snd + (1 : Int) - (1 : Int))) (chk ((0 : Int) ≤ x_7.snd + (1 : Int) - (1 : Int) ∧ x_7.snd + (1 : Int) - (1 : Int) < (↑a1.length : Int)) (chk (InR (a1.getD (x_7.snd + (1 : Int) - (1 : Int)).toNat (0 : Int))) (chk ((0 : Int) ≤ a1.getD (x_7.snd + (1 : Int) - (1 : Int)).toNat (0 : Int) ∧ a1.getD (x_7.snd + (1 : Int) - (1 : Int)).toNat (0 : Int) ≤ (9223372036854775807 : Int)) (x_8 ((a1.getD (x_7.snd + (1 : Int) - (1 : Int)).toNat (0 : Int) % (3 : Int), x_7.snd + (1 : Int)))))))))))) (fun x_7 => brk (decide (x_6.snd ≥ (↑a1.length : Int))) (x_7 (((0 : Int), x_6.snd))) (chk (InR (x_6.snd + (1 : Int))) (chk (InR (x_6.snd + (1 : Int) - (1 : Int))) (chk ((0 : Int) ≤ x_6.snd + (1 : Int) - (1 : Int) ∧ x_6.snd + (1 : Int) - (1 : Int) < (↑a1.length : Int)) (chk (InR (a1.getD (x_6.snd + (1 : Int) - (1 : Int)).toNat (0 : Int))) (chk (((0 : Int) ≤ a1.getD (x_6.snd + (1 : Int) - (1 : Int)).toNat (0 : Int) ∧ a1.getD (x_6.snd + (1 : Int) - (1 : Int)).toNat (0 : Int) ≤ (9223372036854775807 : Int)) ∧ (0 : Int) < (↑(List.length x_3.snd.snd) : Int)) (x_7 ((a1.getD (x_6.snd + (1 : Int) - (1 : Int)).toNat (0 : Int) % (↑(List.length x_3.snd.snd) : Int), x_6.snd + (1 : Int))))))))))) (x_5 (x_3.snd.snd))) (fun x_6 => brk (decide (x_3.snd.fst ≥ (↑a1.length : Int))) (x_6 (((0 : Int), x_3.snd.fst))) (chk (InR (x_3.snd.fst + (1 : Int))) (chk (InR (x_3.snd.fst + (1 : Int) - (1 : Int))) (chk ((0 : Int) ≤ x_3.snd.fst + (1 : Int) - (1 : Int) ∧ x_3.snd.fst + (1 : Int) - (1 : Int) < (↑a1.length : Int)) (chk (InR (a1.getD (x_3.snd.fst + (1 : Int) - (1 : Int)).toNat (0 : Int))) (chk ((0 : Int) ≤ a1.getD (x_3.snd.fst + (1 : Int) - (1 : Int)).toNat (0 : Int) ∧ a1.getD (x_3.snd.fst + (1 : Int) - (1 : Int)).toNat (0 : Int) ≤ (9223372036854775807 : Int)) (x_6 ((a1.getD (x_3.snd.fst + (1 : Int) - (1 : Int)).toNat (0 : Int) % (8 : Int), x_3.snd.fst + (1 : Int))))))))))))) (F) (((0 : Int), x_2.snd, x_1.fst))) (fun x_2 => brk (decide ((0 : Int) ≥ (↑a1.length : Int))) (x_2 (((0 : Int), (0 : Int)))) (chk ((0 : Int) ≤ IntKind.i64.wrap (IntKind.i64.wrap ((0 : Int) + (1 : Int)) - (1 : Int)) ∧ IntKind.i64.wrap (IntKind.i64.wrap ((0 : Int) + (1 : Int)) - (1 : Int)) < (↑a1.length : Int)) (chk (InR (a1.getD (IntKind.i64.wrap (IntKind.i64.wrap ((0 : Int) + (1 : Int)) - (1 : Int))).toNat (0 : Int))) (chk ((0 : Int) ≤ a1.getD (IntKind.i64.wrap (IntKind.i64.wrap ((0 : Int) + (1 : Int)) - (1 : Int))).toNat (0 : Int) ∧ a1.getD (IntKind.i64.wrap (IntKind.i64.wrap ((0 : Int) + (1 : Int)) - (1 : Int))).toNat (0 : Int) ≤ (9223372036854775807 : Int)) (x_2 ((a1.getD (IntKind.i64.wrap (IntKind.i64.wrap ((0 : Int) + (1 : Int)) - (1 : Int))).toNat (0 : Int) % (4 : Int), IntKind.i64.wrap ((0 : Int) + (1 : Int))))))))))))
noncomputable def s10 (F : Nat) : CS E.G := ⟨10, [.sl 2, .sl 2, .v 8 false], [.v 1 false []], fun x => law12_FeesAsked F x.1 x.2.1 x.2.2.1⟩
noncomputable def cx10 (F : Nat) : Ctx E := ⟨[s13 F, s39 F, s41 F, s43 F], [(20, Try.f20), (73, Try.f73), (44, Try.f44)], F, []⟩
noncomputable def h10 : Hint := (.c .n (.p (.w ⟨[.i, .i], [], [1, 7, 6], [(0, .i IntKind.i64)], [], [(7, 0, .i IntKind.i64)], [], 8⟩ .n (.l ⟨[.i, .i, .l 0], [32, 128, 160, 112, 688], [5, 7, 6, 3, 4, 1, 2], [(704, .i IntKind.i64)], [], [(7, 0, .i IntKind.i64)], [(4, 3, 0)], 8⟩ (.c (.w ⟨[.i, .i], [], [1, 7, 6], [(0, .i IntKind.i64)], [], [(7, 0, .i IntKind.i64)], [], 8⟩ .n (.w ⟨[.i, .i], [], [1, 7, 6], [(0, .i IntKind.i64)], [], [(7, 0, .i IntKind.i64)], [], 8⟩ .n (.w ⟨[.i, .i], [], [1, 7, 6], [(0, .i IntKind.i64)], [], [(7, 0, .i IntKind.i64)], [], 8⟩ .n .n))) (.j ⟨[.l 0], [32, 128, 112], [5, 3, 4, 2], [], [], [], [(4, 3, 0)], 8⟩ (.w ⟨[.i, .i], [], [1, 7, 6], [(0, .i IntKind.i64)], [], [(7, 0, .i IntKind.i64)], [], 8⟩ .n (.c (.w ⟨[.i, .i], [], [1, 7, 6], [(0, .i IntKind.i64)], [], [(7, 0, .i IntKind.i64)], [], 8⟩ .n (.w ⟨[.i, .i], [], [1, 7, 6], [(0, .i IntKind.i64)], [], [(7, 0, .i IntKind.i64)], [], 8⟩ .n .n)) .n)) (.c .n (.p (.l ⟨[.i, .i, .i], [0, 32, 160, 176], [3, 5, 2, 4], [(192, .i IntKind.i64), (96, .i IntKind.i64), (112, .i IntKind.i64)], [], [], [], 8⟩ (.c (.j ⟨[.i, .i], [0, 32, 192, 160, 176], [3, 5, 2, 4], [(96, .i IntKind.i64), (112, .i IntKind.i64)], [], [], [], 8⟩ .n .n) (.c .n (.p (.l ⟨[.i, .i, .i], [0, 32, 160, 176], [3, 5, 2, 4], [(192, .i IntKind.i64), (96, .i IntKind.i64), (112, .i IntKind.i64)], [], [], [], 8⟩ (.c (.j ⟨[.i, .i], [0, 32, 192, 160, 176], [3, 5, 2, 4], [(96, .i IntKind.i64), (112, .i IntKind.i64)], [], [], [], 8⟩ .n .n) (.c .n (.j ⟨[], [], [], [], [], [], [], 8⟩ (.c (.l ⟨[.b, .i], [224, 112, 240], [3, 5, 2, 4], [(288, .b), (336, .i IntKind.i64)], [], [], [], 8⟩ (.c (.p (.l ⟨[.i, .i, .i], [0, 32, 160, 176], [3, 5, 2, 4], [(192, .i IntKind.i64), (96, .i IntKind.i64), (112, .i IntKind.i64)], [], [], [], 8⟩ (.c (.j ⟨[.i, .i], [0, 32, 192, 160, 176], [3, 5, 2, 4], [(96, .i IntKind.i64), (112, .i IntKind.i64)], [], [], [], 8⟩ .n .n) .n))) .n)) .n) .n))))))))))))))))
theorem e10 (F : Nat) (a0 : List Int) (a1 : List Int) (a2 : Int) : fnK (E := E) (cx10 F) Try.f10 [] [.sl 2, .sl 2, .v 8 false] [.v 1 false []] h10 (a0, a1, a2, ()) = law12_FeesAsked F a0 a1 a2 := by kernel_rfl
theorem c10 (F : Nat) : CSok E [] (s10 F) := ⟨en10, by
  have h := fn_sound (E := E) (gl := []) (cx := cx10 F) mix (allC (c13 F) (allC (c39 F) (allC (c41 F) (allC (c43 F) all0)))) (inlC hf20 en20 (inlC hf73 en73 (inlC hf44 en44 inl0))) rfl (fun _ h => nomatch h) hf10 (ps := [.sl 2, .sl 2, .v 8 false]) (rs := [.v 1 false []]) (by decide) h10
  rwa [show fnK (E := E) (cx10 F) Try.f10 [] [.sl 2, .sl 2, .v 8 false] [.v 1 false []] h10 = (fun x : AT E.G.car [.sl 2, .sl 2, .v 8 false] => law12_FeesAsked F x.1 x.2.1 x.2.2.1) from funext fun x => e10 F x.1 x.2.1 x.2.2.1] at h⟩
theorem hf9 : Try.prog.funcs[9]? = some Try.f9 := by kernel_rfl
theorem en9 : Proofs.Enters Try.prog 9 := Proofs.enters_of hf9 (by kernel_rfl) rfl
noncomputable def law12_FeesCore (F : Nat) (a0 : List Int) (a1 : Int) : Option (Bool) :=
  bnd (law12_wants F a0) (fun (x : List (Int)) => bnd (fees_Exact F x) (fun (x_1 : (List (Ratio)) × (Int)) => bnd (fees_Share F x) (fun (x_2 : (List (Int)) × (Int)) => brk (x_1.snd != (0 : Int) || x_2.snd != (0 : Int) || (↑(List.length x_1.fst) : Int) != (↑(List.length x) : Int) || (↑(List.length x_2.fst) : Int) != (↑(List.length x) : Int)) (some (false)) (loopC (fun (x_3 : (Int) × ((Int) × ((Bool) × ((Int) × ((Int) × (Int)))))) => fun x_4 => brk (decide (x_3.snd.snd.snd.fst < (↑(List.length x_1.fst) : Int))) (chk ((0 : Int) ≤ x_3.snd.snd.snd.fst ∧ x_3.snd.snd.snd.fst < (↑(List.length x_1.fst) : Int)) (chk ((!decide ((List.getD x_1.fst (Int.toNat x_3.snd.snd.snd.fst) (Ratio.mk (0 : Int) (0 : Int))).D < (1 : Int))) = true → ((0 : Int) ≤ (27720 : Int) ∧ (27720 : Int) ≤ (9223372036854775807 : Int)) ∧ (0 : Int) < (List.getD x_1.fst (Int.toNat x_3.snd.snd.snd.fst) (Ratio.mk (0 : Int) (0 : Int))).D) (brk (decide ((List.getD x_1.fst (Int.toNat x_3.snd.snd.snd.fst) (Ratio.mk (0 : Int) (0 : Int))).D < (1 : Int)) || (27720 : Int) % (List.getD x_1.fst (Int.toNat x_3.snd.snd.snd.fst) (Ratio.mk (0 : Int) (0 : Int))).D != (0 : Int) || decide ((List.getD x_1.fst (Int.toNat x_3.snd.snd.snd.fst) (Ratio.mk (0 : Int) (0 : Int))).N < (0 : Int))) (some (false)) (chk (((0 : Int) ≤ (27720 : Int) ∧ (27720 : Int) ≤ (9223372036854775807 : Int)) ∧ (0 : Int) < (List.getD x_1.fst (Int.toNat x_3.snd.snd.snd.fst) (Ratio.mk (0 : Int) (0 : Int))).D) (chk (InR ((List.getD x_1.fst (Int.toNat x_3.snd.snd.snd.fst) (Ratio.mk (0 : Int) (0 : Int))).N * ((27720 : Int) / (List.getD x_1.fst (Int.toNat x_3.snd.snd.snd.fst) (Ratio.mk (0 : Int) (0 : Int))).D))) (chk (InR (x_3.fst + (List.getD x_1.fst (Int.toNat x_3.snd.snd.snd.fst) (Ratio.mk (0 : Int) (0 : Int))).N * ((27720 : Int) / (List.getD x_1.fst (Int.toNat x_3.snd.snd.snd.fst) (Ratio.mk (0 : Int) (0 : Int))).D))) (chk ((0 : Int) ≤ x_3.snd.snd.snd.fst ∧ x_3.snd.snd.snd.fst < (↑(List.length x_2.fst) : Int)) (chk (InR (x_3.snd.snd.snd.snd.fst + List.getD x_2.fst (Int.toNat x_3.snd.snd.snd.fst) (0 : Int))) (join F (fun (x_5 : (Int) × (Int)) => chk ((0 : Int) ≤ x_3.snd.snd.snd.fst ∧ x_3.snd.snd.snd.fst < (↑(List.length x_2.fst) : Int)) (chk (InR ((27720 : Int) * List.getD x_2.fst (Int.toNat x_3.snd.snd.snd.fst) (0 : Int))) (chk (InR ((List.getD x_1.fst (Int.toNat x_3.snd.snd.snd.fst) (Ratio.mk (0 : Int) (0 : Int))).N * ((27720 : Int) / (List.getD x_1.fst (Int.toNat x_3.snd.snd.snd.fst) (Ratio.mk (0 : Int) (0 : Int))).D) - (27720 : Int))) (chk ((!decide ((27720 : Int) * List.getD x_2.fst (Int.toNat x_3.snd.snd.snd.fst) (0 : Int) ≤ (List.getD x_1.fst (Int.toNat x_3.snd.snd.snd.fst) (Ratio.mk (0 : Int) (0 : Int))).N * ((27720 : Int) / (List.getD x_1.fst (Int.toNat x_3.snd.snd.snd.fst) (Ratio.mk (0 : Int) (0 : Int))).D) - (27720 : Int))) = true → (0 : Int) ≤ x_3.snd.snd.snd.fst ∧ x_3.snd.snd.snd.fst < (↑(List.length x_2.fst) : Int)) (chk ((!decide ((27720 : Int) * List.getD x_2.fst (Int.toNat x_3.snd.snd.snd.fst) (0 : Int) ≤ (List.getD x_1.fst (Int.toNat x_3.snd.snd.snd.fst) (Ratio.mk (0 : Int) (0 : Int))).N * ((27720 : Int) / (List.getD x_1.fst (Int.toNat x_3.snd.snd.snd.fst) (Ratio.mk (0 : Int) (0 : Int))).D) - (27720 : Int))) = true → InR ((27720 : Int) * List.getD x_2.fst (Int.toNat x_3.snd.snd.snd.fst) (0 : Int))) (chk ((!decide ((27720 : Int) * List.getD x_2.fst (Int.toNat x_3.snd.snd.snd.fst) (0 : Int) ≤ (List.getD x_1.fst (Int.toNat x_3.snd.snd.snd.fst) (Ratio.mk (0 : Int) (0 : Int))).N * ((27720 : Int) / (List.getD x_1.fst (Int.toNat x_3.snd.snd.snd.fst) (Ratio.mk (0 : Int) (0 : Int))).D) - (27720 : Int))) = true → InR ((List.getD x_1.fst (Int.toNat x_3.snd.snd.snd.fst) (Ratio.mk (0 : Int) (0 : Int))).N * ((27720 : Int) / (List.getD x_1.fst (Int.toNat x_3.snd.snd.snd.fst) (Ratio.mk (0 : Int) (0 : Int))).D) + (27720 : Int))) (brk (decide ((27720 : Int) * List.getD x_2.fst (Int.toNat x_3.snd.snd.snd.fst) (0 : Int) ≤ (List.getD x_1.fst (Int.toNat x_3.snd.snd.snd.fst) (Ratio.mk (0 : Int) (0 : Int))).N * ((27720 : Int) / (List.getD x_1.fst (Int.toNat x_3.snd.snd.snd.fst) (Ratio.mk (0 : Int) (0 : Int))).D) - (27720 : Int)) || decide ((27720 : Int) * List.getD x_2.fst (Int.toNat x_3.snd.snd.snd.fst) (0 : Int) ≥ (List.getD x_1.fst (Int.toNat x_3.snd.snd.snd.fst) (Ratio.mk (0 : Int) (0 : Int))).N * ((27720 : Int) / (List.getD x_1.fst (Int.toNat x_3.snd.snd.snd.fst) (Ratio.mk (0 : Int) (0 : Int))).D) + (27720 : Int))) (some (false)) (chk ((0 : Int) ≤ (0 : Int) ∧ (0 : Int) ≤ x_3.snd.snd.snd.fst ∧ x_3.snd.snd.snd.fst ≤ (↑(List.length x_1.fst) : Int)) (loopC (fun (x_6 : Int) => fun x_7 => brk (decide (x_6 < x_3.snd.snd.snd.fst - (0 : Int))) (chk ((0 : Int) ≤ x_6 ∧ x_6 < x_3.snd.snd.snd.fst - (0 : Int)) (chk ((!decide ((List.getD x_1.fst ((0 : Int) + x_6).toNat (Ratio.mk (0 : Int) (0 : Int))).D < (1 : Int))) = true → (0 : Int) ≤ x_3.snd.snd.snd.fst ∧ x_3.snd.snd.snd.fst < (↑(List.length x) : Int)) (chk ((!decide ((List.getD x_1.fst ((0 : Int) + x_6).toNat (Ratio.mk (0 : Int) (0 : Int))).D < (1 : Int))) = true → (0 : Int) ≤ x_6 ∧ x_6 < (↑(List.length x) : Int)) (chk ((!(decide ((List.getD x_1.fst ((0 : Int) + x_6).toNat (Ratio.mk (0 : Int) (0 : Int))).D < (1 : Int)) || List.getD x (Int.toNat x_3.snd.snd.snd.fst) (0 : Int) == List.getD x (Int.toNat x_6) (0 : Int) && !((List.getD x_1.fst (Int.toNat x_3.snd.snd.snd.fst) (Ratio.mk (0 : Int) (0 : Int))).N == (List.getD x_1.fst ((0 : Int) + x_6).toNat (Ratio.mk (0 : Int) (0 : Int))).N && ((List.getD x_1.fst (Int.toNat x_3.snd.snd.snd.fst) (Ratio.mk (0 : Int) (0 : Int))).D == (List.getD x_1.fst ((0 : Int) + x_6).toNat (Ratio.mk (0 : Int) (0 : Int))).D && true)))) = true → (0 : Int) ≤ x_3.snd.snd.snd.fst ∧ x_3.snd.snd.snd.fst < (↑(List.length x) : Int)) (chk ((!(decide ((List.getD x_1.fst ((0 : Int) + x_6).toNat (Ratio.mk (0 : Int) (0 : Int))).D < (1 : Int)) || List.getD x (Int.toNat x_3.snd.snd.snd.fst) (0 : Int) == List.getD x (Int.toNat x_6) (0 : Int) && !((List.getD x_1.fst (Int.toNat x_3.snd.snd.snd.fst) (Ratio.mk (0 : Int) (0 : Int))).N == (List.getD x_1.fst ((0 : Int) + x_6).toNat (Ratio.mk (0 : Int) (0 : Int))).N && ((List.getD x_1.fst (Int.toNat x_3.snd.snd.snd.fst) (Ratio.mk (0 : Int) (0 : Int))).D == (List.getD x_1.fst ((0 : Int) + x_6).toNat (Ratio.mk (0 : Int) (0 : Int))).D && true)))) = true → (0 : Int) ≤ x_6 ∧ x_6 < (↑(List.length x) : Int)) (chk ((!(decide ((List.getD x_1.fst ((0 : Int) + x_6).toNat (Ratio.mk (0 : Int) (0 : Int))).D < (1 : Int)) || List.getD x (Int.toNat x_3.snd.snd.snd.fst) (0 : Int) == List.getD x (Int.toNat x_6) (0 : Int) && !((List.getD x_1.fst (Int.toNat x_3.snd.snd.snd.fst) (Ratio.mk (0 : Int) (0 : Int))).N == (List.getD x_1.fst ((0 : Int) + x_6).toNat (Ratio.mk (0 : Int) (0 : Int))).N && ((List.getD x_1.fst (Int.toNat x_3.snd.snd.snd.fst) (Ratio.mk (0 : Int) (0 : Int))).D == (List.getD x_1.fst ((0 : Int) + x_6).toNat (Ratio.mk (0 : Int) (0 : Int))).D && true))) && decide (List.getD x (Int.toNat x_3.snd.snd.snd.fst) (0 : Int) > List.getD x (Int.toNat x_6) (0 : Int))) = true → InR ((List.getD x_1.fst (Int.toNat x_3.snd.snd.snd.fst) (Ratio.mk (0 : Int) (0 : Int))).N * (List.getD x_1.fst ((0 : Int) + x_6).toNat (Ratio.mk (0 : Int) (0 : Int))).D)) (chk ((!(decide ((List.getD x_1.fst ((0 : Int) + x_6).toNat (Ratio.mk (0 : Int) (0 : Int))).D < (1 : Int)) || List.getD x (Int.toNat x_3.snd.snd.snd.fst) (0 : Int) == List.getD x (Int.toNat x_6) (0 : Int) && !((List.getD x_1.fst (Int.toNat x_3.snd.snd.snd.fst) (Ratio.mk (0 : Int) (0 : Int))).N == (List.getD x_1.fst ((0 : Int) + x_6).toNat (Ratio.mk (0 : Int) (0 : Int))).N && ((List.getD x_1.fst (Int.toNat x_3.snd.snd.snd.fst) (Ratio.mk (0 : Int) (0 : Int))).D == (List.getD x_1.fst ((0 : Int) + x_6).toNat (Ratio.mk (0 : Int) (0 : Int))).D && true))) && decide (List.getD x (Int.toNat x_3.snd.snd.snd.fst) (0 : Int) > List.getD x (Int.toNat x_6) (0 : Int))) = true → InR ((List.getD x_1.fst ((0 : Int) + x_6).toNat (Ratio.mk (0 : Int) (0 : Int))).N * (List.getD x_1.fst (Int.toNat x_3.snd.snd.snd.fst) (Ratio.mk (0 : Int) (0 : Int))).D)) (chk ((!(decide ((List.getD x_1.fst ((0 : Int) + x_6).toNat (Ratio.mk (0 : Int) (0 : Int))).D < (1 : Int)) || List.getD x (Int.toNat x_3.snd.snd.snd.fst) (0 : Int) == List.getD x (Int.toNat x_6) (0 : Int) && !((List.getD x_1.fst (Int.toNat x_3.snd.snd.snd.fst) (Ratio.mk (0 : Int) (0 : Int))).N == (List.getD x_1.fst ((0 : Int) + x_6).toNat (Ratio.mk (0 : Int) (0 : Int))).N && ((List.getD x_1.fst (Int.toNat x_3.snd.snd.snd.fst) (Ratio.mk (0 : Int) (0 : Int))).D == (List.getD x_1.fst ((0 : Int) + x_6).toNat (Ratio.mk (0 : Int) (0 : Int))).D && true)) || decide (List.getD x (Int.toNat x_3.snd.snd.snd.fst) (0 : Int) > List.getD x (Int.toNat x_6) (0 : Int)) && decide ((List.getD x_1.fst (Int.toNat x_3.snd.snd.snd.fst) (Ratio.mk (0 : Int) (0 : Int))).N * (List.getD x_1.fst ((0 : Int) + x_6).toNat (Ratio.mk (0 : Int) (0 : Int))).D < (List.getD x_1.fst ((0 : Int) + x_6).toNat (Ratio.mk (0 : Int) (0 : Int))).N * (List.getD x_1.fst (Int.toNat x_3.snd.snd.snd.fst) (Ratio.mk (0 : Int) (0 : Int))).D))) = true → (0 : Int) ≤ x_3.snd.snd.snd.fst ∧ x_3.snd.snd.snd.fst < (↑(List.length x) : Int)) (chk ((!(decide ((List.getD x_1.fst ((0 : Int) + x_6).toNat (Ratio.mk (0 : Int) (0 : Int))).D < (1 : Int)) || List.getD x (Int.toNat x_3.snd.snd.snd.fst) (0 : Int) == List.getD x (Int.toNat x_6) (0 : Int) && !((List.getD x_1.fst (Int.toNat x_3.snd.snd.snd.fst) (Ratio.mk (0 : Int) (0 : Int))).N == (List.getD x_1.fst ((0 : Int) + x_6).toNat (Ratio.mk (0 : Int) (0 : Int))).N && ((List.getD x_1.fst (Int.toNat x_3.snd.snd.snd.fst) (Ratio.mk (0 : Int) (0 : Int))).D == (List.getD x_1.fst ((0 : Int) + x_6).toNat (Ratio.mk (0 : Int) (0 : Int))).D && true)) || decide (List.getD x (Int.toNat x_3.snd.snd.snd.fst) (0 : Int) > List.getD x (Int.toNat x_6) (0 : Int)) && decide ((List.getD x_1.fst (Int.toNat x_3.snd.snd.snd.fst) (Ratio.mk (0 : Int) (0 : Int))).N * (List.getD x_1.fst ((0 : Int) + x_6).toNat (Ratio.mk (0 : Int) (0 : Int))).D < (List.getD x_1.fst ((0 : Int) + x_6).toNat (Ratio.mk (0 : Int) (0 : Int))).N * (List.getD x_1.fst (Int.toNat x_3.snd.snd.snd.fst) (Ratio.mk (0 : Int) (0 : Int))).D))) = true → (0 : Int) ≤ x_6 ∧ x_6 < (↑(List.length x) : Int)) (chk ((!(decide ((List.getD x_1.fst ((0 : Int) + x_6).toNat (Ratio.mk (0 : Int) (0 : Int))).D < (1 : Int)) || List.getD x (Int.toNat x_3.snd.snd.snd.fst) (0 : Int) == List.getD x (Int.toNat x_6) (0 : Int) && !((List.getD x_1.fst (Int.toNat x_3.snd.snd.snd.fst) (Ratio.mk (0 : Int) (0 : Int))).N == (List.getD x_1.fst ((0 : Int) + x_6).toNat (Ratio.mk (0 : Int) (0 : Int))).N && ((List.getD x_1.fst (Int.toNat x_3.snd.snd.snd.fst) (Ratio.mk (0 : Int) (0 : Int))).D == (List.getD x_1.fst ((0 : Int) + x_6).toNat (Ratio.mk (0 : Int) (0 : Int))).D && true)) || decide (List.getD x (Int.toNat x_3.snd.snd.snd.fst) (0 : Int) > List.getD x (Int.toNat x_6) (0 : Int)) && decide ((List.getD x_1.fst (Int.toNat x_3.snd.snd.snd.fst) (Ratio.mk (0 : Int) (0 : Int))).N * (List.getD x_1.fst ((0 : Int) + x_6).toNat (Ratio.mk (0 : Int) (0 : Int))).D < (List.getD x_1.fst ((0 : Int) + x_6).toNat (Ratio.mk (0 : Int) (0 : Int))).N * (List.getD x_1.fst (Int.toNat x_3.snd.snd.snd.fst) (Ratio.mk (0 : Int) (0 : Int))).D)) && decide (List.getD x (Int.toNat x_3.snd.snd.snd.fst) (0 : Int) < List.getD x (Int.toNat x_6) (0 : Int))) = true → InR ((List.getD x_1.fst (Int.toNat x_3.snd.snd.snd.fst) (Ratio.mk (0 : Int) (0 : Int))).N * (List.getD x_1.fst ((0 : Int) + x_6).toNat (Ratio.mk (0 : Int) (0 : Int))).D)) (chk ((!(decide ((List.getD x_1.fst ((0 : Int) + x_6).toNat (Ratio.mk (0 : Int) (0 : Int))).D < (1 : Int)) || List.getD x (Int.toNat x_3.snd.snd.snd.fst) (0 : Int) == List.getD x (Int.toNat x_6) (0 : Int) && !((List.getD x_1.fst (Int.toNat x_3.snd.snd.snd.fst) (Ratio.mk (0 : Int) (0 : Int))).N == (List.getD x_1.fst ((0 : Int) + x_6).toNat (Ratio.mk (0 : Int) (0 : Int))).N && ((List.getD x_1.fst (Int.toNat x_3.snd.snd.snd.fst) (Ratio.mk (0 : Int) (0 : Int))).D == (List.getD x_1.fst ((0 : Int) + x_6).toNat (Ratio.mk (0 : Int) (0 : Int))).D && true)) || decide (List.getD x (Int.toNat x_3.snd.snd.snd.fst) (0 : Int) > List.getD x (Int.toNat x_6) (0 : Int)) && decide ((List.getD x_1.fst (Int.toNat x_3.snd.snd.snd.fst) (Ratio.mk (0 : Int) (0 : Int))).N * (List.getD x_1.fst ((0 : Int) + x_6).toNat (Ratio.mk (0 : Int) (0 : Int))).D < (List.getD x_1.fst ((0 : Int) + x_6).toNat (Ratio.mk (0 : Int) (0 : Int))).N * (List.getD x_1.fst (Int.toNat x_3.snd.snd.snd.fst) (Ratio.mk (0 : Int) (0 : Int))).D)) && decide (List.getD x (Int.toNat x_3.snd.snd.snd.fst) (0 : Int) < List.getD x (Int.toNat x_6) (0 : Int))) = true → InR ((List.getD x_1.fst ((0 : Int) + x_6).toNat (Ratio.mk (0 : Int) (0 : Int))).N * (List.getD x_1.fst (Int.toNat x_3.snd.snd.snd.fst) (Ratio.mk (0 : Int) (0 : Int))).D)) (brk (decide ((List.getD x_1.fst ((0 : Int) + x_6).toNat (Ratio.mk (0 : Int) (0 : Int))).D < (1 : Int)) || List.getD x (Int.toNat x_3.snd.snd.snd.fst) (0 : Int) == List.getD x (Int.toNat x_6) (0 : Int) && !((List.getD x_1.fst (Int.toNat x_3.snd.snd.snd.fst) (Ratio.mk (0 : Int) (0 : Int))).N == (List.getD x_1.fst ((0 : Int) + x_6).toNat (Ratio.mk (0 : Int) (0 : Int))).N && ((List.getD x_1.fst (Int.toNat x_3.snd.snd.snd.fst) (Ratio.mk (0 : Int) (0 : Int))).D == (List.getD x_1.fst ((0 : Int) + x_6).toNat (Ratio.mk (0 : Int) (0 : Int))).D && true)) || decide (List.getD x (Int.toNat x_3.snd.snd.snd.fst) (0 : Int) > List.getD x (Int.toNat x_6) (0 : Int)) && decide ((List.getD x_1.fst (Int.toNat x_3.snd.snd.snd.fst) (Ratio.mk (0 : Int) (0 : Int))).N * (List.getD x_1.fst ((0 : Int) + x_6).toNat (Ratio.mk (0 : Int) (0 : Int))).D < (List.getD x_1.fst ((0 : Int) + x_6).toNat (Ratio.mk (0 : Int) (0 : Int))).N * (List.getD x_1.fst (Int.toNat x_3.snd.snd.snd.fst) (Ratio.mk (0 : Int) (0 : Int))).D) || decide (List.getD x (Int.toNat x_3.snd.snd.snd.fst) (0 : Int) < List.getD x (Int.toNat x_6) (0 : Int)) && decide ((List.getD x_1.fst (Int.toNat x_3.snd.snd.snd.fst) (Ratio.mk (0 : Int) (0 : Int))).N * (List.getD x_1.fst ((0 : Int) + x_6).toNat (Ratio.mk (0 : Int) (0 : Int))).D > (List.getD x_1.fst ((0 : Int) + x_6).toNat (Ratio.mk (0 : Int) (0 : Int))).N * (List.getD x_1.fst (Int.toNat x_3.snd.snd.snd.fst) (Ratio.mk (0 : Int) (0 : Int))).D)) (some (false)) (chk (InR (x_6 + (1 : Int))) (x_7 (x_6 + (1 : Int)))))))))))))))) (chk (InR (x_3.snd.snd.snd.fst + (1 : Int))) (x_4 ((x_3.fst + (List.getD x_1.fst (Int.toNat x_3.snd.snd.snd.fst) (Ratio.mk (0 : Int) (0 : Int))).N * ((27720 : Int) / (List.getD x_1.fst (Int.toNat x_3.snd.snd.snd.fst) (Ratio.mk (0 : Int) (0 : Int))).D), x_5.fst, x_3.snd.snd.fst && (List.getD x_1.fst (Int.toNat x_3.snd.snd.snd.fst) (Ratio.mk (0 : Int) (0 : Int))).D == (1 : Int), x_3.snd.snd.snd.fst + (1 : Int), x_3.snd.snd.snd.snd.fst + List.getD x_2.fst (Int.toNat x_3.snd.snd.snd.fst) (0 : Int), x_5.snd))))) (F) ((0 : Int))))))))))) (fun x_5 => chk ((0 : Int) ≤ x_3.snd.snd.snd.fst ∧ x_3.snd.snd.snd.fst ≤ (↑IntKind.u16.bits : Int)) (brk (a1.fdiv ((2 : Int) ^ Int.toNat x_3.snd.snd.snd.fst) % (2 : Int) == (1 : Int)) (chk (InR (x_3.snd.fst + (List.getD x_1.fst (Int.toNat x_3.snd.snd.snd.fst) (Ratio.mk (0 : Int) (0 : Int))).N * ((27720 : Int) / (List.getD x_1.fst (Int.toNat x_3.snd.snd.snd.fst) (Ratio.mk (0 : Int) (0 : Int))).D))) (chk ((0 : Int) ≤ x_3.snd.snd.snd.fst ∧ x_3.snd.snd.snd.fst < (↑(List.length x) : Int)) (x_5 ((x_3.snd.fst + (List.getD x_1.fst (Int.toNat x_3.snd.snd.snd.fst) (Ratio.mk (0 : Int) (0 : Int))).N * ((27720 : Int) / (List.getD x_1.fst (Int.toNat x_3.snd.snd.snd.fst) (Ratio.mk (0 : Int) (0 : Int))).D), if List.getD x (Int.toNat x_3.snd.snd.snd.fst) (0 : Int) > x_3.snd.snd.snd.snd.snd then List.getD x (Int.toNat x_3.snd.snd.snd.fst) (0 : Int) else x_3.snd.snd.snd.snd.snd))))) (x_5 ((x_3.snd.fst, x_3.snd.snd.snd.snd.snd)))))))))))))) (bnd (slices_Max_int F x) (fun (x_5 : Int) => chk (InR ((27720 : Int) * x_5)) (chk ((!(x_3.fst != (27720 : Int) * x_5 || x_3.snd.snd.snd.snd.fst != x_5)) = true → InR ((27720 : Int) * x_3.snd.snd.snd.snd.snd)) (brk (x_3.fst != (27720 : Int) * x_5 || x_3.snd.snd.snd.snd.fst != x_5 || decide (x_3.snd.fst > (27720 : Int) * x_3.snd.snd.snd.snd.snd)) (some (false)) (join F (fun (x_6 : PUnit) => bnd (law12_awake F) (fun (x_7 : Bool) => some (x_7))) (fun x_6 => brk (x_3.snd.snd.fst) (bnd (fees_Core F x x_2.fst) (fun (x_7 : (Bool) × (Int)) => brk (x_7.snd != (0 : Int) || !x_7.fst) (some (false)) (x_6 (())))) (x_6 (()))))))))) (F) (((0 : Int), (0 : Int), true, (0 : Int), (0 : Int), (0 : Int)))))))
noncomputable def s9 (F : Nat) : CS E.G := ⟨9, [.sl 2, .v 8 false], [.v 1 false []], fun x => law12_FeesCore F x.1 x.2.1⟩
noncomputable def cx9 (F : Nat) : Ctx E := ⟨[s13 F, s35 F, s36 F, s39 F, s41 F, s43 F], [], F, []⟩
noncomputable def h9 : Hint := (.c .n (.l ⟨[.i, .i, .b, .i, .i, .i], [16, 128, 896, 96, 80, 880], [3, 2, 1], [(192, .i IntKind.i64), (160, .i IntKind.i64), (224, .b), (912, .i IntKind.i64), (208, .i IntKind.i64), (176, .i IntKind.i64)], [], [], [], 4⟩ (.c (.c .n (.k (.k (.j ⟨[.i, .i], [16, 128, 256, 896, 192, 96, 224, 80, 272, 912, 208, 240, 880], [3, 4, 2, 1], [(160, .i IntKind.i64), (176, .i IntKind.i64)], [], [], [], 5⟩ .n (.c .n (.l ⟨[.i], [16, 128, 256, 896, 192, 2112, 96, 160, 224, 80, 912, 208, 176, 2096, 240, 880], [3, 4, 2, 1], [(2128, .i IntKind.i64)], [], [], [], 5⟩ (.c .n .n))))))) (.c .n (.j ⟨[], [], [], [], [], [], [], 4⟩ (.c .n .n) .n)))))
theorem e9 (F : Nat) (a0 : List Int) (a1 : Int) : fnK (E := E) (cx9 F) Try.f9 [] [.sl 2, .v 8 false] [.v 1 false []] h9 (a0, a1, ()) = law12_FeesCore F a0 a1 := by kernel_rfl
theorem c9 (F : Nat) : CSok E [] (s9 F) := ⟨en9, by
  have h := fn_sound (E := E) (gl := []) (cx := cx9 F) mix (allC (c13 F) (allC (c35 F) (allC (c36 F) (allC (c39 F) (allC (c41 F) (allC (c43 F) all0)))))) inl0 rfl (fun _ h => nomatch h) hf9 (ps := [.sl 2, .v 8 false]) (rs := [.v 1 false []]) (by decide) h9
  rwa [show fnK (E := E) (cx9 F) Try.f9 [] [.sl 2, .v 8 false] [.v 1 false []] h9 = (fun x : AT E.G.car [.sl 2, .v 8 false] => law12_FeesCore F x.1 x.2.1) from funext fun x => e9 F x.1 x.2.1] at h⟩
theorem hf14 : Try.prog.funcs[14]? = some Try.f14 := by kernel_rfl
theorem en14 : Proofs.Enters Try.prog 14 := Proofs.enters_of hf14 (by kernel_rfl) rfl
noncomputable def kit_CopyInts (F : Nat) (a0 : List Int) : Option ((List Int)) :=
  chk (a0.length ≤ (1000000 : Nat)) (some (a0))
noncomputable def s14 (F : Nat) : CS E.G := ⟨14, [.sl 0], [.sl 0 3], fun x => kit_CopyInts F x.1⟩
noncomputable def cx14 (F : Nat) : Ctx E := ⟨[], [], F, []⟩
noncomputable def h14 : Hint := .n
theorem e14 (F : Nat) (a0 : List Int) : fnK (E := E) (cx14 F) Try.f14 [] [.sl 0] [.sl 0 3] h14 (a0, ()) = kit_CopyInts F a0 := by kernel_rfl
theorem c14 (F : Nat) : CSok E [] (s14 F) := ⟨en14, by
  have h := fn_sound (E := E) (gl := []) (cx := cx14 F) mix all0 inl0 rfl (fun _ h => nomatch h) hf14 (ps := [.sl 0]) (rs := [.sl 0 3]) (by decide) h14
  rwa [show fnK (E := E) (cx14 F) Try.f14 [] [.sl 0] [.sl 0 3] h14 = (fun x : AT E.G.car [.sl 0] => kit_CopyInts F x.1) from funext fun x => e14 F x.1] at h⟩
theorem hf19 : Try.prog.funcs[19]? = some Try.f19 := by kernel_rfl
theorem en19 : Proofs.Enters Try.prog 19 := Proofs.enters_of hf19 (by kernel_rfl) rfl
noncomputable def kit_SameInts (F : Nat) (a0 : List Int) (a1 : List Int) : Option (Bool) :=
  brk ((↑a0.length : Int) != (↑a1.length : Int)) (some (false)) (loopC (fun (x : Int) => fun x_1 => brk (decide (x < (↑a0.length : Int))) (chk ((0 : Int) ≤ x ∧ x < (↑a0.length : Int)) (chk ((0 : Int) ≤ x ∧ x < (↑a1.length : Int)) (brk (a0.getD (Int.toNat x) (0 : Int) != a1.getD (Int.toNat x) (0 : Int)) (some (false)) (chk (InR (x + (1 : Int))) (x_1 (x + (1 : Int))))))) (some (true))) (F) ((0 : Int)))
noncomputable def s19 (F : Nat) : CS E.G := ⟨19, [.sl 0, .sl 0], [.v 1 false []], fun x => kit_SameInts F x.1 x.2.1⟩
noncomputable def cx19 (F : Nat) : Ctx E := ⟨[], [], F, []⟩
noncomputable def h19 : Hint := (.c .n (.l ⟨[.i], [0, 16], [0, 1], [(80, .i IntKind.i64)], [], [], [], 2⟩ (.c .n .n)))
theorem e19 (F : Nat) (a0 : List Int) (a1 : List Int) : fnK (E := E) (cx19 F) Try.f19 [] [.sl 0, .sl 0] [.v 1 false []] h19 (a0, a1, ()) = kit_SameInts F a0 a1 := by kernel_rfl
theorem c19 (F : Nat) : CSok E [] (s19 F) := ⟨en19, by
  have h := fn_sound (E := E) (gl := []) (cx := cx19 F) mix all0 inl0 rfl (fun _ h => nomatch h) hf19 (ps := [.sl 0, .sl 0]) (rs := [.v 1 false []]) (by decide) h19
  rwa [show fnK (E := E) (cx19 F) Try.f19 [] [.sl 0, .sl 0] [.v 1 false []] h19 = (fun x : AT E.G.car [.sl 0, .sl 0] => kit_SameInts F x.1 x.2.1) from funext fun x => e19 F x.1 x.2.1] at h⟩
theorem hf95 : Try.prog.funcs[95]? = some Try.f95 := by kernel_rfl
theorem en95 : Proofs.Enters Try.prog 95 := Proofs.enters_of hf95 (by kernel_rfl) rfl
noncomputable def ref12_in (F : Nat) (a0 : Int) (a1 : Int) (a2 : Int) : Option (Bool) :=
  some (decide (a0 ≥ a1) && decide (a0 ≤ a2))
noncomputable def s95 (F : Nat) : CS E.G := ⟨95, [.v 0 false, .v 0 false, .v 0 false], [.v 1 false []], fun x => ref12_in F x.1 x.2.1 x.2.2.1⟩
noncomputable def cx95 (F : Nat) : Ctx E := ⟨[], [], F, []⟩
noncomputable def h95 : Hint := .n
theorem e95 (F : Nat) (a0 : Int) (a1 : Int) (a2 : Int) : fnK (E := E) (cx95 F) Try.f95 [] [.v 0 false, .v 0 false, .v 0 false] [.v 1 false []] h95 (a0, a1, a2, ()) = ref12_in F a0 a1 a2 := by kernel_rfl
theorem c95 (F : Nat) : CSok E [] (s95 F) := ⟨en95, by
  have h := fn_sound (E := E) (gl := []) (cx := cx95 F) mix all0 inl0 rfl (fun _ h => nomatch h) hf95 (ps := [.v 0 false, .v 0 false, .v 0 false]) (rs := [.v 1 false []]) (by decide) h95
  rwa [show fnK (E := E) (cx95 F) Try.f95 [] [.v 0 false, .v 0 false, .v 0 false] [.v 1 false []] h95 = (fun x : AT E.G.car [.v 0 false, .v 0 false, .v 0 false] => ref12_in F x.1 x.2.1 x.2.2.1) from funext fun x => e95 F x.1 x.2.1 x.2.2.1] at h⟩
theorem hf89 : Try.prog.funcs[89]? = some Try.f89 := by kernel_rfl
theorem en89 : Proofs.Enters Try.prog 89 := Proofs.enters_of hf89 (by kernel_rfl) rfl
noncomputable def ref12_needed (F : Nat) (a0 : List Int) : Option (Int) :=
  brk (decide ((↑a0.length : Int) < (1 : Int)) || decide ((↑a0.length : Int) > (12 : Int))) (some ((2 : Int))) (loopC (fun (x : Int) => fun x_1 => brk (decide (x < (↑a0.length : Int))) (chk ((0 : Int) ≤ x ∧ x < (↑a0.length : Int)) (bnd (ref12_in F (a0.getD (Int.toNat x) (0 : Int)) (0 : Int) (1000000000 : Int)) (fun (x_2 : Bool) => brk (!x_2) (some ((6 : Int))) (chk (InR (x + (1 : Int))) (x_1 (x + (1 : Int))))))) (some ((0 : Int)))) (F) ((0 : Int)))
noncomputable def s89 (F : Nat) : CS E.G := ⟨89, [.sl 0], [.v 0 false []], fun x => ref12_needed F x.1⟩
noncomputable def cx89 (F : Nat) : Ctx E := ⟨[s95 F], [], F, []⟩
noncomputable def h89 : Hint := (.c .n (.l ⟨[.i], [0], [0], [(48, .i IntKind.i64)], [], [], [], 1⟩ (.c .n .n)))
theorem e89 (F : Nat) (a0 : List Int) : fnK (E := E) (cx89 F) Try.f89 [] [.sl 0] [.v 0 false []] h89 (a0, ()) = ref12_needed F a0 := by kernel_rfl
theorem c89 (F : Nat) : CSok E [] (s89 F) := ⟨en89, by
  have h := fn_sound (E := E) (gl := []) (cx := cx89 F) mix (allC (c95 F) all0) inl0 rfl (fun _ h => nomatch h) hf89 (ps := [.sl 0]) (rs := [.v 0 false []]) (by decide) h89
  rwa [show fnK (E := E) (cx89 F) Try.f89 [] [.sl 0] [.v 0 false []] h89 = (fun x : AT E.G.car [.sl 0] => ref12_needed F x.1) from funext fun x => e89 F x.1] at h⟩
theorem hf90 : Try.prog.funcs[90]? = some Try.f90 := by kernel_rfl
theorem en90 : Proofs.Enters Try.prog 90 := Proofs.enters_of hf90 (by kernel_rfl) rfl
noncomputable def ref12_share (F : Nat) (a0 : List Int) (a1 : Int) : Option (Int) :=
  loopC (fun (x : (Int) × (Int)) => fun x_1 => chk ((0 : Int) ≤ a1 ∧ a1 < (↑a0.length : Int)) (brk (decide (x.fst < a0.getD a1.toNat (0 : Int))) (loopC (fun (x_2 : (Int) × ((Int) × (Int))) => fun x_3 => brk (decide (x_2.snd.fst < (↑a0.length : Int))) (join F (fun (x_4 : (Int) × (Int)) => chk (InR (x_2.snd.fst + (1 : Int))) (x_3 ((x_4.fst, x_2.snd.fst + (1 : Int), x_4.snd)))) (fun x_4 => chk ((0 : Int) ≤ x_2.snd.fst ∧ x_2.snd.fst < (↑a0.length : Int)) (brk (decide (a0.getD (Int.toNat x_2.snd.fst) (0 : Int) > x.fst)) (chk (InR (x_2.fst + (1 : Int))) (chk ((!decide (x_2.snd.snd < (0 : Int))) = true → (0 : Int) ≤ x_2.snd.fst ∧ x_2.snd.fst < (↑a0.length : Int)) (brk (decide (x_2.snd.snd < (0 : Int)) || decide (a0.getD (Int.toNat x_2.snd.fst) (0 : Int) < x_2.snd.snd)) (chk ((0 : Int) ≤ x_2.snd.fst ∧ x_2.snd.fst < (↑a0.length : Int)) (x_4 ((x_2.fst + (1 : Int), a0.getD (Int.toNat x_2.snd.fst) (0 : Int))))) (x_4 ((x_2.fst + (1 : Int), x_2.snd.snd)))))) (x_4 ((x_2.fst, x_2.snd.snd)))))) (chk (InR (x_2.snd.snd - x.fst)) (chk (((0 : Int) ≤ (27720 : Int) ∧ (27720 : Int) ≤ (9223372036854775807 : Int)) ∧ (0 : Int) < if (1 : Int) > x_2.fst then (1 : Int) else x_2.fst) (chk (InR ((x_2.snd.snd - x.fst) * ((27720 : Int) / if (1 : Int) > x_2.fst then (1 : Int) else x_2.fst))) (chk (InR (x.snd + (x_2.snd.snd - x.fst) * ((27720 : Int) / if (1 : Int) > x_2.fst then (1 : Int) else x_2.fst))) (x_1 ((x_2.snd.snd, x.snd + (x_2.snd.snd - x.fst) * ((27720 : Int) / if (1 : Int) > x_2.fst then (1 : Int) else x_2.fst))))))))) (F) (((0 : Int), (0 : Int), (-1 : Int)))) (some (x.snd)))) (F) (((0 : Int), (0 : Int)))
noncomputable def s90 (F : Nat) : CS E.G := ⟨90, [.sl 0, .v 0 false], [.v 0 false []], fun x => ref12_share F x.1 x.2.1⟩
noncomputable def cx90 (F : Nat) : Ctx E := ⟨[], [], F, []⟩
noncomputable def h90 : Hint := (.l ⟨[.i, .i], [0, 16], [0], [(96, .i IntKind.i64), (80, .i IntKind.i64)], [], [], [], 1⟩ (.c (.l ⟨[.i, .i, .i], [0, 16, 96, 80], [0], [(128, .i IntKind.i64), (144, .i IntKind.i64), (112, .i IntKind.i64)], [], [], [], 1⟩ (.c (.j ⟨[.i, .i], [0, 16, 96, 80, 144], [0], [(128, .i IntKind.i64), (112, .i IntKind.i64)], [], [], [], 1⟩ (.c .n .n) .n) .n)) .n))
theorem e90 (F : Nat) (a0 : List Int) (a1 : Int) : fnK (E := E) (cx90 F) Try.f90 [] [.sl 0, .v 0 false] [.v 0 false []] h90 (a0, a1, ()) = ref12_share F a0 a1 := by kernel_rfl
theorem c90 (F : Nat) : CSok E [] (s90 F) := ⟨en90, by
  have h := fn_sound (E := E) (gl := []) (cx := cx90 F) mix all0 inl0 rfl (fun _ h => nomatch h) hf90 (ps := [.sl 0, .v 0 false]) (rs := [.v 0 false []]) (by decide) h90
  rwa [show fnK (E := E) (cx90 F) Try.f90 [] [.sl 0, .v 0 false] [.v 0 false []] h90 = (fun x : AT E.G.car [.sl 0, .v 0 false] => ref12_share F x.1 x.2.1) from funext fun x => e90 F x.1 x.2.1] at h⟩
theorem hf91 : Try.prog.funcs[91]? = some Try.f91 := by kernel_rfl
theorem en91 : Proofs.Enters Try.prog 91 := Proofs.enters_of hf91 (by kernel_rfl) rfl
noncomputable def ref12_gcdR (F : Nat) : Nat → Int → Int → Option (Int)
  | 0, _, _ => none
  | n + 1, a0, a1 =>
  brk (a1 == (0 : Int)) (some (a0)) (chk (((0 : Int) ≤ a0 ∧ a0 ≤ (9223372036854775807 : Int)) ∧ (0 : Int) < a1) (bnd (ref12_gcdR F n a1 (a0 % a1)) (fun (x : Int) => some (x))))
noncomputable def ref12_gcd (F : Nat) (a0 : Int) (a1 : Int) : Option (Int) := ref12_gcdR F F a0 a1
noncomputable def s91R (F n : Nat) : CS E.G := ⟨91, [.v 0 false, .v 0 false], [.v 0 false []], fun x => ref12_gcdR F n x.1 x.2.1⟩
noncomputable def s91 (F : Nat) : CS E.G := ⟨91, [.v 0 false, .v 0 false], [.v 0 false []], fun x => ref12_gcd F x.1 x.2.1⟩
noncomputable def cx91 (F n : Nat) : Ctx E := ⟨[s91R F n], [], F, []⟩
noncomputable def h91 : Hint := .n
theorem e91 (F n : Nat) (a0 : Int) (a1 : Int) : fnK (E := E) (cx91 F n) Try.f91 [] [.v 0 false, .v 0 false] [.v 0 false []] h91 (a0, a1, ()) = ref12_gcdR F (n + 1) a0 a1 := by kernel_rfl
theorem c91R (F : Nat) : ∀ n, CSok E [] (s91R F n)
  | 0 => ⟨en91, fun _ _ _ _ _ _ _ _ h => nomatch h⟩
  | n + 1 => ⟨en91, by
  have ih := c91R F n
  have h := fn_sound (E := E) (gl := []) (cx := cx91 F n) mix (allC (ih) all0) inl0 rfl (fun _ h => nomatch h) hf91 (ps := [.v 0 false, .v 0 false]) (rs := [.v 0 false []]) (by decide) h91
  rwa [show fnK (E := E) (cx91 F n) Try.f91 [] [.v 0 false, .v 0 false] [.v 0 false []] h91 = (fun x : AT E.G.car [.v 0 false, .v 0 false] => ref12_gcdR F (n + 1) x.1 x.2.1) from funext fun x => e91 F n x.1 x.2.1] at h⟩
theorem c91 (F : Nat) : CSok E [] (s91 F) := c91R F F
theorem hf37 : Try.prog.funcs[37]? = some Try.f37 := by kernel_rfl
theorem en37 : Proofs.Enters Try.prog 37 := Proofs.enters_of hf37 (by kernel_rfl) rfl
noncomputable def ref12_Exact (F : Nat) (a0 : List Int) : Option ((List Ratio) × Int) :=
  bnd (ref12_needed F a0) (fun (x : Int) => brk (x != (0 : Int)) (some (([], x))) (loopC (fun (x_1 : (Int) × (List (Ratio))) => fun x_2 => brk (decide (x_1.fst < (↑a0.length : Int))) (bnd (ref12_share F a0 x_1.fst) (fun (x_3 : Int) => bnd (ref12_gcd F x_3 (27720 : Int)) (fun (x_4 : Int) => chk (((0 : Int) ≤ x_3 ∧ x_3 ≤ (9223372036854775807 : Int)) ∧ (0 : Int) < x_4) (chk (((0 : Int) ≤ (27720 : Int) ∧ (27720 : Int) ≤ (9223372036854775807 : Int)) ∧ (0 : Int) < x_4) (chk (List.length x_1.snd + [Ratio.mk (x_3 / x_4) ((27720 : Int) / x_4)].length ≤ (1000000 : Nat)) (chk (InR (x_1.fst + (1 : Int))) (x_2 ((x_1.fst + (1 : Int), x_1.snd ++ [Ratio.mk (x_3 / x_4) ((27720 : Int) / x_4)]))))))))) (some ((x_1.snd, (0 : Int))))) (F) (((0 : Int), []))))
noncomputable def s37 (F : Nat) : CS E.G := ⟨37, [.sl 0], [.sl 22 81, .v 0 false []], fun x => ref12_Exact F x.1⟩
noncomputable def cx37 (F : Nat) : Ctx E := ⟨[s89 F, s90 F, s91 F], [], F, []⟩
noncomputable def h37 : Hint := (.c .n (.l ⟨[.i, .l 22], [0], [0], [(96, .i IntKind.i64), (80, .h 1 81 22)], [], [], [], 2⟩ .n))
theorem e37 (F : Nat) (a0 : List Int) : fnK (E := E) (cx37 F) Try.f37 [] [.sl 0] [.sl 22 81, .v 0 false []] h37 (a0, ()) = ref12_Exact F a0 := by kernel_rfl
theorem c37 (F : Nat) : CSok E [] (s37 F) := ⟨en37, by
  have h := fn_sound (E := E) (gl := []) (cx := cx37 F) mix (allC (c89 F) (allC (c90 F) (allC (c91 F) all0))) inl0 rfl (fun _ h => nomatch h) hf37 (ps := [.sl 0]) (rs := [.sl 22 81, .v 0 false []]) (by decide) h37
  rwa [show fnK (E := E) (cx37 F) Try.f37 [] [.sl 0] [.sl 22 81, .v 0 false []] h37 = (fun x : AT E.G.car [.sl 0] => ref12_Exact F x.1) from funext fun x => e37 F x.1] at h⟩
theorem hf38 : Try.prog.funcs[38]? = some Try.f38 := by kernel_rfl
theorem en38 : Proofs.Enters Try.prog 38 := Proofs.enters_of hf38 (by kernel_rfl) rfl
noncomputable def kit_SameRatios (F : Nat) (a0 : List Ratio) (a1 : List Ratio) : Option (Bool) :=
  brk ((↑a0.length : Int) != (↑a1.length : Int)) (some (false)) (loopC (fun (x : Int) => fun x_1 => brk (decide (x < (↑a0.length : Int))) (chk ((0 : Int) ≤ x ∧ x < (↑a0.length : Int)) (chk ((0 : Int) ≤ x ∧ x < (↑a1.length : Int)) (brk (!((a0.getD (Int.toNat x) (Ratio.mk (0 : Int) (0 : Int))).N == (a1.getD (Int.toNat x) (Ratio.mk (0 : Int) (0 : Int))).N && ((a0.getD (Int.toNat x) (Ratio.mk (0 : Int) (0 : Int))).D == (a1.getD (Int.toNat x) (Ratio.mk (0 : Int) (0 : Int))).D && true))) (some (false)) (chk (InR (x + (1 : Int))) (x_1 (x + (1 : Int))))))) (some (true))) (F) ((0 : Int)))
noncomputable def s38 (F : Nat) : CS E.G := ⟨38, [.sl 22, .sl 22], [.v 1 false []], fun x => kit_SameRatios F x.1 x.2.1⟩
noncomputable def cx38 (F : Nat) : Ctx E := ⟨[], [], F, []⟩
noncomputable def h38 : Hint := (.c .n (.l ⟨[.i], [0, 16], [0, 1], [(80, .i IntKind.i64)], [], [], [], 2⟩ (.c .n .n)))
theorem e38 (F : Nat) (a0 : List Ratio) (a1 : List Ratio) : fnK (E := E) (cx38 F) Try.f38 [] [.sl 22, .sl 22] [.v 1 false []] h38 (a0, a1, ()) = kit_SameRatios F a0 a1 := by kernel_rfl
theorem c38 (F : Nat) : CSok E [] (s38 F) := ⟨en38, by
  have h := fn_sound (E := E) (gl := []) (cx := cx38 F) mix all0 inl0 rfl (fun _ h => nomatch h) hf38 (ps := [.sl 22, .sl 22]) (rs := [.v 1 false []]) (by decide) h38
  rwa [show fnK (E := E) (cx38 F) Try.f38 [] [.sl 22, .sl 22] [.v 1 false []] h38 = (fun x : AT E.G.car [.sl 22, .sl 22] => kit_SameRatios F x.1 x.2.1) from funext fun x => e38 F x.1 x.2.1] at h⟩
theorem hf40 : Try.prog.funcs[40]? = some Try.f40 := by kernel_rfl
theorem en40 : Proofs.Enters Try.prog 40 := Proofs.enters_of hf40 (by kernel_rfl) rfl
noncomputable def ref12_Share (F : Nat) (a0 : List Int) : Option ((List Int) × Int) :=
  bnd (ref12_needed F a0) (fun (x : Int) => brk (x != (0 : Int)) (some (([], x))) (loopC (fun (x_1 : (Int) × (Int)) => fun x_2 => brk (decide (x_1.fst < (↑a0.length : Int))) (chk ((0 : Int) ≤ x_1.fst ∧ x_1.fst < (↑a0.length : Int)) (chk (InR (x_1.fst + (1 : Int))) (x_2 ((x_1.fst + (1 : Int), if a0.getD (Int.toNat x_1.fst) (0 : Int) > x_1.snd then a0.getD (Int.toNat x_1.fst) (0 : Int) else x_1.snd))))) (loopC (fun (x_3 : (List (Int)) × ((Int) × ((Int) × (List (Int))))) => fun x_4 => brk (decide (x_3.snd.snd.fst < (↑a0.length : Int))) (bnd (ref12_share F a0 x_3.snd.snd.fst) (fun (x_5 : Int) => chk ((0 : Int) ≤ x_5 ∧ x_5 ≤ (9223372036854775807 : Int)) (chk (List.length x_3.snd.snd.snd + [x_5 / (27720 : Int)].length ≤ (1000000 : Nat)) (chk ((0 : Int) ≤ x_5 ∧ x_5 ≤ (9223372036854775807 : Int)) (chk (List.length x_3.fst + [x_5 % (27720 : Int)].length ≤ (1000000 : Nat)) (chk ((0 : Int) ≤ x_5 ∧ x_5 ≤ (9223372036854775807 : Int)) (chk (InR (x_3.snd.fst - x_5 / (27720 : Int))) (chk (InR (x_3.snd.snd.fst + (1 : Int))) (x_4 ((x_3.fst ++ [x_5 % (27720 : Int)], x_3.snd.fst - x_5 / (27720 : Int), x_3.snd.snd.fst + (1 : Int), x_3.snd.snd.snd ++ [x_5 / (27720 : Int)]))))))))))) (loopC (fun (x_5 : (Int) × ((List (Int)) × (List (Int)))) => fun x_6 => brk (decide (x_5.fst > (0 : Int))) (loopC (fun (x_7 : (Int) × (Int)) => fun x_8 => brk (decide (x_7.fst < (↑(List.length x_5.snd.fst) : Int))) (join F (fun (x_9 : Int) => chk (InR (x_7.fst + (1 : Int))) (x_8 ((x_7.fst + (1 : Int), x_9)))) (fun x_9 => chk ((0 : Int) ≤ x_7.fst ∧ x_7.fst < (↑(List.length x_5.snd.fst) : Int)) (chk ((0 : Int) ≤ x_7.snd ∧ x_7.snd < (↑(List.length x_5.snd.fst) : Int)) (brk (decide (List.getD x_5.snd.fst (Int.toNat x_7.fst) (0 : Int) > List.getD x_5.snd.fst (Int.toNat x_7.snd) (0 : Int))) (x_9 (x_7.fst)) (x_9 (x_7.snd)))))) (chk ((0 : Int) ≤ x_7.snd ∧ x_7.snd < (↑(List.length x_5.snd.snd) : Int)) (chk (InR (List.getD x_5.snd.snd (Int.toNat x_7.snd) (0 : Int) + (1 : Int))) (chk ((0 : Int) ≤ x_7.snd ∧ x_7.snd < (↑(List.length x_5.snd.snd) : Int)) (chk ((0 : Int) ≤ x_7.snd ∧ x_7.snd < (↑(List.length x_5.snd.fst) : Int)) (chk (InR (x_5.fst - (1 : Int))) (x_6 ((x_5.fst - (1 : Int), List.set x_5.snd.fst (Int.toNat x_7.snd) (-1 : Int), List.set x_5.snd.snd (Int.toNat x_7.snd) (List.getD x_5.snd.snd (Int.toNat x_7.snd) (0 : Int) + (1 : Int))))))))))) (F) (((0 : Int), (0 : Int)))) (some ((x_5.snd.snd, (0 : Int))))) (F) ((x_3.snd.fst, x_3.fst, x_3.snd.snd.snd)))) (F) (([], x_1.snd, (0 : Int), [])))) (F) (((0 : Int), (0 : Int)))))
noncomputable def s40 (F : Nat) : CS E.G := ⟨40, [.sl 0], [.sl 0 3, .v 0 false []], fun x => ref12_Share F x.1⟩
noncomputable def cx40 (F : Nat) : Ctx E := ⟨[s89 F, s90 F], [], F, []⟩
noncomputable def h40 : Hint := (.c .n (.l ⟨[.i, .i], [0], [0], [(96, .i IntKind.i64), (80, .i IntKind.i64)], [], [], [], 1⟩ (.c .n (.l ⟨[.l 0, .i, .i, .l 0], [0], [0], [(128, .h 1 3 0), (80, .i IntKind.i64), (144, .i IntKind.i64), (112, .h 2 3 0)], [], [], [], 3⟩ (.c .n (.l ⟨[.i, .l 0, .l 0], [128, 112], [1, 2], [(80, .i IntKind.i64)], [], [], [(1, 3, 0), (2, 3, 0)], 3⟩ (.c (.l ⟨[.i, .i], [128, 80, 112], [1, 2], [(192, .i IntKind.i64), (176, .i IntKind.i64)], [], [], [], 3⟩ (.c (.j ⟨[.i], [128, 192, 80, 112], [1, 2], [(176, .i IntKind.i64)], [], [], [], 3⟩ .n .n) .n)) .n)))))))
theorem e40 (F : Nat) (a0 : List Int) : fnK (E := E) (cx40 F) Try.f40 [] [.sl 0] [.sl 0 3, .v 0 false []] h40 (a0, ()) = ref12_Share F a0 := by kernel_rfl
theorem c40 (F : Nat) : CSok E [] (s40 F) := ⟨en40, by
  have h := fn_sound (E := E) (gl := []) (cx := cx40 F) mix (allC (c89 F) (allC (c90 F) all0)) inl0 rfl (fun _ h => nomatch h) hf40 (ps := [.sl 0]) (rs := [.sl 0 3, .v 0 false []]) (by decide) h40
  rwa [show fnK (E := E) (cx40 F) Try.f40 [] [.sl 0] [.sl 0 3, .v 0 false []] h40 = (fun x : AT E.G.car [.sl 0] => ref12_Share F x.1) from funext fun x => e40 F x.1] at h⟩
theorem hf42 : Try.prog.funcs[42]? = some Try.f42 := by kernel_rfl
theorem en42 : Proofs.Enters Try.prog 42 := Proofs.enters_of hf42 (by kernel_rfl) rfl
noncomputable def ref12_Core (F : Nat) (a0 : List Int) (a1 : List Int) : Option (Bool × Int) :=
  bnd (ref12_needed F a0) (fun (x : Int) => brk (x != (0 : Int)) (some ((false, x))) (brk ((↑a1.length : Int) != (↑a0.length : Int)) (some ((false, (1 : Int)))) (loopC (fun (x_1 : Int) => fun x_2 => brk (decide (x_1 < (↑a1.length : Int))) (chk ((0 : Int) ≤ x_1 ∧ x_1 < (↑a1.length : Int)) (bnd (ref12_in F (a1.getD (Int.toNat x_1) (0 : Int)) (0 : Int) (1000000000 : Int)) (fun (x_3 : Bool) => brk (!x_3) (some ((false, (6 : Int)))) (chk (InR (x_1 + (1 : Int))) (x_2 (x_1 + (1 : Int))))))) (chk (((0 : Int) ≤ (↑a0.length : Int) ∧ (↑a0.length : Int) ≤ (62 : Int)) ∧ InR ((1 : Int) * (2 : Int) ^ (↑a0.length : Int).toNat)) (chk (InR ((1 : Int) * (2 : Int) ^ (↑a0.length : Int).toNat - (1 : Int))) (loopC (fun (x_3 : Int) => fun x_4 => brk (decide (x_3 ≤ (1 : Int) * (2 : Int) ^ (↑a0.length : Int).toNat - (1 : Int))) (loopC (fun (x_5 : (Int) × ((Int) × ((Int) × (Int)))) => fun x_6 => brk (decide (x_5.snd.snd.fst < (↑a0.length : Int))) (join F (fun (x_7 : (Int) × (Int)) => chk ((0 : Int) ≤ x_5.fst ∧ x_5.fst ≤ (9223372036854775807 : Int)) (chk (InR (x_5.snd.snd.fst + (1 : Int))) (x_6 ((x_5.fst / (2 : Int), x_7.fst, x_5.snd.snd.fst + (1 : Int), x_7.snd))))) (fun x_7 => chk ((0 : Int) ≤ x_5.fst ∧ x_5.fst ≤ (9223372036854775807 : Int)) (brk (x_5.fst % (2 : Int) == (1 : Int)) (chk ((0 : Int) ≤ x_5.snd.snd.fst ∧ x_5.snd.snd.fst < (↑a1.length : Int)) (chk (InR (x_5.snd.fst + a1.getD (Int.toNat x_5.snd.snd.fst) (0 : Int))) (chk ((0 : Int) ≤ x_5.snd.snd.fst ∧ x_5.snd.snd.fst < (↑a0.length : Int)) (x_7 ((x_5.snd.fst + a1.getD (Int.toNat x_5.snd.snd.fst) (0 : Int), if a0.getD (Int.toNat x_5.snd.snd.fst) (0 : Int) > x_5.snd.snd.snd then a0.getD (Int.toNat x_5.snd.snd.fst) (0 : Int) else x_5.snd.snd.snd)))))) (x_7 ((x_5.snd.fst, x_5.snd.snd.snd)))))) (brk (decide (x_5.snd.fst > x_5.snd.snd.snd) || x_3 == (1 : Int) * (2 : Int) ^ (↑a0.length : Int).toNat - (1 : Int) && x_5.snd.fst != x_5.snd.snd.snd) (some ((false, (0 : Int)))) (chk (InR (x_3 + (1 : Int))) (x_4 (x_3 + (1 : Int)))))) (F) ((x_3, (0 : Int), (0 : Int), (0 : Int)))) (some ((true, (0 : Int))))) (F) ((1 : Int)))))) (F) ((0 : Int)))))
noncomputable def s42 (F : Nat) : CS E.G := ⟨42, [.sl 0, .sl 0], [.v 1 false [], .v 0 false []], fun x => ref12_Core F x.1 x.2.1⟩
noncomputable def cx42 (F : Nat) : Ctx E := ⟨[s89 F, s95 F], [], F, []⟩
noncomputable def h42 : Hint := (.c .n (.c .n (.l ⟨[.i], [0, 16], [0, 1], [(112, .i IntKind.i64)], [], [], [], 2⟩ (.c .n (.l ⟨[.i], [0, 16, 128], [0, 1], [(144, .i IntKind.i64)], [], [], [], 2⟩ (.c (.l ⟨[.i, .i, .i, .i], [0, 16, 128, 144], [0, 1], [(192, .i IntKind.i64), (160, .i IntKind.i64), (208, .i IntKind.i64), (176, .i IntKind.i64)], [], [], [], 2⟩ (.c (.k (.j ⟨[.i, .i], [0, 16, 128, 192, 144, 208], [0, 1], [(160, .i IntKind.i64), (176, .i IntKind.i64)], [], [], [], 2⟩ .n .n)) .n)) .n))))))
theorem e42 (F : Nat) (a0 : List Int) (a1 : List Int) : fnK (E := E) (cx42 F) Try.f42 [] [.sl 0, .sl 0] [.v 1 false [], .v 0 false []] h42 (a0, a1, ()) = ref12_Core F a0 a1 := by kernel_rfl
theorem c42 (F : Nat) : CSok E [] (s42 F) := ⟨en42, by
  have h := fn_sound (E := E) (gl := []) (cx := cx42 F) mix (allC (c89 F) (allC (c95 F) all0)) inl0 rfl (fun _ h => nomatch h) hf42 (ps := [.sl 0, .sl 0]) (rs := [.v 1 false [], .v 0 false []]) (by decide) h42
  rwa [show fnK (E := E) (cx42 F) Try.f42 [] [.sl 0, .sl 0] [.v 1 false [], .v 0 false []] h42 = (fun x : AT E.G.car [.sl 0, .sl 0] => ref12_Core F x.1 x.2.1) from funext fun x => e42 F x.1 x.2.1] at h⟩
theorem hf8 : Try.prog.funcs[8]? = some Try.f8 := by kernel_rfl
theorem en8 : Proofs.Enters Try.prog 8 := Proofs.enters_of hf8 (by kernel_rfl) rfl
noncomputable def law12_FeesShares (F : Nat) (a0 : List Int) (a1 : List Int) : Option (Bool) :=
  brk (decide ((↑a0.length : Int) > (20 : Int)) || decide ((↑a1.length : Int) > (20 : Int))) (bnd (law12_awake F) (fun (x : Bool) => some (x))) (bnd (kit_CopyInts F a0) (fun (x : List (Int)) => bnd (kit_CopyInts F a1) (fun (x_1 : List (Int)) => bnd (fees_Exact F x) (fun (x_2 : (List (Ratio)) × (Int)) => bnd (ref12_Exact F a0) (fun (x_3 : (List (Ratio)) × (Int)) => bnd (brk (!x_2.snd != x_3.snd) (kit_SameRatios F x_2.fst x_3.fst) (some false)) (fun (x_4 : Bool) => brk (x_2.snd != x_3.snd || !x_4) (some (false)) (bnd (fees_Share F x) (fun (x_5 : (List (Int)) × (Int)) => bnd (ref12_Share F a0) (fun (x_6 : (List (Int)) × (Int)) => bnd (brk (!x_5.snd != x_6.snd) (kit_SameInts F x_5.fst x_6.fst) (some false)) (fun (x_7 : Bool) => brk (x_5.snd != x_6.snd || !x_7) (some (false)) (bnd (fees_Core F x x_1) (fun (x_8 : (Bool) × (Int)) => bnd (ref12_Core F a0 a1) (fun (x_9 : (Bool) × (Int)) => bnd (brk (x_8.fst == x_9.fst && x_8.snd == x_9.snd) (kit_SameInts F x a0) (some false)) (fun (x_10 : Bool) => bnd (brk (x_8.fst == x_9.fst && x_8.snd == x_9.snd && x_10) (kit_SameInts F x_1 a1) (some false)) (fun (x_11 : Bool) => bnd (brk (x_8.fst == x_9.fst && x_8.snd == x_9.snd && x_10 && x_11) (law12_awake F) (some false)) (fun (x_12 : Bool) => some (x_8.fst == x_9.fst && x_8.snd == x_9.snd && x_10 && x_11 && x_12)))))))))))))))))
noncomputable def s8 (F : Nat) : CS E.G := ⟨8, [.sl 0, .sl 0], [.v 1 false []], fun x => law12_FeesShares F x.1 x.2.1⟩
noncomputable def cx8 (F : Nat) : Ctx E := ⟨[s13 F, s14 F, s19 F, s36 F, s37 F, s38 F, s39 F, s40 F, s41 F, s42 F], [], F, []⟩
noncomputable def h8 : Hint := (.c .n (.c .n .n))
theorem e8 (F : Nat) (a0 : List Int) (a1 : List Int) : fnK (E := E) (cx8 F) Try.f8 [] [.sl 0, .sl 0] [.v 1 false []] h8 (a0, a1, ()) = law12_FeesShares F a0 a1 := by kernel_rfl
theorem c8 (F : Nat) : CSok E [] (s8 F) := ⟨en8, by
  have h := fn_sound (E := E) (gl := []) (cx := cx8 F) mix (allC (c13 F) (allC (c14 F) (allC (c19 F) (allC (c36 F) (allC (c37 F) (allC (c38 F) (allC (c39 F) (allC (c40 F) (allC (c41 F) (allC (c42 F) all0)))))))))) inl0 rfl (fun _ h => nomatch h) hf8 (ps := [.sl 0, .sl 0]) (rs := [.v 1 false []]) (by decide) h8
  rwa [show fnK (E := E) (cx8 F) Try.f8 [] [.sl 0, .sl 0] [.v 1 false []] h8 = (fun x : AT E.G.car [.sl 0, .sl 0] => law12_FeesShares F x.1 x.2.1) from funext fun x => e8 F x.1 x.2.1] at h⟩
theorem hf15 : Try.prog.funcs[15]? = some Try.f15 := by kernel_rfl
theorem en15 : Proofs.Enters Try.prog 15 := Proofs.enters_of hf15 (by kernel_rfl) rfl
noncomputable def fees_Level (F : Nat) (a0 : List Int) (a1 : Int) : Option (Int × Int × Int) :=
  bnd (fees_claimed F a0 a1) (fun (x : Int) => brk (x != (0 : Int)) (some (((0 : Int), (0 : Int), x))) (bnd (fees_level F a0 a1) (fun (x_1 : (Int) × (Int)) => some ((x_1.fst, x_1.snd, (0 : Int))))))
noncomputable def s15 (F : Nat) : CS E.G := ⟨15, [.sl 0, .v 0 false], [.v 0 false [], .v 0 false [], .v 0 false []], fun x => fees_Level F x.1 x.2.1⟩
noncomputable def cx15 (F : Nat) : Ctx E := ⟨[s67 F, s68 F], [], F, []⟩
noncomputable def h15 : Hint := .n
theorem e15 (F : Nat) (a0 : List Int) (a1 : Int) : fnK (E := E) (cx15 F) Try.f15 [] [.sl 0, .v 0 false] [.v 0 false [], .v 0 false [], .v 0 false []] h15 (a0, a1, ()) = fees_Level F a0 a1 := by kernel_rfl
theorem c15 (F : Nat) : CSok E [] (s15 F) := ⟨en15, by
  have h := fn_sound (E := E) (gl := []) (cx := cx15 F) mix (allC (c67 F) (allC (c68 F) all0)) inl0 rfl (fun _ h => nomatch h) hf15 (ps := [.sl 0, .v 0 false]) (rs := [.v 0 false [], .v 0 false [], .v 0 false []]) (by decide) h15
  rwa [show fnK (E := E) (cx15 F) Try.f15 [] [.sl 0, .v 0 false] [.v 0 false [], .v 0 false [], .v 0 false []] h15 = (fun x : AT E.G.car [.sl 0, .v 0 false] => fees_Level F x.1 x.2.1) from funext fun x => e15 F x.1 x.2.1] at h⟩
theorem hf69 : Try.prog.funcs[69]? = some Try.f69 := by kernel_rfl
theorem en69 : Proofs.Enters Try.prog 69 := Proofs.enters_of hf69 (by kernel_rfl) rfl
noncomputable def ref12_claimed (F : Nat) (a0 : List Int) (a1 : Int) : Option (Int) :=
  brk (decide ((↑a0.length : Int) < (1 : Int)) || decide ((↑a0.length : Int) > (40 : Int))) (some ((2 : Int))) (loopC (fun (x : Int) => fun x_1 => brk (decide (x < (↑a0.length : Int))) (chk ((0 : Int) ≤ x ∧ x < (↑a0.length : Int)) (bnd (ref12_in F (a0.getD (Int.toNat x) (0 : Int)) (0 : Int) (1000000000000 : Int)) (fun (x_2 : Bool) => brk (!x_2) (some ((6 : Int))) (chk (InR (x + (1 : Int))) (x_1 (x + (1 : Int))))))) (bnd (ref12_in F a1 (0 : Int) (1000000000000 : Int)) (fun (x_2 : Bool) => brk (!x_2) (some ((6 : Int))) (some ((0 : Int)))))) (F) ((0 : Int)))
noncomputable def s69 (F : Nat) : CS E.G := ⟨69, [.sl 0, .v 0 false], [.v 0 false []], fun x => ref12_claimed F x.1 x.2.1⟩
noncomputable def cx69 (F : Nat) : Ctx E := ⟨[s95 F], [], F, []⟩
noncomputable def h69 : Hint := (.c .n (.l ⟨[.i], [0, 16], [0], [(80, .i IntKind.i64)], [], [], [], 1⟩ (.c .n .n)))
theorem e69 (F : Nat) (a0 : List Int) (a1 : Int) : fnK (E := E) (cx69 F) Try.f69 [] [.sl 0, .v 0 false] [.v 0 false []] h69 (a0, a1, ()) = ref12_claimed F a0 a1 := by kernel_rfl
theorem c69 (F : Nat) : CSok E [] (s69 F) := ⟨en69, by
  have h := fn_sound (E := E) (gl := []) (cx := cx69 F) mix (allC (c95 F) all0) inl0 rfl (fun _ h => nomatch h) hf69 (ps := [.sl 0, .v 0 false]) (rs := [.v 0 false []]) (by decide) h69
  rwa [show fnK (E := E) (cx69 F) Try.f69 [] [.sl 0, .v 0 false] [.v 0 false []] h69 = (fun x : AT E.G.car [.sl 0, .v 0 false] => ref12_claimed F x.1 x.2.1) from funext fun x => e69 F x.1 x.2.1] at h⟩
theorem hf70 : Try.prog.funcs[70]? = some Try.f70 := by kernel_rfl
theorem en70 : Proofs.Enters Try.prog 70 := Proofs.enters_of hf70 (by kernel_rfl) rfl
noncomputable def ref12_level (F : Nat) (a0 : List Int) (a1 : Int) : Option (Int × Int) :=
  loopC (fun (x : (Int) × (Int)) => fun x_1 => loopC (fun (x_2 : (Int) × ((Int) × (Int))) => fun x_3 => brk (decide (x_2.snd.fst < (↑a0.length : Int))) (join F (fun (x_4 : (Int) × (Int)) => chk (InR (x_2.snd.fst + (1 : Int))) (x_3 ((x_4.fst, x_2.snd.fst + (1 : Int), x_4.snd)))) (fun x_4 => chk ((0 : Int) ≤ x_2.snd.fst ∧ x_2.snd.fst < (↑a0.length : Int)) (brk (decide (a0.getD (Int.toNat x_2.snd.fst) (0 : Int) > x.snd)) (chk (InR (x_2.fst + (1 : Int))) (chk ((!decide (x_2.snd.snd < (0 : Int))) = true → (0 : Int) ≤ x_2.snd.fst ∧ x_2.snd.fst < (↑a0.length : Int)) (brk (decide (x_2.snd.snd < (0 : Int)) || decide (a0.getD (Int.toNat x_2.snd.fst) (0 : Int) < x_2.snd.snd)) (chk ((0 : Int) ≤ x_2.snd.fst ∧ x_2.snd.fst < (↑a0.length : Int)) (x_4 ((x_2.fst + (1 : Int), a0.getD (Int.toNat x_2.snd.fst) (0 : Int))))) (x_4 ((x_2.fst + (1 : Int), x_2.snd.snd)))))) (x_4 ((x_2.fst, x_2.snd.snd)))))) (brk (x_2.fst == (0 : Int)) (some ((x.snd, x.fst))) (chk (InR (x_2.snd.snd - x.snd)) (chk (InR ((x_2.snd.snd - x.snd) * x_2.fst)) (brk (decide ((x_2.snd.snd - x.snd) * x_2.fst > x.fst)) (chk (((0 : Int) ≤ x.fst ∧ x.fst ≤ (9223372036854775807 : Int)) ∧ (0 : Int) < x_2.fst) (chk (InR (x.snd + x.fst / x_2.fst)) (chk (((0 : Int) ≤ x.fst ∧ x.fst ≤ (9223372036854775807 : Int)) ∧ (0 : Int) < x_2.fst) (some ((x.snd + x.fst / x_2.fst, x.fst % x_2.fst)))))) (chk (InR (x_2.snd.snd - x.snd)) (chk (InR ((x_2.snd.snd - x.snd) * x_2.fst)) (chk (InR (x.fst - (x_2.snd.snd - x.snd) * x_2.fst)) (x_1 ((x.fst - (x_2.snd.snd - x.snd) * x_2.fst, x_2.snd.snd))))))))))) (F) (((0 : Int), (0 : Int), (-1 : Int)))) (F) ((a1, (0 : Int)))
noncomputable def s70 (F : Nat) : CS E.G := ⟨70, [.sl 0, .v 0 false], [.v 0 false [], .v 0 false []], fun x => ref12_level F x.1 x.2.1⟩
noncomputable def cx70 (F : Nat) : Ctx E := ⟨[], [], F, []⟩
noncomputable def h70 : Hint := (.l ⟨[.i, .i], [0], [0], [(16, .i IntKind.i64), (96, .i IntKind.i64)], [], [], [], 1⟩ (.l ⟨[.i, .i, .i], [0, 16, 96], [0], [(128, .i IntKind.i64), (144, .i IntKind.i64), (112, .i IntKind.i64)], [], [], [], 1⟩ (.c (.j ⟨[.i, .i], [0, 16, 96, 144], [0], [(128, .i IntKind.i64), (112, .i IntKind.i64)], [], [], [], 1⟩ (.c .n .n) .n) (.c .n .n))))
theorem e70 (F : Nat) (a0 : List Int) (a1 : Int) : fnK (E := E) (cx70 F) Try.f70 [] [.sl 0, .v 0 false] [.v 0 false [], .v 0 false []] h70 (a0, a1, ()) = ref12_level F a0 a1 := by kernel_rfl
theorem c70 (F : Nat) : CSok E [] (s70 F) := ⟨en70, by
  have h := fn_sound (E := E) (gl := []) (cx := cx70 F) mix all0 inl0 rfl (fun _ h => nomatch h) hf70 (ps := [.sl 0, .v 0 false]) (rs := [.v 0 false [], .v 0 false []]) (by decide) h70
  rwa [show fnK (E := E) (cx70 F) Try.f70 [] [.sl 0, .v 0 false] [.v 0 false [], .v 0 false []] h70 = (fun x : AT E.G.car [.sl 0, .v 0 false] => ref12_level F x.1 x.2.1) from funext fun x => e70 F x.1 x.2.1] at h⟩
theorem hf16 : Try.prog.funcs[16]? = some Try.f16 := by kernel_rfl
theorem en16 : Proofs.Enters Try.prog 16 := Proofs.enters_of hf16 (by kernel_rfl) rfl
noncomputable def ref12_Level (F : Nat) (a0 : List Int) (a1 : Int) : Option (Int × Int × Int) :=
  bnd (ref12_claimed F a0 a1) (fun (x : Int) => brk (x != (0 : Int)) (some (((0 : Int), (0 : Int), x))) (bnd (ref12_level F a0 a1) (fun (x_1 : (Int) × (Int)) => some ((x_1.fst, x_1.snd, (0 : Int))))))
noncomputable def s16 (F : Nat) : CS E.G := ⟨16, [.sl 0, .v 0 false], [.v 0 false [], .v 0 false [], .v 0 false []], fun x => ref12_Level F x.1 x.2.1⟩
noncomputable def cx16 (F : Nat) : Ctx E := ⟨[s69 F, s70 F], [], F, []⟩
noncomputable def h16 : Hint := .n
theorem e16 (F : Nat) (a0 : List Int) (a1 : Int) : fnK (E := E) (cx16 F) Try.f16 [] [.sl 0, .v 0 false] [.v 0 false [], .v 0 false [], .v 0 false []] h16 (a0, a1, ()) = ref12_Level F a0 a1 := by kernel_rfl
theorem c16 (F : Nat) : CSok E [] (s16 F) := ⟨en16, by
  have h := fn_sound (E := E) (gl := []) (cx := cx16 F) mix (allC (c69 F) (allC (c70 F) all0)) inl0 rfl (fun _ h => nomatch h) hf16 (ps := [.sl 0, .v 0 false]) (rs := [.v 0 false [], .v 0 false [], .v 0 false []]) (by decide) h16
  rwa [show fnK (E := E) (cx16 F) Try.f16 [] [.sl 0, .v 0 false] [.v 0 false [], .v 0 false [], .v 0 false []] h16 = (fun x : AT E.G.car [.sl 0, .v 0 false] => ref12_Level F x.1 x.2.1) from funext fun x => e16 F x.1 x.2.1] at h⟩
theorem hf72 : Try.prog.funcs[72]? = some Try.f72 := by kernel_rfl
theorem en72 : Proofs.Enters Try.prog 72 := Proofs.enters_of hf72 (by kernel_rfl) rfl
noncomputable def ref12_awards (F : Nat) (a0 : List Int) (a1 : Int) : Option ((List Int)) :=
  bnd (ref12_level F a0 a1) (fun (x : (Int) × (Int)) => loopC (fun (x_1 : (Int) × ((Int) × (List (Int)))) => fun x_2 => brk (decide (x_1.fst < (↑a0.length : Int))) (chk ((0 : Int) ≤ x_1.fst ∧ x_1.fst < (↑a0.length : Int)) (join F (fun (x_3 : (Int) × (Int)) => chk (List.length x_1.snd.snd + [x_3.snd].length ≤ (1000000 : Nat)) (chk (InR (x_1.fst + (1 : Int))) (x_2 ((x_1.fst + (1 : Int), x_3.fst, x_1.snd.snd ++ [x_3.snd]))))) (fun x_3 => brk (decide (a0.getD (Int.toNat x_1.fst) (0 : Int) > x.fst)) (brk (decide (x_1.snd.fst > (0 : Int))) (chk (InR (x.fst + (1 : Int))) (chk (InR (x_1.snd.fst - (1 : Int))) (x_3 ((x_1.snd.fst - (1 : Int), x.fst + (1 : Int)))))) (x_3 ((x_1.snd.fst, x.fst)))) (x_3 ((x_1.snd.fst, a0.getD (Int.toNat x_1.fst) (0 : Int))))))) (some (x_1.snd.snd))) (F) (((0 : Int), x.snd, [])))
noncomputable def s72 (F : Nat) : CS E.G := ⟨72, [.sl 0, .v 0 false], [.sl 0 3], fun x => ref12_awards F x.1 x.2.1⟩
noncomputable def cx72 (F : Nat) : Ctx E := ⟨[s70 F], [], F, []⟩
noncomputable def h72 : Hint := (.l ⟨[.i, .i, .l 0], [0, 80], [0], [(128, .i IntKind.i64), (96, .i IntKind.i64), (112, .h 1 3 0)], [], [], [], 2⟩ (.c (.k (.k (.j ⟨[.i, .i], [0, 128, 80, 112], [0, 1], [(96, .i IntKind.i64), (144, .i IntKind.i64)], [], [], [], 2⟩ (.c .n .n) .n))) .n))
theorem e72 (F : Nat) (a0 : List Int) (a1 : Int) : fnK (E := E) (cx72 F) Try.f72 [] [.sl 0, .v 0 false] [.sl 0 3] h72 (a0, a1, ()) = ref12_awards F a0 a1 := by kernel_rfl
theorem c72 (F : Nat) : CSok E [] (s72 F) := ⟨en72, by
  have h := fn_sound (E := E) (gl := []) (cx := cx72 F) mix (allC (c70 F) all0) inl0 rfl (fun _ h => nomatch h) hf72 (ps := [.sl 0, .v 0 false]) (rs := [.sl 0 3]) (by decide) h72
  rwa [show fnK (E := E) (cx72 F) Try.f72 [] [.sl 0, .v 0 false] [.sl 0 3] h72 = (fun x : AT E.G.car [.sl 0, .v 0 false] => ref12_awards F x.1 x.2.1) from funext fun x => e72 F x.1 x.2.1] at h⟩
theorem hf18 : Try.prog.funcs[18]? = some Try.f18 := by kernel_rfl
theorem en18 : Proofs.Enters Try.prog 18 := Proofs.enters_of hf18 (by kernel_rfl) rfl
noncomputable def ref12_Awards (F : Nat) (a0 : List Int) (a1 : Int) : Option ((List Int) × Int) :=
  bnd (ref12_claimed F a0 a1) (fun (x : Int) => brk (x != (0 : Int)) (some (([], x))) (bnd (ref12_awards F a0 a1) (fun (x_1 : List (Int)) => some ((x_1, (0 : Int))))))
noncomputable def s18 (F : Nat) : CS E.G := ⟨18, [.sl 0, .v 0 false], [.sl 0 3, .v 0 false []], fun x => ref12_Awards F x.1 x.2.1⟩
noncomputable def cx18 (F : Nat) : Ctx E := ⟨[s69 F, s72 F], [], F, []⟩
noncomputable def h18 : Hint := .n
theorem e18 (F : Nat) (a0 : List Int) (a1 : Int) : fnK (E := E) (cx18 F) Try.f18 [] [.sl 0, .v 0 false] [.sl 0 3, .v 0 false []] h18 (a0, a1, ()) = ref12_Awards F a0 a1 := by kernel_rfl
theorem c18 (F : Nat) : CSok E [] (s18 F) := ⟨en18, by
  have h := fn_sound (E := E) (gl := []) (cx := cx18 F) mix (allC (c69 F) (allC (c72 F) all0)) inl0 rfl (fun _ h => nomatch h) hf18 (ps := [.sl 0, .v 0 false]) (rs := [.sl 0 3, .v 0 false []]) (by decide) h18
  rwa [show fnK (E := E) (cx18 F) Try.f18 [] [.sl 0, .v 0 false] [.sl 0 3, .v 0 false []] h18 = (fun x : AT E.G.car [.sl 0, .v 0 false] => ref12_Awards F x.1 x.2.1) from funext fun x => e18 F x.1 x.2.1] at h⟩
theorem hf3 : Try.prog.funcs[3]? = some Try.f3 := by kernel_rfl
theorem en3 : Proofs.Enters Try.prog 3 := Proofs.enters_of hf3 (by kernel_rfl) rfl
noncomputable def law12_FeesAwards (F : Nat) (a0 : List Int) (a1 : Int) : Option (Bool) :=
  brk (decide ((↑a0.length : Int) > (50 : Int))) (bnd (law12_awake F) (fun (x : Bool) => some (x))) (bnd (kit_CopyInts F a0) (fun (x : List (Int)) => bnd (fees_Level F x a1) (fun (x_1 : (Int) × ((Int) × (Int))) => bnd (ref12_Level F a0 a1) (fun (x_2 : (Int) × ((Int) × (Int))) => brk (x_1.fst != x_2.fst || x_1.snd.fst != x_2.snd.fst || x_1.snd.snd != x_2.snd.snd) (some (false)) (bnd (fees_Awards F x a1) (fun (x_3 : (List (Int)) × (Int)) => bnd (ref12_Awards F a0 a1) (fun (x_4 : (List (Int)) × (Int)) => bnd (brk (x_3.snd == x_4.snd) (kit_SameInts F x_3.fst x_4.fst) (some false)) (fun (x_5 : Bool) => bnd (brk (x_3.snd == x_4.snd && x_5) (kit_SameInts F x a0) (some false)) (fun (x_6 : Bool) => bnd (brk (x_3.snd == x_4.snd && x_5 && x_6) (law12_awake F) (some false)) (fun (x_7 : Bool) => some (x_3.snd == x_4.snd && x_5 && x_6 && x_7)))))))))))
noncomputable def s3 (F : Nat) : CS E.G := ⟨3, [.sl 0, .v 0 false], [.v 1 false []], fun x => law12_FeesAwards F x.1 x.2.1⟩
noncomputable def cx3 (F : Nat) : Ctx E := ⟨[s13 F, s14 F, s15 F, s16 F, s17 F, s18 F, s19 F], [], F, []⟩
noncomputable def h3 : Hint := (.c .n .n)
theorem e3 (F : Nat) (a0 : List Int) (a1 : Int) : fnK (E := E) (cx3 F) Try.f3 [] [.sl 0, .v 0 false] [.v 1 false []] h3 (a0, a1, ()) = law12_FeesAwards F a0 a1 := by kernel_rfl
theorem c3 (F : Nat) : CSok E [] (s3 F) := ⟨en3, by
  have h := fn_sound (E := E) (gl := []) (cx := cx3 F) mix (allC (c13 F) (allC (c14 F) (allC (c15 F) (allC (c16 F) (allC (c17 F) (allC (c18 F) (allC (c19 F) all0))))))) inl0 rfl (fun _ h => nomatch h) hf3 (ps := [.sl 0, .v 0 false]) (rs := [.v 1 false []]) (by decide) h3
  rwa [show fnK (E := E) (cx3 F) Try.f3 [] [.sl 0, .v 0 false] [.v 1 false []] h3 = (fun x : AT E.G.car [.sl 0, .v 0 false] => law12_FeesAwards F x.1 x.2.1) from funext fun x => e3 F x.1 x.2.1] at h⟩
theorem hf26 : Try.prog.funcs[26]? = some Try.f26 := by kernel_rfl
theorem en26 : Proofs.Enters Try.prog 26 := Proofs.enters_of hf26 (by kernel_rfl) rfl
noncomputable def fees_Settle (F : Nat) (a0 : State) : Option (State × (List (List Int)) × Int) :=
  bnd (fees_State_check F (State.mk (a0.Deposits) (a0.Owed))) (fun (x : Int) => brk (x != (0 : Int)) (some ((State.mk ([]) ([]), [], x))) (bnd (fees_State_settle F (State.mk (a0.Deposits) (a0.Owed))) (fun (x_1 : (State) × (List (List (Int)))) => some ((State.mk (x_1.fst.Deposits) (x_1.fst.Owed), x_1.snd, (0 : Int))))))
noncomputable def s26 (F : Nat) : CS E.G := ⟨26, [.v 18 true], [.v 18 true [3, 22], .sl 6 22, .v 0 false []], fun x => fees_Settle F x.1⟩
noncomputable def cx26 (F : Nat) : Ctx E := ⟨[s80 F, s84 F], [], F, []⟩
noncomputable def h26 : Hint := .n
theorem e26 (F : Nat) (a0 : State) : fnK (E := E) (cx26 F) Try.f26 [] [.v 18 true] [.v 18 true [3, 22], .sl 6 22, .v 0 false []] h26 (a0, ()) = fees_Settle F a0 := by kernel_rfl
theorem c26 (F : Nat) : CSok E [] (s26 F) := ⟨en26, by
  have h := fn_sound (E := E) (gl := []) (cx := cx26 F) mix (allC (c80 F) (allC (c84 F) all0)) inl0 rfl (fun _ h => nomatch h) hf26 (ps := [.v 18 true]) (rs := [.v 18 true [3, 22], .sl 6 22, .v 0 false []]) (by decide) h26
  rwa [show fnK (E := E) (cx26 F) Try.f26 [] [.v 18 true] [.v 18 true [3, 22], .sl 6 22, .v 0 false []] h26 = (fun x : AT E.G.car [.v 18 true] => fees_Settle F x.1) from funext fun x => e26 F x.1] at h⟩
theorem hf27 : Try.prog.funcs[27]? = some Try.f27 := by kernel_rfl
theorem en27 : Proofs.Enters Try.prog 27 := Proofs.enters_of hf27 (by kernel_rfl) rfl
noncomputable def fees_Sum (F : Nat) (a0 : State) : Option (Int × Int × Int) :=
  bnd (fees_State_check F (State.mk (a0.Deposits) (a0.Owed))) (fun (x : Int) => brk (x != (0 : Int)) (some (((0 : Int), (0 : Int), x))) (loopC (fun (x_1 : (Int) × ((Int) × (Int))) => fun x_2 => brk (decide (x_1.fst < (↑a0.Deposits.length : Int))) (chk ((0 : Int) ≤ x_1.fst ∧ x_1.fst < (↑a0.Deposits.length : Int)) (chk (InR (x_1.snd.fst + a0.Deposits.getD (Int.toNat x_1.fst) (0 : Int))) (chk ((0 : Int) ≤ x_1.fst ∧ x_1.fst < (↑a0.Owed.length : Int)) (loopC (fun (x_3 : (Int) × (Int)) => fun x_4 => brk (decide (x_3.fst < (↑(List.length (a0.Owed.getD (Int.toNat x_1.fst) [])) : Int))) (chk ((0 : Int) ≤ x_3.fst ∧ x_3.fst < (↑(List.length (a0.Owed.getD (Int.toNat x_1.fst) [])) : Int)) (chk (InR (x_3.snd + List.getD (a0.Owed.getD (Int.toNat x_1.fst) []) (Int.toNat x_3.fst) (0 : Int))) (chk (InR (x_3.fst + (1 : Int))) (x_4 ((x_3.fst + (1 : Int), x_3.snd + List.getD (a0.Owed.getD (Int.toNat x_1.fst) []) (Int.toNat x_3.fst) (0 : Int))))))) (chk (InR (x_1.fst + (1 : Int))) (x_2 ((x_1.fst + (1 : Int), x_1.snd.fst + a0.Deposits.getD (Int.toNat x_1.fst) (0 : Int), x_3.snd))))) (F) (((0 : Int), x_1.snd.snd)))))) (some ((x_1.snd.fst, x_1.snd.snd, (0 : Int))))) (F) (((0 : Int), (0 : Int), (0 : Int)))))
noncomputable def s27 (F : Nat) : CS E.G := ⟨27, [.v 18 true], [.v 0 false [], .v 0 false [], .v 0 false []], fun x => fees_Sum F x.1⟩
noncomputable def cx27 (F : Nat) : Ctx E := ⟨[s80 F], [], F, []⟩
noncomputable def h27 : Hint := (.c .n (.l ⟨[.i, .i, .i], [16, 288, 304], [2, 0, 1], [(320, .i IntKind.i64), (96, .i IntKind.i64), (112, .i IntKind.i64)], [], [], [], 3⟩ (.c (.l ⟨[.i, .i], [16, 512, 320, 96, 288, 528, 304], [2, 3, 0, 1], [(544, .i IntKind.i64), (112, .i IntKind.i64)], [], [], [], 4⟩ .n) .n)))
theorem e27 (F : Nat) (a0 : State) : fnK (E := E) (cx27 F) Try.f27 [] [.v 18 true] [.v 0 false [], .v 0 false [], .v 0 false []] h27 (a0, ()) = fees_Sum F a0 := by kernel_rfl
theorem c27 (F : Nat) : CSok E [] (s27 F) := ⟨en27, by
  have h := fn_sound (E := E) (gl := []) (cx := cx27 F) mix (allC (c80 F) all0) inl0 rfl (fun _ h => nomatch h) hf27 (ps := [.v 18 true]) (rs := [.v 0 false [], .v 0 false [], .v 0 false []]) (by decide) h27
  rwa [show fnK (E := E) (cx27 F) Try.f27 [] [.v 18 true] [.v 0 false [], .v 0 false [], .v 0 false []] h27 = (fun x : AT E.G.car [.v 18 true] => fees_Sum F x.1) from funext fun x => e27 F x.1] at h⟩
theorem hf30 : Try.prog.funcs[30]? = some Try.f30 := by kernel_rfl
theorem en30 : Proofs.Enters Try.prog 30 := Proofs.enters_of hf30 (by kernel_rfl) rfl
noncomputable def law12_FeesAdds_1 (F : Nat) (a0 : Int) : Option (Bool) :=
  some (a0 != (0 : Int))
noncomputable def s30 (F : Nat) : CS E.G := ⟨30, [.v 0 false], [.v 1 false []], fun x => law12_FeesAdds_1 F x.1⟩
noncomputable def cx30 (F : Nat) : Ctx E := ⟨[], [], F, []⟩
noncomputable def h30 : Hint := .n
theorem e30 (F : Nat) (a0 : Int) : fnK (E := E) (cx30 F) Try.f30 [] [.v 0 false] [.v 1 false []] h30 (a0, ()) = law12_FeesAdds_1 F a0 := by kernel_rfl
theorem c30 (F : Nat) : CSok E [] (s30 F) := ⟨en30, by
  have h := fn_sound (E := E) (gl := []) (cx := cx30 F) mix all0 inl0 rfl (fun _ h => nomatch h) hf30 (ps := [.v 0 false]) (rs := [.v 1 false []]) (by decide) h30
  rwa [show fnK (E := E) (cx30 F) Try.f30 [] [.v 0 false] [.v 1 false []] h30 = (fun x : AT E.G.car [.v 0 false] => law12_FeesAdds_1 F x.1) from funext fun x => e30 F x.1] at h⟩
theorem hf6 : Try.prog.funcs[6]? = some Try.f6 := by kernel_rfl
theorem en6 : Proofs.Enters Try.prog 6 := Proofs.enters_of hf6 (by kernel_rfl) rfl
noncomputable def law12_FeesAdds (F : Nat) (a0 : List Int) (a1 : List Int) : Option (Bool) :=
  join F (fun (x : (Int) × (Int)) => chk (InR ((1 : Int) + x.fst)) (join F (fun (x_1 : (Int) × (Int)) => chk (InR ((1 : Int) + x_1.fst)) (loopC (fun (x_2 : (Int) × ((List (List (Int))) × ((List (Int)) × (Int)))) => fun x_3 => brk (decide (x_2.fst < (1 : Int) + x.fst)) (join F (fun (x_4 : (Int) × (Int)) => chk (InR ((10 : Int) * x_4.fst)) (chk (List.length x_2.snd.snd.fst + [(10 : Int) * x_4.fst].length ≤ (1000000 : Nat)) (loopC (fun (x_5 : (Int) × ((List (Int)) × (Int))) => fun x_6 => brk (decide (x_5.fst < (1 : Int) + x_1.fst)) (join F (fun (x_7 : (Int) × (Int)) => join F (fun (x_8 : (Int) × (Int)) => chk (InR (x_7.fst * x_8.fst)) (chk (List.length x_5.snd.fst + [x_7.fst * x_8.fst].length ≤ (1000000 : Nat)) (chk (InR (x_5.fst + (1 : Int))) (x_6 ((x_5.fst + (1 : Int), x_5.snd.fst ++ [x_7.fst * x_8.fst], x_8.snd)))))) (fun x_8 => brk (decide (x_7.snd ≥ (↑a0.length : Int))) (x_8 (((0 : Int), x_7.snd))) (chk (InR (x_7.snd + (1 : Int))) (chk (InR (x_7.snd + (1 : Int) - (1 : Int))) (chk ((0 : Int) ≤ x_7.snd + (1 : Int) - (1 : Int) ∧ x_7.snd + (1 : Int) - (1 : Int) < (↑a0.length : Int)) (chk (InR (a0.getD (x_7.snd + (1 : Int) - (1 : Int)).toNat (0 : Int))) (chk ((0 : Int) ≤ a0.getD (x_7.snd + (1 : Int) - (1 : Int)).toNat (0 : Int) ∧ a0.getD (x_7.snd + (1 : Int) - (1 : Int)).toNat (0 : Int) ≤ (9223372036854775807 : Int)) (x_8 ((a0.getD (x_7.snd + (1 : Int) - (1 : Int)).toNat (0 : Int) % (256 : Int), x_7.snd + (1 : Int))))))))))) (fun x_7 => brk (decide (x_5.snd.snd ≥ (↑a0.length : Int))) (x_7 (((0 : Int), x_5.snd.snd))) (chk (InR (x_5.snd.snd + (1 : Int))) (chk (InR (x_5.snd.snd + (1 : Int) - (1 : Int))) (chk ((0 : Int) ≤ x_5.snd.snd + (1 : Int) - (1 : Int) ∧ x_5.snd.snd + (1 : Int) - (1 : Int) < (↑a0.length : Int)) (chk (InR (a0.getD (x_5.snd.snd + (1 : Int) - (1 : Int)).toNat (0 : Int))) (chk ((0 : Int) ≤ a0.getD (x_5.snd.snd + (1 : Int) - (1 : Int)).toNat (0 : Int) ∧ a0.getD (x_5.snd.snd + (1 : Int) - (1 : Int)).toNat (0 : Int) ≤ (9223372036854775807 : Int)) (x_7 ((a0.getD (x_5.snd.snd + (1 : Int) - (1 : Int)).toNat (0 : Int) % (4 : Int), x_5.snd.snd + (1 : Int))))))))))) (chk (List.length x_2.snd.fst + [x_5.snd.fst].length ≤ (1000000 : Nat)) (chk (InR (x_2.fst + (1 : Int))) (x_3 ((x_2.fst + (1 : Int), x_2.snd.fst ++ [x_5.snd.fst], x_2.snd.snd.fst ++ [(10 : Int) * x_4.fst], x_5.snd.snd)))))) (F) (((0 : Int), [], x_4.snd))))) (fun x_4 => brk (decide (x_2.snd.snd.snd ≥ (↑a0.length : Int))) (x_4 (((0 : Int), x_2.snd.snd.snd))) (chk (InR (x_2.snd.snd.snd + (1 : Int))) (chk (InR (x_2.snd.snd.snd + (1 : Int) - (1 : Int))) (chk ((0 : Int) ≤ x_2.snd.snd.snd + (1 : Int) - (1 : Int) ∧ x_2.snd.snd.snd + (1 : Int) - (1 : Int) < (↑a0.length : Int)) (chk (InR (a0.getD (x_2.snd.snd.snd + (1 : Int) - (1 : Int)).toNat (0 : Int))) (chk ((0 : Int) ≤ a0.getD (x_2.snd.snd.snd + (1 : Int) - (1 : Int)).toNat (0 : Int) ∧ a0.getD (x_2.snd.snd.snd + (1 : Int) - (1 : Int)).toNat (0 : Int) ≤ (9223372036854775807 : Int)) (x_4 ((a0.getD (x_2.snd.snd.snd + (1 : Int) - (1 : Int)).toNat (0 : Int) % (256 : Int), x_2.snd.snd.snd + (1 : Int))))))))))) (join F (fun (x_4 : (Int) × (Int)) => loopC (fun (x_5 : (Int) × ((List (List (Int))) × ((List (Int)) × (Int)))) => fun x_6 => brk (decide (x_5.fst < x_4.fst)) (join F (fun (x_7 : (Int) × (Int)) => loopC (fun (x_8 : (List (Int)) × ((List (List (Int))) × ((Int) × (Int)))) => fun x_9 => brk (decide (x_8.snd.snd.fst < (1 : Int) + x.fst)) (join F (fun (x_10 : (Int) × (Int)) => chk (InR ((2 : Int) * x_10.fst)) (chk (List.length x_8.fst + [(2 : Int) * x_10.fst].length ≤ (1000000 : Nat)) (loopC (fun (x_11 : (Int) × ((List (Int)) × (Int))) => fun x_12 => brk (decide (x_11.fst < (1 : Int) + x_1.fst)) (join F (fun (x_13 : (Int) × (Int)) => chk (List.length x_11.snd.fst + [x_13.fst].length ≤ (1000000 : Nat)) (chk (InR (x_11.fst + (1 : Int))) (x_12 ((x_11.fst + (1 : Int), x_11.snd.fst ++ [x_13.fst], x_13.snd))))) (fun x_13 => brk (decide (x_11.snd.snd ≥ (↑a1.length : Int))) (x_13 (((0 : Int), x_11.snd.snd))) (chk (InR (x_11.snd.snd + (1 : Int))) (chk (InR (x_11.snd.snd + (1 : Int) - (1 : Int))) (chk ((0 : Int) ≤ x_11.snd.snd + (1 : Int) - (1 : Int) ∧ x_11.snd.snd + (1 : Int) - (1 : Int) < (↑a1.length : Int)) (chk (InR (a1.getD (x_11.snd.snd + (1 : Int) - (1 : Int)).toNat (0 : Int))) (chk ((0 : Int) ≤ a1.getD (x_11.snd.snd + (1 : Int) - (1 : Int)).toNat (0 : Int) ∧ a1.getD (x_11.snd.snd + (1 : Int) - (1 : Int)).toNat (0 : Int) ≤ (9223372036854775807 : Int)) (x_13 ((a1.getD (x_11.snd.snd + (1 : Int) - (1 : Int)).toNat (0 : Int) % (256 : Int), x_11.snd.snd + (1 : Int))))))))))) (chk (List.length x_8.snd.fst + [x_11.snd.fst].length ≤ (1000000 : Nat)) (chk (InR (x_8.snd.snd.fst + (1 : Int))) (x_9 ((x_8.fst ++ [(2 : Int) * x_10.fst], x_8.snd.fst ++ [x_11.snd.fst], x_8.snd.snd.fst + (1 : Int), x_11.snd.snd)))))) (F) (((0 : Int), [], x_10.snd))))) (fun x_10 => brk (decide (x_8.snd.snd.snd ≥ (↑a1.length : Int))) (x_10 (((0 : Int), x_8.snd.snd.snd))) (chk (InR (x_8.snd.snd.snd + (1 : Int))) (chk (InR (x_8.snd.snd.snd + (1 : Int) - (1 : Int))) (chk ((0 : Int) ≤ x_8.snd.snd.snd + (1 : Int) - (1 : Int) ∧ x_8.snd.snd.snd + (1 : Int) - (1 : Int) < (↑a1.length : Int)) (chk (InR (a1.getD (x_8.snd.snd.snd + (1 : Int) - (1 : Int)).toNat (0 : Int))) (chk ((0 : Int) ≤ a1.getD (x_8.snd.snd.snd + (1 : Int) - (1 : Int)).toNat (0 : Int) ∧ a1.getD (x_8.snd.snd.snd + (1 : Int) - (1 : Int)).toNat (0 : Int) ≤ (9223372036854775807 : Int)) (x_10 ((a1.getD (x_8.snd.snd.snd + (1 : Int) - (1 : Int)).toNat (0 : Int) % (256 : Int), x_8.snd.snd.snd + (1 : Int))))))))))) (bnd (fees_Month F (State.mk (x_5.snd.snd.fst) (x_5.snd.fst)) x_8.fst x_8.snd.fst x_7.fst) (fun (x_10 : (State) × ((List (List (Int))) × (Int))) => bnd (fees_Settle F (State.mk (x_10.fst.Deposits) (x_10.fst.Owed))) (fun (x_11 : (State) × ((List (List (Int))) × (Int))) => bnd (fees_Sum F (State.mk (x_5.snd.snd.fst) (x_5.snd.fst))) (fun (x_12 : (Int) × ((Int) × (Int))) => bnd (fees_Sum F (State.mk (x_10.fst.Deposits) (x_10.fst.Owed))) (fun (x_13 : (Int) × ((Int) × (Int))) => bnd (brk (!(x_10.snd.snd != (0 : Int) || x_11.snd.snd != (0 : Int) || x_12.snd.snd != (0 : Int) || x_13.snd.snd != (0 : Int) || (↑x_10.fst.Deposits.length : Int) != (1 : Int) + x.fst || (↑x_10.fst.Owed.length : Int) != (1 : Int) + x.fst || (↑(List.length x_10.snd.fst) : Int) != (1 : Int) + x.fst || (↑(List.length x_11.snd.fst) : Int) != (1 : Int) + x.fst)) (slices_Equal_int F x_11.fst.Deposits x_10.fst.Deposits) (some false)) (fun (x_14 : Bool) => brk (x_10.snd.snd != (0 : Int) || x_11.snd.snd != (0 : Int) || x_12.snd.snd != (0 : Int) || x_13.snd.snd != (0 : Int) || (↑x_10.fst.Deposits.length : Int) != (1 : Int) + x.fst || (↑x_10.fst.Owed.length : Int) != (1 : Int) + x.fst || (↑(List.length x_10.snd.fst) : Int) != (1 : Int) + x.fst || (↑(List.length x_11.snd.fst) : Int) != (1 : Int) + x.fst || !x_14 || (↑x_11.fst.Owed.length : Int) != (1 : Int) + x.fst) (some (false)) (loopC (fun (x_15 : (Int) × ((Int) × ((Int) × (Int)))) => fun x_16 => brk (decide (x_15.snd.fst < (1 : Int) + x.fst)) (chk ((0 : Int) ≤ x_15.snd.fst ∧ x_15.snd.fst < (↑x_10.fst.Owed.length : Int)) (brk ((↑(List.length (x_10.fst.Owed.getD (Int.toNat x_15.snd.fst) [])) : Int) != (1 : Int) + x_1.fst) (some (false)) (chk ((0 : Int) ≤ x_15.snd.fst ∧ x_15.snd.fst < (↑(List.length x_10.snd.fst) : Int)) (brk ((↑(List.length (List.getD x_10.snd.fst (Int.toNat x_15.snd.fst) [])) : Int) != (1 : Int) + x_1.fst) (some (false)) (chk ((0 : Int) ≤ x_15.snd.fst ∧ x_15.snd.fst < (↑x_11.fst.Owed.length : Int)) (chk ((0 : Int) ≤ x_15.snd.fst ∧ x_15.snd.fst < (↑x_10.fst.Owed.length : Int)) (bnd (slices_Equal_int F (x_11.fst.Owed.getD (Int.toNat x_15.snd.fst) []) (x_10.fst.Owed.getD (Int.toNat x_15.snd.fst) [])) (fun (x_17 : Bool) => brk (!x_17) (some (false)) (chk ((0 : Int) ≤ x_15.snd.fst ∧ x_15.snd.fst < (↑(List.length x_11.snd.fst) : Int)) (join F (fun (x_18 : Int) => brk (decide (x_18 ≥ (0 : Int))) (some (false)) (chk ((0 : Int) ≤ x_15.snd.fst ∧ x_15.snd.fst < (↑(List.length x_5.snd.snd.fst) : Int)) (chk ((0 : Int) ≤ x_15.snd.fst ∧ x_15.snd.fst < (↑(List.length x_8.fst) : Int)) (chk (InR (List.getD x_5.snd.snd.fst (Int.toNat x_15.snd.fst) (0 : Int) + List.getD x_8.fst (Int.toNat x_15.snd.fst) (0 : Int))) (chk ((0 : Int) ≤ x_15.snd.fst ∧ x_15.snd.fst < (↑x_10.fst.Owed.length : Int)) (loopC (fun (x_19 : (Int) × ((Int) × ((Int) × ((Int) × (Int))))) => fun x_20 => brk (decide (x_19.snd.snd.fst < (↑(List.length (x_10.fst.Owed.getD (Int.toNat x_15.snd.fst) [])) : Int))) (chk ((0 : Int) ≤ x_19.snd.snd.fst ∧ x_19.snd.snd.fst < (↑(List.length (x_10.fst.Owed.getD (Int.toNat x_15.snd.fst) [])) : Int)) (chk ((0 : Int) ≤ x_15.snd.fst ∧ x_15.snd.fst < (↑(List.length x_5.snd.fst) : Int)) (chk ((0 : Int) ≤ x_19.snd.snd.fst ∧ x_19.snd.snd.fst < (↑(List.length (List.getD x_5.snd.fst (Int.toNat x_15.snd.fst) [])) : Int)) (chk (InR (List.getD (List.getD x_5.snd.fst (Int.toNat x_15.snd.fst) []) (Int.toNat x_19.snd.snd.fst) (0 : Int) * x_7.fst)) (chk (InR (List.getD (List.getD x_5.snd.fst (Int.toNat x_15.snd.fst) []) (Int.toNat x_19.snd.snd.fst) (0 : Int) * x_7.fst + (99 : Int))) (chk ((0 : Int) ≤ List.getD (List.getD x_5.snd.fst (Int.toNat x_15.snd.fst) []) (Int.toNat x_19.snd.snd.fst) (0 : Int) * x_7.fst + (99 : Int) ∧ List.getD (List.getD x_5.snd.fst (Int.toNat x_15.snd.fst) []) (Int.toNat x_19.snd.snd.fst) (0 : Int) * x_7.fst + (99 : Int) ≤ (9223372036854775807 : Int)) (brk (decide (List.getD (x_10.fst.Owed.getD (Int.toNat x_15.snd.fst) []) (Int.toNat x_19.snd.snd.fst) (0 : Int) < (0 : Int))) (some (false)) (chk ((0 : Int) ≤ x_15.snd.fst ∧ x_15.snd.fst < (↑(List.length x_10.snd.fst) : Int)) (chk ((0 : Int) ≤ x_19.snd.snd.fst ∧ x_19.snd.snd.fst < (↑(List.length (List.getD x_10.snd.fst (Int.toNat x_15.snd.fst) [])) : Int)) (brk (decide (List.getD (List.getD x_10.snd.fst (Int.toNat x_15.snd.fst) []) (Int.toNat x_19.snd.snd.fst) (0 : Int) < (0 : Int))) (some (false)) (chk ((0 : Int) ≤ x_15.snd.fst ∧ x_15.snd.fst < (↑(List.length x_5.snd.fst) : Int)) (chk ((0 : Int) ≤ x_19.snd.snd.fst ∧ x_19.snd.snd.fst < (↑(List.length (List.getD x_5.snd.fst (Int.toNat x_15.snd.fst) [])) : Int)) (chk (InR (List.getD (List.getD x_5.snd.fst (Int.toNat x_15.snd.fst) []) (Int.toNat x_19.snd.snd.fst) (0 : Int) + (List.getD (List.getD x_5.snd.fst (Int.toNat x_15.snd.fst) []) (Int.toNat x_19.snd.snd.fst) (0 : Int) * x_7.fst + (99 : Int)) / (100 : Int))) (chk ((0 : Int) ≤ x_15.snd.fst ∧ x_15.snd.fst < (↑(List.length x_8.snd.fst) : Int)) (chk ((0 : Int) ≤ x_19.snd.snd.fst ∧ x_19.snd.snd.fst < (↑(List.length (List.getD x_8.snd.fst (Int.toNat x_15.snd.fst) [])) : Int)) (chk (InR (List.getD (List.getD x_5.snd.fst (Int.toNat x_15.snd.fst) []) (Int.toNat x_19.snd.snd.fst) (0 : Int) + (List.getD (List.getD x_5.snd.fst (Int.toNat x_15.snd.fst) []) (Int.toNat x_19.snd.snd.fst) (0 : Int) * x_7.fst + (99 : Int)) / (100 : Int) + List.getD (List.getD x_8.snd.fst (Int.toNat x_15.snd.fst) []) (Int.toNat x_19.snd.snd.fst) (0 : Int))) (chk ((0 : Int) ≤ x_15.snd.fst ∧ x_15.snd.fst < (↑(List.length x_10.snd.fst) : Int)) (chk ((0 : Int) ≤ x_19.snd.snd.fst ∧ x_19.snd.snd.fst < (↑(List.length (List.getD x_10.snd.fst (Int.toNat x_15.snd.fst) [])) : Int)) (chk (InR (List.getD (x_10.fst.Owed.getD (Int.toNat x_15.snd.fst) []) (Int.toNat x_19.snd.snd.fst) (0 : Int) + List.getD (List.getD x_10.snd.fst (Int.toNat x_15.snd.fst) []) (Int.toNat x_19.snd.snd.fst) (0 : Int))) (brk (List.getD (List.getD x_5.snd.fst (Int.toNat x_15.snd.fst) []) (Int.toNat x_19.snd.snd.fst) (0 : Int) + (List.getD (List.getD x_5.snd.fst (Int.toNat x_15.snd.fst) []) (Int.toNat x_19.snd.snd.fst) (0 : Int) * x_7.fst + (99 : Int)) / (100 : Int) + List.getD (List.getD x_8.snd.fst (Int.toNat x_15.snd.fst) []) (Int.toNat x_19.snd.snd.fst) (0 : Int) != List.getD (x_10.fst.Owed.getD (Int.toNat x_15.snd.fst) []) (Int.toNat x_19.snd.snd.fst) (0 : Int) + List.getD (List.getD x_10.snd.fst (Int.toNat x_15.snd.fst) []) (Int.toNat x_19.snd.snd.fst) (0 : Int)) (some (false)) (chk ((0 : Int) ≤ x_15.snd.fst ∧ x_15.snd.fst < (↑(List.length x_10.snd.fst) : Int)) (chk ((0 : Int) ≤ x_19.snd.snd.fst ∧ x_19.snd.snd.fst < (↑(List.length (List.getD x_10.snd.fst (Int.toNat x_15.snd.fst) [])) : Int)) (chk (InR (x_19.snd.fst - List.getD (List.getD x_10.snd.fst (Int.toNat x_15.snd.fst) []) (Int.toNat x_19.snd.snd.fst) (0 : Int))) (chk (InR (x_19.snd.snd.snd.snd + List.getD (x_10.fst.Owed.getD (Int.toNat x_15.snd.fst) []) (Int.toNat x_19.snd.snd.fst) (0 : Int))) (chk ((0 : Int) ≤ x_15.snd.fst ∧ x_15.snd.fst < (↑(List.length x_10.snd.fst) : Int)) (chk ((0 : Int) ≤ x_19.snd.snd.fst ∧ x_19.snd.snd.fst < (↑(List.length (List.getD x_10.snd.fst (Int.toNat x_15.snd.fst) [])) : Int)) (chk (InR (x_19.snd.snd.snd.fst + List.getD (List.getD x_10.snd.fst (Int.toNat x_15.snd.fst) []) (Int.toNat x_19.snd.snd.fst) (0 : Int))) (chk ((0 : Int) ≤ x_15.snd.fst ∧ x_15.snd.fst < (↑(List.length x_8.snd.fst) : Int)) (chk ((0 : Int) ≤ x_19.snd.snd.fst ∧ x_19.snd.snd.fst < (↑(List.length (List.getD x_8.snd.fst (Int.toNat x_15.snd.fst) [])) : Int)) (chk (InR ((List.getD (List.getD x_5.snd.fst (Int.toNat x_15.snd.fst) []) (Int.toNat x_19.snd.snd.fst) (0 : Int) * x_7.fst + (99 : Int)) / (100 : Int) + List.getD (List.getD x_8.snd.fst (Int.toNat x_15.snd.fst) []) (Int.toNat x_19.snd.snd.fst) (0 : Int))) (chk (InR (x_19.fst + ((List.getD (List.getD x_5.snd.fst (Int.toNat x_15.snd.fst) []) (Int.toNat x_19.snd.snd.fst) (0 : Int) * x_7.fst + (99 : Int)) / (100 : Int) + List.getD (List.getD x_8.snd.fst (Int.toNat x_15.snd.fst) []) (Int.toNat x_19.snd.snd.fst) (0 : Int)))) (chk (InR (x_19.snd.snd.fst + (1 : Int))) (x_20 ((x_19.fst + ((List.getD (List.getD x_5.snd.fst (Int.toNat x_15.snd.fst) []) (Int.toNat x_19.snd.snd.fst) (0 : Int) * x_7.fst + (99 : Int)) / (100 : Int) + List.getD (List.getD x_8.snd.fst (Int.toNat x_15.snd.fst) []) (Int.toNat x_19.snd.snd.fst) (0 : Int)), x_19.snd.fst - List.getD (List.getD x_10.snd.fst (Int.toNat x_15.snd.fst) []) (Int.toNat x_19.snd.snd.fst) (0 : Int), x_19.snd.snd.fst + (1 : Int), x_19.snd.snd.snd.fst + List.getD (List.getD x_10.snd.fst (Int.toNat x_15.snd.fst) []) (Int.toNat x_19.snd.snd.fst) (0 : Int), x_19.snd.snd.snd.snd + List.getD (x_10.fst.Owed.getD (Int.toNat x_15.snd.fst) []) (Int.toNat x_19.snd.snd.fst) (0 : Int)))))))))))))))))))))))))))))))))))) (chk ((0 : Int) ≤ x_15.snd.fst ∧ x_15.snd.fst < (↑x_10.fst.Deposits.length : Int)) (brk (x_19.snd.fst != x_10.fst.Deposits.getD (Int.toNat x_15.snd.fst) (0 : Int) || decide (x_19.snd.fst < (0 : Int)) || decide (x_19.snd.fst > (0 : Int)) && decide (x_19.snd.snd.snd.snd > (0 : Int))) (some (false)) (chk ((0 : Int) ≤ x_15.snd.fst ∧ x_15.snd.fst < (↑(List.length x_8.fst) : Int)) (chk (InR (x_15.snd.snd.fst + List.getD x_8.fst (Int.toNat x_15.snd.fst) (0 : Int))) (chk (InR (x_15.snd.fst + (1 : Int))) (x_16 ((x_19.fst, x_15.snd.fst + (1 : Int), x_15.snd.snd.fst + List.getD x_8.fst (Int.toNat x_15.snd.fst) (0 : Int), x_19.snd.snd.snd.fst))))))))) (F) ((x_15.fst, List.getD x_5.snd.snd.fst (Int.toNat x_15.snd.fst) (0 : Int) + List.getD x_8.fst (Int.toNat x_15.snd.fst) (0 : Int), (0 : Int), x_15.snd.snd.snd, (0 : Int))))))))) (fun x_18 => loopC (fun (x_19 : Int) => fun x_20 => brk (decide (x_19 < (↑(List.length (List.getD x_11.snd.fst (Int.toNat x_15.snd.fst) [])) : Int))) (chk ((0 : Int) ≤ x_19 ∧ x_19 < (↑(List.length (List.getD x_11.snd.fst (Int.toNat x_15.snd.fst) [])) : Int)) (bnd (law12_FeesAdds_1 F (List.getD (List.getD x_11.snd.fst (Int.toNat x_15.snd.fst) []) (Int.toNat x_19) (0 : Int))) (fun (x_21 : Bool) => brk (x_21) (x_18 (x_19)) (chk (InR (x_19 + (1 : Int))) (x_20 (x_19 + (1 : Int))))))) (x_18 ((-1 : Int)))) (F) ((0 : Int))))))))))))) (chk (InR (x_12.fst + x_15.snd.snd.fst)) (chk (InR (x_13.fst + x_15.snd.snd.snd)) (chk ((!x_12.fst + x_15.snd.snd.fst != x_13.fst + x_15.snd.snd.snd) = true → InR (x_12.snd.fst + x_15.fst)) (chk ((!x_12.fst + x_15.snd.snd.fst != x_13.fst + x_15.snd.snd.snd) = true → InR (x_13.snd.fst + x_15.snd.snd.snd)) (brk (x_12.fst + x_15.snd.snd.fst != x_13.fst + x_15.snd.snd.snd || x_12.snd.fst + x_15.fst != x_13.snd.fst + x_15.snd.snd.snd) (some (false)) (chk (InR (x_5.fst + (1 : Int))) (x_6 ((x_5.fst + (1 : Int), x_10.fst.Owed, x_10.fst.Deposits, x_8.snd.snd.snd)))))))))) (F) (((0 : Int), (0 : Int), (0 : Int), (0 : Int))))))))))) (F) (([], [], (0 : Int), x_7.snd))) (fun x_7 => brk (decide (x_5.snd.snd.snd ≥ (↑a1.length : Int))) (x_7 (((0 : Int), x_5.snd.snd.snd))) (chk (InR (x_5.snd.snd.snd + (1 : Int))) (chk (InR (x_5.snd.snd.snd + (1 : Int) - (1 : Int))) (chk ((0 : Int) ≤ x_5.snd.snd.snd + (1 : Int) - (1 : Int) ∧ x_5.snd.snd.snd + (1 : Int) - (1 : Int) < (↑a1.length : Int)) (chk (InR (a1.getD (x_5.snd.snd.snd + (1 : Int) - (1 : Int)).toNat (0 : Int))) (chk ((0 : Int) ≤ a1.getD (x_5.snd.snd.snd + (1 : Int) - (1 : Int)).toNat (0 : Int) ∧ a1.getD (x_5.snd.snd.snd + (1 : Int) - (1 : Int)).toNat (0 : Int) ≤ (9223372036854775807 : Int)) (x_7 ((a1.getD (x_5.snd.snd.snd + (1 : Int) - (1 : Int)).toNat (0 : Int) % (101 : Int), x_5.snd.snd.snd + (1 : Int))))))))))) (bnd (law12_awake F) (fun (x_7 : Bool) => some (x_7)))) (F) (((0 : Int), x_2.snd.fst, x_2.snd.snd.fst, x_4.snd))) (fun x_4 => brk (decide ((0 : Int) ≥ (↑a1.length : Int))) (x_4 (((0 : Int), (0 : Int)))) (chk ((0 : Int) ≤ IntKind.i64.wrap (IntKind.i64.wrap ((0 : Int) + (1 : Int)) - (1 : Int)) ∧ IntKind.i64.wrap (IntKind.i64.wrap ((0 : Int) + (1 : Int)) - (1 : Int)) < (↑a1.length : Int)) (chk (InR (a1.getD (IntKind.i64.wrap (IntKind.i64.wrap ((0 : Int) + (1 : Int)) - (1 : Int))).toNat (0 : Int))) (chk ((0 : Int) ≤ a1.getD (IntKind.i64.wrap (IntKind.i64.wrap ((0 : Int) + (1 : Int)) - (1 : Int))).toNat (0 : Int) ∧ a1.getD (IntKind.i64.wrap (IntKind.i64.wrap ((0 : Int) + (1 : Int)) - (1 : Int))).toNat (0 : Int) ≤ (9223372036854775807 : Int)) (x_4 ((a1.getD (IntKind.i64.wrap (IntKind.i64.wrap ((0 : Int) + (1 : Int)) - (1 : Int))).toNat (0 : Int) % (7 : Int), IntKind.i64.wrap ((0 : Int) + (1 : Int))))))))))) (F) (((0 : Int), [], [], x_1.snd)))) (fun x_1 => brk (decide (x.snd ≥ (↑a0.length : Int))) (x_1 (((0 : Int), x.snd))) (chk (InR (x.snd + (1 : Int))) (chk (InR (x.snd + (1 : Int) - (1 : Int))) (chk ((0 : Int) ≤ x.snd + (1 : Int) - (1 : Int) ∧ x.snd + (1 : Int) - (1 : Int) < (↑a0.length : Int)) (chk (InR (a0.getD (x.snd + (1 : Int) - (1 : Int)).toNat (0 : Int))) (chk ((0 : Int) ≤ a0.getD (x.snd + (1 : Int) - (1 : Int)).toNat (0 : Int) ∧ a0.getD (x.snd + (1 : Int) - (1 : Int)).toNat (0 : Int) ≤ (9223372036854775807 : Int)) (x_1 ((a0.getD (x.snd + (1 : Int) - (1 : Int)).toNat (0 : Int) % (4 : Int), x.snd + (1 : Int)))))))))))) (fun x => brk (decide ((0 : Int) ≥ (↑a0.length : Int))) (x (((0 : Int), (0 : Int)))) (chk ((0 : Int) ≤ IntKind.i64.wrap (IntKind.i64.wrap ((0 : Int) + (1 : Int)) - (1 : Int)) ∧ IntKind.i64.wrap (IntKind.i64.wrap ((0 : Int) + (1 : Int)) - (1 : Int)) < (↑a0.length : Int)) (chk (InR (a0.getD (IntKind.i64.wrap (IntKind.i64.wrap ((0 : Int) + (1 : Int)) - (1 : Int))).toNat (0 : Int))) (chk ((0 : Int) ≤ a0.getD (IntKind.i64.wrap (IntKind.i64.wrap ((0 : Int) + (1 : Int)) - (1 : Int))).toNat (0 : Int) ∧ a0.getD (IntKind.i64.wrap (IntKind.i64.wrap ((0 : Int) + (1 : Int)) - (1 : Int))).toNat (0 : Int) ≤ (9223372036854775807 : Int)) (x ((a0.getD (IntKind.i64.wrap (IntKind.i64.wrap ((0 : Int) + (1 : Int)) - (1 : Int))).toNat (0 : Int) % (6 : Int), IntKind.i64.wrap ((0 : Int) + (1 : Int)))))))))
noncomputable def s6 (F : Nat) : CS E.G := ⟨6, [.sl 2, .sl 2], [.v 1 false []], fun x => law12_FeesAdds F x.1 x.2.1⟩
noncomputable def cx6 (F : Nat) : Ctx E := ⟨[s13 F, s25 F, s26 F, s27 F, s28 F, s30 F], [(20, Try.f20), (73, Try.f73), (29, Try.f29), (85, Try.f85)], F, []⟩
noncomputable def h6 : Hint := (.p (.w ⟨[.i, .i], [], [0, 3, 2], [(0, .i IntKind.i64)], [], [(3, 0, .i IntKind.i64)], [], 4⟩ .n (.w ⟨[.i, .i], [], [0, 3, 2], [(0, .i IntKind.i64)], [], [(3, 0, .i IntKind.i64)], [], 4⟩ .n (.l ⟨[.i, .l 6, .l 0, .i], [16, 128, 704, 96, 80, 112], [1, 4, 3, 2, 0], [(720, .i IntKind.i64)], [], [(4, 1, .h 5 22 6), (4, 0, .h 6 3 0), (3, 0, .i IntKind.i64)], [], 7⟩ (.c (.w ⟨[.i, .i], [], [0, 3, 2], [(0, .i IntKind.i64)], [], [(3, 0, .i IntKind.i64)], [], 7⟩ .n (.l ⟨[.i, .l 0, .i], [16, 128, 704, 96, 80, 720, 112, 880], [1, 4, 3, 2, 5, 8, 0], [(896, .i IntKind.i64), (144, .h 9 3 0)], [], [(3, 0, .i IntKind.i64)], [], 10⟩ (.c (.w ⟨[.i, .i], [], [0, 3, 2], [(0, .i IntKind.i64)], [], [(3, 0, .i IntKind.i64)], [], 10⟩ .n (.w ⟨[.i, .i], [], [0, 3, 2], [(0, .i IntKind.i64)], [], [(3, 0, .i IntKind.i64)], [], 10⟩ .n .n)) .n))) (.p (.w ⟨[.i, .i], [], [1, 7, 8], [(0, .i IntKind.i64)], [], [(8, 0, .i IntKind.i64)], [], 9⟩ .n (.l ⟨[.i, .l 6, .l 0, .i], [128, 96, 80, 1232, 112], [4, 8, 7, 1], [(1248, .i IntKind.i64)], [], [(4, 1, .x 9 6), (4, 0, .x 10 0), (8, 0, .i IntKind.i64)], [], 11⟩ (.c (.w ⟨[.i, .i], [], [1, 7, 8], [(0, .i IntKind.i64)], [], [(8, 0, .i IntKind.i64)], [], 11⟩ .n (.l ⟨[.l 0, .l 6, .i, .i], [128, 192, 96, 1312, 1248, 80, 1232, 112], [4, 8, 7, 9, 10, 1], [(160, .h 11 3 0), (176, .h 12 22 6), (1328, .i IntKind.i64)], [], [(8, 0, .i IntKind.i64)], [], 13⟩ (.c (.w ⟨[.i, .i], [], [1, 7, 8], [(0, .i IntKind.i64)], [], [(8, 0, .i IntKind.i64)], [], 13⟩ .n (.l ⟨[.i, .l 0, .i], [128, 192, 96, 160, 1312, 1248, 80, 1232, 112, 176, 1328, 1456], [4, 14, 8, 7, 12, 9, 10, 1], [(1472, .i IntKind.i64), (208, .h 15 3 0)], [], [(8, 0, .i IntKind.i64)], [], 16⟩ (.c (.w ⟨[.i, .i], [], [1, 7, 8], [(0, .i IntKind.i64)], [], [(8, 0, .i IntKind.i64)], [], 16⟩ .n .n) .n))) (.c .n (.l ⟨[.i, .i, .i, .i], [128, 384, 192, 320, 96, 160, 288, 224, 1248, 80, 272, 336, 1232, 112, 176, 2992, 240, 368], [4, 11, 19, 16, 8, 7, 20, 12, 15, 9, 10, 14, 13, 1, 18, 17], [(448, .i IntKind.i64), (3008, .i IntKind.i64), (416, .i IntKind.i64), (432, .i IntKind.i64)], [], [], [], 21⟩ (.c (.s .n (.s .n (.s .n (.p (.w ⟨[.i], [], [25], [(0, .i IntKind.i64)], [], [], [], 26⟩ (.l ⟨[.i], [0, 16, 112], [25], [(128, .i IntKind.i64)], [], [], [], 26⟩ (.c .n .n)) (.c .n (.l ⟨[.i, .i, .i, .i, .i], [128, 3584, 384, 3200, 3456, 192, 320, 3392, 3904, 3264, 3520, 3008, 96, 160, 288, 3616, 3360, 416, 3232, 3488, 224, 3424, 1248, 3296, 80, 272, 3600, 3344, 3216, 3472, 336, 3408, 464, 1232, 3280, 112, 176, 3632, 3376, 3888, 3248, 3504, 2992, 240, 368, 3440, 3568], [4, 15, 18, 11, 19, 25, 24, 16, 8, 7, 20, 14, 23, 12, 26, 22, 9, 10, 13, 1, 17], [(448, .i IntKind.i64), (480, .i IntKind.i64), (3920, .i IntKind.i64), (432, .i IntKind.i64), (496, .i IntKind.i64)], [], [], [], 27⟩ (.c (.s .n (.s .n .n)) .n)))))))) .n)))))) .n)))))))))
theorem e6 (F : Nat) (a0 : List Int) (a1 : List Int) : fnK (E := E) (cx6 F) Try.f6 [] [.sl 2, .sl 2] [.v 1 false []] h6 (a0, a1, ()) = law12_FeesAdds F a0 a1 := by kernel_rfl
theorem c6 (F : Nat) : CSok E [] (s6 F) := ⟨en6, by
  have h := fn_sound (E := E) (gl := []) (cx := cx6 F) mix (allC (c13 F) (allC (c25 F) (allC (c26 F) (allC (c27 F) (allC (c28 F) (allC (c30 F) all0)))))) (inlC hf20 en20 (inlC hf73 en73 (inlC hf29 en29 (inlC hf85 en85 inl0)))) rfl (fun _ h => nomatch h) hf6 (ps := [.sl 2, .sl 2]) (rs := [.v 1 false []]) (by decide) h6
  rwa [show fnK (E := E) (cx6 F) Try.f6 [] [.sl 2, .sl 2] [.v 1 false []] h6 = (fun x : AT E.G.car [.sl 2, .sl 2] => law12_FeesAdds F x.1 x.2.1) from funext fun x => e6 F x.1 x.2.1] at h⟩
end Go.Proofs.Fe

namespace Go.KX

def Ok {α : Type} (post : α → Prop) (o : Option α) : Prop := ∃ r, o = some r ∧ post r

section
variable {α β ι σ R : Type} {post : α → Prop}

theorem chk_pos {p : Prop} [Decidable p] {x : Option α} (h : p) : chk p x = x := if_pos h
theorem brk_true {x y : Option α} : brk true x y = x := rfl
theorem brk_false {x y : Option α} : brk false x y = y := rfl
theorem bnd_so {x : β} {f : β → Option α} : bnd (some x) f = f x := rfl
theorem loopC_succ {body : σ → (σ → Option α) → Option α} {n : Nat} {x : σ} : loopC body (n + 1) x = body x (loopC body n) := rfl
theorem ok_some {r : α} (h : post r) : Ok post (some r) := ⟨r, rfl, h⟩
theorem ok_chk {p : Prop} [Decidable p] {x : Option α} (h : p) (hx : Ok post x) : Ok post (chk p x) := by rw [chk_pos h]; exact hx
theorem ok_brk {c : Bool} {x y : Option α} (ht : c = true → Ok post x) (hf : c = false → Ok post y) : Ok post (brk c x y) := by
  cases c with
  | true => exact ht rfl
  | false => exact hf rfl
theorem ok_brkT {c : Bool} {x y : Option α} (hc : c = true) (ht : Ok post x) : Ok post (brk c x y) := by subst hc; exact ht
theorem ok_brkF {c : Bool} {x y : Option α} (hc : c = false) (hf : Ok post y) : Ok post (brk c x y) := by subst hc; exact hf
theorem ok_bnd {x : Option β} {f : β → Option α} (q : β → Prop) (hx : Ok q x) (hf : ∀ b, q b → Ok post (f b)) : Ok post (bnd x f) := by
  obtain ⟨b, rfl, hb⟩ := hx
  exact hf b hb
theorem ok_bnde {x : Option β} {f : β → Option α} {b : β} (hx : x = some b) (hf : Ok post (f b)) : Ok post (bnd x f) := by subst hx; exact hf
theorem ok_join {F : Nat} (hF : 0 < F) {K : ι → Option α} {body : (ι → Option α) → Option α} (J : ι → Prop) (hK : ∀ i, J i → Ok post (K i)) (hb : ∀ k : ι → Option α, (∀ i, J i → Ok post (k i)) → Ok post (body k)) : Ok post (join F K body) := by
  obtain ⟨n, rfl⟩ := Nat.exists_eq_succ_of_ne_zero (Nat.ne_of_gt hF)
  exact hb K hK
theorem join_succ {n : Nat} {K : ι → Option α} {body : (ι → Option α) → Option α} : join (n + 1) K body = body K := rfl
theorem ok_loop {body : σ → (σ → Option α) → Option α} (I : σ → Prop) (μ : σ → Nat) {n : Nat} {x0 : σ} (h0 : I x0) (hn : μ x0 < n)
    (h : ∀ x (next : σ → Option α), I x → (∀ y, I y → μ y < μ x → Ok post (next y)) → Ok post (body x next)) : Ok post (loopC body n x0) := by
  induction n generalizing x0 with
  | zero => omega
  | succ n ih => exact h x0 _ h0 fun y hy hlt => ih hy (by omega)
theorem Ok.mono {post' : α → Prop} {o : Option α} (h : Ok post o) (hp : ∀ r, post r → post' r) : Ok post' o := by obtain ⟨r, h1, h2⟩ := h; exact ⟨r, h1, hp r h2⟩
theorem Ok.eq {o : Option α} {r : α} (h : Ok (fun x => x = r) o) : o = some r := by obtain ⟨r, h1, rfl⟩ := h; exact h1
end

/-! ### Lists -/
theorem getD_mem {α : Type} {l : List α} {i : Nat} {d : α} (h : i < l.length) : l.getD i d ∈ l := by
  rw [List.getD_eq_getElem?_getD, List.getElem?_eq_getElem h]; exact List.getElem_mem h
theorem getD_get {α : Type} {l : List α} {i : Nat} {d : α} (h : i < l.length) : l.getD i d = l[i] := by
  rw [List.getD_eq_getElem?_getD, List.getElem?_eq_getElem h]; rfl
theorem getD_append_left' {α : Type} {l r : List α} {i : Nat} {d : α} (h : i < l.length) : (l ++ r).getD i d = l.getD i d := by
  rw [List.getD_eq_getElem?_getD, List.getElem?_append_left h, ← List.getD_eq_getElem?_getD]
theorem getD_append_here {α : Type} {l : List α} {x d : α} : (l ++ [x]).getD l.length d = x := by
  simp [List.getD_eq_getElem?_getD]
theorem getD_set' {α : Type} {l : List α} {i j : Nat} {x d : α} (h : i < l.length) : (l.set i x).getD j d = if i = j then x else l.getD j d := by
  simp only [List.getD_eq_getElem?_getD, List.getElem?_set]
  by_cases e : i = j
  · subst e; simp [h]
  · simp [e]
theorem list_ext {α : Type} {l r : List α} (d : α) (h : l.length = r.length) (hx : ∀ i, i < l.length → l.getD i d = r.getD i d) : l = r := by
  apply List.ext_getElem h
  intro i h1 h2
  have := hx i h1
  rwa [getD_get h1, getD_get h2] at this
theorem take_succ' {α : Type} {l : List α} {i : Nat} {d : α} (h : i < l.length) : l.take (i + 1) = l.take i ++ [l.getD i d] := by
  rw [getD_get h, List.take_add_one, List.getElem?_eq_getElem h]; rfl

def sumL : List Int → Int
  | [] => 0
  | x :: r => x + sumL r
theorem sumL_append : ∀ l r : List Int, sumL (l ++ r) = sumL l + sumL r
  | [], r => by simp [sumL]
  | x :: l, r => by simp only [List.cons_append, sumL, sumL_append l r]; omega
theorem sumL_set : ∀ (l : List Int) (i : Nat) (v : Int), i < l.length → sumL (l.set i v) = sumL l - l.getD i 0 + v
  | x :: l, 0, v, _ => by simp only [List.set_cons_zero, sumL, List.getD_cons_zero]; omega
  | x :: l, i + 1, v, h => by
    simp only [List.set_cons_succ, sumL, List.getD_cons_succ]
    rw [sumL_set l i v (by simpa using h)]; omega
theorem sumL_nonneg : ∀ (l : List Int), (∀ x ∈ l, 0 ≤ x) → 0 ≤ sumL l
  | [], _ => by simp [sumL]
  | x :: l, h => by
    have h1 := h x (by simp); have h2 := sumL_nonneg l fun y hy => h y (by simp [hy])
    simp only [sumL]; omega
theorem mem_le_sumL : ∀ (l : List Int), (∀ x ∈ l, 0 ≤ x) → ∀ x ∈ l, x ≤ sumL l
  | y :: l, h, x, hx => by
    have h1 := h y (by simp); have h2 := sumL_nonneg l fun y hy => h y (by simp [hy])
    simp only [sumL]
    rcases List.mem_cons.1 hx with rfl | hx
    · omega
    · have := mem_le_sumL l (fun y hy => h y (by simp [hy])) x hx; omega
theorem sumL_le {B : Int} : ∀ (l : List Int), (∀ x ∈ l, x ≤ B) → sumL l ≤ B * l.length
  | [], _ => by simp [sumL]
  | x :: l, h => by
    have h1 := h x (by simp); have h2 := sumL_le l fun y hy => h y (by simp [hy])
    simp only [sumL, List.length_cons, Int.natCast_add, Int.mul_add]; omega
theorem sumL_replicate0 (n : Nat) : sumL (List.replicate n 0) = 0 := by
  induction n with
  | zero => rfl
  | succ n ih => simp [List.replicate_succ, sumL, ih]
theorem getD_nonneg {l : List Int} (h : ∀ x ∈ l, 0 ≤ x) (i : Nat) : 0 ≤ l.getD i 0 := by
  by_cases hi : i < l.length
  · exact h _ (getD_mem hi)
  · simp [List.getD_eq_getElem?_getD, List.getElem?_eq_none (Nat.le_of_not_lt hi)]
theorem getD_le_sum {l : List Int} (h : ∀ x ∈ l, 0 ≤ x) (i : Nat) : l.getD i 0 ≤ sumL l := by
  by_cases hi : i < l.length
  · exact mem_le_sumL l h _ (getD_mem hi)
  · simp [List.getD_eq_getElem?_getD, List.getElem?_eq_none (Nat.le_of_not_lt hi)]; exact sumL_nonneg l h
end Go.KX

namespace Go.KX
section
variable {α β : Type} {post : α → Prop}

theorem nd_true {p : Prop} [Decidable p] (h : (!decide p) = true) : ¬ p := fun q => by rw [decide_eq_true q] at h; cases h
theorem nd_false {p : Prop} [Decidable p] (h : (!decide p) = false) : p := by
  by_cases q : p
  · exact q
  · rw [decide_eq_false q] at h; cases h
theorem ndT {p : Prop} [Decidable p] (h : ¬ p) : (!decide p) = true := by rw [decide_eq_false h]; rfl
theorem ndF {p : Prop} [Decidable p] (h : p) : (!decide p) = false := by rw [decide_eq_true h]; rfl

theorem drop_get {l : List β} {i : Nat} {d : β} (h : i < l.length) : l.drop i = l.getD i d :: l.drop (i + 1) := by
  rw [getD_get h, List.drop_eq_getElem_cons h]

/-- A loop that looks for the first element of which something is so. -/
theorem ok_find {F : Nat} {l : List β} {d : β} {p : β → Bool} {g : β → Option Bool} {hit : Int → Option α} {miss : Option α} (hF : l.length < F) (hl : l.length ≤ 1000000) (hg : ∀ x ∈ l, g x = some (p x))
    (h1 : ∀ i : Nat, i < l.length → p (l.getD i d) = true → Ok post (hit i)) (h2 : (∀ x ∈ l, p x = false) → Ok post miss) :
    Ok post (loopC (fun (x : Int) next => brk (decide (x < (l.length : Int))) (chk (0 ≤ x ∧ x < (l.length : Int)) (bnd (g (l.getD x.toNat d)) fun b => brk b (hit x) (chk (InR (x + 1)) (next (x + 1))))) miss) F 0) := by
  refine ok_loop (fun x : Int => 0 ≤ x ∧ x ≤ l.length ∧ ∀ j : Nat, (j : Int) < x → p (l.getD j d) = false) (fun x : Int => l.length - x.toNat) ⟨by simp, by simp, fun j hj => by omega⟩ (by simp; omega) ?_
  rintro i next ⟨i1, i2, i3⟩ hn
  refine ok_brk (fun hc => ?_) (fun hc => h2 fun x hx => ?_)
  · have hc : i < l.length := of_decide_eq_true hc
    have hi : i.toNat < l.length := by omega
    refine ok_chk ⟨i1, hc⟩ (ok_bnde (hg _ (getD_mem hi)) (ok_brk (fun hb => ?_) (fun hb => ok_chk (show InR _ from ⟨by omega, by omega⟩) (hn _ ⟨by omega, by omega, fun j hj => ?_⟩ (by show l.length - (i + 1).toNat < l.length - i.toNat; omega)))))
    · have := h1 i.toNat hi hb
      rwa [Int.toNat_of_nonneg i1] at this
    · by_cases e : (j : Int) < i
      · exact i3 j e
      · obtain rfl : j = i.toNat := by omega
        exact hb
  · have hc : ¬ i < l.length := of_decide_eq_false hc
    obtain ⟨j, hj, rfl⟩ := List.getElem_of_mem hx
    have := i3 j (by omega)
    rwa [getD_get hj] at this

/-- A loop over a list without a state of its own. -/
theorem ok_all {F : Nat} {l : List β} {d : β} {body : β → Option α → Option α} {exit : Option α} (hF : l.length < F) (hl : l.length ≤ 1000000) (Q : List β → Prop) (h0 : Q l) (he : Q [] → Ok post exit)
    (hb : ∀ x r k, Q (x :: r) → x ∈ l → (Q r → Ok post k) → Ok post (body x k)) :
    Ok post (loopC (fun (x : Int) next => brk (decide (x < (l.length : Int))) (chk (0 ≤ x ∧ x < (l.length : Int)) (body (l.getD x.toNat d) (chk (InR (x + 1)) (next (x + 1))))) exit) F 0) := by
  refine ok_loop (fun x : Int => 0 ≤ x ∧ x ≤ l.length ∧ Q (l.drop x.toNat)) (fun x : Int => l.length - x.toNat) ⟨by simp, by simp, h0⟩ (by simp; omega) ?_
  rintro i next ⟨i1, i2, i3⟩ hn
  refine ok_brk (fun hc => ?_) (fun hc => he ?_)
  · have hc : i < l.length := of_decide_eq_true hc
    have hi : i.toNat < l.length := by omega
    rw [drop_get (d := d) hi] at i3
    refine ok_chk ⟨i1, hc⟩ (hb _ _ _ i3 (getD_mem hi) fun hq => ok_chk (show InR _ from ⟨by omega, by omega⟩) (hn _ ⟨by omega, by omega, ?_⟩ (by show l.length - (i + 1).toNat < l.length - i.toNat; omega)))
    rw [show (i + 1).toNat = i.toNat + 1 by omega]; exact hq
  · have hc : ¬ i < l.length := of_decide_eq_false hc
    rwa [List.drop_eq_nil_of_le (by omega)] at i3

/-- A loop over a list; what is to come is told of the list's rest. -/
theorem ok_rest {σ : Type} {F : Nat} {l : List β} {d : β} {body : σ → (σ → Option α) → Option α} {x0 : σ} (idx : σ → Int) (Q : σ → List β → Prop) (hl : l.length < F) (hi0 : idx x0 = 0) (h0 : Q x0 l)
    (hb : ∀ x next, 0 ≤ idx x → idx x < l.length → Q x (l.getD (idx x).toNat d :: l.drop ((idx x).toNat + 1)) → l.getD (idx x).toNat d ∈ l → (∀ y, idx y = idx x + 1 → Q y (l.drop ((idx x).toNat + 1)) → Ok post (next y)) → Ok post (body x next))
    (he : ∀ x next, idx x = l.length → Q x [] → Ok post (body x next)) : Ok post (loopC body F x0) := by
  refine ok_loop (fun x => 0 ≤ idx x ∧ idx x ≤ l.length ∧ Q x (l.drop (idx x).toNat)) (fun x => l.length - (idx x).toNat) ⟨by omega, by omega, by rw [hi0]; exact h0⟩ (by rw [hi0]; simp; omega) ?_
  rintro x next ⟨i1, i2, i3⟩ hn
  by_cases hc : idx x < l.length
  · have hi : (idx x).toNat < l.length := by omega
    rw [drop_get (d := d) hi] at i3
    refine hb x next i1 hc i3 (getD_mem hi) fun y hy hq => hn y ⟨by omega, by omega, ?_⟩ (by omega)
    rw [hy, show (idx x + 1).toNat = (idx x).toNat + 1 by omega]; exact hq
  · rw [List.drop_eq_nil_of_le (by omega)] at i3
    exact he x next (by omega) i3
end
end Go.KX

namespace Go.Proofs.Fe
open Go Go.KX

theorem within_eq (F : Nat) (a b c : Int) : fees_within F a b c = some (decide (a ≥ b) && decide (a ≤ c)) := rfl
theorem refIn_eq (F : Nat) (a b c : Int) : ref12_in F a b c = some (decide (a ≥ b) && decide (a ≤ c)) := rfl
theorem wb {x lo hi : Int} : (decide (x ≥ lo) && decide (x ≤ hi)) = decide (lo ≤ x ∧ x ≤ hi) := by
  by_cases h1 : x ≥ lo <;> by_cases h2 : x ≤ hi <;> simp [h1, h2] <;> omega

/-! ### Sums of what is at most a level -/

def mn (n c : Int) : Int := if n < c then n else c
def cutV (l : List Int) (n : Int) : Int := sumL (l.map (mn n))

abbrev Cl (l : List Int) : Prop := ∀ c ∈ l, 0 ≤ c ∧ c ≤ 1000000000000

theorem mn_le {n c : Int} : mn n c ≤ n ∧ mn n c ≤ c := by unfold mn; split <;> omega
theorem mn_mono {n m c : Int} (h : n ≤ m) : mn n c ≤ mn m c := by unfold mn; split <;> split <;> omega

theorem cutV_mono : ∀ (l : List Int) {n m : Int}, n ≤ m → cutV l n ≤ cutV l m
  | [], _, _, _ => Int.le_refl _
  | c :: l, n, m, h => by
    have h1 := cutV_mono l h
    have h2 := mn_mono (c := c) h
    simp only [cutV, List.map_cons, sumL] at h1 ⊢
    omega

theorem cutV_zero : ∀ (l : List Int), (∀ c ∈ l, 0 ≤ c) → cutV l 0 = 0
  | [], _ => rfl
  | c :: l, h => by
    have h1 := cutV_zero l fun x hx => h x (List.mem_cons_of_mem _ hx)
    have h2 := h c List.mem_cons_self
    simp only [cutV, List.map_cons, sumL] at h1 ⊢
    unfold mn at h1 ⊢
    split <;> omega

theorem cutV_nonneg {l : List Int} {n : Int} (hn : 0 ≤ n) (h : ∀ c ∈ l, 0 ≤ c) : 0 ≤ cutV l n := by
  have := cutV_mono l hn
  rw [cutV_zero l h] at this
  exact this

/-- Above all claims the sum is that of the claims. -/
theorem cutV_all : ∀ (l : List Int) {n : Int}, (∀ c ∈ l, c ≤ n) → cutV l n = sumL l
  | [], _, _ => rfl
  | c :: l, n, h => by
    have h1 := cutV_all l (n := n) fun x hx => h x (List.mem_cons_of_mem _ hx)
    have h2 := h c List.mem_cons_self
    simp only [cutV, List.map_cons, sumL] at h1 ⊢
    rw [h1]
    unfold mn
    rw [if_neg (by omega)]

theorem cut_eq {F : Nat} {l : List Int} {n : Int} (hF : l.length < F) (hl : l.length ≤ 1000) (h : Cl l) (hn : 0 ≤ n ∧ n ≤ 1000000000000) : fees_cut F l n = some (cutV l n) := by
  refine Ok.eq ?_
  unfold fees_cut
  refine ok_loop (fun x : Int × Int => 0 ≤ x.1 ∧ x.1 ≤ l.length ∧ x.2 = sumL ((l.map (mn n)).take x.1.toNat)) (fun x : Int × Int => l.length - x.1.toNat) ⟨by simp, by simp, rfl⟩ (by simp; omega) ?_
  rintro ⟨i, s⟩ next ⟨i1, i2, i3⟩ hn'
  simp only at i1 i2 i3
  dsimp only
  have hlm : (l.map (mn n)).length = l.length := List.length_map _
  have hb : ∀ x ∈ (l.map (mn n)).take i.toNat, 0 ≤ x ∧ x ≤ 1000000000000 := fun x hx => by
    obtain ⟨c, hc, rfl⟩ := List.mem_map.1 (List.mem_of_mem_take hx)
    have := h c hc
    unfold mn; split <;> omega
  have hs0 := sumL_nonneg _ fun x hx => (hb x hx).1
  have hs1 := sumL_le _ fun x hx => (hb x hx).2
  have htl : ((l.map (mn n)).take i.toNat).length = i.toNat := by rw [List.length_take, hlm]; omega
  rw [htl] at hs1
  refine ok_brk (fun hc => ?_) (fun hc => ok_some ?_)
  · have hc : i < l.length := of_decide_eq_true hc
    have hi : i.toNat < l.length := by omega
    have hci := h _ (getD_mem (d := 0) hi)
    have hmi : (if n < l.getD i.toNat 0 then n else l.getD i.toNat 0) = mn n (l.getD i.toNat 0) := rfl
    rw [hmi]
    have hmb : 0 ≤ mn n (l.getD i.toNat 0) ∧ mn n (l.getD i.toNat 0) ≤ 1000000000000 := by unfold mn; split <;> omega
    refine ok_chk ⟨i1, hc⟩ (ok_chk (show InR _ from ⟨by omega, by omega⟩) (ok_chk (show InR _ from ⟨by omega, by omega⟩) (hn' _ ⟨by show 0 ≤ i + 1; omega, by show i + 1 ≤ _; omega, ?_⟩ (by show l.length - (i + 1).toNat < l.length - i.toNat; omega))))
    show s + mn n (l.getD i.toNat 0) = sumL ((l.map (mn n)).take (i + 1).toNat)
    rw [show (i + 1).toNat = i.toNat + 1 by omega, take_succ' (d := 0) (by omega), sumL_append, i3]
    congr 1
    simp only [sumL, Int.add_zero]
    rw [getD_get (l := l.map (mn n)) (by omega), List.getElem_map, getD_get hi]
  · have hc : ¬ i < l.length := of_decide_eq_false hc
    show s = cutV l n
    rw [i3, List.take_of_length_le (by omega)]; rfl

/-! ### The greatest of a list -/

def MaxOK (l : List Int) (m : Int) : Prop := m ∈ l ∧ ∀ c ∈ l, c ≤ m

theorem max_ok {F : Nat} {l : List Int} (hF : l.length < F) (hl : l.length ≤ 1000000) (h : 1 ≤ l.length) : Ok (MaxOK l) (slices_Max_int F l) := by
  unfold slices_Max_int
  refine ok_brkF (by simp; omega) (ok_chk ⟨by omega, by omega⟩ ?_)
  refine ok_loop (fun x : Int × Int => 1 ≤ x.1 ∧ x.1 ≤ l.length ∧ x.2 ∈ l ∧ ∀ j : Nat, (j : Int) < x.1 → l.getD j 0 ≤ x.2) (fun x : Int × Int => l.length - x.1.toNat) ⟨by simp, by simp; omega, getD_mem (by show (0 : Nat) < _; omega), fun j hj => by
    have hj : (j : Int) < 1 := hj
    obtain rfl : j = 0 := by omega
    exact Int.le_refl _⟩ (by simp; omega) ?_
  rintro ⟨i, s⟩ next ⟨i1, i2, i3, i4⟩ hn
  simp only at i1 i2 i3 i4
  dsimp only
  refine ok_brk (fun hc => ?_) (fun hc => ok_some ⟨i3, fun c hc' => ?_⟩)
  · have hc : i < l.length := of_decide_eq_true hc
    refine ok_chk ⟨by omega, hc⟩ (ok_chk (show InR _ from ⟨by omega, by omega⟩) (hn _ ⟨by show 1 ≤ i + 1; omega, by show i + 1 ≤ _; omega, ?_, fun j hj => ?_⟩ (by show l.length - (i + 1).toNat < l.length - i.toNat; omega)))
    · show (if l.getD i.toNat 0 > s then l.getD i.toNat 0 else s) ∈ l
      split
      · exact getD_mem (by omega)
      · exact i3
    · have hj : (j : Int) < i + 1 := hj
      show l.getD j 0 ≤ if l.getD i.toNat 0 > s then l.getD i.toNat 0 else s
      by_cases e : (j : Int) < i
      · have := i4 j e
        split <;> omega
      · obtain rfl : j = i.toNat := by omega
        split <;> omega
  · have hc : ¬ i < l.length := of_decide_eq_false hc
    obtain ⟨j, hj, rfl⟩ := List.getElem_of_mem hc'
    have := i4 j (by omega)
    rw [getD_get hj] at this
    exact this

/-! ### Levels -/

structure LevelOK (l : List Int) (e : Int) (r : Int × Int) : Prop where
  n0 : 0 ≤ r.1
  top : r.1 = 0 ∨ ∃ c ∈ l, r.1 ≤ c
  cut : cutV l r.1 ≤ e
  left : r.2 = e - cutV l r.1
  max : (∀ c ∈ l, c ≤ r.1) ∨ e < cutV l (r.1 + 1)

theorem LevelOK.one {l : List Int} {e : Int} {r s : Int × Int} (h : LevelOK l e r) (h' : LevelOK l e s) : r = s := by
  have key : ∀ {r s : Int × Int}, LevelOK l e r → LevelOK l e s → ¬ r.1 < s.1 := by
    intro r s h h' hlt
    have hn := h.n0
    rcases h'.top with q | ⟨c, hc, q⟩
    · omega
    · rcases h.max with p | p
      · have := p c hc; omega
      · have h1 := cutV_mono l (n := r.1 + 1) (m := s.1) (by omega)
        have h2 := h'.cut
        omega
  have e1 : r.1 = s.1 := by
    have h1 := key h h'
    have h2 := key h' h
    omega
  have e2 : r.2 = s.2 := by rw [h.left, h'.left, e1]
  exact Prod.ext e1 e2

theorem LevelOK.left0 {l : List Int} {e : Int} {r : Int × Int} (h : LevelOK l e r) : 0 ≤ r.2 := by have := h.left; have := h.cut; omega

theorem level_ok {F : Nat} {l : List Int} {e : Int} (hF : 2000000000000 < F) (h1 : 1 ≤ l.length) (h2 : l.length ≤ 40) (h : Cl l) (he : 0 ≤ e ∧ e ≤ 1000000000000) : Ok (LevelOK l e) (fees_level F l e) := by
  unfold fees_level
  refine ok_bnd _ (max_ok (by omega) (by omega) h1) ?_
  intro m ⟨m1, m2⟩
  have hm := h m m1
  have hz := cutV_zero l fun c hc => (h c hc).1
  rw [show IntKind.i64.wrap (0 - 1) = -1 from rfl]
  refine ok_loop (fun x : Int × Int => -1 ≤ x.2 ∧ x.2 ≤ x.1 ∧ 0 ≤ x.1 ∧ x.1 ≤ m ∧ (x.2 = -1 ∨ cutV l x.2 ≤ e) ∧ (x.1 = m ∨ e < cutV l (x.1 + 1))) (fun x : Int × Int => (x.1 - x.2).toNat)
    ⟨by simp, by show -1 ≤ m; omega, hm.1, Int.le_refl _, .inl rfl, .inl rfl⟩ (by show (m - (-1)).toNat < F; omega) ?_
  rintro ⟨hi, lo⟩ next ⟨i1, i2, i3, i4, i5, i6⟩ hn
  simp only at i1 i2 i3 i4 i5 i6
  dsimp only
  refine ok_brk (fun hc => ?_) (fun hc => ?_)
  · have hc : lo < hi := of_decide_eq_true hc
    refine ok_chk (show InR _ from ⟨by omega, by omega⟩) (ok_chk (show InR _ from ⟨by omega, by omega⟩) (ok_chk ⟨by omega, by omega⟩ (ok_chk (show InR _ from ⟨by omega, by omega⟩) ?_)))
    have g1 : lo < lo + (hi - lo + 1) / 2 := by omega
    have g2 : lo + (hi - lo + 1) / 2 ≤ hi := by omega
    generalize lo + (hi - lo + 1) / 2 = mid at g1 g2
    refine ok_bnde (cut_eq (by omega) (by omega) h ⟨by omega, by omega⟩) (ok_brk (fun hb => ?_) (fun hb => ok_chk (show InR _ from ⟨by omega, by omega⟩) ?_))
    · have hb : cutV l mid ≤ e := of_decide_eq_true hb
      exact hn _ ⟨by show -1 ≤ mid; omega, g2, i3, i4, .inr hb, i6⟩ (by show (hi - mid).toNat < (hi - lo).toNat; omega)
    · have hb : ¬ cutV l mid ≤ e := of_decide_eq_false hb
      have hmid : mid ≠ 0 := fun q => by subst q; omega
      exact hn _ ⟨i1, by show lo ≤ mid - 1; omega, by show 0 ≤ mid - 1; omega, by show mid - 1 ≤ m; omega, i5, .inr (by show e < cutV l (mid - 1 + 1); rw [Int.sub_add_cancel]; omega)⟩ (by show (mid - 1 - lo).toNat < (hi - lo).toNat; omega)
  · have hc : ¬ lo < hi := of_decide_eq_false hc
    obtain rfl : lo = hi := by omega
    have hcut : cutV l lo ≤ e := by
      rcases i5 with q | q
      · omega
      · exact q
    have hc0 := cutV_nonneg (l := l) i3 fun c hc => (h c hc).1
    refine ok_bnde (cut_eq (by omega) (by omega) h ⟨i3, by omega⟩) (ok_chk (show InR _ from ⟨by omega, by omega⟩) (ok_some ⟨i3, .inr ⟨m, m1, i4⟩, hcut, rfl, ?_⟩))
    rcases i6 with q | q
    · exact .inl fun c hc => by show c ≤ lo; rw [q]; exact m2 c hc
    · exact .inr q

/-- How many claims are above a level. -/
def abv (l : List Int) (n : Int) : Nat := (l.filter fun c => decide (n < c)).length

theorem abv_cons (c : Int) (l : List Int) (n : Int) : abv (c :: l) n = (if n < c then 1 else 0) + abv l n := by
  unfold abv
  rw [List.filter_cons]
  by_cases h : n < c
  · rw [if_pos (decide_eq_true h), if_pos h, List.length_cons]; omega
  · rw [if_neg (by simpa using h), if_neg h]; omega

theorem abv_le (l : List Int) (n : Int) : abv l n ≤ l.length := List.length_filter_le _ _

/-- Between neighbours the sum is a line. -/
theorem cutV_line {a x : Int} (hax : a ≤ x) : ∀ l : List Int, (∀ c ∈ l, c ≤ a ∨ x ≤ c) → cutV l x = cutV l a + (x - a) * (abv l a : Int)
  | [], _ => by simp [cutV, sumL, abv]
  | c :: l, h => by
    have h1 := cutV_line hax l fun y hy => h y (List.mem_cons_of_mem _ hy)
    have h2 := h c List.mem_cons_self
    rw [abv_cons]
    simp only [cutV, List.map_cons, sumL] at h1 ⊢
    rw [h1]
    by_cases hc : a < c
    · rw [if_pos hc]
      have e1 : mn x c = x := by unfold mn; split <;> omega
      have e2 : mn a c = a := by unfold mn; split <;> omega
      rw [e1, e2]
      push_cast
      rw [Int.mul_add]
      omega
    · rw [if_neg hc]
      have e1 : mn x c = c := by unfold mn; split <;> omega
      have e2 : mn a c = c := by unfold mn; split <;> omega
      rw [e1, e2, Nat.zero_add]
      omega

theorem abv_lt {a x : Int} (hax : a ≤ x) : ∀ l : List Int, abv l x ≤ abv l a
  | [] => Nat.le_refl _
  | c :: l => by
    have := abv_lt hax l
    rw [abv_cons, abv_cons]
    by_cases h : x < c
    · rw [if_pos h, if_pos (by omega)]; omega
    · rw [if_neg h]; split <;> omega

theorem abv_drop {a x : Int} (hax : a < x) : ∀ l : List Int, x ∈ l → abv l x < abv l a
  | c :: l, h => by
    rw [abv_cons, abv_cons]
    rcases List.mem_cons.1 h with rfl | h
    · have := abv_lt (Int.le_of_lt hax) l
      rw [if_neg (by omega), if_pos hax]; omega
    · have := abv_drop hax l h
      by_cases hc : x < c
      · rw [if_pos hc, if_pos (by omega)]; omega
      · rw [if_neg hc]; split <;> omega

theorem abv_zero {n : Int} : ∀ l : List Int, abv l n = 0 → ∀ c ∈ l, c ≤ n
  | [], _, c, hc => by cases hc
  | d :: l, h, c, hc => by
    rw [abv_cons] at h
    rcases List.mem_cons.1 hc with rfl | hc
    · by_cases q : n < c
      · rw [if_pos q] at h; omega
      · omega
    · exact abv_zero l (by omega) c hc

theorem refLevel_ok {F : Nat} {l : List Int} {e : Int} (hF : 2000000000000 < F) (h2 : l.length ≤ 40) (h : Cl l) (he : 0 ≤ e ∧ e ≤ 1000000000000) : Ok (LevelOK l e) (ref12_level F l e) := by
  unfold ref12_level
  have hz := cutV_zero l fun c hc => (h c hc).1
  refine ok_loop (fun x : Int × Int => 0 ≤ x.1 ∧ 0 ≤ x.2 ∧ x.2 ≤ 1000000000000 ∧ (x.2 = 0 ∨ x.2 ∈ l) ∧ x.1 = e - cutV l x.2) (fun x : Int × Int => abv l x.2)
    ⟨he.1, by simp, by simp, .inl rfl, by show e = e - cutV l 0; omega⟩ (by have := abv_le l 0; show abv l 0 < F; omega) ?_
  rintro ⟨rem, a⟩ next ⟨i1, i2, i3, i4, i5⟩ hnext
  simp only at i1 i2 i3 i4 i5
  dsimp only
  have hc0 := cutV_nonneg (l := l) i2 fun c hc => (h c hc).1
  refine ok_loop (fun x : Int × Int × Int => 0 ≤ x.2.1 ∧ x.2.1 ≤ l.length ∧ x.1 = (abv (l.take x.2.1.toNat) a : Int) ∧ ((x.2.2 = -1 ∧ x.1 = 0) ∨ (1 ≤ x.1 ∧ x.2.2 ∈ l ∧ a < x.2.2 ∧ ∀ j : Nat, (j : Int) < x.2.1 → a < l.getD j 0 → x.2.2 ≤ l.getD j 0))) (fun x : Int × Int × Int => l.length - x.2.1.toNat)
    ⟨by simp, by simp, rfl, .inl ⟨rfl, rfl⟩⟩ (by simp; omega) ?_
  rintro ⟨ab, i, nx⟩ next2 ⟨j1, j2, j3, j4⟩ hn
  simp only at j1 j2 j3 j4
  dsimp only
  have hab : ab ≤ 40 := by
    have := abv_le (l.take i.toNat) a
    have := List.length_take_le i.toNat l
    omega
  have hab0 : 0 ≤ ab := by omega
  refine ok_brk (fun hc => ?_) (fun hc => ?_)
  · have hc : i < l.length := of_decide_eq_true hc
    have hi : i.toNat < l.length := by omega
    have hci := h _ (getD_mem (d := 0) hi)
    have hst : abv (l.take (i + 1).toNat) a = abv (l.take i.toNat) a + (if a < l.getD i.toNat 0 then 1 else 0) := by
      rw [show (i + 1).toNat = i.toNat + 1 by omega, take_succ' (d := 0) hi]
      unfold abv
      rw [List.filter_append, List.length_append]
      congr 1
      by_cases q : a < l.getD i.toNat 0
      · rw [if_pos q, List.filter_cons, if_pos (decide_eq_true q)]; rfl
      · rw [if_neg q, List.filter_cons, if_neg (by simpa using q)]; rfl
    refine ok_join (by omega) (fun x : Int × Int => x.1 = (abv (l.take (i + 1).toNat) a : Int) ∧ ((x.2 = -1 ∧ x.1 = 0) ∨ (1 ≤ x.1 ∧ x.2 ∈ l ∧ a < x.2 ∧ ∀ j : Nat, (j : Int) < i + 1 → a < l.getD j 0 → x.2 ≤ l.getD j 0))) (fun x hx => ok_chk (show InR (i + 1) from ⟨by omega, by omega⟩) (hn _ ⟨by show 0 ≤ i + 1; omega, by show i + 1 ≤ _; omega, hx⟩ (by show l.length - (i + 1).toNat < l.length - i.toNat; omega))) fun k hk => ?_
    refine ok_chk ⟨j1, hc⟩ (ok_brk (fun hb => ?_) (fun hb => hk _ ⟨?_, ?_⟩))
    · have hb : a < l.getD i.toNat 0 := of_decide_eq_true hb
      rw [if_pos hb] at hst
      refine ok_chk (show InR (ab + 1) from ⟨by omega, by omega⟩) (ok_chk (fun _ => ⟨j1, hc⟩) (ok_brk (fun hq => ok_chk ⟨j1, hc⟩ (hk _ ⟨by show ab + 1 = _; omega, .inr ⟨by show 1 ≤ ab + 1; omega, getD_mem hi, hb, fun j hj haj => ?_⟩⟩)) (fun hq => hk _ ⟨by show ab + 1 = _; omega, ?_⟩)))
      · show l.getD i.toNat 0 ≤ l.getD j 0
        simp only [Bool.or_eq_true, decide_eq_true_eq] at hq
        by_cases e2 : (j : Int) < i
        · rcases j4 with ⟨q1, q2⟩ | ⟨q1, q2, q3, q4⟩
          · exfalso
            have hmem : l.getD j 0 ∈ (l.take i.toNat).filter fun c => decide (a < c) := by
              rw [List.mem_filter]
              refine ⟨?_, decide_eq_true haj⟩
              rw [getD_get (by omega : j < l.length)]
              exact List.mem_take_iff_getElem.2 ⟨j, by omega, rfl⟩
            have : 0 < abv (l.take i.toNat) a := List.length_pos_of_mem hmem
            omega
          · have := q4 j e2 haj
            rcases hq with hq | hq <;> omega
        · obtain rfl : j = i.toNat := by omega
          exact Int.le_refl _
      · simp only [Bool.or_eq_false_iff, decide_eq_false_iff_not] at hq
        rcases j4 with ⟨q1, q2⟩ | ⟨q1, q2, q3, q4⟩
        · omega
        · refine .inr ⟨by show 1 ≤ ab + 1; omega, q2, q3, fun j hj haj => ?_⟩
          have hj : (j : Int) < i + 1 := hj
          by_cases e2 : (j : Int) < i
          · exact q4 j e2 haj
          · obtain rfl : j = i.toNat := by omega
            show nx ≤ l.getD i.toNat 0
            omega
    · have hb : ¬ a < l.getD i.toNat 0 := of_decide_eq_false hb
      rw [if_neg hb] at hst
      show ab = _
      omega
    · have hb : ¬ a < l.getD i.toNat 0 := of_decide_eq_false hb
      rcases j4 with q | ⟨q1, q2, q3, q4⟩
      · exact .inl q
      · refine .inr ⟨q1, q2, q3, fun j hj haj => ?_⟩
        have hj : (j : Int) < i + 1 := hj
        by_cases e2 : (j : Int) < i
        · exact q4 j e2 haj
        · obtain rfl : j = i.toNat := by omega
          exact absurd haj hb
  · have hc : ¬ i < l.length := of_decide_eq_false hc
    rw [List.take_of_length_le (by omega)] at j3
    have htop : a = 0 ∨ ∃ c ∈ l, a ≤ c := by
      rcases i4 with q | q
      · exact .inl q
      · exact .inr ⟨a, q, Int.le_refl _⟩
    refine ok_brk (fun hb => ok_some ⟨i2, htop, by show cutV l a ≤ e; omega, i5, .inl (abv_zero l ?_)⟩) (fun hb => ?_)
    · have hb : ab = 0 := by simpa using hb
      show abv l a = 0
      omega
    have hb : ab ≠ 0 := by simpa using hb
    rcases j4 with ⟨q1, q2⟩ | ⟨q1, q2, q3, q4⟩
    · omega
    have hnx := h nx q2
    have hall : ∀ c ∈ l, c ≤ a ∨ nx ≤ c := fun c hc' => by
      obtain ⟨j, hj, rfl⟩ := List.getElem_of_mem hc'
      by_cases q : a < l[j]
      · have := q4 j (by omega) (by rw [getD_get hj]; exact q)
        rw [getD_get hj] at this
        exact .inr this
      · exact .inl (by omega)
    have hline := cutV_line (Int.le_of_lt q3) l hall
    rw [← j3] at hline
    have hmul : 0 ≤ (nx - a) * ab ∧ (nx - a) * ab ≤ 40000000000000 := by
      refine ⟨Int.mul_nonneg (by omega) hab0, ?_⟩
      have h1 : (nx - a) * ab ≤ 1000000000000 * ab := Int.mul_le_mul_of_nonneg_right (by omega) hab0
      omega
    refine ok_chk (show InR (nx - a) from ⟨by omega, by omega⟩) (ok_chk (show InR _ from ⟨by omega, by omega⟩) (ok_brk (fun hd => ?_) (fun hd => ?_)))
    · have hd : (nx - a) * ab > rem := of_decide_eq_true hd
      have hq0 : 0 ≤ rem / ab := Int.ediv_nonneg i1 hab0
      have hq1 : rem / ab * ab ≤ rem := Int.ediv_mul_le _ hb
      have hq2 : rem < (rem / ab + 1) * ab := by
        have h3 := Int.lt_ediv_add_one_mul_self rem (show (0 : Int) < ab by omega)
        exact h3
      have hq3 : rem / ab < nx - a := by
        rcases Int.lt_or_le (rem / ab) (nx - a) with q | q
        · exact q
        · have := Int.mul_le_mul_of_nonneg_right q hab0
          omega
      have hmod : rem % ab = rem - rem / ab * ab := by
        have := Int.emod_add_mul_ediv rem ab
        rw [Int.mul_comm] at this
        omega
      have hcut : cutV l (a + rem / ab) = cutV l a + rem / ab * ab := by
        have := cutV_line (a := a) (x := a + rem / ab) (by omega) l fun c hc' => by
          rcases hall c hc' with q | q
          · exact .inl q
          · exact .inr (by omega)
        rw [this, ← j3, show a + rem / ab - a = rem / ab by omega]
      have hcut1 : cutV l (a + rem / ab + 1) = cutV l a + (rem / ab + 1) * ab := by
        have := cutV_line (a := a) (x := a + rem / ab + 1) (by omega) l fun c hc' => by
          rcases hall c hc' with q | q
          · exact .inl q
          · exact .inr (by omega)
        rw [this, ← j3, show a + rem / ab + 1 - a = rem / ab + 1 by omega]
      refine ok_chk ⟨⟨i1, by omega⟩, by omega⟩ (ok_chk (show InR _ from ⟨by omega, by omega⟩) (ok_chk ⟨⟨i1, by omega⟩, by omega⟩ (ok_some ⟨by show 0 ≤ a + rem / ab; omega, .inr ⟨nx, q2, by show a + rem / ab ≤ nx; omega⟩, ?_, ?_, .inr ?_⟩)))
      · show cutV l (a + rem / ab) ≤ e
        omega
      · show rem % ab = e - cutV l (a + rem / ab)
        omega
      · show e < cutV l (a + rem / ab + 1)
        omega
    · have hd : ¬ (nx - a) * ab > rem := of_decide_eq_false hd
      exact ok_chk (show InR _ from ⟨by omega, by omega⟩) (ok_chk (show InR _ from ⟨by omega, by omega⟩) (ok_chk (show InR _ from ⟨by omega, by omega⟩) (hnext _ ⟨by show 0 ≤ rem - (nx - a) * ab; omega, by show 0 ≤ nx; omega, hnx.2, .inr q2, by show rem - (nx - a) * ab = e - cutV l nx; omega⟩ (abv_drop q3 l q2))))
end Go.Proofs.Fe

namespace Go.Proofs.Fe
open Go Go.KX
theorem awake_eq : law12_awake 1000000000000000 = some true := by kernel_rfl
end Go.Proofs.Fe

namespace Go.Proofs.Fe
open Go Go.KX

/-! ### Claims that are allowed -/

open Classical in
noncomputable def claimedV (l : List Int) (e : Int) : Int := if 1 ≤ l.length ∧ l.length ≤ 40 then (if Cl l ∧ 0 ≤ e ∧ e ≤ 1000000000000 then 0 else 6) else 2

theorem claimedV_zero {l : List Int} {e : Int} (h : claimedV l e = 0) : 1 ≤ l.length ∧ l.length ≤ 40 ∧ Cl l ∧ 0 ≤ e ∧ e ≤ 1000000000000 := by
  unfold claimedV at h
  split at h
  · split at h
    · rename_i h1 h2; exact ⟨h1.1, h1.2, h2⟩
    · omega
  · omega
theorem claimedV_ok {l : List Int} {e : Int} (h1 : 1 ≤ l.length) (h2 : l.length ≤ 40) (h3 : Cl l) (h4 : 0 ≤ e ∧ e ≤ 1000000000000) : claimedV l e = 0 := by
  unfold claimedV
  rw [if_pos ⟨h1, h2⟩, if_pos ⟨h3, h4⟩]

theorem claimed1_eq (F : Nat) (c : Int) : fees_claimed_1 F c = some (!decide (0 ≤ c ∧ c ≤ 1000000000000)) := by
  show some (!(decide (c ≥ 0) && decide (c ≤ 1000000000000))) = _
  rw [wb]

theorem claimed_eq {F : Nat} {l : List Int} {e : Int} (hF : 100 < F) : fees_claimed F l e = some (claimedV l e) := by
  refine Ok.eq ?_
  unfold fees_claimed
  rw [within_eq]
  refine ok_bnde rfl ?_
  rw [wb]
  unfold claimedV
  by_cases h : (1 : Int) ≤ l.length ∧ (l.length : Int) ≤ 40
  · rw [if_pos (by omega)]
    refine ok_brkF (ndF h) ?_
    refine ok_join (by omega) (fun x : Int => (x = -1 ∧ Cl l) ∨ (0 ≤ x ∧ ¬ Cl l)) (fun x hx => ?_) fun k hk => ?_
    · rw [within_eq]
      rcases hx with ⟨rfl, hc⟩ | ⟨hx, hc⟩
      · rw [wb]
        refine ok_bnde (b := decide (0 ≤ e ∧ e ≤ 1000000000000)) rfl ?_
        by_cases he : 0 ≤ e ∧ e ≤ 1000000000000
        · exact ok_brkF (ndF he) (ok_some (by rw [if_pos ⟨hc, he⟩]))
        · exact ok_brkT (ndT he) (ok_some (by rw [if_neg (fun q => he q.2)]))
      · have h1 : decide (x ≥ 0) = true := decide_eq_true hx
        rw [h1]
        exact ok_bnde (b := false) rfl (ok_brkT rfl (ok_some (by rw [if_neg (fun q => hc q.1)])))
    · refine ok_find (p := fun c => !decide (0 ≤ c ∧ c ≤ 1000000000000)) (by omega) (by omega) (fun c _ => claimed1_eq F c) (fun i hi hp => hk _ (.inr ⟨by omega, fun q => ?_⟩)) (fun hp => hk _ (.inl ⟨rfl, fun c hc => ?_⟩))
      · exact nd_true hp (q _ (getD_mem hi))
      · exact nd_false (hp c hc)
  · rw [if_neg (by omega)]
    exact ok_brkT (ndT h) (ok_some rfl)

theorem refClaimed_eq {F : Nat} {l : List Int} {e : Int} (hF : 100 < F) : ref12_claimed F l e = some (claimedV l e) := by
  refine Ok.eq ?_
  unfold ref12_claimed claimedV
  by_cases h : (1 : Int) ≤ l.length ∧ (l.length : Int) ≤ 40
  · rw [if_pos (by omega)]
    refine ok_brkF (by simp; omega) ?_
    refine ok_loop (fun x : Int => 0 ≤ x ∧ x ≤ l.length ∧ ∀ j : Nat, (j : Int) < x → 0 ≤ l.getD j 0 ∧ l.getD j 0 ≤ 1000000000000) (fun x : Int => l.length - x.toNat) ⟨by simp, by simp, fun j hj => by omega⟩ (by simp; omega) ?_
    rintro i next ⟨i1, i2, i3⟩ hn
    refine ok_brk (fun hc => ?_) (fun hc => ?_)
    · have hc : i < l.length := of_decide_eq_true hc
      rw [refIn_eq, wb]
      refine ok_chk ⟨i1, hc⟩ (ok_bnde rfl (ok_brk (fun hb => ok_some ?_) (fun hb => ok_chk (show InR _ from ⟨by omega, by omega⟩) (hn _ ⟨by omega, by omega, fun j hj => ?_⟩ (by show l.length - (i + 1).toNat < l.length - i.toNat; omega)))))
      · rw [if_neg]
        intro q
        have := q.1 _ (getD_mem (d := 0) (show i.toNat < l.length by omega))
        exact nd_true hb this
      · by_cases e : (j : Int) < i
        · exact i3 j e
        · obtain rfl : j = i.toNat := by omega
          exact nd_false hb
    · have hc : ¬ i < l.length := of_decide_eq_false hc
      have hcl : Cl l := fun c hc => by
        obtain ⟨j, hj, rfl⟩ := List.getElem_of_mem hc
        have := i3 j (by omega)
        rwa [getD_get hj] at this
      rw [refIn_eq, wb]
      refine ok_bnde rfl (ok_brk (fun hb => ok_some ?_) (fun hb => ok_some ?_))
      · rw [if_neg]
        intro q
        exact nd_true hb q.2
      · rw [if_pos ⟨hcl, nd_false hb⟩]
  · rw [if_neg (by omega)]
    exact ok_brkT (by simp; omega) (ok_some rfl)

/-! ### Awards -/

def awV (n : Int) : Int → List Int → List Int
  | _, [] => []
  | left, c :: l => if c > n then (if left > 0 then (n + 1) :: awV n (left - 1) l else n :: awV n left l) else c :: awV n left l

theorem awV_cons (n left c : Int) (l : List Int) : awV n left (c :: l) = if c > n then (if left > 0 then (n + 1) :: awV n (left - 1) l else n :: awV n left l) else c :: awV n left l := rfl
theorem awV_length (n : Int) : ∀ (l : List Int) (left : Int), (awV n left l).length = l.length
  | [], _ => rfl
  | c :: l, left => by
    unfold awV
    split
    · split <;> simp [awV_length n l]
    · simp [awV_length n l]

def AwOK (l : List Int) (e : Int) (out : List Int) : Prop := ∃ r, LevelOK l e r ∧ out = awV r.1 r.2 l
theorem AwOK.one {l : List Int} {e : Int} {a b : List Int} (h : AwOK l e a) (h' : AwOK l e b) : a = b := by
  obtain ⟨r, h1, rfl⟩ := h
  obtain ⟨s, h2, rfl⟩ := h'
  rw [h1.one h2]

theorem LevelOK.bounds {l : List Int} {e : Int} {r : Int × Int} (h : LevelOK l e r) (hl : Cl l) (he : e ≤ 1000000000000) : r.1 ≤ 1000000000000 ∧ 0 ≤ r.2 ∧ r.2 ≤ 1000000000000 := by
  refine ⟨?_, h.left0, ?_⟩
  · rcases h.top with q | ⟨c, hc, q⟩
    · omega
    · have := hl c hc; omega
  · have := cutV_nonneg (l := l) h.n0 fun c hc => (hl c hc).1
    have := h.left
    omega

theorem awards_ok {F : Nat} {l : List Int} {e : Int} (hF : 2000000000000 < F) (h1 : 1 ≤ l.length) (h2 : l.length ≤ 40) (h : Cl l) (he : 0 ≤ e ∧ e ≤ 1000000000000) : Ok (AwOK l e) (fees_awards F l e) := by
  unfold fees_awards
  refine ok_bnd _ (level_ok hF h1 h2 h he) ?_
  intro r hr
  obtain ⟨b1, b2, b3⟩ := hr.bounds h he.2
  have b0 := hr.n0
  refine ok_loop (fun x : Int × List Int × Int => 0 ≤ x.2.2 ∧ x.2.2 ≤ l.length ∧ 0 ≤ x.1 ∧ x.1 ≤ 1000000000000 ∧ x.2.1.length = x.2.2.toNat ∧ x.2.1 ++ awV r.1 x.1 (l.drop x.2.2.toNat) = awV r.1 r.2 l) (fun x : Int × List Int × Int => l.length - x.2.2.toNat)
    ⟨by simp, by simp, b2, b3, rfl, rfl⟩ (by simp; omega) ?_
  rintro ⟨left, out, i⟩ next ⟨i1, i2, i3, i4, i5, i6⟩ hn
  simp only at i1 i2 i3 i4 i5 i6
  dsimp only
  refine ok_brk (fun hc => ?_) (fun hc => ok_some ⟨r, hr, ?_⟩)
  · have hc : i < l.length := of_decide_eq_true hc
    have hi : i.toNat < l.length := by omega
    rw [drop_get (d := 0) hi, show i.toNat + 1 = (i + 1).toNat by omega] at i6
    have hci := h _ (getD_mem (d := 0) hi)
    refine ok_chk ⟨i1, hc⟩ (ok_join (by omega) (fun x : Int × Int => 0 ≤ x.1 ∧ x.1 ≤ 1000000000000 ∧ out ++ [x.2] ++ awV r.1 x.1 (l.drop (i + 1).toNat) = awV r.1 r.2 l) (fun x hx => ?_) fun k hk => ?_)
    · refine ok_chk (by simp; omega) (ok_chk (show InR _ from ⟨by omega, by omega⟩) (hn _ ⟨by show 0 ≤ i + 1; omega, by show i + 1 ≤ _; omega, hx.1, hx.2.1, by show (out ++ [x.2]).length = (i + 1).toNat; simp; omega, hx.2.2⟩ (by show l.length - (i + 1).toNat < l.length - i.toNat; omega)))
    · have e1 : (if r.1 < l.getD i.toNat 0 then r.1 else l.getD i.toNat 0) = mn r.1 (l.getD i.toNat 0) := rfl
      rw [e1]
      rw [awV_cons] at i6
      refine ok_brk (fun hb => ?_) (fun hb => hk _ ?_)
      · simp only [Bool.and_eq_true, decide_eq_true_eq] at hb
        have e2 : mn r.1 (l.getD i.toNat 0) = r.1 := by unfold mn; split <;> omega
        rw [e2]
        rw [if_pos hb.1, if_pos hb.2] at i6
        exact ok_chk (show InR _ from ⟨by omega, by omega⟩) (ok_chk (show InR _ from ⟨by omega, by omega⟩) (hk _ ⟨by show 0 ≤ left - 1; omega, by show left - 1 ≤ _; omega, by rw [List.append_assoc]; exact i6⟩))
      · simp only [Bool.and_eq_false_iff, decide_eq_false_iff_not] at hb
        refine ⟨i3, i4, ?_⟩
        rw [List.append_assoc]
        show out ++ (mn r.1 (l.getD i.toNat 0) :: awV r.1 left (l.drop (i + 1).toNat)) = _
        rw [← i6]
        by_cases hq : l.getD i.toNat 0 > r.1
        · rw [if_pos hq, if_neg (by omega)]
          have e2 : mn r.1 (l.getD i.toNat 0) = r.1 := by unfold mn; split <;> omega
          rw [e2]
        · rw [if_neg hq]
          have e2 : mn r.1 (l.getD i.toNat 0) = l.getD i.toNat 0 := by unfold mn; split <;> omega
          rw [e2]
  · have hc : ¬ i < l.length := of_decide_eq_false hc
    rw [List.drop_eq_nil_of_le (by omega)] at i6
    rw [← i6]; simp [awV]

theorem refAwards_ok {F : Nat} {l : List Int} {e : Int} (hF : 2000000000000 < F) (h2 : l.length ≤ 40) (h : Cl l) (he : 0 ≤ e ∧ e ≤ 1000000000000) : Ok (AwOK l e) (ref12_awards F l e) := by
  unfold ref12_awards
  refine ok_bnd _ (refLevel_ok hF h2 h he) ?_
  intro r hr
  obtain ⟨b1, b2, b3⟩ := hr.bounds h he.2
  have b0 := hr.n0
  refine ok_loop (fun x : Int × Int × List Int => 0 ≤ x.1 ∧ x.1 ≤ l.length ∧ 0 ≤ x.2.1 ∧ x.2.1 ≤ 1000000000000 ∧ x.2.2.length = x.1.toNat ∧ x.2.2 ++ awV r.1 x.2.1 (l.drop x.1.toNat) = awV r.1 r.2 l) (fun x : Int × Int × List Int => l.length - x.1.toNat)
    ⟨by simp, by simp, b2, b3, rfl, rfl⟩ (by simp; omega) ?_
  rintro ⟨i, left, out⟩ next ⟨i1, i2, i3, i4, i5, i6⟩ hn
  simp only at i1 i2 i3 i4 i5 i6
  dsimp only
  refine ok_brk (fun hc => ?_) (fun hc => ok_some ⟨r, hr, ?_⟩)
  · have hc : i < l.length := of_decide_eq_true hc
    have hi : i.toNat < l.length := by omega
    rw [drop_get (d := 0) hi, show i.toNat + 1 = (i + 1).toNat by omega] at i6
    have hci := h _ (getD_mem (d := 0) hi)
    refine ok_chk ⟨i1, hc⟩ (ok_join (by omega) (fun x : Int × Int => 0 ≤ x.1 ∧ x.1 ≤ 1000000000000 ∧ out ++ [x.2] ++ awV r.1 x.1 (l.drop (i + 1).toNat) = awV r.1 r.2 l) (fun x hx => ?_) fun k hk => ?_)
    · refine ok_chk (by simp; omega) (ok_chk (show InR _ from ⟨by omega, by omega⟩) (hn _ ⟨by show 0 ≤ i + 1; omega, by show i + 1 ≤ _; omega, hx.1, hx.2.1, by show (out ++ [x.2]).length = (i + 1).toNat; simp; omega, hx.2.2⟩ (by show l.length - (i + 1).toNat < l.length - i.toNat; omega)))
    · rw [awV_cons] at i6
      refine ok_brk (fun hb => ok_brk (fun hd => ?_) (fun hd => hk _ ?_)) (fun hb => hk _ ?_)
      · have hb : l.getD i.toNat 0 > r.1 := of_decide_eq_true hb
        have hd : left > 0 := of_decide_eq_true hd
        rw [if_pos hb, if_pos hd] at i6
        exact ok_chk (show InR _ from ⟨by omega, by omega⟩) (ok_chk (show InR _ from ⟨by omega, by omega⟩) (hk _ ⟨by show 0 ≤ left - 1; omega, by show left - 1 ≤ _; omega, by rw [List.append_assoc]; exact i6⟩))
      · have hb : l.getD i.toNat 0 > r.1 := of_decide_eq_true hb
        have hd : ¬ left > 0 := of_decide_eq_false hd
        rw [if_pos hb, if_neg hd] at i6
        exact ⟨i3, i4, by rw [List.append_assoc]; exact i6⟩
      · have hb : ¬ l.getD i.toNat 0 > r.1 := of_decide_eq_false hb
        rw [if_neg hb] at i6
        exact ⟨i3, i4, by rw [List.append_assoc]; exact i6⟩
  · have hc : ¬ i < l.length := of_decide_eq_false hc
    rw [List.drop_eq_nil_of_le (by omega)] at i6
    rw [← i6]; simp [awV]

/-! ### The exported functions -/

theorem Level_ok {F : Nat} {l : List Int} {e : Int} (hF : 2000000000000 < F) : Ok (fun r : Int × Int × Int => (claimedV l e ≠ 0 ∧ r = (0, 0, claimedV l e)) ∨ (claimedV l e = 0 ∧ r.2.2 = 0 ∧ LevelOK l e (r.1, r.2.1))) (fees_Level F l e) := by
  unfold fees_Level
  rw [claimed_eq (by omega)]
  refine ok_bnde rfl (ok_brk (fun hb => ok_some (.inl ⟨by simpa using hb, rfl⟩)) (fun hb => ?_))
  have hb : claimedV l e = 0 := by simpa using hb
  obtain ⟨h1, h2, h3, h4⟩ := claimedV_zero hb
  exact ok_bnd _ (level_ok hF h1 h2 h3 h4) fun r hr => ok_some (.inr ⟨hb, rfl, hr⟩)
theorem refLevelE_ok {F : Nat} {l : List Int} {e : Int} (hF : 2000000000000 < F) : Ok (fun r : Int × Int × Int => (claimedV l e ≠ 0 ∧ r = (0, 0, claimedV l e)) ∨ (claimedV l e = 0 ∧ r.2.2 = 0 ∧ LevelOK l e (r.1, r.2.1))) (ref12_Level F l e) := by
  unfold ref12_Level
  rw [refClaimed_eq (by omega)]
  refine ok_bnde rfl (ok_brk (fun hb => ok_some (.inl ⟨by simpa using hb, rfl⟩)) (fun hb => ?_))
  have hb : claimedV l e = 0 := by simpa using hb
  obtain ⟨h1, h2, h3, h4⟩ := claimedV_zero hb
  exact ok_bnd _ (refLevel_ok hF h2 h3 h4) fun r hr => ok_some (.inr ⟨hb, rfl, hr⟩)
theorem Awards_ok {F : Nat} {l : List Int} {e : Int} (hF : 2000000000000 < F) : Ok (fun r : List Int × Int => (claimedV l e ≠ 0 ∧ r = ([], claimedV l e)) ∨ (claimedV l e = 0 ∧ r.2 = 0 ∧ AwOK l e r.1)) (fees_Awards F l e) := by
  unfold fees_Awards
  rw [claimed_eq (by omega)]
  refine ok_bnde rfl (ok_brk (fun hb => ok_some (.inl ⟨by simpa using hb, rfl⟩)) (fun hb => ?_))
  have hb : claimedV l e = 0 := by simpa using hb
  obtain ⟨h1, h2, h3, h4⟩ := claimedV_zero hb
  exact ok_bnd _ (awards_ok hF h1 h2 h3 h4) fun r hr => ok_some (.inr ⟨hb, rfl, hr⟩)
theorem refAwardsE_ok {F : Nat} {l : List Int} {e : Int} (hF : 2000000000000 < F) : Ok (fun r : List Int × Int => (claimedV l e ≠ 0 ∧ r = ([], claimedV l e)) ∨ (claimedV l e = 0 ∧ r.2 = 0 ∧ AwOK l e r.1)) (ref12_Awards F l e) := by
  unfold ref12_Awards
  rw [refClaimed_eq (by omega)]
  refine ok_bnde rfl (ok_brk (fun hb => ok_some (.inl ⟨by simpa using hb, rfl⟩)) (fun hb => ?_))
  have hb : claimedV l e = 0 := by simpa using hb
  obtain ⟨h1, h2, h3, h4⟩ := claimedV_zero hb
  exact ok_bnd _ (refAwards_ok hF h2 h3 h4) fun r hr => ok_some (.inr ⟨hb, rfl, hr⟩)

theorem same_ok {F : Nat} {l : List Int} (hF : l.length < F) (hl : l.length ≤ 1000000) : kit_SameInts F l l = some true := by
  refine Ok.eq ?_
  unfold kit_SameInts
  refine ok_brkF (by simp) ?_
  refine ok_loop (fun x : Int => 0 ≤ x ∧ x ≤ l.length) (fun x : Int => l.length - x.toNat) ⟨by simp, by simp⟩ (by simp; omega) ?_
  rintro i next ⟨i1, i2⟩ hn
  refine ok_brk (fun hc => ?_) (fun hc => ok_some rfl)
  have hc : i < l.length := of_decide_eq_true hc
  exact ok_chk ⟨i1, hc⟩ (ok_chk ⟨i1, hc⟩ (ok_brkF (by simp) (ok_chk (show InR _ from ⟨by omega, by omega⟩) (hn _ ⟨by omega, by omega⟩ (by show l.length - (i + 1).toNat < l.length - i.toNat; omega)))))

theorem AwOK.length {l : List Int} {e : Int} {a : List Int} (h : AwOK l e a) : a.length = l.length := by
  obtain ⟨r, _, rfl⟩ := h
  exact awV_length _ _ _

theorem copyInts_eq {F : Nat} {l : List Int} (h : l.length ≤ 1000000) : kit_CopyInts F l = some l := chk_pos h

/-- FeesAwards. -/
theorem feesAwards_ok' {F : Nat} (hF : F = 1000000000000000) (l : List Int) (e : Int) : law12_FeesAwards F l e = some true := by
  have haw : law12_awake F = some true := by rw [hF]; exact awake_eq
  refine Ok.eq ?_
  unfold law12_FeesAwards
  rw [haw]
  refine ok_brk (fun hb => ok_bnde rfl (ok_some rfl)) (fun hb => ?_)
  have hl : l.length ≤ 50 := by have := of_decide_eq_false hb; omega
  rw [copyInts_eq (by omega)]
  refine ok_bnde rfl ?_
  refine ok_bnd _ (Level_ok (by omega)) ?_
  rintro ⟨n, k, x⟩ h1
  refine ok_bnd _ (refLevelE_ok (by omega)) ?_
  rintro ⟨m, j, y⟩ h2
  have e1 : n = m ∧ k = j ∧ x = y := by
    rcases h1 with ⟨q1, q2⟩ | ⟨q1, q2, q3⟩ <;> rcases h2 with ⟨p1, p2⟩ | ⟨p1, p2, p3⟩
    · cases q2; cases p2; exact ⟨rfl, rfl, rfl⟩
    · exact absurd p1 q1
    · exact absurd q1 p1
    · have := q3.one p3
      simp only [Prod.mk.injEq] at this
      exact ⟨this.1, this.2, q2.trans p2.symm⟩
  obtain ⟨rfl, rfl, rfl⟩ := e1
  refine ok_brkF (by simp) ?_
  refine ok_bnd _ (Awards_ok (by omega)) ?_
  rintro ⟨a, x⟩ h3
  refine ok_bnd _ (refAwardsE_ok (by omega)) ?_
  rintro ⟨b, y⟩ h4
  have e2 : a = b ∧ x = y ∧ a.length ≤ 50 := by
    rcases h3 with ⟨q1, q2⟩ | ⟨q1, q2, q3⟩ <;> rcases h4 with ⟨p1, p2⟩ | ⟨p1, p2, p3⟩
    · cases q2; cases p2; exact ⟨rfl, rfl, by simp⟩
    · exact absurd p1 q1
    · exact absurd q1 p1
    · exact ⟨q3.one p3, q2.trans p2.symm, by have := q3.length; simp only at this; omega⟩
  obtain ⟨rfl, rfl, e3⟩ := e2
  have h5 : ((a, x).snd == (a, x).snd) = true := by simp
  rw [h5]
  refine ok_bnde (show brk true _ _ = _ from same_ok (by show a.length < F; omega) (by show a.length ≤ _; omega)) ?_
  refine ok_bnde (show brk (true && true) _ _ = _ from same_ok (by omega) (by omega)) ?_
  exact ok_bnde (show brk _ _ _ = some true from rfl) (ok_some rfl)
theorem feesAwards_ok {l : List Int} {e : Int} {P Q : Prop} (_ : P) (_ : Q) : law12_FeesAwards 1000000000000000 l e = some true := feesAwards_ok' rfl l e
end Go.Proofs.Fe

namespace Go.KX

/-- Numbers of one byte. -/
structure Bytes (l : List Int) : Prop where
  b : ∀ x ∈ l, 0 ≤ x ∧ x ≤ 255
  len : l.length ≤ 9223372036854775807

section
variable {α : Type} {post : α → Prop} {l : List Int} {pos n : Int}

theorem next_gen (hl : Bytes l) (h0 : 0 ≤ pos) (hp : pos < l.length) (hn : 0 < n) :
    0 ≤ l.getD pos.toNat 0 ∧ l.getD pos.toNat 0 ≤ 255 ∧ 0 ≤ l.getD pos.toNat 0 % n ∧ l.getD pos.toNat 0 % n < n ∧ l.getD pos.toNat 0 % n ≤ 255 := by
  have h := hl.b _ (getD_mem (i := pos.toNat) (d := 0) (by omega))
  have h1 := Int.emod_nonneg (l.getD pos.toNat 0) (by omega : n ≠ 0)
  have h2 := Int.emod_lt_of_pos (l.getD pos.toNat 0) hn
  have h3 : l.getD pos.toNat 0 % n ≤ l.getD pos.toNat 0 := by
    have e := Int.emod_add_mul_ediv (l.getD pos.toNat 0) n
    have e2 := Int.mul_nonneg (by omega : 0 ≤ n) (Int.ediv_nonneg h.1 (by omega : 0 ≤ n))
    omega
  exact ⟨h.1, h.2, h1, h2, by omega⟩

theorem next_ok (hl : Bytes l) (h0 : 0 ≤ pos) (hp : pos ≤ l.length) (hn : 0 < n) (k : Int × Int → Option α) (hk : ∀ v p : Int, 0 ≤ v → v < n → v ≤ 255 → 0 ≤ p → p ≤ l.length → Ok post (k (v, p))) :
    Ok post (brk (decide (pos ≥ (l.length : Int))) (k (0, pos)) (chk (InR (pos + 1)) (chk (InR (pos + 1 - 1)) (chk (0 ≤ pos + 1 - 1 ∧ pos + 1 - 1 < (l.length : Int)) (chk (InR (l.getD (pos + 1 - 1).toNat 0)) (chk (0 ≤ l.getD (pos + 1 - 1).toNat 0 ∧ l.getD (pos + 1 - 1).toNat 0 ≤ 9223372036854775807) (k (l.getD (pos + 1 - 1).toNat 0 % n, pos + 1)))))))) := by
  have hlen := hl.len
  refine ok_brk (fun _ => hk 0 pos (by omega) hn (by omega) h0 hp) (fun hc => ?_)
  have hc : pos < l.length := by simpa using hc
  rw [show pos + 1 - 1 = pos by omega]
  obtain ⟨h1, h2, h3, h4, h5⟩ := next_gen hl h0 hc hn
  exact ok_chk ⟨by omega, by omega⟩ (ok_chk ⟨by omega, by omega⟩ (ok_chk ⟨h0, hc⟩ (ok_chk ⟨by omega, by omega⟩ (ok_chk ⟨h1, by omega⟩ (hk _ _ h3 h4 h5 (by omega) (by omega))))))

theorem next_okS (hl : Bytes l) (h0 : 0 ≤ pos) (hp : pos ≤ l.length) (hn : 0 < n) (k : Int × Int → Option α) (hk : ∀ v p : Int, 0 ≤ v → v < n → v ≤ 255 → 0 ≤ p → p ≤ l.length → Ok post (k (v, p))) :
    Ok post (brk (decide (pos ≥ (l.length : Int))) (k (0, pos)) (chk (InR (pos + 1)) (chk (InR (pos + 1 - 1)) (chk (0 ≤ pos + 1 - 1 ∧ pos + 1 - 1 < (l.length : Int)) (chk (InR (l.getD (pos + 1 - 1).toNat 0)) (chk ((0 ≤ l.getD (pos + 1 - 1).toNat 0 ∧ l.getD (pos + 1 - 1).toNat 0 ≤ 9223372036854775807) ∧ 0 < n) (k (l.getD (pos + 1 - 1).toNat 0 % n, pos + 1)))))))) := by
  have hlen := hl.len
  refine ok_brk (fun _ => hk 0 pos (by omega) hn (by omega) h0 hp) (fun hc => ?_)
  have hc : pos < l.length := by simpa using hc
  rw [show pos + 1 - 1 = pos by omega]
  obtain ⟨h1, h2, h3, h4, h5⟩ := next_gen hl h0 hc hn
  exact ok_chk ⟨by omega, by omega⟩ (ok_chk ⟨by omega, by omega⟩ (ok_chk ⟨h0, hc⟩ (ok_chk ⟨by omega, by omega⟩ (ok_chk ⟨⟨h1, by omega⟩, hn⟩ (hk _ _ h3 h4 h5 (by omega) (by omega))))))

theorem next_ok0 {w0 w1 : Int} (e0 : w0 = 0) (e1 : w1 = 1) (hl : Bytes l) (hn : 0 < n) (k : Int × Int → Option α) (hk : ∀ v p : Int, 0 ≤ v → v < n → v ≤ 255 → 0 ≤ p → p ≤ l.length → Ok post (k (v, p))) :
    Ok post (brk (decide (0 ≥ (l.length : Int))) (k (0, 0)) (chk (0 ≤ w0 ∧ w0 < (l.length : Int)) (chk (InR (l.getD w0.toNat 0)) (chk (0 ≤ l.getD w0.toNat 0 ∧ l.getD w0.toNat 0 ≤ 9223372036854775807) (k (l.getD w0.toNat 0 % n, w1)))))) := by
  subst e0; subst e1
  refine ok_brk (fun _ => hk 0 0 (by omega) hn (by omega) (by omega) (by omega)) (fun hc => ?_)
  have hc : (0 : Int) < l.length := by have := of_decide_eq_false hc; omega
  obtain ⟨h1, h2, h3, h4, h5⟩ := next_gen hl (Int.le_refl 0) hc hn
  exact ok_chk ⟨by omega, hc⟩ (ok_chk ⟨by omega, by omega⟩ (ok_chk ⟨h1, by omega⟩ (hk _ _ h3 h4 h5 (by omega) (by omega))))

theorem ok_next {F : Nat} (hF : 0 < F) (hl : Bytes l) (h0 : 0 ≤ pos) (hp : pos ≤ l.length) (hn : 0 < n) {K : Int × Int → Option α} (hk : ∀ v p : Int, 0 ≤ v → v < n → v ≤ 255 → 0 ≤ p → p ≤ l.length → Ok post (K (v, p))) :
    Ok post (join F K fun k => brk (decide (pos ≥ (l.length : Int))) (k (0, pos)) (chk (InR (pos + 1)) (chk (InR (pos + 1 - 1)) (chk (0 ≤ pos + 1 - 1 ∧ pos + 1 - 1 < (l.length : Int)) (chk (InR (l.getD (pos + 1 - 1).toNat 0)) (chk (0 ≤ l.getD (pos + 1 - 1).toNat 0 ∧ l.getD (pos + 1 - 1).toNat 0 ≤ 9223372036854775807) (k (l.getD (pos + 1 - 1).toNat 0 % n, pos + 1)))))))) :=
  ok_join hF (fun x : Int × Int => 0 ≤ x.1 ∧ x.1 < n ∧ x.1 ≤ 255 ∧ 0 ≤ x.2 ∧ x.2 ≤ l.length) (fun x ⟨a, b, c, d, e⟩ => hk x.1 x.2 a b c d e) fun k hk => next_ok hl h0 hp hn k fun v p a b c d e => hk (v, p) ⟨a, b, c, d, e⟩

theorem ok_nextS {F : Nat} (hF : 0 < F) (hl : Bytes l) (h0 : 0 ≤ pos) (hp : pos ≤ l.length) (hn : 0 < n) {K : Int × Int → Option α} (hk : ∀ v p : Int, 0 ≤ v → v < n → v ≤ 255 → 0 ≤ p → p ≤ l.length → Ok post (K (v, p))) :
    Ok post (join F K fun k => brk (decide (pos ≥ (l.length : Int))) (k (0, pos)) (chk (InR (pos + 1)) (chk (InR (pos + 1 - 1)) (chk (0 ≤ pos + 1 - 1 ∧ pos + 1 - 1 < (l.length : Int)) (chk (InR (l.getD (pos + 1 - 1).toNat 0)) (chk ((0 ≤ l.getD (pos + 1 - 1).toNat 0 ∧ l.getD (pos + 1 - 1).toNat 0 ≤ 9223372036854775807) ∧ 0 < n) (k (l.getD (pos + 1 - 1).toNat 0 % n, pos + 1)))))))) :=
  ok_join hF (fun x : Int × Int => 0 ≤ x.1 ∧ x.1 < n ∧ x.1 ≤ 255 ∧ 0 ≤ x.2 ∧ x.2 ≤ l.length) (fun x ⟨a, b, c, d, e⟩ => hk x.1 x.2 a b c d e) fun k hk => next_okS hl h0 hp hn k fun v p a b c d e => hk (v, p) ⟨a, b, c, d, e⟩

theorem ok_next0 {F : Nat} (hF : 0 < F) (hl : Bytes l) (hn : 0 < n) {K : Int × Int → Option α} (hk : ∀ v p : Int, 0 ≤ v → v < n → v ≤ 255 → 0 ≤ p → p ≤ l.length → Ok post (K (v, p))) :
    Ok post (join F K fun k => brk (decide ((0 : Int) ≥ (l.length : Int))) (k (0, 0)) (chk (0 ≤ IntKind.i64.wrap (IntKind.i64.wrap (0 + 1) - 1) ∧ IntKind.i64.wrap (IntKind.i64.wrap (0 + 1) - 1) < (l.length : Int)) (chk (InR (l.getD (IntKind.i64.wrap (IntKind.i64.wrap (0 + 1) - 1)).toNat 0)) (chk (0 ≤ l.getD (IntKind.i64.wrap (IntKind.i64.wrap (0 + 1) - 1)).toNat 0 ∧ l.getD (IntKind.i64.wrap (IntKind.i64.wrap (0 + 1) - 1)).toNat 0 ≤ 9223372036854775807) (k (l.getD (IntKind.i64.wrap (IntKind.i64.wrap (0 + 1) - 1)).toNat 0 % n, IntKind.i64.wrap (0 + 1))))))) :=
  ok_join hF (fun x : Int × Int => 0 ≤ x.1 ∧ x.1 < n ∧ x.1 ≤ 255 ∧ 0 ≤ x.2 ∧ x.2 ≤ l.length) (fun x ⟨a, b, c, d, e⟩ => hk x.1 x.2 a b c d e) fun k hk => next_ok0 rfl rfl hl hn k fun v p a b c d e => hk (v, p) ⟨a, b, c, d, e⟩
end
end Go.KX

namespace Go.Proofs.Fe
open Go Go.KX

/-- An award of a claim at a level. -/
def In1 (n c a : Int) : Prop := mn n c ≤ a ∧ a ≤ mn (n + 1) c

theorem In1.cases {n c a : Int} (h : In1 n c a) : (c ≤ n ∧ a = c) ∨ (n < c ∧ (a = n ∨ a = n + 1)) := by
  obtain ⟨h1, h2⟩ := h
  unfold mn at h1 h2
  split at h1 <;> split at h2 <;> omega

theorem in1_low {n c : Int} : In1 n c (mn n c) := ⟨Int.le_refl _, mn_mono (by omega)⟩
theorem in1_high {n c : Int} (h : n < c) : In1 n c (n + 1) := by
  unfold In1 mn
  constructor <;> split <;> omega

inductive All2 (R : Int → Int → Prop) : List Int → List Int → Prop
  | nil : All2 R [] []
  | cons {x y : Int} {l r : List Int} : R x y → All2 R l r → All2 R (x :: l) (y :: r)

theorem All2.length {R : Int → Int → Prop} {l r : List Int} (h : All2 R l r) : l.length = r.length := by
  induction h with
  | nil => rfl
  | cons _ _ ih => simp [ih]
theorem All2.get {R : Int → Int → Prop} {l r : List Int} (h : All2 R l r) : ∀ {i : Nat}, i < l.length → R (l.getD i 0) (r.getD i 0) := by
  induction h with
  | nil => intro i hi; simp at hi
  | cons h1 _ ih =>
    intro i hi
    cases i with
    | zero => exact h1
    | succ i => exact ih (by simpa using hi)
theorem All2.imp {R S : Int → Int → Prop} {l r : List Int} (h : All2 R l r) (hi : ∀ x y, R x y → S x y) : All2 S l r := by
  induction h with
  | nil => exact .nil
  | cons h1 _ ih => exact .cons (hi _ _ h1) ih

theorem awV_in (n : Int) : ∀ (l : List Int) (left : Int), All2 (In1 n) l (awV n left l)
  | [], _ => .nil
  | c :: l, left => by
    rw [awV_cons]
    by_cases h : c > n
    · rw [if_pos h]
      have e : mn n c = n := by unfold mn; rw [if_pos (by omega)]
      split
      · exact .cons (in1_high h) (awV_in n l _)
      · exact .cons (by have := in1_low (n := n) (c := c); rwa [e] at this) (awV_in n l _)
    · rw [if_neg h]
      have e : mn n c = c := by unfold mn; rw [if_neg (by omega)]
      exact .cons (by have := in1_low (n := n) (c := c); rwa [e] at this) (awV_in n l _)

theorem awV_zero (n : Int) : ∀ (l : List Int), All2 (fun c a => a = mn n c) l (awV n 0 l)
  | [] => .nil
  | c :: l => by
    rw [awV_cons]
    by_cases h : c > n
    · rw [if_pos h, if_neg (by omega)]
      exact .cons (by unfold mn; rw [if_pos (by omega)]) (awV_zero n l)
    · rw [if_neg h]
      exact .cons (by unfold mn; rw [if_neg (by omega)]) (awV_zero n l)

theorem awV_sum (n : Int) : ∀ (l : List Int) (left : Int), 0 ≤ left → sumL (awV n left l) = cutV l n + (if left < (abv l n : Int) then left else (abv l n : Int))
  | [], left, h => by
    have e : ((abv [] n : Nat) : Int) = 0 := rfl
    rw [e, if_neg (by omega)]; rfl
  | c :: l, left, h => by
    have h0 := awV_sum n l left h
    have hcut : cutV (c :: l) n = mn n c + cutV l n := rfl
    rw [awV_cons, hcut]
    by_cases hc : c > n
    · have ha : (abv (c :: l) n : Int) = abv l n + 1 := by rw [abv_cons, if_pos (show n < c from hc)]; omega
      have e : mn n c = n := by unfold mn; rw [if_pos (show n < c from hc)]
      rw [if_pos hc, ha, e]
      by_cases hl : left > 0
      · have h1 := awV_sum n l (left - 1) (by omega)
        rw [if_pos hl]
        simp only [sumL]
        rw [h1]
        split <;> split <;> omega
      · rw [if_neg hl]
        simp only [sumL]
        rw [h0]
        split <;> split <;> omega
    · have ha : (abv (c :: l) n : Int) = abv l n := by rw [abv_cons, if_neg (show ¬ n < c from hc)]; omega
      have e : mn n c = c := by unfold mn; rw [if_neg (show ¬ n < c from hc)]
      rw [if_neg hc, ha, e]
      simp only [sumL]
      rw [h0]; omega

theorem awV_mono (n : Int) : ∀ (l : List Int) (left left' : Int), left ≤ left' → All2 (fun a b => a ≤ b) (awV n left l) (awV n left' l)
  | [], _, _, _ => .nil
  | c :: l, left, left', h => by
    rw [awV_cons, awV_cons]
    by_cases hc : c > n
    · rw [if_pos hc, if_pos hc]
      by_cases h1 : left > 0
      · rw [if_pos h1, if_pos (by omega)]
        exact .cons (Int.le_refl _) (awV_mono n l _ _ (by omega))
      · rw [if_neg h1]
        split
        · exact .cons (by omega) (awV_mono' n l left (left' - 1) (by omega))
        · exact .cons (Int.le_refl _) (awV_mono n l _ _ h)
    · rw [if_neg hc, if_neg hc]
      exact .cons (Int.le_refl _) (awV_mono n l _ _ h)
where
  /-- nothing left gives no more than anything left -/
  awV_mono' (n : Int) (l : List Int) (left left' : Int) (h : left ≤ 0 ∧ 0 ≤ left') : All2 (fun a b => a ≤ b) (awV n left l) (awV n left' l) := awV_mono n l left left' (by omega)

/-- With a greater estate nobody gets less. -/
theorem AwOK.mono {l : List Int} {e e' : Int} {a b : List Int} (h : AwOK l e a) (h' : AwOK l e' b) (he : e ≤ e') : ∀ i, i < l.length → a.getD i 0 ≤ b.getD i 0 := by
  obtain ⟨r, hr, rfl⟩ := h
  obtain ⟨s, hs, rfl⟩ := h'
  intro i hi
  have h1 := (awV_in r.1 l r.2).get hi
  have h2 := (awV_in s.1 l s.2).get hi
  rcases Int.lt_trichotomy r.1 s.1 with q | q | q
  · have := h1.cases
    have := h2.cases
    omega
  · have hl : r.2 ≤ s.2 := by rw [hr.left, hs.left, q]; omega
    rw [q]
    exact (awV_mono s.1 l r.2 s.2 hl).get (by rw [awV_length]; exact hi)
  · exfalso
    have := hs.n0
    rcases hr.top with p | ⟨c, hc, p⟩
    · omega
    · rcases hs.max with u | u
      · have := u c hc; omega
      · have h1 := cutV_mono l (n := s.1 + 1) (m := r.1) (by omega)
        have h2 := hr.cut
        omega

/-- All awards are the estate, or all claims. -/
theorem AwOK.sum {l : List Int} {e : Int} {a : List Int} (h : AwOK l e a) : sumL a = if sumL l < e then sumL l else e := by
  obtain ⟨r, hr, rfl⟩ := h
  have h0 := hr.left0
  rw [awV_sum _ _ _ h0]
  have h1 := hr.left
  have h2 := hr.cut
  have key : (∀ c ∈ l, c ≤ r.1) → cutV l r.1 = sumL l ∧ abv l r.1 = 0 := fun q => by
    refine ⟨cutV_all l q, ?_⟩
    unfold abv
    rw [List.length_eq_zero_iff, List.filter_eq_nil_iff]
    intro c hc
    have := q c hc
    simp; omega
  rcases hr.max with q | q
  · obtain ⟨q1, q2⟩ := key q
    rw [q1, q2]
    rw [q1] at h2 h1
    split <;> split <;> omega
  · have hline := cutV_line (a := r.1) (x := r.1 + 1) (by omega) l fun c _ => by omega
    have hall : cutV l (r.1 + 1) ≤ sumL l := by
      have : ∀ l : List Int, ∀ m, cutV l m ≤ sumL l := by
        intro l m
        induction l with
        | nil => exact Int.le_refl _
        | cons c l ih =>
          simp only [cutV, List.map_cons, sumL] at ih ⊢
          have := (mn_le (n := m) (c := c)).2
          omega
      exact this l _
    rw [hline] at q hall
    have : (r.1 + 1 - r.1) * (abv l r.1 : Int) = (abv l r.1 : Int) := by rw [show r.1 + 1 - r.1 = 1 by omega]; omega
    rw [this] at q hall
    split <;> split <;> omega

theorem cutV_strict {n m c : Int} (h : n < m) (hm : m ≤ c) : ∀ l : List Int, c ∈ l → cutV l n < cutV l m
  | d :: l, hc => by
    simp only [cutV, List.map_cons, sumL]
    have h1 := cutV_mono l (Int.le_of_lt h)
    simp only [cutV] at h1
    rcases List.mem_cons.1 hc with rfl | hc
    · unfold mn at h1 ⊢
      split <;> split <;> omega
    · have h2 := cutV_strict h hm l hc
      have h3 := mn_mono (c := d) (Int.le_of_lt h)
      simp only [cutV] at h2
      omega

theorem in1_sum {n : Int} : ∀ {l a : List Int}, All2 (In1 n) l a → cutV l n ≤ sumL a ∧ sumL a ≤ cutV l (n + 1)
  | _, _, .nil => ⟨Int.le_refl _, Int.le_refl _⟩
  | _, _, .cons h t => by
    have h1 := in1_sum t
    have h2 := h.1
    have h3 := h.2
    simp only [cutV, List.map_cons, sumL] at h1 ⊢
    omega

/-- Those who share again what they have got get the same, but for a cent. -/
theorem again {n : Int} (hn : 0 ≤ n) {p pa x : List Int} (h : All2 (In1 n) p pa) (hx : AwOK p (sumL pa) x) (j : Nat) (hj : j < p.length) (a : Int) (ha : In1 n (p.getD j 0) a) : a - 1 ≤ x.getD j 0 ∧ x.getD j 0 ≤ a + 1 := by
  obtain ⟨h1, h2⟩ := in1_sum h
  obtain ⟨r, hr, rfl⟩ := hx
  have h3 := (awV_in r.1 p r.2).get hj
  rcases Int.lt_trichotomy r.1 n with q | q | q
  · have hall : ∀ c ∈ p, c ≤ r.1 := by
      rcases hr.max with u | u
      · exact u
      · have := cutV_mono p (n := r.1 + 1) (m := n) (by omega)
        omega
    have := hall _ (getD_mem (d := 0) hj)
    have := ha.cases
    have := h3.cases
    omega
  · rw [q] at h3
    have := ha.cases
    have := h3.cases
    rw [q]
    omega
  · by_cases q2 : r.1 = n + 1
    · have hl : r.2 = 0 := by
        have e1 := hr.left
        have e2 := hr.left0
        rw [q2] at e1
        omega
      have h4 := (awV_zero r.1 p).get hj
      rw [hl, h4, q2]
      have := ha.cases
      unfold mn
      split <;> omega
    · exfalso
      have := hr.n0
      rcases hr.top with u | ⟨c, hc, u⟩
      · omega
      · have := cutV_strict (n := n + 1) (m := r.1) (by omega) u p hc
        have := hr.cut
        omega

/-! ### Some of a list -/

def sel (b : Nat → Bool) : Nat → List Int → List Int
  | _, [] => []
  | k, x :: l => if b k then x :: sel b (k + 1) l else sel b (k + 1) l

theorem sel_append (b : Nat → Bool) : ∀ (l r : List Int) (k : Nat), sel b k (l ++ r) = sel b k l ++ sel b (k + l.length) r
  | [], r, k => rfl
  | x :: l, r, k => by
    have e := sel_append b l r (k + 1)
    simp only [List.cons_append, sel, List.length_cons]
    rw [e, show k + 1 + l.length = k + (l.length + 1) by omega]
    split <;> rfl

theorem sel_snoc {b : Nat → Bool} {l : List Int} {i : Nat} (h : i < l.length) : sel b 0 (l.take (i + 1)) = sel b 0 (l.take i) ++ (if b i then [l.getD i 0] else []) := by
  rw [take_succ' (d := 0) h, sel_append, List.length_take, Nat.min_eq_left (by omega), Nat.zero_add]
  rfl

theorem sel_get {b : Nat → Bool} {l : List Int} {i : Nat} (h : i < l.length) (hb : b i = true) : (sel b 0 (l.take i)).length < (sel b 0 l).length ∧ (sel b 0 l).getD (sel b 0 (l.take i)).length 0 = l.getD i 0 := by
  have e : sel b 0 l = sel b 0 (l.take i) ++ (l.getD i 0 :: sel b (i + 1) (l.drop (i + 1))) := by
    have e1 : l = l.take i ++ (l.getD i 0 :: l.drop (i + 1)) := by rw [← drop_get h, List.take_append_drop]
    have e2 : (l.take i).length = i := by rw [List.length_take]; omega
    rw [show sel b 0 l = sel b 0 (l.take i ++ (l.getD i 0 :: l.drop (i + 1))) by rw [← e1], sel_append, e2, Nat.zero_add]
    simp only [sel, hb, if_true]
  refine ⟨by rw [e]; simp, ?_⟩
  generalize sel b 0 (l.take i) = u at e
  rw [e]
  simp [List.getD_eq_getElem?_getD]

theorem sel_all2 {b : Nat → Bool} {R : Int → Int → Prop} : ∀ {l r : List Int} (k : Nat), All2 R l r → All2 R (sel b k l) (sel b k r)
  | _, _, _, .nil => .nil
  | _, _, k, .cons h t => by
    simp only [sel]
    split
    · exact .cons h (sel_all2 (k + 1) t)
    · exact sel_all2 (k + 1) t

theorem sel_sub {b : Nat → Bool} : ∀ (l : List Int) (k : Nat), ∀ x ∈ sel b k l, x ∈ l
  | [], _, x, h => by cases h
  | y :: l, k, x, h => by
    simp only [sel] at h
    split at h
    · rcases List.mem_cons.1 h with rfl | h
      · exact List.mem_cons_self
      · exact List.mem_cons_of_mem _ (sel_sub l _ x h)
    · exact List.mem_cons_of_mem _ (sel_sub l _ x h)
theorem sel_length {b : Nat → Bool} : ∀ (l : List Int) (k : Nat), (sel b k l).length ≤ l.length
  | [], _ => Nat.le_refl _
  | y :: l, k => by
    have := sel_length (b := b) l (k + 1)
    simp only [sel]
    split <;> simp <;> omega
end Go.Proofs.Fe
