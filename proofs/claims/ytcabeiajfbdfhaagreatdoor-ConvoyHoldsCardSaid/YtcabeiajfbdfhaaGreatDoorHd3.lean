/- Texts FnA: own work; each part says what it is. -/
import Derived.Test.YtcabeiajfbdfhaaGreatDoorHd2
import Derived.KernelRfl
namespace Go.Proofs.Cv
open Go Go.KX Go.RowKit
set_option linter.unusedVariables false
set_option maxRecDepth 100000
theorem all0 {α : Type} {P : α → Prop} : ∀ c ∈ ([] : List α), P c := fun _ h => nomatch h
theorem allC {α : Type} {P : α → Prop} {a : α} {l : List α} (h : P a) (t : ∀ c ∈ l, P c) : ∀ c ∈ a :: l, P c := fun c hc => (List.mem_cons.1 hc).elim (fun e => e ▸ h) (t c)
theorem inl0 : InlOK E [] := fun _ _ h => nomatch h
theorem inlC {k : Nat} {fn : Func} {l : List (Nat × Func)} (h : E.P.funcs[k]? = some fn) (e : Proofs.Enters E.P k) (t : InlOK E l) : InlOK E ((k, fn) :: l) := by
  intro k2 fn2 hf
  simp only [findFn] at hf
  cases hb : Nat.beq k k2 with
  | true => rw [hb, cond_true] at hf; cases hf; rw [← Nat.eq_of_beq_eq_true hb]; exact ⟨h, e⟩
  | false => rw [hb, cond_false] at hf; exact t k2 fn2 hf
theorem mix : Tryz.prog.follows .mixedOrders = true := by rfl
theorem hf51 : Tryz.prog.funcs[51]? = some Tryz.f51 := by kernel_rfl
theorem en51 : Proofs.Enters Tryz.prog 51 := Proofs.enters_of hf51 (by kernel_rfl) rfl
noncomputable def law05_thick (F : Nat) (a0 : Member) : Option (Bool) :=
  some (decide ((↑a0.Stop.length : Int) > (12 : Int)) || decide ((↑a0.Ship.Thrust.length : Int) > (12 : Int)) || decide ((↑a0.Ship.Water.length : Int) > (12 : Int)) || decide ((↑a0.Ship.Ice.length : Int) > (12 : Int)))
noncomputable def s51 (F : Nat) : CS E.G := ⟨51, [.v 9 true], [.v 1 false []], fun x => law05_thick F x.1⟩
noncomputable def cx51 (F : Nat) : Ctx E := ⟨[], [], F, []⟩
noncomputable def h51 : Hint := .n
theorem e51 (F : Nat) (a0 : Member) : fnK (E := E) (cx51 F) Tryz.f51 gl [.v 9 true] [.v 1 false []] h51 (a0, ()) = law05_thick F a0 := by kernel_rfl
theorem c51 (F : Nat) : CSok E gl (s51 F) := ⟨en51, by
  have h := fn_sound (E := E) (gl := gl) (cx := cx51 F) mix all0 inl0 gl_up gl_lt hf51 (ps := [.v 9 true]) (rs := [.v 1 false []]) (by decide) h51
  rwa [show fnK (E := E) (cx51 F) Tryz.f51 gl [.v 9 true] [.v 1 false []] h51 = (fun x : AT E.G.car [.v 9 true] => law05_thick F x.1) from funext fun x => e51 F x.1] at h⟩
theorem hf122 : Tryz.prog.funcs[122]? = some Tryz.f122 := by kernel_rfl
theorem en122 : Proofs.Enters Tryz.prog 122 := Proofs.enters_of hf122 (by kernel_rfl) rfl
theorem hf64 : Tryz.prog.funcs[64]? = some Tryz.f64 := by kernel_rfl
theorem en64 : Proofs.Enters Tryz.prog 64 := Proofs.enters_of hf64 (by kernel_rfl) rfl
theorem hf9 : Tryz.prog.funcs[9]? = some Tryz.f9 := by kernel_rfl
theorem en9 : Proofs.Enters Tryz.prog 9 := Proofs.enters_of hf9 (by kernel_rfl) rfl
noncomputable def law05_heavy (F : Nat) (a0 : Convoy) : Option (Bool) :=
  brk (decide ((↑a0.Ships.length : Int) > (8 : Int))) (some (true)) (bnd (law05_thick F a0.Breaker) (fun (x : Bool) => brk (x) (some (true)) (join (F) (fun (x_1 : Int) => some (decide (x_1 ≥ (0 : Int)))) (fun x_1 => loopC (fun (x_2 : Int) => fun x_3 => brk (decide (x_2 < (↑a0.Ships.length : Int))) (chk ((0 : Int) ≤ x_2 ∧ x_2 < (↑a0.Ships.length : Int)) (bnd (law05_thick F (a0.Ships.getD (Int.toNat x_2) (Member.mk (Ship.mk (0 : Int) (0 : Int) (0 : Int) (0 : Int) [] [] [] (0 : Int) (0 : Int) (0 : Int) (0 : Int)) [] (0 : Int) (0 : Int) (0 : Int)))) (fun (x_4 : Bool) => brk (x_4) (x_1 (x_2)) (chk (InR (x_2 + (1 : Int))) (x_3 (x_2 + (1 : Int))))))) (x_1 ((-1 : Int)))) (F) ((0 : Int))))))
noncomputable def s9 (F : Nat) : CS E.G := ⟨9, [.v 12 true], [.v 1 false []], fun x => law05_heavy F x.1⟩
noncomputable def cx9 (F : Nat) : Ctx E := ⟨[s51 F], [(64, Tryz.f64), (122, Tryz.f122)], F, []⟩
noncomputable def h9 : Hint := (.s .n (.s .n (.p (.w ⟨[.i], [], [0, 5], [(0, .i IntKind.i64)], [], [], [], 7⟩ (.l ⟨[.i], [0, 16, 112], [0, 5], [(128, .i IntKind.i64)], [], [], [], 7⟩ (.c .n .n)) .n))))
theorem e9 (F : Nat) (a0 : Convoy) : fnK (E := E) (cx9 F) Tryz.f9 gl [.v 12 true] [.v 1 false []] h9 (a0, ()) = law05_heavy F a0 := by kernel_rfl
theorem c9 (F : Nat) : CSok E gl (s9 F) := ⟨en9, by
  have h := fn_sound (E := E) (gl := gl) (cx := cx9 F) mix (allC (c51 F) all0) (inlC hf64 en64 (inlC hf122 en122 inl0)) gl_up gl_lt hf9 (ps := [.v 12 true]) (rs := [.v 1 false []]) (by decide) h9
  rwa [show fnK (E := E) (cx9 F) Tryz.f9 gl [.v 12 true] [.v 1 false []] h9 = (fun x : AT E.G.car [.v 12 true] => law05_heavy F x.1) from funext fun x => e9 F x.1] at h⟩
theorem hf66 : Tryz.prog.funcs[66]? = some Tryz.f66 := by kernel_rfl
theorem en66 : Proofs.Enters Tryz.prog 66 := Proofs.enters_of hf66 (by kernel_rfl) rfl
noncomputable def convoy_within (F : Nat) (a0 : Int) (a1 : Int) (a2 : Int) : Option (Bool) :=
  some (decide (a0 ≥ a1) && decide (a0 ≤ a2))
noncomputable def s66 (F : Nat) : CS E.G := ⟨66, [.v 0 false, .v 0 false, .v 0 false], [.v 1 false []], fun x => convoy_within F x.1 x.2.1 x.2.2.1⟩
noncomputable def cx66 (F : Nat) : Ctx E := ⟨[], [], F, []⟩
noncomputable def h66 : Hint := .n
theorem e66 (F : Nat) (a0 : Int) (a1 : Int) (a2 : Int) : fnK (E := E) (cx66 F) Tryz.f66 gl [.v 0 false, .v 0 false, .v 0 false] [.v 1 false []] h66 (a0, a1, a2, ()) = convoy_within F a0 a1 a2 := by kernel_rfl
theorem c66 (F : Nat) : CSok E gl (s66 F) := ⟨en66, by
  have h := fn_sound (E := E) (gl := gl) (cx := cx66 F) mix all0 inl0 gl_up gl_lt hf66 (ps := [.v 0 false, .v 0 false, .v 0 false]) (rs := [.v 1 false []]) (by decide) h66
  rwa [show fnK (E := E) (cx66 F) Tryz.f66 gl [.v 0 false, .v 0 false, .v 0 false] [.v 1 false []] h66 = (fun x : AT E.G.car [.v 0 false, .v 0 false, .v 0 false] => convoy_within F x.1 x.2.1 x.2.2.1) from funext fun x => e66 F x.1 x.2.1 x.2.2.1] at h⟩
theorem hf67 : Tryz.prog.funcs[67]? = some Tryz.f67 := by kernel_rfl
theorem en67 : Proofs.Enters Tryz.prog 67 := Proofs.enters_of hf67 (by kernel_rfl) rfl
noncomputable def convoy_way (F : Nat) (a0 : Int) (a1 : Int) : Option (Int × Int) :=
  chk (InR ((463 : Int) * a0)) (chk (InR ((463 : Int) * a0 * a1)) (chk ((0 : Int) ≤ (463 : Int) * a0 * a1 ∧ (463 : Int) * a0 * a1 ≤ (9223372036854775807 : Int)) (chk (InR ((463 : Int) * a0 * a1 + (8999 : Int))) (chk ((0 : Int) ≤ (463 : Int) * a0 * a1 + (8999 : Int) ∧ (463 : Int) * a0 * a1 + (8999 : Int) ≤ (9223372036854775807 : Int)) (some (((463 : Int) * a0 * a1 / (9000 : Int), ((463 : Int) * a0 * a1 + (8999 : Int)) / (9000 : Int))))))))
noncomputable def s67 (F : Nat) : CS E.G := ⟨67, [.v 0 false, .v 0 false], [.v 0 false [], .v 0 false []], fun x => convoy_way F x.1 x.2.1⟩
noncomputable def cx67 (F : Nat) : Ctx E := ⟨[], [], F, []⟩
noncomputable def h67 : Hint := .n
theorem e67 (F : Nat) (a0 : Int) (a1 : Int) : fnK (E := E) (cx67 F) Tryz.f67 gl [.v 0 false, .v 0 false] [.v 0 false [], .v 0 false []] h67 (a0, a1, ()) = convoy_way F a0 a1 := by kernel_rfl
theorem c67 (F : Nat) : CSok E gl (s67 F) := ⟨en67, by
  have h := fn_sound (E := E) (gl := gl) (cx := cx67 F) mix all0 inl0 gl_up gl_lt hf67 (ps := [.v 0 false, .v 0 false]) (rs := [.v 0 false [], .v 0 false []]) (by decide) h67
  rwa [show fnK (E := E) (cx67 F) Tryz.f67 gl [.v 0 false, .v 0 false] [.v 0 false [], .v 0 false []] h67 = (fun x : AT E.G.car [.v 0 false, .v 0 false] => convoy_way F x.1 x.2.1) from funext fun x => e67 F x.1 x.2.1] at h⟩
theorem hf13 : Tryz.prog.funcs[13]? = some Tryz.f13 := by kernel_rfl
theorem en13 : Proofs.Enters Tryz.prog 13 := Proofs.enters_of hf13 (by kernel_rfl) rfl
noncomputable def convoy_Way (F : Nat) (a0 : Int) (a1 : Int) : Option (Int × Int × Int) :=
  bnd (convoy_within F a0 (0 : Int) (250 : Int)) (fun (x : Bool) => bnd (brk (!!x) (convoy_within F a1 (0 : Int) (100000 : Int)) (some false)) (fun (x_1 : Bool) => brk (!x || !x_1) (some (((0 : Int), (0 : Int), (6 : Int)))) (bnd (convoy_way F a0 a1) (fun (x_2 : (Int) × (Int)) => some ((x_2.fst, x_2.snd, (0 : Int)))))))
noncomputable def s13 (F : Nat) : CS E.G := ⟨13, [.v 0 false, .v 0 false], [.v 0 false [], .v 0 false [], .v 0 false []], fun x => convoy_Way F x.1 x.2.1⟩
noncomputable def cx13 (F : Nat) : Ctx E := ⟨[s66 F, s67 F], [], F, []⟩
noncomputable def h13 : Hint := .n
theorem e13 (F : Nat) (a0 : Int) (a1 : Int) : fnK (E := E) (cx13 F) Tryz.f13 gl [.v 0 false, .v 0 false] [.v 0 false [], .v 0 false [], .v 0 false []] h13 (a0, a1, ()) = convoy_Way F a0 a1 := by kernel_rfl
theorem c13 (F : Nat) : CSok E gl (s13 F) := ⟨en13, by
  have h := fn_sound (E := E) (gl := gl) (cx := cx13 F) mix (allC (c66 F) (allC (c67 F) all0)) inl0 gl_up gl_lt hf13 (ps := [.v 0 false, .v 0 false]) (rs := [.v 0 false [], .v 0 false [], .v 0 false []]) (by decide) h13
  rwa [show fnK (E := E) (cx13 F) Tryz.f13 gl [.v 0 false, .v 0 false] [.v 0 false [], .v 0 false [], .v 0 false []] h13 = (fun x : AT E.G.car [.v 0 false, .v 0 false] => convoy_Way F x.1 x.2.1) from funext fun x => e13 F x.1 x.2.1] at h⟩
theorem hf153 : Tryz.prog.funcs[153]? = some Tryz.f153 := by kernel_rfl
theorem en153 : Proofs.Enters Tryz.prog 153 := Proofs.enters_of hf153 (by kernel_rfl) rfl
noncomputable def hull_within (F : Nat) (a0 : Int) (a1 : Int) (a2 : Int) : Option (Bool) :=
  some (decide (a0 ≥ a1) && decide (a0 ≤ a2))
noncomputable def s153 (F : Nat) : CS E.G := ⟨153, [.v 0 false, .v 0 false, .v 0 false], [.v 1 false []], fun x => hull_within F x.1 x.2.1 x.2.2.1⟩
noncomputable def cx153 (F : Nat) : Ctx E := ⟨[], [], F, []⟩
noncomputable def h153 : Hint := .n
theorem e153 (F : Nat) (a0 : Int) (a1 : Int) (a2 : Int) : fnK (E := E) (cx153 F) Tryz.f153 gl [.v 0 false, .v 0 false, .v 0 false] [.v 1 false []] h153 (a0, a1, a2, ()) = hull_within F a0 a1 a2 := by kernel_rfl
theorem c153 (F : Nat) : CSok E gl (s153 F) := ⟨en153, by
  have h := fn_sound (E := E) (gl := gl) (cx := cx153 F) mix all0 inl0 gl_up gl_lt hf153 (ps := [.v 0 false, .v 0 false, .v 0 false]) (rs := [.v 1 false []]) (by decide) h153
  rwa [show fnK (E := E) (cx153 F) Tryz.f153 gl [.v 0 false, .v 0 false, .v 0 false] [.v 1 false []] h153 = (fun x : AT E.G.car [.v 0 false, .v 0 false, .v 0 false] => hull_within F x.1 x.2.1 x.2.2.1) from funext fun x => e153 F x.1 x.2.1 x.2.2.1] at h⟩
theorem hf171 : Tryz.prog.funcs[171]? = some Tryz.f171 := by kernel_rfl
theorem en171 : Proofs.Enters Tryz.prog 171 := Proofs.enters_of hf171 (by kernel_rfl) rfl
noncomputable def hull_rules_1 (F : Nat) (a0 : Ship) : Option (Bool) :=
  bnd (hull_within F a0.Class (1 : Int) (6 : Int)) (fun (x : Bool) => some (x))
noncomputable def s171 (F : Nat) : CS E.G := ⟨171, [.v 8 true], [.v 1 false []], fun x => hull_rules_1 F x.1⟩
noncomputable def cx171 (F : Nat) : Ctx E := ⟨[s153 F], [], F, []⟩
noncomputable def h171 : Hint := .n
theorem e171 (F : Nat) (a0 : Ship) : fnK (E := E) (cx171 F) Tryz.f171 gl [.v 8 true] [.v 1 false []] h171 (a0, ()) = hull_rules_1 F a0 := by kernel_rfl
theorem c171 (F : Nat) : CSok E gl (s171 F) := ⟨en171, by
  have h := fn_sound (E := E) (gl := gl) (cx := cx171 F) mix (allC (c153 F) all0) inl0 gl_up gl_lt hf171 (ps := [.v 8 true]) (rs := [.v 1 false []]) (by decide) h171
  rwa [show fnK (E := E) (cx171 F) Tryz.f171 gl [.v 8 true] [.v 1 false []] h171 = (fun x : AT E.G.car [.v 8 true] => hull_rules_1 F x.1) from funext fun x => e171 F x.1] at h⟩
theorem hf172 : Tryz.prog.funcs[172]? = some Tryz.f172 := by kernel_rfl
theorem en172 : Proofs.Enters Tryz.prog 172 := Proofs.enters_of hf172 (by kernel_rfl) rfl
noncomputable def hull_rules_2 (F : Nat) (a0 : Ship) : Option (Bool) :=
  bnd (hull_within F a0.Power (100 : Int) (100000 : Int)) (fun (x : Bool) => bnd (brk x (hull_within F a0.Draught (10 : Int) (2000 : Int)) (some false)) (fun (x_1 : Bool) => bnd (brk (x && x_1) (hull_within F a0.Tonnes (10 : Int) (500000 : Int)) (some false)) (fun (x_2 : Bool) => some (x && x_1 && x_2))))
noncomputable def s172 (F : Nat) : CS E.G := ⟨172, [.v 8 true], [.v 1 false []], fun x => hull_rules_2 F x.1⟩
noncomputable def cx172 (F : Nat) : Ctx E := ⟨[s153 F], [], F, []⟩
noncomputable def h172 : Hint := .n
theorem e172 (F : Nat) (a0 : Ship) : fnK (E := E) (cx172 F) Tryz.f172 gl [.v 8 true] [.v 1 false []] h172 (a0, ()) = hull_rules_2 F a0 := by kernel_rfl
theorem c172 (F : Nat) : CSok E gl (s172 F) := ⟨en172, by
  have h := fn_sound (E := E) (gl := gl) (cx := cx172 F) mix (allC (c153 F) all0) inl0 gl_up gl_lt hf172 (ps := [.v 8 true]) (rs := [.v 1 false []]) (by decide) h172
  rwa [show fnK (E := E) (cx172 F) Tryz.f172 gl [.v 8 true] [.v 1 false []] h172 = (fun x : AT E.G.car [.v 8 true] => hull_rules_2 F x.1) from funext fun x => e172 F x.1] at h⟩
theorem hf173 : Tryz.prog.funcs[173]? = some Tryz.f173 := by kernel_rfl
theorem en173 : Proofs.Enters Tryz.prog 173 := Proofs.enters_of hf173 (by kernel_rfl) rfl
noncomputable def hull_rules_3 (F : Nat) (a0 : Ship) : Option (Bool) :=
  bnd (hull_within F a0.Slow (0 : Int) (20 : Int)) (fun (x : Bool) => bnd (brk x (hull_within F a0.Brash (0 : Int) (100 : Int)) (some false)) (fun (x_1 : Bool) => bnd (brk (x && x_1) (hull_within F a0.Ridge (0 : Int) (500 : Int)) (some false)) (fun (x_2 : Bool) => bnd (brk (x && x_1 && x_2) (hull_within F a0.Press (0 : Int) (5000 : Int)) (some false)) (fun (x_3 : Bool) => some (x && x_1 && x_2 && x_3)))))
noncomputable def s173 (F : Nat) : CS E.G := ⟨173, [.v 8 true], [.v 1 false []], fun x => hull_rules_3 F x.1⟩
noncomputable def cx173 (F : Nat) : Ctx E := ⟨[s153 F], [], F, []⟩
noncomputable def h173 : Hint := .n
theorem e173 (F : Nat) (a0 : Ship) : fnK (E := E) (cx173 F) Tryz.f173 gl [.v 8 true] [.v 1 false []] h173 (a0, ()) = hull_rules_3 F a0 := by kernel_rfl
theorem c173 (F : Nat) : CSok E gl (s173 F) := ⟨en173, by
  have h := fn_sound (E := E) (gl := gl) (cx := cx173 F) mix (allC (c153 F) all0) inl0 gl_up gl_lt hf173 (ps := [.v 8 true]) (rs := [.v 1 false []]) (by decide) h173
  rwa [show fnK (E := E) (cx173 F) Tryz.f173 gl [.v 8 true] [.v 1 false []] h173 = (fun x : AT E.G.car [.v 8 true] => hull_rules_3 F x.1) from funext fun x => e173 F x.1] at h⟩
theorem hf152 : Tryz.prog.funcs[152]? = some Tryz.f152 := by kernel_rfl
theorem en152 : Proofs.Enters Tryz.prog 152 := Proofs.enters_of hf152 (by kernel_rfl) rfl
noncomputable def hull_curve (F : Nat) (a0 : List Point) : Option (Bool) :=
  bnd (hull_within F (↑a0.length : Int) (2 : Int) (8 : Int)) (fun (x : Bool) => chk ((!!x) = true → (0 : Int) ≤ (0 : Int) ∧ (0 : Int) < (↑a0.length : Int)) (brk (!x || (a0.getD (Int.toNat (0 : Int)) (Point.mk (0 : Int) (0 : Int))).X != (0 : Int)) (some (false)) (loopC (fun (x_1 : Int) => fun x_2 => brk (decide (x_1 < (↑a0.length : Int))) (chk ((0 : Int) ≤ x_1 ∧ x_1 < (↑a0.length : Int)) (bnd (hull_within F (a0.getD (Int.toNat x_1) (Point.mk (0 : Int) (0 : Int))).X (0 : Int) (400 : Int)) (fun (x_3 : Bool) => bnd (brk (!!x_3) (hull_within F (a0.getD (Int.toNat x_1) (Point.mk (0 : Int) (0 : Int))).Y (0 : Int) (20000 : Int)) (some false)) (fun (x_4 : Bool) => chk ((!(!x_3 || !x_4) && decide (x_1 > (0 : Int))) = true → InR (x_1 - (1 : Int))) (chk ((!(!x_3 || !x_4) && decide (x_1 > (0 : Int))) = true → (0 : Int) ≤ x_1 - (1 : Int) ∧ x_1 - (1 : Int) < (↑a0.length : Int)) (brk (!x_3 || !x_4 || decide (x_1 > (0 : Int)) && decide ((a0.getD (Int.toNat x_1) (Point.mk (0 : Int) (0 : Int))).X ≤ (a0.getD (x_1 - (1 : Int)).toNat (Point.mk (0 : Int) (0 : Int))).X)) (some (false)) (chk (InR (x_1 + (1 : Int))) (x_2 (x_1 + (1 : Int)))))))))) (some (true))) (F) ((0 : Int)))))
noncomputable def s152 (F : Nat) : CS E.G := ⟨152, [.sl 6], [.v 1 false []], fun x => hull_curve F x.1⟩
noncomputable def cx152 (F : Nat) : Ctx E := ⟨[s153 F], [], F, []⟩
noncomputable def h152 : Hint := (.c .n (.l ⟨[.i], [0, 256, 272], [0, 1], [(288, .i IntKind.i64)], [], [], [], 2⟩ (.c .n .n)))
theorem e152 (F : Nat) (a0 : List Point) : fnK (E := E) (cx152 F) Tryz.f152 gl [.sl 6] [.v 1 false []] h152 (a0, ()) = hull_curve F a0 := by kernel_rfl
theorem c152 (F : Nat) : CSok E gl (s152 F) := ⟨en152, by
  have h := fn_sound (E := E) (gl := gl) (cx := cx152 F) mix (allC (c153 F) all0) inl0 gl_up gl_lt hf152 (ps := [.sl 6]) (rs := [.v 1 false []]) (by decide) h152
  rwa [show fnK (E := E) (cx152 F) Tryz.f152 gl [.sl 6] [.v 1 false []] h152 = (fun x : AT E.G.car [.sl 6] => hull_curve F x.1) from funext fun x => e152 F x.1] at h⟩
theorem hf175 : Tryz.prog.funcs[175]? = some Tryz.f175 := by kernel_rfl
theorem en175 : Proofs.Enters Tryz.prog 175 := Proofs.enters_of hf175 (by kernel_rfl) rfl
noncomputable def hull_steady (F : Nat) (a0 : List Point) (a1 : Int) : Option (Bool) :=
  bnd (hull_curve F a0) (fun (x : Bool) => brk (!x) (some (false)) (loopC (fun (x_1 : Int) => fun x_2 => brk (decide (x_1 < (↑a0.length : Int))) (chk ((0 : Int) ≤ x_1 ∧ x_1 < (↑a0.length : Int)) (chk (InR (x_1 - (1 : Int))) (chk ((0 : Int) ≤ x_1 - (1 : Int) ∧ x_1 - (1 : Int) < (↑a0.length : Int)) (chk (InR ((a0.getD (Int.toNat x_1) (Point.mk (0 : Int) (0 : Int))).Y - (a0.getD (x_1 - (1 : Int)).toNat (Point.mk (0 : Int) (0 : Int))).Y)) (chk (InR (((a0.getD (Int.toNat x_1) (Point.mk (0 : Int) (0 : Int))).Y - (a0.getD (x_1 - (1 : Int)).toNat (Point.mk (0 : Int) (0 : Int))).Y) * a1)) (brk (decide (((a0.getD (Int.toNat x_1) (Point.mk (0 : Int) (0 : Int))).Y - (a0.getD (x_1 - (1 : Int)).toNat (Point.mk (0 : Int) (0 : Int))).Y) * a1 < (0 : Int))) (some (false)) (chk (InR (x_1 + (1 : Int))) (x_2 (x_1 + (1 : Int)))))))))) (some (true))) (F) ((1 : Int))))
noncomputable def s175 (F : Nat) : CS E.G := ⟨175, [.sl 6, .v 0 false], [.v 1 false []], fun x => hull_steady F x.1 x.2.1⟩
noncomputable def cx175 (F : Nat) : Ctx E := ⟨[s152 F], [], F, []⟩
noncomputable def h175 : Hint := (.c .n (.l ⟨[.i], [0, 16], [0, 1], [(80, .i IntKind.i64)], [], [], [], 2⟩ (.c .n .n)))
theorem e175 (F : Nat) (a0 : List Point) (a1 : Int) : fnK (E := E) (cx175 F) Tryz.f175 gl [.sl 6, .v 0 false] [.v 1 false []] h175 (a0, a1, ()) = hull_steady F a0 a1 := by kernel_rfl
theorem c175 (F : Nat) : CSok E gl (s175 F) := ⟨en175, by
  have h := fn_sound (E := E) (gl := gl) (cx := cx175 F) mix (allC (c152 F) all0) inl0 gl_up gl_lt hf175 (ps := [.sl 6, .v 0 false]) (rs := [.v 1 false []]) (by decide) h175
  rwa [show fnK (E := E) (cx175 F) Tryz.f175 gl [.sl 6, .v 0 false] [.v 1 false []] h175 = (fun x : AT E.G.car [.sl 6, .v 0 false] => hull_steady F x.1 x.2.1) from funext fun x => e175 F x.1 x.2.1] at h⟩
theorem hf176 : Tryz.prog.funcs[176]? = some Tryz.f176 := by kernel_rfl
theorem en176 : Proofs.Enters Tryz.prog 176 := Proofs.enters_of hf176 (by kernel_rfl) rfl
noncomputable def hull_end (F : Nat) (a0 : List Point) : Option (Int) :=
  chk (InR ((↑a0.length : Int) - (1 : Int))) (chk ((0 : Int) ≤ (↑a0.length : Int) - (1 : Int) ∧ (↑a0.length : Int) - (1 : Int) < (↑a0.length : Int)) (some ((a0.getD ((↑a0.length : Int) - (1 : Int)).toNat (Point.mk (0 : Int) (0 : Int))).X)))
noncomputable def s176 (F : Nat) : CS E.G := ⟨176, [.sl 6], [.v 0 false []], fun x => hull_end F x.1⟩
noncomputable def cx176 (F : Nat) : Ctx E := ⟨[], [], F, []⟩
noncomputable def h176 : Hint := .n
theorem e176 (F : Nat) (a0 : List Point) : fnK (E := E) (cx176 F) Tryz.f176 gl [.sl 6] [.v 0 false []] h176 (a0, ()) = hull_end F a0 := by kernel_rfl
theorem c176 (F : Nat) : CSok E gl (s176 F) := ⟨en176, by
  have h := fn_sound (E := E) (gl := gl) (cx := cx176 F) mix all0 inl0 gl_up gl_lt hf176 (ps := [.sl 6]) (rs := [.v 0 false []]) (by decide) h176
  rwa [show fnK (E := E) (cx176 F) Tryz.f176 gl [.sl 6] [.v 0 false []] h176 = (fun x : AT E.G.car [.sl 6] => hull_end F x.1) from funext fun x => e176 F x.1] at h⟩
theorem hf174 : Tryz.prog.funcs[174]? = some Tryz.f174 := by kernel_rfl
theorem en174 : Proofs.Enters Tryz.prog 174 := Proofs.enters_of hf174 (by kernel_rfl) rfl
noncomputable def hull_rules_4 (F : Nat) (a0 : Ship) : Option (Bool) :=
  bnd (hull_steady F a0.Thrust (-1 : Int)) (fun (x : Bool) => bnd (brk x (hull_end F a0.Thrust) (some (0 : Int))) (fun (x_1 : Int) => bnd (brk x (hull_within F x_1 (10 : Int) (250 : Int)) (some false)) (fun (x_2 : Bool) => some (x && x_2))))
noncomputable def s174 (F : Nat) : CS E.G := ⟨174, [.v 8 true], [.v 1 false []], fun x => hull_rules_4 F x.1⟩
noncomputable def cx174 (F : Nat) : Ctx E := ⟨[s153 F, s175 F, s176 F], [], F, []⟩
noncomputable def h174 : Hint := .n
theorem e174 (F : Nat) (a0 : Ship) : fnK (E := E) (cx174 F) Tryz.f174 gl [.v 8 true] [.v 1 false []] h174 (a0, ()) = hull_rules_4 F a0 := by kernel_rfl
theorem c174 (F : Nat) : CSok E gl (s174 F) := ⟨en174, by
  have h := fn_sound (E := E) (gl := gl) (cx := cx174 F) mix (allC (c153 F) (allC (c175 F) (allC (c176 F) all0))) inl0 gl_up gl_lt hf174 (ps := [.v 8 true]) (rs := [.v 1 false []]) (by decide) h174
  rwa [show fnK (E := E) (cx174 F) Tryz.f174 gl [.v 8 true] [.v 1 false []] h174 = (fun x : AT E.G.car [.v 8 true] => hull_rules_4 F x.1) from funext fun x => e174 F x.1] at h⟩
theorem hf177 : Tryz.prog.funcs[177]? = some Tryz.f177 := by kernel_rfl
theorem en177 : Proofs.Enters Tryz.prog 177 := Proofs.enters_of hf177 (by kernel_rfl) rfl
noncomputable def hull_rules_5 (F : Nat) (a0 : Ship) : Option (Bool) :=
  bnd (hull_steady F a0.Water (1 : Int)) (fun (x : Bool) => bnd (brk x (hull_end F a0.Water) (some (0 : Int))) (fun (x_1 : Int) => some (x && decide (x_1 ≤ (250 : Int)))))
noncomputable def s177 (F : Nat) : CS E.G := ⟨177, [.v 8 true], [.v 1 false []], fun x => hull_rules_5 F x.1⟩
noncomputable def cx177 (F : Nat) : Ctx E := ⟨[s175 F, s176 F], [], F, []⟩
noncomputable def h177 : Hint := .n
theorem e177 (F : Nat) (a0 : Ship) : fnK (E := E) (cx177 F) Tryz.f177 gl [.v 8 true] [.v 1 false []] h177 (a0, ()) = hull_rules_5 F a0 := by kernel_rfl
theorem c177 (F : Nat) : CSok E gl (s177 F) := ⟨en177, by
  have h := fn_sound (E := E) (gl := gl) (cx := cx177 F) mix (allC (c175 F) (allC (c176 F) all0)) inl0 gl_up gl_lt hf177 (ps := [.v 8 true]) (rs := [.v 1 false []]) (by decide) h177
  rwa [show fnK (E := E) (cx177 F) Tryz.f177 gl [.v 8 true] [.v 1 false []] h177 = (fun x : AT E.G.car [.v 8 true] => hull_rules_5 F x.1) from funext fun x => e177 F x.1] at h⟩
theorem hf178 : Tryz.prog.funcs[178]? = some Tryz.f178 := by kernel_rfl
theorem en178 : Proofs.Enters Tryz.prog 178 := Proofs.enters_of hf178 (by kernel_rfl) rfl
noncomputable def hull_rules_6 (F : Nat) (a0 : Ship) : Option (Bool) :=
  bnd (hull_steady F a0.Ice (1 : Int)) (fun (x : Bool) => chk (x = true → (0 : Int) ≤ (0 : Int) ∧ (0 : Int) < (↑a0.Ice.length : Int)) (bnd (brk (x && (a0.Ice.getD (Int.toNat (0 : Int)) (Point.mk (0 : Int) (0 : Int))).Y == (0 : Int)) (hull_end F a0.Ice) (some (0 : Int))) (fun (x_1 : Int) => some (x && (a0.Ice.getD (Int.toNat (0 : Int)) (Point.mk (0 : Int) (0 : Int))).Y == (0 : Int) && x_1 == (400 : Int)))))
noncomputable def s178 (F : Nat) : CS E.G := ⟨178, [.v 8 true], [.v 1 false []], fun x => hull_rules_6 F x.1⟩
noncomputable def cx178 (F : Nat) : Ctx E := ⟨[s175 F, s176 F], [], F, []⟩
noncomputable def h178 : Hint := .n
theorem e178 (F : Nat) (a0 : Ship) : fnK (E := E) (cx178 F) Tryz.f178 gl [.v 8 true] [.v 1 false []] h178 (a0, ()) = hull_rules_6 F a0 := by kernel_rfl
theorem c178 (F : Nat) : CSok E gl (s178 F) := ⟨en178, by
  have h := fn_sound (E := E) (gl := gl) (cx := cx178 F) mix (allC (c175 F) (allC (c176 F) all0)) inl0 gl_up gl_lt hf178 (ps := [.v 8 true]) (rs := [.v 1 false []]) (by decide) h178
  rwa [show fnK (E := E) (cx178 F) Tryz.f178 gl [.v 8 true] [.v 1 false []] h178 = (fun x : AT E.G.car [.v 8 true] => hull_rules_6 F x.1) from funext fun x => e178 F x.1] at h⟩
theorem hf151 : Tryz.prog.funcs[151]? = some Tryz.f151 := by kernel_rfl
theorem en151 : Proofs.Enters Tryz.prog 151 := Proofs.enters_of hf151 (by kernel_rfl) rfl
theorem hf123 : Tryz.prog.funcs[123]? = some Tryz.f123 := by kernel_rfl
theorem en123 : Proofs.Enters Tryz.prog 123 := Proofs.enters_of hf123 (by kernel_rfl) rfl
noncomputable def hull_Check (F : Nat) (a0 : Ship) : Option (Int) :=
  bnd (hull_rules_1 F a0) (fun (x : Bool) => brk (!x) (some ((41 : Int))) (bnd (hull_rules_2 F a0) (fun (x_1 : Bool) => brk (!x_1) (some ((40 : Int))) (bnd (hull_rules_3 F a0) (fun (x_2 : Bool) => brk (!x_2) (some ((40 : Int))) (bnd (hull_rules_4 F a0) (fun (x_3 : Bool) => brk (!x_3) (some ((40 : Int))) (bnd (hull_rules_5 F a0) (fun (x_4 : Bool) => brk (!x_4) (some ((40 : Int))) (bnd (hull_rules_6 F a0) (fun (x_5 : Bool) => brk (!x_5) (some ((40 : Int))) (some ((0 : Int))))))))))))))
noncomputable def s123 (F : Nat) : CS E.G := ⟨123, [.v 8 true], [.v 0 false []], fun x => hull_Check F x.1⟩
noncomputable def cx123 (F : Nat) : Ctx E := ⟨[s171 F, s172 F, s173 F, s174 F, s177 F, s178 F], [(151, Tryz.f151)], F, []⟩
noncomputable def h123 : Hint := (.p (.u 7 (.c .n (.c .n (.c .n (.c .n (.c .n .n)))))))
theorem e123 (F : Nat) (a0 : Ship) : fnK (E := E) (cx123 F) Tryz.f123 gl [.v 8 true] [.v 0 false []] h123 (a0, ()) = hull_Check F a0 := by kernel_rfl
theorem c123 (F : Nat) : CSok E gl (s123 F) := ⟨en123, by
  have h := fn_sound (E := E) (gl := gl) (cx := cx123 F) mix (allC (c171 F) (allC (c172 F) (allC (c173 F) (allC (c174 F) (allC (c177 F) (allC (c178 F) all0)))))) (inlC hf151 en151 inl0) gl_up gl_lt hf123 (ps := [.v 8 true]) (rs := [.v 0 false []]) (by decide) h123
  rwa [show fnK (E := E) (cx123 F) Tryz.f123 gl [.v 8 true] [.v 0 false []] h123 = (fun x : AT E.G.car [.v 8 true] => hull_Check F x.1) from funext fun x => e123 F x.1] at h⟩
theorem hf154 : Tryz.prog.funcs[154]? = some Tryz.f154 := by kernel_rfl
theorem en154 : Proofs.Enters Tryz.prog 154 := Proofs.enters_of hf154 (by kernel_rfl) rfl
noncomputable def hull_lowest (F : Nat) (a0 : Int) (a1 : Int) : Option (Ratio) :=
  loopC (fun (x : (Int) × (Int)) => fun x_1 => brk (x.fst != (0 : Int)) (chk (((0 : Int) ≤ x.snd ∧ x.snd ≤ (9223372036854775807 : Int)) ∧ (0 : Int) < x.fst) (x_1 ((x.snd % x.fst, x.fst)))) (chk (((0 : Int) ≤ a0 ∧ a0 ≤ (9223372036854775807 : Int)) ∧ (0 : Int) < x.snd) (chk (((0 : Int) ≤ a1 ∧ a1 ≤ (9223372036854775807 : Int)) ∧ (0 : Int) < x.snd) (some (Ratio.mk (a0 / x.snd) (a1 / x.snd)))))) (F) ((a1, a0))
noncomputable def s154 (F : Nat) : CS E.G := ⟨154, [.v 0 false, .v 0 false], [.v 29 true []], fun x => hull_lowest F x.1 x.2.1⟩
noncomputable def cx154 (F : Nat) : Ctx E := ⟨[], [], F, []⟩
noncomputable def h154 : Hint := (.l ⟨[.i, .i], [0, 16, 64], [0, 1], [(96, .i IntKind.i64), (80, .i IntKind.i64)], [], [], [], 2⟩ .n)
theorem e154 (F : Nat) (a0 : Int) (a1 : Int) : fnK (E := E) (cx154 F) Tryz.f154 gl [.v 0 false, .v 0 false] [.v 29 true []] h154 (a0, a1, ()) = hull_lowest F a0 a1 := by kernel_rfl
theorem c154 (F : Nat) : CSok E gl (s154 F) := ⟨en154, by
  have h := fn_sound (E := E) (gl := gl) (cx := cx154 F) mix all0 inl0 gl_up gl_lt hf154 (ps := [.v 0 false, .v 0 false]) (rs := [.v 29 true []]) (by decide) h154
  rwa [show fnK (E := E) (cx154 F) Tryz.f154 gl [.v 0 false, .v 0 false] [.v 29 true []] h154 = (fun x : AT E.G.car [.v 0 false, .v 0 false] => hull_lowest F x.1 x.2.1) from funext fun x => e154 F x.1 x.2.1] at h⟩
theorem hf155 : Tryz.prog.funcs[155]? = some Tryz.f155 := by kernel_rfl
theorem en155 : Proofs.Enters Tryz.prog 155 := Proofs.enters_of hf155 (by kernel_rfl) rfl
noncomputable def hull_value (F : Nat) (a0 : List Point) (a1 : Int) : Option (Int × Int) :=
  loopC (fun (x : Int) => fun x_1 => brk (decide (x < (↑a0.length : Int))) (chk (InR (x - (1 : Int))) (chk ((0 : Int) ≤ x - (1 : Int) ∧ x - (1 : Int) < (↑a0.length : Int)) (chk ((0 : Int) ≤ x ∧ x < (↑a0.length : Int)) (brk (decide (a1 ≤ (a0.getD (Int.toNat x) (Point.mk (0 : Int) (0 : Int))).X)) (chk (InR ((a0.getD (Int.toNat x) (Point.mk (0 : Int) (0 : Int))).X - (a0.getD (x - (1 : Int)).toNat (Point.mk (0 : Int) (0 : Int))).X)) (chk (InR ((a0.getD (x - (1 : Int)).toNat (Point.mk (0 : Int) (0 : Int))).Y * ((a0.getD (Int.toNat x) (Point.mk (0 : Int) (0 : Int))).X - (a0.getD (x - (1 : Int)).toNat (Point.mk (0 : Int) (0 : Int))).X))) (chk (InR ((a0.getD (Int.toNat x) (Point.mk (0 : Int) (0 : Int))).Y - (a0.getD (x - (1 : Int)).toNat (Point.mk (0 : Int) (0 : Int))).Y)) (chk (InR (a1 - (a0.getD (x - (1 : Int)).toNat (Point.mk (0 : Int) (0 : Int))).X)) (chk (InR (((a0.getD (Int.toNat x) (Point.mk (0 : Int) (0 : Int))).Y - (a0.getD (x - (1 : Int)).toNat (Point.mk (0 : Int) (0 : Int))).Y) * (a1 - (a0.getD (x - (1 : Int)).toNat (Point.mk (0 : Int) (0 : Int))).X))) (chk (InR ((a0.getD (x - (1 : Int)).toNat (Point.mk (0 : Int) (0 : Int))).Y * ((a0.getD (Int.toNat x) (Point.mk (0 : Int) (0 : Int))).X - (a0.getD (x - (1 : Int)).toNat (Point.mk (0 : Int) (0 : Int))).X) + ((a0.getD (Int.toNat x) (Point.mk (0 : Int) (0 : Int))).Y - (a0.getD (x - (1 : Int)).toNat (Point.mk (0 : Int) (0 : Int))).Y) * (a1 - (a0.getD (x - (1 : Int)).toNat (Point.mk (0 : Int) (0 : Int))).X))) (chk (InR ((a0.getD (Int.toNat x) (Point.mk (0 : Int) (0 : Int))).X - (a0.getD (x - (1 : Int)).toNat (Point.mk (0 : Int) (0 : Int))).X)) (some (((a0.getD (x - (1 : Int)).toNat (Point.mk (0 : Int) (0 : Int))).Y * ((a0.getD (Int.toNat x) (Point.mk (0 : Int) (0 : Int))).X - (a0.getD (x - (1 : Int)).toNat (Point.mk (0 : Int) (0 : Int))).X) + ((a0.getD (Int.toNat x) (Point.mk (0 : Int) (0 : Int))).Y - (a0.getD (x - (1 : Int)).toNat (Point.mk (0 : Int) (0 : Int))).Y) * (a1 - (a0.getD (x - (1 : Int)).toNat (Point.mk (0 : Int) (0 : Int))).X), (a0.getD (Int.toNat x) (Point.mk (0 : Int) (0 : Int))).X - (a0.getD (x - (1 : Int)).toNat (Point.mk (0 : Int) (0 : Int))).X)))))))))) (chk (InR (x + (1 : Int))) (x_1 (x + (1 : Int)))))))) (chk (InR ((↑a0.length : Int) - (1 : Int))) (chk ((0 : Int) ≤ (↑a0.length : Int) - (1 : Int) ∧ (↑a0.length : Int) - (1 : Int) < (↑a0.length : Int)) (some (((a0.getD ((↑a0.length : Int) - (1 : Int)).toNat (Point.mk (0 : Int) (0 : Int))).Y, (1 : Int))))))) (F) ((1 : Int))
noncomputable def s155 (F : Nat) : CS E.G := ⟨155, [.sl 6, .v 0 false], [.v 0 false [], .v 0 false []], fun x => hull_value F x.1 x.2.1⟩
noncomputable def cx155 (F : Nat) : Ctx E := ⟨[], [], F, []⟩
noncomputable def h155 : Hint := (.l ⟨[.i], [0, 16], [0, 1], [(96, .i IntKind.i64)], [], [], [], 2⟩ (.c .n .n))
theorem e155 (F : Nat) (a0 : List Point) (a1 : Int) : fnK (E := E) (cx155 F) Tryz.f155 gl [.sl 6, .v 0 false] [.v 0 false [], .v 0 false []] h155 (a0, a1, ()) = hull_value F a0 a1 := by kernel_rfl
theorem c155 (F : Nat) : CSok E gl (s155 F) := ⟨en155, by
  have h := fn_sound (E := E) (gl := gl) (cx := cx155 F) mix all0 inl0 gl_up gl_lt hf155 (ps := [.sl 6, .v 0 false]) (rs := [.v 0 false [], .v 0 false []]) (by decide) h155
  rwa [show fnK (E := E) (cx155 F) Tryz.f155 gl [.sl 6, .v 0 false] [.v 0 false [], .v 0 false []] h155 = (fun x : AT E.G.car [.sl 6, .v 0 false] => hull_value F x.1 x.2.1) from funext fun x => e155 F x.1 x.2.1] at h⟩
theorem hf124 : Tryz.prog.funcs[124]? = some Tryz.f124 := by kernel_rfl
theorem en124 : Proofs.Enters Tryz.prog 124 := Proofs.enters_of hf124 (by kernel_rfl) rfl
noncomputable def hull_At (F : Nat) (a0 : List Point) (a1 : Int) : Option (Ratio × Int) :=
  bnd (hull_curve F a0) (fun (x : Bool) => brk (!x) (some ((Ratio.mk (0 : Int) (0 : Int), (40 : Int)))) (bnd (hull_within F a1 (0 : Int) (1000 : Int)) (fun (x_1 : Bool) => brk (!x_1) (some ((Ratio.mk (0 : Int) (0 : Int), (6 : Int)))) (bnd (hull_value F a0 a1) (fun (x_2 : (Int) × (Int)) => bnd (hull_lowest F x_2.fst x_2.snd) (fun (x_3 : Ratio) => some ((x_3, (0 : Int)))))))))
noncomputable def s124 (F : Nat) : CS E.G := ⟨124, [.sl 6, .v 0 false], [.v 29 true [], .v 0 false []], fun x => hull_At F x.1 x.2.1⟩
noncomputable def cx124 (F : Nat) : Ctx E := ⟨[s152 F, s153 F, s154 F, s155 F], [], F, []⟩
noncomputable def h124 : Hint := (.c .n .n)
theorem e124 (F : Nat) (a0 : List Point) (a1 : Int) : fnK (E := E) (cx124 F) Tryz.f124 gl [.sl 6, .v 0 false] [.v 29 true [], .v 0 false []] h124 (a0, a1, ()) = hull_At F a0 a1 := by kernel_rfl
theorem c124 (F : Nat) : CSok E gl (s124 F) := ⟨en124, by
  have h := fn_sound (E := E) (gl := gl) (cx := cx124 F) mix (allC (c152 F) (allC (c153 F) (allC (c154 F) (allC (c155 F) all0)))) inl0 gl_up gl_lt hf124 (ps := [.sl 6, .v 0 false]) (rs := [.v 29 true [], .v 0 false []]) (by decide) h124
  rwa [show fnK (E := E) (cx124 F) Tryz.f124 gl [.sl 6, .v 0 false] [.v 29 true [], .v 0 false []] h124 = (fun x : AT E.G.car [.sl 6, .v 0 false] => hull_At F x.1 x.2.1) from funext fun x => e124 F x.1 x.2.1] at h⟩
theorem hf125 : Tryz.prog.funcs[125]? = some Tryz.f125 := by kernel_rfl
theorem en125 : Proofs.Enters Tryz.prog 125 := Proofs.enters_of hf125 (by kernel_rfl) rfl
noncomputable def convoy_top (F : Nat) (a0 : List Point) : Option (Int) :=
  chk (InR ((↑a0.length : Int) - (1 : Int))) (chk ((0 : Int) ≤ (↑a0.length : Int) - (1 : Int) ∧ (↑a0.length : Int) - (1 : Int) < (↑a0.length : Int)) (some ((a0.getD ((↑a0.length : Int) - (1 : Int)).toNat (Point.mk (0 : Int) (0 : Int))).X)))
noncomputable def s125 (F : Nat) : CS E.G := ⟨125, [.sl 6], [.v 0 false []], fun x => convoy_top F x.1⟩
noncomputable def cx125 (F : Nat) : Ctx E := ⟨[], [], F, []⟩
noncomputable def h125 : Hint := .n
theorem e125 (F : Nat) (a0 : List Point) : fnK (E := E) (cx125 F) Tryz.f125 gl [.sl 6] [.v 0 false []] h125 (a0, ()) = convoy_top F a0 := by kernel_rfl
theorem c125 (F : Nat) : CSok E gl (s125 F) := ⟨en125, by
  have h := fn_sound (E := E) (gl := gl) (cx := cx125 F) mix all0 inl0 gl_up gl_lt hf125 (ps := [.sl 6]) (rs := [.v 0 false []]) (by decide) h125
  rwa [show fnK (E := E) (cx125 F) Tryz.f125 gl [.sl 6] [.v 0 false []] h125 = (fun x : AT E.G.car [.sl 6] => convoy_top F x.1) from funext fun x => e125 F x.1] at h⟩
theorem hf126 : Tryz.prog.funcs[126]? = some Tryz.f126 := by kernel_rfl
theorem en126 : Proofs.Enters Tryz.prog 126 := Proofs.enters_of hf126 (by kernel_rfl) rfl
theorem hf127 : Tryz.prog.funcs[127]? = some Tryz.f127 := by kernel_rfl
theorem en127 : Proofs.Enters Tryz.prog 127 := Proofs.enters_of hf127 (by kernel_rfl) rfl
noncomputable def convoy_right_1 (F : Nat) (a0 : Point) (a1 : Point) : Option (Int) :=
  chk (InR (a0.Y - a1.Y)) (some (a0.Y - a1.Y))
noncomputable def s127 (F : Nat) : CS E.G := ⟨127, [.v 6 true, .v 6 true], [.v 0 false []], fun x => convoy_right_1 F x.1 x.2.1⟩
noncomputable def cx127 (F : Nat) : Ctx E := ⟨[], [], F, []⟩
noncomputable def h127 : Hint := .n
theorem e127 (F : Nat) (a0 : Point) (a1 : Point) : fnK (E := E) (cx127 F) Tryz.f127 gl [.v 6 true, .v 6 true] [.v 0 false []] h127 (a0, a1, ()) = convoy_right_1 F a0 a1 := by kernel_rfl
theorem c127 (F : Nat) : CSok E gl (s127 F) := ⟨en127, by
  have h := fn_sound (E := E) (gl := gl) (cx := cx127 F) mix all0 inl0 gl_up gl_lt hf127 (ps := [.v 6 true, .v 6 true]) (rs := [.v 0 false []]) (by decide) h127
  rwa [show fnK (E := E) (cx127 F) Tryz.f127 gl [.v 6 true, .v 6 true] [.v 0 false []] h127 = (fun x : AT E.G.car [.v 6 true, .v 6 true] => convoy_right_1 F x.1 x.2.1) from funext fun x => e127 F x.1 x.2.1] at h⟩
theorem hf70 : Tryz.prog.funcs[70]? = some Tryz.f70 := by kernel_rfl
theorem en70 : Proofs.Enters Tryz.prog 70 := Proofs.enters_of hf70 (by kernel_rfl) rfl
noncomputable def convoy_right (F : Nat) (a0 : Member) : Option (Int) :=
  bnd (hull_Check F a0.Ship) (fun (x : Int) => brk (x != (0 : Int)) (some (x)) (bnd (convoy_within F a0.Length (10 : Int) (500 : Int)) (fun (x_1 : Bool) => bnd (brk (!!x_1) (convoy_within F a0.Delay (0 : Int) (600 : Int)) (some false)) (fun (x_2 : Bool) => bnd (brk (!(!x_1 || !x_2)) (convoy_within F a0.Short (0 : Int) (20000 : Int)) (some false)) (fun (x_3 : Bool) => brk (!x_1 || !x_2 || !x_3) (some ((60 : Int))) (bnd (hull_At F a0.Stop (0 : Int)) (fun (x_4 : (Ratio) × (Int)) => chk ((!x_4.snd != (0 : Int)) = true → (0 : Int) ≤ (0 : Int) ∧ (0 : Int) < (↑a0.Stop.length : Int)) (bnd (brk (!(x_4.snd != (0 : Int) || (a0.Stop.getD (Int.toNat (0 : Int)) (Point.mk (0 : Int) (0 : Int))).Y != (0 : Int))) (convoy_top F a0.Stop) (some (0 : Int))) (fun (x_5 : Int) => bnd (brk (!(x_4.snd != (0 : Int) || (a0.Stop.getD (Int.toNat (0 : Int)) (Point.mk (0 : Int) (0 : Int))).Y != (0 : Int))) (convoy_top F a0.Ship.Thrust) (some (0 : Int))) (fun (x_6 : Int) => brk (x_4.snd != (0 : Int) || (a0.Stop.getD (Int.toNat (0 : Int)) (Point.mk (0 : Int) (0 : Int))).Y != (0 : Int) || decide (x_5 < x_6)) (some ((60 : Int))) (join (F) (fun (x_7 : Bool) => brk (!x_7) (some ((60 : Int))) (some ((0 : Int)))) (fun x_7 => chk (InR ((↑a0.Stop.length : Int) - (1 : Int))) (loopC (fun (x_8 : Int) => fun x_9 => brk (decide (x_8 > (0 : Int))) (chk ((0 : Int) ≤ x_8 ∧ x_8 < (↑a0.Stop.length : Int)) (chk (InR (x_8 - (1 : Int))) (chk ((0 : Int) ≤ x_8 - (1 : Int) ∧ x_8 - (1 : Int) < (↑a0.Stop.length : Int)) (bnd (convoy_right_1 F (a0.Stop.getD (Int.toNat x_8) (Point.mk (0 : Int) (0 : Int))) (a0.Stop.getD (x_8 - (1 : Int)).toNat (Point.mk (0 : Int) (0 : Int)))) (fun (x_10 : Int) => brk (decide (x_10 < (0 : Int))) (x_7 (false)) (chk (InR (x_8 - (1 : Int))) (x_9 (x_8 - (1 : Int))))))))) (x_7 (true))) (F) ((↑a0.Stop.length : Int) - (1 : Int)))))))))))))))
noncomputable def s70 (F : Nat) : CS E.G := ⟨70, [.v 9 true], [.v 0 false []], fun x => convoy_right F x.1⟩
noncomputable def cx70 (F : Nat) : Ctx E := ⟨[s66 F, s123 F, s124 F, s125 F, s127 F], [(126, Tryz.f126)], F, []⟩
noncomputable def h70 : Hint := (.c .n (.c .n (.c .n (.w ⟨[.b], [], [0, 4], [(0, .b)], [], [], [], 7⟩ (.l ⟨[.i], [0, 16], [0, 4], [(80, .i IntKind.i64)], [], [], [], 7⟩ (.c .n .n)) .n))))
theorem e70 (F : Nat) (a0 : Member) : fnK (E := E) (cx70 F) Tryz.f70 gl [.v 9 true] [.v 0 false []] h70 (a0, ()) = convoy_right F a0 := by kernel_rfl
theorem c70 (F : Nat) : CSok E gl (s70 F) := ⟨en70, by
  have h := fn_sound (E := E) (gl := gl) (cx := cx70 F) mix (allC (c66 F) (allC (c123 F) (allC (c124 F) (allC (c125 F) (allC (c127 F) all0))))) (inlC hf126 en126 inl0) gl_up gl_lt hf70 (ps := [.v 9 true]) (rs := [.v 0 false []]) (by decide) h70
  rwa [show fnK (E := E) (cx70 F) Tryz.f70 gl [.v 9 true] [.v 0 false []] h70 = (fun x : AT E.G.car [.v 9 true] => convoy_right F x.1) from funext fun x => e70 F x.1] at h⟩
theorem hf72 : Tryz.prog.funcs[72]? = some Tryz.f72 := by kernel_rfl
theorem en72 : Proofs.Enters Tryz.prog 72 := Proofs.enters_of hf72 (by kernel_rfl) rfl
noncomputable def convoy_Member_halt (F : Nat) (a0 : Member) (a1 : Int) : Option (Span) :=
  bnd (hull_At F a0.Stop a1) (fun (x : (Ratio) × (Int)) => bnd (convoy_way F a1 a0.Delay) (fun (x_1 : (Int) × (Int)) => chk (((0 : Int) ≤ x.fst.N ∧ x.fst.N ≤ (9223372036854775807 : Int)) ∧ (0 : Int) < x.fst.D) (chk (InR (x.fst.N + x.fst.D)) (chk (InR (x.fst.N + x.fst.D - (1 : Int))) (chk (((0 : Int) ≤ x.fst.N + x.fst.D - (1 : Int) ∧ x.fst.N + x.fst.D - (1 : Int) ≤ (9223372036854775807 : Int)) ∧ (0 : Int) < x.fst.D) (chk (InR (x_1.snd + (x.fst.N + x.fst.D - (1 : Int)) / x.fst.D)) (some (Span.mk (if x.fst.N / x.fst.D < a0.Short then x.fst.N / x.fst.D else a0.Short) (x_1.snd + (x.fst.N + x.fst.D - (1 : Int)) / x.fst.D)))))))))
noncomputable def s72 (F : Nat) : CS E.G := ⟨72, [.v 9 true, .v 0 false], [.v 19 true []], fun x => convoy_Member_halt F x.1 x.2.1⟩
noncomputable def cx72 (F : Nat) : Ctx E := ⟨[s67 F, s124 F], [], F, []⟩
noncomputable def h72 : Hint := .n
theorem e72 (F : Nat) (a0 : Member) (a1 : Int) : fnK (E := E) (cx72 F) Tryz.f72 gl [.v 9 true, .v 0 false] [.v 19 true []] h72 (a0, a1, ()) = convoy_Member_halt F a0 a1 := by kernel_rfl
theorem c72 (F : Nat) : CSok E gl (s72 F) := ⟨en72, by
  have h := fn_sound (E := E) (gl := gl) (cx := cx72 F) mix (allC (c67 F) (allC (c124 F) all0)) inl0 gl_up gl_lt hf72 (ps := [.v 9 true, .v 0 false]) (rs := [.v 19 true []]) (by decide) h72
  rwa [show fnK (E := E) (cx72 F) Tryz.f72 gl [.v 9 true, .v 0 false] [.v 19 true []] h72 = (fun x : AT E.G.car [.v 9 true, .v 0 false] => convoy_Member_halt F x.1 x.2.1) from funext fun x => e72 F x.1 x.2.1] at h⟩
theorem hf17 : Tryz.prog.funcs[17]? = some Tryz.f17 := by kernel_rfl
theorem en17 : Proofs.Enters Tryz.prog 17 := Proofs.enters_of hf17 (by kernel_rfl) rfl
noncomputable def convoy_Halt (F : Nat) (a0 : Member) (a1 : Int) : Option (Span × Int) :=
  bnd (convoy_right F a0) (fun (x : Int) => brk (x != (0 : Int)) (some ((Span.mk (0 : Int) (0 : Int), x))) (bnd (convoy_within F a1 (0 : Int) (250 : Int)) (fun (x_1 : Bool) => brk (!x_1) (some ((Span.mk (0 : Int) (0 : Int), (6 : Int)))) (bnd (convoy_Member_halt F a0 a1) (fun (x_2 : Span) => some ((x_2, (0 : Int))))))))
noncomputable def s17 (F : Nat) : CS E.G := ⟨17, [.v 9 true, .v 0 false], [.v 19 true [], .v 0 false []], fun x => convoy_Halt F x.1 x.2.1⟩
noncomputable def cx17 (F : Nat) : Ctx E := ⟨[s66 F, s70 F, s72 F], [], F, []⟩
noncomputable def h17 : Hint := (.c .n .n)
theorem e17 (F : Nat) (a0 : Member) (a1 : Int) : fnK (E := E) (cx17 F) Tryz.f17 gl [.v 9 true, .v 0 false] [.v 19 true [], .v 0 false []] h17 (a0, a1, ()) = convoy_Halt F a0 a1 := by kernel_rfl
theorem c17 (F : Nat) : CSok E gl (s17 F) := ⟨en17, by
  have h := fn_sound (E := E) (gl := gl) (cx := cx17 F) mix (allC (c66 F) (allC (c70 F) (allC (c72 F) all0))) inl0 gl_up gl_lt hf17 (ps := [.v 9 true, .v 0 false]) (rs := [.v 19 true [], .v 0 false []]) (by decide) h17
  rwa [show fnK (E := E) (cx17 F) Tryz.f17 gl [.v 9 true, .v 0 false] [.v 19 true [], .v 0 false []] h17 = (fun x : AT E.G.car [.v 9 true, .v 0 false] => convoy_Halt F x.1 x.2.1) from funext fun x => e17 F x.1 x.2.1] at h⟩
theorem hf69 : Tryz.prog.funcs[69]? = some Tryz.f69 := by kernel_rfl
theorem en69 : Proofs.Enters Tryz.prog 69 := Proofs.enters_of hf69 (by kernel_rfl) rfl
theorem hf15 : Tryz.prog.funcs[15]? = some Tryz.f15 := by kernel_rfl
theorem en15 : Proofs.Enters Tryz.prog 15 := Proofs.enters_of hf15 (by kernel_rfl) rfl
noncomputable def convoy_Check (F : Nat) (a0 : Convoy) : Option (Int) :=
  brk (decide ((↑a0.Ships.length : Int) > (6 : Int))) (some ((2 : Int))) (chk ([a0.Breaker].length + a0.Ships.length ≤ (1000000 : Nat)) (loopC (fun (x : Int) => fun x_1 => brk (decide (x < (↑([a0.Breaker] ++ a0.Ships).length : Int))) (chk ((0 : Int) ≤ x ∧ x < (↑([a0.Breaker] ++ a0.Ships).length : Int)) (bnd (convoy_right F (([a0.Breaker] ++ a0.Ships).getD (Int.toNat x) (Member.mk (Ship.mk (0 : Int) (0 : Int) (0 : Int) (0 : Int) [] [] [] (0 : Int) (0 : Int) (0 : Int) (0 : Int)) [] (0 : Int) (0 : Int) (0 : Int)))) (fun (x_2 : Int) => brk (x_2 != (0 : Int)) (some (x_2)) (chk (InR (x + (1 : Int))) (x_1 (x + (1 : Int))))))) (bnd (convoy_within F a0.Clear (0 : Int) (2000 : Int)) (fun (x_2 : Bool) => brk (!x_2) (some ((61 : Int))) (loopC (fun (x_3 : (Int) × (Int)) => fun x_4 => brk (decide (x_3.snd < (4 : Int))) (chk ((0 : Int) ≤ x_3.snd ∧ x_3.snd < (↑(4 : Nat) : Int)) (bnd (convoy_within F ([a0.Close.a0, a0.Close.a1, a0.Close.a2, a0.Close.a3].getD (Int.toNat x_3.snd) (0 : Int)) (0 : Int) x_3.fst) (fun (x_5 : Bool) => brk (!x_5) (some ((61 : Int))) (chk (InR (x_3.snd + (1 : Int))) (x_4 (([a0.Close.a0, a0.Close.a1, a0.Close.a2, a0.Close.a3].getD (Int.toNat x_3.snd) (0 : Int), x_3.snd + (1 : Int)))))))) (some ((0 : Int)))) (F) (((1440 : Int), (0 : Int))))))) (F) ((0 : Int))))
noncomputable def s15 (F : Nat) : CS E.G := ⟨15, [.v 12 true], [.v 0 false []], fun x => convoy_Check F x.1⟩
noncomputable def cx15 (F : Nat) : Ctx E := ⟨[s66 F, s70 F], [(69, Tryz.f69)], F, []⟩
noncomputable def h15 : Hint := (.c .n (.p (.l ⟨[.i], [16, 224, 208], [0, 6, 8, 5, 4, 3, 2, 1], [(240, .i IntKind.i64)], [], [], [], 9⟩ (.c .n (.c .n (.l ⟨[.i, .i], [480], [0], [(96, .i IntKind.i64), (496, .i IntKind.i64)], [], [], [], 9⟩ (.c .n .n)))))))
theorem e15 (F : Nat) (a0 : Convoy) : fnK (E := E) (cx15 F) Tryz.f15 gl [.v 12 true] [.v 0 false []] h15 (a0, ()) = convoy_Check F a0 := by kernel_rfl
theorem c15 (F : Nat) : CSok E gl (s15 F) := ⟨en15, by
  have h := fn_sound (E := E) (gl := gl) (cx := cx15 F) mix (allC (c66 F) (allC (c70 F) all0)) (inlC hf69 en69 inl0) gl_up gl_lt hf15 (ps := [.v 12 true]) (rs := [.v 0 false []]) (by decide) h15
  rwa [show fnK (E := E) (cx15 F) Tryz.f15 gl [.v 12 true] [.v 0 false []] h15 = (fun x : AT E.G.car [.v 12 true] => convoy_Check F x.1) from funext fun x => e15 F x.1] at h⟩
theorem hf75 : Tryz.prog.funcs[75]? = some Tryz.f75 := by kernel_rfl
theorem en75 : Proofs.Enters Tryz.prog 75 := Proofs.enters_of hf75 (by kernel_rfl) rfl
noncomputable def convoy_asked (F : Nat) (a0 : Convoy) (a1 : Int) : Option (Int) :=
  bnd (convoy_Check F a0) (fun (x : Int) => brk (x != (0 : Int)) (some (x)) (bnd (convoy_within F a1 (0 : Int) (250 : Int)) (fun (x_1 : Bool) => brk (!x_1) (some ((6 : Int))) (some ((0 : Int))))))
noncomputable def s75 (F : Nat) : CS E.G := ⟨75, [.v 12 true, .v 0 false], [.v 0 false []], fun x => convoy_asked F x.1 x.2.1⟩
noncomputable def cx75 (F : Nat) : Ctx E := ⟨[s15 F, s66 F], [], F, []⟩
noncomputable def h75 : Hint := (.c .n .n)
theorem e75 (F : Nat) (a0 : Convoy) (a1 : Int) : fnK (E := E) (cx75 F) Tryz.f75 gl [.v 12 true, .v 0 false] [.v 0 false []] h75 (a0, a1, ()) = convoy_asked F a0 a1 := by kernel_rfl
theorem c75 (F : Nat) : CSok E gl (s75 F) := ⟨en75, by
  have h := fn_sound (E := E) (gl := gl) (cx := cx75 F) mix (allC (c15 F) (allC (c66 F) all0)) inl0 gl_up gl_lt hf75 (ps := [.v 12 true, .v 0 false]) (rs := [.v 0 false []]) (by decide) h75
  rwa [show fnK (E := E) (cx75 F) Tryz.f75 gl [.v 12 true, .v 0 false] [.v 0 false []] h75 = (fun x : AT E.G.car [.v 12 true, .v 0 false] => convoy_asked F x.1 x.2.1) from funext fun x => e75 F x.1 x.2.1] at h⟩
theorem hf76 : Tryz.prog.funcs[76]? = some Tryz.f76 := by kernel_rfl
theorem en76 : Proofs.Enters Tryz.prog 76 := Proofs.enters_of hf76 (by kernel_rfl) rfl
theorem hf19 : Tryz.prog.funcs[19]? = some Tryz.f19 := by kernel_rfl
theorem en19 : Proofs.Enters Tryz.prog 19 := Proofs.enters_of hf19 (by kernel_rfl) rfl
noncomputable def convoy_Gaps (F : Nat) (a0 : Convoy) (a1 : Int) : Option ((List Int) × Int) :=
  bnd (convoy_asked F a0 a1) (fun (x : Int) => brk (x != (0 : Int)) (some (([], x))) (bnd (convoy_Member_halt F a0.Breaker a1) (fun (x_1 : Span) => loopC (fun (x_2 : (Int) × ((List (Int)) × ((Int) × (Int)))) => fun x_3 => brk (decide (x_2.fst < (↑a0.Ships.length : Int))) (chk ((0 : Int) ≤ x_2.fst ∧ x_2.fst < (↑a0.Ships.length : Int)) (bnd (convoy_Member_halt F (a0.Ships.getD (Int.toNat x_2.fst) (Member.mk (Ship.mk (0 : Int) (0 : Int) (0 : Int) (0 : Int) [] [] [] (0 : Int) (0 : Int) (0 : Int) (0 : Int)) [] (0 : Int) (0 : Int) (0 : Int))) a1) (fun (x_4 : Span) => chk (InR (x_4.Hi - x_2.snd.snd.snd)) (chk (InR (a0.Clear + if x_4.Hi - x_2.snd.snd.snd > (0 : Int) then x_4.Hi - x_2.snd.snd.snd else (0 : Int))) (chk (List.length x_2.snd.fst + [a0.Clear + if x_4.Hi - x_2.snd.snd.snd > (0 : Int) then x_4.Hi - x_2.snd.snd.snd else (0 : Int)].length ≤ (1000000 : Nat)) (chk (InR (x_2.fst + (1 : Int))) (x_3 ((x_2.fst + (1 : Int), x_2.snd.fst ++ [a0.Clear + if x_4.Hi - x_2.snd.snd.snd > (0 : Int) then x_4.Hi - x_2.snd.snd.snd else (0 : Int)], x_4.Hi, x_4.Lo))))))))) (some ((x_2.snd.fst, (0 : Int))))) (F) (((0 : Int), [], x_1.Hi, x_1.Lo)))))
noncomputable def s19 (F : Nat) : CS E.G := ⟨19, [.v 12 true, .v 0 false], [.sl 0 3, .v 0 false []], fun x => convoy_Gaps F x.1 x.2.1⟩
noncomputable def cx19 (F : Nat) : Ctx E := ⟨[s75 F, s72 F], [(76, Tryz.f76)], F, []⟩
noncomputable def h19 : Hint := (.c .n (.p (.l ⟨[.i, .l 0, .i, .i], [16, 64, 320, 336], [0, 1, 3, 5, 2, 4, 6, 7, 8], [(352, .i IntKind.i64), (48, .h 9 3 0)], [], [(8, 1, .i IntKind.i64), (8, 0, .i IntKind.i64)], [], 10⟩ .n)))
theorem e19 (F : Nat) (a0 : Convoy) (a1 : Int) : fnK (E := E) (cx19 F) Tryz.f19 gl [.v 12 true, .v 0 false] [.sl 0 3, .v 0 false []] h19 (a0, a1, ()) = convoy_Gaps F a0 a1 := by kernel_rfl
theorem c19 (F : Nat) : CSok E gl (s19 F) := ⟨en19, by
  have h := fn_sound (E := E) (gl := gl) (cx := cx19 F) mix (allC (c75 F) (allC (c72 F) all0)) (inlC hf76 en76 inl0) gl_up gl_lt hf19 (ps := [.v 12 true, .v 0 false]) (rs := [.sl 0 3, .v 0 false []]) (by decide) h19
  rwa [show fnK (E := E) (cx19 F) Tryz.f19 gl [.v 12 true, .v 0 false] [.sl 0 3, .v 0 false []] h19 = (fun x : AT E.G.car [.v 12 true, .v 0 false] => convoy_Gaps F x.1 x.2.1) from funext fun x => e19 F x.1 x.2.1] at h⟩
theorem hf79 : Tryz.prog.funcs[79]? = some Tryz.f79 := by kernel_rfl
theorem en79 : Proofs.Enters Tryz.prog 79 := Proofs.enters_of hf79 (by kernel_rfl) rfl
theorem hf22 : Tryz.prog.funcs[22]? = some Tryz.f22 := by kernel_rfl
theorem en22 : Proofs.Enters Tryz.prog 22 := Proofs.enters_of hf22 (by kernel_rfl) rfl
noncomputable def convoy_Tail (F : Nat) (a0 : Convoy) (a1 : Int) : Option (Int × Int) :=
  bnd (convoy_asked F a0 a1) (fun (x : Int) => brk (x != (0 : Int)) (some (((0 : Int), x))) (bnd (convoy_Member_halt F a0.Breaker a1) (fun (x_1 : Span) => loopC (fun (x_2 : (Int) × ((List (Int)) × ((Int) × (Int)))) => fun x_3 => brk (decide (x_2.fst < (↑a0.Ships.length : Int))) (chk ((0 : Int) ≤ x_2.fst ∧ x_2.fst < (↑a0.Ships.length : Int)) (bnd (convoy_Member_halt F (a0.Ships.getD (Int.toNat x_2.fst) (Member.mk (Ship.mk (0 : Int) (0 : Int) (0 : Int) (0 : Int) [] [] [] (0 : Int) (0 : Int) (0 : Int) (0 : Int)) [] (0 : Int) (0 : Int) (0 : Int))) a1) (fun (x_4 : Span) => chk (InR (x_4.Hi - x_2.snd.snd.snd)) (chk (InR (a0.Clear + if x_4.Hi - x_2.snd.snd.snd > (0 : Int) then x_4.Hi - x_2.snd.snd.snd else (0 : Int))) (chk (List.length x_2.snd.fst + [a0.Clear + if x_4.Hi - x_2.snd.snd.snd > (0 : Int) then x_4.Hi - x_2.snd.snd.snd else (0 : Int)].length ≤ (1000000 : Nat)) (chk (InR (x_2.fst + (1 : Int))) (x_3 ((x_2.fst + (1 : Int), x_2.snd.fst ++ [a0.Clear + if x_4.Hi - x_2.snd.snd.snd > (0 : Int) then x_4.Hi - x_2.snd.snd.snd else (0 : Int)], x_4.Hi, x_4.Lo))))))))) (loopC (fun (x_4 : (Int) × (Int)) => fun x_5 => brk (decide (x_4.snd < (↑(List.length x_2.snd.fst) : Int))) (chk ((0 : Int) ≤ x_4.snd ∧ x_4.snd < (↑(List.length x_2.snd.fst) : Int)) (chk ((0 : Int) ≤ x_4.snd ∧ x_4.snd < (↑a0.Ships.length : Int)) (chk (InR (List.getD x_2.snd.fst (Int.toNat x_4.snd) (0 : Int) + (a0.Ships.getD (Int.toNat x_4.snd) (Member.mk (Ship.mk (0 : Int) (0 : Int) (0 : Int) (0 : Int) [] [] [] (0 : Int) (0 : Int) (0 : Int) (0 : Int)) [] (0 : Int) (0 : Int) (0 : Int))).Length)) (chk (InR (x_4.fst + (List.getD x_2.snd.fst (Int.toNat x_4.snd) (0 : Int) + (a0.Ships.getD (Int.toNat x_4.snd) (Member.mk (Ship.mk (0 : Int) (0 : Int) (0 : Int) (0 : Int) [] [] [] (0 : Int) (0 : Int) (0 : Int) (0 : Int)) [] (0 : Int) (0 : Int) (0 : Int))).Length))) (chk (InR (x_4.snd + (1 : Int))) (x_5 ((x_4.fst + (List.getD x_2.snd.fst (Int.toNat x_4.snd) (0 : Int) + (a0.Ships.getD (Int.toNat x_4.snd) (Member.mk (Ship.mk (0 : Int) (0 : Int) (0 : Int) (0 : Int) [] [] [] (0 : Int) (0 : Int) (0 : Int) (0 : Int)) [] (0 : Int) (0 : Int) (0 : Int))).Length), x_4.snd + (1 : Int))))))))) (some ((x_4.fst, (0 : Int))))) (F) (((0 : Int), (0 : Int))))) (F) (((0 : Int), [], x_1.Hi, x_1.Lo)))))
noncomputable def s22 (F : Nat) : CS E.G := ⟨22, [.v 12 true, .v 0 false], [.v 0 false [], .v 0 false []], fun x => convoy_Tail F x.1 x.2.1⟩
noncomputable def cx22 (F : Nat) : Ctx E := ⟨[s75 F, s72 F], [(79, Tryz.f79), (76, Tryz.f76)], F, []⟩
noncomputable def h22 : Hint := (.c .n (.p (.p (.l ⟨[.i, .l 0, .i, .i], [16, 64, 320, 336], [0, 1, 3, 5, 2, 4, 6, 8, 9], [(352, .i IntKind.i64), (48, .h 10 3 0)], [], [(9, 1, .i IntKind.i64), (9, 0, .i IntKind.i64)], [], 11⟩ (.c .n (.l ⟨[.i, .i], [16, 128, 112], [0, 1, 3, 5, 2, 4, 6, 7, 10], [(48, .i IntKind.i64), (144, .i IntKind.i64)], [], [], [], 11⟩ .n))))))
theorem e22 (F : Nat) (a0 : Convoy) (a1 : Int) : fnK (E := E) (cx22 F) Tryz.f22 gl [.v 12 true, .v 0 false] [.v 0 false [], .v 0 false []] h22 (a0, a1, ()) = convoy_Tail F a0 a1 := by kernel_rfl
theorem c22 (F : Nat) : CSok E gl (s22 F) := ⟨en22, by
  have h := fn_sound (E := E) (gl := gl) (cx := cx22 F) mix (allC (c75 F) (allC (c72 F) all0)) (inlC hf79 en79 (inlC hf76 en76 inl0)) gl_up gl_lt hf22 (ps := [.v 12 true, .v 0 false]) (rs := [.v 0 false [], .v 0 false []]) (by decide) h22
  rwa [show fnK (E := E) (cx22 F) Tryz.f22 gl [.v 12 true, .v 0 false] [.v 0 false [], .v 0 false []] h22 = (fun x : AT E.G.car [.v 12 true, .v 0 false] => convoy_Tail F x.1 x.2.1) from funext fun x => e22 F x.1 x.2.1] at h⟩
theorem hf81 : Tryz.prog.funcs[81]? = some Tryz.f81 := by kernel_rfl
theorem en81 : Proofs.Enters Tryz.prog 81 := Proofs.enters_of hf81 (by kernel_rfl) rfl
theorem hf24 : Tryz.prog.funcs[24]? = some Tryz.f24 := by kernel_rfl
theorem en24 : Proofs.Enters Tryz.prog 24 := Proofs.enters_of hf24 (by kernel_rfl) rfl
noncomputable def convoy_Open (F : Nat) (a0 : Convoy) (a1 : Int) (a2 : Int) : Option (Int × Int) :=
  bnd (convoy_asked F a0 a1) (fun (x : Int) => brk (x != (0 : Int)) (some (((0 : Int), x))) (bnd (convoy_within F a2 (0 : Int) (3 : Int)) (fun (x_1 : Bool) => brk (!x_1) (some (((0 : Int), (6 : Int)))) (chk ((0 : Int) ≤ a2 ∧ a2 < (↑(4 : Nat) : Int)) (chk (InR ((60 : Int) * [a0.Close.a0, a0.Close.a1, a0.Close.a2, a0.Close.a3].getD a2.toNat (0 : Int))) (bnd (convoy_way F a1 ((60 : Int) * [a0.Close.a0, a0.Close.a1, a0.Close.a2, a0.Close.a3].getD a2.toNat (0 : Int))) (fun (x_2 : (Int) × (Int)) => some ((x_2.fst, (0 : Int))))))))))
noncomputable def s24 (F : Nat) : CS E.G := ⟨24, [.v 12 true, .v 0 false, .v 0 false], [.v 0 false [], .v 0 false []], fun x => convoy_Open F x.1 x.2.1 x.2.2.1⟩
noncomputable def cx24 (F : Nat) : Ctx E := ⟨[s66 F, s75 F, s67 F], [(81, Tryz.f81)], F, []⟩
noncomputable def h24 : Hint := (.c .n (.c .n (.p .n)))
theorem e24 (F : Nat) (a0 : Convoy) (a1 : Int) (a2 : Int) : fnK (E := E) (cx24 F) Tryz.f24 gl [.v 12 true, .v 0 false, .v 0 false] [.v 0 false [], .v 0 false []] h24 (a0, a1, a2, ()) = convoy_Open F a0 a1 a2 := by kernel_rfl
theorem c24 (F : Nat) : CSok E gl (s24 F) := ⟨en24, by
  have h := fn_sound (E := E) (gl := gl) (cx := cx24 F) mix (allC (c66 F) (allC (c75 F) (allC (c67 F) all0))) (inlC hf81 en81 inl0) gl_up gl_lt hf24 (ps := [.v 12 true, .v 0 false, .v 0 false]) (rs := [.v 0 false [], .v 0 false []]) (by decide) h24
  rwa [show fnK (E := E) (cx24 F) Tryz.f24 gl [.v 12 true, .v 0 false, .v 0 false] [.v 0 false [], .v 0 false []] h24 = (fun x : AT E.G.car [.v 12 true, .v 0 false, .v 0 false] => convoy_Open F x.1 x.2.1 x.2.2.1) from funext fun x => e24 F x.1 x.2.1 x.2.2.1] at h⟩
theorem hf27 : Tryz.prog.funcs[27]? = some Tryz.f27 := by kernel_rfl
theorem en27 : Proofs.Enters Tryz.prog 27 := Proofs.enters_of hf27 (by kernel_rfl) rfl
noncomputable def convoy_Rest (F : Nat) (a0 : Convoy) (a1 : Int) (a2 : List Int) (a3 : Int) (a4 : List Int) : Option ((List Int) × Int) :=
  bnd (convoy_asked F a0 a1) (fun (x : Int) => brk (x != (0 : Int)) (some (([], x))) (bnd (brk (!(↑a2.length : Int) != (↑a0.Ships.length : Int)) (convoy_within F a3 (0 : Int) (↑a0.Ships.length : Int)) (some false)) (fun (x_1 : Bool) => chk ((!((↑a2.length : Int) != (↑a0.Ships.length : Int) || !x_1)) = true → InR ((↑a0.Ships.length : Int) - a3)) (chk ((!((↑a2.length : Int) != (↑a0.Ships.length : Int) || !x_1)) = true → InR ((↑a0.Ships.length : Int) - a3 + (1 : Int))) (brk ((↑a2.length : Int) != (↑a0.Ships.length : Int) || !x_1 || (↑a4.length : Int) != (↑a0.Ships.length : Int) - a3 + (1 : Int)) (some (([], (1 : Int)))) (loopC (fun (x_2 : Int) => fun x_3 => brk (decide (x_2 < (↑a2.length : Int))) (chk ((0 : Int) ≤ x_2 ∧ x_2 < (↑a2.length : Int)) (bnd (convoy_within F (a2.getD (Int.toNat x_2) (0 : Int)) (0 : Int) (1000000 : Int)) (fun (x_4 : Bool) => brk (!x_4) (some (([], (6 : Int)))) (chk (InR (x_2 + (1 : Int))) (x_3 (x_2 + (1 : Int))))))) (chk ([a0.Breaker].length + a0.Ships.length ≤ (1000000 : Nat)) (chk ((0 : Int) ≤ a3 ∧ a3 ≤ (↑([a0.Breaker] ++ a0.Ships).length : Int) ∧ (↑([a0.Breaker] ++ a0.Ships).length : Int) ≤ (↑([a0.Breaker] ++ a0.Ships).length : Int)) (loopC (fun (x_4 : Int) => fun x_5 => brk (decide (x_4 < (↑a4.length : Int))) (chk ((0 : Int) ≤ x_4 ∧ x_4 < (↑a4.length : Int)) (chk ((0 : Int) ≤ x_4 ∧ x_4 < (↑([a0.Breaker] ++ a0.Ships).length : Int) - a3) (bnd (convoy_Member_halt F (([a0.Breaker] ++ a0.Ships).getD (a3 + x_4).toNat (Member.mk (Ship.mk (0 : Int) (0 : Int) (0 : Int) (0 : Int) [] [] [] (0 : Int) (0 : Int) (0 : Int) (0 : Int)) [] (0 : Int) (0 : Int) (0 : Int))) a1) (fun (x_6 : Span) => brk (decide (a4.getD (Int.toNat x_4) (0 : Int) < x_6.Lo) || decide (a4.getD (Int.toNat x_4) (0 : Int) > x_6.Hi)) (some (([], (61 : Int)))) (chk (InR (x_4 + (1 : Int))) (x_5 (x_4 + (1 : Int)))))))) (loopC (fun (x_6 : (Int) × (List (Int))) => fun x_7 => brk (decide (x_6.fst < (↑a4.length : Int))) (chk (InR (a3 + x_6.fst)) (chk (InR (a3 + x_6.fst - (1 : Int))) (chk ((0 : Int) ≤ a3 + x_6.fst - (1 : Int) ∧ a3 + x_6.fst - (1 : Int) < (↑a2.length : Int)) (chk (InR (x_6.fst - (1 : Int))) (chk ((0 : Int) ≤ x_6.fst - (1 : Int) ∧ x_6.fst - (1 : Int) < (↑a4.length : Int)) (chk (InR (a2.getD (a3 + x_6.fst - (1 : Int)).toNat (0 : Int) + a4.getD (x_6.fst - (1 : Int)).toNat (0 : Int))) (chk ((0 : Int) ≤ x_6.fst ∧ x_6.fst < (↑a4.length : Int)) (chk (InR (a2.getD (a3 + x_6.fst - (1 : Int)).toNat (0 : Int) + a4.getD (x_6.fst - (1 : Int)).toNat (0 : Int) - a4.getD (Int.toNat x_6.fst) (0 : Int))) (chk (List.length x_6.snd + [a2.getD (a3 + x_6.fst - (1 : Int)).toNat (0 : Int) + a4.getD (x_6.fst - (1 : Int)).toNat (0 : Int) - a4.getD (Int.toNat x_6.fst) (0 : Int)].length ≤ (1000000 : Nat)) (chk (InR (x_6.fst + (1 : Int))) (x_7 ((x_6.fst + (1 : Int), x_6.snd ++ [a2.getD (a3 + x_6.fst - (1 : Int)).toNat (0 : Int) + a4.getD (x_6.fst - (1 : Int)).toNat (0 : Int) - a4.getD (Int.toNat x_6.fst) (0 : Int)]))))))))))))) (some ((x_6.snd, (0 : Int))))) (F) (((1 : Int), [])))) (F) ((0 : Int)))))) (F) ((0 : Int))))))))
noncomputable def s27 (F : Nat) : CS E.G := ⟨27, [.v 12 true, .v 0 false, .sl 0, .v 0 false, .sl 0], [.sl 0 3, .v 0 false []], fun x => convoy_Rest F x.1 x.2.1 x.2.2.1 x.2.2.2.1 x.2.2.2.2.1⟩
noncomputable def cx27 (F : Nat) : Ctx E := ⟨[s66 F, s72 F, s75 F], [(69, Tryz.f69)], F, []⟩
noncomputable def h27 : Hint := (.c .n (.c .n (.l ⟨[.i], [16, 32, 64, 832, 48, 80, 848], [0, 6, 7, 8, 5, 4, 3, 2, 1], [(864, .i IntKind.i64)], [], [], [], 9⟩ (.c .n (.p (.l ⟨[.i], [16, 32, 64, 1056, 48, 1040, 240], [0, 6, 7, 10], [(1072, .i IntKind.i64)], [], [], [], 11⟩ (.c .n (.l ⟨[.i, .l 0], [32, 64, 48], [0, 6, 7], [(320, .i IntKind.i64), (304, .h 11 3 0)], [], [], [], 12⟩ .n))))))))
theorem e27 (F : Nat) (a0 : Convoy) (a1 : Int) (a2 : List Int) (a3 : Int) (a4 : List Int) : fnK (E := E) (cx27 F) Tryz.f27 gl [.v 12 true, .v 0 false, .sl 0, .v 0 false, .sl 0] [.sl 0 3, .v 0 false []] h27 (a0, a1, a2, a3, a4, ()) = convoy_Rest F a0 a1 a2 a3 a4 := by kernel_rfl
theorem c27 (F : Nat) : CSok E gl (s27 F) := ⟨en27, by
  have h := fn_sound (E := E) (gl := gl) (cx := cx27 F) mix (allC (c66 F) (allC (c72 F) (allC (c75 F) all0))) (inlC hf69 en69 inl0) gl_up gl_lt hf27 (ps := [.v 12 true, .v 0 false, .sl 0, .v 0 false, .sl 0]) (rs := [.sl 0 3, .v 0 false []]) (by decide) h27
  rwa [show fnK (E := E) (cx27 F) Tryz.f27 gl [.v 12 true, .v 0 false, .sl 0, .v 0 false, .sl 0] [.sl 0 3, .v 0 false []] h27 = (fun x : AT E.G.car [.v 12 true, .v 0 false, .sl 0, .v 0 false, .sl 0] => convoy_Rest F x.1 x.2.1 x.2.2.1 x.2.2.2.1 x.2.2.2.2.1) from funext fun x => e27 F x.1 x.2.1 x.2.2.1 x.2.2.2.1 x.2.2.2.2.1] at h⟩
theorem hf92 : Tryz.prog.funcs[92]? = some Tryz.f92 := by kernel_rfl
theorem en92 : Proofs.Enters Tryz.prog 92 := Proofs.enters_of hf92 (by kernel_rfl) rfl
theorem hf86 : Tryz.prog.funcs[86]? = some Tryz.f86 := by kernel_rfl
theorem en86 : Proofs.Enters Tryz.prog 86 := Proofs.enters_of hf86 (by kernel_rfl) rfl
noncomputable def convoy_Convoy_fastest (F : Nat) (a0 : Convoy) (a1 : Int) (a2 : Int) : Option (Int) :=
  loopC (fun (x : Int) => fun x_1 => brk (decide (x ≥ (10 : Int))) (bnd (convoy_Member_halt F a0.Breaker x) (fun (x_2 : Span) => loopC (fun (x_3 : (Int) × ((List (Int)) × ((Int) × (Int)))) => fun x_4 => brk (decide (x_3.fst < (↑a0.Ships.length : Int))) (chk ((0 : Int) ≤ x_3.fst ∧ x_3.fst < (↑a0.Ships.length : Int)) (bnd (convoy_Member_halt F (a0.Ships.getD (Int.toNat x_3.fst) (Member.mk (Ship.mk (0 : Int) (0 : Int) (0 : Int) (0 : Int) [] [] [] (0 : Int) (0 : Int) (0 : Int) (0 : Int)) [] (0 : Int) (0 : Int) (0 : Int))) x) (fun (x_5 : Span) => chk (InR (x_5.Hi - x_3.snd.snd.snd)) (chk (InR (a0.Clear + if x_5.Hi - x_3.snd.snd.snd > (0 : Int) then x_5.Hi - x_3.snd.snd.snd else (0 : Int))) (chk (List.length x_3.snd.fst + [a0.Clear + if x_5.Hi - x_3.snd.snd.snd > (0 : Int) then x_5.Hi - x_3.snd.snd.snd else (0 : Int)].length ≤ (1000000 : Nat)) (chk (InR (x_3.fst + (1 : Int))) (x_4 ((x_3.fst + (1 : Int), x_3.snd.fst ++ [a0.Clear + if x_5.Hi - x_3.snd.snd.snd > (0 : Int) then x_5.Hi - x_3.snd.snd.snd else (0 : Int)], x_5.Hi, x_5.Lo))))))))) (loopC (fun (x_5 : (Int) × (Int)) => fun x_6 => brk (decide (x_5.snd < (↑(List.length x_3.snd.fst) : Int))) (chk ((0 : Int) ≤ x_5.snd ∧ x_5.snd < (↑(List.length x_3.snd.fst) : Int)) (chk ((0 : Int) ≤ x_5.snd ∧ x_5.snd < (↑a0.Ships.length : Int)) (chk (InR (List.getD x_3.snd.fst (Int.toNat x_5.snd) (0 : Int) + (a0.Ships.getD (Int.toNat x_5.snd) (Member.mk (Ship.mk (0 : Int) (0 : Int) (0 : Int) (0 : Int) [] [] [] (0 : Int) (0 : Int) (0 : Int) (0 : Int)) [] (0 : Int) (0 : Int) (0 : Int))).Length)) (chk (InR (x_5.fst + (List.getD x_3.snd.fst (Int.toNat x_5.snd) (0 : Int) + (a0.Ships.getD (Int.toNat x_5.snd) (Member.mk (Ship.mk (0 : Int) (0 : Int) (0 : Int) (0 : Int) [] [] [] (0 : Int) (0 : Int) (0 : Int) (0 : Int)) [] (0 : Int) (0 : Int) (0 : Int))).Length))) (chk (InR (x_5.snd + (1 : Int))) (x_6 ((x_5.fst + (List.getD x_3.snd.fst (Int.toNat x_5.snd) (0 : Int) + (a0.Ships.getD (Int.toNat x_5.snd) (Member.mk (Ship.mk (0 : Int) (0 : Int) (0 : Int) (0 : Int) [] [] [] (0 : Int) (0 : Int) (0 : Int) (0 : Int)) [] (0 : Int) (0 : Int) (0 : Int))).Length), x_5.snd + (1 : Int))))))))) (chk ((0 : Int) ≤ a2 ∧ a2 < (↑(4 : Nat) : Int)) (chk (InR ((60 : Int) * [a0.Close.a0, a0.Close.a1, a0.Close.a2, a0.Close.a3].getD a2.toNat (0 : Int))) (bnd (convoy_way F x ((60 : Int) * [a0.Close.a0, a0.Close.a1, a0.Close.a2, a0.Close.a3].getD a2.toNat (0 : Int))) (fun (x_7 : (Int) × (Int)) => brk (decide (x_5.fst ≤ x_7.fst)) (some (x)) (chk (InR (x - (1 : Int))) (x_1 (x - (1 : Int))))))))) (F) (((0 : Int), (0 : Int))))) (F) (((0 : Int), [], x_2.Hi, x_2.Lo)))) (some ((0 : Int)))) (F) (a1)
noncomputable def s86 (F : Nat) : CS E.G := ⟨86, [.ptr 12, .v 0 false, .v 0 false], [.v 0 false []], fun x => convoy_Convoy_fastest F x.1 x.2.1 x.2.2.1⟩
noncomputable def cx86 (F : Nat) : Ctx E := ⟨[s72 F, s67 F], [(92, Tryz.f92), (79, Tryz.f79), (76, Tryz.f76), (81, Tryz.f81)], F, []⟩
noncomputable def h86 : Hint := (.l ⟨[.i], [0, 32], [0, 1], [(112, .i IntKind.i64)], [], [], [], 2⟩ (.c (.p (.p (.p (.l ⟨[.i, .l 0, .i, .i], [16, 64, 320, 336], [0, 1, 4, 9, 10], [(352, .i IntKind.i64), (48, .h 11 3 0)], [], [(9, 1, .i IntKind.i64), (9, 0, .i IntKind.i64)], [], 12⟩ (.c .n (.l ⟨[.i, .i], [16, 128, 112], [0, 1, 3, 11], [(48, .i IntKind.i64), (144, .i IntKind.i64)], [], [], [], 12⟩ (.c .n (.p .n)))))))) .n))
theorem e86 (F : Nat) (a0 : Convoy) (a1 : Int) (a2 : Int) : fnK (E := E) (cx86 F) Tryz.f86 gl [.ptr 12, .v 0 false, .v 0 false] [.v 0 false []] h86 (a0, a1, a2, ()) = convoy_Convoy_fastest F a0 a1 a2 := by kernel_rfl
theorem c86 (F : Nat) : CSok E gl (s86 F) := ⟨en86, by
  have h := fn_sound (E := E) (gl := gl) (cx := cx86 F) mix (allC (c72 F) (allC (c67 F) all0)) (inlC hf92 en92 (inlC hf79 en79 (inlC hf76 en76 (inlC hf81 en81 inl0)))) gl_up gl_lt hf86 (ps := [.ptr 12, .v 0 false, .v 0 false]) (rs := [.v 0 false []]) (by decide) h86
  rwa [show fnK (E := E) (cx86 F) Tryz.f86 gl [.ptr 12, .v 0 false, .v 0 false] [.v 0 false []] h86 = (fun x : AT E.G.car [.ptr 12, .v 0 false, .v 0 false] => convoy_Convoy_fastest F x.1 x.2.1 x.2.2.1) from funext fun x => e86 F x.1 x.2.1 x.2.2.1] at h⟩
theorem hf131 : Tryz.prog.funcs[131]? = some Tryz.f131 := by kernel_rfl
theorem en131 : Proofs.Enters Tryz.prog 131 := Proofs.enters_of hf131 (by kernel_rfl) rfl
noncomputable def ice_Cell_spans (F : Nat) (a0 : Cell) : Option (Spans) :=
  some (Spans.mk a0.Conc a0.Thick a0.Ridge a0.Press)
noncomputable def s131 (F : Nat) : CS E.G := ⟨131, [.v 20 true], [.v 30 true []], fun x => ice_Cell_spans F x.1⟩
noncomputable def cx131 (F : Nat) : Ctx E := ⟨[], [], F, []⟩
noncomputable def h131 : Hint := .n
theorem e131 (F : Nat) (a0 : Cell) : fnK (E := E) (cx131 F) Tryz.f131 gl [.v 20 true] [.v 30 true []] h131 (a0, ()) = ice_Cell_spans F a0 := by kernel_rfl
theorem c131 (F : Nat) : CSok E gl (s131 F) := ⟨en131, by
  have h := fn_sound (E := E) (gl := gl) (cx := cx131 F) mix all0 inl0 gl_up gl_lt hf131 (ps := [.v 20 true]) (rs := [.v 30 true []]) (by decide) h131
  rwa [show fnK (E := E) (cx131 F) Tryz.f131 gl [.v 20 true] [.v 30 true []] h131 = (fun x : AT E.G.car [.v 20 true] => ice_Cell_spans F x.1) from funext fun x => e131 F x.1] at h⟩
theorem hf159 : Tryz.prog.funcs[159]? = some Tryz.f159 := by kernel_rfl
theorem en159 : Proofs.Enters Tryz.prog 159 := Proofs.enters_of hf159 (by kernel_rfl) rfl
noncomputable def ice_most (F : Nat) : Option (Numbers) :=
  some (Numbers.mk (100 : Int) (400 : Int) (100 : Int) (3 : Int))
noncomputable def s159 (F : Nat) : CS E.G := ⟨159, [], [.v 11 true []], fun x => ice_most F⟩
noncomputable def cx159 (F : Nat) : Ctx E := ⟨[], [], F, []⟩
noncomputable def h159 : Hint := .n
theorem e159 (F : Nat) : fnK (E := E) (cx159 F) Tryz.f159 gl [] [.v 11 true []] h159 (()) = ice_most F := by kernel_rfl
theorem c159 (F : Nat) : CSok E gl (s159 F) := ⟨en159, by
  have h := fn_sound (E := E) (gl := gl) (cx := cx159 F) mix all0 inl0 gl_up gl_lt hf159 (ps := []) (rs := [.v 11 true []]) (by decide) h159
  rwa [show fnK (E := E) (cx159 F) Tryz.f159 gl [] [.v 11 true []] h159 = (fun x : AT E.G.car [] => ice_most F) from funext fun x => e159 F] at h⟩
theorem hf132 : Tryz.prog.funcs[132]? = some Tryz.f132 := by kernel_rfl
theorem en132 : Proofs.Enters Tryz.prog 132 := Proofs.enters_of hf132 (by kernel_rfl) rfl
theorem hf160 : Tryz.prog.funcs[160]? = some Tryz.f160 := by kernel_rfl
theorem en160 : Proofs.Enters Tryz.prog 160 := Proofs.enters_of hf160 (by kernel_rfl) rfl
noncomputable def ice_in (F : Nat) (a0 : Int) (a1 : Int) (a2 : Int) : Option (Bool) :=
  some (decide (a0 ≥ a1) && decide (a0 ≤ a2))
noncomputable def s160 (F : Nat) : CS E.G := ⟨160, [.v 0 false, .v 0 false, .v 0 false], [.v 1 false []], fun x => ice_in F x.1 x.2.1 x.2.2.1⟩
noncomputable def cx160 (F : Nat) : Ctx E := ⟨[], [], F, []⟩
noncomputable def h160 : Hint := .n
theorem e160 (F : Nat) (a0 : Int) (a1 : Int) (a2 : Int) : fnK (E := E) (cx160 F) Tryz.f160 gl [.v 0 false, .v 0 false, .v 0 false] [.v 1 false []] h160 (a0, a1, a2, ()) = ice_in F a0 a1 a2 := by kernel_rfl
theorem c160 (F : Nat) : CSok E gl (s160 F) := ⟨en160, by
  have h := fn_sound (E := E) (gl := gl) (cx := cx160 F) mix all0 inl0 gl_up gl_lt hf160 (ps := [.v 0 false, .v 0 false, .v 0 false]) (rs := [.v 1 false []]) (by decide) h160
  rwa [show fnK (E := E) (cx160 F) Tryz.f160 gl [.v 0 false, .v 0 false, .v 0 false] [.v 1 false []] h160 = (fun x : AT E.G.car [.v 0 false, .v 0 false, .v 0 false] => ice_in F x.1 x.2.1 x.2.2.1) from funext fun x => e160 F x.1 x.2.1 x.2.2.1] at h⟩
theorem hf134 : Tryz.prog.funcs[134]? = some Tryz.f134 := by kernel_rfl
theorem en134 : Proofs.Enters Tryz.prog 134 := Proofs.enters_of hf134 (by kernel_rfl) rfl
noncomputable def ice_right (F : Nat) (a0 : Span) (a1 : Int) : Option (Bool) :=
  bnd (ice_most F) (fun (x : Numbers) => chk ((0 : Int) ≤ a1 ∧ a1 < (↑(4 : Nat) : Int)) (bnd (ice_in F a0.Lo (0 : Int) ([x.a0, x.a1, x.a2, x.a3].getD a1.toNat (0 : Int))) (fun (x_1 : Bool) => bnd (brk x_1 (ice_most F) (some (Numbers.mk (0 : Int) (0 : Int) (0 : Int) (0 : Int)))) (fun (x_2 : Numbers) => chk (x_1 = true → (0 : Int) ≤ a1 ∧ a1 < (↑(4 : Nat) : Int)) (bnd (brk x_1 (ice_in F a0.Hi a0.Lo ([x_2.a0, x_2.a1, x_2.a2, x_2.a3].getD a1.toNat (0 : Int))) (some false)) (fun (x_3 : Bool) => some (x_1 && x_3)))))))
noncomputable def s134 (F : Nat) : CS E.G := ⟨134, [.v 19 true, .v 0 false], [.v 1 false []], fun x => ice_right F x.1 x.2.1⟩
noncomputable def cx134 (F : Nat) : Ctx E := ⟨[s159 F, s160 F], [], F, []⟩
noncomputable def h134 : Hint := .n
theorem e134 (F : Nat) (a0 : Span) (a1 : Int) : fnK (E := E) (cx134 F) Tryz.f134 gl [.v 19 true, .v 0 false] [.v 1 false []] h134 (a0, a1, ()) = ice_right F a0 a1 := by kernel_rfl
theorem c134 (F : Nat) : CSok E gl (s134 F) := ⟨en134, by
  have h := fn_sound (E := E) (gl := gl) (cx := cx134 F) mix (allC (c159 F) (allC (c160 F) all0)) inl0 gl_up gl_lt hf134 (ps := [.v 19 true, .v 0 false]) (rs := [.v 1 false []]) (by decide) h134
  rwa [show fnK (E := E) (cx134 F) Tryz.f134 gl [.v 19 true, .v 0 false] [.v 1 false []] h134 = (fun x : AT E.G.car [.v 19 true, .v 0 false] => ice_right F x.1 x.2.1) from funext fun x => e134 F x.1 x.2.1] at h⟩
theorem hf133 : Tryz.prog.funcs[133]? = some Tryz.f133 := by kernel_rfl
theorem en133 : Proofs.Enters Tryz.prog 133 := Proofs.enters_of hf133 (by kernel_rfl) rfl
theorem hf85 : Tryz.prog.funcs[85]? = some Tryz.f85 := by kernel_rfl
theorem en85 : Proofs.Enters Tryz.prog 85 := Proofs.enters_of hf85 (by kernel_rfl) rfl
noncomputable def ice_CheckCell (F : Nat) (a0 : Cell) : Option (Int) :=
  bnd (ice_Cell_spans F a0) (fun (x : Spans) => join (F) (fun (x_1 : Bool) => brk (!x_1) (some ((20 : Int))) (some ((0 : Int)))) (fun x_1 => bnd (ice_most F) (fun (x_2 : Numbers) => loopC (fun (x_3 : Int) => fun x_4 => brk (decide (x_3 < (4 : Int))) (chk ((0 : Int) ≤ x_3 ∧ x_3 < (↑(4 : Nat) : Int)) (bnd (ice_right F ([x.a0, x.a1, x.a2, x.a3].getD (Int.toNat x_3) (Span.mk (0 : Int) (0 : Int))) x_3) (fun (x_5 : Bool) => brk (!x_5) (x_1 (false)) (chk (InR (x_3 + (1 : Int))) (x_4 (x_3 + (1 : Int))))))) (x_1 (true))) (F) ((0 : Int)))))
noncomputable def s85 (F : Nat) : CS E.G := ⟨85, [.v 20 true], [.v 0 false []], fun x => ice_CheckCell F x.1⟩
noncomputable def cx85 (F : Nat) : Ctx E := ⟨[s131 F, s159 F, s134 F], [(132, Tryz.f132), (133, Tryz.f133)], F, []⟩
noncomputable def h85 : Hint := (.w ⟨[.b], [], [0, 2], [(0, .b)], [], [], [], 3⟩ (.l ⟨[.i], [0], [0, 2], [(80, .i IntKind.i64)], [], [], [], 3⟩ (.c (.p .n) .n)) .n)
theorem e85 (F : Nat) (a0 : Cell) : fnK (E := E) (cx85 F) Tryz.f85 gl [.v 20 true] [.v 0 false []] h85 (a0, ()) = ice_CheckCell F a0 := by kernel_rfl
theorem c85 (F : Nat) : CSok E gl (s85 F) := ⟨en85, by
  have h := fn_sound (E := E) (gl := gl) (cx := cx85 F) mix (allC (c131 F) (allC (c159 F) (allC (c134 F) all0))) (inlC hf132 en132 (inlC hf133 en133 inl0)) gl_up gl_lt hf85 (ps := [.v 20 true]) (rs := [.v 0 false []]) (by decide) h85
  rwa [show fnK (E := E) (cx85 F) Tryz.f85 gl [.v 20 true] [.v 0 false []] h85 = (fun x : AT E.G.car [.v 20 true] => ice_CheckCell F x.1) from funext fun x => e85 F x.1] at h⟩
theorem hf161 : Tryz.prog.funcs[161]? = some Tryz.f161 := by kernel_rfl
theorem en161 : Proofs.Enters Tryz.prog 161 := Proofs.enters_of hf161 (by kernel_rfl) rfl
noncomputable def hull_met (F : Nat) (a0 : Ship) (a1 : Cell) : Option (Int) :=
  bnd (hull_Check F a0) (fun (x : Int) => brk (x != (0 : Int)) (some (x)) (bnd (ice_CheckCell F a1) (fun (x_1 : Int) => some (x_1))))
noncomputable def s161 (F : Nat) : CS E.G := ⟨161, [.v 8 true, .v 20 true], [.v 0 false []], fun x => hull_met F x.1 x.2.1⟩
noncomputable def cx161 (F : Nat) : Ctx E := ⟨[s85 F, s123 F], [], F, []⟩
noncomputable def h161 : Hint := .n
theorem e161 (F : Nat) (a0 : Ship) (a1 : Cell) : fnK (E := E) (cx161 F) Tryz.f161 gl [.v 8 true, .v 20 true] [.v 0 false []] h161 (a0, a1, ()) = hull_met F a0 a1 := by kernel_rfl
theorem c161 (F : Nat) : CSok E gl (s161 F) := ⟨en161, by
  have h := fn_sound (E := E) (gl := gl) (cx := cx161 F) mix (allC (c85 F) (allC (c123 F) all0)) inl0 gl_up gl_lt hf161 (ps := [.v 8 true, .v 20 true]) (rs := [.v 0 false []]) (by decide) h161
  rwa [show fnK (E := E) (cx161 F) Tryz.f161 gl [.v 8 true, .v 20 true] [.v 0 false []] h161 = (fun x : AT E.G.car [.v 8 true, .v 20 true] => hull_met F x.1 x.2.1) from funext fun x => e161 F x.1 x.2.1] at h⟩
theorem hf179 : Tryz.prog.funcs[179]? = some Tryz.f179 := by kernel_rfl
theorem en179 : Proofs.Enters Tryz.prog 179 := Proofs.enters_of hf179 (by kernel_rfl) rfl
noncomputable def hull_last (F : Nat) (a0 : Cell) : Option (Ice) :=
  some (Ice.mk a0.Conc.Hi a0.Thick.Hi a0.Ridge.Hi a0.Press.Hi)
noncomputable def s179 (F : Nat) : CS E.G := ⟨179, [.v 20 true], [.v 31 true []], fun x => hull_last F x.1⟩
noncomputable def cx179 (F : Nat) : Ctx E := ⟨[], [], F, []⟩
noncomputable def h179 : Hint := .n
theorem e179 (F : Nat) (a0 : Cell) : fnK (E := E) (cx179 F) Tryz.f179 gl [.v 20 true] [.v 31 true []] h179 (a0, ()) = hull_last F a0 := by kernel_rfl
theorem c179 (F : Nat) : CSok E gl (s179 F) := ⟨en179, by
  have h := fn_sound (E := E) (gl := gl) (cx := cx179 F) mix all0 inl0 gl_up gl_lt hf179 (ps := [.v 20 true]) (rs := [.v 31 true []]) (by decide) h179
  rwa [show fnK (E := E) (cx179 F) Tryz.f179 gl [.v 20 true] [.v 31 true []] h179 = (fun x : AT E.G.car [.v 20 true] => hull_last F x.1) from funext fun x => e179 F x.1] at h⟩
theorem hf200 : Tryz.prog.funcs[200]? = some Tryz.f200 := by kernel_rfl
theorem en200 : Proofs.Enters Tryz.prog 200 := Proofs.enters_of hf200 (by kernel_rfl) rfl
theorem hf212 : Tryz.prog.funcs[212]? = some Tryz.f212 := by kernel_rfl
theorem en212 : Proofs.Enters Tryz.prog 212 := Proofs.enters_of hf212 (by kernel_rfl) rfl
noncomputable def hull_Ship_thrust (F : Nat) (a0 : Ship) (a1 : Int) : Option (Int) :=
  bnd (hull_value F a0.Thrust a1) (fun (x : (Int) × (Int)) => chk (((0 : Int) ≤ x.fst ∧ x.fst ≤ (9223372036854775807 : Int)) ∧ (0 : Int) < x.snd) (some (x.fst / x.snd)))
noncomputable def s212 (F : Nat) : CS E.G := ⟨212, [.ptr 8, .v 0 false], [.v 0 false []], fun x => hull_Ship_thrust F x.1 x.2.1⟩
noncomputable def cx212 (F : Nat) : Ctx E := ⟨[s155 F], [], F, []⟩
noncomputable def h212 : Hint := .n
theorem e212 (F : Nat) (a0 : Ship) (a1 : Int) : fnK (E := E) (cx212 F) Tryz.f212 gl [.ptr 8, .v 0 false] [.v 0 false []] h212 (a0, a1, ()) = hull_Ship_thrust F a0 a1 := by kernel_rfl
theorem c212 (F : Nat) : CSok E gl (s212 F) := ⟨en212, by
  have h := fn_sound (E := E) (gl := gl) (cx := cx212 F) mix (allC (c155 F) all0) inl0 gl_up gl_lt hf212 (ps := [.ptr 8, .v 0 false]) (rs := [.v 0 false []]) (by decide) h212
  rwa [show fnK (E := E) (cx212 F) Tryz.f212 gl [.ptr 8, .v 0 false] [.v 0 false []] h212 = (fun x : AT E.G.car [.ptr 8, .v 0 false] => hull_Ship_thrust F x.1 x.2.1) from funext fun x => e212 F x.1 x.2.1] at h⟩
theorem hf213 : Tryz.prog.funcs[213]? = some Tryz.f213 := by kernel_rfl
theorem en213 : Proofs.Enters Tryz.prog 213 := Proofs.enters_of hf213 (by kernel_rfl) rfl
theorem hf201 : Tryz.prog.funcs[201]? = some Tryz.f201 := by kernel_rfl
theorem en201 : Proofs.Enters Tryz.prog 201 := Proofs.enters_of hf201 (by kernel_rfl) rfl
theorem hf180 : Tryz.prog.funcs[180]? = some Tryz.f180 := by kernel_rfl
theorem en180 : Proofs.Enters Tryz.prog 180 := Proofs.enters_of hf180 (by kernel_rfl) rfl
theorem hf214 : Tryz.prog.funcs[214]? = some Tryz.f214 := by kernel_rfl
theorem en214 : Proofs.Enters Tryz.prog 214 := Proofs.enters_of hf214 (by kernel_rfl) rfl
noncomputable def hull_load (F : Nat) (a0 : Ice) (a1 : Int) (a2 : Bool) : Option (Int) :=
  chk (InR ((100 : Int) + a1)) (chk (InR (a0.Thick * ((100 : Int) + a1))) (join (F) (fun (x : (Int) × (Int)) => brk (a0.Conc == (0 : Int)) (some ((0 : Int))) (chk (InR ((300 : Int) * x.fst)) (chk (InR (x.snd + (300 : Int) * x.fst)) (chk (InR ((2000 : Int) * a0.Press)) (chk (InR (x.snd + (300 : Int) * x.fst + (2000 : Int) * a0.Press)) (some (x.snd + (300 : Int) * x.fst + (2000 : Int) * a0.Press))))))) (fun x => brk (a2) (chk (InR (a0.Thick * ((100 : Int) + a1) + (1 : Int))) (chk ((0 : Int) ≤ a0.Thick * ((100 : Int) + a1) + (1 : Int) ∧ a0.Thick * ((100 : Int) + a1) + (1 : Int) ≤ (9223372036854775807 : Int)) (x (((0 : Int), (a0.Thick * ((100 : Int) + a1) + (1 : Int)) / (2 : Int)))))) (x ((a0.Ridge, a0.Thick * ((100 : Int) + a1)))))))
noncomputable def s214 (F : Nat) : CS E.G := ⟨214, [.v 31 true, .v 0 false, .v 1 false], [.v 0 false []], fun x => hull_load F x.1 x.2.1 x.2.2.1⟩
noncomputable def cx214 (F : Nat) : Ctx E := ⟨[], [], F, []⟩
noncomputable def h214 : Hint := (.k (.k (.j ⟨[.i, .i], [48], [0, 1], [(128, .i IntKind.i64), (112, .i IntKind.i64)], [], [], [], 2⟩ .n .n)))
theorem e214 (F : Nat) (a0 : Ice) (a1 : Int) (a2 : Bool) : fnK (E := E) (cx214 F) Tryz.f214 gl [.v 31 true, .v 0 false, .v 1 false] [.v 0 false []] h214 (a0, a1, a2, ()) = hull_load F a0 a1 a2 := by kernel_rfl
theorem c214 (F : Nat) : CSok E gl (s214 F) := ⟨en214, by
  have h := fn_sound (E := E) (gl := gl) (cx := cx214 F) mix all0 inl0 gl_up gl_lt hf214 (ps := [.v 31 true, .v 0 false, .v 1 false]) (rs := [.v 0 false []]) (by decide) h214
  rwa [show fnK (E := E) (cx214 F) Tryz.f214 gl [.v 31 true, .v 0 false, .v 1 false] [.v 0 false []] h214 = (fun x : AT E.G.car [.v 31 true, .v 0 false, .v 1 false] => hull_load F x.1 x.2.1 x.2.2.1) from funext fun x => e214 F x.1 x.2.1 x.2.2.1] at h⟩
theorem hf203 : Tryz.prog.funcs[203]? = some Tryz.f203 := by kernel_rfl
theorem en203 : Proofs.Enters Tryz.prog 203 := Proofs.enters_of hf203 (by kernel_rfl) rfl
theorem hf202 : Tryz.prog.funcs[202]? = some Tryz.f202 := by kernel_rfl
theorem en202 : Proofs.Enters Tryz.prog 202 := Proofs.enters_of hf202 (by kernel_rfl) rfl
theorem hf181 : Tryz.prog.funcs[181]? = some Tryz.f181 := by kernel_rfl
theorem en181 : Proofs.Enters Tryz.prog 181 := Proofs.enters_of hf181 (by kernel_rfl) rfl
theorem hf162 : Tryz.prog.funcs[162]? = some Tryz.f162 := by kernel_rfl
theorem en162 : Proofs.Enters Tryz.prog 162 := Proofs.enters_of hf162 (by kernel_rfl) rfl
noncomputable def hull_Ship_safe (F : Nat) (a0 : Ship) (a1 : Cell) (a2 : Bool) : Option (Int × Int) :=
  bnd (hull_last F a1) (fun (x : Ice) => join (F) (fun (x_1 : (Int) × (Bool)) => brk (decide (x_1.fst < (10 : Int))) (some (((0 : Int), (4 : Int)))) (join (F) (fun (x_2 : (Int) × (Bool)) => brk (!x_2.snd) (some (((0 : Int), (41 : Int)))) (some ((x_2.fst, (0 : Int))))) (fun x_2 => join (F) (fun (x_3 : Bool) => brk (!x_3) (x_2 (((0 : Int), false))) (loopC (fun (x_4 : (Int) × (Int)) => fun x_5 => brk (decide (x_4.fst < x_4.snd)) (chk (InR (x_4.snd - x_4.fst)) (chk (InR (x_4.snd - x_4.fst + (1 : Int))) (chk ((0 : Int) ≤ x_4.snd - x_4.fst + (1 : Int) ∧ x_4.snd - x_4.fst + (1 : Int) ≤ (9223372036854775807 : Int)) (chk (InR (x_4.fst + (x_4.snd - x_4.fst + (1 : Int)) / (2 : Int))) (join (F) (fun (x_6 : Bool) => brk (x_6) (x_5 ((x_4.fst + (x_4.snd - x_4.fst + (1 : Int)) / (2 : Int), x_4.snd))) (chk (InR (x_4.fst + (x_4.snd - x_4.fst + (1 : Int)) / (2 : Int) - (1 : Int))) (x_5 ((x_4.fst, x_4.fst + (x_4.snd - x_4.fst + (1 : Int)) / (2 : Int) - (1 : Int)))))) (fun x_6 => join (F) (fun (x_7 : Bool) => brk (x_7) (bnd (hull_load F x (x_4.fst + (x_4.snd - x_4.fst + (1 : Int)) / (2 : Int)) a2) (fun (x_8 : Int) => chk (InR (a0.Class - (1 : Int))) (chk ((0 : Int) ≤ a0.Class - (1 : Int) ∧ a0.Class - (1 : Int) < (↑(6 : Nat) : Int)) (x_6 (decide (x_8 ≤ [(4000 : Int), (8000 : Int), (14000 : Int), (24000 : Int), (40000 : Int), (90000 : Int)].getD (a0.Class - (1 : Int)).toNat (0 : Int))))))) (x_6 (false))) (fun x_7 => bnd (hull_end F a0.Thrust) (fun (x_8 : Int) => brk (decide (x_4.fst + (x_4.snd - x_4.fst + (1 : Int)) / (2 : Int) ≤ x_8)) (bnd (hull_Ship_thrust F a0 (x_4.fst + (x_4.snd - x_4.fst + (1 : Int)) / (2 : Int))) (fun (x_9 : Int) => bnd (hull_value F a0.Water (x_4.fst + (x_4.snd - x_4.fst + (1 : Int)) / (2 : Int))) (fun (x_10 : (Int) × (Int)) => bnd (hull_value F a0.Ice x.Thick) (fun (x_11 : (Int) × (Int)) => join (F) (fun (x_12 : (Int) × (Int)) => chk (InR (a0.Slow * (x_4.fst + (x_4.snd - x_4.fst + (1 : Int)) / (2 : Int)))) (chk (InR ((1000 : Int) + a0.Slow * (x_4.fst + (x_4.snd - x_4.fst + (1 : Int)) / (2 : Int)))) (chk (InR (x_11.fst * ((1000 : Int) + a0.Slow * (x_4.fst + (x_4.snd - x_4.fst + (1 : Int)) / (2 : Int))))) (chk (InR (x_11.fst * ((1000 : Int) + a0.Slow * (x_4.fst + (x_4.snd - x_4.fst + (1 : Int)) / (2 : Int))) * x_12.snd)) (chk (InR (a0.Ridge * x_12.fst)) (chk (InR (a0.Ridge * x_12.fst * x_11.snd)) (chk (InR (a0.Ridge * x_12.fst * x_11.snd * (100000 : Int))) (chk (InR (x_11.fst * ((1000 : Int) + a0.Slow * (x_4.fst + (x_4.snd - x_4.fst + (1 : Int)) / (2 : Int))) * x_12.snd + a0.Ridge * x_12.fst * x_11.snd * (100000 : Int))) (chk (InR (x.Conc * (x_11.fst * ((1000 : Int) + a0.Slow * (x_4.fst + (x_4.snd - x_4.fst + (1 : Int)) / (2 : Int))) * x_12.snd + a0.Ridge * x_12.fst * x_11.snd * (100000 : Int)))) (chk (InR (x_11.snd * (10000000 : Int))) (chk (InR (x_10.fst * (x_11.snd * (10000000 : Int)))) (chk (InR (x.Conc * (x_11.fst * ((1000 : Int) + a0.Slow * (x_4.fst + (x_4.snd - x_4.fst + (1 : Int)) / (2 : Int))) * x_12.snd + a0.Ridge * x_12.fst * x_11.snd * (100000 : Int)) * x_10.snd)) (chk (InR (x_10.fst * (x_11.snd * (10000000 : Int)) + x.Conc * (x_11.fst * ((1000 : Int) + a0.Slow * (x_4.fst + (x_4.snd - x_4.fst + (1 : Int)) / (2 : Int))) * x_12.snd + a0.Ridge * x_12.fst * x_11.snd * (100000 : Int)) * x_10.snd)) (chk (InR (a0.Press * x.Press)) (chk (InR (a0.Press * x.Press * x_10.snd)) (chk (InR (a0.Press * x.Press * x_10.snd * (x_11.snd * (10000000 : Int)))) (chk (InR (x_10.fst * (x_11.snd * (10000000 : Int)) + x.Conc * (x_11.fst * ((1000 : Int) + a0.Slow * (x_4.fst + (x_4.snd - x_4.fst + (1 : Int)) / (2 : Int))) * x_12.snd + a0.Ridge * x_12.fst * x_11.snd * (100000 : Int)) * x_10.snd + a0.Press * x.Press * x_10.snd * (x_11.snd * (10000000 : Int)))) (chk (InR (x_10.snd * (x_11.snd * (10000000 : Int)))) (chk (InR (x_10.fst * (x_11.snd * (10000000 : Int)) + x.Conc * (x_11.fst * ((1000 : Int) + a0.Slow * (x_4.fst + (x_4.snd - x_4.fst + (1 : Int)) / (2 : Int))) * x_12.snd + a0.Ridge * x_12.fst * x_11.snd * (100000 : Int)) * x_10.snd + a0.Press * x.Press * x_10.snd * (x_11.snd * (10000000 : Int)) + x_10.snd * (x_11.snd * (10000000 : Int)))) (chk (InR (x_10.fst * (x_11.snd * (10000000 : Int)) + x.Conc * (x_11.fst * ((1000 : Int) + a0.Slow * (x_4.fst + (x_4.snd - x_4.fst + (1 : Int)) / (2 : Int))) * x_12.snd + a0.Ridge * x_12.fst * x_11.snd * (100000 : Int)) * x_10.snd + a0.Press * x.Press * x_10.snd * (x_11.snd * (10000000 : Int)) + x_10.snd * (x_11.snd * (10000000 : Int)) - (1 : Int))) (chk (InR (x_10.snd * (x_11.snd * (10000000 : Int)))) (chk (((0 : Int) ≤ x_10.fst * (x_11.snd * (10000000 : Int)) + x.Conc * (x_11.fst * ((1000 : Int) + a0.Slow * (x_4.fst + (x_4.snd - x_4.fst + (1 : Int)) / (2 : Int))) * x_12.snd + a0.Ridge * x_12.fst * x_11.snd * (100000 : Int)) * x_10.snd + a0.Press * x.Press * x_10.snd * (x_11.snd * (10000000 : Int)) + x_10.snd * (x_11.snd * (10000000 : Int)) - (1 : Int) ∧ x_10.fst * (x_11.snd * (10000000 : Int)) + x.Conc * (x_11.fst * ((1000 : Int) + a0.Slow * (x_4.fst + (x_4.snd - x_4.fst + (1 : Int)) / (2 : Int))) * x_12.snd + a0.Ridge * x_12.fst * x_11.snd * (100000 : Int)) * x_10.snd + a0.Press * x.Press * x_10.snd * (x_11.snd * (10000000 : Int)) + x_10.snd * (x_11.snd * (10000000 : Int)) - (1 : Int) ≤ (9223372036854775807 : Int)) ∧ (0 : Int) < x_10.snd * (x_11.snd * (10000000 : Int))) (x_7 (decide (x_9 ≥ (x_10.fst * (x_11.snd * (10000000 : Int)) + x.Conc * (x_11.fst * ((1000 : Int) + a0.Slow * (x_4.fst + (x_4.snd - x_4.fst + (1 : Int)) / (2 : Int))) * x_12.snd + a0.Ridge * x_12.fst * x_11.snd * (100000 : Int)) * x_10.snd + a0.Press * x.Press * x_10.snd * (x_11.snd * (10000000 : Int)) + x_10.snd * (x_11.snd * (10000000 : Int)) - (1 : Int)) / (x_10.snd * (x_11.snd * (10000000 : Int)))))))))))))))))))))))))))) (fun x_12 => brk (a2) (x_12 (((0 : Int), a0.Brash))) (x_12 ((x.Ridge, (100 : Int))))))))) (x_7 (false)))))))))) (x_2 ((x_4.fst, true)))) (F) (((10 : Int), (250 : Int))))) (fun x_3 => join (F) (fun (x_4 : Bool) => brk (x_4) (bnd (hull_load F x (10 : Int) a2) (fun (x_5 : Int) => chk (InR (a0.Class - (1 : Int))) (chk ((0 : Int) ≤ a0.Class - (1 : Int) ∧ a0.Class - (1 : Int) < (↑(6 : Nat) : Int)) (x_3 (decide (x_5 ≤ [(4000 : Int), (8000 : Int), (14000 : Int), (24000 : Int), (40000 : Int), (90000 : Int)].getD (a0.Class - (1 : Int)).toNat (0 : Int))))))) (x_3 (false))) (fun x_4 => bnd (hull_end F a0.Thrust) (fun (x_5 : Int) => brk (decide ((10 : Int) ≤ x_5)) (bnd (hull_Ship_thrust F a0 (10 : Int)) (fun (x_6 : Int) => bnd (hull_value F a0.Water (10 : Int)) (fun (x_7 : (Int) × (Int)) => bnd (hull_value F a0.Ice x.Thick) (fun (x_8 : (Int) × (Int)) => join (F) (fun (x_9 : (Int) × (Int)) => chk (InR (a0.Slow * (10 : Int))) (chk (InR ((1000 : Int) + a0.Slow * (10 : Int))) (chk (InR (x_8.fst * ((1000 : Int) + a0.Slow * (10 : Int)))) (chk (InR (x_8.fst * ((1000 : Int) + a0.Slow * (10 : Int)) * x_9.snd)) (chk (InR (a0.Ridge * x_9.fst)) (chk (InR (a0.Ridge * x_9.fst * x_8.snd)) (chk (InR (a0.Ridge * x_9.fst * x_8.snd * (100000 : Int))) (chk (InR (x_8.fst * ((1000 : Int) + a0.Slow * (10 : Int)) * x_9.snd + a0.Ridge * x_9.fst * x_8.snd * (100000 : Int))) (chk (InR (x.Conc * (x_8.fst * ((1000 : Int) + a0.Slow * (10 : Int)) * x_9.snd + a0.Ridge * x_9.fst * x_8.snd * (100000 : Int)))) (chk (InR (x_8.snd * (10000000 : Int))) (chk (InR (x_7.fst * (x_8.snd * (10000000 : Int)))) (chk (InR (x.Conc * (x_8.fst * ((1000 : Int) + a0.Slow * (10 : Int)) * x_9.snd + a0.Ridge * x_9.fst * x_8.snd * (100000 : Int)) * x_7.snd)) (chk (InR (x_7.fst * (x_8.snd * (10000000 : Int)) + x.Conc * (x_8.fst * ((1000 : Int) + a0.Slow * (10 : Int)) * x_9.snd + a0.Ridge * x_9.fst * x_8.snd * (100000 : Int)) * x_7.snd)) (chk (InR (a0.Press * x.Press)) (chk (InR (a0.Press * x.Press * x_7.snd)) (chk (InR (a0.Press * x.Press * x_7.snd * (x_8.snd * (10000000 : Int)))) (chk (InR (x_7.fst * (x_8.snd * (10000000 : Int)) + x.Conc * (x_8.fst * ((1000 : Int) + a0.Slow * (10 : Int)) * x_9.snd + a0.Ridge * x_9.fst * x_8.snd * (100000 : Int)) * x_7.snd + a0.Press * x.Press * x_7.snd * (x_8.snd * (10000000 : Int)))) (chk (InR (x_7.snd * (x_8.snd * (10000000 : Int)))) (chk (InR (x_7.fst * (x_8.snd * (10000000 : Int)) + x.Conc * (x_8.fst * ((1000 : Int) + a0.Slow * (10 : Int)) * x_9.snd + a0.Ridge * x_9.fst * x_8.snd * (100000 : Int)) * x_7.snd + a0.Press * x.Press * x_7.snd * (x_8.snd * (10000000 : Int)) + x_7.snd * (x_8.snd * (10000000 : Int)))) (chk (InR (x_7.fst * (x_8.snd * (10000000 : Int)) + x.Conc * (x_8.fst * ((1000 : Int) + a0.Slow * (10 : Int)) * x_9.snd + a0.Ridge * x_9.fst * x_8.snd * (100000 : Int)) * x_7.snd + a0.Press * x.Press * x_7.snd * (x_8.snd * (10000000 : Int)) + x_7.snd * (x_8.snd * (10000000 : Int)) - (1 : Int))) (chk (InR (x_7.snd * (x_8.snd * (10000000 : Int)))) (chk (((0 : Int) ≤ x_7.fst * (x_8.snd * (10000000 : Int)) + x.Conc * (x_8.fst * ((1000 : Int) + a0.Slow * (10 : Int)) * x_9.snd + a0.Ridge * x_9.fst * x_8.snd * (100000 : Int)) * x_7.snd + a0.Press * x.Press * x_7.snd * (x_8.snd * (10000000 : Int)) + x_7.snd * (x_8.snd * (10000000 : Int)) - (1 : Int) ∧ x_7.fst * (x_8.snd * (10000000 : Int)) + x.Conc * (x_8.fst * ((1000 : Int) + a0.Slow * (10 : Int)) * x_9.snd + a0.Ridge * x_9.fst * x_8.snd * (100000 : Int)) * x_7.snd + a0.Press * x.Press * x_7.snd * (x_8.snd * (10000000 : Int)) + x_7.snd * (x_8.snd * (10000000 : Int)) - (1 : Int) ≤ (9223372036854775807 : Int)) ∧ (0 : Int) < x_7.snd * (x_8.snd * (10000000 : Int))) (x_4 (decide (x_6 ≥ (x_7.fst * (x_8.snd * (10000000 : Int)) + x.Conc * (x_8.fst * ((1000 : Int) + a0.Slow * (10 : Int)) * x_9.snd + a0.Ridge * x_9.fst * x_8.snd * (100000 : Int)) * x_7.snd + a0.Press * x.Press * x_7.snd * (x_8.snd * (10000000 : Int)) + x_7.snd * (x_8.snd * (10000000 : Int)) - (1 : Int)) / (x_7.snd * (x_8.snd * (10000000 : Int)))))))))))))))))))))))))))) (fun x_9 => brk (a2) (x_9 (((0 : Int), a0.Brash))) (x_9 ((x.Ridge, (100 : Int))))))))) (x_4 (false)))))))) (fun x_1 => join (F) (fun (x_2 : Bool) => brk (!x_2) (x_1 (((0 : Int), false))) (loopC (fun (x_3 : (Int) × (Int)) => fun x_4 => brk (decide (x_3.fst < x_3.snd)) (chk (InR (x_3.snd - x_3.fst)) (chk (InR (x_3.snd - x_3.fst + (1 : Int))) (chk ((0 : Int) ≤ x_3.snd - x_3.fst + (1 : Int) ∧ x_3.snd - x_3.fst + (1 : Int) ≤ (9223372036854775807 : Int)) (chk (InR (x_3.fst + (x_3.snd - x_3.fst + (1 : Int)) / (2 : Int))) (join (F) (fun (x_5 : Bool) => brk (x_5) (x_4 ((x_3.fst + (x_3.snd - x_3.fst + (1 : Int)) / (2 : Int), x_3.snd))) (chk (InR (x_3.fst + (x_3.snd - x_3.fst + (1 : Int)) / (2 : Int) - (1 : Int))) (x_4 ((x_3.fst, x_3.fst + (x_3.snd - x_3.fst + (1 : Int)) / (2 : Int) - (1 : Int)))))) (fun x_5 => bnd (hull_end F a0.Thrust) (fun (x_6 : Int) => brk (decide (x_3.fst + (x_3.snd - x_3.fst + (1 : Int)) / (2 : Int) ≤ x_6)) (bnd (hull_Ship_thrust F a0 (x_3.fst + (x_3.snd - x_3.fst + (1 : Int)) / (2 : Int))) (fun (x_7 : Int) => bnd (hull_value F a0.Water (x_3.fst + (x_3.snd - x_3.fst + (1 : Int)) / (2 : Int))) (fun (x_8 : (Int) × (Int)) => bnd (hull_value F a0.Ice x.Thick) (fun (x_9 : (Int) × (Int)) => join (F) (fun (x_10 : (Int) × (Int)) => chk (InR (a0.Slow * (x_3.fst + (x_3.snd - x_3.fst + (1 : Int)) / (2 : Int)))) (chk (InR ((1000 : Int) + a0.Slow * (x_3.fst + (x_3.snd - x_3.fst + (1 : Int)) / (2 : Int)))) (chk (InR (x_9.fst * ((1000 : Int) + a0.Slow * (x_3.fst + (x_3.snd - x_3.fst + (1 : Int)) / (2 : Int))))) (chk (InR (x_9.fst * ((1000 : Int) + a0.Slow * (x_3.fst + (x_3.snd - x_3.fst + (1 : Int)) / (2 : Int))) * x_10.snd)) (chk (InR (a0.Ridge * x_10.fst)) (chk (InR (a0.Ridge * x_10.fst * x_9.snd)) (chk (InR (a0.Ridge * x_10.fst * x_9.snd * (100000 : Int))) (chk (InR (x_9.fst * ((1000 : Int) + a0.Slow * (x_3.fst + (x_3.snd - x_3.fst + (1 : Int)) / (2 : Int))) * x_10.snd + a0.Ridge * x_10.fst * x_9.snd * (100000 : Int))) (chk (InR (x.Conc * (x_9.fst * ((1000 : Int) + a0.Slow * (x_3.fst + (x_3.snd - x_3.fst + (1 : Int)) / (2 : Int))) * x_10.snd + a0.Ridge * x_10.fst * x_9.snd * (100000 : Int)))) (chk (InR (x_9.snd * (10000000 : Int))) (chk (InR (x_8.fst * (x_9.snd * (10000000 : Int)))) (chk (InR (x.Conc * (x_9.fst * ((1000 : Int) + a0.Slow * (x_3.fst + (x_3.snd - x_3.fst + (1 : Int)) / (2 : Int))) * x_10.snd + a0.Ridge * x_10.fst * x_9.snd * (100000 : Int)) * x_8.snd)) (chk (InR (x_8.fst * (x_9.snd * (10000000 : Int)) + x.Conc * (x_9.fst * ((1000 : Int) + a0.Slow * (x_3.fst + (x_3.snd - x_3.fst + (1 : Int)) / (2 : Int))) * x_10.snd + a0.Ridge * x_10.fst * x_9.snd * (100000 : Int)) * x_8.snd)) (chk (InR (a0.Press * x.Press)) (chk (InR (a0.Press * x.Press * x_8.snd)) (chk (InR (a0.Press * x.Press * x_8.snd * (x_9.snd * (10000000 : Int)))) (chk (InR (x_8.fst * (x_9.snd * (10000000 : Int)) + x.Conc * (x_9.fst * ((1000 : Int) + a0.Slow * (x_3.fst + (x_3.snd - x_3.fst + (1 : Int)) / (2 : Int))) * x_10.snd + a0.Ridge * x_10.fst * x_9.snd * (100000 : Int)) * x_8.snd + a0.Press * x.Press * x_8.snd * (x_9.snd * (10000000 : Int)))) (chk (InR (x_8.snd * (x_9.snd * (10000000 : Int)))) (chk (InR (x_8.fst * (x_9.snd * (10000000 : Int)) + x.Conc * (x_9.fst * ((1000 : Int) + a0.Slow * (x_3.fst + (x_3.snd - x_3.fst + (1 : Int)) / (2 : Int))) * x_10.snd + a0.Ridge * x_10.fst * x_9.snd * (100000 : Int)) * x_8.snd + a0.Press * x.Press * x_8.snd * (x_9.snd * (10000000 : Int)) + x_8.snd * (x_9.snd * (10000000 : Int)))) (chk (InR (x_8.fst * (x_9.snd * (10000000 : Int)) + x.Conc * (x_9.fst * ((1000 : Int) + a0.Slow * (x_3.fst + (x_3.snd - x_3.fst + (1 : Int)) / (2 : Int))) * x_10.snd + a0.Ridge * x_10.fst * x_9.snd * (100000 : Int)) * x_8.snd + a0.Press * x.Press * x_8.snd * (x_9.snd * (10000000 : Int)) + x_8.snd * (x_9.snd * (10000000 : Int)) - (1 : Int))) (chk (InR (x_8.snd * (x_9.snd * (10000000 : Int)))) (chk (((0 : Int) ≤ x_8.fst * (x_9.snd * (10000000 : Int)) + x.Conc * (x_9.fst * ((1000 : Int) + a0.Slow * (x_3.fst + (x_3.snd - x_3.fst + (1 : Int)) / (2 : Int))) * x_10.snd + a0.Ridge * x_10.fst * x_9.snd * (100000 : Int)) * x_8.snd + a0.Press * x.Press * x_8.snd * (x_9.snd * (10000000 : Int)) + x_8.snd * (x_9.snd * (10000000 : Int)) - (1 : Int) ∧ x_8.fst * (x_9.snd * (10000000 : Int)) + x.Conc * (x_9.fst * ((1000 : Int) + a0.Slow * (x_3.fst + (x_3.snd - x_3.fst + (1 : Int)) / (2 : Int))) * x_10.snd + a0.Ridge * x_10.fst * x_9.snd * (100000 : Int)) * x_8.snd + a0.Press * x.Press * x_8.snd * (x_9.snd * (10000000 : Int)) + x_8.snd * (x_9.snd * (10000000 : Int)) - (1 : Int) ≤ (9223372036854775807 : Int)) ∧ (0 : Int) < x_8.snd * (x_9.snd * (10000000 : Int))) (x_5 (decide (x_7 ≥ (x_8.fst * (x_9.snd * (10000000 : Int)) + x.Conc * (x_9.fst * ((1000 : Int) + a0.Slow * (x_3.fst + (x_3.snd - x_3.fst + (1 : Int)) / (2 : Int))) * x_10.snd + a0.Ridge * x_10.fst * x_9.snd * (100000 : Int)) * x_8.snd + a0.Press * x.Press * x_8.snd * (x_9.snd * (10000000 : Int)) + x_8.snd * (x_9.snd * (10000000 : Int)) - (1 : Int)) / (x_8.snd * (x_9.snd * (10000000 : Int)))))))))))))))))))))))))))) (fun x_10 => brk (a2) (x_10 (((0 : Int), a0.Brash))) (x_10 ((x.Ridge, (100 : Int))))))))) (x_5 (false))))))))) (x_1 ((x_3.fst, true)))) (F) (((0 : Int), (250 : Int))))) (fun x_2 => bnd (hull_end F a0.Thrust) (fun (x_3 : Int) => brk (decide ((0 : Int) ≤ x_3)) (bnd (hull_Ship_thrust F a0 (0 : Int)) (fun (x_4 : Int) => bnd (hull_value F a0.Water (0 : Int)) (fun (x_5 : (Int) × (Int)) => bnd (hull_value F a0.Ice x.Thick) (fun (x_6 : (Int) × (Int)) => join (F) (fun (x_7 : (Int) × (Int)) => chk (InR (a0.Slow * (0 : Int))) (chk (InR ((1000 : Int) + a0.Slow * (0 : Int))) (chk (InR (x_6.fst * ((1000 : Int) + a0.Slow * (0 : Int)))) (chk (InR (x_6.fst * ((1000 : Int) + a0.Slow * (0 : Int)) * x_7.snd)) (chk (InR (a0.Ridge * x_7.fst)) (chk (InR (a0.Ridge * x_7.fst * x_6.snd)) (chk (InR (a0.Ridge * x_7.fst * x_6.snd * (100000 : Int))) (chk (InR (x_6.fst * ((1000 : Int) + a0.Slow * (0 : Int)) * x_7.snd + a0.Ridge * x_7.fst * x_6.snd * (100000 : Int))) (chk (InR (x.Conc * (x_6.fst * ((1000 : Int) + a0.Slow * (0 : Int)) * x_7.snd + a0.Ridge * x_7.fst * x_6.snd * (100000 : Int)))) (chk (InR (x_6.snd * (10000000 : Int))) (chk (InR (x_5.fst * (x_6.snd * (10000000 : Int)))) (chk (InR (x.Conc * (x_6.fst * ((1000 : Int) + a0.Slow * (0 : Int)) * x_7.snd + a0.Ridge * x_7.fst * x_6.snd * (100000 : Int)) * x_5.snd)) (chk (InR (x_5.fst * (x_6.snd * (10000000 : Int)) + x.Conc * (x_6.fst * ((1000 : Int) + a0.Slow * (0 : Int)) * x_7.snd + a0.Ridge * x_7.fst * x_6.snd * (100000 : Int)) * x_5.snd)) (chk (InR (a0.Press * x.Press)) (chk (InR (a0.Press * x.Press * x_5.snd)) (chk (InR (a0.Press * x.Press * x_5.snd * (x_6.snd * (10000000 : Int)))) (chk (InR (x_5.fst * (x_6.snd * (10000000 : Int)) + x.Conc * (x_6.fst * ((1000 : Int) + a0.Slow * (0 : Int)) * x_7.snd + a0.Ridge * x_7.fst * x_6.snd * (100000 : Int)) * x_5.snd + a0.Press * x.Press * x_5.snd * (x_6.snd * (10000000 : Int)))) (chk (InR (x_5.snd * (x_6.snd * (10000000 : Int)))) (chk (InR (x_5.fst * (x_6.snd * (10000000 : Int)) + x.Conc * (x_6.fst * ((1000 : Int) + a0.Slow * (0 : Int)) * x_7.snd + a0.Ridge * x_7.fst * x_6.snd * (100000 : Int)) * x_5.snd + a0.Press * x.Press * x_5.snd * (x_6.snd * (10000000 : Int)) + x_5.snd * (x_6.snd * (10000000 : Int)))) (chk (InR (x_5.fst * (x_6.snd * (10000000 : Int)) + x.Conc * (x_6.fst * ((1000 : Int) + a0.Slow * (0 : Int)) * x_7.snd + a0.Ridge * x_7.fst * x_6.snd * (100000 : Int)) * x_5.snd + a0.Press * x.Press * x_5.snd * (x_6.snd * (10000000 : Int)) + x_5.snd * (x_6.snd * (10000000 : Int)) - (1 : Int))) (chk (InR (x_5.snd * (x_6.snd * (10000000 : Int)))) (chk (((0 : Int) ≤ x_5.fst * (x_6.snd * (10000000 : Int)) + x.Conc * (x_6.fst * ((1000 : Int) + a0.Slow * (0 : Int)) * x_7.snd + a0.Ridge * x_7.fst * x_6.snd * (100000 : Int)) * x_5.snd + a0.Press * x.Press * x_5.snd * (x_6.snd * (10000000 : Int)) + x_5.snd * (x_6.snd * (10000000 : Int)) - (1 : Int) ∧ x_5.fst * (x_6.snd * (10000000 : Int)) + x.Conc * (x_6.fst * ((1000 : Int) + a0.Slow * (0 : Int)) * x_7.snd + a0.Ridge * x_7.fst * x_6.snd * (100000 : Int)) * x_5.snd + a0.Press * x.Press * x_5.snd * (x_6.snd * (10000000 : Int)) + x_5.snd * (x_6.snd * (10000000 : Int)) - (1 : Int) ≤ (9223372036854775807 : Int)) ∧ (0 : Int) < x_5.snd * (x_6.snd * (10000000 : Int))) (x_2 (decide (x_4 ≥ (x_5.fst * (x_6.snd * (10000000 : Int)) + x.Conc * (x_6.fst * ((1000 : Int) + a0.Slow * (0 : Int)) * x_7.snd + a0.Ridge * x_7.fst * x_6.snd * (100000 : Int)) * x_5.snd + a0.Press * x.Press * x_5.snd * (x_6.snd * (10000000 : Int)) + x_5.snd * (x_6.snd * (10000000 : Int)) - (1 : Int)) / (x_5.snd * (x_6.snd * (10000000 : Int)))))))))))))))))))))))))))) (fun x_7 => brk (a2) (x_7 (((0 : Int), a0.Brash))) (x_7 ((x.Ridge, (100 : Int))))))))) (x_2 (false))))))
noncomputable def s162 (F : Nat) : CS E.G := ⟨162, [.ptr 8, .v 20 true, .v 1 false], [.v 0 false [], .v 0 false []], fun x => hull_Ship_safe F x.1 x.2.1 x.2.2.1⟩
noncomputable def cx162 (F : Nat) : Ctx E := ⟨[s179 F, s176 F, s212 F, s155 F, s214 F], [(180, Tryz.f180), (200, Tryz.f200), (201, Tryz.f201), (213, Tryz.f213), (181, Tryz.f181), (202, Tryz.f202), (203, Tryz.f203)], F, []⟩
noncomputable def h162 : Hint := (.p (.w ⟨[.i, .b], [], [0, 1], [(0, .t [.i IntKind.i64, .b])], [], [], [], 5⟩ (.w ⟨[.b], [], [0, 1], [(0, .b)], [], [], [], 5⟩ (.s (.p (.k (.k (.k (.k (.j ⟨[.i, .i], [16, 32, 128, 96, 80, 112], [0, 1, 7], [(160, .i IntKind.i64), (144, .i IntKind.i64)], [], [], [], 10⟩ .n .n)))))) .n) (.c .n (.l ⟨[.i, .i], [32], [0, 1], [(0, .i IntKind.i64), (16, .i IntKind.i64)], [], [], [], 5⟩ (.c (.w ⟨[.b], [], [0, 1], [(0, .b)], [], [], [], 5⟩ (.s (.p (.k (.k (.k (.k (.j ⟨[.i, .i], [16, 32, 128, 96, 80, 112], [0, 1, 7], [(160, .i IntKind.i64), (144, .i IntKind.i64)], [], [], [], 10⟩ .n .n)))))) .n) .n) .n)))) (.c .n (.p (.w ⟨[.i, .b], [], [0, 1, 5], [(0, .t [.i IntKind.i64, .b])], [], [], [], 6⟩ (.w ⟨[.b], [], [0, 1, 5], [(0, .b)], [], [], [], 6⟩ (.w ⟨[.b], [], [0, 1], [(0, .b)], [], [], [], 6⟩ (.s (.p (.k (.k (.k (.k (.j ⟨[.i, .i], [16, 32, 128, 96, 80, 112], [0, 1, 8], [(160, .i IntKind.i64), (144, .i IntKind.i64)], [], [], [], 11⟩ .n .n)))))) .n) (.s (.p .n) .n)) (.c .n (.l ⟨[.i, .i], [32], [0, 1, 5], [(0, .i IntKind.i64), (16, .i IntKind.i64)], [], [], [], 6⟩ (.c (.w ⟨[.b], [], [0, 1, 5], [(0, .b)], [], [], [], 6⟩ (.w ⟨[.b], [], [0, 1], [(0, .b)], [], [], [], 6⟩ (.s (.p (.k (.k (.k (.k (.j ⟨[.i, .i], [16, 32, 128, 96, 80, 112], [0, 1, 8], [(160, .i IntKind.i64), (144, .i IntKind.i64)], [], [], [], 11⟩ .n .n)))))) .n) (.s (.p .n) .n)) .n) .n)))) .n)))))
theorem e162 (F : Nat) (a0 : Ship) (a1 : Cell) (a2 : Bool) : fnK (E := E) (cx162 F) Tryz.f162 gl [.ptr 8, .v 20 true, .v 1 false] [.v 0 false [], .v 0 false []] h162 (a0, a1, a2, ()) = hull_Ship_safe F a0 a1 a2 := by kernel_rfl
theorem c162 (F : Nat) : CSok E gl (s162 F) := ⟨en162, by
  have h := fn_sound (E := E) (gl := gl) (cx := cx162 F) mix (allC (c179 F) (allC (c176 F) (allC (c212 F) (allC (c155 F) (allC (c214 F) all0))))) (inlC hf180 en180 (inlC hf200 en200 (inlC hf201 en201 (inlC hf213 en213 (inlC hf181 en181 (inlC hf202 en202 (inlC hf203 en203 inl0))))))) gl_up gl_lt hf162 (ps := [.ptr 8, .v 20 true, .v 1 false]) (rs := [.v 0 false [], .v 0 false []]) (by decide) h162
  rwa [show fnK (E := E) (cx162 F) Tryz.f162 gl [.ptr 8, .v 20 true, .v 1 false] [.v 0 false [], .v 0 false []] h162 = (fun x : AT E.G.car [.ptr 8, .v 20 true, .v 1 false] => hull_Ship_safe F x.1 x.2.1 x.2.2.1) from funext fun x => e162 F x.1 x.2.1 x.2.2.1] at h⟩
theorem hf135 : Tryz.prog.funcs[135]? = some Tryz.f135 := by kernel_rfl
theorem en135 : Proofs.Enters Tryz.prog 135 := Proofs.enters_of hf135 (by kernel_rfl) rfl
noncomputable def hull_Safe (F : Nat) (a0 : Ship) (a1 : Cell) (a2 : Bool) : Option (Int × Int) :=
  bnd (hull_met F a0 a1) (fun (x : Int) => brk (x != (0 : Int)) (some (((0 : Int), x))) (bnd (hull_Ship_safe F a0 a1 a2) (fun (x_1 : (Int) × (Int)) => some (x_1))))
noncomputable def s135 (F : Nat) : CS E.G := ⟨135, [.v 8 true, .v 20 true, .v 1 false], [.v 0 false [], .v 0 false []], fun x => hull_Safe F x.1 x.2.1 x.2.2.1⟩
noncomputable def cx135 (F : Nat) : Ctx E := ⟨[s161 F, s162 F], [], F, []⟩
noncomputable def h135 : Hint := .n
theorem e135 (F : Nat) (a0 : Ship) (a1 : Cell) (a2 : Bool) : fnK (E := E) (cx135 F) Tryz.f135 gl [.v 8 true, .v 20 true, .v 1 false] [.v 0 false [], .v 0 false []] h135 (a0, a1, a2, ()) = hull_Safe F a0 a1 a2 := by kernel_rfl
theorem c135 (F : Nat) : CSok E gl (s135 F) := ⟨en135, by
  have h := fn_sound (E := E) (gl := gl) (cx := cx135 F) mix (allC (c161 F) (allC (c162 F) all0)) inl0 gl_up gl_lt hf135 (ps := [.v 8 true, .v 20 true, .v 1 false]) (rs := [.v 0 false [], .v 0 false []]) (by decide) h135
  rwa [show fnK (E := E) (cx135 F) Tryz.f135 gl [.v 8 true, .v 20 true, .v 1 false] [.v 0 false [], .v 0 false []] h135 = (fun x : AT E.G.car [.v 8 true, .v 20 true, .v 1 false] => hull_Safe F x.1 x.2.1 x.2.2.1) from funext fun x => e135 F x.1 x.2.1 x.2.2.1] at h⟩
theorem hf87 : Tryz.prog.funcs[87]? = some Tryz.f87 := by kernel_rfl
theorem en87 : Proofs.Enters Tryz.prog 87 := Proofs.enters_of hf87 (by kernel_rfl) rfl
noncomputable def convoy_Convoy_most (F : Nat) (a0 : Convoy) (a1 : Cell) : Option (Int) :=
  chk ([a0.Breaker].length + a0.Ships.length ≤ (1000000 : Nat)) (loopC (fun (x : (Int) × (Int)) => fun x_1 => brk (decide (x.snd < (↑([a0.Breaker] ++ a0.Ships).length : Int))) (chk ((0 : Int) ≤ x.snd ∧ x.snd < (↑([a0.Breaker] ++ a0.Ships).length : Int)) (bnd (hull_Safe F (([a0.Breaker] ++ a0.Ships).getD (Int.toNat x.snd) (Member.mk (Ship.mk (0 : Int) (0 : Int) (0 : Int) (0 : Int) [] [] [] (0 : Int) (0 : Int) (0 : Int) (0 : Int)) [] (0 : Int) (0 : Int) (0 : Int))).Ship a1 (decide (x.snd > (0 : Int)))) (fun (x_2 : (Int) × (Int)) => brk (x_2.snd != (0 : Int)) (some ((0 : Int))) (chk (InR (x.snd + (1 : Int))) (x_1 ((if x_2.fst < x.fst then x_2.fst else x.fst, x.snd + (1 : Int)))))))) (some (x.fst))) (F) (((250 : Int), (0 : Int))))
noncomputable def s87 (F : Nat) : CS E.G := ⟨87, [.ptr 12, .v 20 true], [.v 0 false []], fun x => convoy_Convoy_most F x.1 x.2.1⟩
noncomputable def cx87 (F : Nat) : Ctx E := ⟨[s135 F], [(69, Tryz.f69)], F, []⟩
noncomputable def h87 : Hint := (.p (.l ⟨[.i, .i], [192, 48, 176], [0, 2, 9], [(80, .i IntKind.i64), (208, .i IntKind.i64)], [], [], [], 10⟩ (.c .n .n)))
theorem e87 (F : Nat) (a0 : Convoy) (a1 : Cell) : fnK (E := E) (cx87 F) Tryz.f87 gl [.ptr 12, .v 20 true] [.v 0 false []] h87 (a0, a1, ()) = convoy_Convoy_most F a0 a1 := by kernel_rfl
theorem c87 (F : Nat) : CSok E gl (s87 F) := ⟨en87, by
  have h := fn_sound (E := E) (gl := gl) (cx := cx87 F) mix (allC (c135 F) all0) (inlC hf69 en69 inl0) gl_up gl_lt hf87 (ps := [.ptr 12, .v 20 true]) (rs := [.v 0 false []]) (by decide) h87
  rwa [show fnK (E := E) (cx87 F) Tryz.f87 gl [.ptr 12, .v 20 true] [.v 0 false []] h87 = (fun x : AT E.G.car [.ptr 12, .v 20 true] => convoy_Convoy_most F x.1 x.2.1) from funext fun x => e87 F x.1 x.2.1] at h⟩
theorem hf91 : Tryz.prog.funcs[91]? = some Tryz.f91 := by kernel_rfl
theorem en91 : Proofs.Enters Tryz.prog 91 := Proofs.enters_of hf91 (by kernel_rfl) rfl
noncomputable def convoy_met (F : Nat) (a0 : Convoy) (a1 : Cell) : Option (Int) :=
  bnd (convoy_Check F a0) (fun (x : Int) => brk (x != (0 : Int)) (some (x)) (bnd (ice_CheckCell F a1) (fun (x_1 : Int) => some (x_1))))
noncomputable def s91 (F : Nat) : CS E.G := ⟨91, [.v 12 true, .v 20 true], [.v 0 false []], fun x => convoy_met F x.1 x.2.1⟩
noncomputable def cx91 (F : Nat) : Ctx E := ⟨[s15 F, s85 F], [], F, []⟩
noncomputable def h91 : Hint := .n
theorem e91 (F : Nat) (a0 : Convoy) (a1 : Cell) : fnK (E := E) (cx91 F) Tryz.f91 gl [.v 12 true, .v 20 true] [.v 0 false []] h91 (a0, a1, ()) = convoy_met F a0 a1 := by kernel_rfl
theorem c91 (F : Nat) : CSok E gl (s91 F) := ⟨en91, by
  have h := fn_sound (E := E) (gl := gl) (cx := cx91 F) mix (allC (c15 F) (allC (c85 F) all0)) inl0 gl_up gl_lt hf91 (ps := [.v 12 true, .v 20 true]) (rs := [.v 0 false []]) (by decide) h91
  rwa [show fnK (E := E) (cx91 F) Tryz.f91 gl [.v 12 true, .v 20 true] [.v 0 false []] h91 = (fun x : AT E.G.car [.v 12 true, .v 20 true] => convoy_met F x.1 x.2.1) from funext fun x => e91 F x.1 x.2.1] at h⟩
theorem hf40 : Tryz.prog.funcs[40]? = some Tryz.f40 := by kernel_rfl
theorem en40 : Proofs.Enters Tryz.prog 40 := Proofs.enters_of hf40 (by kernel_rfl) rfl
noncomputable def convoy_Fastest (F : Nat) (a0 : Convoy) (a1 : Cell) : Option (Int × Int) :=
  bnd (convoy_met F a0 a1) (fun (x : Int) => brk (x != (0 : Int)) (some (((0 : Int), x))) (bnd (convoy_Convoy_most F a0 a1) (fun (x_1 : Int) => bnd (convoy_Convoy_fastest F a0 x_1 a1.Press.Hi) (fun (x_2 : Int) => brk (x_2 == (0 : Int)) (some (((0 : Int), (4 : Int)))) (some ((x_2, (0 : Int))))))))
noncomputable def s40 (F : Nat) : CS E.G := ⟨40, [.v 12 true, .v 20 true], [.v 0 false [], .v 0 false []], fun x => convoy_Fastest F x.1 x.2.1⟩
noncomputable def cx40 (F : Nat) : Ctx E := ⟨[s86 F, s87 F, s91 F], [], F, []⟩
noncomputable def h40 : Hint := (.c .n .n)
theorem e40 (F : Nat) (a0 : Convoy) (a1 : Cell) : fnK (E := E) (cx40 F) Tryz.f40 gl [.v 12 true, .v 20 true] [.v 0 false [], .v 0 false []] h40 (a0, a1, ()) = convoy_Fastest F a0 a1 := by kernel_rfl
theorem c40 (F : Nat) : CSok E gl (s40 F) := ⟨en40, by
  have h := fn_sound (E := E) (gl := gl) (cx := cx40 F) mix (allC (c86 F) (allC (c87 F) (allC (c91 F) all0))) inl0 gl_up gl_lt hf40 (ps := [.v 12 true, .v 20 true]) (rs := [.v 0 false [], .v 0 false []]) (by decide) h40
  rwa [show fnK (E := E) (cx40 F) Tryz.f40 gl [.v 12 true, .v 20 true] [.v 0 false [], .v 0 false []] h40 = (fun x : AT E.G.car [.v 12 true, .v 20 true] => convoy_Fastest F x.1 x.2.1) from funext fun x => e40 F x.1 x.2.1] at h⟩
theorem hf61 : Tryz.prog.funcs[61]? = some Tryz.f61 := by kernel_rfl
theorem en61 : Proofs.Enters Tryz.prog 61 := Proofs.enters_of hf61 (by kernel_rfl) rfl
noncomputable def law03_Level (F : Nat) (a0 : Int) (a1 : Int) : Option (Cell) :=
  some (Cell.mk (Span.mk (100 : Int) (100 : Int)) (Span.mk a0 a1) (Span.mk (0 : Int) (0 : Int)) (Span.mk (0 : Int) (0 : Int)))
noncomputable def s61 (F : Nat) : CS E.G := ⟨61, [.v 0 false, .v 0 false], [.v 20 true []], fun x => law03_Level F x.1 x.2.1⟩
noncomputable def cx61 (F : Nat) : Ctx E := ⟨[], [], F, []⟩
noncomputable def h61 : Hint := .n
theorem e61 (F : Nat) (a0 : Int) (a1 : Int) : fnK (E := E) (cx61 F) Tryz.f61 gl [.v 0 false, .v 0 false] [.v 20 true []] h61 (a0, a1, ()) = law03_Level F a0 a1 := by kernel_rfl
theorem c61 (F : Nat) : CSok E gl (s61 F) := ⟨en61, by
  have h := fn_sound (E := E) (gl := gl) (cx := cx61 F) mix all0 inl0 gl_up gl_lt hf61 (ps := [.v 0 false, .v 0 false]) (rs := [.v 20 true []]) (by decide) h61
  rwa [show fnK (E := E) (cx61 F) Tryz.f61 gl [.v 0 false, .v 0 false] [.v 20 true []] h61 = (fun x : AT E.G.car [.v 0 false, .v 0 false] => law03_Level F x.1 x.2.1) from funext fun x => e61 F x.1 x.2.1] at h⟩
theorem hf113 : Tryz.prog.funcs[113]? = some Tryz.f113 := by kernel_rfl
theorem en113 : Proofs.Enters Tryz.prog 113 := Proofs.enters_of hf113 (by kernel_rfl) rfl
noncomputable def slices_Clone_hull_Point (F : Nat) (a0 : List Point) : Option ((List Point)) :=
  chk ((0 : Nat) + a0.length ≤ (1000000 : Nat)) (some ([] ++ a0))
noncomputable def s113 (F : Nat) : CS E.G := ⟨113, [.sl 6], [.sl 6 111], fun x => slices_Clone_hull_Point F x.1⟩
noncomputable def cx113 (F : Nat) : Ctx E := ⟨[], [], F, []⟩
noncomputable def h113 : Hint := .n
theorem e113n (F : Nat) (c : Nat) : fnK (E := E) (cx113 F) Tryz.f113 gl [.nl] [.sl 6 111] .n (c, ()) = some ([]) := by kernel_rfl
theorem e113s (F : Nat) (a0 : List Point) : fnK (E := E) (cx113 F) Tryz.f113 gl [.sn 6] [.sl 6 111] h113 (a0, ()) = slices_Clone_hull_Point F a0 := by kernel_rfl
theorem c113 (F : Nat) : CSok E gl (s113 F) := ⟨en113, by
  have h0 := fn_sound (E := E) (gl := gl) (cx := cx113 F) mix all0 inl0 gl_up gl_lt hf113 (ps := [.nl]) (rs := [.sl 6 111]) (by decide) .n
  have h1 := fn_sound (E := E) (gl := gl) (cx := cx113 F) mix all0 inl0 gl_up gl_lt hf113 (ps := [.sn 6]) (rs := [.sl 6 111]) (by decide) h113
  rw [show fnK (E := E) (cx113 F) Tryz.f113 gl [.nl] [.sl 6 111] .n = (fun x : AT E.G.car [.nl] => some ([])) from funext fun x => e113n F x.1] at h0
  rw [show fnK (E := E) (cx113 F) Tryz.f113 gl [.sn 6] [.sl 6 111] h113 = (fun x : AT E.G.car [.sn 6] => slices_Clone_hull_Point F x.1) from funext fun x => e113s F x.1] at h1
  exact contract_nil (E := E) (t := 6) (rs := [.sl 6 111]) (f := slices_Clone_hull_Point F) (f0 := fun _ => some ([])) (f1 := slices_Clone_hull_Point F) h0 h1 (fun _ _ h => (show slices_Clone_hull_Point F [] = some [] by kernel_rfl).symm.trans h) (fun _ _ h => h)⟩
theorem hf112 : Tryz.prog.funcs[112]? = some Tryz.f112 := by kernel_rfl
theorem en112 : Proofs.Enters Tryz.prog 112 := Proofs.enters_of hf112 (by kernel_rfl) rfl
noncomputable def law03_CopyShip (F : Nat) (a0 : Ship) : Option (Ship) :=
  bnd (slices_Clone_hull_Point F a0.Thrust) (fun (x : List (Point)) => bnd (slices_Clone_hull_Point F a0.Water) (fun (x_1 : List (Point)) => bnd (slices_Clone_hull_Point F a0.Ice) (fun (x_2 : List (Point)) => some (Ship.mk a0.Class a0.Power a0.Draught a0.Tonnes x x_1 x_2 a0.Slow a0.Brash a0.Ridge a0.Press))))
noncomputable def s112 (F : Nat) : CS E.G := ⟨112, [.v 8 true], [.v 8 true [111, 111, 111]], fun x => law03_CopyShip F x.1⟩
noncomputable def cx112 (F : Nat) : Ctx E := ⟨[s113 F], [], F, []⟩
noncomputable def h112 : Hint := .n
theorem e112 (F : Nat) (a0 : Ship) : fnK (E := E) (cx112 F) Tryz.f112 gl [.v 8 true] [.v 8 true [111, 111, 111]] h112 (a0, ()) = law03_CopyShip F a0 := by kernel_rfl
theorem c112 (F : Nat) : CSok E gl (s112 F) := ⟨en112, by
  have h := fn_sound (E := E) (gl := gl) (cx := cx112 F) mix (allC (c113 F) all0) inl0 gl_up gl_lt hf112 (ps := [.v 8 true]) (rs := [.v 8 true [111, 111, 111]]) (by decide) h112
  rwa [show fnK (E := E) (cx112 F) Tryz.f112 gl [.v 8 true] [.v 8 true [111, 111, 111]] h112 = (fun x : AT E.G.car [.v 8 true] => law03_CopyShip F x.1) from funext fun x => e112 F x.1] at h⟩
theorem hf52 : Tryz.prog.funcs[52]? = some Tryz.f52 := by kernel_rfl
theorem en52 : Proofs.Enters Tryz.prog 52 := Proofs.enters_of hf52 (by kernel_rfl) rfl
noncomputable def law05_copyMember (F : Nat) (a0 : Member) : Option (Member) :=
  bnd (law03_CopyShip F a0.Ship) (fun (x : Ship) => bnd (slices_Clone_hull_Point F a0.Stop) (fun (x_1 : List (Point)) => some (Member.mk x x_1 a0.Length a0.Delay a0.Short)))
noncomputable def s52 (F : Nat) : CS E.G := ⟨52, [.v 9 true], [.v 9 true [111, 111, 111, 111]], fun x => law05_copyMember F x.1⟩
noncomputable def cx52 (F : Nat) : Ctx E := ⟨[s112 F, s113 F], [], F, []⟩
noncomputable def h52 : Hint := .n
theorem e52 (F : Nat) (a0 : Member) : fnK (E := E) (cx52 F) Tryz.f52 gl [.v 9 true] [.v 9 true [111, 111, 111, 111]] h52 (a0, ()) = law05_copyMember F a0 := by kernel_rfl
theorem c52 (F : Nat) : CSok E gl (s52 F) := ⟨en52, by
  have h := fn_sound (E := E) (gl := gl) (cx := cx52 F) mix (allC (c112 F) (allC (c113 F) all0)) inl0 gl_up gl_lt hf52 (ps := [.v 9 true]) (rs := [.v 9 true [111, 111, 111, 111]]) (by decide) h52
  rwa [show fnK (E := E) (cx52 F) Tryz.f52 gl [.v 9 true] [.v 9 true [111, 111, 111, 111]] h52 = (fun x : AT E.G.car [.v 9 true] => law05_copyMember F x.1) from funext fun x => e52 F x.1] at h⟩
theorem hf65 : Tryz.prog.funcs[65]? = some Tryz.f65 := by kernel_rfl
theorem en65 : Proofs.Enters Tryz.prog 65 := Proofs.enters_of hf65 (by kernel_rfl) rfl
noncomputable def slices_Clone_convoy_Member (F : Nat) (a0 : List Member) : Option ((List Member)) :=
  chk ((0 : Nat) + a0.length ≤ (1000000 : Nat)) (some ([] ++ a0))
noncomputable def s65 (F : Nat) : CS E.G := ⟨65, [.sl 9], [.sl 9 26], fun x => slices_Clone_convoy_Member F x.1⟩
noncomputable def cx65 (F : Nat) : Ctx E := ⟨[], [], F, []⟩
noncomputable def h65 : Hint := .n
theorem e65n (F : Nat) (c : Nat) : fnK (E := E) (cx65 F) Tryz.f65 gl [.nl] [.sl 9 26] .n (c, ()) = some ([]) := by kernel_rfl
theorem e65s (F : Nat) (a0 : List Member) : fnK (E := E) (cx65 F) Tryz.f65 gl [.sn 9] [.sl 9 26] h65 (a0, ()) = slices_Clone_convoy_Member F a0 := by kernel_rfl
theorem c65 (F : Nat) : CSok E gl (s65 F) := ⟨en65, by
  have h0 := fn_sound (E := E) (gl := gl) (cx := cx65 F) mix all0 inl0 gl_up gl_lt hf65 (ps := [.nl]) (rs := [.sl 9 26]) (by decide) .n
  have h1 := fn_sound (E := E) (gl := gl) (cx := cx65 F) mix all0 inl0 gl_up gl_lt hf65 (ps := [.sn 9]) (rs := [.sl 9 26]) (by decide) h65
  rw [show fnK (E := E) (cx65 F) Tryz.f65 gl [.nl] [.sl 9 26] .n = (fun x : AT E.G.car [.nl] => some ([])) from funext fun x => e65n F x.1] at h0
  rw [show fnK (E := E) (cx65 F) Tryz.f65 gl [.sn 9] [.sl 9 26] h65 = (fun x : AT E.G.car [.sn 9] => slices_Clone_convoy_Member F x.1) from funext fun x => e65s F x.1] at h1
  exact contract_nil (E := E) (t := 9) (rs := [.sl 9 26]) (f := slices_Clone_convoy_Member F) (f0 := fun _ => some ([])) (f1 := slices_Clone_convoy_Member F) h0 h1 (fun _ _ h => (show slices_Clone_convoy_Member F [] = some [] by kernel_rfl).symm.trans h) (fun _ _ h => h)⟩
theorem hf11 : Tryz.prog.funcs[11]? = some Tryz.f11 := by kernel_rfl
theorem en11 : Proofs.Enters Tryz.prog 11 := Proofs.enters_of hf11 (by kernel_rfl) rfl
noncomputable def law05_CopyConvoy (F : Nat) (a0 : Convoy) : Option (Convoy) :=
  bnd (law05_copyMember F a0.Breaker) (fun (x : Member) => bnd (slices_Clone_convoy_Member F a0.Ships) (fun (x_1 : List (Member)) => loopC (fun (x_2 : (Int) × (List (Member))) => fun x_3 => brk (decide (x_2.fst < (↑(List.length x_1) : Int))) (chk ((0 : Int) ≤ x_2.fst ∧ x_2.fst < (↑(List.length x_2.snd) : Int)) (bnd (law05_copyMember F (List.getD x_2.snd (Int.toNat x_2.fst) (Member.mk (Ship.mk (0 : Int) (0 : Int) (0 : Int) (0 : Int) [] [] [] (0 : Int) (0 : Int) (0 : Int) (0 : Int)) [] (0 : Int) (0 : Int) (0 : Int)))) (fun (x_4 : Member) => chk ((0 : Int) ≤ x_2.fst ∧ x_2.fst < (↑(List.length x_2.snd) : Int)) (chk (InR (x_2.fst + (1 : Int))) (x_3 ((x_2.fst + (1 : Int), List.set x_2.snd (Int.toNat x_2.fst) x_4))))))) (some (Convoy.mk x x_2.snd a0.Clear a0.Close))) (F) (((0 : Int), x_1))))
noncomputable def s11 (F : Nat) : CS E.G := ⟨11, [.v 12 true], [.v 12 true [111, 111, 111, 111, 26]], fun x => law05_CopyConvoy F x.1⟩
noncomputable def cx11 (F : Nat) : Ctx E := ⟨[s52 F, s65 F], [], F, []⟩
noncomputable def h11 : Hint := (.l ⟨[.i, .l 9], [16, 32, 224], [0, 6, 7, 12, 11, 10, 9, 8], [(240, .i IntKind.i64)], [], [], [(12, 26, 9)], 13⟩ .n)
theorem e11 (F : Nat) (a0 : Convoy) : fnK (E := E) (cx11 F) Tryz.f11 gl [.v 12 true] [.v 12 true [111, 111, 111, 111, 26]] h11 (a0, ()) = law05_CopyConvoy F a0 := by kernel_rfl
theorem c11 (F : Nat) : CSok E gl (s11 F) := ⟨en11, by
  have h := fn_sound (E := E) (gl := gl) (cx := cx11 F) mix (allC (c52 F) (allC (c65 F) all0)) inl0 gl_up gl_lt hf11 (ps := [.v 12 true]) (rs := [.v 12 true [111, 111, 111, 111, 26]]) (by decide) h11
  rwa [show fnK (E := E) (cx11 F) Tryz.f11 gl [.v 12 true] [.v 12 true [111, 111, 111, 111, 26]] h11 = (fun x : AT E.G.car [.v 12 true] => law05_CopyConvoy F x.1) from funext fun x => e11 F x.1] at h⟩
theorem hf121 : Tryz.prog.funcs[121]? = some Tryz.f121 := by kernel_rfl
theorem en121 : Proofs.Enters Tryz.prog 121 := Proofs.enters_of hf121 (by kernel_rfl) rfl
noncomputable def law03_Example (F : Nat) : Option (Ship) :=
  some (Ship.mk (3 : Int) (6000 : Int) (800 : Int) (9000 : Int) [Point.mk (0 : Int) (1000 : Int), Point.mk (100 : Int) (800 : Int), Point.mk (200 : Int) (0 : Int)] [Point.mk (0 : Int) (0 : Int), Point.mk (200 : Int) (400 : Int)] [Point.mk (0 : Int) (0 : Int), Point.mk (400 : Int) (2000 : Int)] (0 : Int) (20 : Int) (10 : Int) (100 : Int))
noncomputable def s121 (F : Nat) : CS E.G := ⟨121, [], [.v 8 true [111, 111, 111]], fun x => law03_Example F⟩
noncomputable def cx121 (F : Nat) : Ctx E := ⟨[], [], F, []⟩
noncomputable def h121 : Hint := .n
theorem e121 (F : Nat) : fnK (E := E) (cx121 F) Tryz.f121 gl [] [.v 8 true [111, 111, 111]] h121 (()) = law03_Example F := by kernel_rfl
theorem c121 (F : Nat) : CSok E gl (s121 F) := ⟨en121, by
  have h := fn_sound (E := E) (gl := gl) (cx := cx121 F) mix all0 inl0 gl_up gl_lt hf121 (ps := []) (rs := [.v 8 true [111, 111, 111]]) (by decide) h121
  rwa [show fnK (E := E) (cx121 F) Tryz.f121 gl [] [.v 8 true [111, 111, 111]] h121 = (fun x : AT E.G.car [] => law03_Example F) from funext fun x => e121 F] at h⟩
theorem hf62 : Tryz.prog.funcs[62]? = some Tryz.f62 := by kernel_rfl
theorem en62 : Proofs.Enters Tryz.prog 62 := Proofs.enters_of hf62 (by kernel_rfl) rfl
noncomputable def law05_Example (F : Nat) (a0 : Int) : Option (Convoy) :=
  bnd (law03_Example F) (fun (x : Ship) => loopC (fun (x_1 : (Int) × ((List (Member)) × ((List (Point)) × ((List (Point)) × ((List (Point)) × (List (Point))))))) => fun x_2 => brk (decide (x_1.fst < a0)) (chk (List.length x_1.snd.fst + [Member.mk (Ship.mk x.Class x.Power x.Draught x.Tonnes x_1.snd.snd.snd.snd.snd x_1.snd.snd.snd.snd.fst x_1.snd.snd.snd.fst x.Slow x.Brash x.Ridge x.Press) x_1.snd.snd.fst (120 : Int) (30 : Int) (100 : Int)].length ≤ (1000000 : Nat)) (chk (InR (x_1.fst + (1 : Int))) (x_2 ((x_1.fst + (1 : Int), x_1.snd.fst ++ [Member.mk (Ship.mk x.Class x.Power x.Draught x.Tonnes x_1.snd.snd.snd.snd.snd x_1.snd.snd.snd.snd.fst x_1.snd.snd.snd.fst x.Slow x.Brash x.Ridge x.Press) x_1.snd.snd.fst (120 : Int) (30 : Int) (100 : Int)], x_1.snd.snd))))) (bnd (law05_CopyConvoy F (Convoy.mk (Member.mk (Ship.mk x.Class x.Power x.Draught x.Tonnes x_1.snd.snd.snd.snd.snd x_1.snd.snd.snd.snd.fst x_1.snd.snd.snd.fst x.Slow x.Brash x.Ridge x.Press) x_1.snd.snd.fst (120 : Int) (30 : Int) (100 : Int)) x_1.snd.fst (50 : Int) (Numbers.mk (60 : Int) (4 : Int) (2 : Int) (0 : Int)))) (fun (x_3 : Convoy) => some (x_3)))) (F) (((0 : Int), [], [Point.mk (0 : Int) (0 : Int), Point.mk (200 : Int) (1000 : Int)], x.Ice, x.Water, x.Thrust)))
noncomputable def s62 (F : Nat) : CS E.G := ⟨62, [.v 0 false], [.v 12 true [111, 111, 111, 111, 26]], fun x => law05_Example F x.1⟩
noncomputable def cx62 (F : Nat) : Ctx E := ⟨[s11 F, s121 F], [], F, []⟩
noncomputable def h62 : Hint := (.l ⟨[.i, .l 9, .l 6, .l 6, .l 6, .l 6], [32, 64, 48, 208], [0, 1, 7, 6], [(224, .i IntKind.i64)], [], [(7, 15, .h 8 26 9), (7, 11, .x 9 6), (7, 6, .x 10 6), (7, 5, .x 11 6), (7, 4, .x 12 6), (6, 11, .r 9), (6, 6, .r 10), (6, 5, .r 11), (6, 4, .r 12)], [], 13⟩ .n)
theorem e62 (F : Nat) (a0 : Int) : fnK (E := E) (cx62 F) Tryz.f62 gl [.v 0 false] [.v 12 true [111, 111, 111, 111, 26]] h62 (a0, ()) = law05_Example F a0 := by kernel_rfl
theorem c62 (F : Nat) : CSok E gl (s62 F) := ⟨en62, by
  have h := fn_sound (E := E) (gl := gl) (cx := cx62 F) mix (allC (c11 F) (allC (c121 F) all0)) inl0 gl_up gl_lt hf62 (ps := [.v 0 false]) (rs := [.v 12 true [111, 111, 111, 111, 26]]) (by decide) h62
  rwa [show fnK (E := E) (cx62 F) Tryz.f62 gl [.v 0 false] [.v 12 true [111, 111, 111, 111, 26]] h62 = (fun x : AT E.G.car [.v 0 false] => law05_Example F x.1) from funext fun x => e62 F x.1] at h⟩
theorem hf63 : Tryz.prog.funcs[63]? = some Tryz.f63 := by kernel_rfl
theorem en63 : Proofs.Enters Tryz.prog 63 := Proofs.enters_of hf63 (by kernel_rfl) rfl
noncomputable def slices_Equal_int (F : Nat) (a0 : List Int) (a1 : List Int) : Option (Bool) :=
  brk ((↑a0.length : Int) != (↑a1.length : Int)) (some (false)) (loopC (fun (x : Int) => fun x_1 => brk (decide (x < (↑a0.length : Int))) (chk ((0 : Int) ≤ x ∧ x < (↑a0.length : Int)) (chk ((0 : Int) ≤ x ∧ x < (↑a1.length : Int)) (brk (a0.getD (Int.toNat x) (0 : Int) != a1.getD (Int.toNat x) (0 : Int)) (some (false)) (chk (InR (x + (1 : Int))) (x_1 (x + (1 : Int))))))) (some (true))) (F) ((0 : Int)))
noncomputable def s63 (F : Nat) : CS E.G := ⟨63, [.sl 0, .sl 0], [.v 1 false []], fun x => slices_Equal_int F x.1 x.2.1⟩
noncomputable def cx63 (F : Nat) : Ctx E := ⟨[], [], F, []⟩
noncomputable def h63 : Hint := (.c .n (.l ⟨[.i], [0, 16, 192], [0, 1, 2], [(208, .i IntKind.i64)], [], [], [], 3⟩ (.c .n .n)))
theorem e63 (F : Nat) (a0 : List Int) (a1 : List Int) : fnK (E := E) (cx63 F) Tryz.f63 gl [.sl 0, .sl 0] [.v 1 false []] h63 (a0, a1, ()) = slices_Equal_int F a0 a1 := by kernel_rfl
theorem c63 (F : Nat) : CSok E gl (s63 F) := ⟨en63, by
  have h := fn_sound (E := E) (gl := gl) (cx := cx63 F) mix all0 inl0 gl_up gl_lt hf63 (ps := [.sl 0, .sl 0]) (rs := [.v 1 false []]) (by decide) h63
  rwa [show fnK (E := E) (cx63 F) Tryz.f63 gl [.sl 0, .sl 0] [.v 1 false []] h63 = (fun x : AT E.G.car [.sl 0, .sl 0] => slices_Equal_int F x.1 x.2.1) from funext fun x => e63 F x.1 x.2.1] at h⟩
theorem hf10 : Tryz.prog.funcs[10]? = some Tryz.f10 := by kernel_rfl
theorem en10 : Proofs.Enters Tryz.prog 10 := Proofs.enters_of hf10 (by kernel_rfl) rfl
noncomputable def law05_awake (F : Nat) : Option (Bool) :=
  bnd (law05_Example F (2 : Int)) (fun (x : Convoy) => bnd (convoy_Way F (100 : Int) (60 : Int)) (fun (x_1 : (Int) × ((Int) × (Int))) => bnd (convoy_Halt F x.Breaker (10 : Int)) (fun (x_2 : (Span) × (Int)) => bnd (convoy_Gaps F x (100 : Int)) (fun (x_3 : (List (Int)) × (Int)) => bnd (convoy_Tail F x (100 : Int)) (fun (x_4 : (Int) × (Int)) => bnd (convoy_Open F x (100 : Int) (1 : Int)) (fun (x_5 : (Int) × (Int)) => bnd (convoy_Rest F x (100 : Int) [(605 : Int), (605 : Int)] (0 : Int) [(100 : Int), (655 : Int), (300 : Int)]) (fun (x_6 : (List (Int)) × (Int)) => bnd (law03_Level F (40 : Int) (60 : Int)) (fun (x_7 : Cell) => bnd (convoy_Fastest F x x_7) (fun (x_8 : (Int) × (Int)) => brk (x_1.snd.snd == (0 : Int) && x_2.snd == (0 : Int) && x_3.snd == (0 : Int) && x_4.snd == (0 : Int) && x_5.snd == (0 : Int) && x_6.snd == (0 : Int) && x_8.snd == (0 : Int) && x_1.fst == (308 : Int) && x_1.snd.fst == (309 : Int)) (brk (x_2.fst.Lo == (50 : Int) && (x_2.fst.Hi == (66 : Int) && true)) (bnd (slices_Equal_int F x_3.fst [(605 : Int), (605 : Int)]) (fun (x_9 : Bool) => brk (x_9) (brk (x_4.fst == (1450 : Int)) (brk (x_5.fst == (1234 : Int)) (bnd (slices_Equal_int F x_6.fst [(50 : Int), (960 : Int)]) (fun (x_10 : Bool) => some (x_10 && x_8.fst == (130 : Int)))) (some (false))) (some (false))) (some (false)))) (some (false))) (some (false)))))))))))
noncomputable def s10 (F : Nat) : CS E.G := ⟨10, [], [.v 1 false []], fun x => law05_awake F⟩
noncomputable def cx10 (F : Nat) : Ctx E := ⟨[s13 F, s17 F, s19 F, s22 F, s24 F, s27 F, s40 F, s61 F, s62 F, s63 F], [], F, []⟩
noncomputable def h10 : Hint := (.k (.k (.k (.k (.k (.k (.k (.k (.k (.k (.k (.k (.k (.k (.k (.k (.k (.k (.k (.k (.k (.k (.k (.k (.k (.k (.s (.s (.s (.s (.s .n .n) .n) .n) .n) .n)))))))))))))))))))))))))))
theorem e10 (F : Nat) : fnK (E := E) (cx10 F) Tryz.f10 gl [] [.v 1 false []] h10 (()) = law05_awake F := by kernel_rfl
theorem c10 (F : Nat) : CSok E gl (s10 F) := ⟨en10, by
  have h := fn_sound (E := E) (gl := gl) (cx := cx10 F) mix (allC (c13 F) (allC (c17 F) (allC (c19 F) (allC (c22 F) (allC (c24 F) (allC (c27 F) (allC (c40 F) (allC (c61 F) (allC (c62 F) (allC (c63 F) all0)))))))))) inl0 gl_up gl_lt hf10 (ps := []) (rs := [.v 1 false []]) (by decide) h10
  rwa [show fnK (E := E) (cx10 F) Tryz.f10 gl [] [.v 1 false []] h10 = (fun x : AT E.G.car [] => law05_awake F) from funext fun x => e10 F] at h⟩
theorem hf150 : Tryz.prog.funcs[150]? = some Tryz.f150 := by kernel_rfl
theorem en150 : Proofs.Enters Tryz.prog 150 := Proofs.enters_of hf150 (by kernel_rfl) rfl
noncomputable def law03_points (F : Nat) (a0 : List Point) : Option ((List Point)) :=
  loopC (fun (x : (Int) × (List (Point))) => fun x_1 => brk (decide (x.fst < (↑a0.length : Int))) (chk ((0 : Int) ≤ x.fst ∧ x.fst < (↑a0.length : Int)) (chk (List.length x.snd + [a0.getD (Int.toNat x.fst) (Point.mk (0 : Int) (0 : Int))].length ≤ (1000000 : Nat)) (chk (InR (x.fst + (1 : Int))) (x_1 ((x.fst + (1 : Int), x.snd ++ [a0.getD (Int.toNat x.fst) (Point.mk (0 : Int) (0 : Int))])))))) (some (x.snd))) (F) (((0 : Int), []))
noncomputable def s150 (F : Nat) : CS E.G := ⟨150, [.sl 6], [.sl 6 179], fun x => law03_points F x.1⟩
noncomputable def cx150 (F : Nat) : Ctx E := ⟨[], [], F, []⟩
noncomputable def h150 : Hint := (.l ⟨[.i, .l 6], [96, 112], [0, 1], [(128, .i IntKind.i64), (48, .h 2 179 6)], [], [], [], 3⟩ .n)
theorem e150 (F : Nat) (a0 : List Point) : fnK (E := E) (cx150 F) Tryz.f150 gl [.sl 6] [.sl 6 179] h150 (a0, ()) = law03_points F a0 := by kernel_rfl
theorem c150 (F : Nat) : CSok E gl (s150 F) := ⟨en150, by
  have h := fn_sound (E := E) (gl := gl) (cx := cx150 F) mix all0 inl0 gl_up gl_lt hf150 (ps := [.sl 6]) (rs := [.sl 6 179]) (by decide) h150
  rwa [show fnK (E := E) (cx150 F) Tryz.f150 gl [.sl 6] [.sl 6 179] h150 = (fun x : AT E.G.car [.sl 6] => law03_points F x.1) from funext fun x => e150 F x.1] at h⟩
theorem hf117 : Tryz.prog.funcs[117]? = some Tryz.f117 := by kernel_rfl
theorem en117 : Proofs.Enters Tryz.prog 117 := Proofs.enters_of hf117 (by kernel_rfl) rfl
noncomputable def law03_Ship (F : Nat) (a0 : Ship) : Option (Ship2) :=
  bnd (law03_points F a0.Thrust) (fun (x : List (Point)) => bnd (law03_points F a0.Water) (fun (x_1 : List (Point)) => bnd (law03_points F a0.Ice) (fun (x_2 : List (Point)) => some (Ship2.mk a0.Class a0.Power a0.Draught a0.Tonnes x x_1 x_2 a0.Slow a0.Brash a0.Ridge a0.Press))))
noncomputable def s117 (F : Nat) : CS E.G := ⟨117, [.v 8 true], [.v 15 true [179, 179, 179]], fun x => law03_Ship F x.1⟩
noncomputable def cx117 (F : Nat) : Ctx E := ⟨[s150 F], [], F, []⟩
noncomputable def h117 : Hint := .n
theorem e117 (F : Nat) (a0 : Ship) : fnK (E := E) (cx117 F) Tryz.f117 gl [.v 8 true] [.v 15 true [179, 179, 179]] h117 (a0, ()) = law03_Ship F a0 := by kernel_rfl
theorem c117 (F : Nat) : CSok E gl (s117 F) := ⟨en117, by
  have h := fn_sound (E := E) (gl := gl) (cx := cx117 F) mix (allC (c150 F) all0) inl0 gl_up gl_lt hf117 (ps := [.v 8 true]) (rs := [.v 15 true [179, 179, 179]]) (by decide) h117
  rwa [show fnK (E := E) (cx117 F) Tryz.f117 gl [.v 8 true] [.v 15 true [179, 179, 179]] h117 = (fun x : AT E.G.car [.v 8 true] => law03_Ship F x.1) from funext fun x => e117 F x.1] at h⟩
theorem hf56 : Tryz.prog.funcs[56]? = some Tryz.f56 := by kernel_rfl
theorem en56 : Proofs.Enters Tryz.prog 56 := Proofs.enters_of hf56 (by kernel_rfl) rfl
noncomputable def law05_member (F : Nat) (a0 : Member) : Option (Member2) :=
  loopC (fun (x : (List (Point)) × (Int)) => fun x_1 => brk (decide (x.snd < (↑a0.Stop.length : Int))) (chk ((0 : Int) ≤ x.snd ∧ x.snd < (↑a0.Stop.length : Int)) (chk (List.length x.fst + [a0.Stop.getD (Int.toNat x.snd) (Point.mk (0 : Int) (0 : Int))].length ≤ (1000000 : Nat)) (chk (InR (x.snd + (1 : Int))) (x_1 ((x.fst ++ [a0.Stop.getD (Int.toNat x.snd) (Point.mk (0 : Int) (0 : Int))], x.snd + (1 : Int))))))) (bnd (law03_Ship F a0.Ship) (fun (x_2 : Ship2) => some (Member2.mk x_2 x.fst a0.Length a0.Delay a0.Short)))) (F) (([], (0 : Int)))
noncomputable def s56 (F : Nat) : CS E.G := ⟨56, [.v 9 true], [.v 16 true [179, 179, 179, 179]], fun x => law05_member F x.1⟩
noncomputable def cx56 (F : Nat) : Ctx E := ⟨[s117 F], [], F, []⟩
noncomputable def h56 : Hint := (.l ⟨[.l 6, .i], [16, 32, 128, 112], [0, 5, 6, 4, 3, 2, 1], [(48, .h 7 179 6), (144, .i IntKind.i64)], [], [], [], 8⟩ .n)
theorem e56 (F : Nat) (a0 : Member) : fnK (E := E) (cx56 F) Tryz.f56 gl [.v 9 true] [.v 16 true [179, 179, 179, 179]] h56 (a0, ()) = law05_member F a0 := by kernel_rfl
theorem c56 (F : Nat) : CSok E gl (s56 F) := ⟨en56, by
  have h := fn_sound (E := E) (gl := gl) (cx := cx56 F) mix (allC (c117 F) all0) inl0 gl_up gl_lt hf56 (ps := [.v 9 true]) (rs := [.v 16 true [179, 179, 179, 179]]) (by decide) h56
  rwa [show fnK (E := E) (cx56 F) Tryz.f56 gl [.v 9 true] [.v 16 true [179, 179, 179, 179]] h56 = (fun x : AT E.G.car [.v 9 true] => law05_member F x.1) from funext fun x => e56 F x.1] at h⟩
theorem hf12 : Tryz.prog.funcs[12]? = some Tryz.f12 := by kernel_rfl
theorem en12 : Proofs.Enters Tryz.prog 12 := Proofs.enters_of hf12 (by kernel_rfl) rfl
noncomputable def law05_Convoy (F : Nat) (a0 : Convoy) : Option (Convoy2) :=
  bnd (law05_member F a0.Breaker) (fun (x : Member2) => loopC (fun (x_1 : (Int) × (List (Member2))) => fun x_2 => brk (decide (x_1.fst < (↑a0.Ships.length : Int))) (chk ((0 : Int) ≤ x_1.fst ∧ x_1.fst < (↑a0.Ships.length : Int)) (bnd (law05_member F (a0.Ships.getD (Int.toNat x_1.fst) (Member.mk (Ship.mk (0 : Int) (0 : Int) (0 : Int) (0 : Int) [] [] [] (0 : Int) (0 : Int) (0 : Int) (0 : Int)) [] (0 : Int) (0 : Int) (0 : Int)))) (fun (x_3 : Member2) => chk (List.length x_1.snd + [x_3].length ≤ (1000000 : Nat)) (chk (InR (x_1.fst + (1 : Int))) (x_2 ((x_1.fst + (1 : Int), x_1.snd ++ [x_3]))))))) (some (Convoy2.mk x x_1.snd a0.Clear a0.Close))) (F) (((0 : Int), [])))
noncomputable def s12 (F : Nat) : CS E.G := ⟨12, [.v 12 true], [.v 18 true [179, 179, 179, 179, 39]], fun x => law05_Convoy F x.1⟩
noncomputable def cx12 (F : Nat) : Ctx E := ⟨[s56 F], [], F, []⟩
noncomputable def h12 : Hint := (.l ⟨[.i, .l 16], [32, 256, 48, 240], [0, 7, 12, 5, 11, 10, 9, 8], [(272, .i IntKind.i64)], [], [(12, 15, .h 13 39 16)], [], 14⟩ .n)
theorem e12 (F : Nat) (a0 : Convoy) : fnK (E := E) (cx12 F) Tryz.f12 gl [.v 12 true] [.v 18 true [179, 179, 179, 179, 39]] h12 (a0, ()) = law05_Convoy F a0 := by kernel_rfl
theorem c12 (F : Nat) : CSok E gl (s12 F) := ⟨en12, by
  have h := fn_sound (E := E) (gl := gl) (cx := cx12 F) mix (allC (c56 F) all0) inl0 gl_up gl_lt hf12 (ps := [.v 12 true]) (rs := [.v 18 true [179, 179, 179, 179, 39]]) (by decide) h12
  rwa [show fnK (E := E) (cx12 F) Tryz.f12 gl [.v 12 true] [.v 18 true [179, 179, 179, 179, 39]] h12 = (fun x : AT E.G.car [.v 12 true] => law05_Convoy F x.1) from funext fun x => e12 F x.1] at h⟩
theorem hf21 : Tryz.prog.funcs[21]? = some Tryz.f21 := by kernel_rfl
theorem en21 : Proofs.Enters Tryz.prog 21 := Proofs.enters_of hf21 (by kernel_rfl) rfl
noncomputable def kit_SameInts (F : Nat) (a0 : List Int) (a1 : List Int) : Option (Bool) :=
  brk ((↑a0.length : Int) != (↑a1.length : Int)) (some (false)) (loopC (fun (x : Int) => fun x_1 => brk (decide (x < (↑a0.length : Int))) (chk ((0 : Int) ≤ x ∧ x < (↑a0.length : Int)) (chk ((0 : Int) ≤ x ∧ x < (↑a1.length : Int)) (brk (a0.getD (Int.toNat x) (0 : Int) != a1.getD (Int.toNat x) (0 : Int)) (some (false)) (chk (InR (x + (1 : Int))) (x_1 (x + (1 : Int))))))) (some (true))) (F) ((0 : Int)))
noncomputable def s21 (F : Nat) : CS E.G := ⟨21, [.sl 0, .sl 0], [.v 1 false []], fun x => kit_SameInts F x.1 x.2.1⟩
noncomputable def cx21 (F : Nat) : Ctx E := ⟨[], [], F, []⟩
noncomputable def h21 : Hint := (.c .n (.l ⟨[.i], [0, 16], [0, 1, 2], [(80, .i IntKind.i64)], [], [], [], 3⟩ (.c .n .n)))
theorem e21 (F : Nat) (a0 : List Int) (a1 : List Int) : fnK (E := E) (cx21 F) Tryz.f21 gl [.sl 0, .sl 0] [.v 1 false []] h21 (a0, a1, ()) = kit_SameInts F a0 a1 := by kernel_rfl
theorem c21 (F : Nat) : CSok E gl (s21 F) := ⟨en21, by
  have h := fn_sound (E := E) (gl := gl) (cx := cx21 F) mix all0 inl0 gl_up gl_lt hf21 (ps := [.sl 0, .sl 0]) (rs := [.v 1 false []]) (by decide) h21
  rwa [show fnK (E := E) (cx21 F) Tryz.f21 gl [.sl 0, .sl 0] [.v 1 false []] h21 = (fun x : AT E.G.car [.sl 0, .sl 0] => kit_SameInts F x.1 x.2.1) from funext fun x => e21 F x.1 x.2.1] at h⟩
theorem hf120 : Tryz.prog.funcs[120]? = some Tryz.f120 := by kernel_rfl
theorem en120 : Proofs.Enters Tryz.prog 120 := Proofs.enters_of hf120 (by kernel_rfl) rfl
noncomputable def slices_Equal_polynyaref03_Point (F : Nat) (a0 : List Point) (a1 : List Point) : Option (Bool) :=
  brk ((↑a0.length : Int) != (↑a1.length : Int)) (some (false)) (loopC (fun (x : Int) => fun x_1 => brk (decide (x < (↑a0.length : Int))) (chk ((0 : Int) ≤ x ∧ x < (↑a0.length : Int)) (chk ((0 : Int) ≤ x ∧ x < (↑a1.length : Int)) (brk (!((a0.getD (Int.toNat x) (Point.mk (0 : Int) (0 : Int))).X == (a1.getD (Int.toNat x) (Point.mk (0 : Int) (0 : Int))).X && ((a0.getD (Int.toNat x) (Point.mk (0 : Int) (0 : Int))).Y == (a1.getD (Int.toNat x) (Point.mk (0 : Int) (0 : Int))).Y && true))) (some (false)) (chk (InR (x + (1 : Int))) (x_1 (x + (1 : Int))))))) (some (true))) (F) ((0 : Int)))
noncomputable def s120 (F : Nat) : CS E.G := ⟨120, [.sl 6, .sl 6], [.v 1 false []], fun x => slices_Equal_polynyaref03_Point F x.1 x.2.1⟩
noncomputable def cx120 (F : Nat) : Ctx E := ⟨[], [], F, []⟩
noncomputable def h120 : Hint := (.c .n (.l ⟨[.i], [0, 16, 192], [0, 1, 2], [(208, .i IntKind.i64)], [], [], [], 3⟩ (.c .n .n)))
theorem e120 (F : Nat) (a0 : List Point) (a1 : List Point) : fnK (E := E) (cx120 F) Tryz.f120 gl [.sl 6, .sl 6] [.v 1 false []] h120 (a0, a1, ()) = slices_Equal_polynyaref03_Point F a0 a1 := by kernel_rfl
theorem c120 (F : Nat) : CSok E gl (s120 F) := ⟨en120, by
  have h := fn_sound (E := E) (gl := gl) (cx := cx120 F) mix all0 inl0 gl_up gl_lt hf120 (ps := [.sl 6, .sl 6]) (rs := [.v 1 false []]) (by decide) h120
  rwa [show fnK (E := E) (cx120 F) Tryz.f120 gl [.sl 6, .sl 6] [.v 1 false []] h120 = (fun x : AT E.G.car [.sl 6, .sl 6] => slices_Equal_polynyaref03_Point F x.1 x.2.1) from funext fun x => e120 F x.1 x.2.1] at h⟩
theorem hf60 : Tryz.prog.funcs[60]? = some Tryz.f60 := by kernel_rfl
theorem en60 : Proofs.Enters Tryz.prog 60 := Proofs.enters_of hf60 (by kernel_rfl) rfl
noncomputable def law05_same (F : Nat) (a0 : Member) (a1 : Member2) : Option (Bool) :=
  bnd (law05_member F a0) (fun (x : Member2) => bnd (slices_Equal_polynyaref03_Point F x.Stop a1.Stop) (fun (x_1 : Bool) => bnd (brk (!!x_1) (slices_Equal_polynyaref03_Point F x.Ship.Thrust a1.Ship.Thrust) (some false)) (fun (x_2 : Bool) => bnd (brk (!(!x_1 || !x_2)) (slices_Equal_polynyaref03_Point F x.Ship.Water a1.Ship.Water) (some false)) (fun (x_3 : Bool) => bnd (brk (!(!x_1 || !x_2 || !x_3)) (slices_Equal_polynyaref03_Point F x.Ship.Ice a1.Ship.Ice) (some false)) (fun (x_4 : Bool) => brk (!x_1 || !x_2 || !x_3 || !x_4) (some (false)) (brk (x.Ship.Class != a1.Ship.Class || x.Ship.Power != a1.Ship.Power || x.Ship.Draught != a1.Ship.Draught || x.Ship.Tonnes != a1.Ship.Tonnes || x.Ship.Slow != a1.Ship.Slow || x.Ship.Brash != a1.Ship.Brash || x.Ship.Ridge != a1.Ship.Ridge || x.Ship.Press != a1.Ship.Press) (some (false)) (some (x.Length == a1.Length && x.Delay == a1.Delay && x.Short == a1.Short))))))))
noncomputable def s60 (F : Nat) : CS E.G := ⟨60, [.v 9 true, .v 16 true], [.v 1 false []], fun x => law05_same F x.1 x.2.1⟩
noncomputable def cx60 (F : Nat) : Ctx E := ⟨[s56 F, s120 F], [], F, []⟩
noncomputable def h60 : Hint := (.c .n .n)
theorem e60 (F : Nat) (a0 : Member) (a1 : Member2) : fnK (E := E) (cx60 F) Tryz.f60 gl [.v 9 true, .v 16 true] [.v 1 false []] h60 (a0, a1, ()) = law05_same F a0 a1 := by kernel_rfl
theorem c60 (F : Nat) : CSok E gl (s60 F) := ⟨en60, by
  have h := fn_sound (E := E) (gl := gl) (cx := cx60 F) mix (allC (c56 F) (allC (c120 F) all0)) inl0 gl_up gl_lt hf60 (ps := [.v 9 true, .v 16 true]) (rs := [.v 1 false []]) (by decide) h60
  rwa [show fnK (E := E) (cx60 F) Tryz.f60 gl [.v 9 true, .v 16 true] [.v 1 false []] h60 = (fun x : AT E.G.car [.v 9 true, .v 16 true] => law05_same F x.1 x.2.1) from funext fun x => e60 F x.1 x.2.1] at h⟩
theorem hf84 : Tryz.prog.funcs[84]? = some Tryz.f84 := by kernel_rfl
theorem en84 : Proofs.Enters Tryz.prog 84 := Proofs.enters_of hf84 (by kernel_rfl) rfl
theorem hf29 : Tryz.prog.funcs[29]? = some Tryz.f29 := by kernel_rfl
theorem en29 : Proofs.Enters Tryz.prog 29 := Proofs.enters_of hf29 (by kernel_rfl) rfl
noncomputable def law05_alike (F : Nat) (a0 : Convoy) (a1 : Convoy2) : Option (Bool) :=
  brk (a0.Clear == a1.Clear) (brk (a0.Close.a0 == a1.Close.a0 && (a0.Close.a1 == a1.Close.a1 && (a0.Close.a2 == a1.Close.a2 && (a0.Close.a3 == a1.Close.a3 && true)))) (bnd (law05_same F a0.Breaker a1.Breaker) (fun (x : Bool) => brk (x) (join (F) (fun (x_1 : Bool) => some (x_1)) (fun x_1 => brk ((↑a0.Ships.length : Int) != (↑a1.Ships.length : Int)) (x_1 (false)) (loopC (fun (x_2 : Int) => fun x_3 => brk (decide (x_2 < (↑a0.Ships.length : Int))) (chk ((0 : Int) ≤ x_2 ∧ x_2 < (↑a0.Ships.length : Int)) (chk ((0 : Int) ≤ x_2 ∧ x_2 < (↑a1.Ships.length : Int)) (bnd (law05_same F (a0.Ships.getD (Int.toNat x_2) (Member.mk (Ship.mk (0 : Int) (0 : Int) (0 : Int) (0 : Int) [] [] [] (0 : Int) (0 : Int) (0 : Int) (0 : Int)) [] (0 : Int) (0 : Int) (0 : Int))) (a1.Ships.getD (Int.toNat x_2) (Member2.mk (Ship2.mk (0 : Int) (0 : Int) (0 : Int) (0 : Int) [] [] [] (0 : Int) (0 : Int) (0 : Int) (0 : Int)) [] (0 : Int) (0 : Int) (0 : Int)))) (fun (x_4 : Bool) => brk (!x_4) (x_1 (false)) (chk (InR (x_2 + (1 : Int))) (x_3 (x_2 + (1 : Int)))))))) (x_1 (true))) (F) ((0 : Int))))) (some (false)))) (some (false))) (some (false))
noncomputable def s29 (F : Nat) : CS E.G := ⟨29, [.v 12 true, .v 18 true], [.v 1 false []], fun x => law05_alike F x.1 x.2.1⟩
noncomputable def cx29 (F : Nat) : Ctx E := ⟨[s60 F], [(84, Tryz.f84)], F, []⟩
noncomputable def h29 : Hint := (.s (.s (.s (.w ⟨[.b], [], [0, 5, 10], [(0, .b)], [], [], [], 13⟩ (.c .n (.l ⟨[.i], [16, 32, 256, 240], [0, 5, 10], [(272, .i IntKind.i64)], [], [], [], 13⟩ (.c .n .n))) .n) .n) .n) .n)
theorem e29 (F : Nat) (a0 : Convoy) (a1 : Convoy2) : fnK (E := E) (cx29 F) Tryz.f29 gl [.v 12 true, .v 18 true] [.v 1 false []] h29 (a0, a1, ()) = law05_alike F a0 a1 := by kernel_rfl
theorem c29 (F : Nat) : CSok E gl (s29 F) := ⟨en29, by
  have h := fn_sound (E := E) (gl := gl) (cx := cx29 F) mix (allC (c60 F) all0) (inlC hf84 en84 inl0) gl_up gl_lt hf29 (ps := [.v 12 true, .v 18 true]) (rs := [.v 1 false []]) (by decide) h29
  rwa [show fnK (E := E) (cx29 F) Tryz.f29 gl [.v 12 true, .v 18 true] [.v 1 false []] h29 = (fun x : AT E.G.car [.v 12 true, .v 18 true] => law05_alike F x.1 x.2.1) from funext fun x => e29 F x.1 x.2.1] at h⟩
theorem hf35 : Tryz.prog.funcs[35]? = some Tryz.f35 := by kernel_rfl
theorem en35 : Proofs.Enters Tryz.prog 35 := Proofs.enters_of hf35 (by kernel_rfl) rfl
noncomputable def convoy_Holds (F : Nat) (a0 : Convoy) (a1 : Cell) (a2 : Int) : Option (Bool × Int) :=
  bnd (convoy_met F a0 a1) (fun (x : Int) => brk (x != (0 : Int)) (some ((false, x))) (bnd (convoy_within F a2 (0 : Int) (250 : Int)) (fun (x_1 : Bool) => brk (!x_1) (some ((false, (6 : Int)))) (brk (decide (a2 ≥ (10 : Int))) (bnd (convoy_Convoy_most F a0 a1) (fun (x_2 : Int) => brk (decide (a2 ≤ x_2)) (bnd (convoy_Member_halt F a0.Breaker a2) (fun (x_3 : Span) => loopC (fun (x_4 : (Int) × ((List (Int)) × ((Int) × (Int)))) => fun x_5 => brk (decide (x_4.fst < (↑a0.Ships.length : Int))) (chk ((0 : Int) ≤ x_4.fst ∧ x_4.fst < (↑a0.Ships.length : Int)) (bnd (convoy_Member_halt F (a0.Ships.getD (Int.toNat x_4.fst) (Member.mk (Ship.mk (0 : Int) (0 : Int) (0 : Int) (0 : Int) [] [] [] (0 : Int) (0 : Int) (0 : Int) (0 : Int)) [] (0 : Int) (0 : Int) (0 : Int))) a2) (fun (x_6 : Span) => chk (InR (x_6.Hi - x_4.snd.snd.snd)) (chk (InR (a0.Clear + if x_6.Hi - x_4.snd.snd.snd > (0 : Int) then x_6.Hi - x_4.snd.snd.snd else (0 : Int))) (chk (List.length x_4.snd.fst + [a0.Clear + if x_6.Hi - x_4.snd.snd.snd > (0 : Int) then x_6.Hi - x_4.snd.snd.snd else (0 : Int)].length ≤ (1000000 : Nat)) (chk (InR (x_4.fst + (1 : Int))) (x_5 ((x_4.fst + (1 : Int), x_4.snd.fst ++ [a0.Clear + if x_6.Hi - x_4.snd.snd.snd > (0 : Int) then x_6.Hi - x_4.snd.snd.snd else (0 : Int)], x_6.Hi, x_6.Lo))))))))) (loopC (fun (x_6 : (Int) × (Int)) => fun x_7 => brk (decide (x_6.snd < (↑(List.length x_4.snd.fst) : Int))) (chk ((0 : Int) ≤ x_6.snd ∧ x_6.snd < (↑(List.length x_4.snd.fst) : Int)) (chk ((0 : Int) ≤ x_6.snd ∧ x_6.snd < (↑a0.Ships.length : Int)) (chk (InR (List.getD x_4.snd.fst (Int.toNat x_6.snd) (0 : Int) + (a0.Ships.getD (Int.toNat x_6.snd) (Member.mk (Ship.mk (0 : Int) (0 : Int) (0 : Int) (0 : Int) [] [] [] (0 : Int) (0 : Int) (0 : Int) (0 : Int)) [] (0 : Int) (0 : Int) (0 : Int))).Length)) (chk (InR (x_6.fst + (List.getD x_4.snd.fst (Int.toNat x_6.snd) (0 : Int) + (a0.Ships.getD (Int.toNat x_6.snd) (Member.mk (Ship.mk (0 : Int) (0 : Int) (0 : Int) (0 : Int) [] [] [] (0 : Int) (0 : Int) (0 : Int) (0 : Int)) [] (0 : Int) (0 : Int) (0 : Int))).Length))) (chk (InR (x_6.snd + (1 : Int))) (x_7 ((x_6.fst + (List.getD x_4.snd.fst (Int.toNat x_6.snd) (0 : Int) + (a0.Ships.getD (Int.toNat x_6.snd) (Member.mk (Ship.mk (0 : Int) (0 : Int) (0 : Int) (0 : Int) [] [] [] (0 : Int) (0 : Int) (0 : Int) (0 : Int)) [] (0 : Int) (0 : Int) (0 : Int))).Length), x_6.snd + (1 : Int))))))))) (chk ((0 : Int) ≤ a1.Press.Hi ∧ a1.Press.Hi < (↑(4 : Nat) : Int)) (chk (InR ((60 : Int) * [a0.Close.a0, a0.Close.a1, a0.Close.a2, a0.Close.a3].getD a1.Press.Hi.toNat (0 : Int))) (bnd (convoy_way F a2 ((60 : Int) * [a0.Close.a0, a0.Close.a1, a0.Close.a2, a0.Close.a3].getD a1.Press.Hi.toNat (0 : Int))) (fun (x_8 : (Int) × (Int)) => some ((decide (x_6.fst ≤ x_8.fst), (0 : Int)))))))) (F) (((0 : Int), (0 : Int))))) (F) (((0 : Int), [], x_3.Hi, x_3.Lo)))) (some ((false, (0 : Int)))))) (some ((false, (0 : Int))))))))
noncomputable def s35 (F : Nat) : CS E.G := ⟨35, [.v 12 true, .v 20 true, .v 0 false], [.v 1 false [], .v 0 false []], fun x => convoy_Holds F x.1 x.2.1 x.2.2.1⟩
noncomputable def cx35 (F : Nat) : Ctx E := ⟨[s66 F, s87 F, s91 F, s72 F, s67 F], [(92, Tryz.f92), (79, Tryz.f79), (76, Tryz.f76), (81, Tryz.f81)], F, []⟩
noncomputable def h35 : Hint := (.c .n (.c .n (.s (.s (.p (.p (.p (.l ⟨[.i, .l 0, .i, .i], [16, 64, 320, 336], [0, 1, 3, 5, 2, 4, 6, 10, 11], [(352, .i IntKind.i64), (48, .h 12 3 0)], [], [(11, 1, .i IntKind.i64), (11, 0, .i IntKind.i64)], [], 13⟩ (.c .n (.l ⟨[.i, .i], [16, 128, 112], [0, 1, 3, 5, 2, 4, 6, 9, 12], [(48, .i IntKind.i64), (144, .i IntKind.i64)], [], [], [], 13⟩ (.c .n (.p .n)))))))) .n) .n)))
theorem e35 (F : Nat) (a0 : Convoy) (a1 : Cell) (a2 : Int) : fnK (E := E) (cx35 F) Tryz.f35 gl [.v 12 true, .v 20 true, .v 0 false] [.v 1 false [], .v 0 false []] h35 (a0, a1, a2, ()) = convoy_Holds F a0 a1 a2 := by kernel_rfl
theorem c35 (F : Nat) : CSok E gl (s35 F) := ⟨en35, by
  have h := fn_sound (E := E) (gl := gl) (cx := cx35 F) mix (allC (c66 F) (allC (c87 F) (allC (c91 F) (allC (c72 F) (allC (c67 F) all0))))) (inlC hf92 en92 (inlC hf79 en79 (inlC hf76 en76 (inlC hf81 en81 inl0)))) gl_up gl_lt hf35 (ps := [.v 12 true, .v 20 true, .v 0 false]) (rs := [.v 1 false [], .v 0 false []]) (by decide) h35
  rwa [show fnK (E := E) (cx35 F) Tryz.f35 gl [.v 12 true, .v 20 true, .v 0 false] [.v 1 false [], .v 0 false []] h35 = (fun x : AT E.G.car [.v 12 true, .v 20 true, .v 0 false] => convoy_Holds F x.1 x.2.1 x.2.2.1) from funext fun x => e35 F x.1 x.2.1 x.2.2.1] at h⟩
theorem hf68 : Tryz.prog.funcs[68]? = some Tryz.f68 := by kernel_rfl
theorem en68 : Proofs.Enters Tryz.prog 68 := Proofs.enters_of hf68 (by kernel_rfl) rfl
noncomputable def ref05_in (F : Nat) (a0 : Int) (a1 : Int) (a2 : Int) : Option (Bool) :=
  some (decide (a0 ≥ a1) && decide (a0 ≤ a2))
noncomputable def s68 (F : Nat) : CS E.G := ⟨68, [.v 0 false, .v 0 false, .v 0 false], [.v 1 false []], fun x => ref05_in F x.1 x.2.1 x.2.2.1⟩
noncomputable def cx68 (F : Nat) : Ctx E := ⟨[], [], F, []⟩
noncomputable def h68 : Hint := .n
theorem e68 (F : Nat) (a0 : Int) (a1 : Int) (a2 : Int) : fnK (E := E) (cx68 F) Tryz.f68 gl [.v 0 false, .v 0 false, .v 0 false] [.v 1 false []] h68 (a0, a1, a2, ()) = ref05_in F a0 a1 a2 := by kernel_rfl
theorem c68 (F : Nat) : CSok E gl (s68 F) := ⟨en68, by
  have h := fn_sound (E := E) (gl := gl) (cx := cx68 F) mix all0 inl0 gl_up gl_lt hf68 (ps := [.v 0 false, .v 0 false, .v 0 false]) (rs := [.v 1 false []]) (by decide) h68
  rwa [show fnK (E := E) (cx68 F) Tryz.f68 gl [.v 0 false, .v 0 false, .v 0 false] [.v 1 false []] h68 = (fun x : AT E.G.car [.v 0 false, .v 0 false, .v 0 false] => ref05_in F x.1 x.2.1 x.2.2.1) from funext fun x => e68 F x.1 x.2.1 x.2.2.1] at h⟩
theorem hf83 : Tryz.prog.funcs[83]? = some Tryz.f83 := by kernel_rfl
theorem en83 : Proofs.Enters Tryz.prog 83 := Proofs.enters_of hf83 (by kernel_rfl) rfl
noncomputable def ref05_all (F : Nat) (a0 : Convoy2) : Option ((List Member2)) :=
  chk ([a0.Breaker].length + a0.Ships.length ≤ (1000000 : Nat)) (some ([a0.Breaker] ++ a0.Ships))
noncomputable def s83 (F : Nat) : CS E.G := ⟨83, [.v 18 true], [.sl 16 39], fun x => ref05_all F x.1⟩
noncomputable def cx83 (F : Nat) : Ctx E := ⟨[], [], F, []⟩
noncomputable def h83 : Hint := .n
theorem e83 (F : Nat) (a0 : Convoy2) : fnK (E := E) (cx83 F) Tryz.f83 gl [.v 18 true] [.sl 16 39] h83 (a0, ()) = ref05_all F a0 := by kernel_rfl
theorem c83 (F : Nat) : CSok E gl (s83 F) := ⟨en83, by
  have h := fn_sound (E := E) (gl := gl) (cx := cx83 F) mix all0 inl0 gl_up gl_lt hf83 (ps := [.v 18 true]) (rs := [.sl 16 39]) (by decide) h83
  rwa [show fnK (E := E) (cx83 F) Tryz.f83 gl [.v 18 true] [.sl 16 39] h83 = (fun x : AT E.G.car [.v 18 true] => ref05_all F x.1) from funext fun x => e83 F x.1] at h⟩
theorem hf156 : Tryz.prog.funcs[156]? = some Tryz.f156 := by kernel_rfl
theorem en156 : Proofs.Enters Tryz.prog 156 := Proofs.enters_of hf156 (by kernel_rfl) rfl
noncomputable def ref03_in (F : Nat) (a0 : Int) (a1 : Int) (a2 : Int) : Option (Bool) :=
  some (decide (a0 ≥ a1) && decide (a0 ≤ a2))
noncomputable def s156 (F : Nat) : CS E.G := ⟨156, [.v 0 false, .v 0 false, .v 0 false], [.v 1 false []], fun x => ref03_in F x.1 x.2.1 x.2.2.1⟩
noncomputable def cx156 (F : Nat) : Ctx E := ⟨[], [], F, []⟩
noncomputable def h156 : Hint := .n
theorem e156 (F : Nat) (a0 : Int) (a1 : Int) (a2 : Int) : fnK (E := E) (cx156 F) Tryz.f156 gl [.v 0 false, .v 0 false, .v 0 false] [.v 1 false []] h156 (a0, a1, a2, ()) = ref03_in F a0 a1 a2 := by kernel_rfl
theorem c156 (F : Nat) : CSok E gl (s156 F) := ⟨en156, by
  have h := fn_sound (E := E) (gl := gl) (cx := cx156 F) mix all0 inl0 gl_up gl_lt hf156 (ps := [.v 0 false, .v 0 false, .v 0 false]) (rs := [.v 1 false []]) (by decide) h156
  rwa [show fnK (E := E) (cx156 F) Tryz.f156 gl [.v 0 false, .v 0 false, .v 0 false] [.v 1 false []] h156 = (fun x : AT E.G.car [.v 0 false, .v 0 false, .v 0 false] => ref03_in F x.1 x.2.1 x.2.2.1) from funext fun x => e156 F x.1 x.2.1 x.2.2.1] at h⟩
theorem hf129 : Tryz.prog.funcs[129]? = some Tryz.f129 := by kernel_rfl
theorem en129 : Proofs.Enters Tryz.prog 129 := Proofs.enters_of hf129 (by kernel_rfl) rfl
noncomputable def ref03_Curve (F : Nat) (a0 : List Point) : Option (Bool) :=
  chk ((!(decide ((↑a0.length : Int) < (2 : Int)) || decide ((↑a0.length : Int) > (8 : Int)))) = true → (0 : Int) ≤ (0 : Int) ∧ (0 : Int) < (↑a0.length : Int)) (brk (decide ((↑a0.length : Int) < (2 : Int)) || decide ((↑a0.length : Int) > (8 : Int)) || (a0.getD (Int.toNat (0 : Int)) (Point.mk (0 : Int) (0 : Int))).X != (0 : Int)) (some (false)) (loopC (fun (x : Int) => fun x_1 => brk (decide (x < (↑a0.length : Int))) (chk ((0 : Int) ≤ x ∧ x < (↑a0.length : Int)) (bnd (ref03_in F (a0.getD (Int.toNat x) (Point.mk (0 : Int) (0 : Int))).X (0 : Int) (400 : Int)) (fun (x_2 : Bool) => chk ((!!x_2) = true → (0 : Int) ≤ x ∧ x < (↑a0.length : Int)) (bnd (brk (!!x_2) (ref03_in F (a0.getD (Int.toNat x) (Point.mk (0 : Int) (0 : Int))).Y (0 : Int) (20000 : Int)) (some false)) (fun (x_3 : Bool) => brk (!x_2 || !x_3) (some (false)) (chk (decide (x > (0 : Int)) = true → (0 : Int) ≤ x ∧ x < (↑a0.length : Int)) (chk (decide (x > (0 : Int)) = true → InR (x - (1 : Int))) (chk (decide (x > (0 : Int)) = true → (0 : Int) ≤ x - (1 : Int) ∧ x - (1 : Int) < (↑a0.length : Int)) (brk (decide (x > (0 : Int)) && decide ((a0.getD (Int.toNat x) (Point.mk (0 : Int) (0 : Int))).X ≤ (a0.getD (x - (1 : Int)).toNat (Point.mk (0 : Int) (0 : Int))).X)) (some (false)) (chk (InR (x + (1 : Int))) (x_1 (x + (1 : Int))))))))))))) (some (true))) (F) ((0 : Int))))
noncomputable def s129 (F : Nat) : CS E.G := ⟨129, [.sl 6], [.v 1 false []], fun x => ref03_Curve F x.1⟩
noncomputable def cx129 (F : Nat) : Ctx E := ⟨[s156 F], [], F, []⟩
noncomputable def h129 : Hint := (.c .n (.l ⟨[.i], [0], [0, 1], [(48, .i IntKind.i64)], [], [], [], 2⟩ (.c (.c .n .n) .n)))
theorem e129 (F : Nat) (a0 : List Point) : fnK (E := E) (cx129 F) Tryz.f129 gl [.sl 6] [.v 1 false []] h129 (a0, ()) = ref03_Curve F a0 := by kernel_rfl
theorem c129 (F : Nat) : CSok E gl (s129 F) := ⟨en129, by
  have h := fn_sound (E := E) (gl := gl) (cx := cx129 F) mix (allC (c156 F) all0) inl0 gl_up gl_lt hf129 (ps := [.sl 6]) (rs := [.v 1 false []]) (by decide) h129
  rwa [show fnK (E := E) (cx129 F) Tryz.f129 gl [.sl 6] [.v 1 false []] h129 = (fun x : AT E.G.car [.sl 6] => ref03_Curve F x.1) from funext fun x => e129 F x.1] at h⟩
theorem hf128 : Tryz.prog.funcs[128]? = some Tryz.f128 := by kernel_rfl
theorem en128 : Proofs.Enters Tryz.prog 128 := Proofs.enters_of hf128 (by kernel_rfl) rfl
noncomputable def ref03_Check (F : Nat) (a0 : Ship2) : Option (Int) :=
  bnd (ref03_in F a0.Class (1 : Int) (6 : Int)) (fun (x : Bool) => brk (!x) (some ((41 : Int))) (bnd (ref03_in F a0.Power (100 : Int) (100000 : Int)) (fun (x_1 : Bool) => bnd (brk (!!x_1) (ref03_in F a0.Draught (10 : Int) (2000 : Int)) (some false)) (fun (x_2 : Bool) => bnd (brk (!(!x_1 || !x_2)) (ref03_in F a0.Tonnes (10 : Int) (500000 : Int)) (some false)) (fun (x_3 : Bool) => brk (!x_1 || !x_2 || !x_3) (some ((40 : Int))) (bnd (ref03_in F a0.Slow (0 : Int) (20 : Int)) (fun (x_4 : Bool) => bnd (brk (!!x_4) (ref03_in F a0.Brash (0 : Int) (100 : Int)) (some false)) (fun (x_5 : Bool) => bnd (brk (!(!x_4 || !x_5)) (ref03_in F a0.Ridge (0 : Int) (500 : Int)) (some false)) (fun (x_6 : Bool) => bnd (brk (!(!x_4 || !x_5 || !x_6)) (ref03_in F a0.Press (0 : Int) (5000 : Int)) (some false)) (fun (x_7 : Bool) => brk (!x_4 || !x_5 || !x_6 || !x_7) (some ((40 : Int))) (bnd (ref03_Curve F a0.Thrust) (fun (x_8 : Bool) => bnd (brk (!!x_8) (ref03_Curve F a0.Water) (some false)) (fun (x_9 : Bool) => bnd (brk (!(!x_8 || !x_9)) (ref03_Curve F a0.Ice) (some false)) (fun (x_10 : Bool) => brk (!x_8 || !x_9 || !x_10) (some ((40 : Int))) (loopC (fun (x_11 : Int) => fun x_12 => brk (decide (x_11 < (↑a0.Thrust.length : Int))) (chk ((0 : Int) ≤ x_11 ∧ x_11 < (↑a0.Thrust.length : Int)) (chk (InR (x_11 - (1 : Int))) (chk ((0 : Int) ≤ x_11 - (1 : Int) ∧ x_11 - (1 : Int) < (↑a0.Thrust.length : Int)) (brk (decide ((a0.Thrust.getD (Int.toNat x_11) (Point.mk (0 : Int) (0 : Int))).Y > (a0.Thrust.getD (x_11 - (1 : Int)).toNat (Point.mk (0 : Int) (0 : Int))).Y)) (some ((40 : Int))) (chk (InR (x_11 + (1 : Int))) (x_12 (x_11 + (1 : Int)))))))) (loopC (fun (x_13 : Int) => fun x_14 => brk (decide (x_13 < (↑a0.Water.length : Int))) (chk ((0 : Int) ≤ x_13 ∧ x_13 < (↑a0.Water.length : Int)) (chk (InR (x_13 - (1 : Int))) (chk ((0 : Int) ≤ x_13 - (1 : Int) ∧ x_13 - (1 : Int) < (↑a0.Water.length : Int)) (brk (decide ((a0.Water.getD (Int.toNat x_13) (Point.mk (0 : Int) (0 : Int))).Y < (a0.Water.getD (x_13 - (1 : Int)).toNat (Point.mk (0 : Int) (0 : Int))).Y)) (some ((40 : Int))) (chk (InR (x_13 + (1 : Int))) (x_14 (x_13 + (1 : Int)))))))) (loopC (fun (x_15 : Int) => fun x_16 => brk (decide (x_15 < (↑a0.Ice.length : Int))) (chk ((0 : Int) ≤ x_15 ∧ x_15 < (↑a0.Ice.length : Int)) (chk (InR (x_15 - (1 : Int))) (chk ((0 : Int) ≤ x_15 - (1 : Int) ∧ x_15 - (1 : Int) < (↑a0.Ice.length : Int)) (brk (decide ((a0.Ice.getD (Int.toNat x_15) (Point.mk (0 : Int) (0 : Int))).Y < (a0.Ice.getD (x_15 - (1 : Int)).toNat (Point.mk (0 : Int) (0 : Int))).Y)) (some ((40 : Int))) (chk (InR (x_15 + (1 : Int))) (x_16 (x_15 + (1 : Int)))))))) (chk (InR ((↑a0.Thrust.length : Int) - (1 : Int))) (chk ((0 : Int) ≤ (↑a0.Thrust.length : Int) - (1 : Int) ∧ (↑a0.Thrust.length : Int) - (1 : Int) < (↑a0.Thrust.length : Int)) (bnd (ref03_in F (a0.Thrust.getD ((↑a0.Thrust.length : Int) - (1 : Int)).toNat (Point.mk (0 : Int) (0 : Int))).X (10 : Int) (250 : Int)) (fun (x_17 : Bool) => chk ((!!x_17) = true → InR ((↑a0.Water.length : Int) - (1 : Int))) (chk ((!!x_17) = true → (0 : Int) ≤ (↑a0.Water.length : Int) - (1 : Int) ∧ (↑a0.Water.length : Int) - (1 : Int) < (↑a0.Water.length : Int)) (chk ((!(!x_17 || decide ((a0.Water.getD ((↑a0.Water.length : Int) - (1 : Int)).toNat (Point.mk (0 : Int) (0 : Int))).X > (250 : Int)))) = true → (0 : Int) ≤ (0 : Int) ∧ (0 : Int) < (↑a0.Ice.length : Int)) (chk ((!(!x_17 || decide ((a0.Water.getD ((↑a0.Water.length : Int) - (1 : Int)).toNat (Point.mk (0 : Int) (0 : Int))).X > (250 : Int)) || (a0.Ice.getD (Int.toNat (0 : Int)) (Point.mk (0 : Int) (0 : Int))).Y != (0 : Int))) = true → InR ((↑a0.Ice.length : Int) - (1 : Int))) (chk ((!(!x_17 || decide ((a0.Water.getD ((↑a0.Water.length : Int) - (1 : Int)).toNat (Point.mk (0 : Int) (0 : Int))).X > (250 : Int)) || (a0.Ice.getD (Int.toNat (0 : Int)) (Point.mk (0 : Int) (0 : Int))).Y != (0 : Int))) = true → (0 : Int) ≤ (↑a0.Ice.length : Int) - (1 : Int) ∧ (↑a0.Ice.length : Int) - (1 : Int) < (↑a0.Ice.length : Int)) (brk (!x_17 || decide ((a0.Water.getD ((↑a0.Water.length : Int) - (1 : Int)).toNat (Point.mk (0 : Int) (0 : Int))).X > (250 : Int)) || (a0.Ice.getD (Int.toNat (0 : Int)) (Point.mk (0 : Int) (0 : Int))).Y != (0 : Int) || (a0.Ice.getD ((↑a0.Ice.length : Int) - (1 : Int)).toNat (Point.mk (0 : Int) (0 : Int))).X != (400 : Int)) (some ((40 : Int))) (some ((0 : Int))))))))))))) (F) ((1 : Int)))) (F) ((1 : Int)))) (F) ((1 : Int)))))))))))))))))
noncomputable def s128 (F : Nat) : CS E.G := ⟨128, [.v 15 true], [.v 0 false []], fun x => ref03_Check F x.1⟩
noncomputable def cx128 (F : Nat) : Ctx E := ⟨[s129 F, s156 F], [], F, []⟩
noncomputable def h128 : Hint := (.c .n (.c .n (.c .n (.c .n (.l ⟨[.i], [16], [0, 4, 3, 2, 1], [(48, .i IntKind.i64)], [], [], [], 5⟩ (.c .n (.l ⟨[.i], [16], [0, 4, 3, 2, 1], [(64, .i IntKind.i64)], [], [], [], 5⟩ (.c .n (.l ⟨[.i], [16], [0, 4, 3, 2, 1], [(80, .i IntKind.i64)], [], [], [], 5⟩ (.c .n .n))))))))))
theorem e128 (F : Nat) (a0 : Ship2) : fnK (E := E) (cx128 F) Tryz.f128 gl [.v 15 true] [.v 0 false []] h128 (a0, ()) = ref03_Check F a0 := by kernel_rfl
theorem c128 (F : Nat) : CSok E gl (s128 F) := ⟨en128, by
  have h := fn_sound (E := E) (gl := gl) (cx := cx128 F) mix (allC (c129 F) (allC (c156 F) all0)) inl0 gl_up gl_lt hf128 (ps := [.v 15 true]) (rs := [.v 0 false []]) (by decide) h128
  rwa [show fnK (E := E) (cx128 F) Tryz.f128 gl [.v 15 true] [.v 0 false []] h128 = (fun x : AT E.G.car [.v 15 true] => ref03_Check F x.1) from funext fun x => e128 F x.1] at h⟩
theorem hf204 : Tryz.prog.funcs[204]? = some Tryz.f204 := by kernel_rfl
theorem en204 : Proofs.Enters Tryz.prog 204 := Proofs.enters_of hf204 (by kernel_rfl) rfl
noncomputable def ref03_span (F : Nat) (a0 : Span) (a1 : Int) : Option (Bool) :=
  some (decide (a0.Lo ≥ (0 : Int)) && decide (a0.Hi ≤ a1) && decide (a0.Lo ≤ a0.Hi))
noncomputable def s204 (F : Nat) : CS E.G := ⟨204, [.v 19 true, .v 0 false], [.v 1 false []], fun x => ref03_span F x.1 x.2.1⟩
noncomputable def cx204 (F : Nat) : Ctx E := ⟨[], [], F, []⟩
noncomputable def h204 : Hint := .n
theorem e204 (F : Nat) (a0 : Span) (a1 : Int) : fnK (E := E) (cx204 F) Tryz.f204 gl [.v 19 true, .v 0 false] [.v 1 false []] h204 (a0, a1, ()) = ref03_span F a0 a1 := by kernel_rfl
theorem c204 (F : Nat) : CSok E gl (s204 F) := ⟨en204, by
  have h := fn_sound (E := E) (gl := gl) (cx := cx204 F) mix all0 inl0 gl_up gl_lt hf204 (ps := [.v 19 true, .v 0 false]) (rs := [.v 1 false []]) (by decide) h204
  rwa [show fnK (E := E) (cx204 F) Tryz.f204 gl [.v 19 true, .v 0 false] [.v 1 false []] h204 = (fun x : AT E.G.car [.v 19 true, .v 0 false] => ref03_span F x.1 x.2.1) from funext fun x => e204 F x.1 x.2.1] at h⟩
theorem hf182 : Tryz.prog.funcs[182]? = some Tryz.f182 := by kernel_rfl
theorem en182 : Proofs.Enters Tryz.prog 182 := Proofs.enters_of hf182 (by kernel_rfl) rfl
noncomputable def ref03_cell (F : Nat) (a0 : Cell) : Option (Bool) :=
  bnd (ref03_span F a0.Conc (100 : Int)) (fun (x : Bool) => bnd (brk x (ref03_span F a0.Thick (400 : Int)) (some false)) (fun (x_1 : Bool) => bnd (brk (x && x_1) (ref03_span F a0.Ridge (100 : Int)) (some false)) (fun (x_2 : Bool) => bnd (brk (x && x_1 && x_2) (ref03_span F a0.Press (3 : Int)) (some false)) (fun (x_3 : Bool) => some (x && x_1 && x_2 && x_3)))))
noncomputable def s182 (F : Nat) : CS E.G := ⟨182, [.v 20 true], [.v 1 false []], fun x => ref03_cell F x.1⟩
noncomputable def cx182 (F : Nat) : Ctx E := ⟨[s204 F], [], F, []⟩
noncomputable def h182 : Hint := .n
theorem e182 (F : Nat) (a0 : Cell) : fnK (E := E) (cx182 F) Tryz.f182 gl [.v 20 true] [.v 1 false []] h182 (a0, ()) = ref03_cell F a0 := by kernel_rfl
theorem c182 (F : Nat) : CSok E gl (s182 F) := ⟨en182, by
  have h := fn_sound (E := E) (gl := gl) (cx := cx182 F) mix (allC (c204 F) all0) inl0 gl_up gl_lt hf182 (ps := [.v 20 true]) (rs := [.v 1 false []]) (by decide) h182
  rwa [show fnK (E := E) (cx182 F) Tryz.f182 gl [.v 20 true] [.v 1 false []] h182 = (fun x : AT E.G.car [.v 20 true] => ref03_cell F x.1) from funext fun x => e182 F x.1] at h⟩
theorem hf163 : Tryz.prog.funcs[163]? = some Tryz.f163 := by kernel_rfl
theorem en163 : Proofs.Enters Tryz.prog 163 := Proofs.enters_of hf163 (by kernel_rfl) rfl
noncomputable def ref03_met (F : Nat) (a0 : Ship2) (a1 : Cell) : Option (Int) :=
  bnd (ref03_Check F a0) (fun (x : Int) => brk (x != (0 : Int)) (some (x)) (bnd (ref03_cell F a1) (fun (x_1 : Bool) => brk (!x_1) (some ((20 : Int))) (some ((0 : Int))))))
noncomputable def s163 (F : Nat) : CS E.G := ⟨163, [.v 15 true, .v 20 true], [.v 0 false []], fun x => ref03_met F x.1 x.2.1⟩
noncomputable def cx163 (F : Nat) : Ctx E := ⟨[s128 F, s182 F], [], F, []⟩
noncomputable def h163 : Hint := (.c .n .n)
theorem e163 (F : Nat) (a0 : Ship2) (a1 : Cell) : fnK (E := E) (cx163 F) Tryz.f163 gl [.v 15 true, .v 20 true] [.v 0 false []] h163 (a0, a1, ()) = ref03_met F a0 a1 := by kernel_rfl
theorem c163 (F : Nat) : CSok E gl (s163 F) := ⟨en163, by
  have h := fn_sound (E := E) (gl := gl) (cx := cx163 F) mix (allC (c128 F) (allC (c182 F) all0)) inl0 gl_up gl_lt hf163 (ps := [.v 15 true, .v 20 true]) (rs := [.v 0 false []]) (by decide) h163
  rwa [show fnK (E := E) (cx163 F) Tryz.f163 gl [.v 15 true, .v 20 true] [.v 0 false []] h163 = (fun x : AT E.G.car [.v 15 true, .v 20 true] => ref03_met F x.1 x.2.1) from funext fun x => e163 F x.1 x.2.1] at h⟩
theorem hf183 : Tryz.prog.funcs[183]? = some Tryz.f183 := by kernel_rfl
theorem en183 : Proofs.Enters Tryz.prog 183 := Proofs.enters_of hf183 (by kernel_rfl) rfl
noncomputable def ref03_Corners (F : Nat) (a0 : Cell) : Option ((List Ice)) :=
  loopC (fun (x : (Int) × (List (Ice))) => fun x_1 => brk (decide (x.fst < (16 : Int))) (join (F) (fun (x_2 : Int) => join (F) (fun (x_3 : Int) => join (F) (fun (x_4 : Int) => join (F) (fun (x_5 : Int) => chk (List.length x.snd + [Ice.mk x_2 x_3 x_4 x_5].length ≤ (1000000 : Nat)) (chk (InR (x.fst + (1 : Int))) (x_1 ((x.fst + (1 : Int), x.snd ++ [Ice.mk x_2 x_3 x_4 x_5]))))) (fun x_5 => chk ((0 : Int) ≤ x.fst ∧ x.fst ≤ (9223372036854775807 : Int)) (brk (x.fst / (8 : Int) == (1 : Int)) (x_5 (a0.Press.Hi)) (x_5 (a0.Press.Lo))))) (fun x_4 => chk ((0 : Int) ≤ x.fst ∧ x.fst ≤ (9223372036854775807 : Int)) (chk ((0 : Int) ≤ x.fst / (4 : Int) ∧ x.fst / (4 : Int) ≤ (9223372036854775807 : Int)) (brk (x.fst / (4 : Int) % (2 : Int) == (1 : Int)) (x_4 (a0.Ridge.Hi)) (x_4 (a0.Ridge.Lo)))))) (fun x_3 => chk ((0 : Int) ≤ x.fst ∧ x.fst ≤ (9223372036854775807 : Int)) (chk ((0 : Int) ≤ x.fst / (2 : Int) ∧ x.fst / (2 : Int) ≤ (9223372036854775807 : Int)) (brk (x.fst / (2 : Int) % (2 : Int) == (1 : Int)) (x_3 (a0.Thick.Hi)) (x_3 (a0.Thick.Lo)))))) (fun x_2 => chk ((0 : Int) ≤ x.fst ∧ x.fst ≤ (9223372036854775807 : Int)) (brk (x.fst % (2 : Int) == (1 : Int)) (x_2 (a0.Conc.Hi)) (x_2 (a0.Conc.Lo))))) (some (x.snd))) (F) (((0 : Int), []))
noncomputable def s183 (F : Nat) : CS E.G := ⟨183, [.v 20 true], [.sl 31 242], fun x => ref03_Corners F x.1⟩
noncomputable def cx183 (F : Nat) : Ctx E := ⟨[], [], F, []⟩
noncomputable def h183 : Hint := (.l ⟨[.i, .l 31], [16], [0, 1], [(64, .i IntKind.i64), (48, .h 2 242 31)], [], [], [], 3⟩ (.c (.k (.k (.j ⟨[.i], [16, 64, 48, 80], [0, 1, 2, 3], [], [], [(3, 0, .i IntKind.i64)], [], 4⟩ .n (.j ⟨[.i], [16, 64, 48, 80], [0, 1, 2, 3], [], [], [(3, 1, .i IntKind.i64)], [], 4⟩ .n (.j ⟨[.i], [16, 64, 48, 80], [0, 1, 2, 3], [], [], [(3, 2, .i IntKind.i64)], [], 4⟩ .n (.j ⟨[.i], [16, 64, 48, 80], [0, 1, 2, 3], [], [], [(3, 3, .i IntKind.i64)], [], 4⟩ .n .n)))))) .n))
theorem e183 (F : Nat) (a0 : Cell) : fnK (E := E) (cx183 F) Tryz.f183 gl [.v 20 true] [.sl 31 242] h183 (a0, ()) = ref03_Corners F a0 := by kernel_rfl
theorem c183 (F : Nat) : CSok E gl (s183 F) := ⟨en183, by
  have h := fn_sound (E := E) (gl := gl) (cx := cx183 F) mix all0 inl0 gl_up gl_lt hf183 (ps := [.v 20 true]) (rs := [.sl 31 242]) (by decide) h183
  rwa [show fnK (E := E) (cx183 F) Tryz.f183 gl [.v 20 true] [.sl 31 242] h183 = (fun x : AT E.G.car [.v 20 true] => ref03_Corners F x.1) from funext fun x => e183 F x.1] at h⟩
theorem hf157 : Tryz.prog.funcs[157]? = some Tryz.f157 := by kernel_rfl
theorem en157 : Proofs.Enters Tryz.prog 157 := Proofs.enters_of hf157 (by kernel_rfl) rfl
noncomputable def ref03_fraction (F : Nat) (a0 : List Point) (a1 : Int) : Option (Int × Int) :=
  brk ((↑a0.length : Int) == (0 : Int)) (some (((0 : Int), (1 : Int)))) (chk (InR ((↑a0.length : Int) - (1 : Int))) (chk ((0 : Int) ≤ (↑a0.length : Int) - (1 : Int) ∧ (↑a0.length : Int) - (1 : Int) < (↑a0.length : Int)) (brk (decide (a1 ≥ (a0.getD ((↑a0.length : Int) - (1 : Int)).toNat (Point.mk (0 : Int) (0 : Int))).X)) (some (((a0.getD ((↑a0.length : Int) - (1 : Int)).toNat (Point.mk (0 : Int) (0 : Int))).Y, (1 : Int)))) (loopC (fun (x : Int) => fun x_1 => chk (InR (x + (1 : Int))) (chk ((0 : Int) ≤ x + (1 : Int) ∧ x + (1 : Int) < (↑a0.length : Int)) (brk (decide ((a0.getD (x + (1 : Int)).toNat (Point.mk (0 : Int) (0 : Int))).X ≤ a1)) (chk (InR (x + (1 : Int))) (x_1 (x + (1 : Int)))) (chk ((0 : Int) ≤ x ∧ x < (↑a0.length : Int)) (chk (InR (x + (1 : Int))) (chk ((0 : Int) ≤ x + (1 : Int) ∧ x + (1 : Int) < (↑a0.length : Int)) (chk (InR ((a0.getD (x + (1 : Int)).toNat (Point.mk (0 : Int) (0 : Int))).X - a1)) (chk (InR ((a0.getD (Int.toNat x) (Point.mk (0 : Int) (0 : Int))).Y * ((a0.getD (x + (1 : Int)).toNat (Point.mk (0 : Int) (0 : Int))).X - a1))) (chk (InR (a1 - (a0.getD (Int.toNat x) (Point.mk (0 : Int) (0 : Int))).X)) (chk (InR ((a0.getD (x + (1 : Int)).toNat (Point.mk (0 : Int) (0 : Int))).Y * (a1 - (a0.getD (Int.toNat x) (Point.mk (0 : Int) (0 : Int))).X))) (chk (InR ((a0.getD (Int.toNat x) (Point.mk (0 : Int) (0 : Int))).Y * ((a0.getD (x + (1 : Int)).toNat (Point.mk (0 : Int) (0 : Int))).X - a1) + (a0.getD (x + (1 : Int)).toNat (Point.mk (0 : Int) (0 : Int))).Y * (a1 - (a0.getD (Int.toNat x) (Point.mk (0 : Int) (0 : Int))).X))) (chk (InR ((a0.getD (x + (1 : Int)).toNat (Point.mk (0 : Int) (0 : Int))).X - (a0.getD (Int.toNat x) (Point.mk (0 : Int) (0 : Int))).X)) (some (((a0.getD (Int.toNat x) (Point.mk (0 : Int) (0 : Int))).Y * ((a0.getD (x + (1 : Int)).toNat (Point.mk (0 : Int) (0 : Int))).X - a1) + (a0.getD (x + (1 : Int)).toNat (Point.mk (0 : Int) (0 : Int))).Y * (a1 - (a0.getD (Int.toNat x) (Point.mk (0 : Int) (0 : Int))).X), (a0.getD (x + (1 : Int)).toNat (Point.mk (0 : Int) (0 : Int))).X - (a0.getD (Int.toNat x) (Point.mk (0 : Int) (0 : Int))).X))))))))))))))) (F) ((0 : Int))))))
noncomputable def s157 (F : Nat) : CS E.G := ⟨157, [.sl 6, .v 0 false], [.v 0 false [], .v 0 false []], fun x => ref03_fraction F x.1 x.2.1⟩
noncomputable def cx157 (F : Nat) : Ctx E := ⟨[], [], F, []⟩
noncomputable def h157 : Hint := (.c .n (.c .n (.l ⟨[.i], [0, 16], [0, 1], [(112, .i IntKind.i64)], [], [], [], 3⟩ .n)))
theorem e157 (F : Nat) (a0 : List Point) (a1 : Int) : fnK (E := E) (cx157 F) Tryz.f157 gl [.sl 6, .v 0 false] [.v 0 false [], .v 0 false []] h157 (a0, a1, ()) = ref03_fraction F a0 a1 := by kernel_rfl
theorem c157 (F : Nat) : CSok E gl (s157 F) := ⟨en157, by
  have h := fn_sound (E := E) (gl := gl) (cx := cx157 F) mix all0 inl0 gl_up gl_lt hf157 (ps := [.sl 6, .v 0 false]) (rs := [.v 0 false [], .v 0 false []]) (by decide) h157
  rwa [show fnK (E := E) (cx157 F) Tryz.f157 gl [.sl 6, .v 0 false] [.v 0 false [], .v 0 false []] h157 = (fun x : AT E.G.car [.sl 6, .v 0 false] => ref03_fraction F x.1 x.2.1) from funext fun x => e157 F x.1 x.2.1] at h⟩
theorem hf205 : Tryz.prog.funcs[205]? = some Tryz.f205 := by kernel_rfl
theorem en205 : Proofs.Enters Tryz.prog 205 := Proofs.enters_of hf205 (by kernel_rfl) rfl
noncomputable def ref03_thrust (F : Nat) (a0 : Ship2) (a1 : Int) : Option (Int) :=
  bnd (ref03_fraction F a0.Thrust a1) (fun (x : (Int) × (Int)) => chk (((0 : Int) ≤ x.fst ∧ x.fst ≤ (9223372036854775807 : Int)) ∧ (0 : Int) < x.snd) (some (x.fst / x.snd)))
noncomputable def s205 (F : Nat) : CS E.G := ⟨205, [.v 15 true, .v 0 false], [.v 0 false []], fun x => ref03_thrust F x.1 x.2.1⟩
noncomputable def cx205 (F : Nat) : Ctx E := ⟨[s157 F], [], F, []⟩
noncomputable def h205 : Hint := .n
theorem e205 (F : Nat) (a0 : Ship2) (a1 : Int) : fnK (E := E) (cx205 F) Tryz.f205 gl [.v 15 true, .v 0 false] [.v 0 false []] h205 (a0, a1, ()) = ref03_thrust F a0 a1 := by kernel_rfl
theorem c205 (F : Nat) : CSok E gl (s205 F) := ⟨en205, by
  have h := fn_sound (E := E) (gl := gl) (cx := cx205 F) mix (allC (c157 F) all0) inl0 gl_up gl_lt hf205 (ps := [.v 15 true, .v 0 false]) (rs := [.v 0 false []]) (by decide) h205
  rwa [show fnK (E := E) (cx205 F) Tryz.f205 gl [.v 15 true, .v 0 false] [.v 0 false []] h205 = (fun x : AT E.G.car [.v 15 true, .v 0 false] => ref03_thrust F x.1 x.2.1) from funext fun x => e205 F x.1 x.2.1] at h⟩
theorem hf206 : Tryz.prog.funcs[206]? = some Tryz.f206 := by kernel_rfl
theorem en206 : Proofs.Enters Tryz.prog 206 := Proofs.enters_of hf206 (by kernel_rfl) rfl
noncomputable def ref03_resistance (F : Nat) (a0 : Ship2) (a1 : Ice) (a2 : Int) (a3 : Bool) : Option (Int) :=
  bnd (ref03_fraction F a0.Water a2) (fun (x : (Int) × (Int)) => bnd (ref03_fraction F a0.Ice a1.Thick) (fun (x_1 : (Int) × (Int)) => join (F) (fun (x_2 : (Int) × (Int)) => chk (InR (x.snd * x_1.snd)) (chk (InR (x.snd * x_1.snd * (10000000 : Int))) (chk (((0 : Int) ≤ x.snd * x_1.snd * (10000000 : Int) ∧ x.snd * x_1.snd * (10000000 : Int) ≤ (9223372036854775807 : Int)) ∧ (0 : Int) < x.snd) (chk (InR (x.fst * (x.snd * x_1.snd * (10000000 : Int) / x.snd))) (chk (InR (a1.Conc * x_1.fst)) (chk (InR (a0.Slow * a2)) (chk (InR ((1000 : Int) + a0.Slow * a2)) (chk (InR (a1.Conc * x_1.fst * ((1000 : Int) + a0.Slow * a2))) (chk (InR (a1.Conc * x_1.fst * ((1000 : Int) + a0.Slow * a2) * x_2.snd)) (chk (InR (a1.Conc * x_1.fst * ((1000 : Int) + a0.Slow * a2) * x_2.snd * x.snd)) (chk (InR (x.fst * (x.snd * x_1.snd * (10000000 : Int) / x.snd) + a1.Conc * x_1.fst * ((1000 : Int) + a0.Slow * a2) * x_2.snd * x.snd)) (chk (InR (a1.Conc * a0.Ridge)) (chk (InR (a1.Conc * a0.Ridge * x_2.fst)) (chk ((0 : Int) ≤ x.snd * x_1.snd * (10000000 : Int) ∧ x.snd * x_1.snd * (10000000 : Int) ≤ (9223372036854775807 : Int)) (chk (InR (a1.Conc * a0.Ridge * x_2.fst * (x.snd * x_1.snd * (10000000 : Int) / (100 : Int)))) (chk (InR (x.fst * (x.snd * x_1.snd * (10000000 : Int) / x.snd) + a1.Conc * x_1.fst * ((1000 : Int) + a0.Slow * a2) * x_2.snd * x.snd + a1.Conc * a0.Ridge * x_2.fst * (x.snd * x_1.snd * (10000000 : Int) / (100 : Int)))) (chk (InR (a0.Press * a1.Press)) (chk (InR (a0.Press * a1.Press * (x.snd * x_1.snd * (10000000 : Int)))) (chk (InR (x.fst * (x.snd * x_1.snd * (10000000 : Int) / x.snd) + a1.Conc * x_1.fst * ((1000 : Int) + a0.Slow * a2) * x_2.snd * x.snd + a1.Conc * a0.Ridge * x_2.fst * (x.snd * x_1.snd * (10000000 : Int) / (100 : Int)) + a0.Press * a1.Press * (x.snd * x_1.snd * (10000000 : Int)))) (chk (((0 : Int) ≤ x.fst * (x.snd * x_1.snd * (10000000 : Int) / x.snd) + a1.Conc * x_1.fst * ((1000 : Int) + a0.Slow * a2) * x_2.snd * x.snd + a1.Conc * a0.Ridge * x_2.fst * (x.snd * x_1.snd * (10000000 : Int) / (100 : Int)) + a0.Press * a1.Press * (x.snd * x_1.snd * (10000000 : Int)) ∧ x.fst * (x.snd * x_1.snd * (10000000 : Int) / x.snd) + a1.Conc * x_1.fst * ((1000 : Int) + a0.Slow * a2) * x_2.snd * x.snd + a1.Conc * a0.Ridge * x_2.fst * (x.snd * x_1.snd * (10000000 : Int) / (100 : Int)) + a0.Press * a1.Press * (x.snd * x_1.snd * (10000000 : Int)) ≤ (9223372036854775807 : Int)) ∧ (0 : Int) < x.snd * x_1.snd * (10000000 : Int)) (join (F) (fun (x_3 : Int) => some (x_3)) (fun x_3 => chk (InR ((x.fst * (x.snd * x_1.snd * (10000000 : Int) / x.snd) + a1.Conc * x_1.fst * ((1000 : Int) + a0.Slow * a2) * x_2.snd * x.snd + a1.Conc * a0.Ridge * x_2.fst * (x.snd * x_1.snd * (10000000 : Int) / (100 : Int)) + a0.Press * a1.Press * (x.snd * x_1.snd * (10000000 : Int))) / (x.snd * x_1.snd * (10000000 : Int)) * (x.snd * x_1.snd * (10000000 : Int)))) (brk (decide ((x.fst * (x.snd * x_1.snd * (10000000 : Int) / x.snd) + a1.Conc * x_1.fst * ((1000 : Int) + a0.Slow * a2) * x_2.snd * x.snd + a1.Conc * a0.Ridge * x_2.fst * (x.snd * x_1.snd * (10000000 : Int) / (100 : Int)) + a0.Press * a1.Press * (x.snd * x_1.snd * (10000000 : Int))) / (x.snd * x_1.snd * (10000000 : Int)) * (x.snd * x_1.snd * (10000000 : Int)) < x.fst * (x.snd * x_1.snd * (10000000 : Int) / x.snd) + a1.Conc * x_1.fst * ((1000 : Int) + a0.Slow * a2) * x_2.snd * x.snd + a1.Conc * a0.Ridge * x_2.fst * (x.snd * x_1.snd * (10000000 : Int) / (100 : Int)) + a0.Press * a1.Press * (x.snd * x_1.snd * (10000000 : Int)))) (chk (InR ((x.fst * (x.snd * x_1.snd * (10000000 : Int) / x.snd) + a1.Conc * x_1.fst * ((1000 : Int) + a0.Slow * a2) * x_2.snd * x.snd + a1.Conc * a0.Ridge * x_2.fst * (x.snd * x_1.snd * (10000000 : Int) / (100 : Int)) + a0.Press * a1.Press * (x.snd * x_1.snd * (10000000 : Int))) / (x.snd * x_1.snd * (10000000 : Int)) + (1 : Int))) (x_3 ((x.fst * (x.snd * x_1.snd * (10000000 : Int) / x.snd) + a1.Conc * x_1.fst * ((1000 : Int) + a0.Slow * a2) * x_2.snd * x.snd + a1.Conc * a0.Ridge * x_2.fst * (x.snd * x_1.snd * (10000000 : Int) / (100 : Int)) + a0.Press * a1.Press * (x.snd * x_1.snd * (10000000 : Int))) / (x.snd * x_1.snd * (10000000 : Int)) + (1 : Int)))) (x_3 ((x.fst * (x.snd * x_1.snd * (10000000 : Int) / x.snd) + a1.Conc * x_1.fst * ((1000 : Int) + a0.Slow * a2) * x_2.snd * x.snd + a1.Conc * a0.Ridge * x_2.fst * (x.snd * x_1.snd * (10000000 : Int) / (100 : Int)) + a0.Press * a1.Press * (x.snd * x_1.snd * (10000000 : Int))) / (x.snd * x_1.snd * (10000000 : Int))))))))))))))))))))))))))) (fun x_2 => brk (a3) (x_2 (((0 : Int), a0.Brash))) (x_2 ((a1.Ridge, (100 : Int)))))))
noncomputable def s206 (F : Nat) : CS E.G := ⟨206, [.v 15 true, .v 31 true, .v 0 false, .v 1 false], [.v 0 false []], fun x => ref03_resistance F x.1 x.2.1 x.2.2.1 x.2.2.2.1⟩
noncomputable def cx206 (F : Nat) : Ctx E := ⟨[s157 F], [], F, []⟩
noncomputable def h206 : Hint := (.k (.k (.k (.k (.j ⟨[.i, .i], [32, 64, 192, 160, 80, 144, 176], [0, 4, 5, 3, 2, 1], [(224, .i IntKind.i64), (208, .i IntKind.i64)], [], [], [], 6⟩ .n (.k (.k (.k (.k (.k (.k (.j ⟨[.i], [], [0], [(272, .i IntKind.i64)], [], [], [], 6⟩ .n .n))))))))))))
theorem e206 (F : Nat) (a0 : Ship2) (a1 : Ice) (a2 : Int) (a3 : Bool) : fnK (E := E) (cx206 F) Tryz.f206 gl [.v 15 true, .v 31 true, .v 0 false, .v 1 false] [.v 0 false []] h206 (a0, a1, a2, a3, ()) = ref03_resistance F a0 a1 a2 a3 := by kernel_rfl
theorem c206 (F : Nat) : CSok E gl (s206 F) := ⟨en206, by
  have h := fn_sound (E := E) (gl := gl) (cx := cx206 F) mix (allC (c157 F) all0) inl0 gl_up gl_lt hf206 (ps := [.v 15 true, .v 31 true, .v 0 false, .v 1 false]) (rs := [.v 0 false []]) (by decide) h206
  rwa [show fnK (E := E) (cx206 F) Tryz.f206 gl [.v 15 true, .v 31 true, .v 0 false, .v 1 false] [.v 0 false []] h206 = (fun x : AT E.G.car [.v 15 true, .v 31 true, .v 0 false, .v 1 false] => ref03_resistance F x.1 x.2.1 x.2.2.1 x.2.2.2.1) from funext fun x => e206 F x.1 x.2.1 x.2.2.1 x.2.2.2.1] at h⟩
theorem hf187 : Tryz.prog.funcs[187]? = some Tryz.f187 := by kernel_rfl
theorem en187 : Proofs.Enters Tryz.prog 187 := Proofs.enters_of hf187 (by kernel_rfl) rfl
noncomputable def ref03_makes (F : Nat) (a0 : Ship2) (a1 : Ice) (a2 : Int) (a3 : Bool) : Option (Bool) :=
  chk (InR ((↑a0.Thrust.length : Int) - (1 : Int))) (chk ((0 : Int) ≤ (↑a0.Thrust.length : Int) - (1 : Int) ∧ (↑a0.Thrust.length : Int) - (1 : Int) < (↑a0.Thrust.length : Int)) (bnd (brk (decide (a2 ≤ (a0.Thrust.getD ((↑a0.Thrust.length : Int) - (1 : Int)).toNat (Point.mk (0 : Int) (0 : Int))).X)) (ref03_thrust F a0 a2) (some (0 : Int))) (fun (x : Int) => bnd (brk (decide (a2 ≤ (a0.Thrust.getD ((↑a0.Thrust.length : Int) - (1 : Int)).toNat (Point.mk (0 : Int) (0 : Int))).X)) (ref03_resistance F a0 a1 a2 a3) (some (0 : Int))) (fun (x_1 : Int) => some (decide (a2 ≤ (a0.Thrust.getD ((↑a0.Thrust.length : Int) - (1 : Int)).toNat (Point.mk (0 : Int) (0 : Int))).X) && decide (x ≥ x_1))))))
noncomputable def s187 (F : Nat) : CS E.G := ⟨187, [.v 15 true, .v 31 true, .v 0 false, .v 1 false], [.v 1 false []], fun x => ref03_makes F x.1 x.2.1 x.2.2.1 x.2.2.2.1⟩
noncomputable def cx187 (F : Nat) : Ctx E := ⟨[s205 F, s206 F], [], F, []⟩
noncomputable def h187 : Hint := .n
theorem e187 (F : Nat) (a0 : Ship2) (a1 : Ice) (a2 : Int) (a3 : Bool) : fnK (E := E) (cx187 F) Tryz.f187 gl [.v 15 true, .v 31 true, .v 0 false, .v 1 false] [.v 1 false []] h187 (a0, a1, a2, a3, ()) = ref03_makes F a0 a1 a2 a3 := by kernel_rfl
theorem c187 (F : Nat) : CSok E gl (s187 F) := ⟨en187, by
  have h := fn_sound (E := E) (gl := gl) (cx := cx187 F) mix (allC (c205 F) (allC (c206 F) all0)) inl0 gl_up gl_lt hf187 (ps := [.v 15 true, .v 31 true, .v 0 false, .v 1 false]) (rs := [.v 1 false []]) (by decide) h187
  rwa [show fnK (E := E) (cx187 F) Tryz.f187 gl [.v 15 true, .v 31 true, .v 0 false, .v 1 false] [.v 1 false []] h187 = (fun x : AT E.G.car [.v 15 true, .v 31 true, .v 0 false, .v 1 false] => ref03_makes F x.1 x.2.1 x.2.2.1 x.2.2.2.1) from funext fun x => e187 F x.1 x.2.1 x.2.2.1 x.2.2.2.1] at h⟩
theorem hf184 : Tryz.prog.funcs[184]? = some Tryz.f184 := by kernel_rfl
theorem en184 : Proofs.Enters Tryz.prog 184 := Proofs.enters_of hf184 (by kernel_rfl) rfl
noncomputable def ref03_speed (F : Nat) (a0 : Ship2) (a1 : Ice) (a2 : Bool) : Option (Int) :=
  loopC (fun (x : (Int) × (Int)) => fun x_1 => brk (decide (x.fst ≤ (250 : Int))) (join (F) (fun (x_2 : Int) => chk (InR (x.fst + (1 : Int))) (x_1 ((x.fst + (1 : Int), x_2)))) (fun x_2 => bnd (ref03_makes F a0 a1 x.fst a2) (fun (x_3 : Bool) => brk (x_3) (x_2 (x.fst)) (x_2 (x.snd))))) (some (x.snd))) (F) (((0 : Int), (0 : Int)))
noncomputable def s184 (F : Nat) : CS E.G := ⟨184, [.v 15 true, .v 31 true, .v 1 false], [.v 0 false []], fun x => ref03_speed F x.1 x.2.1 x.2.2.1⟩
noncomputable def cx184 (F : Nat) : Ctx E := ⟨[s187 F], [], F, []⟩
noncomputable def h184 : Hint := (.l ⟨[.i, .i], [32, 64, 48], [0, 5, 4, 3, 2, 1], [(128, .i IntKind.i64), (112, .i IntKind.i64)], [], [], [], 6⟩ (.c (.j ⟨[.i], [32, 64, 128, 48], [0, 5, 4, 3, 2, 1], [(112, .i IntKind.i64)], [], [], [], 6⟩ .n .n) .n))
theorem e184 (F : Nat) (a0 : Ship2) (a1 : Ice) (a2 : Bool) : fnK (E := E) (cx184 F) Tryz.f184 gl [.v 15 true, .v 31 true, .v 1 false] [.v 0 false []] h184 (a0, a1, a2, ()) = ref03_speed F a0 a1 a2 := by kernel_rfl
theorem c184 (F : Nat) : CSok E gl (s184 F) := ⟨en184, by
  have h := fn_sound (E := E) (gl := gl) (cx := cx184 F) mix (allC (c187 F) all0) inl0 gl_up gl_lt hf184 (ps := [.v 15 true, .v 31 true, .v 1 false]) (rs := [.v 0 false []]) (by decide) h184
  rwa [show fnK (E := E) (cx184 F) Tryz.f184 gl [.v 15 true, .v 31 true, .v 1 false] [.v 0 false []] h184 = (fun x : AT E.G.car [.v 15 true, .v 31 true, .v 1 false] => ref03_speed F x.1 x.2.1 x.2.2.1) from funext fun x => e184 F x.1 x.2.1 x.2.2.1] at h⟩
theorem hf185 : Tryz.prog.funcs[185]? = some Tryz.f185 := by kernel_rfl
theorem en185 : Proofs.Enters Tryz.prog 185 := Proofs.enters_of hf185 (by kernel_rfl) rfl
noncomputable def ref03_load (F : Nat) (a0 : Ice) (a1 : Int) (a2 : Bool) : Option (Int) :=
  brk (a0.Conc == (0 : Int)) (some ((0 : Int))) (chk (InR ((100 : Int) + a1)) (chk (InR (a0.Thick * ((100 : Int) + a1))) (brk (a2) (chk ((0 : Int) ≤ a0.Thick * ((100 : Int) + a1) ∧ a0.Thick * ((100 : Int) + a1) ≤ (9223372036854775807 : Int)) (chk ((0 : Int) ≤ a0.Thick * ((100 : Int) + a1) ∧ a0.Thick * ((100 : Int) + a1) ≤ (9223372036854775807 : Int)) (chk (InR (a0.Thick * ((100 : Int) + a1) / (2 : Int) + a0.Thick * ((100 : Int) + a1) % (2 : Int))) (chk (InR ((2000 : Int) * a0.Press)) (chk (InR (a0.Thick * ((100 : Int) + a1) / (2 : Int) + a0.Thick * ((100 : Int) + a1) % (2 : Int) + (2000 : Int) * a0.Press)) (some (a0.Thick * ((100 : Int) + a1) / (2 : Int) + a0.Thick * ((100 : Int) + a1) % (2 : Int) + (2000 : Int) * a0.Press))))))) (chk (InR ((300 : Int) * a0.Ridge)) (chk (InR (a0.Thick * ((100 : Int) + a1) + (300 : Int) * a0.Ridge)) (chk (InR ((2000 : Int) * a0.Press)) (chk (InR (a0.Thick * ((100 : Int) + a1) + (300 : Int) * a0.Ridge + (2000 : Int) * a0.Press)) (some (a0.Thick * ((100 : Int) + a1) + (300 : Int) * a0.Ridge + (2000 : Int) * a0.Press)))))))))
noncomputable def s185 (F : Nat) : CS E.G := ⟨185, [.v 31 true, .v 0 false, .v 1 false], [.v 0 false []], fun x => ref03_load F x.1 x.2.1 x.2.2.1⟩
noncomputable def cx185 (F : Nat) : Ctx E := ⟨[], [], F, []⟩
noncomputable def h185 : Hint := (.c .n .n)
theorem e185 (F : Nat) (a0 : Ice) (a1 : Int) (a2 : Bool) : fnK (E := E) (cx185 F) Tryz.f185 gl [.v 31 true, .v 0 false, .v 1 false] [.v 0 false []] h185 (a0, a1, a2, ()) = ref03_load F a0 a1 a2 := by kernel_rfl
theorem c185 (F : Nat) : CSok E gl (s185 F) := ⟨en185, by
  have h := fn_sound (E := E) (gl := gl) (cx := cx185 F) mix all0 inl0 gl_up gl_lt hf185 (ps := [.v 31 true, .v 0 false, .v 1 false]) (rs := [.v 0 false []]) (by decide) h185
  rwa [show fnK (E := E) (cx185 F) Tryz.f185 gl [.v 31 true, .v 0 false, .v 1 false] [.v 0 false []] h185 = (fun x : AT E.G.car [.v 31 true, .v 0 false, .v 1 false] => ref03_load F x.1 x.2.1 x.2.2.1) from funext fun x => e185 F x.1 x.2.1 x.2.2.1] at h⟩
theorem hf186 : Tryz.prog.funcs[186]? = some Tryz.f186 := by kernel_rfl
theorem en186 : Proofs.Enters Tryz.prog 186 := Proofs.enters_of hf186 (by kernel_rfl) rfl
noncomputable def ref03_strength (F : Nat) (a0 : Int) : Option (Int) :=
  brk (a0 == (1 : Int)) (some ((4000 : Int))) (brk (a0 == (2 : Int)) (some ((8000 : Int))) (brk (a0 == (3 : Int)) (some ((14000 : Int))) (brk (a0 == (4 : Int)) (some ((24000 : Int))) (brk (a0 == (5 : Int)) (some ((40000 : Int))) (some ((90000 : Int)))))))
noncomputable def s186 (F : Nat) : CS E.G := ⟨186, [.v 0 false], [.v 0 false []], fun x => ref03_strength F x.1⟩
noncomputable def cx186 (F : Nat) : Ctx E := ⟨[], [], F, []⟩
noncomputable def h186 : Hint := (.c .n (.c .n (.c .n (.c .n .n))))
theorem e186 (F : Nat) (a0 : Int) : fnK (E := E) (cx186 F) Tryz.f186 gl [.v 0 false] [.v 0 false []] h186 (a0, ()) = ref03_strength F a0 := by kernel_rfl
theorem c186 (F : Nat) : CSok E gl (s186 F) := ⟨en186, by
  have h := fn_sound (E := E) (gl := gl) (cx := cx186 F) mix all0 inl0 gl_up gl_lt hf186 (ps := [.v 0 false]) (rs := [.v 0 false []]) (by decide) h186
  rwa [show fnK (E := E) (cx186 F) Tryz.f186 gl [.v 0 false] [.v 0 false []] h186 = (fun x : AT E.G.car [.v 0 false] => ref03_strength F x.1) from funext fun x => e186 F x.1] at h⟩
theorem hf164 : Tryz.prog.funcs[164]? = some Tryz.f164 := by kernel_rfl
theorem en164 : Proofs.Enters Tryz.prog 164 := Proofs.enters_of hf164 (by kernel_rfl) rfl
noncomputable def ref03_safe (F : Nat) (a0 : Ship2) (a1 : Cell) (a2 : Bool) : Option (Int × Int) :=
  bnd (ref03_Corners F a1) (fun (x : List (Ice)) => loopC (fun (x_1 : Int) => fun x_2 => brk (decide (x_1 < (↑(List.length x) : Int))) (chk ((0 : Int) ≤ x_1 ∧ x_1 < (↑(List.length x) : Int)) (bnd (ref03_speed F a0 (List.getD x (Int.toNat x_1) (Ice.mk (0 : Int) (0 : Int) (0 : Int) (0 : Int))) a2) (fun (x_3 : Int) => brk (decide (x_3 < (10 : Int))) (some (((0 : Int), (4 : Int)))) (chk (InR (x_1 + (1 : Int))) (x_2 (x_1 + (1 : Int))))))) (loopC (fun (x_3 : Int) => fun x_4 => brk (decide (x_3 < (↑(List.length x) : Int))) (chk ((0 : Int) ≤ x_3 ∧ x_3 < (↑(List.length x) : Int)) (bnd (ref03_load F (List.getD x (Int.toNat x_3) (Ice.mk (0 : Int) (0 : Int) (0 : Int) (0 : Int))) (10 : Int) a2) (fun (x_5 : Int) => bnd (ref03_strength F a0.Class) (fun (x_6 : Int) => brk (decide (x_5 > x_6)) (some (((0 : Int), (41 : Int)))) (chk (InR (x_3 + (1 : Int))) (x_4 (x_3 + (1 : Int)))))))) (loopC (fun (x_5 : (Int) × (Int)) => fun x_6 => brk (decide (x_5.fst ≤ (250 : Int))) (join (F) (fun (x_7 : Int) => chk (InR (x_5.fst + (1 : Int))) (x_6 ((x_5.fst + (1 : Int), x_7)))) (fun x_7 => loopC (fun (x_8 : (Int) × (Bool)) => fun x_9 => brk (decide (x_8.fst < (↑(List.length x) : Int))) (chk (x_8.snd = true → (0 : Int) ≤ x_8.fst ∧ x_8.fst < (↑(List.length x) : Int)) (bnd (brk x_8.snd (ref03_makes F a0 (List.getD x (Int.toNat x_8.fst) (Ice.mk (0 : Int) (0 : Int) (0 : Int) (0 : Int))) x_5.fst a2) (some false)) (fun (x_10 : Bool) => chk ((x_8.snd && x_10) = true → (0 : Int) ≤ x_8.fst ∧ x_8.fst < (↑(List.length x) : Int)) (bnd (brk (x_8.snd && x_10) (ref03_load F (List.getD x (Int.toNat x_8.fst) (Ice.mk (0 : Int) (0 : Int) (0 : Int) (0 : Int))) x_5.fst a2) (some (0 : Int))) (fun (x_11 : Int) => bnd (brk (x_8.snd && x_10) (ref03_strength F a0.Class) (some (0 : Int))) (fun (x_12 : Int) => chk (InR (x_8.fst + (1 : Int))) (x_9 ((x_8.fst + (1 : Int), x_8.snd && x_10 && decide (x_11 ≤ x_12)))))))))) (brk (x_8.snd) (x_7 (x_5.fst)) (x_7 (x_5.snd)))) (F) (((0 : Int), true)))) (some ((x_5.snd, (0 : Int))))) (F) (((0 : Int), (0 : Int))))) (F) ((0 : Int)))) (F) ((0 : Int)))
noncomputable def s164 (F : Nat) : CS E.G := ⟨164, [.v 15 true, .v 20 true, .v 1 false], [.v 0 false [], .v 0 false []], fun x => ref03_safe F x.1 x.2.1 x.2.2.1⟩
noncomputable def cx164 (F : Nat) : Ctx E := ⟨[s183 F, s184 F, s185 F, s186 F, s187 F], [], F, []⟩
noncomputable def h164 : Hint := (.l ⟨[.i], [32, 128, 48], [0, 6, 4, 3, 2, 1], [(144, .i IntKind.i64)], [], [], [], 7⟩ (.c .n (.l ⟨[.i], [32, 128, 48], [0, 6, 4, 3, 2, 1], [(160, .i IntKind.i64)], [], [], [], 7⟩ (.c .n (.l ⟨[.i, .i], [32, 128, 48], [0, 6, 4, 3, 2, 1], [(192, .i IntKind.i64), (176, .i IntKind.i64)], [], [], [], 7⟩ (.c (.j ⟨[.i], [32, 128, 192, 48], [0, 6, 4, 3, 2, 1], [(176, .i IntKind.i64)], [], [], [], 7⟩ (.l ⟨[.i, .b], [32, 128, 192, 48, 176], [0, 6, 4, 3, 2, 1], [(224, .i IntKind.i64), (208, .b)], [], [], [], 7⟩ (.c .n .n)) .n) .n))))))
theorem e164 (F : Nat) (a0 : Ship2) (a1 : Cell) (a2 : Bool) : fnK (E := E) (cx164 F) Tryz.f164 gl [.v 15 true, .v 20 true, .v 1 false] [.v 0 false [], .v 0 false []] h164 (a0, a1, a2, ()) = ref03_safe F a0 a1 a2 := by kernel_rfl
theorem c164 (F : Nat) : CSok E gl (s164 F) := ⟨en164, by
  have h := fn_sound (E := E) (gl := gl) (cx := cx164 F) mix (allC (c183 F) (allC (c184 F) (allC (c185 F) (allC (c186 F) (allC (c187 F) all0))))) inl0 gl_up gl_lt hf164 (ps := [.v 15 true, .v 20 true, .v 1 false]) (rs := [.v 0 false [], .v 0 false []]) (by decide) h164
  rwa [show fnK (E := E) (cx164 F) Tryz.f164 gl [.v 15 true, .v 20 true, .v 1 false] [.v 0 false [], .v 0 false []] h164 = (fun x : AT E.G.car [.v 15 true, .v 20 true, .v 1 false] => ref03_safe F x.1 x.2.1 x.2.2.1) from funext fun x => e164 F x.1 x.2.1 x.2.2.1] at h⟩
theorem hf136 : Tryz.prog.funcs[136]? = some Tryz.f136 := by kernel_rfl
theorem en136 : Proofs.Enters Tryz.prog 136 := Proofs.enters_of hf136 (by kernel_rfl) rfl
noncomputable def ref03_Safe (F : Nat) (a0 : Ship2) (a1 : Cell) (a2 : Bool) : Option (Int × Int) :=
  bnd (ref03_met F a0 a1) (fun (x : Int) => brk (x != (0 : Int)) (some (((0 : Int), x))) (bnd (ref03_safe F a0 a1 a2) (fun (x_1 : (Int) × (Int)) => some (x_1))))
noncomputable def s136 (F : Nat) : CS E.G := ⟨136, [.v 15 true, .v 20 true, .v 1 false], [.v 0 false [], .v 0 false []], fun x => ref03_Safe F x.1 x.2.1 x.2.2.1⟩
noncomputable def cx136 (F : Nat) : Ctx E := ⟨[s163 F, s164 F], [], F, []⟩
noncomputable def h136 : Hint := .n
theorem e136 (F : Nat) (a0 : Ship2) (a1 : Cell) (a2 : Bool) : fnK (E := E) (cx136 F) Tryz.f136 gl [.v 15 true, .v 20 true, .v 1 false] [.v 0 false [], .v 0 false []] h136 (a0, a1, a2, ()) = ref03_Safe F a0 a1 a2 := by kernel_rfl
theorem c136 (F : Nat) : CSok E gl (s136 F) := ⟨en136, by
  have h := fn_sound (E := E) (gl := gl) (cx := cx136 F) mix (allC (c163 F) (allC (c164 F) all0)) inl0 gl_up gl_lt hf136 (ps := [.v 15 true, .v 20 true, .v 1 false]) (rs := [.v 0 false [], .v 0 false []]) (by decide) h136
  rwa [show fnK (E := E) (cx136 F) Tryz.f136 gl [.v 15 true, .v 20 true, .v 1 false] [.v 0 false [], .v 0 false []] h136 = (fun x : AT E.G.car [.v 15 true, .v 20 true, .v 1 false] => ref03_Safe F x.1 x.2.1 x.2.2.1) from funext fun x => e136 F x.1 x.2.1 x.2.2.1] at h⟩
theorem hf90 : Tryz.prog.funcs[90]? = some Tryz.f90 := by kernel_rfl
theorem en90 : Proofs.Enters Tryz.prog 90 := Proofs.enters_of hf90 (by kernel_rfl) rfl
noncomputable def ref05_Most (F : Nat) (a0 : Convoy2) (a1 : Cell) : Option (Int) :=
  bnd (ref05_all F a0) (fun (x : List (Member2)) => loopC (fun (x_1 : (Int) × (Int)) => fun x_2 => brk (decide (x_1.snd < (↑(List.length x) : Int))) (chk ((0 : Int) ≤ x_1.snd ∧ x_1.snd < (↑(List.length x) : Int)) (bnd (ref03_Safe F (List.getD x (Int.toNat x_1.snd) (Member2.mk (Ship2.mk (0 : Int) (0 : Int) (0 : Int) (0 : Int) [] [] [] (0 : Int) (0 : Int) (0 : Int) (0 : Int)) [] (0 : Int) (0 : Int) (0 : Int))).Ship a1 (decide (x_1.snd > (0 : Int)))) (fun (x_3 : (Int) × (Int)) => brk (x_3.snd != (0 : Int)) (some ((0 : Int))) (chk (InR (x_1.snd + (1 : Int))) (x_2 ((if x_3.fst < x_1.fst then x_3.fst else x_1.fst, x_1.snd + (1 : Int)))))))) (some (x_1.fst))) (F) (((250 : Int), (0 : Int))))
noncomputable def s90 (F : Nat) : CS E.G := ⟨90, [.v 18 true, .v 20 true], [.v 0 false []], fun x => ref05_Most F x.1 x.2.1⟩
noncomputable def cx90 (F : Nat) : Ctx E := ⟨[s83 F, s136 F], [], F, []⟩
noncomputable def h90 : Hint := (.l ⟨[.i, .i], [96, 48], [0, 8, 7], [(80, .i IntKind.i64), (112, .i IntKind.i64)], [], [], [], 9⟩ (.c .n .n))
theorem e90 (F : Nat) (a0 : Convoy2) (a1 : Cell) : fnK (E := E) (cx90 F) Tryz.f90 gl [.v 18 true, .v 20 true] [.v 0 false []] h90 (a0, a1, ()) = ref05_Most F a0 a1 := by kernel_rfl
theorem c90 (F : Nat) : CSok E gl (s90 F) := ⟨en90, by
  have h := fn_sound (E := E) (gl := gl) (cx := cx90 F) mix (allC (c83 F) (allC (c136 F) all0)) inl0 gl_up gl_lt hf90 (ps := [.v 18 true, .v 20 true]) (rs := [.v 0 false []]) (by decide) h90
  rwa [show fnK (E := E) (cx90 F) Tryz.f90 gl [.v 18 true, .v 20 true] [.v 0 false []] h90 = (fun x : AT E.G.car [.v 18 true, .v 20 true] => ref05_Most F x.1 x.2.1) from funext fun x => e90 F x.1 x.2.1] at h⟩
theorem hf71 : Tryz.prog.funcs[71]? = some Tryz.f71 := by kernel_rfl
theorem en71 : Proofs.Enters Tryz.prog 71 := Proofs.enters_of hf71 (by kernel_rfl) rfl
noncomputable def ref05_member (F : Nat) (a0 : Member2) : Option (Int) :=
  bnd (ref03_Check F a0.Ship) (fun (x : Int) => brk (x != (0 : Int)) (some (x)) (bnd (ref05_in F a0.Length (10 : Int) (500 : Int)) (fun (x_1 : Bool) => bnd (brk (!!x_1) (ref05_in F a0.Delay (0 : Int) (600 : Int)) (some false)) (fun (x_2 : Bool) => bnd (brk (!(!x_1 || !x_2)) (ref05_in F a0.Short (0 : Int) (20000 : Int)) (some false)) (fun (x_3 : Bool) => brk (!x_1 || !x_2 || !x_3) (some ((60 : Int))) (bnd (ref03_Curve F a0.Stop) (fun (x_4 : Bool) => brk (!x_4) (some ((60 : Int))) (loopC (fun (x_5 : Int) => fun x_6 => brk (decide (x_5 < (↑a0.Stop.length : Int))) (chk ((0 : Int) ≤ x_5 ∧ x_5 < (↑a0.Stop.length : Int)) (chk (InR (x_5 - (1 : Int))) (chk ((0 : Int) ≤ x_5 - (1 : Int) ∧ x_5 - (1 : Int) < (↑a0.Stop.length : Int)) (brk (decide ((a0.Stop.getD (Int.toNat x_5) (Point.mk (0 : Int) (0 : Int))).Y < (a0.Stop.getD (x_5 - (1 : Int)).toNat (Point.mk (0 : Int) (0 : Int))).Y)) (some ((60 : Int))) (chk (InR (x_5 + (1 : Int))) (x_6 (x_5 + (1 : Int)))))))) (chk ((!((↑a0.Stop.length : Int) == (0 : Int) || (↑a0.Ship.Thrust.length : Int) == (0 : Int))) = true → (0 : Int) ≤ (0 : Int) ∧ (0 : Int) < (↑a0.Stop.length : Int)) (chk ((!((↑a0.Stop.length : Int) == (0 : Int) || (↑a0.Ship.Thrust.length : Int) == (0 : Int) || (a0.Stop.getD (Int.toNat (0 : Int)) (Point.mk (0 : Int) (0 : Int))).Y != (0 : Int))) = true → InR ((↑a0.Stop.length : Int) - (1 : Int))) (chk ((!((↑a0.Stop.length : Int) == (0 : Int) || (↑a0.Ship.Thrust.length : Int) == (0 : Int) || (a0.Stop.getD (Int.toNat (0 : Int)) (Point.mk (0 : Int) (0 : Int))).Y != (0 : Int))) = true → (0 : Int) ≤ (↑a0.Stop.length : Int) - (1 : Int) ∧ (↑a0.Stop.length : Int) - (1 : Int) < (↑a0.Stop.length : Int)) (chk ((!((↑a0.Stop.length : Int) == (0 : Int) || (↑a0.Ship.Thrust.length : Int) == (0 : Int) || (a0.Stop.getD (Int.toNat (0 : Int)) (Point.mk (0 : Int) (0 : Int))).Y != (0 : Int))) = true → InR ((↑a0.Ship.Thrust.length : Int) - (1 : Int))) (chk ((!((↑a0.Stop.length : Int) == (0 : Int) || (↑a0.Ship.Thrust.length : Int) == (0 : Int) || (a0.Stop.getD (Int.toNat (0 : Int)) (Point.mk (0 : Int) (0 : Int))).Y != (0 : Int))) = true → (0 : Int) ≤ (↑a0.Ship.Thrust.length : Int) - (1 : Int) ∧ (↑a0.Ship.Thrust.length : Int) - (1 : Int) < (↑a0.Ship.Thrust.length : Int)) (brk ((↑a0.Stop.length : Int) == (0 : Int) || (↑a0.Ship.Thrust.length : Int) == (0 : Int) || (a0.Stop.getD (Int.toNat (0 : Int)) (Point.mk (0 : Int) (0 : Int))).Y != (0 : Int) || decide ((a0.Stop.getD ((↑a0.Stop.length : Int) - (1 : Int)).toNat (Point.mk (0 : Int) (0 : Int))).X < (a0.Ship.Thrust.getD ((↑a0.Ship.Thrust.length : Int) - (1 : Int)).toNat (Point.mk (0 : Int) (0 : Int))).X)) (some ((60 : Int))) (some ((0 : Int)))))))))) (F) ((1 : Int))))))))))
noncomputable def s71 (F : Nat) : CS E.G := ⟨71, [.v 16 true], [.v 0 false []], fun x => ref05_member F x.1⟩
noncomputable def cx71 (F : Nat) : Ctx E := ⟨[s68 F, s128 F, s129 F], [], F, []⟩
noncomputable def h71 : Hint := (.c .n (.c .n (.c .n (.l ⟨[.i], [16], [0, 5, 4, 3, 2, 1], [(64, .i IntKind.i64)], [], [], [], 6⟩ (.c .n .n)))))
theorem e71 (F : Nat) (a0 : Member2) : fnK (E := E) (cx71 F) Tryz.f71 gl [.v 16 true] [.v 0 false []] h71 (a0, ()) = ref05_member F a0 := by kernel_rfl
theorem c71 (F : Nat) : CSok E gl (s71 F) := ⟨en71, by
  have h := fn_sound (E := E) (gl := gl) (cx := cx71 F) mix (allC (c68 F) (allC (c128 F) (allC (c129 F) all0))) inl0 gl_up gl_lt hf71 (ps := [.v 16 true]) (rs := [.v 0 false []]) (by decide) h71
  rwa [show fnK (E := E) (cx71 F) Tryz.f71 gl [.v 16 true] [.v 0 false []] h71 = (fun x : AT E.G.car [.v 16 true] => ref05_member F x.1) from funext fun x => e71 F x.1] at h⟩
theorem hf16 : Tryz.prog.funcs[16]? = some Tryz.f16 := by kernel_rfl
theorem en16 : Proofs.Enters Tryz.prog 16 := Proofs.enters_of hf16 (by kernel_rfl) rfl
noncomputable def ref05_Check (F : Nat) (a0 : Convoy2) : Option (Int) :=
  brk (decide ((↑a0.Ships.length : Int) > (6 : Int))) (some ((2 : Int))) (bnd (ref05_member F a0.Breaker) (fun (x : Int) => brk (x != (0 : Int)) (some (x)) (loopC (fun (x_1 : Int) => fun x_2 => brk (decide (x_1 < (↑a0.Ships.length : Int))) (chk ((0 : Int) ≤ x_1 ∧ x_1 < (↑a0.Ships.length : Int)) (bnd (ref05_member F (a0.Ships.getD (Int.toNat x_1) (Member2.mk (Ship2.mk (0 : Int) (0 : Int) (0 : Int) (0 : Int) [] [] [] (0 : Int) (0 : Int) (0 : Int) (0 : Int)) [] (0 : Int) (0 : Int) (0 : Int)))) (fun (x_3 : Int) => brk (x_3 != (0 : Int)) (some (x_3)) (chk (InR (x_1 + (1 : Int))) (x_2 (x_1 + (1 : Int))))))) (bnd (ref05_in F a0.Clear (0 : Int) (2000 : Int)) (fun (x_3 : Bool) => brk (!x_3) (some ((61 : Int))) (loopC (fun (x_4 : Int) => fun x_5 => brk (decide (x_4 < (4 : Int))) (chk ((0 : Int) ≤ x_4 ∧ x_4 < (↑(4 : Nat) : Int)) (bnd (ref05_in F ([a0.Close.a0, a0.Close.a1, a0.Close.a2, a0.Close.a3].getD (Int.toNat x_4) (0 : Int)) (0 : Int) (1440 : Int)) (fun (x_6 : Bool) => chk ((!!x_6 && decide (x_4 > (0 : Int))) = true → (0 : Int) ≤ x_4 ∧ x_4 < (↑(4 : Nat) : Int)) (chk ((!!x_6 && decide (x_4 > (0 : Int))) = true → InR (x_4 - (1 : Int))) (chk ((!!x_6 && decide (x_4 > (0 : Int))) = true → (0 : Int) ≤ x_4 - (1 : Int) ∧ x_4 - (1 : Int) < (↑(4 : Nat) : Int)) (brk (!x_6 || decide (x_4 > (0 : Int)) && decide ([a0.Close.a0, a0.Close.a1, a0.Close.a2, a0.Close.a3].getD (Int.toNat x_4) (0 : Int) > [a0.Close.a0, a0.Close.a1, a0.Close.a2, a0.Close.a3].getD (x_4 - (1 : Int)).toNat (0 : Int))) (some ((61 : Int))) (chk (InR (x_4 + (1 : Int))) (x_5 (x_4 + (1 : Int)))))))))) (some ((0 : Int)))) (F) ((0 : Int)))))) (F) ((0 : Int)))))
noncomputable def s16 (F : Nat) : CS E.G := ⟨16, [.v 18 true], [.v 0 false []], fun x => ref05_Check F x.1⟩
noncomputable def cx16 (F : Nat) : Ctx E := ⟨[s68 F, s71 F], [], F, []⟩
noncomputable def h16 : Hint := (.c .n (.c .n (.l ⟨[.i], [16], [0, 6, 5, 4, 3, 2, 1], [(64, .i IntKind.i64)], [], [], [], 7⟩ (.c .n (.c .n (.l ⟨[.i], [16], [0, 6, 5, 4, 3, 2, 1], [(96, .i IntKind.i64)], [], [], [], 7⟩ (.c .n .n)))))))
theorem e16 (F : Nat) (a0 : Convoy2) : fnK (E := E) (cx16 F) Tryz.f16 gl [.v 18 true] [.v 0 false []] h16 (a0, ()) = ref05_Check F a0 := by kernel_rfl
theorem c16 (F : Nat) : CSok E gl (s16 F) := ⟨en16, by
  have h := fn_sound (E := E) (gl := gl) (cx := cx16 F) mix (allC (c68 F) (allC (c71 F) all0)) inl0 gl_up gl_lt hf16 (ps := [.v 18 true]) (rs := [.v 0 false []]) (by decide) h16
  rwa [show fnK (E := E) (cx16 F) Tryz.f16 gl [.v 18 true] [.v 0 false []] h16 = (fun x : AT E.G.car [.v 18 true] => ref05_Check F x.1) from funext fun x => e16 F x.1] at h⟩
theorem hf88 : Tryz.prog.funcs[88]? = some Tryz.f88 := by kernel_rfl
theorem en88 : Proofs.Enters Tryz.prog 88 := Proofs.enters_of hf88 (by kernel_rfl) rfl
noncomputable def ref05_right (F : Nat) (a0 : Cell) : Option (Bool) :=
  loopC (fun (x : Int) => fun x_1 => brk (decide (x < (4 : Int))) (chk ((0 : Int) ≤ x ∧ x < (↑[a0.Conc, a0.Thick, a0.Ridge, a0.Press].length : Int)) (chk ((!decide (([a0.Conc, a0.Thick, a0.Ridge, a0.Press].getD (Int.toNat x) (Span.mk (0 : Int) (0 : Int))).Lo < (0 : Int))) = true → (0 : Int) ≤ x ∧ x < (↑[a0.Conc, a0.Thick, a0.Ridge, a0.Press].length : Int)) (chk ((!decide (([a0.Conc, a0.Thick, a0.Ridge, a0.Press].getD (Int.toNat x) (Span.mk (0 : Int) (0 : Int))).Lo < (0 : Int))) = true → (0 : Int) ≤ x ∧ x < (↑[(100 : Int), (400 : Int), (100 : Int), (3 : Int)].length : Int)) (chk ((!(decide (([a0.Conc, a0.Thick, a0.Ridge, a0.Press].getD (Int.toNat x) (Span.mk (0 : Int) (0 : Int))).Lo < (0 : Int)) || decide (([a0.Conc, a0.Thick, a0.Ridge, a0.Press].getD (Int.toNat x) (Span.mk (0 : Int) (0 : Int))).Hi > [(100 : Int), (400 : Int), (100 : Int), (3 : Int)].getD (Int.toNat x) (0 : Int)))) = true → (0 : Int) ≤ x ∧ x < (↑[a0.Conc, a0.Thick, a0.Ridge, a0.Press].length : Int)) (chk ((!(decide (([a0.Conc, a0.Thick, a0.Ridge, a0.Press].getD (Int.toNat x) (Span.mk (0 : Int) (0 : Int))).Lo < (0 : Int)) || decide (([a0.Conc, a0.Thick, a0.Ridge, a0.Press].getD (Int.toNat x) (Span.mk (0 : Int) (0 : Int))).Hi > [(100 : Int), (400 : Int), (100 : Int), (3 : Int)].getD (Int.toNat x) (0 : Int)))) = true → (0 : Int) ≤ x ∧ x < (↑[a0.Conc, a0.Thick, a0.Ridge, a0.Press].length : Int)) (brk (decide (([a0.Conc, a0.Thick, a0.Ridge, a0.Press].getD (Int.toNat x) (Span.mk (0 : Int) (0 : Int))).Lo < (0 : Int)) || decide (([a0.Conc, a0.Thick, a0.Ridge, a0.Press].getD (Int.toNat x) (Span.mk (0 : Int) (0 : Int))).Hi > [(100 : Int), (400 : Int), (100 : Int), (3 : Int)].getD (Int.toNat x) (0 : Int)) || decide (([a0.Conc, a0.Thick, a0.Ridge, a0.Press].getD (Int.toNat x) (Span.mk (0 : Int) (0 : Int))).Lo > ([a0.Conc, a0.Thick, a0.Ridge, a0.Press].getD (Int.toNat x) (Span.mk (0 : Int) (0 : Int))).Hi)) (some (false)) (chk (InR (x + (1 : Int))) (x_1 (x + (1 : Int)))))))))) (some (true))) (F) ((0 : Int))
noncomputable def s88 (F : Nat) : CS E.G := ⟨88, [.v 20 true], [.v 1 false []], fun x => ref05_right F x.1⟩
noncomputable def cx88 (F : Nat) : Ctx E := ⟨[], [], F, []⟩
noncomputable def h88 : Hint := (.l ⟨[.i], [64, 48], [0, 3, 2], [(80, .i IntKind.i64)], [], [], [], 4⟩ (.c .n .n))
theorem e88 (F : Nat) (a0 : Cell) : fnK (E := E) (cx88 F) Tryz.f88 gl [.v 20 true] [.v 1 false []] h88 (a0, ()) = ref05_right F a0 := by kernel_rfl
theorem c88 (F : Nat) : CSok E gl (s88 F) := ⟨en88, by
  have h := fn_sound (E := E) (gl := gl) (cx := cx88 F) mix all0 inl0 gl_up gl_lt hf88 (ps := [.v 20 true]) (rs := [.v 1 false []]) (by decide) h88
  rwa [show fnK (E := E) (cx88 F) Tryz.f88 gl [.v 20 true] [.v 1 false []] h88 = (fun x : AT E.G.car [.v 20 true] => ref05_right F x.1) from funext fun x => e88 F x.1] at h⟩
theorem hf93 : Tryz.prog.funcs[93]? = some Tryz.f93 := by kernel_rfl
theorem en93 : Proofs.Enters Tryz.prog 93 := Proofs.enters_of hf93 (by kernel_rfl) rfl
noncomputable def ref05_met (F : Nat) (a0 : Convoy2) (a1 : Cell) : Option (Int) :=
  bnd (ref05_Check F a0) (fun (x : Int) => brk (x != (0 : Int)) (some (x)) (bnd (ref05_right F a1) (fun (x_1 : Bool) => brk (!x_1) (some ((20 : Int))) (some ((0 : Int))))))
noncomputable def s93 (F : Nat) : CS E.G := ⟨93, [.v 18 true, .v 20 true], [.v 0 false []], fun x => ref05_met F x.1 x.2.1⟩
noncomputable def cx93 (F : Nat) : Ctx E := ⟨[s16 F, s88 F], [], F, []⟩
noncomputable def h93 : Hint := (.c .n .n)
theorem e93 (F : Nat) (a0 : Convoy2) (a1 : Cell) : fnK (E := E) (cx93 F) Tryz.f93 gl [.v 18 true, .v 20 true] [.v 0 false []] h93 (a0, a1, ()) = ref05_met F a0 a1 := by kernel_rfl
theorem c93 (F : Nat) : CSok E gl (s93 F) := ⟨en93, by
  have h := fn_sound (E := E) (gl := gl) (cx := cx93 F) mix (allC (c16 F) (allC (c88 F) all0)) inl0 gl_up gl_lt hf93 (ps := [.v 18 true, .v 20 true]) (rs := [.v 0 false []]) (by decide) h93
  rwa [show fnK (E := E) (cx93 F) Tryz.f93 gl [.v 18 true, .v 20 true] [.v 0 false []] h93 = (fun x : AT E.G.car [.v 18 true, .v 20 true] => ref05_met F x.1 x.2.1) from funext fun x => e93 F x.1 x.2.1] at h⟩
theorem hf158 : Tryz.prog.funcs[158]? = some Tryz.f158 := by kernel_rfl
theorem en158 : Proofs.Enters Tryz.prog 158 := Proofs.enters_of hf158 (by kernel_rfl) rfl
noncomputable def ref03_gcdR (F : Nat) : Nat → Int → Int → Option (Int)
  | 0, _, _ => none
  | n + 1, a0, a1 =>
  brk (a1 == (0 : Int)) (some (a0)) (chk (((0 : Int) ≤ a0 ∧ a0 ≤ (9223372036854775807 : Int)) ∧ (0 : Int) < a1) (bnd (ref03_gcdR F n a1 (a0 % a1)) (fun (x : Int) => some (x))))
noncomputable def ref03_gcd (F : Nat) (a0 : Int) (a1 : Int) : Option (Int) := ref03_gcdR F F a0 a1
noncomputable def s158R (F n : Nat) : CS E.G := ⟨158, [.v 0 false, .v 0 false], [.v 0 false []], fun x => ref03_gcdR F n x.1 x.2.1⟩
noncomputable def s158 (F : Nat) : CS E.G := ⟨158, [.v 0 false, .v 0 false], [.v 0 false []], fun x => ref03_gcd F x.1 x.2.1⟩
noncomputable def cx158 (F n : Nat) : Ctx E := ⟨[s158R F n], [], F, []⟩
noncomputable def h158 : Hint := .n
theorem e158 (F n : Nat) (a0 : Int) (a1 : Int) : fnK (E := E) (cx158 F n) Tryz.f158 gl [.v 0 false, .v 0 false] [.v 0 false []] h158 (a0, a1, ()) = ref03_gcdR F (n + 1) a0 a1 := by kernel_rfl
theorem c158R (F : Nat) : ∀ n, CSok E gl (s158R F n)
  | 0 => ⟨en158, fun _ _ _ _ _ _ _ _ h => nomatch h⟩
  | n + 1 => ⟨en158, by
  have ih := c158R F n
  have h := fn_sound (E := E) (gl := gl) (cx := cx158 F n) mix (allC (ih) all0) inl0 gl_up gl_lt hf158 (ps := [.v 0 false, .v 0 false]) (rs := [.v 0 false []]) (by decide) h158
  rwa [show fnK (E := E) (cx158 F n) Tryz.f158 gl [.v 0 false, .v 0 false] [.v 0 false []] h158 = (fun x : AT E.G.car [.v 0 false, .v 0 false] => ref03_gcdR F (n + 1) x.1 x.2.1) from funext fun x => e158 F n x.1 x.2.1] at h⟩
theorem c158 (F : Nat) : CSok E gl (s158 F) := c158R F F
theorem hf130 : Tryz.prog.funcs[130]? = some Tryz.f130 := by kernel_rfl
theorem en130 : Proofs.Enters Tryz.prog 130 := Proofs.enters_of hf130 (by kernel_rfl) rfl
noncomputable def ref03_At (F : Nat) (a0 : List Point) (a1 : Int) : Option (Ratio × Int) :=
  bnd (ref03_Curve F a0) (fun (x : Bool) => brk (!x) (some ((Ratio.mk (0 : Int) (0 : Int), (40 : Int)))) (bnd (ref03_in F a1 (0 : Int) (1000 : Int)) (fun (x_1 : Bool) => brk (!x_1) (some ((Ratio.mk (0 : Int) (0 : Int), (6 : Int)))) (bnd (ref03_fraction F a0 a1) (fun (x_2 : (Int) × (Int)) => bnd (ref03_gcd F x_2.fst x_2.snd) (fun (x_3 : Int) => chk (((0 : Int) ≤ x_2.fst ∧ x_2.fst ≤ (9223372036854775807 : Int)) ∧ (0 : Int) < x_3) (chk (((0 : Int) ≤ x_2.snd ∧ x_2.snd ≤ (9223372036854775807 : Int)) ∧ (0 : Int) < x_3) (some ((Ratio.mk (x_2.fst / x_3) (x_2.snd / x_3), (0 : Int)))))))))))
noncomputable def s130 (F : Nat) : CS E.G := ⟨130, [.sl 6, .v 0 false], [.v 29 true [], .v 0 false []], fun x => ref03_At F x.1 x.2.1⟩
noncomputable def cx130 (F : Nat) : Ctx E := ⟨[s129 F, s156 F, s157 F, s158 F], [], F, []⟩
noncomputable def h130 : Hint := (.c .n .n)
theorem e130 (F : Nat) (a0 : List Point) (a1 : Int) : fnK (E := E) (cx130 F) Tryz.f130 gl [.sl 6, .v 0 false] [.v 29 true [], .v 0 false []] h130 (a0, a1, ()) = ref03_At F a0 a1 := by kernel_rfl
theorem c130 (F : Nat) : CSok E gl (s130 F) := ⟨en130, by
  have h := fn_sound (E := E) (gl := gl) (cx := cx130 F) mix (allC (c129 F) (allC (c156 F) (allC (c157 F) (allC (c158 F) all0)))) inl0 gl_up gl_lt hf130 (ps := [.sl 6, .v 0 false]) (rs := [.v 29 true [], .v 0 false []]) (by decide) h130
  rwa [show fnK (E := E) (cx130 F) Tryz.f130 gl [.sl 6, .v 0 false] [.v 29 true [], .v 0 false []] h130 = (fun x : AT E.G.car [.sl 6, .v 0 false] => ref03_At F x.1 x.2.1) from funext fun x => e130 F x.1 x.2.1] at h⟩
theorem hf73 : Tryz.prog.funcs[73]? = some Tryz.f73 := by kernel_rfl
theorem en73 : Proofs.Enters Tryz.prog 73 := Proofs.enters_of hf73 (by kernel_rfl) rfl
noncomputable def ref05_near (F : Nat) (a0 : Member2) (a1 : Int) : Option (Int) :=
  bnd (ref03_At F a0.Stop a1) (fun (x : (Ratio) × (Int)) => chk (((0 : Int) ≤ x.fst.N ∧ x.fst.N ≤ (9223372036854775807 : Int)) ∧ (0 : Int) < if (1 : Int) > x.fst.D then (1 : Int) else x.fst.D) (some (if (x.fst.N / if (1 : Int) > x.fst.D then (1 : Int) else x.fst.D) < a0.Short then x.fst.N / if (1 : Int) > x.fst.D then (1 : Int) else x.fst.D else a0.Short)))
noncomputable def s73 (F : Nat) : CS E.G := ⟨73, [.v 16 true, .v 0 false], [.v 0 false []], fun x => ref05_near F x.1 x.2.1⟩
noncomputable def cx73 (F : Nat) : Ctx E := ⟨[s130 F], [], F, []⟩
noncomputable def h73 : Hint := .n
theorem e73 (F : Nat) (a0 : Member2) (a1 : Int) : fnK (E := E) (cx73 F) Tryz.f73 gl [.v 16 true, .v 0 false] [.v 0 false []] h73 (a0, a1, ()) = ref05_near F a0 a1 := by kernel_rfl
theorem c73 (F : Nat) : CSok E gl (s73 F) := ⟨en73, by
  have h := fn_sound (E := E) (gl := gl) (cx := cx73 F) mix (allC (c130 F) all0) inl0 gl_up gl_lt hf73 (ps := [.v 16 true, .v 0 false]) (rs := [.v 0 false []]) (by decide) h73
  rwa [show fnK (E := E) (cx73 F) Tryz.f73 gl [.v 16 true, .v 0 false] [.v 0 false []] h73 = (fun x : AT E.G.car [.v 16 true, .v 0 false] => ref05_near F x.1 x.2.1) from funext fun x => e73 F x.1 x.2.1] at h⟩
theorem hf14 : Tryz.prog.funcs[14]? = some Tryz.f14 := by kernel_rfl
theorem en14 : Proofs.Enters Tryz.prog 14 := Proofs.enters_of hf14 (by kernel_rfl) rfl
noncomputable def ref05_Way (F : Nat) (a0 : Int) (a1 : Int) : Option (Int × Int × Int) :=
  bnd (ref05_in F a0 (0 : Int) (250 : Int)) (fun (x : Bool) => bnd (brk (!!x) (ref05_in F a1 (0 : Int) (100000 : Int)) (some false)) (fun (x_1 : Bool) => brk (!x || !x_1) (some (((0 : Int), (0 : Int), (6 : Int)))) (chk (InR ((463 : Int) * a0)) (chk (InR ((463 : Int) * a0 * a1)) (chk ((0 : Int) ≤ (463 : Int) * a0 * a1 ∧ (463 : Int) * a0 * a1 ≤ (9223372036854775807 : Int)) (join (F) (fun (x_2 : Int) => chk ((0 : Int) ≤ (463 : Int) * a0 * a1 ∧ (463 : Int) * a0 * a1 ≤ (9223372036854775807 : Int)) (some (((463 : Int) * a0 * a1 / (9000 : Int), x_2, (0 : Int))))) (fun x_2 => chk (InR ((463 : Int) * a0 * a1 / (9000 : Int) * (9000 : Int))) (brk (decide ((463 : Int) * a0 * a1 / (9000 : Int) * (9000 : Int) < (463 : Int) * a0 * a1)) (chk (InR ((463 : Int) * a0 * a1 / (9000 : Int) + (1 : Int))) (x_2 ((463 : Int) * a0 * a1 / (9000 : Int) + (1 : Int)))) (x_2 ((463 : Int) * a0 * a1 / (9000 : Int)))))))))))
noncomputable def s14 (F : Nat) : CS E.G := ⟨14, [.v 0 false, .v 0 false], [.v 0 false [], .v 0 false [], .v 0 false []], fun x => ref05_Way F x.1 x.2.1⟩
noncomputable def cx14 (F : Nat) : Ctx E := ⟨[s68 F], [], F, []⟩
noncomputable def h14 : Hint := (.c .n (.k (.k (.j ⟨[.i], [112], [0], [(128, .i IntKind.i64)], [], [], [], 1⟩ .n .n))))
theorem e14 (F : Nat) (a0 : Int) (a1 : Int) : fnK (E := E) (cx14 F) Tryz.f14 gl [.v 0 false, .v 0 false] [.v 0 false [], .v 0 false [], .v 0 false []] h14 (a0, a1, ()) = ref05_Way F a0 a1 := by kernel_rfl
theorem c14 (F : Nat) : CSok E gl (s14 F) := ⟨en14, by
  have h := fn_sound (E := E) (gl := gl) (cx := cx14 F) mix (allC (c68 F) all0) inl0 gl_up gl_lt hf14 (ps := [.v 0 false, .v 0 false]) (rs := [.v 0 false [], .v 0 false [], .v 0 false []]) (by decide) h14
  rwa [show fnK (E := E) (cx14 F) Tryz.f14 gl [.v 0 false, .v 0 false] [.v 0 false [], .v 0 false [], .v 0 false []] h14 = (fun x : AT E.G.car [.v 0 false, .v 0 false] => ref05_Way F x.1 x.2.1) from funext fun x => e14 F x.1 x.2.1] at h⟩
theorem hf74 : Tryz.prog.funcs[74]? = some Tryz.f74 := by kernel_rfl
theorem en74 : Proofs.Enters Tryz.prog 74 := Proofs.enters_of hf74 (by kernel_rfl) rfl
noncomputable def ref05_far (F : Nat) (a0 : Member2) (a1 : Int) : Option (Int) :=
  bnd (ref03_At F a0.Stop a1) (fun (x : (Ratio) × (Int)) => bnd (ref05_Way F a1 a0.Delay) (fun (x_1 : (Int) × ((Int) × (Int))) => chk (((0 : Int) ≤ x.fst.N ∧ x.fst.N ≤ (9223372036854775807 : Int)) ∧ (0 : Int) < if (1 : Int) > x.fst.D then (1 : Int) else x.fst.D) (chk (InR (x_1.snd.fst + x.fst.N / if (1 : Int) > x.fst.D then (1 : Int) else x.fst.D)) (join (F) (fun (x_2 : Int) => some (x_2)) (fun x_2 => chk (((0 : Int) ≤ x.fst.N ∧ x.fst.N ≤ (9223372036854775807 : Int)) ∧ (0 : Int) < if (1 : Int) > x.fst.D then (1 : Int) else x.fst.D) (chk (InR ((x.fst.N / if (1 : Int) > x.fst.D then (1 : Int) else x.fst.D) * if (1 : Int) > x.fst.D then (1 : Int) else x.fst.D)) (brk (decide (((x.fst.N / if (1 : Int) > x.fst.D then (1 : Int) else x.fst.D) * if (1 : Int) > x.fst.D then (1 : Int) else x.fst.D) < x.fst.N)) (chk (InR ((x_1.snd.fst + x.fst.N / if (1 : Int) > x.fst.D then (1 : Int) else x.fst.D) + (1 : Int))) (x_2 ((x_1.snd.fst + x.fst.N / if (1 : Int) > x.fst.D then (1 : Int) else x.fst.D) + (1 : Int)))) (x_2 (x_1.snd.fst + x.fst.N / if (1 : Int) > x.fst.D then (1 : Int) else x.fst.D)))))))))
noncomputable def s74 (F : Nat) : CS E.G := ⟨74, [.v 16 true, .v 0 false], [.v 0 false []], fun x => ref05_far F x.1 x.2.1⟩
noncomputable def cx74 (F : Nat) : Ctx E := ⟨[s14 F, s130 F], [], F, []⟩
noncomputable def h74 : Hint := (.k (.k (.k (.k (.k (.j ⟨[.i], [], [0], [(128, .i IntKind.i64)], [], [], [], 7⟩ .n .n))))))
theorem e74 (F : Nat) (a0 : Member2) (a1 : Int) : fnK (E := E) (cx74 F) Tryz.f74 gl [.v 16 true, .v 0 false] [.v 0 false []] h74 (a0, a1, ()) = ref05_far F a0 a1 := by kernel_rfl
theorem c74 (F : Nat) : CSok E gl (s74 F) := ⟨en74, by
  have h := fn_sound (E := E) (gl := gl) (cx := cx74 F) mix (allC (c14 F) (allC (c130 F) all0)) inl0 gl_up gl_lt hf74 (ps := [.v 16 true, .v 0 false]) (rs := [.v 0 false []]) (by decide) h74
  rwa [show fnK (E := E) (cx74 F) Tryz.f74 gl [.v 16 true, .v 0 false] [.v 0 false []] h74 = (fun x : AT E.G.car [.v 16 true, .v 0 false] => ref05_far F x.1 x.2.1) from funext fun x => e74 F x.1 x.2.1] at h⟩
theorem hf78 : Tryz.prog.funcs[78]? = some Tryz.f78 := by kernel_rfl
theorem en78 : Proofs.Enters Tryz.prog 78 := Proofs.enters_of hf78 (by kernel_rfl) rfl
noncomputable def ref05_gaps (F : Nat) (a0 : Convoy2) (a1 : Int) : Option ((List Int)) :=
  bnd (ref05_all F a0) (fun (x : List (Member2)) => loopC (fun (x_1 : (List (Int)) × (Int)) => fun x_2 => brk (decide (x_1.snd < (↑(List.length x) : Int))) (join (F) (fun (x_3 : Int) => chk (List.length x_1.fst + [x_3].length ≤ (1000000 : Nat)) (chk (InR (x_1.snd + (1 : Int))) (x_2 ((x_1.fst ++ [x_3], x_1.snd + (1 : Int)))))) (fun x_3 => chk ((0 : Int) ≤ x_1.snd ∧ x_1.snd < (↑(List.length x) : Int)) (bnd (ref05_far F (List.getD x (Int.toNat x_1.snd) (Member2.mk (Ship2.mk (0 : Int) (0 : Int) (0 : Int) (0 : Int) [] [] [] (0 : Int) (0 : Int) (0 : Int) (0 : Int)) [] (0 : Int) (0 : Int) (0 : Int))) a1) (fun (x_4 : Int) => chk (InR (x_1.snd - (1 : Int))) (chk ((0 : Int) ≤ x_1.snd - (1 : Int) ∧ x_1.snd - (1 : Int) < (↑(List.length x) : Int)) (bnd (ref05_near F (List.getD x (x_1.snd - (1 : Int)).toNat (Member2.mk (Ship2.mk (0 : Int) (0 : Int) (0 : Int) (0 : Int) [] [] [] (0 : Int) (0 : Int) (0 : Int) (0 : Int)) [] (0 : Int) (0 : Int) (0 : Int))) a1) (fun (x_5 : Int) => brk (decide (x_4 > x_5)) (chk ((0 : Int) ≤ x_1.snd ∧ x_1.snd < (↑(List.length x) : Int)) (bnd (ref05_far F (List.getD x (Int.toNat x_1.snd) (Member2.mk (Ship2.mk (0 : Int) (0 : Int) (0 : Int) (0 : Int) [] [] [] (0 : Int) (0 : Int) (0 : Int) (0 : Int)) [] (0 : Int) (0 : Int) (0 : Int))) a1) (fun (x_6 : Int) => chk (InR (a0.Clear + x_6)) (chk (InR (x_1.snd - (1 : Int))) (chk ((0 : Int) ≤ x_1.snd - (1 : Int) ∧ x_1.snd - (1 : Int) < (↑(List.length x) : Int)) (bnd (ref05_near F (List.getD x (x_1.snd - (1 : Int)).toNat (Member2.mk (Ship2.mk (0 : Int) (0 : Int) (0 : Int) (0 : Int) [] [] [] (0 : Int) (0 : Int) (0 : Int) (0 : Int)) [] (0 : Int) (0 : Int) (0 : Int))) a1) (fun (x_7 : Int) => chk (InR (a0.Clear + x_6 - x_7)) (x_3 (a0.Clear + x_6 - x_7))))))))) (x_3 (a0.Clear))))))))) (some (x_1.fst))) (F) (([], (1 : Int))))
noncomputable def s78 (F : Nat) : CS E.G := ⟨78, [.v 18 true, .v 0 false], [.sl 0 3], fun x => ref05_gaps F x.1 x.2.1⟩
noncomputable def cx78 (F : Nat) : Ctx E := ⟨[s73 F, s74 F, s83 F], [], F, []⟩
noncomputable def h78 : Hint := (.l ⟨[.l 0, .i], [16, 32, 96], [0, 6, 7, 5, 4, 3, 2, 1], [(80, .h 8 3 0), (112, .i IntKind.i64)], [], [], [], 9⟩ (.c (.k (.k (.j ⟨[.i], [16, 32, 96, 80, 112], [0, 6, 7, 8, 5, 4, 3, 2, 1], [(128, .i IntKind.i64)], [], [], [], 9⟩ .n .n))) .n))
theorem e78 (F : Nat) (a0 : Convoy2) (a1 : Int) : fnK (E := E) (cx78 F) Tryz.f78 gl [.v 18 true, .v 0 false] [.sl 0 3] h78 (a0, a1, ()) = ref05_gaps F a0 a1 := by kernel_rfl
theorem c78 (F : Nat) : CSok E gl (s78 F) := ⟨en78, by
  have h := fn_sound (E := E) (gl := gl) (cx := cx78 F) mix (allC (c73 F) (allC (c74 F) (allC (c83 F) all0))) inl0 gl_up gl_lt hf78 (ps := [.v 18 true, .v 0 false]) (rs := [.sl 0 3]) (by decide) h78
  rwa [show fnK (E := E) (cx78 F) Tryz.f78 gl [.v 18 true, .v 0 false] [.sl 0 3] h78 = (fun x : AT E.G.car [.v 18 true, .v 0 false] => ref05_gaps F x.1 x.2.1) from funext fun x => e78 F x.1 x.2.1] at h⟩
theorem hf80 : Tryz.prog.funcs[80]? = some Tryz.f80 := by kernel_rfl
theorem en80 : Proofs.Enters Tryz.prog 80 := Proofs.enters_of hf80 (by kernel_rfl) rfl
noncomputable def ref05_tail (F : Nat) (a0 : Convoy2) (a1 : Int) : Option (Int) :=
  bnd (ref05_gaps F a0 a1) (fun (x : List (Int)) => loopC (fun (x_1 : (Int) × (Int)) => fun x_2 => brk (decide (x_1.snd < (↑(List.length x) : Int))) (chk ((0 : Int) ≤ x_1.snd ∧ x_1.snd < (↑(List.length x) : Int)) (chk (InR (x_1.fst + List.getD x (Int.toNat x_1.snd) (0 : Int))) (chk ((0 : Int) ≤ x_1.snd ∧ x_1.snd < (↑a0.Ships.length : Int)) (chk (InR (x_1.fst + List.getD x (Int.toNat x_1.snd) (0 : Int) + (a0.Ships.getD (Int.toNat x_1.snd) (Member2.mk (Ship2.mk (0 : Int) (0 : Int) (0 : Int) (0 : Int) [] [] [] (0 : Int) (0 : Int) (0 : Int) (0 : Int)) [] (0 : Int) (0 : Int) (0 : Int))).Length)) (chk (InR (x_1.snd + (1 : Int))) (x_2 ((x_1.fst + List.getD x (Int.toNat x_1.snd) (0 : Int) + (a0.Ships.getD (Int.toNat x_1.snd) (Member2.mk (Ship2.mk (0 : Int) (0 : Int) (0 : Int) (0 : Int) [] [] [] (0 : Int) (0 : Int) (0 : Int) (0 : Int)) [] (0 : Int) (0 : Int) (0 : Int))).Length, x_1.snd + (1 : Int))))))))) (some (x_1.fst))) (F) (((0 : Int), (0 : Int))))
noncomputable def s80 (F : Nat) : CS E.G := ⟨80, [.v 18 true, .v 0 false], [.v 0 false []], fun x => ref05_tail F x.1 x.2.1⟩
noncomputable def cx80 (F : Nat) : Ctx E := ⟨[s78 F], [], F, []⟩
noncomputable def h80 : Hint := (.l ⟨[.i, .i], [32, 96], [0, 6, 7, 5, 4, 3, 2, 1], [(80, .i IntKind.i64), (112, .i IntKind.i64)], [], [], [], 8⟩ .n)
theorem e80 (F : Nat) (a0 : Convoy2) (a1 : Int) : fnK (E := E) (cx80 F) Tryz.f80 gl [.v 18 true, .v 0 false] [.v 0 false []] h80 (a0, a1, ()) = ref05_tail F a0 a1 := by kernel_rfl
theorem c80 (F : Nat) : CSok E gl (s80 F) := ⟨en80, by
  have h := fn_sound (E := E) (gl := gl) (cx := cx80 F) mix (allC (c78 F) all0) inl0 gl_up gl_lt hf80 (ps := [.v 18 true, .v 0 false]) (rs := [.v 0 false []]) (by decide) h80
  rwa [show fnK (E := E) (cx80 F) Tryz.f80 gl [.v 18 true, .v 0 false] [.v 0 false []] h80 = (fun x : AT E.G.car [.v 18 true, .v 0 false] => ref05_tail F x.1 x.2.1) from funext fun x => e80 F x.1 x.2.1] at h⟩
theorem hf82 : Tryz.prog.funcs[82]? = some Tryz.f82 := by kernel_rfl
theorem en82 : Proofs.Enters Tryz.prog 82 := Proofs.enters_of hf82 (by kernel_rfl) rfl
noncomputable def ref05_open (F : Nat) (a0 : Convoy2) (a1 : Int) (a2 : Int) : Option (Int) :=
  chk (InR ((463 : Int) * a1)) (chk (InR ((463 : Int) * a1 * (60 : Int))) (chk ((0 : Int) ≤ a2 ∧ a2 < (↑(4 : Nat) : Int)) (chk (InR ((463 : Int) * a1 * (60 : Int) * [a0.Close.a0, a0.Close.a1, a0.Close.a2, a0.Close.a3].getD a2.toNat (0 : Int))) (chk ((0 : Int) ≤ (463 : Int) * a1 * (60 : Int) * [a0.Close.a0, a0.Close.a1, a0.Close.a2, a0.Close.a3].getD a2.toNat (0 : Int) ∧ (463 : Int) * a1 * (60 : Int) * [a0.Close.a0, a0.Close.a1, a0.Close.a2, a0.Close.a3].getD a2.toNat (0 : Int) ≤ (9223372036854775807 : Int)) (some ((463 : Int) * a1 * (60 : Int) * [a0.Close.a0, a0.Close.a1, a0.Close.a2, a0.Close.a3].getD a2.toNat (0 : Int) / (9000 : Int)))))))
noncomputable def s82 (F : Nat) : CS E.G := ⟨82, [.v 18 true, .v 0 false, .v 0 false], [.v 0 false []], fun x => ref05_open F x.1 x.2.1 x.2.2.1⟩
noncomputable def cx82 (F : Nat) : Ctx E := ⟨[], [], F, []⟩
noncomputable def h82 : Hint := .n
theorem e82 (F : Nat) (a0 : Convoy2) (a1 : Int) (a2 : Int) : fnK (E := E) (cx82 F) Tryz.f82 gl [.v 18 true, .v 0 false, .v 0 false] [.v 0 false []] h82 (a0, a1, a2, ()) = ref05_open F a0 a1 a2 := by kernel_rfl
theorem c82 (F : Nat) : CSok E gl (s82 F) := ⟨en82, by
  have h := fn_sound (E := E) (gl := gl) (cx := cx82 F) mix all0 inl0 gl_up gl_lt hf82 (ps := [.v 18 true, .v 0 false, .v 0 false]) (rs := [.v 0 false []]) (by decide) h82
  rwa [show fnK (E := E) (cx82 F) Tryz.f82 gl [.v 18 true, .v 0 false, .v 0 false] [.v 0 false []] h82 = (fun x : AT E.G.car [.v 18 true, .v 0 false, .v 0 false] => ref05_open F x.1 x.2.1 x.2.2.1) from funext fun x => e82 F x.1 x.2.1 x.2.2.1] at h⟩
theorem hf94 : Tryz.prog.funcs[94]? = some Tryz.f94 := by kernel_rfl
theorem en94 : Proofs.Enters Tryz.prog 94 := Proofs.enters_of hf94 (by kernel_rfl) rfl
noncomputable def ref05_holds (F : Nat) (a0 : Convoy2) (a1 : Cell) (a2 : Int) (a3 : Int) : Option (Bool) :=
  bnd (brk (decide (a3 ≥ (10 : Int)) && decide (a3 ≤ a2)) (ref05_tail F a0 a3) (some (0 : Int))) (fun (x : Int) => bnd (brk (decide (a3 ≥ (10 : Int)) && decide (a3 ≤ a2)) (ref05_open F a0 a3 a1.Press.Hi) (some (0 : Int))) (fun (x_1 : Int) => some (decide (a3 ≥ (10 : Int)) && decide (a3 ≤ a2) && decide (x ≤ x_1))))
noncomputable def s94 (F : Nat) : CS E.G := ⟨94, [.v 18 true, .v 20 true, .v 0 false, .v 0 false], [.v 1 false []], fun x => ref05_holds F x.1 x.2.1 x.2.2.1 x.2.2.2.1⟩
noncomputable def cx94 (F : Nat) : Ctx E := ⟨[s80 F, s82 F], [], F, []⟩
noncomputable def h94 : Hint := .n
theorem e94 (F : Nat) (a0 : Convoy2) (a1 : Cell) (a2 : Int) (a3 : Int) : fnK (E := E) (cx94 F) Tryz.f94 gl [.v 18 true, .v 20 true, .v 0 false, .v 0 false] [.v 1 false []] h94 (a0, a1, a2, a3, ()) = ref05_holds F a0 a1 a2 a3 := by kernel_rfl
theorem c94 (F : Nat) : CSok E gl (s94 F) := ⟨en94, by
  have h := fn_sound (E := E) (gl := gl) (cx := cx94 F) mix (allC (c80 F) (allC (c82 F) all0)) inl0 gl_up gl_lt hf94 (ps := [.v 18 true, .v 20 true, .v 0 false, .v 0 false]) (rs := [.v 1 false []]) (by decide) h94
  rwa [show fnK (E := E) (cx94 F) Tryz.f94 gl [.v 18 true, .v 20 true, .v 0 false, .v 0 false] [.v 1 false []] h94 = (fun x : AT E.G.car [.v 18 true, .v 20 true, .v 0 false, .v 0 false] => ref05_holds F x.1 x.2.1 x.2.2.1 x.2.2.2.1) from funext fun x => e94 F x.1 x.2.1 x.2.2.1 x.2.2.2.1] at h⟩
theorem hf36 : Tryz.prog.funcs[36]? = some Tryz.f36 := by kernel_rfl
theorem en36 : Proofs.Enters Tryz.prog 36 := Proofs.enters_of hf36 (by kernel_rfl) rfl
noncomputable def ref05_Holds (F : Nat) (a0 : Convoy2) (a1 : Cell) (a2 : Int) : Option (Bool × Int) :=
  bnd (ref05_met F a0 a1) (fun (x : Int) => brk (x != (0 : Int)) (some ((false, x))) (bnd (ref05_in F a2 (0 : Int) (250 : Int)) (fun (x_1 : Bool) => brk (!x_1) (some ((false, (6 : Int)))) (bnd (ref05_Most F a0 a1) (fun (x_2 : Int) => bnd (ref05_holds F a0 a1 x_2 a2) (fun (x_3 : Bool) => some ((x_3, (0 : Int)))))))))
noncomputable def s36 (F : Nat) : CS E.G := ⟨36, [.v 18 true, .v 20 true, .v 0 false], [.v 1 false [], .v 0 false []], fun x => ref05_Holds F x.1 x.2.1 x.2.2.1⟩
noncomputable def cx36 (F : Nat) : Ctx E := ⟨[s68 F, s90 F, s93 F, s94 F], [], F, []⟩
noncomputable def h36 : Hint := (.c .n .n)
theorem e36 (F : Nat) (a0 : Convoy2) (a1 : Cell) (a2 : Int) : fnK (E := E) (cx36 F) Tryz.f36 gl [.v 18 true, .v 20 true, .v 0 false] [.v 1 false [], .v 0 false []] h36 (a0, a1, a2, ()) = ref05_Holds F a0 a1 a2 := by kernel_rfl
theorem c36 (F : Nat) : CSok E gl (s36 F) := ⟨en36, by
  have h := fn_sound (E := E) (gl := gl) (cx := cx36 F) mix (allC (c68 F) (allC (c90 F) (allC (c93 F) (allC (c94 F) all0)))) inl0 gl_up gl_lt hf36 (ps := [.v 18 true, .v 20 true, .v 0 false]) (rs := [.v 1 false [], .v 0 false []]) (by decide) h36
  rwa [show fnK (E := E) (cx36 F) Tryz.f36 gl [.v 18 true, .v 20 true, .v 0 false] [.v 1 false [], .v 0 false []] h36 = (fun x : AT E.G.car [.v 18 true, .v 20 true, .v 0 false] => ref05_Holds F x.1 x.2.1 x.2.2.1) from funext fun x => e36 F x.1 x.2.1 x.2.2.1] at h⟩
theorem hf137 : Tryz.prog.funcs[137]? = some Tryz.f137 := by kernel_rfl
theorem en137 : Proofs.Enters Tryz.prog 137 := Proofs.enters_of hf137 (by kernel_rfl) rfl
theorem hf138 : Tryz.prog.funcs[138]? = some Tryz.f138 := by kernel_rfl
theorem en138 : Proofs.Enters Tryz.prog 138 := Proofs.enters_of hf138 (by kernel_rfl) rfl
theorem hf95 : Tryz.prog.funcs[95]? = some Tryz.f95 := by kernel_rfl
theorem en95 : Proofs.Enters Tryz.prog 95 := Proofs.enters_of hf95 (by kernel_rfl) rfl
noncomputable def convoy_Convoy_speeds (F : Nat) (a0 : Convoy) (a1 : Int) (a2 : Int) : Option ((List Span)) :=
  loopC (fun (x : (Int) × (List (Span))) => fun x_1 => brk (decide (x.fst ≤ a1)) (join (F) (fun (x_2 : List (Span)) => chk (InR (x.fst + (1 : Int))) (x_1 ((x.fst + (1 : Int), x_2)))) (fun x_2 => bnd (convoy_Member_halt F a0.Breaker x.fst) (fun (x_3 : Span) => loopC (fun (x_4 : (Int) × ((List (Int)) × ((Int) × (Int)))) => fun x_5 => brk (decide (x_4.fst < (↑a0.Ships.length : Int))) (chk ((0 : Int) ≤ x_4.fst ∧ x_4.fst < (↑a0.Ships.length : Int)) (bnd (convoy_Member_halt F (a0.Ships.getD (Int.toNat x_4.fst) (Member.mk (Ship.mk (0 : Int) (0 : Int) (0 : Int) (0 : Int) [] [] [] (0 : Int) (0 : Int) (0 : Int) (0 : Int)) [] (0 : Int) (0 : Int) (0 : Int))) x.fst) (fun (x_6 : Span) => chk (InR (x_6.Hi - x_4.snd.snd.snd)) (chk (InR (a0.Clear + if x_6.Hi - x_4.snd.snd.snd > (0 : Int) then x_6.Hi - x_4.snd.snd.snd else (0 : Int))) (chk (List.length x_4.snd.fst + [a0.Clear + if x_6.Hi - x_4.snd.snd.snd > (0 : Int) then x_6.Hi - x_4.snd.snd.snd else (0 : Int)].length ≤ (1000000 : Nat)) (chk (InR (x_4.fst + (1 : Int))) (x_5 ((x_4.fst + (1 : Int), x_4.snd.fst ++ [a0.Clear + if x_6.Hi - x_4.snd.snd.snd > (0 : Int) then x_6.Hi - x_4.snd.snd.snd else (0 : Int)], x_6.Hi, x_6.Lo))))))))) (loopC (fun (x_6 : (Int) × (Int)) => fun x_7 => brk (decide (x_6.snd < (↑(List.length x_4.snd.fst) : Int))) (chk ((0 : Int) ≤ x_6.snd ∧ x_6.snd < (↑(List.length x_4.snd.fst) : Int)) (chk ((0 : Int) ≤ x_6.snd ∧ x_6.snd < (↑a0.Ships.length : Int)) (chk (InR (List.getD x_4.snd.fst (Int.toNat x_6.snd) (0 : Int) + (a0.Ships.getD (Int.toNat x_6.snd) (Member.mk (Ship.mk (0 : Int) (0 : Int) (0 : Int) (0 : Int) [] [] [] (0 : Int) (0 : Int) (0 : Int) (0 : Int)) [] (0 : Int) (0 : Int) (0 : Int))).Length)) (chk (InR (x_6.fst + (List.getD x_4.snd.fst (Int.toNat x_6.snd) (0 : Int) + (a0.Ships.getD (Int.toNat x_6.snd) (Member.mk (Ship.mk (0 : Int) (0 : Int) (0 : Int) (0 : Int) [] [] [] (0 : Int) (0 : Int) (0 : Int) (0 : Int)) [] (0 : Int) (0 : Int) (0 : Int))).Length))) (chk (InR (x_6.snd + (1 : Int))) (x_7 ((x_6.fst + (List.getD x_4.snd.fst (Int.toNat x_6.snd) (0 : Int) + (a0.Ships.getD (Int.toNat x_6.snd) (Member.mk (Ship.mk (0 : Int) (0 : Int) (0 : Int) (0 : Int) [] [] [] (0 : Int) (0 : Int) (0 : Int) (0 : Int)) [] (0 : Int) (0 : Int) (0 : Int))).Length), x_6.snd + (1 : Int))))))))) (chk ((0 : Int) ≤ a2 ∧ a2 < (↑(4 : Nat) : Int)) (chk (InR ((60 : Int) * [a0.Close.a0, a0.Close.a1, a0.Close.a2, a0.Close.a3].getD a2.toNat (0 : Int))) (bnd (convoy_way F x.fst ((60 : Int) * [a0.Close.a0, a0.Close.a1, a0.Close.a2, a0.Close.a3].getD a2.toNat (0 : Int))) (fun (x_8 : (Int) × (Int)) => brk (!decide (x_6.fst ≤ x_8.fst)) (x_2 (x.snd)) (chk (InR ((↑(List.length x.snd) : Int) - (1 : Int))) (chk (decide ((↑(List.length x.snd) : Int) - (1 : Int) ≥ (0 : Int)) = true → (0 : Int) ≤ (↑(List.length x.snd) : Int) - (1 : Int) ∧ (↑(List.length x.snd) : Int) - (1 : Int) < (↑(List.length x.snd) : Int)) (chk (decide ((↑(List.length x.snd) : Int) - (1 : Int) ≥ (0 : Int)) = true → InR (x.fst - (1 : Int))) (brk (decide ((↑(List.length x.snd) : Int) - (1 : Int) ≥ (0 : Int)) && (List.getD x.snd ((↑(List.length x.snd) : Int) - (1 : Int)).toNat (Span.mk (0 : Int) (0 : Int))).Hi == x.fst - (1 : Int)) (chk ((0 : Int) ≤ (↑(List.length x.snd) : Int) - (1 : Int) ∧ (↑(List.length x.snd) : Int) - (1 : Int) < (↑(List.length x.snd) : Int)) (chk (InR ((List.getD x.snd ((↑(List.length x.snd) : Int) - (1 : Int)).toNat (Span.mk (0 : Int) (0 : Int))).Hi + (1 : Int))) (chk ((0 : Int) ≤ (↑(List.length x.snd) : Int) - (1 : Int) ∧ (↑(List.length x.snd) : Int) - (1 : Int) < (↑(List.length x.snd) : Int)) (x_2 (List.set x.snd ((↑(List.length x.snd) : Int) - (1 : Int)).toNat (Span.mk (List.getD x.snd ((↑(List.length x.snd) : Int) - (1 : Int)).toNat (Span.mk (0 : Int) (0 : Int))).Lo ((List.getD x.snd ((↑(List.length x.snd) : Int) - (1 : Int)).toNat (Span.mk (0 : Int) (0 : Int))).Hi + (1 : Int)))))))) (chk (List.length x.snd + [Span.mk x.fst x.fst].length ≤ (1000000 : Nat)) (x_2 (x.snd ++ [Span.mk x.fst x.fst])))))))))))) (F) (((0 : Int), (0 : Int))))) (F) (((0 : Int), [], x_3.Hi, x_3.Lo))))) (some (x.snd))) (F) (((10 : Int), []))
noncomputable def s95 (F : Nat) : CS E.G := ⟨95, [.ptr 12, .v 0 false, .v 0 false], [.sl 19 50], fun x => convoy_Convoy_speeds F x.1 x.2.1 x.2.2.1⟩
noncomputable def cx95 (F : Nat) : Ctx E := ⟨[s72 F, s67 F], [(137, Tryz.f137), (138, Tryz.f138), (92, Tryz.f92), (79, Tryz.f79), (76, Tryz.f76), (81, Tryz.f81)], F, []⟩
noncomputable def h95 : Hint := (.p (.l ⟨[.i, .l 19], [16, 32], [0, 1, 3, 2], [(128, .i IntKind.i64), (112, .h 4 50 19)], [], [], [], 5⟩ (.c (.j ⟨[.l 19], [16, 32, 128], [0, 1, 3, 2], [(112, .h 5 50 19)], [], [], [], 6⟩ (.p (.p (.p (.p (.l ⟨[.i, .l 0, .i, .i], [16, 64, 320, 336], [0, 1, 7, 12, 13], [(352, .i IntKind.i64), (48, .h 14 3 0)], [], [(12, 1, .i IntKind.i64), (12, 0, .i IntKind.i64)], [], 15⟩ (.c .n (.l ⟨[.i, .i], [16, 128, 112], [0, 1, 6, 14], [(48, .i IntKind.i64), (144, .i IntKind.i64)], [], [], [], 15⟩ (.c .n (.p (.c .n .n)))))))))) .n) .n)))
theorem e95 (F : Nat) (a0 : Convoy) (a1 : Int) (a2 : Int) : fnK (E := E) (cx95 F) Tryz.f95 gl [.ptr 12, .v 0 false, .v 0 false] [.sl 19 50] h95 (a0, a1, a2, ()) = convoy_Convoy_speeds F a0 a1 a2 := by kernel_rfl
theorem c95 (F : Nat) : CSok E gl (s95 F) := ⟨en95, by
  have h := fn_sound (E := E) (gl := gl) (cx := cx95 F) mix (allC (c72 F) (allC (c67 F) all0)) (inlC hf137 en137 (inlC hf138 en138 (inlC hf92 en92 (inlC hf79 en79 (inlC hf76 en76 (inlC hf81 en81 inl0)))))) gl_up gl_lt hf95 (ps := [.ptr 12, .v 0 false, .v 0 false]) (rs := [.sl 19 50]) (by decide) h95
  rwa [show fnK (E := E) (cx95 F) Tryz.f95 gl [.ptr 12, .v 0 false, .v 0 false] [.sl 19 50] h95 = (fun x : AT E.G.car [.ptr 12, .v 0 false, .v 0 false] => convoy_Convoy_speeds F x.1 x.2.1 x.2.2.1) from funext fun x => e95 F x.1 x.2.1 x.2.2.1] at h⟩
theorem hf37 : Tryz.prog.funcs[37]? = some Tryz.f37 := by kernel_rfl
theorem en37 : Proofs.Enters Tryz.prog 37 := Proofs.enters_of hf37 (by kernel_rfl) rfl
noncomputable def convoy_Speeds (F : Nat) (a0 : Convoy) (a1 : Cell) : Option ((List Span) × Int) :=
  bnd (convoy_met F a0 a1) (fun (x : Int) => brk (x != (0 : Int)) (some (([], x))) (bnd (convoy_Convoy_most F a0 a1) (fun (x_1 : Int) => bnd (convoy_Convoy_speeds F a0 x_1 a1.Press.Hi) (fun (x_2 : List (Span)) => some ((x_2, (0 : Int)))))))
noncomputable def s37 (F : Nat) : CS E.G := ⟨37, [.v 12 true, .v 20 true], [.sl 19 50, .v 0 false []], fun x => convoy_Speeds F x.1 x.2.1⟩
noncomputable def cx37 (F : Nat) : Ctx E := ⟨[s87 F, s91 F, s95 F], [], F, []⟩
noncomputable def h37 : Hint := .n
theorem e37 (F : Nat) (a0 : Convoy) (a1 : Cell) : fnK (E := E) (cx37 F) Tryz.f37 gl [.v 12 true, .v 20 true] [.sl 19 50, .v 0 false []] h37 (a0, a1, ()) = convoy_Speeds F a0 a1 := by kernel_rfl
theorem c37 (F : Nat) : CSok E gl (s37 F) := ⟨en37, by
  have h := fn_sound (E := E) (gl := gl) (cx := cx37 F) mix (allC (c87 F) (allC (c91 F) (allC (c95 F) all0))) inl0 gl_up gl_lt hf37 (ps := [.v 12 true, .v 20 true]) (rs := [.sl 19 50, .v 0 false []]) (by decide) h37
  rwa [show fnK (E := E) (cx37 F) Tryz.f37 gl [.v 12 true, .v 20 true] [.sl 19 50, .v 0 false []] h37 = (fun x : AT E.G.car [.v 12 true, .v 20 true] => convoy_Speeds F x.1 x.2.1) from funext fun x => e37 F x.1 x.2.1] at h⟩
theorem hf38 : Tryz.prog.funcs[38]? = some Tryz.f38 := by kernel_rfl
theorem en38 : Proofs.Enters Tryz.prog 38 := Proofs.enters_of hf38 (by kernel_rfl) rfl
noncomputable def ref05_Speeds (F : Nat) (a0 : Convoy2) (a1 : Cell) : Option ((List Span) × Int) :=
  bnd (ref05_met F a0 a1) (fun (x : Int) => brk (x != (0 : Int)) (some (([], x))) (bnd (ref05_Most F a0 a1) (fun (x_1 : Int) => loopC (fun (x_2 : (Int) × (List (Span))) => fun x_3 => brk (decide (x_2.fst ≤ (250 : Int))) (join (F) (fun (x_4 : List (Span)) => chk (InR (x_2.fst + (1 : Int))) (x_3 ((x_2.fst + (1 : Int), x_4)))) (fun x_4 => bnd (ref05_holds F a0 a1 x_1 x_2.fst) (fun (x_5 : Bool) => brk (!x_5) (x_4 (x_2.snd)) (chk (InR ((↑(List.length x_2.snd) : Int) - (1 : Int))) (chk (decide ((↑(List.length x_2.snd) : Int) - (1 : Int) ≥ (0 : Int)) = true → (0 : Int) ≤ (↑(List.length x_2.snd) : Int) - (1 : Int) ∧ (↑(List.length x_2.snd) : Int) - (1 : Int) < (↑(List.length x_2.snd) : Int)) (chk (decide ((↑(List.length x_2.snd) : Int) - (1 : Int) ≥ (0 : Int)) = true → InR (x_2.fst - (1 : Int))) (brk (decide ((↑(List.length x_2.snd) : Int) - (1 : Int) ≥ (0 : Int)) && (List.getD x_2.snd ((↑(List.length x_2.snd) : Int) - (1 : Int)).toNat (Span.mk (0 : Int) (0 : Int))).Hi == x_2.fst - (1 : Int)) (chk ((0 : Int) ≤ (↑(List.length x_2.snd) : Int) - (1 : Int) ∧ (↑(List.length x_2.snd) : Int) - (1 : Int) < (↑(List.length x_2.snd) : Int)) (x_4 (List.set x_2.snd ((↑(List.length x_2.snd) : Int) - (1 : Int)).toNat (Span.mk (List.getD x_2.snd ((↑(List.length x_2.snd) : Int) - (1 : Int)).toNat (Span.mk (0 : Int) (0 : Int))).Lo x_2.fst)))) (chk (List.length x_2.snd + [Span.mk x_2.fst x_2.fst].length ≤ (1000000 : Nat)) (x_4 (x_2.snd ++ [Span.mk x_2.fst x_2.fst])))))))))) (some ((x_2.snd, (0 : Int))))) (F) (((10 : Int), [])))))
noncomputable def s38 (F : Nat) : CS E.G := ⟨38, [.v 18 true, .v 20 true], [.sl 19 50, .v 0 false []], fun x => ref05_Speeds F x.1 x.2.1⟩
noncomputable def cx38 (F : Nat) : Ctx E := ⟨[s90 F, s93 F, s94 F], [], F, []⟩
noncomputable def h38 : Hint := (.c .n (.l ⟨[.i, .l 19], [32, 128, 48], [0, 6, 7, 5, 4, 3, 2, 1], [(144, .i IntKind.i64), (112, .h 8 50 19)], [], [], [], 9⟩ (.c (.j ⟨[.l 19], [32, 128, 48, 144], [0, 6, 7, 5, 4, 3, 2, 1], [(112, .h 9 50 19)], [], [], [], 10⟩ (.c .n .n) .n) .n)))
theorem e38 (F : Nat) (a0 : Convoy2) (a1 : Cell) : fnK (E := E) (cx38 F) Tryz.f38 gl [.v 18 true, .v 20 true] [.sl 19 50, .v 0 false []] h38 (a0, a1, ()) = ref05_Speeds F a0 a1 := by kernel_rfl
theorem c38 (F : Nat) : CSok E gl (s38 F) := ⟨en38, by
  have h := fn_sound (E := E) (gl := gl) (cx := cx38 F) mix (allC (c90 F) (allC (c93 F) (allC (c94 F) all0))) inl0 gl_up gl_lt hf38 (ps := [.v 18 true, .v 20 true]) (rs := [.sl 19 50, .v 0 false []]) (by decide) h38
  rwa [show fnK (E := E) (cx38 F) Tryz.f38 gl [.v 18 true, .v 20 true] [.sl 19 50, .v 0 false []] h38 = (fun x : AT E.G.car [.v 18 true, .v 20 true] => ref05_Speeds F x.1 x.2.1) from funext fun x => e38 F x.1 x.2.1] at h⟩
theorem hf39 : Tryz.prog.funcs[39]? = some Tryz.f39 := by kernel_rfl
theorem en39 : Proofs.Enters Tryz.prog 39 := Proofs.enters_of hf39 (by kernel_rfl) rfl
noncomputable def kit_SameSpans (F : Nat) (a0 : List Span) (a1 : List Span) : Option (Bool) :=
  brk ((↑a0.length : Int) != (↑a1.length : Int)) (some (false)) (loopC (fun (x : Int) => fun x_1 => brk (decide (x < (↑a0.length : Int))) (chk ((0 : Int) ≤ x ∧ x < (↑a0.length : Int)) (chk ((0 : Int) ≤ x ∧ x < (↑a1.length : Int)) (brk (!((a0.getD (Int.toNat x) (Span.mk (0 : Int) (0 : Int))).Lo == (a1.getD (Int.toNat x) (Span.mk (0 : Int) (0 : Int))).Lo && ((a0.getD (Int.toNat x) (Span.mk (0 : Int) (0 : Int))).Hi == (a1.getD (Int.toNat x) (Span.mk (0 : Int) (0 : Int))).Hi && true))) (some (false)) (chk (InR (x + (1 : Int))) (x_1 (x + (1 : Int))))))) (some (true))) (F) ((0 : Int)))
noncomputable def s39 (F : Nat) : CS E.G := ⟨39, [.sl 19, .sl 19], [.v 1 false []], fun x => kit_SameSpans F x.1 x.2.1⟩
noncomputable def cx39 (F : Nat) : Ctx E := ⟨[], [], F, []⟩
noncomputable def h39 : Hint := (.c .n (.l ⟨[.i], [0, 16], [0, 1, 2], [(80, .i IntKind.i64)], [], [], [], 3⟩ (.c .n .n)))
theorem e39 (F : Nat) (a0 : List Span) (a1 : List Span) : fnK (E := E) (cx39 F) Tryz.f39 gl [.sl 19, .sl 19] [.v 1 false []] h39 (a0, a1, ()) = kit_SameSpans F a0 a1 := by kernel_rfl
theorem c39 (F : Nat) : CSok E gl (s39 F) := ⟨en39, by
  have h := fn_sound (E := E) (gl := gl) (cx := cx39 F) mix all0 inl0 gl_up gl_lt hf39 (ps := [.sl 19, .sl 19]) (rs := [.v 1 false []]) (by decide) h39
  rwa [show fnK (E := E) (cx39 F) Tryz.f39 gl [.sl 19, .sl 19] [.v 1 false []] h39 = (fun x : AT E.G.car [.sl 19, .sl 19] => kit_SameSpans F x.1 x.2.1) from funext fun x => e39 F x.1 x.2.1] at h⟩
theorem hf89 : Tryz.prog.funcs[89]? = some Tryz.f89 := by kernel_rfl
theorem en89 : Proofs.Enters Tryz.prog 89 := Proofs.enters_of hf89 (by kernel_rfl) rfl
noncomputable def ref05_fastest (F : Nat) (a0 : Convoy2) (a1 : Cell) (a2 : Int) : Option (Int) :=
  loopC (fun (x : (Int) × (Int)) => fun x_1 => brk (decide (x.fst ≤ a2)) (join (F) (fun (x_2 : Int) => chk (InR (x.fst + (1 : Int))) (x_1 ((x.fst + (1 : Int), x_2)))) (fun x_2 => bnd (ref05_holds F a0 a1 a2 x.fst) (fun (x_3 : Bool) => brk (x_3) (x_2 (x.fst)) (x_2 (x.snd))))) (some (x.snd))) (F) (((10 : Int), (0 : Int)))
noncomputable def s89 (F : Nat) : CS E.G := ⟨89, [.v 18 true, .v 20 true, .v 0 false], [.v 0 false []], fun x => ref05_fastest F x.1 x.2.1 x.2.2.1⟩
noncomputable def cx89 (F : Nat) : Ctx E := ⟨[s94 F], [], F, []⟩
noncomputable def h89 : Hint := (.l ⟨[.i, .i], [32, 64, 48], [0, 7, 6, 5, 4, 3, 2, 1], [(128, .i IntKind.i64), (112, .i IntKind.i64)], [], [], [], 8⟩ (.c (.j ⟨[.i], [32, 64, 128, 48], [0, 7, 6, 5, 4, 3, 2, 1], [(112, .i IntKind.i64)], [], [], [], 8⟩ .n .n) .n))
theorem e89 (F : Nat) (a0 : Convoy2) (a1 : Cell) (a2 : Int) : fnK (E := E) (cx89 F) Tryz.f89 gl [.v 18 true, .v 20 true, .v 0 false] [.v 0 false []] h89 (a0, a1, a2, ()) = ref05_fastest F a0 a1 a2 := by kernel_rfl
theorem c89 (F : Nat) : CSok E gl (s89 F) := ⟨en89, by
  have h := fn_sound (E := E) (gl := gl) (cx := cx89 F) mix (allC (c94 F) all0) inl0 gl_up gl_lt hf89 (ps := [.v 18 true, .v 20 true, .v 0 false]) (rs := [.v 0 false []]) (by decide) h89
  rwa [show fnK (E := E) (cx89 F) Tryz.f89 gl [.v 18 true, .v 20 true, .v 0 false] [.v 0 false []] h89 = (fun x : AT E.G.car [.v 18 true, .v 20 true, .v 0 false] => ref05_fastest F x.1 x.2.1 x.2.2.1) from funext fun x => e89 F x.1 x.2.1 x.2.2.1] at h⟩
theorem hf41 : Tryz.prog.funcs[41]? = some Tryz.f41 := by kernel_rfl
theorem en41 : Proofs.Enters Tryz.prog 41 := Proofs.enters_of hf41 (by kernel_rfl) rfl
noncomputable def ref05_Fastest (F : Nat) (a0 : Convoy2) (a1 : Cell) : Option (Int × Int) :=
  bnd (ref05_met F a0 a1) (fun (x : Int) => brk (x != (0 : Int)) (some (((0 : Int), x))) (bnd (ref05_Most F a0 a1) (fun (x_1 : Int) => bnd (ref05_fastest F a0 a1 x_1) (fun (x_2 : Int) => brk (x_2 == (0 : Int)) (some (((0 : Int), (4 : Int)))) (some ((x_2, (0 : Int))))))))
noncomputable def s41 (F : Nat) : CS E.G := ⟨41, [.v 18 true, .v 20 true], [.v 0 false [], .v 0 false []], fun x => ref05_Fastest F x.1 x.2.1⟩
noncomputable def cx41 (F : Nat) : Ctx E := ⟨[s89 F, s90 F, s93 F], [], F, []⟩
noncomputable def h41 : Hint := (.c .n .n)
theorem e41 (F : Nat) (a0 : Convoy2) (a1 : Cell) : fnK (E := E) (cx41 F) Tryz.f41 gl [.v 18 true, .v 20 true] [.v 0 false [], .v 0 false []] h41 (a0, a1, ()) = ref05_Fastest F a0 a1 := by kernel_rfl
theorem c41 (F : Nat) : CSok E gl (s41 F) := ⟨en41, by
  have h := fn_sound (E := E) (gl := gl) (cx := cx41 F) mix (allC (c89 F) (allC (c90 F) (allC (c93 F) all0))) inl0 gl_up gl_lt hf41 (ps := [.v 18 true, .v 20 true]) (rs := [.v 0 false [], .v 0 false []]) (by decide) h41
  rwa [show fnK (E := E) (cx41 F) Tryz.f41 gl [.v 18 true, .v 20 true] [.v 0 false [], .v 0 false []] h41 = (fun x : AT E.G.car [.v 18 true, .v 20 true] => ref05_Fastest F x.1 x.2.1) from funext fun x => e41 F x.1 x.2.1] at h⟩
theorem hf116 : Tryz.prog.funcs[116]? = some Tryz.f116 := by kernel_rfl
theorem en116 : Proofs.Enters Tryz.prog 116 := Proofs.enters_of hf116 (by kernel_rfl) rfl
noncomputable def convoy_Member_own (F : Nat) (a0 : Member) : Option (Member) :=
  bnd (slices_Clone_hull_Point F a0.Stop) (fun (x : List (Point)) => bnd (slices_Clone_hull_Point F a0.Ship.Thrust) (fun (x_1 : List (Point)) => bnd (slices_Clone_hull_Point F a0.Ship.Water) (fun (x_2 : List (Point)) => bnd (slices_Clone_hull_Point F a0.Ship.Ice) (fun (x_3 : List (Point)) => some (Member.mk (Ship.mk a0.Ship.Class a0.Ship.Power a0.Ship.Draught a0.Ship.Tonnes x_1 x_2 x_3 a0.Ship.Slow a0.Ship.Brash a0.Ship.Ridge a0.Ship.Press) x a0.Length a0.Delay a0.Short)))))
noncomputable def s116 (F : Nat) : CS E.G := ⟨116, [.v 9 true], [.v 9 true [111, 111, 111, 111]], fun x => convoy_Member_own F x.1⟩
noncomputable def cx116 (F : Nat) : Ctx E := ⟨[s113 F], [], F, []⟩
noncomputable def h116 : Hint := .n
theorem e116 (F : Nat) (a0 : Member) : fnK (E := E) (cx116 F) Tryz.f116 gl [.v 9 true] [.v 9 true [111, 111, 111, 111]] h116 (a0, ()) = convoy_Member_own F a0 := by kernel_rfl
theorem c116 (F : Nat) : CSok E gl (s116 F) := ⟨en116, by
  have h := fn_sound (E := E) (gl := gl) (cx := cx116 F) mix (allC (c113 F) all0) inl0 gl_up gl_lt hf116 (ps := [.v 9 true]) (rs := [.v 9 true [111, 111, 111, 111]]) (by decide) h116
  rwa [show fnK (E := E) (cx116 F) Tryz.f116 gl [.v 9 true] [.v 9 true [111, 111, 111, 111]] h116 = (fun x : AT E.G.car [.v 9 true] => convoy_Member_own F x.1) from funext fun x => e116 F x.1] at h⟩
theorem hf96 : Tryz.prog.funcs[96]? = some Tryz.f96 := by kernel_rfl
theorem en96 : Proofs.Enters Tryz.prog 96 := Proofs.enters_of hf96 (by kernel_rfl) rfl
theorem hf97 : Tryz.prog.funcs[97]? = some Tryz.f97 := by kernel_rfl
theorem en97 : Proofs.Enters Tryz.prog 97 := Proofs.enters_of hf97 (by kernel_rfl) rfl
noncomputable def convoy_numbers (F : Nat) (a0 : Int) : Option ((List Int)) :=
  chk ((0 : Int) ≤ a0 ∧ a0 ≤ a0 ∧ a0 ≤ (100000 : Int)) (loopC (fun (x : (Int) × (List (Int))) => fun x_1 => brk (decide (x.fst < (↑(List.replicate a0.toNat (0 : Int)).length : Int))) (chk ((0 : Int) ≤ x.fst ∧ x.fst < (↑(List.length x.snd) : Int)) (chk (InR (x.fst + (1 : Int))) (x_1 ((x.fst + (1 : Int), List.set x.snd (Int.toNat x.fst) x.fst))))) (some (x.snd))) (F) (((0 : Int), List.replicate a0.toNat (0 : Int))))
noncomputable def s97 (F : Nat) : CS E.G := ⟨97, [.v 0 false], [.sl 0 3], fun x => convoy_numbers F x.1⟩
noncomputable def cx97 (F : Nat) : Ctx E := ⟨[], [], F, []⟩
noncomputable def h97 : Hint := (.l ⟨[.i, .l 0], [128, 48], [0, 1], [(144, .i IntKind.i64)], [], [], [(1, 3, 0)], 2⟩ .n)
theorem e97 (F : Nat) (a0 : Int) : fnK (E := E) (cx97 F) Tryz.f97 gl [.v 0 false] [.sl 0 3] h97 (a0, ()) = convoy_numbers F a0 := by kernel_rfl
theorem c97 (F : Nat) : CSok E gl (s97 F) := ⟨en97, by
  have h := fn_sound (E := E) (gl := gl) (cx := cx97 F) mix all0 inl0 gl_up gl_lt hf97 (ps := [.v 0 false]) (rs := [.sl 0 3]) (by decide) h97
  rwa [show fnK (E := E) (cx97 F) Tryz.f97 gl [.v 0 false] [.sl 0 3] h97 = (fun x : AT E.G.car [.v 0 false] => convoy_numbers F x.1) from funext fun x => e97 F x.1] at h⟩
theorem hf42 : Tryz.prog.funcs[42]? = some Tryz.f42 := by kernel_rfl
theorem en42 : Proofs.Enters Tryz.prog 42 := Proofs.enters_of hf42 (by kernel_rfl) rfl
noncomputable def convoy_Split (F : Nat) (a0 : Convoy) (a1 : Cell) : Option ((List Int) × Int) :=
  bnd (convoy_met F a0 a1) (fun (x : Int) => brk (x != (0 : Int)) (some (([], x))) (loopC (fun (x_1 : (Int) × (List (Int))) => fun x_2 => brk (decide (x_1.fst < (↑a0.Ships.length : Int))) (loopC (fun (x_3 : (Int) × (Int)) => fun x_4 => chk (InR (x_1.fst + x_3.fst)) (brk (decide (x_1.fst + x_3.fst ≤ (↑a0.Ships.length : Int))) (join (F) (fun (x_5 : Int) => chk (InR (x_3.fst + (1 : Int))) (x_4 ((x_3.fst + (1 : Int), x_5)))) (fun x_5 => bnd (convoy_numbers F (↑a0.Ships.length : Int)) (fun (x_6 : List (Int)) => chk (InR (x_1.fst + x_3.fst)) (chk ((0 : Int) ≤ x_1.fst ∧ x_1.fst ≤ x_1.fst + x_3.fst ∧ x_1.fst + x_3.fst ≤ (↑(List.length x_6) : Int)) (bnd (convoy_Member_own F a0.Breaker) (fun (x_7 : Member) => loopC (fun (x_8 : (Int) × (List (Member))) => fun x_9 => brk (decide (x_8.fst < x_1.fst + x_3.fst - x_1.fst)) (chk ((0 : Int) ≤ x_8.fst ∧ x_8.fst < x_1.fst + x_3.fst - x_1.fst) (chk ((0 : Int) ≤ List.getD x_6 (x_1.fst + x_8.fst).toNat (0 : Int) ∧ List.getD x_6 (x_1.fst + x_8.fst).toNat (0 : Int) < (↑a0.Ships.length : Int)) (bnd (convoy_Member_own F (a0.Ships.getD (Int.toNat (List.getD x_6 (x_1.fst + x_8.fst).toNat (0 : Int))) (Member.mk (Ship.mk (0 : Int) (0 : Int) (0 : Int) (0 : Int) [] [] [] (0 : Int) (0 : Int) (0 : Int) (0 : Int)) [] (0 : Int) (0 : Int) (0 : Int)))) (fun (x_10 : Member) => chk (List.length x_8.snd + [x_10].length ≤ (1000000 : Nat)) (chk (InR (x_8.fst + (1 : Int))) (x_9 ((x_8.fst + (1 : Int), x_8.snd ++ [x_10])))))))) (bnd (convoy_Convoy_most F (Convoy.mk x_7 x_8.snd a0.Clear a0.Close) a1) (fun (x_10 : Int) => bnd (convoy_Convoy_fastest F (Convoy.mk x_7 x_8.snd a0.Clear a0.Close) x_10 a1.Press.Hi) (fun (x_11 : Int) => brk (decide (x_11 > (0 : Int))) (x_5 (x_3.fst)) (x_5 (x_3.snd)))))) (F) (((0 : Int), [])))))))) (brk (x_3.snd == (0 : Int)) (some (([], (4 : Int)))) (chk (List.length x_1.snd + [x_3.snd].length ≤ (1000000 : Nat)) (chk (InR (x_1.fst + x_3.snd)) (x_2 ((x_1.fst + x_3.snd, x_1.snd ++ [x_3.snd])))))))) (F) (((1 : Int), (0 : Int)))) (some ((x_1.snd, (0 : Int))))) (F) (((0 : Int), []))))
noncomputable def s42 (F : Nat) : CS E.G := ⟨42, [.v 12 true, .v 20 true], [.sl 0 3, .v 0 false []], fun x => convoy_Split F x.1 x.2.1⟩
noncomputable def cx42 (F : Nat) : Ctx E := ⟨[s86 F, s87 F, s91 F, s116 F, s97 F], [(96, Tryz.f96)], F, []⟩
noncomputable def h42 : Hint := (.c .n (.l ⟨[.i, .l 0], [32, 48], [0, 6, 7, 5, 4, 3, 2, 1], [(128, .i IntKind.i64), (112, .h 8 3 0)], [], [], [], 9⟩ (.c (.l ⟨[.i, .i], [32, 128, 48, 112], [0, 6, 7, 8, 5, 4, 3, 2, 1], [(160, .i IntKind.i64), (144, .i IntKind.i64)], [], [], [], 9⟩ (.c (.j ⟨[.i], [32, 128, 160, 48, 112], [0, 6, 7, 8, 5, 4, 3, 2, 1], [(144, .i IntKind.i64)], [], [], [], 9⟩ (.p (.l ⟨[.i, .l 9], [0, 64, 288, 80, 304], [0, 1, 3, 5, 9, 2, 4, 6, 10, 11, 15, 14, 13, 12], [(320, .i IntKind.i64)], [], [(11, 15, .h 16 26 9)], [], 17⟩ (.c .n .n))) .n) .n)) .n)))
theorem e42 (F : Nat) (a0 : Convoy) (a1 : Cell) : fnK (E := E) (cx42 F) Tryz.f42 gl [.v 12 true, .v 20 true] [.sl 0 3, .v 0 false []] h42 (a0, a1, ()) = convoy_Split F a0 a1 := by kernel_rfl
theorem c42 (F : Nat) : CSok E gl (s42 F) := ⟨en42, by
  have h := fn_sound (E := E) (gl := gl) (cx := cx42 F) mix (allC (c86 F) (allC (c87 F) (allC (c91 F) (allC (c116 F) (allC (c97 F) all0))))) (inlC hf96 en96 inl0) gl_up gl_lt hf42 (ps := [.v 12 true, .v 20 true]) (rs := [.sl 0 3, .v 0 false []]) (by decide) h42
  rwa [show fnK (E := E) (cx42 F) Tryz.f42 gl [.v 12 true, .v 20 true] [.sl 0 3, .v 0 false []] h42 = (fun x : AT E.G.car [.v 12 true, .v 20 true] => convoy_Split F x.1 x.2.1) from funext fun x => e42 F x.1 x.2.1] at h⟩
theorem hf114 : Tryz.prog.funcs[114]? = some Tryz.f114 := by kernel_rfl
theorem en114 : Proofs.Enters Tryz.prog 114 := Proofs.enters_of hf114 (by kernel_rfl) rfl
theorem hf98 : Tryz.prog.funcs[98]? = some Tryz.f98 := by kernel_rfl
theorem en98 : Proofs.Enters Tryz.prog 98 := Proofs.enters_of hf98 (by kernel_rfl) rfl
noncomputable def ref05_goes (F : Nat) (a0 : Convoy2) (a1 : Cell) (a2 : Int) (a3 : Int) : Option (Bool) :=
  loopC (fun (x : (Int) × (List (Int))) => fun x_1 => brk (decide (x.fst < a3)) (chk (InR (a2 + x.fst)) (chk (List.length x.snd + [a2 + x.fst].length ≤ (1000000 : Nat)) (chk (InR (x.fst + (1 : Int))) (x_1 ((x.fst + (1 : Int), x.snd ++ [a2 + x.fst])))))) (loopC (fun (x_2 : (Int) × (List (Member2))) => fun x_3 => brk (decide (x_2.fst < (↑(List.length x.snd) : Int))) (chk ((0 : Int) ≤ x_2.fst ∧ x_2.fst < (↑(List.length x.snd) : Int)) (chk ((0 : Int) ≤ List.getD x.snd (Int.toNat x_2.fst) (0 : Int) ∧ List.getD x.snd (Int.toNat x_2.fst) (0 : Int) < (↑a0.Ships.length : Int)) (chk (List.length x_2.snd + [a0.Ships.getD (Int.toNat (List.getD x.snd (Int.toNat x_2.fst) (0 : Int))) (Member2.mk (Ship2.mk (0 : Int) (0 : Int) (0 : Int) (0 : Int) [] [] [] (0 : Int) (0 : Int) (0 : Int) (0 : Int)) [] (0 : Int) (0 : Int) (0 : Int))].length ≤ (1000000 : Nat)) (chk (InR (x_2.fst + (1 : Int))) (x_3 ((x_2.fst + (1 : Int), x_2.snd ++ [a0.Ships.getD (Int.toNat (List.getD x.snd (Int.toNat x_2.fst) (0 : Int))) (Member2.mk (Ship2.mk (0 : Int) (0 : Int) (0 : Int) (0 : Int) [] [] [] (0 : Int) (0 : Int) (0 : Int) (0 : Int)) [] (0 : Int) (0 : Int) (0 : Int))]))))))) (bnd (ref05_Most F (Convoy2.mk a0.Breaker x_2.snd a0.Clear a0.Close) a1) (fun (x_4 : Int) => bnd (ref05_fastest F (Convoy2.mk a0.Breaker x_2.snd a0.Clear a0.Close) a1 x_4) (fun (x_5 : Int) => some (decide (x_5 > (0 : Int))))))) (F) (((0 : Int), [])))) (F) (((0 : Int), []))
noncomputable def s98 (F : Nat) : CS E.G := ⟨98, [.v 18 true, .v 20 true, .v 0 false, .v 0 false], [.v 1 false []], fun x => ref05_goes F x.1 x.2.1 x.2.2.1 x.2.2.2.1⟩
noncomputable def cx98 (F : Nat) : Ctx E := ⟨[s89 F, s90 F], [(114, Tryz.f114)], F, []⟩
noncomputable def h98 : Hint := (.l ⟨[.i, .l 0], [32, 64, 48, 80], [0, 6, 7, 5, 4, 3, 2, 1], [(160, .i IntKind.i64), (144, .h 8 3 0)], [], [], [], 9⟩ (.c .n (.p (.l ⟨[.i, .l 16], [16, 32, 64, 80], [0, 1, 3, 5, 2, 4, 8, 9, 10, 11], [(96, .i IntKind.i64)], [], [(11, 15, .h 12 39 16)], [], 13⟩ .n))))
theorem e98 (F : Nat) (a0 : Convoy2) (a1 : Cell) (a2 : Int) (a3 : Int) : fnK (E := E) (cx98 F) Tryz.f98 gl [.v 18 true, .v 20 true, .v 0 false, .v 0 false] [.v 1 false []] h98 (a0, a1, a2, a3, ()) = ref05_goes F a0 a1 a2 a3 := by kernel_rfl
theorem c98 (F : Nat) : CSok E gl (s98 F) := ⟨en98, by
  have h := fn_sound (E := E) (gl := gl) (cx := cx98 F) mix (allC (c89 F) (allC (c90 F) all0)) (inlC hf114 en114 inl0) gl_up gl_lt hf98 (ps := [.v 18 true, .v 20 true, .v 0 false, .v 0 false]) (rs := [.v 1 false []]) (by decide) h98
  rwa [show fnK (E := E) (cx98 F) Tryz.f98 gl [.v 18 true, .v 20 true, .v 0 false, .v 0 false] [.v 1 false []] h98 = (fun x : AT E.G.car [.v 18 true, .v 20 true, .v 0 false, .v 0 false] => ref05_goes F x.1 x.2.1 x.2.2.1 x.2.2.2.1) from funext fun x => e98 F x.1 x.2.1 x.2.2.1 x.2.2.2.1] at h⟩
theorem hf99 : Tryz.prog.funcs[99]? = some Tryz.f99 := by kernel_rfl
theorem en99 : Proofs.Enters Tryz.prog 99 := Proofs.enters_of hf99 (by kernel_rfl) rfl
noncomputable def ref05_DivisionsR (F : Nat) : Nat → Int → Option ((List (List Int)))
  | 0, _ => none
  | n + 1, a0 =>
  brk (a0 == (0 : Int)) (some ([[]])) (loopC (fun (x : (Int) × (List (List (Int)))) => fun x_1 => brk (decide (x.fst ≤ a0)) (chk (InR (a0 - x.fst)) (bnd (ref05_DivisionsR F n (a0 - x.fst)) (fun (x_2 : List (List (Int))) => loopC (fun (x_3 : (Int) × (List (List (Int)))) => fun x_4 => brk (decide (x_3.fst < (↑(List.length x_2) : Int))) (chk ((0 : Int) ≤ x_3.fst ∧ x_3.fst < (↑(List.length x_2) : Int)) (chk ([x.fst].length + List.length (List.getD x_2 (Int.toNat x_3.fst) []) ≤ (1000000 : Nat)) (chk (List.length x_3.snd + [[x.fst] ++ List.getD x_2 (Int.toNat x_3.fst) []].length ≤ (1000000 : Nat)) (chk (InR (x_3.fst + (1 : Int))) (x_4 ((x_3.fst + (1 : Int), x_3.snd ++ [[x.fst] ++ List.getD x_2 (Int.toNat x_3.fst) []]))))))) (chk (InR (x.fst + (1 : Int))) (x_1 ((x.fst + (1 : Int), x_3.snd))))) (F) (((0 : Int), x.snd))))) (some (x.snd))) (F) (((1 : Int), [])))
noncomputable def ref05_Divisions (F : Nat) (a0 : Int) : Option ((List (List Int))) := ref05_DivisionsR F F a0
noncomputable def s99R (F n : Nat) : CS E.G := ⟨99, [.v 0 false], [.sl 13 31], fun x => ref05_DivisionsR F n x.1⟩
noncomputable def s99 (F : Nat) : CS E.G := ⟨99, [.v 0 false], [.sl 13 31], fun x => ref05_Divisions F x.1⟩
noncomputable def cx99 (F n : Nat) : Ctx E := ⟨[s99R F n], [], F, []⟩
noncomputable def h99 : Hint := (.c .n (.l ⟨[.i, .l 13], [0], [0], [(64, .i IntKind.i64), (48, .h 1 31 13)], [], [], [], 2⟩ (.c (.l ⟨[.i, .l 13], [0, 64, 80], [0, 2], [(96, .i IntKind.i64), (48, .h 3 31 13)], [], [], [], 4⟩ .n) .n)))
theorem e99 (F n : Nat) (a0 : Int) : fnK (E := E) (cx99 F n) Tryz.f99 gl [.v 0 false] [.sl 13 31] h99 (a0, ()) = ref05_DivisionsR F (n + 1) a0 := by kernel_rfl
theorem c99R (F : Nat) : ∀ n, CSok E gl (s99R F n)
  | 0 => ⟨en99, fun _ _ _ _ _ _ _ _ h => nomatch h⟩
  | n + 1 => ⟨en99, by
  have ih := c99R F n
  have h := fn_sound (E := E) (gl := gl) (cx := cx99 F n) mix (allC (ih) all0) inl0 gl_up gl_lt hf99 (ps := [.v 0 false]) (rs := [.sl 13 31]) (by decide) h99
  rwa [show fnK (E := E) (cx99 F n) Tryz.f99 gl [.v 0 false] [.sl 13 31] h99 = (fun x : AT E.G.car [.v 0 false] => ref05_DivisionsR F (n + 1) x.1) from funext fun x => e99 F n x.1] at h⟩
theorem c99 (F : Nat) : CSok E gl (s99 F) := c99R F F
theorem hf100 : Tryz.prog.funcs[100]? = some Tryz.f100 := by kernel_rfl
theorem en100 : Proofs.Enters Tryz.prog 100 := Proofs.enters_of hf100 (by kernel_rfl) rfl
noncomputable def ref05_better (F : Nat) (a0 : List Int) (a1 : List Int) : Option (Bool) :=
  brk ((↑a0.length : Int) != (↑a1.length : Int)) (some (decide ((↑a0.length : Int) < (↑a1.length : Int)))) (loopC (fun (x : Int) => fun x_1 => brk (decide (x < (↑a0.length : Int))) (chk ((0 : Int) ≤ x ∧ x < (↑a0.length : Int)) (chk ((0 : Int) ≤ x ∧ x < (↑a1.length : Int)) (brk (a0.getD (Int.toNat x) (0 : Int) != a1.getD (Int.toNat x) (0 : Int)) (chk ((0 : Int) ≤ x ∧ x < (↑a0.length : Int)) (chk ((0 : Int) ≤ x ∧ x < (↑a1.length : Int)) (some (decide (a0.getD (Int.toNat x) (0 : Int) > a1.getD (Int.toNat x) (0 : Int)))))) (chk (InR (x + (1 : Int))) (x_1 (x + (1 : Int))))))) (some (false))) (F) ((0 : Int)))
noncomputable def s100 (F : Nat) : CS E.G := ⟨100, [.sl 0, .sl 0], [.v 1 false []], fun x => ref05_better F x.1 x.2.1⟩
noncomputable def cx100 (F : Nat) : Ctx E := ⟨[], [], F, []⟩
noncomputable def h100 : Hint := (.c .n (.l ⟨[.i], [0, 16], [0, 1, 2], [(80, .i IntKind.i64)], [], [], [], 3⟩ (.c .n .n)))
theorem e100 (F : Nat) (a0 : List Int) (a1 : List Int) : fnK (E := E) (cx100 F) Tryz.f100 gl [.sl 0, .sl 0] [.v 1 false []] h100 (a0, a1, ()) = ref05_better F a0 a1 := by kernel_rfl
theorem c100 (F : Nat) : CSok E gl (s100 F) := ⟨en100, by
  have h := fn_sound (E := E) (gl := gl) (cx := cx100 F) mix all0 inl0 gl_up gl_lt hf100 (ps := [.sl 0, .sl 0]) (rs := [.v 1 false []]) (by decide) h100
  rwa [show fnK (E := E) (cx100 F) Tryz.f100 gl [.sl 0, .sl 0] [.v 1 false []] h100 = (fun x : AT E.G.car [.sl 0, .sl 0] => ref05_better F x.1 x.2.1) from funext fun x => e100 F x.1 x.2.1] at h⟩
theorem hf43 : Tryz.prog.funcs[43]? = some Tryz.f43 := by kernel_rfl
theorem en43 : Proofs.Enters Tryz.prog 43 := Proofs.enters_of hf43 (by kernel_rfl) rfl
noncomputable def ref05_Split (F : Nat) (a0 : Convoy2) (a1 : Cell) : Option ((List Int) × Int) :=
  bnd (ref05_met F a0 a1) (fun (x : Int) => brk (x != (0 : Int)) (some (([], x))) (chk ((0 : Int) ≤ (64 : Int) ∧ (64 : Int) ≤ (64 : Int) ∧ (64 : Int) ≤ (100000 : Int)) (loopC (fun (x_1 : (Int) × (List (Bool))) => fun x_2 => brk (decide (x_1.fst < (↑a0.Ships.length : Int))) (loopC (fun (x_3 : (Int) × (List (Bool))) => fun x_4 => chk (InR (x_1.fst + x_3.fst)) (brk (decide (x_1.fst + x_3.fst ≤ (↑a0.Ships.length : Int))) (chk (InR ((8 : Int) * x_1.fst)) (chk (InR ((8 : Int) * x_1.fst + x_3.fst)) (bnd (ref05_goes F a0 a1 x_1.fst x_3.fst) (fun (x_5 : Bool) => chk ((0 : Int) ≤ (8 : Int) * x_1.fst + x_3.fst ∧ (8 : Int) * x_1.fst + x_3.fst < (↑(List.length x_3.snd) : Int)) (chk (InR (x_3.fst + (1 : Int))) (x_4 ((x_3.fst + (1 : Int), List.set x_3.snd ((8 : Int) * x_1.fst + x_3.fst).toNat x_5)))))))) (chk (InR (x_1.fst + (1 : Int))) (x_2 ((x_1.fst + (1 : Int), x_3.snd)))))) (F) (((1 : Int), x_1.snd))) (bnd (ref05_Divisions F (↑a0.Ships.length : Int)) (fun (x_3 : List (List (Int))) => loopC (fun (x_4 : (List (Int)) × ((Int) × (Bool))) => fun x_5 => brk (decide (x_4.snd.fst < (↑(List.length x_3) : Int))) (join (F) (fun (x_6 : (List (Int)) × (Bool)) => chk (InR (x_4.snd.fst + (1 : Int))) (x_5 ((x_6.fst, x_4.snd.fst + (1 : Int), x_6.snd)))) (fun x_6 => loopC (fun (x_7 : (Bool) × ((Int) × (Int))) => fun x_8 => chk ((0 : Int) ≤ x_4.snd.fst ∧ x_4.snd.fst < (↑(List.length x_3) : Int)) (brk (decide (x_7.snd.fst < (↑(List.length (List.getD x_3 (Int.toNat x_4.snd.fst) [])) : Int))) (brk (x_7.fst) (chk (InR ((8 : Int) * x_7.snd.snd)) (chk ((0 : Int) ≤ x_4.snd.fst ∧ x_4.snd.fst < (↑(List.length x_3) : Int)) (chk ((0 : Int) ≤ x_7.snd.fst ∧ x_7.snd.fst < (↑(List.length (List.getD x_3 (Int.toNat x_4.snd.fst) [])) : Int)) (chk (InR ((8 : Int) * x_7.snd.snd + List.getD (List.getD x_3 (Int.toNat x_4.snd.fst) []) (Int.toNat x_7.snd.fst) (0 : Int))) (chk ((0 : Int) ≤ (8 : Int) * x_7.snd.snd + List.getD (List.getD x_3 (Int.toNat x_4.snd.fst) []) (Int.toNat x_7.snd.fst) (0 : Int) ∧ (8 : Int) * x_7.snd.snd + List.getD (List.getD x_3 (Int.toNat x_4.snd.fst) []) (Int.toNat x_7.snd.fst) (0 : Int) < (↑(List.length x_1.snd) : Int)) (chk ((0 : Int) ≤ x_4.snd.fst ∧ x_4.snd.fst < (↑(List.length x_3) : Int)) (chk ((0 : Int) ≤ x_7.snd.fst ∧ x_7.snd.fst < (↑(List.length (List.getD x_3 (Int.toNat x_4.snd.fst) [])) : Int)) (chk (InR (x_7.snd.snd + List.getD (List.getD x_3 (Int.toNat x_4.snd.fst) []) (Int.toNat x_7.snd.fst) (0 : Int))) (chk (InR (x_7.snd.fst + (1 : Int))) (x_8 ((List.getD x_1.snd ((8 : Int) * x_7.snd.snd + List.getD (List.getD x_3 (Int.toNat x_4.snd.fst) []) (Int.toNat x_7.snd.fst) (0 : Int)).toNat false, x_7.snd.fst + (1 : Int), x_7.snd.snd + List.getD (List.getD x_3 (Int.toNat x_4.snd.fst) []) (Int.toNat x_7.snd.fst) (0 : Int))))))))))))) (chk ((0 : Int) ≤ x_4.snd.fst ∧ x_4.snd.fst < (↑(List.length x_3) : Int)) (chk ((0 : Int) ≤ x_7.snd.fst ∧ x_7.snd.fst < (↑(List.length (List.getD x_3 (Int.toNat x_4.snd.fst) [])) : Int)) (chk (InR (x_7.snd.snd + List.getD (List.getD x_3 (Int.toNat x_4.snd.fst) []) (Int.toNat x_7.snd.fst) (0 : Int))) (chk (InR (x_7.snd.fst + (1 : Int))) (x_8 ((false, x_7.snd.fst + (1 : Int), x_7.snd.snd + List.getD (List.getD x_3 (Int.toNat x_4.snd.fst) []) (Int.toNat x_7.snd.fst) (0 : Int))))))))) (brk (x_7.fst) (brk (!x_4.snd.snd) (chk ((0 : Int) ≤ x_4.snd.fst ∧ x_4.snd.fst < (↑(List.length x_3) : Int)) (x_6 ((List.getD x_3 (Int.toNat x_4.snd.fst) [], true)))) (chk ((0 : Int) ≤ x_4.snd.fst ∧ x_4.snd.fst < (↑(List.length x_3) : Int)) (bnd (ref05_better F (List.getD x_3 (Int.toNat x_4.snd.fst) []) x_4.fst) (fun (x_9 : Bool) => brk (x_9) (chk ((0 : Int) ≤ x_4.snd.fst ∧ x_4.snd.fst < (↑(List.length x_3) : Int)) (x_6 ((List.getD x_3 (Int.toNat x_4.snd.fst) [], true)))) (x_6 ((x_4.fst, x_4.snd.snd))))))) (x_6 ((x_4.fst, x_4.snd.snd)))))) (F) ((true, (0 : Int), (0 : Int))))) (brk (!x_4.snd.snd) (some (([], (4 : Int)))) (some ((x_4.fst, (0 : Int)))))) (F) (([], (0 : Int), false))))) (F) (((0 : Int), List.replicate (Int.toNat (64 : Int)) false)))))
noncomputable def s43 (F : Nat) : CS E.G := ⟨43, [.v 18 true, .v 20 true], [.r 13 false, .v 0 false []], fun x => ref05_Split F x.1 x.2.1⟩
noncomputable def cx43 (F : Nat) : Ctx E := ⟨[s93 F, s98 F, s99 F, s100 F], [], F, []⟩
noncomputable def h43 : Hint := (.c .n (.l ⟨[.i, .l 1], [32, 128, 48, 112], [0, 6, 8, 7, 5, 4, 3, 2, 1], [(144, .i IntKind.i64)], [], [], [(8, 4, 1)], 9⟩ (.c (.l ⟨[.i, .l 1], [32, 128, 48, 144, 112], [0, 6, 8, 7, 5, 4, 3, 2, 1], [(160, .i IntKind.i64)], [], [], [(8, 4, 1)], 9⟩ .n) (.l ⟨[.l 0, .i, .b], [128, 176], [0, 8, 9], [(192, .x 10 0), (224, .i IntKind.i64), (208, .b)], [], [], [], 11⟩ (.c (.j ⟨[.l 0, .b], [128, 224, 176], [0, 8, 9], [(192, .x 11 0), (208, .b)], [], [], [], 12⟩ (.l ⟨[.b, .i, .i], [128, 192, 224, 208, 176], [0, 8, 10, 9], [(256, .b), (272, .i IntKind.i64), (240, .i IntKind.i64)], [], [], [], 11⟩ (.c (.s .n .n) (.s (.s .n .n) .n))) .n) .n)))))
theorem e43 (F : Nat) (a0 : Convoy2) (a1 : Cell) : fnK (E := E) (cx43 F) Tryz.f43 gl [.v 18 true, .v 20 true] [.r 13 false, .v 0 false []] h43 (a0, a1, ()) = ref05_Split F a0 a1 := by kernel_rfl
theorem c43 (F : Nat) : CSok E gl (s43 F) := ⟨en43, by
  have h := fn_sound (E := E) (gl := gl) (cx := cx43 F) mix (allC (c93 F) (allC (c98 F) (allC (c99 F) (allC (c100 F) all0)))) inl0 gl_up gl_lt hf43 (ps := [.v 18 true, .v 20 true]) (rs := [.r 13 false, .v 0 false []]) (by decide) h43
  rwa [show fnK (E := E) (cx43 F) Tryz.f43 gl [.v 18 true, .v 20 true] [.r 13 false, .v 0 false []] h43 = (fun x : AT E.G.car [.v 18 true, .v 20 true] => ref05_Split F x.1 x.2.1) from funext fun x => e43 F x.1 x.2.1] at h⟩
theorem hf5 : Tryz.prog.funcs[5]? = some Tryz.f5 := by kernel_rfl
theorem en5 : Proofs.Enters Tryz.prog 5 := Proofs.enters_of hf5 (by kernel_rfl) rfl
noncomputable def law05_ConvoyHolds (F : Nat) (a0 : Convoy) (a1 : Cell) (a2 : Int) : Option (Bool) :=
  bnd (law05_heavy F a0) (fun (x : Bool) => brk (x) (bnd (law05_awake F) (fun (x_1 : Bool) => some (x_1))) (bnd (law05_CopyConvoy F a0) (fun (x_1 : Convoy) => bnd (law05_Convoy F a0) (fun (x_2 : Convoy2) => bnd (convoy_Holds F x_1 a1 a2) (fun (x_3 : (Bool) × (Int)) => bnd (ref05_Holds F x_2 a1 a2) (fun (x_4 : (Bool) × (Int)) => brk (!x_3.fst == x_4.fst || x_3.snd != x_4.snd) (some (false)) (bnd (convoy_Speeds F x_1 a1) (fun (x_5 : (List (Span)) × (Int)) => bnd (ref05_Speeds F x_2 a1) (fun (x_6 : (List (Span)) × (Int)) => bnd (kit_SameSpans F x_5.fst x_6.fst) (fun (x_7 : Bool) => brk (!x_7 || x_5.snd != x_6.snd) (some (false)) (bnd (convoy_Fastest F x_1 a1) (fun (x_8 : (Int) × (Int)) => bnd (ref05_Fastest F x_2 a1) (fun (x_9 : (Int) × (Int)) => brk (x_8.fst != x_9.fst || x_8.snd != x_9.snd) (some (false)) (bnd (convoy_Split F x_1 a1) (fun (x_10 : (List (Int)) × (Int)) => bnd (ref05_Split F x_2 a1) (fun (x_11 : (List (Int)) × (Int)) => bnd (kit_SameInts F x_10.fst x_11.fst) (fun (x_12 : Bool) => bnd (brk (x_12 && x_10.snd == x_11.snd) (law05_alike F x_1 x_2) (some false)) (fun (x_13 : Bool) => bnd (brk (x_12 && x_10.snd == x_11.snd && x_13) (law05_awake F) (some false)) (fun (x_14 : Bool) => some (x_12 && x_10.snd == x_11.snd && x_13 && x_14))))))))))))))))))))
noncomputable def s5 (F : Nat) : CS E.G := ⟨5, [.v 12 true, .v 20 true, .v 0 false], [.v 1 false []], fun x => law05_ConvoyHolds F x.1 x.2.1 x.2.2.1⟩
noncomputable def cx5 (F : Nat) : Ctx E := ⟨[s9 F, s10 F, s11 F, s12 F, s21 F, s29 F, s35 F, s36 F, s37 F, s38 F, s39 F, s40 F, s41 F, s42 F, s43 F], [], F, []⟩
noncomputable def h5 : Hint := (.c .n (.c .n (.c .n .n)))
theorem e5 (F : Nat) (a0 : Convoy) (a1 : Cell) (a2 : Int) : fnK (E := E) (cx5 F) Tryz.f5 gl [.v 12 true, .v 20 true, .v 0 false] [.v 1 false []] h5 (a0, a1, a2, ()) = law05_ConvoyHolds F a0 a1 a2 := by kernel_rfl
theorem c5 (F : Nat) : CSok E gl (s5 F) := ⟨en5, by
  have h := fn_sound (E := E) (gl := gl) (cx := cx5 F) mix (allC (c9 F) (allC (c10 F) (allC (c11 F) (allC (c12 F) (allC (c21 F) (allC (c29 F) (allC (c35 F) (allC (c36 F) (allC (c37 F) (allC (c38 F) (allC (c39 F) (allC (c40 F) (allC (c41 F) (allC (c42 F) (allC (c43 F) all0))))))))))))))) inl0 gl_up gl_lt hf5 (ps := [.v 12 true, .v 20 true, .v 0 false]) (rs := [.v 1 false []]) (by decide) h5
  rwa [show fnK (E := E) (cx5 F) Tryz.f5 gl [.v 12 true, .v 20 true, .v 0 false] [.v 1 false []] h5 = (fun x : AT E.G.car [.v 12 true, .v 20 true, .v 0 false] => law05_ConvoyHolds F x.1 x.2.1 x.2.2.1) from funext fun x => e5 F x.1 x.2.1 x.2.2.1] at h⟩
theorem hf18 : Tryz.prog.funcs[18]? = some Tryz.f18 := by kernel_rfl
theorem en18 : Proofs.Enters Tryz.prog 18 := Proofs.enters_of hf18 (by kernel_rfl) rfl
noncomputable def ref05_Halt (F : Nat) (a0 : Member2) (a1 : Int) : Option (Span × Int) :=
  bnd (ref05_member F a0) (fun (x : Int) => brk (x != (0 : Int)) (some ((Span.mk (0 : Int) (0 : Int), x))) (bnd (ref05_in F a1 (0 : Int) (250 : Int)) (fun (x_1 : Bool) => brk (!x_1) (some ((Span.mk (0 : Int) (0 : Int), (6 : Int)))) (bnd (ref05_near F a0 a1) (fun (x_2 : Int) => bnd (ref05_far F a0 a1) (fun (x_3 : Int) => some ((Span.mk x_2 x_3, (0 : Int)))))))))
noncomputable def s18 (F : Nat) : CS E.G := ⟨18, [.v 16 true, .v 0 false], [.v 19 true [], .v 0 false []], fun x => ref05_Halt F x.1 x.2.1⟩
noncomputable def cx18 (F : Nat) : Ctx E := ⟨[s68 F, s71 F, s73 F, s74 F], [], F, []⟩
noncomputable def h18 : Hint := (.c .n .n)
theorem e18 (F : Nat) (a0 : Member2) (a1 : Int) : fnK (E := E) (cx18 F) Tryz.f18 gl [.v 16 true, .v 0 false] [.v 19 true [], .v 0 false []] h18 (a0, a1, ()) = ref05_Halt F a0 a1 := by kernel_rfl
theorem c18 (F : Nat) : CSok E gl (s18 F) := ⟨en18, by
  have h := fn_sound (E := E) (gl := gl) (cx := cx18 F) mix (allC (c68 F) (allC (c71 F) (allC (c73 F) (allC (c74 F) all0)))) inl0 gl_up gl_lt hf18 (ps := [.v 16 true, .v 0 false]) (rs := [.v 19 true [], .v 0 false []]) (by decide) h18
  rwa [show fnK (E := E) (cx18 F) Tryz.f18 gl [.v 16 true, .v 0 false] [.v 19 true [], .v 0 false []] h18 = (fun x : AT E.G.car [.v 16 true, .v 0 false] => ref05_Halt F x.1 x.2.1) from funext fun x => e18 F x.1 x.2.1] at h⟩
theorem hf77 : Tryz.prog.funcs[77]? = some Tryz.f77 := by kernel_rfl
theorem en77 : Proofs.Enters Tryz.prog 77 := Proofs.enters_of hf77 (by kernel_rfl) rfl
noncomputable def ref05_asked (F : Nat) (a0 : Convoy2) (a1 : Int) : Option (Int) :=
  bnd (ref05_Check F a0) (fun (x : Int) => brk (x != (0 : Int)) (some (x)) (bnd (ref05_in F a1 (0 : Int) (250 : Int)) (fun (x_1 : Bool) => brk (!x_1) (some ((6 : Int))) (some ((0 : Int))))))
noncomputable def s77 (F : Nat) : CS E.G := ⟨77, [.v 18 true, .v 0 false], [.v 0 false []], fun x => ref05_asked F x.1 x.2.1⟩
noncomputable def cx77 (F : Nat) : Ctx E := ⟨[s16 F, s68 F], [], F, []⟩
noncomputable def h77 : Hint := (.c .n .n)
theorem e77 (F : Nat) (a0 : Convoy2) (a1 : Int) : fnK (E := E) (cx77 F) Tryz.f77 gl [.v 18 true, .v 0 false] [.v 0 false []] h77 (a0, a1, ()) = ref05_asked F a0 a1 := by kernel_rfl
theorem c77 (F : Nat) : CSok E gl (s77 F) := ⟨en77, by
  have h := fn_sound (E := E) (gl := gl) (cx := cx77 F) mix (allC (c16 F) (allC (c68 F) all0)) inl0 gl_up gl_lt hf77 (ps := [.v 18 true, .v 0 false]) (rs := [.v 0 false []]) (by decide) h77
  rwa [show fnK (E := E) (cx77 F) Tryz.f77 gl [.v 18 true, .v 0 false] [.v 0 false []] h77 = (fun x : AT E.G.car [.v 18 true, .v 0 false] => ref05_asked F x.1 x.2.1) from funext fun x => e77 F x.1 x.2.1] at h⟩
theorem hf20 : Tryz.prog.funcs[20]? = some Tryz.f20 := by kernel_rfl
theorem en20 : Proofs.Enters Tryz.prog 20 := Proofs.enters_of hf20 (by kernel_rfl) rfl
noncomputable def ref05_Gaps (F : Nat) (a0 : Convoy2) (a1 : Int) : Option ((List Int) × Int) :=
  bnd (ref05_asked F a0 a1) (fun (x : Int) => brk (x != (0 : Int)) (some (([], x))) (bnd (ref05_gaps F a0 a1) (fun (x_1 : List (Int)) => some ((x_1, (0 : Int))))))
noncomputable def s20 (F : Nat) : CS E.G := ⟨20, [.v 18 true, .v 0 false], [.sl 0 3, .v 0 false []], fun x => ref05_Gaps F x.1 x.2.1⟩
noncomputable def cx20 (F : Nat) : Ctx E := ⟨[s77 F, s78 F], [], F, []⟩
noncomputable def h20 : Hint := .n
theorem e20 (F : Nat) (a0 : Convoy2) (a1 : Int) : fnK (E := E) (cx20 F) Tryz.f20 gl [.v 18 true, .v 0 false] [.sl 0 3, .v 0 false []] h20 (a0, a1, ()) = ref05_Gaps F a0 a1 := by kernel_rfl
theorem c20 (F : Nat) : CSok E gl (s20 F) := ⟨en20, by
  have h := fn_sound (E := E) (gl := gl) (cx := cx20 F) mix (allC (c77 F) (allC (c78 F) all0)) inl0 gl_up gl_lt hf20 (ps := [.v 18 true, .v 0 false]) (rs := [.sl 0 3, .v 0 false []]) (by decide) h20
  rwa [show fnK (E := E) (cx20 F) Tryz.f20 gl [.v 18 true, .v 0 false] [.sl 0 3, .v 0 false []] h20 = (fun x : AT E.G.car [.v 18 true, .v 0 false] => ref05_Gaps F x.1 x.2.1) from funext fun x => e20 F x.1 x.2.1] at h⟩
theorem hf23 : Tryz.prog.funcs[23]? = some Tryz.f23 := by kernel_rfl
theorem en23 : Proofs.Enters Tryz.prog 23 := Proofs.enters_of hf23 (by kernel_rfl) rfl
noncomputable def ref05_Tail (F : Nat) (a0 : Convoy2) (a1 : Int) : Option (Int × Int) :=
  bnd (ref05_asked F a0 a1) (fun (x : Int) => brk (x != (0 : Int)) (some (((0 : Int), x))) (bnd (ref05_tail F a0 a1) (fun (x_1 : Int) => some ((x_1, (0 : Int))))))
noncomputable def s23 (F : Nat) : CS E.G := ⟨23, [.v 18 true, .v 0 false], [.v 0 false [], .v 0 false []], fun x => ref05_Tail F x.1 x.2.1⟩
noncomputable def cx23 (F : Nat) : Ctx E := ⟨[s77 F, s80 F], [], F, []⟩
noncomputable def h23 : Hint := .n
theorem e23 (F : Nat) (a0 : Convoy2) (a1 : Int) : fnK (E := E) (cx23 F) Tryz.f23 gl [.v 18 true, .v 0 false] [.v 0 false [], .v 0 false []] h23 (a0, a1, ()) = ref05_Tail F a0 a1 := by kernel_rfl
theorem c23 (F : Nat) : CSok E gl (s23 F) := ⟨en23, by
  have h := fn_sound (E := E) (gl := gl) (cx := cx23 F) mix (allC (c77 F) (allC (c80 F) all0)) inl0 gl_up gl_lt hf23 (ps := [.v 18 true, .v 0 false]) (rs := [.v 0 false [], .v 0 false []]) (by decide) h23
  rwa [show fnK (E := E) (cx23 F) Tryz.f23 gl [.v 18 true, .v 0 false] [.v 0 false [], .v 0 false []] h23 = (fun x : AT E.G.car [.v 18 true, .v 0 false] => ref05_Tail F x.1 x.2.1) from funext fun x => e23 F x.1 x.2.1] at h⟩
theorem hf25 : Tryz.prog.funcs[25]? = some Tryz.f25 := by kernel_rfl
theorem en25 : Proofs.Enters Tryz.prog 25 := Proofs.enters_of hf25 (by kernel_rfl) rfl
noncomputable def ref05_Open (F : Nat) (a0 : Convoy2) (a1 : Int) (a2 : Int) : Option (Int × Int) :=
  bnd (ref05_asked F a0 a1) (fun (x : Int) => brk (x != (0 : Int)) (some (((0 : Int), x))) (bnd (ref05_in F a2 (0 : Int) (3 : Int)) (fun (x_1 : Bool) => brk (!x_1) (some (((0 : Int), (6 : Int)))) (bnd (ref05_open F a0 a1 a2) (fun (x_2 : Int) => some ((x_2, (0 : Int))))))))
noncomputable def s25 (F : Nat) : CS E.G := ⟨25, [.v 18 true, .v 0 false, .v 0 false], [.v 0 false [], .v 0 false []], fun x => ref05_Open F x.1 x.2.1 x.2.2.1⟩
noncomputable def cx25 (F : Nat) : Ctx E := ⟨[s68 F, s77 F, s82 F], [], F, []⟩
noncomputable def h25 : Hint := (.c .n .n)
theorem e25 (F : Nat) (a0 : Convoy2) (a1 : Int) (a2 : Int) : fnK (E := E) (cx25 F) Tryz.f25 gl [.v 18 true, .v 0 false, .v 0 false] [.v 0 false [], .v 0 false []] h25 (a0, a1, a2, ()) = ref05_Open F a0 a1 a2 := by kernel_rfl
theorem c25 (F : Nat) : CSok E gl (s25 F) := ⟨en25, by
  have h := fn_sound (E := E) (gl := gl) (cx := cx25 F) mix (allC (c68 F) (allC (c77 F) (allC (c82 F) all0))) inl0 gl_up gl_lt hf25 (ps := [.v 18 true, .v 0 false, .v 0 false]) (rs := [.v 0 false [], .v 0 false []]) (by decide) h25
  rwa [show fnK (E := E) (cx25 F) Tryz.f25 gl [.v 18 true, .v 0 false, .v 0 false] [.v 0 false [], .v 0 false []] h25 = (fun x : AT E.G.car [.v 18 true, .v 0 false, .v 0 false] => ref05_Open F x.1 x.2.1 x.2.2.1) from funext fun x => e25 F x.1 x.2.1 x.2.2.1] at h⟩
theorem hf26 : Tryz.prog.funcs[26]? = some Tryz.f26 := by kernel_rfl
theorem en26 : Proofs.Enters Tryz.prog 26 := Proofs.enters_of hf26 (by kernel_rfl) rfl
noncomputable def kit_CopyInts (F : Nat) (a0 : List Int) : Option ((List Int)) :=
  chk (a0.length ≤ (1000000 : Nat)) (some (a0))
noncomputable def s26 (F : Nat) : CS E.G := ⟨26, [.sl 0], [.sl 0 3], fun x => kit_CopyInts F x.1⟩
noncomputable def cx26 (F : Nat) : Ctx E := ⟨[], [], F, []⟩
noncomputable def h26 : Hint := .n
theorem e26 (F : Nat) (a0 : List Int) : fnK (E := E) (cx26 F) Tryz.f26 gl [.sl 0] [.sl 0 3] h26 (a0, ()) = kit_CopyInts F a0 := by kernel_rfl
theorem c26 (F : Nat) : CSok E gl (s26 F) := ⟨en26, by
  have h := fn_sound (E := E) (gl := gl) (cx := cx26 F) mix all0 inl0 gl_up gl_lt hf26 (ps := [.sl 0]) (rs := [.sl 0 3]) (by decide) h26
  rwa [show fnK (E := E) (cx26 F) Tryz.f26 gl [.sl 0] [.sl 0 3] h26 = (fun x : AT E.G.car [.sl 0] => kit_CopyInts F x.1) from funext fun x => e26 F x.1] at h⟩
theorem hf28 : Tryz.prog.funcs[28]? = some Tryz.f28 := by kernel_rfl
theorem en28 : Proofs.Enters Tryz.prog 28 := Proofs.enters_of hf28 (by kernel_rfl) rfl
noncomputable def ref05_Rest (F : Nat) (a0 : Convoy2) (a1 : Int) (a2 : List Int) (a3 : Int) (a4 : List Int) : Option ((List Int) × Int) :=
  bnd (ref05_asked F a0 a1) (fun (x : Int) => brk (x != (0 : Int)) (some (([], x))) (bnd (brk (!(↑a2.length : Int) != (↑a0.Ships.length : Int)) (ref05_in F a3 (0 : Int) (↑a0.Ships.length : Int)) (some false)) (fun (x_1 : Bool) => chk ((!((↑a2.length : Int) != (↑a0.Ships.length : Int) || !x_1)) = true → InR (a3 + (↑a4.length : Int))) (chk ((!((↑a2.length : Int) != (↑a0.Ships.length : Int) || !x_1)) = true → InR ((↑a0.Ships.length : Int) + (1 : Int))) (brk ((↑a2.length : Int) != (↑a0.Ships.length : Int) || !x_1 || a3 + (↑a4.length : Int) != (↑a0.Ships.length : Int) + (1 : Int)) (some (([], (1 : Int)))) (loopC (fun (x_2 : Int) => fun x_3 => brk (decide (x_2 < (↑a2.length : Int))) (chk ((0 : Int) ≤ x_2 ∧ x_2 < (↑a2.length : Int)) (bnd (ref05_in F (a2.getD (Int.toNat x_2) (0 : Int)) (0 : Int) (1000000 : Int)) (fun (x_4 : Bool) => brk (!x_4) (some (([], (6 : Int)))) (chk (InR (x_2 + (1 : Int))) (x_3 (x_2 + (1 : Int))))))) (bnd (ref05_all F a0) (fun (x_4 : List (Member2)) => loopC (fun (x_5 : Int) => fun x_6 => brk (decide (x_5 < (↑a4.length : Int))) (chk ((0 : Int) ≤ x_5 ∧ x_5 < (↑a4.length : Int)) (chk (InR (a3 + x_5)) (chk ((0 : Int) ≤ a3 + x_5 ∧ a3 + x_5 < (↑(List.length x_4) : Int)) (bnd (ref05_near F (List.getD x_4 (a3 + x_5).toNat (Member2.mk (Ship2.mk (0 : Int) (0 : Int) (0 : Int) (0 : Int) [] [] [] (0 : Int) (0 : Int) (0 : Int) (0 : Int)) [] (0 : Int) (0 : Int) (0 : Int))) a1) (fun (x_7 : Int) => chk (InR (a3 + x_5)) (chk ((0 : Int) ≤ a3 + x_5 ∧ a3 + x_5 < (↑(List.length x_4) : Int)) (bnd (ref05_far F (List.getD x_4 (a3 + x_5).toNat (Member2.mk (Ship2.mk (0 : Int) (0 : Int) (0 : Int) (0 : Int) [] [] [] (0 : Int) (0 : Int) (0 : Int) (0 : Int)) [] (0 : Int) (0 : Int) (0 : Int))) a1) (fun (x_8 : Int) => bnd (ref05_in F (a4.getD (Int.toNat x_5) (0 : Int)) x_7 x_8) (fun (x_9 : Bool) => brk (!x_9) (some (([], (61 : Int)))) (chk (InR (x_5 + (1 : Int))) (x_6 (x_5 + (1 : Int))))))))))))) (loopC (fun (x_7 : (List (Int)) × (Int)) => fun x_8 => brk (decide (x_7.snd < (↑a4.length : Int))) (chk (InR (a3 + x_7.snd)) (chk (InR (a3 + x_7.snd - (1 : Int))) (chk ((0 : Int) ≤ a3 + x_7.snd - (1 : Int) ∧ a3 + x_7.snd - (1 : Int) < (↑a2.length : Int)) (chk (InR (x_7.snd - (1 : Int))) (chk ((0 : Int) ≤ x_7.snd - (1 : Int) ∧ x_7.snd - (1 : Int) < (↑a4.length : Int)) (chk (InR (a2.getD (a3 + x_7.snd - (1 : Int)).toNat (0 : Int) + a4.getD (x_7.snd - (1 : Int)).toNat (0 : Int))) (chk ((0 : Int) ≤ x_7.snd ∧ x_7.snd < (↑a4.length : Int)) (chk (InR (a2.getD (a3 + x_7.snd - (1 : Int)).toNat (0 : Int) + a4.getD (x_7.snd - (1 : Int)).toNat (0 : Int) - a4.getD (Int.toNat x_7.snd) (0 : Int))) (chk (List.length x_7.fst + [a2.getD (a3 + x_7.snd - (1 : Int)).toNat (0 : Int) + a4.getD (x_7.snd - (1 : Int)).toNat (0 : Int) - a4.getD (Int.toNat x_7.snd) (0 : Int)].length ≤ (1000000 : Nat)) (chk (InR (x_7.snd + (1 : Int))) (x_8 ((x_7.fst ++ [a2.getD (a3 + x_7.snd - (1 : Int)).toNat (0 : Int) + a4.getD (x_7.snd - (1 : Int)).toNat (0 : Int) - a4.getD (Int.toNat x_7.snd) (0 : Int)], x_7.snd + (1 : Int)))))))))))))) (some ((x_7.fst, (0 : Int))))) (F) (([], (1 : Int))))) (F) ((0 : Int))))) (F) ((0 : Int))))))))
noncomputable def s28 (F : Nat) : CS E.G := ⟨28, [.v 18 true, .v 0 false, .sl 0, .v 0 false, .sl 0], [.sl 0 3, .v 0 false []], fun x => ref05_Rest F x.1 x.2.1 x.2.2.1 x.2.2.2.1 x.2.2.2.2.1⟩
noncomputable def cx28 (F : Nat) : Ctx E := ⟨[s68 F, s73 F, s74 F, s77 F, s83 F], [], F, []⟩
noncomputable def h28 : Hint := (.c .n (.c .n (.l ⟨[.i], [16, 32, 64, 48, 80], [0, 6, 7, 8, 5, 4, 3, 2, 1], [(208, .i IntKind.i64)], [], [], [], 9⟩ (.c .n (.l ⟨[.i], [16, 32, 64, 224, 48], [0, 6, 7, 9], [(240, .i IntKind.i64)], [], [], [], 10⟩ (.c .n (.l ⟨[.l 0, .i], [32, 64, 48], [0, 6, 7], [(256, .h 10 3 0), (272, .i IntKind.i64)], [], [], [], 11⟩ .n)))))))
theorem e28 (F : Nat) (a0 : Convoy2) (a1 : Int) (a2 : List Int) (a3 : Int) (a4 : List Int) : fnK (E := E) (cx28 F) Tryz.f28 gl [.v 18 true, .v 0 false, .sl 0, .v 0 false, .sl 0] [.sl 0 3, .v 0 false []] h28 (a0, a1, a2, a3, a4, ()) = ref05_Rest F a0 a1 a2 a3 a4 := by kernel_rfl
theorem c28 (F : Nat) : CSok E gl (s28 F) := ⟨en28, by
  have h := fn_sound (E := E) (gl := gl) (cx := cx28 F) mix (allC (c68 F) (allC (c73 F) (allC (c74 F) (allC (c77 F) (allC (c83 F) all0))))) inl0 gl_up gl_lt hf28 (ps := [.v 18 true, .v 0 false, .sl 0, .v 0 false, .sl 0]) (rs := [.sl 0 3, .v 0 false []]) (by decide) h28
  rwa [show fnK (E := E) (cx28 F) Tryz.f28 gl [.v 18 true, .v 0 false, .sl 0, .v 0 false, .sl 0] [.sl 0 3, .v 0 false []] h28 = (fun x : AT E.G.car [.v 18 true, .v 0 false, .sl 0, .v 0 false, .sl 0] => ref05_Rest F x.1 x.2.1 x.2.2.1 x.2.2.2.1 x.2.2.2.2.1) from funext fun x => e28 F x.1 x.2.1 x.2.2.1 x.2.2.2.1 x.2.2.2.2.1] at h⟩
theorem hf3 : Tryz.prog.funcs[3]? = some Tryz.f3 := by kernel_rfl
theorem en3 : Proofs.Enters Tryz.prog 3 := Proofs.enters_of hf3 (by kernel_rfl) rfl
noncomputable def law05_ConvoyChecks (F : Nat) (a0 : Convoy) (a1 : Int) (a2 : Int) (a3 : Int) (a4 : List Int) (a5 : Int) (a6 : List Int) : Option (Bool) :=
  bnd (law05_heavy F a0) (fun (x : Bool) => brk (x || decide ((↑a4.length : Int) > (10 : Int)) || decide ((↑a6.length : Int) > (10 : Int))) (bnd (law05_awake F) (fun (x_1 : Bool) => some (x_1))) (bnd (law05_CopyConvoy F a0) (fun (x_1 : Convoy) => bnd (law05_Convoy F a0) (fun (x_2 : Convoy2) => bnd (convoy_Way F a1 a2) (fun (x_3 : (Int) × ((Int) × (Int))) => bnd (ref05_Way F a1 a2) (fun (x_4 : (Int) × ((Int) × (Int))) => bnd (brk (!(x_3.fst != x_4.fst || x_3.snd.fst != x_4.snd.fst || x_3.snd.snd != x_4.snd.snd)) (convoy_Check F x_1) (some (0 : Int))) (fun (x_5 : Int) => bnd (brk (!(x_3.fst != x_4.fst || x_3.snd.fst != x_4.snd.fst || x_3.snd.snd != x_4.snd.snd)) (ref05_Check F x_2) (some (0 : Int))) (fun (x_6 : Int) => brk (x_3.fst != x_4.fst || x_3.snd.fst != x_4.snd.fst || x_3.snd.snd != x_4.snd.snd || x_5 != x_6) (some (false)) (bnd (convoy_Halt F x_1.Breaker a1) (fun (x_7 : (Span) × (Int)) => bnd (ref05_Halt F x_2.Breaker a1) (fun (x_8 : (Span) × (Int)) => brk (!(x_7.fst.Lo == x_8.fst.Lo && (x_7.fst.Hi == x_8.fst.Hi && true)) || x_7.snd != x_8.snd) (some (false)) (bnd (convoy_Gaps F x_1 a1) (fun (x_9 : (List (Int)) × (Int)) => bnd (ref05_Gaps F x_2 a1) (fun (x_10 : (List (Int)) × (Int)) => bnd (kit_SameInts F x_9.fst x_10.fst) (fun (x_11 : Bool) => brk (!x_11 || x_9.snd != x_10.snd) (some (false)) (bnd (convoy_Tail F x_1 a1) (fun (x_12 : (Int) × (Int)) => bnd (ref05_Tail F x_2 a1) (fun (x_13 : (Int) × (Int)) => brk (x_12.fst != x_13.fst || x_12.snd != x_13.snd) (some (false)) (bnd (convoy_Open F x_1 a1 a3) (fun (x_14 : (Int) × (Int)) => bnd (ref05_Open F x_2 a1 a3) (fun (x_15 : (Int) × (Int)) => brk (x_14.fst != x_15.fst || x_14.snd != x_15.snd) (some (false)) (bnd (kit_CopyInts F a4) (fun (x_16 : List (Int)) => bnd (kit_CopyInts F a6) (fun (x_17 : List (Int)) => bnd (convoy_Rest F x_1 a1 x_16 a5 x_17) (fun (x_18 : (List (Int)) × (Int)) => bnd (ref05_Rest F x_2 a1 a4 a5 a6) (fun (x_19 : (List (Int)) × (Int)) => bnd (kit_SameInts F x_18.fst x_19.fst) (fun (x_20 : Bool) => bnd (brk (x_20 && x_18.snd == x_19.snd) (law05_alike F x_1 x_2) (some false)) (fun (x_21 : Bool) => bnd (brk (x_20 && x_18.snd == x_19.snd && x_21) (kit_SameInts F x_16 a4) (some false)) (fun (x_22 : Bool) => bnd (brk (x_20 && x_18.snd == x_19.snd && x_21 && x_22) (kit_SameInts F x_17 a6) (some false)) (fun (x_23 : Bool) => bnd (brk (x_20 && x_18.snd == x_19.snd && x_21 && x_22 && x_23) (law05_awake F) (some false)) (fun (x_24 : Bool) => some (x_20 && x_18.snd == x_19.snd && x_21 && x_22 && x_23 && x_24))))))))))))))))))))))))))))))))
noncomputable def s3 (F : Nat) : CS E.G := ⟨3, [.v 12 true, .v 0 false, .v 0 false, .v 0 false, .sl 0, .v 0 false, .sl 0], [.v 1 false []], fun x => law05_ConvoyChecks F x.1 x.2.1 x.2.2.1 x.2.2.2.1 x.2.2.2.2.1 x.2.2.2.2.2.1 x.2.2.2.2.2.2.1⟩
noncomputable def cx3 (F : Nat) : Ctx E := ⟨[s9 F, s10 F, s11 F, s12 F, s13 F, s14 F, s15 F, s16 F, s17 F, s18 F, s19 F, s20 F, s21 F, s22 F, s23 F, s24 F, s25 F, s26 F, s27 F, s28 F, s29 F], [], F, []⟩
noncomputable def h3 : Hint := (.c .n (.c .n (.c .n (.c .n (.c .n .n)))))
theorem e3 (F : Nat) (a0 : Convoy) (a1 : Int) (a2 : Int) (a3 : Int) (a4 : List Int) (a5 : Int) (a6 : List Int) : fnK (E := E) (cx3 F) Tryz.f3 gl [.v 12 true, .v 0 false, .v 0 false, .v 0 false, .sl 0, .v 0 false, .sl 0] [.v 1 false []] h3 (a0, a1, a2, a3, a4, a5, a6, ()) = law05_ConvoyChecks F a0 a1 a2 a3 a4 a5 a6 := by kernel_rfl
theorem c3 (F : Nat) : CSok E gl (s3 F) := ⟨en3, by
  have h := fn_sound (E := E) (gl := gl) (cx := cx3 F) mix (allC (c9 F) (allC (c10 F) (allC (c11 F) (allC (c12 F) (allC (c13 F) (allC (c14 F) (allC (c15 F) (allC (c16 F) (allC (c17 F) (allC (c18 F) (allC (c19 F) (allC (c20 F) (allC (c21 F) (allC (c22 F) (allC (c23 F) (allC (c24 F) (allC (c25 F) (allC (c26 F) (allC (c27 F) (allC (c28 F) (allC (c29 F) all0))))))))))))))))))))) inl0 gl_up gl_lt hf3 (ps := [.v 12 true, .v 0 false, .v 0 false, .v 0 false, .sl 0, .v 0 false, .sl 0]) (rs := [.v 1 false []]) (by decide) h3
  rwa [show fnK (E := E) (cx3 F) Tryz.f3 gl [.v 12 true, .v 0 false, .v 0 false, .v 0 false, .sl 0, .v 0 false, .sl 0] [.v 1 false []] h3 = (fun x : AT E.G.car [.v 12 true, .v 0 false, .v 0 false, .v 0 false, .sl 0, .v 0 false, .sl 0] => law05_ConvoyChecks F x.1 x.2.1 x.2.2.1 x.2.2.2.1 x.2.2.2.2.1 x.2.2.2.2.2.1 x.2.2.2.2.2.2.1) from funext fun x => e3 F x.1 x.2.1 x.2.2.1 x.2.2.2.1 x.2.2.2.2.1 x.2.2.2.2.2.1 x.2.2.2.2.2.2.1] at h⟩
end Go.Proofs.Cv
