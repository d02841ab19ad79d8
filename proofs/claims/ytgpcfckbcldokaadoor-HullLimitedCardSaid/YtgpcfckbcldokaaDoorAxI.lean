/-
  The core, ninth part: loops of a known number of rounds; slices as records; tables.
-/
import Derived.Test.YtgpcfckbcldokaaDoorAxH
import Derived.LoopNIn
namespace Go.AX
open Go Go.RowKit

section
variable {cx : Cx} {s : St} {Q : Exit → Act → World → Prop}

theorem aw_rounds (n : Nat) {body : Code} (h : AW cx body s (Exit.then (Code.roundsIn cx.F 0 cx.P body Q n) Q)) : AW cx (.loop body) s Q :=
  fun m a w hr => wpIn_loop_rounds (n + 1) (h m a w hr)

theorem fin_round {n : Nat} {body : Code} (h : AW cx body s (Exit.then (Code.roundsIn cx.F 0 cx.P body Q n) Q)) : Fin cx s (Exit.then (Code.roundsIn cx.F 0 cx.P body Q (n + 1)) Q) .normal := h

end

/-- A slice's value. -/
structure SlV where
  p : Option Addr
  n : Nat
  c : Nat

def SlV.val (a : SlV) : Value := .slice a.p a.n a.c

def SlIs {α : Type} (enc : α → List Value) (k : Nat) (w : World) (a : SlV) (l : List α) : Prop := SlAt enc k w a.p a.n a.c l

theorem SlIs.mono {α : Type} {enc : α → List Value} {k : Nat} {w w' : World} {a : SlV} {l : List α} (h : SlIs enc k w a l) (hb : Below w.heap.size w w') : SlIs enc k w' a l := SlAt.mono h hb

theorem slIs_nil {α : Type} {enc : α → List Value} {k : Nat} {w : World} : SlIs enc k w ⟨none, 0, 0⟩ ([] : List α) := ⟨rfl, Nat.le_refl _, fun h => absurd rfl h⟩

theorem SlAt.lies' {α : Type} {enc : α → List Value} {k : Nat} {w : World} {p : Option Addr} {n c : Nat} {l : List α} (h : SlAt enc k w p n c l) :
    ∃ b o, (l ≠ [] → p = some ⟨b, o, none⟩) ∧ (l ≠ [] → Lies enc k w b o l) := by
  by_cases hl : l = []
  · exact ⟨0, 0, fun h => absurd hl h, fun h => absurd hl h⟩
  · obtain ⟨b, o, h1, h2⟩ := h.lies hl
    exact ⟨b, o, fun _ => h1, fun _ => h2⟩

theorem ne_of_ix {α : Type} {l : List α} {i : Int} (h0 : 0 ≤ i) (h1 : i < l.length) : l ≠ [] := fun e => by subst e; simp at h1; omega

theorem ixInt {k : IntKind} (l : List Int) {i : Int} (h0 : 0 ≤ i) (h1 : i < l.length) : (l.map fun n => SV.v (.int k n))[i.toNat]? = some (.v (.int k (l.getD i.toNat 0))) := by
  have : i.toNat < l.length := by omega
  simp [List.getD, this]

theorem ldTab {cx : Cx} {b : Nat} {k : IntKind} {l : List Int} (h : BoxAt cx.w0 b (l.map (fun n => Value.int k n))) {i : Int} (h0 : 0 ≤ i) (h1 : i < l.length) {ty off : Nat} (ho : off = i.toNat) (hsh : shapeOf cx.P ty = some none)
    (hB : cx.w0.heap.size ≤ cx.B := by exact Nat.le_refl _) (nb : ¬ cx.lent b := by exact lent_nil) :
    ∀ w, Held cx w → ∀ m : Nat → Nat, (loadVar ty ⟨b, off, none⟩).run cx.P w = .ok (den m (.v (.int k (l.getD i.toNat 0)))) w := by
  subst ho
  have h2 : i.toNat < l.length := by omega
  exact ldCell h.1 (h.2 i.toNat _ (by simp [List.getD, h2])) rfl hsh hB nb

theorem sub_get {α : Type} {cs vs : List α} {n q : Nat} {v : α} (h : (cs.drop n).take vs.length = vs) (hq : vs[q]? = some v) : cs[n + q]? = some v := by
  have hlt : q < vs.length := (List.getElem?_eq_some_iff.1 hq).1
  rw [← h, List.getElem?_take, if_pos hlt, List.getElem?_drop] at hq
  exact hq

end Go.AX
