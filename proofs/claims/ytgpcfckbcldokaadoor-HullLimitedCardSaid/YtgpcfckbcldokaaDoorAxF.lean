/-
  The core, sixth part: lists in memory that lay there when the activation began.
-/
import Derived.Test.YtgpcfckbcldokaaDoorAxE
namespace Go.AX
open Go Go.RowKit

/-- The slice (p, n, c) reads as the list l, each element being k cells, those of enc. -/
def SlAt {α : Type} (enc : α → List Value) (k : Nat) (w : World) (p : Option Addr) (n c : Nat) (l : List α) : Prop :=
  n = l.length ∧ n ≤ c ∧ (l ≠ [] → ∃ b o, p = some ⟨b, o, none⟩ ∧ b < w.heap.size ∧
    ∀ i x, l[i]? = some x → ∀ j v, (enc x)[j]? = some v → w.cell? ⟨b, o + i * k + j, none⟩ = some v)

theorem SlAt.len {α : Type} {enc : α → List Value} {k : Nat} {w : World} {p : Option Addr} {n c : Nat} {l : List α} (h : SlAt enc k w p n c l) : n = l.length := h.1

theorem SlAt.mono {α : Type} {enc : α → List Value} {k : Nat} {w w' : World} {p : Option Addr} {n c : Nat} {l : List α} (h : SlAt enc k w p n c l) (hb : Below w.heap.size w w') : SlAt enc k w' p n c l := by
  refine ⟨h.1, h.2.1, fun hl => ?_⟩
  obtain ⟨b, o, h1, h2, h3⟩ := h.2.2 hl
  exact ⟨b, o, h1, Nat.lt_of_lt_of_le h2 hb.size, fun i x hx j v hv => by rw [hb.cell (p := ⟨b, o + i * k + j, none⟩) h2]; exact h3 i x hx j v hv⟩

/-- Where the elements lie. -/
def Lies {α : Type} (enc : α → List Value) (k : Nat) (w : World) (b o : Nat) (l : List α) : Prop :=
  b < w.heap.size ∧ ∀ i x, l[i]? = some x → ∀ j v, (enc x)[j]? = some v → w.cell? ⟨b, o + i * k + j, none⟩ = some v

theorem SlAt.lies {α : Type} {enc : α → List Value} {k : Nat} {w : World} {p : Option Addr} {n c : Nat} {l : List α} (h : SlAt enc k w p n c l) (hl : l ≠ []) :
    ∃ b o, p = some ⟨b, o, none⟩ ∧ Lies enc k w b o l := by
  obtain ⟨b, o, h1, h2, h3⟩ := h.2.2 hl
  exact ⟨b, o, h1, h2, h3⟩

section
variable {α : Type} {enc : α → List Value} {k : Nat} {w0 : World} {b o : Nat} {l : List α}

theorem getD_some {d : α} {i : Int} (h0 : 0 ≤ i) (h1 : i < l.length) : l[i.toNat]? = some (l.getD i.toNat d) := by
  have : i.toNat < l.length := by omega
  simp [List.getD, this]

theorem ld1 {cx : Cx} (h : Lies enc k cx.w0 b o l) (d : α) {i : Int} (h0 : 0 ≤ i) (h1 : i < l.length) (j : Nat) {v : Value} (hv : (enc (l.getD i.toNat d))[j]? = some v) {ty off : Nat} (ho : off = o + i.toNat * k + j)
    (hsh : shapeOf cx.P ty = some none) (hB : cx.w0.heap.size ≤ cx.B := by exact Nat.le_refl _) (nb : ¬ cx.lent b := by exact lent_nil) : ∀ w, Held cx w → ∀ m : Nat → Nat, (loadVar ty ⟨b, off, none⟩).run cx.P w = .ok (den m (.v v)) w := by
  intro w hb m
  subst ho
  refine run_load_one hsh ?_
  rw [hb.cell (p := ⟨b, o + i.toNat * k + j, none⟩) (Nat.lt_of_lt_of_le h.1 hB) nb]
  exact h.2 i.toNat _ (getD_some h0 h1) j v hv

theorem ldN {cx : Cx} (h : Lies enc k cx.w0 b o l) (d : α) {i : Int} (h0 : 0 ≤ i) (h1 : i < l.length) (j : Nat) {vs : List Value} (hv : ∀ q v, vs[q]? = some v → (enc (l.getD i.toNat d))[j + q]? = some v) {ty off n : Nat} (ho : off = o + i.toNat * k + j)
    (hsh : shapeOf cx.P ty = some (some n)) (hn : vs.length = n) (hB : cx.w0.heap.size ≤ cx.B := by exact Nat.le_refl _) (nb : ¬ cx.lent b := by exact lent_nil) : ∀ w, Held cx w → ∀ m : Nat → Nat, (loadVar ty ⟨b, off, none⟩).run cx.P w = .ok (den m (.g (vs.map SV.v))) w := by
  intro w hb m
  subst ho
  simp only [den, denL_vals]
  refine run_load_agg hsh hn fun q v hq => ?_
  rw [hb.cell (p := ⟨b, o + i.toNat * k + j + q, none⟩) (Nat.lt_of_lt_of_le h.1 hB) nb, Nat.add_assoc]
  exact h.2 i.toNat _ (getD_some h0 h1) (j + q) v (hv q v hq)

/-- A cell that lay there. -/
theorem ldCell {cx : Cx} {b o : Nat} {v : Value} (hb0 : b < cx.w0.heap.size) (hc : cx.w0.cell? ⟨b, o, none⟩ = some v) {ty off : Nat} (ho : off = o) (hsh : shapeOf cx.P ty = some none)
    (hB : cx.w0.heap.size ≤ cx.B := by exact Nat.le_refl _) (nb : ¬ cx.lent b := by exact lent_nil) :
    ∀ w, Held cx w → ∀ m : Nat → Nat, (loadVar ty ⟨b, off, none⟩).run cx.P w = .ok (den m (.v v)) w := by
  intro w hb m
  subst ho
  refine run_load_one hsh ?_
  rw [hb.cell (p := ⟨b, off, none⟩) (Nat.lt_of_lt_of_le hb0 hB) nb]
  exact hc

/-- A row of cells that lay there. -/
theorem ldCells {cx : Cx} {b o : Nat} {vs : List Value} (hb0 : b < cx.w0.heap.size) (hc : ∀ q v, vs[q]? = some v → cx.w0.cell? ⟨b, o + q, none⟩ = some v) {ty off n : Nat} (ho : off = o) (hsh : shapeOf cx.P ty = some (some n)) (hn : vs.length = n)
    (hB : cx.w0.heap.size ≤ cx.B := by exact Nat.le_refl _) (nb : ¬ cx.lent b := by exact lent_nil) :
    ∀ w, Held cx w → ∀ m : Nat → Nat, (loadVar ty ⟨b, off, none⟩).run cx.P w = .ok (den m (.g (vs.map SV.v))) w := by
  intro w hb m
  subst ho
  simp only [den, denL_vals]
  refine run_load_agg hsh hn fun q v hq => ?_
  rw [hb.cell (p := ⟨b, off + q, none⟩) (Nat.lt_of_lt_of_le hb0 hB) nb]
  exact hc q v hq

end
end Go.AX
