/-
  This file has plain laws of the mirrors. Conditions: those that each theorem names.
-/
import Derived.KernelRfl
import Derived.Test.YtgpcfckbcldokaaDoorBe4
/- The plain law of HullMonotone: Made makes valid ships, Frozen valid cells, and the law answers true. -/
namespace Go.Proofs.T
open Go.AX Hull

def Bytes (l : List Int) : Prop := ∀ x ∈ l, 0 ≤ x ∧ x ≤ 255

theorem dvb {l : List Int} (h : Bytes l) (k : Nat) {n : Int} (hn : 1 ≤ n) : 0 ≤ dv l k n ∧ dv l k n ≤ n - 1 ∧ dv l k n ≤ 255 := dv_bd h hn

theorem m74_ok {F : Nat} {l : List Int} (h8 : Bytes l) {step wide most : Int} (hs : step = 1 ∨ step = 2) (hw : 1 ≤ wide ∧ wide ≤ 1000) (hm : 0 ≤ most ∧ most ≤ 1000) (k : Nat) :
    Ok (fun r => goodSpan r.1 most ∧ r.2 = k + 2) (m74_0 F 0 step wide most l k) := by
  unfold m74_0
  have h1 := dvb h8 k (n := most / step + 1 - 0 / step) (by rcases hs with rfl | rfl <;> omega)
  have h2 := dvb h8 (k + 1) (n := wide) hw.1
  generalize dv l k (most / step + 1 - 0 / step) = a at h1 ⊢
  generalize dv l (k + 1) wide = b at h2 ⊢
  rcases hs with rfl | rfl
  all_goals
    repeat' (with_reducible refine ok_chk (by omega) ?_)
    refine ok_some ⟨?_, rfl⟩
    simp only [goodSpan]
    split <;> omega

theorem m17_ok {F : Nat} {l : List Int} (h8 : Bytes l) : Ok goodCell (m17 F l) := by
  unfold m17
  refine ok_bnd _ (m74_ok h8 (.inl rfl) (by omega) (by omega) 0) fun v1 h1 => ?_
  refine ok_bnd _ (m74_ok h8 (.inr rfl) (by omega) (by omega) _) fun v2 h2 => ?_
  refine ok_bnd _ (m74_ok h8 (.inl rfl) (by omega) (by omega) _) fun v3 h3 => ?_
  refine ok_bnd _ (m74_ok h8 (.inl rfl) (by omega) (by omega) _) fun v4 h4 => ?_
  exact ok_some ⟨h1.1, h2.1, h3.1, h4.1⟩

/-- Points that can be the beginning of a steady curve; the last one is (x, y). -/
structure Pre (w : Int) (l : List Pt) (x y : Int) : Prop where
  len : 1 ≤ l.length
  x0 : (pt l 0).X = 0
  bd : ∀ i : Nat, i < l.length → 0 ≤ (pt l i).X ∧ (pt l i).X ≤ 400 ∧ 0 ≤ (pt l i).Y ∧ (pt l i).Y ≤ 20000
  st : ∀ i : Nat, 1 ≤ i → i < l.length → (pt l ((i : Int) - 1)).X < (pt l i).X ∧ 0 ≤ ((pt l i).Y - (pt l ((i : Int) - 1)).Y) * w
  last : pt l ((l.length : Int) - 1) = ⟨x, y⟩

theorem pt_old {l : List Pt} {p : Pt} {i : Int} (h0 : 0 ≤ i) (h : i < l.length) : pt (l ++ [p]) i = pt l i := by
  unfold pt
  have h : i.toNat < l.length := by omega
  simp [List.getD, List.getElem?_append_left h]

theorem pt_new {l : List Pt} {p : Pt} : pt (l ++ [p]) (l.length : Int) = p := by
  unfold pt
  simp [List.getD]

theorem Pre.one {w y : Int} (hy : 0 ≤ y ∧ y ≤ 20000) : Pre w [⟨0, y⟩] 0 y := by
  refine ⟨by simp, rfl, fun i hi => ?_, fun i h1 hi => ?_, rfl⟩
  · have : i = 0 := by simpa using hi
    subst this
    simp [pt]; omega
  · simp at hi; omega

theorem Pre.snoc {w x y x' y' : Int} {l : List Pt} (h : Pre w l x y) (hx : x < x' ∧ x' ≤ 400) (hy : 0 ≤ y' ∧ y' ≤ 20000) (hw : 0 ≤ (y' - y) * w) : Pre w (l ++ [⟨x', y'⟩]) x' y' := by
  have hl := h.len
  have hlast := h.last
  have hx0 := (h.bd (l.length - 1) (by omega)).1
  rw [show (((l.length - 1 : Nat)) : Int) = (l.length : Int) - 1 by omega, hlast] at hx0
  simp only [] at hx0
  refine ⟨by simp, by rw [pt_old (by omega) (by omega)]; exact h.x0, fun i hi => ?_, fun i h1 hi => ?_, ?_⟩
  · by_cases e : i < l.length
    · rw [pt_old (by omega) (by omega)]; exact h.bd i e
    · have : i = l.length := by simp at hi; omega
      subst this
      rw [pt_new]; simp only []; omega
  · by_cases e : i < l.length
    · rw [pt_old (by omega) (by omega), pt_old (by omega) (by omega)]; exact h.st i h1 e
    · have : i = l.length := by simp at hi; omega
      subst this
      rw [pt_new, pt_old (by omega) (by omega), hlast]
      exact ⟨hx.1, hw⟩
  · rw [show (((l ++ [(⟨x', y'⟩ : Pt)]).length : Int) - 1) = (l.length : Int) by simp, pt_new]

theorem Pre.steady {w x y : Int} {l : List Pt} (h : Pre w l x y) (hl : 2 ≤ l.length ∧ l.length ≤ 8) : steady l w = true ∧ endX l = x := by
  have hc : curve l = true := by
    refine curve_yes (k := l.length) ?_ h.x0 (fun j hj => ?_) (Nat.le_refl _)
    · simp [within]; omega
    · have h1 := h.bd j hj
      simp only [curveAt, within]
      by_cases e : j = 0
      · subst e
        have h0 := h.x0
        have h1' : 0 ≤ (pt l 0).X ∧ (pt l 0).X ≤ 400 ∧ 0 ≤ (pt l 0).Y ∧ (pt l 0).Y ≤ 20000 := h1
        simp; omega
      · have h2 := (h.st j (by omega) hj).1
        have h3 : ¬ (pt l (j : Int)).X ≤ (pt l ((j : Int) - 1)).X := by omega
        simp [h3]; omega
  refine ⟨steady_yes (k := l.length) hc (fun j hj h1 => ?_) (Nat.le_refl _), by rw [endX, h.last]⟩
  have h2 := (h.st j h1 hj).2
  simp only [steadyAt]
  simp; omega

theorem m15_ok {F : Nat} (hF : 100 ≤ F) {l : List Int} (h8 : Bytes l) : Ok (fun s => check s = 0) (m15 F l) := by
  have D := fun k n h => dvb h8 k (n := n) h
  unfold m15
  have d0 := D 0 6 (by omega); have d1 := D 1 256 (by omega); have d2 := D 2 256 (by omega); have d3 := D 3 256 (by omega); have d4 := D 4 21 (by omega); have d5 := D 5 101 (by omega)
  have d6 := D 6 240 (by omega); have d7 := D 7 256 (by omega); have d8 := D 8 256 (by omega); have d9 := D 9 4 (by omega)
  repeat' (with_reducible refine ok_chk (by omega) ?_)
  refine ok_join (fun (q : List Pt × Nat) => Pre (-1) q.1 (endX q.1) (pt q.1 ((q.1.length : Int) - 1)).Y ∧ 2 ≤ q.1.length ∧ q.1.length ≤ 8 ∧ 10 ≤ endX q.1 ∧ endX q.1 ≤ 250) (fun x1 h1 => ?_) fun k1 hk1 => ?_
  · refine ok_join (fun (q : List Pt × Nat) => Pre 1 q.1 (endX q.1) (pt q.1 ((q.1.length : Int) - 1)).Y ∧ 2 ≤ q.1.length ∧ q.1.length ≤ 8 ∧ endX q.1 ≤ 250) (fun x3 h3 => ?_) fun k3 hk3 => ?_
    · refine ok_join (fun (q : Int × List Pt × Nat) => ∃ x, Pre 1 q.2.1 x q.1 ∧ (pt q.2.1 0).Y = 0 ∧ q.2.1.length ≤ 4 ∧ x ≤ 390 ∧ 0 ≤ q.1 ∧ q.1 ≤ 3000) (fun x5 h5 => ?_) fun k5 hk5 => ?_
      · obtain ⟨x, hp, h0, hl, hx, hy⟩ := h5
        have e := D x5.2.2 256 (by omega)
        have hl1 := hp.len
        repeat' (with_reducible refine ok_chk (by omega) ?_)
        refine ok_some ?_
        have hq := (hp.snoc (x' := 400) (y' := x5.1 + 4 * dv l x5.2.2 256) (by omega) (by omega) (by omega)).steady (by simp; omega)
        obtain ⟨p1, l1, l2, e1, e2⟩ := h1
        obtain ⟨p3, l3, l4, e3⟩ := h3
        have s1 := p1.steady ⟨l1, l2⟩
        have s3 := p3.steady ⟨l3, l4⟩
        have r1 : rule1 (⟨1 + dv l 0 6, 100 + 390 * dv l 1 256, 10 + 7 * dv l 2 256, 10 + 1900 * dv l 3 256, x1.1, x3.1, x5.2.1 ++ [⟨400, x5.1 + 4 * dv l x5.2.2 256⟩], dv l 4 21, dv l 5 101, 2 * dv l 6 240, 4 * dv l 7 256⟩ : Ship) = true := by
          simp [rule1, within]; omega
        have r2 : rule2 (⟨1 + dv l 0 6, 100 + 390 * dv l 1 256, 10 + 7 * dv l 2 256, 10 + 1900 * dv l 3 256, x1.1, x3.1, x5.2.1 ++ [⟨400, x5.1 + 4 * dv l x5.2.2 256⟩], dv l 4 21, dv l 5 101, 2 * dv l 6 240, 4 * dv l 7 256⟩ : Ship) = true := by
          simp [rule2, within]; omega
        have r3 : rule3 (⟨1 + dv l 0 6, 100 + 390 * dv l 1 256, 10 + 7 * dv l 2 256, 10 + 1900 * dv l 3 256, x1.1, x3.1, x5.2.1 ++ [⟨400, x5.1 + 4 * dv l x5.2.2 256⟩], dv l 4 21, dv l 5 101, 2 * dv l 6 240, 4 * dv l 7 256⟩ : Ship) = true := by
          simp [rule3, within]; omega
        have r4 : rule4 (⟨1 + dv l 0 6, 100 + 390 * dv l 1 256, 10 + 7 * dv l 2 256, 10 + 1900 * dv l 3 256, x1.1, x3.1, x5.2.1 ++ [⟨400, x5.1 + 4 * dv l x5.2.2 256⟩], dv l 4 21, dv l 5 101, 2 * dv l 6 240, 4 * dv l 7 256⟩ : Ship) = true := by
          simp [rule4, within, s1.1]; omega
        have r5 : rule5 (⟨1 + dv l 0 6, 100 + 390 * dv l 1 256, 10 + 7 * dv l 2 256, 10 + 1900 * dv l 3 256, x1.1, x3.1, x5.2.1 ++ [⟨400, x5.1 + 4 * dv l x5.2.2 256⟩], dv l 4 21, dv l 5 101, 2 * dv l 6 240, 4 * dv l 7 256⟩ : Ship) = true := by
          simp [rule5, s3.1]; omega
        have r6 : rule6 (⟨1 + dv l 0 6, 100 + 390 * dv l 1 256, 10 + 7 * dv l 2 256, 10 + 1900 * dv l 3 256, x1.1, x3.1, x5.2.1 ++ [⟨400, x5.1 + 4 * dv l x5.2.2 256⟩], dv l 4 21, dv l 5 101, 2 * dv l 6 240, 4 * dv l 7 256⟩ : Ship) = true := by
          simp only [rule6, hq.1, hq.2]; rw [pt_old (by omega) (by omega), h0]; rfl
        simp only [check, r1, r2, r3, r4, r5, r6]; rfl
      · have e9 := D x3.2 4 (by omega)
        refine ok_loop (fun (q : Int × Int × Int × List Pt × Nat) => Pre 1 q.2.2.2.1 q.1 q.2.1 ∧ (pt q.2.2.2.1 0).Y = 0 ∧ 0 ≤ q.2.2.1 ∧ q.2.2.1 ≤ 3 ∧ (q.2.2.2.1.length : Int) = q.2.2.1 + 1 ∧ q.1 ≤ 90 * q.2.2.1 ∧ 0 ≤ q.1 ∧ 0 ≤ q.2.1 ∧ q.2.1 ≤ 765 * q.2.2.1) (fun q => (3 - q.2.2.1).toNat) ?_ (by simp; omega) fun q next hI hn => ?_
        · exact ⟨Pre.one (by omega), rfl, by simp, by simp, rfl, by simp, by simp, by simp, by simp⟩
        · obtain ⟨hp, h0, h1', h2, h3', h4, h5, h6, h7⟩ := hI
          refine ok_brk (fun hc => ?_) (fun hc => ?_)
          · have hc := of_decide_eq_true hc
            have a1 := D q.2.2.2.2 90 (by omega)
            have a2 := D (q.2.2.2.2 + 1) 256 (by omega)
            repeat' (with_reducible refine ok_chk (by omega) ?_)
            refine hn _ ⟨hp.snoc (by omega) (by omega) (by omega), by simp only []; rw [pt_old (by omega) (by omega)]; exact h0, by first | omega | (simp only []; omega), by first | omega | (simp only []; omega), by simp only [List.length_append, List.length_singleton]; omega, by first | omega | (simp only []; omega), by first | omega | (simp only []; omega), by first | omega | (simp only []; omega), by first | omega | (simp only []; omega)⟩ (by first | omega | (simp only []; omega))
          · have hc := of_decide_eq_false hc
            exact hk5 _ ⟨q.1, hp, h0, by first | omega | (simp only []; omega), by omega, by first | omega | (simp only []; omega), by first | omega | (simp only []; omega)⟩
    · have e9 := D (x1.2 + 1) 3 (by omega)
      have e8 := D x1.2 50 (by omega)
      refine ok_chk (by omega) ?_
      refine ok_loop (fun (q : Int × Int × Int × List Pt × Nat) => Pre 1 q.2.2.2.1 q.1 q.2.1 ∧ 0 ≤ q.2.2.1 ∧ q.2.2.1 ≤ 3 ∧ q.2.2.1 ≤ 1 + dv l (x1.2 + 1) 3 ∧ (q.2.2.2.1.length : Int) = q.2.2.1 + 1 ∧ q.1 ≤ 80 * q.2.2.1 ∧ 0 ≤ q.1 ∧ 0 ≤ q.2.1 ∧ q.2.1 ≤ 50 + 765 * q.2.2.1) (fun q => (3 - q.2.2.1).toNat) ?_ (by simp; omega) fun q next hI hn => ?_
      · exact ⟨Pre.one (by omega), by simp, by simp, by first | omega | (simp only []; omega), rfl, by simp, by simp, by first | omega | (simp only []; omega), by first | omega | (simp only []; omega)⟩
      · obtain ⟨hp, h1', h2, h2', h3', h4, h5, h6, h7⟩ := hI
        refine ok_brk (fun hc => ?_) (fun hc => ?_)
        · have hc := of_decide_eq_true hc
          have a1 := D q.2.2.2.2 80 (by omega)
          have a2 := D (q.2.2.2.2 + 1) 256 (by omega)
          repeat' (with_reducible refine ok_chk (by omega) ?_)
          refine hn _ ⟨hp.snoc (by omega) (by omega) (by omega), by first | omega | (simp only []; omega), by first | omega | (simp only []; omega), by first | omega | (simp only []; omega), by simp only [List.length_append, List.length_singleton]; omega, by first | omega | (simp only []; omega), by first | omega | (simp only []; omega), by first | omega | (simp only []; omega), by first | omega | (simp only []; omega)⟩ (by first | omega | (simp only []; omega))
        · have hc := of_decide_eq_false hc
          have hle : endX q.2.2.2.1 = q.1 := by rw [endX, hp.last]
          refine hk3 _ ⟨?_, by first | omega | (simp only []; omega), by first | omega | (simp only []; omega), by simp only [hle]; omega⟩
          simp only [hle, hp.last]; exact hp
  · refine ok_chk (by omega) ?_
    refine ok_loop (fun (q : Int × Int × Int × List Pt × Nat) => Pre (-1) q.2.2.2.1 q.1 q.2.1 ∧ 0 ≤ q.2.2.1 ∧ q.2.2.1 ≤ 4 ∧ q.2.2.1 ≤ 1 + dv l 9 4 ∧ (q.2.2.2.1.length : Int) = q.2.2.1 + 1 ∧ q.1 ≤ 49 * q.2.2.1 ∧ 10 * q.2.2.1 ≤ q.1 ∧ 0 ≤ q.2.1 ∧ q.2.1 ≤ 5300) (fun q => (4 - q.2.2.1).toNat) ?_ (by show (4 - (0 : Int)).toNat < F; omega) fun q next hI hn => ?_
    · exact ⟨Pre.one (by omega), by simp, by simp, by first | omega | (simp only []; omega), rfl, by simp, by simp, by first | omega | (simp only []; omega), by first | omega | (simp only []; omega)⟩
    · obtain ⟨hp, h1', h2, h2', h3', h4, h5, h6, h7⟩ := hI
      refine ok_brk (fun hc => ?_) (fun hc => ?_)
      · have hc := of_decide_eq_true hc
        have a1 := D q.2.2.2.2 40 (by omega)
        have a2 := D (q.2.2.2.2 + 1) 101 (by omega)
        have hm := mul_nn (x := q.2.1) (y := dv l (q.2.2.2.2 + 1) 101) (a := 0) (A := 5300) (b := 0) (B := 100) (by omega) (by omega) (by decide) (by decide)
        have hlen : (q.2.2.2.1 ++ [(⟨0, 0⟩ : Pt)]).length = q.2.2.2.1.length + 1 := by simp
        have hm2 : q.2.1 * dv l (q.2.2.2.2 + 1) 101 ≤ q.2.1 * 100 := Int.mul_le_mul_of_nonneg_left (by omega) (by omega)
        generalize q.2.1 * dv l (q.2.2.2.2 + 1) 101 = pr at hm hm2 ⊢
        repeat' (with_reducible refine ok_chk (by omega) ?_)
        refine hn _ ⟨hp.snoc (by omega) (by omega) (by omega), by first | omega | (simp only []; omega), by first | omega | (simp only []; omega), by first | omega | (simp only []; omega), by simp only [List.length_append, List.length_singleton]; omega, by first | omega | (simp only []; omega), by first | omega | (simp only []; omega), by first | omega | (simp only []; omega), by first | omega | (simp only []; omega)⟩ (by first | omega | (simp only []; omega))
      · have hc := of_decide_eq_false hc
        have hle : endX q.2.2.2.1 = q.1 := by rw [endX, hp.last]
        refine hk1 _ ⟨?_, by first | omega | (simp only []; omega), by first | omega | (simp only []; omega), by simp only [hle]; omega, by simp only [hle]; omega⟩
        simp only [hle, hp.last]; exact hp
end Go.Proofs.T

/- Plain facts on valid ships and cells that the laws make. -/
namespace Go.Proofs.T
open Go.AX Hull
theorem loaded_zero {i : Ice} (hi : goodIce i) {v : Int} (hv : 0 ≤ v ∧ v ≤ 250) : loaded i v = 0 := by
  unfold loaded
  rw [if_neg (by simp [checkIce_ok.2 hi]), if_neg]
  simp [within]; omega

theorem asked_zero {s : Ship} (hc : check s = 0) {i : Ice} (hi : goodIce i) {v : Int} (hv : 0 ≤ v ∧ v ≤ 250) : asked s i v = 0 := by
  unfold asked
  rw [if_neg (by simp [hc])]; exact loaded_zero hi hv

theorem speedE_eq {s : Ship} (hc : check s = 0) {i : Ice} (hi : goodIce i) (ch : Bool) : speedE s i ch = (speed s i ch, 0) := by
  rw [speedE, if_neg (by simp [asked_zero hc hi (v := 0) (by omega)])]
theorem m16_eq (F : Nat) (c : Cell) : m16 F c = some (firstI c, lastI c) := rfl

end Go.Proofs.T

/- The reference's functions of the hull layer: what they compute, against the program's. -/
namespace Go.Proofs.T
open Go.AX Hull

section
variable {α β : Type} {post : α → Prop}
end

/-- Ships as light as a law looks at. -/
structure Light (s : Ship) : Prop where
  t : s.Thrust.length ≤ 20
  w : s.Water.length ≤ 20
  i : s.Ice.length ≤ 20

instance (s : Ship) : Decidable (Light s) := decidable_of_iff (s.Thrust.length ≤ 20 ∧ s.Water.length ≤ 20 ∧ s.Ice.length ≤ 20) ⟨fun ⟨a, b, c⟩ => ⟨a, b, c⟩, fun h => ⟨h.t, h.w, h.i⟩⟩

theorem m28_eq {F : Nat} {s : Ship} (h : Light s) : m28 F s = some s := by
  have := h.t; have := h.w; have := h.i
  apply Ok.eq
  exact ok_chk (by omega) (ok_chk (by omega) (ok_chk (by omega) (ok_some rfl)))

/-- The piece of a curve that ends at its point i, at x. -/
def segN (l : List Pt) (i x : Int) : Int := (pt l (i - 1)).Y * ((pt l i).X - (pt l (i - 1)).X) + ((pt l i).Y - (pt l (i - 1)).Y) * (x - (pt l (i - 1)).X)
def segD (l : List Pt) (i : Int) : Int := (pt l i).X - (pt l (i - 1)).X

section
variable {α : Type} {post : α → Prop}
end

end Go.Proofs.T

/- The reference's functions of the hull layer, second part: resistances, speeds, loads, limits. -/
namespace Go.Proofs.T
open Go.AX Hull

theorem makes_down {s : Ship} (hc : check s = 0) {i : Ice} (hi : goodIce i) (ch : Bool) : ∀ u v, (0 : Int) ≤ u → u ≤ v → v ≤ 250 → makes s i ch v = true → makes s i ch u = true :=
  fun _ _ h1 h2 _ h => makes_mono hc hi hi .rfl h1 h2 h

theorem great_eq {so : Int → Bool} {lo hi r : Int} (hd : ∀ u v, lo ≤ u → u ≤ v → v ≤ hi → so v = true → so u = true) (h1 : lo ≤ r) (h2 : r ≤ hi) (hr : so r = true) (hn : ∀ u, r < u → u ≤ hi → so u = false) : so lo = true ∧ great so lo hi = r := by
  have h0 := hd lo r (Int.le_refl _) h1 h2 hr
  obtain ⟨a, b, c⟩ := great_is (by omega) h0 hd
  refine ⟨h0, ?_⟩
  have c1 := (c r h1 h2).1 hr
  rcases Int.lt_or_le r (great so lo hi) with h | h
  · have := (c _ a b).2 (Int.le_refl _)
    rw [hn _ h b] at this; cases this
  · omega

/-- A look from the least number on, for the last one for which something is so. -/
structure Last (so : Int → Bool) (lo d out n : Int) : Prop where
  it : (out = d ∧ ∀ u, lo ≤ u → u < n → so u = false) ∨ (lo ≤ out ∧ out < n ∧ so out = true ∧ ∀ u, out < u → u < n → so u = false)

theorem Last.start {so : Int → Bool} {lo d : Int} : Last so lo d d lo := ⟨.inl ⟨rfl, fun u h1 h2 => by omega⟩⟩
theorem Last.no {so : Int → Bool} {lo d out n : Int} (hl : Last so lo d out n) (h : so n = false) : Last so lo d out (n + 1) := by
  refine ⟨?_⟩
  rcases hl.it with ⟨h1, h2⟩ | ⟨h1, h2, h3, h4⟩
  · exact .inl ⟨h1, fun u a b => by by_cases e : u = n; exact e ▸ h; exact h2 u a (by omega)⟩
  · exact .inr ⟨h1, by omega, h3, fun u a b => by by_cases e : u = n; exact e ▸ h; exact h4 u a (by omega)⟩
theorem Last.greatest {so : Int → Bool} {lo hi d out : Int} (hl : Last so lo d out (hi + 1)) (hle : lo ≤ hi) (hd : ∀ u v, lo ≤ u → u ≤ v → v ≤ hi → so v = true → so u = true) :
    (out = d ∧ Hull.greatest so lo hi = (0, false) ∧ ∀ u, lo ≤ u → u ≤ hi → so u = false) ∨ (Hull.greatest so lo hi = (out, true) ∧ lo ≤ out ∧ out ≤ hi) := by
  unfold Hull.greatest
  rcases hl.it with ⟨h1, h2⟩ | ⟨h1, h2, h3, h4⟩
  · rw [h2 lo (Int.le_refl _) (by omega)]; exact .inl ⟨h1, by simp, fun u h3 h4 => h2 u h3 (by omega)⟩
  · obtain ⟨a, b⟩ := great_eq hd h1 (by omega) h3 (fun u h5 h6 => h4 u h5 (by omega))
    rw [if_pos a, b]; exact .inr ⟨rfl, h1, by omega⟩

instance (s : Span) (n : Int) : Decidable (goodSpan s n) := by unfold goodSpan; infer_instance

/-- Where one ship is first slower than another one. -/
def slowFrom (a b : Ship) : Nat → Int → Int × Int
  | 0, _ => (0, 4)
  | f + 1, n => if speed a (lev n) false < speed b (lev n) false then (n, 0) else slowFrom a b f (n + 1)
def slowerE (a b : Ship) : Int × Int := if check a ≠ 0 then (0, check a) else if check b ≠ 0 then (0, check b) else slowFrom a b 401 0

theorem m51_eq {F : Nat} (hF : 1000 ≤ F) (a b : Ship) : m51 F a b = some (slowerE a b) := by
  apply Ok.eq
  unfold m51
  refine ok_join (fun _ => check a = 0 ∧ check b = 0) (fun _ hab => ?_) fun k hk => ?_
  · obtain ⟨hca, hcb⟩ := hab
    unfold slowerE
    rw [if_neg (by simp [hca]), if_neg (by simp [hcb])]
    refine ok_join (fun _ => slowFrom a b 401 0 = (0, 4)) (fun _ h => ok_some h.symm) fun k hk => ?_
    refine ok_loop (fun n : Int => 0 ≤ n ∧ n ≤ 401 ∧ slowFrom a b 401 0 = slowFrom a b (401 - n).toNat n) (fun n => (401 - n).toNat) ⟨by simp, by simp, rfl⟩ (by show (401 - (0 : Int)).toNat < F; omega) fun n next hI hn => ?_
    obtain ⟨h0, h1, h2⟩ := hI
    refine ok_brk (fun h => ?_) (fun h => hk _ ?_)
    · have h := of_decide_eq_true h
      have hg : goodIce ⟨100, n, 0, 0⟩ := lev_good ⟨h0, by omega⟩
      rw [show (401 - n).toNat = (400 - n).toNat + 1 by omega] at h2
      refine ok_chk hca (ok_chk hg (ok_chk hcb (ok_brk (fun h => ok_some ?_) (fun h => ok_chk (by omega) (hn _ ⟨by omega, by omega, ?_⟩ (by omega))))))
      · have h := of_decide_eq_true h
        exact (h2.trans (if_pos h)).symm
      · have h := of_decide_eq_false h
        rw [show (401 - (n + 1)).toNat = (400 - n).toNat by omega]; exact h2.trans (if_neg h)
    · have h := of_decide_eq_false h
      rw [h2, show (401 - n).toNat = 0 by omega]; rfl
  · unfold slowerE
    refine ok_brk (fun h => ok_some ?_) (fun h => ?_)
    · rw [if_pos (by simpa using h)]
    have hca : check a = 0 := by simpa using h
    rw [if_neg (by simp [hca])]
    refine ok_brk (fun h => ok_some ?_) (fun h => ?_)
    · rw [if_pos (by simpa using h)]
    have hcb : check b = 0 := by simpa using h
    rw [if_neg (by simp [hcb])]
    have := hk () ⟨hca, hcb⟩
    unfold slowerE at this
    rw [if_neg (by simp [hca]), if_neg (by simp [hcb])] at this
    exact this
end Go.Proofs.T

/- The reference's functions of the hull layer, third part: corners, safe speeds, legs, waits. -/
namespace Go.Proofs.T
open Go.AX Hull

def corners (c : Cell) : List Ice :=
  [c.Press.Lo, c.Press.Hi].flatMap fun p => [c.Ridge.Lo, c.Ridge.Hi].flatMap fun r => [c.Thick.Lo, c.Thick.Hi].flatMap fun t => [c.Conc.Lo, c.Conc.Hi].map fun n => ⟨n, t, r, p⟩

end Go.Proofs.T

/- The reference's functions of the hull layer, fourth part: speeds in a cell, waits. -/
namespace Go.Proofs.T
open Go.AX Hull

/-- The least and the greatest speed in a cell. -/
def speedsE (s : Ship) (c : Cell) (ch : Bool) : Span × Int := if met s c ≠ 0 then (⟨0, 0⟩, met s c) else (⟨speed s (lastI c) ch, speed s (firstI c) ch⟩, 0)
def besetE (s : Ship) (c : Cell) (ch : Bool) : Bool × Bool × Int := if met s c ≠ 0 then (false, false, met s c) else (decide (speed s (lastI c) ch < 10), decide (speed s (firstI c) ch < 10), 0)

end Go.Proofs.T

/- Speeds in a cell, beset, beyond: what the program computes. -/
namespace Go.Proofs.T
open Go.AX Hull

/-- Whether the ice bears more than her hull does. -/
def beyondE (s : Ship) (c : Cell) (v : Int) (ch : Bool) : Bool × Bool × Int :=
  if met s c ≠ 0 then (false, false, met s c) else if within v 0 250 = false then (false, false, 6) else (!bears s (lastI c) ch v, !bears s (firstI c) ch v, 0)

end Go.Proofs.T

/- The plain law of HullCells. -/
namespace Go.Proofs.T
open Go.AX Hull

/-- The cell that holds this ice alone. -/
def cellOf (i : Ice) : Cell := ⟨⟨i.Conc, i.Conc⟩, ⟨i.Thick, i.Thick⟩, ⟨i.Ridge, i.Ridge⟩, ⟨i.Press, i.Press⟩⟩
end Go.Proofs.T

/- Better ships: what is built from a ship's points is no worse. -/
namespace Go.Proofs.T
open Go.AX Hull

/-! ### Values of curves over the same numbers -/
theorem seg_le {a b x z1 z2 z1' z2' : Int} (h1 : a ≤ x) (h2 : x ≤ b) (hz1 : z1 ≤ z1') (hz2 : z2 ≤ z2') : z1 * (b - a) + (z2 - z1) * (x - a) ≤ z1' * (b - a) + (z2' - z1') * (x - a) := by
  have e : ∀ u v : Int, u * (b - a) + (v - u) * (x - a) = u * (b - x) + v * (x - a) := fun u v => by
    simp only [Int.mul_sub, Int.sub_mul]; omega
  rw [e, e]
  have := mulR hz1 (c := b - x) (by omega)
  have := mulR hz2 (c := x - a) (by omega)
  omega

theorem vf_le {X X' Z Z' : Nat → Int} {n : Nat} (hX : ∀ i < n, X' i = X i) (hZ : ∀ i < n, Z i ≤ Z' i) {x : Int} : ∀ (f i : Nat), 1 ≤ i → i + f = n → X (i - 1) ≤ x →
    (vf X Z n x f i).2 = (vf X' Z' n x f i).2 ∧ (vf X Z n x f i).1 ≤ (vf X' Z' n x f i).1 := by
  intro f
  induction f with
  | zero => intro i h1 h2 h3; simp only [vf]; exact ⟨trivial, hZ _ (by omega)⟩
  | succ f ih =>
    intro i h1 h2 h3
    simp only [vf]
    rw [hX i (by omega), hX (i - 1) (by omega)]
    by_cases h : x ≤ X i
    · rw [if_pos h, if_pos h]
      exact ⟨rfl, seg_le h3 h (hZ _ (by omega)) (hZ _ (by omega))⟩
    · rw [if_neg h, if_neg h]
      exact ih (i + 1) (by omega) (by omega) (by rw [show i + 1 - 1 = i by omega]; omega)

theorem vf_ext {X X' Z Z' : Nat → Int} {n : Nat} (hX : ∀ i < n, X' i = X i) (hZ : ∀ i < n, Z' i = Z i) {x : Int} (hx : x ≤ X (n - 1)) : ∀ (f i : Nat), 1 ≤ i → i < n → i + f = n → vf X Z n x f i = vf X' Z' (n + 1) x (f + 1) i := by
  intro f
  induction f with
  | zero => intro i h1 h2 h3; omega
  | succ f ih =>
    intro i h1 h2 h3
    rw [vf, vf]
    rw [hX i h2, hX (i - 1) (by omega), hZ i h2, hZ (i - 1) (by omega)]
    by_cases h : x ≤ X i
    · rw [if_pos h, if_pos h]
    · rw [if_neg h, if_neg h]
      by_cases e : i + 1 < n
      · exact ih (i + 1) (by omega) e (by omega)
      · have : i = n - 1 := by omega
        subst this; exact absurd hx h

/-- The same places, no lower. -/
structure Over (l m : List Pt) : Prop where
  len : m.length = l.length
  X : ∀ j : Nat, j < l.length → (pt m j).X = (pt l j).X
  Y : ∀ j : Nat, j < l.length → (pt l j).Y ≤ (pt m j).Y

theorem value_le {l m : List Pt} (h : Over l m) (hl : 1 ≤ l.length) {x : Int} (hx : (pt l ((0 : Nat) : Int)).X ≤ x) : (value l x).2 = (value m x).2 ∧ (value l x).1 ≤ (value m x).1 := by
  unfold value
  rw [valFrom_vf (l := l) _ _ (Nat.le_refl _) (by omega), valFrom_vf (l := m) _ _ (Nat.le_refl _) (by rw [h.len]; omega), h.len]
  exact vf_le (X := fun i => (pt l (i : Int)).X) (fun i hi => h.X i hi) (fun i hi => h.Y i hi) (l.length - 1) 1 (Nat.le_refl _) (by omega) hx

theorem value_ext {l : List Pt} {p : Pt} (hl : 2 ≤ l.length) {x : Int} (hx : x ≤ endX l) : value (l ++ [p]) x = value l x := by
  unfold value
  rw [valFrom_vf (l := l) _ _ (Nat.le_refl _) (by omega), valFrom_vf (l := l ++ [p]) _ _ (Nat.le_refl _) (by simp; omega)]
  have e1 : (l ++ [p]).length = l.length + 1 := by simp
  rw [e1, show l.length + 1 - 1 = (l.length - 1) + 1 by omega]
  refine (vf_ext (n := l.length) (fun i hi => ?_) (fun i hi => ?_) ?_ (l.length - 1) 1 (Nat.le_refl _) (by omega) (by omega)).symm
  · rw [pt_old (by omega) (by omega)]
  · rw [pt_old (by omega) (by omega)]
  · unfold endX at hx
    rw [show ((l.length - 1 : Nat) : Int) = (l.length : Int) - 1 by omega]
    exact hx

/-! ### Steady curves, point by point -/
theorem pre_of {w : Int} {l : List Pt} (h : steady l w = true) : Pre w l (endX l) (pt l ((l.length : Int) - 1)).Y ∧ 2 ≤ l.length ∧ l.length ≤ 8 := by
  have hc := steady_curve h
  have hlen := (curve_lt hc).2
  have hx0 : (pt l 0).X = 0 := by
    have hc' := hc
    simp only [curve, Bool.and_eq_true, beq_iff_eq] at hc'
    exact hc'.1.2
  refine ⟨⟨by omega, hx0, fun i hi => curve_bd hc i (by omega) (by omega), fun i h1 hi => ⟨?_, steady_at h h1 hi⟩, rfl⟩, hlen⟩
  have := curve_up hc h1 hi
  rw [show ((i - 1 : Nat) : Int) = (i : Int) - 1 by omega] at this
  exact this

/-! ### Points written one after the other -/
structure Done (g : Nat → Pt → Pt) (l : List Pt) (i : Int) (m : List Pt) : Prop where
  len : m.length = l.length
  at_ : ∀ j : Nat, j < l.length → pt m j = if (j : Int) < i then g j (pt l j) else pt l j

theorem Done.start {g : Nat → Pt → Pt} {l : List Pt} : Done g l 0 l := ⟨rfl, fun j _ => by rw [if_neg (by omega)]⟩

theorem pt_set {m : List Pt} {i j : Nat} {p : Pt} (hi : i < m.length) : pt (m.set i p) (j : Int) = if i = j then p else pt m j := by
  simp only [pt, Int.toNat_natCast, List.getD_eq_getElem?_getD, List.getElem?_set, hi, if_true]
  by_cases e : i = j
  · simp [e]
  · simp [e]

theorem Done.here {g : Nat → Pt → Pt} {l m : List Pt} {i : Int} (h : Done g l i m) (h0 : 0 ≤ i) (h1 : i < l.length) : pt m i = pt l i := by
  have := h.at_ i.toNat (by omega)
  rw [Int.toNat_of_nonneg h0, if_neg (by omega)] at this
  exact this

theorem Done.step {g : Nat → Pt → Pt} {l m : List Pt} {i : Int} (h : Done g l i m) (h0 : 0 ≤ i) (h1 : i < l.length) : Done g l (i + 1) (m.set i.toNat (g i.toNat (pt l i))) := by
  refine ⟨by rw [List.length_set]; exact h.len, fun j hj => ?_⟩
  rw [pt_set (by rw [h.len]; omega)]
  by_cases e : i.toNat = j
  · subst e
    rw [if_pos rfl, if_pos (by omega), Int.toNat_of_nonneg h0]
  · rw [if_neg e, h.at_ j hj]
    by_cases c : (j : Int) < i
    · rw [if_pos c, if_pos (by omega)]
    · rw [if_neg c, if_neg (by omega)]

theorem Done.all {g : Nat → Pt → Pt} {l m : List Pt} {i : Int} (h : Done g l i m) (hi : (l.length : Int) ≤ i) : ∀ j : Nat, j < l.length → pt m j = g j (pt l j) := fun j hj => by
  rw [h.at_ j hj, if_pos (by omega)]

/-- A curve whose points are moved up or down alone. -/
theorem steady_map {w : Int} {l m : List Pt} (h : steady l w = true) (hlen : m.length = l.length) (hX : ∀ j : Nat, j < l.length → (pt m j).X = (pt l j).X) (hY : ∀ j : Nat, j < l.length → 0 ≤ (pt m j).Y ∧ (pt m j).Y ≤ 20000)
    (hS : ∀ j : Nat, 1 ≤ j → j < l.length → 0 ≤ ((pt l j).Y - (pt l ((j - 1 : Nat) : Int)).Y) * w → 0 ≤ ((pt m j).Y - (pt m ((j - 1 : Nat) : Int)).Y) * w) : Pre w m (endX m) (pt m ((m.length : Int) - 1)).Y ∧ endX m = endX l := by
  obtain ⟨p, l1, l2⟩ := pre_of h
  have hXi : ∀ j : Int, 0 ≤ j → j < l.length → (pt m j).X = (pt l j).X := fun j h0 h1 => by
    have := hX j.toNat (by omega); rw [Int.toNat_of_nonneg h0] at this; exact this
  refine ⟨⟨by omega, by rw [hXi 0 (by omega) (by omega)]; exact p.x0, fun i hi => ?_, fun i h1 hi => ⟨?_, ?_⟩, rfl⟩, ?_⟩
  · rw [hlen] at hi
    have b := p.bd i hi
    rw [hX i hi]
    have := hY i hi
    omega
  · rw [hlen] at hi
    rw [hXi _ (by omega) (by omega), hXi _ (by omega) (by omega)]
    exact (p.st i h1 hi).1
  · rw [hlen] at hi
    have := hS i h1 hi (by rw [show ((i - 1 : Nat) : Int) = (i : Int) - 1 by omega]; exact (p.st i h1 hi).2)
    rw [show ((i - 1 : Nat) : Int) = (i : Int) - 1 by omega] at this
    exact this
  · unfold endX; rw [hlen]; exact hXi _ (by omega) (by omega)

/-! ### A ship that is no worse -/
structure Better (b a : Ship) : Prop where
  ok : check b = 0
  reach : endX a.Thrust ≤ endX b.Thrust
  thrust : ∀ v, 0 ≤ v → v ≤ endX a.Thrust → thrust a v ≤ thrust b v
  water : ∀ v, 0 ≤ v → (value b.Water v).1 * (value a.Water v).2 ≤ (value a.Water v).1 * (value b.Water v).2
  ice : ∀ v, 0 ≤ v → (value b.Ice v).1 * (value a.Ice v).2 ≤ (value a.Ice v).1 * (value b.Ice v).2
  slow : b.Slow ≤ a.Slow
  brash : b.Brash ≤ a.Brash
  ridge : b.Ridge ≤ a.Ridge
  press : b.Press ≤ a.Press

theorem resG_le {w wd n d c A sh R rd P w' wd' n' d' A' sh' R' P' : Int} (hwd : 0 < wd) (hd : 0 < d) (hwd' : 0 < wd') (hd' : 0 < d') (hn : 0 ≤ n) (hn' : 0 ≤ n') (hc : 0 ≤ c) (hA : 0 ≤ A) (hsh : 0 ≤ sh) (hR : 0 ≤ R) (hrd : 0 ≤ rd)
    (h1 : w * wd' ≤ w' * wd) (h2 : n * d' ≤ n' * d) (h4 : A ≤ A') (h5 : sh ≤ sh') (h6 : R ≤ R') (h7 : P ≤ P') :
    resG w wd n d c A sh R rd P ≤ resG w' wd' n' d' c A' sh' R' rd P' := by
  have e : ∀ a b c d e f g i : Int, resG a b c d e f g i rd P = resG a b c d e f g rd i P := fun a b c d e f g i => by
    unfold resG; rw [Int.mul_comm i rd]
  have e' : ∀ a b c d e f g i : Int, resG a b c d e f g i rd P' = resG a b c d e f g rd i P' := fun a b c d e f g i => by
    unfold resG; rw [Int.mul_comm i rd]
  rw [e, e']
  exact resG_mono hwd hd hwd' hd' hn hn' hc hA hsh hrd hR h1 h2 (Int.le_refl _) h4 h5 h6 h7

theorem Better.resistance {b a : Ship} (h : Better b a) (ha : check a = 0) {i : Ice} (hi : goodIce i) {v : Int} (hv : 0 ≤ v) (ch : Bool) : resistance b i ch v ≤ resistance a i ch v := by
  rw [resistance_G, resistance_G]
  obtain ⟨_, _, hsl, hbr, hri, hpr⟩ := check_bd h.ok
  obtain ⟨_, _, hsl', hbr', hri', hpr'⟩ := check_bd ha
  obtain ⟨i1, i2, i3, i4⟩ := goodIce_bd hi
  have w1 := value_bd (check_curveWater h.ok) hv
  have w2 := value_bd (check_curveWater ha) hv
  have n1 := value_bd (check_curveIce h.ok) i2.1
  have n2 := value_bd (check_curveIce ha) i2.1
  have hsu := Int.mul_nonneg hsl.1 hv
  have hm := mulR h.slow hv
  have hp := mulR h.press i4.1
  exact resG_le (by omega) (by omega) (by omega) (by omega) (by omega) (by omega) i1.1 (by omega) (by split <;> omega) hri.1 (by split <;> omega)
    (h.water v hv) (h.ice i.Thick i2.1) (by omega) (by split; exact h.brash; exact Int.le_refl _) h.ridge hp

theorem Better.makes {b a : Ship} (h : Better b a) (ha : check a = 0) {i : Ice} (hi : goodIce i) {v : Int} (hv : 0 ≤ v) {ch : Bool} (hm : makes a i ch v = true) : makes b i ch v = true := by
  have hr := h.resistance ha hi hv ch
  have he := h.reach
  unfold Hull.makes at hm ⊢
  simp only [Bool.and_eq_true, decide_eq_true_eq] at hm ⊢
  have := h.thrust v hv hm.1
  omega

theorem Better.speed {b a : Ship} (h : Better b a) (ha : check a = 0) {i : Ice} (hi : goodIce i) (ch : Bool) : speed a i ch ≤ speed b i ch := by
  unfold Hull.speed greatest
  by_cases h0 : Hull.makes a i ch 0 = true
  · have h1 := h.makes ha hi (Int.le_refl 0) h0
    rw [if_pos h0, if_pos h1]
    exact great_le (by decide) h0 (makes_down ha hi ch) (makes_down h.ok hi ch) fun v h2 h3 hm => h.makes ha hi h2 hm
  · rw [if_neg h0]
    by_cases h1 : Hull.makes b i ch 0 = true
    · rw [if_pos h1]; exact (great_is (by decide) h1 (makes_down h.ok hi ch)).1
    · rw [if_neg h1]; exact Int.le_refl _

/-! ### Where one ship is first slower -/
theorem slow_none {a b : Ship} : ∀ (f : Nat) (n : Int), (∀ k, n ≤ k → k < n + f → ¬ speed a (lev k) false < speed b (lev k) false) → slowFrom a b f n = (0, 4)
  | 0, _, _ => rfl
  | f + 1, n, h => by
    rw [slowFrom, if_neg (h n (Int.le_refl _) (by omega))]
    exact slow_none f (n + 1) fun k h1 h2 => h k (by omega) (by omega)

theorem slow_is {a b : Ship} : ∀ (f : Nat) (n : Int), (slowFrom a b f n = (0, 4) ∧ ∀ k, n ≤ k → k < n + f → ¬ speed a (lev k) false < speed b (lev k) false) ∨
    ∃ t, n ≤ t ∧ t < n + f ∧ slowFrom a b f n = (t, 0) ∧ speed a (lev t) false < speed b (lev t) false ∧ ∀ k, n ≤ k → k < t → ¬ speed a (lev k) false < speed b (lev k) false
  | 0, n => .inl ⟨rfl, fun k h1 h2 => by omega⟩
  | f + 1, n => by
    by_cases h : Hull.speed a (lev n) false < Hull.speed b (lev n) false
    · exact .inr ⟨n, Int.le_refl _, by omega, by rw [slowFrom, if_pos h], h, fun k h1 h2 => by omega⟩
    · rw [slowFrom, if_neg h]
      rcases slow_is f (n + 1) with ⟨h1, h2⟩ | ⟨t, h1, h2, h3, h4, h5⟩
      · refine .inl ⟨h1, fun k h3 h4 => ?_⟩
        by_cases e : k = n
        · subst e; exact h
        · exact h2 k (by omega) (by omega)
      · refine .inr ⟨t, by omega, by omega, h3, h4, fun k h6 h7 => ?_⟩
        by_cases e : k = n
        · subst e; exact h
        · exact h5 k (by omega) h7
end Go.Proofs.T

/- The plain law of HullBetter: Made's thrust is far below the most that is allowed. -/
namespace Go.Proofs.T
open Go.AX Hull

theorem m15_ok2 {F : Nat} (hF : 100 ≤ F) {l : List Int} (h8 : Bytes l) : Ok (fun s => check s = 0 ∧ (pt s.Thrust 0).Y ≤ 5300) (m15 F l) := by
  have D := fun k n h => dvb h8 k (n := n) h
  unfold m15
  have d0 := D 0 6 (by omega); have d1 := D 1 256 (by omega); have d2 := D 2 256 (by omega); have d3 := D 3 256 (by omega); have d4 := D 4 21 (by omega); have d5 := D 5 101 (by omega)
  have d6 := D 6 240 (by omega); have d7 := D 7 256 (by omega); have d8 := D 8 256 (by omega); have d9 := D 9 4 (by omega)
  repeat' (with_reducible refine ok_chk (by omega) ?_)
  refine ok_join (fun (q : List Pt × Nat) => Pre (-1) q.1 (endX q.1) (pt q.1 ((q.1.length : Int) - 1)).Y ∧ 2 ≤ q.1.length ∧ q.1.length ≤ 8 ∧ 10 ≤ endX q.1 ∧ endX q.1 ≤ 250 ∧ (pt q.1 0).Y ≤ 5300) (fun x1 h1 => ?_) fun k1 hk1 => ?_
  · refine ok_join (fun (q : List Pt × Nat) => Pre 1 q.1 (endX q.1) (pt q.1 ((q.1.length : Int) - 1)).Y ∧ 2 ≤ q.1.length ∧ q.1.length ≤ 8 ∧ endX q.1 ≤ 250) (fun x3 h3 => ?_) fun k3 hk3 => ?_
    · refine ok_join (fun (q : Int × List Pt × Nat) => ∃ x, Pre 1 q.2.1 x q.1 ∧ (pt q.2.1 0).Y = 0 ∧ q.2.1.length ≤ 4 ∧ x ≤ 390 ∧ 0 ≤ q.1 ∧ q.1 ≤ 3000) (fun x5 h5 => ?_) fun k5 hk5 => ?_
      · obtain ⟨x, hp, h0, hl, hx, hy⟩ := h5
        have e := D x5.2.2 256 (by omega)
        have hl1 := hp.len
        repeat' (with_reducible refine ok_chk (by omega) ?_)
        refine ok_some ?_
        have hq := (hp.snoc (x' := 400) (y' := x5.1 + 4 * dv l x5.2.2 256) (by omega) (by omega) (by omega)).steady (by simp; omega)
        obtain ⟨p1, l1, l2, e1, e2, y1⟩ := h1
        obtain ⟨p3, l3, l4, e3⟩ := h3
        have s1 := p1.steady ⟨l1, l2⟩
        have s3 := p3.steady ⟨l3, l4⟩
        have r1 : rule1 (⟨1 + dv l 0 6, 100 + 390 * dv l 1 256, 10 + 7 * dv l 2 256, 10 + 1900 * dv l 3 256, x1.1, x3.1, x5.2.1 ++ [⟨400, x5.1 + 4 * dv l x5.2.2 256⟩], dv l 4 21, dv l 5 101, 2 * dv l 6 240, 4 * dv l 7 256⟩ : Ship) = true := by
          simp [rule1, within]; omega
        have r2 : rule2 (⟨1 + dv l 0 6, 100 + 390 * dv l 1 256, 10 + 7 * dv l 2 256, 10 + 1900 * dv l 3 256, x1.1, x3.1, x5.2.1 ++ [⟨400, x5.1 + 4 * dv l x5.2.2 256⟩], dv l 4 21, dv l 5 101, 2 * dv l 6 240, 4 * dv l 7 256⟩ : Ship) = true := by
          simp [rule2, within]; omega
        have r3 : rule3 (⟨1 + dv l 0 6, 100 + 390 * dv l 1 256, 10 + 7 * dv l 2 256, 10 + 1900 * dv l 3 256, x1.1, x3.1, x5.2.1 ++ [⟨400, x5.1 + 4 * dv l x5.2.2 256⟩], dv l 4 21, dv l 5 101, 2 * dv l 6 240, 4 * dv l 7 256⟩ : Ship) = true := by
          simp [rule3, within]; omega
        have r4 : rule4 (⟨1 + dv l 0 6, 100 + 390 * dv l 1 256, 10 + 7 * dv l 2 256, 10 + 1900 * dv l 3 256, x1.1, x3.1, x5.2.1 ++ [⟨400, x5.1 + 4 * dv l x5.2.2 256⟩], dv l 4 21, dv l 5 101, 2 * dv l 6 240, 4 * dv l 7 256⟩ : Ship) = true := by
          simp [rule4, within, s1.1]; omega
        have r5 : rule5 (⟨1 + dv l 0 6, 100 + 390 * dv l 1 256, 10 + 7 * dv l 2 256, 10 + 1900 * dv l 3 256, x1.1, x3.1, x5.2.1 ++ [⟨400, x5.1 + 4 * dv l x5.2.2 256⟩], dv l 4 21, dv l 5 101, 2 * dv l 6 240, 4 * dv l 7 256⟩ : Ship) = true := by
          simp [rule5, s3.1]; omega
        have r6 : rule6 (⟨1 + dv l 0 6, 100 + 390 * dv l 1 256, 10 + 7 * dv l 2 256, 10 + 1900 * dv l 3 256, x1.1, x3.1, x5.2.1 ++ [⟨400, x5.1 + 4 * dv l x5.2.2 256⟩], dv l 4 21, dv l 5 101, 2 * dv l 6 240, 4 * dv l 7 256⟩ : Ship) = true := by
          simp only [rule6, hq.1, hq.2]; rw [pt_old (by omega) (by omega), h0]; rfl
        exact ⟨by simp only [check, r1, r2, r3, r4, r5, r6]; rfl, y1⟩
      · have e9 := D x3.2 4 (by omega)
        refine ok_loop (fun (q : Int × Int × Int × List Pt × Nat) => Pre 1 q.2.2.2.1 q.1 q.2.1 ∧ (pt q.2.2.2.1 0).Y = 0 ∧ 0 ≤ q.2.2.1 ∧ q.2.2.1 ≤ 3 ∧ (q.2.2.2.1.length : Int) = q.2.2.1 + 1 ∧ q.1 ≤ 90 * q.2.2.1 ∧ 0 ≤ q.1 ∧ 0 ≤ q.2.1 ∧ q.2.1 ≤ 765 * q.2.2.1) (fun q => (3 - q.2.2.1).toNat) ?_ (by simp; omega) fun q next hI hn => ?_
        · exact ⟨Pre.one (by omega), rfl, by simp, by simp, rfl, by simp, by simp, by simp, by simp⟩
        · obtain ⟨hp, h0, h1', h2, h3', h4, h5, h6, h7⟩ := hI
          refine ok_brk (fun hc => ?_) (fun hc => ?_)
          · have hc := of_decide_eq_true hc
            have a1 := D q.2.2.2.2 90 (by omega)
            have a2 := D (q.2.2.2.2 + 1) 256 (by omega)
            repeat' (with_reducible refine ok_chk (by omega) ?_)
            refine hn _ ⟨hp.snoc (by omega) (by omega) (by omega), by simp only []; rw [pt_old (by omega) (by omega)]; exact h0, by first | omega | (simp only []; omega), by first | omega | (simp only []; omega), by simp only [List.length_append, List.length_singleton]; omega, by first | omega | (simp only []; omega), by first | omega | (simp only []; omega), by first | omega | (simp only []; omega), by first | omega | (simp only []; omega)⟩ (by first | omega | (simp only []; omega))
          · have hc := of_decide_eq_false hc
            exact hk5 _ ⟨q.1, hp, h0, by first | omega | (simp only []; omega), by omega, by first | omega | (simp only []; omega), by first | omega | (simp only []; omega)⟩
    · have e9 := D (x1.2 + 1) 3 (by omega)
      have e8 := D x1.2 50 (by omega)
      refine ok_chk (by omega) ?_
      refine ok_loop (fun (q : Int × Int × Int × List Pt × Nat) => Pre 1 q.2.2.2.1 q.1 q.2.1 ∧ 0 ≤ q.2.2.1 ∧ q.2.2.1 ≤ 3 ∧ q.2.2.1 ≤ 1 + dv l (x1.2 + 1) 3 ∧ (q.2.2.2.1.length : Int) = q.2.2.1 + 1 ∧ q.1 ≤ 80 * q.2.2.1 ∧ 0 ≤ q.1 ∧ 0 ≤ q.2.1 ∧ q.2.1 ≤ 50 + 765 * q.2.2.1) (fun q => (3 - q.2.2.1).toNat) ?_ (by simp; omega) fun q next hI hn => ?_
      · exact ⟨Pre.one (by omega), by simp, by simp, by first | omega | (simp only []; omega), rfl, by simp, by simp, by first | omega | (simp only []; omega), by first | omega | (simp only []; omega)⟩
      · obtain ⟨hp, h1', h2, h2', h3', h4, h5, h6, h7⟩ := hI
        refine ok_brk (fun hc => ?_) (fun hc => ?_)
        · have hc := of_decide_eq_true hc
          have a1 := D q.2.2.2.2 80 (by omega)
          have a2 := D (q.2.2.2.2 + 1) 256 (by omega)
          repeat' (with_reducible refine ok_chk (by omega) ?_)
          refine hn _ ⟨hp.snoc (by omega) (by omega) (by omega), by first | omega | (simp only []; omega), by first | omega | (simp only []; omega), by first | omega | (simp only []; omega), by simp only [List.length_append, List.length_singleton]; omega, by first | omega | (simp only []; omega), by first | omega | (simp only []; omega), by first | omega | (simp only []; omega), by first | omega | (simp only []; omega)⟩ (by first | omega | (simp only []; omega))
        · have hc := of_decide_eq_false hc
          have hle : endX q.2.2.2.1 = q.1 := by rw [endX, hp.last]
          refine hk3 _ ⟨?_, by first | omega | (simp only []; omega), by first | omega | (simp only []; omega), by simp only [hle]; omega⟩
          simp only [hle, hp.last]; exact hp
  · refine ok_chk (by omega) ?_
    refine ok_loop (fun (q : Int × Int × Int × List Pt × Nat) => Pre (-1) q.2.2.2.1 q.1 q.2.1 ∧ 0 ≤ q.2.2.1 ∧ q.2.2.1 ≤ 4 ∧ q.2.2.1 ≤ 1 + dv l 9 4 ∧ (q.2.2.2.1.length : Int) = q.2.2.1 + 1 ∧ q.1 ≤ 49 * q.2.2.1 ∧ 10 * q.2.2.1 ≤ q.1 ∧ 0 ≤ q.2.1 ∧ q.2.1 ≤ 5300 ∧ (pt q.2.2.2.1 0).Y ≤ 5300) (fun q => (4 - q.2.2.1).toNat) ?_ (by show (4 - (0 : Int)).toNat < F; omega) fun q next hI hn => ?_
    · exact ⟨Pre.one (by omega), by simp, by simp, by first | omega | (simp only []; omega), rfl, by simp, by simp, by first | omega | (simp only []; omega), by first | omega | (simp only []; omega), by show 200 + 20 * dv l 8 256 ≤ 5300; omega⟩
    · obtain ⟨hp, h1', h2, h2', h3', h4, h5, h6, h7, h8⟩ := hI
      refine ok_brk (fun hc => ?_) (fun hc => ?_)
      · have hc := of_decide_eq_true hc
        have a1 := D q.2.2.2.2 40 (by omega)
        have a2 := D (q.2.2.2.2 + 1) 101 (by omega)
        have hm := mul_nn (x := q.2.1) (y := dv l (q.2.2.2.2 + 1) 101) (a := 0) (A := 5300) (b := 0) (B := 100) (by omega) (by omega) (by decide) (by decide)
        have hlen : (q.2.2.2.1 ++ [(⟨0, 0⟩ : Pt)]).length = q.2.2.2.1.length + 1 := by simp
        have hm2 : q.2.1 * dv l (q.2.2.2.2 + 1) 101 ≤ q.2.1 * 100 := Int.mul_le_mul_of_nonneg_left (by omega) (by omega)
        generalize q.2.1 * dv l (q.2.2.2.2 + 1) 101 = pr at hm hm2 ⊢
        repeat' (with_reducible refine ok_chk (by omega) ?_)
        refine hn _ ⟨hp.snoc (by omega) (by omega) (by omega), by first | omega | (simp only []; omega), by first | omega | (simp only []; omega), by first | omega | (simp only []; omega), by simp only [List.length_append, List.length_singleton]; omega, by first | omega | (simp only []; omega), by first | omega | (simp only []; omega), by first | omega | (simp only []; omega), by first | omega | (simp only []; omega), by simp only []; rw [pt_old (by omega) (by omega)]; exact h8⟩ (by first | omega | (simp only []; omega))
      · have hc := of_decide_eq_false hc
        have hle : endX q.2.2.2.1 = q.1 := by rw [endX, hp.last]
        refine hk1 _ ⟨?_, by first | omega | (simp only []; omega), by first | omega | (simp only []; omega), by simp only [hle]; omega, by simp only [hle]; omega, h8⟩
        simp only [hle, hp.last]; exact hp

end Go.Proofs.T

/- The plain law of HullBetter, third part. -/
namespace Go.Proofs.T
open Go.AX Hull

theorem down_all {l : List Pt} {x y : Int} (h : Pre (-1) l x y) : ∀ j : Nat, j < l.length → (pt l (j : Int)).Y ≤ (pt l 0).Y
  | 0, _ => Int.le_refl _
  | j + 1, hj => by
    have h1 := down_all h j (by omega)
    have h2 := (h.st (j + 1) (by omega) hj).2
    rw [show (((j + 1 : Nat) : Int) - 1) = (j : Int) by omega] at h2
    omega

theorem light_of {s : Ship} (hc : check s = 0) : Light s := by
  have h1 := steady_len (check_steadyThrust hc)
  have h2 := steady_len (check_steadyWater hc)
  have h3 := steady_len (check_steadyIce hc)
  exact ⟨by omega, by omega, by omega⟩

def gT (n : Int) (j : Nat) (p : Pt) : Pt := ⟨p.X, p.Y + 50 * (n - j)⟩
def gW (_ : Nat) (p : Pt) : Pt := ⟨p.X, p.Y * 3 / 4⟩
def gI (_ : Nat) (p : Pt) : Pt := ⟨p.X, p.Y / 2⟩

structure ThrustOK (a : Ship) (T : List Pt) : Prop where
  pre : Pre (-1) T (endX T) (pt T ((T.length : Int) - 1)).Y
  len : 2 ≤ T.length ∧ T.length ≤ 8
  reach : endX a.Thrust ≤ endX T ∧ endX T ≤ 250
  more : ∀ v, 0 ≤ v → v ≤ endX a.Thrust → (value a.Thrust v).1 / (value a.Thrust v).2 ≤ (value T v).1 / (value T v).2

theorem check_reach {s : Ship} (hc : check s = 0) : 10 ≤ endX s.Thrust ∧ endX s.Thrust ≤ 250 := by
  have := (check_rules hc).2.2.2.1
  simp only [rule4, within, Bool.and_eq_true, decide_eq_true_eq] at this
  omega

theorem thrust_ok {a : Ship} (ha : check a = 0) (hy : (pt a.Thrust 0).Y ≤ 5300) {T : List Pt} (hl : T.length = a.Thrust.length) (hT : ∀ j : Nat, j < a.Thrust.length → pt T j = gT a.Thrust.length j (pt a.Thrust j)) :
    ThrustOK a T ∧ endX T = endX a.Thrust := by
  have hs := check_steadyThrust ha
  obtain ⟨p, l1, l2⟩ := pre_of hs
  have hX : ∀ j : Nat, j < a.Thrust.length → (pt T j).X = (pt a.Thrust j).X := fun j hj => by rw [hT j hj]; rfl
  have hYe : ∀ j : Nat, j < a.Thrust.length → (pt T j).Y = (pt a.Thrust j).Y + 50 * ((a.Thrust.length : Int) - j) := fun j hj => by rw [hT j hj]; rfl
  obtain ⟨q, e⟩ := steady_map hs hl hX (fun j hj => by
    rw [hYe j hj]
    have := down_all p j hj
    have := (p.bd j hj).2.2.1
    omega) (fun j h1 hj h => by
    rw [hYe j hj, hYe (j - 1) (by omega)]
    omega)
  have hr := check_reach ha
  refine ⟨⟨q, by omega, by omega, fun v h0 h1 => ?_⟩, e⟩
  have ov : Over a.Thrust T := ⟨hl, hX, fun j hj => by rw [hYe j hj]; omega⟩
  obtain ⟨d1, d2⟩ := value_le ov (by omega) (x := v) (by have := p.x0; simp only [Int.natCast_zero]; omega)
  obtain ⟨b1, _⟩ := value_bd (check_curveThrust ha) h0
  rw [← d1]
  exact Int.ediv_le_ediv (by omega) d2

theorem thrust_longer {a : Ship} {T : List Pt} (h : ThrustOK a T) (e : endX T = endX a.Thrust) (h8 : T.length < 8) (hX : endX T < 240) {d : Int} (hd : 0 ≤ d ∧ d ≤ 9) :
    ThrustOK a (T ++ [⟨endX T + 1 + d, (pt T ((T.length : Int) - 1)).Y⟩]) := by
  have hy := h.pre.bd (T.length - 1) (by have := h.len; omega)
  rw [show ((T.length - 1 : Nat) : Int) = (T.length : Int) - 1 by have := h.len; omega] at hy
  have q := h.pre.snoc (x' := endX T + 1 + d) (y' := (pt T ((T.length : Int) - 1)).Y) (by omega) (by omega) (by omega)
  have hl := h.len
  have ex : endX (T ++ [(⟨endX T + 1 + d, (pt T ((T.length : Int) - 1)).Y⟩ : Pt)]) = endX T + 1 + d := by rw [endX, q.last]
  refine ⟨?_, by simp; omega, by rw [ex]; omega, fun v h0 h1 => ?_⟩
  · rw [ex, q.last]; exact q
  · rw [value_ext (by omega) (by omega)]
    exact h.more v h0 h1

structure LessOK (l m : List Pt) : Prop where
  pre : Pre 1 m (endX m) (pt m ((m.length : Int) - 1)).Y
  len : 2 ≤ m.length ∧ m.length ≤ 8
  reach : endX m = endX l
  zero : (pt l 0).Y = 0 → (pt m 0).Y = 0
  less : ∀ v, 0 ≤ v → (value m v).1 * (value l v).2 ≤ (value l v).1 * (value m v).2

theorem less_ok {l m : List Pt} (hs : steady l 1 = true) (hl : m.length = l.length) {f : Int → Int} (hf : ∀ y, 0 ≤ y → 0 ≤ f y ∧ f y ≤ y) (hm : ∀ x y, 0 ≤ x → x ≤ y → f x ≤ f y) (h : ∀ j : Nat, j < l.length → pt m j = ⟨(pt l j).X, f (pt l j).Y⟩) : LessOK l m := by
  obtain ⟨p, l1, l2⟩ := pre_of hs
  have hX : ∀ j : Nat, j < l.length → (pt m j).X = (pt l j).X := fun j hj => by rw [h j hj]
  have hY : ∀ j : Nat, j < l.length → (pt m j).Y = f (pt l j).Y := fun j hj => by rw [h j hj]
  obtain ⟨q, e⟩ := steady_map hs hl hX (fun j hj => by
    rw [hY j hj]
    have := (p.bd j hj).2.2
    have := hf _ this.1
    omega) (fun j h1 hj h' => by
    rw [hY j hj, hY (j - 1) (by omega)]
    have := hm (pt l ((j - 1 : Nat) : Int)).Y (pt l j).Y (p.bd (j - 1) (by omega)).2.2.1 (by omega)
    omega)
  refine ⟨q, by omega, e, fun h0 => ?_, fun v h0 => ?_⟩
  · have h00 := hY 0 (by omega)
    rw [show ((0 : Nat) : Int) = 0 from rfl] at h00
    rw [h00, h0]
    have := hf 0 (Int.le_refl _)
    omega
  · have ov : Over m l := ⟨hl.symm, fun j hj => (hX j (by omega)).symm, fun j hj => by
      rw [hY j (by omega)]
      exact (hf _ (p.bd j (by omega)).2.2.1).2⟩
    obtain ⟨d1, d2⟩ := value_le ov (by omega) (x := v) (by have := q.x0; simp only [Int.natCast_zero]; omega)
    obtain ⟨b1, _⟩ := value_bd (steady_curve hs) h0
    rw [d1]
    exact mulR d2 (by omega)

theorem ediv_bd {a b : Int} (ha : 0 ≤ a) (hb : 0 < b) : 0 ≤ a / b ∧ a / b ≤ a := ⟨Int.ediv_nonneg ha (by omega), Int.ediv_le_self b ha⟩

theorem better_ok {a : Ship} (ha : check a = 0) {T W I : List Pt} (hT : ThrustOK a T) (hW : LessOK a.Water W) (hI : LessOK a.Ice I) {s b r p : Int} (hs : 0 ≤ s ∧ s ≤ a.Slow) (hb : 0 ≤ b ∧ b ≤ a.Brash) (hr : 0 ≤ r ∧ r ≤ a.Ridge) (hp : 0 ≤ p ∧ p ≤ a.Press) :
    Better ⟨a.Class, a.Power, a.Draught, a.Tonnes, T, W, I, s, b, r, p⟩ a := by
  obtain ⟨a1, a2, _, a4, a5, a6⟩ := check_rules ha
  obtain ⟨_, _, b3, b4, b5, b6⟩ := check_bd ha
  have hx := check_reach ha
  have t := hT.pre.steady hT.len
  have w := hW.pre.steady hW.len
  have i := hI.pre.steady hI.len
  have r3 : rule3 (⟨a.Class, a.Power, a.Draught, a.Tonnes, T, W, I, s, b, r, p⟩ : Ship) = true := by simp [rule3, within]; omega
  have r4 : rule4 (⟨a.Class, a.Power, a.Draught, a.Tonnes, T, W, I, s, b, r, p⟩ : Ship) = true := by have := hT.reach; simp [rule4, within, t.1]; omega
  have r5 : rule5 (⟨a.Class, a.Power, a.Draught, a.Tonnes, T, W, I, s, b, r, p⟩ : Ship) = true := by
    simp only [rule5, Bool.and_eq_true, decide_eq_true_eq] at a5 ⊢
    exact ⟨w.1, by rw [hW.reach]; exact a5.2⟩
  have r6 : rule6 (⟨a.Class, a.Power, a.Draught, a.Tonnes, T, W, I, s, b, r, p⟩ : Ship) = true := by
    simp only [rule6, Bool.and_eq_true, beq_iff_eq] at a6 ⊢
    exact ⟨⟨i.1, hI.zero a6.1.2⟩, by rw [hI.reach]; exact a6.2⟩
  have r1 : rule1 (⟨a.Class, a.Power, a.Draught, a.Tonnes, T, W, I, s, b, r, p⟩ : Ship) = true := a1
  have r2 : rule2 (⟨a.Class, a.Power, a.Draught, a.Tonnes, T, W, I, s, b, r, p⟩ : Ship) = true := a2
  exact ⟨by simp only [check, r1, r2, r3, r4, r5, r6]; rfl, hT.reach.1, hT.more, hW.less, hI.less, hs.2, hb.2, hr.2, hp.2⟩
end Go.Proofs.T

/- The plain law of HullBetter, last part. -/
namespace Go.Proofs.T
open Go.AX Hull

theorem m8_ok {F : Nat} (hF : 1000 ≤ F) {l1 l2 l3 l4 : List Int} (h1 : Bytes l1) (h2 : Bytes l2) (h3 : Bytes l3) (h4 : Bytes l4) {x : Int} (hx : 0 ≤ x ∧ x ≤ 65535) (ch : Bool) : Ok (fun r => r = true) (m8 F l1 l2 l3 l4 x ch) := by
  unfold m8
  refine ok_bnd _ (m15_ok2 (by omega) h1) fun a ha => ?_
  obtain ⟨ha, hy⟩ := ha
  refine ok_bnde (m28_eq (light_of ha)) ?_
  have lT := steady_len (check_steadyThrust ha)
  have lW := steady_len (check_steadyWater ha)
  have lI := steady_len (check_steadyIce ha)
  obtain ⟨pT, _⟩ := pre_of (check_steadyThrust ha)
  obtain ⟨pW, _⟩ := pre_of (check_steadyWater ha)
  obtain ⟨pI, _⟩ := pre_of (check_steadyIce ha)
  refine ok_join (fun T : List Pt => T.length = a.Thrust.length ∧ ∀ j : Nat, j < a.Thrust.length → pt T j = gT a.Thrust.length j (pt a.Thrust j)) (fun T hT => ?_) fun k1 hk1 => ?_
  · obtain ⟨hT, eT⟩ := thrust_ok ha hy hT.1 hT.2
    have hl := hT.len
    refine ok_chk (by omega) ?_
    refine ok_join (fun q : Nat × List Pt => ThrustOK a q.2) (fun q hq => ?_) fun k3 hk3 => ?_
    · obtain ⟨kk, T'⟩ := q
      simp only [] at hq ⊢
      refine ok_join (fun W : List Pt => LessOK a.Water W) (fun W hW => ?_) fun k4 hk4 => ?_
      · refine ok_join (fun I : List Pt => LessOK a.Ice I) (fun I hI => ?_) fun k6 hk6 => ?_
        · obtain ⟨_, _, b3, b4, b5, b6⟩ := check_bd ha
          have e1 := dvb h2 kk (n := 2) (by decide)
          have e2 := dvb h2 (kk + 1) (n := 3) (by decide)
          have e3 := dvb h2 (kk + 1 + 1) (n := 3) (by decide)
          have e4 := dvb h2 (kk + 1 + 1 + 1) (n := 3) (by decide)
          generalize dv l2 kk 2 = d1 at e1 ⊢
          generalize dv l2 (kk + 1) 3 = d2 at e2 ⊢
          generalize dv l2 (kk + 1 + 1) 3 = d3 at e3 ⊢
          generalize dv l2 (kk + 1 + 1 + 1) 3 = d4 at e4 ⊢
          have hb := better_ok ha hq hW hI (ediv_bd (a := a.Slow) (b := 1 + d1) b3.1 (by omega)) (ediv_bd (a := a.Brash) (b := 1 + d2) b4.1 (by omega)) (ediv_bd (a := a.Ridge) (b := 1 + d3) b5.1 (by omega)) (ediv_bd (a := a.Press) (b := 1 + d4) b6.1 (by omega))
          generalize (⟨a.Class, a.Power, a.Draught, a.Tonnes, T', W, I, a.Slow / (1 + d1), a.Brash / (1 + d2), a.Ridge / (1 + d3), a.Press / (1 + d4)⟩ : Ship) = b at hb ⊢
          repeat' (with_reducible refine ok_chk (by omega) ?_)
          refine ok_bnd _ (m17_ok h3) fun c hg => ?_
          refine ok_bnde (m16_eq F c) ?_
          have hf := goodCell_first hg
          refine ok_bnde (m51_eq hF b a) ?_
          have hsl : slowerE b a = (0, 4) := by
            rw [slowerE, if_neg (by simp [hb.ok]), if_neg (by simp [ha])]
            refine slow_none 401 0 fun k h1 h2 => ?_
            have := hb.speed ha (lev_good ⟨h1, by omega⟩) false
            omega
          rw [hsl]
          simp only []
          rw [speedE_eq ha hf, speedE_eq hb.ok hf]
          have hsp := hb.speed ha hf ch
          refine ok_brk (fun h => ?_) (fun _ => ?_)
          · exfalso; simp at h; omega
          refine ok_bnd _ (m15_ok (by omega) h4) fun d hd => ?_
          refine ok_bnde (m51_eq hF a d) ?_
          have hsd : slowerE a d = slowFrom a d 401 0 := by rw [slowerE, if_neg (by simp [ha]), if_neg (by simp [hd])]
          rw [hsd]
          have hlev : ∀ (s : Ship), check s = 0 → ∀ n : Int, 0 ≤ n ∧ n ≤ 400 → speedE s (⟨100, n, 0, 0⟩ : Ice) false = (speed s (lev n) false, 0) := fun s hs n hn => speedE_eq hs (lev_good hn) false
          have ht : 0 ≤ x % 401 ∧ x % 401 ≤ 400 := by omega
          rcases slow_is (a := a) (b := d) 401 0 with ⟨s1, s2⟩ | ⟨t, s1, s2, s3, s4, s5⟩
          · rw [s1]
            refine ok_brk (fun h => by simp at h) (fun _ => ok_chk (by omega) (ok_chk (by omega) ?_))
            generalize x % 401 = t at ht ⊢
            rw [hlev a ha t ht, hlev d hd t ht]
            have := s2 t ht.1 (by omega)
            refine ok_brk (fun h => ?_) (fun _ => ?_)
            · exfalso; simp at h; omega
            · exact ok_join (fun _ => True) (fun _ _ => ok_some rfl) fun k8 hk8 => ok_brk (fun h => by simp at h) (fun _ => hk8 _ trivial)
          · rw [s3]
            refine ok_brk (fun h => by simp at h) (fun _ => ok_chk (by omega) (ok_chk (by omega) ?_))
            generalize x % 401 = u at ht ⊢
            rw [hlev a ha u ht, hlev d hd u ht]
            have := s5 u ht.1
            refine ok_brk (fun h => ?_) (fun _ => ?_)
            · exfalso; simp at h; omega
            · refine ok_join (fun _ => True) (fun _ _ => ok_some rfl) fun k8 hk8 => ok_brk (fun _ => ?_) (fun h => by simp at h)
              simp only []
              rw [hlev a ha t ⟨s1, by omega⟩, hlev d hd t ⟨s1, by omega⟩]
              refine ok_brk (fun h => ?_) (fun _ => hk8 _ trivial)
              exfalso; simp at h; omega
        · refine ok_loop (fun q : Int × List Pt => (0 ≤ q.1 ∧ q.1 ≤ a.Ice.length) ∧ Done gI a.Ice q.1 q.2) (fun q => (a.Ice.length - q.1).toNat) ⟨⟨by simp, by simp⟩, Done.start⟩ (by show ((a.Ice.length : Int) - 0).toNat < F; omega) fun q next hI hn => ?_
          obtain ⟨i, m⟩ := q
          obtain ⟨⟨a0, a1⟩, hD⟩ := hI
          simp only [] at a0 a1 hD ⊢
          refine ok_brk (fun h => ?_) (fun h => hk6 _ ?_)
          · have h := of_decide_eq_true h
            have hb := (pI.bd i.toNat (by omega)).2.2
            rw [Int.toNat_of_nonneg a0] at hb
            rw [hD.here a0 h]
            refine ok_chk (by rw [hD.len]; omega) (ok_chk (by omega) (ok_chk (by omega) (hn _ ⟨⟨by simp only []; omega, by simp only []; omega⟩, hD.step a0 h⟩ (by simp only []; omega))))
          · have h := of_decide_eq_false h
            exact less_ok (f := fun y => y / 2) (check_steadyIce ha) hD.len (fun y hy => by omega) (fun x y h1 h2 => by omega) (hD.all (by omega))
      · refine ok_loop (fun q : Int × List Pt => (0 ≤ q.1 ∧ q.1 ≤ a.Water.length) ∧ Done gW a.Water q.1 q.2) (fun q => (a.Water.length - q.1).toNat) ⟨⟨by simp, by simp⟩, Done.start⟩ (by show ((a.Water.length : Int) - 0).toNat < F; omega) fun q next hI hn => ?_
        obtain ⟨i, m⟩ := q
        obtain ⟨⟨a0, a1⟩, hD⟩ := hI
        simp only [] at a0 a1 hD ⊢
        refine ok_brk (fun h => ?_) (fun h => hk4 _ ?_)
        · have h := of_decide_eq_true h
          have hb := (pW.bd i.toNat (by omega)).2.2
          rw [Int.toNat_of_nonneg a0] at hb
          rw [hD.here a0 h]
          refine ok_chk (by rw [hD.len]; omega) (ok_chk (by omega) (ok_chk (by omega) (ok_chk (by omega) (hn _ ⟨⟨by simp only []; omega, by simp only []; omega⟩, hD.step a0 h⟩ (by simp only []; omega)))))
        · have h := of_decide_eq_false h
          exact less_ok (f := fun y => y * 3 / 4) (check_steadyWater ha) hD.len (fun y hy => by omega) (fun x y h1 h2 => by omega) (hD.all (by omega))
    · have e5 := dvb h2 0 (n := 10) (by decide)
      have hr := hT.reach
      have hXn : (pt T ((T.length : Int) - 1)).X = endX T := rfl
      have hx0 := check_reach ha
      refine ok_chk (fun _ => by omega) (ok_brk (fun h => ?_) (fun _ => hk3 _ hT))
      simp only [Bool.and_eq_true, decide_eq_true_eq] at h
      rw [hXn] at h ⊢
      refine ok_chk (by omega) (ok_chk (by omega) (ok_chk (by omega) (ok_chk (by omega) (hk3 _ ?_))))
      exact thrust_longer hT eT (by omega) h.2 (d := dv l2 0 10) (by omega)
  · refine ok_loop (fun q : Int × List Pt => (0 ≤ q.1 ∧ q.1 ≤ a.Thrust.length) ∧ Done (gT a.Thrust.length) a.Thrust q.1 q.2) (fun q => (a.Thrust.length - q.1).toNat) ⟨⟨by simp, by simp⟩, Done.start⟩ (by show ((a.Thrust.length : Int) - 0).toNat < F; omega) fun q next hI hn => ?_
    obtain ⟨i, m⟩ := q
    obtain ⟨⟨a0, a1⟩, hD⟩ := hI
    simp only [] at a0 a1 hD ⊢
    refine ok_brk (fun h => ?_) (fun h => hk1 _ ⟨hD.len, ?_⟩)
    · have h := of_decide_eq_true h
      have hb := (pT.bd i.toNat (by omega)).2.2
      rw [Int.toNat_of_nonneg a0] at hb
      rw [hD.here a0 h, hD.len]
      have hS := hD.step a0 h
      simp only [gT, Int.toNat_of_nonneg a0] at hS
      repeat' (with_reducible refine ok_chk (by omega) ?_)
      exact hn _ ⟨⟨by simp only []; omega, by simp only []; omega⟩, hS⟩ (by simp only []; omega)
    · have h := of_decide_eq_false h
      exact hD.all (by omega)
end Go.Proofs.T
