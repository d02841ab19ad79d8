/-
  This file has plain laws of the mirrors. Conditions: those that each theorem names.
-/
import Derived.KernelRfl
import Derived.Test.YtgpcfckbcldokaaDoorCf5
/- The plain law of HullMonotone: Made makes valid ships, Frozen valid cells, and the law answers true. -/
namespace Go.Proofs.T
open Go.AX Hull

def Bytes (l : List Int) : Prop := ∀ x ∈ l, 0 ≤ x ∧ x ≤ 255

theorem dvb {l : List Int} (h : Bytes l) (k : Nat) {n : Int} (hn : 1 ≤ n) : 0 ≤ dv l k n ∧ dv l k n ≤ n - 1 ∧ dv l k n ≤ 255 := dv_bd h hn

theorem m74_ok {F : Nat} {l : List Int} (h8 : Bytes l) {step wide most : Int} (hs : step = 1 ∨ step = 2) (hw : 1 ≤ wide ∧ wide ≤ 1000) (hm : 0 ≤ most ∧ most ≤ 1000) (k : Nat) :
    Ok (fun r => goodSpan r.1 most ∧ r.2 = k + 2) (m74_0 F 0 step wide most l k) := by
  unfold m74_0
  have h1 := dvb h8 k (n := most / step + 1 - 0 / step) (by rcases hs with rfl | rfl <;> omega)
  have h2 := dvb h8 (k + 1) (n := wide) hw.1
  generalize dv l k (most / step + 1 - 0 / step) = a at h1 ⊢
  generalize dv l (k + 1) wide = b at h2 ⊢
  rcases hs with rfl | rfl
  all_goals
    repeat' (with_reducible refine ok_chk (by omega) ?_)
    refine ok_some ⟨?_, rfl⟩
    simp only [goodSpan]
    split <;> omega

theorem m17_ok {F : Nat} {l : List Int} (h8 : Bytes l) : Ok goodCell (m17 F l) := by
  unfold m17
  refine ok_bnd _ (m74_ok h8 (.inl rfl) (by omega) (by omega) 0) fun v1 h1 => ?_
  refine ok_bnd _ (m74_ok h8 (.inr rfl) (by omega) (by omega) _) fun v2 h2 => ?_
  refine ok_bnd _ (m74_ok h8 (.inl rfl) (by omega) (by omega) _) fun v3 h3 => ?_
  refine ok_bnd _ (m74_ok h8 (.inl rfl) (by omega) (by omega) _) fun v4 h4 => ?_
  exact ok_some ⟨h1.1, h2.1, h3.1, h4.1⟩

/-- Points that can be the beginning of a steady curve; the last one is (x, y). -/
structure Pre (w : Int) (l : List Pt) (x y : Int) : Prop where
  len : 1 ≤ l.length
  x0 : (pt l 0).X = 0
  bd : ∀ i : Nat, i < l.length → 0 ≤ (pt l i).X ∧ (pt l i).X ≤ 400 ∧ 0 ≤ (pt l i).Y ∧ (pt l i).Y ≤ 20000
  st : ∀ i : Nat, 1 ≤ i → i < l.length → (pt l ((i : Int) - 1)).X < (pt l i).X ∧ 0 ≤ ((pt l i).Y - (pt l ((i : Int) - 1)).Y) * w
  last : pt l ((l.length : Int) - 1) = ⟨x, y⟩

theorem pt_old {l : List Pt} {p : Pt} {i : Int} (h0 : 0 ≤ i) (h : i < l.length) : pt (l ++ [p]) i = pt l i := by
  unfold pt
  have h : i.toNat < l.length := by omega
  simp [List.getD, List.getElem?_append_left h]

theorem pt_new {l : List Pt} {p : Pt} : pt (l ++ [p]) (l.length : Int) = p := by
  unfold pt
  simp [List.getD]

theorem Pre.one {w y : Int} (hy : 0 ≤ y ∧ y ≤ 20000) : Pre w [⟨0, y⟩] 0 y := by
  refine ⟨by simp, rfl, fun i hi => ?_, fun i h1 hi => ?_, rfl⟩
  · have : i = 0 := by simpa using hi
    subst this
    simp [pt]; omega
  · simp at hi; omega

theorem Pre.snoc {w x y x' y' : Int} {l : List Pt} (h : Pre w l x y) (hx : x < x' ∧ x' ≤ 400) (hy : 0 ≤ y' ∧ y' ≤ 20000) (hw : 0 ≤ (y' - y) * w) : Pre w (l ++ [⟨x', y'⟩]) x' y' := by
  have hl := h.len
  have hlast := h.last
  have hx0 := (h.bd (l.length - 1) (by omega)).1
  rw [show (((l.length - 1 : Nat)) : Int) = (l.length : Int) - 1 by omega, hlast] at hx0
  simp only [] at hx0
  refine ⟨by simp, by rw [pt_old (by omega) (by omega)]; exact h.x0, fun i hi => ?_, fun i h1 hi => ?_, ?_⟩
  · by_cases e : i < l.length
    · rw [pt_old (by omega) (by omega)]; exact h.bd i e
    · have : i = l.length := by simp at hi; omega
      subst this
      rw [pt_new]; simp only []; omega
  · by_cases e : i < l.length
    · rw [pt_old (by omega) (by omega), pt_old (by omega) (by omega)]; exact h.st i h1 e
    · have : i = l.length := by simp at hi; omega
      subst this
      rw [pt_new, pt_old (by omega) (by omega), hlast]
      exact ⟨hx.1, hw⟩
  · rw [show (((l ++ [(⟨x', y'⟩ : Pt)]).length : Int) - 1) = (l.length : Int) by simp, pt_new]

theorem Pre.steady {w x y : Int} {l : List Pt} (h : Pre w l x y) (hl : 2 ≤ l.length ∧ l.length ≤ 8) : steady l w = true ∧ endX l = x := by
  have hc : curve l = true := by
    refine curve_yes (k := l.length) ?_ h.x0 (fun j hj => ?_) (Nat.le_refl _)
    · simp [within]; omega
    · have h1 := h.bd j hj
      simp only [curveAt, within]
      by_cases e : j = 0
      · subst e
        have h0 := h.x0
        have h1' : 0 ≤ (pt l 0).X ∧ (pt l 0).X ≤ 400 ∧ 0 ≤ (pt l 0).Y ∧ (pt l 0).Y ≤ 20000 := h1
        simp; omega
      · have h2 := (h.st j (by omega) hj).1
        have h3 : ¬ (pt l (j : Int)).X ≤ (pt l ((j : Int) - 1)).X := by omega
        simp [h3]; omega
  refine ⟨steady_yes (k := l.length) hc (fun j hj h1 => ?_) (Nat.le_refl _), by rw [endX, h.last]⟩
  have h2 := (h.st j h1 hj).2
  simp only [steadyAt]
  simp; omega

theorem m15_ok {F : Nat} (hF : 100 ≤ F) {l : List Int} (h8 : Bytes l) : Ok (fun s => check s = 0) (m15 F l) := by
  have D := fun k n h => dvb h8 k (n := n) h
  unfold m15
  have d0 := D 0 6 (by omega); have d1 := D 1 256 (by omega); have d2 := D 2 256 (by omega); have d3 := D 3 256 (by omega); have d4 := D 4 21 (by omega); have d5 := D 5 101 (by omega)
  have d6 := D 6 240 (by omega); have d7 := D 7 256 (by omega); have d8 := D 8 256 (by omega); have d9 := D 9 4 (by omega)
  repeat' (with_reducible refine ok_chk (by omega) ?_)
  refine ok_join (fun (q : List Pt × Nat) => Pre (-1) q.1 (endX q.1) (pt q.1 ((q.1.length : Int) - 1)).Y ∧ 2 ≤ q.1.length ∧ q.1.length ≤ 8 ∧ 10 ≤ endX q.1 ∧ endX q.1 ≤ 250) (fun x1 h1 => ?_) fun k1 hk1 => ?_
  · refine ok_join (fun (q : List Pt × Nat) => Pre 1 q.1 (endX q.1) (pt q.1 ((q.1.length : Int) - 1)).Y ∧ 2 ≤ q.1.length ∧ q.1.length ≤ 8 ∧ endX q.1 ≤ 250) (fun x3 h3 => ?_) fun k3 hk3 => ?_
    · refine ok_join (fun (q : Int × List Pt × Nat) => ∃ x, Pre 1 q.2.1 x q.1 ∧ (pt q.2.1 0).Y = 0 ∧ q.2.1.length ≤ 4 ∧ x ≤ 390 ∧ 0 ≤ q.1 ∧ q.1 ≤ 3000) (fun x5 h5 => ?_) fun k5 hk5 => ?_
      · obtain ⟨x, hp, h0, hl, hx, hy⟩ := h5
        have e := D x5.2.2 256 (by omega)
        have hl1 := hp.len
        repeat' (with_reducible refine ok_chk (by omega) ?_)
        refine ok_some ?_
        have hq := (hp.snoc (x' := 400) (y' := x5.1 + 4 * dv l x5.2.2 256) (by omega) (by omega) (by omega)).steady (by simp; omega)
        obtain ⟨p1, l1, l2, e1, e2⟩ := h1
        obtain ⟨p3, l3, l4, e3⟩ := h3
        have s1 := p1.steady ⟨l1, l2⟩
        have s3 := p3.steady ⟨l3, l4⟩
        have r1 : rule1 (⟨1 + dv l 0 6, 100 + 390 * dv l 1 256, 10 + 7 * dv l 2 256, 10 + 1900 * dv l 3 256, x1.1, x3.1, x5.2.1 ++ [⟨400, x5.1 + 4 * dv l x5.2.2 256⟩], dv l 4 21, dv l 5 101, 2 * dv l 6 240, 4 * dv l 7 256⟩ : Ship) = true := by
          simp [rule1, within]; omega
        have r2 : rule2 (⟨1 + dv l 0 6, 100 + 390 * dv l 1 256, 10 + 7 * dv l 2 256, 10 + 1900 * dv l 3 256, x1.1, x3.1, x5.2.1 ++ [⟨400, x5.1 + 4 * dv l x5.2.2 256⟩], dv l 4 21, dv l 5 101, 2 * dv l 6 240, 4 * dv l 7 256⟩ : Ship) = true := by
          simp [rule2, within]; omega
        have r3 : rule3 (⟨1 + dv l 0 6, 100 + 390 * dv l 1 256, 10 + 7 * dv l 2 256, 10 + 1900 * dv l 3 256, x1.1, x3.1, x5.2.1 ++ [⟨400, x5.1 + 4 * dv l x5.2.2 256⟩], dv l 4 21, dv l 5 101, 2 * dv l 6 240, 4 * dv l 7 256⟩ : Ship) = true := by
          simp [rule3, within]; omega
        have r4 : rule4 (⟨1 + dv l 0 6, 100 + 390 * dv l 1 256, 10 + 7 * dv l 2 256, 10 + 1900 * dv l 3 256, x1.1, x3.1, x5.2.1 ++ [⟨400, x5.1 + 4 * dv l x5.2.2 256⟩], dv l 4 21, dv l 5 101, 2 * dv l 6 240, 4 * dv l 7 256⟩ : Ship) = true := by
          simp [rule4, within, s1.1]; omega
        have r5 : rule5 (⟨1 + dv l 0 6, 100 + 390 * dv l 1 256, 10 + 7 * dv l 2 256, 10 + 1900 * dv l 3 256, x1.1, x3.1, x5.2.1 ++ [⟨400, x5.1 + 4 * dv l x5.2.2 256⟩], dv l 4 21, dv l 5 101, 2 * dv l 6 240, 4 * dv l 7 256⟩ : Ship) = true := by
          simp [rule5, s3.1]; omega
        have r6 : rule6 (⟨1 + dv l 0 6, 100 + 390 * dv l 1 256, 10 + 7 * dv l 2 256, 10 + 1900 * dv l 3 256, x1.1, x3.1, x5.2.1 ++ [⟨400, x5.1 + 4 * dv l x5.2.2 256⟩], dv l 4 21, dv l 5 101, 2 * dv l 6 240, 4 * dv l 7 256⟩ : Ship) = true := by
          simp only [rule6, hq.1, hq.2]; rw [pt_old (by omega) (by omega), h0]; rfl
        simp only [check, r1, r2, r3, r4, r5, r6]; rfl
      · have e9 := D x3.2 4 (by omega)
        refine ok_loop (fun (q : Int × Int × Int × List Pt × Nat) => Pre 1 q.2.2.2.1 q.1 q.2.1 ∧ (pt q.2.2.2.1 0).Y = 0 ∧ 0 ≤ q.2.2.1 ∧ q.2.2.1 ≤ 3 ∧ (q.2.2.2.1.length : Int) = q.2.2.1 + 1 ∧ q.1 ≤ 90 * q.2.2.1 ∧ 0 ≤ q.1 ∧ 0 ≤ q.2.1 ∧ q.2.1 ≤ 765 * q.2.2.1) (fun q => (3 - q.2.2.1).toNat) ?_ (by simp; omega) fun q next hI hn => ?_
        · exact ⟨Pre.one (by omega), rfl, by simp, by simp, rfl, by simp, by simp, by simp, by simp⟩
        · obtain ⟨hp, h0, h1', h2, h3', h4, h5, h6, h7⟩ := hI
          refine ok_brk (fun hc => ?_) (fun hc => ?_)
          · have hc := of_decide_eq_true hc
            have a1 := D q.2.2.2.2 90 (by omega)
            have a2 := D (q.2.2.2.2 + 1) 256 (by omega)
            repeat' (with_reducible refine ok_chk (by omega) ?_)
            refine hn _ ⟨hp.snoc (by omega) (by omega) (by omega), by simp only []; rw [pt_old (by omega) (by omega)]; exact h0, by first | omega | (simp only []; omega), by first | omega | (simp only []; omega), by simp only [List.length_append, List.length_singleton]; omega, by first | omega | (simp only []; omega), by first | omega | (simp only []; omega), by first | omega | (simp only []; omega), by first | omega | (simp only []; omega)⟩ (by first | omega | (simp only []; omega))
          · have hc := of_decide_eq_false hc
            exact hk5 _ ⟨q.1, hp, h0, by first | omega | (simp only []; omega), by omega, by first | omega | (simp only []; omega), by first | omega | (simp only []; omega)⟩
    · have e9 := D (x1.2 + 1) 3 (by omega)
      have e8 := D x1.2 50 (by omega)
      refine ok_chk (by omega) ?_
      refine ok_loop (fun (q : Int × Int × Int × List Pt × Nat) => Pre 1 q.2.2.2.1 q.1 q.2.1 ∧ 0 ≤ q.2.2.1 ∧ q.2.2.1 ≤ 3 ∧ q.2.2.1 ≤ 1 + dv l (x1.2 + 1) 3 ∧ (q.2.2.2.1.length : Int) = q.2.2.1 + 1 ∧ q.1 ≤ 80 * q.2.2.1 ∧ 0 ≤ q.1 ∧ 0 ≤ q.2.1 ∧ q.2.1 ≤ 50 + 765 * q.2.2.1) (fun q => (3 - q.2.2.1).toNat) ?_ (by simp; omega) fun q next hI hn => ?_
      · exact ⟨Pre.one (by omega), by simp, by simp, by first | omega | (simp only []; omega), rfl, by simp, by simp, by first | omega | (simp only []; omega), by first | omega | (simp only []; omega)⟩
      · obtain ⟨hp, h1', h2, h2', h3', h4, h5, h6, h7⟩ := hI
        refine ok_brk (fun hc => ?_) (fun hc => ?_)
        · have hc := of_decide_eq_true hc
          have a1 := D q.2.2.2.2 80 (by omega)
          have a2 := D (q.2.2.2.2 + 1) 256 (by omega)
          repeat' (with_reducible refine ok_chk (by omega) ?_)
          refine hn _ ⟨hp.snoc (by omega) (by omega) (by omega), by first | omega | (simp only []; omega), by first | omega | (simp only []; omega), by first | omega | (simp only []; omega), by simp only [List.length_append, List.length_singleton]; omega, by first | omega | (simp only []; omega), by first | omega | (simp only []; omega), by first | omega | (simp only []; omega), by first | omega | (simp only []; omega)⟩ (by first | omega | (simp only []; omega))
        · have hc := of_decide_eq_false hc
          have hle : endX q.2.2.2.1 = q.1 := by rw [endX, hp.last]
          refine hk3 _ ⟨?_, by first | omega | (simp only []; omega), by first | omega | (simp only []; omega), by simp only [hle]; omega⟩
          simp only [hle, hp.last]; exact hp
  · refine ok_chk (by omega) ?_
    refine ok_loop (fun (q : Int × Int × Int × List Pt × Nat) => Pre (-1) q.2.2.2.1 q.1 q.2.1 ∧ 0 ≤ q.2.2.1 ∧ q.2.2.1 ≤ 4 ∧ q.2.2.1 ≤ 1 + dv l 9 4 ∧ (q.2.2.2.1.length : Int) = q.2.2.1 + 1 ∧ q.1 ≤ 49 * q.2.2.1 ∧ 10 * q.2.2.1 ≤ q.1 ∧ 0 ≤ q.2.1 ∧ q.2.1 ≤ 5300) (fun q => (4 - q.2.2.1).toNat) ?_ (by show (4 - (0 : Int)).toNat < F; omega) fun q next hI hn => ?_
    · exact ⟨Pre.one (by omega), by simp, by simp, by first | omega | (simp only []; omega), rfl, by simp, by simp, by first | omega | (simp only []; omega), by first | omega | (simp only []; omega)⟩
    · obtain ⟨hp, h1', h2, h2', h3', h4, h5, h6, h7⟩ := hI
      refine ok_brk (fun hc => ?_) (fun hc => ?_)
      · have hc := of_decide_eq_true hc
        have a1 := D q.2.2.2.2 40 (by omega)
        have a2 := D (q.2.2.2.2 + 1) 101 (by omega)
        have hm := mul_nn (x := q.2.1) (y := dv l (q.2.2.2.2 + 1) 101) (a := 0) (A := 5300) (b := 0) (B := 100) (by omega) (by omega) (by decide) (by decide)
        have hlen : (q.2.2.2.1 ++ [(⟨0, 0⟩ : Pt)]).length = q.2.2.2.1.length + 1 := by simp
        have hm2 : q.2.1 * dv l (q.2.2.2.2 + 1) 101 ≤ q.2.1 * 100 := Int.mul_le_mul_of_nonneg_left (by omega) (by omega)
        generalize q.2.1 * dv l (q.2.2.2.2 + 1) 101 = pr at hm hm2 ⊢
        repeat' (with_reducible refine ok_chk (by omega) ?_)
        refine hn _ ⟨hp.snoc (by omega) (by omega) (by omega), by first | omega | (simp only []; omega), by first | omega | (simp only []; omega), by first | omega | (simp only []; omega), by simp only [List.length_append, List.length_singleton]; omega, by first | omega | (simp only []; omega), by first | omega | (simp only []; omega), by first | omega | (simp only []; omega), by first | omega | (simp only []; omega)⟩ (by first | omega | (simp only []; omega))
      · have hc := of_decide_eq_false hc
        have hle : endX q.2.2.2.1 = q.1 := by rw [endX, hp.last]
        refine hk1 _ ⟨?_, by first | omega | (simp only []; omega), by first | omega | (simp only []; omega), by simp only [hle]; omega, by simp only [hle]; omega⟩
        simp only [hle, hp.last]; exact hp
end Go.Proofs.T

/- Plain facts on valid ships and cells that the laws make. -/
namespace Go.Proofs.T
open Go.AX Hull
theorem loaded_zero {i : Ice} (hi : goodIce i) {v : Int} (hv : 0 ≤ v ∧ v ≤ 250) : loaded i v = 0 := by
  unfold loaded
  rw [if_neg (by simp [checkIce_ok.2 hi]), if_neg]
  simp [within]; omega

theorem asked_zero {s : Ship} (hc : check s = 0) {i : Ice} (hi : goodIce i) {v : Int} (hv : 0 ≤ v ∧ v ≤ 250) : asked s i v = 0 := by
  unfold asked
  rw [if_neg (by simp [hc])]; exact loaded_zero hi hv

theorem speedE_eq {s : Ship} (hc : check s = 0) {i : Ice} (hi : goodIce i) (ch : Bool) : speedE s i ch = (speed s i ch, 0) := by
  rw [speedE, if_neg (by simp [asked_zero hc hi (v := 0) (by omega)])]
theorem m16_eq (F : Nat) (c : Cell) : m16 F c = some (firstI c, lastI c) := rfl

end Go.Proofs.T

/- The reference's functions of the hull layer: what they compute, against the program's. -/
namespace Go.Proofs.T
open Go.AX Hull

section
variable {α β : Type} {post : α → Prop}
end

/-- Ships as light as a law looks at. -/
structure Light (s : Ship) : Prop where
  t : s.Thrust.length ≤ 20
  w : s.Water.length ≤ 20
  i : s.Ice.length ≤ 20

instance (s : Ship) : Decidable (Light s) := decidable_of_iff (s.Thrust.length ≤ 20 ∧ s.Water.length ≤ 20 ∧ s.Ice.length ≤ 20) ⟨fun ⟨a, b, c⟩ => ⟨a, b, c⟩, fun h => ⟨h.t, h.w, h.i⟩⟩

/-- The piece of a curve that ends at its point i, at x. -/
def segN (l : List Pt) (i x : Int) : Int := (pt l (i - 1)).Y * ((pt l i).X - (pt l (i - 1)).X) + ((pt l i).Y - (pt l (i - 1)).Y) * (x - (pt l (i - 1)).X)
def segD (l : List Pt) (i : Int) : Int := (pt l i).X - (pt l (i - 1)).X

section
variable {α : Type} {post : α → Prop}
end

end Go.Proofs.T

/- The reference's functions of the hull layer, second part: resistances, speeds, loads, limits. -/
namespace Go.Proofs.T
open Go.AX Hull

theorem makes_down {s : Ship} (hc : check s = 0) {i : Ice} (hi : goodIce i) (ch : Bool) : ∀ u v, (0 : Int) ≤ u → u ≤ v → v ≤ 250 → makes s i ch v = true → makes s i ch u = true :=
  fun _ _ h1 h2 _ h => makes_mono hc hi hi .rfl h1 h2 h

theorem great_eq {so : Int → Bool} {lo hi r : Int} (hd : ∀ u v, lo ≤ u → u ≤ v → v ≤ hi → so v = true → so u = true) (h1 : lo ≤ r) (h2 : r ≤ hi) (hr : so r = true) (hn : ∀ u, r < u → u ≤ hi → so u = false) : so lo = true ∧ great so lo hi = r := by
  have h0 := hd lo r (Int.le_refl _) h1 h2 hr
  obtain ⟨a, b, c⟩ := great_is (by omega) h0 hd
  refine ⟨h0, ?_⟩
  have c1 := (c r h1 h2).1 hr
  rcases Int.lt_or_le r (great so lo hi) with h | h
  · have := (c _ a b).2 (Int.le_refl _)
    rw [hn _ h b] at this; cases this
  · omega

/-- A look from the least number on, for the last one for which something is so. -/
structure Last (so : Int → Bool) (lo d out n : Int) : Prop where
  it : (out = d ∧ ∀ u, lo ≤ u → u < n → so u = false) ∨ (lo ≤ out ∧ out < n ∧ so out = true ∧ ∀ u, out < u → u < n → so u = false)

theorem Last.start {so : Int → Bool} {lo d : Int} : Last so lo d d lo := ⟨.inl ⟨rfl, fun u h1 h2 => by omega⟩⟩
theorem Last.no {so : Int → Bool} {lo d out n : Int} (hl : Last so lo d out n) (h : so n = false) : Last so lo d out (n + 1) := by
  refine ⟨?_⟩
  rcases hl.it with ⟨h1, h2⟩ | ⟨h1, h2, h3, h4⟩
  · exact .inl ⟨h1, fun u a b => by by_cases e : u = n; exact e ▸ h; exact h2 u a (by omega)⟩
  · exact .inr ⟨h1, by omega, h3, fun u a b => by by_cases e : u = n; exact e ▸ h; exact h4 u a (by omega)⟩
theorem Last.greatest {so : Int → Bool} {lo hi d out : Int} (hl : Last so lo d out (hi + 1)) (hle : lo ≤ hi) (hd : ∀ u v, lo ≤ u → u ≤ v → v ≤ hi → so v = true → so u = true) :
    (out = d ∧ Hull.greatest so lo hi = (0, false) ∧ ∀ u, lo ≤ u → u ≤ hi → so u = false) ∨ (Hull.greatest so lo hi = (out, true) ∧ lo ≤ out ∧ out ≤ hi) := by
  unfold Hull.greatest
  rcases hl.it with ⟨h1, h2⟩ | ⟨h1, h2, h3, h4⟩
  · rw [h2 lo (Int.le_refl _) (by omega)]; exact .inl ⟨h1, by simp, fun u h3 h4 => h2 u h3 (by omega)⟩
  · obtain ⟨a, b⟩ := great_eq hd h1 (by omega) h3 (fun u h5 h6 => h4 u h5 (by omega))
    rw [if_pos a, b]; exact .inr ⟨rfl, h1, by omega⟩

instance (s : Span) (n : Int) : Decidable (goodSpan s n) := by unfold goodSpan; infer_instance

/-- Where one ship is first slower than another one. -/
def slowFrom (a b : Ship) : Nat → Int → Int × Int
  | 0, _ => (0, 4)
  | f + 1, n => if speed a (lev n) false < speed b (lev n) false then (n, 0) else slowFrom a b f (n + 1)
def slowerE (a b : Ship) : Int × Int := if check a ≠ 0 then (0, check a) else if check b ≠ 0 then (0, check b) else slowFrom a b 401 0

end Go.Proofs.T

/- The reference's functions of the hull layer, third part: corners, safe speeds, legs, waits. -/
namespace Go.Proofs.T
open Go.AX Hull

def corners (c : Cell) : List Ice :=
  [c.Press.Lo, c.Press.Hi].flatMap fun p => [c.Ridge.Lo, c.Ridge.Hi].flatMap fun r => [c.Thick.Lo, c.Thick.Hi].flatMap fun t => [c.Conc.Lo, c.Conc.Hi].map fun n => ⟨n, t, r, p⟩

theorem makes_of_speed {s : Ship} (hc : check s = 0) {i : Ice} (hi : goodIce i) {ch : Bool} {v : Int} (hv : 1 ≤ v ∧ v ≤ 250) (h : v ≤ speed s i ch) : makes s i ch v = true := by
  unfold speed greatest at h
  by_cases h0 : makes s i ch 0 = true
  · rw [if_pos h0] at h
    obtain ⟨a, b, c⟩ := great_is (so := fun v => makes s i ch v) (by decide) h0 (makes_down hc hi ch)
    exact (c v (by omega) (by omega)).2 h
  · rw [if_neg h0] at h
    simp only [] at h; omega

end Go.Proofs.T

/- The reference's functions of the hull layer, fourth part: speeds in a cell, waits. -/
namespace Go.Proofs.T
open Go.AX Hull

theorem speed_bd {s : Ship} (hc : check s = 0) {i : Ice} (hi : goodIce i) (ch : Bool) : 0 ≤ speed s i ch ∧ speed s i ch ≤ 250 := by
  unfold speed greatest
  by_cases h0 : makes s i ch 0 = true
  · rw [if_pos h0]
    obtain ⟨a, b, _⟩ := great_is (so := fun v => makes s i ch v) (by decide) h0 (makes_down hc hi ch)
    exact ⟨a, b⟩
  · rw [if_neg h0]; simp

/-- The least and the greatest speed in a cell. -/
def speedsE (s : Ship) (c : Cell) (ch : Bool) : Span × Int := if met s c ≠ 0 then (⟨0, 0⟩, met s c) else (⟨speed s (lastI c) ch, speed s (firstI c) ch⟩, 0)
def besetE (s : Ship) (c : Cell) (ch : Bool) : Bool × Bool × Int := if met s c ≠ 0 then (false, false, met s c) else (decide (speed s (lastI c) ch < 10), decide (speed s (firstI c) ch < 10), 0)

end Go.Proofs.T

/- Speeds in a cell, beset, beyond: what the program computes. -/
namespace Go.Proofs.T
open Go.AX Hull

theorem LeI_speed {s : Ship} (hc : check s = 0) {c : Cell} (hg : goodCell c) (ch : Bool) : speed s (lastI c) ch ≤ speed s (firstI c) ch :=
  speed_mono hc (goodCell_first hg) (goodCell_last hg) (first_le_last hg) ch

theorem m55_eq {F : Nat} (s : Ship) (c : Cell) (ch : Bool) : m55 F s c ch = some (speedsE s c ch) := by
  apply Ok.eq
  unfold m55 speedsE
  refine ok_brk (fun h => ok_some ?_) (fun h => ?_)
  · rw [if_pos (by simpa using h)]
  have hm : met s c = 0 := by simpa using h
  rw [if_neg (by simp [hm])]
  obtain ⟨hc, hg⟩ := met_ok hm
  have hl := goodCell_last hg
  have hf := goodCell_first hg
  have bl := speed_bd hc hl ch
  have bf := speed_bd hc hf ch
  have hle := LeI_speed hc hg ch
  refine ok_join (fun q : Int × Int => q = (speed s (lastI c) ch, speed s (firstI c) ch)) (fun q hq => ok_some (by rw [hq])) fun k hk => ?_
  refine ok_bnde (b := ()) rfl ?_
  rw [chk_pos hc, chk_pos hf, bnd_pos]
  refine ok_brk (fun h => ?_) (fun h => hk _ ?_)
  · rw [chk_pos hc, chk_pos hl, bnd_pos]
    refine hk _ ?_
    simp only []
    rw [Prod.mk.injEq]
    constructor
    · split <;> split <;> omega
    · split <;> split <;> omega
  · have h : firstI c = lastI c := by simpa using h
    simp only []
    rw [← h, Prod.mk.injEq]
    constructor
    · split <;> omega
    · split <;> omega

theorem m52_eq {F : Nat} (s : Ship) (c : Cell) (ch : Bool) : m52 F s c ch = some (besetE s c ch) := by
  unfold m52
  rw [m55_eq, bnd_pos]
  unfold speedsE besetE
  by_cases h : met s c = 0
  · rw [if_neg (by simp [h]), if_neg (by simp [h])]; rfl
  · rw [if_pos h, if_pos h]
    rw [brk_pos (by simpa using h)]

/-- Whether the ice bears more than her hull does. -/
def beyondE (s : Ship) (c : Cell) (v : Int) (ch : Bool) : Bool × Bool × Int :=
  if met s c ≠ 0 then (false, false, met s c) else if within v 0 250 = false then (false, false, 6) else (!bears s (lastI c) ch v, !bears s (firstI c) ch v, 0)

theorem bears_cell {s : Ship} {c : Cell} (hg : goodCell c) {v : Int} (hv : 0 ≤ v) (ch : Bool) (h : bears s (lastI c) ch v = true) : bears s (firstI c) ch v = true :=
  bears_mono (goodCell_first hg) (goodCell_last hg) (first_le_last hg) hv (Int.le_refl _) h

theorem m56_eq {F : Nat} (s : Ship) (c : Cell) (v : Int) (ch : Bool) : m56 F s c v ch = some (beyondE s c v ch) := by
  apply Ok.eq
  unfold m56 beyondE
  refine ok_brk (fun h => ok_some ?_) (fun h => ?_)
  · rw [if_pos (by simpa using h)]
  have hm : met s c = 0 := by simpa using h
  rw [if_neg (by simp [hm])]
  obtain ⟨hc, hg⟩ := met_ok hm
  have hl := goodCell_last hg
  have hf := goodCell_first hg
  refine ok_brk (fun h => ok_some ?_) (fun h => ?_)
  · rw [if_pos (by simpa using h)]
  have h : within v 0 250 = true := by simpa using h
  rw [if_neg (by simp [h])]
  have hv := within_t h
  have hb := bears_cell (s := s) hg hv.1 ch
  refine ok_join (fun q : Bool × Bool => q = (!bears s (firstI c) ch v, !bears s (lastI c) ch v)) (fun q hq => ok_some (by rw [hq])) fun k hk => ?_
  refine ok_bnde (b := ()) rfl ?_
  rw [chk_pos hc, chk_pos hf, chk_pos (by omega), bnd_pos]
  refine ok_brk (fun h => ?_) (fun h => hk _ ?_)
  · rw [chk_pos hc, chk_pos hl, chk_pos (by omega), bnd_pos]
    refine hk _ ?_
    generalize bears s (lastI c) ch v = x at hb ⊢
    generalize bears s (firstI c) ch v = y at hb ⊢
    cases x <;> cases y <;> simp at hb ⊢
  · have h : firstI c = lastI c := by simpa using h
    rw [← h]
end Go.Proofs.T

/- The plain law of HullCells. -/
namespace Go.Proofs.T
open Go.AX Hull

theorem m91_ok {F : Nat} {s : Span} {m : Int} (hs : goodSpan s m) (hm : m ≤ 1000) {l : List Int} (h8 : Bytes l) (k : Nat) : Ok (fun r => s.Lo ≤ r.1 ∧ r.1 ≤ s.Hi) (m91_0 F s l k) := by
  unfold m91_0
  obtain ⟨h1, h2, h3⟩ := hs
  have a := dvb h8 k (n := 256) (by decide)
  have b := dvb h8 (k + 1) (n := 2) (by decide)
  generalize dv l k 256 = x at a ⊢
  generalize dv l (k + 1) 2 = y at b ⊢
  have e1 := Int.emod_nonneg (x + 256 * y) (b := s.Hi - s.Lo + 1) (by omega)
  have e2 := Int.emod_lt_of_pos (x + 256 * y) (b := s.Hi - s.Lo + 1) (by omega)
  repeat' (with_reducible refine ok_chk (by omega) ?_)
  exact ok_some ⟨by simp only []; omega, by simp only []; omega⟩

theorem m26_ok {F : Nat} {c : Cell} (hg : goodCell c) {l : List Int} (h8 : Bytes l) : Ok (fun i => goodIce i ∧ LeI (firstI c) i ∧ LeI i (lastI c)) (m26 F c l) := by
  unfold m26
  obtain ⟨g1, g2, g3, g4⟩ := hg
  refine ok_bnd _ (m91_ok g1 (by decide) h8 0) fun v1 h1 => ?_
  refine ok_bnd _ (m91_ok g2 (by decide) h8 _) fun v2 h2 => ?_
  refine ok_bnd _ (m91_ok g3 (by decide) h8 _) fun v3 h3 => ?_
  refine ok_bnd _ (m91_ok g4 (by decide) h8 _) fun v4 h4 => ?_
  simp only [goodSpan] at g1 g2 g3 g4
  refine ok_some ⟨⟨?_, ?_, ?_, ?_⟩, ⟨h1.1, h2.1, h3.1, h4.1⟩, ⟨h1.2, h2.2, h3.2, h4.2⟩⟩ <;> simp only [] <;> omega

theorem met_zero {s : Ship} (hc : check s = 0) {c : Cell} (hg : goodCell c) : met s c = 0 := by
  unfold met; rw [if_neg (by simp [hc])]; exact checkCell_ok.2 hg

/-- The cell that holds this ice alone. -/
def cellOf (i : Ice) : Cell := ⟨⟨i.Conc, i.Conc⟩, ⟨i.Thick, i.Thick⟩, ⟨i.Ridge, i.Ridge⟩, ⟨i.Press, i.Press⟩⟩
theorem cellOf_good {i : Ice} (h : goodIce i) : goodCell (cellOf i) := by
  simp only [goodIce, goodCell, goodSpan, cellOf] at *; omega

theorem beyondE_eq {s : Ship} (hc : check s = 0) {c : Cell} (hg : goodCell c) {v : Int} (hv : 0 ≤ v ∧ v ≤ 250) (ch : Bool) : beyondE s c v ch = (!bears s (lastI c) ch v, !bears s (firstI c) ch v, 0) := by
  unfold beyondE
  rw [if_neg (by simp [met_zero hc hg]), if_neg (by simp [within, hv.1, hv.2])]

theorem speed_iff {s : Ship} (hc : check s = 0) {i : Ice} (hi : goodIce i) {ch : Bool} {v : Int} (hv : 0 ≤ v ∧ v ≤ 250) (h : makes s i ch v = true) : v ≤ speed s i ch := by
  unfold speed greatest
  have h0 : makes s i ch 0 = true := makes_down hc hi ch 0 v (Int.le_refl _) hv.1 hv.2 h
  rw [if_pos h0]
  obtain ⟨a, b, c⟩ := great_is (so := fun v => makes s i ch v) (by decide) h0 (makes_down hc hi ch)
  exact (c v hv.1 hv.2).1 h

theorem goes_iff {s : Ship} (hc : check s = 0) {i : Ice} (hi : goodIce i) {ch : Bool} (h : goesP s i ch 10 = true) : 10 ≤ (goes s i ch).1 ∧ (goes s i ch).1 ≤ 250 ∧ ∀ v, 10 ≤ v → v ≤ 250 → (goesP s i ch v = true ↔ v ≤ (goes s i ch).1) := by
  rw [goes_eq, if_pos h]
  exact great_is (by decide) h (goes_down hc hi ch)

theorem m11_ok {F : Nat} (hF : 1000 ≤ F) {l m n : List Int} (hl : Bytes l) (hm : Bytes m) (hn : Bytes n) {x : Int} (hx : 0 ≤ x ∧ x ≤ 65535) (ch : Bool) : Ok (fun r => r = true) (m11 F l m n x ch) := by
  unfold m11
  refine ok_bnd _ (m15_ok (by omega) hl) fun s hc => ?_
  refine ok_bnd _ (m17_ok hm) fun c hg => ?_
  refine ok_bnd _ (m26_ok hg hn) fun i hi => ?_
  obtain ⟨hi, h1, h2⟩ := hi
  have hl := goodCell_last hg
  have hf := goodCell_first hg
  refine ok_bnde (m16_eq F c) ?_
  refine ok_bnde (m55_eq s c ch) ?_
  rw [speedsE, if_neg (by simp [met_zero hc hg])]
  simp only []
  rw [speedE_eq hc hi, speedE_eq hc hf, speedE_eq hc hl]
  have s1 := speed_mono hc hf hi h1 ch
  have s2 := speed_mono hc hi hl h2 ch
  refine ok_brk (fun h => ?_) (fun _ => ?_)
  · exfalso; simp at h; omega
  refine ok_bnde (m52_eq s c ch) ?_
  rw [besetE, if_neg (by simp [met_zero hc hg])]
  simp only []
  refine ok_brk (fun h => ?_) (fun _ => ?_)
  · exfalso; simp at h; omega
  refine ok_chk (by omega) (ok_chk (by omega) ?_)
  have hv : 0 ≤ x % 251 ∧ x % 251 ≤ 250 := by omega
  generalize x % 251 = v at hv ⊢
  refine ok_bnde (m56_eq s c v ch) ?_
  refine ok_bnde (b := cellOf i) rfl ?_
  refine ok_bnde (m56_eq s (cellOf i) v ch) ?_
  rw [beyondE_eq hc hg hv, beyondE_eq hc (cellOf_good hi) hv]
  have e1 : lastI (cellOf i) = i := rfl
  have e2 : firstI (cellOf i) = i := rfl
  rw [e1, e2]
  have b1 : bears s i ch v = true → bears s (firstI c) ch v = true := bears_mono hf hi h1 hv.1 (Int.le_refl _)
  have b2 : bears s (lastI c) ch v = true → bears s i ch v = true := bears_mono hi hl h2 hv.1 (Int.le_refl _)
  refine ok_brk (fun h => ?_) (fun _ => ?_)
  · exfalso
    generalize bears s i ch v = p at b1 b2 h
    generalize bears s (firstI c) ch v = q at b1 h
    generalize bears s (lastI c) ch v = r at b2 h
    cases p <;> cases q <;> cases r <;> simp_all
  refine ok_bnde (m56_eq s c 10 ch) ?_
  rw [beyondE_eq hc hg (by decide)]
  refine ok_brk (fun h => by simp at h) (fun _ => ?_)
  have hs : safeE s c ch = safe s c ch := by unfold safeE; rw [if_neg (by simp [met_zero hc hg])]
  rw [hs]
  simp only []
  refine ok_brk (fun h => ok_some ?_) (fun h => ?_)
  · have h := of_decide_eq_true h
    rw [safe, if_pos h]; rfl
  have h := of_decide_eq_false h
  refine ok_brk (fun h' => ok_some ?_) (fun h' => ?_)
  · have h' : bears s (lastI c) ch 10 = false := by simpa using h'
    rw [safe, if_neg h, if_pos (by rw [goes_ok, goesP, h', Bool.and_false])]; rfl
  have h' : bears s (lastI c) ch 10 = true := by simpa using h'
  have hk : makes s (lastI c) ch 10 = true := makes_of_speed hc hl (by decide) (by omega)
  have hgo : goesP s (lastI c) ch 10 = true := by rw [goesP, h', hk]; rfl
  obtain ⟨g1, g2, g3⟩ := goes_iff hc hl hgo
  rw [safe, if_neg h, if_neg (by simp [goes_ok, hgo])]
  simp only []
  generalize (goes s (lastI c) ch).1 = g at g1 g2 g3 ⊢
  have g4 := (g3 g g1 g2).2 (Int.le_refl _)
  simp only [goesP, Bool.and_eq_true] at g4
  have g5 := speed_iff hc hl ⟨by omega, g2⟩ g4.1
  refine ok_brk (fun h => ?_) (fun _ => ?_)
  · exfalso; simp at h; omega
  refine ok_bnde (m56_eq s c g ch) ?_
  rw [beyondE_eq hc hg ⟨by omega, g2⟩]
  rw [makesE, if_neg (by simp [asked_zero hc hi ⟨(by omega : 0 ≤ g), g2⟩])]
  have g6 := makes_mono hc hi hl h2 (by omega) (Int.le_refl _) g4.1
  refine ok_brk (fun h => ?_) (fun _ => ?_)
  · exfalso; simp [g6, g4.2] at h
  refine ok_join (fun _ => True) (fun _ _ => ok_some rfl) fun k hk => ?_
  refine ok_brk (fun h => ?_) (fun _ => hk _ trivial)
  have h := of_decide_eq_true h
  refine ok_chk (by omega) (ok_bnde (m56_eq s c (g + 1) ch) ?_)
  rw [beyondE_eq hc hg ⟨by omega, by omega⟩]
  rw [makesE, if_neg (by simp [asked_zero hc hl ⟨(by omega : 0 ≤ g + 1), (by omega : g + 1 ≤ 250)⟩])]
  refine ok_brk (fun h => ?_) (fun _ => hk _ trivial)
  exfalso
  have g7 := g3 (g + 1) (by omega) (by omega)
  have : goesP s (lastI c) ch (g + 1) = false := by
    cases e : goesP s (lastI c) ch (g + 1) with
    | false => rfl
    | true => have := g7.1 e; omega
  simp only [goesP] at this
  simp at h
  simp [h] at this
end Go.Proofs.T
