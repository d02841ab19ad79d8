/-
  This file has plain laws of the mirrors. Conditions: those that each theorem names.
-/
import Derived.KernelRfl
import Derived.Test.YtgpcfckbcldokaaDoorWa4
/- The plain law of HullMonotone: Made makes valid ships, Frozen valid cells, and the law answers true. -/
namespace Go.Proofs.T
open Go.AX Hull

def Bytes (l : List Int) : Prop := ∀ x ∈ l, 0 ≤ x ∧ x ≤ 255

theorem dvb {l : List Int} (h : Bytes l) (k : Nat) {n : Int} (hn : 1 ≤ n) : 0 ≤ dv l k n ∧ dv l k n ≤ n - 1 ∧ dv l k n ≤ 255 := dv_bd h hn

theorem m74_ok {F : Nat} {l : List Int} (h8 : Bytes l) {step wide most : Int} (hs : step = 1 ∨ step = 2) (hw : 1 ≤ wide ∧ wide ≤ 1000) (hm : 0 ≤ most ∧ most ≤ 1000) (k : Nat) :
    Ok (fun r => goodSpan r.1 most ∧ r.2 = k + 2) (m74_0 F 0 step wide most l k) := by
  unfold m74_0
  have h1 := dvb h8 k (n := most / step + 1 - 0 / step) (by rcases hs with rfl | rfl <;> omega)
  have h2 := dvb h8 (k + 1) (n := wide) hw.1
  generalize dv l k (most / step + 1 - 0 / step) = a at h1 ⊢
  generalize dv l (k + 1) wide = b at h2 ⊢
  rcases hs with rfl | rfl
  all_goals
    repeat' (with_reducible refine ok_chk (by omega) ?_)
    refine ok_some ⟨?_, rfl⟩
    simp only [goodSpan]
    split <;> omega

theorem m17_ok {F : Nat} {l : List Int} (h8 : Bytes l) : Ok goodCell (m17 F l) := by
  unfold m17
  refine ok_bnd _ (m74_ok h8 (.inl rfl) (by omega) (by omega) 0) fun v1 h1 => ?_
  refine ok_bnd _ (m74_ok h8 (.inr rfl) (by omega) (by omega) _) fun v2 h2 => ?_
  refine ok_bnd _ (m74_ok h8 (.inl rfl) (by omega) (by omega) _) fun v3 h3 => ?_
  refine ok_bnd _ (m74_ok h8 (.inl rfl) (by omega) (by omega) _) fun v4 h4 => ?_
  exact ok_some ⟨h1.1, h2.1, h3.1, h4.1⟩

/-- Points that can be the beginning of a steady curve; the last one is (x, y). -/
structure Pre (w : Int) (l : List Pt) (x y : Int) : Prop where
  len : 1 ≤ l.length
  x0 : (pt l 0).X = 0
  bd : ∀ i : Nat, i < l.length → 0 ≤ (pt l i).X ∧ (pt l i).X ≤ 400 ∧ 0 ≤ (pt l i).Y ∧ (pt l i).Y ≤ 20000
  st : ∀ i : Nat, 1 ≤ i → i < l.length → (pt l ((i : Int) - 1)).X < (pt l i).X ∧ 0 ≤ ((pt l i).Y - (pt l ((i : Int) - 1)).Y) * w
  last : pt l ((l.length : Int) - 1) = ⟨x, y⟩

theorem pt_old {l : List Pt} {p : Pt} {i : Int} (h0 : 0 ≤ i) (h : i < l.length) : pt (l ++ [p]) i = pt l i := by
  unfold pt
  have h : i.toNat < l.length := by omega
  simp [List.getD, List.getElem?_append_left h]

theorem pt_new {l : List Pt} {p : Pt} : pt (l ++ [p]) (l.length : Int) = p := by
  unfold pt
  simp [List.getD]

theorem Pre.one {w y : Int} (hy : 0 ≤ y ∧ y ≤ 20000) : Pre w [⟨0, y⟩] 0 y := by
  refine ⟨by simp, rfl, fun i hi => ?_, fun i h1 hi => ?_, rfl⟩
  · have : i = 0 := by simpa using hi
    subst this
    simp [pt]; omega
  · simp at hi; omega

theorem Pre.snoc {w x y x' y' : Int} {l : List Pt} (h : Pre w l x y) (hx : x < x' ∧ x' ≤ 400) (hy : 0 ≤ y' ∧ y' ≤ 20000) (hw : 0 ≤ (y' - y) * w) : Pre w (l ++ [⟨x', y'⟩]) x' y' := by
  have hl := h.len
  have hlast := h.last
  have hx0 := (h.bd (l.length - 1) (by omega)).1
  rw [show (((l.length - 1 : Nat)) : Int) = (l.length : Int) - 1 by omega, hlast] at hx0
  simp only [] at hx0
  refine ⟨by simp, by rw [pt_old (by omega) (by omega)]; exact h.x0, fun i hi => ?_, fun i h1 hi => ?_, ?_⟩
  · by_cases e : i < l.length
    · rw [pt_old (by omega) (by omega)]; exact h.bd i e
    · have : i = l.length := by simp at hi; omega
      subst this
      rw [pt_new]; simp only []; omega
  · by_cases e : i < l.length
    · rw [pt_old (by omega) (by omega), pt_old (by omega) (by omega)]; exact h.st i h1 e
    · have : i = l.length := by simp at hi; omega
      subst this
      rw [pt_new, pt_old (by omega) (by omega), hlast]
      exact ⟨hx.1, hw⟩
  · rw [show (((l ++ [(⟨x', y'⟩ : Pt)]).length : Int) - 1) = (l.length : Int) by simp, pt_new]

theorem Pre.steady {w x y : Int} {l : List Pt} (h : Pre w l x y) (hl : 2 ≤ l.length ∧ l.length ≤ 8) : steady l w = true ∧ endX l = x := by
  have hc : curve l = true := by
    refine curve_yes (k := l.length) ?_ h.x0 (fun j hj => ?_) (Nat.le_refl _)
    · simp [within]; omega
    · have h1 := h.bd j hj
      simp only [curveAt, within]
      by_cases e : j = 0
      · subst e
        have h0 := h.x0
        have h1' : 0 ≤ (pt l 0).X ∧ (pt l 0).X ≤ 400 ∧ 0 ≤ (pt l 0).Y ∧ (pt l 0).Y ≤ 20000 := h1
        simp; omega
      · have h2 := (h.st j (by omega) hj).1
        have h3 : ¬ (pt l (j : Int)).X ≤ (pt l ((j : Int) - 1)).X := by omega
        simp [h3]; omega
  refine ⟨steady_yes (k := l.length) hc (fun j hj h1 => ?_) (Nat.le_refl _), by rw [endX, h.last]⟩
  have h2 := (h.st j h1 hj).2
  simp only [steadyAt]
  simp; omega

theorem m15_ok {F : Nat} (hF : 100 ≤ F) {l : List Int} (h8 : Bytes l) : Ok (fun s => check s = 0) (m15 F l) := by
  have D := fun k n h => dvb h8 k (n := n) h
  unfold m15
  have d0 := D 0 6 (by omega); have d1 := D 1 256 (by omega); have d2 := D 2 256 (by omega); have d3 := D 3 256 (by omega); have d4 := D 4 21 (by omega); have d5 := D 5 101 (by omega)
  have d6 := D 6 240 (by omega); have d7 := D 7 256 (by omega); have d8 := D 8 256 (by omega); have d9 := D 9 4 (by omega)
  repeat' (with_reducible refine ok_chk (by omega) ?_)
  refine ok_join (fun (q : List Pt × Nat) => Pre (-1) q.1 (endX q.1) (pt q.1 ((q.1.length : Int) - 1)).Y ∧ 2 ≤ q.1.length ∧ q.1.length ≤ 8 ∧ 10 ≤ endX q.1 ∧ endX q.1 ≤ 250) (fun x1 h1 => ?_) fun k1 hk1 => ?_
  · refine ok_join (fun (q : List Pt × Nat) => Pre 1 q.1 (endX q.1) (pt q.1 ((q.1.length : Int) - 1)).Y ∧ 2 ≤ q.1.length ∧ q.1.length ≤ 8 ∧ endX q.1 ≤ 250) (fun x3 h3 => ?_) fun k3 hk3 => ?_
    · refine ok_join (fun (q : Int × List Pt × Nat) => ∃ x, Pre 1 q.2.1 x q.1 ∧ (pt q.2.1 0).Y = 0 ∧ q.2.1.length ≤ 4 ∧ x ≤ 390 ∧ 0 ≤ q.1 ∧ q.1 ≤ 3000) (fun x5 h5 => ?_) fun k5 hk5 => ?_
      · obtain ⟨x, hp, h0, hl, hx, hy⟩ := h5
        have e := D x5.2.2 256 (by omega)
        have hl1 := hp.len
        repeat' (with_reducible refine ok_chk (by omega) ?_)
        refine ok_some ?_
        have hq := (hp.snoc (x' := 400) (y' := x5.1 + 4 * dv l x5.2.2 256) (by omega) (by omega) (by omega)).steady (by simp; omega)
        obtain ⟨p1, l1, l2, e1, e2⟩ := h1
        obtain ⟨p3, l3, l4, e3⟩ := h3
        have s1 := p1.steady ⟨l1, l2⟩
        have s3 := p3.steady ⟨l3, l4⟩
        have r1 : rule1 (⟨1 + dv l 0 6, 100 + 390 * dv l 1 256, 10 + 7 * dv l 2 256, 10 + 1900 * dv l 3 256, x1.1, x3.1, x5.2.1 ++ [⟨400, x5.1 + 4 * dv l x5.2.2 256⟩], dv l 4 21, dv l 5 101, 2 * dv l 6 240, 4 * dv l 7 256⟩ : Ship) = true := by
          simp [rule1, within]; omega
        have r2 : rule2 (⟨1 + dv l 0 6, 100 + 390 * dv l 1 256, 10 + 7 * dv l 2 256, 10 + 1900 * dv l 3 256, x1.1, x3.1, x5.2.1 ++ [⟨400, x5.1 + 4 * dv l x5.2.2 256⟩], dv l 4 21, dv l 5 101, 2 * dv l 6 240, 4 * dv l 7 256⟩ : Ship) = true := by
          simp [rule2, within]; omega
        have r3 : rule3 (⟨1 + dv l 0 6, 100 + 390 * dv l 1 256, 10 + 7 * dv l 2 256, 10 + 1900 * dv l 3 256, x1.1, x3.1, x5.2.1 ++ [⟨400, x5.1 + 4 * dv l x5.2.2 256⟩], dv l 4 21, dv l 5 101, 2 * dv l 6 240, 4 * dv l 7 256⟩ : Ship) = true := by
          simp [rule3, within]; omega
        have r4 : rule4 (⟨1 + dv l 0 6, 100 + 390 * dv l 1 256, 10 + 7 * dv l 2 256, 10 + 1900 * dv l 3 256, x1.1, x3.1, x5.2.1 ++ [⟨400, x5.1 + 4 * dv l x5.2.2 256⟩], dv l 4 21, dv l 5 101, 2 * dv l 6 240, 4 * dv l 7 256⟩ : Ship) = true := by
          simp [rule4, within, s1.1]; omega
        have r5 : rule5 (⟨1 + dv l 0 6, 100 + 390 * dv l 1 256, 10 + 7 * dv l 2 256, 10 + 1900 * dv l 3 256, x1.1, x3.1, x5.2.1 ++ [⟨400, x5.1 + 4 * dv l x5.2.2 256⟩], dv l 4 21, dv l 5 101, 2 * dv l 6 240, 4 * dv l 7 256⟩ : Ship) = true := by
          simp [rule5, s3.1]; omega
        have r6 : rule6 (⟨1 + dv l 0 6, 100 + 390 * dv l 1 256, 10 + 7 * dv l 2 256, 10 + 1900 * dv l 3 256, x1.1, x3.1, x5.2.1 ++ [⟨400, x5.1 + 4 * dv l x5.2.2 256⟩], dv l 4 21, dv l 5 101, 2 * dv l 6 240, 4 * dv l 7 256⟩ : Ship) = true := by
          simp only [rule6, hq.1, hq.2]; rw [pt_old (by omega) (by omega), h0]; rfl
        simp only [check, r1, r2, r3, r4, r5, r6]; rfl
      · have e9 := D x3.2 4 (by omega)
        refine ok_loop (fun (q : Int × Int × Int × List Pt × Nat) => Pre 1 q.2.2.2.1 q.1 q.2.1 ∧ (pt q.2.2.2.1 0).Y = 0 ∧ 0 ≤ q.2.2.1 ∧ q.2.2.1 ≤ 3 ∧ (q.2.2.2.1.length : Int) = q.2.2.1 + 1 ∧ q.1 ≤ 90 * q.2.2.1 ∧ 0 ≤ q.1 ∧ 0 ≤ q.2.1 ∧ q.2.1 ≤ 765 * q.2.2.1) (fun q => (3 - q.2.2.1).toNat) ?_ (by simp; omega) fun q next hI hn => ?_
        · exact ⟨Pre.one (by omega), rfl, by simp, by simp, rfl, by simp, by simp, by simp, by simp⟩
        · obtain ⟨hp, h0, h1', h2, h3', h4, h5, h6, h7⟩ := hI
          refine ok_brk (fun hc => ?_) (fun hc => ?_)
          · have hc := of_decide_eq_true hc
            have a1 := D q.2.2.2.2 90 (by omega)
            have a2 := D (q.2.2.2.2 + 1) 256 (by omega)
            repeat' (with_reducible refine ok_chk (by omega) ?_)
            refine hn _ ⟨hp.snoc (by omega) (by omega) (by omega), by simp only []; rw [pt_old (by omega) (by omega)]; exact h0, by first | omega | (simp only []; omega), by first | omega | (simp only []; omega), by simp only [List.length_append, List.length_singleton]; omega, by first | omega | (simp only []; omega), by first | omega | (simp only []; omega), by first | omega | (simp only []; omega), by first | omega | (simp only []; omega)⟩ (by first | omega | (simp only []; omega))
          · have hc := of_decide_eq_false hc
            exact hk5 _ ⟨q.1, hp, h0, by first | omega | (simp only []; omega), by omega, by first | omega | (simp only []; omega), by first | omega | (simp only []; omega)⟩
    · have e9 := D (x1.2 + 1) 3 (by omega)
      have e8 := D x1.2 50 (by omega)
      refine ok_chk (by omega) ?_
      refine ok_loop (fun (q : Int × Int × Int × List Pt × Nat) => Pre 1 q.2.2.2.1 q.1 q.2.1 ∧ 0 ≤ q.2.2.1 ∧ q.2.2.1 ≤ 3 ∧ q.2.2.1 ≤ 1 + dv l (x1.2 + 1) 3 ∧ (q.2.2.2.1.length : Int) = q.2.2.1 + 1 ∧ q.1 ≤ 80 * q.2.2.1 ∧ 0 ≤ q.1 ∧ 0 ≤ q.2.1 ∧ q.2.1 ≤ 50 + 765 * q.2.2.1) (fun q => (3 - q.2.2.1).toNat) ?_ (by simp; omega) fun q next hI hn => ?_
      · exact ⟨Pre.one (by omega), by simp, by simp, by first | omega | (simp only []; omega), rfl, by simp, by simp, by first | omega | (simp only []; omega), by first | omega | (simp only []; omega)⟩
      · obtain ⟨hp, h1', h2, h2', h3', h4, h5, h6, h7⟩ := hI
        refine ok_brk (fun hc => ?_) (fun hc => ?_)
        · have hc := of_decide_eq_true hc
          have a1 := D q.2.2.2.2 80 (by omega)
          have a2 := D (q.2.2.2.2 + 1) 256 (by omega)
          repeat' (with_reducible refine ok_chk (by omega) ?_)
          refine hn _ ⟨hp.snoc (by omega) (by omega) (by omega), by first | omega | (simp only []; omega), by first | omega | (simp only []; omega), by first | omega | (simp only []; omega), by simp only [List.length_append, List.length_singleton]; omega, by first | omega | (simp only []; omega), by first | omega | (simp only []; omega), by first | omega | (simp only []; omega), by first | omega | (simp only []; omega)⟩ (by first | omega | (simp only []; omega))
        · have hc := of_decide_eq_false hc
          have hle : endX q.2.2.2.1 = q.1 := by rw [endX, hp.last]
          refine hk3 _ ⟨?_, by first | omega | (simp only []; omega), by first | omega | (simp only []; omega), by simp only [hle]; omega⟩
          simp only [hle, hp.last]; exact hp
  · refine ok_chk (by omega) ?_
    refine ok_loop (fun (q : Int × Int × Int × List Pt × Nat) => Pre (-1) q.2.2.2.1 q.1 q.2.1 ∧ 0 ≤ q.2.2.1 ∧ q.2.2.1 ≤ 4 ∧ q.2.2.1 ≤ 1 + dv l 9 4 ∧ (q.2.2.2.1.length : Int) = q.2.2.1 + 1 ∧ q.1 ≤ 49 * q.2.2.1 ∧ 10 * q.2.2.1 ≤ q.1 ∧ 0 ≤ q.2.1 ∧ q.2.1 ≤ 5300) (fun q => (4 - q.2.2.1).toNat) ?_ (by show (4 - (0 : Int)).toNat < F; omega) fun q next hI hn => ?_
    · exact ⟨Pre.one (by omega), by simp, by simp, by first | omega | (simp only []; omega), rfl, by simp, by simp, by first | omega | (simp only []; omega), by first | omega | (simp only []; omega)⟩
    · obtain ⟨hp, h1', h2, h2', h3', h4, h5, h6, h7⟩ := hI
      refine ok_brk (fun hc => ?_) (fun hc => ?_)
      · have hc := of_decide_eq_true hc
        have a1 := D q.2.2.2.2 40 (by omega)
        have a2 := D (q.2.2.2.2 + 1) 101 (by omega)
        have hm := mul_nn (x := q.2.1) (y := dv l (q.2.2.2.2 + 1) 101) (a := 0) (A := 5300) (b := 0) (B := 100) (by omega) (by omega) (by decide) (by decide)
        have hlen : (q.2.2.2.1 ++ [(⟨0, 0⟩ : Pt)]).length = q.2.2.2.1.length + 1 := by simp
        have hm2 : q.2.1 * dv l (q.2.2.2.2 + 1) 101 ≤ q.2.1 * 100 := Int.mul_le_mul_of_nonneg_left (by omega) (by omega)
        generalize q.2.1 * dv l (q.2.2.2.2 + 1) 101 = pr at hm hm2 ⊢
        repeat' (with_reducible refine ok_chk (by omega) ?_)
        refine hn _ ⟨hp.snoc (by omega) (by omega) (by omega), by first | omega | (simp only []; omega), by first | omega | (simp only []; omega), by first | omega | (simp only []; omega), by simp only [List.length_append, List.length_singleton]; omega, by first | omega | (simp only []; omega), by first | omega | (simp only []; omega), by first | omega | (simp only []; omega), by first | omega | (simp only []; omega)⟩ (by first | omega | (simp only []; omega))
      · have hc := of_decide_eq_false hc
        have hle : endX q.2.2.2.1 = q.1 := by rw [endX, hp.last]
        refine hk1 _ ⟨?_, by first | omega | (simp only []; omega), by first | omega | (simp only []; omega), by simp only [hle]; omega, by simp only [hle]; omega⟩
        simp only [hle, hp.last]; exact hp
end Go.Proofs.T

/- The reference's functions of the hull layer: what they compute, against the program's. -/
namespace Go.Proofs.T
open Go.AX Hull

section
variable {α β : Type} {post : α → Prop}
end

/-- Ships as light as a law looks at. -/
structure Light (s : Ship) : Prop where
  t : s.Thrust.length ≤ 20
  w : s.Water.length ≤ 20
  i : s.Ice.length ≤ 20

instance (s : Ship) : Decidable (Light s) := decidable_of_iff (s.Thrust.length ≤ 20 ∧ s.Water.length ≤ 20 ∧ s.Ice.length ≤ 20) ⟨fun ⟨a, b, c⟩ => ⟨a, b, c⟩, fun h => ⟨h.t, h.w, h.i⟩⟩

/-- The piece of a curve that ends at its point i, at x. -/
def segN (l : List Pt) (i x : Int) : Int := (pt l (i - 1)).Y * ((pt l i).X - (pt l (i - 1)).X) + ((pt l i).Y - (pt l (i - 1)).Y) * (x - (pt l (i - 1)).X)
def segD (l : List Pt) (i : Int) : Int := (pt l i).X - (pt l (i - 1)).X

section
variable {α : Type} {post : α → Prop}
end

end Go.Proofs.T

/- The reference's functions of the hull layer, second part: resistances, speeds, loads, limits. -/
namespace Go.Proofs.T
open Go.AX Hull

theorem makes_down {s : Ship} (hc : check s = 0) {i : Ice} (hi : goodIce i) (ch : Bool) : ∀ u v, (0 : Int) ≤ u → u ≤ v → v ≤ 250 → makes s i ch v = true → makes s i ch u = true :=
  fun _ _ h1 h2 _ h => makes_mono hc hi hi .rfl h1 h2 h

theorem great_eq {so : Int → Bool} {lo hi r : Int} (hd : ∀ u v, lo ≤ u → u ≤ v → v ≤ hi → so v = true → so u = true) (h1 : lo ≤ r) (h2 : r ≤ hi) (hr : so r = true) (hn : ∀ u, r < u → u ≤ hi → so u = false) : so lo = true ∧ great so lo hi = r := by
  have h0 := hd lo r (Int.le_refl _) h1 h2 hr
  obtain ⟨a, b, c⟩ := great_is (by omega) h0 hd
  refine ⟨h0, ?_⟩
  have c1 := (c r h1 h2).1 hr
  rcases Int.lt_or_le r (great so lo hi) with h | h
  · have := (c _ a b).2 (Int.le_refl _)
    rw [hn _ h b] at this; cases this
  · omega

/-- A look from the least number on, for the last one for which something is so. -/
structure Last (so : Int → Bool) (lo d out n : Int) : Prop where
  it : (out = d ∧ ∀ u, lo ≤ u → u < n → so u = false) ∨ (lo ≤ out ∧ out < n ∧ so out = true ∧ ∀ u, out < u → u < n → so u = false)

theorem Last.start {so : Int → Bool} {lo d : Int} : Last so lo d d lo := ⟨.inl ⟨rfl, fun u h1 h2 => by omega⟩⟩
theorem Last.no {so : Int → Bool} {lo d out n : Int} (hl : Last so lo d out n) (h : so n = false) : Last so lo d out (n + 1) := by
  refine ⟨?_⟩
  rcases hl.it with ⟨h1, h2⟩ | ⟨h1, h2, h3, h4⟩
  · exact .inl ⟨h1, fun u a b => by by_cases e : u = n; exact e ▸ h; exact h2 u a (by omega)⟩
  · exact .inr ⟨h1, by omega, h3, fun u a b => by by_cases e : u = n; exact e ▸ h; exact h4 u a (by omega)⟩
theorem Last.greatest {so : Int → Bool} {lo hi d out : Int} (hl : Last so lo d out (hi + 1)) (hle : lo ≤ hi) (hd : ∀ u v, lo ≤ u → u ≤ v → v ≤ hi → so v = true → so u = true) :
    (out = d ∧ Hull.greatest so lo hi = (0, false) ∧ ∀ u, lo ≤ u → u ≤ hi → so u = false) ∨ (Hull.greatest so lo hi = (out, true) ∧ lo ≤ out ∧ out ≤ hi) := by
  unfold Hull.greatest
  rcases hl.it with ⟨h1, h2⟩ | ⟨h1, h2, h3, h4⟩
  · rw [h2 lo (Int.le_refl _) (by omega)]; exact .inl ⟨h1, by simp, fun u h3 h4 => h2 u h3 (by omega)⟩
  · obtain ⟨a, b⟩ := great_eq hd h1 (by omega) h3 (fun u h5 h6 => h4 u h5 (by omega))
    rw [if_pos a, b]; exact .inr ⟨rfl, h1, by omega⟩

instance (s : Span) (n : Int) : Decidable (goodSpan s n) := by unfold goodSpan; infer_instance

/-- Where one ship is first slower than another one. -/
def slowFrom (a b : Ship) : Nat → Int → Int × Int
  | 0, _ => (0, 4)
  | f + 1, n => if speed a (lev n) false < speed b (lev n) false then (n, 0) else slowFrom a b f (n + 1)
def slowerE (a b : Ship) : Int × Int := if check a ≠ 0 then (0, check a) else if check b ≠ 0 then (0, check b) else slowFrom a b 401 0

end Go.Proofs.T

/- The reference's functions of the hull layer, third part: corners, safe speeds, legs, waits. -/
namespace Go.Proofs.T
open Go.AX Hull

def corners (c : Cell) : List Ice :=
  [c.Press.Lo, c.Press.Hi].flatMap fun p => [c.Ridge.Lo, c.Ridge.Hi].flatMap fun r => [c.Thick.Lo, c.Thick.Hi].flatMap fun t => [c.Conc.Lo, c.Conc.Hi].map fun n => ⟨n, t, r, p⟩

end Go.Proofs.T

/- The reference's functions of the hull layer, fourth part: speeds in a cell, waits. -/
namespace Go.Proofs.T
open Go.AX Hull

theorem speed_bd {s : Ship} (hc : check s = 0) {i : Ice} (hi : goodIce i) (ch : Bool) : 0 ≤ speed s i ch ∧ speed s i ch ≤ 250 := by
  unfold speed greatest
  by_cases h0 : makes s i ch 0 = true
  · rw [if_pos h0]
    obtain ⟨a, b, _⟩ := great_is (so := fun v => makes s i ch v) (by decide) h0 (makes_down hc hi ch)
    exact ⟨a, b⟩
  · rw [if_neg h0]; simp

/-- The least and the greatest speed in a cell. -/
def speedsE (s : Ship) (c : Cell) (ch : Bool) : Span × Int := if met s c ≠ 0 then (⟨0, 0⟩, met s c) else (⟨speed s (lastI c) ch, speed s (firstI c) ch⟩, 0)
def besetE (s : Ship) (c : Cell) (ch : Bool) : Bool × Bool × Int := if met s c ≠ 0 then (false, false, met s c) else (decide (speed s (lastI c) ch < 10), decide (speed s (firstI c) ch < 10), 0)

theorem pressOK_span {p : Span} : pressOK p = true ↔ goodSpan p 3 := by
  simp only [pressOK, Bool.not_eq_true', Bool.or_eq_false_iff, decide_eq_false_iff_not, goodSpan]
  omega

end Go.Proofs.T

/- Speeds in a cell, beset, beyond: what the program computes. -/
namespace Go.Proofs.T
open Go.AX Hull

theorem LeI_speed {s : Ship} (hc : check s = 0) {c : Cell} (hg : goodCell c) (ch : Bool) : speed s (lastI c) ch ≤ speed s (firstI c) ch :=
  speed_mono hc (goodCell_first hg) (goodCell_last hg) (first_le_last hg) ch

theorem m55_eq {F : Nat} (s : Ship) (c : Cell) (ch : Bool) : m55 F s c ch = some (speedsE s c ch) := by
  apply Ok.eq
  unfold m55 speedsE
  refine ok_brk (fun h => ok_some ?_) (fun h => ?_)
  · rw [if_pos (by simpa using h)]
  have hm : met s c = 0 := by simpa using h
  rw [if_neg (by simp [hm])]
  obtain ⟨hc, hg⟩ := met_ok hm
  have hl := goodCell_last hg
  have hf := goodCell_first hg
  have bl := speed_bd hc hl ch
  have bf := speed_bd hc hf ch
  have hle := LeI_speed hc hg ch
  refine ok_join (fun q : Int × Int => q = (speed s (lastI c) ch, speed s (firstI c) ch)) (fun q hq => ok_some (by rw [hq])) fun k hk => ?_
  refine ok_bnde (b := ()) rfl ?_
  rw [chk_pos hc, chk_pos hf, bnd_pos]
  refine ok_brk (fun h => ?_) (fun h => hk _ ?_)
  · rw [chk_pos hc, chk_pos hl, bnd_pos]
    refine hk _ ?_
    simp only []
    rw [Prod.mk.injEq]
    constructor
    · split <;> split <;> omega
    · split <;> split <;> omega
  · have h : firstI c = lastI c := by simpa using h
    simp only []
    rw [← h, Prod.mk.injEq]
    constructor
    · split <;> omega
    · split <;> omega

theorem m52_eq {F : Nat} (s : Ship) (c : Cell) (ch : Bool) : m52 F s c ch = some (besetE s c ch) := by
  unfold m52
  rw [m55_eq, bnd_pos]
  unfold speedsE besetE
  by_cases h : met s c = 0
  · rw [if_neg (by simp [h]), if_neg (by simp [h])]; rfl
  · rw [if_pos h, if_pos h]
    rw [brk_pos (by simpa using h)]

/-- Whether the ice bears more than her hull does. -/
def beyondE (s : Ship) (c : Cell) (v : Int) (ch : Bool) : Bool × Bool × Int :=
  if met s c ≠ 0 then (false, false, met s c) else if within v 0 250 = false then (false, false, 6) else (!bears s (lastI c) ch v, !bears s (firstI c) ch v, 0)

end Go.Proofs.T

/- The plain law of HullCells. -/
namespace Go.Proofs.T
open Go.AX Hull

theorem met_zero {s : Ship} (hc : check s = 0) {c : Cell} (hg : goodCell c) : met s c = 0 := by
  unfold met; rw [if_neg (by simp [hc])]; exact checkCell_ok.2 hg

/-- The cell that holds this ice alone. -/
def cellOf (i : Ice) : Cell := ⟨⟨i.Conc, i.Conc⟩, ⟨i.Thick, i.Thick⟩, ⟨i.Ridge, i.Ridge⟩, ⟨i.Press, i.Press⟩⟩
end Go.Proofs.T

/- The plain law of HullWaits. -/
namespace Go.Proofs.T
open Go.AX Hull

/-- The cell under another pressure. -/
def under (c : Cell) (p : Span) : Cell := ⟨c.Conc, c.Thick, c.Ridge, p⟩
def goesA (s : Ship) (c : Cell) (p : Span) : Prop := 10 ≤ speed s (firstI (under c p)) false
def goesB (s : Ship) (c : Cell) (p : Span) : Prop := 10 ≤ speed s (lastI (under c p)) false
instance (s : Ship) (c : Cell) (p : Span) : Decidable (goesA s c p) := by unfold goesA; infer_instance
instance (s : Ship) (c : Cell) (p : Span) : Decidable (goesB s c p) := by unfold goesB; infer_instance

theorem freeFrom_is {s : Ship} {c : Cell} (d : Span) : ∀ {l : List Span} {h lo : Int}, 0 ≤ h → (∀ p ∈ l, goesB s c p → goesA s c p) →
    (freeFrom s c l h lo = (⟨0, 0⟩, 4) ∧ ∀ j < l.length, ¬ goesB s c (l.getD j d)) ∨
    ∃ (k : Nat) (x : Int), k < l.length ∧ goesB s c (l.getD k d) ∧ (∀ j < k, ¬ goesB s c (l.getD j d)) ∧ freeFrom s c l h lo = (⟨x, h + k⟩, 0) ∧ (0 ≤ lo → x = lo) ∧
      (lo < 0 → ∃ m : Nat, m ≤ k ∧ x = h + m ∧ goesA s c (l.getD m d) ∧ ∀ j < m, ¬ goesA s c (l.getD j d)) := by
  intro l
  induction l with
  | nil => intro h lo _ _; exact .inl ⟨rfl, fun j hj => by simp at hj⟩
  | cons p r ih =>
    intro h lo hh hBA
    have hp := hBA p (List.mem_cons_self ..)
    have eA : (decide (speed s (firstI (under c p)) false ≥ 10)) = decide (goesA s c p) := rfl
    by_cases hB : goesB s c p
    · refine .inr ⟨0, if (decide (lo < 0) && decide (goesA s c p)) = true then h else lo, by simp, hB, fun j hj => by omega, ?_, fun h0 => ?_, fun h0 => ⟨0, Nat.le_refl _, ?_, hp hB, fun j hj => by omega⟩⟩
      · rw [freeFrom]
        have hB' : speed s (lastI ⟨c.Conc, c.Thick, c.Ridge, p⟩) false ≥ 10 := hB
        rw [if_pos hB']
        simp only [Int.natCast_zero, Int.add_zero]
        rfl
      · rw [if_neg (by simp; omega)]
      · rw [if_pos (by simp [h0, hp hB])]; simp
    · have hB' : ¬ speed s (lastI ⟨c.Conc, c.Thick, c.Ridge, p⟩) false ≥ 10 := hB
      have e : freeFrom s c (p :: r) h lo = freeFrom s c r (h + 1) (if (decide (lo < 0) && decide (goesA s c p)) = true then h else lo) := by
        rw [freeFrom, if_neg hB']; rfl
      rw [e]
      rcases ih (h := h + 1) (lo := if (decide (lo < 0) && decide (goesA s c p)) = true then h else lo) (by omega) (fun q hq => hBA q (List.mem_cons_of_mem _ hq)) with ⟨h1, h2⟩ | ⟨k, x, h1, h2, h3, h4, h5, h6⟩
      · refine .inl ⟨h1, fun j hj => ?_⟩
        cases j with
        | zero => exact hB
        | succ j => exact h2 j (by simpa using hj)
      · refine .inr ⟨k + 1, x, by simpa using h1, by simpa using h2, fun j hj => ?_, ?_, fun h0 => ?_, fun h0 => ?_⟩
        · cases j with
          | zero => exact hB
          | succ j => simpa using h3 j (by omega)
        · rw [h4]; congr 2; omega
        · rw [if_neg (by simp; omega)] at h5; exact h5 h0
        · by_cases hA : goesA s c p
          · rw [if_pos (by simp [h0, hA])] at h5
            exact ⟨0, by omega, by rw [h5 hh]; simp, hA, fun j hj => by omega⟩
          · rw [if_neg (by simp [hA])] at h6
            obtain ⟨m, m1, m2, m3, m4⟩ := h6 h0
            refine ⟨m + 1, by omega, by rw [m2]; omega, by simpa using m3, fun j hj => ?_⟩
            cases j with
            | zero => exact hA
            | succ j => simpa using m4 j (by omega)

theorem under_good {c : Cell} (hg : goodCell c) {p : Span} (hp : goodSpan p 3) : goodCell (under c p) := ⟨hg.1, hg.2.1, hg.2.2.1, hp⟩

/-- The second's spans lie below the first's. -/
structure Waits (l m : List Span) : Prop where
  len : l.length = m.length
  most : l.length ≤ 20
  each : ∀ j < l.length, goodSpan (l.getD j ⟨0, 0⟩) 3 ∧ goodSpan (m.getD j ⟨0, 0⟩) 3 ∧ (m.getD j ⟨0, 0⟩).Lo ≤ (l.getD j ⟨0, 0⟩).Lo ∧ (m.getD j ⟨0, 0⟩).Hi ≤ (l.getD j ⟨0, 0⟩).Hi

theorem Waits.nil : Waits [] [] := ⟨rfl, by simp, fun j hj => by simp at hj⟩
theorem Waits.snoc {l m : List Span} (h : Waits l m) (hl : l.length < 20) {p q : Span} (hp : goodSpan p 3) (hq : goodSpan q 3) (h1 : q.Lo ≤ p.Lo) (h2 : q.Hi ≤ p.Hi) : Waits (l ++ [p]) (m ++ [q]) := by
  refine ⟨by simp [h.len], by simp; omega, fun j hj => ?_⟩
  by_cases e : j < l.length
  · have e' : j < m.length := by rw [← h.len]; exact e
    have := h.each j e
    simpa [List.getD, List.getElem?_append_left e, List.getElem?_append_left e'] using this
  · have : j = l.length := by simp at hj; omega
    subst this
    have e1 : (l ++ [p]).getD l.length ⟨0, 0⟩ = p := by simp [List.getD]
    have e2 : (m ++ [q]).getD l.length ⟨0, 0⟩ = q := by rw [h.len]; simp [List.getD]
    rw [e1, e2]
    exact ⟨hp, hq, h1, h2⟩

theorem all_press {l : List Span} (h : ∀ j < l.length, goodSpan (l.getD j ⟨0, 0⟩) 3) : l.all pressOK = true :=
  all_sp (k := l.length) (Nat.le_refl _) fun j hj => pressOK_span.2 (by simpa [sp] using h j hj)

theorem free_from {s : Ship} (hc : check s = 0) {c : Cell} (hg : goodCell c) {l : List Span} (hl : l.length ≤ 20) (h : ∀ j < l.length, goodSpan (l.getD j ⟨0, 0⟩) 3) : free s c l = freeFrom s c l 0 (-1) := by
  unfold free
  rw [if_neg (by simp [met_zero hc hg]), if_neg (by omega), if_neg (by simp [all_press h])]

theorem BA {s : Ship} (hc : check s = 0) {c : Cell} (hg : goodCell c) {p : Span} (hp : goodSpan p 3) : goesB s c p → goesA s c p := by
  intro h
  have := LeI_speed hc (under_good hg hp) false
  unfold goesA; unfold goesB at h; omega

theorem mem_each {l : List Span} (h : ∀ j < l.length, goodSpan (l.getD j ⟨0, 0⟩) 3) : ∀ p ∈ l, goodSpan p 3 := fun p hp => by
  obtain ⟨i, hi, rfl⟩ := List.getElem_of_mem hp
  simpa [List.getD, hi] using h i hi

theorem A_mono {s : Ship} (hc : check s = 0) {c : Cell} (hg : goodCell c) {p q : Span} (hp : goodSpan p 3) (hq : goodSpan q 3) (h1 : q.Lo ≤ p.Lo) (h : goesA s c p) : goesA s c q := by
  have := speed_mono hc (goodCell_first (under_good hg hq)) (goodCell_first (under_good hg hp)) ⟨Int.le_refl _, Int.le_refl _, Int.le_refl _, h1⟩ false
  unfold goesA at *; omega

theorem B_mono {s : Ship} (hc : check s = 0) {c : Cell} (hg : goodCell c) {p q : Span} (hp : goodSpan p 3) (hq : goodSpan q 3) (h1 : q.Hi ≤ p.Hi) (h : goesB s c p) : goesB s c q := by
  have := speed_mono hc (goodCell_last (under_good hg hq)) (goodCell_last (under_good hg hp)) ⟨Int.le_refl _, Int.le_refl _, Int.le_refl _, h1⟩ false
  unfold goesB at *; omega

theorem m9_ok {F : Nat} (hF : 1000 ≤ F) {l1 l2 l3 l4 : List Int} (h1 : Bytes l1) (h2 : Bytes l2) (h3 : Bytes l3) (h4 : Bytes l4) : Ok (fun r => r = true) (m9 F l1 l2 l3 l4) := by
  unfold m9
  refine ok_bnd _ (m15_ok (by omega) h1) fun s hc => ?_
  refine ok_bnd _ (m17_ok h2) fun c hg => ?_
  refine ok_join (fun q : List Span × List Span => Waits q.1 q.2) (fun q hW => ?_) fun k hk => ?_
  · obtain ⟨P, Q⟩ := q
    simp only [] at hW ⊢
    have gP : ∀ j < P.length, goodSpan (P.getD j ⟨0, 0⟩) 3 := fun j hj => (hW.each j hj).1
    have gQ : ∀ j < Q.length, goodSpan (Q.getD j ⟨0, 0⟩) 3 := fun j hj => (hW.each j (by rw [hW.len]; exact hj)).2.1
    have fP := free_from hc hg hW.most gP
    have fQ := free_from hc hg (by rw [← hW.len]; exact hW.most) gQ
    rw [fP, fQ]
    have rP := freeFrom_is (s := s) (c := c) ⟨0, 0⟩ (l := P) (h := 0) (lo := -1) (Int.le_refl _) fun p hp => BA hc hg (mem_each gP p hp)
    have rQ := freeFrom_is (s := s) (c := c) ⟨0, 0⟩ (l := Q) (h := 0) (lo := -1) (Int.le_refl _) fun p hp => BA hc hg (mem_each gQ p hp)
    have hbes : ∀ j : Int, 0 ≤ j → j < P.length → besetE s ⟨c.Conc, c.Thick, c.Ridge, sp P j⟩ false = (decide (¬ goesB s c (P.getD j.toNat ⟨0, 0⟩)), decide (¬ goesA s c (P.getD j.toNat ⟨0, 0⟩)), 0) := fun j h0 hj => by
      have hu := under_good hg (gP j.toNat (by omega))
      have hm : met s ⟨c.Conc, c.Thick, c.Ridge, sp P j⟩ = 0 := met_zero hc hu
      rw [besetE, if_neg (by simp [hm]), Prod.mk.injEq, Prod.mk.injEq]
      refine ⟨?_, ?_, rfl⟩
      · rw [decide_eq_decide]; unfold goesB; show speed s (lastI (under c (P.getD j.toNat ⟨0, 0⟩))) false < 10 ↔ _; omega
      · rw [decide_eq_decide]; unfold goesA; show speed s (firstI (under c (P.getD j.toNat ⟨0, 0⟩))) false < 10 ↔ _; omega
    rcases rP with ⟨e1, e2⟩ | ⟨k, x, a1, a2, a3, a4, _, a6⟩
    · rw [e1]
      refine ok_brk (fun h => by simp at h) (fun _ => ?_)
      refine ok_join (fun _ => True) (fun _ _ => ok_some rfl) fun k3 hk3 => ?_
      refine ok_loop (fun q : Int × Int × Int => 0 ≤ q.1 ∧ q.1 ≤ P.length) (fun q => (P.length - q.1).toNat) ⟨by simp, by simp⟩ (by show ((P.length : Int) - 0).toNat < F; have := hW.most; omega) fun q next hI hn => ?_
      obtain ⟨i, u, v⟩ := q
      obtain ⟨b0, b1⟩ := hI
      simp only [] at b0 b1 ⊢
      refine ok_brk (fun h => ?_) (fun _ => hk3 _ trivial)
      have h := of_decide_eq_true h
      refine ok_join (fun _ => True) (fun q _ => ok_chk (by have := hW.most; omega) (hn _ ⟨by simp only []; omega, by simp only []; omega⟩ (by simp only []; omega))) fun k5 hk5 => ?_
      refine ok_chk ⟨b0, h⟩ (ok_bnde (m52_eq s _ false) ?_)
      rw [hbes i b0 h]
      have := e2 i.toNat (by omega)
      refine ok_brk (fun h => by simp at h) (fun _ => ok_brk (fun _ => ok_brk (fun h => ?_) (fun _ => hk5 _ trivial)) (fun h => by simp at h))
      simp at h; exact absurd h this
    · rw [a4]
      obtain ⟨m, m1, m2, m3, m4⟩ := a6 (by decide)
      rcases rQ with ⟨e1, e2⟩ | ⟨k', x', c1, c2, c3, c4, _, c6⟩
      · have hw := hW.each k a1
        exact absurd (B_mono hc hg hw.1 hw.2.1 hw.2.2.2 a2) (e2 k (by rw [← hW.len]; exact a1))
      obtain ⟨m', m1', m2', m3', m4'⟩ := c6 (by decide)
      have hkk : k' ≤ k := by
        have hw := hW.each k a1
        have := B_mono hc hg hw.1 hw.2.1 hw.2.2.2 a2
        by_cases e : k < k'
        · exact absurd this (c3 k e)
        · omega
      have hmm : m' ≤ m := by
        have hw := hW.each m (by omega)
        have := A_mono hc hg hw.1 hw.2.1 hw.2.2.1 m3
        by_cases e : m < m'
        · exact absurd this (m4' m e)
        · omega
      rw [c4]
      refine ok_brk (fun h => ?_) (fun _ => ?_)
      · exfalso; simp at h; omega
      refine ok_join (fun _ => True) (fun _ _ => ok_some rfl) fun k3 hk3 => ?_
      refine ok_loop (fun q : Int × Int × Int => 0 ≤ q.1 ∧ q.1 ≤ P.length) (fun q => (P.length - q.1).toNat) ⟨by simp, by simp⟩ (by show ((P.length : Int) - 0).toNat < F; have := hW.most; omega) fun q next hI hn => ?_
      obtain ⟨i, u, v⟩ := q
      obtain ⟨b0, b1⟩ := hI
      simp only [] at b0 b1 ⊢
      refine ok_brk (fun h => ?_) (fun _ => hk3 _ trivial)
      have h := of_decide_eq_true h
      refine ok_join (fun _ => True) (fun q _ => ok_chk (by have := hW.most; omega) (hn _ ⟨by simp only []; omega, by simp only []; omega⟩ (by simp only []; omega))) fun k5 hk5 => ?_
      refine ok_chk ⟨b0, h⟩ (ok_bnde (m52_eq s _ false) ?_)
      rw [hbes i b0 h]
      refine ok_brk (fun h => by simp at h) (fun _ => ok_brk (fun h => by simp at h) (fun _ => ok_brk (fun h' => ?_) (fun _ => hk5 _ trivial)))
      exfalso
      simp only [Bool.or_eq_true, Bool.and_eq_true, decide_eq_true_eq, Bool.not_eq_true', decide_eq_false_iff_not, Decidable.not_not, beq_iff_eq] at h'
      rcases h' with ((⟨w1, w2⟩ | ⟨w1, w2⟩) | ⟨w1, w2⟩) | ⟨w1, w2⟩
      · exact a3 i.toNat (by omega) w2
      · rw [show i.toNat = k by omega] at w2; exact w2 a2
      · exact m4 i.toNat (by omega) w2
      · rw [show i.toNat = m by omega] at w2; exact w2 m3
  · have d0 := dvb h3 0 (n := 21) (by decide)
    refine ok_loop (fun q : List Span × List Span × Int × Nat × Nat => (0 ≤ q.2.2.1 ∧ q.2.2.1 ≤ dv l3 0 21) ∧ (q.1.length : Int) = q.2.2.1 ∧ Waits q.1 q.2.1) (fun q => (dv l3 0 21 - q.2.2.1).toNat) ⟨⟨by simp, d0.1⟩, rfl, Waits.nil⟩
      (by show (dv l3 0 21 - (0 : Int)).toNat < F; omega) fun q next hI hn => ?_
    obtain ⟨P, Q, i, k1, k2⟩ := q
    obtain ⟨⟨a0, a1⟩, a2, hW⟩ := hI
    simp only [] at a0 a1 a2 hW ⊢
    refine ok_brk (fun h => ?_) (fun _ => hk _ hW)
    have h := of_decide_eq_true h
    have e1 := dvb h3 k2 (n := 4) (by decide)
    have e2 := dvb h3 (k2 + 1) (n := 4) (by decide)
    have e3 := dvb h4 k1 (n := 4) (by decide)
    have e4 := dvb h4 (k1 + 1) (n := 4) (by decide)
    generalize dv l3 k2 4 = x1 at *
    generalize dv l3 (k2 + 1) 4 = x2 at *
    generalize dv l4 k1 4 = x3 at *
    generalize dv l4 (k1 + 1) 4 = x4 at *
    have hq : Q.length = P.length := hW.len.symm
    have b1 : x1 ≤ (if x1 + x2 < 3 then x1 + x2 else 3) ∧ (if x1 + x2 < 3 then x1 + x2 else 3) ≤ 3 := by split <;> omega
    generalize (if x1 + x2 < 3 then x1 + x2 else 3) = y1 at *
    have b2 : 0 ≤ (if x1 - x3 > 0 then x1 - x3 else 0) ∧ (if x1 - x3 > 0 then x1 - x3 else 0) ≤ x1 := by split <;> omega
    generalize (if x1 - x3 > 0 then x1 - x3 else 0) = y2 at *
    have b3 : y2 ≤ (if y1 - x4 > y2 then y1 - x4 else y2) ∧ (if y1 - x4 > y2 then y1 - x4 else y2) ≤ y1 := by split <;> omega
    generalize (if y1 - x4 > y2 then y1 - x4 else y2) = y3 at *
    repeat' (with_reducible refine ok_chk (by omega) ?_)
    refine hn _ ⟨⟨by simp only []; omega, by simp only []; omega⟩, by simp; omega, hW.snoc (by omega) ⟨?_, ?_, ?_⟩ ⟨?_, ?_, ?_⟩ ?_ ?_⟩ (by simp only []; omega)
    all_goals simp only []; omega
end Go.Proofs.T
