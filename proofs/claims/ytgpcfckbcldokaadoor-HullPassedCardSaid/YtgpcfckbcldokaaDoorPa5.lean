/-
  This file has plain laws of the mirrors. Conditions: those that each theorem names.
-/
import Derived.KernelRfl
import Derived.Test.YtgpcfckbcldokaaDoorPa4
/- The plain law of HullMonotone: Made makes valid ships, Frozen valid cells, and the law answers true. -/
namespace Go.Proofs.T
open Go.AX Hull

def Bytes (l : List Int) : Prop := ∀ x ∈ l, 0 ≤ x ∧ x ≤ 255

theorem dvb {l : List Int} (h : Bytes l) (k : Nat) {n : Int} (hn : 1 ≤ n) : 0 ≤ dv l k n ∧ dv l k n ≤ n - 1 ∧ dv l k n ≤ 255 := dv_bd h hn

theorem m74_ok {F : Nat} {l : List Int} (h8 : Bytes l) {step wide most : Int} (hs : step = 1 ∨ step = 2) (hw : 1 ≤ wide ∧ wide ≤ 1000) (hm : 0 ≤ most ∧ most ≤ 1000) (k : Nat) :
    Ok (fun r => goodSpan r.1 most ∧ r.2 = k + 2) (m74_0 F 0 step wide most l k) := by
  unfold m74_0
  have h1 := dvb h8 k (n := most / step + 1 - 0 / step) (by rcases hs with rfl | rfl <;> omega)
  have h2 := dvb h8 (k + 1) (n := wide) hw.1
  generalize dv l k (most / step + 1 - 0 / step) = a at h1 ⊢
  generalize dv l (k + 1) wide = b at h2 ⊢
  rcases hs with rfl | rfl
  all_goals
    repeat' (with_reducible refine ok_chk (by omega) ?_)
    refine ok_some ⟨?_, rfl⟩
    simp only [goodSpan]
    split <;> omega

theorem m17_ok {F : Nat} {l : List Int} (h8 : Bytes l) : Ok goodCell (m17 F l) := by
  unfold m17
  refine ok_bnd _ (m74_ok h8 (.inl rfl) (by omega) (by omega) 0) fun v1 h1 => ?_
  refine ok_bnd _ (m74_ok h8 (.inr rfl) (by omega) (by omega) _) fun v2 h2 => ?_
  refine ok_bnd _ (m74_ok h8 (.inl rfl) (by omega) (by omega) _) fun v3 h3 => ?_
  refine ok_bnd _ (m74_ok h8 (.inl rfl) (by omega) (by omega) _) fun v4 h4 => ?_
  exact ok_some ⟨h1.1, h2.1, h3.1, h4.1⟩

/-- Points that can be the beginning of a steady curve; the last one is (x, y). -/
structure Pre (w : Int) (l : List Pt) (x y : Int) : Prop where
  len : 1 ≤ l.length
  x0 : (pt l 0).X = 0
  bd : ∀ i : Nat, i < l.length → 0 ≤ (pt l i).X ∧ (pt l i).X ≤ 400 ∧ 0 ≤ (pt l i).Y ∧ (pt l i).Y ≤ 20000
  st : ∀ i : Nat, 1 ≤ i → i < l.length → (pt l ((i : Int) - 1)).X < (pt l i).X ∧ 0 ≤ ((pt l i).Y - (pt l ((i : Int) - 1)).Y) * w
  last : pt l ((l.length : Int) - 1) = ⟨x, y⟩

theorem pt_old {l : List Pt} {p : Pt} {i : Int} (h0 : 0 ≤ i) (h : i < l.length) : pt (l ++ [p]) i = pt l i := by
  unfold pt
  have h : i.toNat < l.length := by omega
  simp [List.getD, List.getElem?_append_left h]

theorem pt_new {l : List Pt} {p : Pt} : pt (l ++ [p]) (l.length : Int) = p := by
  unfold pt
  simp [List.getD]

theorem Pre.one {w y : Int} (hy : 0 ≤ y ∧ y ≤ 20000) : Pre w [⟨0, y⟩] 0 y := by
  refine ⟨by simp, rfl, fun i hi => ?_, fun i h1 hi => ?_, rfl⟩
  · have : i = 0 := by simpa using hi
    subst this
    simp [pt]; omega
  · simp at hi; omega

theorem Pre.snoc {w x y x' y' : Int} {l : List Pt} (h : Pre w l x y) (hx : x < x' ∧ x' ≤ 400) (hy : 0 ≤ y' ∧ y' ≤ 20000) (hw : 0 ≤ (y' - y) * w) : Pre w (l ++ [⟨x', y'⟩]) x' y' := by
  have hl := h.len
  have hlast := h.last
  have hx0 := (h.bd (l.length - 1) (by omega)).1
  rw [show (((l.length - 1 : Nat)) : Int) = (l.length : Int) - 1 by omega, hlast] at hx0
  simp only [] at hx0
  refine ⟨by simp, by rw [pt_old (by omega) (by omega)]; exact h.x0, fun i hi => ?_, fun i h1 hi => ?_, ?_⟩
  · by_cases e : i < l.length
    · rw [pt_old (by omega) (by omega)]; exact h.bd i e
    · have : i = l.length := by simp at hi; omega
      subst this
      rw [pt_new]; simp only []; omega
  · by_cases e : i < l.length
    · rw [pt_old (by omega) (by omega), pt_old (by omega) (by omega)]; exact h.st i h1 e
    · have : i = l.length := by simp at hi; omega
      subst this
      rw [pt_new, pt_old (by omega) (by omega), hlast]
      exact ⟨hx.1, hw⟩
  · rw [show (((l ++ [(⟨x', y'⟩ : Pt)]).length : Int) - 1) = (l.length : Int) by simp, pt_new]

theorem Pre.steady {w x y : Int} {l : List Pt} (h : Pre w l x y) (hl : 2 ≤ l.length ∧ l.length ≤ 8) : steady l w = true ∧ endX l = x := by
  have hc : curve l = true := by
    refine curve_yes (k := l.length) ?_ h.x0 (fun j hj => ?_) (Nat.le_refl _)
    · simp [within]; omega
    · have h1 := h.bd j hj
      simp only [curveAt, within]
      by_cases e : j = 0
      · subst e
        have h0 := h.x0
        have h1' : 0 ≤ (pt l 0).X ∧ (pt l 0).X ≤ 400 ∧ 0 ≤ (pt l 0).Y ∧ (pt l 0).Y ≤ 20000 := h1
        simp; omega
      · have h2 := (h.st j (by omega) hj).1
        have h3 : ¬ (pt l (j : Int)).X ≤ (pt l ((j : Int) - 1)).X := by omega
        simp [h3]; omega
  refine ⟨steady_yes (k := l.length) hc (fun j hj h1 => ?_) (Nat.le_refl _), by rw [endX, h.last]⟩
  have h2 := (h.st j h1 hj).2
  simp only [steadyAt]
  simp; omega

theorem m15_ok {F : Nat} (hF : 100 ≤ F) {l : List Int} (h8 : Bytes l) : Ok (fun s => check s = 0) (m15 F l) := by
  have D := fun k n h => dvb h8 k (n := n) h
  unfold m15
  have d0 := D 0 6 (by omega); have d1 := D 1 256 (by omega); have d2 := D 2 256 (by omega); have d3 := D 3 256 (by omega); have d4 := D 4 21 (by omega); have d5 := D 5 101 (by omega)
  have d6 := D 6 240 (by omega); have d7 := D 7 256 (by omega); have d8 := D 8 256 (by omega); have d9 := D 9 4 (by omega)
  repeat' (with_reducible refine ok_chk (by omega) ?_)
  refine ok_join (fun (q : List Pt × Nat) => Pre (-1) q.1 (endX q.1) (pt q.1 ((q.1.length : Int) - 1)).Y ∧ 2 ≤ q.1.length ∧ q.1.length ≤ 8 ∧ 10 ≤ endX q.1 ∧ endX q.1 ≤ 250) (fun x1 h1 => ?_) fun k1 hk1 => ?_
  · refine ok_join (fun (q : List Pt × Nat) => Pre 1 q.1 (endX q.1) (pt q.1 ((q.1.length : Int) - 1)).Y ∧ 2 ≤ q.1.length ∧ q.1.length ≤ 8 ∧ endX q.1 ≤ 250) (fun x3 h3 => ?_) fun k3 hk3 => ?_
    · refine ok_join (fun (q : Int × List Pt × Nat) => ∃ x, Pre 1 q.2.1 x q.1 ∧ (pt q.2.1 0).Y = 0 ∧ q.2.1.length ≤ 4 ∧ x ≤ 390 ∧ 0 ≤ q.1 ∧ q.1 ≤ 3000) (fun x5 h5 => ?_) fun k5 hk5 => ?_
      · obtain ⟨x, hp, h0, hl, hx, hy⟩ := h5
        have e := D x5.2.2 256 (by omega)
        have hl1 := hp.len
        repeat' (with_reducible refine ok_chk (by omega) ?_)
        refine ok_some ?_
        have hq := (hp.snoc (x' := 400) (y' := x5.1 + 4 * dv l x5.2.2 256) (by omega) (by omega) (by omega)).steady (by simp; omega)
        obtain ⟨p1, l1, l2, e1, e2⟩ := h1
        obtain ⟨p3, l3, l4, e3⟩ := h3
        have s1 := p1.steady ⟨l1, l2⟩
        have s3 := p3.steady ⟨l3, l4⟩
        have r1 : rule1 (⟨1 + dv l 0 6, 100 + 390 * dv l 1 256, 10 + 7 * dv l 2 256, 10 + 1900 * dv l 3 256, x1.1, x3.1, x5.2.1 ++ [⟨400, x5.1 + 4 * dv l x5.2.2 256⟩], dv l 4 21, dv l 5 101, 2 * dv l 6 240, 4 * dv l 7 256⟩ : Ship) = true := by
          simp [rule1, within]; omega
        have r2 : rule2 (⟨1 + dv l 0 6, 100 + 390 * dv l 1 256, 10 + 7 * dv l 2 256, 10 + 1900 * dv l 3 256, x1.1, x3.1, x5.2.1 ++ [⟨400, x5.1 + 4 * dv l x5.2.2 256⟩], dv l 4 21, dv l 5 101, 2 * dv l 6 240, 4 * dv l 7 256⟩ : Ship) = true := by
          simp [rule2, within]; omega
        have r3 : rule3 (⟨1 + dv l 0 6, 100 + 390 * dv l 1 256, 10 + 7 * dv l 2 256, 10 + 1900 * dv l 3 256, x1.1, x3.1, x5.2.1 ++ [⟨400, x5.1 + 4 * dv l x5.2.2 256⟩], dv l 4 21, dv l 5 101, 2 * dv l 6 240, 4 * dv l 7 256⟩ : Ship) = true := by
          simp [rule3, within]; omega
        have r4 : rule4 (⟨1 + dv l 0 6, 100 + 390 * dv l 1 256, 10 + 7 * dv l 2 256, 10 + 1900 * dv l 3 256, x1.1, x3.1, x5.2.1 ++ [⟨400, x5.1 + 4 * dv l x5.2.2 256⟩], dv l 4 21, dv l 5 101, 2 * dv l 6 240, 4 * dv l 7 256⟩ : Ship) = true := by
          simp [rule4, within, s1.1]; omega
        have r5 : rule5 (⟨1 + dv l 0 6, 100 + 390 * dv l 1 256, 10 + 7 * dv l 2 256, 10 + 1900 * dv l 3 256, x1.1, x3.1, x5.2.1 ++ [⟨400, x5.1 + 4 * dv l x5.2.2 256⟩], dv l 4 21, dv l 5 101, 2 * dv l 6 240, 4 * dv l 7 256⟩ : Ship) = true := by
          simp [rule5, s3.1]; omega
        have r6 : rule6 (⟨1 + dv l 0 6, 100 + 390 * dv l 1 256, 10 + 7 * dv l 2 256, 10 + 1900 * dv l 3 256, x1.1, x3.1, x5.2.1 ++ [⟨400, x5.1 + 4 * dv l x5.2.2 256⟩], dv l 4 21, dv l 5 101, 2 * dv l 6 240, 4 * dv l 7 256⟩ : Ship) = true := by
          simp only [rule6, hq.1, hq.2]; rw [pt_old (by omega) (by omega), h0]; rfl
        simp only [check, r1, r2, r3, r4, r5, r6]; rfl
      · have e9 := D x3.2 4 (by omega)
        refine ok_loop (fun (q : Int × Int × Int × List Pt × Nat) => Pre 1 q.2.2.2.1 q.1 q.2.1 ∧ (pt q.2.2.2.1 0).Y = 0 ∧ 0 ≤ q.2.2.1 ∧ q.2.2.1 ≤ 3 ∧ (q.2.2.2.1.length : Int) = q.2.2.1 + 1 ∧ q.1 ≤ 90 * q.2.2.1 ∧ 0 ≤ q.1 ∧ 0 ≤ q.2.1 ∧ q.2.1 ≤ 765 * q.2.2.1) (fun q => (3 - q.2.2.1).toNat) ?_ (by simp; omega) fun q next hI hn => ?_
        · exact ⟨Pre.one (by omega), rfl, by simp, by simp, rfl, by simp, by simp, by simp, by simp⟩
        · obtain ⟨hp, h0, h1', h2, h3', h4, h5, h6, h7⟩ := hI
          refine ok_brk (fun hc => ?_) (fun hc => ?_)
          · have hc := of_decide_eq_true hc
            have a1 := D q.2.2.2.2 90 (by omega)
            have a2 := D (q.2.2.2.2 + 1) 256 (by omega)
            repeat' (with_reducible refine ok_chk (by omega) ?_)
            refine hn _ ⟨hp.snoc (by omega) (by omega) (by omega), by simp only []; rw [pt_old (by omega) (by omega)]; exact h0, by first | omega | (simp only []; omega), by first | omega | (simp only []; omega), by simp only [List.length_append, List.length_singleton]; omega, by first | omega | (simp only []; omega), by first | omega | (simp only []; omega), by first | omega | (simp only []; omega), by first | omega | (simp only []; omega)⟩ (by first | omega | (simp only []; omega))
          · have hc := of_decide_eq_false hc
            exact hk5 _ ⟨q.1, hp, h0, by first | omega | (simp only []; omega), by omega, by first | omega | (simp only []; omega), by first | omega | (simp only []; omega)⟩
    · have e9 := D (x1.2 + 1) 3 (by omega)
      have e8 := D x1.2 50 (by omega)
      refine ok_chk (by omega) ?_
      refine ok_loop (fun (q : Int × Int × Int × List Pt × Nat) => Pre 1 q.2.2.2.1 q.1 q.2.1 ∧ 0 ≤ q.2.2.1 ∧ q.2.2.1 ≤ 3 ∧ q.2.2.1 ≤ 1 + dv l (x1.2 + 1) 3 ∧ (q.2.2.2.1.length : Int) = q.2.2.1 + 1 ∧ q.1 ≤ 80 * q.2.2.1 ∧ 0 ≤ q.1 ∧ 0 ≤ q.2.1 ∧ q.2.1 ≤ 50 + 765 * q.2.2.1) (fun q => (3 - q.2.2.1).toNat) ?_ (by simp; omega) fun q next hI hn => ?_
      · exact ⟨Pre.one (by omega), by simp, by simp, by first | omega | (simp only []; omega), rfl, by simp, by simp, by first | omega | (simp only []; omega), by first | omega | (simp only []; omega)⟩
      · obtain ⟨hp, h1', h2, h2', h3', h4, h5, h6, h7⟩ := hI
        refine ok_brk (fun hc => ?_) (fun hc => ?_)
        · have hc := of_decide_eq_true hc
          have a1 := D q.2.2.2.2 80 (by omega)
          have a2 := D (q.2.2.2.2 + 1) 256 (by omega)
          repeat' (with_reducible refine ok_chk (by omega) ?_)
          refine hn _ ⟨hp.snoc (by omega) (by omega) (by omega), by first | omega | (simp only []; omega), by first | omega | (simp only []; omega), by first | omega | (simp only []; omega), by simp only [List.length_append, List.length_singleton]; omega, by first | omega | (simp only []; omega), by first | omega | (simp only []; omega), by first | omega | (simp only []; omega), by first | omega | (simp only []; omega)⟩ (by first | omega | (simp only []; omega))
        · have hc := of_decide_eq_false hc
          have hle : endX q.2.2.2.1 = q.1 := by rw [endX, hp.last]
          refine hk3 _ ⟨?_, by first | omega | (simp only []; omega), by first | omega | (simp only []; omega), by simp only [hle]; omega⟩
          simp only [hle, hp.last]; exact hp
  · refine ok_chk (by omega) ?_
    refine ok_loop (fun (q : Int × Int × Int × List Pt × Nat) => Pre (-1) q.2.2.2.1 q.1 q.2.1 ∧ 0 ≤ q.2.2.1 ∧ q.2.2.1 ≤ 4 ∧ q.2.2.1 ≤ 1 + dv l 9 4 ∧ (q.2.2.2.1.length : Int) = q.2.2.1 + 1 ∧ q.1 ≤ 49 * q.2.2.1 ∧ 10 * q.2.2.1 ≤ q.1 ∧ 0 ≤ q.2.1 ∧ q.2.1 ≤ 5300) (fun q => (4 - q.2.2.1).toNat) ?_ (by show (4 - (0 : Int)).toNat < F; omega) fun q next hI hn => ?_
    · exact ⟨Pre.one (by omega), by simp, by simp, by first | omega | (simp only []; omega), rfl, by simp, by simp, by first | omega | (simp only []; omega), by first | omega | (simp only []; omega)⟩
    · obtain ⟨hp, h1', h2, h2', h3', h4, h5, h6, h7⟩ := hI
      refine ok_brk (fun hc => ?_) (fun hc => ?_)
      · have hc := of_decide_eq_true hc
        have a1 := D q.2.2.2.2 40 (by omega)
        have a2 := D (q.2.2.2.2 + 1) 101 (by omega)
        have hm := mul_nn (x := q.2.1) (y := dv l (q.2.2.2.2 + 1) 101) (a := 0) (A := 5300) (b := 0) (B := 100) (by omega) (by omega) (by decide) (by decide)
        have hlen : (q.2.2.2.1 ++ [(⟨0, 0⟩ : Pt)]).length = q.2.2.2.1.length + 1 := by simp
        have hm2 : q.2.1 * dv l (q.2.2.2.2 + 1) 101 ≤ q.2.1 * 100 := Int.mul_le_mul_of_nonneg_left (by omega) (by omega)
        generalize q.2.1 * dv l (q.2.2.2.2 + 1) 101 = pr at hm hm2 ⊢
        repeat' (with_reducible refine ok_chk (by omega) ?_)
        refine hn _ ⟨hp.snoc (by omega) (by omega) (by omega), by first | omega | (simp only []; omega), by first | omega | (simp only []; omega), by first | omega | (simp only []; omega), by simp only [List.length_append, List.length_singleton]; omega, by first | omega | (simp only []; omega), by first | omega | (simp only []; omega), by first | omega | (simp only []; omega), by first | omega | (simp only []; omega)⟩ (by first | omega | (simp only []; omega))
      · have hc := of_decide_eq_false hc
        have hle : endX q.2.2.2.1 = q.1 := by rw [endX, hp.last]
        refine hk1 _ ⟨?_, by first | omega | (simp only []; omega), by first | omega | (simp only []; omega), by simp only [hle]; omega, by simp only [hle]; omega⟩
        simp only [hle, hp.last]; exact hp
end Go.Proofs.T

/- The reference's functions of the hull layer: what they compute, against the program's. -/
namespace Go.Proofs.T
open Go.AX Hull

section
variable {α β : Type} {post : α → Prop}
end

theorem take_snoc {α : Type} {l : List α} (d : α) {i : Int} (h0 : 0 ≤ i) (h : i < l.length) : l.take i.toNat ++ [l.getD i.toNat d] = l.take (i + 1).toNat := by
  have hi : i.toNat < l.length := by omega
  rw [show (i + 1).toNat = i.toNat + 1 by omega, List.take_add_one]
  simp [List.getD, hi]

/-- Ships as light as a law looks at. -/
structure Light (s : Ship) : Prop where
  t : s.Thrust.length ≤ 20
  w : s.Water.length ≤ 20
  i : s.Ice.length ≤ 20

instance (s : Ship) : Decidable (Light s) := decidable_of_iff (s.Thrust.length ≤ 20 ∧ s.Water.length ≤ 20 ∧ s.Ice.length ≤ 20) ⟨fun ⟨a, b, c⟩ => ⟨a, b, c⟩, fun h => ⟨h.t, h.w, h.i⟩⟩

/-- The piece of a curve that ends at its point i, at x. -/
def segN (l : List Pt) (i x : Int) : Int := (pt l (i - 1)).Y * ((pt l i).X - (pt l (i - 1)).X) + ((pt l i).Y - (pt l (i - 1)).Y) * (x - (pt l (i - 1)).X)
def segD (l : List Pt) (i : Int) : Int := (pt l i).X - (pt l (i - 1)).X

section
variable {α : Type} {post : α → Prop}
end

end Go.Proofs.T

/- The reference's functions of the hull layer, second part: resistances, speeds, loads, limits. -/
namespace Go.Proofs.T
open Go.AX Hull

theorem great_eq {so : Int → Bool} {lo hi r : Int} (hd : ∀ u v, lo ≤ u → u ≤ v → v ≤ hi → so v = true → so u = true) (h1 : lo ≤ r) (h2 : r ≤ hi) (hr : so r = true) (hn : ∀ u, r < u → u ≤ hi → so u = false) : so lo = true ∧ great so lo hi = r := by
  have h0 := hd lo r (Int.le_refl _) h1 h2 hr
  obtain ⟨a, b, c⟩ := great_is (by omega) h0 hd
  refine ⟨h0, ?_⟩
  have c1 := (c r h1 h2).1 hr
  rcases Int.lt_or_le r (great so lo hi) with h | h
  · have := (c _ a b).2 (Int.le_refl _)
    rw [hn _ h b] at this; cases this
  · omega

/-- A look from the least number on, for the last one for which something is so. -/
structure Last (so : Int → Bool) (lo d out n : Int) : Prop where
  it : (out = d ∧ ∀ u, lo ≤ u → u < n → so u = false) ∨ (lo ≤ out ∧ out < n ∧ so out = true ∧ ∀ u, out < u → u < n → so u = false)

theorem Last.start {so : Int → Bool} {lo d : Int} : Last so lo d d lo := ⟨.inl ⟨rfl, fun u h1 h2 => by omega⟩⟩
theorem Last.no {so : Int → Bool} {lo d out n : Int} (hl : Last so lo d out n) (h : so n = false) : Last so lo d out (n + 1) := by
  refine ⟨?_⟩
  rcases hl.it with ⟨h1, h2⟩ | ⟨h1, h2, h3, h4⟩
  · exact .inl ⟨h1, fun u a b => by by_cases e : u = n; exact e ▸ h; exact h2 u a (by omega)⟩
  · exact .inr ⟨h1, by omega, h3, fun u a b => by by_cases e : u = n; exact e ▸ h; exact h4 u a (by omega)⟩
theorem Last.greatest {so : Int → Bool} {lo hi d out : Int} (hl : Last so lo d out (hi + 1)) (hle : lo ≤ hi) (hd : ∀ u v, lo ≤ u → u ≤ v → v ≤ hi → so v = true → so u = true) :
    (out = d ∧ Hull.greatest so lo hi = (0, false) ∧ ∀ u, lo ≤ u → u ≤ hi → so u = false) ∨ (Hull.greatest so lo hi = (out, true) ∧ lo ≤ out ∧ out ≤ hi) := by
  unfold Hull.greatest
  rcases hl.it with ⟨h1, h2⟩ | ⟨h1, h2, h3, h4⟩
  · rw [h2 lo (Int.le_refl _) (by omega)]; exact .inl ⟨h1, by simp, fun u h3 h4 => h2 u h3 (by omega)⟩
  · obtain ⟨a, b⟩ := great_eq hd h1 (by omega) h3 (fun u h5 h6 => h4 u h5 (by omega))
    rw [if_pos a, b]; exact .inr ⟨rfl, h1, by omega⟩

instance (s : Span) (n : Int) : Decidable (goodSpan s n) := by unfold goodSpan; infer_instance

/-- Where one ship is first slower than another one. -/
def slowFrom (a b : Ship) : Nat → Int → Int × Int
  | 0, _ => (0, 4)
  | f + 1, n => if speed a (lev n) false < speed b (lev n) false then (n, 0) else slowFrom a b f (n + 1)
def slowerE (a b : Ship) : Int × Int := if check a ≠ 0 then (0, check a) else if check b ≠ 0 then (0, check b) else slowFrom a b 401 0

end Go.Proofs.T

/- The reference's functions of the hull layer, third part: corners, safe speeds, legs, waits. -/
namespace Go.Proofs.T
open Go.AX Hull

def corners (c : Cell) : List Ice :=
  [c.Press.Lo, c.Press.Hi].flatMap fun p => [c.Ridge.Lo, c.Ridge.Hi].flatMap fun r => [c.Thick.Lo, c.Thick.Hi].flatMap fun t => [c.Conc.Lo, c.Conc.Hi].map fun n => ⟨n, t, r, p⟩

theorem getD_in {α : Type} {l : List α} {d : α} {i : Int} (h0 : 0 ≤ i) (h1 : i < l.length) : l.getD i.toNat d ∈ l := by
  have : i.toNat < l.length := by omega
  simp [List.getD, this]

end Go.Proofs.T

/- The reference's functions of the hull layer, fourth part: speeds in a cell, waits. -/
namespace Go.Proofs.T
open Go.AX Hull

/-- The least and the greatest speed in a cell. -/
def speedsE (s : Ship) (c : Cell) (ch : Bool) : Span × Int := if met s c ≠ 0 then (⟨0, 0⟩, met s c) else (⟨speed s (lastI c) ch, speed s (firstI c) ch⟩, 0)
def besetE (s : Ship) (c : Cell) (ch : Bool) : Bool × Bool × Int := if met s c ≠ 0 then (false, false, met s c) else (decide (speed s (lastI c) ch < 10), decide (speed s (firstI c) ch < 10), 0)

end Go.Proofs.T

/- Speeds in a cell, beset, beyond: what the program computes. -/
namespace Go.Proofs.T
open Go.AX Hull

/-- Whether the ice bears more than her hull does. -/
def beyondE (s : Ship) (c : Cell) (v : Int) (ch : Bool) : Bool × Bool × Int :=
  if met s c ≠ 0 then (false, false, met s c) else if within v 0 250 = false then (false, false, 6) else (!bears s (lastI c) ch v, !bears s (firstI c) ch v, 0)

end Go.Proofs.T

/- The plain law of HullCells. -/
namespace Go.Proofs.T
open Go.AX Hull

theorem m91_ok {F : Nat} {s : Span} {m : Int} (hs : goodSpan s m) (hm : m ≤ 1000) {l : List Int} (h8 : Bytes l) (k : Nat) : Ok (fun r => s.Lo ≤ r.1 ∧ r.1 ≤ s.Hi) (m91_0 F s l k) := by
  unfold m91_0
  obtain ⟨h1, h2, h3⟩ := hs
  have a := dvb h8 k (n := 256) (by decide)
  have b := dvb h8 (k + 1) (n := 2) (by decide)
  generalize dv l k 256 = x at a ⊢
  generalize dv l (k + 1) 2 = y at b ⊢
  have e1 := Int.emod_nonneg (x + 256 * y) (b := s.Hi - s.Lo + 1) (by omega)
  have e2 := Int.emod_lt_of_pos (x + 256 * y) (b := s.Hi - s.Lo + 1) (by omega)
  repeat' (with_reducible refine ok_chk (by omega) ?_)
  exact ok_some ⟨by simp only []; omega, by simp only []; omega⟩

theorem m26_ok {F : Nat} {c : Cell} (hg : goodCell c) {l : List Int} (h8 : Bytes l) : Ok (fun i => goodIce i ∧ LeI (firstI c) i ∧ LeI i (lastI c)) (m26 F c l) := by
  unfold m26
  obtain ⟨g1, g2, g3, g4⟩ := hg
  refine ok_bnd _ (m91_ok g1 (by decide) h8 0) fun v1 h1 => ?_
  refine ok_bnd _ (m91_ok g2 (by decide) h8 _) fun v2 h2 => ?_
  refine ok_bnd _ (m91_ok g3 (by decide) h8 _) fun v3 h3 => ?_
  refine ok_bnd _ (m91_ok g4 (by decide) h8 _) fun v4 h4 => ?_
  simp only [goodSpan] at g1 g2 g3 g4
  refine ok_some ⟨⟨?_, ?_, ?_, ?_⟩, ⟨h1.1, h2.1, h3.1, h4.1⟩, ⟨h1.2, h2.2, h3.2, h4.2⟩⟩ <;> simp only [] <;> omega

theorem met_zero {s : Ship} (hc : check s = 0) {c : Cell} (hg : goodCell c) : met s c = 0 := by
  unfold met; rw [if_neg (by simp [hc])]; exact checkCell_ok.2 hg

/-- The cell that holds this ice alone. -/
def cellOf (i : Ice) : Cell := ⟨⟨i.Conc, i.Conc⟩, ⟨i.Thick, i.Thick⟩, ⟨i.Ridge, i.Ridge⟩, ⟨i.Press, i.Press⟩⟩
theorem cellOf_good {i : Ice} (h : goodIce i) : goodCell (cellOf i) := by
  simp only [goodIce, goodCell, goodSpan, cellOf] at *; omega

theorem goes_iff {s : Ship} (hc : check s = 0) {i : Ice} (hi : goodIce i) {ch : Bool} (h : goesP s i ch 10 = true) : 10 ≤ (goes s i ch).1 ∧ (goes s i ch).1 ≤ 250 ∧ ∀ v, 10 ≤ v → v ≤ 250 → (goesP s i ch v = true ↔ v ≤ (goes s i ch).1) := by
  rw [goes_eq, if_pos h]
  exact great_is (by decide) h (goes_down hc hi ch)

end Go.Proofs.T

/- The plain law of HullPassed. -/
namespace Go.Proofs.T
open Go.AX Hull

def sumP (f : Part → Int) : List Part → Int
  | [] => 0
  | p :: r => f p + sumP f r

theorem sumP_append (f : Part → Int) : ∀ (a b : List Part), sumP f (a ++ b) = sumP f a + sumP f b
  | [], b => by simp [sumP]
  | p :: r, b => by simp only [List.cons_append, sumP, sumP_append f r b]; omega

theorem sumP_bd {f : Part → Int} : ∀ {l : List Part}, (∀ p ∈ l, 0 ≤ f p ∧ f p ≤ 60025) → 0 ≤ sumP f l ∧ sumP f l ≤ 60025 * l.length
  | [], _ => by simp [sumP]
  | p :: r, h => by
    have h1 := h p (List.mem_cons_self ..)
    have h2 := sumP_bd (l := r) fun q hq => h q (List.mem_cons_of_mem _ hq)
    simp only [sumP, List.length_cons]
    omega

theorem take_next {l : List Part} {i : Int} (h0 : 0 ≤ i) (h : i < l.length) : l.take (i + 1).toNat = l.take i.toNat ++ [prt l i] := by
  rw [← take_snoc default h0 h]; rfl

def safeP (s : Ship) (p : Part) : Int × Int := safe s p.Cell p.Channel
def fastP (s : Ship) (p : Part) : Int := takes p (goes s (firstI p.Cell) p.Channel).1
def slowP (s : Ship) (p : Part) : Int := takes p (safe s p.Cell p.Channel).1

theorem legFrom_ok {s : Ship} : ∀ {l : List Part} {i : Int} {v : List Int} {lo hi : Int}, (∀ p ∈ l, (safeP s p).2 = 0) →
    legFrom s l i v lo hi = (v ++ l.map (fun p => (safeP s p).1), ⟨lo + sumP (fastP s) l, hi + sumP (slowP s) l⟩, 0) := by
  intro l
  induction l with
  | nil => intro i v lo hi _; simp [legFrom, sumP]
  | cons p r ih =>
    intro i v lo hi h
    have hp : (safe s p.Cell p.Channel).2 = 0 := h p (List.mem_cons_self ..)
    rw [legFrom, if_neg (by simp [hp]), ih fun q hq => h q (List.mem_cons_of_mem _ hq)]
    simp only [List.map_cons, sumP, fastP, slowP, safeP, List.append_assoc, List.cons_append, List.nil_append, Int.add_assoc]

theorem legFrom_bad {s : Ship} : ∀ {l : List Part} {i : Int} {v : List Int} {lo hi : Int} {j : Nat}, j < l.length → (∀ q < j, (safeP s (l.getD q default)).2 = 0) → (safeP s (l.getD j default)).2 ≠ 0 →
    legFrom s l i v lo hi = ([], ⟨i + j, 0⟩, (safeP s (l.getD j default)).2) := by
  intro l
  induction l with
  | nil => intro i v lo hi j hj; simp at hj
  | cons p r ih =>
    intro i v lo hi j hj h1 h2
    cases j with
    | zero =>
      have h2 : (safe s p.Cell p.Channel).2 ≠ 0 := by simpa [safeP] using h2
      rw [legFrom, if_pos h2]; simp [safeP]
    | succ j =>
      have hp : (safe s p.Cell p.Channel).2 = 0 := by simpa [safeP] using h1 0 (by omega)
      rw [legFrom, if_neg (by simp [hp]), ih (j := j) (by simpa using hj) (fun q hq => by simpa using h1 (q + 1) (by omega)) (by simpa using h2)]
      simp only [List.getD_cons_succ, Prod.mk.injEq, Span.mk.injEq, and_true, true_and]
      omega

theorem first_bad {s : Ship} : ∀ (l : List Part), (∀ p ∈ l, (safeP s p).2 = 0) ∨ ∃ j < l.length, (∀ q < j, (safeP s (l.getD q default)).2 = 0) ∧ (safeP s (l.getD j default)).2 ≠ 0
  | [] => .inl fun p hp => by cases hp
  | p :: r => by
    by_cases h : (safeP s p).2 = 0
    · rcases first_bad (s := s) r with h1 | ⟨j, h1, h2, h3⟩
      · refine .inl fun q hq => ?_
        rcases List.mem_cons.1 hq with rfl | hq
        · exact h
        · exact h1 q hq
      · refine .inr ⟨j + 1, by simpa using h1, fun q hq => ?_, by simpa using h3⟩
        cases q with
        | zero => simpa using h
        | succ q => simpa using h2 q (by omega)
    · exact .inr ⟨0, by simp, fun q hq => by omega, by simpa using h⟩

theorem partsErr_zero : ∀ {l : List Part}, (∀ p ∈ l, goodPart p) → partsErr l = 0
  | [], _ => rfl
  | p :: r, h => by
    rw [partsErr, if_neg (by simp [partErr_ok.2 (h p (List.mem_cons_self ..))])]
    exact partsErr_zero fun q hq => h q (List.mem_cons_of_mem _ hq)

theorem leg_from {s : Ship} (hc : check s = 0) {l : List Part} (h1 : 1 ≤ l.length) (h2 : l.length ≤ 100) (h : ∀ p ∈ l, goodPart p) : leg s l = legFrom s l 0 [] 0 0 := by
  have hw : within (l.length : Int) 1 100 = true := by simp [within]; omega
  rw [leg, if_neg (by simp [hc]), if_neg (by simp [hw]), if_neg (by simp [partsErr_zero h])]

theorem leg_ok {s : Ship} (hc : check s = 0) {l : List Part} (h1 : 1 ≤ l.length) (h2 : l.length ≤ 100) (h : ∀ p ∈ l, goodPart p) (hs : ∀ p ∈ l, (safeP s p).2 = 0) :
    leg s l = (l.map (fun p => (safeP s p).1), ⟨sumP (fastP s) l, sumP (slowP s) l⟩, 0) := by
  rw [leg_from hc h1 h2 h, legFrom_ok hs]; simp

theorem leg_bad {s : Ship} (hc : check s = 0) {l : List Part} (h2 : l.length ≤ 100) (h : ∀ p ∈ l, goodPart p) {j : Nat} (hj : j < l.length) (hq : ∀ q < j, (safeP s (l.getD q default)).2 = 0) (hb : (safeP s (l.getD j default)).2 ≠ 0) :
    leg s l = ([], ⟨j, 0⟩, (safeP s (l.getD j default)).2) := by
  rw [leg_from hc (by omega) h2 h, legFrom_bad hj hq hb]; simp

theorem safe_err {s : Ship} {c : Cell} {ch : Bool} (h : (safe s c ch).2 ≠ 0) : (safe s c ch).2 = 4 ∨ (safe s c ch).2 = 41 := by
  unfold safe at h ⊢
  split
  · exact .inl rfl
  · split
    · exact .inr rfl
    · rename_i h1 h2; rw [if_neg h1, if_neg h2] at h; exact absurd rfl h

theorem takes_anti {p : Part} (hp : 1 ≤ p.Length) {u v : Int} (hu : 0 < u) (h : u ≤ v) : takes p v ≤ takes p u := by
  unfold takes
  exact ceil_mono (by omega) hu (Int.mul_le_mul_of_nonneg_left h (by omega))

/-- In ice of a cell that is safe: she goes no slower than there, no faster than in its least. -/
theorem safe_ice {s : Ship} (hc : check s = 0) {c : Cell} (hg : goodCell c) {ch : Bool} (h : (safe s c ch).2 = 0) {i : Ice} (hi : goodIce i) (h1 : LeI (firstI c) i) (h2 : LeI i (lastI c)) :
    safe s (cellOf i) ch = ((goes s i ch).1, 0) ∧ (safe s c ch).1 ≤ (goes s i ch).1 ∧ (goes s i ch).1 ≤ (goes s (firstI c) ch).1 := by
  have hl := goodCell_last hg
  have hf := goodCell_first hg
  obtain ⟨e, b1, b2⟩ := safe_goes hc hg h
  have hlast : ¬ speed s (lastI c) ch < 10 ∧ goesP s (lastI c) ch 10 = true := by
    unfold safe at h
    by_cases e1 : speed s (lastI c) ch < 10
    · rw [if_pos e1] at h; cases h
    · rw [if_neg e1] at h
      refine ⟨e1, ?_⟩
      cases e2 : goesP s (lastI c) ch 10 with
      | true => rfl
      | false => rw [if_pos (by rw [goes_ok, e2])] at h; cases h
  have gi : goesP s i ch 10 = true := goesP_mono hc hi hl h2 (by decide) (Int.le_refl _) hlast.2
  have gf : goesP s (firstI c) ch 10 = true := goesP_mono hc hf hi h1 (by decide) (Int.le_refl _) gi
  have hsp := speed_mono hc hi hl h2 ch
  obtain ⟨p1, p2, p3⟩ := goes_iff hc hi gi
  obtain ⟨q1, q2, q3⟩ := goes_iff hc hl hlast.2
  obtain ⟨r1, r2, r3⟩ := goes_iff hc hf gf
  refine ⟨?_, ?_, ?_⟩
  · have e1 : lastI (cellOf i) = i := rfl
    rw [safe, e1, if_neg (by omega), if_neg (by simp [goes_ok, gi])]
  · rw [e]
    exact (p3 _ q1 q2).1 (goesP_mono hc hi hl h2 (by omega) (Int.le_refl _) ((q3 _ q1 q2).2 (Int.le_refl _)))
  · exact (r3 _ p1 p2).1 (goesP_mono hc hf hi h1 (by omega) (Int.le_refl _) ((p3 _ p1 p2).2 (Int.le_refl _)))
end Go.Proofs.T

/- The plain law of HullPassed, second part. -/
namespace Go.Proofs.T
open Go Go.AX Hull

theorem bytes_drop {l : List Int} (h : Bytes l) (j : Nat) : Bytes (l.drop j) := fun x hx => h x (List.mem_of_mem_drop hx)

/-- Few parts, all of them good ones, none long. -/
structure Parts (l : List Part) : Prop where
  most : l.length ≤ 8
  good : ∀ p ∈ l, goodPart p

theorem Parts.snoc {l : List Part} (h : Parts l) (hl : l.length < 8) {p : Part} (hp : goodPart p) : Parts (l ++ [p]) :=
  ⟨by simp; omega, fun q hq => by
    rcases List.mem_append.1 hq with hq | hq
    · exact h.good q hq
    · obtain rfl : q = p := by simpa using hq
      exact hp⟩

theorem fast_bd {s : Ship} (hc : check s = 0) {p : Part} (hp : goodPart p) (hs : (safeP s p).2 = 0) : 0 ≤ fastP s p ∧ fastP s p ≤ 60025 :=
  takes_bd hp.1 (safe_goes hc hp.2 hs).2.2
theorem slow_bd {s : Ship} (hc : check s = 0) {p : Part} (hp : goodPart p) (hs : (safeP s p).2 = 0) : 0 ≤ slowP s p ∧ slowP s p ≤ 60025 :=
  takes_bd hp.1 (safe_goes hc hp.2 hs).2.1

theorem prt_nat (l : List Part) (j : Nat) : prt l (j : Int) = l.getD j default := by simp [prt]

theorem m4_ok {F : Nat} (hF : 1000 ≤ F) {l1 l2 l3 : List Int} (h1 : Bytes l1) (h2 : Bytes l2) (h3 : Bytes l3) {x : Int} (hx : 0 ≤ x ∧ x ≤ 255) : Ok (fun r => r = true) (m4 F l1 l2 l3 x) := by
  unfold m4
  refine ok_bnd _ (m15_ok (by omega) h1) fun s hc => ?_
  refine ok_join (fun P : List Part => 1 ≤ P.length ∧ Parts P) (fun P hP => ?_) fun k hk => ?_
  · obtain ⟨hP1, hP⟩ := hP
    have hm := hP.most
    have hk : 0 ≤ x % (P.length : Int) ∧ x % (P.length : Int) < P.length := ⟨Int.emod_nonneg _ (by omega), Int.emod_lt_of_pos _ (by omega)⟩
    refine ok_chk (by omega) (ok_chk (by omega) ?_)
    generalize x % (P.length : Int) = y at hk ⊢
    refine ok_chk (by omega) (ok_chk (by omega) ?_)
    obtain ⟨k, hkk⟩ : ∃ k : Nat, 1 + y = (k : Int) := ⟨(1 + y).toNat, by omega⟩
    rw [hkk]
    have hk1 : 1 ≤ k ∧ k ≤ P.length := by omega
    rw [Int.toNat_natCast]
    have lT : (P.take k).length = k := by simp; omega
    have gT : ∀ p ∈ P.take k, goodPart p := fun p hp => hP.good p (List.mem_of_mem_take hp)
    have gD : ∀ p ∈ P.drop k, goodPart p := fun p hp => hP.good p (List.mem_of_mem_drop hp)
    rcases first_bad (s := s) P with hs | ⟨j, j1, j2, j3⟩
    · -- every part is safe
      have eP := leg_ok hc hP1 (by omega) hP.good hs
      have sT : ∀ p ∈ P.take k, (safeP s p).2 = 0 := fun p hp => hs p (List.mem_of_mem_take hp)
      have sD : ∀ p ∈ P.drop k, (safeP s p).2 = 0 := fun p hp => hs p (List.mem_of_mem_drop hp)
      have eT := leg_ok hc (by omega) (by omega) gT sT
      rw [eP, eT]
      refine ok_brk (fun h => by simp at h) (fun _ => ?_)
      refine ok_brk (fun h => ?_) (fun _ => ?_)
      · exfalso
        simp only [List.length_map, lT, Bool.or_eq_true, bne_iff_ne, ne_eq, not_true_eq_false, or_self] at h
      have bF := sumP_bd (f := fastP s) (l := P) fun p hp => fast_bd hc (hP.good p hp) (hs p hp)
      have bS := sumP_bd (f := slowP s) (l := P) fun p hp => slow_bd hc (hP.good p hp) (hs p hp)
      have bTF := sumP_bd (f := fastP s) (l := P.take k) fun p hp => fast_bd hc (gT p hp) (sT p hp)
      have bTS := sumP_bd (f := slowP s) (l := P.take k) fun p hp => slow_bd hc (gT p hp) (sT p hp)
      refine ok_join (fun _ => True) (fun _ _ => ?_) fun k7 hk7 => ?_
      · refine ok_join (fun q : Int => sumP (fastP s) P ≤ q ∧ q ≤ sumP (slowP s) P) (fun q hq => ok_some ?_) fun k8 hk8 => ?_
        · simp only [Bool.and_true, Bool.and_eq_true, decide_eq_true_eq]; omega
        refine ok_loop (fun q : Int × Int => (0 ≤ q.2 ∧ q.2 ≤ P.length) ∧ (sumP (fastP s) (P.take q.2.toNat) ≤ q.1 ∧ q.1 ≤ sumP (slowP s) (P.take q.2.toNat)) ∧ (0 ≤ q.1 ∧ q.1 ≤ 60025 * q.2)) (fun q => (P.length - q.2).toNat)
          ⟨by simp, by simp [sumP], by simp⟩ (by show ((P.length : Int) - 0).toNat < F; omega) fun q next hI hn => ?_
        obtain ⟨t, i⟩ := q
        obtain ⟨⟨a0, a1⟩, ⟨a2, a3⟩, a4, a5⟩ := hI
        simp only [] at a0 a1 a2 a3 a4 a5 ⊢
        refine ok_brk (fun h => ?_) (fun h => hk8 _ ?_)
        · have h := of_decide_eq_true h
          have hmem : prt P i ∈ P := getD_in a0 h
          have hgp := hP.good _ hmem
          have hsp := hs _ hmem
          refine ok_chk ⟨a0, h⟩ ?_
          refine ok_join (fun _ => True) (fun o _ => ?_) fun k10 hk10 => ?_
          · refine ok_bnd _ (m26_ok hgp.2 (bytes_drop h3 o)) fun ice hice => ?_
            obtain ⟨g1, g2, g3⟩ := hice
            refine ok_bnde (b := cellOf ice) rfl ?_
            have hsafe : safeE s (cellOf ice) (prt P i).Channel = safe s (cellOf ice) (prt P i).Channel := by
              unfold safeE; rw [if_neg (by simp [met_zero hc (cellOf_good g1)])]
            obtain ⟨e1, e2, e3⟩ := safe_ice hc hgp.2 hsp g1 g2 g3
            obtain ⟨_, b1, b2⟩ := safe_goes hc hgp.2 hsp
            rw [hsafe, e1]
            have hget : (P.map (fun p => (safeP s p).1)).getD i.toNat 0 = (safe s (prt P i).Cell (prt P i).Channel).1 := by
              have hi : i.toNat < P.length := by omega
              simp [List.getD, hi, prt, safeP]
            refine ok_chk (fun _ => ⟨a0, by simpa using h⟩) ?_
            rw [hget]
            simp only []
            refine ok_brk (fun h => ?_) (fun _ => ?_)
            · exfalso; simp at h; omega
            have t1 := takes_anti (p := prt P i) hgp.1.1 (by omega) e2
            have t2 := takes_anti (p := prt P i) hgp.1.1 (by omega) e3
            have t3 := takes_bd hgp.1 (v := (goes s ice (prt P i).Channel).1) (by omega)
            have t4 : (60 * (prt P i).Length + (goes s ice (prt P i).Channel).1 - 1) / (goes s ice (prt P i).Channel).1 = takes (prt P i) (goes s ice (prt P i).Channel).1 := rfl
            rw [t4]
            have hL := hgp.1
            generalize takes (prt P i) (goes s ice (prt P i).Channel).1 = u at *
            generalize (goes s ice (prt P i).Channel).1 = v at *
            repeat' (with_reducible refine ok_chk (by omega) ?_)
            refine hn _ ⟨by simp only []; omega, ?_, by simp only []; omega⟩ (by simp only []; omega)
            simp only []
            rw [take_next a0 h, sumP_append, sumP_append]
            have f1 : sumP (fastP s) [prt P i] = takes (prt P i) (goes s (firstI (prt P i).Cell) (prt P i).Channel).1 := by simp [sumP, fastP]
            have f2 : sumP (slowP s) [prt P i] = takes (prt P i) (safe s (prt P i).Cell (prt P i).Channel).1 := by simp [sumP, slowP]
            rw [f1, f2]
            omega
          · refine ok_brk (fun h => ?_) (fun _ => hk10 _ trivial)
            have h := of_decide_eq_true h
            have := Int.emod_nonneg i (b := (l3.length : Int)) (by omega)
            have := Int.emod_lt_of_pos i (b := (l3.length : Int)) (by omega)
            exact ok_chk (by omega) (ok_chk (by omega) (hk10 _ trivial))
        · have h := of_decide_eq_false h
          rw [List.take_of_length_le (by omega)] at a2 a3
          exact ⟨a2, a3⟩
      · refine ok_brk (fun h => ?_) (fun h => ?_)
        · have h := of_decide_eq_true h
          have lD : (P.drop k).length = P.length - k := by simp
          have eD := leg_ok hc (by omega) (by omega) gD sD
          have bDF := sumP_bd (f := fastP s) (l := P.drop k) fun p hp => fast_bd hc (gD p hp) (sD p hp)
          have bDS := sumP_bd (f := slowP s) (l := P.drop k) fun p hp => slow_bd hc (gD p hp) (sD p hp)
          rw [eD]
          have c1 := sumP_append (fastP s) (P.take k) (P.drop k)
          have c2 := sumP_append (slowP s) (P.take k) (P.drop k)
          rw [List.take_append_drop] at c1 c2
          refine ok_chk (fun _ => by simp only []; omega) (ok_chk (fun _ => by simp only []; omega) (ok_brk (fun h => ?_) (fun _ => hk7 _ trivial)))
          exfalso; simp at h; omega
        · have h := of_decide_eq_false h
          rw [List.take_of_length_le (l := P) (i := k) (by omega)]
          exact ok_brk (fun h => by simp at h) (fun _ => hk7 _ trivial)
    · -- the first that is not
      have eP := leg_bad hc (by omega) hP.good j1 j2 j3
      have he : (safeP s (P.getD j default)).2 = 4 ∨ (safeP s (P.getD j default)).2 = 41 := safe_err j3
      have hmem : P.getD j default ∈ P := by
        have := getD_in (l := P) (d := default) (i := (j : Int)) (by omega) (by omega); simpa using this
      have hE : safeE s (P.getD j default).Cell (P.getD j default).Channel = safeP s (P.getD j default) := by
        have hm0 := met_zero hc (hP.good _ hmem).2
        unfold safeE safeP; rw [if_neg (fun h => h hm0)]
      rw [eP]
      simp only []
      rw [prt_nat, hE]
      have j4 := j3
      generalize hge : (safeP s (P.getD j default)).2 = e at he j3 ⊢
      refine ok_brk (fun _ => ?_) (fun h => by simp at h; omega)
      refine ok_brk (fun h => ?_) (fun _ => ?_)
      · exfalso; simp at h; omega
      refine ok_chk (by omega) (ok_some ?_)
      by_cases hjk : j < k
      · have gt : ∀ q : Nat, q ≤ j → (P.take k).getD q default = P.getD q default := fun q hq => by
          have : q < k := by omega
          simp [List.getD, this]
        have eT := leg_bad hc (l := P.take k) (by omega) gT (j := j) (by omega) (fun q hq => by rw [gt q (by omega)]; exact j2 q hq) (by rw [gt j (Nat.le_refl _)]; exact j4)
        rw [eT, gt j (Nat.le_refl _), hge]
        have d1 : decide ((j : Int) < (k : Int)) = true := decide_eq_true (by omega)
        have d2 : decide ((j : Int) ≥ (k : Int)) = false := decide_eq_false (by omega)
        rw [d1, d2]
        have : (e == (0 : Int)) = false := by simpa using j3
        simp [this]
      · have sT : ∀ p ∈ P.take k, (safeP s p).2 = 0 := fun p hp => by
          obtain ⟨i, hi, rfl⟩ := List.getElem_of_mem hp
          have := j2 i (by omega)
          have hi' : i < P.length := by omega
          simpa [List.getD, hi'] using this
        have eT := leg_ok hc (by omega) (by omega) gT sT
        rw [eT]
        have d1 : decide ((j : Int) < (k : Int)) = false := decide_eq_false (by omega)
        have d2 : decide ((j : Int) ≥ (k : Int)) = true := decide_eq_true (by omega)
        rw [d1, d2]
        have : ((0 : Int) == e) = false := by simpa using fun h => j3 h.symm
        simp [this]
  · have d0 := dvb h2 0 (n := 8) (by decide)
    refine ok_chk (by omega) ?_
    refine ok_loop (fun q : List Part × Int × Nat => (0 ≤ q.2.1 ∧ q.2.1 ≤ 1 + dv l2 0 8) ∧ (q.1.length : Int) = q.2.1 ∧ Parts q.1) (fun q => (1 + dv l2 0 8 - q.2.1).toNat) ⟨⟨by simp, by simp only []; omega⟩, rfl, by simp, fun p hp => by simp at hp⟩
      (by show (1 + dv l2 0 8 - (0 : Int)).toNat < F; omega) fun q next hI hn => ?_
    obtain ⟨P, i, kk⟩ := q
    obtain ⟨⟨a0, a1⟩, a2, hP⟩ := hI
    simp only [] at a0 a1 a2 hP ⊢
    refine ok_brk (fun h => ?_) (fun h => hk _ ⟨?_, hP⟩)
    · have h := of_decide_eq_true h
      refine ok_join (fun q : List Part × Nat => (q.1.length : Int) = i + 1 ∧ Parts q.1) (fun q hq => ok_chk (by omega) (hn _ ⟨⟨by simp only []; omega, by simp only []; omega⟩, hq.1, hq.2⟩ (by simp only []; omega))) fun k3 hk3 => ?_
      refine ok_join (fun q : List Int × Nat => Bytes q.1 ∧ q.1.length ≤ 8) (fun q hq => ?_) fun k4 hk4 => ?_
      · refine ok_chk hq.1 (ok_chk (by omega) (ok_bnd _ (m17_ok hq.1) fun c hg => ?_))
        refine ok_join (fun q : Int × Int × Int × Int × Nat => goodSpan ⟨q.1, q.2.1⟩ 400 ∧ goodSpan ⟨q.2.2.1, q.2.2.2.1⟩ 3) (fun q hq => ?_) fun k6 hk6 => ?_
        · have e1 := dvb h2 (q.2.2.2.2 + 1) (n := 256) (by decide)
          generalize dv l2 (q.2.2.2.2 + 1) 256 = v at e1 ⊢
          refine ok_chk (by omega) (ok_chk (by omega) (ok_chk (by omega) (hk3 _ ⟨by simp; omega, hP.snoc (by omega) ⟨by simp only []; omega, hg.1, hq.1, hg.2.2.1, hq.2⟩⟩)))
        · obtain ⟨_, ⟨g1, g2, g3⟩, _, g4⟩ := hg
          refine ok_brk (fun _ => ok_chk (by omega) (ok_chk (by omega) (hk6 _ ⟨⟨?_, ?_, ?_⟩, by simp [goodSpan]⟩))) (fun _ => hk6 _ ⟨⟨g1, g2, g3⟩, g4⟩)
          all_goals simp only []; omega
      · refine ok_loop (fun q : List Int × Int × Nat => (0 ≤ q.2.1 ∧ q.2.1 ≤ 8) ∧ Bytes q.1 ∧ (q.1.length : Int) = q.2.1) (fun q => (8 - q.2.1).toNat) ⟨by simp, fun x hx => by simp at hx, rfl⟩ (by show (8 - (0 : Int)).toNat < F; omega) fun q next hI hn => ?_
        obtain ⟨B, i, kk⟩ := q
        obtain ⟨⟨b0, b1⟩, b2, b3⟩ := hI
        simp only [] at b0 b1 b2 b3 ⊢
        refine ok_brk (fun h => ?_) (fun h => hk4 _ ⟨b2, by simp only []; omega⟩)
        have h := of_decide_eq_true h
        refine ok_chk (by omega) (ok_chk (by omega) (hn _ ⟨by simp only []; omega, fun x hx => ?_, by simp; omega⟩ (by simp only []; omega)))
        rcases List.mem_append.1 hx with hx | hx
        · exact b2 x hx
        · obtain rfl : x = IntKind.wrap .u8 (dv l2 kk 256) := by simpa using hx
          have := dvb h2 kk (n := 256) (by decide)
          rw [show IntKind.wrap .u8 (dv l2 kk 256) = dv l2 kk 256 from IntWalk.u8_in _ (by omega)]
          omega
    · have h := of_decide_eq_false h
      omega
end Go.Proofs.T
