/-
  This file has plain laws of the mirrors. Conditions: those that each theorem names.
-/
import Derived.KernelRfl
import Derived.Test.YtgpcfckbcldokaaDoorAg6
/- The plain law of HullMonotone: Made makes valid ships, Frozen valid cells, and the law answers true. -/
namespace Go.Proofs.T
open Go.AX Hull
def Bytes (l : List Int) : Prop := ∀ x ∈ l, 0 ≤ x ∧ x ≤ 255
theorem dvb {l : List Int} (h : Bytes l) (k : Nat) {n : Int} (hn : 1 ≤ n) : 0 ≤ dv l k n ∧ dv l k n ≤ n - 1 ∧ dv l k n ≤ 255 := dv_bd h hn
theorem m74_ok {F : Nat} {l : List Int} (h8 : Bytes l) {step wide most : Int} (hs : step = 1 ∨ step = 2) (hw : 1 ≤ wide ∧ wide ≤ 1000) (hm : 0 ≤ most ∧ most ≤ 1000) (k : Nat) :
    Ok (fun r => goodSpan r.1 most ∧ r.2 = k + 2) (m74_0 F 0 step wide most l k) := by
  unfold m74_0
  have h1 := dvb h8 k (n := most / step + 1 - 0 / step) (by rcases hs with rfl | rfl <;> omega)
  have h2 := dvb h8 (k + 1) (n := wide) hw.1
  generalize dv l k (most / step + 1 - 0 / step) = a at h1 ⊢
  generalize dv l (k + 1) wide = b at h2 ⊢
  rcases hs with rfl | rfl
  all_goals
    repeat' (with_reducible refine ok_chk (by omega) ?_)
    refine ok_some ⟨?_, rfl⟩
    simp only [goodSpan]
    split <;> omega
theorem m17_ok {F : Nat} {l : List Int} (h8 : Bytes l) : Ok goodCell (m17 F l) := by
  unfold m17
  refine ok_bnd _ (m74_ok h8 (.inl rfl) (by omega) (by omega) 0) fun v1 h1 => ?_
  refine ok_bnd _ (m74_ok h8 (.inr rfl) (by omega) (by omega) _) fun v2 h2 => ?_
  refine ok_bnd _ (m74_ok h8 (.inl rfl) (by omega) (by omega) _) fun v3 h3 => ?_
  refine ok_bnd _ (m74_ok h8 (.inl rfl) (by omega) (by omega) _) fun v4 h4 => ?_
  exact ok_some ⟨h1.1, h2.1, h3.1, h4.1⟩
structure Pre (w : Int) (l : List Pt) (x y : Int) : Prop where
  len : 1 ≤ l.length
  x0 : (pt l 0).X = 0
  bd : ∀ i : Nat, i < l.length → 0 ≤ (pt l i).X ∧ (pt l i).X ≤ 400 ∧ 0 ≤ (pt l i).Y ∧ (pt l i).Y ≤ 20000
  st : ∀ i : Nat, 1 ≤ i → i < l.length → (pt l ((i : Int) - 1)).X < (pt l i).X ∧ 0 ≤ ((pt l i).Y - (pt l ((i : Int) - 1)).Y) * w
  last : pt l ((l.length : Int) - 1) = ⟨x, y⟩
theorem pt_old {l : List Pt} {p : Pt} {i : Int} (h0 : 0 ≤ i) (h : i < l.length) : pt (l ++ [p]) i = pt l i := by
  unfold pt
  have h : i.toNat < l.length := by omega
  simp [List.getD, List.getElem?_append_left h]
theorem pt_new {l : List Pt} {p : Pt} : pt (l ++ [p]) (l.length : Int) = p := by
  unfold pt
  simp [List.getD]
theorem Pre.one {w y : Int} (hy : 0 ≤ y ∧ y ≤ 20000) : Pre w [⟨0, y⟩] 0 y := by
  refine ⟨by simp, rfl, fun i hi => ?_, fun i h1 hi => ?_, rfl⟩
  · have : i = 0 := by simpa using hi
    subst this
    simp [pt]; omega
  · simp at hi; omega
theorem Pre.snoc {w x y x' y' : Int} {l : List Pt} (h : Pre w l x y) (hx : x < x' ∧ x' ≤ 400) (hy : 0 ≤ y' ∧ y' ≤ 20000) (hw : 0 ≤ (y' - y) * w) : Pre w (l ++ [⟨x', y'⟩]) x' y' := by
  have hl := h.len
  have hlast := h.last
  have hx0 := (h.bd (l.length - 1) (by omega)).1
  rw [show (((l.length - 1 : Nat)) : Int) = (l.length : Int) - 1 by omega, hlast] at hx0
  simp only [] at hx0
  refine ⟨by simp, by rw [pt_old (by omega) (by omega)]; exact h.x0, fun i hi => ?_, fun i h1 hi => ?_, ?_⟩
  · by_cases e : i < l.length
    · rw [pt_old (by omega) (by omega)]; exact h.bd i e
    · have : i = l.length := by simp at hi; omega
      subst this
      rw [pt_new]; simp only []; omega
  · by_cases e : i < l.length
    · rw [pt_old (by omega) (by omega), pt_old (by omega) (by omega)]; exact h.st i h1 e
    · have : i = l.length := by simp at hi; omega
      subst this
      rw [pt_new, pt_old (by omega) (by omega), hlast]
      exact ⟨hx.1, hw⟩
  · rw [show (((l ++ [(⟨x', y'⟩ : Pt)]).length : Int) - 1) = (l.length : Int) by simp, pt_new]
theorem Pre.steady {w x y : Int} {l : List Pt} (h : Pre w l x y) (hl : 2 ≤ l.length ∧ l.length ≤ 8) : steady l w = true ∧ endX l = x := by
  have hc : curve l = true := by
    refine curve_yes (k := l.length) ?_ h.x0 (fun j hj => ?_) (Nat.le_refl _)
    · simp [within]; omega
    · have h1 := h.bd j hj
      simp only [curveAt, within]
      by_cases e : j = 0
      · subst e
        have h0 := h.x0
        have h1' : 0 ≤ (pt l 0).X ∧ (pt l 0).X ≤ 400 ∧ 0 ≤ (pt l 0).Y ∧ (pt l 0).Y ≤ 20000 := h1
        simp; omega
      · have h2 := (h.st j (by omega) hj).1
        have h3 : ¬ (pt l (j : Int)).X ≤ (pt l ((j : Int) - 1)).X := by omega
        simp [h3]; omega
  refine ⟨steady_yes (k := l.length) hc (fun j hj h1 => ?_) (Nat.le_refl _), by rw [endX, h.last]⟩
  have h2 := (h.st j h1 hj).2
  simp only [steadyAt]
  simp; omega
theorem m15_ok {F : Nat} (hF : 100 ≤ F) {l : List Int} (h8 : Bytes l) : Ok (fun s => check s = 0) (m15 F l) := by
  have D := fun k n h => dvb h8 k (n := n) h
  unfold m15
  have d0 := D 0 6 (by omega); have d1 := D 1 256 (by omega); have d2 := D 2 256 (by omega); have d3 := D 3 256 (by omega); have d4 := D 4 21 (by omega); have d5 := D 5 101 (by omega)
  have d6 := D 6 240 (by omega); have d7 := D 7 256 (by omega); have d8 := D 8 256 (by omega); have d9 := D 9 4 (by omega)
  repeat' (with_reducible refine ok_chk (by omega) ?_)
  refine ok_join (fun (q : List Pt × Nat) => Pre (-1) q.1 (endX q.1) (pt q.1 ((q.1.length : Int) - 1)).Y ∧ 2 ≤ q.1.length ∧ q.1.length ≤ 8 ∧ 10 ≤ endX q.1 ∧ endX q.1 ≤ 250) (fun x1 h1 => ?_) fun k1 hk1 => ?_
  · refine ok_join (fun (q : List Pt × Nat) => Pre 1 q.1 (endX q.1) (pt q.1 ((q.1.length : Int) - 1)).Y ∧ 2 ≤ q.1.length ∧ q.1.length ≤ 8 ∧ endX q.1 ≤ 250) (fun x3 h3 => ?_) fun k3 hk3 => ?_
    · refine ok_join (fun (q : Int × List Pt × Nat) => ∃ x, Pre 1 q.2.1 x q.1 ∧ (pt q.2.1 0).Y = 0 ∧ q.2.1.length ≤ 4 ∧ x ≤ 390 ∧ 0 ≤ q.1 ∧ q.1 ≤ 3000) (fun x5 h5 => ?_) fun k5 hk5 => ?_
      · obtain ⟨x, hp, h0, hl, hx, hy⟩ := h5
        have e := D x5.2.2 256 (by omega)
        have hl1 := hp.len
        repeat' (with_reducible refine ok_chk (by omega) ?_)
        refine ok_some ?_
        have hq := (hp.snoc (x' := 400) (y' := x5.1 + 4 * dv l x5.2.2 256) (by omega) (by omega) (by omega)).steady (by simp; omega)
        obtain ⟨p1, l1, l2, e1, e2⟩ := h1
        obtain ⟨p3, l3, l4, e3⟩ := h3
        have s1 := p1.steady ⟨l1, l2⟩
        have s3 := p3.steady ⟨l3, l4⟩
        have r1 : rule1 (⟨1 + dv l 0 6, 100 + 390 * dv l 1 256, 10 + 7 * dv l 2 256, 10 + 1900 * dv l 3 256, x1.1, x3.1, x5.2.1 ++ [⟨400, x5.1 + 4 * dv l x5.2.2 256⟩], dv l 4 21, dv l 5 101, 2 * dv l 6 240, 4 * dv l 7 256⟩ : Ship) = true := by
          simp [rule1, within]; omega
        have r2 : rule2 (⟨1 + dv l 0 6, 100 + 390 * dv l 1 256, 10 + 7 * dv l 2 256, 10 + 1900 * dv l 3 256, x1.1, x3.1, x5.2.1 ++ [⟨400, x5.1 + 4 * dv l x5.2.2 256⟩], dv l 4 21, dv l 5 101, 2 * dv l 6 240, 4 * dv l 7 256⟩ : Ship) = true := by
          simp [rule2, within]; omega
        have r3 : rule3 (⟨1 + dv l 0 6, 100 + 390 * dv l 1 256, 10 + 7 * dv l 2 256, 10 + 1900 * dv l 3 256, x1.1, x3.1, x5.2.1 ++ [⟨400, x5.1 + 4 * dv l x5.2.2 256⟩], dv l 4 21, dv l 5 101, 2 * dv l 6 240, 4 * dv l 7 256⟩ : Ship) = true := by
          simp [rule3, within]; omega
        have r4 : rule4 (⟨1 + dv l 0 6, 100 + 390 * dv l 1 256, 10 + 7 * dv l 2 256, 10 + 1900 * dv l 3 256, x1.1, x3.1, x5.2.1 ++ [⟨400, x5.1 + 4 * dv l x5.2.2 256⟩], dv l 4 21, dv l 5 101, 2 * dv l 6 240, 4 * dv l 7 256⟩ : Ship) = true := by
          simp [rule4, within, s1.1]; omega
        have r5 : rule5 (⟨1 + dv l 0 6, 100 + 390 * dv l 1 256, 10 + 7 * dv l 2 256, 10 + 1900 * dv l 3 256, x1.1, x3.1, x5.2.1 ++ [⟨400, x5.1 + 4 * dv l x5.2.2 256⟩], dv l 4 21, dv l 5 101, 2 * dv l 6 240, 4 * dv l 7 256⟩ : Ship) = true := by
          simp [rule5, s3.1]; omega
        have r6 : rule6 (⟨1 + dv l 0 6, 100 + 390 * dv l 1 256, 10 + 7 * dv l 2 256, 10 + 1900 * dv l 3 256, x1.1, x3.1, x5.2.1 ++ [⟨400, x5.1 + 4 * dv l x5.2.2 256⟩], dv l 4 21, dv l 5 101, 2 * dv l 6 240, 4 * dv l 7 256⟩ : Ship) = true := by
          simp only [rule6, hq.1, hq.2]; rw [pt_old (by omega) (by omega), h0]; rfl
        simp only [check, r1, r2, r3, r4, r5, r6]; rfl
      · have e9 := D x3.2 4 (by omega)
        refine ok_loop (fun (q : Int × Int × Int × List Pt × Nat) => Pre 1 q.2.2.2.1 q.1 q.2.1 ∧ (pt q.2.2.2.1 0).Y = 0 ∧ 0 ≤ q.2.2.1 ∧ q.2.2.1 ≤ 3 ∧ (q.2.2.2.1.length : Int) = q.2.2.1 + 1 ∧ q.1 ≤ 90 * q.2.2.1 ∧ 0 ≤ q.1 ∧ 0 ≤ q.2.1 ∧ q.2.1 ≤ 765 * q.2.2.1) (fun q => (3 - q.2.2.1).toNat) ?_ (by simp; omega) fun q next hI hn => ?_
        · exact ⟨Pre.one (by omega), rfl, by simp, by simp, rfl, by simp, by simp, by simp, by simp⟩
        · obtain ⟨hp, h0, h1', h2, h3', h4, h5, h6, h7⟩ := hI
          refine ok_brk (fun hc => ?_) (fun hc => ?_)
          · have hc := of_decide_eq_true hc
            have a1 := D q.2.2.2.2 90 (by omega)
            have a2 := D (q.2.2.2.2 + 1) 256 (by omega)
            repeat' (with_reducible refine ok_chk (by omega) ?_)
            refine hn _ ⟨hp.snoc (by omega) (by omega) (by omega), by simp only []; rw [pt_old (by omega) (by omega)]; exact h0, by first | omega | (simp only []; omega), by first | omega | (simp only []; omega), by simp only [List.length_append, List.length_singleton]; omega, by first | omega | (simp only []; omega), by first | omega | (simp only []; omega), by first | omega | (simp only []; omega), by first | omega | (simp only []; omega)⟩ (by first | omega | (simp only []; omega))
          · have hc := of_decide_eq_false hc
            exact hk5 _ ⟨q.1, hp, h0, by first | omega | (simp only []; omega), by omega, by first | omega | (simp only []; omega), by first | omega | (simp only []; omega)⟩
    · have e9 := D (x1.2 + 1) 3 (by omega)
      have e8 := D x1.2 50 (by omega)
      refine ok_chk (by omega) ?_
      refine ok_loop (fun (q : Int × Int × Int × List Pt × Nat) => Pre 1 q.2.2.2.1 q.1 q.2.1 ∧ 0 ≤ q.2.2.1 ∧ q.2.2.1 ≤ 3 ∧ q.2.2.1 ≤ 1 + dv l (x1.2 + 1) 3 ∧ (q.2.2.2.1.length : Int) = q.2.2.1 + 1 ∧ q.1 ≤ 80 * q.2.2.1 ∧ 0 ≤ q.1 ∧ 0 ≤ q.2.1 ∧ q.2.1 ≤ 50 + 765 * q.2.2.1) (fun q => (3 - q.2.2.1).toNat) ?_ (by simp; omega) fun q next hI hn => ?_
      · exact ⟨Pre.one (by omega), by simp, by simp, by first | omega | (simp only []; omega), rfl, by simp, by simp, by first | omega | (simp only []; omega), by first | omega | (simp only []; omega)⟩
      · obtain ⟨hp, h1', h2, h2', h3', h4, h5, h6, h7⟩ := hI
        refine ok_brk (fun hc => ?_) (fun hc => ?_)
        · have hc := of_decide_eq_true hc
          have a1 := D q.2.2.2.2 80 (by omega)
          have a2 := D (q.2.2.2.2 + 1) 256 (by omega)
          repeat' (with_reducible refine ok_chk (by omega) ?_)
          refine hn _ ⟨hp.snoc (by omega) (by omega) (by omega), by first | omega | (simp only []; omega), by first | omega | (simp only []; omega), by first | omega | (simp only []; omega), by simp only [List.length_append, List.length_singleton]; omega, by first | omega | (simp only []; omega), by first | omega | (simp only []; omega), by first | omega | (simp only []; omega), by first | omega | (simp only []; omega)⟩ (by first | omega | (simp only []; omega))
        · have hc := of_decide_eq_false hc
          have hle : endX q.2.2.2.1 = q.1 := by rw [endX, hp.last]
          refine hk3 _ ⟨?_, by first | omega | (simp only []; omega), by first | omega | (simp only []; omega), by simp only [hle]; omega⟩
          simp only [hle, hp.last]; exact hp
  · refine ok_chk (by omega) ?_
    refine ok_loop (fun (q : Int × Int × Int × List Pt × Nat) => Pre (-1) q.2.2.2.1 q.1 q.2.1 ∧ 0 ≤ q.2.2.1 ∧ q.2.2.1 ≤ 4 ∧ q.2.2.1 ≤ 1 + dv l 9 4 ∧ (q.2.2.2.1.length : Int) = q.2.2.1 + 1 ∧ q.1 ≤ 49 * q.2.2.1 ∧ 10 * q.2.2.1 ≤ q.1 ∧ 0 ≤ q.2.1 ∧ q.2.1 ≤ 5300) (fun q => (4 - q.2.2.1).toNat) ?_ (by show (4 - (0 : Int)).toNat < F; omega) fun q next hI hn => ?_
    · exact ⟨Pre.one (by omega), by simp, by simp, by first | omega | (simp only []; omega), rfl, by simp, by simp, by first | omega | (simp only []; omega), by first | omega | (simp only []; omega)⟩
    · obtain ⟨hp, h1', h2, h2', h3', h4, h5, h6, h7⟩ := hI
      refine ok_brk (fun hc => ?_) (fun hc => ?_)
      · have hc := of_decide_eq_true hc
        have a1 := D q.2.2.2.2 40 (by omega)
        have a2 := D (q.2.2.2.2 + 1) 101 (by omega)
        have hm := mul_nn (x := q.2.1) (y := dv l (q.2.2.2.2 + 1) 101) (a := 0) (A := 5300) (b := 0) (B := 100) (by omega) (by omega) (by decide) (by decide)
        have hlen : (q.2.2.2.1 ++ [(⟨0, 0⟩ : Pt)]).length = q.2.2.2.1.length + 1 := by simp
        have hm2 : q.2.1 * dv l (q.2.2.2.2 + 1) 101 ≤ q.2.1 * 100 := Int.mul_le_mul_of_nonneg_left (by omega) (by omega)
        generalize q.2.1 * dv l (q.2.2.2.2 + 1) 101 = pr at hm hm2 ⊢
        repeat' (with_reducible refine ok_chk (by omega) ?_)
        refine hn _ ⟨hp.snoc (by omega) (by omega) (by omega), by first | omega | (simp only []; omega), by first | omega | (simp only []; omega), by first | omega | (simp only []; omega), by simp only [List.length_append, List.length_singleton]; omega, by first | omega | (simp only []; omega), by first | omega | (simp only []; omega), by first | omega | (simp only []; omega), by first | omega | (simp only []; omega)⟩ (by first | omega | (simp only []; omega))
      · have hc := of_decide_eq_false hc
        have hle : endX q.2.2.2.1 = q.1 := by rw [endX, hp.last]
        refine hk1 _ ⟨?_, by first | omega | (simp only []; omega), by first | omega | (simp only []; omega), by simp only [hle]; omega, by simp only [hle]; omega⟩
        simp only [hle, hp.last]; exact hp
end Go.Proofs.T
/- The reference's functions of the hull layer: what they compute, against the program's. -/
namespace Go.Proofs.T
open Go.AX Hull
section
variable {α β : Type} {post : α → Prop}
end
structure Light (s : Ship) : Prop where
  t : s.Thrust.length ≤ 20
  w : s.Water.length ≤ 20
  i : s.Ice.length ≤ 20
instance (s : Ship) : Decidable (Light s) := decidable_of_iff (s.Thrust.length ≤ 20 ∧ s.Water.length ≤ 20 ∧ s.Ice.length ≤ 20) ⟨fun ⟨a, b, c⟩ => ⟨a, b, c⟩, fun h => ⟨h.t, h.w, h.i⟩⟩
def segN (l : List Pt) (i x : Int) : Int := (pt l (i - 1)).Y * ((pt l i).X - (pt l (i - 1)).X) + ((pt l i).Y - (pt l (i - 1)).Y) * (x - (pt l (i - 1)).X)
def segD (l : List Pt) (i : Int) : Int := (pt l i).X - (pt l (i - 1)).X
section
variable {α : Type} {post : α → Prop}
end
end Go.Proofs.T
/- The reference's functions of the hull layer, second part: resistances, speeds, loads, limits. -/
namespace Go.Proofs.T
open Go.AX Hull
theorem makes_down {s : Ship} (hc : check s = 0) {i : Ice} (hi : goodIce i) (ch : Bool) : ∀ u v, (0 : Int) ≤ u → u ≤ v → v ≤ 250 → makes s i ch v = true → makes s i ch u = true :=
  fun _ _ h1 h2 _ h => makes_mono hc hi hi .rfl h1 h2 h
theorem great_eq {so : Int → Bool} {lo hi r : Int} (hd : ∀ u v, lo ≤ u → u ≤ v → v ≤ hi → so v = true → so u = true) (h1 : lo ≤ r) (h2 : r ≤ hi) (hr : so r = true) (hn : ∀ u, r < u → u ≤ hi → so u = false) : so lo = true ∧ great so lo hi = r := by
  have h0 := hd lo r (Int.le_refl _) h1 h2 hr
  obtain ⟨a, b, c⟩ := great_is (by omega) h0 hd
  refine ⟨h0, ?_⟩
  have c1 := (c r h1 h2).1 hr
  rcases Int.lt_or_le r (great so lo hi) with h | h
  · have := (c _ a b).2 (Int.le_refl _)
    rw [hn _ h b] at this; cases this
  · omega
structure Last (so : Int → Bool) (lo d out n : Int) : Prop where
  it : (out = d ∧ ∀ u, lo ≤ u → u < n → so u = false) ∨ (lo ≤ out ∧ out < n ∧ so out = true ∧ ∀ u, out < u → u < n → so u = false)
theorem Last.start {so : Int → Bool} {lo d : Int} : Last so lo d d lo := ⟨.inl ⟨rfl, fun u h1 h2 => by omega⟩⟩
theorem Last.no {so : Int → Bool} {lo d out n : Int} (hl : Last so lo d out n) (h : so n = false) : Last so lo d out (n + 1) := by
  refine ⟨?_⟩
  rcases hl.it with ⟨h1, h2⟩ | ⟨h1, h2, h3, h4⟩
  · exact .inl ⟨h1, fun u a b => by by_cases e : u = n; exact e ▸ h; exact h2 u a (by omega)⟩
  · exact .inr ⟨h1, by omega, h3, fun u a b => by by_cases e : u = n; exact e ▸ h; exact h4 u a (by omega)⟩
theorem Last.greatest {so : Int → Bool} {lo hi d out : Int} (hl : Last so lo d out (hi + 1)) (hle : lo ≤ hi) (hd : ∀ u v, lo ≤ u → u ≤ v → v ≤ hi → so v = true → so u = true) :
    (out = d ∧ Hull.greatest so lo hi = (0, false) ∧ ∀ u, lo ≤ u → u ≤ hi → so u = false) ∨ (Hull.greatest so lo hi = (out, true) ∧ lo ≤ out ∧ out ≤ hi) := by
  unfold Hull.greatest
  rcases hl.it with ⟨h1, h2⟩ | ⟨h1, h2, h3, h4⟩
  · rw [h2 lo (Int.le_refl _) (by omega)]; exact .inl ⟨h1, by simp, fun u h3 h4 => h2 u h3 (by omega)⟩
  · obtain ⟨a, b⟩ := great_eq hd h1 (by omega) h3 (fun u h5 h6 => h4 u h5 (by omega))
    rw [if_pos a, b]; exact .inr ⟨rfl, h1, by omega⟩
instance (s : Span) (n : Int) : Decidable (goodSpan s n) := by unfold goodSpan; infer_instance
def slowFrom (a b : Ship) : Nat → Int → Int × Int
  | 0, _ => (0, 4)
  | f + 1, n => if speed a (lev n) false < speed b (lev n) false then (n, 0) else slowFrom a b f (n + 1)
def slowerE (a b : Ship) : Int × Int := if check a ≠ 0 then (0, check a) else if check b ≠ 0 then (0, check b) else slowFrom a b 401 0
end Go.Proofs.T
/- The reference's functions of the hull layer, third part: corners, safe speeds, legs, waits. -/
namespace Go.Proofs.T
open Go.AX Hull
def corners (c : Cell) : List Ice :=
  [c.Press.Lo, c.Press.Hi].flatMap fun p => [c.Ridge.Lo, c.Ridge.Hi].flatMap fun r => [c.Thick.Lo, c.Thick.Hi].flatMap fun t => [c.Conc.Lo, c.Conc.Hi].map fun n => ⟨n, t, r, p⟩
theorem getD_in {α : Type} {l : List α} {d : α} {i : Int} (h0 : 0 ≤ i) (h1 : i < l.length) : l.getD i.toNat d ∈ l := by
  have : i.toNat < l.length := by omega
  simp [List.getD, this]
end Go.Proofs.T
/- The reference's functions of the hull layer, fourth part: speeds in a cell, waits. -/
namespace Go.Proofs.T
open Go.AX Hull
theorem speed_bd {s : Ship} (hc : check s = 0) {i : Ice} (hi : goodIce i) (ch : Bool) : 0 ≤ speed s i ch ∧ speed s i ch ≤ 250 := by
  unfold speed greatest
  by_cases h0 : makes s i ch 0 = true
  · rw [if_pos h0]
    obtain ⟨a, b, _⟩ := great_is (so := fun v => makes s i ch v) (by decide) h0 (makes_down hc hi ch)
    exact ⟨a, b⟩
  · rw [if_neg h0]; simp
def speedsE (s : Ship) (c : Cell) (ch : Bool) : Span × Int := if met s c ≠ 0 then (⟨0, 0⟩, met s c) else (⟨speed s (lastI c) ch, speed s (firstI c) ch⟩, 0)
def besetE (s : Ship) (c : Cell) (ch : Bool) : Bool × Bool × Int := if met s c ≠ 0 then (false, false, met s c) else (decide (speed s (lastI c) ch < 10), decide (speed s (firstI c) ch < 10), 0)
end Go.Proofs.T
/- Speeds in a cell, beset, beyond: what the program computes. -/
namespace Go.Proofs.T
open Go.AX Hull
theorem LeI_speed {s : Ship} (hc : check s = 0) {c : Cell} (hg : goodCell c) (ch : Bool) : speed s (lastI c) ch ≤ speed s (firstI c) ch :=
  speed_mono hc (goodCell_first hg) (goodCell_last hg) (first_le_last hg) ch
theorem m55_eq {F : Nat} (s : Ship) (c : Cell) (ch : Bool) : m55 F s c ch = some (speedsE s c ch) := by
  apply Ok.eq
  unfold m55 speedsE
  refine ok_brk (fun h => ok_some ?_) (fun h => ?_)
  · rw [if_pos (by simpa using h)]
  have hm : met s c = 0 := by simpa using h
  rw [if_neg (by simp [hm])]
  obtain ⟨hc, hg⟩ := met_ok hm
  have hl := goodCell_last hg
  have hf := goodCell_first hg
  have bl := speed_bd hc hl ch
  have bf := speed_bd hc hf ch
  have hle := LeI_speed hc hg ch
  refine ok_join (fun q : Int × Int => q = (speed s (lastI c) ch, speed s (firstI c) ch)) (fun q hq => ok_some (by rw [hq])) fun k hk => ?_
  refine ok_bnde (b := ()) rfl ?_
  rw [chk_pos hc, chk_pos hf, bnd_pos]
  refine ok_brk (fun h => ?_) (fun h => hk _ ?_)
  · rw [chk_pos hc, chk_pos hl, bnd_pos]
    refine hk _ ?_
    simp only []
    rw [Prod.mk.injEq]
    constructor
    · split <;> split <;> omega
    · split <;> split <;> omega
  · have h : firstI c = lastI c := by simpa using h
    simp only []
    rw [← h, Prod.mk.injEq]
    constructor
    · split <;> omega
    · split <;> omega
def beyondE (s : Ship) (c : Cell) (v : Int) (ch : Bool) : Bool × Bool × Int :=
  if met s c ≠ 0 then (false, false, met s c) else if within v 0 250 = false then (false, false, 6) else (!bears s (lastI c) ch v, !bears s (firstI c) ch v, 0)
end Go.Proofs.T
/- The plain law of HullCells. -/
namespace Go.Proofs.T
open Go.AX Hull
theorem met_zero {s : Ship} (hc : check s = 0) {c : Cell} (hg : goodCell c) : met s c = 0 := by
  unfold met; rw [if_neg (by simp [hc])]; exact checkCell_ok.2 hg
def cellOf (i : Ice) : Cell := ⟨⟨i.Conc, i.Conc⟩, ⟨i.Thick, i.Thick⟩, ⟨i.Ridge, i.Ridge⟩, ⟨i.Press, i.Press⟩⟩
theorem goes_iff {s : Ship} (hc : check s = 0) {i : Ice} (hi : goodIce i) {ch : Bool} (h : goesP s i ch 10 = true) : 10 ≤ (goes s i ch).1 ∧ (goes s i ch).1 ≤ 250 ∧ ∀ v, 10 ≤ v → v ≤ 250 → (goesP s i ch v = true ↔ v ≤ (goes s i ch).1) := by
  rw [goes_eq, if_pos h]
  exact great_is (by decide) h (goes_down hc hi ch)
end Go.Proofs.T
/- The plain law of HullPassed. -/
namespace Go.Proofs.T
open Go.AX Hull
def sumP (f : Part → Int) : List Part → Int
  | [] => 0
  | p :: r => f p + sumP f r
def safeP (s : Ship) (p : Part) : Int × Int := safe s p.Cell p.Channel
def fastP (s : Ship) (p : Part) : Int := takes p (goes s (firstI p.Cell) p.Channel).1
def slowP (s : Ship) (p : Part) : Int := takes p (safe s p.Cell p.Channel).1
theorem safe_err {s : Ship} {c : Cell} {ch : Bool} (h : (safe s c ch).2 ≠ 0) : (safe s c ch).2 = 4 ∨ (safe s c ch).2 = 41 := by
  unfold safe at h ⊢
  split
  · exact .inl rfl
  · split
    · exact .inr rfl
    · rename_i h1 h2; rw [if_neg h1, if_neg h2] at h; exact absurd rfl h
end Go.Proofs.T
/- A wider cell: she is no faster in its worst, no slower in its best ice, and where it is safe the narrower one is. -/
namespace Go.Proofs.T
open Go.AX Hull
def InS (s t : Span) : Prop := t.Lo ≤ s.Lo ∧ s.Hi ≤ t.Hi
structure InC (c d : Cell) : Prop where
  conc : InS c.Conc d.Conc
  thick : InS c.Thick d.Thick
  ridge : InS c.Ridge d.Ridge
  press : InS c.Press d.Press
theorem InC.first {c d : Cell} (h : InC c d) : LeI (firstI d) (firstI c) := ⟨h.conc.1, h.thick.1, h.ridge.1, h.press.1⟩
theorem InC.last {c d : Cell} (h : InC c d) : LeI (lastI c) (lastI d) := ⟨h.conc.2, h.thick.2, h.ridge.2, h.press.2⟩
theorem speeds_wider {s : Ship} (hc : check s = 0) {c d : Cell} (gc : goodCell c) (gd : goodCell d) (h : InC c d) (ch : Bool) :
    speedsE s d ch = (⟨speed s (lastI d) ch, speed s (firstI d) ch⟩, 0) ∧ speedsE s c ch = (⟨speed s (lastI c) ch, speed s (firstI c) ch⟩, 0) ∧ speed s (lastI d) ch ≤ speed s (lastI c) ch ∧ speed s (firstI c) ch ≤ speed s (firstI d) ch := by
  refine ⟨?_, ?_, speed_mono hc (goodCell_last gc) (goodCell_last gd) h.last ch, speed_mono hc (goodCell_first gd) (goodCell_first gc) h.first ch⟩
  · rw [speedsE, if_neg (by simp [met_zero hc gd])]
  · rw [speedsE, if_neg (by simp [met_zero hc gc])]
theorem safeE_eq {s : Ship} (hc : check s = 0) {c : Cell} (gc : goodCell c) (ch : Bool) : safeE s c ch = safe s c ch := by
  unfold safeE; rw [if_neg (by simp [met_zero hc gc])]
theorem safe_wider {s : Ship} (hc : check s = 0) {c d : Cell} (gc : goodCell c) (gd : goodCell d) (h : InC c d) {ch : Bool} (hs : (safe s d ch).2 = 0) : (safe s c ch).2 = 0 ∧ (safe s d ch).1 ≤ (safe s c ch).1 := by
  have hld := goodCell_last gd
  have hlc := goodCell_last gc
  obtain ⟨e, b1, b2⟩ := safe_goes hc gd hs
  have hlast : ¬ speed s (lastI d) ch < 10 ∧ goesP s (lastI d) ch 10 = true := by
    unfold safe at hs
    by_cases e1 : speed s (lastI d) ch < 10
    · rw [if_pos e1] at hs; cases hs
    · rw [if_neg e1] at hs
      refine ⟨e1, ?_⟩
      cases e2 : goesP s (lastI d) ch 10 with
      | true => rfl
      | false => rw [if_pos (by rw [goes_ok, e2])] at hs; cases hs
  have gi : goesP s (lastI c) ch 10 = true := goesP_mono hc hlc hld h.last (by decide) (Int.le_refl _) hlast.2
  have hsp := speed_mono hc hlc hld h.last ch
  obtain ⟨p1, p2, p3⟩ := goes_iff hc hlc gi
  obtain ⟨q1, q2, q3⟩ := goes_iff hc hld hlast.2
  have ec : safe s c ch = ((goes s (lastI c) ch).1, 0) := by rw [safe, if_neg (by omega), if_neg (by simp [goes_ok, gi])]
  rw [ec, e]
  exact ⟨rfl, (p3 _ q1 q2).1 (goesP_mono hc hlc hld h.last (by omega) (Int.le_refl _) ((q3 _ q1 q2).2 (Int.le_refl _)))⟩
end Go.Proofs.T
/- Aged ice, the hull of two cells: cells that are wider. -/
namespace Go.Proofs.T
open Go.AX Hull
theorem m122_zero {F : Nat} (hF : 100 ≤ F) {l : List Int} (hl : l.length ≤ 50) (h : ∀ x ∈ l, x = 0) : m122 F l = some 0 := by
  apply Ok.eq
  unfold m122
  refine ok_join (fun _ => True) (fun _ _ => ok_some rfl) fun k hk => ?_
  refine ok_loop (fun i : Int => 0 ≤ i ∧ i ≤ l.length) (fun i => (l.length - i).toNat) (by omega) (by omega) fun i next hI hn => ?_
  refine ok_brk (fun hc => ?_) (fun _ => hk _ trivial)
  have hc := of_decide_eq_true hc
  have h0 := h _ (getD_in (l := l) (d := 0) hI.1 hc)
  refine ok_chk ⟨hI.1, hc⟩ (ok_brk (fun h1 => ?_) (fun _ => ok_chk (by omega) (hn _ (by omega) (by omega))))
  rw [h0] at h1; simp at h1
theorem m150_ok {F : Nat} {n h : Int} (hn : 0 ≤ n ∧ n ≤ 1000) (hh : 0 ≤ h ∧ h ≤ 10000) : Ok (fun r => 0 ≤ r ∧ r ≤ 1000000) (m150 F n h) := by
  unfold m150
  have := mul_nn (x := n) (y := h) (a := 0) (A := 1000) (b := 0) (B := 10000) (by omega) (by omega) (by decide) (by decide)
  generalize n * h = p at *
  repeat' (with_reducible refine ok_chk (by omega) ?_)
  exact ok_some (by omega)
theorem aged_one {F : Nat} {d u h lo hi m : Int} (hd : 0 ≤ d ∧ d ≤ 1000) (hu : 0 ≤ u ∧ u ≤ 1000) (hh : 0 ≤ h ∧ h ≤ 10000) (hs : 0 ≤ lo ∧ lo ≤ hi ∧ hi ≤ m) (hm : m ≤ 1000) :
    Ok (fun q : Int × Int => (0 ≤ q.1 ∧ q.1 ≤ lo) ∧ hi ≤ q.2 ∧ q.2 ≤ m) (bnd (m150 F d h) (fun v3 => chk (InR (lo - v3)) (bnd (m150 F u h) (fun v4 => chk (InR (hi + v4)) (some (if 0 > (lo - v3) then 0 else lo - v3, if m < (hi + v4) then m else hi + v4)))))) := by
  refine ok_bnd _ (m150_ok hd hh) fun v3 h3 => ok_chk (by omega) (ok_bnd _ (m150_ok hu hh) fun v4 h4 => ok_chk (by omega) (ok_some ?_))
  simp only []
  constructor
  · split <;> omega
  · split <;> omega
def goodRate (i : Ice) : Prop := (0 ≤ i.Conc ∧ i.Conc ≤ 1000) ∧ (0 ≤ i.Thick ∧ i.Thick ≤ 1000) ∧ (0 ≤ i.Ridge ∧ i.Ridge ≤ 1000) ∧ (0 ≤ i.Press ∧ i.Press ≤ 1000)
def spansOf (c : Cell) : Spans := ⟨c.Conc, c.Thick, c.Ridge, c.Press⟩
def cellOfS (t : Spans) : Cell := ⟨t.A, t.B, t.C, t.D⟩
theorem m126_ok {F : Nat} {c : Cell} (hg : goodCell c) {r : Rates} (hu : goodRate r.Up) (hd : goodRate r.Down) {h : Int} (hh : 0 ≤ h ∧ h ≤ 10000) : Ok (fun t => goodCell (cellOfS t) ∧ InC c (cellOfS t)) (m126 F (spansOf c) r h) := by
  unfold m126
  obtain ⟨g1, g2, g3, g4⟩ := hg
  obtain ⟨u1, u2, u3, u4⟩ := hu
  obtain ⟨d1, d2, d3, d4⟩ := hd
  refine ok_bnd (fun q : Int × Int × Int × Int × Int × Int × Int × Int => ((0 ≤ q.1 ∧ q.1 ≤ c.Conc.Lo) ∧ c.Conc.Hi ≤ q.2.1 ∧ q.2.1 ≤ 100) ∧ ((0 ≤ q.2.2.1 ∧ q.2.2.1 ≤ c.Thick.Lo) ∧ c.Thick.Hi ≤ q.2.2.2.1 ∧ q.2.2.2.1 ≤ 400) ∧
    ((0 ≤ q.2.2.2.2.1 ∧ q.2.2.2.2.1 ≤ c.Ridge.Lo) ∧ c.Ridge.Hi ≤ q.2.2.2.2.2.1 ∧ q.2.2.2.2.2.1 ≤ 100) ∧ ((0 ≤ q.2.2.2.2.2.2.1 ∧ q.2.2.2.2.2.2.1 ≤ c.Press.Lo) ∧ c.Press.Hi ≤ q.2.2.2.2.2.2.2 ∧ q.2.2.2.2.2.2.2 ≤ 3)) ?_ fun q hq => ?_
  · refine ok_join (fun q : Int × Int × Int × Int × Int × Int × Int × Int => ((0 ≤ q.1 ∧ q.1 ≤ c.Conc.Lo) ∧ c.Conc.Hi ≤ q.2.1 ∧ q.2.1 ≤ 100) ∧ ((0 ≤ q.2.2.1 ∧ q.2.2.1 ≤ c.Thick.Lo) ∧ c.Thick.Hi ≤ q.2.2.2.1 ∧ q.2.2.2.1 ≤ 400) ∧
      ((0 ≤ q.2.2.2.2.1 ∧ q.2.2.2.2.1 ≤ c.Ridge.Lo) ∧ c.Ridge.Hi ≤ q.2.2.2.2.2.1 ∧ q.2.2.2.2.2.1 ≤ 100) ∧ ((0 ≤ q.2.2.2.2.2.2.1 ∧ q.2.2.2.2.2.2.1 ≤ c.Press.Lo) ∧ c.Press.Hi ≤ q.2.2.2.2.2.2.2 ∧ q.2.2.2.2.2.2.2 ≤ 3)) (fun q hq => ok_some hq) fun k hk => ?_
    refine ok_bnd _ (aged_one (m := 100) d1 u1 hh g1 (by decide)) fun v2 h2 => ?_
    refine ok_bnd _ (aged_one (m := 400) d2 u2 hh g2 (by decide)) fun v5 h5 => ?_
    refine ok_bnd _ (aged_one (m := 100) d3 u3 hh g3 (by decide)) fun v8 h8 => ?_
    refine ok_bnd _ (aged_one (m := 3) d4 u4 hh g4 (by decide)) fun v11 h11 => ?_
    exact hk _ ⟨h2, h5, h8, h11⟩
  · obtain ⟨a1, a2, a3, a4⟩ := hq
    simp only [goodSpan] at g1 g2 g3 g4
    refine ok_some ⟨⟨⟨?_, ?_, ?_⟩, ⟨?_, ?_, ?_⟩, ⟨?_, ?_, ?_⟩, ⟨?_, ?_, ?_⟩⟩, ⟨⟨?_, ?_⟩, ⟨?_, ?_⟩, ⟨?_, ?_⟩, ⟨?_, ?_⟩⟩⟩ <;> simp only [cellOfS] <;> omega
theorem m123_zero {F : Nat} {r : Rates} (hu : goodRate r.Up) (hd : goodRate r.Down) : m123 F r = some 0 := by
  have e : ∀ n : Int, 0 ≤ n ∧ n ≤ 1000 → inI n 0 1000 = true := fun n h => by simp [inI, h.1, h.2]
  unfold m123
  rw [e _ hu.1, e _ hu.2.1, e _ hu.2.2.1, e _ hu.2.2.2, e _ hd.1, e _ hd.2.1, e _ hd.2.2.1, e _ hd.2.2.2]
  rfl
theorem hull_ok {F : Nat} {c d : Cell} (gc : goodCell c) (gd : goodCell d) : Ok (fun t => goodCell (cellOfS t) ∧ InC c (cellOfS t) ∧ InC d (cellOfS t)) (m128 F (spansOf c) (spansOf d)) := by
  refine ⟨_, rfl, ?_⟩
  obtain ⟨a1, a2, a3, a4⟩ := gc
  obtain ⟨b1, b2, b3, b4⟩ := gd
  have e : ∀ x y : Int, (if y < x then y else x) ≤ x ∧ (if y < x then y else x) ≤ y ∧ ((if y < x then y else x) = x ∨ (if y < x then y else x) = y) := fun x y => by split <;> omega
  have e' : ∀ x y : Int, x ≤ (if y > x then y else x) ∧ y ≤ (if y > x then y else x) ∧ ((if y > x then y else x) = x ∨ (if y > x then y else x) = y) := fun x y => by split <;> omega
  simp only [goodSpan] at a1 a2 a3 a4 b1 b2 b3 b4
  have l1 := e c.Conc.Lo d.Conc.Lo; have r1 := e' c.Conc.Hi d.Conc.Hi
  have l2 := e c.Thick.Lo d.Thick.Lo; have r2 := e' c.Thick.Hi d.Thick.Hi
  have l3 := e c.Ridge.Lo d.Ridge.Lo; have r3 := e' c.Ridge.Hi d.Ridge.Hi
  have l4 := e c.Press.Lo d.Press.Lo; have r4 := e' c.Press.Hi d.Press.Hi
  refine ⟨⟨⟨?_, ?_, ?_⟩, ⟨?_, ?_, ?_⟩, ⟨?_, ?_, ?_⟩, ⟨?_, ?_, ?_⟩⟩, ⟨⟨?_, ?_⟩, ⟨?_, ?_⟩, ⟨?_, ?_⟩, ⟨?_, ?_⟩⟩, ⟨⟨?_, ?_⟩, ⟨?_, ?_⟩, ⟨?_, ?_⟩, ⟨?_, ?_⟩⟩⟩ <;> simp only [cellOfS, spansOf] <;> omega
end Go.Proofs.T
/- The plain law of HullAged. -/
namespace Go.Proofs.T
open Go.AX Hull
theorem m133_eq (F : Nat) (a b c d e f g h : Int) : m133_0 F a b c d e f g h = some (decide (a ≤ b) && decide (c ≤ d) && decide (e ≤ f) && decide (g ≤ h)) := by
  unfold m133_0
  generalize decide (a ≤ b) = p
  generalize decide (c ≤ d) = q
  generalize decide (e ≤ f) = r
  generalize decide (g ≤ h) = s
  cases p <;> cases q <;> cases r <;> cases s <;> rfl
def mx (x y : Int) : Int := if y > x then y else x
def mn (x y : Int) : Int := if y < x then y else x
theorem mx_ge (x y : Int) : x ≤ mx x y ∧ y ≤ mx x y := by unfold mx; split <;> omega
theorem mn_le (x y : Int) : mn x y ≤ x ∧ mn x y ≤ y := by unfold mn; split <;> omega
def meetS (s t : Span) : Span := ⟨mx s.Lo t.Lo, mn s.Hi t.Hi⟩
theorem meetS_in {s t : Span} {m : Int} (hs : goodSpan s m) (h : (meetS s t).Lo ≤ (meetS s t).Hi) : goodSpan (meetS s t) m ∧ InS (meetS s t) s ∧ InS (meetS s t) t := by
  have h1 := mx_ge s.Lo t.Lo
  have h2 := mn_le s.Hi t.Hi
  simp only [meetS, goodSpan, InS] at *
  omega
theorem m129_eq (F : Nat) (c d : Cell) : m129 F (spansOf c) (spansOf d) = bnd (m133_0 F (meetS c.Conc d.Conc).Lo (meetS c.Conc d.Conc).Hi (meetS c.Thick d.Thick).Lo (meetS c.Thick d.Thick).Hi (meetS c.Ridge d.Ridge).Lo (meetS c.Ridge d.Ridge).Hi (meetS c.Press d.Press).Lo (meetS c.Press d.Press).Hi)
    (fun v => some (⟨meetS c.Conc d.Conc, meetS c.Thick d.Thick, meetS c.Ridge d.Ridge, meetS c.Press d.Press⟩, v)) := rfl
theorem meet_ok {F : Nat} {c d : Cell} (gc : goodCell c) : Ok (fun q => q.2 = true → goodCell (cellOfS q.1) ∧ InC (cellOfS q.1) c ∧ InC (cellOfS q.1) d) (m129 F (spansOf c) (spansOf d)) := by
  rw [m129_eq]
  refine ok_bnde (m133_eq ..) (ok_some fun h => ?_)
  simp only [Bool.and_eq_true, decide_eq_true_eq] at h
  obtain ⟨a1, a2, a3, a4⟩ := gc
  obtain ⟨p1, q1, r1⟩ := meetS_in a1 h.1.1.1
  obtain ⟨p2, q2, r2⟩ := meetS_in a2 h.1.1.2
  obtain ⟨p3, q3, r3⟩ := meetS_in a3 h.1.2
  obtain ⟨p4, q4, r4⟩ := meetS_in a4 h.2
  exact ⟨⟨p1, p2, p3, p4⟩, ⟨q1, q2, q3, q4⟩, ⟨r1, r2, r3, r4⟩⟩
theorem two_zero {F : Nat} (hF : 100 ≤ F) {a b : Int} (ha : a = 0) (hb : b = 0) : m122 F [a, b] = some 0 :=
  m122_zero hF (by simp) fun x hx => by
    simp only [List.mem_cons, List.not_mem_nil, or_false] at hx
    rcases hx with rfl | rfl
    · exact ha
    · exact hb
theorem m68_ok {F : Nat} (hF : 100 ≤ F) {c : Cell} (gc : goodCell c) {r : Rates} (hu : goodRate r.Up) (hd : goodRate r.Down) {h : Int} (hh : 0 ≤ h ∧ h ≤ 10000) : Ok (fun q => q.2 = 0 ∧ goodCell q.1 ∧ InC c q.1) (m68 F c r h) := by
  unfold m68
  refine ok_bnde (m123_zero hu hd) (ok_bnde (two_zero hF (checkCell_ok.2 gc) rfl) (ok_brk (fun h => by simp at h) (fun _ => ok_brk (fun h => ?_) (fun _ => ?_))))
  · simp [inI, hh.1, hh.2] at h
  · exact ok_bnd _ (m126_ok gc hu hd hh) fun t ht => ok_bnde rfl (ok_some ⟨rfl, ht.1, ht.2⟩)
theorem m69_ok {F : Nat} (hF : 100 ≤ F) {c d : Cell} (gc : goodCell c) (gd : goodCell d) : Ok (fun q => q.2 = 0 ∧ goodCell q.1 ∧ InC c q.1 ∧ InC d q.1) (m69 F c d) := by
  unfold m69
  refine ok_bnde (two_zero hF (checkCell_ok.2 gc) (checkCell_ok.2 gd)) (ok_brk (fun h => by simp at h) (fun _ => ?_))
  exact ok_bnd _ (hull_ok gc gd) fun t ht => ok_bnde rfl (ok_some ⟨rfl, ht⟩)
theorem m70_ok {F : Nat} (hF : 100 ≤ F) {c d : Cell} (gc : goodCell c) (gd : goodCell d) : Ok (fun q => (q.2 = 0 ∧ goodCell q.1 ∧ InC q.1 c ∧ InC q.1 d) ∨ q.2 = 21) (m70 F c d) := by
  unfold m70
  refine ok_bnde (two_zero hF (checkCell_ok.2 gc) (checkCell_ok.2 gd)) (ok_brk (fun h => by simp at h) (fun _ => ?_))
  refine ok_bnd _ (meet_ok gc) fun t ht => ok_brk (fun _ => ok_some (.inr rfl)) (fun h => ok_bnde rfl (ok_some (.inl ⟨rfl, ht (by simpa using h)⟩)))
theorem m67_ok {F : Nat} {l : List Int} (h : Bytes l) (k : Nat) : Ok (fun q => goodRate q.1) (m67_0 F l k) := by
  unfold m67_0
  have e1 := dvb h k (n := 256) (by decide)
  have e2 := dvb h (k + 1) (n := 256) (by decide)
  have e3 := dvb h (k + 1 + 1) (n := 256) (by decide)
  have e4 := dvb h (k + 1 + 1 + 1) (n := 30) (by decide)
  refine ok_some ⟨⟨?_, ?_⟩, ⟨?_, ?_⟩, ⟨?_, ?_⟩, ⟨?_, ?_⟩⟩ <;> simp only [] <;> omega
structure Pairs (l m : List Cell) : Prop where
  len : l.length = m.length
  most : l.length ≤ 5
  each : ∀ i : Int, 0 ≤ i → i < l.length → goodCell (l.getD i.toNat default) ∧ goodCell (m.getD i.toNat default) ∧ InC (m.getD i.toNat default) (l.getD i.toNat default)
theorem m13_ok {F : Nat} (hF : 1000 ≤ F) {l1 l2 l3 l4 : List Int} (h1 : Bytes l1) (h2 : Bytes l2) (h3 : Bytes l3) (h4 : Bytes l4) {x : Int} (hx : 0 ≤ x ∧ x ≤ 255) (ch : Bool) : Ok (fun r => r = true) (m13 F l1 l2 l3 l4 x ch) := by
  unfold m13
  refine ok_bnd _ (m15_ok (by omega) h1) fun s hc => ?_
  refine ok_bnd _ (m17_ok h2) fun c gc => ?_
  refine ok_bnd _ (m17_ok h3) fun d gd => ?_
  refine ok_bnd _ (m67_ok h4 0) fun u hu => ?_
  refine ok_bnd _ (m67_ok h4 _) fun v hv => ok_chk (by omega) ?_
  refine ok_bnd _ (m68_ok (by omega) (r := ⟨u.1, v.1⟩) gc hu hv (h := x) ⟨hx.1, by omega⟩) fun A hA => ?_
  refine ok_bnd _ (m69_ok (by omega) gc gd) fun H hH => ?_
  refine ok_bnd _ (m70_ok (by omega) gc gd) fun M hM => ?_
  obtain ⟨A, eA⟩ := A
  obtain ⟨H, eH⟩ := H
  obtain ⟨M, eM⟩ := M
  obtain ⟨rfl, gA, iA⟩ := hA
  obtain ⟨rfl, gH, iH, jH⟩ := hH
  simp only [] at hM gA iA gH iH jH ⊢
  refine ok_brk (fun h => ?_) (fun _ => ?_)
  · exfalso; simp at h; rcases hM with ⟨h0, _⟩ | h0 <;> simp_all
  refine ok_join (fun q : List Cell × List Cell => Pairs q.1 q.2) (fun q hq => ?_) fun k hk => ?_
  · obtain ⟨L, N⟩ := q
    simp only [] at hq ⊢
    have hm := hq.most
    refine ok_join (fun _ => True) (fun _ _ => ok_some rfl) fun k2 hk2 => ?_
    refine ok_loop (fun i : Int => 0 ≤ i ∧ i ≤ L.length) (fun i => (L.length - i).toNat) (by omega) (by omega) fun i next hI hn => ?_
    refine ok_brk (fun h => ?_) (fun _ => hk2 _ trivial)
    have h := of_decide_eq_true h
    obtain ⟨gL, gN, iN⟩ := hq.each i hI.1 h
    have hlN : i < N.length := by rw [← hq.len]; exact h
    refine ok_chk ⟨hI.1, h⟩ (ok_bnde (m55_eq ..) (ok_chk ⟨hI.1, hlN⟩ (ok_bnde (m55_eq ..) ?_)))
    generalize L.getD i.toNat default = P at gL iN ⊢
    generalize N.getD i.toNat default = Q at gN iN ⊢
    obtain ⟨e1, e2, e3, e4⟩ := speeds_wider hc gN gL iN ch
    rw [e1, e2, safeE_eq hc gL, safeE_eq hc gN]
    refine ok_brk (fun h => ?_) (fun _ => ok_brk (fun h => ?_) (fun _ => ok_chk (by omega) (hn _ (by omega) (by omega))))
    · exfalso; simp at h; omega
    · exfalso
      by_cases e : (safe s P ch).2 = 0
      · obtain ⟨w1, w2⟩ := safe_wider hc gN gL iN e
        simp [e, w1] at h; omega
      · rcases safe_err e with e' | e' <;> simp [e'] at h
  · have three : Pairs [A, H, H] [c, c, d] := ⟨rfl, by simp, fun i h0 h1 => by
      have : i = 0 ∨ i = 1 ∨ i = 2 := by simp at h1; omega
      rcases this with rfl | rfl | rfl
      · exact ⟨gA, gc, iA⟩
      · exact ⟨gH, gc, iH⟩
      · exact ⟨gH, gd, jH⟩⟩
    refine ok_brk (fun h => ?_) (fun _ => hk _ three)
    have h : eM = 0 := by simpa using h
    rcases hM with ⟨_, gM, iM, jM⟩ | h0
    · refine ok_chk (by simp) (ok_chk (by simp) (hk _ ⟨rfl, by simp, fun i h0 h1 => ?_⟩))
      have : i = 0 ∨ i = 1 ∨ i = 2 ∨ i = 3 ∨ i = 4 := by simp at h1; omega
      rcases this with rfl | rfl | rfl | rfl | rfl
      · exact ⟨gA, gc, iA⟩
      · exact ⟨gH, gc, iH⟩
      · exact ⟨gH, gd, jH⟩
      · exact ⟨gc, gM, iM⟩
      · exact ⟨gd, gM, jM⟩
    · omega
end Go.Proofs.T
