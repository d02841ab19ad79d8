/- The plain law of HullMonotone: Made makes valid ships, Frozen valid cells, and the law answers true. -/
import Derived.Test.YtgpcfckbcldokaaDoorHO
import Derived.Test.YtgpcfckbcldokaaDoorAxR
import Derived.Test.YtgpcfckbcldokaaDoorHP3
namespace Go.Proofs.T
open Go.AX Hull

def Bytes (l : List Int) : Prop := ∀ x ∈ l, 0 ≤ x ∧ x ≤ 255

theorem dvb {l : List Int} (h : Bytes l) (k : Nat) {n : Int} (hn : 1 ≤ n) : 0 ≤ dv l k n ∧ dv l k n ≤ n - 1 ∧ dv l k n ≤ 255 := dv_bd h hn

theorem m74_ok {F : Nat} {l : List Int} (h8 : Bytes l) {step wide most : Int} (hs : step = 1 ∨ step = 2) (hw : 1 ≤ wide ∧ wide ≤ 1000) (hm : 0 ≤ most ∧ most ≤ 1000) (k : Nat) :
    Ok (fun r => goodSpan r.1 most ∧ r.2 = k + 2) (m74_0 F 0 step wide most l k) := by
  unfold m74_0
  have h1 := dvb h8 k (n := most / step + 1 - 0 / step) (by rcases hs with rfl | rfl <;> omega)
  have h2 := dvb h8 (k + 1) (n := wide) hw.1
  generalize dv l k (most / step + 1 - 0 / step) = a at h1 ⊢
  generalize dv l (k + 1) wide = b at h2 ⊢
  rcases hs with rfl | rfl
  all_goals
    repeat' (with_reducible refine ok_chk (by omega) ?_)
    refine ok_some ⟨?_, rfl⟩
    simp only [goodSpan]
    split <;> omega

theorem m17_ok {F : Nat} {l : List Int} (h8 : Bytes l) : Ok goodCell (m17 F l) := by
  unfold m17
  refine ok_bnd _ (m74_ok h8 (.inl rfl) (by omega) (by omega) 0) fun v1 h1 => ?_
  refine ok_bnd _ (m74_ok h8 (.inr rfl) (by omega) (by omega) _) fun v2 h2 => ?_
  refine ok_bnd _ (m74_ok h8 (.inl rfl) (by omega) (by omega) _) fun v3 h3 => ?_
  refine ok_bnd _ (m74_ok h8 (.inl rfl) (by omega) (by omega) _) fun v4 h4 => ?_
  exact ok_some ⟨h1.1, h2.1, h3.1, h4.1⟩

/-- Points that can be the beginning of a steady curve; the last one is (x, y). -/
structure Pre (w : Int) (l : List Pt) (x y : Int) : Prop where
  len : 1 ≤ l.length
  x0 : (pt l 0).X = 0
  bd : ∀ i : Nat, i < l.length → 0 ≤ (pt l i).X ∧ (pt l i).X ≤ 400 ∧ 0 ≤ (pt l i).Y ∧ (pt l i).Y ≤ 20000
  st : ∀ i : Nat, 1 ≤ i → i < l.length → (pt l ((i : Int) - 1)).X < (pt l i).X ∧ 0 ≤ ((pt l i).Y - (pt l ((i : Int) - 1)).Y) * w
  last : pt l ((l.length : Int) - 1) = ⟨x, y⟩

theorem pt_old {l : List Pt} {p : Pt} {i : Int} (h0 : 0 ≤ i) (h : i < l.length) : pt (l ++ [p]) i = pt l i := by
  unfold pt
  have h : i.toNat < l.length := by omega
  simp [List.getD, List.getElem?_append_left h]

theorem pt_new {l : List Pt} {p : Pt} : pt (l ++ [p]) (l.length : Int) = p := by
  unfold pt
  simp [List.getD]

theorem Pre.one {w y : Int} (hy : 0 ≤ y ∧ y ≤ 20000) : Pre w [⟨0, y⟩] 0 y := by
  refine ⟨by simp, rfl, fun i hi => ?_, fun i h1 hi => ?_, rfl⟩
  · have : i = 0 := by simpa using hi
    subst this
    simp [pt]; omega
  · simp at hi; omega

theorem Pre.snoc {w x y x' y' : Int} {l : List Pt} (h : Pre w l x y) (hx : x < x' ∧ x' ≤ 400) (hy : 0 ≤ y' ∧ y' ≤ 20000) (hw : 0 ≤ (y' - y) * w) : Pre w (l ++ [⟨x', y'⟩]) x' y' := by
  have hl := h.len
  have hlast := h.last
  have hx0 := (h.bd (l.length - 1) (by omega)).1
  rw [show (((l.length - 1 : Nat)) : Int) = (l.length : Int) - 1 by omega, hlast] at hx0
  simp only [] at hx0
  refine ⟨by simp, by rw [pt_old (by omega) (by omega)]; exact h.x0, fun i hi => ?_, fun i h1 hi => ?_, ?_⟩
  · by_cases e : i < l.length
    · rw [pt_old (by omega) (by omega)]; exact h.bd i e
    · have : i = l.length := by simp at hi; omega
      subst this
      rw [pt_new]; simp only []; omega
  · by_cases e : i < l.length
    · rw [pt_old (by omega) (by omega), pt_old (by omega) (by omega)]; exact h.st i h1 e
    · have : i = l.length := by simp at hi; omega
      subst this
      rw [pt_new, pt_old (by omega) (by omega), hlast]
      exact ⟨hx.1, hw⟩
  · rw [show (((l ++ [(⟨x', y'⟩ : Pt)]).length : Int) - 1) = (l.length : Int) by simp, pt_new]

theorem Pre.steady {w x y : Int} {l : List Pt} (h : Pre w l x y) (hl : 2 ≤ l.length ∧ l.length ≤ 8) : steady l w = true ∧ endX l = x := by
  have hc : curve l = true := by
    refine curve_yes (k := l.length) ?_ h.x0 (fun j hj => ?_) (Nat.le_refl _)
    · simp [within]; omega
    · have h1 := h.bd j hj
      simp only [curveAt, within]
      by_cases e : j = 0
      · subst e
        have h0 := h.x0
        have h1' : 0 ≤ (pt l 0).X ∧ (pt l 0).X ≤ 400 ∧ 0 ≤ (pt l 0).Y ∧ (pt l 0).Y ≤ 20000 := h1
        simp; omega
      · have h2 := (h.st j (by omega) hj).1
        have h3 : ¬ (pt l (j : Int)).X ≤ (pt l ((j : Int) - 1)).X := by omega
        simp [h3]; omega
  refine ⟨steady_yes (k := l.length) hc (fun j hj h1 => ?_) (Nat.le_refl _), by rw [endX, h.last]⟩
  have h2 := (h.st j h1 hj).2
  simp only [steadyAt]
  simp; omega

theorem m15_ok {F : Nat} (hF : 100 ≤ F) {l : List Int} (h8 : Bytes l) : Ok (fun s => check s = 0) (m15 F l) := by
  have D := fun k n h => dvb h8 k (n := n) h
  unfold m15
  have d0 := D 0 6 (by omega); have d1 := D 1 256 (by omega); have d2 := D 2 256 (by omega); have d3 := D 3 256 (by omega); have d4 := D 4 21 (by omega); have d5 := D 5 101 (by omega)
  have d6 := D 6 240 (by omega); have d7 := D 7 256 (by omega); have d8 := D 8 256 (by omega); have d9 := D 9 4 (by omega)
  repeat' (with_reducible refine ok_chk (by omega) ?_)
  refine ok_join (fun (q : List Pt × Nat) => Pre (-1) q.1 (endX q.1) (pt q.1 ((q.1.length : Int) - 1)).Y ∧ 2 ≤ q.1.length ∧ q.1.length ≤ 8 ∧ 10 ≤ endX q.1 ∧ endX q.1 ≤ 250) (fun x1 h1 => ?_) fun k1 hk1 => ?_
  · refine ok_join (fun (q : List Pt × Nat) => Pre 1 q.1 (endX q.1) (pt q.1 ((q.1.length : Int) - 1)).Y ∧ 2 ≤ q.1.length ∧ q.1.length ≤ 8 ∧ endX q.1 ≤ 250) (fun x3 h3 => ?_) fun k3 hk3 => ?_
    · refine ok_join (fun (q : Int × List Pt × Nat) => ∃ x, Pre 1 q.2.1 x q.1 ∧ (pt q.2.1 0).Y = 0 ∧ q.2.1.length ≤ 4 ∧ x ≤ 390 ∧ 0 ≤ q.1 ∧ q.1 ≤ 3000) (fun x5 h5 => ?_) fun k5 hk5 => ?_
      · obtain ⟨x, hp, h0, hl, hx, hy⟩ := h5
        have e := D x5.2.2 256 (by omega)
        have hl1 := hp.len
        repeat' (with_reducible refine ok_chk (by omega) ?_)
        refine ok_some ?_
        have hq := (hp.snoc (x' := 400) (y' := x5.1 + 4 * dv l x5.2.2 256) (by omega) (by omega) (by omega)).steady (by simp; omega)
        obtain ⟨p1, l1, l2, e1, e2⟩ := h1
        obtain ⟨p3, l3, l4, e3⟩ := h3
        have s1 := p1.steady ⟨l1, l2⟩
        have s3 := p3.steady ⟨l3, l4⟩
        have r1 : rule1 (⟨1 + dv l 0 6, 100 + 390 * dv l 1 256, 10 + 7 * dv l 2 256, 10 + 1900 * dv l 3 256, x1.1, x3.1, x5.2.1 ++ [⟨400, x5.1 + 4 * dv l x5.2.2 256⟩], dv l 4 21, dv l 5 101, 2 * dv l 6 240, 4 * dv l 7 256⟩ : Ship) = true := by
          simp [rule1, within]; omega
        have r2 : rule2 (⟨1 + dv l 0 6, 100 + 390 * dv l 1 256, 10 + 7 * dv l 2 256, 10 + 1900 * dv l 3 256, x1.1, x3.1, x5.2.1 ++ [⟨400, x5.1 + 4 * dv l x5.2.2 256⟩], dv l 4 21, dv l 5 101, 2 * dv l 6 240, 4 * dv l 7 256⟩ : Ship) = true := by
          simp [rule2, within]; omega
        have r3 : rule3 (⟨1 + dv l 0 6, 100 + 390 * dv l 1 256, 10 + 7 * dv l 2 256, 10 + 1900 * dv l 3 256, x1.1, x3.1, x5.2.1 ++ [⟨400, x5.1 + 4 * dv l x5.2.2 256⟩], dv l 4 21, dv l 5 101, 2 * dv l 6 240, 4 * dv l 7 256⟩ : Ship) = true := by
          simp [rule3, within]; omega
        have r4 : rule4 (⟨1 + dv l 0 6, 100 + 390 * dv l 1 256, 10 + 7 * dv l 2 256, 10 + 1900 * dv l 3 256, x1.1, x3.1, x5.2.1 ++ [⟨400, x5.1 + 4 * dv l x5.2.2 256⟩], dv l 4 21, dv l 5 101, 2 * dv l 6 240, 4 * dv l 7 256⟩ : Ship) = true := by
          simp [rule4, within, s1.1]; omega
        have r5 : rule5 (⟨1 + dv l 0 6, 100 + 390 * dv l 1 256, 10 + 7 * dv l 2 256, 10 + 1900 * dv l 3 256, x1.1, x3.1, x5.2.1 ++ [⟨400, x5.1 + 4 * dv l x5.2.2 256⟩], dv l 4 21, dv l 5 101, 2 * dv l 6 240, 4 * dv l 7 256⟩ : Ship) = true := by
          simp [rule5, s3.1]; omega
        have r6 : rule6 (⟨1 + dv l 0 6, 100 + 390 * dv l 1 256, 10 + 7 * dv l 2 256, 10 + 1900 * dv l 3 256, x1.1, x3.1, x5.2.1 ++ [⟨400, x5.1 + 4 * dv l x5.2.2 256⟩], dv l 4 21, dv l 5 101, 2 * dv l 6 240, 4 * dv l 7 256⟩ : Ship) = true := by
          simp only [rule6, hq.1, hq.2]; rw [pt_old (by omega) (by omega), h0]; rfl
        simp only [check, r1, r2, r3, r4, r5, r6]; rfl
      · have e9 := D x3.2 4 (by omega)
        refine ok_loop (fun (q : Int × Int × Int × List Pt × Nat) => Pre 1 q.2.2.2.1 q.1 q.2.1 ∧ (pt q.2.2.2.1 0).Y = 0 ∧ 0 ≤ q.2.2.1 ∧ q.2.2.1 ≤ 3 ∧ (q.2.2.2.1.length : Int) = q.2.2.1 + 1 ∧ q.1 ≤ 90 * q.2.2.1 ∧ 0 ≤ q.1 ∧ 0 ≤ q.2.1 ∧ q.2.1 ≤ 765 * q.2.2.1) (fun q => (3 - q.2.2.1).toNat) ?_ (by simp; omega) fun q next hI hn => ?_
        · exact ⟨Pre.one (by omega), rfl, by simp, by simp, rfl, by simp, by simp, by simp, by simp⟩
        · obtain ⟨hp, h0, h1', h2, h3', h4, h5, h6, h7⟩ := hI
          refine ok_brk (fun hc => ?_) (fun hc => ?_)
          · have hc := of_decide_eq_true hc
            have a1 := D q.2.2.2.2 90 (by omega)
            have a2 := D (q.2.2.2.2 + 1) 256 (by omega)
            repeat' (with_reducible refine ok_chk (by omega) ?_)
            refine hn _ ⟨hp.snoc (by omega) (by omega) (by omega), by simp only []; rw [pt_old (by omega) (by omega)]; exact h0, by first | omega | (simp only []; omega), by first | omega | (simp only []; omega), by simp only [List.length_append, List.length_singleton]; omega, by first | omega | (simp only []; omega), by first | omega | (simp only []; omega), by first | omega | (simp only []; omega), by first | omega | (simp only []; omega)⟩ (by first | omega | (simp only []; omega))
          · have hc := of_decide_eq_false hc
            exact hk5 _ ⟨q.1, hp, h0, by first | omega | (simp only []; omega), by omega, by first | omega | (simp only []; omega), by first | omega | (simp only []; omega)⟩
    · have e9 := D (x1.2 + 1) 3 (by omega)
      have e8 := D x1.2 50 (by omega)
      refine ok_chk (by omega) ?_
      refine ok_loop (fun (q : Int × Int × Int × List Pt × Nat) => Pre 1 q.2.2.2.1 q.1 q.2.1 ∧ 0 ≤ q.2.2.1 ∧ q.2.2.1 ≤ 3 ∧ q.2.2.1 ≤ 1 + dv l (x1.2 + 1) 3 ∧ (q.2.2.2.1.length : Int) = q.2.2.1 + 1 ∧ q.1 ≤ 80 * q.2.2.1 ∧ 0 ≤ q.1 ∧ 0 ≤ q.2.1 ∧ q.2.1 ≤ 50 + 765 * q.2.2.1) (fun q => (3 - q.2.2.1).toNat) ?_ (by simp; omega) fun q next hI hn => ?_
      · exact ⟨Pre.one (by omega), by simp, by simp, by first | omega | (simp only []; omega), rfl, by simp, by simp, by first | omega | (simp only []; omega), by first | omega | (simp only []; omega)⟩
      · obtain ⟨hp, h1', h2, h2', h3', h4, h5, h6, h7⟩ := hI
        refine ok_brk (fun hc => ?_) (fun hc => ?_)
        · have hc := of_decide_eq_true hc
          have a1 := D q.2.2.2.2 80 (by omega)
          have a2 := D (q.2.2.2.2 + 1) 256 (by omega)
          repeat' (with_reducible refine ok_chk (by omega) ?_)
          refine hn _ ⟨hp.snoc (by omega) (by omega) (by omega), by first | omega | (simp only []; omega), by first | omega | (simp only []; omega), by first | omega | (simp only []; omega), by simp only [List.length_append, List.length_singleton]; omega, by first | omega | (simp only []; omega), by first | omega | (simp only []; omega), by first | omega | (simp only []; omega), by first | omega | (simp only []; omega)⟩ (by first | omega | (simp only []; omega))
        · have hc := of_decide_eq_false hc
          have hle : endX q.2.2.2.1 = q.1 := by rw [endX, hp.last]
          refine hk3 _ ⟨?_, by first | omega | (simp only []; omega), by first | omega | (simp only []; omega), by simp only [hle]; omega⟩
          simp only [hle, hp.last]; exact hp
  · refine ok_chk (by omega) ?_
    refine ok_loop (fun (q : Int × Int × Int × List Pt × Nat) => Pre (-1) q.2.2.2.1 q.1 q.2.1 ∧ 0 ≤ q.2.2.1 ∧ q.2.2.1 ≤ 4 ∧ q.2.2.1 ≤ 1 + dv l 9 4 ∧ (q.2.2.2.1.length : Int) = q.2.2.1 + 1 ∧ q.1 ≤ 49 * q.2.2.1 ∧ 10 * q.2.2.1 ≤ q.1 ∧ 0 ≤ q.2.1 ∧ q.2.1 ≤ 5300) (fun q => (4 - q.2.2.1).toNat) ?_ (by show (4 - (0 : Int)).toNat < F; omega) fun q next hI hn => ?_
    · exact ⟨Pre.one (by omega), by simp, by simp, by first | omega | (simp only []; omega), rfl, by simp, by simp, by first | omega | (simp only []; omega), by first | omega | (simp only []; omega)⟩
    · obtain ⟨hp, h1', h2, h2', h3', h4, h5, h6, h7⟩ := hI
      refine ok_brk (fun hc => ?_) (fun hc => ?_)
      · have hc := of_decide_eq_true hc
        have a1 := D q.2.2.2.2 40 (by omega)
        have a2 := D (q.2.2.2.2 + 1) 101 (by omega)
        have hm := mul_nn (x := q.2.1) (y := dv l (q.2.2.2.2 + 1) 101) (a := 0) (A := 5300) (b := 0) (B := 100) (by omega) (by omega) (by decide) (by decide)
        have hlen : (q.2.2.2.1 ++ [(⟨0, 0⟩ : Pt)]).length = q.2.2.2.1.length + 1 := by simp
        have hm2 : q.2.1 * dv l (q.2.2.2.2 + 1) 101 ≤ q.2.1 * 100 := Int.mul_le_mul_of_nonneg_left (by omega) (by omega)
        generalize q.2.1 * dv l (q.2.2.2.2 + 1) 101 = pr at hm hm2 ⊢
        repeat' (with_reducible refine ok_chk (by omega) ?_)
        refine hn _ ⟨hp.snoc (by omega) (by omega) (by omega), by first | omega | (simp only []; omega), by first | omega | (simp only []; omega), by first | omega | (simp only []; omega), by simp only [List.length_append, List.length_singleton]; omega, by first | omega | (simp only []; omega), by first | omega | (simp only []; omega), by first | omega | (simp only []; omega), by first | omega | (simp only []; omega)⟩ (by first | omega | (simp only []; omega))
      · have hc := of_decide_eq_false hc
        have hle : endX q.2.2.2.1 = q.1 := by rw [endX, hp.last]
        refine hk1 _ ⟨?_, by first | omega | (simp only []; omega), by first | omega | (simp only []; omega), by simp only [hle]; omega, by simp only [hle]; omega⟩
        simp only [hle, hp.last]; exact hp
end Go.Proofs.T
