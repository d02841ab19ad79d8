/- Texts PSO, KFR: own work; each part says what it is. -/
import Derived.Test.YthojfpmmocenkaaSe3
import Derived.Handed
import Derived.OpenShut
import Derived.ChangeSlices
import Derived.JoinedOf
namespace Go.Proofs.Sp
open Go Go.KX

abbrev c0 : Cell := Cell.mk (Span.mk (0 : Int) (0 : Int)) (Span.mk (0 : Int) (0 : Int)) (Span.mk (0 : Int) (0 : Int)) (Span.mk (0 : Int) (0 : Int))

/-! ### Ices and charts -/

structure IceIn (a b c : Int) : Prop where
  a : 0 ≤ a ∧ a ≤ 100
  b : 0 ≤ b ∧ b ≤ 400
  c : 0 ≤ c ∧ c ≤ 100

theorem iceIn_eq (F : Nat) (a b c : Int) : ice_in F a b c = some (decide (a ≥ b) && decide (a ≤ c)) := rfl
theorem wb_of {a b c : Int} (h : (!(decide (a ≥ b) && decide (a ≤ c))) = false) : b ≤ a ∧ a ≤ c := by
  simpa using h

theorem CheckIce_ok (F : Nat) (i : Ice) : Ok (fun e => e = 0 → IceIn i.Conc i.Thick i.Ridge) (ice_CheckIce F i) := by
  unfold ice_CheckIce
  refine ok_bnde (b := Numbers.mk i.Conc i.Thick i.Ridge i.Press) rfl ?_
  refine ok_join (fun x : Bool => x = true → IceIn i.Conc i.Thick i.Ridge) (fun x hx => ok_brk (fun h => ok_some (fun h2 => by cases h2)) (fun h => ok_some (fun _ => hx (by simpa using h)))) fun k hk => ?_
  refine ok_bnde (b := Numbers.mk 100 400 100 3) rfl (ok_bnde (b := Numbers.mk 100 400 100 3) rfl (ok_bnde (iceIn_eq _ _ _ _) (ok_brk (fun h => hk _ (fun h => by cases h)) (fun q1 => ?_))))
  refine ok_bnde (b := Numbers.mk 100 400 100 3) rfl (ok_bnde (iceIn_eq _ _ _ _) (ok_brk (fun h => hk _ (fun h => by cases h)) (fun q2 => ?_)))
  refine ok_bnde (b := Numbers.mk 100 400 100 3) rfl (ok_bnde (iceIn_eq _ _ _ _) (ok_brk (fun h => hk _ (fun h => by cases h)) (fun q3 => ?_)))
  refine ok_bnde (b := Numbers.mk 100 400 100 3) rfl (ok_bnde (iceIn_eq _ _ _ _) (ok_brk (fun h => hk _ (fun h => by cases h)) (fun q4 => ?_)))
  exact hk _ fun _ => ⟨wb_of q1, wb_of q2, wb_of q3⟩

theorem mul_b {a b A B : Int} (h1 : 0 ≤ a ∧ a ≤ A) (h2 : 0 ≤ b ∧ b ≤ B) : 0 ≤ a * b ∧ a * b ≤ A * B :=
  ⟨Int.mul_nonneg h1.1 h2.1, Int.mul_le_mul h1.2 h2.2 h2.1 (by omega)⟩

theorem cap_eq {F : Nat} {i : Ice} (h : IceIn i.Conc i.Thick i.Ridge) : spill_capacity F i = some (i.Conc * (i.Thick + 5 * i.Ridge) / 100) := by
  unfold spill_capacity
  obtain ⟨a, b, c⟩ := h
  have hm := mul_b a (show 0 ≤ i.Thick + 5 * i.Ridge ∧ i.Thick + 5 * i.Ridge ≤ 900 by omega)
  rw [chk_pos ⟨by omega, by omega⟩, chk_pos ⟨by omega, by omega⟩, chk_pos ⟨by omega, by omega⟩, chk_pos ⟨by omega, by omega⟩]

theorem refCap_eq {F : Nat} {a b c : Int} (hF : 200 < F) (h : IceIn a b c) : ref11_Capacity F a b c = some (a * (b + 5 * c) / 100) := by
  refine Ok.eq ?_
  unfold ref11_Capacity
  obtain ⟨ha, hb, hc⟩ := h
  refine ok_loop (fun x : Int × Int => 0 ≤ x.1 ∧ x.1 ≤ c ∧ x.2 = b + 5 * x.1) (fun x : Int × Int => c.toNat - x.1.toNat) ⟨by simp, hc.1, by simp⟩ (by simp; omega) ?_
  rintro ⟨i, n⟩ next ⟨i1, i2, i3⟩ hn
  simp only at i1 i2 i3
  refine ok_brk (fun h => ?_) (fun h => ?_)
  · have h : i < c := by simpa using h
    refine ok_chk (show InR (n + 5) from ⟨by omega, by omega⟩) (ok_chk (show InR (i + 1) from ⟨by omega, by omega⟩) (hn _ ⟨by show 0 ≤ i + 1; omega, by show i + 1 ≤ c; omega, by show n + 5 = b + 5 * (i + 1); omega⟩ (by show c.toNat - (i + 1).toNat < c.toNat - i.toNat; omega)))
  · have h : ¬ i < c := by simpa using h
    obtain rfl : i = c := by omega
    have hm := mul_b ha (show 0 ≤ n ∧ n ≤ 900 by omega)
    refine ok_chk (show InR (a * n) from ⟨by omega, by omega⟩) (ok_chk (show 0 ≤ a * n ∧ a * n ≤ 9223372036854775807 from ⟨by omega, by omega⟩) (ok_some ?_))
    show a * n / 100 = _
    rw [i3]

def CellIn (c : Cell) : Prop := IceIn c.Conc.Lo c.Thick.Lo c.Ridge.Lo ∧ IceIn c.Conc.Hi c.Thick.Hi c.Ridge.Hi

theorem right_ok {F : Nat} {s : Span} {k : Int} (h0 : 0 ≤ k) (h1 : k < 4) : Ok (fun b => b = true → 0 ≤ s.Lo ∧ s.Lo ≤ s.Hi ∧ s.Hi ≤ [(100 : Int), 400, 100, 3].getD k.toNat 0) (ice_right F s k) := by
  unfold ice_right
  refine ok_bnde (b := Numbers.mk 100 400 100 3) rfl (ok_chk ⟨h0, by show k < 4; exact h1⟩ ?_)
  rw [iceIn_eq, bnd_so]
  cases hb : (decide (s.Lo ≥ 0) && decide (s.Lo ≤ [(Numbers.mk 100 400 100 3).a0, (Numbers.mk 100 400 100 3).a1, (Numbers.mk 100 400 100 3).a2, (Numbers.mk 100 400 100 3).a3].getD k.toNat 0)) with
  | false => exact ok_bnde (b := Numbers.mk 0 0 0 0) rfl (ok_chk (fun h => by cases h) (ok_bnde (b := false) rfl (ok_some (fun h => by cases h))))
  | true =>
    refine ok_bnde (b := Numbers.mk 100 400 100 3) rfl (ok_chk (fun _ => ⟨h0, h1⟩) (ok_bnde (iceIn_eq F _ _ _) (ok_some fun h => ?_)))
    have h : (decide (s.Hi ≥ s.Lo) && decide (s.Hi ≤ [(100 : Int), 400, 100, 3].getD k.toNat 0)) = true := h
    simp only [Bool.and_eq_true, decide_eq_true_eq] at hb h
    exact ⟨hb.1, h.1, h.2⟩

theorem CheckCell_ok (F : Nat) (c : Cell) : Ok (fun e => e = 0 → CellIn c) (ice_CheckCell F c) := by
  unfold ice_CheckCell
  refine ok_bnde (b := Spans.mk c.Conc c.Thick c.Ridge c.Press) rfl ?_
  refine ok_join (fun x : Bool => x = true → CellIn c) (fun x hx => ok_brk (fun h => ok_some (fun h2 => by cases h2)) (fun h => ok_some (fun _ => hx (by simpa using h)))) fun k hk => ?_
  refine ok_bnde (b := Numbers.mk 100 400 100 3) rfl (ok_bnd _ (right_ok (s := c.Conc) (k := 0) (by decide) (by decide)) fun b1 h1 => ok_brk (fun h => hk _ (fun h => by cases h)) (fun q1 => ?_))
  refine ok_bnd _ (right_ok (s := c.Thick) (k := IntKind.i64.wrap (0 + 1)) (by decide) (by decide)) fun b2 h2 => ok_brk (fun h => hk _ (fun h => by cases h)) (fun q2 => ?_)
  refine ok_bnd _ (right_ok (s := c.Ridge) (k := IntKind.i64.wrap (IntKind.i64.wrap (0 + 1) + 1)) (by decide) (by decide)) fun b3 h3 => ok_brk (fun h => hk _ (fun h => by cases h)) (fun q3 => ?_)
  refine ok_bnd _ (right_ok (s := c.Press) (k := IntKind.i64.wrap (IntKind.i64.wrap (IntKind.i64.wrap (0 + 1) + 1) + 1)) (by decide) (by decide)) fun b4 h4 => ok_brk (fun h => hk _ (fun h => by cases h)) (fun q4 => ?_)
  have r1 : 0 ≤ c.Conc.Lo ∧ c.Conc.Lo ≤ c.Conc.Hi ∧ c.Conc.Hi ≤ 100 := h1 (by simpa using q1)
  have r2 : 0 ≤ c.Thick.Lo ∧ c.Thick.Lo ≤ c.Thick.Hi ∧ c.Thick.Hi ≤ 400 := h2 (by simpa using q2)
  have r3 : 0 ≤ c.Ridge.Lo ∧ c.Ridge.Lo ≤ c.Ridge.Hi ∧ c.Ridge.Hi ≤ 100 := h3 (by simpa using q3)
  exact hk _ fun _ => ⟨⟨by omega, by omega, by omega⟩, ⟨by omega, by omega, by omega⟩⟩

theorem mul_small {w h : Int} (h1 : 1 ≤ w ∧ w ≤ 64) (h2 : 1 ≤ h ∧ h ≤ 64) : 0 ≤ w * h ∧ w * h ≤ 4096 := mul_b (a := w) (b := h) (A := 64) (B := 64) ⟨by omega, h1.2⟩ ⟨by omega, h2.2⟩

theorem size_ok (F : Nat) (w h t : Int) : Ok (fun e => e = 0 → (1 ≤ w ∧ w ≤ 64) ∧ (1 ≤ h ∧ h ≤ 64)) (ice_size F w h t) := by
  unfold ice_size
  rw [iceIn_eq, bnd_so]
  cases hb : (decide (w ≥ 1) && decide (w ≤ 64)) with
  | false =>
    refine ok_bnde (b := false) rfl (ok_chk (fun h => by cases h) (ok_bnde (b := false) rfl (ok_brkT rfl (ok_some fun h => by cases h))))
  | true =>
    have hw : 1 ≤ w ∧ w ≤ 64 := by simpa using hb
    refine ok_bnde (iceIn_eq F h 1 64) ?_
    cases hb2 : (decide (h ≥ 1) && decide (h ≤ 64)) with
    | false => exact ok_chk (fun h => by cases h) (ok_bnde (b := false) rfl (ok_brkT rfl (ok_some fun h => by cases h)))
    | true =>
      have hh : 1 ≤ h ∧ h ≤ 64 := by simpa using hb2
      have hm := mul_small hw hh
      refine ok_chk (fun _ => ⟨by omega, by omega⟩) ?_
      refine ok_bnd (fun _ => True) ?_ fun b _ => ok_brk (fun _ => ok_some fun h => by cases h) (fun _ => ok_some fun _ => ⟨hw, hh⟩)
      refine ok_brk (fun _ => ?_) (fun _ => ok_some trivial)
      rw [iceIn_eq]; exact ok_some trivial

theorem CheckChart_ok {F : Nat} {c : Chart} (hF : c.Cells.length < F) (hl : c.Cells.length ≤ 1000000) : Ok (fun e => e = 0 → ∀ x ∈ c.Cells, CellIn x) (ice_CheckChart F c) := by
  unfold ice_CheckChart
  refine ok_bnd _ (size_ok F c.W c.H c.Hour) fun e he => ok_brk (fun h => ok_some fun h2 => ?_) (fun h => ?_)
  · rw [h2] at h; simp at h
  have hm := mul_small (he (by simpa using h)).1 (he (by simpa using h)).2
  refine ok_chk ⟨by omega, by omega⟩ (ok_brk (fun _ => ok_some fun h => by cases h) (fun _ => ?_))
  refine ok_join (fun e : Int => e = 0 → ∀ x ∈ c.Cells, CellIn x) (fun e he => ok_some he) fun k hk => ?_
  refine ok_loop (fun i : Int => 0 ≤ i ∧ i ≤ c.Cells.length ∧ ∀ j : Nat, (j : Int) < i → CellIn (c.Cells.getD j c0)) (fun i : Int => c.Cells.length - i.toNat) ⟨by omega, by omega, fun j hj => by omega⟩ (by simp; omega) fun i next ⟨h3, h4, h5⟩ hn => ?_
  refine ok_brk (fun hc => ?_) (fun hc => hk _ fun _ x hx => ?_)
  · have hc : i < c.Cells.length := by simpa using hc
    refine ok_chk ⟨h3, hc⟩ (ok_bnd _ (CheckCell_ok F (c.Cells.getD i.toNat c0)) fun e he => ok_brk (fun hb => hk _ fun h => ?_) (fun hb => ok_chk ⟨by omega, by omega⟩ (hn _ ⟨by omega, by omega, fun j hj => ?_⟩ (by omega))))
    · rw [h] at hb; cases hb
    · by_cases e : (j : Int) < i
      · exact h5 j e
      · obtain rfl : j = i.toNat := by omega
        exact he (by simpa using hb)
  · have hc : ¬ i < c.Cells.length := by simpa using hc
    obtain ⟨j, hj, rfl⟩ := List.getElem_of_mem hx
    have := h5 j (by omega)
    rwa [getD_get hj] at this

def capV (c : Cell) : Span := ⟨c.Conc.Lo * (c.Thick.Lo + 5 * c.Ridge.Lo) / 100, c.Conc.Hi * (c.Thick.Hi + 5 * c.Ridge.Hi) / 100⟩

theorem eqS {F : Nat} {l : List Sight} (hF : l.length < F) (hl : l.length ≤ 1000000) : slices_Equal_spill_Sight F l l = some true := by
  refine Ok.eq ?_
  unfold slices_Equal_spill_Sight
  refine ok_brkF (by simp) ?_
  refine ok_loop (fun x : Int => 0 ≤ x) (fun x : Int => l.length - x.toNat) (by omega) (by simp; omega) ?_
  intro x next h0 hn
  refine ok_brk (fun hc => ?_) (fun _ => ok_some rfl)
  have hc : x < l.length := by simpa using hc
  exact ok_chk ⟨h0, hc⟩ (ok_chk ⟨h0, hc⟩ (ok_brkF (by simp) (ok_chk ⟨by omega, by omega⟩ (hn _ (by omega) (by omega)))))
theorem eqC {F : Nat} {l : List Cell} (hF : l.length < F) (hl : l.length ≤ 1000000) : slices_Equal_ice_Cell F l l = some true := by
  refine Ok.eq ?_
  unfold slices_Equal_ice_Cell
  refine ok_brkF (by simp) ?_
  refine ok_loop (fun x : Int => 0 ≤ x) (fun x : Int => l.length - x.toNat) (by omega) (by simp; omega) ?_
  intro x next h0 hn
  refine ok_brk (fun hc => ?_) (fun _ => ok_some rfl)
  have hc : x < l.length := by simpa using hc
  exact ok_chk ⟨h0, hc⟩ (ok_chk ⟨h0, hc⟩ (ok_brkF (by simp) (ok_chk ⟨by omega, by omega⟩ (hn _ (by omega) (by omega)))))

theorem copy_eq {F : Nat} {f : Field} (h : f.Cells.length ≤ 1000000) : law11_CopyField F f = some f := by
  unfold law11_CopyField kit_CopySpans
  rw [chk_pos h]; rfl

theorem seen_ok {f : Field} {S : List Sight} {i : Ice} {c : Chart} : law11_SpillSeen 1000 f S i c = some true := by
  refine Ok.eq ?_
  unfold law11_SpillSeen
  refine ok_brk (fun _ => ok_bnde awake_ok (ok_some rfl)) (fun hg => ?_)
  simp only [Bool.or_eq_false_iff, Bool.and_eq_false_iff, decide_eq_false_iff_not] at hg
  obtain ⟨⟨⟨hg1, hg2⟩, hg3⟩, hg4⟩ := hg
  have g1 : f.Cells.length ≤ 80 := by omega
  have g2 : S.length ≤ 120 := by omega
  have g4 : c.Cells.length ≤ 100 := by omega
  refine ok_bnde (copy_eq (f := f) (by omega)) (ok_bnde (b := S) (by unfold slices_Clone_spill_Sight; rw [chk_pos (by simp; omega)]; rfl) ?_)
  refine ok_loop (fun x : List Sight × Int => 0 ≤ x.2 ∧ x.2 ≤ S.length ∧ x.1 = S.take x.2.toNat) (fun x : List Sight × Int => S.length - x.2.toNat) ⟨by simp, by simp, rfl⟩ (by simp; omega) ?_
  rintro ⟨R, j⟩ next ⟨j1, j2, j3⟩ hn
  simp only at j1 j2 j3
  have lr : R.length ≤ 120 := by rw [j3, List.length_take]; omega
  refine ok_brk (fun hc => ?_) (fun hc => ?_)
  · have hc : j < S.length := by simpa using hc
    have hj : j.toNat < S.length := by omega
    refine ok_chk ⟨j1, hc⟩ (ok_chk (show R.length + 1 ≤ 1000000 by omega) (ok_chk (show InR (j + 1) from ⟨by omega, by omega⟩) (hn _ ⟨by show 0 ≤ j + 1; omega, by show j + 1 ≤ _; omega, ?_⟩ (by show S.length - (j + 1).toNat < S.length - j.toNat; omega))))
    show R ++ [S.getD j.toNat g0] = S.take (j + 1).toNat
    rw [show (j + 1).toNat = j.toNat + 1 by omega, take_succ' (d := g0) hj, j3]
  have hc : ¬ j < S.length := by simpa using hc
  obtain rfl : R = S := by rw [j3, List.take_of_length_le (by omega)]
  obtain ⟨v1, v2⟩ := seeV_ok f R
  refine ok_bnde (See_eq (f := f) (by omega) g1 g2) (ok_bnde (copy_eq (f := f) (by omega)) (ok_bnde (refSee_eq (f := f) (by omega) g1 g2) ?_))
  generalize hv : seeV f R = v at v1 v2
  obtain ⟨vf, ve⟩ := v
  have v1 : ∀ s ∈ vf.Cells, SpanOK 1000000 s := v1
  have v2 : vf.Cells.length ≤ f.Cells.length := v2
  refine ok_bnde (b := true) ?_ (ok_brkF (by simp) ?_)
  · rw [show (!((vf, ve).2 != (vf, ve).2)) = true by simp, brk_true]
    exact same_refl (f := vf) (by omega) (by omega)
  refine ok_loop (fun x : Int × List Span => 0 ≤ x.1 ∧ x.2.length = vf.Cells.length ∧ ∀ k : Nat, x.1 ≤ k → x.2.getD k ⟨0, 0⟩ = vf.Cells.getD k ⟨0, 0⟩) (fun x : Int × List Span => vf.Cells.length - x.1.toNat) ⟨by simp, rfl, fun k _ => rfl⟩ (by simp; omega) ?_
  rintro ⟨k, cells⟩ next2 ⟨k1, k2, k3⟩ hn2
  simp only at k1 k2 k3
  refine ok_brk (fun hc2 => ?_) (fun hc2 => ?_)
  · have hc2 : k < vf.Cells.length := by simpa using hc2
    have hk := k3 k.toNat (by omega)
    have hs := v1 _ (getD_mem (i := k.toNat) (d := (⟨0, 0⟩ : Span)) (by omega : k.toNat < vf.Cells.length))
    rw [← hk] at hs
    have ix : 0 ≤ k ∧ k < (cells.length : Int) := ⟨k1, by omega⟩
    refine ok_chk ix (ok_chk (show InR ((cells.getD k.toNat ⟨0, 0⟩).Hi + 1) from ⟨by omega, by omega⟩) (ok_chk ix (ok_chk (show InR (k + 1) from ⟨by omega, by omega⟩) (hn2 _ ⟨by show 0 ≤ k + 1; omega, by show (cells.set _ _).length = _; rw [List.length_set]; exact k2, fun q hq => ?_⟩ (by show vf.Cells.length - (k + 1).toNat < vf.Cells.length - k.toNat; omega)))))
    have hq : k + 1 ≤ q := hq
    show (cells.set k.toNat _).getD q ⟨0, 0⟩ = _
    rw [getD_set' (by omega), if_neg (by omega)]
    exact k3 q (by omega)
  -- the capacity of an ice
  refine ok_bnd (fun x : Int × Int => ∃ e, ice_CheckIce 1000 i = some e ∧ x.2 = e ∧ (e = 0 → IceIn i.Conc i.Thick i.Ridge) ∧ (e = 0 → x.1 = i.Conc * (i.Thick + 5 * i.Ridge) / 100) ∧ (e ≠ 0 → x.1 = 0)) ?_ ?_
  · unfold spill_Capacity
    obtain ⟨e, h1, h2⟩ := CheckIce_ok 1000 i
    refine ok_bnde (b := e) h1 (ok_brk (fun hb => ok_some ⟨e, h1, rfl, h2, fun h => ?_, fun _ => rfl⟩) (fun hb => ?_))
    · rw [h] at hb; simp at hb
    · have he : e = 0 := by simpa using hb
      exact ok_bnde (cap_eq (i := i) (h2 he)) (ok_some ⟨e, h1, he.symm, h2, fun _ => rfl, fun h => absurd he h⟩)
  rintro ⟨cap, ec⟩ ⟨e, h1, h2, h3, h4, h5⟩
  have h2 : ec = e := h2
  have h4 : e = 0 → cap = i.Conc * (i.Thick + 5 * i.Ridge) / 100 := h4
  have h5 : e ≠ 0 → cap = 0 := h5
  subst h2
  refine ok_bnde (b := ec) h1 ?_
  refine ok_bnde (b := cap) ?_ (ok_brkF ?_ ?_)
  · by_cases he : ec = 0
    · rw [show (!(cap, ec).2 != ec && ec == 0) = true by simp [he], brk_true, refCap_eq (by omega) (h3 he), h4 he]
    · rw [show (!(cap, ec).2 != ec && ec == 0) = false by simp [he], brk_false, h5 he]
  · by_cases he : ec = 0
    · simp [he]
    · simp [he, h5 he]
  -- capacities of a chart
  refine ok_bnde (b := c.Cells) (by unfold slices_Clone_ice_Cell; rw [chk_pos (by simp; omega)]; rfl) ?_
  refine ok_bnd (fun x : List Span × Int => ∃ e, ice_CheckChart 1000 c = some e ∧ x.2 = e ∧ (e = 0 → ∀ y ∈ c.Cells, CellIn y) ∧ (e = 0 → x.1 = c.Cells.map capV) ∧ (e ≠ 0 → x.1 = [])) ?_ ?_
  · unfold spill_Capacities
    obtain ⟨e, h1, h2⟩ := CheckChart_ok (F := 1000) (c := c) (by omega) (by omega)
    refine ok_bnde (b := e) h1 (ok_brk (fun hb => ok_some ⟨e, h1, rfl, h2, fun h => ?_, fun _ => rfl⟩) (fun hb => ?_))
    · rw [h] at hb; simp at hb
    · have he : e = 0 := by simpa using hb
      refine ok_loop (fun x : Int × List Span => 0 ≤ x.1 ∧ x.1 ≤ c.Cells.length ∧ x.2 = (c.Cells.map capV).take x.1.toNat) (fun x : Int × List Span => c.Cells.length - x.1.toNat) ⟨by simp, by simp, rfl⟩ (by simp; omega) ?_
      rintro ⟨q, o⟩ next3 ⟨q1, q2, q3⟩ hn3
      simp only at q1 q2 q3
      have lo : o.length ≤ 100 := by rw [q3, List.length_take, List.length_map]; omega
      refine ok_brk (fun hc3 => ?_) (fun hc3 => ok_some ⟨e, h1, he.symm, h2, fun _ => ?_, fun h => absurd he h⟩)
      · have hc3 : q < c.Cells.length := by simpa using hc3
        have hq : q.toNat < c.Cells.length := by omega
        obtain ⟨b1, b2⟩ := h2 he _ (getD_mem (d := c0) hq)
        refine ok_chk ⟨q1, hc3⟩ (ok_bnde (cap_eq (i := ⟨(c.Cells.getD q.toNat c0).Conc.Lo, (c.Cells.getD q.toNat c0).Thick.Lo, (c.Cells.getD q.toNat c0).Ridge.Lo, 0⟩) b1) (ok_bnde (cap_eq (i := ⟨(c.Cells.getD q.toNat c0).Conc.Hi, (c.Cells.getD q.toNat c0).Thick.Hi, (c.Cells.getD q.toNat c0).Ridge.Hi, 0⟩) b2) (ok_chk (show o.length + 1 ≤ 1000000 by omega) (ok_chk (show InR (q + 1) from ⟨by omega, by omega⟩) (hn3 _ ⟨by show 0 ≤ q + 1; omega, by show q + 1 ≤ _; omega, ?_⟩ (by show c.Cells.length - (q + 1).toNat < c.Cells.length - q.toNat; omega))))))
        show o ++ [_] = (c.Cells.map capV).take (q + 1).toNat
        rw [show (q + 1).toNat = q.toNat + 1 by omega, take_succ' (d := ⟨0, 0⟩) (by simpa using hq), q3, getD_map _ _ _ c0 _ hq]
        rfl
      · have hc3 : ¬ q < c.Cells.length := by simpa using hc3
        show o = _
        rw [q3, List.take_of_length_le (by rw [List.length_map]; omega)]
  rintro ⟨caps, eh⟩ ⟨e, h1', h2', h3', h4', h5'⟩
  have h2' : eh = e := h2'
  have h4' : e = 0 → caps = c.Cells.map capV := h4'
  have h5' : e ≠ 0 → caps = [] := h5'
  subst h2'
  refine ok_bnde (b := eh) h1' (ok_brkF ?_ ?_)
  · by_cases he : eh = 0
    · simp [he, h4' he]
    · simp [he, h5' he]
  have lc : caps.length ≤ 100 := by
    by_cases he : eh = 0
    · rw [h4' he, List.length_map]; exact g4
    · rw [h5' he]; simp
  refine ok_loop (fun x : Int => 0 ≤ x) (fun x : Int => caps.length - x.toNat) (by omega) (by simp; omega) ?_
  intro q next4 q0 hn4
  refine ok_brk (fun hc4 => ?_) (fun _ => ?_)
  · have hc4 : q < caps.length := by simpa using hc4
    have he : eh = 0 := Classical.byContradiction fun he => by rw [h5' he] at hc4; simp at hc4; omega
    have hcap := h4' he
    have hql : q < (c.Cells.length : Int) := by rw [hcap, List.length_map] at hc4; exact hc4
    have hq : q.toNat < c.Cells.length := by omega
    obtain ⟨b1, b2⟩ := h3' he _ (getD_mem (d := c0) hq)
    have hg : caps.getD q.toNat ⟨0, 0⟩ = capV (c.Cells.getD q.toNat c0) := by rw [hcap, getD_map _ _ _ c0 _ hq]
    refine ok_chk ⟨q0, hc4⟩ (ok_chk ⟨q0, hql⟩ (ok_bnde (refCap_eq (by omega) b1) ?_))
    refine ok_bnde (b := (capV (c.Cells.getD q.toNat c0)).Hi) ?_ (ok_brkF ?_ (ok_chk ⟨by omega, by omega⟩ (hn4 _ (by omega) (by omega))))
    · show brk (!((caps.getD q.toNat ⟨0, 0⟩).Lo != (capV (c.Cells.getD q.toNat c0)).Lo)) _ _ = _
      rw [hg, show (!((capV (c.Cells.getD q.toNat c0)).Lo != (capV (c.Cells.getD q.toNat c0)).Lo)) = true by simp, brk_true]
      exact refCap_eq (by omega) b2
    · show ((caps.getD q.toNat ⟨0, 0⟩).Lo != (capV (c.Cells.getD q.toNat c0)).Lo || (caps.getD q.toNat ⟨0, 0⟩).Hi != (capV (c.Cells.getD q.toNat c0)).Hi) = false
      rw [hg]; simp
  refine ok_bnde (same_refl (f := f) (by omega) (by omega)) (ok_bnde (b := true) ?_ (ok_bnde (b := true) ?_ (ok_bnde (b := true) ?_ (ok_some rfl))))
  · exact eqS (by omega) (by omega)
  · exact eqC (by omega) (by omega)
  · show brk true (law11_awake 1000) (some false) = some true
    rw [brk_true]; exact awake_ok

theorem seen_plain {f : Field} {S : List Sight} {i : Ice} {c : Chart} {P Q R T : Prop} (_ : P) (_ : Q) (_ : R) (_ : T) : law11_SpillSeen 1000 f S i c = some true := seen_ok
end Go.Proofs.Sp

namespace Go.KX
open Go Go.ChangeShapes Go.WideShapes Go.RowKit

/-- Types whose reading asks only for cells: numbers, Booleans, and structs, arrays and slices of such. -/
def goodT (P : Program) : Nat → TypeId → Bool
  | 0, _ => false
  | n + 1, t => match P.underlying t with
    | some (.int _) => true
    | some .bool => true
    | some (.struct fs) => fs.toList.all fun f => goodT P n f.type
    | some (.array _ e) => goodT P n e
    | some (.slice e) => goodT P n e && Nat.ble 1 (P.cellsOf e)
    | _ => false

theorem mapM_carry' {α β : Type} {f g : α → Option β} : ∀ {l : List α} {r : List β}, l.mapM f = some r → (∀ x y, x ∈ l → y ∈ r → f x = some y → g x = some y) → l.mapM g = some r := mapM_carry

section
variable {H : Type} {enc : TypeId × Value → H} {P : Program} {w : World} {base : Nat} {held : Bool}

theorem trod_spare {sp : Nat → Bool} : ∀ (m n : Nat) (t : TypeId) (cs : List Value) (x : DataW H × List MemPlace), goodT P m t = true →
    DataW.trod enc P w base (fun _ => true) held n t cs = some x → (∀ p ∈ x.2, sp p.block = true) → DataW.trod enc P w base sp held n t cs = some x := by
  intro m
  induction m with
  | zero => intro n t cs x h; cases h
  | succ m ih =>
    intro n t cs x hg h hs
    cases n with
    | zero => simp [DataW.trod] at h
    | succ n =>
      rw [DataW.trod_step] at h ⊢
      unfold goodT at hg
      unfold DataW.trodStep at h ⊢
      split at h
      case h_1 => exact h
      case h_2 => exact h
      case h_8 e a len cap hu =>
        rw [hu] at hg
        simp only [Bool.and_eq_true] at hg
        simp only at h ⊢
        split at h
        · rename_i hc
          rw [if_pos hc]
          simp only [if_true, Option.map_eq_some_iff, Option.bind_eq_some_iff] at h ⊢
          obtain ⟨elems, he, rest, hr, rfl⟩ := h
          have hlen : elems.length = len := by simpa using mapM_some_length he
          have hrlen : rest.length = cap - len := by simpa using mapM_some_length hr
          have hk : 1 ≤ P.cellsOf e := Nat.le_of_ble_eq_true hg.2
          have one : ∀ i y, (w.cells? base (a.add (i * P.cellsOf e)) (P.cellsOf e)).bind (DataW.trod enc P w base (fun _ => true) held n e) = some y → (∀ p ∈ y.2, sp p.block = true) →
              (w.cells? base (a.add (i * P.cellsOf e)) (P.cellsOf e)).bind (DataW.trod enc P w base sp held n e) = some y := by
            intro i y hy hp
            rw [Option.bind_eq_some_iff] at hy ⊢
            obtain ⟨cs', h1, h2⟩ := hy
            exact ⟨cs', h1, ih n e cs' y hg.1 h2 hp⟩
          have hpl : ∀ y, y ∈ elems ++ rest → ∀ p ∈ y.2, sp p.block = true := fun y hy p hp => hs p (by
            simp only [List.mem_append]
            exact .inr (List.mem_flatMap.2 ⟨y, hy, hp⟩))
          refine ⟨elems, mapM_carry' he fun i y hi hy hiy => one i y hiy (hpl y (by simp [hy])), rest, ?_, rfl⟩
          by_cases hcap : cap = 0
          · have : rest = [] := List.length_eq_zero_iff.1 (by omega)
            subst this
            split
            · rw [show cap - len = 0 by omega]; rfl
            · rfl
          · have : sp a.block = true := by
              have := hs (.cell a.block (a.off + 0)) (by
                simp only [List.mem_append]
                refine .inl (MemPlace.mem_row.2 ⟨0, ?_, rfl⟩)
                rw [hlen, hrlen, show len + (cap - len) = cap by omega]
                exact Nat.mul_pos (by omega) hk)
              exact this
            rw [if_pos this]
            exact mapM_carry' hr fun j y hj hy hjy => one _ y hjy (hpl y (by simp [hy]))
        · cases h
      case h_7 => exact h
      case h_9 fs cs' hu =>
        rw [hu] at hg
        simp only at hg
        split at h
        · rename_i hl
          rw [if_pos hl]
          simp only [Option.map_eq_some_iff] at h ⊢
          obtain ⟨xs, hx, rfl⟩ := h
          refine ⟨xs, mapM_carry' hx fun f y hf hy hfy => ih n f.type _ y (List.all_eq_true.1 hg f hf) hfy fun p hp => hs p ?_, rfl⟩
          exact List.mem_flatMap.2 ⟨y, hy, hp⟩
        · cases h
      case h_10 =>
        rename_i e hu
        rw [hu] at hg
        simp only at hg
        split at h
        · rename_i hl
          rw [if_pos hl]
          simp only [Option.map_eq_some_iff] at h ⊢
          obtain ⟨xs, hx, rfl⟩ := h
          refine ⟨xs, mapM_carry' hx fun f y hf hy hfy => ih n e _ y hg hfy fun p hp => hs p ?_, rfl⟩
          exact List.mem_flatMap.2 ⟨y, hy, hp⟩
        · cases h
      all_goals simp_all

theorem trod_move {w' : World} {sp : Nat → Bool} {t : TypeId} {v : Value} {d : DataW H} {ps : List MemPlace} (hg : goodT P 8 t = true) (h : DataW.Trod enc P w base (fun _ => true) held t v d ps)
    (hsame : ∀ p ∈ ps, w.sameAt w' p) (hs : ∀ p ∈ ps, sp p.block = true) : DataW.Trod enc P w' base sp held t v d ps := by
  obtain ⟨n, hn⟩ := h
  exact ⟨n, trod_spare 8 n t _ _ hg (DataW.trod_carry n t _ _ hn hsame) hs⟩

theorem trodAll_move {w' : World} {sp : Nat → Bool} : ∀ {ts : List TypeId} {vs : List Value} {ds : List (DataW H)} {ps : List MemPlace}, ts.all (goodT P 8) = true → DataW.TrodAll enc P w base (fun _ => true) held ts vs ds ps →
    (∀ p ∈ ps, w.sameAt w' p) → (∀ p ∈ ps, sp p.block = true) → DataW.TrodAll enc P w' base sp held ts vs ds ps := by
  intro ts
  induction ts with
  | nil =>
    intro vs ds ps _ h _ _
    obtain ⟨rfl, rfl, rfl⟩ := trodAll_nil h
    rfl
  | cons t ts ih =>
    intro vs ds ps hg h hsame hs
    obtain ⟨v, vs', d, ds', p, q, rfl, rfl, rfl, h1, h2⟩ := trodAll_cons h
    simp only [List.all_cons, Bool.and_eq_true] at hg
    exact ⟨p, q, trod_move hg.1 h1 (fun x hx => hsame x (by simp [hx])) (fun x hx => hs x (by simp [hx])), ih hg.2 h2 (fun x hx => hsame x (by simp [hx])) (fun x hx => hs x (by simp [hx])), rfl⟩

/-- A law that returns true and leaves what was there alone. -/
theorem post_law {f : Func} {s : ChangeSpec} {W W' : World} {args : Array Value} {ds gs : List (DataW H)} {before : List MemPlace} {tb : TypeId} (hW : DataW.Whole enc P f.params.toList s.vars false W args.toList ds gs before)
    (hv : s.vars = []) (hfn : s.fn H ds = { results := [.lit (.bool true)], args := ds }) (hrt : f.resultTypes = #[tb]) (htb : P.underlying tb = some .bool) (hgood : f.params.toList.all (goodT P 8) = true) (hb : Below W.heap.size W W') :
    s.post enc P f false true false false W args (.bool true) W' := by
  have hW0 := hW
  obtain ⟨p, q, hA, hV, rfl, _, _⟩ := hW
  rw [hv] at hV
  obtain ⟨rfl, rfl⟩ := trodVars_none hV
  have hlt : ∀ x ∈ p ++ [], x.block < W.heap.size := fun x hx => hW0.lt x hx
  have hsame : ∀ x ∈ p, W.sameAt W' x := fun x hx => hb.same (hlt x (by simpa using hx))
  refine ⟨ds, [], p ++ [], [], p, [], hW0, ?_, ?_, ?_, hb.frame _, fun h => by cases h⟩
  · simp only [List.append_nil, hfn, hrt]
    exact trodAll_mk1 (shut_bool htb _)
  · simp only [List.append_nil, hfn]
    exact trodAll_move hgood hA hsame fun x hx => by simpa using hlt x (by simpa using hx)
  · simp only [List.append_nil, hfn, hv]
    rfl
end

theorem wf_u8 {n : Int} (h : (Lit.int .u8 n).wf = true) : 0 ≤ n ∧ n ≤ 255 := by
  simp [Lit.wf, IntKind.min, IntKind.max, IntKind.signed, IntKind.bits] at h
  omega
theorem wf_u16 {n : Int} (h : (Lit.int .u16 n).wf = true) : 0 ≤ n ∧ n ≤ 65535 := by
  simp [Lit.wf, IntKind.min, IntKind.max, IntKind.signed, IntKind.bits] at h
  omega
theorem wf_u32 {n : Int} (h : (Lit.int .u32 n).wf = true) : 0 ≤ n ∧ n ≤ 4294967295 := by
  simp [Lit.wf, IntKind.min, IntKind.max, IntKind.signed, IntKind.bits] at h
  omega
theorem wf_i64 {n : Int} (h : (Lit.int .i64 n).wf = true) : -9223372036854775808 ≤ n ∧ n ≤ 9223372036854775807 := by
  simp [Lit.wf, IntKind.min, IntKind.max, IntKind.signed, IntKind.bits] at h
  omega

/-- Values of the type t read as something of the registered type c, of which In is so. -/
def HReads (E : Env) (t : TypeId) (c : Nat) (In : E.G.car c → Prop) : Prop :=
  E.P.cellsOf t = E.G.sz c ∧ ∀ (H : Type) (e : TypeId × Value → H) (w : World) (base : Nat) (sp : Nat → Bool) (held : Bool) (fuel : Nat) (cs : List Value) (x : DataW H × List MemPlace),
    DataW.trod e E.P w base sp held fuel t cs = some x → ∃ a : E.G.car c, HdL E.G (IsCells w) w (E.G.enc c a) cs ∧ In a

theorem isCells_of {w : World} {a : Addr} {u : Value} (h : w.cell? a = some u) : IsCells w a.block ∧ a.spot = none := by
  unfold World.cell? at h
  split at h
  · rename_i c e s hb
    refine ⟨⟨_, hb, rfl⟩, ?_⟩
    split at h
    · cases h
    · rename_i hs
      simpa using hs
  · cases h

section
variable {E : Env} {H : Type} {e : TypeId × Value → H} {w : World} {base : Nat} {sp : Nat → Bool} {held : Bool}

theorem hdL_one {x : Value} {cv : CV E.G.car} (h : Hd E.G (IsCells w) w cv x) : HdL E.G (IsCells w) w [cv] [x] := ⟨_, _, rfl, h, rfl⟩

theorem hdL_append : ∀ {a b : List (CV E.G.car)} {u v : List Value}, HdL E.G (IsCells w) w a u → HdL E.G (IsCells w) w b v → HdL E.G (IsCells w) w (a ++ b) (u ++ v)
  | [], _, _, _, h, h' => by cases h; exact h'
  | _ :: _, _, _, _, ⟨x, us, rfl, h1, h2⟩, h' => ⟨x, us ++ _, rfl, h1, hdL_append h2 h'⟩

theorem hreads_int {t : TypeId} {c : Nat} {k : IntKind} {In : E.G.car c → Prop} (f : Int → E.G.car c) (hf : ∀ n, E.G.enc c (f n) = [.v (.int k n)]) (hu : E.P.underlying t = some (.int k)) (hc : E.P.cellsOf t = E.G.sz c)
    (hIn : ∀ n, (Lit.int k n).wf = true → In (f n)) : HReads E t c In :=
  ⟨hc, fun _ _ _ _ _ _ _ _ _ h => by
    obtain ⟨n, h1, _, h2⟩ := DataW.trod_int hu h
    subst h1
    exact ⟨f n, by rw [hf]; exact hdL_one (.v _), hIn n h2⟩⟩

theorem hreads_bool {t : TypeId} {c : Nat} {In : E.G.car c → Prop} (f : Bool → E.G.car c) (hf : ∀ n, E.G.enc c (f n) = [.v (.bool n)]) (hu : E.P.underlying t = some .bool) (hc : E.P.cellsOf t = E.G.sz c) (hIn : ∀ b, In (f b)) : HReads E t c In :=
  ⟨hc, fun _ _ _ _ _ _ _ _ _ h => by
    obtain ⟨n, h1, _⟩ := DataW.trod_bool hu h
    subst h1
    exact ⟨f n, by rw [hf]; exact hdL_one (.v _), hIn n⟩⟩

theorem fields_of {t : TypeId} {fs : Array Field} {fuel : Nat} {cs : List Value} {x : DataW H × List MemPlace} (hu : E.P.underlying t = some (.struct fs)) (h : DataW.trod e E.P w base sp held fuel t cs = some x) :
    cs.length = E.P.cellsOf t ∧ ∀ (j : Nat) (fd : Field), fs[j]? = some fd → ∃ fuel y, DataW.trod e E.P w base sp held fuel fd.type ((cs.drop fd.offset).take (E.P.cellsOf fd.type)) = some y := by
  obtain ⟨xs, n, rfl, rfl, hl, hlen, hf⟩ := DataW.trod_struct hu h
  refine ⟨hl, fun j fd hj => ?_⟩
  have hlt : j < xs.length := by have := (Array.getElem?_eq_some_iff.1 hj).1; omega
  exact ⟨n, xs[j], by rw [hf j fd hj, List.getElem?_eq_getElem hlt]⟩

theorem HReads.at {t : TypeId} {c off : Nat} {In : E.G.car c → Prop} {cs : List Value} (hR : HReads E t c In)
    (hx : ∃ fuel y, DataW.trod e E.P w base sp held fuel t ((cs.drop off).take (E.P.cellsOf t)) = some y) : ∃ a, HdL E.G (IsCells w) w (E.G.enc c a) ((cs.drop off).take (E.G.sz c)) ∧ In a := by
  obtain ⟨fuel, y, h⟩ := hx
  rw [hR.1] at h
  exact hR.2 _ _ _ _ _ _ _ _ _ h

theorem hcut_cons {a r : List (CV E.G.car)} {cs : List Value} {o n : Nat} (h : HdL E.G (IsCells w) w a ((cs.drop o).take n)) (hr : HdL E.G (IsCells w) w r (cs.drop (o + n))) : HdL E.G (IsCells w) w (a ++ r) (cs.drop o) := by
  have := hdL_append h hr
  rwa [← List.drop_drop, List.take_append_drop] at this

theorem hcut_nil {cs : List Value} {o : Nat} (h : cs.length ≤ o) : HdL E.G (IsCells w) w [] (cs.drop o) := List.drop_eq_nil_of_le h

/-- A slice's elements. -/
theorem hslice_of {t el : TypeId} {c fuel : Nat} {In : E.G.car c → Prop} {cs : List Value} {x : DataW H × List MemPlace} (hu : E.P.underlying t = some (.slice el)) (hR : HReads E el c In) (hn : 0 < E.G.sz c)
    (h : DataW.trod e E.P w base sp held fuel t cs = some x) :
    ∃ (p : Option Addr) (n cap : Nat) (l : List (E.G.car c)), cs = [.slice p n cap] ∧ Hd E.G (IsCells w) w (.sl c l) (.slice p n cap) ∧ (∀ x ∈ l, In x) ∧ l.length ≤ 9223372036854775807 := by
  rcases DataW.trod_slice hu h with ⟨rfl, _⟩ | ⟨a, len, cap, elems, rest, m, _, rfl, _, hb, hl, hm, hel, hi, _, _⟩
  · exact ⟨none, 0, 0, [], rfl, Hd.mk (b := 0) (o := 0) rfl (Nat.le_refl _) (fun h => absurd rfl h) (fun i x hx => by simp at hx), by simp, by simp⟩
  have build : ∀ k, k ≤ len → ∃ l : List (E.G.car c), l.length = k ∧ ∀ i x, l[i]? = some x → In x ∧ ∃ us, w.cells? base (a.add (i * E.G.sz c)) (E.G.sz c) = some us ∧ HdL E.G (IsCells w) w (E.G.enc c x) us := by
    intro k
    induction k with
    | zero => intro _; exact ⟨[], rfl, fun i x hx => by simp at hx⟩
    | succ k ih =>
      intro hk
      obtain ⟨l, h1, h2⟩ := ih (by omega)
      have h3 := hi k (by omega)
      rw [List.getElem?_eq_getElem (by omega), hR.1, Option.bind_eq_some_iff] at h3
      obtain ⟨cs', h4, h5⟩ := h3
      obtain ⟨y, hy1, hy⟩ := hR.2 _ _ _ _ _ _ _ _ _ h5
      refine ⟨l ++ [y], by simp [h1], fun i x hx => ?_⟩
      rcases Nat.lt_or_ge i k with h6 | h6
      · rw [List.getElem?_append_left (by omega)] at hx; exact h2 i x hx
      · rw [List.getElem?_append_right (by omega)] at hx
        have : i - l.length = 0 := by
          have := (List.getElem?_eq_some_iff.1 hx).1
          simpa using this
        rw [this] at hx
        simp only [List.getElem?_cons_zero, Option.some.injEq] at hx
        subst hx
        obtain rfl : i = k := by omega
        exact ⟨hy, _, h4, hy1⟩
  obtain ⟨l, h1, h2⟩ := build len (Nat.le_refl _)
  have hcell : ∀ (i : Nat) x, l[i]? = some x → ∀ (j : Nat) (cv : CV E.G.car), (E.G.enc c x)[j]? = some cv → ∃ u, w.cell? ((a.add (i * E.G.sz c)).add j) = some u ∧ Hd E.G (IsCells w) w cv u := by
    intro i x hx j cv hcv
    obtain ⟨_, us, h3, h4⟩ := h2 i x hx
    obtain ⟨u, h5, h6⟩ := h4.get j cv hcv
    obtain ⟨_, h7, h8⟩ := World.cells?_some h3
    refine ⟨u, ?_, h6⟩
    rw [h8 j (by rw [← h7]; exact (List.getElem?_eq_some_iff.1 h5).1), h5]
  refine ⟨some a, len, cap, l, rfl, ?_, fun x hx => ?_, by unfold maxLen at hm; omega⟩
  · rcases Nat.eq_zero_or_pos len with h0 | h0
    · have : l = [] := List.length_eq_zero_iff.1 (by omega)
      subst this
      exact Hd.mk (b := 0) (o := 0) h1.symm hl (fun h => absurd rfl h) (fun i x hx => by simp at hx)
    · have hpos : 0 < l.length := by omega
      have hz : 0 < (E.G.enc c l[0]).length := by rw [E.G.hsz]; exact hn
      obtain ⟨u, h3, _⟩ := hcell 0 l[0] (List.getElem?_eq_getElem hpos) 0 _ (List.getElem?_eq_getElem hz)
      rw [Nat.zero_mul, show (a.add 0).add 0 = a by simp [Addr.add]] at h3
      obtain ⟨h4, h5⟩ := isCells_of h3
      obtain ⟨b, o, s⟩ := a
      simp only at h4 h5
      subst h5
      refine Hd.mk (b := b) (o := o) h1.symm hl (fun _ => ⟨rfl, h4⟩) (fun i x hx j cv hcv => ?_)
      have := hcell i x hx j cv hcv
      rwa [addr_add, addr_add] at this
  · obtain ⟨i, hi⟩ := List.getElem?_of_mem hx
    exact (h2 i x hi).1

theorem hreads_slice {t el : TypeId} {c d : Nat} {In : E.G.car c → Prop} {In' : E.G.car d → Prop} (f : List (E.G.car c) → E.G.car d) (hf : ∀ l, E.G.enc d (f l) = [.sl c l]) (hu : E.P.underlying t = some (.slice el)) (hR : HReads E el c In)
    (hn : 0 < E.G.sz c) (hc : E.P.cellsOf t = E.G.sz d) (hIn : ∀ l, (∀ x ∈ l, In x) → l.length ≤ 9223372036854775807 → In' (f l)) : HReads E t d In' :=
  ⟨hc, fun _ _ _ _ _ _ _ _ _ h => by
    obtain ⟨p, n, cap, l, rfl, h1, h2, h3⟩ := hslice_of hu hR hn h
    exact ⟨f l, by rw [hf]; exact hdL_one h1, hIn l h2 h3⟩⟩

/-! ### Arguments -/

theorem harg_int {r : Reach} {b0 : Nat} {t : TypeId} {c : Nat} {k : IntKind} {In : E.G.car c → Prop} {v : Value} {d : DataW H} {ps : List MemPlace} (hR : HReads E t c In) (hu : E.P.underlying t = some (.int k))
    (hval : Value.okWide E.P w r b0 t v) (h : DataW.Trod e E.P w base sp held t v d ps) : ∃ a : E.G.car c, ArgIs E (IsCells w) w (.v c false) a v ∧ In a := by
  obtain ⟨n, rfl⟩ := okWide_int hu hval
  obtain ⟨fuel, hf⟩ := h
  obtain ⟨a, h1, h2⟩ := hR.2 _ _ _ _ _ _ _ _ _ hf
  exact ⟨a, ⟨_, h1, rfl⟩, h2⟩

theorem harg_bool {r : Reach} {b0 : Nat} {t : TypeId} {c : Nat} {In : E.G.car c → Prop} {v : Value} {d : DataW H} {ps : List MemPlace} (hR : HReads E t c In) (hu : E.P.underlying t = some .bool)
    (hval : Value.okWide E.P w r b0 t v) (h : DataW.Trod e E.P w base sp held t v d ps) : ∃ a : E.G.car c, ArgIs E (IsCells w) w (.v c false) a v ∧ In a := by
  obtain ⟨n, rfl⟩ := okWide_bool hu hval
  obtain ⟨fuel, hf⟩ := h
  obtain ⟨a, h1, h2⟩ := hR.2 _ _ _ _ _ _ _ _ _ hf
  exact ⟨a, ⟨_, h1, rfl⟩, h2⟩

theorem harg_agg {r : Reach} {b0 : Nat} {t : TypeId} {c : Nat} {fs : Array Field} {In : E.G.car c → Prop} {v : Value} {d : DataW H} {ps : List MemPlace} (hR : HReads E t c In) (hu : E.P.underlying t = some (.struct fs))
    (hval : Value.okWide E.P w r b0 t v) (h : DataW.Trod e E.P w base sp held t v d ps) : ∃ a : E.G.car c, ArgIs E (IsCells w) w (.v c true) a v ∧ In a := by
  obtain ⟨cs, rfl, _⟩ := okWide_struct hu hval
  obtain ⟨fuel, hf⟩ := h
  obtain ⟨a, h1, h2⟩ := hR.2 _ _ _ _ _ _ _ _ _ hf
  exact ⟨a, ⟨_, h1, rfl⟩, h2⟩

theorem harg_sl {r : Reach} {b0 : Nat} {t el : TypeId} {c : Nat} {In : E.G.car c → Prop} {v : Value} {d : DataW H} {ps : List MemPlace} (hu : E.P.underlying t = some (.slice el)) (hR : HReads E el c In) (hn : 0 < E.G.sz c)
    (hval : Value.okWide E.P w r b0 t v) (h : DataW.Trod e E.P w base sp held t v d ps) : ∃ a : List (E.G.car c), ArgIs E (IsCells w) w (.sl c) a v ∧ (∀ x ∈ a, In x) ∧ a.length ≤ 9223372036854775807 := by
  obtain ⟨p, n, cap, rfl⟩ := okWide_slice hu hval
  obtain ⟨fuel, hf⟩ := h
  obtain ⟨p', n', cap', l, h1, h2, h3, h4⟩ := hslice_of hu hR hn hf
  have h1 : [Value.slice p n cap] = [.slice p' n' cap'] := h1
  simp only [List.cons.injEq, and_true, Value.slice.injEq] at h1
  obtain ⟨rfl, rfl, rfl⟩ := h1
  exact ⟨l, h2, h3, h4⟩

/-- A law whose mirror answers true returns true, and leaves what was there. -/
theorem law_calls {k : Nat} {ps : List PK} {t : Nat} {es : List Nat} {f : AT E.G.car ps → Option (E.G.car t)} (hc : CSok E [] ⟨k, ps, [.v t false es], f⟩) (hglo : E.glo = []) (b : E.G.car t) (hb : E.G.enc t b = [.v (.bool true)])
    {vs : List Value} {xs : AT E.G.car ps} (ha : ArgsAre E (IsCells w) w ps xs vs) (hm : f xs = some b) :
    Calls E.P k vs.toArray w fun e w' => e = .returned (.bool true) ∧ Below w.heap.size w w' := by
  have h := hc.ok (IsCells w) w vs xs ⟨fun _ => ⟨0, none, 0, 0⟩, by rw [hglo]; exact And.intro (fun p hp => nomatch hp) (fun q hq => nomatch hq)⟩ (fun _ h => h) ha b hm
  refine h.mono fun e' w' ⟨us, ms, A', h1, h2, _, _, _, h3, _⟩ => ⟨?_, h2⟩
  obtain ⟨v, rfl, us', h4, h5⟩ := h3
  simp only [Bool.false_eq_true, if_false] at h5
  subst h5
  have h4 : ResCells E.G A' w.heap.size w' (E.G.enc t b) es [v] ms := h4
  rw [hb] at h4
  obtain ⟨us2, h6, _⟩ := h4
  cases h6
  exact h1
end
end Go.KX
