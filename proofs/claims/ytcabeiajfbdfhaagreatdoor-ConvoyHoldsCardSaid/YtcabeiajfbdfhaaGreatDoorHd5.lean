/- Texts CvQ, CvR, CvS, CvCB, CvSp1, CvT, CvU, CvV, CvW, CvX, CvAw, CvHolds, KFR, CvFrame: own work; each part says what it is. -/
import Derived.Test.YtcabeiajfbdfhaaGreatDoorHd4
import Derived.Handed
import Derived.OpenShut
import Derived.ChangeSlices
import Derived.JoinedOf
import Derived.Test.YtcabeiajfbdfhaaGreatDoorRows
import Derived.Test.YtcabeiajfbdfhaaGreatDoorTie
import Derived.Test.YtcabeiajfbdfhaaGreatDoorCards
import Derived.ProofKit
import Derived.LaidMore
import Derived.Stop.Joined
import Derived.SevenTiedAt
namespace Go.Proofs.Cv
open Go Go.KX

instance (s : Span) (n : Int) : Decidable (goodSpan s n) := by unfold goodSpan; infer_instance
instance (c : Cell) : Decidable (goodCell c) := by unfold goodCell; infer_instance

theorem rspan_eq {F : Nat} (s : Span) (n : Int) : ref03_span F s n = some (decide (goodSpan s n)) := by
  unfold ref03_span
  refine congrArg some (Bool.eq_iff_iff.2 ⟨fun h => decide_eq_true ?_, fun h => ?_⟩)
  · simp only [Bool.and_eq_true, decide_eq_true_eq] at h
    unfold goodSpan; omega
  · have h := of_decide_eq_true h
    unfold goodSpan at h
    simp only [Bool.and_eq_true, decide_eq_true_eq]; omega

theorem rcell_eq {F : Nat} (c : Cell) : ref03_cell F c = some (decide (goodCell c)) := by
  refine Ok.eq ?_
  unfold ref03_cell
  refine ok_bnde (rspan_eq ..) (ok_band (fun _ => rspan_eq ..) (ok_band (fun _ => rspan_eq ..) (ok_band (fun _ => rspan_eq ..) (ok_some ?_))))
  refine Bool.eq_iff_iff.2 ⟨fun h => decide_eq_true ?_, fun h => ?_⟩
  · simp only [Bool.and_eq_true, decide_eq_true_eq] at h
    obtain ⟨⟨⟨h1, h2⟩, h3⟩, h4⟩ := h
    exact ⟨h1, by simp_all, by simp_all, by simp_all⟩
  · obtain ⟨h1, h2, h3, h4⟩ := of_decide_eq_true h
    simp [h1, h2, h3, h4]

theorem rcorners_eq {F : Nat} (hF : 1000 ≤ F) (c : Cell) : ref03_Corners F c = some (corners c) := by
  obtain ⟨G, rfl⟩ : ∃ G, F = G + 17 := ⟨F - 17, by omega⟩
  kernel_rfl

theorem rsafe_eq {F : Nat} (hF : 1000 ≤ F) {s : Ship2} (hc : check (bwd s) = 0) {c : Cell} (hg : goodCell c) (ch : Bool) : ref03_safe F s c ch = some (safe (bwd s) c ch) := by
  refine Ok.eq ?_
  have hl := goodCell_last hg
  unfold ref03_safe
  refine ok_bnde (rcorners_eq hF c) ?_
  have hlen : (corners c).length = 16 := rfl
  have hcor : ∀ i : Int, 0 ≤ i → i < 16 → goodIce ((corners c).getD i.toNat (Ice.mk 0 0 0 0)) ∧ LeI ((corners c).getD i.toNat (Ice.mk 0 0 0 0)) (lastI c) ∧ (corners c).getD i.toNat (Ice.mk 0 0 0 0) ∈ corners c := fun i h0 h1 => by
    have hm := getD_in (l := corners c) (d := Ice.mk 0 0 0 0) h0 (by rw [hlen]; exact h1)
    exact ⟨(corners_in hg hm).1, (corners_in hg hm).2.2, hm⟩
  have hget : ∀ x ∈ corners c, ∃ i : Int, 0 ≤ i ∧ i < 16 ∧ (corners c).getD i.toNat (Ice.mk 0 0 0 0) = x := fun x hx => by
    obtain ⟨i, hi, rfl⟩ := List.getElem_of_mem hx
    refine ⟨i, by omega, by omega, ?_⟩
    simp [List.getD, hi]
  generalize hcs : corners c = cs at *
  refine ok_loop (fun i : Int => 0 ≤ i ∧ i ≤ 16 ∧ ∀ j : Int, 0 ≤ j → j < i → 10 ≤ speed (bwd s) (cs.getD j.toNat (Ice.mk 0 0 0 0)) ch) (fun i => (16 - i).toNat) ⟨by simp, by simp, fun j a b => by omega⟩ (by show (16 - (0 : Int)).toNat < F; omega) fun i next hI hn => ?_
  obtain ⟨a0, a1, a2⟩ := hI
  refine ok_brk (fun h => ?_) (fun h => ?_)
  · have hi : i < 16 := by have := of_decide_eq_true h; omega
    obtain ⟨b1, b2, b3⟩ := hcor i a0 hi
    refine ok_chk ⟨a0, by omega⟩ (ok_bnde (rspeed_eq hF hc b1 ch) (ok_brk (fun h => ok_some ?_) (fun h => ok_chk (show InR _ from ⟨by omega, by omega⟩) (hn _ ⟨by omega, by omega, fun j c0 c1 => ?_⟩ (by omega)))))
    · have h := of_decide_eq_true h
      unfold safe
      rw [if_pos ((speed_lt hc hg ch).1 ⟨_, by rw [hcs]; exact b3, h⟩)]
    · by_cases e : j = i
      · rw [e]; have h := of_decide_eq_false h; omega
      · exact a2 j c0 (by omega)
  have h1 : 10 ≤ speed (bwd s) (lastI c) ch := by
    have h := of_decide_eq_false h
    obtain rfl : i = 16 := by omega
    obtain ⟨i, c0, c1, e⟩ := hget _ (by rw [← hcs]; exact corners_last c)
    rw [← e]; exact a2 i c0 c1
  clear h a0 a1 a2 hn next i
  have hmk : makes (bwd s) (lastI c) ch 10 = true := makes_of_speed hc hl (by decide) h1
  refine ok_loop (fun i : Int => 0 ≤ i ∧ i ≤ 16 ∧ ∀ j : Int, 0 ≤ j → j < i → bears (bwd s) (cs.getD j.toNat (Ice.mk 0 0 0 0)) ch 10 = true) (fun i => (16 - i).toNat) ⟨by simp, by simp, fun j a b => by omega⟩ (by show (16 - (0 : Int)).toNat < F; omega) fun i next hI hn => ?_
  obtain ⟨a0, a1, a2⟩ := hI
  refine ok_brk (fun h => ?_) (fun h => ?_)
  · have hi : i < 16 := by have := of_decide_eq_true h; omega
    obtain ⟨b1, b2, _⟩ := hcor i a0 hi
    refine ok_chk ⟨a0, by omega⟩ (ok_bnde (rload_eq b1 (by decide) ch) (ok_bnde (rstrength_eq hc) (ok_brk (fun h => ok_some ?_) (fun h => ok_chk (show InR _ from ⟨by omega, by omega⟩) (hn _ ⟨by omega, by omega, fun j c0 c1 => ?_⟩ (by omega))))))
    · have h := of_decide_eq_true h
      have hb : bears (bwd s) (lastI c) ch 10 = false := by
        cases hb : bears (bwd s) (lastI c) ch 10 with
        | false => rfl
        | true =>
          have := bears_mono b1 hl b2 (u := 10) (v := 10) (by decide) (Int.le_refl _) hb
          simp only [bears, decide_eq_true_eq] at this
          dsimp only [bwd] at this
          omega
      unfold safe
      rw [if_neg (by omega), goes_ok, goesP, hb, Bool.and_false, if_pos rfl]
    · by_cases e : j = i
      · rw [e]; have h := of_decide_eq_false h; exact decide_eq_true (show loadI _ 10 ch ≤ strengths.getD (s.Class - 1).toNat 0 by omega)
      · exact a2 j c0 (by omega)
  have h2 : bears (bwd s) (lastI c) ch 10 = true := by
    have h := of_decide_eq_false h
    obtain rfl : i = 16 := by omega
    obtain ⟨i, c0, c1, e⟩ := hget _ (by rw [← hcs]; exact corners_last c)
    rw [← e]; exact a2 i c0 c1
  clear h a0 a1 a2 hn next i
  have hgo : goesP (bwd s) (lastI c) ch 10 = true := by simp [goesP, hmk, h2]
  refine ok_loop (fun q : Int × Int => 0 ≤ q.1 ∧ q.1 ≤ 251 ∧ Last (goesP (bwd s) (lastI c) ch) 0 0 q.2 q.1) (fun q => (251 - q.1).toNat) ⟨by simp, by simp, Last.start⟩ (by show (251 - (0 : Int)).toNat < F; omega) fun q next hI hn => ?_
  obtain ⟨v, out⟩ := q
  obtain ⟨h0, h3, h4⟩ := hI
  dsimp only at h0 h3 h4 ⊢
  refine ok_brk (fun h => ?_) (fun h => ok_some ?_)
  · have h := of_decide_eq_true h
    refine ok_join (by omega) (fun x => Last (goesP (bwd s) (lastI c) ch) 0 0 x (v + 1)) (fun x hx => ok_chk (show InR _ from ⟨by omega, by omega⟩) (hn _ ⟨by dsimp only; omega, by dsimp only; omega, hx⟩ (by dsimp only; omega))) fun k7 hk7 => ?_
    refine ok_loop (fun q : Int × Bool => 0 ≤ q.1 ∧ q.1 ≤ 16 ∧ (q.2 = true ↔ ∀ i : Int, 0 ≤ i → i < q.1 → goesP (bwd s) (cs.getD i.toNat (Ice.mk 0 0 0 0)) ch v = true)) (fun q => (16 - q.1).toNat) ⟨by simp, by simp, by simp; intro i a b; omega⟩ (by show (16 - (0 : Int)).toNat < F; omega) fun q next hI hn => ?_
    obtain ⟨i, g⟩ := q
    obtain ⟨a0, a1, a2⟩ := hI
    dsimp only at a0 a1 a2 ⊢
    refine ok_brk (fun h => ?_) (fun h => ?_)
    · have hi : i < 16 := by have := of_decide_eq_true h; omega
      obtain ⟨b1, _, _⟩ := hcor i a0 hi
      refine ok_chk (fun _ => ⟨a0, by omega⟩) ?_
      have step : ∀ g', (g' = (g && goesP (bwd s) (cs.getD i.toNat (Ice.mk 0 0 0 0)) ch v)) → (g' = true ↔ ∀ j : Int, 0 ≤ j → j < i + 1 → goesP (bwd s) (cs.getD j.toNat (Ice.mk 0 0 0 0)) ch v = true) := by
        intro g' e
        rw [e, Bool.and_eq_true, a2]
        constructor
        · rintro ⟨c1, c2⟩ j d0 d1
          by_cases e : j = i
          · rw [e]; exact c2
          · exact c1 j d0 (by omega)
        · exact fun c1 => ⟨fun j d0 d1 => c1 j d0 (by omega), c1 i a0 (by omega)⟩
      cases g with
      | false =>
        exact ok_bnde rfl (ok_chk (fun h => by cases h) (ok_bnde rfl (ok_bnde rfl (ok_chk (show InR _ from ⟨by omega, by omega⟩) (hn _ ⟨by dsimp only; omega, by dsimp only; omega, step _ rfl⟩ (by dsimp only; omega))))))
      | true =>
        refine ok_bnde (b := makes (bwd s) (cs.getD i.toNat (Ice.mk 0 0 0 0)) ch v) (rmakes_eq (F := F) hF hc b1 (by omega) ch) (ok_chk (fun _ => ⟨a0, by omega⟩) ?_)
        cases hmb : makes (bwd s) (cs.getD i.toNat (Ice.mk 0 0 0 0)) ch v with
        | false =>
          refine ok_bnde rfl (ok_bnde rfl (ok_chk (show InR _ from ⟨by omega, by omega⟩) (hn _ ⟨by dsimp only; omega, by dsimp only; omega, step _ ?_⟩ (by dsimp only; omega))))
          rw [goesP, hmb]; rfl
        | true =>
          refine ok_bnde (b := loadI (cs.getD i.toNat (Ice.mk 0 0 0 0)) v ch) (rload_eq (F := F) b1 (by omega) ch) (ok_bnde (b := strengths.getD (s.Class - 1).toNat 0) (rstrength_eq (F := F) hc) (ok_chk (show InR _ from ⟨by omega, by omega⟩) (hn _ ⟨by dsimp only; omega, by dsimp only; omega, step _ ?_⟩ (by dsimp only; omega))))
          rw [goesP, hmb]; rfl
    · have h := of_decide_eq_false h
      obtain rfl : i = 16 := by omega
      have hgv : g = goesP (bwd s) (lastI c) ch v := by
        rw [Bool.eq_iff_iff, a2, ← goesP_all hc hg ch h0, hcs]
        constructor
        · intro e x hx
          obtain ⟨i, c0, c1, rfl⟩ := hget x hx
          exact e i c0 c1
        · exact fun e i c0 c1 => e _ (hcor i c0 c1).2.2
      subst hgv
      exact ok_brk (fun h => hk7 _ (Last.yes h0 h)) (fun h => hk7 _ (h4.no h))
  · have h := of_decide_eq_false h
    obtain rfl : v = 250 + 1 := by omega
    unfold safe
    rw [if_neg (by omega), goes_ok, hgo, if_neg (by simp), goes_eq, if_pos hgo]
    rcases h4.it with ⟨h3, h4⟩ | ⟨h3, h4, h5, h6⟩
    · rw [h4 10 (by omega) (by omega)] at hgo; cases hgo
    · have : 10 ≤ out := by
        rcases Int.lt_or_le out 10 with h7 | h7
        · rw [h6 10 h7 (by omega)] at hgo; cases hgo
        · exact h7
      rw [(great_eq (goes_down hc hl ch) this (by omega) h5 (fun u a b => h6 u a (by omega))).2]

theorem rSafe_eq {F : Nat} (hF : 1000 ≤ F) {m : Member} (h : GoodM m) {c : Cell} (hg : goodCell c) (ch : Bool) : ref03_Safe F (fwdM m).Ship c ch = some (safe m.Ship c ch) := by
  refine Ok.eq ?_
  unfold ref03_Safe
  have hs := h.short'
  refine ok_bnde (b := 0) (Ok.eq ?_) (ok_brkF rfl (ok_bnde (rsafe_eq (s := fwdS m.Ship) hF h.ship hg ch) (ok_some rfl)))
  unfold ref03_met
  refine ok_bnde (rcheck_eq (s := m.Ship) hF hs.t hs.w hs.i) ?_
  rw [h.ship]
  refine ok_brkF rfl (ok_bnde (rcell_eq c) ?_)
  rw [decide_eq_true hg]
  exact ok_brkF rfl (ok_some rfl)

end Go.Proofs.Cv

namespace Go.Proofs.Cv
open Go Go.KX

theorem rright_eq {F : Nat} (hF : 1000 ≤ F) (c : Cell) : ref05_right F c = some (decide (goodCell c)) := by
  refine Ok.eq ?_
  unfold ref05_right
  have hl : (([c.Conc, c.Thick, c.Ridge, c.Press] : List Span).length : Int) = 4 := rfl
  have hl2 : (([100, 400, 100, 3] : List Int).length : Int) = 4 := rfl
  have key : ∀ (s : Span) (n : Int) (p : Bool), (decide (s.Lo < 0) || decide (s.Hi > n) || decide (s.Lo > s.Hi)) = p → (p = true ↔ ¬ goodSpan s n) := by
    intro s n p hp
    rw [← hp]
    simp only [Bool.or_eq_true, decide_eq_true_eq, goodSpan]
    omega
  refine ok_loop (fun q : Int => 0 ≤ q ∧ q ≤ 4 ∧ ∀ j : Nat, (j : Int) < q → goodSpan (([c.Conc, c.Thick, c.Ridge, c.Press] : List Span).getD j (Span.mk 0 0)) (([100, 400, 100, 3] : List Int).getD j 0)) (fun q => (4 - q).toNat) ⟨by omega, by omega, fun j h => by omega⟩ (by show (4 - (0 : Int)).toNat < F; omega) fun q next ⟨q1, q2, q3⟩ hn => ?_
  refine ok_brk (fun h => ?_) (fun h => ok_some ?_)
  · have h := of_decide_eq_true h
    refine ok_chk ⟨q1, by omega⟩ (ok_chk (fun _ => ⟨q1, by omega⟩) (ok_chk (fun _ => ⟨q1, by omega⟩) (ok_chk (fun _ => ⟨q1, by omega⟩) (ok_chk (fun _ => ⟨q1, by omega⟩) (ok_brk (fun g => ok_some ?_) (fun g => ok_chk (show InR _ from ⟨by omega, by omega⟩) (hn _ ⟨by omega, by omega, fun j hj => ?_⟩ (by omega))))))))
    · have hno := (key _ _ _ g).1 rfl
      refine (decide_eq_false fun hg => hno ?_).symm
      obtain ⟨g1, g2, g3, g4⟩ := hg
      have : q = 0 ∨ q = 1 ∨ q = 2 ∨ q = 3 := by omega
      rcases this with rfl | rfl | rfl | rfl
      · exact g1
      · exact g2
      · exact g3
      · exact g4
    · by_cases e : (j : Int) = q
      · rw [show j = q.toNat by omega]
        exact Classical.byContradiction fun hno => Bool.false_ne_true ((key _ _ _ g).2 hno)
      · exact q3 j (by omega)
  · have h := of_decide_eq_false h
    exact (decide_eq_true ⟨q3 0 (by omega), q3 1 (by omega), q3 2 (by omega), q3 3 (by omega)⟩).symm

theorem rmost_eq {F : Nat} (hF : 1000 ≤ F) {c : Convoy} (hc : GoodC c) {cell : Cell} (hg : goodCell cell) : ref05_Most F (fwdC c) cell = some (mostC c cell) := by
  refine Ok.eq ?_
  unfold ref05_Most
  have hlen := hc.len
  have hall : GoodL (c.Breaker :: c.Ships) := hc.all
  refine ok_bnde (rall_eq (by omega)) ?_
  simp only [List.length_map, getD_fwd']
  have hal : (c.Breaker :: c.Ships).length ≤ 7 := by simp; omega
  refine ok_rest (l := c.Breaker :: c.Ships) (d := memD) (fun x : Int × Int => x.2) (fun x r => mostC c cell = mostFrom cell (decide (x.2 > 0)) r x.1) (by omega) rfl rfl (fun x next h0 h1 hq hm hn => ?_) (fun x next h1 hq => ?_)
  · obtain ⟨out, i⟩ := x
    dsimp only at h0 h1 hq hm hn ⊢
    have hm' := hall _ hm
    refine ok_brkT (decide_eq_true h1) (ok_chk ⟨h0, h1⟩ (ok_bnde (rSafe_eq hF hm' hg _) (ok_brk (fun h => ok_some ?_) (fun h => ok_chk (show InR _ from ⟨by omega, by omega⟩) (hn _ rfl ?_)))))
    · have h : (safe ((c.Breaker :: c.Ships).getD i.toNat memD).Ship cell (decide (i > 0))).2 ≠ 0 := by simpa using h
      rw [hq, mostFrom, if_pos h]
    · have h : (safe ((c.Breaker :: c.Ships).getD i.toNat memD).Ship cell (decide (i > 0))).2 = 0 := by simpa using h
      dsimp only
      rw [hq, mostFrom, if_neg (fun e => e h), decide_eq_true (show i + 1 > 0 by omega)]
      congr 1
      split <;> omega
  · obtain ⟨out, i⟩ := x
    dsimp only at h1 hq ⊢
    exact ok_brkF (decide_eq_false (by omega)) (ok_some hq.symm)

theorem rholds_eq {F : Nat} (hF : 1000 ≤ F) {c : Convoy} (hc : GoodC c) {cell : Cell} (hg : goodCell cell) (v : Int) : ref05_holds F (fwdC c) cell (mostC c cell) v = some (decide (HoldsC c cell v)) := by
  refine Ok.eq ?_
  unfold ref05_holds
  have hb := most_bd hg (ch := false) (l := c.Breaker :: c.Ships) (out := 250) hc.all (by decide)
  change 0 ≤ mostC c cell ∧ mostC c cell ≤ 250 at hb
  by_cases h : 10 ≤ v ∧ v ≤ mostC c cell
  · have e : (decide (v ≥ 10) && decide (v ≤ mostC c cell)) = true := by rw [decide_eq_true h.1, decide_eq_true h.2]; rfl
    rw [e]
    refine ok_bnde (x := brk true _ _) (rtail_eq hF hc ⟨by omega, by omega⟩) (ok_bnde (x := brk true _ _) (ropen_eq (F := F) hc ⟨by omega, by omega⟩ (press_bd hg)) (ok_some ?_))
    rw [Bool.true_and]
    refine decide_eq_decide.2 ⟨fun hle => ⟨h.1, h.2, hle⟩, fun hh => hh.2.2⟩
  · have e : (decide (v ≥ 10) && decide (v ≤ mostC c cell)) = false := by
      rw [Bool.and_eq_false_iff, decide_eq_false_iff_not, decide_eq_false_iff_not]; omega
    rw [e]
    refine ok_bnde (b := 0) rfl (ok_bnde (b := 0) rfl (ok_some ?_))
    rw [Bool.false_and]
    exact (decide_eq_false fun hh => h ⟨hh.1, hh.2.1⟩).symm

theorem rfastest_eq {F : Nat} (hF : 1000 ≤ F) {c : Convoy} (hc : GoodC c) {cell : Cell} (hg : goodCell cell) : ref05_fastest F (fwdC c) cell (mostC c cell) = some (fastV c cell) := by
  refine Ok.eq ?_
  unfold ref05_fastest
  have hb := most_bd hg (ch := false) (l := c.Breaker :: c.Ships) (out := 250) hc.all (by decide)
  change 0 ≤ mostC c cell ∧ mostC c cell ≤ 250 at hb
  refine ok_loop (fun q : Int × Int => 10 ≤ q.1 ∧ q.1 ≤ 251 ∧ Last (fun v => decide (HoldsC c cell v)) 10 0 q.2 q.1) (fun q => (251 - q.1).toNat) ⟨by simp, by simp, Last.start⟩ (by show (251 - (10 : Int)).toNat < F; omega) fun q next hI hn => ?_
  obtain ⟨v, out⟩ := q
  obtain ⟨h0, h1, h2⟩ := hI
  dsimp only at h0 h1 h2 ⊢
  refine ok_brk (fun h => ?_) (fun h => ok_some ?_)
  · have h := of_decide_eq_true h
    refine ok_join (by omega) (fun x => Last (fun v => decide (HoldsC c cell v)) 10 0 x (v + 1)) (fun x hx => ok_chk (show InR _ from ⟨by omega, by omega⟩) (hn _ ⟨by dsimp only; omega, by dsimp only; omega, hx⟩ (by dsimp only; omega))) fun k hk => ?_
    exact ok_bnde (rholds_eq hF hc hg v) (ok_brk (fun g => hk _ (Last.yes h0 g)) (fun g => hk _ (h2.no g)))
  · have h := of_decide_eq_false h
    refine FastC.one ?_ (fastV_fast c cell)
    rcases h2.it with ⟨a, b⟩ | ⟨a, b, d, e⟩
    · refine .inl ⟨a, fun u hu => ?_⟩
      have := hu.2.1
      exact of_decide_eq_false (b u hu.1 (by omega)) hu
    · refine .inr ⟨of_decide_eq_true d, fun u h3 hu => ?_⟩
      have := hu.2.1
      exact of_decide_eq_false (e u h3 (by omega)) hu

end Go.Proofs.Cv

namespace Go.Proofs.Cv
open Go Go.KX

/-- What is asked of a convoy and a cell. -/
def metErr (c : Convoy) (cell : Cell) : Int := if conErr c ≠ 0 then conErr c else checkCell cell

theorem cmet_eq {F : Nat} (hF : 1000 ≤ F) {c : Convoy} (hs : ShortC c) (cell : Cell) : convoy_met F c cell = some (metErr c cell) := by
  refine Ok.eq ?_
  unfold convoy_met metErr
  refine ok_bnde (ccheck_eq hF hs) (ok_brk (fun h => ok_some ?_) (fun h => ok_bnde (cell_eq hF cell) (ok_some ?_)))
  · have h : conErr c ≠ 0 := by simpa using h
    rw [if_pos h]
  · have h : conErr c = 0 := by simpa using h
    rw [if_neg (fun e => e h)]

theorem rmet_eq {F : Nat} (hF : 1000 ≤ F) {c : Convoy} (hs : ShortC c) (cell : Cell) : ref05_met F (fwdC c) cell = some (metErr c cell) := by
  refine Ok.eq ?_
  unfold ref05_met metErr
  refine ok_bnde (rccheck_eq hF hs) (ok_brk (fun h => ok_some ?_) (fun h => ok_bnde (rright_eq hF cell) (ok_brk (fun g => ok_some ?_) (fun g => ok_some ?_))))
  · have h : conErr c ≠ 0 := by simpa using h
    rw [if_pos h]
  · have h : conErr c = 0 := by simpa using h
    have g : ¬ goodCell cell := by simpa using g
    rw [if_neg (fun e => e h), checkCell_20 g]
  · have h : conErr c = 0 := by simpa using h
    have g : goodCell cell := by simpa using g
    rw [if_neg (fun e => e h), checkCell_ok.2 g]

theorem met_z {c : Convoy} {cell : Cell} (h : metErr c cell = 0) : GoodC c ∧ goodCell cell := by
  unfold metErr at h
  by_cases h1 : conErr c ≠ 0
  · rw [if_pos h1] at h; exact absurd h h1
  · rw [if_neg h1] at h
    exact ⟨conErr_ok.1 (Classical.byContradiction h1), checkCell_ok.1 h⟩

theorem Holds_same {F : Nat} (hF : 1000 ≤ F) {c : Convoy} (hs : ShortC c) (cell : Cell) (v : Int) : ∃ r, convoy_Holds F c cell v = some r ∧ ref05_Holds F (fwdC c) cell v = some r := by
  by_cases h : metErr c cell = 0
  · obtain ⟨hc, hg⟩ := met_z h
    by_cases hv : within v 0 250 = true
    · refine ⟨_, Holds_eq hF hc hg (within_t hv), Ok.eq ?_⟩
      unfold ref05_Holds
      refine ok_bnde (rmet_eq hF hs cell) ?_
      rw [h]
      exact ok_brkF rfl (ok_bnde (rin_eq ..) (ok_brkF (by rw [hv]; rfl) (ok_bnde (rmost_eq hF hc hg) (ok_bnde (rholds_eq hF hc hg v) (ok_some rfl)))))
    · have hv : within v 0 250 = false := by simpa using hv
      refine ⟨(false, 6), Ok.eq ?_, Ok.eq ?_⟩
      · unfold convoy_Holds
        refine ok_bnde (cmet_eq hF hs cell) ?_
        rw [h]
        exact ok_brkF rfl (ok_bnde (cwithin_eq ..) (ok_brkT (by rw [hv]; rfl) (ok_some rfl)))
      · unfold ref05_Holds
        refine ok_bnde (rmet_eq hF hs cell) ?_
        rw [h]
        exact ok_brkF rfl (ok_bnde (rin_eq ..) (ok_brkT (by rw [hv]; rfl) (ok_some rfl)))
  · refine ⟨(false, metErr c cell), Ok.eq ?_, Ok.eq ?_⟩
    · unfold convoy_Holds
      exact ok_bnde (cmet_eq hF hs cell) (ok_brkT (by simpa using h) (ok_some rfl))
    · unfold ref05_Holds
      exact ok_bnde (rmet_eq hF hs cell) (ok_brkT (by simpa using h) (ok_some rfl))

theorem Fastest_same {F : Nat} (hF : 1000 ≤ F) {c : Convoy} (hs : ShortC c) (cell : Cell) : ∃ r, convoy_Fastest F c cell = some r ∧ ref05_Fastest F (fwdC c) cell = some r := by
  by_cases h : metErr c cell = 0
  · obtain ⟨hc, hg⟩ := met_z h
    refine ⟨if fastV c cell = 0 then (0, 4) else (fastV c cell, 0), Ok.eq ?_, Ok.eq ?_⟩
    · unfold convoy_Fastest
      refine ok_bnde (cmet_good hF hc hg) (ok_brkF rfl (ok_bnde (most_eq' hF hc hg) (ok_bnde (fastest_eq hF hc hg) (ok_brk (fun g => ok_some ?_) (fun g => ok_some ?_)))))
      · rw [if_pos (by simpa using g)]
      · rw [if_neg (by simpa using g)]
    · unfold ref05_Fastest
      refine ok_bnde (rmet_eq hF hs cell) ?_
      rw [h]
      refine ok_brkF rfl (ok_bnde (rmost_eq hF hc hg) (ok_bnde (rfastest_eq hF hc hg) (ok_brk (fun g => ok_some ?_) (fun g => ok_some ?_))))
      · rw [if_pos (by simpa using g)]
      · rw [if_neg (by simpa using g)]
  · refine ⟨(0, metErr c cell), Ok.eq ?_, Ok.eq ?_⟩
    · unfold convoy_Fastest
      exact ok_bnde (cmet_eq hF hs cell) (ok_brkT (by simpa using h) (ok_some rfl))
    · unfold ref05_Fastest
      exact ok_bnde (rmet_eq hF hs cell) (ok_brkT (by simpa using h) (ok_some rfl))

theorem spansTo_same {P Q : Int → Bool} {m : Nat} (h1 : ∀ v : Int, 10 ≤ v → v < 10 + m → P v = Q v) (h2 : ∀ v : Int, 10 + (m : Int) ≤ v → Q v = false) : ∀ n : Nat, m ≤ n → spansTo Q n = spansTo P m := by
  have e : ∀ k : Nat, k ≤ m → spansTo Q k = spansTo P k := by
    intro k
    induction k with
    | zero => intro _; rfl
    | succ k ih =>
      intro hk
      simp only [spansTo]
      rw [ih (by omega), h1 (10 + k) (by omega) (by omega)]
  intro n
  induction n with
  | zero => intro h; rw [show m = 0 by omega]; rfl
  | succ n ih =>
    intro h
    by_cases hn : m = n + 1
    · rw [← hn]; exact e m (Nat.le_refl _)
    · simp only [spansTo]
      rw [h2 (10 + n) (by omega), if_neg (by simp)]
      exact ih (by omega)

theorem speeds_all {c : Convoy} {cell : Cell} (hb : 0 ≤ mostC c cell ∧ mostC c cell ≤ 250) : spansTo (fun v => decide (HoldsC c cell v)) 241 = spansTo (fun v => decide (fitsC c v cell.Press.Hi)) (mostC c cell - 9).toNat := by
  refine spansTo_same (fun v v1 v2 => ?_) (fun v v1 => ?_) 241 (by omega)
  · exact decide_eq_decide.2 ⟨fun h => ⟨v1, by omega, h⟩, fun h => h.2.2⟩
  · exact decide_eq_false fun h => by have := h.1; have := h.2.1; omega

theorem rSpeeds_eq {F : Nat} (hF : 1000 ≤ F) {c : Convoy} (hc : GoodC c) {cell : Cell} (hg : goodCell cell) : ref05_Speeds F (fwdC c) cell = some (spansTo (fun v => decide (HoldsC c cell v)) 241, 0) := by
  refine Ok.eq ?_
  unfold ref05_Speeds
  refine ok_bnde (rmet_eq hF hc.short cell) ?_
  rw [show metErr c cell = 0 by unfold metErr; rw [if_neg (fun e => e (conErr_ok.2 hc)), checkCell_ok.2 hg]]
  refine ok_brkF rfl (ok_bnde (rmost_eq hF hc hg) ?_)
  refine ok_loop (fun q : Int × List Span => 10 ≤ q.1 ∧ q.1 ≤ 251 ∧ q.2 = spansTo (fun v => decide (HoldsC c cell v)) (q.1 - 10).toNat) (fun q => (251 - q.1).toNat) ⟨by simp, by simp, rfl⟩ (by show (251 - (10 : Int)).toNat < F; omega) fun q next hI hn => ?_
  obtain ⟨v, out⟩ := q
  obtain ⟨h1, h2, h3⟩ := hI
  dsimp only at h1 h2 h3 ⊢
  have hok := spansTo_ok (P := fun v => decide (HoldsC c cell v)) (v - 10).toNat
  refine ok_brk (fun h => ?_) (fun h => ok_some ?_)
  · have h : v ≤ 250 := of_decide_eq_true h
    have hstep : spansTo (fun v => decide (HoldsC c cell v)) (v + 1 - 10).toNat = if decide (HoldsC c cell v) = true then addV out v else out := by
      rw [show (v + 1 - 10).toNat = (v - 10).toNat + 1 by omega, spansTo, show (10 : Int) + ((v - 10).toNat : Int) = v by omega, ← h3]
    rw [← h3] at hok
    refine ok_join (by omega) (fun y : List Span => y = if decide (HoldsC c cell v) = true then addV out v else out) (fun y hy => ok_chk (show InR _ from ⟨by omega, by omega⟩) (hn _ ⟨by dsimp only; omega, by dsimp only; omega, by dsimp only; rw [hy, hstep]⟩ (by dsimp only; omega))) fun k hk => ?_
    have hol := hok.le
    refine ok_bnde (rholds_eq hF hc hg v) (ok_brk (fun g => hk _ ?_) (fun g => ?_))
    · rw [if_neg (by simpa using g)]
    · have g : decide (HoldsC c cell v) = true := by simpa using g
      refine ok_chk (show InR _ from ⟨by omega, by omega⟩) (ok_chk (fun e => ⟨of_decide_eq_true e, by omega⟩) (ok_chk (fun _ => show InR _ from ⟨by omega, by omega⟩) (ok_brk (fun e => ?_) (fun e => ok_chk (by rw [List.length_singleton]; omega) (hk _ ?_)))))
      · have e' := e
        simp only [Bool.and_eq_true, decide_eq_true_eq, beq_iff_eq] at e'
        refine ok_chk ⟨e'.1, by omega⟩ (hk _ ?_)
        rw [if_pos g, addV, if_pos e, e'.2, show v - 1 + 1 = v by omega]
      · rw [if_pos g, addV, if_neg (by rw [e]; simp)]
  · have h := of_decide_eq_false h
    rw [h3, show (v - 10).toNat = 241 by omega]

theorem spansTo_len {P : Int → Bool} {n : Nat} : (spansTo P n).length ≤ n := (spansTo_ok n).le

theorem Speeds_same {F : Nat} (hF : 1000 ≤ F) {c : Convoy} (hs : ShortC c) (cell : Cell) : ∃ r : List Span × Int, r.1.length ≤ 241 ∧ convoy_Speeds F c cell = some r ∧ ref05_Speeds F (fwdC c) cell = some r := by
  by_cases h : metErr c cell = 0
  · obtain ⟨hc, hg⟩ := met_z h
    have hb := most_bd hg (ch := false) (l := c.Breaker :: c.Ships) (out := 250) hc.all (by decide)
    change 0 ≤ mostC c cell ∧ mostC c cell ≤ 250 at hb
    refine ⟨_, spansTo_len, ?_, rSpeeds_eq hF hc hg⟩
    rw [speeds_all hb]
    exact Speeds_eq hF hc hg
  · refine ⟨([], metErr c cell), by simp, Ok.eq ?_, Ok.eq ?_⟩
    · unfold convoy_Speeds
      exact ok_bnde (cmet_eq hF hs cell) (ok_brkT (by simpa using h) (ok_some rfl))
    · unfold ref05_Speeds
      exact ok_bnde (rmet_eq hF hs cell) (ok_brkT (by simpa using h) (ok_some rfl))

theorem sameSpans {F : Nat} (hF : 1000 ≤ F) {l : List Span} (h : l.length ≤ 900) : kit_SameSpans F l l = some true := by
  refine Ok.eq ?_
  unfold kit_SameSpans
  refine ok_brkF (by simp) ?_
  refine ok_loop (fun q : Int => 0 ≤ q ∧ q ≤ l.length) (fun q => (l.length - q).toNat) ⟨by omega, by omega⟩ (by omega) fun q next ⟨q1, q2⟩ hn => ?_
  refine ok_brk (fun g => ?_) (fun g => ok_some rfl)
  have g := of_decide_eq_true g
  exact ok_chk ⟨q1, g⟩ (ok_chk ⟨q1, g⟩ (ok_brkF (by simp) (ok_chk (show InR _ from ⟨by omega, by omega⟩) (hn _ ⟨by omega, by omega⟩ (by omega)))))

end Go.Proofs.Cv

namespace Go.Proofs.Cv
open Go Go.KX

/-- The sizes of groups from a place on: each goes, and no greater one goes. -/
def Gr (go : Int → Int → Bool) (n : Int) : Int → List Int → Prop
  | _, [] => True
  | a, k :: r => 1 ≤ k ∧ a + k ≤ n ∧ go a (a + k) = true ∧ (∀ j, k < j → a + j ≤ n → go a (a + j) = false) ∧ Gr go n (a + k) r

theorem Gr.snoc {go : Int → Int → Bool} {n : Int} : ∀ {l : List Int} {a k : Int}, Gr go n a l → 1 ≤ k → a + sumL l + k ≤ n → go (a + sumL l) (a + sumL l + k) = true → (∀ j, k < j → a + sumL l + j ≤ n → go (a + sumL l) (a + sumL l + j) = false) → Gr go n a (l ++ [k])
  | [], a, k, _, h1, h2, h3, h4 => by
    simp only [sumL, Int.add_zero] at h2 h3 h4
    exact ⟨h1, h2, h3, h4, trivial⟩
  | x :: r, a, k, h, h1, h2, h3, h4 => by
    obtain ⟨a1, a2, a3, a4, a5⟩ := h
    simp only [sumL] at h2 h3 h4
    rw [← Int.add_assoc] at h2 h3
    refine ⟨a1, a2, a3, a4, Gr.snoc a5 h1 h2 h3 fun j hj hn => ?_⟩
    have := h4 j hj (by omega)
    rwa [← Int.add_assoc] at this

theorem Gr.one {go : Int → Int → Bool} {n : Int} : ∀ {l : List Int} {a : Int}, Gr go n a l → ∀ x ∈ l, 1 ≤ x
  | [], _, _, x, hx => by cases hx
  | k :: r, a, h, x, hx => by
    obtain ⟨a1, a2, a3, a4, a5⟩ := h
    rcases List.mem_cons.1 hx with rfl | hx
    · exact a1
    · exact a5.one x hx

/-- Of the group number i: it goes, and no greater one. -/
theorem Gr.at {go : Int → Int → Bool} {n : Int} : ∀ {l : List Int} {a : Int} {i : Nat}, Gr go n a l → i < l.length →
    1 ≤ l.getD i 0 ∧ a + sumL (l.take i) + l.getD i 0 ≤ n ∧ go (a + sumL (l.take i)) (a + sumL (l.take i) + l.getD i 0) = true ∧ ∀ j, l.getD i 0 < j → a + sumL (l.take i) + j ≤ n → go (a + sumL (l.take i)) (a + sumL (l.take i) + j) = false
  | [], _, _, _, h => by simp at h
  | k :: r, a, 0, h, _ => by
    obtain ⟨a1, a2, a3, a4, a5⟩ := h
    simp only [List.take_zero, sumL, Int.add_zero, List.getD_cons_zero]
    exact ⟨a1, a2, a3, a4⟩
  | k :: r, a, i + 1, h, hi => by
    obtain ⟨a1, a2, a3, a4, a5⟩ := h
    have := a5.at (i := i) (by simpa using hi)
    simpa only [List.take_succ_cons, sumL, List.getD_cons_succ, ← Int.add_assoc] using this

theorem sum_take_lt {l : List Int} (h : ∀ x ∈ l, 1 ≤ x) {i : Nat} (hi : i < l.length) : sumL (l.take i) < sumL l := by
  have h1 : sumL l = sumL (l.take i) + sumL (l.drop i) := by rw [← sumL_append, List.take_append_drop]
  have h2 : l.drop i = l.getD i 0 :: l.drop (i + 1) := drop_getD 0 hi
  have h3 := h _ (Go.KX.getD_mem (d := 0) hi)
  have h4 := sumL_nonneg (l.drop (i + 1)) fun x hx => by have := h x (List.mem_of_mem_drop hx); omega
  rw [h2] at h1
  simp only [sumL] at h1
  omega

/-- What goes goes in parts, too. -/
def Hered (go : Int → Int → Bool) : Prop := ∀ a b a' b', a ≤ a' → a' < b' → b' ≤ b → go a b = true → go a' b' = true

/-- The other way is behind. -/
theorem Gr.ahead {go : Int → Int → Bool} {n : Int} (hh : Hered go) {l : List Int} (h : Gr go n 0 l) {m : Nat} {fr i : Int} (hf : m < l.length → fr ≤ sumL (l.take m)) (hi : fr < i ∧ i ≤ n) (hg : go fr i = true) (hm : m + 1 < l.length) : i ≤ sumL (l.take (m + 1)) := by
  have hm0 : m < l.length := by omega
  have h1 := hf hm0
  obtain ⟨b1, b2, b3, b4⟩ := h.at hm0
  rw [Int.zero_add] at b2 b3 b4
  rw [take_succ' (d := 0) hm0, sumL_append]
  simp only [sumL, Int.add_zero]
  by_cases hc : i ≤ sumL (l.take m)
  · omega
  · by_cases hd : l.getD m 0 < i - sumL (l.take m)
    · have e := b4 (i - sumL (l.take m)) hd (by omega)
      rw [show sumL (l.take m) + (i - sumL (l.take m)) = i by omega] at e
      rw [hh fr i (sumL (l.take m)) i h1 (by omega) (Int.le_refl _) hg] at e
      cases e
    · omega

end Go.Proofs.Cv

namespace Go.Proofs.Cv
open Go Go.KX

theorem cloneP_eq {F : Nat} {l : List Pt} (h : l.length ≤ 1000000) : slices_Clone_hull_Point F l = some l := by
  refine Ok.eq ?_
  unfold slices_Clone_hull_Point
  exact ok_chk (by omega) (ok_some rfl)

theorem own_eq {F : Nat} {m : Member} (h : Short m) : convoy_Member_own F m = some m := by
  obtain ⟨h1, h2, h3, h4⟩ := h
  refine Ok.eq ?_
  unfold convoy_Member_own
  exact ok_bnde (cloneP_eq (by omega)) (ok_bnde (cloneP_eq (by omega)) (ok_bnde (cloneP_eq (by omega)) (ok_bnde (cloneP_eq (by omega)) (ok_some rfl))))

/-- The numbers from 0 on. -/
def NumsIs (n : Int) (l : List Int) : Prop := (l.length : Int) = n ∧ ∀ i : Nat, i < l.length → l.getD i 0 = i

theorem numbers_ok {F : Nat} (hF : 1000 ≤ F) {n : Int} (hn : 0 ≤ n ∧ n ≤ 100) : Ok (NumsIs n) (convoy_numbers F n) := by
  unfold convoy_numbers
  have hl : (List.replicate n.toNat (0 : Int)).length = n.toNat := List.length_replicate
  refine ok_chk ⟨hn.1, Int.le_refl _, by omega⟩ ?_
  refine ok_loop (fun q : Int × List Int => 0 ≤ q.1 ∧ q.1 ≤ n ∧ q.2.length = n.toNat ∧ ∀ i : Nat, (i : Int) < q.1 → q.2.getD i 0 = i) (fun q => (n - q.1).toNat) ⟨by simp, hn.1, hl, fun i hi => by dsimp only at hi; omega⟩ (by dsimp only; omega) fun q next hI hn' => ?_
  obtain ⟨i, l⟩ := q
  obtain ⟨q1, q2, q3, q4⟩ := hI
  dsimp only at q1 q2 q3 q4 ⊢
  refine ok_brk (fun h => ?_) (fun h => ok_some ⟨by omega, fun j hj => ?_⟩)
  · have h := of_decide_eq_true h
    rw [hl] at h
    refine ok_chk ⟨q1, by omega⟩ (ok_chk (show InR _ from ⟨by omega, by omega⟩) (hn' _ ⟨by dsimp only; omega, by dsimp only; omega, by dsimp only; rw [List.length_set]; exact q3, fun j hj => ?_⟩ (by dsimp only; omega)))
    dsimp only at hj ⊢
    rw [getD_set' (by omega)]
    split
    · omega
    · exact q4 j (by omega)
  · have h := of_decide_eq_false h
    rw [hl] at h
    exact q4 j (by omega)

/-- The convoy with the ships from a place to another one. -/
def subC (c : Convoy) (a b : Int) : Convoy := { c with Ships := (c.Ships.drop a.toNat).take (b - a).toNat }

theorem subC_good {c : Convoy} (hc : GoodC c) (a b : Int) : GoodC (subC c a b) :=
  ⟨by have := hc.len; simp only [subC, List.length_take, List.length_drop]; omega, hc.br, fun m hm => hc.ships m (List.mem_of_mem_drop (List.mem_of_mem_take hm)), hc.clear, hc.close⟩

open Classical in
/-- Some speed holds for these ships. -/
noncomputable def goC (c : Convoy) (cell : Cell) (a b : Int) : Bool := decide (∃ v, HoldsC (subC c a b) cell v)

open Classical in
theorem goC_iff {c : Convoy} {cell : Cell} {a b : Int} : goC c cell a b = true ↔ ∃ v, HoldsC (subC c a b) cell v := by
  unfold goC
  exact decide_eq_true_iff

theorem goC_fast {c : Convoy} {cell : Cell} {a b r : Int} (h : FastC (subC c a b) cell r) : goC c cell a b = decide (r ≠ 0) := by
  rw [Bool.eq_iff_iff, goC_iff, decide_eq_true_eq]
  constructor
  · rintro ⟨v, hv⟩ e
    rcases h with ⟨_, h2⟩ | ⟨h1, _⟩
    · exact h2 v hv
    · have := holds_bd h1; omega
  · intro e
    rcases h with ⟨h1, _⟩ | ⟨h1, _⟩
    · exact absurd h1 e
    · exact ⟨r, h1⟩

theorem drop_take_parts {α : Type} {l : List α} {a b a' b' : Nat} (h1 : a ≤ a') (h2 : b' ≤ b) (h3 : a' ≤ b') : ∃ x y, (l.drop a).take (b - a) = x ++ ((l.drop a').take (b' - a') ++ y) := by
  refine ⟨(l.drop a).take (a' - a), ((l.drop b').take (b - b')), ?_⟩
  have e1 : b - a = (a' - a) + ((b' - a') + (b - b')) := by omega
  rw [e1, List.take_add, List.drop_drop, List.take_add, List.drop_drop]
  congr 2
  · rw [show a + (a' - a) = a' by omega]
  · rw [show a + (a' - a) + (b' - a') = b' by omega]

theorem goC_hered {c : Convoy} (hc : GoodC c) {cell : Cell} : ∀ a b a' b', 0 ≤ a → a ≤ a' → a' < b' → b' ≤ b → goC c cell a b = true → goC c cell a' b' = true := by
  intro a b a' b' h0 h1 h2 h3 h
  obtain ⟨v, hv⟩ := goC_iff.1 h
  refine goC_iff.2 ⟨v, ?_⟩
  obtain ⟨x, y, e⟩ := drop_take_parts (l := c.Ships) (a := a.toNat) (b := b.toNat) (a' := a'.toNat) (b' := b'.toNat) (by omega) (by omega) (by omega)
  have hs : ∀ a b : Int, 0 ≤ a → a ≤ b → (b - a).toNat = b.toNat - a.toNat := fun a b _ _ => by omega
  have hg := subC_good hc a b
  have hS : (subC c a b).Ships = x ++ ((subC c a' b').Ships ++ y) := by
    show (c.Ships.drop a.toNat).take (b - a).toNat = _
    rw [hs a b h0 (by omega), e]
    show _ = x ++ ((c.Ships.drop a'.toNat).take (b' - a').toNat ++ y)
    rw [hs a' b' (by omega) (by omega)]
  have := holds_sub (c := subC c a b) hg (cell := cell) (l := (subC c a' b').Ships) (fun m hm => by rw [hS]; simp [hm]) (fun v h1 h2 => by
    have g1 : GoodL (x ++ ((subC c a' b').Ships ++ y)) := hS ▸ hg.ships
    have t1 := tail_drop hg.clear ⟨h1, h2⟩ hg.br (r := (subC c a' b').Ships ++ y) (l := x) g1
    have t2 := tail_prefix hg.clear ⟨h1, h2⟩ (p := (subC c a b).Breaker) (l := (subC c a' b').Ships) (r := y) hg.br (fun m hm => g1 m (List.mem_append_right _ hm))
    rw [hS]
    omega) hv
  exact this

/-- What Split returns. -/
structure SplitIs (c : Convoy) (cell : Cell) (r : List Int × Int) : Prop where
  err : r.2 = 0 ∨ r.2 = 4
  ok : r.2 = 0 → Gr (goC c cell) c.Ships.length 0 r.1 ∧ sumL r.1 = c.Ships.length
  none : r.2 = 4 → ∃ a : Int, 0 ≤ a ∧ a < (c.Ships.length : Int) ∧ goC c cell a (a + 1) = false
  nil : r.2 = 4 → r.1 = []

theorem Split_ok {F : Nat} (hF : 1000 ≤ F) {c : Convoy} (hc : GoodC c) {cell : Cell} (hg : goodCell cell) : Ok (SplitIs c cell) (convoy_Split F c cell) := by
  have F0 : 0 < F := by omega
  have hlen := hc.len
  unfold convoy_Split
  refine ok_bnde (cmet_good hF hc hg) (ok_brkF rfl ?_)
  refine ok_loop (fun q : Int × List Int => 0 ≤ q.1 ∧ q.1 ≤ c.Ships.length ∧ sumL q.2 = q.1 ∧ Gr (goC c cell) c.Ships.length 0 q.2 ∧ (q.2.length : Int) ≤ q.1) (fun q => (c.Ships.length - q.1).toNat) ⟨by simp, by dsimp only; omega, rfl, trivial, by simp⟩ (by dsimp only; omega) fun q next hI hn => ?_
  obtain ⟨at_, out⟩ := q
  obtain ⟨q1, q2, q3, q4, q5⟩ := hI
  dsimp only at q1 q2 q3 q4 q5 ⊢
  refine ok_brk (fun h => ?_) (fun h => ok_some ⟨.inl rfl, fun _ => ⟨q4, by dsimp only; have := of_decide_eq_false h; omega⟩, (fun h => nomatch h), (fun h => nomatch h)⟩)
  have h : at_ < (c.Ships.length : Int) := of_decide_eq_true h
  refine ok_loop (fun q : Int × Int => 1 ≤ q.1 ∧ at_ + q.1 ≤ c.Ships.length + 1 ∧ 0 ≤ q.2 ∧ q.2 < q.1 ∧ (1 ≤ q.2 → goC c cell at_ (at_ + q.2) = true) ∧ ∀ j, q.2 < j → j < q.1 → goC c cell at_ (at_ + j) = false) (fun q => (c.Ships.length + 1 - q.1).toNat) ⟨by simp, by dsimp only; omega, by simp, by simp, fun h => by simp at h, fun j h1 h2 => by dsimp only at h1 h2; omega⟩ (by dsimp only; omega) fun q next2 hI hn2 => ?_
  obtain ⟨k, n⟩ := q
  obtain ⟨k1, k2, k3, k4, k5, k6⟩ := hI
  dsimp only at k1 k2 k3 k4 k5 k6 ⊢
  refine ok_chk (show InR _ from ⟨by omega, by omega⟩) (ok_brk (fun h2 => ?_) (fun h2 => ?_))
  · have h2 : at_ + k ≤ (c.Ships.length : Int) := of_decide_eq_true h2
    refine ok_join F0 (fun n' : Int => n' = if goC c cell at_ (at_ + k) = true then k else n) (fun n' hn' => ok_chk (show InR _ from ⟨by omega, by omega⟩) (hn2 _ ⟨by dsimp only; omega, by dsimp only; omega, ?_, ?_, ?_, ?_⟩ (by dsimp only; omega))) fun k' hk' => ?_
    · dsimp only; rw [hn']; split <;> omega
    · dsimp only; rw [hn']; split <;> omega
    · dsimp only; rw [hn']; split
      · intro _; assumption
      · exact k5
    · dsimp only; rw [hn']
      intro j h3 h4
      split at h3
      · omega
      · rename_i hgo
        by_cases e : j = k
        · subst e; simpa using hgo
        · exact k6 j h3 (by omega)
    · refine ok_bnd _ (numbers_ok hF (n := c.Ships.length) ⟨by omega, by omega⟩) fun nums ⟨hnl, hnv⟩ => ?_
      refine ok_chk (show InR _ from ⟨by omega, by omega⟩) (ok_chk ⟨q1, by omega, by omega⟩ (ok_bnde (own_eq hc.br.short') ?_))
      refine ok_loop (fun q : Int × List Member => 0 ≤ q.1 ∧ q.1 ≤ k ∧ q.2 = (c.Ships.drop at_.toNat).take q.1.toNat) (fun q => (k - q.1).toNat) ⟨by simp, by dsimp only; omega, rfl⟩ (by dsimp only; omega) fun q next3 hI hn3 => ?_
      obtain ⟨i, l⟩ := q
      obtain ⟨i1, i2, i3⟩ := hI
      dsimp only at i1 i2 i3 ⊢
      refine ok_brk (fun h3 => ?_) (fun h3 => ?_)
      · have h3 : i < at_ + k - at_ := of_decide_eq_true h3
        have hix : nums.getD (at_ + i).toNat 0 = at_ + i := by rw [hnv _ (by omega)]; omega
        have hlt : (at_ + i).toNat < c.Ships.length := by omega
        have hlen3 : l.length ≤ 6 := by rw [i3, List.length_take, List.length_drop]; omega
        refine ok_chk ⟨i1, h3⟩ ?_
        show Ok _ (chk (0 ≤ nums.getD (at_ + i).toNat 0 ∧ nums.getD (at_ + i).toNat 0 < (c.Ships.length : Int)) (bnd (convoy_Member_own F (c.Ships.getD (nums.getD (at_ + i).toNat 0).toNat memD)) _))
        rw [hix]
        refine ok_chk ⟨by omega, by omega⟩ (ok_bnde (own_eq (hc.ships _ (getD_mem hlt)).short') (ok_chk (by simp; omega) (ok_chk (show InR _ from ⟨by omega, by omega⟩) (hn3 _ ⟨by dsimp only; omega, by dsimp only; omega, ?_⟩ (by dsimp only; omega)))))
        dsimp only
        rw [i3, show (i + 1).toNat = i.toNat + 1 by omega, take_succ' (d := memD) (by rw [List.length_drop]; omega)]
        congr 2
        simp only [List.getD_eq_getElem?_getD, List.getElem?_drop]
        rw [show at_.toNat + i.toNat = (at_ + i).toNat by omega]
      · have h3 : ¬ i < at_ + k - at_ := of_decide_eq_false h3
        have hi : i = k := by omega
        have hsub : (Convoy.mk c.Breaker l c.Clear c.Close) = subC c at_ (at_ + k) := by
          rw [i3, hi]
          show Convoy.mk _ _ _ _ = Convoy.mk _ _ _ _
          rw [show at_ + k - at_ = k by omega]
        rw [hsub]
        have hgs := subC_good hc at_ (at_ + k)
        refine ok_bnde (most_eq' hF hgs hg) (ok_bnd _ (fastest_ok hF hgs hg) fun r hr => ?_)
        have hgo := goC_fast hr
        have hb := hr.bd
        refine ok_brk (fun g => hk' _ ?_) (fun g => hk' _ ?_)
        · have g := of_decide_eq_true g
          rw [if_pos (by rw [hgo]; exact decide_eq_true (by omega))]
        · have g := of_decide_eq_false g
          rw [if_neg (by rw [hgo]; simp; omega)]
  · have h2 : ¬ at_ + k ≤ (c.Ships.length : Int) := of_decide_eq_false h2
    refine ok_brk (fun g => ok_some ⟨.inr rfl, (fun h => nomatch h), fun _ => ⟨at_, q1, h, ?_⟩, fun _ => rfl⟩) (fun g => ?_)
    · have g : n = 0 := by simpa using g
      exact k6 1 (by omega) (by omega)
    · have g : n ≠ 0 := by simpa using g
      refine ok_chk (by simp; omega) (ok_chk (show InR _ from ⟨by omega, by omega⟩) (hn _ ⟨by dsimp only; omega, by dsimp only; omega, by dsimp only; rw [sumL_append]; simp only [sumL]; omega, ?_, by dsimp only; rw [snoc_len]; omega⟩ (by dsimp only; omega)))
      dsimp only
      refine q4.snoc (by omega) (by omega) ?_ (fun j h3 h4 => ?_)
      · rw [Int.zero_add, q3]; exact k5 (by omega)
      · rw [Int.zero_add, q3] at h4 ⊢; exact k6 j h3 (by omega)

/-- What Fastest says of some ships. -/
theorem fastR_go {c : Convoy} {cell : Cell} {a b : Int} {r : Int × Int} (h : FastR (subC c a b) cell r) : (r.2 == 0) = goC c cell a b ∧ ((r.2 == 0) || (r.2 == 4)) = true := by
  obtain ⟨v, hv, hr⟩ := h
  rw [goC_fast hv, hr]
  by_cases e : v = 0
  · rw [if_pos e]; simp [e]
  · rw [if_neg e]; simp [e]

theorem gr_len {go : Int → Int → Bool} {n : Int} {l : List Int} {a : Int} (h : Gr go n a l) : (l.length : Int) ≤ sumL l := by
  have h1 := h.one
  clear h
  induction l with
  | nil => simp [sumL]
  | cons x r ih =>
    have := ih fun y hy => h1 y (by simp [hy])
    have := h1 x (by simp)
    simp only [sumL, List.length_cons, Int.natCast_add]
    omega

end Go.Proofs.Cv

namespace Go.Proofs.Cv
open Go Go.KX

/-- Each group goes, from a place on. -/
def AllGo (go : Int → Int → Bool) : Int → List Int → Bool
  | _, [] => true
  | a, x :: r => go a (a + x) && AllGo go (a + x) r

def lexB : List Int → List Int → Bool
  | x :: a, y :: b => if x ≠ y then decide (x > y) else lexB a b
  | _, _ => false

/-- Which one of two divisions is the better one. -/
def betterB (a b : List Int) : Bool := if a.length ≠ b.length then decide (a.length < b.length) else lexB a b

theorem greedy_len {go : Int → Int → Bool} {n : Int} (hh : ∀ a b a' b', 0 ≤ a → a ≤ a' → a' < b' → b' ≤ b → go a b = true → go a' b' = true) :
    ∀ {d l : List Int} {a b : Int}, 0 ≤ b → b ≤ a → Gr go n a l → (∀ x ∈ d, 1 ≤ x) → b + sumL d = n → AllGo go b d = true → l.length ≤ d.length
  | [], l, a, b, h0, hba, hg, h1, h2, h3 => by
    cases l with
    | nil => exact Nat.le_refl _
    | cons x r =>
      obtain ⟨x1, x2, _⟩ := hg
      simp only [sumL] at h2
      omega
  | y :: d, l, a, b, h0, hba, hg, h1, h2, h3 => by
    cases l with
    | nil => exact Nat.zero_le _
    | cons x r =>
      have hy := h1 y (by simp)
      have hd : ∀ x ∈ d, 1 ≤ x := fun x hx => h1 x (by simp [hx])
      have hs := sumL_nonneg d fun x hx => by have := hd x hx; omega
      simp only [sumL] at h2
      simp only [AllGo, Bool.and_eq_true] at h3
      obtain ⟨x1, x2, x3, x4, x5⟩ := hg
      rcases Int.lt_or_le a (b + y) with h | h
      · have hgo := hh b (b + y) a (b + y) h0 hba h (Int.le_refl _) h3.1
        have hle : b + y - a ≤ x := by
          rcases Int.lt_or_le x (b + y - a) with h4 | h4
          · have := x4 (b + y - a) h4 (by omega)
            rw [show a + (b + y - a) = b + y by omega, hgo] at this
            cases this
          · exact h4
        have := greedy_len hh (d := d) (l := r) (a := a + x) (b := b + y) (by omega) (by omega) x5 hd (by omega) h3.2
        simp only [List.length_cons]; omega
      · have := greedy_len hh (d := d) (l := x :: r) (a := a) (b := b + y) (by omega) h ⟨x1, x2, x3, x4, x5⟩ hd (by omega) h3.2
        simp only [List.length_cons] at this ⊢; omega

theorem greedy_lex {go : Int → Int → Bool} {n : Int} : ∀ {d l : List Int} {a : Int}, Gr go n a l → (∀ x ∈ d, 1 ≤ x) → a + sumL d = n → AllGo go a d = true → l.length = d.length → d = l ∨ (lexB l d = true ∧ lexB d l = false)
  | [], l, a, _, _, _, _, hl => by
    cases l with
    | nil => exact .inl rfl
    | cons x r => simp at hl
  | y :: d, l, a, hg, h1, h2, h3, hl => by
    cases l with
    | nil => simp at hl
    | cons x r =>
      have hy := h1 y (by simp)
      have hd : ∀ x ∈ d, 1 ≤ x := fun x hx => h1 x (by simp [hx])
      have hs := sumL_nonneg d fun x hx => by have := hd x hx; omega
      simp only [sumL] at h2
      simp only [AllGo, Bool.and_eq_true] at h3
      obtain ⟨x1, x2, x3, x4, x5⟩ := hg
      by_cases e : x = y
      · subst e
        rcases greedy_lex x5 hd (by omega) h3.2 (by simpa using hl) with e2 | ⟨e2, e3⟩
        · exact .inl (by rw [e2])
        · refine .inr ⟨?_, ?_⟩
          · unfold lexB; rw [if_neg (by simp)]; exact e2
          · unfold lexB; rw [if_neg (by simp)]; exact e3
      · have hle : y ≤ x := by
          rcases Int.lt_or_le x y with h4 | h4
          · have := x4 y h4 (by omega)
            rw [h3.1] at this
            cases this
          · exact h4
        refine .inr ⟨?_, ?_⟩
        · unfold lexB; rw [if_pos e]; exact decide_eq_true (by omega)
        · unfold lexB; rw [if_pos (fun e2 => e e2.symm)]; exact decide_eq_false (by omega)

/-- The greedy division is better than all others that go. -/
theorem greedy_best {go : Int → Int → Bool} {n : Int} (hh : ∀ a b a' b', 0 ≤ a → a ≤ a' → a' < b' → b' ≤ b → go a b = true → go a' b' = true)
    {d l : List Int} {a : Int} (h0 : 0 ≤ a) (hg : Gr go n a l) (h1 : ∀ x ∈ d, 1 ≤ x) (h2 : a + sumL d = n) (h3 : AllGo go a d = true) : d = l ∨ (betterB l d = true ∧ betterB d l = false) := by
  have hle := greedy_len hh h0 (Int.le_refl a) hg h1 h2 h3
  unfold betterB
  by_cases e : l.length = d.length
  · rw [if_neg (by simpa using e), if_neg (by simpa using e.symm)]
    exact greedy_lex hg h1 h2 h3 e
  · rw [if_pos e, if_pos (fun e2 => e e2.symm)]
    exact .inr ⟨decide_eq_true (by omega), decide_eq_false (by omega)⟩

/-- Where one ship alone does not go, no division goes. -/
theorem none_goes {go : Int → Int → Bool} {n p : Int} (hh : ∀ a b a' b', 0 ≤ a → a ≤ a' → a' < b' → b' ≤ b → go a b = true → go a' b' = true) (hp : p < n) (hno : go p (p + 1) = false) :
    ∀ {d : List Int} {b : Int}, 0 ≤ b → b ≤ p → (∀ x ∈ d, 1 ≤ x) → b + sumL d = n → AllGo go b d = false
  | [], b, h0, hb, h1, h2 => by simp only [sumL] at h2; omega
  | y :: d, b, h0, hb, h1, h2 => by
    have hy := h1 y (by simp)
    have hd : ∀ x ∈ d, 1 ≤ x := fun x hx => h1 x (by simp [hx])
    simp only [sumL] at h2
    cases hgo : AllGo go b (y :: d) with
    | false => rfl
    | true =>
      exfalso
      simp only [AllGo, Bool.and_eq_true] at hgo
      rcases Int.lt_or_le p (b + y) with h | h
      · have := hh b (b + y) p (p + 1) h0 hb (by omega) (by omega) hgo.1
        rw [hno] at this; cases this
      · have := none_goes hh hp hno (d := d) (b := b + y) (by omega) h hd (by omega)
        rw [hgo.2] at this; cases this

/-- The greedy division goes itself. -/
theorem greedy_goes {go : Int → Int → Bool} {n : Int} : ∀ {l : List Int} {a : Int}, Gr go n a l → AllGo go a l = true
  | [], _, _ => rfl
  | x :: r, a, hg => by
    obtain ⟨x1, x2, x3, x4, x5⟩ := hg
    simp only [AllGo, x3, greedy_goes x5]
    rfl

end Go.Proofs.Cv

namespace Go.Proofs.Cv
open Go Go.KX

def rowFrom (a : Int) (n : Nat) : List Int := (List.range n).map fun j : Nat => a + (j : Int)
theorem rowFrom_len {a : Int} {n : Nat} : (rowFrom a n).length = n := by simp [rowFrom]
theorem rowFrom_succ {a : Int} {n : Nat} : rowFrom a (n + 1) = rowFrom a n ++ [a + (n : Int)] := by simp [rowFrom, List.range_succ]
theorem rowFrom_get {a : Int} {n i : Nat} (h : i < n) : (rowFrom a n).getD i 0 = a + (i : Int) := by
  rw [List.getD_eq_getElem?_getD, rowFrom, List.getElem?_map, List.getElem?_range h]; rfl

theorem take_drop_succ {l : List Member} {a i : Nat} (h : a + i < l.length) : ((l.drop a).take (i + 1)).map fwdM = ((l.drop a).take i).map fwdM ++ [fwdM (l.getD (a + i) memD)] := by
  have h1 : i < (l.drop a).length := by rw [List.length_drop]; omega
  rw [List.take_succ_eq_append_getElem h1, List.map_append, List.map_cons, List.map_nil, List.getElem_drop, List.getD_eq_getElem?_getD, List.getElem?_eq_getElem h]
  rfl

theorem rgoes_eq {F : Nat} (hF : 1000 ≤ F) {c : Convoy} (hc : GoodC c) {cell : Cell} (hg : goodCell cell) {a k : Int} (ha : 0 ≤ a) (hk : 0 ≤ k) (hak : a + k ≤ c.Ships.length) : ref05_goes F (fwdC c) cell a k = some (goC c cell a (a + k)) := by
  refine Ok.eq ?_
  unfold ref05_goes
  have hlen := hc.len
  refine ok_loop (fun q : Int × List Int => 0 ≤ q.1 ∧ q.1 ≤ k ∧ q.2 = rowFrom a q.1.toNat) (fun q => (k - q.1).toNat) ⟨by simp, hk, rfl⟩ (by dsimp only; omega) fun q next hI hn => ?_
  obtain ⟨i, l⟩ := q
  obtain ⟨q1, q2, q3⟩ := hI
  dsimp only at q1 q2 q3 ⊢
  refine ok_brk (fun h => ?_) (fun h => ?_)
  · have h := of_decide_eq_true h
    refine ok_chk (show InR _ from ⟨by omega, by omega⟩) (ok_chk (by rw [q3, rowFrom_len, List.length_singleton]; omega) (ok_chk (show InR _ from ⟨by omega, by omega⟩) (hn _ ⟨by dsimp only; omega, by dsimp only; omega, ?_⟩ (by dsimp only; omega))))
    dsimp only
    rw [show (i + 1).toNat = i.toNat + 1 by omega, rowFrom_succ, q3, show ((i.toNat : Nat) : Int) = i by omega]
  have h := of_decide_eq_false h
  obtain rfl : i = k := by omega
  subst q3
  rw [rowFrom_len]
  simp only [fwdC_ships, List.length_map, getD_fwd']
  refine ok_loop (fun q : Int × List Member2 => 0 ≤ q.1 ∧ q.1 ≤ i ∧ q.2 = ((c.Ships.drop a.toNat).take q.1.toNat).map fwdM) (fun q => (i - q.1).toNat) ⟨by simp, hk, by simp⟩ (by dsimp only; omega) fun q next hI hn => ?_
  obtain ⟨j, out⟩ := q
  obtain ⟨p1, p2, p3⟩ := hI
  dsimp only at p1 p2 p3 ⊢
  have hol : out.length ≤ 6 := by rw [p3, List.length_map, List.length_take, List.length_drop]; omega
  refine ok_brk (fun h => ?_) (fun h => ?_)
  · have h := of_decide_eq_true h
    rw [rowFrom_get (show j.toNat < i.toNat by omega), show ((j.toNat : Nat) : Int) = j by omega]
    refine ok_chk ⟨p1, by omega⟩ (ok_chk ⟨by omega, by omega⟩ (ok_chk (by rw [List.length_singleton]; omega) (ok_chk (show InR _ from ⟨by omega, by omega⟩) (hn _ ⟨by dsimp only; omega, by dsimp only; omega, ?_⟩ (by dsimp only; omega)))))
    dsimp only
    rw [show (j + 1).toNat = j.toNat + 1 by omega, take_drop_succ (by omega), p3, show (a + j).toNat = a.toNat + j.toNat by omega]
  · have h := of_decide_eq_false h
    obtain rfl : j = i := by omega
    have hsub : Convoy2.mk (fwdC c).Breaker out (fwdC c).Clear (fwdC c).Close = fwdC (subC c a (a + j)) := by
      rw [p3]
      show _ = Convoy2.mk (fwdM c.Breaker) (((c.Ships.drop a.toNat).take (a + j - a).toNat).map fwdM) c.Clear c.Close
      rw [show a + j - a = j by omega]; rfl
    rw [hsub]
    have hgs := subC_good hc a (a + j)
    have hf := fastV_fast (subC c a (a + j)) cell
    refine ok_bnde (rmost_eq hF hgs hg) (ok_bnde (rfastest_eq hF hgs hg) (ok_some ?_))
    rw [goC_fast hf]
    have := hf.bd
    exact decide_eq_decide.2 ⟨fun h => by omega, fun h => by omega⟩

end Go.Proofs.Cv

namespace Go.Proofs.Cv
open Go Go.KX

def comps : Nat → Nat → List (List Int)
  | _, 0 => [[]]
  | 0, _ + 1 => []
  | f + 1, n + 1 => (List.range (n + 1)).flatMap fun j => (comps f (n - j)).map fun d => ((j + 1 : Nat) : Int) :: d

theorem comps_mem : ∀ {l : List Int} {f n : Nat}, (∀ x ∈ l, 1 ≤ x) → sumL l = n → n ≤ f → l ∈ comps f n
  | [], f, n, _, h, _ => by
    simp only [sumL] at h
    obtain rfl : n = 0 := by omega
    cases f <;> simp [comps]
  | x :: r, f, n, h1, h, hf => by
    have hx := h1 x (by simp)
    have hr : ∀ y ∈ r, 1 ≤ y := fun y hy => h1 y (by simp [hy])
    have hs := sumL_nonneg r fun y hy => by have := hr y hy; omega
    simp only [sumL] at h
    cases n with
    | zero => omega
    | succ n =>
      cases f with
      | zero => omega
      | succ f =>
        have := comps_mem (l := r) (f := f) (n := n - (x.toNat - 1)) hr (by omega) (by omega)
        simp only [comps, List.mem_flatMap, List.mem_map, List.mem_range]
        exact ⟨x.toNat - 1, by omega, r, this, by rw [show ((x.toNat - 1 + 1 : Nat) : Int) = x by omega]⟩

theorem comps_ok : ∀ {f n : Nat} {d : List Int}, d ∈ comps f n → (∀ x ∈ d, 1 ≤ x) ∧ sumL d = n
  | f, 0, d, h => by
    have h : d = [] := by cases f <;> simpa [comps] using h
    subst h
    exact ⟨fun x hx => absurd hx (by simp), rfl⟩
  | 0, n + 1, d, h => by simp [comps] at h
  | f + 1, n + 1, d, h => by
    simp only [comps, List.mem_flatMap, List.mem_map, List.mem_range] at h
    obtain ⟨j, hj, r, hr, rfl⟩ := h
    obtain ⟨g1, g2⟩ := comps_ok hr
    refine ⟨fun x hx => ?_, by simp only [sumL]; omega⟩
    rcases List.mem_cons.1 hx with rfl | hx
    · omega
    · exact g1 x hx

theorem div0 (G : Nat) : ref05_Divisions (G + 40) 0 = some (comps 6 0) := by kernel_rfl
theorem div1 (G : Nat) : ref05_Divisions (G + 40) 1 = some (comps 6 1) := by kernel_rfl
theorem div2 (G : Nat) : ref05_Divisions (G + 40) 2 = some (comps 6 2) := by kernel_rfl
theorem div3 (G : Nat) : ref05_Divisions (G + 40) 3 = some (comps 6 3) := by kernel_rfl
theorem div4 (G : Nat) : ref05_Divisions (G + 40) 4 = some (comps 6 4) := by kernel_rfl
theorem div5 (G : Nat) : ref05_Divisions (G + 40) 5 = some (comps 6 5) := by kernel_rfl
theorem div6 (G : Nat) : ref05_Divisions (G + 40) 6 = some (comps 6 6) := by kernel_rfl

theorem rdiv_eq {F : Nat} (hF : 1000 ≤ F) {n : Nat} (hn : n ≤ 6) : ref05_Divisions F (n : Int) = some (comps 6 n) := by
  obtain ⟨G, rfl⟩ : ∃ G, F = G + 40 := ⟨F - 40, by omega⟩
  have : n = 0 ∨ n = 1 ∨ n = 2 ∨ n = 3 ∨ n = 4 ∨ n = 5 ∨ n = 6 := by omega
  rcases this with rfl | rfl | rfl | rfl | rfl | rfl | rfl
  · exact div0 G
  · exact div1 G
  · exact div2 G
  · exact div3 G
  · exact div4 G
  · exact div5 G
  · exact div6 G

theorem comps_len {n : Nat} (hn : n ≤ 6) : (comps 6 n).length ≤ 32 := by
  have : n = 0 ∨ n = 1 ∨ n = 2 ∨ n = 3 ∨ n = 4 ∨ n = 5 ∨ n = 6 := by omega
  rcases this with rfl | rfl | rfl | rfl | rfl | rfl | rfl <;> decide

theorem getD_len_cons {x : Int} {a : List Int} {i : Nat} : (x :: a).getD (i + 1) 0 = a.getD i 0 := rfl

/-- The better one of two divisions: what the reference says. -/
theorem lexB_at : ∀ {a b : List Int} {i : Nat}, a.length = b.length → (∀ j < i, a.getD j 0 = b.getD j 0) → i < a.length → a.getD i 0 ≠ b.getD i 0 → lexB a b = decide (a.getD i 0 > b.getD i 0)
  | [], _, _, _, _, h, _ => by simp at h
  | _ :: _, [], _, h, _, _, _ => by simp at h
  | x :: a, y :: b, 0, _, _, _, h => by
    have h : x ≠ y := h
    unfold lexB; rw [if_pos h]; rfl
  | x :: a, y :: b, i + 1, hl, hj, hi, h => by
    have h0 : x = y := hj 0 (by omega)
    unfold lexB; rw [if_neg (fun e => e h0)]
    exact lexB_at (a := a) (b := b) (i := i) (by simpa using hl) (fun j hj' => hj (j + 1) (by omega)) (by simpa using hi) h

theorem lexB_end : ∀ {a b : List Int}, a.length = b.length → (∀ j < a.length, a.getD j 0 = b.getD j 0) → lexB a b = false
  | [], [], _, _ => rfl
  | [], _ :: _, h, _ => by simp at h
  | _ :: _, [], h, _ => by simp at h
  | x :: a, y :: b, hl, hj => by
    have h0 : x = y := hj 0 (by simp)
    unfold lexB; rw [if_neg (fun e => e h0)]
    exact lexB_end (by simpa using hl) fun j hj' => hj (j + 1) (by simpa using hj')

theorem rbetter_eq {F : Nat} (hF : 1000 ≤ F) {a b : List Int} (ha : a.length ≤ 900) : ref05_better F a b = some (betterB a b) := by
  refine Ok.eq ?_
  unfold ref05_better betterB
  refine ok_brk (fun h => ok_some ?_) (fun h => ?_)
  · have h : (a.length : Int) ≠ b.length := by simpa using h
    rw [if_pos (by omega)]
    exact decide_eq_decide.2 (by omega)
  have h : (a.length : Int) = b.length := by simpa using h
  have hl : a.length = b.length := by omega
  rw [if_neg (fun e => e hl)]
  refine ok_loop (fun q : Int => 0 ≤ q ∧ q ≤ a.length ∧ ∀ j : Nat, (j : Int) < q → a.getD j 0 = b.getD j 0) (fun q => (a.length - q).toNat) ⟨by omega, by omega, fun j h => by omega⟩ (by omega) fun q next ⟨q1, q2, q3⟩ hn => ?_
  refine ok_brk (fun g => ?_) (fun g => ok_some ?_)
  · have g := of_decide_eq_true g
    refine ok_chk ⟨q1, g⟩ (ok_chk ⟨q1, by omega⟩ (ok_brk (fun e => ok_chk ⟨q1, g⟩ (ok_chk ⟨q1, by omega⟩ (ok_some ?_))) (fun e => ok_chk (show InR _ from ⟨by omega, by omega⟩) (hn _ ⟨by omega, by omega, fun j hj => ?_⟩ (by omega)))))
    · exact (lexB_at hl (fun j hj => q3 j (by omega)) (by omega) (by simpa using e)).symm
    · by_cases e2 : (j : Int) = q
      · rw [show j = q.toNat by omega]; simpa using e
      · exact q3 j (by omega)
  · have g := of_decide_eq_false g
    exact (lexB_end hl fun j hj => q3 j (by omega)).symm

end Go.Proofs.Cv

namespace Go.Proofs.Cv
open Go Go.KX

def pick (go : Int → Int → Bool) : List (List Int) → List Int → Bool → List Int × Bool
  | [], best, found => (best, found)
  | d :: r, best, found => if (AllGo go 0 d && (!found || betterB d best)) = true then pick go r d true else pick go r best found

theorem pick_greedy {go : Int → Int → Bool} {n : Int} (hh : ∀ a b a' b', 0 ≤ a → a ≤ a' → a' < b' → b' ≤ b → go a b = true → go a' b' = true) {l : List Int} (hg : Gr go n 0 l) :
    ∀ {L : List (List Int)} {best : List Int} {found : Bool}, (∀ d ∈ L, (∀ x ∈ d, 1 ≤ x) ∧ sumL d = n) → (found = true → ((∀ x ∈ best, 1 ≤ x) ∧ sumL best = n) ∧ AllGo go 0 best = true) → (l ∈ L ∨ (found = true ∧ best = l)) → pick go L best found = (l, true)
  | [], best, found, _, _, h => by
    rcases h with h | ⟨h1, h2⟩
    · cases h
    · rw [h1, h2]; rfl
  | d :: r, best, found, hL, hb, h => by
    have hd := hL d (by simp)
    have hr : ∀ d ∈ r, (∀ x ∈ d, 1 ≤ x) ∧ sumL d = n := fun e he => hL e (by simp [he])
    have best' : ∀ e : List Int, (∀ x ∈ e, 1 ≤ x) ∧ sumL e = n → AllGo go 0 e = true → e = l ∨ (betterB l e = true ∧ betterB e l = false) := fun e h1 h2 => greedy_best hh (Int.le_refl 0) hg h1.1 (by rw [h1.2]; omega) h2
    unfold pick
    cases hc : (AllGo go 0 d && (!found || betterB d best)) with
    | true =>
      rw [if_pos rfl]
      simp only [Bool.and_eq_true, Bool.or_eq_true, Bool.not_eq_true'] at hc
      refine pick_greedy hh hg hr (fun _ => ⟨hd, hc.1⟩) ?_
      rcases h with h | ⟨h1, h2⟩
      · rcases List.mem_cons.1 h with h | h
        · exact .inr ⟨rfl, h.symm⟩
        · exact .inl h
      · refine .inr ⟨rfl, ?_⟩
        rcases best' d hd hc.1 with e | ⟨_, e⟩
        · exact e
        · rcases hc.2 with e2 | e2
          · rw [h1] at e2; cases e2
          · rw [h2, e] at e2; cases e2
    | false =>
      rw [if_neg (by simp)]
      refine pick_greedy hh hg hr hb ?_
      rcases h with h | h
      · rcases List.mem_cons.1 h with h | h
        · subst h
          rw [greedy_goes hg, Bool.true_and, Bool.or_eq_false_iff, Bool.not_eq_false'] at hc
          obtain ⟨b1, b2⟩ := hb hc.1
          refine .inr ⟨hc.1, ?_⟩
          rcases best' best b1 b2 with e | ⟨e, _⟩
          · exact e
          · rw [hc.2] at e; cases e
        · exact .inl h
      · exact .inr h

theorem pick_none {go : Int → Int → Bool} : ∀ {L : List (List Int)} {best : List Int}, (∀ d ∈ L, AllGo go 0 d = false) → pick go L best false = (best, false)
  | [], _, _ => rfl
  | d :: r, best, h => by
    unfold pick
    rw [h d (by simp), Bool.false_and, if_neg (by simp)]
    exact pick_none fun e he => h e (by simp [he])

/-- What the reference's look at all divisions finds: what the program's Split answers. -/
theorem split_pick {c : Convoy} (hc : GoodC c) {cell : Cell} {r : List Int × Int} (h : SplitIs c cell r) :
    (r.2 = 0 ∧ pick (goC c cell) (comps 6 c.Ships.length) [] false = (r.1, true)) ∨ (r.2 = 4 ∧ pick (goC c cell) (comps 6 c.Ships.length) [] false = ([], false)) := by
  have hh := goC_hered hc (cell := cell)
  have hlen := hc.len
  rcases h.err with e | e
  · obtain ⟨g1, g2⟩ := h.ok e
    refine .inl ⟨e, pick_greedy (n := c.Ships.length) hh g1 (fun d hd => comps_ok hd) (fun h => by cases h) (.inl (comps_mem g1.one g2 hlen))⟩
  · obtain ⟨a, a1, a2, a3⟩ := h.none e
    refine .inr ⟨e, pick_none fun d hd => ?_⟩
    obtain ⟨d1, d2⟩ := comps_ok hd
    exact none_goes (n := c.Ships.length) hh a2 a3 (Int.le_refl 0) a1 d1 (by rw [d2]; omega)

end Go.Proofs.Cv

namespace Go.Proofs.Cv
open Go Go.KX

theorem rSplit_eq {F : Nat} (hF : 1000 ≤ F) {c : Convoy} (hs : ShortC c) {cell : Cell} (hm : metErr c cell = 0) :
    ref05_Split F (fwdC c) cell = some (if (pick (goC c cell) (comps 6 c.Ships.length) [] false).2 = true then ((pick (goC c cell) (comps 6 c.Ships.length) [] false).1, 0) else ([], 4)) := by
  obtain ⟨hc, hg⟩ := met_z hm
  have hlen := hc.len
  have F0 : 0 < F := by omega
  refine Ok.eq ?_
  unfold ref05_Split
  refine ok_bnde (rmet_eq hF hs cell) ?_
  rw [hm]
  refine ok_brkF rfl (ok_chk ⟨by omega, by omega, by omega⟩ ?_)
  simp only [fwdC_ships, List.length_map]
  refine ok_loop (fun q : Int × List Bool => 0 ≤ q.1 ∧ q.1 ≤ c.Ships.length ∧ q.2.length = 64 ∧ ∀ a k : Int, 0 ≤ a → a < q.1 → 1 ≤ k → a + k ≤ c.Ships.length → q.2.getD (8 * a + k).toNat false = goC c cell a (a + k)) (fun q => (c.Ships.length - q.1).toNat)
    ⟨by simp, by dsimp only; omega, by simp, fun a k h1 h2 => by dsimp only at h2; omega⟩ (by dsimp only; omega) fun q next hI hn => ?_
  obtain ⟨a, can⟩ := q
  obtain ⟨q1, q2, q3, q4⟩ := hI
  dsimp only at q1 q2 q3 q4 ⊢
  refine ok_brk (fun h => ?_) (fun h => ?_)
  · have h := of_decide_eq_true h
    refine ok_loop (fun p : Int × List Bool => 1 ≤ p.1 ∧ p.1 ≤ c.Ships.length - a + 1 ∧ p.2.length = 64 ∧ (∀ a' k : Int, 0 ≤ a' → a' < a → 1 ≤ k → a' + k ≤ c.Ships.length → p.2.getD (8 * a' + k).toNat false = goC c cell a' (a' + k)) ∧ ∀ k : Int, 1 ≤ k → k < p.1 → p.2.getD (8 * a + k).toNat false = goC c cell a (a + k)) (fun p => (c.Ships.length - a + 1 - p.1).toNat)
      ⟨by simp, by dsimp only; omega, q3, q4, fun k h1 h2 => by dsimp only at h2; omega⟩ (by dsimp only; omega) fun p next' hJ hn' => ?_
    obtain ⟨k, can'⟩ := p
    obtain ⟨p1, p2, p3, p4, p5⟩ := hJ
    dsimp only at p1 p2 p3 p4 p5 ⊢
    refine ok_chk (show InR _ from ⟨by omega, by omega⟩) (ok_brk (fun g => ?_) (fun g => ?_))
    · have g := of_decide_eq_true g
      refine ok_chk (show InR _ from ⟨by omega, by omega⟩) (ok_chk (show InR _ from ⟨by omega, by omega⟩) (ok_bnde (rgoes_eq hF hc hg q1 (by omega) g) (ok_chk ⟨by omega, by omega⟩ (ok_chk (show InR _ from ⟨by omega, by omega⟩) (hn' _ ⟨by dsimp only; omega, by dsimp only; omega, by simp [p3], fun a' k' h1 h2 h3 h4 => ?_, fun k' h1 h2 => ?_⟩ (by dsimp only; omega))))))
      · dsimp only
        rw [getD_set' (by omega), if_neg (by omega)]
        exact p4 a' k' h1 h2 h3 h4
      · dsimp only at h2 ⊢
        rw [getD_set' (by omega)]
        by_cases e : k' = k
        · subst e; rw [if_pos rfl]
        · rw [if_neg (by omega)]; exact p5 k' h1 (by omega)
    · have g := of_decide_eq_false g
      refine ok_chk (show InR _ from ⟨by omega, by omega⟩) (hn _ ⟨by dsimp only; omega, by dsimp only; omega, p3, fun a' k' h1 h2 h3 h4 => ?_⟩ (by dsimp only; omega))
      dsimp only at h2 ⊢
      by_cases e : a' = a
      · subst e; exact p5 k' h3 (by omega)
      · exact p4 a' k' h1 (by omega) h3 h4
  · have h := of_decide_eq_false h
    have tab : ∀ a k : Int, 0 ≤ a → 1 ≤ k → a + k ≤ c.Ships.length → can.getD (8 * a + k).toNat false = goC c cell a (a + k) := fun a' k h1 h2 h3 => q4 a' k h1 (by omega) h2 h3
    clear q4
    refine ok_bnde (rdiv_eq hF hlen) ?_
    have hcl := comps_len hlen
    refine ok_rest (l := comps 6 c.Ships.length) (d := []) (fun x : List Int × (Int × Bool) => x.2.1) (fun x r => pick (goC c cell) (comps 6 c.Ships.length) [] false = pick (goC c cell) r x.1 x.2.2) (by omega) rfl rfl (fun x next h0 h1 hq hmem hn => ?_) (fun x next h1 hq => ?_)
    · obtain ⟨best, i, found⟩ := x
      dsimp only at h0 h1 hq hmem hn ⊢
      obtain ⟨d1, d2⟩ := comps_ok hmem
      generalize hd : (comps 6 c.Ships.length).getD i.toNat [] = d at *
      have hdl : ∀ (l : List Int), (∀ x ∈ l, 1 ≤ x) → (l.length : Int) ≤ sumL l := fun l hl => by
        induction l with
        | nil => simp [sumL]
        | cons y l ih => have := ih fun z hz => hl z (by simp [hz]); have := hl y (by simp); simp only [sumL, List.length_cons, Int.natCast_add]; omega
      have hdlen := hdl d d1
      refine ok_brkT (decide_eq_true h1) (ok_join F0 (fun y : List Int × Bool => pick (goC c cell) (comps 6 c.Ships.length) [] false = pick (goC c cell) ((comps 6 c.Ships.length).drop (i.toNat + 1)) y.1 y.2) (fun y hy => ok_chk (show InR _ from ⟨by omega, by omega⟩) (hn _ rfl hy)) fun k hk => ?_)
      rw [pick] at hq
      refine ok_rest (l := d) (d := 0) (fun x : Bool × (Int × Int) => x.2.1) (fun x r => AllGo (goC c cell) 0 d = (x.1 && AllGo (goC c cell) x.2.2 r) ∧ 0 ≤ x.2.2 ∧ x.2.2 + sumL r = c.Ships.length ∧ (∀ z ∈ r, 1 ≤ z)) (by omega) rfl ⟨by simp, by simp, by rw [d2]; simp, d1⟩ (fun x next' g0 g1 gq gm hn' => ?_) (fun x next' g1 gq => ?_)
      · obtain ⟨good, j, at_⟩ := x
        dsimp only at g0 g1 gq gm hn' ⊢
        obtain ⟨e1, e2, e3, e4⟩ := gq
        simp only [sumL] at e3
        have hx := e4 _ List.mem_cons_self
        have hr : ∀ z ∈ d.drop (j.toNat + 1), 1 ≤ z := fun z hz => e4 z (by simp [hz])
        have hsr := sumL_nonneg _ fun z hz => Int.le_trans (by decide) (hr z hz)
        generalize hv : d.getD j.toNat 0 = v at *
        simp only [AllGo] at e1
        refine ok_chk ⟨h0, h1⟩ (ok_brkT (decide_eq_true g1) (ok_brk (fun hgd => ?_) (fun hgd => ?_)))
        · subst hgd
          refine ok_chk (show InR _ from ⟨by omega, by omega⟩) (ok_chk ⟨h0, h1⟩ (ok_chk ⟨g0, g1⟩ (ok_chk (show InR _ from ⟨by omega, by omega⟩) (ok_chk ⟨by omega, by omega⟩ (ok_chk ⟨h0, h1⟩ (ok_chk ⟨g0, g1⟩ (ok_chk (show InR _ from ⟨by omega, by omega⟩) (ok_chk (show InR _ from ⟨by omega, by omega⟩) (hn' _ rfl ⟨?_, by dsimp only; omega, by dsimp only; omega, hr⟩)))))))))
          dsimp only
          rw [tab at_ v e2 hx (by omega), e1]; simp
        · subst hgd
          refine ok_chk ⟨h0, h1⟩ (ok_chk ⟨g0, g1⟩ (ok_chk (show InR _ from ⟨by omega, by omega⟩) (ok_chk (show InR _ from ⟨by omega, by omega⟩) (hn' _ rfl ⟨?_, by dsimp only; omega, by dsimp only; omega, hr⟩))))
          dsimp only
          rw [e1]; simp
      · obtain ⟨good, j, at_⟩ := x
        dsimp only at g1 gq ⊢
        obtain ⟨e1, _⟩ := gq
        simp only [AllGo, Bool.and_true] at e1
        rw [e1] at hq
        refine ok_chk ⟨h0, h1⟩ (ok_brkF (decide_eq_false (by omega)) (ok_brk (fun hgd => ?_) (fun hgd => ?_)))
        · subst hgd
          refine ok_brk (fun hf => ok_chk ⟨h0, h1⟩ (hk _ ?_)) (fun hf => ok_chk ⟨h0, h1⟩ (ok_bnde (rbetter_eq hF (by omega)) (ok_brk (fun hb => ok_chk ⟨h0, h1⟩ (hk _ ?_)) (fun hb => hk _ ?_))))
          · have hf : found = false := by simpa using hf
            subst hf
            dsimp only
            rw [hq, if_pos (by simp)]
          · have hf : found = true := by simpa using hf
            subst hf
            dsimp only
            rw [hq, if_pos (by simp [hb])]
          · have hf : found = true := by simpa using hf
            subst hf
            dsimp only
            rw [hq, if_neg (by simp [hb])]
        · subst hgd
          refine hk _ ?_
          dsimp only
          rw [hq, if_neg (by simp)]
    · obtain ⟨best, i, found⟩ := x
      dsimp only at h1 hq ⊢
      refine ok_brkF (decide_eq_false (by omega)) ?_
      rw [hq]
      simp only [pick]
      refine ok_brk (fun hf => ok_some ?_) (fun hf => ok_some ?_)
      · have hf : found = false := by simpa using hf
        subst hf; rfl
      · have hf : found = true := by simpa using hf
        subst hf; rfl

theorem Split_same {F : Nat} (hF : 1000 ≤ F) {c : Convoy} (hs : ShortC c) (cell : Cell) : ∃ r : List Int × Int, r.1.length ≤ 900 ∧ convoy_Split F c cell = some r ∧ ref05_Split F (fwdC c) cell = some r := by
  by_cases h : metErr c cell = 0
  · obtain ⟨hc, hg⟩ := met_z h
    have hlen := hc.len
    obtain ⟨r, h1, h2⟩ := Split_ok hF hc hg
    refine ⟨r, ?_, h1, ?_⟩
    · rcases h2.err with e | e
      · obtain ⟨g1, g2⟩ := h2.ok e
        have := gr_len g1
        omega
      · rw [h2.nil e]; simp
    · rw [rSplit_eq hF hs h]
      rcases split_pick hc h2 with ⟨e1, e2⟩ | ⟨e1, e2⟩
      · rw [e2, if_pos rfl]
        obtain ⟨a, b⟩ := r
        dsimp only at e1 ⊢
        rw [e1]
      · rw [e2, if_neg (by simp)]
        obtain ⟨a, b⟩ := r
        have := h2.nil e1
        dsimp only at e1 this ⊢
        rw [e1, this]
  · refine ⟨([], metErr c cell), by simp, Ok.eq ?_, Ok.eq ?_⟩
    · unfold convoy_Split
      exact ok_bnde (cmet_eq hF hs cell) (ok_brkT (by simpa using h) (ok_some rfl))
    · unfold ref05_Split
      exact ok_bnde (rmet_eq hF hs cell) (ok_brkT (by simpa using h) (ok_some rfl))

end Go.Proofs.Cv

namespace Go.Proofs.Cv
open Go Go.KX
theorem awake_eq : law05_awake 1000000000000000 = some true := by kernel_rfl
end Go.Proofs.Cv

namespace Go.Proofs.Cv
open Go Go.KX

theorem convoyHolds_ok' {F : Nat} (hF : F = 1000000000000000) (c : Convoy) (cell : Cell) (v : Int) : law05_ConvoyHolds F c cell v = some true := by
  have hF' : 1000 ≤ F := by omega
  have aw : law05_awake F = some true := by rw [hF]; exact awake_eq
  refine Ok.eq ?_
  unfold law05_ConvoyHolds
  refine ok_bnd _ (heavy_ok hF' c) fun b hb => ?_
  refine ok_brk (fun _ => ok_bnde aw (ok_some rfl)) (fun h => ?_)
  have ht := hb h
  have hs := ht.short
  refine ok_bnde (lcopy_eq hF' ht) (ok_bnde (lconvoy_eq hF' ht) ?_)
  obtain ⟨r1, a1, b1⟩ := Holds_same hF' hs cell v
  refine ok_bnde a1 (ok_bnde b1 (ok_brkF (by simp) ?_))
  obtain ⟨r2, l2, a2, b2⟩ := Speeds_same hF' hs cell
  refine ok_bnde a2 (ok_bnde b2 (ok_bnde (sameSpans hF' (by omega)) (ok_brkF (by simp) ?_)))
  obtain ⟨r3, a3, b3⟩ := Fastest_same hF' hs cell
  refine ok_bnde a3 (ok_bnde b3 (ok_brkF (by simp) ?_))
  obtain ⟨r4, l4, a4, b4⟩ := Split_same hF' hs cell
  refine ok_bnde a4 (ok_bnde b4 (ok_bnde (sameInts hF' (by omega)) ?_))
  refine ok_band (y := true) (fun _ => lalike_eq hF' ht) (ok_band (y := true) (fun _ => aw) (ok_some ?_))
  simp

theorem convoyHolds_ok {c : Convoy} {cell : Cell} {v : Int} {P0 P1 P2 : Prop} (_ : P0) (_ : P1) (_ : P2) : law05_ConvoyHolds 1000000000000000 c cell v = some true := convoyHolds_ok' rfl c cell v

end Go.Proofs.Cv

namespace Go.KX
open Go Go.ChangeShapes Go.WideShapes Go.RowKit

/-- Types whose reading asks only for cells: numbers, Booleans, and structs, arrays and slices of such. -/
def goodT (P : Program) : Nat → TypeId → Bool
  | 0, _ => false
  | n + 1, t => match P.underlying t with
    | some (.int _) => true
    | some .bool => true
    | some (.struct fs) => fs.toList.all fun f => goodT P n f.type
    | some (.array _ e) => goodT P n e
    | some (.slice e) => goodT P n e && Nat.ble 1 (P.cellsOf e)
    | _ => false

theorem mapM_carry' {α β : Type} {f g : α → Option β} : ∀ {l : List α} {r : List β}, l.mapM f = some r → (∀ x y, x ∈ l → y ∈ r → f x = some y → g x = some y) → l.mapM g = some r := mapM_carry

section
variable {H : Type} {enc : TypeId × Value → H} {P : Program} {w : World} {base : Nat} {held : Bool}

theorem trod_spare {sp : Nat → Bool} : ∀ (m n : Nat) (t : TypeId) (cs : List Value) (x : DataW H × List MemPlace), goodT P m t = true →
    DataW.trod enc P w base (fun _ => true) held n t cs = some x → (∀ p ∈ x.2, sp p.block = true) → DataW.trod enc P w base sp held n t cs = some x := by
  intro m
  induction m with
  | zero => intro n t cs x h; cases h
  | succ m ih =>
    intro n t cs x hg h hs
    cases n with
    | zero => simp [DataW.trod] at h
    | succ n =>
      rw [DataW.trod_step] at h ⊢
      unfold goodT at hg
      unfold DataW.trodStep at h ⊢
      split at h
      case h_1 => exact h
      case h_2 => exact h
      case h_8 e a len cap hu =>
        rw [hu] at hg
        simp only [Bool.and_eq_true] at hg
        simp only at h ⊢
        split at h
        · rename_i hc
          rw [if_pos hc]
          simp only [if_true, Option.map_eq_some_iff, Option.bind_eq_some_iff] at h ⊢
          obtain ⟨elems, he, rest, hr, rfl⟩ := h
          have hlen : elems.length = len := by simpa using mapM_some_length he
          have hrlen : rest.length = cap - len := by simpa using mapM_some_length hr
          have hk : 1 ≤ P.cellsOf e := Nat.le_of_ble_eq_true hg.2
          have one : ∀ i y, (w.cells? base (a.add (i * P.cellsOf e)) (P.cellsOf e)).bind (DataW.trod enc P w base (fun _ => true) held n e) = some y → (∀ p ∈ y.2, sp p.block = true) →
              (w.cells? base (a.add (i * P.cellsOf e)) (P.cellsOf e)).bind (DataW.trod enc P w base sp held n e) = some y := by
            intro i y hy hp
            rw [Option.bind_eq_some_iff] at hy ⊢
            obtain ⟨cs', h1, h2⟩ := hy
            exact ⟨cs', h1, ih n e cs' y hg.1 h2 hp⟩
          have hpl : ∀ y, y ∈ elems ++ rest → ∀ p ∈ y.2, sp p.block = true := fun y hy p hp => hs p (by
            simp only [List.mem_append]
            exact .inr (List.mem_flatMap.2 ⟨y, hy, hp⟩))
          refine ⟨elems, mapM_carry' he fun i y hi hy hiy => one i y hiy (hpl y (by simp [hy])), rest, ?_, rfl⟩
          by_cases hcap : cap = 0
          · have : rest = [] := List.length_eq_zero_iff.1 (by omega)
            subst this
            split
            · rw [show cap - len = 0 by omega]; rfl
            · rfl
          · have : sp a.block = true := by
              have := hs (.cell a.block (a.off + 0)) (by
                simp only [List.mem_append]
                refine .inl (MemPlace.mem_row.2 ⟨0, ?_, rfl⟩)
                rw [hlen, hrlen, show len + (cap - len) = cap by omega]
                exact Nat.mul_pos (by omega) hk)
              exact this
            rw [if_pos this]
            exact mapM_carry' hr fun j y hj hy hjy => one _ y hjy (hpl y (by simp [hy]))
        · cases h
      case h_7 => exact h
      case h_9 fs cs' hu =>
        rw [hu] at hg
        simp only at hg
        split at h
        · rename_i hl
          rw [if_pos hl]
          simp only [Option.map_eq_some_iff] at h ⊢
          obtain ⟨xs, hx, rfl⟩ := h
          refine ⟨xs, mapM_carry' hx fun f y hf hy hfy => ih n f.type _ y (List.all_eq_true.1 hg f hf) hfy fun p hp => hs p ?_, rfl⟩
          exact List.mem_flatMap.2 ⟨y, hy, hp⟩
        · cases h
      case h_10 =>
        rename_i e hu
        rw [hu] at hg
        simp only at hg
        split at h
        · rename_i hl
          rw [if_pos hl]
          simp only [Option.map_eq_some_iff] at h ⊢
          obtain ⟨xs, hx, rfl⟩ := h
          refine ⟨xs, mapM_carry' hx fun f y hf hy hfy => ih n e _ y hg hfy fun p hp => hs p ?_, rfl⟩
          exact List.mem_flatMap.2 ⟨y, hy, hp⟩
        · cases h
      all_goals simp_all

theorem trod_move {w' : World} {sp : Nat → Bool} {t : TypeId} {v : Value} {d : DataW H} {ps : List MemPlace} (hg : goodT P 8 t = true) (h : DataW.Trod enc P w base (fun _ => true) held t v d ps)
    (hsame : ∀ p ∈ ps, w.sameAt w' p) (hs : ∀ p ∈ ps, sp p.block = true) : DataW.Trod enc P w' base sp held t v d ps := by
  obtain ⟨n, hn⟩ := h
  exact ⟨n, trod_spare 8 n t _ _ hg (DataW.trod_carry n t _ _ hn hsame) hs⟩

theorem trodAll_move {w' : World} {sp : Nat → Bool} : ∀ {ts : List TypeId} {vs : List Value} {ds : List (DataW H)} {ps : List MemPlace}, ts.all (goodT P 8) = true → DataW.TrodAll enc P w base (fun _ => true) held ts vs ds ps →
    (∀ p ∈ ps, w.sameAt w' p) → (∀ p ∈ ps, sp p.block = true) → DataW.TrodAll enc P w' base sp held ts vs ds ps := by
  intro ts
  induction ts with
  | nil =>
    intro vs ds ps _ h _ _
    obtain ⟨rfl, rfl, rfl⟩ := trodAll_nil h
    rfl
  | cons t ts ih =>
    intro vs ds ps hg h hsame hs
    obtain ⟨v, vs', d, ds', p, q, rfl, rfl, rfl, h1, h2⟩ := trodAll_cons h
    simp only [List.all_cons, Bool.and_eq_true] at hg
    exact ⟨p, q, trod_move hg.1 h1 (fun x hx => hsame x (by simp [hx])) (fun x hx => hs x (by simp [hx])), ih hg.2 h2 (fun x hx => hsame x (by simp [hx])) (fun x hx => hs x (by simp [hx])), rfl⟩

/-- A law that returns true and leaves what was there alone. -/
theorem post_law {f : Func} {s : ChangeSpec} {W W' : World} {args : Array Value} {ds gs : List (DataW H)} {before : List MemPlace} {tb : TypeId} (hW : DataW.Whole enc P f.params.toList s.vars false W args.toList ds gs before)
    (hv : s.vars = []) (hfn : s.fn H ds = { results := [.lit (.bool true)], args := ds }) (hrt : f.resultTypes = #[tb]) (htb : P.underlying tb = some .bool) (hgood : f.params.toList.all (goodT P 8) = true) (hb : Below W.heap.size W W') :
    s.post enc P f false true false false W args (.bool true) W' := by
  have hW0 := hW
  obtain ⟨p, q, hA, hV, rfl, _, _⟩ := hW
  rw [hv] at hV
  obtain ⟨rfl, rfl⟩ := trodVars_none hV
  have hlt : ∀ x ∈ p ++ [], x.block < W.heap.size := fun x hx => hW0.lt x hx
  have hsame : ∀ x ∈ p, W.sameAt W' x := fun x hx => hb.same (hlt x (by simpa using hx))
  refine ⟨ds, [], p ++ [], [], p, [], hW0, ?_, ?_, ?_, hb.frame _, fun h => by cases h⟩
  · simp only [List.append_nil, hfn, hrt]
    exact trodAll_mk1 (shut_bool htb _)
  · simp only [List.append_nil, hfn]
    exact trodAll_move hgood hA hsame fun x hx => by simpa using hlt x (by simpa using hx)
  · simp only [List.append_nil, hfn, hv]
    rfl
end

theorem wf_u8 {n : Int} (h : (Lit.int .u8 n).wf = true) : 0 ≤ n ∧ n ≤ 255 := by
  simp [Lit.wf, IntKind.min, IntKind.max, IntKind.signed, IntKind.bits] at h
  omega
theorem wf_u16 {n : Int} (h : (Lit.int .u16 n).wf = true) : 0 ≤ n ∧ n ≤ 65535 := by
  simp [Lit.wf, IntKind.min, IntKind.max, IntKind.signed, IntKind.bits] at h
  omega
theorem wf_u32 {n : Int} (h : (Lit.int .u32 n).wf = true) : 0 ≤ n ∧ n ≤ 4294967295 := by
  simp [Lit.wf, IntKind.min, IntKind.max, IntKind.signed, IntKind.bits] at h
  omega
theorem wf_i64 {n : Int} (h : (Lit.int .i64 n).wf = true) : -9223372036854775808 ≤ n ∧ n ≤ 9223372036854775807 := by
  simp [Lit.wf, IntKind.min, IntKind.max, IntKind.signed, IntKind.bits] at h
  omega

/-- Values of the type t read as something of the registered type c, of which In is so. -/
def HReads (E : Env) (t : TypeId) (c : Nat) (In : E.G.car c → Prop) : Prop :=
  E.P.cellsOf t = E.G.sz c ∧ ∀ (H : Type) (e : TypeId × Value → H) (w : World) (base : Nat) (sp : Nat → Bool) (held : Bool) (fuel : Nat) (cs : List Value) (x : DataW H × List MemPlace),
    DataW.trod e E.P w base sp held fuel t cs = some x → ∃ a : E.G.car c, HdL E.G (IsCells w) w (E.G.enc c a) cs ∧ In a

theorem isCells_of {w : World} {a : Addr} {u : Value} (h : w.cell? a = some u) : IsCells w a.block ∧ a.spot = none := by
  unfold World.cell? at h
  split at h
  · rename_i c e s hb
    refine ⟨⟨_, hb, rfl⟩, ?_⟩
    split at h
    · cases h
    · rename_i hs
      simpa using hs
  · cases h

section
variable {E : Env} {H : Type} {e : TypeId × Value → H} {w : World} {base : Nat} {sp : Nat → Bool} {held : Bool}

theorem hdL_one {x : Value} {cv : CV E.G.car} (h : Hd E.G (IsCells w) w cv x) : HdL E.G (IsCells w) w [cv] [x] := ⟨_, _, rfl, h, rfl⟩

theorem hdL_append : ∀ {a b : List (CV E.G.car)} {u v : List Value}, HdL E.G (IsCells w) w a u → HdL E.G (IsCells w) w b v → HdL E.G (IsCells w) w (a ++ b) (u ++ v)
  | [], _, _, _, h, h' => by cases h; exact h'
  | _ :: _, _, _, _, ⟨x, us, rfl, h1, h2⟩, h' => ⟨x, us ++ _, rfl, h1, hdL_append h2 h'⟩

theorem hreads_int {t : TypeId} {c : Nat} {k : IntKind} {In : E.G.car c → Prop} (f : Int → E.G.car c) (hf : ∀ n, E.G.enc c (f n) = [.v (.int k n)]) (hu : E.P.underlying t = some (.int k)) (hc : E.P.cellsOf t = E.G.sz c)
    (hIn : ∀ n, (Lit.int k n).wf = true → In (f n)) : HReads E t c In :=
  ⟨hc, fun _ _ _ _ _ _ _ _ _ h => by
    obtain ⟨n, h1, _, h2⟩ := DataW.trod_int hu h
    subst h1
    exact ⟨f n, by rw [hf]; exact hdL_one (.v _), hIn n h2⟩⟩

theorem hreads_bool {t : TypeId} {c : Nat} {In : E.G.car c → Prop} (f : Bool → E.G.car c) (hf : ∀ n, E.G.enc c (f n) = [.v (.bool n)]) (hu : E.P.underlying t = some .bool) (hc : E.P.cellsOf t = E.G.sz c) (hIn : ∀ b, In (f b)) : HReads E t c In :=
  ⟨hc, fun _ _ _ _ _ _ _ _ _ h => by
    obtain ⟨n, h1, _⟩ := DataW.trod_bool hu h
    subst h1
    exact ⟨f n, by rw [hf]; exact hdL_one (.v _), hIn n⟩⟩

theorem fields_of {t : TypeId} {fs : Array Field} {fuel : Nat} {cs : List Value} {x : DataW H × List MemPlace} (hu : E.P.underlying t = some (.struct fs)) (h : DataW.trod e E.P w base sp held fuel t cs = some x) :
    cs.length = E.P.cellsOf t ∧ ∀ (j : Nat) (fd : Field), fs[j]? = some fd → ∃ fuel y, DataW.trod e E.P w base sp held fuel fd.type ((cs.drop fd.offset).take (E.P.cellsOf fd.type)) = some y := by
  obtain ⟨xs, n, rfl, rfl, hl, hlen, hf⟩ := DataW.trod_struct hu h
  refine ⟨hl, fun j fd hj => ?_⟩
  have hlt : j < xs.length := by have := (Array.getElem?_eq_some_iff.1 hj).1; omega
  exact ⟨n, xs[j], by rw [hf j fd hj, List.getElem?_eq_getElem hlt]⟩

theorem elems_of {t el : TypeId} {n s : Nat} {fuel : Nat} {cs : List Value} {x : DataW H × List MemPlace} (hu : E.P.underlying t = some (.array n el)) (hs : E.P.cellsOf el = s) (h : DataW.trod e E.P w base sp held fuel t cs = some x) :
    cs.length = E.P.cellsOf t ∧ ∀ (j : Nat), j < n → ∃ fuel y, DataW.trod e E.P w base sp held fuel el ((cs.drop (j * s)).take (E.P.cellsOf el)) = some y := by
  obtain ⟨xs, m, rfl, rfl, hl, hlen, hf⟩ := DataW.trod_array hu h
  subst hs
  refine ⟨hl, fun j hj => ?_⟩
  have hlt : j < xs.length := by omega
  exact ⟨m, xs[j], by rw [hf j hj, List.getElem?_eq_getElem hlt]⟩

theorem HReads.at {t : TypeId} {c off : Nat} {In : E.G.car c → Prop} {cs : List Value} (hR : HReads E t c In)
    (hx : ∃ fuel y, DataW.trod e E.P w base sp held fuel t ((cs.drop off).take (E.P.cellsOf t)) = some y) : ∃ a, HdL E.G (IsCells w) w (E.G.enc c a) ((cs.drop off).take (E.G.sz c)) ∧ In a := by
  obtain ⟨fuel, y, h⟩ := hx
  rw [hR.1] at h
  exact hR.2 _ _ _ _ _ _ _ _ _ h

theorem hcut_cons {a r : List (CV E.G.car)} {cs : List Value} {o n : Nat} (h : HdL E.G (IsCells w) w a ((cs.drop o).take n)) (hr : HdL E.G (IsCells w) w r (cs.drop (o + n))) : HdL E.G (IsCells w) w (a ++ r) (cs.drop o) := by
  have := hdL_append h hr
  rwa [← List.drop_drop, List.take_append_drop] at this

theorem hcut_nil {cs : List Value} {o : Nat} (h : cs.length ≤ o) : HdL E.G (IsCells w) w [] (cs.drop o) := List.drop_eq_nil_of_le h

/-- A slice's elements. -/
theorem hslice_of {t el : TypeId} {c fuel : Nat} {In : E.G.car c → Prop} {cs : List Value} {x : DataW H × List MemPlace} (hu : E.P.underlying t = some (.slice el)) (hR : HReads E el c In) (hn : 0 < E.G.sz c)
    (h : DataW.trod e E.P w base sp held fuel t cs = some x) :
    ∃ (p : Option Addr) (n cap : Nat) (l : List (E.G.car c)), cs = [.slice p n cap] ∧ Hd E.G (IsCells w) w (.sl c l) (.slice p n cap) ∧ (∀ x ∈ l, In x) ∧ l.length ≤ 9223372036854775807 := by
  rcases DataW.trod_slice hu h with ⟨rfl, _⟩ | ⟨a, len, cap, elems, rest, m, _, rfl, _, hb, hl, hm, hel, hi, _, _⟩
  · exact ⟨none, 0, 0, [], rfl, Hd.mk (b := 0) (o := 0) rfl (Nat.le_refl _) (fun h => absurd rfl h) (fun i x hx => by simp at hx), by simp, by simp⟩
  have build : ∀ k, k ≤ len → ∃ l : List (E.G.car c), l.length = k ∧ ∀ i x, l[i]? = some x → In x ∧ ∃ us, w.cells? base (a.add (i * E.G.sz c)) (E.G.sz c) = some us ∧ HdL E.G (IsCells w) w (E.G.enc c x) us := by
    intro k
    induction k with
    | zero => intro _; exact ⟨[], rfl, fun i x hx => by simp at hx⟩
    | succ k ih =>
      intro hk
      obtain ⟨l, h1, h2⟩ := ih (by omega)
      have h3 := hi k (by omega)
      rw [List.getElem?_eq_getElem (by omega), hR.1, Option.bind_eq_some_iff] at h3
      obtain ⟨cs', h4, h5⟩ := h3
      obtain ⟨y, hy1, hy⟩ := hR.2 _ _ _ _ _ _ _ _ _ h5
      refine ⟨l ++ [y], by simp [h1], fun i x hx => ?_⟩
      rcases Nat.lt_or_ge i k with h6 | h6
      · rw [List.getElem?_append_left (by omega)] at hx; exact h2 i x hx
      · rw [List.getElem?_append_right (by omega)] at hx
        have : i - l.length = 0 := by
          have := (List.getElem?_eq_some_iff.1 hx).1
          simpa using this
        rw [this] at hx
        simp only [List.getElem?_cons_zero, Option.some.injEq] at hx
        subst hx
        obtain rfl : i = k := by omega
        exact ⟨hy, _, h4, hy1⟩
  obtain ⟨l, h1, h2⟩ := build len (Nat.le_refl _)
  have hcell : ∀ (i : Nat) x, l[i]? = some x → ∀ (j : Nat) (cv : CV E.G.car), (E.G.enc c x)[j]? = some cv → ∃ u, w.cell? ((a.add (i * E.G.sz c)).add j) = some u ∧ Hd E.G (IsCells w) w cv u := by
    intro i x hx j cv hcv
    obtain ⟨_, us, h3, h4⟩ := h2 i x hx
    obtain ⟨u, h5, h6⟩ := h4.get j cv hcv
    obtain ⟨_, h7, h8⟩ := World.cells?_some h3
    refine ⟨u, ?_, h6⟩
    rw [h8 j (by rw [← h7]; exact (List.getElem?_eq_some_iff.1 h5).1), h5]
  refine ⟨some a, len, cap, l, rfl, ?_, fun x hx => ?_, by unfold maxLen at hm; omega⟩
  · rcases Nat.eq_zero_or_pos len with h0 | h0
    · have : l = [] := List.length_eq_zero_iff.1 (by omega)
      subst this
      exact Hd.mk (b := 0) (o := 0) h1.symm hl (fun h => absurd rfl h) (fun i x hx => by simp at hx)
    · have hpos : 0 < l.length := by omega
      have hz : 0 < (E.G.enc c l[0]).length := by rw [E.G.hsz]; exact hn
      obtain ⟨u, h3, _⟩ := hcell 0 l[0] (List.getElem?_eq_getElem hpos) 0 _ (List.getElem?_eq_getElem hz)
      rw [Nat.zero_mul, show (a.add 0).add 0 = a by simp [Addr.add]] at h3
      obtain ⟨h4, h5⟩ := isCells_of h3
      obtain ⟨b, o, s⟩ := a
      simp only at h4 h5
      subst h5
      refine Hd.mk (b := b) (o := o) h1.symm hl (fun _ => ⟨rfl, h4⟩) (fun i x hx j cv hcv => ?_)
      have := hcell i x hx j cv hcv
      rwa [addr_add, addr_add] at this
  · obtain ⟨i, hi⟩ := List.getElem?_of_mem hx
    exact (h2 i x hi).1

theorem hreads_slice {t el : TypeId} {c d : Nat} {In : E.G.car c → Prop} {In' : E.G.car d → Prop} (f : List (E.G.car c) → E.G.car d) (hf : ∀ l, E.G.enc d (f l) = [.sl c l]) (hu : E.P.underlying t = some (.slice el)) (hR : HReads E el c In)
    (hn : 0 < E.G.sz c) (hc : E.P.cellsOf t = E.G.sz d) (hIn : ∀ l, (∀ x ∈ l, In x) → l.length ≤ 9223372036854775807 → In' (f l)) : HReads E t d In' :=
  ⟨hc, fun _ _ _ _ _ _ _ _ _ h => by
    obtain ⟨p, n, cap, l, rfl, h1, h2, h3⟩ := hslice_of hu hR hn h
    exact ⟨f l, by rw [hf]; exact hdL_one h1, hIn l h2 h3⟩⟩

/-! ### Arguments -/

theorem harg_int {r : Reach} {b0 : Nat} {t : TypeId} {c : Nat} {k : IntKind} {In : E.G.car c → Prop} {v : Value} {d : DataW H} {ps : List MemPlace} (hR : HReads E t c In) (hu : E.P.underlying t = some (.int k))
    (hval : Value.okWide E.P w r b0 t v) (h : DataW.Trod e E.P w base sp held t v d ps) : ∃ a : E.G.car c, ArgIs E (IsCells w) w (.v c false) a v ∧ In a := by
  obtain ⟨n, rfl⟩ := okWide_int hu hval
  obtain ⟨fuel, hf⟩ := h
  obtain ⟨a, h1, h2⟩ := hR.2 _ _ _ _ _ _ _ _ _ hf
  exact ⟨a, ⟨_, h1, rfl⟩, h2⟩

theorem harg_bool {r : Reach} {b0 : Nat} {t : TypeId} {c : Nat} {In : E.G.car c → Prop} {v : Value} {d : DataW H} {ps : List MemPlace} (hR : HReads E t c In) (hu : E.P.underlying t = some .bool)
    (hval : Value.okWide E.P w r b0 t v) (h : DataW.Trod e E.P w base sp held t v d ps) : ∃ a : E.G.car c, ArgIs E (IsCells w) w (.v c false) a v ∧ In a := by
  obtain ⟨n, rfl⟩ := okWide_bool hu hval
  obtain ⟨fuel, hf⟩ := h
  obtain ⟨a, h1, h2⟩ := hR.2 _ _ _ _ _ _ _ _ _ hf
  exact ⟨a, ⟨_, h1, rfl⟩, h2⟩

theorem harg_agg {r : Reach} {b0 : Nat} {t : TypeId} {c : Nat} {fs : Array Field} {In : E.G.car c → Prop} {v : Value} {d : DataW H} {ps : List MemPlace} (hR : HReads E t c In) (hu : E.P.underlying t = some (.struct fs))
    (hval : Value.okWide E.P w r b0 t v) (h : DataW.Trod e E.P w base sp held t v d ps) : ∃ a : E.G.car c, ArgIs E (IsCells w) w (.v c true) a v ∧ In a := by
  obtain ⟨cs, rfl, _⟩ := okWide_struct hu hval
  obtain ⟨fuel, hf⟩ := h
  obtain ⟨a, h1, h2⟩ := hR.2 _ _ _ _ _ _ _ _ _ hf
  exact ⟨a, ⟨_, h1, rfl⟩, h2⟩

theorem harg_sl {r : Reach} {b0 : Nat} {t el : TypeId} {c : Nat} {In : E.G.car c → Prop} {v : Value} {d : DataW H} {ps : List MemPlace} (hu : E.P.underlying t = some (.slice el)) (hR : HReads E el c In) (hn : 0 < E.G.sz c)
    (hval : Value.okWide E.P w r b0 t v) (h : DataW.Trod e E.P w base sp held t v d ps) : ∃ a : List (E.G.car c), ArgIs E (IsCells w) w (.sl c) a v ∧ (∀ x ∈ a, In x) ∧ a.length ≤ 9223372036854775807 := by
  obtain ⟨p, n, cap, rfl⟩ := okWide_slice hu hval
  obtain ⟨fuel, hf⟩ := h
  obtain ⟨p', n', cap', l, h1, h2, h3, h4⟩ := hslice_of hu hR hn hf
  have h1 : [Value.slice p n cap] = [.slice p' n' cap'] := h1
  simp only [List.cons.injEq, and_true, Value.slice.injEq] at h1
  obtain ⟨rfl, rfl, rfl⟩ := h1
  exact ⟨l, h2, h3, h4⟩

/-- A law whose mirror answers true returns true, and leaves what was there; with package-level variables. -/
theorem law_callsG {gl : List (Nat × Val E.G.car)} {k : Nat} {ps : List PK} {t : Nat} {es : List Nat} {f : AT E.G.car ps → Option (E.G.car t)} (hc : CSok E gl ⟨k, ps, [.v t false es], f⟩) (hg : GW E gl (IsCells w) w) (b : E.G.car t) (hb : E.G.enc t b = [.v (.bool true)])
    {vs : List Value} {xs : AT E.G.car ps} (ha : ArgsAre E (IsCells w) w ps xs vs) (hm : f xs = some b) :
    Calls E.P k vs.toArray w fun e w' => e = .returned (.bool true) ∧ Below w.heap.size w w' := by
  have h := hc.ok (IsCells w) w vs xs hg (fun _ h => h) ha b hm
  refine h.mono fun e' w' ⟨us, ms, A', h1, h2, _, _, _, h3, _⟩ => ⟨?_, h2⟩
  obtain ⟨v, rfl, us', h4, h5⟩ := h3
  simp only [Bool.false_eq_true, if_false] at h5
  subst h5
  have h4 : ResCells E.G A' w.heap.size w' (E.G.enc t b) es [v] ms := h4
  rw [hb] at h4
  obtain ⟨us2, h6, _⟩ := h4
  cases h6
  exact h1

/-- One package-level variable of numbers, in the block 0. -/
theorem gw_nums {l : List Int} (hglo : E.glo = [(0, 0)]) (h : ∀ (j : Nat) (n : Int), l[j]? = some n → w.cell? ⟨0, j, none⟩ = some (.int .i64 n)) (hl : l ≠ []) :
    GW E [(0, .ro (l.map fun n => .v (.int .i64 n)))] (IsCells w) w := by
  refine ⟨fun _ => { b := 0, p := none, n := 0, c := 0 }, by rw [hglo]; intro p hp; rw [List.mem_singleton.1 hp], fun q hq => ?_⟩
  rw [List.mem_singleton.1 hq]
  refine ⟨?_, fun j cv hj => ?_⟩
  · cases l with
    | nil => exact absurd rfl hl
    | cons n r =>
      have h0 := h 0 n rfl
      show IsCells w 0
      unfold World.cell? at h0
      dsimp only at h0
      split at h0
      · rename_i cs _ _ he; exact ⟨_, he, rfl⟩
      · cases h0
  · rw [List.getElem?_map] at hj
    cases e : l[j]? with
    | none => rw [e] at hj; cases hj
    | some n =>
      rw [e] at hj
      simp only [Option.map_some, Option.some.injEq] at hj
      subst hj
      exact ⟨_, h j n e, .v _⟩

/-- A law whose mirror answers true returns true, and leaves what was there. -/
theorem law_calls {k : Nat} {ps : List PK} {t : Nat} {es : List Nat} {f : AT E.G.car ps → Option (E.G.car t)} (hc : CSok E [] ⟨k, ps, [.v t false es], f⟩) (hglo : E.glo = []) (b : E.G.car t) (hb : E.G.enc t b = [.v (.bool true)])
    {vs : List Value} {xs : AT E.G.car ps} (ha : ArgsAre E (IsCells w) w ps xs vs) (hm : f xs = some b) :
    Calls E.P k vs.toArray w fun e w' => e = .returned (.bool true) ∧ Below w.heap.size w w' := by
  have h := hc.ok (IsCells w) w vs xs ⟨fun _ => { b := 0, p := none, n := 0, c := 0 }, by rw [hglo]; exact And.intro (fun p hp => nomatch hp) (fun q hq => nomatch hq)⟩ (fun _ h => h) ha b hm
  refine h.mono fun e' w' ⟨us, ms, A', h1, h2, _, _, _, h3, _⟩ => ⟨?_, h2⟩
  obtain ⟨v, rfl, us', h4, h5⟩ := h3
  simp only [Bool.false_eq_true, if_false] at h5
  subst h5
  have h4 : ResCells E.G A' w.heap.size w' (E.G.enc t b) es [v] ms := h4
  rw [hb] at h4
  obtain ⟨us2, h6, _⟩ := h4
  cases h6
  exact h1
end
end Go.KX

namespace Go.Proofs.YtcabeiajfbdfhaaGreatDoor
open Go Go.KX Go.ChangeShapes Go.WideShapes Go.ChangeAt Go.RowKit

def strengths : List Int := [4000, 8000, 14000, 24000, 40000, 90000]

theorem own : ownKnob Tryz.prog.godebug = none := by kernel_rfl
theorem gStr : Tryz.prog.globalNamed "polynya/hull.strengths" = some 0 := by kernel_rfl
theorem tStr : ∃ t e, (Tryz.prog.globals[0]?).map (·.type) = some t ∧ Tryz.prog.underlying t = some (.array 6 e) ∧ Tryz.prog.underlying e = some (.int .i64) ∧ Tryz.prog.cellsOf e = 1 ∧ Tryz.prog.cellsOf t = 6 :=
  ⟨267, 3, by kernel_rfl, by kernel_rfl, by kernel_rfl, by kernel_rfl, by kernel_rfl⟩

abbrev laid1 : List (String × DataW Unit) := [("polynya/hull.strengths", Rows.laid_polynya_hull_strengths)]

theorem door_met (os : Os) (args : Array Value) : laidMetH Tryz.prog laid1 ((World.doorLaid Tryz.prog 400 os).forCall (fun _ _ => 0) ⟨#[], args, []⟩).memory :=
  laidMetH_of_parts3 (fuel := 8) (laidMet_of_run' 8 (by kernel_rfl) (by kernel_rfl)) (by kernel_rfl) (by kernel_rfl)

/-- What the condition gives the walks: the table of strengths. -/
theorem of_laid {W : World} (h : laidMetH Tryz.prog laid1 W) : GW Cv.E Cv.gl (IsCells W) W := by
  rw [MakeChecks.laidMetH_plain _ _ _ (by kernel_rfl)] at h
  obtain ⟨ps, ⟨g0, t0, cs0, f0, p0, q0, hg0, ht0, hv0, hd0, _, _⟩, _, _⟩ := h
  obtain rfl := Option.some.inj (gStr.symm.trans hg0)
  obtain ⟨t, e, h1, h2, h3, h4, h5⟩ := tStr
  obtain rfl := Option.some.inj (h1.symm.trans ht0)
  obtain ⟨xs, m1, rfl, hx, hlen, hn, hel⟩ := DataW.trod_array h2 hd0
  rw [h5] at hlen
  have cell : ∀ i, W.cell? ⟨0, i, none⟩ = cs0[i]? := World.var?_cell hg0 hv0
  have one : ∀ i, i < 6 → ∃ n, cs0.toList[i]? = some (.int .i64 n) ∧ xs[i]? = some (.lit (.int .i64 n), []) := by
    intro i hi
    have h6 := hel i hi
    rw [h4] at h6
    have hxi : xs[i]? = some xs[i] := List.getElem?_eq_getElem (by omega)
    rw [hxi] at h6
    obtain ⟨n, e1, e2, _⟩ := DataW.trod_int h3 h6
    refine ⟨n, ?_, by rw [hxi, e2]⟩
    have : (cs0.toList.drop (i * 1)).take 1 = [Value.int .i64 n] := e1
    rw [Nat.mul_one] at this
    have h7 : ((cs0.toList.drop i).take 1)[0]? = some (.int .i64 n) := by rw [this]; rfl
    simpa [List.getElem?_take, List.getElem?_drop] using h7
  have val : ∀ i n, xs[i]? = some (.lit (.int .i64 n), []) → i < 6 → strengths[i]? = some n := by
    intro i n hi hlt
    simp only [Prod.mk.injEq, Rows.laid_polynya_hull_strengths] at hx
    have hm : (xs.map (·.1))[i]? = some (.lit (.int .i64 n)) := by simp [hi]
    have he : (xs.map (·.1)) = [.lit (.int .i64 4000), .lit (.int .i64 8000), .lit (.int .i64 14000), .lit (.int .i64 24000), .lit (.int .i64 40000), .lit (.int .i64 90000)] := by
      have := hx.1
      simp only [DataW.agg.injEq] at this
      exact this.symm
    rw [he] at hm
    unfold strengths
    match i, hlt with
    | 0, _ => simp_all
    | 1, _ => simp_all
    | 2, _ => simp_all
    | 3, _ => simp_all
    | 4, _ => simp_all
    | 5, _ => simp_all
  refine gw_nums (l := strengths) rfl (fun j n hj => ?_) (by simp [strengths])
  have hlt : j < 6 := by
    have := (List.getElem?_eq_some_iff.1 hj).1
    simpa [strengths] using this
  obtain ⟨m, e1, e2⟩ := one j hlt
  have h8 := val j m e2 hlt
  rw [h8] at hj
  cases hj
  rw [cell j]
  simpa using e1
end Go.Proofs.YtcabeiajfbdfhaaGreatDoor
