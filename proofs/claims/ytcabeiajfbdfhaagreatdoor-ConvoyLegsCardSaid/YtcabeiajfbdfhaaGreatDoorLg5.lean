/- Texts CvQ, CvR, CvAw, CvLegs, KFR, CvFrame: own work; each part says what it is. -/
import Derived.Test.YtcabeiajfbdfhaaGreatDoorLg4
import Derived.Handed
import Derived.OpenShut
import Derived.ChangeSlices
import Derived.JoinedOf
import Derived.Test.YtcabeiajfbdfhaaGreatDoorRows
import Derived.Test.YtcabeiajfbdfhaaGreatDoorTie
import Derived.Test.YtcabeiajfbdfhaaGreatDoorCards
import Derived.ProofKit
import Derived.LaidMore
import Derived.Stop.Joined
import Derived.SevenTiedAt
namespace Go.Proofs.Cv
open Go Go.KX

instance (s : Span) (n : Int) : Decidable (goodSpan s n) := by unfold goodSpan; infer_instance
instance (c : Cell) : Decidable (goodCell c) := by unfold goodCell; infer_instance

theorem rspan_eq {F : Nat} (s : Span) (n : Int) : ref03_span F s n = some (decide (goodSpan s n)) := by
  unfold ref03_span
  refine congrArg some (Bool.eq_iff_iff.2 ⟨fun h => decide_eq_true ?_, fun h => ?_⟩)
  · simp only [Bool.and_eq_true, decide_eq_true_eq] at h
    unfold goodSpan; omega
  · have h := of_decide_eq_true h
    unfold goodSpan at h
    simp only [Bool.and_eq_true, decide_eq_true_eq]; omega

theorem rcell_eq {F : Nat} (c : Cell) : ref03_cell F c = some (decide (goodCell c)) := by
  refine Ok.eq ?_
  unfold ref03_cell
  refine ok_bnde (rspan_eq ..) (ok_band (fun _ => rspan_eq ..) (ok_band (fun _ => rspan_eq ..) (ok_band (fun _ => rspan_eq ..) (ok_some ?_))))
  refine Bool.eq_iff_iff.2 ⟨fun h => decide_eq_true ?_, fun h => ?_⟩
  · simp only [Bool.and_eq_true, decide_eq_true_eq] at h
    obtain ⟨⟨⟨h1, h2⟩, h3⟩, h4⟩ := h
    exact ⟨h1, by simp_all, by simp_all, by simp_all⟩
  · obtain ⟨h1, h2, h3, h4⟩ := of_decide_eq_true h
    simp [h1, h2, h3, h4]

theorem rcorners_eq {F : Nat} (hF : 1000 ≤ F) (c : Cell) : ref03_Corners F c = some (corners c) := by
  obtain ⟨G, rfl⟩ : ∃ G, F = G + 17 := ⟨F - 17, by omega⟩
  kernel_rfl

theorem rsafe_eq {F : Nat} (hF : 1000 ≤ F) {s : Ship2} (hc : check (bwd s) = 0) {c : Cell} (hg : goodCell c) (ch : Bool) : ref03_safe F s c ch = some (safe (bwd s) c ch) := by
  refine Ok.eq ?_
  have hl := goodCell_last hg
  unfold ref03_safe
  refine ok_bnde (rcorners_eq hF c) ?_
  have hlen : (corners c).length = 16 := rfl
  have hcor : ∀ i : Int, 0 ≤ i → i < 16 → goodIce ((corners c).getD i.toNat (Ice.mk 0 0 0 0)) ∧ LeI ((corners c).getD i.toNat (Ice.mk 0 0 0 0)) (lastI c) ∧ (corners c).getD i.toNat (Ice.mk 0 0 0 0) ∈ corners c := fun i h0 h1 => by
    have hm := getD_in (l := corners c) (d := Ice.mk 0 0 0 0) h0 (by rw [hlen]; exact h1)
    exact ⟨(corners_in hg hm).1, (corners_in hg hm).2.2, hm⟩
  have hget : ∀ x ∈ corners c, ∃ i : Int, 0 ≤ i ∧ i < 16 ∧ (corners c).getD i.toNat (Ice.mk 0 0 0 0) = x := fun x hx => by
    obtain ⟨i, hi, rfl⟩ := List.getElem_of_mem hx
    refine ⟨i, by omega, by omega, ?_⟩
    simp [List.getD, hi]
  generalize hcs : corners c = cs at *
  refine ok_loop (fun i : Int => 0 ≤ i ∧ i ≤ 16 ∧ ∀ j : Int, 0 ≤ j → j < i → 10 ≤ speed (bwd s) (cs.getD j.toNat (Ice.mk 0 0 0 0)) ch) (fun i => (16 - i).toNat) ⟨by simp, by simp, fun j a b => by omega⟩ (by show (16 - (0 : Int)).toNat < F; omega) fun i next hI hn => ?_
  obtain ⟨a0, a1, a2⟩ := hI
  refine ok_brk (fun h => ?_) (fun h => ?_)
  · have hi : i < 16 := by have := of_decide_eq_true h; omega
    obtain ⟨b1, b2, b3⟩ := hcor i a0 hi
    refine ok_chk ⟨a0, by omega⟩ (ok_bnde (rspeed_eq hF hc b1 ch) (ok_brk (fun h => ok_some ?_) (fun h => ok_chk (show InR _ from ⟨by omega, by omega⟩) (hn _ ⟨by omega, by omega, fun j c0 c1 => ?_⟩ (by omega)))))
    · have h := of_decide_eq_true h
      unfold safe
      rw [if_pos ((speed_lt hc hg ch).1 ⟨_, by rw [hcs]; exact b3, h⟩)]
    · by_cases e : j = i
      · rw [e]; have h := of_decide_eq_false h; omega
      · exact a2 j c0 (by omega)
  have h1 : 10 ≤ speed (bwd s) (lastI c) ch := by
    have h := of_decide_eq_false h
    obtain rfl : i = 16 := by omega
    obtain ⟨i, c0, c1, e⟩ := hget _ (by rw [← hcs]; exact corners_last c)
    rw [← e]; exact a2 i c0 c1
  clear h a0 a1 a2 hn next i
  have hmk : makes (bwd s) (lastI c) ch 10 = true := makes_of_speed hc hl (by decide) h1
  refine ok_loop (fun i : Int => 0 ≤ i ∧ i ≤ 16 ∧ ∀ j : Int, 0 ≤ j → j < i → bears (bwd s) (cs.getD j.toNat (Ice.mk 0 0 0 0)) ch 10 = true) (fun i => (16 - i).toNat) ⟨by simp, by simp, fun j a b => by omega⟩ (by show (16 - (0 : Int)).toNat < F; omega) fun i next hI hn => ?_
  obtain ⟨a0, a1, a2⟩ := hI
  refine ok_brk (fun h => ?_) (fun h => ?_)
  · have hi : i < 16 := by have := of_decide_eq_true h; omega
    obtain ⟨b1, b2, _⟩ := hcor i a0 hi
    refine ok_chk ⟨a0, by omega⟩ (ok_bnde (rload_eq b1 (by decide) ch) (ok_bnde (rstrength_eq hc) (ok_brk (fun h => ok_some ?_) (fun h => ok_chk (show InR _ from ⟨by omega, by omega⟩) (hn _ ⟨by omega, by omega, fun j c0 c1 => ?_⟩ (by omega))))))
    · have h := of_decide_eq_true h
      have hb : bears (bwd s) (lastI c) ch 10 = false := by
        cases hb : bears (bwd s) (lastI c) ch 10 with
        | false => rfl
        | true =>
          have := bears_mono b1 hl b2 (u := 10) (v := 10) (by decide) (Int.le_refl _) hb
          simp only [bears, decide_eq_true_eq] at this
          dsimp only [bwd] at this
          omega
      unfold safe
      rw [if_neg (by omega), goes_ok, goesP, hb, Bool.and_false, if_pos rfl]
    · by_cases e : j = i
      · rw [e]; have h := of_decide_eq_false h; exact decide_eq_true (show loadI _ 10 ch ≤ strengths.getD (s.Class - 1).toNat 0 by omega)
      · exact a2 j c0 (by omega)
  have h2 : bears (bwd s) (lastI c) ch 10 = true := by
    have h := of_decide_eq_false h
    obtain rfl : i = 16 := by omega
    obtain ⟨i, c0, c1, e⟩ := hget _ (by rw [← hcs]; exact corners_last c)
    rw [← e]; exact a2 i c0 c1
  clear h a0 a1 a2 hn next i
  have hgo : goesP (bwd s) (lastI c) ch 10 = true := by simp [goesP, hmk, h2]
  refine ok_loop (fun q : Int × Int => 0 ≤ q.1 ∧ q.1 ≤ 251 ∧ Last (goesP (bwd s) (lastI c) ch) 0 0 q.2 q.1) (fun q => (251 - q.1).toNat) ⟨by simp, by simp, Last.start⟩ (by show (251 - (0 : Int)).toNat < F; omega) fun q next hI hn => ?_
  obtain ⟨v, out⟩ := q
  obtain ⟨h0, h3, h4⟩ := hI
  dsimp only at h0 h3 h4 ⊢
  refine ok_brk (fun h => ?_) (fun h => ok_some ?_)
  · have h := of_decide_eq_true h
    refine ok_join (by omega) (fun x => Last (goesP (bwd s) (lastI c) ch) 0 0 x (v + 1)) (fun x hx => ok_chk (show InR _ from ⟨by omega, by omega⟩) (hn _ ⟨by dsimp only; omega, by dsimp only; omega, hx⟩ (by dsimp only; omega))) fun k7 hk7 => ?_
    refine ok_loop (fun q : Int × Bool => 0 ≤ q.1 ∧ q.1 ≤ 16 ∧ (q.2 = true ↔ ∀ i : Int, 0 ≤ i → i < q.1 → goesP (bwd s) (cs.getD i.toNat (Ice.mk 0 0 0 0)) ch v = true)) (fun q => (16 - q.1).toNat) ⟨by simp, by simp, by simp; intro i a b; omega⟩ (by show (16 - (0 : Int)).toNat < F; omega) fun q next hI hn => ?_
    obtain ⟨i, g⟩ := q
    obtain ⟨a0, a1, a2⟩ := hI
    dsimp only at a0 a1 a2 ⊢
    refine ok_brk (fun h => ?_) (fun h => ?_)
    · have hi : i < 16 := by have := of_decide_eq_true h; omega
      obtain ⟨b1, _, _⟩ := hcor i a0 hi
      refine ok_chk (fun _ => ⟨a0, by omega⟩) ?_
      have step : ∀ g', (g' = (g && goesP (bwd s) (cs.getD i.toNat (Ice.mk 0 0 0 0)) ch v)) → (g' = true ↔ ∀ j : Int, 0 ≤ j → j < i + 1 → goesP (bwd s) (cs.getD j.toNat (Ice.mk 0 0 0 0)) ch v = true) := by
        intro g' e
        rw [e, Bool.and_eq_true, a2]
        constructor
        · rintro ⟨c1, c2⟩ j d0 d1
          by_cases e : j = i
          · rw [e]; exact c2
          · exact c1 j d0 (by omega)
        · exact fun c1 => ⟨fun j d0 d1 => c1 j d0 (by omega), c1 i a0 (by omega)⟩
      cases g with
      | false =>
        exact ok_bnde rfl (ok_chk (fun h => by cases h) (ok_bnde rfl (ok_bnde rfl (ok_chk (show InR _ from ⟨by omega, by omega⟩) (hn _ ⟨by dsimp only; omega, by dsimp only; omega, step _ rfl⟩ (by dsimp only; omega))))))
      | true =>
        refine ok_bnde (b := makes (bwd s) (cs.getD i.toNat (Ice.mk 0 0 0 0)) ch v) (rmakes_eq (F := F) hF hc b1 (by omega) ch) (ok_chk (fun _ => ⟨a0, by omega⟩) ?_)
        cases hmb : makes (bwd s) (cs.getD i.toNat (Ice.mk 0 0 0 0)) ch v with
        | false =>
          refine ok_bnde rfl (ok_bnde rfl (ok_chk (show InR _ from ⟨by omega, by omega⟩) (hn _ ⟨by dsimp only; omega, by dsimp only; omega, step _ ?_⟩ (by dsimp only; omega))))
          rw [goesP, hmb]; rfl
        | true =>
          refine ok_bnde (b := loadI (cs.getD i.toNat (Ice.mk 0 0 0 0)) v ch) (rload_eq (F := F) b1 (by omega) ch) (ok_bnde (b := strengths.getD (s.Class - 1).toNat 0) (rstrength_eq (F := F) hc) (ok_chk (show InR _ from ⟨by omega, by omega⟩) (hn _ ⟨by dsimp only; omega, by dsimp only; omega, step _ ?_⟩ (by dsimp only; omega))))
          rw [goesP, hmb]; rfl
    · have h := of_decide_eq_false h
      obtain rfl : i = 16 := by omega
      have hgv : g = goesP (bwd s) (lastI c) ch v := by
        rw [Bool.eq_iff_iff, a2, ← goesP_all hc hg ch h0, hcs]
        constructor
        · intro e x hx
          obtain ⟨i, c0, c1, rfl⟩ := hget x hx
          exact e i c0 c1
        · exact fun e i c0 c1 => e _ (hcor i c0 c1).2.2
      subst hgv
      exact ok_brk (fun h => hk7 _ (Last.yes h0 h)) (fun h => hk7 _ (h4.no h))
  · have h := of_decide_eq_false h
    obtain rfl : v = 250 + 1 := by omega
    unfold safe
    rw [if_neg (by omega), goes_ok, hgo, if_neg (by simp), goes_eq, if_pos hgo]
    rcases h4.it with ⟨h3, h4⟩ | ⟨h3, h4, h5, h6⟩
    · rw [h4 10 (by omega) (by omega)] at hgo; cases hgo
    · have : 10 ≤ out := by
        rcases Int.lt_or_le out 10 with h7 | h7
        · rw [h6 10 h7 (by omega)] at hgo; cases hgo
        · exact h7
      rw [(great_eq (goes_down hc hl ch) this (by omega) h5 (fun u a b => h6 u a (by omega))).2]

theorem rSafe_eq {F : Nat} (hF : 1000 ≤ F) {m : Member} (h : GoodM m) {c : Cell} (hg : goodCell c) (ch : Bool) : ref03_Safe F (fwdM m).Ship c ch = some (safe m.Ship c ch) := by
  refine Ok.eq ?_
  unfold ref03_Safe
  have hs := h.short'
  refine ok_bnde (b := 0) (Ok.eq ?_) (ok_brkF rfl (ok_bnde (rsafe_eq (s := fwdS m.Ship) hF h.ship hg ch) (ok_some rfl)))
  unfold ref03_met
  refine ok_bnde (rcheck_eq (s := m.Ship) hF hs.t hs.w hs.i) ?_
  rw [h.ship]
  refine ok_brkF rfl (ok_bnde (rcell_eq c) ?_)
  rw [decide_eq_true hg]
  exact ok_brkF rfl (ok_some rfl)

end Go.Proofs.Cv

namespace Go.Proofs.Cv
open Go Go.KX

theorem rright_eq {F : Nat} (hF : 1000 ≤ F) (c : Cell) : ref05_right F c = some (decide (goodCell c)) := by
  refine Ok.eq ?_
  unfold ref05_right
  have hl : (([c.Conc, c.Thick, c.Ridge, c.Press] : List Span).length : Int) = 4 := rfl
  have hl2 : (([100, 400, 100, 3] : List Int).length : Int) = 4 := rfl
  have key : ∀ (s : Span) (n : Int) (p : Bool), (decide (s.Lo < 0) || decide (s.Hi > n) || decide (s.Lo > s.Hi)) = p → (p = true ↔ ¬ goodSpan s n) := by
    intro s n p hp
    rw [← hp]
    simp only [Bool.or_eq_true, decide_eq_true_eq, goodSpan]
    omega
  refine ok_loop (fun q : Int => 0 ≤ q ∧ q ≤ 4 ∧ ∀ j : Nat, (j : Int) < q → goodSpan (([c.Conc, c.Thick, c.Ridge, c.Press] : List Span).getD j (Span.mk 0 0)) (([100, 400, 100, 3] : List Int).getD j 0)) (fun q => (4 - q).toNat) ⟨by omega, by omega, fun j h => by omega⟩ (by show (4 - (0 : Int)).toNat < F; omega) fun q next ⟨q1, q2, q3⟩ hn => ?_
  refine ok_brk (fun h => ?_) (fun h => ok_some ?_)
  · have h := of_decide_eq_true h
    refine ok_chk ⟨q1, by omega⟩ (ok_chk (fun _ => ⟨q1, by omega⟩) (ok_chk (fun _ => ⟨q1, by omega⟩) (ok_chk (fun _ => ⟨q1, by omega⟩) (ok_chk (fun _ => ⟨q1, by omega⟩) (ok_brk (fun g => ok_some ?_) (fun g => ok_chk (show InR _ from ⟨by omega, by omega⟩) (hn _ ⟨by omega, by omega, fun j hj => ?_⟩ (by omega))))))))
    · have hno := (key _ _ _ g).1 rfl
      refine (decide_eq_false fun hg => hno ?_).symm
      obtain ⟨g1, g2, g3, g4⟩ := hg
      have : q = 0 ∨ q = 1 ∨ q = 2 ∨ q = 3 := by omega
      rcases this with rfl | rfl | rfl | rfl
      · exact g1
      · exact g2
      · exact g3
      · exact g4
    · by_cases e : (j : Int) = q
      · rw [show j = q.toNat by omega]
        exact Classical.byContradiction fun hno => Bool.false_ne_true ((key _ _ _ g).2 hno)
      · exact q3 j (by omega)
  · have h := of_decide_eq_false h
    exact (decide_eq_true ⟨q3 0 (by omega), q3 1 (by omega), q3 2 (by omega), q3 3 (by omega)⟩).symm

theorem rmost_eq {F : Nat} (hF : 1000 ≤ F) {c : Convoy} (hc : GoodC c) {cell : Cell} (hg : goodCell cell) : ref05_Most F (fwdC c) cell = some (mostC c cell) := by
  refine Ok.eq ?_
  unfold ref05_Most
  have hlen := hc.len
  have hall : GoodL (c.Breaker :: c.Ships) := hc.all
  refine ok_bnde (rall_eq (by omega)) ?_
  simp only [List.length_map, getD_fwd']
  have hal : (c.Breaker :: c.Ships).length ≤ 7 := by simp; omega
  refine ok_rest (l := c.Breaker :: c.Ships) (d := memD) (fun x : Int × Int => x.2) (fun x r => mostC c cell = mostFrom cell (decide (x.2 > 0)) r x.1) (by omega) rfl rfl (fun x next h0 h1 hq hm hn => ?_) (fun x next h1 hq => ?_)
  · obtain ⟨out, i⟩ := x
    dsimp only at h0 h1 hq hm hn ⊢
    have hm' := hall _ hm
    refine ok_brkT (decide_eq_true h1) (ok_chk ⟨h0, h1⟩ (ok_bnde (rSafe_eq hF hm' hg _) (ok_brk (fun h => ok_some ?_) (fun h => ok_chk (show InR _ from ⟨by omega, by omega⟩) (hn _ rfl ?_)))))
    · have h : (safe ((c.Breaker :: c.Ships).getD i.toNat memD).Ship cell (decide (i > 0))).2 ≠ 0 := by simpa using h
      rw [hq, mostFrom, if_pos h]
    · have h : (safe ((c.Breaker :: c.Ships).getD i.toNat memD).Ship cell (decide (i > 0))).2 = 0 := by simpa using h
      dsimp only
      rw [hq, mostFrom, if_neg (fun e => e h), decide_eq_true (show i + 1 > 0 by omega)]
      congr 1
      split <;> omega
  · obtain ⟨out, i⟩ := x
    dsimp only at h1 hq ⊢
    exact ok_brkF (decide_eq_false (by omega)) (ok_some hq.symm)

theorem rholds_eq {F : Nat} (hF : 1000 ≤ F) {c : Convoy} (hc : GoodC c) {cell : Cell} (hg : goodCell cell) (v : Int) : ref05_holds F (fwdC c) cell (mostC c cell) v = some (decide (HoldsC c cell v)) := by
  refine Ok.eq ?_
  unfold ref05_holds
  have hb := most_bd hg (ch := false) (l := c.Breaker :: c.Ships) (out := 250) hc.all (by decide)
  change 0 ≤ mostC c cell ∧ mostC c cell ≤ 250 at hb
  by_cases h : 10 ≤ v ∧ v ≤ mostC c cell
  · have e : (decide (v ≥ 10) && decide (v ≤ mostC c cell)) = true := by rw [decide_eq_true h.1, decide_eq_true h.2]; rfl
    rw [e]
    refine ok_bnde (x := brk true _ _) (rtail_eq hF hc ⟨by omega, by omega⟩) (ok_bnde (x := brk true _ _) (ropen_eq (F := F) hc ⟨by omega, by omega⟩ (press_bd hg)) (ok_some ?_))
    rw [Bool.true_and]
    refine decide_eq_decide.2 ⟨fun hle => ⟨h.1, h.2, hle⟩, fun hh => hh.2.2⟩
  · have e : (decide (v ≥ 10) && decide (v ≤ mostC c cell)) = false := by
      rw [Bool.and_eq_false_iff, decide_eq_false_iff_not, decide_eq_false_iff_not]; omega
    rw [e]
    refine ok_bnde (b := 0) rfl (ok_bnde (b := 0) rfl (ok_some ?_))
    rw [Bool.false_and]
    exact (decide_eq_false fun hh => h ⟨hh.1, hh.2.1⟩).symm

theorem rfastest_eq {F : Nat} (hF : 1000 ≤ F) {c : Convoy} (hc : GoodC c) {cell : Cell} (hg : goodCell cell) : ref05_fastest F (fwdC c) cell (mostC c cell) = some (fastV c cell) := by
  refine Ok.eq ?_
  unfold ref05_fastest
  have hb := most_bd hg (ch := false) (l := c.Breaker :: c.Ships) (out := 250) hc.all (by decide)
  change 0 ≤ mostC c cell ∧ mostC c cell ≤ 250 at hb
  refine ok_loop (fun q : Int × Int => 10 ≤ q.1 ∧ q.1 ≤ 251 ∧ Last (fun v => decide (HoldsC c cell v)) 10 0 q.2 q.1) (fun q => (251 - q.1).toNat) ⟨by simp, by simp, Last.start⟩ (by show (251 - (10 : Int)).toNat < F; omega) fun q next hI hn => ?_
  obtain ⟨v, out⟩ := q
  obtain ⟨h0, h1, h2⟩ := hI
  dsimp only at h0 h1 h2 ⊢
  refine ok_brk (fun h => ?_) (fun h => ok_some ?_)
  · have h := of_decide_eq_true h
    refine ok_join (by omega) (fun x => Last (fun v => decide (HoldsC c cell v)) 10 0 x (v + 1)) (fun x hx => ok_chk (show InR _ from ⟨by omega, by omega⟩) (hn _ ⟨by dsimp only; omega, by dsimp only; omega, hx⟩ (by dsimp only; omega))) fun k hk => ?_
    exact ok_bnde (rholds_eq hF hc hg v) (ok_brk (fun g => hk _ (Last.yes h0 g)) (fun g => hk _ (h2.no g)))
  · have h := of_decide_eq_false h
    refine FastC.one ?_ (fastV_fast c cell)
    rcases h2.it with ⟨a, b⟩ | ⟨a, b, d, e⟩
    · refine .inl ⟨a, fun u hu => ?_⟩
      have := hu.2.1
      exact of_decide_eq_false (b u hu.1 (by omega)) hu
    · refine .inr ⟨of_decide_eq_true d, fun u h3 hu => ?_⟩
      have := hu.2.1
      exact of_decide_eq_false (e u h3 (by omega)) hu

end Go.Proofs.Cv

namespace Go.Proofs.Cv
open Go Go.KX
theorem awake_eq : law05_awake 1000000000000000 = some true := by kernel_rfl
end Go.Proofs.Cv

namespace Go.Proofs.Cv
open Go Go.KX


def legF (c : Convoy) : List Part → Int → List Int → Int → List Int × (Int × Int)
  | [], _, out, n => (out, n, 0)
  | p :: r, i, out, n => if fastV c p.Cell = 0 then ([], i, 4) else legF c r (i + 1) (out ++ [fastV c p.Cell]) (n + (60 * p.Length + fastV c p.Cell - 1) / fastV c p.Cell)

def legV (c : Convoy) (l : List Part) : List Int × (Int × Int) :=
  if conErr c ≠ 0 then ([], 0, conErr c) else if within (l.length : Int) 1 100 = false then ([], 0, 2) else if partsErr l ≠ 0 then ([], 0, partsErr l) else legF c l 0 [] 0

theorem legF_len {c : Convoy} : ∀ {l : List Part} {i : Int} {out : List Int} {n : Int}, (legF c l i out n).1.length ≤ out.length + l.length
  | [], _, out, _ => by simp [legF]
  | p :: r, i, out, n => by
    unfold legF
    split
    · simp
    · have := legF_len (c := c) (l := r) (i := i + 1) (out := out ++ [fastV c p.Cell]) (n := n + (60 * p.Length + fastV c p.Cell - 1) / fastV c p.Cell)
      simp only [List.length_append, List.length_cons, List.length_nil] at this ⊢
      omega

theorem legV_len {c : Convoy} {l : List Part} (h : l.length ≤ 120) : (legV c l).1.length ≤ 120 := by
  unfold legV
  split
  · simp
  · split
    · simp
    · split
      · simp
      · have := legF_len (c := c) (l := l) (i := 0) (out := []) (n := 0)
        simp at this; omega

theorem partsGood : ∀ {l : List Part}, partsErr l = 0 → ∀ p ∈ l, goodPart p
  | [], _, p, hp => by cases hp
  | q :: r, h, p, hp => by
    unfold partsErr at h
    by_cases h1 : partErr q ≠ 0
    · rw [if_pos h1] at h; exact absurd h h1
    · rw [if_neg h1] at h
      rcases List.mem_cons.1 hp with rfl | hp
      · exact partErr_ok.1 (Classical.byContradiction h1)
      · exact partsGood h p hp

theorem fast_bd {c : Convoy} {cell : Cell} (h : fastV c cell ≠ 0) : 10 ≤ fastV c cell ∧ fastV c cell ≤ 250 := by
  rcases (fastV_fast c cell).pos with e | e
  · exact absurd e h
  · exact holds_bd e

theorem takesV_bd {p : Part} (hp : 1 ≤ p.Length ∧ p.Length ≤ 10000) {v : Int} (hv : 10 ≤ v ∧ v ≤ 250) : 0 ≤ (60 * p.Length + v - 1) / v ∧ (60 * p.Length + v - 1) / v ≤ 60025 := takes_bd hp hv

theorem Leg_eq {F : Nat} (hF : 1000 ≤ F) {c : Convoy} (hs : ShortC c) {l : List Part} (hl : l.length ≤ 120) : convoy_Leg F c l = some (legV c l) := by
  refine Ok.eq ?_
  unfold convoy_Leg legV
  refine ok_bnde (ccheck_eq hF hs) (ok_brk (fun h => ok_some ?_) (fun h => ?_))
  · have h : conErr c ≠ 0 := by simpa using h
    rw [if_pos h]
  have h : conErr c = 0 := by simpa using h
  have hc := conErr_ok.1 h
  rw [if_neg (fun e => e h)]
  refine ok_bnde (cwithin_eq ..) (ok_brk (fun g => ok_some ?_) (fun g => ?_))
  · have g : within (l.length : Int) 1 100 = false := by simpa using g
    rw [if_pos g]
  have g : within (l.length : Int) 1 100 = true := by simpa using g
  rw [if_neg (by rw [g]; simp)]
  refine ok_rest (l := l) (d := Part.mk (Cell.mk (Span.mk 0 0) (Span.mk 0 0) (Span.mk 0 0) (Span.mk 0 0)) false 0) (fun x : Int => x) (fun _ r => partsErr l = partsErr r) (by omega) rfl rfl (fun x next h0 h1 hq hm hn => ?_) (fun x next h1 hq => ?_)
  · refine ok_brkT (decide_eq_true h1) (ok_chk ⟨h0, h1⟩ (ok_bnde (cwithin_eq ..) ?_))
    have e : ∀ n : Int, partErr (l.getD x.toNat (Part.mk (Cell.mk (Span.mk 0 0) (Span.mk 0 0) (Span.mk 0 0) (Span.mk 0 0)) false 0)) = n → n ≠ 0 → partsErr l = n := fun n e1 e2 => by rw [hq, partsErr, if_pos (by rw [e1]; exact e2), e1]
    refine ok_brk (fun h2 => ok_some ?_) (fun h2 => ok_bnde (cell_eq hF _) (ok_brk (fun h3 => ok_some ?_) (fun h3 => ok_chk (show InR _ from ⟨by omega, by omega⟩) (hn _ rfl ?_))))
    · have h2 : within (l.getD x.toNat (Part.mk (Cell.mk (Span.mk 0 0) (Span.mk 0 0) (Span.mk 0 0) (Span.mk 0 0)) false 0)).Length 1 10000 = false := by simpa using h2
      rw [e 6 (by unfold partErr; rw [if_pos h2]) (by decide)]; rfl
    · have h2 : within (l.getD x.toNat (Part.mk (Cell.mk (Span.mk 0 0) (Span.mk 0 0) (Span.mk 0 0) (Span.mk 0 0)) false 0)).Length 1 10000 = true := by simpa using h2
      have h3 : checkCell (l.getD x.toNat (Part.mk (Cell.mk (Span.mk 0 0) (Span.mk 0 0) (Span.mk 0 0) (Span.mk 0 0)) false 0)).Cell ≠ 0 := by simpa using h3
      rw [e _ (by unfold partErr; rw [if_neg (by rw [h2]; simp)]) h3, if_pos h3]
    · have h2 : within (l.getD x.toNat (Part.mk (Cell.mk (Span.mk 0 0) (Span.mk 0 0) (Span.mk 0 0) (Span.mk 0 0)) false 0)).Length 1 10000 = true := by simpa using h2
      have h3 : checkCell (l.getD x.toNat (Part.mk (Cell.mk (Span.mk 0 0) (Span.mk 0 0) (Span.mk 0 0) (Span.mk 0 0)) false 0)).Cell = 0 := by simpa using h3
      rw [hq, partsErr, if_neg]
      unfold partErr
      rw [if_neg (by rw [h2]; simp), h3]; simp
  · have hpe : partsErr l = 0 := hq
    rw [hpe, if_neg (by simp)]
    have hgp := partsGood hpe
    have hw := within_t g
    refine ok_brkF (decide_eq_false (by omega)) ?_
    refine ok_rest (l := l) (d := Part.mk (Cell.mk (Span.mk 0 0) (Span.mk 0 0) (Span.mk 0 0) (Span.mk 0 0)) false 0) (fun x : Int × (Int × List Int) => x.2.1) (fun x r => legF c l 0 [] 0 = legF c r x.2.1 x.2.2 x.1 ∧ (0 ≤ x.1 ∧ x.1 ≤ 60025 * x.2.1) ∧ (x.2.2.length : Int) = x.2.1) (by omega) rfl ⟨rfl, ⟨Int.le_refl _, by simp⟩, rfl⟩ (fun x next h0 h1 hq hm hn => ?_) (fun x next h1 hq => ?_)
    · obtain ⟨n, i, out⟩ := x
      obtain ⟨q1, q2, q3⟩ := hq
      dsimp only at h0 h1 q1 q2 q3 hm hn ⊢
      have hp := hgp _ hm
      refine ok_brkT (decide_eq_true h1) (ok_chk ⟨h0, h1⟩ (ok_bnde (most_eq' hF hc hp.2) (ok_bnde (fastest_eq hF hc hp.2) ?_)))
      rw [legF] at q1
      refine ok_brk (fun h2 => ok_some ?_) (fun h2 => ?_)
      · have h2 : fastV c (l.getD i.toNat (Part.mk (Cell.mk (Span.mk 0 0) (Span.mk 0 0) (Span.mk 0 0) (Span.mk 0 0)) false 0)).Cell = 0 := by simpa using h2
        rw [q1, if_pos h2]
      · have h2 : fastV c (l.getD i.toNat (Part.mk (Cell.mk (Span.mk 0 0) (Span.mk 0 0) (Span.mk 0 0) (Span.mk 0 0)) false 0)).Cell ≠ 0 := by simpa using h2
        rw [if_neg h2] at q1
        have hv := fast_bd h2
        have ht := takesV_bd hp.1 hv
        have hp1 := hp.1
        refine ok_chk (by rw [List.length_singleton]; omega) (ok_chk (show InR _ from ⟨by omega, by omega⟩) (ok_chk (show InR _ from ⟨by omega, by omega⟩) (ok_chk (show InR _ from ⟨by omega, by omega⟩) (ok_chk ⟨⟨by omega, by omega⟩, by omega⟩ (ok_chk (show InR _ from ⟨by omega, by omega⟩) (ok_chk (show InR _ from ⟨by omega, by omega⟩) (hn _ rfl ⟨q1, by dsimp only; omega, by dsimp only; rw [snoc_len]; omega⟩)))))))
    · obtain ⟨n, i, out⟩ := x
      obtain ⟨q1, q2, q3⟩ := hq
      dsimp only at h1 q1 ⊢
      exact ok_brkF (decide_eq_false (by omega)) (ok_some q1.symm)

def fwdP (p : Part) : Part2 := ⟨p.Cell, p.Channel, p.Length⟩

theorem getD_fwdP {l : List Part} {i : Nat} : (l.map fwdP).getD i (Part2.mk (Cell.mk (Span.mk 0 0) (Span.mk 0 0) (Span.mk 0 0) (Span.mk 0 0)) false 0) = fwdP (l.getD i (Part.mk (Cell.mk (Span.mk 0 0) (Span.mk 0 0) (Span.mk 0 0) (Span.mk 0 0)) false 0)) := by
  induction l generalizing i with
  | nil => rfl
  | cons x r ih =>
    cases i with
    | zero => rfl
    | succ i =>
      show (r.map fwdP).getD i _ = fwdP (r.getD i (Part.mk (Cell.mk (Span.mk 0 0) (Span.mk 0 0) (Span.mk 0 0) (Span.mk 0 0)) false 0))
      exact ih
theorem fwdP_len {p : Part} : (fwdP p).Length = p.Length := rfl
theorem fwdP_cell {p : Part} : (fwdP p).Cell = p.Cell := rfl

theorem mod_up {a b : Int} (hb : 1 ≤ b) : (a % b > 0 → a / b + 1 = (a + b - 1) / b) ∧ (¬ a % b > 0 → a / b = (a + b - 1) / b) := by
  obtain ⟨c1, c2⟩ := ceil_alt (n := a) hb
  have h1 := Int.mul_ediv_add_emod a b
  rw [Int.mul_comm] at h1
  have h2 := Int.emod_nonneg a (by omega : b ≠ 0)
  exact ⟨fun h => c1 (by omega), fun h => c2 (by omega)⟩

theorem rLeg_eq {F : Nat} (hF : 1000 ≤ F) {c : Convoy} (hs : ShortC c) {l : List Part} (hl : l.length ≤ 120) : ref05_Leg F (fwdC c) (l.map fwdP) = some (legV c l) := by
  refine Ok.eq ?_
  unfold ref05_Leg legV
  simp only [List.length_map, getD_fwdP, fwdP_len, fwdP_cell]
  refine ok_bnde (rccheck_eq hF hs) (ok_brk (fun h => ok_some ?_) (fun h => ?_))
  · have h : conErr c ≠ 0 := by simpa using h
    rw [if_pos h]
  have h : conErr c = 0 := by simpa using h
  have hc := conErr_ok.1 h
  rw [if_neg (fun e => e h)]
  refine ok_bnde (rin_eq ..) (ok_brk (fun g => ok_some ?_) (fun g => ?_))
  · have g : within (l.length : Int) 1 100 = false := by simpa using g
    rw [if_pos g]
  have g : within (l.length : Int) 1 100 = true := by simpa using g
  rw [if_neg (by rw [g]; simp)]
  refine ok_rest (l := l) (d := Part.mk (Cell.mk (Span.mk 0 0) (Span.mk 0 0) (Span.mk 0 0) (Span.mk 0 0)) false 0) (fun x : Int => x) (fun _ r => partsErr l = partsErr r) (by omega) rfl rfl (fun x next h0 h1 hq hm hn => ?_) (fun x next h1 hq => ?_)
  · refine ok_brkT (decide_eq_true h1) (ok_chk ⟨h0, h1⟩ (ok_bnde (rin_eq ..) ?_))
    have e : ∀ n : Int, partErr (l.getD x.toNat (Part.mk (Cell.mk (Span.mk 0 0) (Span.mk 0 0) (Span.mk 0 0) (Span.mk 0 0)) false 0)) = n → n ≠ 0 → partsErr l = n := fun n e1 e2 => by rw [hq, partsErr, if_pos (by rw [e1]; exact e2), e1]
    refine ok_brk (fun h2 => ok_some ?_) (fun h2 => ok_chk ⟨h0, h1⟩ (ok_bnde (rright_eq hF _) (ok_brk (fun h3 => ok_some ?_) (fun h3 => ok_chk (show InR _ from ⟨by omega, by omega⟩) (hn _ rfl ?_)))))
    · have h2 : within (l.getD x.toNat (Part.mk (Cell.mk (Span.mk 0 0) (Span.mk 0 0) (Span.mk 0 0) (Span.mk 0 0)) false 0)).Length 1 10000 = false := by simpa using h2
      rw [e 6 (by unfold partErr; rw [if_pos h2]) (by decide)]; rfl
    · have h2 : within (l.getD x.toNat (Part.mk (Cell.mk (Span.mk 0 0) (Span.mk 0 0) (Span.mk 0 0) (Span.mk 0 0)) false 0)).Length 1 10000 = true := by simpa using h2
      have h3 : ¬ goodCell (l.getD x.toNat (Part.mk (Cell.mk (Span.mk 0 0) (Span.mk 0 0) (Span.mk 0 0) (Span.mk 0 0)) false 0)).Cell := by simpa using h3
      rw [e 20 (by unfold partErr; rw [if_neg (by rw [h2]; simp), checkCell_20 h3]) (by decide)]; rfl
    · have h2 : within (l.getD x.toNat (Part.mk (Cell.mk (Span.mk 0 0) (Span.mk 0 0) (Span.mk 0 0) (Span.mk 0 0)) false 0)).Length 1 10000 = true := by simpa using h2
      have h3 : goodCell (l.getD x.toNat (Part.mk (Cell.mk (Span.mk 0 0) (Span.mk 0 0) (Span.mk 0 0) (Span.mk 0 0)) false 0)).Cell := by simpa using h3
      rw [hq, partsErr, if_neg]
      unfold partErr
      rw [if_neg (by rw [h2]; simp), checkCell_ok.2 h3]; simp
  · have hpe : partsErr l = 0 := hq
    rw [hpe, if_neg (by simp)]
    have hgp := partsGood hpe
    have hw := within_t g
    refine ok_brkF (decide_eq_false (by omega)) ?_
    refine ok_rest (l := l) (d := Part.mk (Cell.mk (Span.mk 0 0) (Span.mk 0 0) (Span.mk 0 0) (Span.mk 0 0)) false 0) (fun x : Int × (List Int × Int) => x.2.2) (fun x r => legF c l 0 [] 0 = legF c r x.2.2 x.2.1 x.1 ∧ (0 ≤ x.1 ∧ x.1 ≤ 60025 * x.2.2) ∧ (x.2.1.length : Int) = x.2.2) (by omega) rfl ⟨rfl, ⟨Int.le_refl _, by simp⟩, rfl⟩ (fun x next h0 h1 hq hm hn => ?_) (fun x next h1 hq => ?_)
    · obtain ⟨n, out, i⟩ := x
      obtain ⟨q1, q2, q3⟩ := hq
      dsimp only at h0 h1 q1 q2 q3 hm hn ⊢
      have hp := hgp _ hm
      rw [legF] at q1
      refine ok_brkT (decide_eq_true h1) (ok_join (by omega) (fun y : Int × List Int => legF c l 0 [] 0 = legF c (l.drop (i.toNat + 1)) (i + 1) y.2 y.1 ∧ (0 ≤ y.1 ∧ y.1 ≤ 60025 * (i + 1)) ∧ (y.2.length : Int) = i + 1) (fun y hy => ok_chk (show InR _ from ⟨by omega, by omega⟩) (hn _ rfl hy)) fun k hk => ?_)
      refine ok_chk ⟨h0, h1⟩ (ok_chk ⟨h0, h1⟩ (ok_bnde (rmost_eq hF hc hp.2) (ok_bnde (rfastest_eq hF hc hp.2) ?_)))
      refine ok_brk (fun h2 => ok_some ?_) (fun h2 => ?_)
      · have h2 : fastV c (l.getD i.toNat (Part.mk (Cell.mk (Span.mk 0 0) (Span.mk 0 0) (Span.mk 0 0) (Span.mk 0 0)) false 0)).Cell = 0 := by simpa using h2
        rw [q1, if_pos h2]
      · have h2 : fastV c (l.getD i.toNat (Part.mk (Cell.mk (Span.mk 0 0) (Span.mk 0 0) (Span.mk 0 0) (Span.mk 0 0)) false 0)).Cell ≠ 0 := by simpa using h2
        rw [if_neg h2] at q1
        have hv := fast_bd h2
        have ht := takesV_bd hp.1 hv
        have hp1 := hp.1
        obtain ⟨u1, u2⟩ := mod_up (a := 60 * (l.getD i.toNat (Part.mk (Cell.mk (Span.mk 0 0) (Span.mk 0 0) (Span.mk 0 0) (Span.mk 0 0)) false 0)).Length) (b := fastV c (l.getD i.toNat (Part.mk (Cell.mk (Span.mk 0 0) (Span.mk 0 0) (Span.mk 0 0) (Span.mk 0 0)) false 0)).Cell) (by omega)
        have hd : 0 ≤ 60 * (l.getD i.toNat (Part.mk (Cell.mk (Span.mk 0 0) (Span.mk 0 0) (Span.mk 0 0) (Span.mk 0 0)) false 0)).Length / fastV c (l.getD i.toNat (Part.mk (Cell.mk (Span.mk 0 0) (Span.mk 0 0) (Span.mk 0 0) (Span.mk 0 0)) false 0)).Cell := Int.ediv_nonneg (by omega) (by omega)
        have hd2 : 60 * (l.getD i.toNat (Part.mk (Cell.mk (Span.mk 0 0) (Span.mk 0 0) (Span.mk 0 0) (Span.mk 0 0)) false 0)).Length / fastV c (l.getD i.toNat (Part.mk (Cell.mk (Span.mk 0 0) (Span.mk 0 0) (Span.mk 0 0) (Span.mk 0 0)) false 0)).Cell ≤ 60 * (l.getD i.toNat (Part.mk (Cell.mk (Span.mk 0 0) (Span.mk 0 0) (Span.mk 0 0) (Span.mk 0 0)) false 0)).Length := Int.ediv_le_self _ (by omega)
        refine ok_chk (by rw [List.length_singleton]; omega) (ok_chk ⟨h0, h1⟩ (ok_chk (show InR _ from ⟨by omega, by omega⟩) (ok_chk ⟨⟨by omega, by omega⟩, by omega⟩ (ok_chk (show InR _ from ⟨by omega, by omega⟩) (ok_chk ⟨h0, h1⟩ (ok_chk (show InR _ from ⟨by omega, by omega⟩) (ok_chk ⟨⟨by omega, by omega⟩, by omega⟩ (ok_brk (fun h3 => ?_) (fun h3 => ?_)))))))))
        · have e := u1 (of_decide_eq_true h3)
          rw [← e] at q1 ht
          refine ok_chk (show InR _ from ⟨by omega, by omega⟩) (hk _ ⟨?_, by dsimp only; omega, by dsimp only; rw [snoc_len]; omega⟩)
          dsimp only
          rw [q1, Int.add_assoc]
        · have e := u2 (of_decide_eq_false h3)
          rw [← e] at q1 ht
          exact hk _ ⟨q1, by dsimp only; omega, by dsimp only; rw [snoc_len]; omega⟩
    · obtain ⟨n, out, i⟩ := x
      obtain ⟨q1, q2, q3⟩ := hq
      dsimp only at h1 q1 ⊢
      exact ok_brkF (decide_eq_false (by omega)) (ok_some q1.symm)

theorem parts_eq {F : Nat} (hF : 1000 ≤ F) {l : List Part} (hl : l.length ≤ 120) : law03_Parts F l = some (l.map fwdP) := by
  refine Ok.eq ?_
  unfold law03_Parts
  refine ok_rest (l := l) (d := Part.mk (Cell.mk (Span.mk 0 0) (Span.mk 0 0) (Span.mk 0 0) (Span.mk 0 0)) false 0) (fun x : Int × List Part2 => x.1) (fun x r => (x.2.length : Int) = x.1 ∧ x.2 ++ r.map fwdP = l.map fwdP) (by omega) rfl ⟨rfl, rfl⟩ (fun x next h0 h1 hq hm hn => ?_) (fun x next h1 hq => ?_)
  · obtain ⟨i, out⟩ := x
    obtain ⟨g1, g2⟩ := hq
    dsimp only at h0 h1 g1 g2 hm hn ⊢
    refine ok_brkT (decide_eq_true h1) (ok_chk ⟨h0, h1⟩ (ok_chk (by rw [List.length_singleton]; omega) (ok_chk (show InR _ from ⟨by omega, by omega⟩) (hn _ rfl ⟨by dsimp only; rw [snoc_len]; omega, ?_⟩))))
    dsimp only
    rw [List.append_assoc]; exact g2
  · obtain ⟨i, out⟩ := x
    dsimp only at h1 hq ⊢
    rw [List.map_nil, List.append_nil] at hq
    exact ok_brkF (decide_eq_false (by omega)) (ok_some hq.2)

theorem equalPart {F : Nat} (hF : 1000 ≤ F) {l : List Part} (h : l.length ≤ 900) : slices_Equal_hull_Part F l l = some true := by
  refine Ok.eq ?_
  unfold slices_Equal_hull_Part
  refine ok_brkF (by simp) ?_
  refine ok_loop (fun q : Int => 0 ≤ q ∧ q ≤ l.length) (fun q => (l.length - q).toNat) ⟨by omega, by omega⟩ (by omega) fun q next ⟨q1, q2⟩ hn => ?_
  refine ok_brk (fun g => ?_) (fun g => ok_some rfl)
  have g := of_decide_eq_true g
  exact ok_chk ⟨q1, g⟩ (ok_chk ⟨q1, g⟩ (ok_brkF (by simp) (ok_chk (show InR _ from ⟨by omega, by omega⟩) (hn _ ⟨by omega, by omega⟩ (by omega)))))

theorem convoyLegs_ok' {F : Nat} (hF : F = 1000000000000000) (c : Convoy) (l : List Part) : law05_ConvoyLegs F c l = some true := by
  have hF' : 1000 ≤ F := by omega
  have aw : law05_awake F = some true := by rw [hF]; exact awake_eq
  refine Ok.eq ?_
  unfold law05_ConvoyLegs
  refine ok_bnd _ (heavy_ok hF' c) fun b hb => ?_
  refine ok_brk (fun _ => ok_bnde aw (ok_some rfl)) (fun h => ?_)
  simp only [Bool.or_eq_false_iff, decide_eq_false_iff_not] at h
  obtain ⟨⟨h1, _⟩, h3⟩ := h
  have hl : l.length ≤ 120 := by omega
  have ht := hb h1
  have hs := ht.short
  have hlen := legV_len (c := c) hl
  have hcl : slices_Clone_hull_Part F l = some l := by
    refine Ok.eq ?_
    unfold slices_Clone_hull_Part
    exact ok_chk (by omega) (ok_some rfl)
  refine ok_bnde (lcopy_eq hF' ht) (ok_bnde hcl (ok_bnde (Leg_eq hF' hs hl) (ok_bnde (lconvoy_eq hF' ht) (ok_bnde (parts_eq hF' hl) (ok_bnde (rLeg_eq hF' hs hl) (ok_bnde (sameInts hF' (by omega)) ?_))))))
  refine ok_brkT rfl (ok_brkT (by simp) (ok_brkT (by simp) (ok_bnde (equalPart hF' (by omega)) (ok_brkT rfl (ok_bnde (lconvoy_eq hF' ht) (ok_bnde (lalike_eq hF' ht) (ok_brkT rfl (ok_bnde aw (ok_some rfl)))))))))

theorem convoyLegs_ok {c : Convoy} {l : List Part} {P0 P1 : Prop} (_ : P0) (_ : P1) : law05_ConvoyLegs 1000000000000000 c l = some true := convoyLegs_ok' rfl c l

end Go.Proofs.Cv

namespace Go.KX
open Go Go.ChangeShapes Go.WideShapes Go.RowKit

/-- Types whose reading asks only for cells: numbers, Booleans, and structs, arrays and slices of such. -/
def goodT (P : Program) : Nat → TypeId → Bool
  | 0, _ => false
  | n + 1, t => match P.underlying t with
    | some (.int _) => true
    | some .bool => true
    | some (.struct fs) => fs.toList.all fun f => goodT P n f.type
    | some (.array _ e) => goodT P n e
    | some (.slice e) => goodT P n e && Nat.ble 1 (P.cellsOf e)
    | _ => false

theorem mapM_carry' {α β : Type} {f g : α → Option β} : ∀ {l : List α} {r : List β}, l.mapM f = some r → (∀ x y, x ∈ l → y ∈ r → f x = some y → g x = some y) → l.mapM g = some r := mapM_carry

section
variable {H : Type} {enc : TypeId × Value → H} {P : Program} {w : World} {base : Nat} {held : Bool}

theorem trod_spare {sp : Nat → Bool} : ∀ (m n : Nat) (t : TypeId) (cs : List Value) (x : DataW H × List MemPlace), goodT P m t = true →
    DataW.trod enc P w base (fun _ => true) held n t cs = some x → (∀ p ∈ x.2, sp p.block = true) → DataW.trod enc P w base sp held n t cs = some x := by
  intro m
  induction m with
  | zero => intro n t cs x h; cases h
  | succ m ih =>
    intro n t cs x hg h hs
    cases n with
    | zero => simp [DataW.trod] at h
    | succ n =>
      rw [DataW.trod_step] at h ⊢
      unfold goodT at hg
      unfold DataW.trodStep at h ⊢
      split at h
      case h_1 => exact h
      case h_2 => exact h
      case h_8 e a len cap hu =>
        rw [hu] at hg
        simp only [Bool.and_eq_true] at hg
        simp only at h ⊢
        split at h
        · rename_i hc
          rw [if_pos hc]
          simp only [if_true, Option.map_eq_some_iff, Option.bind_eq_some_iff] at h ⊢
          obtain ⟨elems, he, rest, hr, rfl⟩ := h
          have hlen : elems.length = len := by simpa using mapM_some_length he
          have hrlen : rest.length = cap - len := by simpa using mapM_some_length hr
          have hk : 1 ≤ P.cellsOf e := Nat.le_of_ble_eq_true hg.2
          have one : ∀ i y, (w.cells? base (a.add (i * P.cellsOf e)) (P.cellsOf e)).bind (DataW.trod enc P w base (fun _ => true) held n e) = some y → (∀ p ∈ y.2, sp p.block = true) →
              (w.cells? base (a.add (i * P.cellsOf e)) (P.cellsOf e)).bind (DataW.trod enc P w base sp held n e) = some y := by
            intro i y hy hp
            rw [Option.bind_eq_some_iff] at hy ⊢
            obtain ⟨cs', h1, h2⟩ := hy
            exact ⟨cs', h1, ih n e cs' y hg.1 h2 hp⟩
          have hpl : ∀ y, y ∈ elems ++ rest → ∀ p ∈ y.2, sp p.block = true := fun y hy p hp => hs p (by
            simp only [List.mem_append]
            exact .inr (List.mem_flatMap.2 ⟨y, hy, hp⟩))
          refine ⟨elems, mapM_carry' he fun i y hi hy hiy => one i y hiy (hpl y (by simp [hy])), rest, ?_, rfl⟩
          by_cases hcap : cap = 0
          · have : rest = [] := List.length_eq_zero_iff.1 (by omega)
            subst this
            split
            · rw [show cap - len = 0 by omega]; rfl
            · rfl
          · have : sp a.block = true := by
              have := hs (.cell a.block (a.off + 0)) (by
                simp only [List.mem_append]
                refine .inl (MemPlace.mem_row.2 ⟨0, ?_, rfl⟩)
                rw [hlen, hrlen, show len + (cap - len) = cap by omega]
                exact Nat.mul_pos (by omega) hk)
              exact this
            rw [if_pos this]
            exact mapM_carry' hr fun j y hj hy hjy => one _ y hjy (hpl y (by simp [hy]))
        · cases h
      case h_7 => exact h
      case h_9 fs cs' hu =>
        rw [hu] at hg
        simp only at hg
        split at h
        · rename_i hl
          rw [if_pos hl]
          simp only [Option.map_eq_some_iff] at h ⊢
          obtain ⟨xs, hx, rfl⟩ := h
          refine ⟨xs, mapM_carry' hx fun f y hf hy hfy => ih n f.type _ y (List.all_eq_true.1 hg f hf) hfy fun p hp => hs p ?_, rfl⟩
          exact List.mem_flatMap.2 ⟨y, hy, hp⟩
        · cases h
      case h_10 =>
        rename_i e hu
        rw [hu] at hg
        simp only at hg
        split at h
        · rename_i hl
          rw [if_pos hl]
          simp only [Option.map_eq_some_iff] at h ⊢
          obtain ⟨xs, hx, rfl⟩ := h
          refine ⟨xs, mapM_carry' hx fun f y hf hy hfy => ih n e _ y hg hfy fun p hp => hs p ?_, rfl⟩
          exact List.mem_flatMap.2 ⟨y, hy, hp⟩
        · cases h
      all_goals simp_all

theorem trod_move {w' : World} {sp : Nat → Bool} {t : TypeId} {v : Value} {d : DataW H} {ps : List MemPlace} (hg : goodT P 8 t = true) (h : DataW.Trod enc P w base (fun _ => true) held t v d ps)
    (hsame : ∀ p ∈ ps, w.sameAt w' p) (hs : ∀ p ∈ ps, sp p.block = true) : DataW.Trod enc P w' base sp held t v d ps := by
  obtain ⟨n, hn⟩ := h
  exact ⟨n, trod_spare 8 n t _ _ hg (DataW.trod_carry n t _ _ hn hsame) hs⟩

theorem trodAll_move {w' : World} {sp : Nat → Bool} : ∀ {ts : List TypeId} {vs : List Value} {ds : List (DataW H)} {ps : List MemPlace}, ts.all (goodT P 8) = true → DataW.TrodAll enc P w base (fun _ => true) held ts vs ds ps →
    (∀ p ∈ ps, w.sameAt w' p) → (∀ p ∈ ps, sp p.block = true) → DataW.TrodAll enc P w' base sp held ts vs ds ps := by
  intro ts
  induction ts with
  | nil =>
    intro vs ds ps _ h _ _
    obtain ⟨rfl, rfl, rfl⟩ := trodAll_nil h
    rfl
  | cons t ts ih =>
    intro vs ds ps hg h hsame hs
    obtain ⟨v, vs', d, ds', p, q, rfl, rfl, rfl, h1, h2⟩ := trodAll_cons h
    simp only [List.all_cons, Bool.and_eq_true] at hg
    exact ⟨p, q, trod_move hg.1 h1 (fun x hx => hsame x (by simp [hx])) (fun x hx => hs x (by simp [hx])), ih hg.2 h2 (fun x hx => hsame x (by simp [hx])) (fun x hx => hs x (by simp [hx])), rfl⟩

/-- A law that returns true and leaves what was there alone. -/
theorem post_law {f : Func} {s : ChangeSpec} {W W' : World} {args : Array Value} {ds gs : List (DataW H)} {before : List MemPlace} {tb : TypeId} (hW : DataW.Whole enc P f.params.toList s.vars false W args.toList ds gs before)
    (hv : s.vars = []) (hfn : s.fn H ds = { results := [.lit (.bool true)], args := ds }) (hrt : f.resultTypes = #[tb]) (htb : P.underlying tb = some .bool) (hgood : f.params.toList.all (goodT P 8) = true) (hb : Below W.heap.size W W') :
    s.post enc P f false true false false W args (.bool true) W' := by
  have hW0 := hW
  obtain ⟨p, q, hA, hV, rfl, _, _⟩ := hW
  rw [hv] at hV
  obtain ⟨rfl, rfl⟩ := trodVars_none hV
  have hlt : ∀ x ∈ p ++ [], x.block < W.heap.size := fun x hx => hW0.lt x hx
  have hsame : ∀ x ∈ p, W.sameAt W' x := fun x hx => hb.same (hlt x (by simpa using hx))
  refine ⟨ds, [], p ++ [], [], p, [], hW0, ?_, ?_, ?_, hb.frame _, fun h => by cases h⟩
  · simp only [List.append_nil, hfn, hrt]
    exact trodAll_mk1 (shut_bool htb _)
  · simp only [List.append_nil, hfn]
    exact trodAll_move hgood hA hsame fun x hx => by simpa using hlt x (by simpa using hx)
  · simp only [List.append_nil, hfn, hv]
    rfl
end

theorem wf_u8 {n : Int} (h : (Lit.int .u8 n).wf = true) : 0 ≤ n ∧ n ≤ 255 := by
  simp [Lit.wf, IntKind.min, IntKind.max, IntKind.signed, IntKind.bits] at h
  omega
theorem wf_u16 {n : Int} (h : (Lit.int .u16 n).wf = true) : 0 ≤ n ∧ n ≤ 65535 := by
  simp [Lit.wf, IntKind.min, IntKind.max, IntKind.signed, IntKind.bits] at h
  omega
theorem wf_u32 {n : Int} (h : (Lit.int .u32 n).wf = true) : 0 ≤ n ∧ n ≤ 4294967295 := by
  simp [Lit.wf, IntKind.min, IntKind.max, IntKind.signed, IntKind.bits] at h
  omega
theorem wf_i64 {n : Int} (h : (Lit.int .i64 n).wf = true) : -9223372036854775808 ≤ n ∧ n ≤ 9223372036854775807 := by
  simp [Lit.wf, IntKind.min, IntKind.max, IntKind.signed, IntKind.bits] at h
  omega

/-- Values of the type t read as something of the registered type c, of which In is so. -/
def HReads (E : Env) (t : TypeId) (c : Nat) (In : E.G.car c → Prop) : Prop :=
  E.P.cellsOf t = E.G.sz c ∧ ∀ (H : Type) (e : TypeId × Value → H) (w : World) (base : Nat) (sp : Nat → Bool) (held : Bool) (fuel : Nat) (cs : List Value) (x : DataW H × List MemPlace),
    DataW.trod e E.P w base sp held fuel t cs = some x → ∃ a : E.G.car c, HdL E.G (IsCells w) w (E.G.enc c a) cs ∧ In a

theorem isCells_of {w : World} {a : Addr} {u : Value} (h : w.cell? a = some u) : IsCells w a.block ∧ a.spot = none := by
  unfold World.cell? at h
  split at h
  · rename_i c e s hb
    refine ⟨⟨_, hb, rfl⟩, ?_⟩
    split at h
    · cases h
    · rename_i hs
      simpa using hs
  · cases h

section
variable {E : Env} {H : Type} {e : TypeId × Value → H} {w : World} {base : Nat} {sp : Nat → Bool} {held : Bool}

theorem hdL_one {x : Value} {cv : CV E.G.car} (h : Hd E.G (IsCells w) w cv x) : HdL E.G (IsCells w) w [cv] [x] := ⟨_, _, rfl, h, rfl⟩

theorem hdL_append : ∀ {a b : List (CV E.G.car)} {u v : List Value}, HdL E.G (IsCells w) w a u → HdL E.G (IsCells w) w b v → HdL E.G (IsCells w) w (a ++ b) (u ++ v)
  | [], _, _, _, h, h' => by cases h; exact h'
  | _ :: _, _, _, _, ⟨x, us, rfl, h1, h2⟩, h' => ⟨x, us ++ _, rfl, h1, hdL_append h2 h'⟩

theorem hreads_int {t : TypeId} {c : Nat} {k : IntKind} {In : E.G.car c → Prop} (f : Int → E.G.car c) (hf : ∀ n, E.G.enc c (f n) = [.v (.int k n)]) (hu : E.P.underlying t = some (.int k)) (hc : E.P.cellsOf t = E.G.sz c)
    (hIn : ∀ n, (Lit.int k n).wf = true → In (f n)) : HReads E t c In :=
  ⟨hc, fun _ _ _ _ _ _ _ _ _ h => by
    obtain ⟨n, h1, _, h2⟩ := DataW.trod_int hu h
    subst h1
    exact ⟨f n, by rw [hf]; exact hdL_one (.v _), hIn n h2⟩⟩

theorem hreads_bool {t : TypeId} {c : Nat} {In : E.G.car c → Prop} (f : Bool → E.G.car c) (hf : ∀ n, E.G.enc c (f n) = [.v (.bool n)]) (hu : E.P.underlying t = some .bool) (hc : E.P.cellsOf t = E.G.sz c) (hIn : ∀ b, In (f b)) : HReads E t c In :=
  ⟨hc, fun _ _ _ _ _ _ _ _ _ h => by
    obtain ⟨n, h1, _⟩ := DataW.trod_bool hu h
    subst h1
    exact ⟨f n, by rw [hf]; exact hdL_one (.v _), hIn n⟩⟩

theorem fields_of {t : TypeId} {fs : Array Field} {fuel : Nat} {cs : List Value} {x : DataW H × List MemPlace} (hu : E.P.underlying t = some (.struct fs)) (h : DataW.trod e E.P w base sp held fuel t cs = some x) :
    cs.length = E.P.cellsOf t ∧ ∀ (j : Nat) (fd : Field), fs[j]? = some fd → ∃ fuel y, DataW.trod e E.P w base sp held fuel fd.type ((cs.drop fd.offset).take (E.P.cellsOf fd.type)) = some y := by
  obtain ⟨xs, n, rfl, rfl, hl, hlen, hf⟩ := DataW.trod_struct hu h
  refine ⟨hl, fun j fd hj => ?_⟩
  have hlt : j < xs.length := by have := (Array.getElem?_eq_some_iff.1 hj).1; omega
  exact ⟨n, xs[j], by rw [hf j fd hj, List.getElem?_eq_getElem hlt]⟩

theorem elems_of {t el : TypeId} {n s : Nat} {fuel : Nat} {cs : List Value} {x : DataW H × List MemPlace} (hu : E.P.underlying t = some (.array n el)) (hs : E.P.cellsOf el = s) (h : DataW.trod e E.P w base sp held fuel t cs = some x) :
    cs.length = E.P.cellsOf t ∧ ∀ (j : Nat), j < n → ∃ fuel y, DataW.trod e E.P w base sp held fuel el ((cs.drop (j * s)).take (E.P.cellsOf el)) = some y := by
  obtain ⟨xs, m, rfl, rfl, hl, hlen, hf⟩ := DataW.trod_array hu h
  subst hs
  refine ⟨hl, fun j hj => ?_⟩
  have hlt : j < xs.length := by omega
  exact ⟨m, xs[j], by rw [hf j hj, List.getElem?_eq_getElem hlt]⟩

theorem HReads.at {t : TypeId} {c off : Nat} {In : E.G.car c → Prop} {cs : List Value} (hR : HReads E t c In)
    (hx : ∃ fuel y, DataW.trod e E.P w base sp held fuel t ((cs.drop off).take (E.P.cellsOf t)) = some y) : ∃ a, HdL E.G (IsCells w) w (E.G.enc c a) ((cs.drop off).take (E.G.sz c)) ∧ In a := by
  obtain ⟨fuel, y, h⟩ := hx
  rw [hR.1] at h
  exact hR.2 _ _ _ _ _ _ _ _ _ h

theorem hcut_cons {a r : List (CV E.G.car)} {cs : List Value} {o n : Nat} (h : HdL E.G (IsCells w) w a ((cs.drop o).take n)) (hr : HdL E.G (IsCells w) w r (cs.drop (o + n))) : HdL E.G (IsCells w) w (a ++ r) (cs.drop o) := by
  have := hdL_append h hr
  rwa [← List.drop_drop, List.take_append_drop] at this

theorem hcut_nil {cs : List Value} {o : Nat} (h : cs.length ≤ o) : HdL E.G (IsCells w) w [] (cs.drop o) := List.drop_eq_nil_of_le h

/-- A slice's elements. -/
theorem hslice_of {t el : TypeId} {c fuel : Nat} {In : E.G.car c → Prop} {cs : List Value} {x : DataW H × List MemPlace} (hu : E.P.underlying t = some (.slice el)) (hR : HReads E el c In) (hn : 0 < E.G.sz c)
    (h : DataW.trod e E.P w base sp held fuel t cs = some x) :
    ∃ (p : Option Addr) (n cap : Nat) (l : List (E.G.car c)), cs = [.slice p n cap] ∧ Hd E.G (IsCells w) w (.sl c l) (.slice p n cap) ∧ (∀ x ∈ l, In x) ∧ l.length ≤ 9223372036854775807 := by
  rcases DataW.trod_slice hu h with ⟨rfl, _⟩ | ⟨a, len, cap, elems, rest, m, _, rfl, _, hb, hl, hm, hel, hi, _, _⟩
  · exact ⟨none, 0, 0, [], rfl, Hd.mk (b := 0) (o := 0) rfl (Nat.le_refl _) (fun h => absurd rfl h) (fun i x hx => by simp at hx), by simp, by simp⟩
  have build : ∀ k, k ≤ len → ∃ l : List (E.G.car c), l.length = k ∧ ∀ i x, l[i]? = some x → In x ∧ ∃ us, w.cells? base (a.add (i * E.G.sz c)) (E.G.sz c) = some us ∧ HdL E.G (IsCells w) w (E.G.enc c x) us := by
    intro k
    induction k with
    | zero => intro _; exact ⟨[], rfl, fun i x hx => by simp at hx⟩
    | succ k ih =>
      intro hk
      obtain ⟨l, h1, h2⟩ := ih (by omega)
      have h3 := hi k (by omega)
      rw [List.getElem?_eq_getElem (by omega), hR.1, Option.bind_eq_some_iff] at h3
      obtain ⟨cs', h4, h5⟩ := h3
      obtain ⟨y, hy1, hy⟩ := hR.2 _ _ _ _ _ _ _ _ _ h5
      refine ⟨l ++ [y], by simp [h1], fun i x hx => ?_⟩
      rcases Nat.lt_or_ge i k with h6 | h6
      · rw [List.getElem?_append_left (by omega)] at hx; exact h2 i x hx
      · rw [List.getElem?_append_right (by omega)] at hx
        have : i - l.length = 0 := by
          have := (List.getElem?_eq_some_iff.1 hx).1
          simpa using this
        rw [this] at hx
        simp only [List.getElem?_cons_zero, Option.some.injEq] at hx
        subst hx
        obtain rfl : i = k := by omega
        exact ⟨hy, _, h4, hy1⟩
  obtain ⟨l, h1, h2⟩ := build len (Nat.le_refl _)
  have hcell : ∀ (i : Nat) x, l[i]? = some x → ∀ (j : Nat) (cv : CV E.G.car), (E.G.enc c x)[j]? = some cv → ∃ u, w.cell? ((a.add (i * E.G.sz c)).add j) = some u ∧ Hd E.G (IsCells w) w cv u := by
    intro i x hx j cv hcv
    obtain ⟨_, us, h3, h4⟩ := h2 i x hx
    obtain ⟨u, h5, h6⟩ := h4.get j cv hcv
    obtain ⟨_, h7, h8⟩ := World.cells?_some h3
    refine ⟨u, ?_, h6⟩
    rw [h8 j (by rw [← h7]; exact (List.getElem?_eq_some_iff.1 h5).1), h5]
  refine ⟨some a, len, cap, l, rfl, ?_, fun x hx => ?_, by unfold maxLen at hm; omega⟩
  · rcases Nat.eq_zero_or_pos len with h0 | h0
    · have : l = [] := List.length_eq_zero_iff.1 (by omega)
      subst this
      exact Hd.mk (b := 0) (o := 0) h1.symm hl (fun h => absurd rfl h) (fun i x hx => by simp at hx)
    · have hpos : 0 < l.length := by omega
      have hz : 0 < (E.G.enc c l[0]).length := by rw [E.G.hsz]; exact hn
      obtain ⟨u, h3, _⟩ := hcell 0 l[0] (List.getElem?_eq_getElem hpos) 0 _ (List.getElem?_eq_getElem hz)
      rw [Nat.zero_mul, show (a.add 0).add 0 = a by simp [Addr.add]] at h3
      obtain ⟨h4, h5⟩ := isCells_of h3
      obtain ⟨b, o, s⟩ := a
      simp only at h4 h5
      subst h5
      refine Hd.mk (b := b) (o := o) h1.symm hl (fun _ => ⟨rfl, h4⟩) (fun i x hx j cv hcv => ?_)
      have := hcell i x hx j cv hcv
      rwa [addr_add, addr_add] at this
  · obtain ⟨i, hi⟩ := List.getElem?_of_mem hx
    exact (h2 i x hi).1

theorem hreads_slice {t el : TypeId} {c d : Nat} {In : E.G.car c → Prop} {In' : E.G.car d → Prop} (f : List (E.G.car c) → E.G.car d) (hf : ∀ l, E.G.enc d (f l) = [.sl c l]) (hu : E.P.underlying t = some (.slice el)) (hR : HReads E el c In)
    (hn : 0 < E.G.sz c) (hc : E.P.cellsOf t = E.G.sz d) (hIn : ∀ l, (∀ x ∈ l, In x) → l.length ≤ 9223372036854775807 → In' (f l)) : HReads E t d In' :=
  ⟨hc, fun _ _ _ _ _ _ _ _ _ h => by
    obtain ⟨p, n, cap, l, rfl, h1, h2, h3⟩ := hslice_of hu hR hn h
    exact ⟨f l, by rw [hf]; exact hdL_one h1, hIn l h2 h3⟩⟩

/-! ### Arguments -/

theorem harg_int {r : Reach} {b0 : Nat} {t : TypeId} {c : Nat} {k : IntKind} {In : E.G.car c → Prop} {v : Value} {d : DataW H} {ps : List MemPlace} (hR : HReads E t c In) (hu : E.P.underlying t = some (.int k))
    (hval : Value.okWide E.P w r b0 t v) (h : DataW.Trod e E.P w base sp held t v d ps) : ∃ a : E.G.car c, ArgIs E (IsCells w) w (.v c false) a v ∧ In a := by
  obtain ⟨n, rfl⟩ := okWide_int hu hval
  obtain ⟨fuel, hf⟩ := h
  obtain ⟨a, h1, h2⟩ := hR.2 _ _ _ _ _ _ _ _ _ hf
  exact ⟨a, ⟨_, h1, rfl⟩, h2⟩

theorem harg_bool {r : Reach} {b0 : Nat} {t : TypeId} {c : Nat} {In : E.G.car c → Prop} {v : Value} {d : DataW H} {ps : List MemPlace} (hR : HReads E t c In) (hu : E.P.underlying t = some .bool)
    (hval : Value.okWide E.P w r b0 t v) (h : DataW.Trod e E.P w base sp held t v d ps) : ∃ a : E.G.car c, ArgIs E (IsCells w) w (.v c false) a v ∧ In a := by
  obtain ⟨n, rfl⟩ := okWide_bool hu hval
  obtain ⟨fuel, hf⟩ := h
  obtain ⟨a, h1, h2⟩ := hR.2 _ _ _ _ _ _ _ _ _ hf
  exact ⟨a, ⟨_, h1, rfl⟩, h2⟩

theorem harg_agg {r : Reach} {b0 : Nat} {t : TypeId} {c : Nat} {fs : Array Field} {In : E.G.car c → Prop} {v : Value} {d : DataW H} {ps : List MemPlace} (hR : HReads E t c In) (hu : E.P.underlying t = some (.struct fs))
    (hval : Value.okWide E.P w r b0 t v) (h : DataW.Trod e E.P w base sp held t v d ps) : ∃ a : E.G.car c, ArgIs E (IsCells w) w (.v c true) a v ∧ In a := by
  obtain ⟨cs, rfl, _⟩ := okWide_struct hu hval
  obtain ⟨fuel, hf⟩ := h
  obtain ⟨a, h1, h2⟩ := hR.2 _ _ _ _ _ _ _ _ _ hf
  exact ⟨a, ⟨_, h1, rfl⟩, h2⟩

theorem harg_sl {r : Reach} {b0 : Nat} {t el : TypeId} {c : Nat} {In : E.G.car c → Prop} {v : Value} {d : DataW H} {ps : List MemPlace} (hu : E.P.underlying t = some (.slice el)) (hR : HReads E el c In) (hn : 0 < E.G.sz c)
    (hval : Value.okWide E.P w r b0 t v) (h : DataW.Trod e E.P w base sp held t v d ps) : ∃ a : List (E.G.car c), ArgIs E (IsCells w) w (.sl c) a v ∧ (∀ x ∈ a, In x) ∧ a.length ≤ 9223372036854775807 := by
  obtain ⟨p, n, cap, rfl⟩ := okWide_slice hu hval
  obtain ⟨fuel, hf⟩ := h
  obtain ⟨p', n', cap', l, h1, h2, h3, h4⟩ := hslice_of hu hR hn hf
  have h1 : [Value.slice p n cap] = [.slice p' n' cap'] := h1
  simp only [List.cons.injEq, and_true, Value.slice.injEq] at h1
  obtain ⟨rfl, rfl, rfl⟩ := h1
  exact ⟨l, h2, h3, h4⟩

/-- A law whose mirror answers true returns true, and leaves what was there; with package-level variables. -/
theorem law_callsG {gl : List (Nat × Val E.G.car)} {k : Nat} {ps : List PK} {t : Nat} {es : List Nat} {f : AT E.G.car ps → Option (E.G.car t)} (hc : CSok E gl ⟨k, ps, [.v t false es], f⟩) (hg : GW E gl (IsCells w) w) (b : E.G.car t) (hb : E.G.enc t b = [.v (.bool true)])
    {vs : List Value} {xs : AT E.G.car ps} (ha : ArgsAre E (IsCells w) w ps xs vs) (hm : f xs = some b) :
    Calls E.P k vs.toArray w fun e w' => e = .returned (.bool true) ∧ Below w.heap.size w w' := by
  have h := hc.ok (IsCells w) w vs xs hg (fun _ h => h) ha b hm
  refine h.mono fun e' w' ⟨us, ms, A', h1, h2, _, _, _, h3, _⟩ => ⟨?_, h2⟩
  obtain ⟨v, rfl, us', h4, h5⟩ := h3
  simp only [Bool.false_eq_true, if_false] at h5
  subst h5
  have h4 : ResCells E.G A' w.heap.size w' (E.G.enc t b) es [v] ms := h4
  rw [hb] at h4
  obtain ⟨us2, h6, _⟩ := h4
  cases h6
  exact h1

/-- One package-level variable of numbers, in the block 0. -/
theorem gw_nums {l : List Int} (hglo : E.glo = [(0, 0)]) (h : ∀ (j : Nat) (n : Int), l[j]? = some n → w.cell? ⟨0, j, none⟩ = some (.int .i64 n)) (hl : l ≠ []) :
    GW E [(0, .ro (l.map fun n => .v (.int .i64 n)))] (IsCells w) w := by
  refine ⟨fun _ => ⟨0, none, 0, 0⟩, by rw [hglo]; intro p hp; rw [List.mem_singleton.1 hp], fun q hq => ?_⟩
  rw [List.mem_singleton.1 hq]
  refine ⟨?_, fun j cv hj => ?_⟩
  · cases l with
    | nil => exact absurd rfl hl
    | cons n r =>
      have h0 := h 0 n rfl
      show IsCells w 0
      unfold World.cell? at h0
      dsimp only at h0
      split at h0
      · rename_i cs _ _ he; exact ⟨_, he, rfl⟩
      · cases h0
  · rw [List.getElem?_map] at hj
    cases e : l[j]? with
    | none => rw [e] at hj; cases hj
    | some n =>
      rw [e] at hj
      simp only [Option.map_some, Option.some.injEq] at hj
      subst hj
      exact ⟨_, h j n e, .v _⟩

/-- A law whose mirror answers true returns true, and leaves what was there. -/
theorem law_calls {k : Nat} {ps : List PK} {t : Nat} {es : List Nat} {f : AT E.G.car ps → Option (E.G.car t)} (hc : CSok E [] ⟨k, ps, [.v t false es], f⟩) (hglo : E.glo = []) (b : E.G.car t) (hb : E.G.enc t b = [.v (.bool true)])
    {vs : List Value} {xs : AT E.G.car ps} (ha : ArgsAre E (IsCells w) w ps xs vs) (hm : f xs = some b) :
    Calls E.P k vs.toArray w fun e w' => e = .returned (.bool true) ∧ Below w.heap.size w w' := by
  have h := hc.ok (IsCells w) w vs xs ⟨fun _ => ⟨0, none, 0, 0⟩, by rw [hglo]; exact And.intro (fun p hp => nomatch hp) (fun q hq => nomatch hq)⟩ (fun _ h => h) ha b hm
  refine h.mono fun e' w' ⟨us, ms, A', h1, h2, _, _, _, h3, _⟩ => ⟨?_, h2⟩
  obtain ⟨v, rfl, us', h4, h5⟩ := h3
  simp only [Bool.false_eq_true, if_false] at h5
  subst h5
  have h4 : ResCells E.G A' w.heap.size w' (E.G.enc t b) es [v] ms := h4
  rw [hb] at h4
  obtain ⟨us2, h6, _⟩ := h4
  cases h6
  exact h1
end
end Go.KX

namespace Go.Proofs.YtcabeiajfbdfhaaGreatDoor
open Go Go.KX Go.ChangeShapes Go.WideShapes Go.ChangeAt Go.RowKit

def strengths : List Int := [4000, 8000, 14000, 24000, 40000, 90000]

theorem own : ownKnob Tryz.prog.godebug = none := by kernel_rfl
theorem gStr : Tryz.prog.globalNamed "polynya/hull.strengths" = some 0 := by kernel_rfl
theorem tStr : ∃ t e, (Tryz.prog.globals[0]?).map (·.type) = some t ∧ Tryz.prog.underlying t = some (.array 6 e) ∧ Tryz.prog.underlying e = some (.int .i64) ∧ Tryz.prog.cellsOf e = 1 ∧ Tryz.prog.cellsOf t = 6 :=
  ⟨267, 3, by kernel_rfl, by kernel_rfl, by kernel_rfl, by kernel_rfl, by kernel_rfl⟩

abbrev laid1 : List (String × DataW Unit) := [("polynya/hull.strengths", Rows.laid_polynya_hull_strengths)]

theorem door_met (os : Os) (args : Array Value) : laidMetH Tryz.prog laid1 ((World.doorLaid Tryz.prog 400 os).forCall (fun _ _ => 0) ⟨#[], args, []⟩).memory :=
  laidMetH_of_parts3 (fuel := 8) (laidMet_of_run' 8 (by kernel_rfl) (by kernel_rfl)) (by kernel_rfl) (by kernel_rfl)

/-- What the condition gives the walks: the table of strengths. -/
theorem of_laid {W : World} (h : laidMetH Tryz.prog laid1 W) : GW Cv.E Cv.gl (IsCells W) W := by
  rw [MakeChecks.laidMetH_plain _ _ _ (by kernel_rfl)] at h
  obtain ⟨ps, ⟨g0, t0, cs0, f0, p0, q0, hg0, ht0, hv0, hd0, _, _⟩, _, _⟩ := h
  obtain rfl := Option.some.inj (gStr.symm.trans hg0)
  obtain ⟨t, e, h1, h2, h3, h4, h5⟩ := tStr
  obtain rfl := Option.some.inj (h1.symm.trans ht0)
  obtain ⟨xs, m1, rfl, hx, hlen, hn, hel⟩ := DataW.trod_array h2 hd0
  rw [h5] at hlen
  have cell : ∀ i, W.cell? ⟨0, i, none⟩ = cs0[i]? := World.var?_cell hg0 hv0
  have one : ∀ i, i < 6 → ∃ n, cs0.toList[i]? = some (.int .i64 n) ∧ xs[i]? = some (.lit (.int .i64 n), []) := by
    intro i hi
    have h6 := hel i hi
    rw [h4] at h6
    have hxi : xs[i]? = some xs[i] := List.getElem?_eq_getElem (by omega)
    rw [hxi] at h6
    obtain ⟨n, e1, e2, _⟩ := DataW.trod_int h3 h6
    refine ⟨n, ?_, by rw [hxi, e2]⟩
    have : (cs0.toList.drop (i * 1)).take 1 = [Value.int .i64 n] := e1
    rw [Nat.mul_one] at this
    have h7 : ((cs0.toList.drop i).take 1)[0]? = some (.int .i64 n) := by rw [this]; rfl
    simpa [List.getElem?_take, List.getElem?_drop] using h7
  have val : ∀ i n, xs[i]? = some (.lit (.int .i64 n), []) → i < 6 → strengths[i]? = some n := by
    intro i n hi hlt
    simp only [Prod.mk.injEq, Rows.laid_polynya_hull_strengths] at hx
    have hm : (xs.map (·.1))[i]? = some (.lit (.int .i64 n)) := by simp [hi]
    have he : (xs.map (·.1)) = [.lit (.int .i64 4000), .lit (.int .i64 8000), .lit (.int .i64 14000), .lit (.int .i64 24000), .lit (.int .i64 40000), .lit (.int .i64 90000)] := by
      have := hx.1
      simp only [DataW.agg.injEq] at this
      exact this.symm
    rw [he] at hm
    unfold strengths
    match i, hlt with
    | 0, _ => simp_all
    | 1, _ => simp_all
    | 2, _ => simp_all
    | 3, _ => simp_all
    | 4, _ => simp_all
    | 5, _ => simp_all
  refine gw_nums (l := strengths) rfl (fun j n hj => ?_) (by simp [strengths])
  have hlt : j < 6 := by
    have := (List.getElem?_eq_some_iff.1 hj).1
    simpa [strengths] using this
  obtain ⟨m, e1, e2⟩ := one j hlt
  have h8 := val j m e2 hlt
  rw [h8] at hj
  cases hj
  rw [cell j]
  simpa using e1
end Go.Proofs.YtcabeiajfbdfhaaGreatDoor
