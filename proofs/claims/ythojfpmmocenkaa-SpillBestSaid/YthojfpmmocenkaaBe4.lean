/- Texts PWD, PWE, PWF, KLX, PWG, PWH, PWI, AwB, PWJ, KLN, PXB, PWK, PWL, PWM, KFR: own work; each part says what it is. -/
import Derived.Test.YthojfpmmocenkaaBe3
import Derived.Handed
import Derived.OpenShut
import Derived.ChangeSlices
import Derived.JoinedOf
namespace Go.Proofs.Sp
open Go Go.KX

def max0 (x : Int) : Int := if x > 0 then x else 0
theorem max0_ge (x : Int) : x ≤ max0 x ∧ 0 ≤ max0 x := by unfold max0; split <;> omega
/-- What a flight pays. -/
def tot (J : List Job) (pr : Nat → Int) (i : Nat) : Int := sumN 48 fun h => if on J i h then pr h else 0
/-- The bound of prices. -/
def bnd' (J : List Job) (k : Int) (pr : Nat → Int) : Int := k * sumN 48 pr + sumN J.length fun i => max0 ((J.getD i j0).f_worth - tot J pr i)

theorem paid {J : List Job} {ch : List Bool} {pr : Nat → Int} : (sumN J.length fun i => if ch.getD i false = true then tot J pr i else 0) = sumN 48 fun h => pr h * cov J ch h := by
  have e1 : (sumN J.length fun i => if ch.getD i false = true then tot J pr i else 0) = sumN J.length fun i => sumN 48 fun h => if ch.getD i false = true ∧ on J i h then pr h else 0 := by
    apply sumN_congr
    intro i _
    by_cases q : ch.getD i false = true
    · rw [if_pos q]
      unfold tot
      apply sumN_congr
      intro h _
      by_cases o : on J i h
      · rw [if_pos o, if_pos ⟨q, o⟩]
      · rw [if_neg o, if_neg fun t => o t.2]
    · rw [if_neg q, sumN_zero 48 fun h _ => if_neg fun t => q t.1]
  rw [e1, sumN_comm]
  apply sumN_congr
  intro h _
  unfold cov
  rw [← sumN_mul]
  apply sumN_congr
  intro i _
  split
  · rw [Int.mul_one]
  · rw [Int.mul_zero]

theorem weak {J : List Job} {ch : List Bool} {k : Int} {pr : Nat → Int} (hp : ∀ h, h < 48 → 0 ≤ pr h) (hc : ∀ h, h < 48 → cov J ch h ≤ k) : val J ch ≤ bnd' J k pr := by
  have h1 : val J ch ≤ sumN J.length fun i => (max0 ((J.getD i j0).f_worth - tot J pr i)) + if ch.getD i false = true then tot J pr i else 0 := by
    apply sumN_le
    intro i _
    have := max0_ge ((J.getD i j0).f_worth - tot J pr i)
    split <;> omega
  rw [sumN_add, paid] at h1
  have h2 : (sumN 48 fun h => pr h * cov J ch h) ≤ sumN 48 fun h => k * pr h := by
    apply sumN_le
    intro h hh
    rw [Int.mul_comm k]
    exact Int.mul_le_mul_of_nonneg_left (hc h hh) (hp h hh)
  rw [sumN_mul] at h2
  unfold bnd'
  omega

theorem tele {c : Nat → Int} {a b : Nat} (hab : a ≤ b) : ∀ n : Nat, (sumN n fun h => if (a : Int) ≤ h ∧ (h : Int) < b then c h - c (h + 1) else 0) = if n ≤ a then 0 else c a - c (min n b)
  | 0 => by rw [if_pos (Nat.zero_le _)]; rfl
  | n + 1 => by
    have ih := tele (c := c) hab n
    simp only [sumN]
    rw [ih]
    by_cases q1 : n < a
    · rw [if_pos (by omega), if_neg (by omega), if_pos (by omega)]; rfl
    · by_cases q2 : n < b
      · rw [if_pos (⟨by omega, by omega⟩ : (a : Int) ≤ n ∧ (n : Int) < b), if_neg (by omega : ¬ n + 1 ≤ a), show min (n + 1) b = n + 1 by omega]
        by_cases q3 : n ≤ a
        · obtain rfl : n = a := by omega
          rw [if_pos (Nat.le_refl _)]; omega
        · rw [if_neg q3, show min n b = n by omega]; omega
      · rw [if_neg (fun t : (a : Int) ≤ n ∧ (n : Int) < b => by omega)]
        by_cases q3 : n ≤ a
        · obtain rfl : n = a := by omega
          obtain rfl : n = b := by omega
          rw [if_pos (Nat.le_refl _), if_neg (by omega), show min (n + 1) n = n by omega]; omega
        · rw [if_neg q3, if_neg (by omega), show min n b = b by omega, show min (n + 1) b = b by omega]; omega

/-- The prices of costs. -/
def prc (cost : List Int) (h : Nat) : Int := cost.getD h 0 - cost.getD (h + 1) 0

theorem tot_prc {J : List Job} (hJ : JobsOK J) {cost : List Int} {i : Nat} (hi : i < J.length) : tot J (prc cost) i = cost.getD (J.getD i j0).f_from.toNat 0 - cost.getD (J.getD i j0).f_to.toNat 0 := by
  obtain ⟨j1, j2, j3, j4, j5⟩ := hJ.at hi
  have := tele (c := fun h => cost.getD h 0) (a := (J.getD i j0).f_from.toNat) (b := (J.getD i j0).f_to.toNat) (by omega) 48
  rw [if_neg (by omega), show min 48 (J.getD i j0).f_to.toNat = (J.getD i j0).f_to.toNat by omega, show (((J.getD i j0).f_from.toNat : Nat) : Int) = (J.getD i j0).f_from by omega, show (((J.getD i j0).f_to.toNat : Nat) : Int) = (J.getD i j0).f_to by omega] at this
  exact this

theorem strong {J : List Job} (hJ : JobsOK J) {ch : List Bool} {idle cost : List Int} {k : Int} (hl : ch.length = J.length) (i0 : ∀ h, h < 48 → 0 ≤ idle.getD h 0) (ct : ∀ h, h < 48 → idle.getD h 0 + cov J ch h = k) (hf : Feas J ch idle fun v => cost.getD v 0) :
    (∀ h, h < 48 → 0 ≤ prc cost h) ∧ bnd' J k (prc cost) = val J ch := by
  have p0 : ∀ h, h < 48 → 0 ≤ prc cost h := fun h hh => by
    have : cost.getD (h + 1) 0 ≤ cost.getD h 0 + 0 := hf (-1) (h + 1) h 0 (.inl ⟨rfl, rfl, hh, rfl⟩)
    unfold prc; omega
  have p1 : ∀ h, h < 48 → prc cost h * idle.getD h 0 = 0 := fun h hh => by
    have h0 := i0 h hh
    by_cases q : 0 < idle.getD h 0
    · have : cost.getD h 0 ≤ cost.getD (h + 1) 0 + 0 := hf (-2) h (h + 1) 0 (.inr (.inl ⟨rfl, rfl, hh, rfl, q⟩))
      have h1 := p0 h hh
      have : prc cost h = 0 := by unfold prc at h1 ⊢; omega
      rw [this, Int.zero_mul]
    · rw [show idle.getD h 0 = 0 by omega, Int.mul_zero]
  refine ⟨p0, ?_⟩
  have e1 : (sumN J.length fun i => max0 ((J.getD i j0).f_worth - tot J (prc cost) i) + if ch.getD i false = true then tot J (prc cost) i else 0) = val J ch := by
    apply sumN_congr
    intro i hi
    have hj := hJ.at hi
    rw [tot_prc hJ hi]
    by_cases q : ch.getD i false = true
    · have := hf (i : Int) _ _ _ (.inr (.inr (.inl ⟨by omega, by omega, by simpa using q, rfl, rfl, rfl⟩)))
      simp only [Int.toNat_natCast] at this
      rw [if_pos q, if_pos q]
      unfold max0
      split <;> omega
    · have := hf (i : Int) _ _ _ (.inr (.inr (.inr ⟨by omega, by omega, by simpa using q, rfl, rfl, rfl⟩)))
      simp only [Int.toNat_natCast] at this
      rw [if_neg q, if_neg q]
      unfold max0
      split <;> omega
  rw [sumN_add, paid] at e1
  have e2 : k * sumN 48 (prc cost) = sumN 48 fun h => prc cost h * cov J ch h := by
    rw [← sumN_mul]
    apply sumN_congr
    intro h hh
    have := ct h hh
    rw [← this, Int.add_mul, Int.mul_comm (idle.getD h 0), p1 h hh, Int.mul_comm (cov J ch h)]; omega
  unfold bnd'
  omega
end Go.Proofs.Sp

namespace Go.Proofs.Sp
open Go Go.KX

abbrev f0 : Flight := Flight.mk (0 : Int) []

def FleetOK (n : Nat) (t : Fleet) : Prop := (0 ≤ t.Base ∧ t.Base ≤ n - 1) ∧ (0 ≤ t.Range ∧ t.Range ≤ 100) ∧ (1 ≤ t.Speed ∧ t.Speed ≤ 20) ∧ (1 ≤ t.Count ∧ t.Count ≤ 6)
instance (n : Nat) (t : Fleet) : Decidable (FleetOK n t) := inferInstanceAs (Decidable (_ ∧ _))

theorem wd {x lo hi : Int} : (decide (x ≥ lo) && decide (x ≤ hi)) = decide (lo ≤ x ∧ x ≤ hi) := by rw [← Bool.decide_and]

theorem and4 {a b c d : Prop} [Decidable a] [Decidable b] [Decidable c] [Decidable d] (w2 w3 w4 : Option Bool) (h2 : w2 = some (decide b)) (h3 : w3 = some (decide c)) (h4 : w4 = some (decide d)) :
    (bnd (some (decide a)) fun x => bnd (brk x w2 (some false)) fun x1 => bnd (brk (x && x1) w3 (some false)) fun x2 => bnd (brk (x && x1 && x2) w4 (some false)) fun x3 => some (x && x1 && x2 && x3)) = some (decide (a ∧ b ∧ c ∧ d)) := by
  rw [h2, h3, h4]
  by_cases ha : a
  · by_cases hb : b
    · by_cases hc : c
      · by_cases hd : d
        · simp [ha, hb, hc, hd, bnd, brk]
        · simp [ha, hb, hc, hd, bnd, brk]
      · simp [ha, hb, hc, bnd, brk]
    · simp [ha, hb, bnd, brk]
  · simp [ha, bnd, brk]

theorem right_eq {F : Nat} {f : Field} {t : Fleet} (hf : f.Cells.length ≤ 100) : spill_grid_right F f t = some (decide (FleetOK f.Cells.length t)) := by
  unfold spill_grid_right
  rw [chk_pos (show InR _ from ⟨by omega, by omega⟩), within_eq, wd]
  exact and4 _ _ _ (by rw [within_eq, wd]) (by rw [within_eq, wd]) (by rw [within_eq, wd])
theorem refFleet_eq {F : Nat} {f : Field} {t : Fleet} (hf : f.Cells.length ≤ 100) : ref11_fleet F f t = some (decide (FleetOK f.Cells.length t)) := by
  unfold ref11_fleet
  rw [chk_pos (show InR _ from ⟨by omega, by omega⟩), refIn_eq, wd]
  exact and4 _ _ _ (by rw [refIn_eq, wd]) (by rw [refIn_eq, wd]) (by rw [refIn_eq, wd])

/-- Which paths are right. -/
structure PathOK (f : Field) (b : Int) (P : List Int) : Prop where
  ne : P ≠ []
  st : P.getD 0 0 = b
  en : P.getD (P.length - 1) 0 = b
  wi : ∀ i : Nat, i < P.length → 0 ≤ P.getD i 0 ∧ P.getD i 0 < f.Cells.length
  nr : ∀ i : Nat, 0 < i → i < P.length → P.getD (i - 1) 0 ∈ nb f.W f.H (P.getD i 0)

theorem IsB.mk' {p : Prop} {b : Bool} (h : b = true ↔ p) : b = true ↔ p := h

theorem path_ok {F : Nat} (hF : 2000 < F) {f : Field} {t : Fleet} {P : List Int} (hf : FieldOK f) (hP : P.length ≤ 1000) : Ok (fun b => b = true ↔ PathOK f t.Base P) (spill_grid_path F f t P) := by
  obtain ⟨hs1, hs2⟩ := hf.small
  obtain ⟨hW, hH, hl⟩ : (1 ≤ f.W ∧ f.W ≤ 8) ∧ (1 ≤ f.H ∧ f.H ≤ 8) ∧ (f.Cells.length : Int) = f.W * f.H := ⟨hf.w, hf.h, hf.len⟩
  unfold spill_grid_path
  by_cases hne : P = []
  · subst hne
    refine ok_chk (fun h => by simp at h) (ok_chk (fun h => by simp at h) (ok_chk (fun h => by simp at h) (ok_brkT (by simp) (ok_some ⟨(fun h => nomatch h), fun h => absurd rfl h.ne⟩))))
  have hp : 0 < P.length := List.length_pos_iff.2 hne
  have e0 : ((P.length : Int) == 0) = false := beq_eq_false_iff_ne.2 (by omega)
  rw [e0, show ((P.length : Int) - 1).toNat = P.length - 1 by omega, show (Int.toNat 0) = 0 from rfl, Bool.false_or]
  refine ok_chk (fun _ => ⟨by omega, by omega⟩) (ok_chk (fun _ => show InR _ from ⟨by omega, by omega⟩) (ok_chk (fun _ => ⟨by omega, by omega⟩) (ok_brk (fun hb => ok_some ?_) (fun hb => ?_))))
  · simp only [Bool.or_eq_true, bne_iff_ne] at hb
    exact ⟨(fun h => nomatch h), fun h => by
      rcases hb with hb | hb
      · exact absurd h.st hb
      · exact absurd h.en hb⟩
  simp only [Bool.or_eq_false_iff, bne_eq_false_iff_eq] at hb
  refine ok_loop (fun x : Int => 0 ≤ x ∧ x ≤ P.length ∧ (∀ i : Nat, (i : Int) < x → 0 ≤ P.getD i 0 ∧ P.getD i 0 < f.Cells.length) ∧ ∀ i : Nat, 0 < i → (i : Int) < x → P.getD (i - 1) 0 ∈ nb f.W f.H (P.getD i 0)) (fun x => P.length - x.toNat)
    ⟨by omega, by omega, fun i hi => by omega, fun i _ hi => by omega⟩ (by simp; omega) ?_
  rintro i next ⟨i1, i2, i3, i4⟩ hn
  refine ok_brk (fun hc => ?_) (fun hc => ok_some ?_)
  · have hc : i < P.length := of_decide_eq_true hc
    have hi : i.toNat < P.length := by omega
    rw [within_eq, wd]
    refine ok_chk ⟨i1, hc⟩ (ok_chk (show InR _ from ⟨by omega, by omega⟩) (ok_bnde rfl (ok_brk (fun hb => ok_some ⟨(fun h => nomatch h), fun h => absurd (h.wi _ hi) (by have := nd_true hb; omega)⟩) (fun hw => ?_))))
    have hw := nd_false hw
    obtain ⟨c, hcq⟩ : ∃ c, P.getD i.toNat 0 = c := ⟨_, rfl⟩
    rw [hcq] at hw ⊢
    obtain ⟨p1, p2, p3, p4⟩ := pos_bound hW hH (c := c) ⟨hw.1, by omega⟩
    refine ok_chk ⟨⟨hw.1, by omega⟩, by omega⟩ (ok_chk ⟨⟨hw.1, by omega⟩, by omega⟩ ?_)
    have dsm : ∀ j : Nat, j < 4 → -1 ≤ (dirs.getD j d0).a0 ∧ (dirs.getD j d0).a0 ≤ 1 ∧ -1 ≤ (dirs.getD j d0).a1 ∧ (dirs.getD j d0).a1 ≤ 1 := fun j hj => dirs_small _ (getD_mem (l := dirs) hj)
    refine ok_loop (fun x : Int × Int × Bool => 0 ≤ x.2.1 ∧ x.2.1 ≤ 4 ∧ 0 ≤ x.1 ∧ x.1 ≤ x.2.1 ∧ (x.2.2 = true ↔ (i = 0 ∨ P.getD (i - 1).toNat 0 ∈ nbl f.W f.H c (dirs.take x.2.1.toNat)))) (fun x => 4 - x.2.1.toNat)
      ⟨by simp, by simp, by simp, by simp, by
        show (i == 0) = true ↔ _
        rw [beq_iff_eq]
        exact ⟨.inl, fun h => by rcases h with h | h; exact h; exact absurd h (by simp [nbl])⟩⟩ (by simp; omega) ?_
    rintro ⟨cnt, j, near⟩ next1 ⟨g1, g2, g3, g4, g5⟩ hn1
    simp only at g1 g2 g3 g4 g5
    dsimp only
    refine ok_brk (fun hj => ?_) (fun hj => ?_)
    · have hj : j < 4 := by simpa using hj
      have ht : dirs.take (j + 1).toNat = dirs.take j.toNat ++ [dirs.getD j.toNat d0] := by
        rw [show (j + 1).toNat = j.toNat + 1 by omega]; exact take_succ' (l := dirs) (by show j.toNat < 4; omega)
      obtain ⟨q1, q2, q3, q4⟩ := dsm j.toNat (by omega)
      refine ok_join (by omega) (fun y : Int × Bool => 0 ≤ y.1 ∧ y.1 ≤ j + 1 ∧ (y.2 = true ↔ (i = 0 ∨ P.getD (i - 1).toNat 0 ∈ nbl f.W f.H c (dirs.take (j + 1).toNat)))) (fun y hy => ?_) fun k1 hk1 => ?_
      · exact ok_chk (show InR _ from ⟨by omega, by omega⟩) (hn1 _ ⟨by show 0 ≤ j + 1; omega, by show j + 1 ≤ 4; omega, hy.1, hy.2.1, hy.2.2⟩ (by show 4 - (j + 1).toNat < 4 - j.toNat; omega))
      have i5 : InR (c % f.W + (dirs.getD j.toNat d0).a0) := ⟨by omega, by omega⟩
      have i6 : InR (c / f.W + (dirs.getD j.toNat d0).a1) := ⟨by omega, by omega⟩
      refine ok_chk ⟨g1, hj⟩ (ok_chk i5 (ok_chk i6 (ok_chk (show InR _ from ⟨by omega, by omega⟩) ?_)))
      rw [within_eq, bnd_so]
      refine ok_chk (fun _ => show InR _ from ⟨by omega, by omega⟩) ?_
      rw [brk_and, bnd_so, Bool.and_self_left]
      rw [ht, nbl_snoc] at hk1
      refine ok_brk (fun hb => ?_) (fun hb => ?_)
      · have hb : okD f.W f.H c (dirs.getD j.toNat d0) = true := hb
        obtain ⟨b1, b2, b3, b4⟩ := toD_bound hW hH hb
        rw [hb, cond_true] at hk1
        have ht2 : toD f.W c (dirs.getD j.toNat d0) = (c / f.W + (dirs.getD j.toNat d0).a1) * f.W + (c % f.W + (dirs.getD j.toNat d0).a0) := rfl
        have i1' : InR ((c / f.W + (dirs.getD j.toNat d0).a1) * f.W) := ⟨by omega, by omega⟩
        have i2' : InR ((c / f.W + (dirs.getD j.toNat d0).a1) * f.W + (c % f.W + (dirs.getD j.toNat d0).a0)) := ⟨by omega, by omega⟩
        have hpos : (!near) = true → 0 < i := fun h => by
          rcases Int.lt_or_eq_of_le i1 with q | q
          · exact q
          · have : near = true := g5.2 (.inl q.symm)
            rw [this] at h; cases h
        refine ok_chk i1' (ok_chk i2' (ok_chk (fun _ => show InR _ from ⟨by omega, by omega⟩) (ok_chk (fun h => by have := hpos h; exact ⟨by omega, by omega⟩) (ok_chk (show InR _ from ⟨by omega, by omega⟩) (hk1 _ ⟨by show 0 ≤ cnt + 1; omega, by show cnt + 1 ≤ j + 1; omega, ?_⟩)))))
        show (near || _ == _) = true ↔ _
        rw [Bool.or_eq_true, g5, beq_iff_eq, ← ht2]
        simp only [List.mem_append, List.mem_singleton]
        constructor
        · rintro ((h | h) | h)
          · exact .inl h
          · exact .inr (.inl h)
          · exact .inr (.inr h.symm)
        · rintro (h | (h | h))
          · exact .inl (.inl h)
          · exact .inl (.inr h)
          · exact .inr h.symm
      · have hb : okD f.W f.H c (dirs.getD j.toNat d0) = false := hb
        rw [hb, cond_false] at hk1
        exact hk1 _ ⟨g3, by show cnt ≤ j + 1; omega, g5⟩
    · have hj : ¬ j < 4 := by simpa using hj
      obtain rfl : j = 4 := by omega
      have g5 : near = true ↔ (i = 0 ∨ P.getD (i - 1).toNat 0 ∈ nb f.W f.H c) := g5
      refine ok_brk (fun hb => ok_some ⟨(fun h => nomatch h), fun h => ?_⟩) (fun hb => ?_)
      · have hb : near = false := by simpa using hb
        by_cases q : i = 0
        · have := g5.2 (.inl q); rw [hb] at this; cases this
        · have := h.nr i.toNat (by omega) hi
          rw [hcq, show i.toNat - 1 = (i - 1).toNat by omega] at this
          have := g5.2 (.inr this); rw [hb] at this; cases this
      · have hb : near = true := by simpa using hb
        refine ok_chk (show InR _ from ⟨by omega, by omega⟩) (hn _ ⟨by omega, by omega, fun q hq => ?_, fun q hq0 hq => ?_⟩ (by show P.length - (i + 1).toNat < P.length - i.toNat; omega))
        · by_cases e : (q : Int) < i
          · exact i3 q e
          · obtain rfl : q = i.toNat := by omega
            rw [hcq]; omega
        · by_cases e : (q : Int) < i
          · exact i4 q hq0 e
          · obtain rfl : q = i.toNat := by omega
            rw [hcq, show i.toNat - 1 = (i - 1).toNat by omega]
            rcases g5.1 hb with h | h
            · omega
            · exact h
  · have hc : ¬ i < P.length := of_decide_eq_false hc
    exact ⟨fun _ => ⟨hne, hb.1, hb.2, fun q hq => i3 q (by omega), fun q h0 hq => i4 q h0 (by omega)⟩, fun _ => rfl⟩

theorem refPath_ok {F : Nat} (hF : 2000 < F) {f : Field} {t : Fleet} {P : List Int} (hf : FieldOK f) (hP : P.length ≤ 1000) : Ok (fun b => b = true ↔ PathOK f t.Base P) (ref11_path F f t P) := by
  obtain ⟨hs1, hs2⟩ := hf.small
  obtain ⟨hW, hH, hl⟩ : (1 ≤ f.W ∧ f.W ≤ 8) ∧ (1 ≤ f.H ∧ f.H ≤ 8) ∧ (f.Cells.length : Int) = f.W * f.H := ⟨hf.w, hf.h, hf.len⟩
  unfold ref11_path
  by_cases hne : P = []
  · subst hne
    refine ok_chk (fun h => by simp at h) (ok_chk (fun h => by simp at h) (ok_chk (fun h => by simp at h) (ok_brkT (by simp) (ok_some ⟨(fun h => nomatch h), fun h => absurd rfl h.ne⟩))))
  have hp : 0 < P.length := List.length_pos_iff.2 hne
  have e0 : ((P.length : Int) == 0) = false := beq_eq_false_iff_ne.2 (by omega)
  rw [e0, show ((P.length : Int) - 1).toNat = P.length - 1 by omega, show (Int.toNat 0) = 0 from rfl, Bool.false_or]
  refine ok_chk (fun _ => ⟨by omega, by omega⟩) (ok_chk (fun _ => show InR _ from ⟨by omega, by omega⟩) (ok_chk (fun _ => ⟨by omega, by omega⟩) (ok_brk (fun hb => ok_some ?_) (fun hb => ?_))))
  · simp only [Bool.or_eq_true, bne_iff_ne] at hb
    exact ⟨(fun h => nomatch h), fun h => by
      rcases hb with hb | hb
      · exact absurd h.st hb
      · exact absurd h.en hb⟩
  simp only [Bool.or_eq_false_iff, bne_eq_false_iff_eq] at hb
  refine ok_loop (fun x : Int => 0 ≤ x ∧ x ≤ P.length ∧ (∀ i : Nat, (i : Int) < x → 0 ≤ P.getD i 0 ∧ P.getD i 0 < f.Cells.length) ∧ ∀ i : Nat, 0 < i → (i : Int) < x → P.getD (i - 1) 0 ∈ nb f.W f.H (P.getD i 0)) (fun x => P.length - x.toNat)
    ⟨by omega, by omega, fun i hi => by omega, fun i _ hi => by omega⟩ (by simp; omega) ?_
  rintro i next ⟨i1, i2, i3, i4⟩ hn
  refine ok_brk (fun hc => ?_) (fun hc => ok_some ?_)
  · have hc : i < P.length := of_decide_eq_true hc
    have hi : i.toNat < P.length := by omega
    rw [refIn_eq, wd]
    obtain ⟨c, hcq⟩ : ∃ c, P.getD i.toNat 0 = c := ⟨_, rfl⟩
    rw [hcq]
    refine ok_join (by omega) (fun _ : PUnit => (0 ≤ c ∧ c < f.Cells.length) ∧ (i = 0 ∨ P.getD (i - 1).toNat 0 ∈ nb f.W f.H c)) (fun _ hx => ?_) fun k hk => ?_
    · refine ok_chk (show InR _ from ⟨by omega, by omega⟩) (hn _ ⟨by omega, by omega, fun q hq => ?_, fun q hq0 hq => ?_⟩ (by show P.length - (i + 1).toNat < P.length - i.toNat; omega))
      · by_cases e : (q : Int) < i
        · exact i3 q e
        · obtain rfl : q = i.toNat := by omega
          rw [hcq]; exact hx.1
      · by_cases e : (q : Int) < i
        · exact i4 q hq0 e
        · obtain rfl : q = i.toNat := by omega
          rw [hcq, show i.toNat - 1 = (i - 1).toNat by omega]
          rcases hx.2 with h | h
          · omega
          · exact h
    refine ok_chk ⟨i1, hc⟩ (ok_chk (show InR _ from ⟨by omega, by omega⟩) (ok_bnde rfl (ok_brk (fun hb => ok_some ⟨(fun h => nomatch h), fun h => absurd (h.wi _ hi) (by have := nd_true hb; rw [hcq]; omega)⟩) (fun hw => ?_))))
    have hw := nd_false hw
    refine ok_brk (fun hz => hk _ ⟨by omega, .inl (by simpa using hz)⟩) (fun hz => ?_)
    have hz : i ≠ 0 := by simpa using hz
    have hprev := i3 (i - 1).toNat (by omega)
    refine ok_chk (show InR _ from ⟨by omega, by omega⟩) (ok_chk ⟨by omega, by omega⟩ ?_)
    obtain ⟨u, hu⟩ : ∃ u, P.getD (i - 1).toNat 0 = u := ⟨_, rfl⟩
    rw [hu] at hprev hk ⊢
    have hg := (grid_of hW hH (c := u) ⟨hprev.1, by omega⟩).2.2 c hw.1 (by omega)
    refine ok_bnde (refNb_eq (by omega) hW hH ⟨hprev.1, by omega⟩) ?_
    have hle : (nb f.W f.H u).length ≤ 4 := nbl_le4 f.W f.H u 4
    refine ok_loop (fun x : Int × Bool => 0 ≤ x.1 ∧ x.1 ≤ (nb f.W f.H u).length ∧ (x.2 = true ↔ c ∈ (nb f.W f.H u).take x.1.toNat)) (fun x => (nb f.W f.H u).length - x.1.toNat) ⟨by simp, by simp, by simp⟩ (by simp; omega) ?_
    rintro ⟨j, fnd⟩ next1 ⟨g1, g2, g3⟩ hn1
    simp only at g1 g2 g3
    dsimp only
    refine ok_brk (fun hj => ?_) (fun hj => ?_)
    · have hj : j < (nb f.W f.H u).length := of_decide_eq_true hj
      refine ok_chk (fun _ => ⟨g1, hj⟩) (ok_chk (fun _ => ⟨i1, hc⟩) (ok_chk (show InR _ from ⟨by omega, by omega⟩) (hn1 _ ⟨by show 0 ≤ j + 1; omega, by show j + 1 ≤ _; omega, ?_⟩ (by show (nb f.W f.H u).length - (j + 1).toNat < (nb f.W f.H u).length - j.toNat; omega))))
      show (fnd || (nb f.W f.H u).getD j.toNat 0 == c) = true ↔ c ∈ (nb f.W f.H u).take (j + 1).toNat
      rw [Bool.or_eq_true, g3, beq_iff_eq, show (j + 1).toNat = j.toNat + 1 by omega, take_succ' (d := 0) (by omega)]
      simp only [List.mem_append, List.mem_singleton]
      exact ⟨fun h => h.imp id Eq.symm, fun h => h.imp id Eq.symm⟩
    · have hj : ¬ j < (nb f.W f.H u).length := of_decide_eq_false hj
      rw [List.take_of_length_le (by omega)] at g3
      refine ok_brk (fun hb => ok_some ⟨(fun h => nomatch h), fun h => ?_⟩) (fun hb => hk _ ⟨by omega, .inr (hg.1 (g3.1 (by simpa using hb)))⟩)
      have hb : fnd = false := by simpa using hb
      have hh := h.nr i.toNat (by omega) hi
      rw [hcq, show i.toNat - 1 = (i - 1).toNat by omega, hu] at hh
      have := g3.2 (hg.2 hh)
      rw [hb] at this; cases this
  · have hc : ¬ i < P.length := of_decide_eq_false hc
    exact ⟨fun _ => ⟨hne, hb.1, hb.2, fun q hq => i3 q (by omega), fun q h0 hq => i4 q h0 (by omega)⟩, fun _ => rfl⟩
end Go.Proofs.Sp

namespace Go.Proofs.Sp
open Go Go.KX

def hoursV (t : Fleet) (P : List Int) : Int := if ((P.length : Int) + t.Speed - 2) / t.Speed > 1 then ((P.length : Int) + t.Speed - 2) / t.Speed else 1
def wide (f : Field) (c : Nat) : Int := (f.Cells.getD c ⟨0, 0⟩).Hi - (f.Cells.getD c ⟨0, 0⟩).Lo
def worthV (f : Field) (P : List Int) : Int := sumN f.Cells.length fun c => if (c : Int) ∈ P then wide f c else 0

open Classical in
noncomputable def jobE (f : Field) (t : Fleet) (x : Flight) : Job × Int :=
  if ¬ (0 ≤ x.From ∧ x.From ≤ 47) then (j0, 12) else if ¬ PathOK f t.Base x.Path then (j0, 120) else if (x.Path.length : Int) - 1 > t.Range then (j0, 6)
  else if x.From + hoursV t x.Path > 48 then (j0, 12) else (⟨x.From, x.From + hoursV t x.Path, worthV f x.Path⟩, 0)

theorem FieldOK.wide {f : Field} (h : FieldOK f) {c : Nat} (hc : c < f.Cells.length) : 0 ≤ wide f c ∧ wide f c ≤ 1000000 ∧ 0 ≤ (f.Cells.getD c ⟨0, 0⟩).Lo ∧ (f.Cells.getD c ⟨0, 0⟩).Hi ≤ 1000000 := by
  have := h.cells _ (getD_mem (d := ⟨0, 0⟩) hc)
  unfold Sp.wide
  omega
theorem worth_bound {f : Field} (h : FieldOK f) (P : List Int) : 0 ≤ worthV f P ∧ worthV f P ≤ 64000000 := by
  have hs := h.small
  constructor
  · exact sumN_nonneg _ fun c hc => by
      have := h.wide hc
      split <;> omega
  · have := sumN_bound (f := fun c => if (c : Int) ∈ P then wide f c else 0) (B := 1000000) f.Cells.length fun c hc => by
      have := h.wide hc
      split <;> omega
    unfold worthV
    omega

theorem hours_spec {t : Fleet} {P : List Int} (hS : 1 ≤ t.Speed ∧ t.Speed ≤ 20) (hP : P.length ≤ 1000) : 1 ≤ hoursV t P ∧ hoursV t P ≤ 1100 ∧ (P.length : Int) - 1 ≤ hoursV t P * t.Speed ∧ (hoursV t P = 1 ∨ (hoursV t P - 1) * t.Speed < (P.length : Int) - 1) := by
  obtain ⟨q, hq⟩ : ∃ q, ((P.length : Int) + t.Speed - 2) / t.Speed = q := ⟨_, rfl⟩
  have h1 := Int.mul_ediv_add_emod ((P.length : Int) + t.Speed - 2) t.Speed
  have h2 := Int.emod_nonneg ((P.length : Int) + t.Speed - 2) (show t.Speed ≠ 0 by omega)
  have h3 := Int.emod_lt_of_pos ((P.length : Int) + t.Speed - 2) (show 0 < t.Speed by omega)
  rw [hq, Int.mul_comm] at h1
  have hqb : q ≤ 1100 := by
    rcases Int.lt_or_le 1100 q with h | h
    · have : 1101 * t.Speed ≤ q * t.Speed := Int.mul_le_mul_of_nonneg_right (by omega) (by omega)
      omega
    · exact h
  unfold hoursV
  rw [hq]
  by_cases h : q > 1
  · rw [if_pos h]
    have e : (q - 1) * t.Speed = q * t.Speed - t.Speed := by rw [Int.sub_mul, Int.one_mul]
    refine ⟨by omega, hqb, by omega, .inr (by omega)⟩
  · rw [if_neg h]
    have : q * t.Speed ≤ 1 * t.Speed := Int.mul_le_mul_of_nonneg_right (by omega) (by omega)
    exact ⟨by omega, by omega, by omega, .inl rfl⟩

theorem hasI_ins {l : List Int} {n x : Int} : hasI (insI l n) x = true ↔ x = n ∨ hasI l x = true := by
  unfold insI
  by_cases h : hasI l n = true
  · rw [h, cond_true]
    exact ⟨.inr, fun q => by rcases q with rfl | q; exact h; exact q⟩
  · rw [show hasI l n = false by simpa using h, cond_false]
    unfold hasI
    simp only [List.any_append, Bool.or_eq_true, List.any_cons, List.any_nil, Bool.or_false, beq_iff_eq]
    exact ⟨fun q => q.elim .inr fun q => .inl q.symm, fun q => q.elim (fun q => .inr q.symm) .inl⟩

theorem worth_step {f : Field} {l : List Int} {c : Int} (hc : 0 ≤ c ∧ c < f.Cells.length) : worthV f (l ++ [c]) = worthV f l + if c ∈ l then 0 else wide f c.toNat := by
  unfold worthV
  rw [sumN_one (j := c.toNat) (g := fun d => if (d : Int) ∈ l then wide f d else 0) _ (by omega) fun d _ hd => by
    by_cases q : (d : Int) ∈ l
    · rw [if_pos q, if_pos (List.mem_append_left _ q)]
    · rw [if_neg q, if_neg]
      intro t
      rcases List.mem_append.1 t with t | t
      · exact q t
      · have := List.mem_singleton.1 t
        omega]
  congr 1
  rw [show ((c.toNat : Nat) : Int) = c by omega, if_pos (by simp)]
  by_cases q : c ∈ l
  · rw [if_pos q, if_pos q]; omega
  · rw [if_neg q, if_neg q]; omega

theorem job_eq {F : Nat} (hF : 2000 < F) {f : Field} {t : Fleet} {x : Flight} (hf : FieldOK f) (ht : FleetOK f.Cells.length t) (hP : x.Path.length ≤ 1000) : spill_grid_job F f t x = some (jobE f t x) := by
  refine Ok.eq ?_
  obtain ⟨t1, t2, t3, t4⟩ := ht
  have hs := hf.small
  unfold spill_grid_job jobE
  rw [within_eq, wd]
  refine ok_bnde rfl (ok_brk (fun hb => ok_some (by rw [if_pos (nd_true hb)])) (fun hb => ?_))
  have hfr := nd_false hb
  rw [if_neg (fun q => q hfr)]
  refine ok_bnd _ (path_ok hF hf hP) fun b hb => ok_brk (fun hn => ok_some ?_) (fun hn => ?_)
  · rw [if_pos]
    intro q
    have := hb.2 q
    rw [this] at hn; cases hn
  have hp : PathOK f t.Base x.Path := hb.1 (by simpa using hn)
  rw [if_neg (fun q => q hp)]
  refine ok_chk (show InR _ from ⟨by omega, by omega⟩) (ok_brk (fun hb => ok_some (by rw [if_pos (of_decide_eq_true hb)])) (fun hb => ?_))
  rw [if_neg (of_decide_eq_false hb)]
  obtain ⟨h1, h2, -, -⟩ := hours_spec t3 hP
  have hH : (if ((x.Path.length : Int) + t.Speed - 2) / t.Speed > 1 then ((x.Path.length : Int) + t.Speed - 2) / t.Speed else 1) = hoursV t x.Path := rfl
  rw [hH]
  have hlen : 1 ≤ x.Path.length := List.length_pos_iff.2 hp.ne
  refine ok_chk (show InR _ from ⟨by omega, by omega⟩) (ok_chk (show InR _ from ⟨by omega, by omega⟩) (ok_chk ⟨⟨by omega, by omega⟩, by omega⟩ (ok_chk (show InR _ from ⟨by omega, by omega⟩) (ok_brk (fun hb => ok_some (by rw [if_pos (of_decide_eq_true hb)])) (fun hb => ?_)))))
  rw [if_neg (of_decide_eq_false hb)]
  refine ok_loop (fun y : Int × Int × List Int => 0 ≤ y.1 ∧ y.1 ≤ x.Path.length ∧ y.2.1 = worthV f (x.Path.take y.1.toNat) ∧ ∀ c, hasI y.2.2 c = true ↔ c ∈ x.Path.take y.1.toNat) (fun y => x.Path.length - y.1.toNat)
    ⟨by simp, by simp, by show 0 = worthV f (x.Path.take 0); rw [List.take_zero]; unfold worthV; rw [sumN_zero]; intro c _; simp, fun c => by show hasI [] c = true ↔ c ∈ x.Path.take 0; simp [hasI]⟩ (by simp; omega) ?_
  rintro ⟨i, w, seen⟩ next ⟨i1, i2, i3, i4⟩ hnx
  simp only at i1 i2 i3 i4
  dsimp only
  refine ok_brk (fun hc => ?_) (fun hc => ok_some ?_)
  · have hc : i < x.Path.length := of_decide_eq_true hc
    have hi : i.toNat < x.Path.length := by omega
    have hwi := hp.wi i.toNat hi
    have htk : x.Path.take (i + 1).toNat = x.Path.take i.toNat ++ [x.Path.getD i.toNat 0] := by rw [show (i + 1).toNat = i.toNat + 1 by omega, take_succ' (d := 0) hi]
    generalize x.Path.getD i.toNat 0 = c at hwi htk ⊢
    have hst := worth_step (l := x.Path.take i.toNat) hwi
    rw [← htk, ← i3] at hst
    have hwb := worth_bound hf (x.Path.take i.toNat)
    rw [← i3] at hwb
    have hcw := hf.wide (c := c.toNat) (by omega)
    refine ok_join (by omega) (fun y : Int × List Int => y.1 = worthV f (x.Path.take (i + 1).toNat) ∧ ∀ d, hasI y.2 d = true ↔ d ∈ x.Path.take (i + 1).toNat) (fun y hy => ok_chk (show InR _ from ⟨by omega, by omega⟩) (hnx _ ⟨by show 0 ≤ i + 1; omega, by show i + 1 ≤ _; omega, hy.1, hy.2⟩ (by show x.Path.length - (i + 1).toNat < x.Path.length - i.toNat; omega))) fun k hk => ?_
    refine ok_chk ⟨i1, hc⟩ (ok_brk (fun hb => ?_) (fun hb => ?_))
    · have hb : ¬ hasI seen c = true := by simpa using hb
      have hnm : ¬ c ∈ x.Path.take i.toNat := fun q => hb ((i4 c).2 q)
      rw [if_neg hnm] at hst
      unfold Sp.wide at hst hcw
      refine ok_chk ⟨hwi.1, hwi.2⟩ (ok_chk ⟨hwi.1, hwi.2⟩ (ok_chk (show InR _ from ⟨by omega, by omega⟩) (ok_chk (show InR _ from ⟨by omega, by omega⟩) (hk _ ⟨hst.symm, fun d => ?_⟩))))
      show hasI (insI seen c) d = true ↔ _
      rw [hasI_ins, i4, htk]
      simp only [List.mem_append, List.mem_singleton]
      exact Or.comm
    · have hb : hasI seen c = true := by simpa using hb
      have hm : c ∈ x.Path.take i.toNat := (i4 c).1 hb
      rw [if_pos hm] at hst
      refine hk _ ⟨by show w = _; omega, fun d => ?_⟩
      show hasI seen d = true ↔ _
      rw [i4, htk]
      simp only [List.mem_append, List.mem_singleton]
      exact ⟨.inl, fun q => by rcases q with q | rfl; exact q; exact hm⟩
  · have hc : ¬ i < x.Path.length := of_decide_eq_false hc
    rw [List.take_of_length_le (by omega)] at i3
    rw [i3]

theorem refWorth1_eq {F : Nat} (hF : 2000 < F) {f : Field} {t : Fleet} {x : Flight} (hf : FieldOK f) (ht : FleetOK f.Cells.length t) (hP : x.Path.length ≤ 1000) : ref11_worth F f t x = some ((jobE f t x).1.f_worth, (jobE f t x).1.f_to - (jobE f t x).1.f_from, (jobE f t x).2) := by
  refine Ok.eq ?_
  obtain ⟨t1, t2, t3, t4⟩ := ht
  have hs := hf.small
  unfold ref11_worth jobE
  rw [refIn_eq, wd]
  refine ok_bnde rfl (ok_brk (fun hb => ok_some (by rw [if_pos (nd_true hb)]; rfl)) (fun hb => ?_))
  have hfr := nd_false hb
  rw [if_neg (fun q => q hfr)]
  refine ok_bnd _ (refPath_ok hF hf hP) fun b hb => ok_brk (fun hn => ok_some ?_) (fun hn => ?_)
  · rw [if_pos]
    · rfl
    intro q
    have := hb.2 q
    rw [this] at hn; cases hn
  have hp : PathOK f t.Base x.Path := hb.1 (by simpa using hn)
  rw [if_neg (fun q => q hp)]
  refine ok_chk (show InR _ from ⟨by omega, by omega⟩) (ok_brk (fun hb => ok_some (by rw [if_pos (by have := of_decide_eq_true hb; omega)]; rfl)) (fun hb => ?_))
  rw [if_neg (by have := of_decide_eq_false hb; omega)]
  obtain ⟨h1, h2, h3, h4⟩ := hours_spec t3 hP
  refine ok_loop (fun y : Int => 1 ≤ y ∧ y ≤ hoursV t x.Path) (fun y => 1200 - y.toNat) ⟨by omega, h1⟩ (by show 1200 - (1 : Int).toNat < F; omega) ?_
  rintro y next ⟨y1, y2⟩ hnx
  have hyS : 0 ≤ y * t.Speed ∧ y * t.Speed ≤ hoursV t x.Path * t.Speed := ⟨Int.mul_nonneg (by omega) (by omega), Int.mul_le_mul_of_nonneg_right y2 (by omega)⟩
  have hHS : hoursV t x.Path * t.Speed ≤ 1100 * 20 := Int.le_trans (Int.mul_le_mul_of_nonneg_right h2 (by omega)) (by omega)
  refine ok_chk (show InR _ from ⟨by omega, by omega⟩) (ok_chk (show InR _ from ⟨by omega, by omega⟩) (ok_brk (fun hb => ?_) (fun hb => ?_)))
  · have hb := of_decide_eq_true hb
    refine ok_chk (show InR _ from ⟨by omega, by omega⟩) (hnx _ ⟨by omega, ?_⟩ (by show 1200 - (y + 1).toNat < 1200 - y.toNat; omega))
    rcases Int.lt_or_le y (hoursV t x.Path) with q | q
    · omega
    · rw [show y = hoursV t x.Path by omega] at hb; omega
  have hb := of_decide_eq_false hb
  have hy : y = hoursV t x.Path := by
    rcases Int.lt_or_eq_of_le y2 with q | q
    · exfalso
      rcases h4 with h4 | h4
      · omega
      · have : y * t.Speed ≤ (hoursV t x.Path - 1) * t.Speed := Int.mul_le_mul_of_nonneg_right (by omega) (by omega)
        omega
    · exact q
  subst hy
  clear hnx
  refine ok_chk (show InR _ from ⟨by omega, by omega⟩) (ok_brk (fun hb => ok_some (by rw [if_pos (of_decide_eq_true hb)]; rfl)) (fun hb => ?_))
  rw [if_neg (of_decide_eq_false hb)]
  have hwb : ∀ n, n ≤ f.Cells.length → 0 ≤ (sumN n fun c => if (c : Int) ∈ x.Path then wide f c else 0) ∧ (sumN n fun c => if (c : Int) ∈ x.Path then wide f c else 0) ≤ 64000000 := fun n hn => by
    have b1 := sumN_nonneg (f := fun c => if (c : Int) ∈ x.Path then wide f c else 0) n fun c hc => by
      have := hf.wide (c := c) (by omega)
      split <;> omega
    have b2 := sumN_bound (f := fun c => if (c : Int) ∈ x.Path then wide f c else 0) (B := 1000000) n fun c hc => by
      have := hf.wide (c := c) (by omega)
      split <;> omega
    omega
  refine ok_loop (fun y : Int × Int => 0 ≤ y.2 ∧ y.2 ≤ f.Cells.length ∧ y.1 = sumN y.2.toNat fun c => if (c : Int) ∈ x.Path then wide f c else 0) (fun y => f.Cells.length - y.2.toNat) ⟨by simp, by simp, rfl⟩ (by simp; omega) ?_
  rintro ⟨w, c⟩ next ⟨c1, c2, c3⟩ hnx
  simp only at c1 c2 c3
  dsimp only
  refine ok_brk (fun hc => ?_) (fun hc => ok_some ?_)
  · have hc : c < f.Cells.length := of_decide_eq_true hc
    have hst : (sumN (c + 1).toNat fun c => if (c : Int) ∈ x.Path then wide f c else 0) = w + if c ∈ x.Path then wide f c.toNat else 0 := by
      rw [show (c + 1).toNat = c.toNat + 1 by omega]
      simp only [sumN]
      rw [← c3, show ((c.toNat : Nat) : Int) = c by omega]
    have b1 := hwb c.toNat (by omega)
    rw [← c3] at b1
    have hcw := hf.wide (c := c.toNat) (by omega)
    refine ok_join (by omega) (fun y : Int => y = sumN (c + 1).toNat fun c => if (c : Int) ∈ x.Path then wide f c else 0) (fun y hy => ok_chk (show InR _ from ⟨by omega, by omega⟩) (hnx _ ⟨by show 0 ≤ c + 1; omega, by show c + 1 ≤ _; omega, hy⟩ (by show f.Cells.length - (c + 1).toNat < f.Cells.length - c.toNat; omega))) fun k hk => ?_
    refine ok_loop (fun y : Bool × Int => 0 ≤ y.2 ∧ y.2 ≤ x.Path.length ∧ (y.1 = true ↔ c ∈ x.Path.take y.2.toNat)) (fun y => x.Path.length - y.2.toNat) ⟨by simp, by simp, by simp⟩ (by simp; omega) ?_
    rintro ⟨fnd, j⟩ next1 ⟨g1, g2, g3⟩ hn1
    simp only at g1 g2 g3
    dsimp only
    refine ok_brk (fun hj => ?_) (fun hj => ?_)
    · have hj : j < x.Path.length := of_decide_eq_true hj
      refine ok_chk (fun _ => ⟨g1, hj⟩) (ok_chk (show InR _ from ⟨by omega, by omega⟩) (hn1 _ ⟨by show 0 ≤ j + 1; omega, by show j + 1 ≤ _; omega, ?_⟩ (by show x.Path.length - (j + 1).toNat < x.Path.length - j.toNat; omega)))
      show (fnd || x.Path.getD j.toNat 0 == c) = true ↔ c ∈ x.Path.take (j + 1).toNat
      rw [Bool.or_eq_true, g3, beq_iff_eq, show (j + 1).toNat = j.toNat + 1 by omega, take_succ' (d := 0) (by omega)]
      simp only [List.mem_append, List.mem_singleton]
      exact ⟨fun h => h.imp id Eq.symm, fun h => h.imp id Eq.symm⟩
    · have hj : ¬ j < x.Path.length := of_decide_eq_false hj
      rw [List.take_of_length_le (by omega)] at g3
      refine ok_brk (fun hb => ?_) (fun hb => hk _ ?_)
      · rw [if_pos (g3.1 hb)] at hst
        rw [show wide f c.toNat = (f.Cells.getD c.toNat ⟨0, 0⟩).Hi - (f.Cells.getD c.toNat ⟨0, 0⟩).Lo from rfl] at hst hcw
        refine ok_chk ⟨c1, hc⟩ (ok_chk (show InR _ from ⟨by omega, by omega⟩) (ok_chk ⟨c1, hc⟩ (ok_chk (show InR _ from ⟨by omega, by omega⟩) (hk _ (by omega)))))
      · rw [if_neg (fun q => by rw [g3.2 q] at hb; cases hb)] at hst
        omega
  · have hc : ¬ c < f.Cells.length := of_decide_eq_false hc
    rw [show c.toNat = f.Cells.length by omega] at c3
    rw [c3]
    show _ = (worthV f x.Path, x.From + hoursV t x.Path - x.From, 0)
    rw [show x.From + hoursV t x.Path - x.From = hoursV t x.Path by omega]; rfl
end Go.Proofs.Sp

namespace Go.KX
section
variable {α β : Type} {post : α → Prop}

theorem nd_true {p : Prop} [Decidable p] (h : (!decide p) = true) : ¬ p := fun q => by rw [decide_eq_true q] at h; cases h
theorem nd_false {p : Prop} [Decidable p] (h : (!decide p) = false) : p := by
  by_cases q : p
  · exact q
  · rw [decide_eq_false q] at h; cases h
theorem ndT {p : Prop} [Decidable p] (h : ¬ p) : (!decide p) = true := by rw [decide_eq_false h]; rfl
theorem ndF {p : Prop} [Decidable p] (h : p) : (!decide p) = false := by rw [decide_eq_true h]; rfl

theorem drop_get {l : List β} {i : Nat} {d : β} (h : i < l.length) : l.drop i = l.getD i d :: l.drop (i + 1) := by
  rw [getD_get h, List.drop_eq_getElem_cons h]

/-- A loop that looks for the first element of which something is so. -/
theorem ok_find {F : Nat} {l : List β} {d : β} {p : β → Bool} {g : β → Option Bool} {hit : Int → Option α} {miss : Option α} (hF : l.length < F) (hl : l.length ≤ 1000000) (hg : ∀ x ∈ l, g x = some (p x))
    (h1 : ∀ i : Nat, i < l.length → p (l.getD i d) = true → Ok post (hit i)) (h2 : (∀ x ∈ l, p x = false) → Ok post miss) :
    Ok post (loopC (fun (x : Int) next => brk (decide (x < (l.length : Int))) (chk (0 ≤ x ∧ x < (l.length : Int)) (bnd (g (l.getD x.toNat d)) fun b => brk b (hit x) (chk (InR (x + 1)) (next (x + 1))))) miss) F 0) := by
  refine ok_loop (fun x : Int => 0 ≤ x ∧ x ≤ l.length ∧ ∀ j : Nat, (j : Int) < x → p (l.getD j d) = false) (fun x : Int => l.length - x.toNat) ⟨by simp, by simp, fun j hj => by omega⟩ (by simp; omega) ?_
  rintro i next ⟨i1, i2, i3⟩ hn
  refine ok_brk (fun hc => ?_) (fun hc => h2 fun x hx => ?_)
  · have hc : i < l.length := of_decide_eq_true hc
    have hi : i.toNat < l.length := by omega
    refine ok_chk ⟨i1, hc⟩ (ok_bnde (hg _ (getD_mem hi)) (ok_brk (fun hb => ?_) (fun hb => ok_chk (show InR _ from ⟨by omega, by omega⟩) (hn _ ⟨by omega, by omega, fun j hj => ?_⟩ (by show l.length - (i + 1).toNat < l.length - i.toNat; omega)))))
    · have := h1 i.toNat hi hb
      rwa [Int.toNat_of_nonneg i1] at this
    · by_cases e : (j : Int) < i
      · exact i3 j e
      · obtain rfl : j = i.toNat := by omega
        exact hb
  · have hc : ¬ i < l.length := of_decide_eq_false hc
    obtain ⟨j, hj, rfl⟩ := List.getElem_of_mem hx
    have := i3 j (by omega)
    rwa [getD_get hj] at this

/-- A loop over a list without a state of its own. -/
theorem ok_all {F : Nat} {l : List β} {d : β} {body : β → Option α → Option α} {exit : Option α} (hF : l.length < F) (hl : l.length ≤ 1000000) (Q : List β → Prop) (h0 : Q l) (he : Q [] → Ok post exit)
    (hb : ∀ x r k, Q (x :: r) → x ∈ l → (Q r → Ok post k) → Ok post (body x k)) :
    Ok post (loopC (fun (x : Int) next => brk (decide (x < (l.length : Int))) (chk (0 ≤ x ∧ x < (l.length : Int)) (body (l.getD x.toNat d) (chk (InR (x + 1)) (next (x + 1))))) exit) F 0) := by
  refine ok_loop (fun x : Int => 0 ≤ x ∧ x ≤ l.length ∧ Q (l.drop x.toNat)) (fun x : Int => l.length - x.toNat) ⟨by simp, by simp, h0⟩ (by simp; omega) ?_
  rintro i next ⟨i1, i2, i3⟩ hn
  refine ok_brk (fun hc => ?_) (fun hc => he ?_)
  · have hc : i < l.length := of_decide_eq_true hc
    have hi : i.toNat < l.length := by omega
    rw [drop_get (d := d) hi] at i3
    refine ok_chk ⟨i1, hc⟩ (hb _ _ _ i3 (getD_mem hi) fun hq => ok_chk (show InR _ from ⟨by omega, by omega⟩) (hn _ ⟨by omega, by omega, ?_⟩ (by show l.length - (i + 1).toNat < l.length - i.toNat; omega)))
    rw [show (i + 1).toNat = i.toNat + 1 by omega]; exact hq
  · have hc : ¬ i < l.length := of_decide_eq_false hc
    rwa [List.drop_eq_nil_of_le (by omega)] at i3

/-- A loop over a list; what is to come is told of the list's rest. -/
theorem ok_rest {σ : Type} {F : Nat} {l : List β} {d : β} {body : σ → (σ → Option α) → Option α} {x0 : σ} (idx : σ → Int) (Q : σ → List β → Prop) (hl : l.length < F) (hi0 : idx x0 = 0) (h0 : Q x0 l)
    (hb : ∀ x next, 0 ≤ idx x → idx x < l.length → Q x (l.getD (idx x).toNat d :: l.drop ((idx x).toNat + 1)) → l.getD (idx x).toNat d ∈ l → (∀ y, idx y = idx x + 1 → Q y (l.drop ((idx x).toNat + 1)) → Ok post (next y)) → Ok post (body x next))
    (he : ∀ x next, idx x = l.length → Q x [] → Ok post (body x next)) : Ok post (loopC body F x0) := by
  refine ok_loop (fun x => 0 ≤ idx x ∧ idx x ≤ l.length ∧ Q x (l.drop (idx x).toNat)) (fun x => l.length - (idx x).toNat) ⟨by omega, by omega, by rw [hi0]; exact h0⟩ (by rw [hi0]; simp; omega) ?_
  rintro x next ⟨i1, i2, i3⟩ hn
  by_cases hc : idx x < l.length
  · have hi : (idx x).toNat < l.length := by omega
    rw [drop_get (d := d) hi] at i3
    refine hb x next i1 hc i3 (getD_mem hi) fun y hy hq => hn y ⟨by omega, by omega, ?_⟩ (by omega)
    rw [hy, show (idx x + 1).toNat = (idx x).toNat + 1 by omega]; exact hq
  · rw [List.drop_eq_nil_of_le (by omega)] at i3
    exact he x next (by omega) i3
end
end Go.KX

namespace Go.Proofs.Sp
open Go Go.KX

noncomputable def firstE : List (Job × Int) → Int
  | [] => 0
  | x :: l => if x.2 ≠ 0 then x.2 else firstE l
open Classical in
noncomputable def jobsV (f : Field) (t : Fleet) (l : List Flight) : List Job × Int :=
  if checkV f ≠ 0 then ([], checkV f) else if ¬ FleetOK f.Cells.length t then ([], 120) else if 12 < l.length then ([], 2)
  else if firstE (l.map (jobE f t)) ≠ 0 then ([], firstE (l.map (jobE f t))) else (l.map fun x => (jobE f t x).1, 0)

structure FlsB (l : List Flight) : Prop where
  len : l.length ≤ 1000
  p : ∀ x ∈ l, x.Path.length ≤ 1000

theorem jobs_eq {F : Nat} (hF : 2000 < F) {f : Field} {t : Fleet} {l : List Flight} (hl : f.Cells.length ≤ 100) (hb : FlsB l) : spill_jobs F f t l = some (jobsV f t l) := by
  refine Ok.eq ?_
  unfold spill_jobs jobsV
  refine ok_bnde (Check_eq (by show f.Cells.length < F; omega)) (ok_brk (fun hc => ?_) (fun hc => ?_))
  · have hc : checkV f ≠ 0 := by simpa using hc
    rw [if_pos hc]
    refine ok_join (by omega) (fun e : Int => e = checkV f) (fun e he => ?_) fun k hk => ?_
    · subst he
      exact ok_brkT (by simpa using hc) (ok_some rfl)
    · refine ok_brkF ?_ (hk _ rfl)
      rw [show (checkV f == 0) = false from beq_eq_false_iff_ne.2 hc]; rfl
  have hc : checkV f = 0 := by simpa using hc
  have hf := checkV_ok hc
  rw [if_neg (by omega)]
  refine ok_bnde (right_eq hl) (ok_brk (fun ht => ok_some ?_) (fun ht => ?_))
  · rw [if_pos (nd_true ht)]
  have ht := nd_false ht
  rw [if_neg (fun q => q ht)]
  refine ok_join (by omega) (fun e : Int => (e = 2 ∧ 12 < l.length) ∨ (e = 0 ∧ ¬ 12 < l.length)) (fun e he => ?_) fun k hk => ?_
  · rcases he with ⟨rfl, h12⟩ | ⟨rfl, h12⟩
    · exact ok_brkT rfl (ok_some (by rw [if_pos h12]))
    · rw [if_neg h12]
      refine ok_brkF rfl ?_
      refine ok_rest (d := f0) (fun x : List Job × Int => x.2) (fun x rest => firstE (l.map (jobE f t)) = firstE (rest.map (jobE f t)) ∧ x.1 ++ (rest.map fun x => (jobE f t x).1) = l.map fun x => (jobE f t x).1) (by have := hb.len; omega) rfl ⟨rfl, rfl⟩ ?_ ?_
      · rintro ⟨out, i⟩ next i1 i2 ⟨i3, i4⟩ hm hn
        simp only at i1 i2 i3 i4 hm hn
        dsimp only
        have hlen := hb.len
        have hol : out.length ≤ 1000 := by
          have := congrArg List.length i4
          simp only [List.length_append, List.length_map, List.map_cons, List.length_cons] at this
          omega
        refine ok_brkT (decide_eq_true (by omega)) (ok_chk ⟨i1, i2⟩ ?_)
        generalize hx : l.getD i.toNat f0 = x at i3 i4 hm
        refine ok_bnde (b := jobE f t x) (job_eq hF hf ht (x := ⟨x.From, x.Path⟩) (hb.p x hm)) (ok_brk (fun hq => ok_some ?_) (fun hq => ?_))
        · have hq : (jobE f t x).2 ≠ 0 := by simpa using hq
          have e : firstE ((x :: l.drop (i.toNat + 1)).map (jobE f t)) = (jobE f t x).2 := by rw [List.map_cons, firstE, if_pos hq]
          rw [i3, e, if_pos hq]
        · have hq : (jobE f t x).2 = 0 := by simpa using hq
          have e : firstE ((x :: l.drop (i.toNat + 1)).map (jobE f t)) = firstE ((l.drop (i.toNat + 1)).map (jobE f t)) := by rw [List.map_cons, firstE, if_neg (fun t => t hq)]
          refine ok_chk (by simp; omega) (ok_chk (show InR _ from ⟨by omega, by omega⟩) (hn _ rfl ⟨by rw [i3, e], ?_⟩))
          rw [← i4, List.map_cons]
          show (out ++ [(jobE f t x).1]) ++ _ = out ++ _
          rw [List.append_assoc]; rfl
      · rintro ⟨out, i⟩ next i1 ⟨i3, i4⟩
        simp only at i1 i3 i4
        dsimp only
        refine ok_brkF (decide_eq_false (by omega)) (ok_some ?_)
        rw [if_neg (by rw [i3]; simp [firstE])]
        simp only [List.map_nil, List.append_nil] at i4
        rw [i4]
  · refine ok_brk (fun h => hk _ (.inl ⟨rfl, by have := of_decide_eq_true h; omega⟩)) (fun h => hk _ (.inr ⟨rfl, by have := of_decide_eq_false h; omega⟩))

theorem asked_eq {F : Nat} (hF : 2000 < F) {f : Field} {t : Fleet} {l : List Flight} (hl : f.Cells.length ≤ 100) (hb : FlsB l) : ref11_asked F f t l = some (jobsV f t l).2 := by
  refine Ok.eq ?_
  unfold ref11_asked jobsV
  refine ok_bnde (refCheck_eq (by show f.Cells.length < F; omega)) (ok_brk (fun hc => ok_some ?_) (fun hc => ?_))
  · have hc : checkV f ≠ 0 := by simpa using hc
    rw [if_pos hc]
  have hc : checkV f = 0 := by simpa using hc
  have hf := checkV_ok hc
  rw [if_neg (by omega)]
  refine ok_bnde (refFleet_eq hl) (ok_brk (fun ht => ok_some ?_) (fun ht => ?_))
  · rw [if_pos (nd_true ht)]
  have ht := nd_false ht
  rw [if_neg (fun q => q ht)]
  refine ok_brk (fun h => ok_some (by rw [if_pos (by have := of_decide_eq_true h; omega)])) (fun h => ?_)
  rw [if_neg (by have := of_decide_eq_false h; omega)]
  refine ok_rest (d := f0) (fun x : Int => x) (fun x rest => firstE (l.map (jobE f t)) = firstE (rest.map (jobE f t))) (by have := hb.len; omega) rfl rfl ?_ ?_
  · rintro i next i1 i2 i3 hm hn
    have hlen := hb.len
    refine ok_brkT (decide_eq_true (by omega)) (ok_chk ⟨i1, i2⟩ ?_)
    generalize hx : l.getD i.toNat f0 = x at i3 hm
    refine ok_bnde (refWorth1_eq hF hf ht (x := ⟨x.From, x.Path⟩) (hb.p x hm)) (ok_brk (fun hq => ok_some ?_) (fun hq => ?_))
    · have hq : (jobE f t x).2 ≠ 0 := by simpa using hq
      have e : firstE ((x :: l.drop (i.toNat + 1)).map (jobE f t)) = (jobE f t x).2 := by rw [List.map_cons, firstE, if_pos hq]
      rw [i3, e, if_pos hq]
    · have hq : (jobE f t x).2 = 0 := by simpa using hq
      have e : firstE ((x :: l.drop (i.toNat + 1)).map (jobE f t)) = firstE ((l.drop (i.toNat + 1)).map (jobE f t)) := by rw [List.map_cons, firstE, if_neg (fun t => t hq)]
      exact ok_chk (show InR _ from ⟨by omega, by omega⟩) (hn _ rfl (by rw [i3, e]))
  · rintro i next i1 i3
    refine ok_brkF (decide_eq_false (by omega)) (ok_some ?_)
    rw [if_neg (by rw [i3]; simp [firstE])]

/-- What flights that are right are. -/
structure JobsR (f : Field) (t : Fleet) (l : List Flight) (J : List Job) : Prop where
  fo : FieldOK f
  fl : FleetOK f.Cells.length t
  ok : JobsOK J
  len : l.length = J.length
  l12 : J.length ≤ 12
  ev : ∀ i, i < J.length → jobE f t (l.getD i f0) = (J.getD i j0, 0)
  fr : ∀ i, i < J.length → (J.getD i j0).f_from = (l.getD i f0).From

theorem firstE_zero : ∀ {l : List (Job × Int)}, firstE l = 0 → ∀ x ∈ l, x.2 = 0
  | x :: l, h, y, hy => by
    unfold firstE at h
    by_cases q : x.2 ≠ 0
    · rw [if_pos q] at h; exact absurd h q
    · rw [if_neg q] at h
      rcases List.mem_cons.1 hy with rfl | hy
      · exact Classical.not_not.1 q
      · exact firstE_zero h y hy

theorem jobE_ok {f : Field} {t : Fleet} {x : Flight} (hf : FieldOK f) (ht : FleetOK f.Cells.length t) (hP : x.Path.length ≤ 1000) (h : (jobE f t x).2 = 0) : JobOK (jobE f t x).1 ∧ (jobE f t x).1.f_from = x.From ∧ PathOK f t.Base x.Path ∧ (jobE f t x).1.f_worth = worthV f x.Path := by
  obtain ⟨h1, h2, -, -⟩ := hours_spec ht.2.2.1 hP
  have hw := worth_bound hf x.Path
  unfold jobE at h ⊢
  split at h
  · cases h
  rename_i q1
  rw [if_neg q1]
  split at h
  · cases h
  rename_i q2
  rw [if_neg q2]
  split at h
  · cases h
  rename_i q3
  rw [if_neg q3]
  split at h
  · cases h
  rename_i q4
  rw [if_neg q4]
  have q1 := Classical.not_not.1 q1
  have q2 := Classical.not_not.1 q2
  exact ⟨⟨by show 0 ≤ x.From; omega, by show x.From < x.From + hoursV t x.Path; omega, by show x.From + hoursV t x.Path ≤ 48; omega, hw.1, hw.2⟩, rfl, q2, rfl⟩

theorem jobsV_zero {f : Field} {t : Fleet} {l : List Flight} (hb : FlsB l) (h : (jobsV f t l).2 = 0) : JobsR f t l (jobsV f t l).1 := by
  unfold jobsV at h ⊢
  split at h
  · rename_i q; exact absurd h q
  rename_i q1
  rw [if_neg q1]
  split at h
  · cases h
  rename_i q2
  rw [if_neg q2]
  split at h
  · cases h
  rename_i q3
  rw [if_neg q3]
  split at h
  · rename_i q; exact absurd h q
  rename_i q4
  rw [if_neg q4]
  have hf := checkV_ok (Classical.not_not.1 q1)
  have ht := Classical.not_not.1 q2
  have h0 : ∀ x ∈ l, (jobE f t x).2 = 0 := fun x hx => firstE_zero (Classical.not_not.1 q4) _ (List.mem_map_of_mem hx)
  have hat : ∀ i, i < l.length → (l.map fun x => (jobE f t x).1).getD i j0 = (jobE f t (l.getD i f0)).1 := fun i hi => by
    rw [getD_get (by simpa using hi), List.getElem_map, getD_get hi]
  refine ⟨hf, ht, ⟨by rw [List.length_map]; omega, fun j hj => ?_⟩, by rw [List.length_map], by rw [List.length_map]; omega, fun i hi => ?_, fun i hi => ?_⟩
  · obtain ⟨x, hx, rfl⟩ := List.mem_map.1 hj
    exact (jobE_ok hf ht (hb.p x hx) (h0 x hx)).1
  · rw [List.length_map] at hi
    show _ = ((l.map fun x => (jobE f t x).1).getD i j0, 0)
    rw [hat i hi]
    exact Prod.ext rfl (h0 _ (getD_mem hi))
  · rw [List.length_map] at hi
    show ((l.map fun x => (jobE f t x).1).getD i j0).f_from = _
    rw [hat i hi]
    exact (jobE_ok hf ht (hb.p _ (getD_mem hi)) (h0 _ (getD_mem hi))).2.1
end Go.Proofs.Sp

namespace Go.Proofs.Sp
open Go Go.KX

/-- The greatest worth of a right choice. -/
structure Opt (J : List Job) (k n : Int) : Prop where
  has : ∃ ch, ch.length = J.length ∧ (∀ h, h < 48 → cov J ch h ≤ k) ∧ val J ch = n
  le : ∀ ch, (∀ h, h < 48 → cov J ch h ≤ k) → val J ch ≤ n
theorem Opt.one {J : List Job} {k n m : Int} (h : Opt J k n) (h' : Opt J k m) : n = m := by
  obtain ⟨c, _, c1, c2⟩ := h.has
  obtain ⟨d, _, d1, d2⟩ := h'.has
  have := h.le d d1
  have := h'.le c c1
  omega

theorem ChOK.cov {J : List Job} {k : Int} {ch : List Bool} {idle : List Int} {p : Nat → Int} (h : ChOK J k ch idle p) : ∀ q, q < 48 → Sp.cov J ch q ≤ k := fun q hq => by
  have := h.ct q hq
  have := h.i0 q hq
  omega

theorem ChOK.opt {J : List Job} (hJ : JobsOK J) {k : Int} {ch : List Bool} {idle : List Int} {p : Nat → Int} (h : ChOK J k ch idle p) : Opt J k (val J ch) := by
  refine ⟨⟨ch, h.lc, h.cov, rfl⟩, fun ch' hc' => ?_⟩
  obtain ⟨r, _, hr⟩ := costs_ok (F := 1000000000000) (by omega) hJ h.lc h.li h.fs h.p0 h.pb
  obtain ⟨s1, s2⟩ := strong hJ h.lc h.i0 h.ct hr.fs
  rw [← s2]
  exact weak s1 hc'

theorem val_bound {J : List Job} (hJ : JobsOK J) (ch : List Bool) (n : Nat) (hn : n ≤ J.length) : 0 ≤ (sumN n fun i => if ch.getD i false = true then (J.getD i j0).f_worth else 0) ∧ (sumN n fun i => if ch.getD i false = true then (J.getD i j0).f_worth else 0) ≤ 768000000 := by
  have b1 := sumN_nonneg (f := fun i => if ch.getD i false = true then (J.getD i j0).f_worth else 0) n fun i hi => by
    have := hJ.at (show i < J.length by omega)
    obtain ⟨_, _, _, w0, w1⟩ := this
    split <;> omega
  have b2 := sumN_bound (f := fun i => if ch.getD i false = true then (J.getD i j0).f_worth else 0) (B := 64000000) n fun i hi => by
    have := hJ.at (show i < J.length by omega)
    obtain ⟨_, _, _, w0, w1⟩ := this
    split <;> omega
  have := hJ.len
  omega

theorem Best_ok {F : Nat} (hF : 100000000000 < F) {f : Field} {t : Fleet} {l : List Flight} (hl : f.Cells.length ≤ 100) (hb : FlsB l) :
    Ok (fun r : List Bool × Int × Int => ((jobsV f t l).2 ≠ 0 ∧ r = ([], 0, (jobsV f t l).2)) ∨ ((jobsV f t l).2 = 0 ∧ r.2.2 = 0 ∧ r.1.length = (jobsV f t l).1.length ∧ (∀ h, h < 48 → cov (jobsV f t l).1 r.1 h ≤ t.Count) ∧ val (jobsV f t l).1 r.1 = r.2.1 ∧ Opt (jobsV f t l).1 t.Count r.2.1)) (spill_Best F f t l) := by
  unfold spill_Best
  refine ok_bnde (jobs_eq (by omega) hl hb) (ok_brk (fun h => ok_some (.inl ⟨by simpa using h, rfl⟩)) (fun h => ?_))
  have hz : (jobsV f t l).2 = 0 := by simpa using h
  have hR := jobsV_zero hb hz
  generalize hJv : (jobsV f t l).1 = J at hR ⊢
  have hk := hR.fl.2.2.2
  refine ok_bnd _ (choose_ok hF hR.ok (by omega)) ?_
  rintro ⟨ch, idle⟩ ⟨p, hC⟩
  simp only at hC
  dsimp only
  have hJl := hR.l12
  have hlc := hC.lc
  refine ok_loop (fun x : Int × Int => 0 ≤ x.2 ∧ x.2 ≤ J.length ∧ x.1 = sumN x.2.toNat fun i => if ch.getD i false = true then (J.getD i j0).f_worth else 0) (fun x => J.length - x.2.toNat) ⟨by simp, by simp, rfl⟩ (by simp; omega) ?_
  rintro ⟨n, i⟩ next ⟨i1, i2, i3⟩ hn
  simp only at i1 i2 i3
  dsimp only
  refine ok_brk (fun hc => ?_) (fun hc => ok_some ?_)
  · have hc : i < J.length := of_decide_eq_true hc
    have hst : (sumN (i + 1).toNat fun i => if ch.getD i false = true then (J.getD i j0).f_worth else 0) = n + if ch.getD i.toNat false = true then (J.getD i.toNat j0).f_worth else 0 := by
      rw [show (i + 1).toNat = i.toNat + 1 by omega]
      simp only [sumN]
      rw [← i3]
    have b1 := val_bound hR.ok ch i.toNat (by omega)
    have b2 := val_bound hR.ok ch (i + 1).toNat (by omega)
    refine ok_join (by omega) (fun y : Int => y = sumN (i + 1).toNat fun i => if ch.getD i false = true then (J.getD i j0).f_worth else 0) (fun y hy => ok_chk (show InR _ from ⟨by omega, by omega⟩) (hn _ ⟨by show 0 ≤ i + 1; omega, by show i + 1 ≤ _; omega, hy⟩ (by show J.length - (i + 1).toNat < J.length - i.toNat; omega))) fun k hk => ?_
    refine ok_chk ⟨i1, hc⟩ (ok_chk ⟨i1, by omega⟩ (ok_brk (fun hb => ?_) (fun hb => ?_)))
    · rw [if_pos hb] at hst
      exact ok_chk (show InR _ from ⟨by show -9223372036854775808 ≤ n + (J.getD i.toNat j0).f_worth; omega, by show n + (J.getD i.toNat j0).f_worth ≤ _; omega⟩) (hk _ hst.symm)
    · rw [if_neg (by rw [hb]; exact Bool.false_ne_true)] at hst
      exact hk _ (by omega)
  · have hc : ¬ i < J.length := of_decide_eq_false hc
    rw [show i.toNat = J.length by omega] at i3
    have e : val J ch = n := i3.symm
    refine .inr ⟨hz, rfl, hlc, hC.cov, e, ?_⟩
    show Opt J t.Count n
    rw [← e]; exact hC.opt hR.ok

structure PrR (J : List Job) (k : Int) (pr : List Int) : Prop where
  l : pr.length = 48
  b : ∀ h, h < 48 → 0 ≤ pr.getD h 0 ∧ pr.getD h 0 ≤ 1000000000
  o : Opt J k (bnd' J k fun h => pr.getD h 0)

theorem tot_congr {J : List Job} {p q : Nat → Int} (h : ∀ i, i < 48 → p i = q i) (i : Nat) : tot J p i = tot J q i := by
  unfold tot
  apply sumN_congr
  intro x hx
  rw [h x hx]
theorem bnd_congr {J : List Job} {k : Int} {p q : Nat → Int} (h : ∀ i, i < 48 → p i = q i) : bnd' J k p = bnd' J k q := by
  unfold bnd'
  rw [sumN_congr 48 h]
  congr 1
  apply sumN_congr
  intro i _
  rw [tot_congr h]

theorem Prices_ok {F : Nat} (hF : 100000000000 < F) {f : Field} {t : Fleet} {l : List Flight} (hl : f.Cells.length ≤ 100) (hb : FlsB l) :
    Ok (fun r : List Int × Int => ((jobsV f t l).2 ≠ 0 ∧ r = ([], (jobsV f t l).2)) ∨ ((jobsV f t l).2 = 0 ∧ r.2 = 0 ∧ PrR (jobsV f t l).1 t.Count r.1)) (spill_Prices F f t l) := by
  unfold spill_Prices
  refine ok_bnde (jobs_eq (by omega) hl hb) (ok_brk (fun h => ok_some (.inl ⟨by simpa using h, rfl⟩)) (fun h => ?_))
  have hz : (jobsV f t l).2 = 0 := by simpa using h
  have hR := jobsV_zero hb hz
  generalize hJv : (jobsV f t l).1 = J at hR ⊢
  have hk := hR.fl.2.2.2
  refine ok_bnd _ (choose_ok hF hR.ok (by omega)) ?_
  rintro ⟨ch, idle⟩ ⟨p, hC⟩
  simp only at hC
  dsimp only
  refine ok_bnd _ (costs_ok hF hR.ok hC.lc hC.li hC.fs hC.p0 hC.pb) ?_
  rintro ⟨cost, bys⟩ ⟨hci, hfs⟩
  simp only at hci hfs
  dsimp only
  obtain ⟨s1, s2⟩ := strong hR.ok hC.lc hC.i0 hC.ct hfs
  have hlc := hci.lc
  have hcb : ∀ v, v < 49 → -1000000000 ≤ cost.getD v 0 ∧ cost.getD v 0 ≤ 0 := fun v hv => ⟨by have := hci.lo v hv; have := hC.pb v hv; omega, hci.hi v hv⟩
  have hr48 : (List.replicate (Int.toNat 48) (0 : Int)).length = 48 := by rw [List.length_replicate]; rfl
  rw [hr48]
  refine ok_chk ⟨by omega, by omega, by omega⟩ ?_
  refine ok_loop (fun x : Int × List Int => 0 ≤ x.1 ∧ x.1 ≤ 48 ∧ x.2.length = 48 ∧ ∀ h : Nat, (h : Int) < x.1 → x.2.getD h 0 = prc cost h) (fun x => 48 - x.1.toNat) ⟨by simp, by simp, hr48, fun h hh => by (have hh : (h : Int) < 0 := hh); omega⟩ (by simp; omega) ?_
  rintro ⟨i, pr⟩ next ⟨i1, i2, i3, i4⟩ hn
  simp only at i1 i2 i3 i4
  dsimp only
  refine ok_brk (fun hc => ?_) (fun hc => ok_some ?_)
  · have hc : i < ((48 : Nat) : Int) := of_decide_eq_true hc
    have b1 := hcb i.toNat (by omega)
    have b2 := hcb (i + 1).toNat (by omega)
    refine ok_chk ⟨i1, by omega⟩ (ok_chk (show InR _ from ⟨by omega, by omega⟩) (ok_chk ⟨by omega, by omega⟩ (ok_chk (show InR _ from ⟨by omega, by omega⟩) (ok_chk ⟨i1, by omega⟩ (ok_chk (show InR _ from ⟨by omega, by omega⟩) (hn _ ⟨by show 0 ≤ i + 1; omega, by show i + 1 ≤ 48; omega, by show (pr.set _ _).length = 48; rw [List.length_set]; exact i3, fun h hh => ?_⟩ (by show 48 - (i + 1).toNat < 48 - i.toNat; omega)))))))
    have hh : (h : Int) < i + 1 := hh
    show (pr.set i.toNat (cost.getD i.toNat 0 - cost.getD (i + 1).toNat 0)).getD h 0 = prc cost h
    rw [getD_set' (by omega)]
    by_cases e : i.toNat = h
    · rw [if_pos e, ← e]
      unfold prc
      rw [show (i + 1).toNat = i.toNat + 1 by omega]
    · rw [if_neg e]; exact i4 h (by omega)
  · have hc : ¬ i < ((48 : Nat) : Int) := of_decide_eq_false hc
    have e : ∀ h, h < 48 → pr.getD h 0 = prc cost h := fun h hh => i4 h (by omega)
    refine .inr ⟨hz, rfl, i3, fun h hh => ?_, ?_⟩
    · show 0 ≤ pr.getD h 0 ∧ pr.getD h 0 ≤ 1000000000
      rw [e h hh]
      have := s1 h hh
      have := hcb h (by omega)
      have := hcb (h + 1) (by omega)
      unfold prc at *
      omega
    · show Opt J t.Count (bnd' J t.Count fun h => pr.getD h 0)
      rw [bnd_congr (q := prc cost) e, s2]
      exact hC.opt hR.ok

/-! ### Bounds -/

theorem seg {g : Nat → Int} {a b : Nat} (hab : a ≤ b) : ∀ n : Nat, (sumN n fun h => if (a : Int) ≤ h ∧ (h : Int) < b then g h else 0) = sumN (min n b - a) fun q => g (a + q)
  | 0 => by rw [show min 0 b - a = 0 by omega]; rfl
  | n + 1 => by
    have ih := seg (g := g) hab n
    simp only [sumN]
    rw [ih]
    by_cases q : a ≤ n ∧ n < b
    · rw [if_pos (⟨by omega, by omega⟩ : (a : Int) ≤ n ∧ (n : Int) < b), show min (n + 1) b - a = (min n b - a) + 1 by omega]
      simp only [sumN]
      rw [show a + (min n b - a) = n by omega]
    · rw [if_neg (fun t : (a : Int) ≤ n ∧ (n : Int) < b => q ⟨by omega, by omega⟩)]
      by_cases q2 : n < b
      · rw [show min (n + 1) b - a = 0 by omega, show min n b - a = 0 by omega]; rfl
      · rw [show min (n + 1) b = b by omega, show min n b = b by omega]; omega

theorem tot_seg {J : List Job} (hJ : JobsOK J) {i : Nat} (hi : i < J.length) (pr : Nat → Int) : tot J pr i = sumN ((J.getD i j0).f_to - (J.getD i j0).f_from).toNat fun q => pr ((J.getD i j0).f_from.toNat + q) := by
  obtain ⟨j1, j2, j3, j4, j5⟩ := hJ.at hi
  have := seg (g := pr) (a := (J.getD i j0).f_from.toNat) (b := (J.getD i j0).f_to.toNat) (by omega) 48
  rw [show min 48 (J.getD i j0).f_to.toNat - (J.getD i j0).f_from.toNat = ((J.getD i j0).f_to - (J.getD i j0).f_from).toNat by omega, show (((J.getD i j0).f_from.toNat : Nat) : Int) = (J.getD i j0).f_from by omega, show (((J.getD i j0).f_to.toNat : Nat) : Int) = (J.getD i j0).f_to by omega] at this
  exact this

abbrev PrB (pr : List Int) : Prop := ∀ n ∈ pr, 0 ≤ n ∧ n ≤ 1000000000
theorem PrB.get {pr : List Int} (h : PrB pr) (i : Nat) : 0 ≤ pr.getD i 0 ∧ pr.getD i 0 ≤ 1000000000 := by
  by_cases hi : i < pr.length
  · exact h _ (getD_mem hi)
  · rw [List.getD_eq_getElem?_getD, List.getElem?_eq_none (Nat.le_of_not_lt hi)]; exact ⟨by show (0 : Int) ≤ 0; omega, by show (0 : Int) ≤ _; omega⟩

open Classical in
noncomputable def boundV (f : Field) (t : Fleet) (l : List Flight) (pr : List Int) : Int × Int :=
  if (jobsV f t l).2 ≠ 0 then (0, (jobsV f t l).2) else if pr.length ≠ 48 then (0, 1) else if ¬ PrB pr then (0, 6) else (bnd' (jobsV f t l).1 t.Count fun h => pr.getD h 0, 0)

/-- Sums of prices are small. -/
theorem pr_bound {pr : List Int} (h : PrB pr) (a n : Nat) : 0 ≤ (sumN n fun q => pr.getD (a + q) 0) ∧ (sumN n fun q => pr.getD (a + q) 0) ≤ 1000000000 * n :=
  ⟨sumN_nonneg _ fun q _ => (h.get _).1, sumN_bound _ fun q _ => (h.get _).2⟩

theorem part_bound {J : List Job} (hJ : JobsOK J) {pr : List Int} (h : PrB pr) (n : Nat) (hn : n ≤ J.length) : 0 ≤ (sumN n fun i => max0 ((J.getD i j0).f_worth - tot J (fun h => pr.getD h 0) i)) ∧ (sumN n fun i => max0 ((J.getD i j0).f_worth - tot J (fun h => pr.getD h 0) i)) ≤ 768000000 := by
  have b1 := sumN_nonneg (f := fun i => max0 ((J.getD i j0).f_worth - tot J (fun h => pr.getD h 0) i)) n fun i _ => (max0_ge _).2
  have b2 := sumN_bound (f := fun i => max0 ((J.getD i j0).f_worth - tot J (fun h => pr.getD h 0) i)) (B := 64000000) n fun i hi => by
    obtain ⟨_, _, _, w0, w1⟩ := hJ.at (show i < J.length by omega)
    have : 0 ≤ tot J (fun h => pr.getD h 0) i := sumN_nonneg _ fun q _ => by
      have := (h.get q).1
      split <;> omega
    unfold max0
    split <;> omega
  have := hJ.len
  omega

theorem mul_bd {k c B : Int} (hk : 0 ≤ k ∧ k ≤ 6) (hc : 0 ≤ c ∧ c ≤ B) : 0 ≤ k * c ∧ k * c ≤ 6 * B :=
  ⟨Int.mul_nonneg hk.1 hc.1, Int.le_trans (Int.mul_le_mul_of_nonneg_right hk.2 hc.1) (Int.mul_le_mul_of_nonneg_left hc.2 (by omega))⟩

theorem bound1_eq (F : Nat) (c : Int) : spill_Bound_1 F c = some (!decide (0 ≤ c ∧ c ≤ 1000000000)) := by
  show some (!(decide (c ≥ 0) && decide (c ≤ 1000000000))) = _
  rw [wd]

theorem Bound_eq {F : Nat} (hF : 100000000000 < F) {f : Field} {t : Fleet} {l : List Flight} {pr : List Int} (hl : f.Cells.length ≤ 100) (hb : FlsB l) (hpl : pr.length ≤ 1000) : spill_Bound F f t l pr = some (boundV f t l pr) := by
  refine Ok.eq ?_
  unfold spill_Bound boundV
  refine ok_bnde (jobs_eq (by omega) hl hb) (ok_brk (fun h => ok_some (by rw [if_pos (by simpa using h)])) (fun h => ?_))
  have hz : (jobsV f t l).2 = 0 := by simpa using h
  have hR := jobsV_zero hb hz
  rw [if_neg (fun q => q hz)]
  generalize hJv : (jobsV f t l).1 = J at hR ⊢
  have hk := hR.fl.2.2.2
  have hJl := hR.l12
  refine ok_brk (fun h => ok_some ?_) (fun h => ?_)
  · have h : (pr.length : Int) ≠ 48 := by simpa using h
    rw [if_pos (by omega)]
  have h : (pr.length : Int) = 48 := by simpa using h
  have h48 : pr.length = 48 := by omega
  rw [if_neg (fun q => q h48)]
  refine ok_join (by omega) (fun i : Int => (i = -1 ∧ PrB pr) ∨ (0 ≤ i ∧ ¬ PrB pr)) (fun i hi => ok_brk (fun hb => ok_some ?_) (fun hb => ?_)) fun k hk => ?_
  · have hb : i ≥ 0 := of_decide_eq_true hb
    rcases hi with ⟨rfl, _⟩ | ⟨_, q⟩
    · omega
    · rw [if_pos q]
  · have hb : ¬ i ≥ 0 := of_decide_eq_false hb
    have hp : PrB pr := by
      rcases hi with ⟨_, q⟩ | ⟨q, _⟩
      · exact q
      · omega
    rw [if_neg (fun q => q hp)]
    rw [h48]
    have sb := fun n => pr_bound hp 0 n
    simp only [Nat.zero_add] at sb
    refine ok_loop (fun x : Int × Int => 0 ≤ x.1 ∧ x.1 ≤ 48 ∧ x.2 = t.Count * sumN x.1.toNat fun h => pr.getD h 0) (fun x => 48 - x.1.toNat) ⟨by simp, by simp, by show 0 = t.Count * 0; rw [Int.mul_zero]⟩ (by simp; omega) ?_
    rintro ⟨i, s⟩ next ⟨i1, i2, i3⟩ hn
    simp only at i1 i2 i3
    dsimp only
    refine ok_brk (fun hc => ?_) (fun hc => ?_)
    · have hc : i < ((48 : Nat) : Int) := of_decide_eq_true hc
      have b0 := sb i.toNat
      have b1 := mul_bd (k := t.Count) (c := sumN i.toNat fun h => pr.getD h 0) (B := 48000000000) ⟨by omega, hk.2⟩ ⟨b0.1, by omega⟩
      have b2 := mul_bd ⟨by omega, hk.2⟩ (hp.get i.toNat)
      have hst : (t.Count * sumN (i + 1).toNat fun h => pr.getD h 0) = s + t.Count * pr.getD i.toNat 0 := by
        rw [show (i + 1).toNat = i.toNat + 1 by omega]
        simp only [sumN]
        rw [Int.mul_add, i3]
      rw [← i3] at b1
      exact ok_chk ⟨i1, hc⟩ (ok_chk (show InR _ from ⟨by omega, by omega⟩) (ok_chk (show InR _ from ⟨by omega, by omega⟩) (ok_chk (show InR _ from ⟨by omega, by omega⟩) (hn _ ⟨by show 0 ≤ i + 1; omega, by show i + 1 ≤ 48; omega, hst.symm⟩ (by show 48 - (i + 1).toNat < 48 - i.toNat; omega)))))
    have hc : ¬ i < ((48 : Nat) : Int) := of_decide_eq_false hc
    have b0 := sb 48
    have b1 := mul_bd (k := t.Count) (c := sumN 48 fun h => pr.getD h 0) (B := 48000000000) ⟨by omega, hk.2⟩ ⟨b0.1, by omega⟩
    rw [show i.toNat = 48 by omega] at i3
    clear hn
    rw [← i3] at b1
    refine ok_loop (fun x : Int × Int => 0 ≤ x.2 ∧ x.2 ≤ J.length ∧ x.1 = s + sumN x.2.toNat fun i => max0 ((J.getD i j0).f_worth - tot J (fun h => pr.getD h 0) i)) (fun x => J.length - x.2.toNat) ⟨by simp, by simp, by show s = s + 0; omega⟩ (by simp; omega) ?_
    rintro ⟨w, j⟩ next ⟨c1, c2, c3⟩ hn
    simp only at c1 c2 c3
    dsimp only
    refine ok_brk (fun hc => ?_) (fun hc => ok_some ?_)
    · have hc : j < J.length := of_decide_eq_true hc
      have hj : j.toNat < J.length := by omega
      have hts := tot_seg hR.ok hj fun h => pr.getD h 0
      obtain ⟨j1, j2, j3, j4, j5⟩ := hR.ok.at hj
      have p1 := part_bound hR.ok hp j.toNat (by omega)
      have p2 := part_bound hR.ok hp (j + 1).toNat (by omega)
      have hst : (sumN (j + 1).toNat fun i => max0 ((J.getD i j0).f_worth - tot J (fun h => pr.getD h 0) i)) = (sumN j.toNat fun i => max0 ((J.getD i j0).f_worth - tot J (fun h => pr.getD h 0) i)) + max0 ((J.getD j.toNat j0).f_worth - tot J (fun h => pr.getD h 0) j.toNat) := by
        rw [show (j + 1).toNat = j.toNat + 1 by omega]; rfl
      have hat : (J.getD j.toNat (Job.mk (0 : Int) (0 : Int) (0 : Int))) = J.getD j.toNat j0 := rfl
      rw [hat]
      have qb := fun n => pr_bound hp (J.getD j.toNat j0).f_from.toNat n
      generalize J.getD j.toNat j0 = X at j1 j2 j3 j4 j5 hts hst qb ⊢
      refine ok_chk ⟨c1, hc⟩ (ok_chk ⟨j1, by omega, by omega⟩ ?_)
      refine ok_loop (fun x : Int × Int => 0 ≤ x.1 ∧ x.1 ≤ X.f_to - X.f_from ∧ x.2 = X.f_worth - sumN x.1.toNat fun q => pr.getD (X.f_from.toNat + q) 0) (fun x => 48 - x.1.toNat) ⟨by simp, by show (0 : Int) ≤ _; omega, by show X.f_worth = X.f_worth - 0; omega⟩ (by simp; omega) ?_
      rintro ⟨q, left⟩ next1 ⟨d1, d2, d3⟩ hn1
      simp only at d1 d2 d3
      dsimp only
      have q0 := qb q.toNat
      refine ok_brk (fun hd => ?_) (fun hd => ?_)
      · have hd : q < X.f_to - X.f_from := of_decide_eq_true hd
        rw [show (X.f_from + q).toNat = X.f_from.toNat + q.toNat by omega]
        have gq := hp.get (X.f_from.toNat + q.toNat)
        refine ok_chk ⟨d1, hd⟩ (ok_chk (show InR _ from ⟨by omega, by omega⟩) (ok_chk (show InR _ from ⟨by omega, by omega⟩) (hn1 _ ⟨by show 0 ≤ q + 1; omega, by show q + 1 ≤ _; omega, ?_⟩ (by show 48 - (q + 1).toNat < 48 - q.toNat; omega))))
        show left - _ = X.f_worth - sumN (q + 1).toNat _
        rw [show (q + 1).toNat = q.toNat + 1 by omega]
        simp only [sumN]
        omega
      · have hd : ¬ q < X.f_to - X.f_from := of_decide_eq_false hd
        have e : left = X.f_worth - tot J (fun h => pr.getD h 0) j.toNat := by
          rw [hts, d3, show q.toNat = (X.f_to - X.f_from).toNat by omega]
        have em : (if left > 0 then left else 0) = max0 (X.f_worth - tot J (fun h => pr.getD h 0) j.toNat) := by rw [← e]; rfl
        rw [em]
        have hm := max0_ge (X.f_worth - tot J (fun h => pr.getD h 0) j.toNat)
        exact ok_chk (show InR _ from ⟨by omega, by omega⟩) (ok_chk (show InR _ from ⟨by omega, by omega⟩) (hn _ ⟨by show 0 ≤ j + 1; omega, by show j + 1 ≤ _; omega, by show w + _ = s + sumN (j + 1).toNat _; omega⟩ (by show J.length - (j + 1).toNat < J.length - j.toNat; omega)))
    · have hc : ¬ j < J.length := of_decide_eq_false hc
      rw [show j.toNat = J.length by omega] at c3
      rw [c3, i3]; rfl
  · refine ok_find (p := fun c => !decide (0 ≤ c ∧ c ≤ 1000000000)) (by omega) (by omega) (fun c _ => bound1_eq F c) (fun i hi hp => hk _ (.inr ⟨by omega, fun q => nd_true hp (q _ (getD_mem hi))⟩)) (fun hp => hk _ (.inl ⟨rfl, fun c hc => nd_false (hp c hc)⟩))
end Go.Proofs.Sp

namespace Go.Proofs.Sp
open Go Go.KX

/-! ### Choices as numbers -/

def bitI (s : Int) (i : Nat) : Bool := s / 2 ^ i % 2 == 1
theorem bitI_zero (s : Int) : bitI s 0 = (s % 2 == 1) := by unfold bitI; rw [Int.pow_zero, Int.ediv_one]
theorem ediv_pow_succ (s : Int) (i : Nat) : s / 2 ^ (i + 1) = s / 2 / 2 ^ i := by
  rw [Int.pow_succ, Int.mul_comm, Int.ediv_ediv_of_nonneg (by omega)]
theorem bitI_succ (s : Int) (i : Nat) : bitI s (i + 1) = bitI (s / 2) i := by unfold bitI; rw [ediv_pow_succ]

def encB : Nat → (Nat → Bool) → Nat
  | 0, _ => 0
  | n + 1, b => (if b 0 = true then 1 else 0) + 2 * encB n fun i => b (i + 1)
theorem enc_lt : ∀ (n : Nat) (b : Nat → Bool), encB n b < 2 ^ n
  | 0, _ => by simp [encB]
  | n + 1, b => by
    have := enc_lt n fun i => b (i + 1)
    simp only [encB]
    rw [Nat.pow_succ]
    split <;> omega
theorem enc_bit : ∀ (n : Nat) (b : Nat → Bool) (i : Nat), i < n → bitI (encB n b : Int) i = b i
  | n + 1, b, 0, _ => by
    rw [bitI_zero]
    simp only [encB]
    push_cast
    by_cases q : b 0 = true
    · rw [if_pos q, q]; simp
    · rw [if_neg q]
      have : b 0 = false := by simpa using q
      rw [this]; simp
  | n + 1, b, i + 1, hi => by
    have ih := enc_bit n (fun i => b (i + 1)) i (by omega)
    rw [bitI_succ]
    rw [show ((encB (n + 1) b : Nat) : Int) / 2 = (encB n fun i => b (i + 1) : Int) by
      simp only [encB]; push_cast; split <;> omega]
    exact ih

theorem pow12 {n : Nat} (h : n ≤ 12) : (1 : Int) ≤ 2 ^ n ∧ (2 : Int) ^ n ≤ 4096 := by
  have : n = 0 ∨ n = 1 ∨ n = 2 ∨ n = 3 ∨ n = 4 ∨ n = 5 ∨ n = 6 ∨ n = 7 ∨ n = 8 ∨ n = 9 ∨ n = 10 ∨ n = 11 ∨ n = 12 := by omega
  rcases this with rfl | rfl | rfl | rfl | rfl | rfl | rfl | rfl | rfl | rfl | rfl | rfl | rfl <;> decide

/-- The choice that a number is. -/
def chS (n : Nat) (s : Int) : List Bool := (List.range n).map (bitI s)
theorem chS_get {n : Nat} {s : Int} {i : Nat} (hi : i < n) : (chS n s).getD i false = bitI s i := by
  unfold chS
  rw [getD_get (by simpa using hi), List.getElem_map, List.getElem_range]

theorem val_congr {J : List Job} {c d : List Bool} (h : ∀ i, i < J.length → c.getD i false = d.getD i false) : val J c = val J d := by
  unfold val
  apply sumN_congr
  intro i hi
  rw [h i hi]
theorem cov_congr {J : List Job} {c d : List Bool} (h : ∀ i, i < J.length → c.getD i false = d.getD i false) (q : Nat) : cov J c q = cov J d q := by
  unfold cov
  apply sumN_congr
  intro i hi
  rw [h i hi]

/-! ### Parts of a choice -/

def covP (J : List Job) (ch : List Bool) (n q : Nat) : Int := sumN n fun i => if ch.getD i false = true ∧ on J i q then 1 else 0
def valP (J : List Job) (ch : List Bool) (n : Nat) : Int := sumN n fun i => if ch.getD i false = true then (J.getD i j0).f_worth else 0

theorem sumN_mono {f : Nat → Int} {m n : Nat} (h : m ≤ n) (hf : ∀ i, i < n → 0 ≤ f i) : sumN m f ≤ sumN n f := by
  induction n with
  | zero =>
    obtain rfl : m = 0 := by omega
    exact Int.le_refl _
  | succ n ih =>
    by_cases e : m = n + 1
    · subst e; exact Int.le_refl _
    · have := ih (by omega) fun i hi => hf i (by omega)
      have := hf n (by omega)
      simp only [sumN]; omega
theorem covP_le {J : List Job} {ch : List Bool} {n q : Nat} (h : n ≤ J.length) : covP J ch n q ≤ cov J ch q := sumN_mono h fun i _ => by split <;> omega
theorem covP_bound {J : List Job} {ch : List Bool} {n q : Nat} : 0 ≤ covP J ch n q ∧ covP J ch n q ≤ n := by
  have b1 := sumN_nonneg (f := fun i => if ch.getD i false = true ∧ on J i q then (1 : Int) else 0) n fun i _ => by split <;> omega
  have b2 := sumN_bound (f := fun i => if ch.getD i false = true ∧ on J i q then (1 : Int) else 0) (B := 1) n fun i _ => by split <;> omega
  unfold covP
  omega
theorem covP_succ (J : List Job) (ch : List Bool) (n q : Nat) : covP J ch (n + 1) q = covP J ch n q + if ch.getD n false = true ∧ on J n q then 1 else 0 := rfl
theorem valP_succ (J : List Job) (ch : List Bool) (n : Nat) : valP J ch (n + 1) = valP J ch n + if ch.getD n false = true then (J.getD n j0).f_worth else 0 := rfl

theorem refRight_eq {F : Nat} (hF : 2000 < F) {f : Field} {t : Fleet} {l : List Flight} {J : List Job} (hfb : FlsB l) (hR : JobsR f t l J) {ch : List Bool} (hl : ch.length = J.length) (hc : ∀ h, h < 48 → cov J ch h ≤ t.Count) :
    ref11_Right F f t l ch = some (true, val J ch) := by
  refine Ok.eq ?_
  have hk := hR.fl.2.2.2
  have hJl := hR.l12
  have hll := hR.len
  have hr48 : (List.replicate (Int.toNat 48) (0 : Int)).length = 48 := by rw [List.length_replicate]; rfl
  have hz : ∀ h, (List.replicate (Int.toNat 48) (0 : Int)).getD h 0 = 0 := fun h => by
    by_cases hi : h < (List.replicate (Int.toNat 48) (0 : Int)).length
    · rw [getD_get hi, List.getElem_replicate]
    · rw [List.getD_eq_getElem?_getD, List.getElem?_eq_none (Nat.le_of_not_lt hi)]; rfl
  unfold ref11_Right
  refine ok_chk ⟨by omega, by omega, by omega⟩ ?_
  refine ok_loop (fun x : Int × Int × List Int => 0 ≤ x.1 ∧ x.1 ≤ J.length ∧ x.2.1 = valP J ch x.1.toNat ∧ x.2.2.length = 48 ∧ ∀ q : Nat, q < 48 → x.2.2.getD q 0 = covP J ch x.1.toNat q) (fun x => J.length - x.1.toNat)
    ⟨by simp, by simp, rfl, hr48, fun q _ => hz q⟩ (by simp; omega) ?_
  rintro ⟨i, n, air⟩ next ⟨i1, i2, i3, i4, i5⟩ hn
  simp only at i1 i2 i3 i4 i5
  dsimp only
  rw [hl, hll]
  refine ok_brk (fun hb => ?_) (fun hb => ok_some ?_)
  · simp only [Bool.and_eq_true, decide_eq_true_eq] at hb
    have hi : i.toNat < J.length := by omega
    have st1 := valP_succ J ch i.toNat
    rw [show i.toNat + 1 = (i + 1).toNat by omega] at st1
    have st2 : ∀ q, covP J ch (i + 1).toNat q = covP J ch i.toNat q + if ch.getD i.toNat false = true ∧ on J i.toNat q then 1 else 0 := fun q => by rw [show (i + 1).toNat = i.toNat + 1 by omega]; rfl
    refine ok_join (by omega) (fun y : Int × List Int => y.1 = valP J ch (i + 1).toNat ∧ y.2.length = 48 ∧ ∀ q : Nat, q < 48 → y.2.getD q 0 = covP J ch (i + 1).toNat q) (fun y hy => ok_chk (show InR _ from ⟨by omega, by omega⟩) (hn _ ⟨by show 0 ≤ i + 1; omega, by show i + 1 ≤ _; omega, hy.1, hy.2.1, hy.2.2⟩ (by show J.length - (i + 1).toNat < J.length - i.toNat; omega))) fun k hk2 => ?_
    refine ok_chk ⟨i1, by omega⟩ (ok_brk (fun hq => ?_) (fun hq => ?_))
    · have hq : ¬ ch.getD i.toNat false = true := by simpa using hq
      rw [if_neg hq] at st1
      refine hk2 _ ⟨by show n = _; omega, i4, fun q hqq => ?_⟩
      show air.getD q 0 = _
      rw [i5 q hqq, st2, if_neg (fun t => hq t.1)]; omega
    have hq : ch.getD i.toNat false = true := by simpa using hq
    rw [if_pos hq] at st1
    obtain ⟨j1, j2, j3, j4, j5⟩ := hR.ok.at hi
    have hfr := hR.fr i.toNat hi
    have hev := hR.ev i.toNat hi
    have hpl := hfb.p _ (getD_mem (d := f0) (show i.toNat < l.length by omega))
    have hat : l.getD i.toNat (Flight.mk (0 : Int) []) = l.getD i.toNat f0 := rfl
    rw [hat]
    have hvb := val_bound hR.ok ch i.toNat (by omega)
    rw [show (sumN i.toNat fun i => if ch.getD i false = true then (J.getD i j0).f_worth else 0) = n from i3.symm] at hvb
    generalize l.getD i.toNat f0 = x at hfr hev hpl ⊢
    have hw := refWorth1_eq hF hR.fo hR.fl (x := ⟨x.From, x.Path⟩) hpl
    have hev' : jobE f t ⟨x.From, x.Path⟩ = (J.getD i.toNat j0, 0) := hev
    rw [hev'] at hw
    have hon : ∀ q : Nat, on J i.toNat q ↔ ((J.getD i.toNat j0).f_from ≤ (q : Int) ∧ (q : Int) < (J.getD i.toNat j0).f_to) := fun q => Iff.rfl
    generalize J.getD i.toNat j0 = X at j1 j2 j3 j4 j5 hfr hw hon st1
    refine ok_chk ⟨i1, by omega⟩ (ok_bnde hw (ok_brkF (by simp) (ok_chk (show InR _ from ⟨by show _ ≤ n + X.f_worth; omega, by show n + X.f_worth ≤ _; omega⟩) (ok_chk ⟨i1, by omega⟩ ?_))))
    dsimp only
    rw [← hfr, show X.f_from + (X.f_to - X.f_from) = X.f_to by omega]
    refine ok_loop (fun y : Int × List Int => X.f_from ≤ y.1 ∧ y.1 ≤ X.f_to ∧ y.2.length = 48 ∧ ∀ q : Nat, q < 48 → y.2.getD q 0 = covP J ch i.toNat q + if X.f_from ≤ (q : Int) ∧ (q : Int) < y.1 then 1 else 0) (fun y => 48 - y.1.toNat)
      ⟨Int.le_refl _, by show X.f_from ≤ X.f_to; omega, i4, fun q hqq => by
        show air.getD q 0 = _ + if X.f_from ≤ (q : Int) ∧ (q : Int) < X.f_from then 1 else 0
        rw [i5 q hqq, if_neg (by omega)]; omega⟩ (by show 48 - X.f_from.toNat < F; omega) ?_
    rintro ⟨h, air2⟩ next2 ⟨d1, d2, d3, d4⟩ hn2
    simp only at d1 d2 d3 d4
    dsimp only
    refine ok_chk ⟨i1, by omega⟩ (ok_chk (show InR _ from ⟨by omega, by omega⟩) (ok_brk (fun hd => ?_) (fun hd => ?_)))
    · have hd : h < X.f_to := of_decide_eq_true hd
      have hh : h.toNat < 48 := by omega
      have hcur := d4 h.toNat hh
      rw [if_neg (by omega)] at hcur
      have hcb := covP_bound (J := J) (ch := ch) (n := i.toNat) (q := h.toNat)
      have hnx := st2 h.toNat
      rw [if_pos ⟨hq, (hon h.toNat).2 ⟨by omega, by omega⟩⟩] at hnx
      have hle := covP_le (J := J) (ch := ch) (n := (i + 1).toNat) (q := h.toNat) (by omega)
      have hcc := hc h.toNat hh
      have hset : (air2.set h.toNat (air2.getD h.toNat 0 + 1)).getD h.toNat 0 = air2.getD h.toNat 0 + 1 := by rw [getD_set' (by omega), if_pos rfl]
      rw [hset, List.length_set, d3]
      refine ok_chk ⟨by omega, by omega⟩ (ok_chk (show InR _ from ⟨by omega, by omega⟩) (ok_chk ⟨by omega, by omega⟩ (ok_chk ⟨by omega, by omega⟩ (ok_brkF (decide_eq_false (by omega)) (ok_chk (show InR _ from ⟨by omega, by omega⟩) (hn2 _ ⟨by show X.f_from ≤ h + 1; omega, by show h + 1 ≤ X.f_to; omega, by show (air2.set _ _).length = 48; rw [List.length_set]; exact d3, fun q hqq => ?_⟩ (by show 48 - (h + 1).toNat < 48 - h.toNat; omega)))))))
      show (air2.set h.toNat _).getD q 0 = _ + if X.f_from ≤ (q : Int) ∧ (q : Int) < h + 1 then 1 else 0
      rw [getD_set' (by omega)]
      by_cases e : h.toNat = q
      · rw [if_pos e, if_pos (by omega), ← e, hcur]; omega
      · rw [if_neg e, d4 q hqq]
        by_cases e2 : X.f_from ≤ (q : Int) ∧ (q : Int) < h
        · rw [if_pos e2, if_pos (by omega)]
        · rw [if_neg e2, if_neg (by omega)]
    · have hd : ¬ h < X.f_to := of_decide_eq_false hd
      refine hk2 _ ⟨by show n + X.f_worth = _; omega, d3, fun q hqq => ?_⟩
      show air2.getD q 0 = _
      rw [d4 q hqq, st2]
      by_cases e2 : X.f_from ≤ (q : Int) ∧ (q : Int) < h
      · rw [if_pos e2, if_pos ⟨hq, (hon q).2 (by omega)⟩]
      · rw [if_neg e2, if_neg (fun t => e2 (by have := (hon q).1 t.2; omega))]
  · have hb : ¬ i < J.length := by
      simp only [Bool.and_eq_false_iff, decide_eq_false_iff_not] at hb
      omega
    rw [show i.toNat = J.length by omega] at i3
    rw [i3, show ((J.length : Int) == (J.length : Int)) = true by simp]; rfl

theorem refBest_eq {F : Nat} (hF : 100000 < F) {f : Field} {t : Fleet} {l : List Flight} {N : Int} (hl : f.Cells.length ≤ 100) (hfb : FlsB l) (hz : (jobsV f t l).2 = 0) (hO : Opt (jobsV f t l).1 t.Count N) : ref11_Best F f t l = some (N, 0) := by
  refine Ok.eq ?_
  have hR := jobsV_zero hfb hz
  unfold ref11_Best
  refine ok_bnde (asked_eq (by omega) hl hfb) ?_
  rw [hz]
  refine ok_brkF rfl ?_
  generalize (jobsV f t l).1 = J at hR hO
  have hk := hR.fl.2.2.2
  have hJl := hR.l12
  have hll := hR.len
  have hr48 : (List.replicate (Int.toNat 48) (0 : Int)).length = 48 := by rw [List.length_replicate]; rfl
  have hz48 : ∀ h, (List.replicate (Int.toNat 48) (0 : Int)).getD h 0 = 0 := fun h => by
    by_cases hi : h < (List.replicate (Int.toNat 48) (0 : Int)).length
    · rw [getD_get hi, List.getElem_replicate]
    · rw [List.getD_eq_getElem?_getD, List.getElem?_eq_none (Nat.le_of_not_lt hi)]; rfl
  rw [hll]
  -- worths and hours
  refine ok_loop (fun x : List Int × List Int × Int => 0 ≤ x.2.2 ∧ x.2.2 ≤ J.length ∧ (x.1.length : Int) = x.2.2 ∧ (x.2.1.length : Int) = x.2.2 ∧ ∀ i : Nat, (i : Int) < x.2.2 → x.1.getD i 0 = (J.getD i j0).f_to - (J.getD i j0).f_from ∧ x.2.1.getD i 0 = (J.getD i j0).f_worth) (fun x => J.length - x.2.2.toNat)
    ⟨by simp, by simp, by simp, by simp, fun i hi => by (have hi : (i : Int) < 0 := hi); omega⟩ (by simp; omega) ?_
  rintro ⟨hours, worths, i⟩ next ⟨i1, i2, i3, i4, i5⟩ hn
  simp only at i1 i2 i3 i4 i5
  dsimp only
  refine ok_brk (fun hc => ?_) (fun hc => ?_)
  · have hc : i < J.length := of_decide_eq_true hc
    have hi : i.toNat < J.length := by omega
    have hev := hR.ev i.toNat hi
    have hpl := hfb.p _ (getD_mem (d := f0) (show i.toNat < l.length by omega))
    have hw := refWorth1_eq (by omega : 2000 < F) hR.fo hR.fl (x := ⟨(l.getD i.toNat f0).From, (l.getD i.toNat f0).Path⟩) hpl
    have hev' : jobE f t ⟨(l.getD i.toNat f0).From, (l.getD i.toNat f0).Path⟩ = (J.getD i.toNat j0, 0) := hev
    rw [hev'] at hw
    refine ok_chk ⟨i1, hc⟩ (ok_bnde hw (ok_chk (by simp; omega) (ok_chk (by simp; omega) (ok_chk (show InR _ from ⟨by omega, by omega⟩) (hn _ ⟨by show 0 ≤ i + 1; omega, by show i + 1 ≤ _; omega, by simp; omega, by simp; omega, fun q hq => ?_⟩ (by show J.length - (i + 1).toNat < J.length - i.toNat; omega))))))
    have hq : (q : Int) < i + 1 := hq
    show (hours ++ [_]).getD q 0 = _ ∧ (worths ++ [_]).getD q 0 = _
    by_cases e : (q : Int) < i
    · rw [getD_append_left' (by omega), getD_append_left' (by omega)]
      exact i5 q e
    · obtain rfl : q = hours.length := by omega
      have e2 : hours.length = worths.length := by omega
      rw [getD_append_here]
      rw [e2, getD_append_here, ← e2, show i.toNat = hours.length by omega]
      exact ⟨rfl, rfl⟩
  have hc : ¬ i < J.length := of_decide_eq_false hc
  obtain rfl : i = J.length := by omega
  have p12 := pow12 (n := J.length) hJl
  rw [show ((J.length : Nat) : Int).toNat = J.length by omega]
  have hPe : ∀ b, (encB J.length b : Int) < 2 ^ J.length := fun b => by exact_mod_cast enc_lt J.length b
  generalize (2 : Int) ^ J.length = P at p12 hPe ⊢
  clear hn
  -- the sets
  refine ok_loop (fun x : Int × Int => 0 ≤ x.1 ∧ x.1 ≤ P ∧ 0 ≤ x.2 ∧ x.2 ≤ N ∧ ∀ s : Int, 0 ≤ s → s < x.1 → (∀ q, q < 48 → cov J (chS J.length s) q ≤ t.Count) → val J (chS J.length s) ≤ x.2) (fun x => (P - x.1).toNat)
    ⟨by simp, by show 0 ≤ P; omega, by simp, ?_, fun s s0 s1 => by (have s1 : s < 0 := s1); omega⟩ (by show (P - 0).toNat < F; omega) ?_
  · show 0 ≤ N
    obtain ⟨c, _, _, c3⟩ := hO.has
    rw [← c3]
    exact (val_bound hR.ok c J.length (Nat.le_refl _)).1
  rintro ⟨s, best⟩ next ⟨s0, s1, b0, b1, s2⟩ hn
  simp only at s0 s1 b0 b1 s2
  dsimp only
  have hNb : N ≤ 768000000 := by
    obtain ⟨c, _, _, c3⟩ := hO.has
    rw [← c3]
    exact (val_bound hR.ok c J.length (Nat.le_refl _)).2
  refine ok_chk ⟨by omega, show InR _ from ⟨by omega, by omega⟩⟩ (ok_brk (fun hc => ?_) (fun hc => ok_some ?_))
  · have hc : s < 1 * P := of_decide_eq_true hc
    refine ok_join (by omega) (fun y : Int => 0 ≤ y ∧ y ≤ N ∧ best ≤ y ∧ ((∀ q, q < 48 → cov J (chS J.length s) q ≤ t.Count) → val J (chS J.length s) ≤ y)) (fun y hy => ok_chk (show InR _ from ⟨by omega, by omega⟩) (hn _ ⟨by show 0 ≤ s + 1; omega, by show s + 1 ≤ P; omega, hy.1, hy.2.1, fun u u0 u1 hu => ?_⟩ (by show (P - (s + 1)).toNat < (P - s).toNat; omega))) fun k hk2 => ?_
    · have u1 : u < s + 1 := u1
      by_cases e : u < s
      · have := s2 u u0 e hu
        have := hy.2.2.1
        show _ ≤ y
        omega
      · obtain rfl : u = s := by omega
        exact hy.2.2.2 hu
    refine ok_chk ⟨by omega, by omega, by omega⟩ ?_
    obtain ⟨ch, hch⟩ : ∃ ch, chS J.length s = ch := ⟨_, rfl⟩
    have hchg : ∀ i : Nat, i < J.length → ch.getD i false = bitI s i := fun i hi => by rw [← hch]; exact chS_get hi
    rw [hch] at hk2
    refine ok_loop (fun x : Int × Int × Bool × List Int => 0 ≤ x.1 ∧ x.1 ≤ J.length ∧ x.2.1 = valP J ch x.1.toNat ∧ x.2.2.2.length = 48 ∧ (∀ q : Nat, q < 48 → x.2.2.2.getD q 0 = covP J ch x.1.toNat q) ∧ (x.2.2.1 = true ↔ ∀ q : Nat, q < 48 → covP J ch x.1.toNat q ≤ t.Count)) (fun x => J.length - x.1.toNat)
      ⟨by simp, by simp, rfl, hr48, fun q _ => hz48 q, ⟨fun _ q _ => by show (0 : Int) ≤ _; omega, fun _ => rfl⟩⟩ (by simp; omega) ?_
    rintro ⟨i, n, right, air⟩ next1 ⟨i1, i2, i3, i4, i6, i7⟩ hn1
    simp only at i1 i2 i3 i4 i6 i7
    dsimp only
    have hvb := val_bound hR.ok ch i.toNat (by omega)
    rw [show (sumN i.toNat fun i => if ch.getD i false = true then (J.getD i j0).f_worth else 0) = n from i3.symm] at hvb
    refine ok_brk (fun hb => ?_) (fun hb => ?_)
    · simp only [Bool.and_eq_true, decide_eq_true_eq] at hb
      obtain ⟨hci, hrt⟩ := hb
      have hi : i.toNat < J.length := by omega
      have hright := i7.1 hrt
      have st1 := valP_succ J ch i.toNat
      rw [show i.toNat + 1 = (i + 1).toNat by omega] at st1
      have st2 : ∀ q, covP J ch (i + 1).toNat q = covP J ch i.toNat q + if ch.getD i.toNat false = true ∧ on J i.toNat q then 1 else 0 := fun q => by rw [show (i + 1).toNat = i.toNat + 1 by omega]; rfl
      refine ok_join (by omega) (fun y : Int × Bool × List Int => y.1 = valP J ch (i + 1).toNat ∧ y.2.2.length = 48 ∧ (∀ q : Nat, q < 48 → y.2.2.getD q 0 = covP J ch (i + 1).toNat q) ∧ (y.2.1 = true ↔ ∀ q : Nat, q < 48 → covP J ch (i + 1).toNat q ≤ t.Count)) (fun y hy => ok_chk (show InR _ from ⟨by omega, by omega⟩) (hn1 _ ⟨by show 0 ≤ i + 1; omega, by show i + 1 ≤ _; omega, hy.1, hy.2.1, hy.2.2.1, hy.2.2.2⟩ (by show J.length - (i + 1).toNat < J.length - i.toNat; omega))) fun k3 hk3 => ?_
      have hfd : s.fdiv (2 ^ i.toNat) = s / 2 ^ i.toNat := Int.fdiv_eq_ediv_of_nonneg _ (Int.pow_nonneg (by omega))
      have hd0 : 0 ≤ s / 2 ^ i.toNat := Int.ediv_nonneg s0 (Int.pow_nonneg (by omega))
      have hd1 : s / 2 ^ i.toNat ≤ s := Int.ediv_le_self _ s0
      rw [hfd]
      refine ok_chk ⟨i1, by show i ≤ (64 : Int); omega⟩ (ok_chk ⟨hd0, by omega⟩ (ok_brk (fun hq => ?_) (fun hq => ?_)))
      · have hq : ¬ ch.getD i.toNat false = true := by
          rw [hchg i.toNat hi]
          unfold bitI
          have : s / 2 ^ i.toNat % 2 = 0 := by simpa using hq
          rw [this]; simp
        rw [if_neg hq] at st1
        have e : ∀ q, covP J ch (i + 1).toNat q = covP J ch i.toNat q := fun q => by rw [st2, if_neg (fun t => hq t.1)]; omega
        refine hk3 _ ⟨by show n = _; omega, i4, fun q hqq => ?_, ?_⟩
        · show air.getD q 0 = _
          rw [e, i6 q hqq]
        · show right = true ↔ _
          rw [i7]
          exact ⟨fun h q hqq => by rw [e]; exact h q hqq, fun h q hqq => by rw [← e]; exact h q hqq⟩
      have hq : ch.getD i.toNat false = true := by
        rw [hchg i.toNat hi]
        unfold bitI
        have h1 : s / 2 ^ i.toNat % 2 ≠ 0 := by simpa using hq
        rw [beq_iff_eq]; omega
      rw [if_pos hq] at st1
      obtain ⟨j1, j2, j3, j4, j5⟩ := hR.ok.at hi
      have hfr := hR.fr i.toNat hi
      obtain ⟨g1, g2⟩ := i5 i.toNat (by omega)
      have hon : ∀ q : Nat, on J i.toNat q ↔ ((J.getD i.toNat j0).f_from ≤ (q : Int) ∧ (q : Int) < (J.getD i.toNat j0).f_to) := fun q => Iff.rfl
      have hat : l.getD i.toNat (Flight.mk (0 : Int) []) = l.getD i.toNat f0 := rfl
      rw [hat, g1, g2, ← hfr]
      generalize J.getD i.toNat j0 = X at j1 j2 j3 j4 j5 hon st1 g1 g2 hfr ⊢
      rw [show X.f_from + (X.f_to - X.f_from) = X.f_to by omega]
      refine ok_chk ⟨i1, by omega⟩ (ok_chk (show InR _ from ⟨by omega, by omega⟩) (ok_chk ⟨i1, by omega⟩ ?_))
      refine ok_loop (fun y : Int × Bool × List Int => X.f_from ≤ y.1 ∧ y.1 ≤ X.f_to ∧ y.2.2.length = 48 ∧ (∀ q : Nat, q < 48 → y.2.2.getD q 0 = covP J ch i.toNat q + if X.f_from ≤ (q : Int) ∧ (q : Int) < y.1 then 1 else 0) ∧ (y.2.1 = true ↔ ∀ q : Nat, X.f_from ≤ (q : Int) → (q : Int) < y.1 → covP J ch i.toNat q + 1 ≤ t.Count)) (fun y => 48 - y.1.toNat)
        ⟨Int.le_refl _, by show X.f_from ≤ X.f_to; omega, i4, fun q hqq => by
          show air.getD q 0 = _ + if X.f_from ≤ (q : Int) ∧ (q : Int) < X.f_from then 1 else 0
          rw [i6 q hqq, if_neg (by omega)]; omega, ⟨fun _ q q1 q2 => by (have q2 : (q : Int) < X.f_from := q2); omega, fun _ => hrt⟩⟩ (by show 48 - X.f_from.toNat < F; omega) ?_
      rintro ⟨h, right2, air2⟩ next2 ⟨d1, d2, d3, d4, d5⟩ hn2
      simp only at d1 d2 d3 d4 d5
      dsimp only
      refine ok_chk ⟨i1, by omega⟩ (ok_chk ⟨i1, by omega⟩ (ok_chk (show InR _ from ⟨by omega, by omega⟩) (ok_brk (fun hd => ?_) (fun hd => ?_))))
      · have hd : h < X.f_to := of_decide_eq_true hd
        have hh : h.toNat < 48 := by omega
        have hcur := d4 h.toNat hh
        rw [if_neg (by omega)] at hcur
        have hcb := covP_bound (J := J) (ch := ch) (n := i.toNat) (q := h.toNat)
        have hset : (air2.set h.toNat (air2.getD h.toNat 0 + 1)).getD h.toNat 0 = air2.getD h.toNat 0 + 1 := by rw [getD_set' (by omega), if_pos rfl]
        rw [hset, List.length_set, d3]
        refine ok_chk ⟨by omega, by omega⟩ (ok_chk (show InR _ from ⟨by omega, by omega⟩) (ok_chk ⟨by omega, by omega⟩ (ok_chk (fun _ => ⟨by omega, by omega⟩) (ok_chk (show InR _ from ⟨by omega, by omega⟩) (hn2 _ ⟨by show X.f_from ≤ h + 1; omega, by show h + 1 ≤ X.f_to; omega, by show (air2.set _ _).length = 48; rw [List.length_set]; exact d3, fun q hqq => ?_, ?_⟩ (by show 48 - (h + 1).toNat < 48 - h.toNat; omega))))))
        · show (air2.set h.toNat _).getD q 0 = _ + if X.f_from ≤ (q : Int) ∧ (q : Int) < h + 1 then 1 else 0
          rw [getD_set' (by omega)]
          by_cases e : h.toNat = q
          · rw [if_pos e, if_pos (by omega), ← e, hcur]; omega
          · rw [if_neg e, d4 q hqq]
            by_cases e2 : X.f_from ≤ (q : Int) ∧ (q : Int) < h
            · rw [if_pos e2, if_pos (by omega)]
            · rw [if_neg e2, if_neg (by omega)]
        · show (right2 && decide (air2.getD h.toNat 0 + 1 ≤ t.Count)) = true ↔ ∀ q : Nat, X.f_from ≤ (q : Int) → (q : Int) < h + 1 → _
          rw [Bool.and_eq_true, d5, decide_eq_true_eq]
          constructor
          · rintro ⟨a, b⟩ q q1 q2
            by_cases e : (q : Int) < h
            · exact a q q1 e
            · obtain rfl : q = h.toNat := by omega
              omega
          · intro a
            exact ⟨fun q q1 q2 => a q q1 (by omega), by have := a h.toNat (by omega) (by omega); omega⟩
      · have hd : ¬ h < X.f_to := of_decide_eq_false hd
        obtain rfl : h = X.f_to := by omega
        refine hk3 _ ⟨by show n + X.f_worth = _; omega, d3, fun q hqq => ?_, ?_⟩
        · show air2.getD q 0 = _
          rw [d4 q hqq, st2]
          by_cases e2 : X.f_from ≤ (q : Int) ∧ (q : Int) < X.f_to
          · rw [if_pos e2, if_pos ⟨hq, (hon q).2 e2⟩]
          · rw [if_neg e2, if_neg (fun t => e2 ((hon q).1 t.2))]
        · show right2 = true ↔ _
          rw [d5]
          constructor
          · intro a q hqq
            rw [st2]
            by_cases e2 : X.f_from ≤ (q : Int) ∧ (q : Int) < X.f_to
            · rw [if_pos ⟨hq, (hon q).2 e2⟩]
              exact a q e2.1 e2.2
            · rw [if_neg (fun t => e2 ((hon q).1 t.2))]
              have := hright q hqq
              omega
          · intro a q q1 q2
            have := a q (by omega)
            rw [st2, if_pos ⟨hq, (hon q).2 ⟨q1, q2⟩⟩] at this
            exact this
    · -- all were looked at
      have hne : right = true → i = J.length := fun hr => by
        rw [hr] at hb
        simp only [Bool.and_true, decide_eq_false_iff_not] at hb
        omega
      refine ok_brk (fun hr => ?_) (fun hr => ?_)
      · obtain rfl := hne hr
        rw [Int.toNat_natCast] at i3 i7
        have hle : val J ch ≤ N := hO.le ch fun q hq => i7.1 hr q hq
        have e : val J ch = n := i3.symm
        refine hk2 _ ⟨?_, ?_, ?_, fun _ => ?_⟩
        · show 0 ≤ if n > best then n else best
          split <;> omega
        · show (if n > best then n else best) ≤ N
          split <;> omega
        · show best ≤ if n > best then n else best
          split <;> omega
        · show val J ch ≤ if n > best then n else best
          split <;> omega
      · refine hk2 _ ⟨b0, b1, Int.le_refl _, fun hx => ?_⟩
        exfalso
        have : right = true := i7.2 fun q hq => Int.le_trans (covP_le (by omega)) (hx q hq)
        rw [this] at hr; cases hr
  · have hc : ¬ s < 1 * P := of_decide_eq_false hc
    obtain ⟨c, c1, c2, c3⟩ := hO.has
    have hlt := hPe fun i => c.getD i false
    have hg : ∀ i, i < J.length → (chS J.length (encB J.length fun i => c.getD i false : Nat)).getD i false = c.getD i false := fun i hi => by
      rw [chS_get hi]
      exact enc_bit J.length (fun i => c.getD i false) i hi
    have := s2 (encB J.length fun i => c.getD i false : Nat) (by omega) (by omega) fun q hq => by rw [cov_congr hg]; exact c2 q hq
    rw [val_congr hg, c3] at this
    rw [show best = N by omega]

theorem refBound_eq {F : Nat} (hF : 100000 < F) {f : Field} {t : Fleet} {l : List Flight} {pr : List Int} (hl : f.Cells.length ≤ 100) (hfb : FlsB l) (hpl : pr.length ≤ 1000) : ref11_Bound F f t l pr = some (boundV f t l pr) := by
  refine Ok.eq ?_
  unfold ref11_Bound boundV
  refine ok_bnde (asked_eq (by omega) hl hfb) (ok_brk (fun h => ok_some (by rw [if_pos (by simpa using h)])) (fun h => ?_))
  have hz : (jobsV f t l).2 = 0 := by simpa using h
  have hR := jobsV_zero hfb hz
  rw [if_neg (fun q => q hz)]
  generalize hJv : (jobsV f t l).1 = J at hR ⊢
  have hk := hR.fl.2.2.2
  have hJl := hR.l12
  have hll := hR.len
  refine ok_brk (fun h => ok_some ?_) (fun h => ?_)
  · have h : (pr.length : Int) ≠ 48 := by simpa using h
    rw [if_pos (by omega)]
  have h : (pr.length : Int) = 48 := by simpa using h
  have h48 : pr.length = 48 := by omega
  rw [if_neg (fun q => q h48), h48]
  refine ok_loop (fun x : Int × Int => 0 ≤ x.1 ∧ x.1 ≤ 48 ∧ (∀ j : Nat, (j : Int) < x.1 → 0 ≤ pr.getD j 0 ∧ pr.getD j 0 ≤ 1000000000) ∧ x.2 = t.Count * sumN x.1.toNat fun h => pr.getD h 0) (fun x => 48 - x.1.toNat) ⟨by simp, by simp, fun j hj => by (have hj : (j : Int) < 0 := hj); omega, by show 0 = t.Count * 0; rw [Int.mul_zero]⟩ (by simp; omega) ?_
  rintro ⟨i, s⟩ next ⟨i1, i2, i4, i3⟩ hn
  simp only at i1 i2 i3 i4
  dsimp only
  refine ok_brk (fun hc => ?_) (fun hc => ?_)
  · have hc : i < 48 := of_decide_eq_true hc
    rw [refIn_eq, wd]
    refine ok_chk ⟨i1, by omega⟩ (ok_bnde rfl (ok_brk (fun hb => ok_some ?_) (fun hb => ?_)))
    · rw [if_pos]
      intro q
      exact nd_true hb (q _ (getD_mem (d := 0) (show i.toNat < pr.length by omega)))
    have hb := nd_false hb
    have b0 : 0 ≤ (sumN i.toNat fun h => pr.getD h 0) ∧ (sumN i.toNat fun h => pr.getD h 0) ≤ 48000000000 := by
      have c1 := sumN_nonneg (f := fun h => pr.getD h 0) i.toNat fun q hq => (i4 q (by omega)).1
      have c2 := sumN_bound (f := fun h => pr.getD h 0) (B := 1000000000) i.toNat fun q hq => (i4 q (by omega)).2
      omega
    have b1 := mul_bd (k := t.Count) ⟨by omega, hk.2⟩ b0
    have b2 := mul_bd (k := t.Count) ⟨by omega, hk.2⟩ hb
    have hst : (t.Count * sumN (i + 1).toNat fun h => pr.getD h 0) = s + t.Count * pr.getD i.toNat 0 := by
      rw [show (i + 1).toNat = i.toNat + 1 by omega]
      simp only [sumN]
      rw [Int.mul_add, i3]
    rw [← i3] at b1
    refine ok_chk ⟨i1, by omega⟩ (ok_chk (show InR _ from ⟨by omega, by omega⟩) (ok_chk (show InR _ from ⟨by omega, by omega⟩) (ok_chk (show InR _ from ⟨by omega, by omega⟩) (hn _ ⟨by show 0 ≤ i + 1; omega, by show i + 1 ≤ 48; omega, fun j hj => ?_, hst.symm⟩ (by show 48 - (i + 1).toNat < 48 - i.toNat; omega)))))
    have hj : (j : Int) < i + 1 := hj
    by_cases e : (j : Int) < i
    · exact i4 j e
    · obtain rfl : j = i.toNat := by omega
      exact hb
  have hc : ¬ i < 48 := of_decide_eq_false hc
  have hp : PrB pr := fun c hc => by
    obtain ⟨j, hj, rfl⟩ := List.getElem_of_mem hc
    have := i4 j (by omega)
    rwa [getD_get hj] at this
  rw [if_neg (fun q => q hp)]
  have b0 := pr_bound hp 0 48
  simp only [Nat.zero_add] at b0
  have b1 := mul_bd (k := t.Count) (c := sumN 48 fun h => pr.getD h 0) (B := 48000000000) ⟨by omega, hk.2⟩ ⟨b0.1, by omega⟩
  rw [show i.toNat = 48 by omega] at i3
  clear hn
  rw [← i3] at b1
  rw [hll]
  refine ok_loop (fun x : Int × Int => 0 ≤ x.1 ∧ x.1 ≤ J.length ∧ x.2 = s + sumN x.1.toNat fun i => max0 ((J.getD i j0).f_worth - tot J (fun h => pr.getD h 0) i)) (fun x => J.length - x.1.toNat) ⟨by simp, by simp, by show s = s + 0; omega⟩ (by simp; omega) ?_
  rintro ⟨j, w⟩ next ⟨c1, c2, c3⟩ hn
  simp only at c1 c2 c3
  dsimp only
  refine ok_brk (fun hc => ?_) (fun hc => ok_some ?_)
  · have hc : j < J.length := of_decide_eq_true hc
    have hj : j.toNat < J.length := by omega
    have hts := tot_seg hR.ok hj fun h => pr.getD h 0
    obtain ⟨j1, j2, j3, j4, j5⟩ := hR.ok.at hj
    have p1 := part_bound hR.ok hp j.toNat (by omega)
    have p2 := part_bound hR.ok hp (j + 1).toNat (by omega)
    have hst : (sumN (j + 1).toNat fun i => max0 ((J.getD i j0).f_worth - tot J (fun h => pr.getD h 0) i)) = (sumN j.toNat fun i => max0 ((J.getD i j0).f_worth - tot J (fun h => pr.getD h 0) i)) + max0 ((J.getD j.toNat j0).f_worth - tot J (fun h => pr.getD h 0) j.toNat) := by
      rw [show (j + 1).toNat = j.toNat + 1 by omega]; rfl
    have hm := max0_ge ((J.getD j.toNat j0).f_worth - tot J (fun h => pr.getD h 0) j.toNat)
    refine ok_join (by omega) (fun y : Int => y = s + sumN (j + 1).toNat fun i => max0 ((J.getD i j0).f_worth - tot J (fun h => pr.getD h 0) i)) (fun y hy => ok_chk (show InR _ from ⟨by omega, by omega⟩) (hn _ ⟨by show 0 ≤ j + 1; omega, by show j + 1 ≤ _; omega, hy⟩ (by show J.length - (j + 1).toNat < J.length - j.toNat; omega))) fun k hk2 => ?_
    have hev := hR.ev j.toNat hj
    have hfr := hR.fr j.toNat hj
    have hxl := hfb.p _ (getD_mem (d := f0) (show j.toNat < l.length by omega))
    have hat : l.getD j.toNat (Flight.mk (0 : Int) []) = l.getD j.toNat f0 := rfl
    rw [hat]
    generalize l.getD j.toNat f0 = x at hfr hev hxl ⊢
    have hw := refWorth1_eq (by omega : 2000 < F) hR.fo hR.fl (x := ⟨x.From, x.Path⟩) hxl
    have hev' : jobE f t ⟨x.From, x.Path⟩ = (J.getD j.toNat j0, 0) := hev
    rw [hev'] at hw
    refine ok_chk ⟨c1, by omega⟩ (ok_bnde hw (ok_chk ⟨c1, by omega⟩ ?_))
    have qb := fun n => pr_bound hp (J.getD j.toNat j0).f_from.toNat n
    dsimp only
    generalize J.getD j.toNat j0 = X at j1 j2 j3 j4 j5 hts hst qb hfr hm ⊢
    rw [← hfr, show X.f_from + (X.f_to - X.f_from) = X.f_to by omega]
    refine ok_loop (fun x : Int × Int => X.f_from ≤ x.2 ∧ x.2 ≤ X.f_to ∧ x.1 = X.f_worth - sumN (x.2 - X.f_from).toNat fun q => pr.getD (X.f_from.toNat + q) 0) (fun x => 48 - x.2.toNat) ⟨Int.le_refl _, by show X.f_from ≤ _; omega, by show X.f_worth = X.f_worth - sumN (X.f_from - X.f_from).toNat _; rw [Int.sub_self]; show _ = _ - (0 : Int); omega⟩ (by show 48 - X.f_from.toNat < F; omega) ?_
    rintro ⟨left, h⟩ next1 ⟨d1, d2, d3⟩ hn1
    simp only at d1 d2 d3
    dsimp only
    have q0 := qb (h - X.f_from).toNat
    refine ok_chk ⟨c1, by omega⟩ (ok_chk (show InR _ from ⟨by omega, by omega⟩) (ok_brk (fun hd => ?_) (fun hd => ?_)))
    · have hd : h < X.f_to := of_decide_eq_true hd
      have gq := hp.get h.toNat
      refine ok_chk ⟨by omega, by omega⟩ (ok_chk (show InR _ from ⟨by omega, by omega⟩) (ok_chk (show InR _ from ⟨by omega, by omega⟩) (hn1 _ ⟨by show _ ≤ h + 1; omega, by show h + 1 ≤ _; omega, ?_⟩ (by show 48 - (h + 1).toNat < 48 - h.toNat; omega))))
      show left - _ = X.f_worth - sumN (h + 1 - X.f_from).toNat _
      rw [show (h + 1 - X.f_from).toNat = (h - X.f_from).toNat + 1 by omega]
      simp only [sumN]
      rw [show X.f_from.toNat + (h - X.f_from).toNat = h.toNat by omega]
      omega
    · have hd : ¬ h < X.f_to := of_decide_eq_false hd
      have e : left = X.f_worth - tot J (fun h => pr.getD h 0) j.toNat := by
        rw [hts, d3, show (h - X.f_from).toNat = (X.f_to - X.f_from).toNat by omega]
      have em : (if left > 0 then left else 0) = max0 (X.f_worth - tot J (fun h => pr.getD h 0) j.toNat) := by rw [← e]; rfl
      refine ok_brk (fun hp => ?_) (fun hp => ?_)
      · rw [if_pos (of_decide_eq_true hp)] at em
        exact ok_chk (show InR _ from ⟨by omega, by omega⟩) (hk2 _ (by omega))
      · rw [if_neg (of_decide_eq_false hp)] at em
        exact hk2 _ (by omega)
  · have hc : ¬ j < J.length := of_decide_eq_false hc
    rw [show j.toNat = J.length by omega] at c3
    rw [c3, i3]; rfl
end Go.Proofs.Sp

namespace Go.Proofs.Sp
open Go Go.KX
theorem awake_eq : law11_awake 1000000000000000 = some true := by kernel_rfl
end Go.Proofs.Sp

namespace Go.Proofs.Sp
open Go Go.KX

theorem copyI {F : Nat} {l : List Int} (h : l.length ≤ 1000000) : kit_CopyInts F l = some l := chk_pos h
theorem copyS {F : Nat} {l : List Span} (h : l.length ≤ 1000000) : kit_CopySpans F l = some l := chk_pos h
theorem copyF {F : Nat} {f : Field} (h : f.Cells.length ≤ 1000000) : law11_CopyField F f = some f := by
  unfold law11_CopyField
  rw [copyS h, bnd_so]
theorem sameI {F : Nat} {l : List Int} (hF : l.length < F) (hl : l.length ≤ 1000000) : kit_SameInts F l l = some true := by
  refine Ok.eq ?_
  unfold kit_SameInts
  refine ok_brkF (by simp) ?_
  refine ok_loop (fun x : Int => 0 ≤ x ∧ x ≤ l.length) (fun x : Int => l.length - x.toNat) ⟨by simp, by simp⟩ (by simp; omega) ?_
  rintro i next ⟨i1, i2⟩ hn
  refine ok_brk (fun hc => ?_) (fun hc => ok_some rfl)
  have hc : i < l.length := of_decide_eq_true hc
  exact ok_chk ⟨i1, hc⟩ (ok_chk ⟨i1, hc⟩ (ok_brkF (by simp) (ok_chk (show InR _ from ⟨by omega, by omega⟩) (hn _ ⟨by omega, by omega⟩ (by show l.length - (i + 1).toNat < l.length - i.toNat; omega)))))
theorem sameS {F : Nat} {l : List Span} (hF : l.length < F) (hl : l.length ≤ 1000000) : kit_SameSpans F l l = some true := by
  refine Ok.eq ?_
  unfold kit_SameSpans
  refine ok_brkF (by simp) ?_
  refine ok_loop (fun x : Int => 0 ≤ x ∧ x ≤ l.length) (fun x : Int => l.length - x.toNat) ⟨by simp, by simp⟩ (by simp; omega) ?_
  rintro i next ⟨i1, i2⟩ hn
  refine ok_brk (fun hc => ?_) (fun hc => ok_some rfl)
  have hc : i < l.length := of_decide_eq_true hc
  exact ok_chk ⟨i1, hc⟩ (ok_chk ⟨i1, hc⟩ (ok_brkF (by simp) (ok_chk (show InR _ from ⟨by omega, by omega⟩) (hn _ ⟨by omega, by omega⟩ (by show l.length - (i + 1).toNat < l.length - i.toNat; omega)))))
theorem same_F {F : Nat} {f : Field} (hF : f.Cells.length < F) (hl : f.Cells.length ≤ 1000000) : law11_same F f f = some true := by
  unfold law11_same
  rw [sameS hF hl, show (f.W == f.W && f.H == f.H) = true by simp]; rfl
theorem sameFl {F : Nat} {l : List Flight} (hF : 2000 < F) (hb : FlsB l) : law11_sameFlights F l l = some true := by
  refine Ok.eq ?_
  unfold law11_sameFlights
  have hlen := hb.len
  refine ok_join (by omega) (fun x : Bool => x = true) (fun x hx => ok_some hx) fun k hk => ?_
  refine ok_brkF (by simp) ?_
  refine ok_loop (fun x : Int => 0 ≤ x ∧ x ≤ l.length) (fun x : Int => l.length - x.toNat) ⟨by simp, by simp⟩ (by simp; omega) ?_
  rintro i next ⟨i1, i2⟩ hn
  refine ok_brk (fun hc => ?_) (fun hc => hk _ rfl)
  have hc : i < l.length := of_decide_eq_true hc
  have hp := hb.p _ (getD_mem (d := f0) (show i.toNat < l.length by omega))
  have hs : law11_sameFlights_1 F ⟨(l.getD i.toNat f0).From, (l.getD i.toNat f0).Path⟩ ⟨(l.getD i.toNat f0).From, (l.getD i.toNat f0).Path⟩ = some true := by
    unfold law11_sameFlights_1
    dsimp only
    rw [sameI (by omega) (by omega), show ((l.getD i.toNat f0).From == (l.getD i.toNat f0).From) = true by simp]; rfl
  exact ok_chk ⟨i1, hc⟩ (ok_chk ⟨i1, hc⟩ (ok_bnde hs (ok_brkF rfl (ok_chk (show InR _ from ⟨by omega, by omega⟩) (hn _ ⟨by omega, by omega⟩ (by show l.length - (i + 1).toNat < l.length - i.toNat; omega))))))

theorem copyFl {F : Nat} {l : List Flight} (hF : 2000 < F) (hb : FlsB l) : law11_copyFlights F l = some l := by
  refine Ok.eq ?_
  unfold law11_copyFlights
  have hlen := hb.len
  refine ok_bnde (b := l) (by unfold slices_Clone_spill_Flight; rw [chk_pos (by omega)]; rfl) ?_
  refine ok_loop (fun x : Int × List Flight => 0 ≤ x.1 ∧ x.1 ≤ l.length ∧ x.2 = l) (fun x => l.length - x.1.toNat) ⟨by simp, by simp, rfl⟩ (by simp; omega) ?_
  rintro ⟨i, c⟩ next ⟨i1, i2, i3⟩ hn
  simp only at i1 i2 i3
  subst i3
  dsimp only
  refine ok_brk (fun hc => ?_) (fun hc => ok_some rfl)
  have hc : i < c.length := of_decide_eq_true hc
  have hi : i.toNat < c.length := by omega
  have hp : (c.getD i.toNat (Flight.mk (0 : Int) [])).Path.length ≤ 1000 := hb.p _ (getD_mem hi)
  refine ok_chk ⟨i1, hc⟩ (ok_bnde (copyI (by omega)) (ok_chk ⟨i1, hc⟩ (ok_chk (show InR _ from ⟨by omega, by omega⟩) (hn _ ⟨by show 0 ≤ i + 1; omega, by show i + 1 ≤ _; omega, ?_⟩ (by show c.length - (i + 1).toNat < c.length - i.toNat; omega)))))
  show c.set i.toNat (c.getD i.toNat f0) = c
  rw [getD_get hi]; exact List.set_getElem_self hi

theorem refFl {F : Nat} {l : List Flight} (hF : 2000 < F) (hb : FlsB l) : law11_flights F l = some l := by
  refine Ok.eq ?_
  unfold law11_flights
  have hlen := hb.len
  refine ok_loop (fun x : Int × List Flight => 0 ≤ x.1 ∧ x.1 ≤ l.length ∧ x.2 = l.take x.1.toNat) (fun x => l.length - x.1.toNat) ⟨by simp, by simp, rfl⟩ (by simp; omega) ?_
  rintro ⟨i, c⟩ next ⟨i1, i2, i3⟩ hn
  simp only at i1 i2 i3
  subst i3
  dsimp only
  refine ok_brk (fun hc => ?_) (fun hc => ok_some ?_)
  · have hc : i < l.length := of_decide_eq_true hc
    have hi : i.toNat < l.length := by omega
    have hp : (l.getD i.toNat (Flight.mk (0 : Int) [])).Path.length ≤ 1000 := hb.p _ (getD_mem hi)
    refine ok_chk ⟨i1, hc⟩ (ok_bnde (copyI (by omega)) (ok_chk (by simp; omega) (ok_chk (show InR _ from ⟨by omega, by omega⟩) (hn _ ⟨by show 0 ≤ i + 1; omega, by show i + 1 ≤ _; omega, ?_⟩ (by show l.length - (i + 1).toNat < l.length - i.toNat; omega)))))
    show l.take i.toNat ++ [l.getD i.toNat f0] = l.take (i + 1).toNat
    rw [show (i + 1).toNat = i.toNat + 1 by omega, take_succ' (d := f0) hi]
  · have hc : ¬ i < l.length := of_decide_eq_false hc
    exact List.take_of_length_le (by omega)

/-- What a flight is worth, or the error. -/
noncomputable def worthE (f : Field) (t : Fleet) (x : Flight) : Int × Int × Int :=
  if checkV f ≠ 0 then (0, 0, checkV f) else if ¬ FleetOK f.Cells.length t then (0, 0, 120) else ((jobE f t x).1.f_worth, (jobE f t x).1.f_to - (jobE f t x).1.f_from, (jobE f t x).2)

theorem jobE_small {f : Field} {t : Fleet} {x : Flight} : (jobE f t x).2 ≠ 0 → (jobE f t x).1 = j0 := by
  intro h
  unfold jobE at h ⊢
  split
  · rfl
  rename_i q1
  rw [if_neg q1] at h
  split
  · rfl
  rename_i q2
  rw [if_neg q2] at h
  split
  · rfl
  rename_i q3
  rw [if_neg q3] at h
  split
  · rfl
  rename_i q4
  rw [if_neg q4] at h
  exact absurd rfl h

theorem Worth_eq {F : Nat} (hF : 2000 < F) {f : Field} {t : Fleet} {x : Flight} (hl : f.Cells.length ≤ 100) (hP : x.Path.length ≤ 1000) : spill_Worth F f t x = some (worthE f t x) := by
  refine Ok.eq ?_
  unfold spill_Worth worthE
  refine ok_bnde (Check_eq (by show f.Cells.length < F; omega)) (ok_brk (fun hc => ?_) (fun hc => ?_))
  · rw [if_pos (show checkV f ≠ 0 by simpa using hc)]
    exact ok_brkT hc (ok_some rfl)
  have hc : checkV f = 0 := by simpa using hc
  have hf := checkV_ok hc
  rw [if_neg (by omega)]
  refine ok_bnde (right_eq hl) (ok_brk (fun ht => ok_some ?_) (fun ht => ?_))
  · rw [if_pos (nd_true ht)]
  have ht := nd_false ht
  rw [if_neg (fun q => q ht)]
  refine ok_bnde (job_eq hF hf ht (x := ⟨x.From, x.Path⟩) hP) (ok_brk (fun hq => ok_some ?_) (fun hq => ?_))
  · have hq : (jobE f t x).2 ≠ 0 := by simpa using hq
    have := jobE_small hq
    show _ = ((jobE f t x).1.f_worth, (jobE f t x).1.f_to - (jobE f t x).1.f_from, (jobE f t x).2)
    rw [this]; rfl
  · have hq : (jobE f t x).2 = 0 := by simpa using hq
    obtain ⟨⟨j1, j2, j3, j4, j5⟩, -⟩ := jobE_ok hf ht hP hq
    have j1 : 0 ≤ (jobE f t x).1.f_from := j1
    have j2 : (jobE f t x).1.f_from < (jobE f t x).1.f_to := j2
    have j3 : (jobE f t x).1.f_to ≤ 48 := j3
    refine ok_chk (show InR ((jobE f t x).1.f_to - (jobE f t x).1.f_from) from ⟨by omega, by omega⟩) (ok_some ?_)
    show _ = ((jobE f t x).1.f_worth, (jobE f t x).1.f_to - (jobE f t x).1.f_from, (jobE f t x).2)
    rw [hq]

theorem refWorth_eq {F : Nat} (hF : 2000 < F) {f : Field} {t : Fleet} {x : Flight} (hl : f.Cells.length ≤ 100) (hP : x.Path.length ≤ 1000) : ref11_Worth F f t x = some (worthE f t x) := by
  refine Ok.eq ?_
  unfold ref11_Worth worthE
  refine ok_bnde (refCheck_eq (by show f.Cells.length < F; omega)) (ok_brk (fun hc => ok_some ?_) (fun hc => ?_))
  · rw [if_pos (show checkV f ≠ 0 by simpa using hc)]
  have hc : checkV f = 0 := by simpa using hc
  have hf := checkV_ok hc
  rw [if_neg (by omega)]
  refine ok_bnde (refFleet_eq hl) (ok_brk (fun ht => ok_some ?_) (fun ht => ?_))
  · rw [if_pos (nd_true ht)]
  have ht := nd_false ht
  rw [if_neg (fun q => q ht)]
  exact ok_bnde (refWorth1_eq hF hf ht (x := ⟨x.From, x.Path⟩) hP) (ok_some rfl)

set_option maxHeartbeats 1000000 in
theorem spillFlights_ok' {F : Nat} (hF : F = 1000000000000000) (f : Field) (t : Fleet) (l : List Flight) (pr : List Int) : law11_SpillFlights F f t l pr = some true := by
  have haw : law11_awake F = some true := by rw [hF]; exact awake_eq
  refine Ok.eq ?_
  unfold law11_SpillFlights
  rw [haw]
  have aw : Ok (fun x => x = true) (bnd (some true) fun x : Bool => some x) := ok_bnde rfl (ok_some rfl)
  refine ok_brk (fun _ => aw) (fun h1 => ok_brk (fun _ => aw) (fun h2 => ok_brk (fun _ => aw) (fun h3 => ?_)))
  have h2 := of_decide_eq_false h2
  have h3 := of_decide_eq_false h3
  have hl : f.Cells.length ≤ 100 := by
    simp only [Bool.or_eq_false_iff, decide_eq_false_iff_not] at h1
    omega
  refine ok_join (by omega) (fun x : Int => x ≥ 0 ∨ FlsB l) (fun x hx => ok_brk (fun _ => aw) (fun hx2 => ?_)) fun k hk => ?_
  · have hx2 := of_decide_eq_false hx2
    have hb : FlsB l := by
      rcases hx with q | q
      · exact absurd q hx2
      · exact q
    clear hx
    refine ok_bnde (copyF (by show f.Cells.length ≤ _; omega)) (ok_bnde (copyFl (by omega) hb) (ok_bnde (copyI (by omega)) (ok_bnde (copyF (by show f.Cells.length ≤ _; omega)) (ok_bnde (refFl (by omega) hb) ?_))))
    dsimp only
    have hlen := hb.len
    refine ok_loop (fun x : Int => 0 ≤ x ∧ x ≤ l.length) (fun x : Int => l.length - x.toNat) ⟨by simp, by simp⟩ (by simp; omega) ?_
    rintro i next ⟨i1, i2⟩ hn
    refine ok_brk (fun hc => ?_) (fun hc => ?_)
    · have hc : i < l.length := of_decide_eq_true hc
      have hp := hb.p _ (getD_mem (d := f0) (show i.toNat < l.length by omega))
      refine ok_chk ⟨i1, hc⟩ (ok_bnde (Worth_eq (by omega) hl hp) (ok_chk ⟨i1, hc⟩ (ok_bnde (refWorth_eq (by omega) hl hp) (ok_brkF (by simp) (ok_chk (show InR _ from ⟨by omega, by omega⟩) (hn _ ⟨by omega, by omega⟩ (by show l.length - (i + 1).toNat < l.length - i.toNat; omega)))))))
    clear hn
    have hBd : ∀ n, Ok (fun x => x = true) (bnd (spill_Bound F f t l pr) fun x_13 => bnd (ref11_Bound F f t l pr) fun x_14 => bnd (brk (x_13.fst == x_14.fst && x_13.snd == x_14.snd) (law11_same F f f) (some false)) fun x_15 => bnd (brk (x_13.fst == x_14.fst && x_13.snd == x_14.snd && x_15) (law11_sameFlights F l l) (some false)) fun x_16 => bnd (brk (x_13.fst == x_14.fst && x_13.snd == x_14.snd && x_15 && x_16) (kit_SameInts F pr pr) (some false)) fun x_17 => bnd (brk (x_13.fst == x_14.fst && x_13.snd == x_14.snd && x_15 && x_16 && x_17) (some true) (some false)) fun x_18 => some (x_13.fst == x_14.fst && x_13.snd == x_14.snd && x_15 && x_16 && x_17 && x_18)) := fun _ : Nat => by
      refine ok_bnde (Bound_eq (by omega) hl hb (by omega)) (ok_bnde (refBound_eq (by omega) hl hb (by omega)) ?_)
      have e : ((boundV f t l pr).1 == (boundV f t l pr).1 && (boundV f t l pr).2 == (boundV f t l pr).2) = true := by simp
      rw [e]
      refine ok_bnde (show brk true _ _ = _ from same_F (by omega) (by omega)) (ok_bnde (show brk (true && true) _ _ = _ from sameFl (by omega) hb) (ok_bnde (show brk (true && true && true) _ _ = _ from sameI (by omega) (by omega)) (ok_bnde rfl (ok_some rfl))))
    refine ok_bnd _ (Best_ok (by omega) hl hb) ?_
    rintro ⟨ch, n, e⟩ hbest
    by_cases hz : (jobsV f t l).2 = 0
    · rcases hbest with ⟨q, _⟩ | ⟨_, q1, q2, q3, q4, q5⟩
      · exact absurd hz q
      simp only at q1 q2 q3 q4 q5
      subst q1
      refine ok_bnde (refBest_eq (by omega) hl hb hz q5) (ok_brkF (by simp) ?_)
      have hR := jobsV_zero hb hz
      refine ok_join (by omega) (fun _ : PUnit => True) (fun _ _ => ?_) fun k _hk => ?_
      · refine ok_bnd _ (Prices_ok (by omega) hl hb) ?_
        rintro ⟨pp, e⟩ hpr
        rcases hpr with ⟨q, _⟩ | ⟨_, p1, p2⟩
        · exact absurd hz q
        simp only at p1 p2
        subst p1
        refine ok_brkF (by simp) ?_
        refine ok_join (by omega) (fun _ : PUnit => True) (fun _ _ => hBd 0) fun k hk => ?_
        refine ok_brkT rfl ?_
        have hpl := p2.l
        refine ok_bnde (refBound_eq (by omega) hl hb (by show pp.length ≤ 1000; omega)) (ok_brkF ?_ (hk _ trivial))
        have hpb : PrB pp := fun c hc => by
          obtain ⟨j, hj, rfl⟩ := List.getElem_of_mem hc
          have := p2.b j (by omega)
          rwa [getD_get hj] at this
        have hv : boundV f t l pp = (n, 0) := by
          unfold boundV
          rw [if_neg (fun q => q hz), if_neg (fun q => q hpl), if_neg (fun q => q hpb), p2.o.one q5]
        show ((boundV f t l pp).1 != n || (boundV f t l pp).2 != 0) = false
        rw [hv]; simp
      · refine ok_brkT rfl (ok_bnde (refRight_eq (by omega) hb hR q2 q3) (ok_brkF ?_ (_hk _ trivial)))
        rw [q4]; simp
    · rcases hbest with ⟨_, q⟩ | ⟨q, _⟩
      · simp only [Prod.mk.injEq] at q
        obtain ⟨rfl, rfl, rfl⟩ := q
        have hrb : ref11_Best F f t l = some (0, (jobsV f t l).2) := by
          refine Ok.eq ?_
          unfold ref11_Best
          exact ok_bnde (asked_eq (by omega) hl hb) (ok_brkT (by simpa using hz) (ok_some rfl))
        refine ok_bnde hrb (ok_brkF (by simp) ?_)
        have hne : ((jobsV f t l).2 == 0) = false := beq_eq_false_iff_ne.2 hz
        refine ok_join (by omega) (fun _ : PUnit => True) (fun _ _ => ?_) fun k hk => ?_
        · refine ok_bnd _ (Prices_ok (by omega) hl hb) ?_
          rintro ⟨pp, e⟩ hpr
          rcases hpr with ⟨_, q⟩ | ⟨q, _⟩
          · simp only [Prod.mk.injEq] at q
            obtain ⟨rfl, rfl⟩ := q
            refine ok_brkF (by simp) ?_
            refine ok_join (by omega) (fun _ : PUnit => True) (fun _ _ => hBd 0) fun k hk => ?_
            exact ok_brkF hne (ok_brkF (by simp) (hk _ trivial))
          · exact absurd q hz
        · exact ok_brkF hne (ok_brkF (by simp) (hk _ trivial))
      · exact absurd q hz
  · refine ok_find (d := f0) (p := fun x : Flight => decide ((x.Path.length : Int) > 120)) (g := fun x => law11_SpillFlights_1 F ⟨x.From, x.Path⟩) (by omega) (by omega) (fun c _ => rfl) (fun i _ _ => hk _ (.inl (by omega))) (fun hp => hk _ (.inr ⟨by omega, fun x hx => ?_⟩))
    have := of_decide_eq_false (hp x hx)
    omega
theorem spillFlights_ok {f : Field} {t : Fleet} {l : List Flight} {pr : List Int} {P Q R S : Prop} (_ : P) (_ : Q) (_ : R) (_ : S) : law11_SpillFlights 1000000000000000 f t l pr = some true := spillFlights_ok' rfl f t l pr
end Go.Proofs.Sp

namespace Go.KX

/-- Numbers of one byte. -/
structure Bytes (l : List Int) : Prop where
  b : ∀ x ∈ l, 0 ≤ x ∧ x ≤ 255
  len : l.length ≤ 9223372036854775807

section
variable {α : Type} {post : α → Prop} {l : List Int} {pos n : Int}

theorem next_gen (hl : Bytes l) (h0 : 0 ≤ pos) (hp : pos < l.length) (hn : 0 < n) :
    0 ≤ l.getD pos.toNat 0 ∧ l.getD pos.toNat 0 ≤ 255 ∧ 0 ≤ l.getD pos.toNat 0 % n ∧ l.getD pos.toNat 0 % n < n ∧ l.getD pos.toNat 0 % n ≤ 255 := by
  have h := hl.b _ (getD_mem (i := pos.toNat) (d := 0) (by omega))
  have h1 := Int.emod_nonneg (l.getD pos.toNat 0) (by omega : n ≠ 0)
  have h2 := Int.emod_lt_of_pos (l.getD pos.toNat 0) hn
  have h3 : l.getD pos.toNat 0 % n ≤ l.getD pos.toNat 0 := by
    have e := Int.emod_add_mul_ediv (l.getD pos.toNat 0) n
    have e2 := Int.mul_nonneg (by omega : 0 ≤ n) (Int.ediv_nonneg h.1 (by omega : 0 ≤ n))
    omega
  exact ⟨h.1, h.2, h1, h2, by omega⟩

theorem next_ok (hl : Bytes l) (h0 : 0 ≤ pos) (hp : pos ≤ l.length) (hn : 0 < n) (k : Int × Int → Option α) (hk : ∀ v p : Int, 0 ≤ v → v < n → v ≤ 255 → 0 ≤ p → p ≤ l.length → Ok post (k (v, p))) :
    Ok post (brk (decide (pos ≥ (l.length : Int))) (k (0, pos)) (chk (InR (pos + 1)) (chk (InR (pos + 1 - 1)) (chk (0 ≤ pos + 1 - 1 ∧ pos + 1 - 1 < (l.length : Int)) (chk (InR (l.getD (pos + 1 - 1).toNat 0)) (chk (0 ≤ l.getD (pos + 1 - 1).toNat 0 ∧ l.getD (pos + 1 - 1).toNat 0 ≤ 9223372036854775807) (k (l.getD (pos + 1 - 1).toNat 0 % n, pos + 1)))))))) := by
  have hlen := hl.len
  refine ok_brk (fun _ => hk 0 pos (by omega) hn (by omega) h0 hp) (fun hc => ?_)
  have hc : pos < l.length := by simpa using hc
  rw [show pos + 1 - 1 = pos by omega]
  obtain ⟨h1, h2, h3, h4, h5⟩ := next_gen hl h0 hc hn
  exact ok_chk ⟨by omega, by omega⟩ (ok_chk ⟨by omega, by omega⟩ (ok_chk ⟨h0, hc⟩ (ok_chk ⟨by omega, by omega⟩ (ok_chk ⟨h1, by omega⟩ (hk _ _ h3 h4 h5 (by omega) (by omega))))))

theorem next_okS (hl : Bytes l) (h0 : 0 ≤ pos) (hp : pos ≤ l.length) (hn : 0 < n) (k : Int × Int → Option α) (hk : ∀ v p : Int, 0 ≤ v → v < n → v ≤ 255 → 0 ≤ p → p ≤ l.length → Ok post (k (v, p))) :
    Ok post (brk (decide (pos ≥ (l.length : Int))) (k (0, pos)) (chk (InR (pos + 1)) (chk (InR (pos + 1 - 1)) (chk (0 ≤ pos + 1 - 1 ∧ pos + 1 - 1 < (l.length : Int)) (chk (InR (l.getD (pos + 1 - 1).toNat 0)) (chk ((0 ≤ l.getD (pos + 1 - 1).toNat 0 ∧ l.getD (pos + 1 - 1).toNat 0 ≤ 9223372036854775807) ∧ 0 < n) (k (l.getD (pos + 1 - 1).toNat 0 % n, pos + 1)))))))) := by
  have hlen := hl.len
  refine ok_brk (fun _ => hk 0 pos (by omega) hn (by omega) h0 hp) (fun hc => ?_)
  have hc : pos < l.length := by simpa using hc
  rw [show pos + 1 - 1 = pos by omega]
  obtain ⟨h1, h2, h3, h4, h5⟩ := next_gen hl h0 hc hn
  exact ok_chk ⟨by omega, by omega⟩ (ok_chk ⟨by omega, by omega⟩ (ok_chk ⟨h0, hc⟩ (ok_chk ⟨by omega, by omega⟩ (ok_chk ⟨⟨h1, by omega⟩, hn⟩ (hk _ _ h3 h4 h5 (by omega) (by omega))))))

theorem next_ok0 {w0 w1 : Int} (e0 : w0 = 0) (e1 : w1 = 1) (hl : Bytes l) (hn : 0 < n) (k : Int × Int → Option α) (hk : ∀ v p : Int, 0 ≤ v → v < n → v ≤ 255 → 0 ≤ p → p ≤ l.length → Ok post (k (v, p))) :
    Ok post (brk (decide (0 ≥ (l.length : Int))) (k (0, 0)) (chk (0 ≤ w0 ∧ w0 < (l.length : Int)) (chk (InR (l.getD w0.toNat 0)) (chk (0 ≤ l.getD w0.toNat 0 ∧ l.getD w0.toNat 0 ≤ 9223372036854775807) (k (l.getD w0.toNat 0 % n, w1)))))) := by
  subst e0; subst e1
  refine ok_brk (fun _ => hk 0 0 (by omega) hn (by omega) (by omega) (by omega)) (fun hc => ?_)
  have hc : (0 : Int) < l.length := by have := of_decide_eq_false hc; omega
  obtain ⟨h1, h2, h3, h4, h5⟩ := next_gen hl (Int.le_refl 0) hc hn
  exact ok_chk ⟨by omega, hc⟩ (ok_chk ⟨by omega, by omega⟩ (ok_chk ⟨h1, by omega⟩ (hk _ _ h3 h4 h5 (by omega) (by omega))))

theorem ok_next {F : Nat} (hF : 0 < F) (hl : Bytes l) (h0 : 0 ≤ pos) (hp : pos ≤ l.length) (hn : 0 < n) {K : Int × Int → Option α} (hk : ∀ v p : Int, 0 ≤ v → v < n → v ≤ 255 → 0 ≤ p → p ≤ l.length → Ok post (K (v, p))) :
    Ok post (join F K fun k => brk (decide (pos ≥ (l.length : Int))) (k (0, pos)) (chk (InR (pos + 1)) (chk (InR (pos + 1 - 1)) (chk (0 ≤ pos + 1 - 1 ∧ pos + 1 - 1 < (l.length : Int)) (chk (InR (l.getD (pos + 1 - 1).toNat 0)) (chk (0 ≤ l.getD (pos + 1 - 1).toNat 0 ∧ l.getD (pos + 1 - 1).toNat 0 ≤ 9223372036854775807) (k (l.getD (pos + 1 - 1).toNat 0 % n, pos + 1)))))))) :=
  ok_join hF (fun x : Int × Int => 0 ≤ x.1 ∧ x.1 < n ∧ x.1 ≤ 255 ∧ 0 ≤ x.2 ∧ x.2 ≤ l.length) (fun x ⟨a, b, c, d, e⟩ => hk x.1 x.2 a b c d e) fun k hk => next_ok hl h0 hp hn k fun v p a b c d e => hk (v, p) ⟨a, b, c, d, e⟩

theorem ok_nextS {F : Nat} (hF : 0 < F) (hl : Bytes l) (h0 : 0 ≤ pos) (hp : pos ≤ l.length) (hn : 0 < n) {K : Int × Int → Option α} (hk : ∀ v p : Int, 0 ≤ v → v < n → v ≤ 255 → 0 ≤ p → p ≤ l.length → Ok post (K (v, p))) :
    Ok post (join F K fun k => brk (decide (pos ≥ (l.length : Int))) (k (0, pos)) (chk (InR (pos + 1)) (chk (InR (pos + 1 - 1)) (chk (0 ≤ pos + 1 - 1 ∧ pos + 1 - 1 < (l.length : Int)) (chk (InR (l.getD (pos + 1 - 1).toNat 0)) (chk ((0 ≤ l.getD (pos + 1 - 1).toNat 0 ∧ l.getD (pos + 1 - 1).toNat 0 ≤ 9223372036854775807) ∧ 0 < n) (k (l.getD (pos + 1 - 1).toNat 0 % n, pos + 1)))))))) :=
  ok_join hF (fun x : Int × Int => 0 ≤ x.1 ∧ x.1 < n ∧ x.1 ≤ 255 ∧ 0 ≤ x.2 ∧ x.2 ≤ l.length) (fun x ⟨a, b, c, d, e⟩ => hk x.1 x.2 a b c d e) fun k hk => next_okS hl h0 hp hn k fun v p a b c d e => hk (v, p) ⟨a, b, c, d, e⟩

theorem ok_next0 {F : Nat} (hF : 0 < F) (hl : Bytes l) (hn : 0 < n) {K : Int × Int → Option α} (hk : ∀ v p : Int, 0 ≤ v → v < n → v ≤ 255 → 0 ≤ p → p ≤ l.length → Ok post (K (v, p))) :
    Ok post (join F K fun k => brk (decide ((0 : Int) ≥ (l.length : Int))) (k (0, 0)) (chk (0 ≤ IntKind.i64.wrap (IntKind.i64.wrap (0 + 1) - 1) ∧ IntKind.i64.wrap (IntKind.i64.wrap (0 + 1) - 1) < (l.length : Int)) (chk (InR (l.getD (IntKind.i64.wrap (IntKind.i64.wrap (0 + 1) - 1)).toNat 0)) (chk (0 ≤ l.getD (IntKind.i64.wrap (IntKind.i64.wrap (0 + 1) - 1)).toNat 0 ∧ l.getD (IntKind.i64.wrap (IntKind.i64.wrap (0 + 1) - 1)).toNat 0 ≤ 9223372036854775807) (k (l.getD (IntKind.i64.wrap (IntKind.i64.wrap (0 + 1) - 1)).toNat 0 % n, IntKind.i64.wrap (0 + 1))))))) :=
  ok_join hF (fun x : Int × Int => 0 ≤ x.1 ∧ x.1 < n ∧ x.1 ≤ 255 ∧ 0 ≤ x.2 ∧ x.2 ≤ l.length) (fun x ⟨a, b, c, d, e⟩ => hk x.1 x.2 a b c d e) fun k hk => next_ok0 rfl rfl hl hn k fun v p a b c d e => hk (v, p) ⟨a, b, c, d, e⟩
end
end Go.KX

namespace Go.Proofs.Sp
open Go Go.KX
structure CapsOK (n : Nat) (caps : List Span) : Prop where
  len : caps.length = n
  ok : ∀ s ∈ caps, SpanOK 10000 s

theorem wb {x lo hi : Int} (h1 : lo ≤ x) (h2 : x ≤ hi) : (decide (x ≥ lo) && decide (x ≤ hi)) = true := by rw [decide_eq_true (show x ≥ lo from h1), decide_eq_true h2]; rfl

theorem clone_eq {F : Nat} {l : List Span} (h : l.length ≤ 1000000) : slices_Clone_api_Span F l = some l := by
  unfold slices_Clone_api_Span
  rw [chk_pos (by simpa using h)]; rfl

theorem getD_set_here {l : List Span} {i : Nat} {s d : Span} (h : i < l.length) : (l.set i s).getD i d = s := by rw [getD_set' h, if_pos rfl]

abbrev g0 : Sight := Sight.mk (0 : Int) (Span.mk (0 : Int) (0 : Int))

def cutS (t : Sight) (s : Span) : Span := ⟨if s.Lo > t.Oil.Lo then s.Lo else t.Oil.Lo, if s.Hi < t.Oil.Hi then s.Hi else t.Oil.Hi⟩
/-- The cells, narrowed by sights one after the other; or an error. -/
def seeGo : List Sight → List Span → List Span × Int
  | [], c => (c, 0)
  | t :: r, c => if ¬ (0 ≤ t.Cell ∧ t.Cell ≤ (c.length : Int) - 1) then ([], 1) else if ¬ SpanOK 1000000 t.Oil then ([], 120) else
      if (cutS t (c.getD t.Cell.toNat ⟨0, 0⟩)).Lo > (cutS t (c.getD t.Cell.toNat ⟨0, 0⟩)).Hi then ([], 21) else seeGo r (c.set t.Cell.toNat (cutS t (c.getD t.Cell.toNat ⟨0, 0⟩)))
def seeRes (f : Field) (x : List Span × Int) : Field × Int := if x.2 = 0 then (⟨f.W, f.H, x.1⟩, 0) else (⟨0, 0, []⟩, x.2)
def seeV (f : Field) (S : List Sight) : Field × Int := if checkV f ≠ 0 then (⟨0, 0, []⟩, checkV f) else if S.length > 100 then (⟨0, 0, []⟩, 2) else seeRes f (seeGo S f.Cells)

theorem See_eq {F : Nat} {f : Field} {S : List Sight} (hF : 200 < F) (hl : f.Cells.length ≤ 80) (hS : S.length ≤ 120) : spill_See F f S = some (seeV f S) := by
  refine Ok.eq ?_
  unfold spill_See seeV
  refine ok_bnde (Check_eq (by show f.Cells.length < F; omega)) ?_
  show Ok _ (brk (checkV f != 0) _ _)
  refine ok_brk (fun h => ok_some ?_) (fun h => ?_)
  · rw [if_pos (by simpa using h)]
  have h : checkV f = 0 := by simpa using h
  have hf := checkV_ok h
  have hs := hf.small
  rw [if_neg (by simp [h])]
  refine ok_brk (fun h2 => ok_some ?_) (fun h2 => ?_)
  · rw [if_pos (by have := of_decide_eq_true h2; omega)]
  have h2 : S.length ≤ 100 := by have := of_decide_eq_false h2; omega
  rw [if_neg (by omega)]
  refine ok_bnde (clone_eq (by omega)) ?_
  refine ok_loop (fun x : Int × List Span => 0 ≤ x.1 ∧ x.1 ≤ S.length ∧ x.2.length = f.Cells.length ∧ seeGo (S.drop x.1.toNat) x.2 = seeGo S f.Cells) (fun x : Int × List Span => S.length - x.1.toNat) ⟨by simp, by simp, rfl, rfl⟩ (by simp; omega) ?_
  rintro ⟨i, c⟩ next ⟨i1, i2, i3, i4⟩ hn
  simp only at i1 i2 i3 i4
  rw [← i4]
  refine ok_brk (fun hc => ?_) (fun hc => ok_some ?_)
  · have hc : i < S.length := by simpa using hc
    have hi : i.toNat < S.length := by omega
    have hd := drop_cons' (d := g0) hi
    rw [hd, seeGo]
    refine ok_chk ⟨i1, hc⟩ (ok_chk (show InR ((c.length : Int) - 1) from ⟨by omega, by omega⟩) ?_)
    dsimp only
    show Ok _ (bnd (spill_within F (S.getD i.toNat g0).Cell 0 ((c.length : Int) - 1)) _)
    generalize hteq : S.getD i.toNat g0 = t at hd
    rw [within_eq, bnd_so]
    refine ok_brk (fun hb => ok_some ?_) (fun hb => ?_)
    · rw [if_pos]
      · rfl
      · intro h3
        rw [wb h3.1 h3.2] at hb; cases hb
    · have hb : 0 ≤ t.Cell ∧ t.Cell ≤ (c.length : Int) - 1 := by simpa using hb
      rw [if_neg (fun h => h hb)]
      have htn : t.Cell.toNat < c.length := by omega
      have hidx : 0 ≤ t.Cell ∧ t.Cell < (c.length : Int) := by omega
      refine ok_bnde (span_eq F ⟨t.Oil.Lo, t.Oil.Hi⟩ 1000000) (ok_brk (fun hb2 => ok_some ?_) (fun hb2 => ?_))
      · have hb2 : ¬ SpanOK 1000000 t.Oil := nd_true hb2
        rw [if_pos hb2]; rfl
      · have hb2 : SpanOK 1000000 t.Oil := nd_false hb2
        rw [if_neg (fun h => h hb2)]
        refine ok_chk hidx (ok_bnde rfl (ok_chk hidx (ok_chk ⟨hb.1, by show t.Cell < ((List.set _ _ _).length : Int); rw [List.length_set]; omega⟩ (ok_chk ⟨hb.1, by show t.Cell < ((List.set _ _ _).length : Int); rw [List.length_set]; omega⟩ ?_))))
        simp only [getD_set_here htn]
        show Ok _ (brk (decide ((cutS t (c.getD t.Cell.toNat ⟨0, 0⟩)).Lo > (cutS t (c.getD t.Cell.toNat ⟨0, 0⟩)).Hi)) _ _)
        refine ok_brk (fun hb3 => ok_some ?_) (fun hb3 => ?_)
        · rw [if_pos (of_decide_eq_true hb3)]; rfl
        · rw [if_neg (of_decide_eq_false hb3)]
          have i4' := i4
          rw [hd, seeGo, if_neg (fun h => h hb), if_neg (fun h => h hb2), if_neg (of_decide_eq_false hb3)] at i4'
          rw [i4']
          refine ok_chk (show InR (i + 1) from ⟨by omega, by omega⟩) (hn _ ⟨by show 0 ≤ i + 1; omega, by show i + 1 ≤ _; omega, by show (c.set _ _).length = _; rw [List.length_set]; exact i3, ?_⟩ (by show S.length - (i + 1).toNat < S.length - i.toNat; omega))
          show seeGo (S.drop (i + 1).toNat) (c.set t.Cell.toNat (cutS t (c.getD t.Cell.toNat ⟨0, 0⟩))) = _
          rw [show (i + 1).toNat = i.toNat + 1 by omega]; exact i4'
  · have hc : ¬ i < S.length := by simpa using hc
    rw [List.drop_eq_nil_of_le (by omega)]; rfl

theorem seeGo_ok : ∀ (S : List Sight) (c : List Span), (∀ s ∈ c, SpanOK 1000000 s) → (∀ s ∈ (seeGo S c).1, SpanOK 1000000 s) ∧ (seeGo S c).1.length ≤ c.length
  | [], c, h => ⟨h, Nat.le_refl _⟩
  | t :: r, c, h => by
    rw [seeGo]
    split
    · exact ⟨fun s hs => by simp at hs, by simp⟩
    · rename_i h1
      split
      · exact ⟨fun s hs => by simp at hs, by simp⟩
      · rename_i h2
        split
        · exact ⟨fun s hs => by simp at hs, by simp⟩
        · rename_i h3
          have h1 := Classical.not_not.1 h1
          have h2 := Classical.not_not.1 h2
          have hk := h _ (getD_mem (i := t.Cell.toNat) (d := (⟨0, 0⟩ : Span)) (by omega : t.Cell.toNat < c.length))
          obtain ⟨g1, g2⟩ := seeGo_ok r (c.set t.Cell.toNat (cutS t (c.getD t.Cell.toNat ⟨0, 0⟩))) (fun s hs => by
            rcases List.mem_or_eq_of_mem_set hs with hs | rfl
            · exact h s hs
            · refine ⟨?_, by omega, ?_⟩
              · simp only [cutS]; split <;> omega
              · simp only [cutS]; split <;> omega)
          exact ⟨g1, by rw [List.length_set] at g2; exact g2⟩

/-- Amounts in a field's bounds. -/
def Inside (cells : List Span) (am : List Int) : Prop := ∀ i, i < am.length → (cells.getD i ⟨0, 0⟩).Lo ≤ am.getD i 0 ∧ am.getD i 0 ≤ (cells.getD i ⟨0, 0⟩).Hi

structure MadeOK (x : Field × List Span × List Int) : Prop where
  f : FieldOK x.1
  small : x.1.W ≤ 4 ∧ x.1.H ≤ 4
  caps : CapsOK x.1.Cells.length x.2.1
  len : x.2.2.length = x.1.Cells.length
  inside : Inside x.1.Cells x.2.2
  nn : ∀ a ∈ x.2.2, 0 ≤ a ∧ a ≤ 600
  hi : ∀ s ∈ x.1.Cells, s.Hi ≤ 600
  chi : ∀ s ∈ x.2.1, s.Hi ≤ 200

theorem inside_snoc {cells : List Span} {am : List Int} {s : Span} {a : Int} (hl : am.length = cells.length) (h : Inside cells am) (h1 : s.Lo ≤ a) (h2 : a ≤ s.Hi) : Inside (cells ++ [s]) (am ++ [a]) := by
  intro i hi
  rw [List.length_append, List.length_singleton] at hi
  by_cases e : i < am.length
  · rw [getD_append_left' e, getD_append_left' (by omega)]; exact h i e
  · obtain rfl : i = am.length := by omega
    rw [getD_append_here, hl, getD_append_here]; exact ⟨h1, h2⟩

theorem mem_snoc {α : Type} {p : α → Prop} {l : List α} {x : α} (h : ∀ y ∈ l, p y) (hx : p x) : ∀ y ∈ l ++ [x], p y := by
  intro y hy
  rcases List.mem_append.1 hy with hy | hy
  · exact h y hy
  · rcases List.mem_singleton.1 hy with rfl; exact hx

theorem Made_ok {F : Nat} {l : List Int} (hF : 100 < F) (hl : Bytes l) : Ok MadeOK (law11_Made F l) := by
  unfold law11_Made
  refine ok_join (by omega) (fun x : Int × Int => 0 ≤ x.1 ∧ x.1 < 4 ∧ 0 ≤ x.2 ∧ x.2 ≤ l.length) ?_ fun k hk => next_ok0 rfl rfl hl (by decide) k fun v p h1 h2 _ h3 h4 => hk _ ⟨h1, h2, h3, h4⟩
  rintro ⟨w, p0⟩ ⟨w1, w2, w3, w4⟩
  simp only at w1 w2 w3 w4
  refine ok_chk (by constructor <;> (first | omega | (dsimp only; omega))) ?_
  refine ok_join (by omega) (fun x : Int × Int => 0 ≤ x.1 ∧ x.1 < 4 ∧ 0 ≤ x.2 ∧ x.2 ≤ l.length) ?_ fun k hk => next_ok hl w3 w4 (by decide) k fun v p h1 h2 _ h3 h4 => hk _ ⟨h1, h2, h3, h4⟩
  rintro ⟨h, p1⟩ ⟨v1, v2, v3, v4⟩
  simp only at v1 v2 v3 v4
  have hb := mul_bound (w := 1 + w) (h := 1 + h) (by omega) (by omega) (by omega) (by omega)
  refine ok_chk (by constructor <;> (first | omega | (dsimp only; omega))) (ok_chk (show InR ((1 + w) * (1 + h)) from ⟨by omega, by omega⟩) ?_)
  refine ok_loop (fun x : List Int × Int × List Span × List Span × Int => 0 ≤ x.2.1 ∧ x.2.1 ≤ (1 + w) * (1 + h) ∧ (x.1.length : Int) = x.2.1 ∧ (x.2.2.1.length : Int) = x.2.1 ∧ (x.2.2.2.1.length : Int) = x.2.1 ∧ 0 ≤ x.2.2.2.2 ∧ x.2.2.2.2 ≤ l.length ∧
    Inside x.2.2.2.1 x.1 ∧ (∀ a ∈ x.1, 0 ≤ a ∧ a ≤ 600) ∧ (∀ s ∈ x.2.2.1, SpanOK 200 s) ∧ (∀ s ∈ x.2.2.2.1, SpanOK 600 s)) (fun x : List Int × Int × List Span × List Span × Int => ((1 + w) * (1 + h)).toNat - x.2.1.toNat)
    ⟨by simp, by simp; omega, rfl, rfl, rfl, v3, v4, fun i hi => absurd hi (Nat.not_lt_zero _), by simp, by simp, by simp⟩ (by simp; omega) ?_
  rintro ⟨am, i, caps, cells, pos⟩ next ⟨i1, i2, i3, i4, i5, i6, i7, i8, i9, i10, i11⟩ hn
  simp only at i1 i2 i3 i4 i5 i6 i7 i8 i9 i10 i11
  refine ok_brk (fun hc => ?_) (fun hc => ok_some ?_)
  · have hc : i < (1 + w) * (1 + h) := by simpa using hc
    refine ok_join (by omega) (fun x : Int × Int => 0 ≤ x.1 ∧ x.1 < 256 ∧ 0 ≤ x.2 ∧ x.2 ≤ l.length) ?_ fun k hk => next_ok hl i6 i7 (by decide) k fun v p h1 h2 _ h3 h4 => hk _ ⟨h1, h2, h3, h4⟩
    rintro ⟨a, p2⟩ ⟨a1, a2, a3, a4⟩
    simp only at a1 a2 a3 a4
    have hlo : 0 ≤ (if 4 * a - 500 > 0 then 4 * a - 500 else 0) ∧ (if 4 * a - 500 > 0 then 4 * a - 500 else 0) ≤ 520 := by split <;> omega
    refine ok_chk (by constructor <;> (first | omega | (dsimp only; omega))) (ok_chk (by constructor <;> (first | omega | (dsimp only; omega))) ?_)
    refine ok_join (by omega) (fun x : Int × Int => 0 ≤ x.1 ∧ x.1 < 60 ∧ 0 ≤ x.2 ∧ x.2 ≤ l.length) ?_ fun k hk => next_ok hl a3 a4 (by decide) k fun v p h1 h2 _ h3 h4 => hk _ ⟨h1, h2, h3, h4⟩
    rintro ⟨b, p3⟩ ⟨b1, b2, b3, b4⟩
    simp only at b1 b2 b3 b4
    show Ok MadeOK (chk (InR ((if 4 * a - 500 > 0 then 4 * a - 500 else 0) + b)) _)
    generalize (if 4 * a - 500 > 0 then 4 * a - 500 else 0) = lo at hlo ⊢
    refine ok_chk ⟨by omega, by omega⟩ (ok_chk (show cells.length + 1 ≤ 1000000 by omega) (ok_chk (show InR (lo + b - lo) from ⟨by omega, by omega⟩) (ok_chk (show InR (lo + b - lo + 1) from ⟨by omega, by omega⟩) ?_)))
    refine ok_join (by omega) (fun x : Int × Int => 0 ≤ x.1 ∧ x.1 < lo + b - lo + 1 ∧ 0 ≤ x.2 ∧ x.2 ≤ l.length) ?_ fun k hk => next_okS (n := lo + b - lo + 1) hl b3 b4 (by omega) k fun v p h1 h2 _ h3 h4 => hk _ ⟨h1, h2, h3, h4⟩
    rintro ⟨c, p4⟩ ⟨c1, c2, c3, c4⟩
    simp only at c1 c2 c3 c4
    refine ok_chk (show InR (lo + c) from ⟨by omega, by omega⟩) (ok_chk (show am.length + 1 ≤ 1000000 by omega) ?_)
    refine ok_join (by omega) (fun x : Int × Int => 0 ≤ x.1 ∧ x.1 < 100 ∧ 0 ≤ x.2 ∧ x.2 ≤ l.length) ?_ fun k hk => next_ok hl c3 c4 (by decide) k fun v p h1 h2 _ h3 h4 => hk _ ⟨h1, h2, h3, h4⟩
    rintro ⟨d, p5⟩ ⟨d1, d2, d3, d4⟩
    simp only at d1 d2 d3 d4
    refine ok_join (by omega) (fun x : Int × Int => 0 ≤ x.1 ∧ x.1 < 40 ∧ 0 ≤ x.2 ∧ x.2 ≤ l.length) ?_ fun k hk => next_ok hl d3 d4 (by decide) k fun v p h1 h2 _ h3 h4 => hk _ ⟨h1, h2, h3, h4⟩
    rintro ⟨e, p6⟩ ⟨e1, e2, e3, e4⟩
    simp only at e1 e2 e3 e4
    refine ok_chk (show InR (d + e) from ⟨by omega, by omega⟩) (ok_chk (show caps.length + 1 ≤ 1000000 by omega) (ok_chk (show InR (i + 1) from ⟨by omega, by omega⟩) (hn _ ?_ ?_)))
    · refine ⟨by show 0 ≤ i + 1; omega, by show i + 1 ≤ _; omega, ?_, ?_, ?_, e3, e4, inside_snoc (show am.length = cells.length by omega) i8 ?_ ?_, mem_snoc i9 ⟨by omega, by omega⟩, mem_snoc i10 ⟨by show 0 ≤ d; omega, by show d ≤ d + e; omega, by show d + e ≤ 200; omega⟩, mem_snoc i11 ⟨by show 0 ≤ lo; omega, by show lo ≤ lo + b; omega, by show lo + b ≤ 600; omega⟩⟩
      · show ((am ++ [_]).length : Int) = i + 1
        rw [List.length_append, List.length_singleton]; omega
      · show ((caps ++ [_]).length : Int) = i + 1
        rw [List.length_append, List.length_singleton]; omega
      · show ((cells ++ [_]).length : Int) = i + 1
        rw [List.length_append, List.length_singleton]; omega
      · show lo ≤ lo + c; omega
      · show lo + c ≤ lo + b; omega
    · show ((1 + w) * (1 + h)).toNat - (i + 1).toNat < ((1 + w) * (1 + h)).toNat - i.toNat
      omega
  · have hc : ¬ i < (1 + w) * (1 + h) := by simpa using hc
    have hi : i = (1 + w) * (1 + h) := by omega
    exact ⟨⟨⟨by show 1 ≤ 1 + w; omega, by show 1 + w ≤ 8; omega⟩, ⟨by show 1 ≤ 1 + h; omega, by show 1 + h ≤ 8; omega⟩, by show (cells.length : Int) = (1 + w) * (1 + h); omega, fun s hs => by have := i11 s hs; exact ⟨this.1, this.2.1, by have := this.2.2; omega⟩⟩,
      ⟨by show 1 + w ≤ 4; omega, by show 1 + h ≤ 4; omega⟩, ⟨by show caps.length = cells.length; omega, fun s hs => by have := i10 s hs; exact ⟨this.1, this.2.1, by have := this.2.2; omega⟩⟩, by show am.length = cells.length; omega, i8, i9, fun s hs => (i11 s hs).2.2, fun s hs => (i10 s hs).2.2⟩
def MaxOK (l : List Int) (m : Int) : Prop := m ∈ l ∧ ∀ c ∈ l, c ≤ m

theorem max_ok {F : Nat} {l : List Int} (hF : l.length < F) (hl : l.length ≤ 1000000) (h : 1 ≤ l.length) : Ok (MaxOK l) (slices_Max_int F l) := by
  unfold slices_Max_int
  refine ok_brkF (by simp; omega) (ok_chk ⟨by omega, by omega⟩ ?_)
  refine ok_loop (fun x : Int × Int => 1 ≤ x.1 ∧ x.1 ≤ l.length ∧ x.2 ∈ l ∧ ∀ j : Nat, (j : Int) < x.1 → l.getD j 0 ≤ x.2) (fun x : Int × Int => l.length - x.1.toNat) ⟨by simp, by simp; omega, getD_mem (by show (0 : Nat) < _; omega), fun j hj => by
    have hj : (j : Int) < 1 := hj
    obtain rfl : j = 0 := by omega
    exact Int.le_refl _⟩ (by simp; omega) ?_
  rintro ⟨i, s⟩ next ⟨i1, i2, i3, i4⟩ hn
  simp only at i1 i2 i3 i4
  dsimp only
  refine ok_brk (fun hc => ?_) (fun hc => ok_some ⟨i3, fun c hc' => ?_⟩)
  · have hc : i < l.length := of_decide_eq_true hc
    refine ok_chk ⟨by omega, hc⟩ (ok_chk (show InR _ from ⟨by omega, by omega⟩) (hn _ ⟨by show 1 ≤ i + 1; omega, by show i + 1 ≤ _; omega, ?_, fun j hj => ?_⟩ (by show l.length - (i + 1).toNat < l.length - i.toNat; omega)))
    · show (if l.getD i.toNat 0 > s then l.getD i.toNat 0 else s) ∈ l
      split
      · exact getD_mem (by omega)
      · exact i3
    · have hj : (j : Int) < i + 1 := hj
      show l.getD j 0 ≤ if l.getD i.toNat 0 > s then l.getD i.toNat 0 else s
      by_cases e : (j : Int) < i
      · have := i4 j e
        split <;> omega
      · obtain rfl : j = i.toNat := by omega
        split <;> omega
  · have hc : ¬ i < l.length := of_decide_eq_false hc
    obtain ⟨j, hj, rfl⟩ := List.getElem_of_mem hc'
    have := i4 j (by omega)
    rw [getD_get hj] at this
    exact this

/-! ### Levels -/


end Go.Proofs.Sp

namespace Go.Proofs.Sp
open Go Go.KX

structure Chain (f : Field) (b : Int) (P : List Int) : Prop where
  ne : 1 ≤ P.length
  st : P.getD 0 0 = b
  wi : ∀ i : Nat, i < P.length → 0 ≤ P.getD i 0 ∧ P.getD i 0 < f.Cells.length
  nr : ∀ i : Nat, 0 < i → i < P.length → P.getD (i - 1) 0 ∈ nb f.W f.H (P.getD i 0)

theorem Chain.one {f : Field} {b : Int} (h : 0 ≤ b ∧ b < f.Cells.length) : Chain f b [b] :=
  ⟨by simp, rfl, fun i hi => by
    obtain rfl : i = 0 := by simpa using hi
    exact h, fun i h0 hi => by simp at hi; omega⟩

theorem Chain.snoc {f : Field} {b y : Int} {P : List Int} (h : Chain f b P) (hy : 0 ≤ y ∧ y < f.Cells.length) (hn : P.getD (P.length - 1) 0 ∈ nb f.W f.H y) : Chain f b (P ++ [y]) := by
  have hne := h.ne
  refine ⟨by simp, by rw [getD_append_left' (by omega)]; exact h.st, fun i hi => ?_, fun i h0 hi => ?_⟩
  · rw [List.length_append, List.length_singleton] at hi
    by_cases e : i < P.length
    · rw [getD_append_left' e]; exact h.wi i e
    · obtain rfl : i = P.length := by omega
      rw [getD_append_here]; exact hy
  · rw [List.length_append, List.length_singleton] at hi
    rw [getD_append_left' (i := i - 1) (by omega)]
    by_cases e : i < P.length
    · rw [getD_append_left' (i := i) e]; exact h.nr i h0 e
    · obtain rfl : i = P.length := by omega
      rw [getD_append_here]; exact hn

theorem Chain.path {f : Field} {b : Int} {P : List Int} (h : Chain f b P) (he : P.getD (P.length - 1) 0 = b) : PathOK f b P :=
  ⟨List.length_pos_iff.1 h.ne, h.st, he, h.wi, h.nr⟩

/-- What is beside is a neighbour. -/
theorem beside {f : Field} (hf : FieldOK f) {c y : Int} (hc : 0 ≤ c ∧ c < f.Cells.length) (h : y ∈ nbR f.W f.H c) : (0 ≤ y ∧ y < f.Cells.length) ∧ c ∈ nb f.W f.H y ∧ y ∈ nb f.W f.H c := by
  have hl := hf.len
  rw [← nbR_eq hf.w hf.h ⟨hc.1, by omega⟩] at h
  have h1 := nbl_mem hf.w hf.h y h
  have h2 := (grid_of hf.w hf.h (c := c) ⟨hc.1, by omega⟩).2.2 y h1.1 h1.2
  exact ⟨⟨h1.1, by omega⟩, h2.1 h, h⟩

structure TripsOK (f : Field) (b : Int) (l : List Flight) : Prop where
  len : l.length ≤ 8
  ok : ∀ x ∈ l, (0 ≤ x.From ∧ x.From ≤ 13) ∧ PathOK f b x.Path ∧ x.Path.length ≤ 9

set_option maxHeartbeats 1000000 in
theorem trips_ok {F : Nat} (hF : 2000 < F) {f : Field} {t : Fleet} {m : List Int} (hf : FieldOK f) (hb : 0 ≤ t.Base ∧ t.Base < f.Cells.length) (hm : Bytes m) : Ok (TripsOK f t.Base) (law11_trips F f t m) := by
  have hs := hf.small
  have hW := hf.w
  have hH := hf.h
  have hl := hf.len
  unfold law11_trips
  refine ok_next0 (by omega) hm (by omega) ?_
  intro cnt p0 c1 c2 _ c4 c5
  dsimp only
  refine ok_loop (fun x : List Flight × Int × Int => 0 ≤ x.2.1 ∧ x.2.1 ≤ cnt ∧ (x.1.length : Int) = x.2.1 ∧ 0 ≤ x.2.2 ∧ x.2.2 ≤ m.length ∧ ∀ z ∈ x.1, (0 ≤ z.From ∧ z.From ≤ 13) ∧ PathOK f t.Base z.Path ∧ z.Path.length ≤ 9) (fun x => (cnt - x.2.1).toNat)
    ⟨by simp, c1, rfl, c4, c5, fun x hx => by cases hx⟩ (by show (cnt - 0).toNat < F; omega) ?_
  rintro ⟨out, n, pos⟩ next ⟨i1, i2, i3, i4, i5, i6⟩ hnx
  simp only at i1 i2 i3 i4 i5 i6
  dsimp only
  refine ok_brk (fun hc => ?_) (fun hc => ok_some ⟨by show out.length ≤ 8; have := of_decide_eq_false hc; omega, i6⟩)
  have hc : n < cnt := of_decide_eq_true hc
  refine ok_next (by omega) hm i4 i5 (by omega) ?_
  intro fr p1 f1 f2 _ f4 f5
  dsimp only
  refine ok_next (by omega) hm f4 f5 (by omega) ?_
  intro steps p2 g1 g2 _ g4 g5
  dsimp only
  refine ok_loop (fun x : Int × Int × List Int × Int => 0 ≤ x.2.1 ∧ x.2.1 ≤ steps ∧ 0 ≤ x.2.2.2 ∧ x.2.2.2 ≤ m.length ∧ (x.2.2.1.length : Int) ≤ x.2.1 + 1 ∧ Chain f t.Base x.2.2.1 ∧ x.2.2.1.getD (x.2.2.1.length - 1) 0 = x.1) (fun x => (steps - x.2.1).toNat)
    ⟨by simp, g1, g4, g5, by simp, Chain.one hb, rfl⟩ (by show (steps - 0).toNat < F; omega) ?_
  rintro ⟨at', j, P, q⟩ next1 ⟨j1, j2, j3, j4, j5, j6, j7⟩ hn1
  simp only at j1 j2 j3 j4 j5 j6 j7
  dsimp only
  have hne := j6.ne
  have hatw : 0 ≤ at' ∧ at' < f.Cells.length := by rw [← j7]; exact j6.wi _ (by omega)
  refine ok_brk (fun hd => ?_) (fun hd => ?_)
  · have hd : j < steps := of_decide_eq_true hd
    refine ok_join (by omega) (fun x : Int × List Int × Int => 0 ≤ x.2.2 ∧ x.2.2 ≤ m.length ∧ (x.2.1.length : Int) ≤ j + 2 ∧ Chain f t.Base x.2.1 ∧ x.2.1.getD (x.2.1.length - 1) 0 = x.1) (fun x hx => ok_chk (show InR _ from ⟨by omega, by omega⟩) (hn1 _ ⟨by show 0 ≤ j + 1; omega, by show j + 1 ≤ steps; omega, hx.1, hx.2.1, by show (x.2.1.length : Int) ≤ j + 1 + 1; have := hx.2.2.1; omega, hx.2.2.2.1, hx.2.2.2.2⟩ (by show (steps - (j + 1)).toNat < (steps - j).toNat; omega))) fun k hk => ?_
    refine ok_join (by omega) (fun x : Int × Int => 0 ≤ x.2 ∧ x.2 ≤ m.length ∧ (x.1 = at' ∨ x.1 ∈ nbR f.W f.H at')) (fun x hx => ?_) fun k2 hk2 => ?_
    · obtain ⟨y, p3⟩ := x
      obtain ⟨x1, x2, x3⟩ := hx
      simp only at x1 x2 x3
      dsimp only
      refine ok_brk (fun he => ok_chk (by simp; omega) (hk _ ⟨x1, x2, ?_, ?_, ?_⟩)) (fun he => hk _ ⟨x1, x2, by show (P.length : Int) ≤ j + 2; omega, j6, j7⟩)
      · show ((P ++ [y]).length : Int) ≤ j + 2
        simp; omega
      · have he : y ≠ at' := by simpa using he
        rcases x3 with x3 | x3
        · exact absurd x3 he
        · have hbs := beside hf hatw x3
          exact j6.snoc hbs.1 (by rw [j7]; exact hbs.2.1)
      · show (P ++ [y]).getD ((P ++ [y]).length - 1) 0 = y
        rw [List.length_append, List.length_singleton, Nat.add_sub_cancel, getD_append_here]
    · refine ok_next (by omega) hm j3 j4 (by omega) ?_
      intro v p3 v1 v2 _ v4 v5
      dsimp only
      have hdiv : 0 ≤ at' / f.W ∧ at' / f.W < f.H ∧ 0 ≤ at' % f.W ∧ at' % f.W < f.W := by
        obtain ⟨q1, q2, q3, q4⟩ := pos_bound hW hH (c := at') ⟨hatw.1, by omega⟩
        exact ⟨q3, by omega, q1, by omega⟩
      have hin : ∀ y, y ∈ nbR f.W f.H at' → y = at' ∨ y ∈ nbR f.W f.H at' := fun y h => .inr h
      refine ok_brk (fun _ => ?_) (fun _ => ok_brk (fun _ => ?_) (fun _ => ok_brk (fun _ => ?_) (fun _ => ?_)))
      · refine ok_brk (fun he => ?_) (fun he => hk2 _ ⟨v4, v5, .inl rfl⟩)
        have he : at' ≥ f.W := of_decide_eq_true he
        refine ok_chk (show InR _ from ⟨by omega, by omega⟩) (hk2 _ ⟨v4, v5, .inr ?_⟩)
        have : 1 ≤ at' / f.W := Int.le_ediv_of_mul_le (by omega) (by omega)
        unfold nbR
        rw [if_pos (show at' / f.W > 0 by omega)]
        simp
      · refine ok_chk ⟨⟨hatw.1, by omega⟩, by omega⟩ (ok_chk (show InR _ from ⟨by omega, by omega⟩) (ok_brk (fun he => ?_) (fun he => hk2 _ ⟨v4, v5, .inl rfl⟩)))
        have he : at' % f.W < f.W - 1 := of_decide_eq_true he
        refine ok_chk (show InR _ from ⟨by omega, by omega⟩) (hk2 _ ⟨v4, v5, .inr ?_⟩)
        unfold nbR
        rw [if_pos he]
        simp
      · refine ok_chk ⟨⟨hatw.1, by omega⟩, by omega⟩ (ok_chk (show InR _ from ⟨by omega, by omega⟩) (ok_brk (fun he => ?_) (fun he => hk2 _ ⟨v4, v5, .inl rfl⟩)))
        have he : at' / f.W < f.H - 1 := of_decide_eq_true he
        refine ok_chk (show InR _ from ⟨by omega, by omega⟩) (hk2 _ ⟨v4, v5, .inr ?_⟩)
        unfold nbR
        rw [if_pos he]
        simp
      · refine ok_chk ⟨⟨hatw.1, by omega⟩, by omega⟩ (ok_brk (fun he => ?_) (fun he => hk2 _ ⟨v4, v5, .inl rfl⟩))
        have he : at' % f.W > 0 := of_decide_eq_true he
        refine ok_chk (show InR _ from ⟨by omega, by omega⟩) (hk2 _ ⟨v4, v5, .inr ?_⟩)
        unfold nbR
        rw [if_pos he]
        simp
  · have hd : ¬ j < steps := of_decide_eq_false hd
    -- the way back
    refine ok_chk (show InR _ from ⟨by omega, by omega⟩) ?_
    refine ok_loop (fun x : Int × List Int => -1 ≤ x.1 ∧ x.1 ≤ P.length - 2 ∧ (x.2.length : Int) = P.length + (P.length - 2 - x.1) ∧ (∀ i : Nat, i < P.length → x.2.getD i 0 = P.getD i 0) ∧ Chain f t.Base x.2 ∧ x.2.getD (x.2.length - 1) 0 = P.getD (x.1 + 1).toNat 0) (fun x => (x.1 + 1).toNat)
      ⟨by show (-1 : Int) ≤ P.length - 2; omega, Int.le_refl _, by show (P.length : Int) = _; omega, fun _ _ => rfl, j6, by show P.getD (P.length - 1) 0 = P.getD ((P.length : Int) - 2 + 1).toNat 0; rw [show ((P.length : Int) - 2 + 1).toNat = P.length - 1 by omega]⟩ (by show ((P.length : Int) - 2 + 1).toNat < F; omega) ?_
    rintro ⟨i, Q⟩ next2 ⟨d1, d2, d3, d4, d5, d6⟩ hn2
    simp only at d1 d2 d3 d4 d5 d6
    dsimp only
    refine ok_brk (fun he => ?_) (fun he => ?_)
    · have he : i ≥ 0 := of_decide_eq_true he
      have hv := d4 i.toNat (by omega)
      refine ok_chk ⟨by omega, by omega⟩ (ok_chk (by simp; omega) (ok_chk (show InR _ from ⟨by omega, by omega⟩) (hn2 _ ⟨by show -1 ≤ i - 1; omega, by show i - 1 ≤ _; omega, ?_, fun z hz => ?_, ?_, ?_⟩ (by show (i - 1 + 1).toNat < (i + 1).toNat; omega))))
      · show ((Q ++ [_]).length : Int) = P.length + (P.length - 2 - (i - 1))
        simp; omega
      · show (Q ++ [_]).getD z 0 = _
        rw [getD_append_left' (by omega)]; exact d4 z hz
      · show Chain f t.Base (Q ++ [Q.getD i.toNat 0])
        rw [hv]
        have w1 := j6.wi i.toNat (by omega)
        have w2 := j6.wi (i + 1).toNat (by omega)
        have hnr := j6.nr (i + 1).toNat (by omega) (by omega)
        rw [show (i + 1).toNat - 1 = i.toNat by omega] at hnr
        refine d5.snoc w1 ?_
        rw [d6]
        exact (grid_of hW hH (c := P.getD (i + 1).toNat 0) ⟨w2.1, by omega⟩).2.2 _ w1.1 (by omega) |>.1 hnr
      · show (Q ++ [Q.getD i.toNat 0]).getD ((Q ++ [Q.getD i.toNat 0]).length - 1) 0 = P.getD (i - 1 + 1).toNat 0
        rw [List.length_append, List.length_singleton, Nat.add_sub_cancel, getD_append_here, hv, show i - 1 + 1 = i by omega]
    · have he : ¬ i ≥ 0 := of_decide_eq_false he
      obtain rfl : i = -1 := by omega
      refine ok_chk (by simp; omega) (ok_chk (show InR _ from ⟨by omega, by omega⟩) (hnx _ ⟨by show 0 ≤ n + 1; omega, by show n + 1 ≤ cnt; omega, by simp; omega, j3, j4, fun x hx => ?_⟩ (by show (cnt - (n + 1)).toNat < (cnt - n).toNat; omega)))
      rcases List.mem_append.1 hx with hx | hx
      · exact i6 x hx
      · obtain rfl := List.mem_singleton.1 hx
        refine ⟨⟨f1, by show fr ≤ 13; omega⟩, d5.path ?_, by show Q.length ≤ 9; omega⟩
        rw [d6]; exact j6.st
end Go.Proofs.Sp

namespace Go.Proofs.Sp
open Go Go.KX

/-! ### Flights of numbers -/

theorem job0 {f : Field} {t : Fleet} {x : Flight} (hf : FieldOK f) (ht : FleetOK f.Cells.length t) (hr : 8 ≤ t.Range) (hx : (0 ≤ x.From ∧ x.From ≤ 13) ∧ PathOK f t.Base x.Path ∧ x.Path.length ≤ 9) : (jobE f t x).2 = 0 ∧ (jobE f t x).1.f_worth = worthV f x.Path ∧ (jobE f t x).1.f_from = x.From := by
  obtain ⟨h1, h2, h3⟩ := hx
  have h0 : (jobE f t x).2 = 0 := by
    obtain ⟨s1, s2, s3, s4⟩ := hours_spec (t := t) (P := x.Path) ht.2.2.1 (by omega)
    have hS := ht.2.2.1
    have hh : hoursV t x.Path ≤ 9 := by
      rcases s4 with s4 | s4
      · omega
      · rcases Int.lt_or_le 9 (hoursV t x.Path) with q | q
        · have : (hoursV t x.Path - 1) * 1 ≤ (hoursV t x.Path - 1) * t.Speed := Int.mul_le_mul_of_nonneg_left hS.1 (by omega)
          omega
        · exact q
    unfold jobE
    rw [if_neg (fun q => q ⟨h1.1, by omega⟩), if_neg (fun q => q h2), if_neg (by omega), if_neg (by omega)]
  have := jobE_ok hf ht (by omega) h0
  exact ⟨h0, this.2.2.2, this.2.1⟩

theorem firstE_all : ∀ {l : List (Job × Int)}, (∀ x ∈ l, x.2 = 0) → firstE l = 0
  | [], _ => rfl
  | x :: l, h => by
    unfold firstE
    rw [if_neg (fun q => q (h x List.mem_cons_self))]
    exact firstE_all fun y hy => h y (List.mem_cons_of_mem _ hy)

theorem jobsV_ok {f : Field} {t : Fleet} {l : List Flight} (hf : FieldOK f) (ht : FleetOK f.Cells.length t) (hl : l.length ≤ 12) (h : ∀ x ∈ l, (jobE f t x).2 = 0) : jobsV f t l = (l.map fun x => (jobE f t x).1, 0) := by
  unfold jobsV
  rw [if_neg (fun q => q hf.check), if_neg (fun q => q ht), if_neg (by omega), if_neg (fun q => q (firstE_all fun x hx => by
    obtain ⟨y, hy, rfl⟩ := List.mem_map.1 hx
    exact h y hy))]

theorem TripsOK.fls {f : Field} {b : Int} {l : List Flight} (h : TripsOK f b l) : FlsB l := ⟨by have := h.len; omega, fun x hx => by have := (h.ok x hx).2.2; omega⟩

/-! ### Sums again -/

theorem sumN_shift {f : Nat → Int} : ∀ n : Nat, sumN (n + 1) f = f 0 + sumN n fun i => f (i + 1)
  | 0 => by simp [sumN]
  | n + 1 => by
    have ih := sumN_shift (f := f) n
    show sumN (n + 1) f + f (n + 1) = _
    rw [ih]
    simp only [sumN]
    omega
theorem val_cons (X : Job) (J : List Job) (ch : List Bool) : val (X :: J) (false :: ch) = val J ch := by
  unfold val
  rw [List.length_cons, sumN_shift]
  simp
theorem cov_cons (X : Job) (J : List Job) (ch : List Bool) (q : Nat) : cov (X :: J) (false :: ch) q = cov J ch q := by
  unfold cov
  rw [List.length_cons, sumN_shift, if_neg (show ¬ ((false :: ch).getD 0 false = true ∧ on (X :: J) 0 q) from fun t => Bool.false_ne_true t.1), Int.zero_add]
  apply sumN_congr
  intro i _
  rfl

theorem covP_set {J : List Job} {ch : List Bool} {i q : Nat} {x : Bool} : ∀ n : Nat, n ≤ i → covP J (ch.set i x) n q = covP J ch n q := fun n hn => by
  unfold covP
  apply sumN_congr
  intro j hj
  rw [show (ch.set i x).getD j false = ch.getD j false by
    rw [List.getD_eq_getElem?_getD, List.getD_eq_getElem?_getD, List.getElem?_set_ne (by omega)]]
theorem valP_set {J : List Job} {ch : List Bool} {i : Nat} {x : Bool} : ∀ n : Nat, n ≤ i → valP J (ch.set i x) n = valP J ch n := fun n hn => by
  unfold valP
  apply sumN_congr
  intro j hj
  rw [show (ch.set i x).getD j false = ch.getD j false by
    rw [List.getD_eq_getElem?_getD, List.getD_eq_getElem?_getD, List.getElem?_set_ne (by omega)]]

/-- One more in the air, hour by hour. -/
theorem ok_air {α : Type} {post : α → Prop} {F : Nat} (hF : 2000 < F) {fr hr : Int} {air : List Int} {exit : Int × List Int → Option α} (h1 : 0 ≤ fr) (h2 : 0 ≤ hr) (h3 : fr + hr ≤ 48) (hl : air.length = 48) (hb : ∀ q, q < 48 → 0 ≤ air.getD q 0 ∧ air.getD q 0 ≤ 100)
    (he : ∀ air', air'.length = 48 → (∀ q : Nat, q < 48 → air'.getD q 0 = air.getD q 0 + if fr ≤ (q : Int) ∧ (q : Int) < fr + hr then 1 else 0) → Ok post (exit (fr + hr, air'))) :
    Ok post (loopC (fun (y : Int × List Int) next => chk (InR (fr + hr)) (brk (decide (y.1 < fr + hr)) (chk (0 ≤ y.1 ∧ y.1 < (y.2.length : Int)) (chk (InR (y.2.getD y.1.toNat 0 + 1)) (chk (0 ≤ y.1 ∧ y.1 < (y.2.length : Int)) (chk (InR (y.1 + 1)) (next (y.1 + 1, y.2.set y.1.toNat (y.2.getD y.1.toNat 0 + 1))))))) (exit y))) F (fr, air)) := by
  refine ok_loop (fun y : Int × List Int => fr ≤ y.1 ∧ y.1 ≤ fr + hr ∧ y.2.length = 48 ∧ ∀ q : Nat, q < 48 → y.2.getD q 0 = air.getD q 0 + if fr ≤ (q : Int) ∧ (q : Int) < y.1 then 1 else 0) (fun y => 48 - y.1.toNat)
    ⟨Int.le_refl _, by show fr ≤ fr + hr; omega, hl, fun q _ => by
      show air.getD q 0 = _ + if fr ≤ (q : Int) ∧ (q : Int) < fr then 1 else 0
      rw [if_neg (by omega)]; omega⟩ (by show 48 - fr.toNat < F; omega) ?_
  rintro ⟨h, air2⟩ next2 ⟨d1, d2, d3, d4⟩ hn2
  simp only at d1 d2 d3 d4
  dsimp only
  rw [d3]
  refine ok_chk (show InR _ from ⟨by omega, by omega⟩) (ok_brk (fun hd => ?_) (fun hd => ?_))
  · have hd : h < fr + hr := of_decide_eq_true hd
    have hh : h.toNat < 48 := by omega
    have hcur := d4 h.toNat hh
    have hbb := hb h.toNat hh
    rw [if_neg (by omega)] at hcur
    refine ok_chk ⟨by omega, by omega⟩ (ok_chk (show InR _ from ⟨by omega, by omega⟩) (ok_chk ⟨by omega, by omega⟩ (ok_chk (show InR _ from ⟨by omega, by omega⟩) (hn2 _ ⟨by show fr ≤ h + 1; omega, by show h + 1 ≤ fr + hr; omega, by show (air2.set _ _).length = 48; rw [List.length_set]; exact d3, fun q hqq => ?_⟩ (by show 48 - (h + 1).toNat < 48 - h.toNat; omega)))))
    show (air2.set h.toNat _).getD q 0 = _ + if fr ≤ (q : Int) ∧ (q : Int) < h + 1 then 1 else 0
    rw [getD_set' (by omega)]
    by_cases e : h.toNat = q
    · rw [if_pos e, if_pos (by omega), ← e, hcur]; omega
    · rw [if_neg e, d4 q hqq]
      by_cases e2 : fr ≤ (q : Int) ∧ (q : Int) < h
      · rw [if_pos e2, if_pos (by omega)]
      · rw [if_neg e2, if_neg (by omega)]
  · have hd : ¬ h < fr + hr := of_decide_eq_false hd
    obtain rfl : h = fr + hr := by omega
    exact he air2 d3 d4

/-- The greatest number in the air in some hours. -/
theorem win_ok {F : Nat} (hF : 2000 < F) {fr hr : Int} {air : List Int} (h1 : 0 ≤ fr) (h2 : 1 ≤ hr) (h3 : fr + hr ≤ 48) (hl : air.length = 48) :
    Ok (fun m => (∃ q : Nat, (fr ≤ (q : Int) ∧ (q : Int) < fr + hr) ∧ air.getD q 0 = m) ∧ ∀ q : Nat, fr ≤ (q : Int) → (q : Int) < fr + hr → air.getD q 0 ≤ m) (slices_Max_int F (List.take (fr + hr - fr).toNat (List.drop fr.toNat air))) := by
  have hlen : (List.take (fr + hr - fr).toNat (List.drop fr.toNat air)).length = hr.toNat := by rw [List.length_take, List.length_drop]; omega
  have hg : ∀ j, j < hr.toNat → (List.take (fr + hr - fr).toNat (List.drop fr.toNat air)).getD j 0 = air.getD (fr.toNat + j) 0 := fun j hj => by
    rw [getD_get (by omega), getD_get (by omega), List.getElem_take, List.getElem_drop]
  refine (max_ok (by omega) (by omega) (by omega)).mono fun m hm => ⟨?_, fun q q1 q2 => ?_⟩
  · obtain ⟨j, hj, he⟩ := List.getElem_of_mem hm.1
    have := hg j (by omega)
    rw [getD_get hj, he] at this
    exact ⟨fr.toNat + j, ⟨by omega, by omega⟩, this.symm⟩
  · have h := hm.2 _ (getD_mem (d := 0) (show (q - fr.toNat) < (List.take (fr + hr - fr).toNat (List.drop fr.toNat air)).length by omega))
    rw [hg _ (by omega), show fr.toNat + (q - fr.toNat) = q by omega] at h
    exact h

/-! ### Sights that are exact -/

def sgt (am : List Int) (c : Int) : Sight := ⟨c, ⟨am.getD c.toNat 0, am.getD c.toNat 0⟩⟩

theorem seeGo_exact {am : List Int} {n : Nat} (hn : am.length = n) (ha : ∀ q, q < n → 0 ≤ am.getD q 0 ∧ am.getD q 0 ≤ 1000000) : ∀ (P : List Int) (c : List Span), c.length = n → (∀ q, q < n → (c.getD q ⟨0, 0⟩).Lo ≤ am.getD q 0 ∧ am.getD q 0 ≤ (c.getD q ⟨0, 0⟩).Hi) → (∀ q ∈ P, 0 ≤ q ∧ q < (n : Int)) →
    ∃ c', seeGo (P.map (sgt am)) c = (c', 0) ∧ c'.length = n ∧ ∀ q : Nat, q < n → c'.getD q ⟨0, 0⟩ = if (q : Int) ∈ P then ⟨am.getD q 0, am.getD q 0⟩ else c.getD q ⟨0, 0⟩
  | [], c, hc, _, _ => ⟨c, rfl, hc, fun q _ => by simp⟩
  | p :: P, c, hc, hi, hp => by
    have hpp := hp p List.mem_cons_self
    have hap := ha p.toNat (by omega)
    have hip := hi p.toNat (by omega)
    have hcut : cutS (sgt am p) (c.getD p.toNat ⟨0, 0⟩) = ⟨am.getD p.toNat 0, am.getD p.toNat 0⟩ := by
      unfold cutS sgt
      dsimp only
      congr 1
      · split <;> omega
      · split <;> omega
    have hg : ∀ q, (c.set p.toNat ⟨am.getD p.toNat 0, am.getD p.toNat 0⟩).getD q ⟨0, 0⟩ = if p.toNat = q then ⟨am.getD p.toNat 0, am.getD p.toNat 0⟩ else c.getD q ⟨0, 0⟩ := fun q => getD_set' (by omega)
    obtain ⟨c', e1, e2, e3⟩ := seeGo_exact hn ha P (c.set p.toNat ⟨am.getD p.toNat 0, am.getD p.toNat 0⟩) (by rw [List.length_set]; exact hc) (fun q hq => by
      rw [hg]
      split
      · rename_i e; subst e; exact ⟨Int.le_refl _, Int.le_refl _⟩
      · exact hi q hq) (fun q hq => hp q (List.mem_cons_of_mem _ hq))
    refine ⟨c', ?_, e2, fun q hq => ?_⟩
    · rw [List.map_cons, seeGo]
      have hcell : (sgt am p).Cell = p := rfl
      rw [hcell, if_neg (fun t => t ⟨hpp.1, by omega⟩), if_neg (fun t => t ⟨hap.1, Int.le_refl _, hap.2⟩), hcut, if_neg (by show ¬ am.getD p.toNat 0 > am.getD p.toNat 0; omega)]
      exact e1
    · rw [e3 q hq, hg]
      by_cases q1 : (q : Int) ∈ P
      · rw [if_pos q1, if_pos (List.mem_cons_of_mem _ q1)]
      · rw [if_neg q1]
        by_cases q2 : p.toNat = q
        · rw [if_pos q2, if_pos (by rw [List.mem_cons]; left; omega), q2]
        · rw [if_neg q2, if_neg (fun t => by rcases List.mem_cons.1 t with t | t; omega; exact q1 t)]
end Go.Proofs.Sp

namespace Go.Proofs.Sp
open Go Go.KX

structure BestB (a3 a4 a5 : Int) : Prop where
  a : 0 ≤ a3 ∧ a3 ≤ 255
  b : 0 ≤ a4 ∧ a4 ≤ 255
  c : 0 ≤ a5 ∧ a5 ≤ 255

set_option maxHeartbeats 2000000 in
theorem spillBest_ok' {F : Nat} (hF : F = 1000000000000000) (a0 a1 a2 : List Int) (a3 a4 a5 : Int) (a6 : List Int) (h0 : Bytes a0) (h1 : Bytes a1) (h2 : Bytes a2) (h6 : Bytes a6) (hb : BestB a3 a4 a5) : law11_SpillBest F a0 a1 a2 a3 a4 a5 a6 = some true := by
  have haw : law11_awake F = some true := by rw [hF]; exact awake_eq
  obtain ⟨ha, hbb, hcc⟩ := hb
  refine Ok.eq ?_
  unfold law11_SpillBest
  rw [haw]
  refine ok_bnd _ (Made_ok (by omega) h0) ?_
  rintro ⟨f, caps, am⟩ hM
  have hf := hM.f
  have hal := hM.len
  have hin := hM.inside
  have hnn := hM.nn
  simp only at hf hal hin hnn
  have hs := hf.small
  dsimp only
  have hm3 : 0 ≤ a3 % (f.Cells.length : Int) ∧ a3 % (f.Cells.length : Int) < f.Cells.length := ⟨Int.emod_nonneg _ (by omega), Int.emod_lt_of_pos _ (by omega)⟩
  refine ok_chk (show InR _ from ⟨by omega, by omega⟩) (ok_chk ⟨⟨ha.1, by omega⟩, by omega⟩ (ok_chk (show InR _ from ⟨by omega, by omega⟩) (ok_chk ⟨hbb.1, by omega⟩ (ok_chk (show InR _ from ⟨by omega, by omega⟩) (ok_chk (show InR _ from ⟨by omega, by omega⟩) (ok_chk ⟨hcc.1, by omega⟩ (ok_chk (show InR _ from ⟨by omega, by omega⟩) ?_)))))))
  obtain ⟨B, hB⟩ : ∃ B, a3 % (f.Cells.length : Int) = B := ⟨_, rfl⟩
  obtain ⟨S, hS⟩ : ∃ S, 1 + a4 % 4 = S := ⟨_, rfl⟩
  obtain ⟨K, hK⟩ : ∃ K, 1 + a5 % 4 = K := ⟨_, rfl⟩
  rw [hB, hS, hK]
  rw [hB] at hm3
  have hSb : 1 ≤ S ∧ S ≤ 4 := by omega
  have hKb : 1 ≤ K ∧ K ≤ 4 := by omega
  clear hB hS hK
  have ht : FleetOK f.Cells.length ⟨B, 20, S, K⟩ := ⟨⟨hm3.1, by show B ≤ _; omega⟩, ⟨by show (0 : Int) ≤ 20; omega, by show (20 : Int) ≤ 100; omega⟩, ⟨hSb.1, by show S ≤ 20; omega⟩, ⟨hKb.1, by show K ≤ 6; omega⟩⟩
  have ht1 : FleetOK f.Cells.length ⟨B, 20, S, K + 1⟩ := ⟨⟨hm3.1, by show B ≤ _; omega⟩, ⟨by show (0 : Int) ≤ 20; omega, by show (20 : Int) ≤ 100; omega⟩, ⟨hSb.1, by show S ≤ 20; omega⟩, ⟨by show 1 ≤ K + 1; omega, by show K + 1 ≤ 6; omega⟩⟩
  refine ok_bnd _ (trips_ok (t := ⟨B, 20, S, K⟩) (by omega) hf hm3 h1) fun l hT => ?_
  have hT : TripsOK f B l := hT
  have hfb := hT.fls
  have hll := hT.len
  have hj0 : ∀ x ∈ l, (jobE f ⟨B, 20, S, K⟩ x).2 = 0 := fun x hx => (job0 hf ht (by show (8 : Int) ≤ 20; omega) (hT.ok x hx)).1
  have hjv := jobsV_ok hf ht (by omega) hj0
  have hz : (jobsV f ⟨B, 20, S, K⟩ l).2 = 0 := by rw [hjv]
  have hR := jobsV_zero hfb hz
  refine ok_bnd _ (Best_ok (by omega) (by show f.Cells.length ≤ 100; omega) hfb) ?_
  rintro ⟨ch, n, e⟩ hbest
  rcases hbest with ⟨q, _⟩ | ⟨_, q1, b1, b2, b3, b4⟩
  · exact absurd hz q
  simp only at q1 b1 b2 b3 b4
  subst q1
  refine ok_bnd _ (Prices_ok (by omega) (by show f.Cells.length ≤ 100; omega) hfb) ?_
  rintro ⟨pp, e⟩ hpr
  rcases hpr with ⟨q, _⟩ | ⟨_, p1, hpR⟩
  · exact absurd hz q
  simp only at p1 hpR
  subst p1
  have hbd0 : boundV f ⟨B, 20, S, K⟩ l pp = (n, 0) := by
    have hpb : PrB pp := fun c hc => by
      obtain ⟨j, hj, rfl⟩ := List.getElem_of_mem hc
      have := hpR.b j (by have := hpR.l; omega)
      rwa [getD_get hj] at this
    unfold boundV
    rw [if_neg (fun q => q hz), if_neg (fun q => q hpR.l), if_neg (fun q => q hpb), hpR.o.one b4]
  have hbd : ∀ pr : List Int, pr.length = 48 → PrB pr → ∃ v, boundV f ⟨B, 20, S, K⟩ l pr = (v, 0) ∧ n ≤ v := fun pr h48 hp => by
    refine ⟨_, by unfold boundV; rw [if_neg (fun q => q hz), if_neg (fun q => q h48), if_neg (fun q => q hp)], ?_⟩
    obtain ⟨c, _, c2, c3⟩ := b4.has
    rw [← c3]
    exact weak (fun h _ => (hp.get h).1) c2
  have hJe : (jobsV f ⟨B, 20, S, K⟩ l).1 = l.map fun x => (jobE f ⟨B, 20, S, K⟩ x).1 := by rw [hjv]
  generalize hJ : (jobsV f ⟨B, 20, S, K⟩ l).1 = J at hR b1 b2 b3 b4 hpR hJe
  have hJl := hR.len
  have hJ12 := hR.l12
  have hppl := hpR.l
  have h3 : ((0 : Int) != 0 || (0 : Int) != 0 || (ch.length : Int) != (l.length : Int) || (pp.length : Int) != 48) = false := by
    rw [b1, hJl, hppl]; simp
  rw [h3]
  refine ok_brkF rfl ?_
  have hr48 : (List.replicate (Int.toNat 48) (0 : Int)).length = 48 := by rw [List.length_replicate]; rfl
  have hz48 : ∀ h, (List.replicate (Int.toNat 48) (0 : Int)).getD h 0 = 0 := fun h => by
    by_cases hi : h < (List.replicate (Int.toNat 48) (0 : Int)).length
    · rw [getD_get hi, List.getElem_replicate]
    · rw [List.getD_eq_getElem?_getD, List.getElem?_eq_none (Nat.le_of_not_lt hi)]; rfl
  -- what each flight is
  have hflight : ∀ i : Nat, i < J.length → ∃ fr hr w : Int, (l.getD i f0).From = fr ∧ (J.getD i j0).f_from = fr ∧ (J.getD i j0).f_to = fr + hr ∧ (J.getD i j0).f_worth = w ∧ 0 ≤ fr ∧ 1 ≤ hr ∧ fr + hr ≤ 48 ∧ 0 ≤ w ∧ w ≤ 64000000 ∧ spill_Worth F ⟨f.W, f.H, f.Cells⟩ ⟨B, 20, S, K⟩ ⟨(l.getD i f0).From, (l.getD i f0).Path⟩ = some (w, hr, 0) := fun i hi => by
    obtain ⟨j1, j2, j3, j4, j5⟩ := hR.ok.at hi
    have hev := hR.ev i hi
    have hfr := hR.fr i hi
    refine ⟨_, (J.getD i j0).f_to - (J.getD i j0).f_from, _, rfl, hfr, by rw [← hfr]; omega, rfl, by omega, by omega, by omega, j4, j5, ?_⟩
    have hw := Worth_eq (F := F) (by omega) (f := f) (t := ⟨B, 20, S, K⟩) (x := ⟨(l.getD i f0).From, (l.getD i f0).Path⟩) (by omega) (hfb.p _ (getD_mem (by omega)))
    have hev' : jobE f ⟨B, 20, S, K⟩ ⟨(l.getD i f0).From, (l.getD i f0).Path⟩ = (J.getD i j0, 0) := hev
    rw [show worthE f ⟨B, 20, S, K⟩ ⟨(l.getD i f0).From, (l.getD i f0).Path⟩ = ((J.getD i j0).f_worth, (J.getD i j0).f_to - (J.getD i j0).f_from, 0) by
      unfold worthE
      rw [if_neg (fun q => q hf.check), if_neg (fun q => q ht), hev']] at hw
    exact hw
  have hvb := fun (c : List Bool) (i : Nat) (hi : i ≤ J.length) => val_bound hR.ok c i hi
  -- the choice that Best has made
  refine ok_join (by omega) (fun x : Int × Bool => x = (n, true)) (fun x hx => ?_) fun k hk => ?_
  rotate_left
  · refine ok_chk ⟨by omega, by omega, by omega⟩ ?_
    refine ok_loop (fun x : Int × Int × List Int => 0 ≤ x.2.1 ∧ x.2.1 ≤ J.length ∧ x.1 = valP J ch x.2.1.toNat ∧ x.2.2.length = 48 ∧ ∀ q : Nat, q < 48 → x.2.2.getD q 0 = covP J ch x.2.1.toNat q) (fun x => J.length - x.2.1.toNat)
      ⟨by simp, by simp, rfl, hr48, fun q _ => hz48 q⟩ (by simp; omega) ?_
    rintro ⟨tt, i, air⟩ next ⟨i1, i2, i3, i4, i5⟩ hn
    simp only at i1 i2 i3 i4 i5
    dsimp only
    rw [hJl]
    refine ok_brk (fun hc => ?_) (fun hc => hk _ ?_)
    · have hc : i < J.length := of_decide_eq_true hc
      have hi : i.toNat < J.length := by omega
      obtain ⟨fr, hr, w, e1, e2, e3, e4, e5, e6, e7, e8, e9, hw⟩ := hflight i.toNat hi
      have hon : ∀ q : Nat, on J i.toNat q ↔ (fr ≤ (q : Int) ∧ (q : Int) < fr + hr) := fun q => by unfold on; rw [e2, e3]
      have st1 : valP J ch (i + 1).toNat = valP J ch i.toNat + if ch.getD i.toNat false = true then w else 0 := by rw [show (i + 1).toNat = i.toNat + 1 by omega, valP_succ, e4]
      have st2 : ∀ q, covP J ch (i + 1).toNat q = covP J ch i.toNat q + if ch.getD i.toNat false = true ∧ on J i.toNat q then 1 else 0 := fun q => by rw [show (i + 1).toNat = i.toNat + 1 by omega]; rfl
      have hvb1 := hvb ch i.toNat (by omega)
      rw [show (sumN i.toNat fun i => if ch.getD i false = true then (J.getD i j0).f_worth else 0) = tt from i3.symm] at hvb1
      refine ok_join (by omega) (fun y : Int × List Int => y.1 = valP J ch (i + 1).toNat ∧ y.2.length = 48 ∧ ∀ q : Nat, q < 48 → y.2.getD q 0 = covP J ch (i + 1).toNat q) (fun y hy => ok_chk (show InR _ from ⟨by omega, by omega⟩) (hn _ ⟨by show 0 ≤ i + 1; omega, by show i + 1 ≤ _; omega, hy.1, hy.2.1, hy.2.2⟩ (by show J.length - (i + 1).toNat < J.length - i.toNat; omega))) fun k2 hk2 => ?_
      refine ok_chk ⟨i1, by omega⟩ (ok_bnde hw ?_)
      have hat : (l.getD i.toNat (Flight.mk (0 : Int) [])).From = fr := e1
      dsimp only
      rw [hat]
      refine ok_chk (fun _ => show InR _ from ⟨by omega, by omega⟩) (ok_brkF ?_ (ok_chk ⟨i1, by omega⟩ (ok_brk (fun hq => ?_) (fun hq => ?_))))
      · rw [decide_eq_false (show ¬ w < 0 by omega), decide_eq_false (show ¬ fr + hr > 48 by omega), decide_eq_false (show ¬ hr < 1 by omega)]; rfl
      · have hq : ¬ ch.getD i.toNat false = true := by simpa using hq
        rw [if_neg hq] at st1
        refine hk2 _ ⟨by show tt = _; omega, i4, fun q hqq => ?_⟩
        show air.getD q 0 = _
        rw [i5 q hqq, st2, if_neg (fun t => hq t.1)]; omega
      have hq : ch.getD i.toNat false = true := by simpa using hq
      rw [if_pos hq] at st1
      refine ok_chk (show InR _ from ⟨by omega, by omega⟩) (ok_chk ⟨e5, by omega, by omega⟩ (ok_bnd _ (win_ok (by omega) e5 e6 e7 i4) fun m hm => ?_))
      have hmk : m < K := by
        obtain ⟨q, hq1, hq2⟩ := hm.1
        have c1 := i5 q (by omega)
        have c2 := st2 q
        rw [if_pos ⟨hq, (hon q).2 hq1⟩] at c2
        have c3 := covP_le (J := J) (ch := ch) (n := (i + 1).toNat) (q := q) (by omega)
        have c4 := b2 q (by omega)
        have c4 : cov J ch q ≤ K := c4
        omega
      rw [decide_eq_false (show ¬ m ≥ K by omega)]
      refine ok_brkF rfl (ok_brkF rfl ?_)
      refine ok_air (by omega) e5 (by omega) e7 i4 (fun q hq => by have := covP_bound (J := J) (ch := ch) (n := i.toNat) (q := q); rw [i5 q hq]; omega) (exit := fun x => chk (InR (tt + w)) (k2 (tt + w, x.2))) fun air' g1 g2 => ?_
      refine ok_chk (show InR _ from ⟨by omega, by omega⟩) (hk2 _ ⟨by show tt + w = _; omega, g1, fun q hqq => ?_⟩)
      show air'.getD q 0 = _
      rw [g2 q hqq, i5 q hqq, st2]
      by_cases e10 : fr ≤ (q : Int) ∧ (q : Int) < fr + hr
      · rw [if_pos e10, if_pos ⟨hq, (hon q).2 e10⟩]
      · rw [if_neg e10, if_neg (fun t => e10 ((hon q).1 t.2))]
    · have hc : ¬ i < J.length := of_decide_eq_false hc
      rw [show i.toNat = J.length by omega] at i3
      show (tt, true) = (n, true)
      rw [i3]
      show (val J ch, true) = _
      rw [b3]
  subst hx
  dsimp only
  refine ok_brkF (by simp) ?_
  -- another choice
  refine ok_join (by omega) (fun x : Int × Bool × Int => x.2.1 = true ∧ x.1 ≤ n) (fun x hx => ?_) fun k hk => ?_
  rotate_left
  · refine ok_chk ⟨by omega, by omega, by omega⟩ ?_
    refine ok_loop (fun x : Int × Int × Int × List Int => 0 ≤ x.2.1 ∧ x.2.1 ≤ J.length ∧ 0 ≤ x.2.2.1 ∧ x.2.2.1 ≤ a2.length ∧ x.2.2.2.length = 48 ∧ ∃ c : List Bool, c.length = J.length ∧ (∀ j, x.2.1.toNat ≤ j → c.getD j false = false) ∧ x.1 = valP J c x.2.1.toNat ∧ ∀ q : Nat, q < 48 → x.2.2.2.getD q 0 = covP J c x.2.1.toNat q ∧ covP J c x.2.1.toNat q ≤ K) (fun x => J.length - x.2.1.toNat)
      ⟨by simp, by simp, by simp, by simp, hr48, List.replicate J.length false, by simp, fun j _ => by
        by_cases hj : j < (List.replicate J.length false).length
        · rw [getD_get hj, List.getElem_replicate]
        · rw [List.getD_eq_getElem?_getD, List.getElem?_eq_none (Nat.le_of_not_lt hj)]; rfl, rfl, fun q _ => ⟨hz48 q, by show (0 : Int) ≤ K; omega⟩⟩ (by simp; omega) ?_
    rintro ⟨tt, i, pos, air⟩ next ⟨i1, i2, i3, i4, i5, c, c1, c2, c3, c4⟩ hn
    simp only at i1 i2 i3 i4 i5 c2 c3 c4
    dsimp only
    rw [hJl]
    refine ok_brk (fun hc => ?_) (fun hc => hk _ ⟨rfl, ?_⟩)
    · have hc : i < J.length := of_decide_eq_true hc
      have hi : i.toNat < J.length := by omega
      obtain ⟨fr, hr, w, e1, e2, e3, e4, e5, e6, e7, e8, e9, hw⟩ := hflight i.toNat hi
      have hon : ∀ q : Nat, on J i.toNat q ↔ (fr ≤ (q : Int) ∧ (q : Int) < fr + hr) := fun q => by unfold on; rw [e2, e3]
      have hci : c.getD i.toNat false = false := c2 _ (Nat.le_refl _)
      have hvb1 := hvb c i.toNat (by omega)
      rw [show (sumN i.toNat fun i => if c.getD i false = true then (J.getD i j0).f_worth else 0) = tt from c3.symm] at hvb1
      refine ok_join (by omega) (fun y : Int × Int × List Int => 0 ≤ y.2.1 ∧ y.2.1 ≤ a2.length ∧ y.2.2.length = 48 ∧ ∃ c : List Bool, c.length = J.length ∧ (∀ j, (i + 1).toNat ≤ j → c.getD j false = false) ∧ y.1 = valP J c (i + 1).toNat ∧ ∀ q : Nat, q < 48 → y.2.2.getD q 0 = covP J c (i + 1).toNat q ∧ covP J c (i + 1).toNat q ≤ K) (fun y hy => ok_chk (show InR _ from ⟨by omega, by omega⟩) (hn _ ⟨by show 0 ≤ i + 1; omega, by show i + 1 ≤ _; omega, hy.1, hy.2.1, hy.2.2.1, hy.2.2.2⟩ (by show J.length - (i + 1).toNat < J.length - i.toNat; omega))) fun k2 hk2 => ?_
      have skip : ∀ p : Int, 0 ≤ p → p ≤ a2.length → Ok (fun x => x = true) (k2 (tt, p, air)) := fun p p0 p1 => by
        have s1 : valP J c (i + 1).toNat = valP J c i.toNat := by rw [show (i + 1).toNat = i.toNat + 1 by omega, valP_succ, hci]; simp
        have s2 : ∀ q, covP J c (i + 1).toNat q = covP J c i.toNat q := fun q => by rw [show (i + 1).toNat = i.toNat + 1 by omega, covP_succ, hci]; simp
        exact hk2 _ ⟨p0, p1, i5, c, c1, fun j hj => c2 j (by omega), by show tt = _; rw [s1]; exact c3, fun q hq => by rw [s2]; exact c4 q hq⟩
      refine ok_chk ⟨i1, by omega⟩ (ok_bnde hw ?_)
      have hat : (l.getD i.toNat (Flight.mk (0 : Int) [])).From = fr := e1
      dsimp only
      rw [hat]
      refine ok_chk (fun _ => show InR _ from ⟨by omega, by omega⟩) (ok_brkF ?_ ?_)
      · rw [decide_eq_false (show ¬ w < 0 by omega), decide_eq_false (show ¬ fr + hr > 48 by omega), decide_eq_false (show ¬ hr < 1 by omega)]; rfl
      refine ok_next (by omega) h2 i3 i4 (by omega) ?_
      intro v p v1 v2 _ v4 v5
      dsimp only
      refine ok_brk (fun _ => skip p v4 v5) (fun _ => ?_)
      refine ok_chk (show InR _ from ⟨by omega, by omega⟩) (ok_chk ⟨e5, by omega, by omega⟩ (ok_bnd _ (win_ok (by omega) e5 e6 e7 i5) fun m hm => ?_))
      rw [Bool.and_false]
      refine ok_brkF rfl (ok_brk (fun _ => skip p v4 v5) (fun hmk => ?_))
      have hmk := of_decide_eq_false hmk
      refine ok_air (by omega) e5 (by omega) e7 i5 (fun q hq => by have := covP_bound (J := J) (ch := c) (n := i.toNat) (q := q); rw [(c4 q hq).1]; omega) (exit := fun x => chk (InR (tt + w)) (k2 (tt + w, p, x.2))) fun air' g1 g2 => ?_
      have hset : (c.set i.toNat true).getD i.toNat false = true := by rw [getD_set' (by omega), if_pos rfl]
      have s1 : valP J (c.set i.toNat true) (i + 1).toNat = valP J c i.toNat + w := by rw [show (i + 1).toNat = i.toNat + 1 by omega, valP_succ, hset, valP_set _ (Nat.le_refl _), e4]; simp
      have s2 : ∀ q, covP J (c.set i.toNat true) (i + 1).toNat q = covP J c i.toNat q + if fr ≤ (q : Int) ∧ (q : Int) < fr + hr then 1 else 0 := fun q => by
        rw [show (i + 1).toNat = i.toNat + 1 by omega, covP_succ, hset, covP_set _ (Nat.le_refl _)]
        congr 1
        by_cases e10 : fr ≤ (q : Int) ∧ (q : Int) < fr + hr
        · rw [if_pos e10, if_pos ⟨rfl, (hon q).2 e10⟩]
        · rw [if_neg e10, if_neg (fun t => e10 ((hon q).1 t.2))]
      refine ok_chk (show InR _ from ⟨by omega, by omega⟩) (hk2 _ ⟨v4, v5, g1, c.set i.toNat true, by rw [List.length_set]; exact c1, fun j hj => ?_, by show tt + w = _; rw [s1, c3], fun q hqq => ?_⟩)
      · rw [getD_set' (by omega), if_neg (by omega)]
        exact c2 j (by omega)
      · show air'.getD q 0 = _ ∧ _
        rw [g2 q hqq, s2, (c4 q hqq).1]
        refine ⟨rfl, ?_⟩
        by_cases e10 : fr ≤ (q : Int) ∧ (q : Int) < fr + hr
        · rw [if_pos e10]
          have := hm.2 q e10.1 e10.2
          rw [(c4 q hqq).1] at this
          omega
        · rw [if_neg e10]
          have := (c4 q hqq).2
          omega
    · have hc : ¬ i < J.length := of_decide_eq_false hc
      rw [show i.toNat = J.length by omega] at c3 c4
      show tt ≤ n
      rw [c3]
      exact b4.le c fun q hq => (c4 q hq).2
  obtain ⟨ot, okk, pos⟩ := x
  obtain ⟨hx1, hx2⟩ := hx
  simp only at hx1 hx2
  subst hx1
  dsimp only
  refine ok_brkF (by rw [decide_eq_false (by omega)]; rfl) ?_
  -- bounds
  refine ok_bnde (Bound_eq (by omega) (by show f.Cells.length ≤ 100; omega) hfb (by omega)) ?_
  have hbd0' : boundV ⟨f.W, f.H, f.Cells⟩ ⟨B, 20, S, K⟩ l pp = (n, 0) := hbd0
  rw [hbd0', hr48]
  refine ok_chk ⟨by omega, by omega, by omega⟩ ?_
  refine ok_loop (fun x : Int × List Int => 0 ≤ x.1 ∧ x.1 ≤ 48 ∧ x.2.length = 48 ∧ ∀ q, q < 48 → 0 ≤ x.2.getD q 0 ∧ x.2.getD q 0 ≤ 255) (fun x => 48 - x.1.toNat) ⟨by simp, by simp, hr48, fun q _ => by have := hz48 q; show 0 ≤ (List.replicate (Int.toNat 48) (0 : Int)).getD q 0 ∧ (List.replicate (Int.toNat 48) (0 : Int)).getD q 0 ≤ 255; omega⟩ (by simp; omega) ?_
  rintro ⟨i, pr⟩ next ⟨i1, i2, i3, i4⟩ hn
  simp only at i1 i2 i3 i4
  dsimp only
  refine ok_brk (fun hc => ?_) (fun hc => ?_)
  · have hc : i < ((48 : Nat) : Int) := of_decide_eq_true hc
    refine ok_join (by omega) (fun y : List Int => y.length = 48 ∧ ∀ q, q < 48 → 0 ≤ y.getD q 0 ∧ y.getD q 0 ≤ 255) (fun y hy => ok_chk (show InR _ from ⟨by omega, by omega⟩) (hn _ ⟨by show 0 ≤ i + 1; omega, by show i + 1 ≤ 48; omega, hy.1, hy.2⟩ (by show 48 - (i + 1).toNat < 48 - i.toNat; omega))) fun k hk => ?_
    refine ok_brk (fun hd => ?_) (fun _ => hk _ ⟨i3, i4⟩)
    have hd : (a6.length : Int) > 0 := of_decide_eq_true hd
    have m1 := Int.emod_nonneg i (show (a6.length : Int) ≠ 0 by omega)
    have m2 := Int.emod_lt_of_pos i hd
    have hv := h6.b _ (getD_mem (d := 0) (show (i % (a6.length : Int)).toNat < a6.length by omega))
    refine ok_chk ⟨⟨i1, by omega⟩, hd⟩ (ok_chk ⟨m1, m2⟩ (ok_chk (show InR _ from ⟨by omega, by omega⟩) (ok_chk ⟨i1, by omega⟩ (hk _ ⟨by rw [List.length_set]; exact i3, fun q hq => ?_⟩))))
    rw [getD_set' (by omega)]
    have := i4 q hq
    split <;> omega
  have hprB : PrB pr := fun c hc => by
    obtain ⟨j, hj, rfl⟩ := List.getElem_of_mem hc
    have := i4 j (by omega)
    rw [getD_get hj] at this
    omega
  clear hn hc
  obtain ⟨v, hv1, hv2⟩ := hbd pr i3 hprB
  have hv1' : boundV ⟨f.W, f.H, f.Cells⟩ ⟨B, 20, S, K⟩ l pr = (v, 0) := hv1
  refine ok_bnde (Bound_eq (by omega) (by show f.Cells.length ≤ 100; omega) hfb (by omega)) ?_
  rw [hv1']
  refine ok_brkF (by rw [decide_eq_false (show ¬ v < n by omega)]; simp) (ok_chk (show InR _ from ⟨by omega, by omega⟩) ?_)
  -- one helicopter more
  have hj1 : ∀ x ∈ l, (jobE f ⟨B, 20, S, K + 1⟩ x).2 = 0 := hj0
  have hjv1 := jobsV_ok hf ht1 (by omega) hj1
  have hz1 : (jobsV f ⟨B, 20, S, K + 1⟩ l).2 = 0 := by rw [hjv1]
  refine ok_bnd _ (Best_ok (by omega) (by show f.Cells.length ≤ 100; omega) hfb) ?_
  rintro ⟨ch1, n1, e⟩ hbest1
  rcases hbest1 with ⟨q, _⟩ | ⟨_, q1, -, -, -, b5⟩
  · exact absurd hz1 q
  simp only at q1 b5
  subst q1
  have hn1 : n ≤ n1 := by
    have hJ1 : (jobsV ⟨f.W, f.H, f.Cells⟩ ⟨B, 20, S, K + 1⟩ l).1 = J := by
      have : (jobsV f ⟨B, 20, S, K + 1⟩ l).1 = J := by rw [hjv1, hJe]; rfl
      exact this
    rw [hJ1] at b5
    obtain ⟨c, _, c2, c3⟩ := b4.has
    rw [← c3]
    exact b5.le c fun q hq => by have := c2 q hq; show cov J c q ≤ K + 1; have : cov J c q ≤ K := this; omega
  refine ok_brkF (by rw [decide_eq_false (show ¬ n1 < n by omega)]; rfl) ?_
  refine ok_join (by omega) (fun _ : PUnit => True) (fun _ _ => ok_bnde rfl (ok_some rfl)) fun k hk => ?_
  refine ok_brk (fun hl0 => ?_) (fun _ => hk _ trivial)
  have hl0 : 0 < l.length := by have := of_decide_eq_true hl0; omega
  cases l with
  | nil => simp at hl0
  | cons x r =>
  have hTr : TripsOK f B r := ⟨by simp only [List.length_cons] at hll; omega, fun y hy => hT.ok y (List.mem_cons_of_mem _ hy)⟩
  have hx := hT.ok x List.mem_cons_self
  have hjr : ∀ y ∈ r, (jobE f ⟨B, 20, S, K⟩ y).2 = 0 := fun y hy => hj0 y (List.mem_cons_of_mem _ hy)
  have hjvr := jobsV_ok hf ht (by have := hTr.len; omega) hjr
  have hzr : (jobsV f ⟨B, 20, S, K⟩ r).2 = 0 := by rw [hjvr]
  have htl : List.take (((x :: r).length : Int) - 1).toNat (List.drop (Int.toNat 1) (x :: r)) = r := by
    show List.take _ r = r
    rw [List.take_of_length_le (by simp only [List.length_cons]; omega)]
  rw [htl]
  refine ok_chk ⟨by omega, by simp only [List.length_cons]; omega, Int.le_refl _⟩ ?_
  refine ok_bnd _ (Best_ok (by omega) (by show f.Cells.length ≤ 100; omega) hTr.fls) ?_
  rintro ⟨ch2, n2, e⟩ hbest2
  rcases hbest2 with ⟨q, _⟩ | ⟨_, q1, -, -, -, b6⟩
  · exact absurd hzr q
  simp only at q1 b6
  subst q1
  have hn2 : n2 ≤ n := by
    have hJ2 : (jobsV ⟨f.W, f.H, f.Cells⟩ ⟨B, 20, S, K⟩ r).1 = r.map fun y => (jobE f ⟨B, 20, S, K⟩ y).1 := by
      have : (jobsV f ⟨B, 20, S, K⟩ r).1 = r.map fun y => (jobE f ⟨B, 20, S, K⟩ y).1 := by rw [hjvr]
      exact this
    rw [hJ2] at b6
    obtain ⟨c, _, c2, c3⟩ := b6.has
    have hJc : J = (jobE f ⟨B, 20, S, K⟩ x).1 :: r.map fun y => (jobE f ⟨B, 20, S, K⟩ y).1 := by rw [hJe, List.map_cons]
    rw [hJc] at b4
    rw [← c3, ← val_cons (jobE f ⟨B, 20, S, K⟩ x).1]
    exact b4.le _ fun q hq => by rw [cov_cons]; exact c2 q hq
  refine ok_brkF (by rw [decide_eq_false (show ¬ n2 > n by omega)]; rfl) ?_
  -- what was seen exactly
  refine ok_chk ⟨by omega, by simp only [List.length_cons]; omega⟩ ?_
  have h00 : (x :: r).getD (Int.toNat 0) (Flight.mk (0 : Int) []) = x := rfl
  rw [h00]
  obtain ⟨hx1, hx2, hx3⟩ := hx
  refine ok_loop (fun y : List Sight × Int => 0 ≤ y.2 ∧ y.2 ≤ x.Path.length ∧ y.1 = (x.Path.take y.2.toNat).map (sgt am)) (fun y => x.Path.length - y.2.toNat) ⟨by simp, by simp, rfl⟩ (by simp; omega) ?_
  rintro ⟨S2, j⟩ next ⟨j1, j2, j3⟩ hn
  simp only at j1 j2 j3
  dsimp only
  refine ok_brk (fun hc => ?_) (fun hc => ?_)
  · have hc : j < x.Path.length := of_decide_eq_true hc
    have hi : j.toNat < x.Path.length := by omega
    have hw := hx2.wi j.toNat hi
    refine ok_chk ⟨j1, hc⟩ (ok_chk ⟨hw.1, by omega⟩ (ok_chk ⟨hw.1, by omega⟩ (ok_chk (by rw [j3]; simp; omega) (ok_chk (show InR _ from ⟨by omega, by omega⟩) (hn _ ⟨by show 0 ≤ j + 1; omega, by show j + 1 ≤ _; omega, ?_⟩ (by show x.Path.length - (j + 1).toNat < x.Path.length - j.toNat; omega))))))
    show S2 ++ [_] = (x.Path.take (j + 1).toNat).map (sgt am)
    rw [show (j + 1).toNat = j.toNat + 1 by omega, take_succ' (d := 0) hi, List.map_append, ← j3]; rfl
  have hc : ¬ j < x.Path.length := of_decide_eq_false hc
  rw [List.take_of_length_le (by omega)] at j3
  subst j3
  clear hn
  refine ok_bnde (See_eq (by omega) (by show f.Cells.length ≤ 80; omega) (by rw [List.length_map]; omega)) ?_
  have hgo : ∃ c', seeV f (x.Path.map (sgt am)) = (⟨f.W, f.H, c'⟩, 0) ∧ c'.length = f.Cells.length ∧ (∀ s ∈ c', SpanOK 1000000 s) ∧ ∀ q : Nat, (q : Int) ∈ x.Path → q < f.Cells.length → (c'.getD q ⟨0, 0⟩).Hi - (c'.getD q ⟨0, 0⟩).Lo = 0 := by
    have hamb : ∀ q, q < f.Cells.length → 0 ≤ am.getD q 0 ∧ am.getD q 0 ≤ 1000000 := fun q hq => by
      have := hnn _ (getD_mem (d := 0) (show q < am.length by omega))
      omega
    obtain ⟨c', e1, e2, e3⟩ := seeGo_exact (n := f.Cells.length) hal hamb x.Path f.Cells rfl (fun q hq => hin q (by omega)) (fun q hq => by
      obtain ⟨z, hz', rfl⟩ := List.getElem_of_mem hq
      have := hx2.wi z hz'
      rw [getD_get hz'] at this
      exact this)
    refine ⟨c', ?_, e2, ?_, fun q hq hq2 => ?_⟩
    · unfold seeV seeRes
      rw [if_neg (fun t => t hf.check), if_neg (by rw [List.length_map]; omega), e1, if_pos rfl]
    · have := (seeGo_ok (x.Path.map (sgt am)) f.Cells hf.cells).1
      rw [e1] at this
      exact this
    · rw [e3 q hq2, if_pos hq]; show am.getD q 0 - am.getD q 0 = 0; omega
  obtain ⟨c', g1, g2, g3, g4⟩ := hgo
  have g1' : seeV ⟨f.W, f.H, f.Cells⟩ (x.Path.map (sgt am)) = (⟨f.W, f.H, c'⟩, 0) := g1
  rw [g1']
  dsimp only
  have hf' : FieldOK ⟨f.W, f.H, c'⟩ := ⟨hf.w, hf.h, by show (c'.length : Int) = f.W * f.H; rw [g2]; exact hf.len, g3⟩
  have ht' : FleetOK c'.length ⟨B, 20, S, K⟩ := by rw [g2]; exact ht
  have hx2' : PathOK ⟨f.W, f.H, c'⟩ B x.Path := ⟨hx2.ne, hx2.st, hx2.en, fun i hi => by show 0 ≤ _ ∧ _ < (c'.length : Int); rw [g2]; exact hx2.wi i hi, hx2.nr⟩
  have hjx := job0 (f := ⟨f.W, f.H, c'⟩) (t := ⟨B, 20, S, K⟩) (x := x) hf' ht' (by show (8 : Int) ≤ 20; omega) ⟨hx1, hx2', hx3⟩
  have hw0 : worthV ⟨f.W, f.H, c'⟩ x.Path = 0 := by
    unfold worthV
    apply sumN_zero
    intro q hq
    have hq : q < c'.length := hq
    by_cases q1 : (q : Int) ∈ x.Path
    · rw [if_pos q1]; exact g4 q q1 (by omega)
    · rw [if_neg q1]
  refine ok_chk ⟨by omega, by simp only [List.length_cons]; omega⟩ (ok_bnde (Worth_eq (by omega) (by show c'.length ≤ 100; omega) (by show x.Path.length ≤ 1000; omega)) (ok_brkF ?_ (hk _ trivial)))
  have hwE : worthE ⟨f.W, f.H, c'⟩ ⟨B, 20, S, K⟩ ⟨x.From, x.Path⟩ = (0, (jobE ⟨f.W, f.H, c'⟩ ⟨B, 20, S, K⟩ x).1.f_to - (jobE ⟨f.W, f.H, c'⟩ ⟨B, 20, S, K⟩ x).1.f_from, 0) := by
    unfold worthE
    rw [if_neg (fun t => t hf'.check), if_neg (fun t => t ht')]
    have e1 : (jobE ⟨f.W, f.H, c'⟩ ⟨B, 20, S, K⟩ ⟨x.From, x.Path⟩).2 = 0 := hjx.1
    have e2 : (jobE ⟨f.W, f.H, c'⟩ ⟨B, 20, S, K⟩ ⟨x.From, x.Path⟩).1.f_worth = 0 := hjx.2.1.trans hw0
    rw [e1, e2]
  show ((0 : Int) != 0 || (worthE ⟨f.W, f.H, c'⟩ ⟨B, 20, S, K⟩ ⟨x.From, x.Path⟩).2.2 != 0 || (worthE ⟨f.W, f.H, c'⟩ ⟨B, 20, S, K⟩ ⟨x.From, x.Path⟩).1 != 0) = false
  rw [hwE]; rfl
theorem spillBest_ok {a0 a1 a2 : List Int} {a3 a4 a5 : Int} {a6 : List Int} (h0 : (∀ y ∈ a0, 0 ≤ y ∧ y ≤ 255) ∧ a0.length ≤ 9223372036854775807) (h1 : (∀ y ∈ a1, 0 ≤ y ∧ y ≤ 255) ∧ a1.length ≤ 9223372036854775807) (h2 : (∀ y ∈ a2, 0 ≤ y ∧ y ≤ 255) ∧ a2.length ≤ 9223372036854775807)
    (h3 : 0 ≤ a3 ∧ a3 ≤ 255) (h4 : 0 ≤ a4 ∧ a4 ≤ 255) (h5 : 0 ≤ a5 ∧ a5 ≤ 255) (h6 : (∀ y ∈ a6, 0 ≤ y ∧ y ≤ 255) ∧ a6.length ≤ 9223372036854775807) : law11_SpillBest 1000000000000000 a0 a1 a2 a3 a4 a5 a6 = some true :=
  spillBest_ok' rfl a0 a1 a2 a3 a4 a5 a6 ⟨h0.1, h0.2⟩ ⟨h1.1, h1.2⟩ ⟨h2.1, h2.2⟩ ⟨h6.1, h6.2⟩ ⟨h3, h4, h5⟩
end Go.Proofs.Sp

namespace Go.KX
open Go Go.ChangeShapes Go.WideShapes Go.RowKit

/-- Types whose reading asks only for cells: numbers, Booleans, and structs, arrays and slices of such. -/
def goodT (P : Program) : Nat → TypeId → Bool
  | 0, _ => false
  | n + 1, t => match P.underlying t with
    | some (.int _) => true
    | some .bool => true
    | some (.struct fs) => fs.toList.all fun f => goodT P n f.type
    | some (.array _ e) => goodT P n e
    | some (.slice e) => goodT P n e && Nat.ble 1 (P.cellsOf e)
    | _ => false

theorem mapM_carry' {α β : Type} {f g : α → Option β} : ∀ {l : List α} {r : List β}, l.mapM f = some r → (∀ x y, x ∈ l → y ∈ r → f x = some y → g x = some y) → l.mapM g = some r := mapM_carry

section
variable {H : Type} {enc : TypeId × Value → H} {P : Program} {w : World} {base : Nat} {held : Bool}

theorem trod_spare {sp : Nat → Bool} : ∀ (m n : Nat) (t : TypeId) (cs : List Value) (x : DataW H × List MemPlace), goodT P m t = true →
    DataW.trod enc P w base (fun _ => true) held n t cs = some x → (∀ p ∈ x.2, sp p.block = true) → DataW.trod enc P w base sp held n t cs = some x := by
  intro m
  induction m with
  | zero => intro n t cs x h; cases h
  | succ m ih =>
    intro n t cs x hg h hs
    cases n with
    | zero => simp [DataW.trod] at h
    | succ n =>
      rw [DataW.trod_step] at h ⊢
      unfold goodT at hg
      unfold DataW.trodStep at h ⊢
      split at h
      case h_1 => exact h
      case h_2 => exact h
      case h_8 e a len cap hu =>
        rw [hu] at hg
        simp only [Bool.and_eq_true] at hg
        simp only at h ⊢
        split at h
        · rename_i hc
          rw [if_pos hc]
          simp only [if_true, Option.map_eq_some_iff, Option.bind_eq_some_iff] at h ⊢
          obtain ⟨elems, he, rest, hr, rfl⟩ := h
          have hlen : elems.length = len := by simpa using mapM_some_length he
          have hrlen : rest.length = cap - len := by simpa using mapM_some_length hr
          have hk : 1 ≤ P.cellsOf e := Nat.le_of_ble_eq_true hg.2
          have one : ∀ i y, (w.cells? base (a.add (i * P.cellsOf e)) (P.cellsOf e)).bind (DataW.trod enc P w base (fun _ => true) held n e) = some y → (∀ p ∈ y.2, sp p.block = true) →
              (w.cells? base (a.add (i * P.cellsOf e)) (P.cellsOf e)).bind (DataW.trod enc P w base sp held n e) = some y := by
            intro i y hy hp
            rw [Option.bind_eq_some_iff] at hy ⊢
            obtain ⟨cs', h1, h2⟩ := hy
            exact ⟨cs', h1, ih n e cs' y hg.1 h2 hp⟩
          have hpl : ∀ y, y ∈ elems ++ rest → ∀ p ∈ y.2, sp p.block = true := fun y hy p hp => hs p (by
            simp only [List.mem_append]
            exact .inr (List.mem_flatMap.2 ⟨y, hy, hp⟩))
          refine ⟨elems, mapM_carry' he fun i y hi hy hiy => one i y hiy (hpl y (by simp [hy])), rest, ?_, rfl⟩
          by_cases hcap : cap = 0
          · have : rest = [] := List.length_eq_zero_iff.1 (by omega)
            subst this
            split
            · rw [show cap - len = 0 by omega]; rfl
            · rfl
          · have : sp a.block = true := by
              have := hs (.cell a.block (a.off + 0)) (by
                simp only [List.mem_append]
                refine .inl (MemPlace.mem_row.2 ⟨0, ?_, rfl⟩)
                rw [hlen, hrlen, show len + (cap - len) = cap by omega]
                exact Nat.mul_pos (by omega) hk)
              exact this
            rw [if_pos this]
            exact mapM_carry' hr fun j y hj hy hjy => one _ y hjy (hpl y (by simp [hy]))
        · cases h
      case h_7 => exact h
      case h_9 fs cs' hu =>
        rw [hu] at hg
        simp only at hg
        split at h
        · rename_i hl
          rw [if_pos hl]
          simp only [Option.map_eq_some_iff] at h ⊢
          obtain ⟨xs, hx, rfl⟩ := h
          refine ⟨xs, mapM_carry' hx fun f y hf hy hfy => ih n f.type _ y (List.all_eq_true.1 hg f hf) hfy fun p hp => hs p ?_, rfl⟩
          exact List.mem_flatMap.2 ⟨y, hy, hp⟩
        · cases h
      case h_10 =>
        rename_i e hu
        rw [hu] at hg
        simp only at hg
        split at h
        · rename_i hl
          rw [if_pos hl]
          simp only [Option.map_eq_some_iff] at h ⊢
          obtain ⟨xs, hx, rfl⟩ := h
          refine ⟨xs, mapM_carry' hx fun f y hf hy hfy => ih n e _ y hg hfy fun p hp => hs p ?_, rfl⟩
          exact List.mem_flatMap.2 ⟨y, hy, hp⟩
        · cases h
      all_goals simp_all

theorem trod_move {w' : World} {sp : Nat → Bool} {t : TypeId} {v : Value} {d : DataW H} {ps : List MemPlace} (hg : goodT P 8 t = true) (h : DataW.Trod enc P w base (fun _ => true) held t v d ps)
    (hsame : ∀ p ∈ ps, w.sameAt w' p) (hs : ∀ p ∈ ps, sp p.block = true) : DataW.Trod enc P w' base sp held t v d ps := by
  obtain ⟨n, hn⟩ := h
  exact ⟨n, trod_spare 8 n t _ _ hg (DataW.trod_carry n t _ _ hn hsame) hs⟩

theorem trodAll_move {w' : World} {sp : Nat → Bool} : ∀ {ts : List TypeId} {vs : List Value} {ds : List (DataW H)} {ps : List MemPlace}, ts.all (goodT P 8) = true → DataW.TrodAll enc P w base (fun _ => true) held ts vs ds ps →
    (∀ p ∈ ps, w.sameAt w' p) → (∀ p ∈ ps, sp p.block = true) → DataW.TrodAll enc P w' base sp held ts vs ds ps := by
  intro ts
  induction ts with
  | nil =>
    intro vs ds ps _ h _ _
    obtain ⟨rfl, rfl, rfl⟩ := trodAll_nil h
    rfl
  | cons t ts ih =>
    intro vs ds ps hg h hsame hs
    obtain ⟨v, vs', d, ds', p, q, rfl, rfl, rfl, h1, h2⟩ := trodAll_cons h
    simp only [List.all_cons, Bool.and_eq_true] at hg
    exact ⟨p, q, trod_move hg.1 h1 (fun x hx => hsame x (by simp [hx])) (fun x hx => hs x (by simp [hx])), ih hg.2 h2 (fun x hx => hsame x (by simp [hx])) (fun x hx => hs x (by simp [hx])), rfl⟩

/-- A law that returns true and leaves what was there alone. -/
theorem post_law {f : Func} {s : ChangeSpec} {W W' : World} {args : Array Value} {ds gs : List (DataW H)} {before : List MemPlace} {tb : TypeId} (hW : DataW.Whole enc P f.params.toList s.vars false W args.toList ds gs before)
    (hv : s.vars = []) (hfn : s.fn H ds = { results := [.lit (.bool true)], args := ds }) (hrt : f.resultTypes = #[tb]) (htb : P.underlying tb = some .bool) (hgood : f.params.toList.all (goodT P 8) = true) (hb : Below W.heap.size W W') :
    s.post enc P f false true false false W args (.bool true) W' := by
  have hW0 := hW
  obtain ⟨p, q, hA, hV, rfl, _, _⟩ := hW
  rw [hv] at hV
  obtain ⟨rfl, rfl⟩ := trodVars_none hV
  have hlt : ∀ x ∈ p ++ [], x.block < W.heap.size := fun x hx => hW0.lt x hx
  have hsame : ∀ x ∈ p, W.sameAt W' x := fun x hx => hb.same (hlt x (by simpa using hx))
  refine ⟨ds, [], p ++ [], [], p, [], hW0, ?_, ?_, ?_, hb.frame _, fun h => by cases h⟩
  · simp only [List.append_nil, hfn, hrt]
    exact trodAll_mk1 (shut_bool htb _)
  · simp only [List.append_nil, hfn]
    exact trodAll_move hgood hA hsame fun x hx => by simpa using hlt x (by simpa using hx)
  · simp only [List.append_nil, hfn, hv]
    rfl
end

theorem wf_u8 {n : Int} (h : (Lit.int .u8 n).wf = true) : 0 ≤ n ∧ n ≤ 255 := by
  simp [Lit.wf, IntKind.min, IntKind.max, IntKind.signed, IntKind.bits] at h
  omega
theorem wf_u16 {n : Int} (h : (Lit.int .u16 n).wf = true) : 0 ≤ n ∧ n ≤ 65535 := by
  simp [Lit.wf, IntKind.min, IntKind.max, IntKind.signed, IntKind.bits] at h
  omega
theorem wf_u32 {n : Int} (h : (Lit.int .u32 n).wf = true) : 0 ≤ n ∧ n ≤ 4294967295 := by
  simp [Lit.wf, IntKind.min, IntKind.max, IntKind.signed, IntKind.bits] at h
  omega
theorem wf_i64 {n : Int} (h : (Lit.int .i64 n).wf = true) : -9223372036854775808 ≤ n ∧ n ≤ 9223372036854775807 := by
  simp [Lit.wf, IntKind.min, IntKind.max, IntKind.signed, IntKind.bits] at h
  omega

/-- Values of the type t read as something of the registered type c, of which In is so. -/
def HReads (E : Env) (t : TypeId) (c : Nat) (In : E.G.car c → Prop) : Prop :=
  E.P.cellsOf t = E.G.sz c ∧ ∀ (H : Type) (e : TypeId × Value → H) (w : World) (base : Nat) (sp : Nat → Bool) (held : Bool) (fuel : Nat) (cs : List Value) (x : DataW H × List MemPlace),
    DataW.trod e E.P w base sp held fuel t cs = some x → ∃ a : E.G.car c, HdL E.G (IsCells w) w (E.G.enc c a) cs ∧ In a

theorem isCells_of {w : World} {a : Addr} {u : Value} (h : w.cell? a = some u) : IsCells w a.block ∧ a.spot = none := by
  unfold World.cell? at h
  split at h
  · rename_i c e s hb
    refine ⟨⟨_, hb, rfl⟩, ?_⟩
    split at h
    · cases h
    · rename_i hs
      simpa using hs
  · cases h

section
variable {E : Env} {H : Type} {e : TypeId × Value → H} {w : World} {base : Nat} {sp : Nat → Bool} {held : Bool}

theorem hdL_one {x : Value} {cv : CV E.G.car} (h : Hd E.G (IsCells w) w cv x) : HdL E.G (IsCells w) w [cv] [x] := ⟨_, _, rfl, h, rfl⟩

theorem hdL_append : ∀ {a b : List (CV E.G.car)} {u v : List Value}, HdL E.G (IsCells w) w a u → HdL E.G (IsCells w) w b v → HdL E.G (IsCells w) w (a ++ b) (u ++ v)
  | [], _, _, _, h, h' => by cases h; exact h'
  | _ :: _, _, _, _, ⟨x, us, rfl, h1, h2⟩, h' => ⟨x, us ++ _, rfl, h1, hdL_append h2 h'⟩

theorem hreads_int {t : TypeId} {c : Nat} {k : IntKind} {In : E.G.car c → Prop} (f : Int → E.G.car c) (hf : ∀ n, E.G.enc c (f n) = [.v (.int k n)]) (hu : E.P.underlying t = some (.int k)) (hc : E.P.cellsOf t = E.G.sz c)
    (hIn : ∀ n, (Lit.int k n).wf = true → In (f n)) : HReads E t c In :=
  ⟨hc, fun _ _ _ _ _ _ _ _ _ h => by
    obtain ⟨n, h1, _, h2⟩ := DataW.trod_int hu h
    subst h1
    exact ⟨f n, by rw [hf]; exact hdL_one (.v _), hIn n h2⟩⟩

theorem hreads_bool {t : TypeId} {c : Nat} {In : E.G.car c → Prop} (f : Bool → E.G.car c) (hf : ∀ n, E.G.enc c (f n) = [.v (.bool n)]) (hu : E.P.underlying t = some .bool) (hc : E.P.cellsOf t = E.G.sz c) (hIn : ∀ b, In (f b)) : HReads E t c In :=
  ⟨hc, fun _ _ _ _ _ _ _ _ _ h => by
    obtain ⟨n, h1, _⟩ := DataW.trod_bool hu h
    subst h1
    exact ⟨f n, by rw [hf]; exact hdL_one (.v _), hIn n⟩⟩

theorem fields_of {t : TypeId} {fs : Array Field} {fuel : Nat} {cs : List Value} {x : DataW H × List MemPlace} (hu : E.P.underlying t = some (.struct fs)) (h : DataW.trod e E.P w base sp held fuel t cs = some x) :
    cs.length = E.P.cellsOf t ∧ ∀ (j : Nat) (fd : Field), fs[j]? = some fd → ∃ fuel y, DataW.trod e E.P w base sp held fuel fd.type ((cs.drop fd.offset).take (E.P.cellsOf fd.type)) = some y := by
  obtain ⟨xs, n, rfl, rfl, hl, hlen, hf⟩ := DataW.trod_struct hu h
  refine ⟨hl, fun j fd hj => ?_⟩
  have hlt : j < xs.length := by have := (Array.getElem?_eq_some_iff.1 hj).1; omega
  exact ⟨n, xs[j], by rw [hf j fd hj, List.getElem?_eq_getElem hlt]⟩

theorem elems_of {t el : TypeId} {n s : Nat} {fuel : Nat} {cs : List Value} {x : DataW H × List MemPlace} (hu : E.P.underlying t = some (.array n el)) (hs : E.P.cellsOf el = s) (h : DataW.trod e E.P w base sp held fuel t cs = some x) :
    cs.length = E.P.cellsOf t ∧ ∀ (j : Nat), j < n → ∃ fuel y, DataW.trod e E.P w base sp held fuel el ((cs.drop (j * s)).take (E.P.cellsOf el)) = some y := by
  obtain ⟨xs, m, rfl, rfl, hl, hlen, hf⟩ := DataW.trod_array hu h
  subst hs
  refine ⟨hl, fun j hj => ?_⟩
  have hlt : j < xs.length := by omega
  exact ⟨m, xs[j], by rw [hf j hj, List.getElem?_eq_getElem hlt]⟩

theorem HReads.at {t : TypeId} {c off : Nat} {In : E.G.car c → Prop} {cs : List Value} (hR : HReads E t c In)
    (hx : ∃ fuel y, DataW.trod e E.P w base sp held fuel t ((cs.drop off).take (E.P.cellsOf t)) = some y) : ∃ a, HdL E.G (IsCells w) w (E.G.enc c a) ((cs.drop off).take (E.G.sz c)) ∧ In a := by
  obtain ⟨fuel, y, h⟩ := hx
  rw [hR.1] at h
  exact hR.2 _ _ _ _ _ _ _ _ _ h

theorem hcut_cons {a r : List (CV E.G.car)} {cs : List Value} {o n : Nat} (h : HdL E.G (IsCells w) w a ((cs.drop o).take n)) (hr : HdL E.G (IsCells w) w r (cs.drop (o + n))) : HdL E.G (IsCells w) w (a ++ r) (cs.drop o) := by
  have := hdL_append h hr
  rwa [← List.drop_drop, List.take_append_drop] at this

theorem hcut_nil {cs : List Value} {o : Nat} (h : cs.length ≤ o) : HdL E.G (IsCells w) w [] (cs.drop o) := List.drop_eq_nil_of_le h

/-- A slice's elements. -/
theorem hslice_of {t el : TypeId} {c fuel : Nat} {In : E.G.car c → Prop} {cs : List Value} {x : DataW H × List MemPlace} (hu : E.P.underlying t = some (.slice el)) (hR : HReads E el c In) (hn : 0 < E.G.sz c)
    (h : DataW.trod e E.P w base sp held fuel t cs = some x) :
    ∃ (p : Option Addr) (n cap : Nat) (l : List (E.G.car c)), cs = [.slice p n cap] ∧ Hd E.G (IsCells w) w (.sl c l) (.slice p n cap) ∧ (∀ x ∈ l, In x) ∧ l.length ≤ 9223372036854775807 := by
  rcases DataW.trod_slice hu h with ⟨rfl, _⟩ | ⟨a, len, cap, elems, rest, m, _, rfl, _, hb, hl, hm, hel, hi, _, _⟩
  · exact ⟨none, 0, 0, [], rfl, Hd.mk (b := 0) (o := 0) rfl (Nat.le_refl _) (fun h => absurd rfl h) (fun i x hx => by simp at hx), by simp, by simp⟩
  have build : ∀ k, k ≤ len → ∃ l : List (E.G.car c), l.length = k ∧ ∀ i x, l[i]? = some x → In x ∧ ∃ us, w.cells? base (a.add (i * E.G.sz c)) (E.G.sz c) = some us ∧ HdL E.G (IsCells w) w (E.G.enc c x) us := by
    intro k
    induction k with
    | zero => intro _; exact ⟨[], rfl, fun i x hx => by simp at hx⟩
    | succ k ih =>
      intro hk
      obtain ⟨l, h1, h2⟩ := ih (by omega)
      have h3 := hi k (by omega)
      rw [List.getElem?_eq_getElem (by omega), hR.1, Option.bind_eq_some_iff] at h3
      obtain ⟨cs', h4, h5⟩ := h3
      obtain ⟨y, hy1, hy⟩ := hR.2 _ _ _ _ _ _ _ _ _ h5
      refine ⟨l ++ [y], by simp [h1], fun i x hx => ?_⟩
      rcases Nat.lt_or_ge i k with h6 | h6
      · rw [List.getElem?_append_left (by omega)] at hx; exact h2 i x hx
      · rw [List.getElem?_append_right (by omega)] at hx
        have : i - l.length = 0 := by
          have := (List.getElem?_eq_some_iff.1 hx).1
          simpa using this
        rw [this] at hx
        simp only [List.getElem?_cons_zero, Option.some.injEq] at hx
        subst hx
        obtain rfl : i = k := by omega
        exact ⟨hy, _, h4, hy1⟩
  obtain ⟨l, h1, h2⟩ := build len (Nat.le_refl _)
  have hcell : ∀ (i : Nat) x, l[i]? = some x → ∀ (j : Nat) (cv : CV E.G.car), (E.G.enc c x)[j]? = some cv → ∃ u, w.cell? ((a.add (i * E.G.sz c)).add j) = some u ∧ Hd E.G (IsCells w) w cv u := by
    intro i x hx j cv hcv
    obtain ⟨_, us, h3, h4⟩ := h2 i x hx
    obtain ⟨u, h5, h6⟩ := h4.get j cv hcv
    obtain ⟨_, h7, h8⟩ := World.cells?_some h3
    refine ⟨u, ?_, h6⟩
    rw [h8 j (by rw [← h7]; exact (List.getElem?_eq_some_iff.1 h5).1), h5]
  refine ⟨some a, len, cap, l, rfl, ?_, fun x hx => ?_, by unfold maxLen at hm; omega⟩
  · rcases Nat.eq_zero_or_pos len with h0 | h0
    · have : l = [] := List.length_eq_zero_iff.1 (by omega)
      subst this
      exact Hd.mk (b := 0) (o := 0) h1.symm hl (fun h => absurd rfl h) (fun i x hx => by simp at hx)
    · have hpos : 0 < l.length := by omega
      have hz : 0 < (E.G.enc c l[0]).length := by rw [E.G.hsz]; exact hn
      obtain ⟨u, h3, _⟩ := hcell 0 l[0] (List.getElem?_eq_getElem hpos) 0 _ (List.getElem?_eq_getElem hz)
      rw [Nat.zero_mul, show (a.add 0).add 0 = a by simp [Addr.add]] at h3
      obtain ⟨h4, h5⟩ := isCells_of h3
      obtain ⟨b, o, s⟩ := a
      simp only at h4 h5
      subst h5
      refine Hd.mk (b := b) (o := o) h1.symm hl (fun _ => ⟨rfl, h4⟩) (fun i x hx j cv hcv => ?_)
      have := hcell i x hx j cv hcv
      rwa [addr_add, addr_add] at this
  · obtain ⟨i, hi⟩ := List.getElem?_of_mem hx
    exact (h2 i x hi).1

theorem hreads_slice {t el : TypeId} {c d : Nat} {In : E.G.car c → Prop} {In' : E.G.car d → Prop} (f : List (E.G.car c) → E.G.car d) (hf : ∀ l, E.G.enc d (f l) = [.sl c l]) (hu : E.P.underlying t = some (.slice el)) (hR : HReads E el c In)
    (hn : 0 < E.G.sz c) (hc : E.P.cellsOf t = E.G.sz d) (hIn : ∀ l, (∀ x ∈ l, In x) → l.length ≤ 9223372036854775807 → In' (f l)) : HReads E t d In' :=
  ⟨hc, fun _ _ _ _ _ _ _ _ _ h => by
    obtain ⟨p, n, cap, l, rfl, h1, h2, h3⟩ := hslice_of hu hR hn h
    exact ⟨f l, by rw [hf]; exact hdL_one h1, hIn l h2 h3⟩⟩

/-! ### Arguments -/

theorem harg_int {r : Reach} {b0 : Nat} {t : TypeId} {c : Nat} {k : IntKind} {In : E.G.car c → Prop} {v : Value} {d : DataW H} {ps : List MemPlace} (hR : HReads E t c In) (hu : E.P.underlying t = some (.int k))
    (hval : Value.okWide E.P w r b0 t v) (h : DataW.Trod e E.P w base sp held t v d ps) : ∃ a : E.G.car c, ArgIs E (IsCells w) w (.v c false) a v ∧ In a := by
  obtain ⟨n, rfl⟩ := okWide_int hu hval
  obtain ⟨fuel, hf⟩ := h
  obtain ⟨a, h1, h2⟩ := hR.2 _ _ _ _ _ _ _ _ _ hf
  exact ⟨a, ⟨_, h1, rfl⟩, h2⟩

theorem harg_bool {r : Reach} {b0 : Nat} {t : TypeId} {c : Nat} {In : E.G.car c → Prop} {v : Value} {d : DataW H} {ps : List MemPlace} (hR : HReads E t c In) (hu : E.P.underlying t = some .bool)
    (hval : Value.okWide E.P w r b0 t v) (h : DataW.Trod e E.P w base sp held t v d ps) : ∃ a : E.G.car c, ArgIs E (IsCells w) w (.v c false) a v ∧ In a := by
  obtain ⟨n, rfl⟩ := okWide_bool hu hval
  obtain ⟨fuel, hf⟩ := h
  obtain ⟨a, h1, h2⟩ := hR.2 _ _ _ _ _ _ _ _ _ hf
  exact ⟨a, ⟨_, h1, rfl⟩, h2⟩

theorem harg_agg {r : Reach} {b0 : Nat} {t : TypeId} {c : Nat} {fs : Array Field} {In : E.G.car c → Prop} {v : Value} {d : DataW H} {ps : List MemPlace} (hR : HReads E t c In) (hu : E.P.underlying t = some (.struct fs))
    (hval : Value.okWide E.P w r b0 t v) (h : DataW.Trod e E.P w base sp held t v d ps) : ∃ a : E.G.car c, ArgIs E (IsCells w) w (.v c true) a v ∧ In a := by
  obtain ⟨cs, rfl, _⟩ := okWide_struct hu hval
  obtain ⟨fuel, hf⟩ := h
  obtain ⟨a, h1, h2⟩ := hR.2 _ _ _ _ _ _ _ _ _ hf
  exact ⟨a, ⟨_, h1, rfl⟩, h2⟩

theorem harg_sl {r : Reach} {b0 : Nat} {t el : TypeId} {c : Nat} {In : E.G.car c → Prop} {v : Value} {d : DataW H} {ps : List MemPlace} (hu : E.P.underlying t = some (.slice el)) (hR : HReads E el c In) (hn : 0 < E.G.sz c)
    (hval : Value.okWide E.P w r b0 t v) (h : DataW.Trod e E.P w base sp held t v d ps) : ∃ a : List (E.G.car c), ArgIs E (IsCells w) w (.sl c) a v ∧ (∀ x ∈ a, In x) ∧ a.length ≤ 9223372036854775807 := by
  obtain ⟨p, n, cap, rfl⟩ := okWide_slice hu hval
  obtain ⟨fuel, hf⟩ := h
  obtain ⟨p', n', cap', l, h1, h2, h3, h4⟩ := hslice_of hu hR hn hf
  have h1 : [Value.slice p n cap] = [.slice p' n' cap'] := h1
  simp only [List.cons.injEq, and_true, Value.slice.injEq] at h1
  obtain ⟨rfl, rfl, rfl⟩ := h1
  exact ⟨l, h2, h3, h4⟩

/-- A law whose mirror answers true returns true, and leaves what was there. -/
theorem law_calls {k : Nat} {ps : List PK} {t : Nat} {es : List Nat} {f : AT E.G.car ps → Option (E.G.car t)} (hc : CSok E [] ⟨k, ps, [.v t false es], f⟩) (hglo : E.glo = []) (b : E.G.car t) (hb : E.G.enc t b = [.v (.bool true)])
    {vs : List Value} {xs : AT E.G.car ps} (ha : ArgsAre E (IsCells w) w ps xs vs) (hm : f xs = some b) :
    Calls E.P k vs.toArray w fun e w' => e = .returned (.bool true) ∧ Below w.heap.size w w' := by
  have h := hc.ok (IsCells w) w vs xs ⟨fun _ => ⟨0, none, 0, 0⟩, by rw [hglo]; exact And.intro (fun p hp => nomatch hp) (fun q hq => nomatch hq)⟩ (fun _ h => h) ha b hm
  refine h.mono fun e' w' ⟨us, ms, A', h1, h2, _, _, _, h3, _⟩ => ⟨?_, h2⟩
  obtain ⟨v, rfl, us', h4, h5⟩ := h3
  simp only [Bool.false_eq_true, if_false] at h5
  subst h5
  have h4 : ResCells E.G A' w.heap.size w' (E.G.enc t b) es [v] ms := h4
  rw [hb] at h4
  obtain ⟨us2, h6, _⟩ := h4
  cases h6
  exact h1
end
end Go.KX
