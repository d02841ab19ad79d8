/- Texts FePFF, FePFG, FePFAw, FePFH, FePFI, KFR: own work; each part says what it is. -/
import Derived.Test.YtglcljiadhcopaaDu3
import Derived.Handed
import Derived.OpenShut
import Derived.ChangeSlices
import Derived.JoinedOf
namespace Go.Proofs.Fe
open Go Go.KX

def back (t : Tariff2) : Tariff := ⟨t.Bands, t.Class, t.Least, t.Most, t.Paid, t.Mile, t.Escort, t.Cut, t.Tow⟩
def conv (t : Tariff) : Tariff2 := ⟨t.Bands, t.Class, t.Least, t.Most, t.Paid, t.Mile, t.Escort, t.Cut, t.Tow⟩
theorem back_conv (t : Tariff) : back (conv t) = t := rfl

theorem endB_take {l : List Band} {i : Nat} (h : i < l.length) (b : Int) : endB b (l.take (i + 1)) = (l.getD i b0).Upto := by
  rw [take_succ' (d := b0) h, endB_snoc]

/-- What comes before element i. -/
theorem prev_band {l : List Band} {i : Int} (h0 : 0 < i) (h : i ≤ l.length) : endB 0 (l.take i.toNat) = (l.getD (i - 1).toNat b0).Upto := by
  rw [show i.toNat = (i - 1).toNat + 1 by omega, endB_take (by omega)]
theorem prev_class {l : List Int} {i : Int} (h0 : 0 < i) (h : i ≤ l.length) : endC 300 (l.take i.toNat) = l.getD (i - 1).toNat 0 := by
  rw [show i.toNat = (i - 1).toNat + 1 by omega, take_succ' (d := 0) (by omega), endC_snoc]

theorem refCheck_eq {F : Nat} (hF : 100 < F) (t : Tariff2) : ref12_Check F t = some (checkV (back t)) := by
  refine Ok.eq ?_
  unfold ref12_Check
  refine ok_brk (fun hb => ok_some ?_) (fun hb => ?_)
  · simp only [Bool.or_eq_true, decide_eq_true_eq] at hb
    unfold checkV; rw [if_neg (by show ¬ (1 ≤ t.Bands.length ∧ t.Bands.length ≤ 8); omega)]
  simp only [Bool.or_eq_false_iff, decide_eq_false_iff_not] at hb
  have hl : 1 ≤ (back t).Bands.length ∧ (back t).Bands.length ≤ 8 := by show 1 ≤ t.Bands.length ∧ t.Bands.length ≤ 8; omega
  have hl' : 1 ≤ t.Bands.length ∧ t.Bands.length ≤ 8 := hl
  refine ok_loop (fun x : Int => 0 ≤ x ∧ x ≤ t.Bands.length ∧ 0 ≤ endB 0 (t.Bands.take x.toNat) ∧ (0 < x → 1 ≤ endB 0 (t.Bands.take x.toNat)) ∧ BandsOK 0 (t.Bands.take x.toNat)) (fun x : Int => t.Bands.length - x.toNat)
    ⟨by simp, by simp, by simp [endB], by simp, trivial⟩ (by simp; omega) ?_
  rintro i next ⟨i1, i2, i3, i4, i5⟩ hn
  refine ok_brk (fun hc => ?_) (fun hc => ?_)
  · have hc : i < t.Bands.length := of_decide_eq_true hc
    have hi : i.toNat < t.Bands.length := by omega
    have hsplit : TarOK (back t) → BandsOK (endB 0 (t.Bands.take i.toNat)) (t.Bands.getD i.toNat b0 :: t.Bands.drop (i.toNat + 1)) := fun hk => by
      have := hk.bands.split i.toNat
      rwa [show (back t).Bands = t.Bands from rfl, drop_get (d := b0) hi] at this
    have hsn : t.Bands.take (i + 1).toNat = t.Bands.take i.toNat ++ [t.Bands.getD i.toNat b0] := by
      rw [show (i + 1).toNat = i.toNat + 1 by omega, take_succ' (d := b0) hi]
    rw [refIn_eq, refIn_eq, wb, wb]
    refine ok_chk ⟨i1, hc⟩ (ok_bnde rfl ?_)
    have hprev : 0 < i → endB 0 (t.Bands.take i.toNat) = (t.Bands.getD (i - 1).toNat ⟨0, 0⟩).Upto := fun h => prev_band h (by omega)
    generalize hx : t.Bands.getD i.toNat ⟨0, 0⟩ = X at hsplit hsn ⊢
    by_cases h1 : 1 ≤ X.Upto ∧ X.Upto ≤ 500000
    · rw [decide_eq_true h1]
      refine ok_bnde (b := decide (0 ≤ X.Rate ∧ X.Rate ≤ 1000)) rfl ?_
      refine ok_chk (fun h => ⟨by omega, by omega⟩) (ok_chk (fun h => ?_) (ok_brk (fun hb => ok_some (checkV_bad hl fun hk => ?_)) (fun hb => ok_chk (show InR _ from ⟨by omega, by omega⟩) ?_)))
      · simp only [Bool.and_eq_true, decide_eq_true_eq] at h; omega
      · have hs := hsplit hk
        simp only [Bool.not_true, Bool.false_or, Bool.or_eq_true, Bool.and_eq_true, decide_eq_true_eq] at hb
        rcases hb with hb | ⟨hb, hb2⟩
        · exact nd_true hb hs.2.1
        · have := hprev hb
          have := hs.1.1
          omega
      · simp only [Bool.not_true, Bool.false_or, Bool.or_eq_false_iff, Bool.and_eq_false_iff, decide_eq_false_iff_not] at hb
        have hr := nd_false hb.1
        refine hn _ ⟨by omega, by omega, ?_, fun _ => ?_, ?_⟩ (by show t.Bands.length - (i + 1).toNat < t.Bands.length - i.toNat; omega)
        · rw [hsn, endB_snoc]; omega
        · rw [hsn, endB_snoc]; omega
        · rw [hsn]
          refine i5.join ⟨⟨?_, h1.2⟩, hr, trivial⟩
          by_cases h0 : i > 0
          · have := hprev h0
            rcases hb.2 with q | q <;> omega
          · have : i = 0 := by omega
            subst this
            show (0 : Int) + 1 ≤ _
            omega
    · rw [decide_eq_false h1]
      refine ok_bnde (b := false) rfl (ok_chk (fun h => ⟨by omega, by omega⟩) (ok_chk (fun h => by simp at h) (ok_brkT rfl (ok_some (checkV_bad hl fun hk => h1 ?_)))))
      have := hsplit hk
      have := this.1
      omega
  have hc : ¬ i < t.Bands.length := of_decide_eq_false hc
  have hii : i = t.Bands.length := by omega
  have hlast : endB 0 t.Bands = (t.Bands.getD ((t.Bands.length : Int) - 1).toNat ⟨0, 0⟩).Upto := by
    have := prev_band (l := t.Bands) (i := t.Bands.length) (by omega) (by omega)
    rwa [List.take_of_length_le (by omega)] at this
  rw [List.take_of_length_le (by omega)] at i3 i5
  refine ok_chk (show InR _ from ⟨by omega, by omega⟩) (ok_chk ⟨by omega, by omega⟩ (ok_brk (fun hb => ok_some (checkV_bad hl fun hk => ?_)) (fun hb => ?_)))
  · have h1 := hk.last
    have h2 : endB 0 t.Bands = 500000 := h1
    rw [hlast] at h2
    rw [h2] at hb; simp at hb
  have hlast5 : endB 0 t.Bands = 500000 := by
    rw [hlast]; exact (bne_eq_false_iff_eq.1 hb)
  have hcl : ([t.Class.a0, t.Class.a1, t.Class.a2, t.Class.a3, t.Class.a4, t.Class.a5, t.Class.a6] : List Int) = classes (back t) := rfl
  have h7 : (classes (back t)).length = 7 := rfl
  rw [hcl]
  generalize hg : classes (back t) = cls at h7
  refine ok_loop (fun x : Int => 0 ≤ x ∧ x ≤ 7 ∧ ClassOK 300 (cls.take x.toNat)) (fun x : Int => 7 - x.toNat) ⟨by simp, by simp, trivial⟩ (by simp; omega) ?_
  rintro j next ⟨j1, j2, j4⟩ hn
  refine ok_brk (fun hc => ?_) (fun hc => ?_)
  · have hc : j < 7 := of_decide_eq_true hc
    have hj : j.toNat < cls.length := by omega
    have hsn : cls.take (j + 1).toNat = cls.take j.toNat ++ [cls.getD j.toNat 0] := by
      rw [show (j + 1).toNat = j.toNat + 1 by omega, take_succ' (d := 0) hj]
    have hprev : 0 < j → endC 300 (cls.take j.toNat) = cls.getD (j - 1).toNat 0 := fun h => prev_class h (by omega)
    have hpm : 0 < j → 0 ≤ cls.getD (j - 1).toNat 0 ∧ cls.getD (j - 1).toNat 0 ≤ 300 := fun h => by
      have := j4.all (cls.getD (j - 1).toNat 0) (by
        rw [getD_get (by omega)]
        exact List.mem_take_iff_getElem.2 ⟨(j - 1).toNat, by omega, rfl⟩)
      exact this
    have hsp : TarOK (back t) → ClassOK (endC 300 (cls.take j.toNat)) (cls.getD j.toNat 0 :: cls.drop (j.toNat + 1)) := fun hk => by
      have := hk.cls
      rw [hg, take_one (d := 0) hj] at this
      exact this.right
    generalize hX : cls.getD j.toNat 0 = X at hsn hsp ⊢
    rw [refIn_eq, wb]
    refine ok_chk ⟨j1, hc⟩ (ok_bnde rfl (ok_chk (fun _ => ⟨j1, hc⟩) (ok_chk (fun _ => ⟨by omega, by omega⟩) (ok_chk (fun h => ?_) (ok_brk (fun hb => ok_some (checkV_bad hl fun hk => ?_)) (fun hb => ok_chk (show InR _ from ⟨by omega, by omega⟩) (hn _ ⟨by omega, by omega, ?_⟩ (by show 7 - (j + 1).toNat < 7 - j.toNat; omega))))))))
    · simp only [Bool.and_eq_true, decide_eq_true_eq] at h
      exact ⟨by omega, by show j - 1 < 7; omega⟩
    · have hs := (hsp hk).1
      simp only [Bool.or_eq_true, Bool.and_eq_true, decide_eq_true_eq] at hb
      rcases hb with hb | ⟨hb, hb2⟩
      · refine nd_true hb ⟨hs.1, ?_⟩
        by_cases h0 : 0 < j
        · have := hprev h0; have := hpm h0; omega
        · obtain rfl : j = 0 := by omega
          exact hs.2
      · have := hprev hb; omega
    · simp only [Bool.or_eq_false_iff, Bool.and_eq_false_iff, decide_eq_false_iff_not] at hb
      have hr := nd_false hb.1
      rw [hsn]
      refine j4.join ⟨⟨hr.1, ?_⟩, trivial⟩
      by_cases h0 : 0 < j
      · have := hprev h0
        rcases hb.2 with q | q <;> omega
      · obtain rfl : j = 0 := by omega
        exact hr.2
  have hc : ¬ j < 7 := of_decide_eq_false hc
  rw [List.take_of_length_le (by omega)] at j4
  have hN : Nums (back t) → TarOK (back t) := fun h => ⟨hl, i5, hlast5, by rw [hg]; exact j4, h⟩
  simp only [refIn_eq, wb]
  refine ok_bnde rfl ?_
  have e1 : ∀ (c p : Prop) [Decidable c] [Decidable p], brk (decide c) (some (decide p)) (some false) = some (decide (c ∧ p)) := fun c p _ _ => by
    by_cases h : c
    · simp [h, brk]
    · simp [h, brk]
  have e2 : ∀ (b : Bool) (p : Prop) [Decidable p], brk b (some (decide p)) (some false) = some (b && decide p) := fun b p _ => by cases b <;> rfl
  rw [e2]
  refine ok_bnde rfl ?_
  rw [e2]
  refine ok_bnde rfl (ok_brk (fun hb => ok_some (checkV_bad hl fun hk => ?_)) (fun hq => ?_))
  · have h1 := hk.nums.least
    have h2 := hk.nums.most
    have h3 := hk.nums.paid
    have g1 : 0 ≤ t.Least ∧ t.Least ≤ t.Most := h1
    have g2 : 0 ≤ t.Most ∧ t.Most ≤ 1000000000 := h2
    have g3 : 1 ≤ t.Paid ∧ t.Paid ≤ 1000 := h3
    rw [decide_eq_true (show 0 ≤ t.Least ∧ t.Least ≤ 1000000000 by omega), decide_eq_true g2, decide_eq_false (show ¬ t.Least > t.Most by omega), decide_eq_true g3] at hb
    cases hb
  refine ok_bnde rfl ?_
  rw [e2]
  refine ok_bnde rfl ?_
  rw [e2]
  refine ok_bnde rfl ?_
  rw [e2]
  refine ok_bnde rfl (ok_brk (fun hb => ok_some (checkV_bad hl fun hk => ?_)) (fun hr => ok_some ?_))
  · have g1 : 0 ≤ t.Mile ∧ t.Mile ≤ 100000 := hk.nums.mile
    have g2 : 0 ≤ t.Escort ∧ t.Escort ≤ 1000000 := hk.nums.escort
    have g3 : 0 ≤ t.Cut ∧ t.Cut ≤ 1000000 := hk.nums.cut
    have g4 : 0 ≤ t.Tow ∧ t.Tow ≤ 1000000 := hk.nums.tow
    rw [decide_eq_true g1, decide_eq_true g2, decide_eq_true g3, decide_eq_true g4] at hb
    cases hb
  · refine (hN ?_).check.symm
    have split : ∀ a b : Bool, (a || b) = false → a = false ∧ b = false := fun a b h => by cases a <;> cases b <;> simp_all
    obtain ⟨hq, p4⟩ := split _ _ hq
    obtain ⟨hq, p3⟩ := split _ _ hq
    obtain ⟨p1, p2⟩ := split _ _ hq
    have n1 := nd_false p1
    rw [decide_eq_true n1] at p2 p4
    simp only [Bool.not_true, Bool.not_false, Bool.true_and, Bool.false_or] at p2 p4
    have n2 := nd_false p2
    rw [decide_eq_true n2] at p4
    have n3 := of_decide_eq_false p3
    rw [decide_eq_false n3] at p4
    simp only [Bool.not_true, Bool.not_false, Bool.true_and, Bool.or_false] at p4
    have n4 := nd_false p4
    obtain ⟨hr, r4⟩ := split _ _ hr
    obtain ⟨hr, r3⟩ := split _ _ hr
    obtain ⟨r1, r2⟩ := split _ _ hr
    have m1 := nd_false r1
    rw [decide_eq_true m1] at r2 r3 r4
    simp only [Bool.not_true, Bool.not_false, Bool.true_and, Bool.false_or] at r2 r3 r4
    have m2 := nd_false r2
    rw [decide_eq_true m2] at r3 r4
    simp only [Bool.not_true, Bool.not_false, Bool.true_and, Bool.false_or] at r3 r4
    have m3 := nd_false r3
    rw [decide_eq_true m3] at r4
    simp only [Bool.not_true, Bool.not_false, Bool.true_and] at r4
    have m4 := nd_false r4
    exact ⟨n2, ⟨n1.1, by show t.Least ≤ t.Most; omega⟩, n4, m1, m2, m3, m4⟩

/-! ### Dues -/

def part (b n u : Int) : Int := if (if u < n then u else n) - b > 0 then (if u < n then u else n) - b else 0
def bandSum (n : Int) : Int → List Band → Int
  | _, [] => 0
  | b, x :: l => x.Rate * part b n x.Upto + bandSum n x.Upto l
def roundV (t : Tariff) (s c : Int) : Int := (s * (classes t).getD c.toNat 0 + 50) / 100
def clamp (t : Tariff) (x : Int) : Int := if (if x > t.Least then x else t.Least) < t.Most then if x > t.Least then x else t.Least else t.Most
def duesV (t : Tariff) (c n : Int) : Int := clamp t (roundV t (bandSum n 0 t.Bands) c)

theorem part_le {b n u : Int} (h : b ≤ u) : 0 ≤ part b n u ∧ part b n u ≤ u - b := by
  unfold part; (repeat' split) <;> omega
theorem part_mono {b n m u : Int} (h : n ≤ m) : part b n u ≤ part b m u := by
  unfold part; (repeat' split) <;> omega

theorem bandSum_bound {n : Int} : ∀ {l : List Band} {b : Int}, BandsOK b l → 0 ≤ bandSum n b l ∧ bandSum n b l ≤ 1000 * (endB b l - b)
  | [], b, _ => by simp only [bandSum, endB]; omega
  | x :: l, b, h => by
    have h1 := bandSum_bound (n := n) h.2.2
    have h2 := part_le (b := b) (n := n) (u := x.Upto) (by have := h.1.1; omega)
    have h3 : 0 ≤ x.Rate * part b n x.Upto := Int.mul_nonneg h.2.1.1 h2.1
    have h4 : x.Rate * part b n x.Upto ≤ 1000 * part b n x.Upto := Int.mul_le_mul_of_nonneg_right h.2.1.2 h2.1
    simp only [bandSum, endB]
    omega
theorem bandSum_mono {n m : Int} (hnm : n ≤ m) : ∀ {l : List Band} {b : Int}, BandsOK b l → bandSum n b l ≤ bandSum m b l
  | [], b, _ => Int.le_refl _
  | x :: l, b, h => by
    have h1 := bandSum_mono hnm h.2.2
    have h2 : x.Rate * part b n x.Upto ≤ x.Rate * part b m x.Upto := Int.mul_le_mul_of_nonneg_left (part_mono hnm) h.2.1.1
    simp only [bandSum]
    omega
theorem bandSum_snoc (n : Int) (x : Band) : ∀ (l : List Band) (b : Int), bandSum n b (l ++ [x]) = bandSum n b l + x.Rate * part (endB b l) n x.Upto
  | [], b => by simp only [List.nil_append, bandSum, endB]; omega
  | y :: l, b => by
    have := bandSum_snoc n x l y.Upto
    simp only [List.cons_append, bandSum, endB, this]
    omega

theorem clamp_mono {t : Tariff} {x y : Int} (h : x ≤ y) : clamp t x ≤ clamp t y := by
  unfold clamp
  (repeat' split) <;> omega
theorem clamp_bound {t : Tariff} {x : Int} (h : t.Least ≤ t.Most) : t.Least ≤ clamp t x ∧ clamp t x ≤ t.Most := by
  unfold clamp
  (repeat' split) <;> omega

theorem TarOK.class {t : Tariff} (h : TarOK t) {c : Int} (h0 : 0 ≤ c) (h1 : c ≤ 6) : 0 ≤ (classes t).getD c.toNat 0 ∧ (classes t).getD c.toNat 0 ≤ 300 :=
  h.cls.all _ (getD_mem (by show c.toNat < 7; omega))
theorem TarOK.sum {t : Tariff} (h : TarOK t) (n : Int) : 0 ≤ bandSum n 0 t.Bands ∧ bandSum n 0 t.Bands ≤ 500000000 := by
  have h1 := bandSum_bound (n := n) h.bands
  rw [h.last] at h1
  omega
theorem TarOK.prod {t : Tariff} (h : TarOK t) {c : Int} (h0 : 0 ≤ c) (h1 : c ≤ 6) (n : Int) : 0 ≤ bandSum n 0 t.Bands * (classes t).getD c.toNat 0 ∧ bandSum n 0 t.Bands * (classes t).getD c.toNat 0 ≤ 150000000000 := by
  have h2 := h.class h0 h1
  have h3 := h.sum n
  refine ⟨Int.mul_nonneg h3.1 h2.1, ?_⟩
  have h4 : bandSum n 0 t.Bands * (classes t).getD c.toNat 0 ≤ bandSum n 0 t.Bands * 300 := Int.mul_le_mul_of_nonneg_left h2.2 h3.1
  omega
theorem dues_mono {t : Tariff} (h : TarOK t) {c n m : Int} (h0 : 0 ≤ c) (h1 : c ≤ 6) (hnm : n ≤ m) : duesV t c n ≤ duesV t c m := by
  refine clamp_mono ?_
  unfold roundV
  have h2 := h.class h0 h1
  have h3 : bandSum n 0 t.Bands * (classes t).getD c.toNat 0 ≤ bandSum m 0 t.Bands * (classes t).getD c.toNat 0 := Int.mul_le_mul_of_nonneg_right (bandSum_mono hnm h.bands) h2.1
  omega
theorem dues_class {t : Tariff} (h : TarOK t) {c d n : Int} (h1 : d ≤ 6) (hcd : c ≤ d) : duesV t d n ≤ duesV t c n := by
  refine clamp_mono ?_
  unfold roundV
  have h2 := h.cls.anti (i := c.toNat) (j := d.toNat) (by omega) (by show d.toNat < 7; omega)
  have h3 := (h.sum n).1
  have h4 : bandSum n 0 t.Bands * (classes t).getD d.toNat 0 ≤ bandSum n 0 t.Bands * (classes t).getD c.toNat 0 := Int.mul_le_mul_of_nonneg_left h2 h3
  omega

theorem dues_eq {F : Nat} (hF : 100 < F) {t : Tariff} (h : TarOK t) {c n : Int} (h0 : 0 ≤ c) (h1 : c ≤ 6) (hn0 : 0 ≤ n) (hn1 : n ≤ 500000) : fees_Tariff_dues F t c n = some (duesV t c n) := by
  refine Ok.eq ?_
  unfold fees_Tariff_dues
  have hl := h.len
  refine ok_loop (fun x : Int × Int × Int => 0 ≤ x.2.1 ∧ x.2.1 ≤ t.Bands.length ∧ x.1 = endB 0 (t.Bands.take x.2.1.toNat) ∧ 0 ≤ x.1 ∧ x.1 ≤ 500000 ∧ x.2.2 = bandSum n 0 (t.Bands.take x.2.1.toNat) ∧ 0 ≤ x.2.2 ∧ x.2.2 ≤ 1000 * x.1) (fun x : Int × Int × Int => t.Bands.length - x.2.1.toNat)
    ⟨by simp, by simp, rfl, by simp, by simp, rfl, by simp, by simp⟩ (by simp; omega) ?_
  rintro ⟨u, i, s⟩ next ⟨i1, i2, i3, i4, i5, i6, i7, i8⟩ hn
  simp only at i1 i2 i3 i4 i5 i6 i7 i8
  dsimp only
  refine ok_brk (fun hc => ?_) (fun hc => ?_)
  · have hc : i < t.Bands.length := of_decide_eq_true hc
    have hi : i.toNat < t.Bands.length := by omega
    have hs := h.bands.split i.toNat
    rw [drop_get (d := b0) hi, ← i3] at hs
    have e1 : endB 0 (t.Bands.take (i + 1).toNat) = (t.Bands.getD i.toNat b0).Upto := by rw [show (i + 1).toNat = i.toNat + 1 by omega, endB_take hi]
    have e2 : bandSum n 0 (t.Bands.take (i + 1).toNat) = s + (t.Bands.getD i.toNat b0).Rate * part u n (t.Bands.getD i.toNat b0).Upto := by
      rw [show (i + 1).toNat = i.toNat + 1 by omega, take_succ' (d := b0) hi, bandSum_snoc, ← i3, ← i6]
    generalize hx : t.Bands.getD i.toNat ⟨0, 0⟩ = X
    have hx' : t.Bands.getD i.toNat b0 = X := hx
    rw [hx'] at hs e1 e2
    obtain ⟨g1, g2, _⟩ := hs
    have h2 := part_le (b := u) (n := n) (u := X.Upto) (by omega)
    have h3 : 0 ≤ X.Rate * part u n X.Upto := Int.mul_nonneg g2.1 h2.1
    have h4 : X.Rate * part u n X.Upto ≤ 1000 * part u n X.Upto := Int.mul_le_mul_of_nonneg_right g2.2 h2.1
    have hp : (if (if X.Upto < n then X.Upto else n) - u > 0 then (if X.Upto < n then X.Upto else n) - u else 0) = part u n X.Upto := rfl
    rw [hp]
    have hm : -500000 ≤ (if X.Upto < n then X.Upto else n) - u ∧ (if X.Upto < n then X.Upto else n) - u ≤ 500000 := by split <;> omega
    exact ok_chk ⟨i1, hc⟩ (ok_chk (show InR _ from ⟨by omega, by omega⟩) (ok_chk (show InR _ from ⟨by omega, by omega⟩) (ok_chk (show InR _ from ⟨by omega, by omega⟩) (ok_chk (show InR _ from ⟨by omega, by omega⟩) (hn _ ⟨by show 0 ≤ i + 1; omega, by show i + 1 ≤ _; omega, e1.symm, by show 0 ≤ X.Upto; omega, g1.2, e2.symm, by show 0 ≤ s + _; omega, by show s + _ ≤ 1000 * X.Upto; omega⟩ (by show t.Bands.length - (i + 1).toNat < t.Bands.length - i.toNat; omega))))))
  · have hc : ¬ i < t.Bands.length := of_decide_eq_false hc
    rw [List.take_of_length_le (by omega)] at i6
    have hp := h.prod h0 h1 n
    rw [← i6] at hp
    have hcl : ([t.Class.a0, t.Class.a1, t.Class.a2, t.Class.a3, t.Class.a4, t.Class.a5, t.Class.a6] : List Int) = classes t := rfl
    rw [hcl]
    refine ok_chk ⟨h0, by show c < 7; omega⟩ (ok_chk (show InR _ from ⟨by omega, by omega⟩) (ok_chk (show InR _ from ⟨by omega, by omega⟩) (ok_chk ⟨by omega, by omega⟩ (ok_some ?_))))
    show clamp t (roundV t s c) = _
    rw [i6]; rfl

theorem refDues_eq {F : Nat} (hF : 100 < F) {t : Tariff2} (h : TarOK (back t)) {c n : Int} (h0 : 0 ≤ c) (h1 : c ≤ 6) (hn0 : 0 ≤ n) (hn1 : n ≤ 500000) : ref12_dues F t c n = some (duesV (back t) c n) := by
  refine Ok.eq ?_
  unfold ref12_dues
  have hl : 1 ≤ t.Bands.length ∧ t.Bands.length ≤ 8 := h.len
  have hB : BandsOK 0 t.Bands := h.bands
  refine ok_loop (fun x : Int × Int × Int => 0 ≤ x.2.1 ∧ x.2.1 ≤ t.Bands.length ∧ x.1 = endB 0 (t.Bands.take x.2.1.toNat) ∧ 0 ≤ x.1 ∧ x.1 ≤ 500000 ∧ x.2.2 = bandSum n 0 (t.Bands.take x.2.1.toNat) ∧ 0 ≤ x.2.2 ∧ x.2.2 ≤ 1000 * x.1) (fun x : Int × Int × Int => t.Bands.length - x.2.1.toNat)
    ⟨by simp, by simp, rfl, by simp, by simp, rfl, by simp, by simp⟩ (by simp; omega) ?_
  rintro ⟨u, i, s⟩ next ⟨i1, i2, i3, i4, i5, i6, i7, i8⟩ hn
  simp only at i1 i2 i3 i4 i5 i6 i7 i8
  dsimp only
  refine ok_brk (fun hc => ?_) (fun hc => ?_)
  · have hc : i < t.Bands.length := of_decide_eq_true hc
    have hi : i.toNat < t.Bands.length := by omega
    have hs := hB.split i.toNat
    rw [drop_get (d := b0) hi, ← i3] at hs
    have e1 : endB 0 (t.Bands.take (i + 1).toNat) = (t.Bands.getD i.toNat b0).Upto := by rw [show (i + 1).toNat = i.toNat + 1 by omega, endB_take hi]
    have e2 : bandSum n 0 (t.Bands.take (i + 1).toNat) = s + (t.Bands.getD i.toNat b0).Rate * part u n (t.Bands.getD i.toNat b0).Upto := by
      rw [show (i + 1).toNat = i.toNat + 1 by omega, take_succ' (d := b0) hi, bandSum_snoc, ← i3, ← i6]
    generalize hx : t.Bands.getD i.toNat ⟨0, 0⟩ = X
    have hx' : t.Bands.getD i.toNat b0 = X := hx
    rw [hx'] at hs e1 e2
    obtain ⟨g1, g2, _⟩ := hs
    have h2 := part_le (b := u) (n := n) (u := X.Upto) (by omega)
    have h3 : 0 ≤ X.Rate * part u n X.Upto := Int.mul_nonneg g2.1 h2.1
    have h4 : X.Rate * part u n X.Upto ≤ 1000 * part u n X.Upto := Int.mul_le_mul_of_nonneg_right g2.2 h2.1
    refine ok_chk ⟨i1, hc⟩ (ok_join (by omega) (fun x : Int => x = if X.Upto < n then X.Upto else n) (fun m hm => ok_join (by omega) (fun x : Int => x = s + X.Rate * part u n X.Upto) (fun s' hs' => ?_) fun k hk => ?_) fun k hk => ?_)
    · subst hs'
      exact ok_chk ⟨i1, hc⟩ (ok_chk (show InR _ from ⟨by omega, by omega⟩) (hn _ ⟨by show 0 ≤ i + 1; omega, by show i + 1 ≤ _; omega, e1.symm, by show 0 ≤ X.Upto; omega, g1.2, e2.symm, by show 0 ≤ s + _; omega, by show s + _ ≤ 1000 * X.Upto; omega⟩ (by show t.Bands.length - (i + 1).toNat < t.Bands.length - i.toNat; omega)))
    · have hp : part u n X.Upto = if m - u > 0 then m - u else 0 := by subst hm; rfl
      have hmb : -500000 ≤ m - u ∧ m - u ≤ 500000 := by subst hm; split <;> omega
      refine ok_brk (fun hb => ?_) (fun hb => hk _ ?_)
      · have hb : m > u := of_decide_eq_true hb
        rw [if_pos (by omega)] at hp
        rw [hp, Int.mul_comm] at h3 h4
        refine ok_chk (show InR _ from ⟨by omega, by omega⟩) (ok_chk ⟨i1, hc⟩ (ok_chk (show InR _ from ⟨by omega, by omega⟩) (ok_chk (show InR _ from ⟨by omega, by omega⟩) (hk _ ?_))))
        rw [hp, Int.mul_comm]
      · have hb : ¬ m > u := of_decide_eq_false hb
        rw [if_neg (by omega)] at hp
        rw [hp]; simp
    · refine ok_brk (fun hb => hk _ ?_) (fun hb => hk _ ?_)
      · have hb : n < X.Upto := of_decide_eq_true hb
        rw [if_neg (by omega)]
      · have hb : ¬ n < X.Upto := of_decide_eq_false hb
        split <;> omega
  · have hc : ¬ i < t.Bands.length := of_decide_eq_false hc
    rw [List.take_of_length_le (by omega)] at i6
    have hp := h.prod h0 h1 n
    rw [show (back t).Bands = t.Bands from rfl, ← i6] at hp
    have hcl : ([t.Class.a0, t.Class.a1, t.Class.a2, t.Class.a3, t.Class.a4, t.Class.a5, t.Class.a6] : List Int) = classes (back t) := rfl
    rw [hcl]
    have hd : duesV (back t) c n = clamp (back t) ((s * (classes (back t)).getD c.toNat 0 + 50) / 100) := by rw [i6]; rfl
    rw [hd]
    generalize s * (classes (back t)).getD c.toNat 0 = P at hp
    refine ok_chk ⟨h0, by show c < 7; omega⟩ (ok_chk (show InR _ from ⟨by omega, by omega⟩) (ok_chk ⟨by omega, by omega⟩ (ok_join (by omega) (fun x : Int => x = (P + 50) / 100) (fun x hx => ?_) fun k hk => ?_)))
    · refine ok_join (by omega) (fun y : Int => y = if x > t.Least then x else t.Least) (fun y hy => ?_) fun k hk => ?_
      · refine ok_join (by omega) (fun z : Int => z = if y < t.Most then y else t.Most) (fun z hz => ok_some ?_) fun k hk => ?_
        · subst hz hy hx; rfl
        · refine ok_brk (fun hb => hk _ ?_) (fun hb => hk _ ?_)
          · have hb : y > t.Most := of_decide_eq_true hb
            rw [if_neg (by omega)]
          · have hb : ¬ y > t.Most := of_decide_eq_false hb
            split <;> omega
      · refine ok_brk (fun hb => hk _ ?_) (fun hb => hk _ ?_)
        · have hb : x < t.Least := of_decide_eq_true hb
          rw [if_neg (by omega)]
        · have hb : ¬ x < t.Least := of_decide_eq_false hb
          split <;> omega
    · refine ok_chk ⟨by omega, by omega⟩ (ok_brk (fun hb => ?_) (fun hb => hk _ ?_))
      · have hb : P % 100 ≥ 50 := of_decide_eq_true hb
        exact ok_chk (show InR _ from ⟨by omega, by omega⟩) (hk _ (by omega))
      · have hb : ¬ P % 100 ≥ 50 := of_decide_eq_false hb
        omega
end Go.Proofs.Fe

namespace Go.Proofs.Fe
open Go Go.KX

/-! ### The greatest tonnage -/

structure LargeOK (t : Tariff) (c a n : Int) : Prop where
  b : 0 ≤ n ∧ n ≤ 500000
  at_ : n = 0 ∨ duesV t c n ≤ a
  next : n = 500000 ∨ a < duesV t c (n + 1)

theorem LargeOK.one {t : Tariff} {c a n m : Int} (ht : TarOK t) (h0 : 0 ≤ c) (h1 : c ≤ 6) (h : LargeOK t c a n) (h' : LargeOK t c a m) : n = m := by
  have key : ∀ {n m : Int}, LargeOK t c a n → LargeOK t c a m → ¬ n < m := fun {n m} h h' hlt => by
    have := h.b
    have := h'.b
    rcases h'.at_ with q | q
    · omega
    · rcases h.next with p | p
      · omega
      · have := dues_mono ht h0 h1 (n := n + 1) (m := m) (by omega)
        omega
  have := key h h'
  have := key h' h
  omega

theorem largest_ok {F : Nat} (hF : 2000000 < F) {t : Tariff} {c a : Int} (ht : TarOK t) : Ok (fun r : Int × Int => (¬ (0 ≤ c ∧ c ≤ 6) ∧ r = (0, 1)) ∨ ((0 ≤ c ∧ c ≤ 6) ∧ ((r = (0, 4) ∧ LargeOK t c a 0) ∨ (r.2 = 0 ∧ 1 ≤ r.1 ∧ LargeOK t c a r.1)))) (fees_Largest F t c a) := by
  unfold fees_Largest
  refine ok_bnde (Check_eq (by omega) t) ?_
  rw [ht.check]
  refine ok_brkF rfl ?_
  rw [within_eq, wb]
  refine ok_bnde rfl (ok_brk (fun hb => ok_some (.inl ⟨nd_true hb, rfl⟩)) (fun hb => ?_))
  have hc := nd_false hb
  rw [show IntKind.i64.wrap (1 - 1) = 0 from rfl]
  refine ok_loop (fun x : Int × Int => 0 ≤ x.2 ∧ x.2 ≤ x.1 ∧ x.1 ≤ 500000 ∧ (x.2 = 0 ∨ duesV t c x.2 ≤ a) ∧ (x.1 = 500000 ∨ a < duesV t c (x.1 + 1))) (fun x : Int × Int => (x.1 - x.2).toNat)
    ⟨by simp, by simp, by simp, .inl rfl, .inl rfl⟩ (by show (500000 - 0 : Int).toNat < F; omega) ?_
  rintro ⟨hi, lo⟩ next ⟨i2, i3, i4, i5, i6⟩ hn
  simp only at i2 i3 i4 i5 i6
  dsimp only
  refine ok_brk (fun hb => ?_) (fun hb => ?_)
  · have hb : lo < hi := of_decide_eq_true hb
    refine ok_chk (show InR _ from ⟨by omega, by omega⟩) (ok_chk (show InR _ from ⟨by omega, by omega⟩) (ok_chk ⟨by omega, by omega⟩ (ok_chk (show InR _ from ⟨by omega, by omega⟩) ?_)))
    have g1 : lo < lo + (hi - lo + 1) / 2 := by omega
    have g2 : lo + (hi - lo + 1) / 2 ≤ hi := by omega
    generalize lo + (hi - lo + 1) / 2 = mid at g1 g2
    refine ok_bnde (dues_eq (by omega) ht hc.1 hc.2 (by omega) (by omega)) (ok_brk (fun hd => ?_) (fun hd => ok_chk (show InR _ from ⟨by omega, by omega⟩) ?_))
    · have hd : duesV t c mid ≤ a := of_decide_eq_true hd
      exact hn _ ⟨by show 0 ≤ mid; omega, g2, i4, .inr hd, i6⟩ (by show (hi - mid).toNat < (hi - lo).toNat; omega)
    · have hd : ¬ duesV t c mid ≤ a := of_decide_eq_false hd
      exact hn _ ⟨i2, by show lo ≤ mid - 1; omega, by show mid - 1 ≤ _; omega, i5, .inr (by show a < duesV t c (mid - 1 + 1); rw [Int.sub_add_cancel]; omega)⟩ (by show (mid - 1 - lo).toNat < (hi - lo).toNat; omega)
  · have hb : ¬ lo < hi := of_decide_eq_false hb
    obtain rfl : lo = hi := by omega
    have hL : LargeOK t c a lo := ⟨⟨i2, i4⟩, i5, i6⟩
    refine ok_brk (fun hd => ok_some (.inr ⟨hc, .inl ⟨rfl, ?_⟩⟩)) (fun hd => ok_some (.inr ⟨hc, .inr ⟨rfl, ?_, hL⟩⟩))
    · have hd : lo < 1 := of_decide_eq_true hd
      obtain rfl : lo = 0 := by omega
      exact hL
    · have hd : ¬ lo < 1 := of_decide_eq_false hd
      show 1 ≤ lo
      omega

theorem refLargest_ok {F : Nat} (hF : 2000000 < F) {t : Tariff2} {c a : Int} (ht : TarOK (back t)) : Ok (fun r : Int × Int => (¬ (0 ≤ c ∧ c ≤ 6) ∧ r = (0, 1)) ∨ ((0 ≤ c ∧ c ≤ 6) ∧ ((r = (0, 4) ∧ LargeOK (back t) c a 0) ∨ (r.2 = 0 ∧ 1 ≤ r.1 ∧ LargeOK (back t) c a r.1)))) (ref12_Largest F t c a) := by
  unfold ref12_Largest
  refine ok_bnde (refCheck_eq (by omega) t) ?_
  rw [ht.check]
  refine ok_brkF rfl ?_
  rw [refIn_eq, wb]
  refine ok_bnde rfl (ok_brk (fun hb => ok_some (.inl ⟨nd_true hb, rfl⟩)) (fun hb => ?_))
  have hc := nd_false hb
  have rest : ∀ n : Int, 1 ≤ n → n ≤ 500000 → (n = 500000 ∨ a < duesV (back t) c (n + 1)) → Ok (fun r : Int × Int => (¬ (0 ≤ c ∧ c ≤ 6) ∧ r = (0, 1)) ∨ ((0 ≤ c ∧ c ≤ 6) ∧ ((r = (0, 4) ∧ LargeOK (back t) c a 0) ∨ (r.2 = 0 ∧ 1 ≤ r.1 ∧ LargeOK (back t) c a r.1))))
      (loopC (fun (x : Int) next => bnd (brk (decide (x > 0)) (ref12_dues F (Tariff2.mk t.Bands (A7ofInt.mk t.Class.a0 t.Class.a1 t.Class.a2 t.Class.a3 t.Class.a4 t.Class.a5 t.Class.a6) t.Least t.Most t.Paid t.Mile t.Escort t.Cut t.Tow) c x) (some 0)) (fun (y : Int) => brk (decide (x > 0) && decide (y > a)) (chk (InR (x - 1)) (next (x - 1))) (brk (x == 0) (some (0, 4)) (some (x, 0))))) F n) := by
    intro n i1 i2 i3
    refine ok_loop (fun x : Int => 0 ≤ x ∧ x ≤ 500000 ∧ (x = 500000 ∨ a < duesV (back t) c (x + 1))) (fun x : Int => x.toNat) ⟨by omega, i2, i3⟩ (by omega) ?_
    rintro m next ⟨j1, j2, j3⟩ hn
    by_cases hk : m > 0
    · rw [decide_eq_true hk]
      refine ok_bnde (show brk true _ _ = _ from refDues_eq (by omega) ht hc.1 hc.2 (by omega) (by omega)) ?_
      rw [Bool.true_and]
      refine ok_brk (fun hb => ?_) (fun hb => ?_)
      · have hb : duesV (back t) c m > a := of_decide_eq_true hb
        exact ok_chk (show InR _ from ⟨by omega, by omega⟩) (hn _ ⟨by omega, by omega, .inr (by rw [Int.sub_add_cancel]; exact hb)⟩ (by omega))
      · have hb : ¬ duesV (back t) c m > a := of_decide_eq_false hb
        exact ok_brkF (by simp; omega) (ok_some (.inr ⟨hc, .inr ⟨rfl, by show 1 ≤ m; omega, ⟨j1, j2⟩, .inr (by show duesV (back t) c m ≤ a; omega), j3⟩⟩))
    · rw [decide_eq_false hk]
      refine ok_bnde (show brk false _ _ = some 0 from rfl) ?_
      rw [Bool.false_and]
      obtain rfl : m = 0 := by omega
      exact ok_brkF rfl (ok_brkT rfl (ok_some (.inr ⟨hc, .inl ⟨rfl, ⟨j1, j2⟩, .inl rfl, j3⟩⟩)))
  refine ok_loop (fun x : Int => 1 ≤ x ∧ x ≤ 500000 ∧ (x = 500000 ∨ a < duesV (back t) c (x + 1))) (fun x : Int => x.toNat)
    ⟨by simp, by simp, .inl rfl⟩ (by omega) ?_
  rintro n next ⟨i1, i2, i3⟩ hn
  refine ok_chk (fun _ => ⟨by omega, by omega⟩) ?_
  by_cases hk : n > 1000
  · rw [decide_eq_true hk]
    refine ok_bnde (show brk true _ _ = _ from refDues_eq (by omega) ht hc.1 hc.2 (by omega) (by omega)) ?_
    rw [Bool.true_and]
    refine ok_brk (fun hb => ?_) (fun hb => ?_)
    · have hb : duesV (back t) c (n - 1000) > a := of_decide_eq_true hb
      refine ok_chk (show InR _ from ⟨by omega, by omega⟩) (hn _ ⟨by omega, by omega, .inr ?_⟩ (by omega))
      have := dues_mono ht hc.1 hc.2 (n := n - 1000) (m := n - 1000 + 1) (by omega)
      omega
    · exact rest n i1 i2 i3
  · rw [decide_eq_false hk]
    refine ok_bnde (show brk false _ _ = some 0 from rfl) ?_
    rw [Bool.false_and]
    exact ok_brkF rfl (rest n i1 i2 i3)

/-! ### Voyages -/

structure VoyOK (v : Voyage) : Prop where
  ship : 0 ≤ v.Ship ∧ v.Ship ≤ 1000000
  cls : 0 ≤ v.Class ∧ v.Class ≤ 6
  tonnes : 1 ≤ v.Tonnes ∧ v.Tonnes ≤ 500000
  tenths : 0 ≤ v.Tenths ∧ v.Tenths ≤ 100000
  escort : 0 ≤ v.Escort ∧ v.Escort ≤ 1000
  cut : 0 ≤ v.Cut ∧ v.Cut ≤ 1000
  tow : 0 ≤ v.Tow ∧ v.Tow ≤ 1000

theorem right1_eq (F : Nat) (c : Int) : fees_Voyage_right_1 F c = some (!decide (0 ≤ c ∧ c ≤ 1000)) := by
  show some (!(decide (c ≥ 0) && decide (c ≤ 1000))) = _
  rw [wb]

def IsB (p : Prop) (b : Bool) : Prop := b = true ↔ p
theorem IsB.one {p : Prop} {a b : Bool} (h : IsB p a) (h' : IsB p b) : a = b := by
  cases a <;> cases b <;> simp_all [IsB]

theorem right_ok {F : Nat} (hF : 100 < F) (v : Voyage) : Ok (IsB (VoyOK v)) (fees_Voyage_right F v) := by
  unfold fees_Voyage_right
  simp only [within_eq, wb]
  have no : ¬ VoyOK v → Ok (IsB (VoyOK v)) (some false) := fun h => ok_some ⟨(fun e => nomatch e), fun q => absurd q h⟩
  refine ok_bnde rfl (ok_brk (fun h1 => ?_) (fun h1 => no fun q => (of_decide_eq_false h1) q.ship))
  refine ok_bnde rfl (ok_brk (fun h2 => ?_) (fun h1 => no fun q => (of_decide_eq_false h1) q.cls))
  refine ok_bnde rfl (ok_brk (fun h3 => ?_) (fun h1 => no fun q => (of_decide_eq_false h1) q.tonnes))
  refine ok_bnde rfl (ok_brk (fun h4 => ?_) (fun h1 => no fun q => (of_decide_eq_false h1) q.tenths))
  refine ok_join (by omega) (fun x : Int => (x = -1 ∧ VoyOK v) ∨ (0 ≤ x ∧ ¬ VoyOK v)) (fun x hx => ok_some ?_) fun k hk => ?_
  · rcases hx with ⟨rfl, q⟩ | ⟨q1, q2⟩
    · exact ⟨fun _ => q, fun _ => rfl⟩
    · rw [decide_eq_true (show x ≥ 0 from q1)]
      exact ⟨(fun e => nomatch e), fun q => absurd q q2⟩
  · refine ok_find (l := [v.Escort, v.Cut, v.Tow]) (p := fun c => !decide (0 ≤ c ∧ c ≤ 1000)) (by simp; omega) (by simp) (fun c _ => right1_eq F c) (fun i hi hp => hk _ (.inr ⟨by omega, fun q => ?_⟩)) (fun hp => hk _ (.inl ⟨rfl, ?_⟩))
    · have hm := getD_mem (d := 0) hi
      have hp := nd_true hp
      simp only [List.mem_cons, List.not_mem_nil, or_false] at hm
      rcases hm with e | e | e <;> rw [e] at hp
      · exact hp q.escort
      · exact hp q.cut
      · exact hp q.tow
    · exact ⟨of_decide_eq_true h1, of_decide_eq_true h2, of_decide_eq_true h3, of_decide_eq_true h4, nd_false (hp v.Escort (by simp)), nd_false (hp v.Cut (by simp)), nd_false (hp v.Tow (by simp))⟩

theorem refRight_ok {F : Nat} (v : Voyage) : Ok (IsB (VoyOK v)) (ref12_right F v) := by
  unfold ref12_right
  simp only [refIn_eq, wb]
  have e2 : ∀ (b : Bool) (p : Prop) [Decidable p], brk b (some (decide p)) (some false) = some (b && decide p) := fun b p _ => by cases b <;> rfl
  refine ok_bnde rfl ?_
  rw [e2]; refine ok_bnde rfl ?_
  rw [e2]; refine ok_bnde rfl ?_
  rw [e2]; refine ok_bnde rfl ?_
  rw [e2]; refine ok_bnde rfl ?_
  rw [e2]; refine ok_bnde rfl ?_
  rw [e2]; refine ok_bnde rfl (ok_some ⟨fun h => ?_, fun q => ?_⟩)
  · simp only [Bool.and_eq_true, decide_eq_true_eq] at h
    obtain ⟨⟨⟨⟨⟨⟨q1, q2⟩, q3⟩, q4⟩, q5⟩, q6⟩, q7⟩ := h
    exact ⟨q1, q2.2, q3.2, q4.2, q5.2, q6.2, q7.2⟩
  · rw [decide_eq_true q.ship, decide_eq_true q.cls, decide_eq_true q.tonnes, decide_eq_true q.tenths, decide_eq_true q.escort, decide_eq_true q.cut, decide_eq_true q.tow]; rfl

/-! ### Accounts -/

def milesV (t : Tariff) (v : Voyage) : Int := (t.Mile * v.Tenths * ((v.Tonnes + 999) / 1000) + 9) / 10
def linesV (t : Tariff) (v : Voyage) (calls : Int) : A5ofInt := ⟨if calls < t.Paid then duesV t v.Class v.Tonnes else 0, milesV t v, t.Escort * v.Escort, t.Cut * v.Cut, t.Tow * v.Tow⟩
def sumA (l : A5ofInt) : Int := 0 + l.a0 + l.a1 + l.a2 + l.a3 + l.a4
def billV (t : Tariff) (v : Voyage) (calls : Int) : Account := ⟨linesV t v calls, sumA (linesV t v calls)⟩

theorem mul_bound {a b A B : Int} (h : 0 ≤ a ∧ a ≤ A) (h' : 0 ≤ b ∧ b ≤ B) : 0 ≤ a * b ∧ a * b ≤ A * B :=
  ⟨Int.mul_nonneg h.1 h'.1, Int.mul_le_mul h.2 h'.2 h'.1 (Int.le_trans h.1 h.2)⟩

structure BillB (t : Tariff) (v : Voyage) : Prop where
  mt : 0 ≤ t.Mile * v.Tenths ∧ t.Mile * v.Tenths ≤ 10000000000
  mg : 0 ≤ t.Mile * v.Tenths * ((v.Tonnes + 999) / 1000) ∧ t.Mile * v.Tenths * ((v.Tonnes + 999) / 1000) ≤ 5000000000000
  e : 0 ≤ t.Escort * v.Escort ∧ t.Escort * v.Escort ≤ 1000000000
  c : 0 ≤ t.Cut * v.Cut ∧ t.Cut * v.Cut ≤ 1000000000
  w : 0 ≤ t.Tow * v.Tow ∧ t.Tow * v.Tow ≤ 1000000000
  d : 0 ≤ duesV t v.Class v.Tonnes ∧ duesV t v.Class v.Tonnes ≤ 1000000000

theorem billB {t : Tariff} {v : Voyage} (ht : TarOK t) (hv : VoyOK v) : BillB t v := by
  have h1 := mul_bound ht.nums.mile hv.tenths
  have hv3 := hv.tonnes
  have h2 : 0 ≤ (v.Tonnes + 999) / 1000 ∧ (v.Tonnes + 999) / 1000 ≤ 500 := by omega
  have h3 := mul_bound h1 h2
  have h4 := clamp_bound (x := roundV t (bandSum v.Tonnes 0 t.Bands) v.Class) ht.nums.least.2
  have h5 := ht.nums.most
  have h6 := ht.nums.least
  exact ⟨h1, h3, mul_bound ht.nums.escort hv.escort, mul_bound ht.nums.cut hv.cut, mul_bound ht.nums.tow hv.tow, by show 0 ≤ clamp t _; omega, by show clamp t _ ≤ _; omega⟩

theorem billV_bound {t : Tariff} {v : Voyage} (ht : TarOK t) (hv : VoyOK v) (calls : Int) : 0 ≤ (billV t v calls).Sum ∧ (billV t v calls).Sum ≤ 600000000000 := by
  have h := billB ht hv
  have h1 := h.mg
  have h2 := h.e
  have h3 := h.c
  have h4 := h.w
  have h5 := h.d
  simp only [billV, sumA, linesV, milesV]
  split <;> omega

theorem account_eq {F : Nat} (a b c d e : Int) (ha : 0 ≤ a ∧ a ≤ 1000000000000) (hb : 0 ≤ b ∧ b ≤ 1000000000000) (hc : 0 ≤ c ∧ c ≤ 1000000000000) (hd : 0 ≤ d ∧ d ≤ 1000000000000) (he : 0 ≤ e ∧ e ≤ 1000000000000) :
    fees_account F [a, b, c, d, e] = some ⟨⟨a, b, c, d, e⟩, sumA ⟨a, b, c, d, e⟩⟩ := by
  unfold fees_account
  have hl : ((([a, b, c, d, e] : List Int).length : Nat) : Int) = 5 := rfl
  rw [hl]
  have w1 : IntKind.i64.wrap ((0 : Int) + 1) = 1 := rfl
  have w2 : IntKind.i64.wrap ((1 : Int) + 1) = 2 := rfl
  have w3 : IntKind.i64.wrap ((2 : Int) + 1) = 3 := rfl
  have w4 : IntKind.i64.wrap ((3 : Int) + 1) = 4 := rfl
  have w5 : IntKind.i64.wrap ((4 : Int) + 1) = 5 := rfl
  rw [w1, w2, w3, w4, w5]
  have g0 : ([a, b, c, d, e] : List Int).getD (Int.toNat 0) 0 = a := rfl
  have g1 : ([a, b, c, d, e] : List Int).getD (Int.toNat 1) 0 = b := rfl
  have g2 : ([a, b, c, d, e] : List Int).getD (Int.toNat 2) 0 = c := rfl
  have g3 : ([a, b, c, d, e] : List Int).getD (Int.toNat 3) 0 = d := rfl
  have g4 : ([a, b, c, d, e] : List Int).getD (Int.toNat 4) 0 = e := rfl
  rw [g0, g1, g2, g3, g4]
  rw [decide_eq_true (show (0 : Int) < 5 by omega), brk_true, chk_pos (by omega), chk_pos (show InR _ from ⟨by omega, by omega⟩),
    decide_eq_true (show (1 : Int) < 5 by omega), brk_true, chk_pos (by omega), chk_pos (show InR _ from ⟨by omega, by omega⟩),
    decide_eq_true (show (2 : Int) < 5 by omega), brk_true, chk_pos (by omega), chk_pos (show InR _ from ⟨by omega, by omega⟩),
    decide_eq_true (show (3 : Int) < 5 by omega), brk_true, chk_pos (by omega), chk_pos (show InR _ from ⟨by omega, by omega⟩),
    decide_eq_true (show (4 : Int) < 5 by omega), brk_true, chk_pos (by omega), chk_pos (show InR _ from ⟨by omega, by omega⟩),
    decide_eq_false (show ¬ (5 : Int) < 5 by omega), brk_false]
  rfl

theorem bill_eq {F : Nat} (hF : 100 < F) {t : Tariff} {v : Voyage} (ht : TarOK t) (hv : VoyOK v) (calls : Int) : fees_Tariff_bill F t v calls = some (billV t v calls) := by
  refine Ok.eq ?_
  unfold fees_Tariff_bill
  have h := billB ht hv
  have h0 := h.mt
  have h1 := h.mg
  have h2 := h.e
  have h3 := h.c
  have h4 := h.w
  have h5 := h.d
  have hv3 := hv.tonnes
  refine ok_join (by omega) (fun x : Int => x = if calls < t.Paid then duesV t v.Class v.Tonnes else 0) (fun x hx => ?_) fun k hk => ?_
  · have hx0 : 0 ≤ x ∧ x ≤ 1000000000 := by subst hx; split <;> omega
    refine ok_chk (show InR _ from ⟨by omega, by omega⟩) (ok_chk ⟨by omega, by omega⟩ (ok_chk (show InR _ from ⟨by omega, by omega⟩) (ok_chk (show InR _ from ⟨by omega, by omega⟩) (ok_chk (show InR _ from ⟨by omega, by omega⟩) (ok_chk ⟨by omega, by omega⟩ (ok_chk (show InR _ from ⟨by omega, by omega⟩) (ok_chk (show InR _ from ⟨by omega, by omega⟩) (ok_chk (show InR _ from ⟨by omega, by omega⟩) ?_))))))))
    refine ok_bnde (account_eq _ _ _ _ _ (by omega) (by omega) (by omega) (by omega) (by omega)) (ok_some ?_)
    subst hx; rfl
  · refine ok_brk (fun hb => ?_) (fun hb => hk _ ?_)
    · have hb : calls < t.Paid := of_decide_eq_true hb
      refine ok_bnde (dues_eq hF ht hv.cls.1 hv.cls.2 (by omega) (by omega)) (hk _ ?_)
      rw [if_pos hb]
    · have hb : ¬ calls < t.Paid := of_decide_eq_false hb
      rw [if_neg hb]

theorem refBill_eq {F : Nat} (hF : 100 < F) {t : Tariff2} {v : Voyage} (ht : TarOK (back t)) (hv : VoyOK v) (calls : Int) : ref12_bill F t v calls = some (billV (back t) v calls) := by
  refine Ok.eq ?_
  unfold ref12_bill
  have h := billB ht hv
  have h0 : 0 ≤ t.Mile * v.Tenths ∧ t.Mile * v.Tenths ≤ 10000000000 := h.mt
  have h1 : 0 ≤ t.Mile * v.Tenths * ((v.Tonnes + 999) / 1000) ∧ t.Mile * v.Tenths * ((v.Tonnes + 999) / 1000) ≤ 5000000000000 := h.mg
  have h2 : 0 ≤ t.Escort * v.Escort ∧ t.Escort * v.Escort ≤ 1000000000 := h.e
  have h3 : 0 ≤ t.Cut * v.Cut ∧ t.Cut * v.Cut ≤ 1000000000 := h.c
  have h4 : 0 ≤ t.Tow * v.Tow ∧ t.Tow * v.Tow ≤ 1000000000 := h.w
  have h5 := h.d
  have hv3 := hv.tonnes
  have hP : (back t).Paid = t.Paid := rfl
  have hM : milesV (back t) v = (t.Mile * v.Tenths * ((v.Tonnes + 999) / 1000) + 9) / 10 := rfl
  refine ok_join (by omega) (fun x : Int => x = if calls < t.Paid then duesV (back t) v.Class v.Tonnes else 0) (fun x hx => ?_) fun k hk => ?_
  · have hx0 : 0 ≤ x ∧ x ≤ 1000000000 := by subst hx; split <;> omega
    refine ok_chk ⟨by omega, by omega⟩ (ok_join (by omega) (fun g : Int => g = (v.Tonnes + 999) / 1000) (fun g hg => ?_) fun k hk => ?_)
    · rw [← hg] at h1 hM
      refine ok_chk (show InR _ from ⟨by omega, by omega⟩) (ok_chk (show InR _ from ⟨by omega, by omega⟩) (ok_chk ⟨by omega, by omega⟩ (ok_join (by omega) (fun m : Int => m = milesV (back t) v) (fun m hm => ?_) fun k hk => ?_)))
      · have hmb : 0 ≤ m ∧ m ≤ 1000000000000 := by rw [hm, hM]; omega
        refine ok_chk (show InR _ from ⟨by omega, by omega⟩) (ok_chk (show InR _ from ⟨by omega, by omega⟩) (ok_chk (show InR _ from ⟨by omega, by omega⟩) ?_))
        have hl5 : (([x, m, t.Escort * v.Escort, t.Cut * v.Cut, t.Tow * v.Tow] : List Int)).length = 5 := rfl
        have hmem : ∀ y ∈ ([x, m, t.Escort * v.Escort, t.Cut * v.Cut, t.Tow * v.Tow] : List Int), 0 ≤ y ∧ y ≤ 1000000000000 := fun y hy => by
          simp only [List.mem_cons, List.not_mem_nil, or_false] at hy
          rcases hy with rfl | rfl | rfl | rfl | rfl <;> omega
        have hfin : (⟨⟨x, m, t.Escort * v.Escort, t.Cut * v.Cut, t.Tow * v.Tow⟩, sumL [x, m, t.Escort * v.Escort, t.Cut * v.Cut, t.Tow * v.Tow]⟩ : Account) = billV (back t) v calls := by
          have e1 : linesV (back t) v calls = ⟨x, m, t.Escort * v.Escort, t.Cut * v.Cut, t.Tow * v.Tow⟩ := by subst hx hm; rfl
          simp only [billV, e1, sumA, sumL]
          congr 1; omega
        generalize hL : ([x, m, t.Escort * v.Escort, t.Cut * v.Cut, t.Tow * v.Tow] : List Int) = L at hl5 hmem hfin ⊢
        refine ok_loop (fun z : Int × Int => 0 ≤ z.1 ∧ z.1 ≤ 5 ∧ z.2 = sumL (L.take z.1.toNat)) (fun z : Int × Int => 5 - z.1.toNat) ⟨by simp, by simp, rfl⟩ (by simp; omega) ?_
        rintro ⟨i, s⟩ next ⟨i1, i2, i3⟩ hn
        simp only at i1 i2 i3
        dsimp only
        have hsb : 0 ≤ s ∧ s ≤ 5000000000000 := by
          have h1 := sumL_nonneg (L.take i.toNat) fun y hy => (hmem y (List.mem_of_mem_take hy)).1
          have h2 := sumL_le (L.take i.toNat) (B := 1000000000000) fun y hy => (hmem y (List.mem_of_mem_take hy)).2
          have h3 : (L.take i.toNat).length ≤ 5 := by rw [List.length_take]; omega
          omega
        refine ok_brk (fun hc => ?_) (fun hc => ok_some ?_)
        · have hc : i < 5 := of_decide_eq_true hc
          have hi : i.toNat < L.length := by omega
          have hmi := hmem _ (getD_mem (d := 0) hi)
          have e1 : sumL (L.take (i + 1).toNat) = s + L.getD i.toNat 0 := by
            rw [show (i + 1).toNat = i.toNat + 1 by omega, take_succ' (d := 0) hi, sumL_append, i3]; simp only [sumL]; omega
          exact ok_chk ⟨i1, hc⟩ (ok_chk (show InR _ from ⟨by omega, by omega⟩) (ok_chk (show InR _ from ⟨by omega, by omega⟩) (hn _ ⟨by show 0 ≤ i + 1; omega, by show i + 1 ≤ 5; omega, e1.symm⟩ (by show 5 - (i + 1).toNat < 5 - i.toNat; omega))))
        · have hc : ¬ i < 5 := of_decide_eq_false hc
          rw [List.take_of_length_le (by omega)] at i3
          rw [i3]; exact hfin
      · refine ok_chk ⟨by omega, by omega⟩ (ok_brk (fun hb => ?_) (fun hb => hk _ ?_))
        · have hb : t.Mile * v.Tenths * g % 10 > 0 := of_decide_eq_true hb
          exact ok_chk (show InR _ from ⟨by omega, by omega⟩) (hk _ (by rw [hM]; omega))
        · have hb : ¬ t.Mile * v.Tenths * g % 10 > 0 := of_decide_eq_false hb
          rw [hM]; omega
    · refine ok_chk ⟨by omega, by omega⟩ (ok_brk (fun hb => ?_) (fun hb => hk _ ?_))
      · have hb : v.Tonnes % 1000 > 0 := of_decide_eq_true hb
        exact ok_chk (show InR _ from ⟨by omega, by omega⟩) (hk _ (by omega))
      · have hb : ¬ v.Tonnes % 1000 > 0 := of_decide_eq_false hb
        omega
  · refine ok_brk (fun hb => ?_) (fun hb => hk _ ?_)
    · have hb : calls < t.Paid := of_decide_eq_true hb
      refine ok_bnde (refDues_eq hF ht hv.cls.1 hv.cls.2 (by omega) (by omega)) (hk _ ?_)
      rw [if_pos hb]
    · have hb : ¬ calls < t.Paid := of_decide_eq_false hb
      rw [if_neg hb]
end Go.Proofs.Fe

namespace Go.Proofs.Fe
open Go Go.KX
theorem awake_eq : law12_awake 1000000000000000 = some true := by kernel_rfl
end Go.Proofs.Fe

namespace Go.Proofs.Fe
open Go Go.KX

abbrev v0 : Voyage := ⟨0, 0, 0, 0, 0, 0, 0⟩

theorem getM_setM : ∀ (m : List (Int × Int)) (k v s : Int), getM (setM m k v) s = if k = s then v else getM m s
  | [], k, v, s => rfl
  | p :: m, k, v, s => by
    have ih := getM_setM m k v s
    unfold setM
    by_cases h : p.1 = k
    · rw [if_pos h]
      unfold getM
      by_cases h2 : k = s
      · rw [if_pos h2, if_pos h2]
      · rw [if_neg h2, if_neg h2, if_neg (by rw [h]; exact h2)]
    · rw [if_neg h]
      unfold getM
      rw [ih]
      by_cases h2 : p.1 = s
      · rw [if_pos h2, if_neg (fun e => h (h2.trans e.symm)), if_pos h2]
      · rw [if_neg h2]
        by_cases h3 : k = s
        · rw [if_pos h3, if_pos h3]
        · rw [if_neg h3, if_neg h3]
          cases m with
          | nil => unfold getM; rw [if_neg h2]
          | cons q m => rw [if_neg h2]

def cnt (s : Int) (l : List Voyage) : Int := ((l.filter fun v => decide (v.Ship = s)).length : Int)
theorem cnt_snoc (s : Int) (l : List Voyage) (v : Voyage) : cnt s (l ++ [v]) = cnt s l + if v.Ship = s then 1 else 0 := by
  unfold cnt
  rw [List.filter_append, List.length_append]
  by_cases h : v.Ship = s
  · simp [h]
  · simp [h]
theorem cnt_bound (s : Int) (l : List Voyage) : 0 ≤ cnt s l ∧ cnt s l ≤ l.length := by
  unfold cnt
  have := List.length_filter_le (fun v : Voyage => decide (v.Ship = s)) l
  omega

def seaV (t : Tariff) : List Voyage → List Voyage → List Account
  | _, [] => []
  | d, v :: l => billV t v (cnt v.Ship d) :: seaV t (d ++ [v]) l
theorem seaV_length (t : Tariff) : ∀ (l d : List Voyage), (seaV t d l).length = l.length
  | [], _ => rfl
  | v :: l, d => by simp [seaV, seaV_length t l]
def sumS : List Account → Int
  | [] => 0
  | a :: l => a.Sum + sumS l
theorem sumS_append : ∀ l r : List Account, sumS (l ++ r) = sumS l + sumS r
  | [], r => by simp [sumS]
  | x :: l, r => by simp only [List.cons_append, sumS, sumS_append l r]; omega

def SeaP (t : Tariff) (l : List Voyage) (r : List Account × Int × Int) : Prop :=
  (¬ (∀ v ∈ l, VoyOK v) ∧ r = ([], 0, 1)) ∨ ((∀ v ∈ l, VoyOK v) ∧ r = (seaV t [] l, sumS (seaV t [] l), 0))
theorem SeaP.one {t : Tariff} {l : List Voyage} {r s : List Account × Int × Int} (h : SeaP t l r) (h' : SeaP t l s) : r = s := by
  rcases h with ⟨a, rfl⟩ | ⟨a, rfl⟩ <;> rcases h' with ⟨b, rfl⟩ | ⟨b, rfl⟩
  · rfl
  · exact absurd b a
  · exact absurd a b
  · rfl

theorem season_ok {F : Nat} (hF : 1000 < F) {t : Tariff} (ht : TarOK t) (l : List Voyage) : Ok (fun r => (500 < l.length ∧ r = ([], 0, 2)) ∨ (l.length ≤ 500 ∧ SeaP t l r)) (fees_Season F t l) := by
  unfold fees_Season
  refine ok_bnde (Check_eq (by omega) t) ?_
  rw [ht.check]
  refine ok_brkF rfl (ok_brk (fun hb => ok_some (.inl ⟨by have := of_decide_eq_true hb; omega, rfl⟩)) (fun hb => ?_))
  have hl : l.length ≤ 500 := by have := of_decide_eq_false hb; omega
  refine ok_loop (fun x : Int × List Account × Int × List (Int × Int) => 0 ≤ x.2.2.1 ∧ x.2.2.1 ≤ l.length ∧ x.2.1 ++ seaV t (l.take x.2.2.1.toNat) (l.drop x.2.2.1.toNat) = seaV t [] l ∧ x.2.1.length = x.2.2.1.toNat ∧ x.1 = sumS x.2.1 ∧ 0 ≤ x.1 ∧ x.1 ≤ 600000000000 * x.2.2.1 ∧ (∀ s, getM x.2.2.2 s = cnt s (l.take x.2.2.1.toNat)) ∧ ∀ v ∈ l.take x.2.2.1.toNat, VoyOK v)
    (fun x => l.length - x.2.2.1.toNat) ⟨by simp, by simp, rfl, rfl, rfl, by simp, by simp, fun _ => rfl, fun _ h => by (cases h)⟩ (by simp; omega) ?_
  rintro ⟨sm, out, i, m⟩ next ⟨i1, i2, i3, i4, i5, i6, i7, i8, i9⟩ hn
  simp only at i1 i2 i3 i4 i5 i6 i7 i8 i9
  dsimp only
  refine ok_brk (fun hc => ?_) (fun hc => ok_some (.inr ⟨hl, .inr ⟨?_, ?_⟩⟩))
  · have hc : i < l.length := of_decide_eq_true hc
    have hi : i.toNat < l.length := by omega
    rw [drop_get (d := v0) hi] at i3
    have htk : l.take (i + 1).toNat = l.take i.toNat ++ [l.getD i.toNat v0] := by rw [show (i + 1).toNat = i.toNat + 1 by omega, take_succ' (d := v0) hi]
    have hmem : l.getD i.toNat v0 ∈ l := getD_mem hi
    refine ok_join (by omega) (fun x : Int × List Account × List (Int × Int) => x.2.1 ++ seaV t (l.take (i + 1).toNat) (l.drop (i + 1).toNat) = seaV t [] l ∧ x.2.1.length = (i + 1).toNat ∧ x.1 = sumS x.2.1 ∧ 0 ≤ x.1 ∧ x.1 ≤ 600000000000 * (i + 1) ∧ (∀ s, getM x.2.2 s = cnt s (l.take (i + 1).toNat)) ∧ ∀ v ∈ l.take (i + 1).toNat, VoyOK v)
      (fun x ⟨a, b, c, d, e, f, g⟩ => ok_chk (show InR _ from ⟨by omega, by omega⟩) (hn _ ⟨by show 0 ≤ i + 1; omega, by show i + 1 ≤ _; omega, a, b, c, d, e, f, g⟩ (by show l.length - (i + 1).toNat < l.length - i.toNat; omega))) fun k hk => ?_
    have hx : l.getD i.toNat ⟨0, 0, 0, 0, 0, 0, 0⟩ = l.getD i.toNat v0 := rfl
    rw [hx]
    generalize l.getD i.toNat v0 = V at i3 htk hmem ⊢
    refine ok_chk ⟨i1, hc⟩ (ok_bnd _ (right_ok (by omega) V) fun b hb => ok_brk (fun h => ok_some (.inr ⟨hl, .inl ⟨fun q => ?_, rfl⟩⟩)) (fun h => ?_))
    · have h : b = false := by simpa using h
      have := hb.2 (q V hmem)
      rw [h] at this; cases this
    have h : b = true := by simpa using h
    have hV := hb.1 h
    have hg := i8 V.Ship
    have hcb := cnt_bound V.Ship (l.take i.toNat)
    have hlt : (l.take i.toNat).length ≤ i := by rw [List.length_take]; omega
    refine ok_bnde (bill_eq (by omega) ht hV _) ?_
    rw [hg]
    have hbb := billV_bound ht hV (cnt V.Ship (l.take i.toNat))
    have hseq : (out ++ [billV t V (cnt V.Ship (l.take i.toNat))]) ++ seaV t (l.take (i + 1).toNat) (l.drop (i + 1).toNat) = seaV t [] l := by
      rw [← i3, htk, List.append_assoc, show (i + 1).toNat = i.toNat + 1 by omega]; rfl
    generalize billV t V (cnt V.Ship (l.take i.toNat)) = A at hbb hseq ⊢
    have hsum : sumS (out ++ [A]) = sm + A.Sum := by rw [sumS_append, ← i5]; simp only [sumS]; omega
    have hlen : (out ++ [A]).length = (i + 1).toNat := by simp; omega
    have hmap : ∀ s, getM (setM m V.Ship (cnt V.Ship (l.take i.toNat) + 1)) s = cnt s (l.take (i + 1).toNat) := fun s => by
      rw [getM_setM, htk, cnt_snoc]
      by_cases e : V.Ship = s
      · rw [if_pos e, if_pos e, e]
      · rw [if_neg e, if_neg e, i8]; omega
    have hall : ∀ v ∈ l.take (i + 1).toNat, VoyOK v := fun v hv => by
      rw [htk] at hv
      rcases List.mem_append.1 hv with q | q
      · exact i9 v q
      · rw [List.mem_singleton.1 q]; exact hV
    refine ok_chk (show InR _ from ⟨by omega, by omega⟩) (ok_chk (by simp; omega) (ok_brk (fun _ => ok_chk (show InR _ from ⟨by omega, by omega⟩) (hk _ ⟨hseq, hlen, hsum.symm, by show 0 ≤ sm + A.Sum; omega, by show sm + A.Sum ≤ _; omega, hmap, hall⟩)) (fun hz => hk _ ⟨hseq, hlen, ?_, i6, by show sm ≤ _; omega, hmap, hall⟩)))
    show sm = sumS (out ++ [A])
    have hz : A.Sum = 0 := by
      simp only [Bool.not_eq_false', Bool.and_eq_true, beq_iff_eq, Bool.and_true] at hz
      exact hz.2
    rw [hsum, hz]; omega
  · have hc : ¬ i < l.length := of_decide_eq_false hc
    rw [List.take_of_length_le (by omega)] at i9
    exact i9
  · have hc : ¬ i < l.length := of_decide_eq_false hc
    rw [List.drop_eq_nil_of_le (by omega)] at i3
    have : out = seaV t [] l := by rw [← i3]; simp [seaV]
    rw [i5, this]

theorem refSeason_ok {F : Nat} (hF : 1000 < F) {t : Tariff2} (ht : TarOK (back t)) (l : List Voyage) : Ok (fun r => (500 < l.length ∧ r = ([], 0, 2)) ∨ (l.length ≤ 500 ∧ SeaP (back t) l r)) (ref12_Season F t l) := by
  unfold ref12_Season
  refine ok_bnde (refCheck_eq (by omega) t) ?_
  rw [ht.check]
  refine ok_brkF rfl (ok_brk (fun hb => ok_some (.inl ⟨by have := of_decide_eq_true hb; omega, rfl⟩)) (fun hb => ?_))
  have hl : l.length ≤ 500 := by have := of_decide_eq_false hb; omega
  refine ok_loop (fun x : List Account × Int × Int => 0 ≤ x.2.1 ∧ x.2.1 ≤ l.length ∧ x.1 ++ seaV (back t) (l.take x.2.1.toNat) (l.drop x.2.1.toNat) = seaV (back t) [] l ∧ x.1.length = x.2.1.toNat ∧ x.2.2 = sumS x.1 ∧ 0 ≤ x.2.2 ∧ x.2.2 ≤ 600000000000 * x.2.1 ∧ ∀ v ∈ l.take x.2.1.toNat, VoyOK v)
    (fun x => l.length - x.2.1.toNat) ⟨by simp, by simp, rfl, rfl, rfl, by simp, by simp, fun _ h => by (cases h)⟩ (by simp; omega) ?_
  rintro ⟨out, i, sm⟩ next ⟨i1, i2, i3, i4, i5, i6, i7, i9⟩ hn
  simp only at i1 i2 i3 i4 i5 i6 i7 i9
  dsimp only
  refine ok_brk (fun hc => ?_) (fun hc => ok_some (.inr ⟨hl, .inr ⟨?_, ?_⟩⟩))
  · have hc : i < l.length := of_decide_eq_true hc
    have hi : i.toNat < l.length := by omega
    rw [drop_get (d := v0) hi] at i3
    have htk : l.take (i + 1).toNat = l.take i.toNat ++ [l.getD i.toNat v0] := by rw [show (i + 1).toNat = i.toNat + 1 by omega, take_succ' (d := v0) hi]
    have hmem : l.getD i.toNat v0 ∈ l := getD_mem hi
    have hx : l.getD i.toNat ⟨0, 0, 0, 0, 0, 0, 0⟩ = l.getD i.toNat v0 := rfl
    rw [hx]
    generalize l.getD i.toNat v0 = V at i3 htk hmem ⊢
    refine ok_chk ⟨i1, hc⟩ (ok_bnd _ (refRight_ok V) fun b hb => ok_brk (fun h => ok_some (.inr ⟨hl, .inl ⟨fun q => ?_, rfl⟩⟩)) (fun h => ?_))
    · have h : b = false := by simpa using h
      have := hb.2 (q V hmem)
      rw [h] at this; cases this
    have h : b = true := by simpa using h
    have hV := hb.1 h
    refine ok_loop (fun x : Int × Int => 0 ≤ x.1 ∧ x.1 ≤ i ∧ x.2 = cnt V.Ship (l.take x.1.toNat)) (fun x => i.toNat - x.1.toNat) ⟨by simp, i1, rfl⟩ (by simp; omega) ?_
    rintro ⟨j, c⟩ next2 ⟨j1, j2, j3⟩ hn2
    simp only at j1 j2 j3
    dsimp only
    have hcb := cnt_bound V.Ship (l.take j.toNat)
    have hlt : (l.take j.toNat).length ≤ j := by rw [List.length_take]; omega
    refine ok_brk (fun hd => ?_) (fun hd => ?_)
    · have hd : j < i := of_decide_eq_true hd
      have hj : j.toNat < l.length := by omega
      have htj : l.take (j + 1).toNat = l.take j.toNat ++ [l.getD j.toNat v0] := by rw [show (j + 1).toNat = j.toNat + 1 by omega, take_succ' (d := v0) hj]
      have hy : l.getD j.toNat ⟨0, 0, 0, 0, 0, 0, 0⟩ = l.getD j.toNat v0 := rfl
      rw [hy]
      generalize l.getD j.toNat v0 = W at htj ⊢
      refine ok_join (by omega) (fun x : Int => x = cnt V.Ship (l.take (j + 1).toNat)) (fun x hx => ok_chk (show InR _ from ⟨by omega, by omega⟩) (hn2 _ ⟨by show 0 ≤ j + 1; omega, by show j + 1 ≤ i; omega, hx⟩ (by show i.toNat - (j + 1).toNat < i.toNat - j.toNat; omega))) fun k hk => ?_
      refine ok_chk ⟨j1, by omega⟩ (ok_chk ⟨i1, hc⟩ (ok_brk (fun he => ok_chk (show InR _ from ⟨by omega, by omega⟩) (hk _ ?_)) (fun he => hk _ ?_)))
      · have he : W.Ship = V.Ship := by simpa using he
        rw [htj, cnt_snoc, if_pos he, j3]
      · have he : ¬ W.Ship = V.Ship := by simpa using he
        rw [htj, cnt_snoc, if_neg he, j3]; omega
    · have hd : ¬ j < i := of_decide_eq_false hd
      obtain rfl : j = i := by omega
      refine ok_chk ⟨i1, hc⟩ (ok_bnde (refBill_eq (by omega) ht hV _) ?_)
      rw [j3]
      have hbb := billV_bound ht hV (cnt V.Ship (l.take j.toNat))
      have hseq : (out ++ [billV (back t) V (cnt V.Ship (l.take j.toNat))]) ++ seaV (back t) (l.take (j + 1).toNat) (l.drop (j + 1).toNat) = seaV (back t) [] l := by
        rw [← i3, htk, List.append_assoc, show (j + 1).toNat = j.toNat + 1 by omega]; rfl
      generalize billV (back t) V (cnt V.Ship (l.take j.toNat)) = A at hbb hseq ⊢
      have hsum : sumS (out ++ [A]) = sm + A.Sum := by rw [sumS_append, ← i5]; simp only [sumS]; omega
      have hlen : (out ++ [A]).length = (j + 1).toNat := by simp; omega
      have hall : ∀ v ∈ l.take (j + 1).toNat, VoyOK v := fun v hv => by
        rw [htk] at hv
        rcases List.mem_append.1 hv with q | q
        · exact i9 v q
        · rw [List.mem_singleton.1 q]; exact hV
      exact ok_chk (by simp; omega) (ok_chk (show InR _ from ⟨by omega, by omega⟩) (ok_chk (show InR _ from ⟨by omega, by omega⟩) (hn _ ⟨by show 0 ≤ j + 1; omega, by show j + 1 ≤ _; omega, hseq, hlen, hsum.symm, by show 0 ≤ sm + A.Sum; omega, by show sm + A.Sum ≤ 600000000000 * (j + 1); omega, hall⟩ (by show l.length - (j + 1).toNat < l.length - j.toNat; omega))))
  · have hc : ¬ i < l.length := of_decide_eq_false hc
    rw [List.take_of_length_le (by omega)] at i9
    exact i9
  · have hc : ¬ i < l.length := of_decide_eq_false hc
    rw [List.drop_eq_nil_of_le (by omega)] at i3
    have : out = seaV (back t) [] l := by rw [← i3]; simp [seaV]
    rw [i5, this]

/-! ### The exported functions, whatever the tariff -/

/-- What a function says of a tariff that is wrong, or right. -/
def Both {α : Type} (t : Tariff) (bad : Int → α) (P : α → Prop) (r : α) : Prop := (checkV t ≠ 0 ∧ r = bad (checkV t)) ∨ (TarOK t ∧ P r)
theorem Both.one {α : Type} {t : Tariff} {bad : Int → α} {P : α → Prop} {r s : α} (h : Both t bad P r) (h' : Both t bad P s) (hP : TarOK t → P r → P s → r = s) : r = s := by
  rcases h with ⟨a, rfl⟩ | ⟨a, b⟩ <;> rcases h' with ⟨c, rfl⟩ | ⟨c, d⟩
  · rfl
  · exact absurd c.check a
  · exact absurd a.check c
  · exact hP a b d

theorem bad_bnd {α : Type} {t : Tariff} {x : Option Int} (hx : x = some (checkV t)) {bad : Int → α} {P : α → Prop} {g : Option α} (h : TarOK t → Ok P g) : Ok (Both t bad P) (bnd x fun e => brk (e != 0) (some (bad e)) g) := by
  refine ok_bnde hx (ok_brk (fun hb => ok_some (.inl ⟨by simpa using hb, rfl⟩)) (fun hb => ?_))
  have hb : checkV t = 0 := by simpa using hb
  exact (h (checkV_zero hb)).mono fun r hr => .inr ⟨checkV_zero hb, hr⟩

def DuesP (t : Tariff) (c n : Int) (r : Int × Int) : Prop := ((0 ≤ c ∧ c ≤ 6) ∧ (1 ≤ n ∧ n ≤ 500000) ∧ r = (duesV t c n, 0)) ∨ (¬ ((0 ≤ c ∧ c ≤ 6) ∧ (1 ≤ n ∧ n ≤ 500000)) ∧ r = (0, 1))
theorem DuesP.one {t : Tariff} {c n : Int} {r s : Int × Int} (h : DuesP t c n r) (h' : DuesP t c n s) : r = s := by
  rcases h with ⟨a, b, rfl⟩ | ⟨a, rfl⟩ <;> rcases h' with ⟨c, d, rfl⟩ | ⟨c, rfl⟩
  · rfl
  · exact absurd ⟨a, b⟩ c
  · exact absurd ⟨c, d⟩ a
  · rfl
theorem Dues_ok {F : Nat} (hF : 100 < F) (t : Tariff) (c n : Int) : Ok (Both t (fun e => (0, e)) (DuesP t c n)) (fees_Dues F t c n) := by
  unfold fees_Dues
  refine bad_bnd (Check_eq hF t) fun ht => ?_
  rw [within_eq, within_eq, wb, wb]
  refine ok_bnde rfl ?_
  by_cases h1 : 0 ≤ c ∧ c ≤ 6
  · rw [decide_eq_true h1]
    refine ok_bnde (b := decide (1 ≤ n ∧ n ≤ 500000)) rfl (ok_brk (fun hb => ok_some (.inr ⟨fun q => ?_, rfl⟩)) (fun hb => ?_))
    · rw [Bool.not_true, Bool.false_or] at hb; exact nd_true hb q.2
    · rw [Bool.not_true, Bool.false_or] at hb
      have := nd_false hb
      exact ok_bnde (dues_eq hF ht h1.1 h1.2 (by omega) (by omega)) (ok_some (.inl ⟨h1, this, rfl⟩))
  · rw [decide_eq_false h1]
    exact ok_bnde (b := false) rfl (ok_brkT rfl (ok_some (.inr ⟨fun q => h1 q.1, rfl⟩)))
theorem refDuesE_ok {F : Nat} (hF : 100 < F) (t : Tariff2) (c n : Int) : Ok (Both (back t) (fun e => (0, e)) (DuesP (back t) c n)) (ref12_Dues F t c n) := by
  unfold ref12_Dues
  refine bad_bnd (refCheck_eq hF t) fun ht => ?_
  rw [refIn_eq, refIn_eq, wb, wb]
  refine ok_bnde rfl ?_
  by_cases h1 : 0 ≤ c ∧ c ≤ 6
  · rw [decide_eq_true h1]
    refine ok_bnde (b := decide (1 ≤ n ∧ n ≤ 500000)) rfl (ok_brk (fun hb => ok_some (.inr ⟨fun q => ?_, rfl⟩)) (fun hb => ?_))
    · rw [Bool.not_true, Bool.false_or] at hb; exact nd_true hb q.2
    · rw [Bool.not_true, Bool.false_or] at hb
      have := nd_false hb
      exact ok_bnde (refDues_eq hF ht h1.1 h1.2 (by omega) (by omega)) (ok_some (.inl ⟨h1, this, rfl⟩))
  · rw [decide_eq_false h1]
    exact ok_bnde (b := false) rfl (ok_brkT rfl (ok_some (.inr ⟨fun q => h1 q.1, rfl⟩)))

abbrev zeroA : Account := ⟨⟨0, 0, 0, 0, 0⟩, 0⟩
def BillP (t : Tariff) (v : Voyage) (calls : Int) (r : Account × Int) : Prop := (¬ VoyOK v ∧ r = (zeroA, 1)) ∨ (VoyOK v ∧ ((calls < 0 ∧ r = (zeroA, 6)) ∨ (0 ≤ calls ∧ r = (billV t v calls, 0))))
theorem BillP.one {t : Tariff} {v : Voyage} {c : Int} {r s : Account × Int} (h : BillP t v c r) (h' : BillP t v c s) : r = s := by
  rcases h with ⟨a, rfl⟩ | ⟨a, ⟨b, rfl⟩ | ⟨b, rfl⟩⟩ <;> rcases h' with ⟨c, rfl⟩ | ⟨c, ⟨d, rfl⟩ | ⟨d, rfl⟩⟩ <;> first | rfl | contradiction | omega
theorem Bill_ok {F : Nat} (hF : 100 < F) (t : Tariff) (v : Voyage) (calls : Int) : Ok (Both t (fun e => (zeroA, e)) (BillP t v calls)) (fees_Bill F t v calls) := by
  unfold fees_Bill
  refine bad_bnd (Check_eq hF t) fun ht => ?_
  refine ok_bnd _ (right_ok hF v) fun b hb => ok_brk (fun h => ok_some (.inl ⟨fun q => ?_, rfl⟩)) (fun h => ?_)
  · rw [hb.2 q] at h; cases h
  · have hv := hb.1 (by simpa using h)
    refine ok_brk (fun h => ok_some (.inr ⟨hv, .inl ⟨of_decide_eq_true h, rfl⟩⟩)) (fun h => ok_bnde (bill_eq hF ht hv _) (ok_some (.inr ⟨hv, .inr ⟨?_, rfl⟩⟩)))
    have := of_decide_eq_false h; omega
theorem refBillE_ok {F : Nat} (hF : 100 < F) (t : Tariff2) (v : Voyage) (calls : Int) : Ok (Both (back t) (fun e => (zeroA, e)) (BillP (back t) v calls)) (ref12_Bill F t v calls) := by
  unfold ref12_Bill
  refine bad_bnd (refCheck_eq hF t) fun ht => ?_
  refine ok_bnd _ (refRight_ok v) fun b hb => ok_brk (fun h => ok_some (.inl ⟨fun q => ?_, rfl⟩)) (fun h => ?_)
  · rw [hb.2 q] at h; cases h
  · have hv := hb.1 (by simpa using h)
    refine ok_brk (fun h => ok_some (.inr ⟨hv, .inl ⟨of_decide_eq_true h, rfl⟩⟩)) (fun h => ok_bnde (refBill_eq hF ht hv _) (ok_some (.inr ⟨hv, .inr ⟨?_, rfl⟩⟩)))
    have := of_decide_eq_false h; omega

def LargeP (t : Tariff) (c a : Int) (r : Int × Int) : Prop := (¬ (0 ≤ c ∧ c ≤ 6) ∧ r = (0, 1)) ∨ ((0 ≤ c ∧ c ≤ 6) ∧ ((r = (0, 4) ∧ LargeOK t c a 0) ∨ (r.2 = 0 ∧ 1 ≤ r.1 ∧ LargeOK t c a r.1)))
theorem LargeP.one {t : Tariff} {c a : Int} {r s : Int × Int} (ht : TarOK t) (h : LargeP t c a r) (h' : LargeP t c a s) : r = s := by
  rcases h with ⟨p, rfl⟩ | ⟨p, q⟩ <;> rcases h' with ⟨p', rfl⟩ | ⟨p', q'⟩
  · rfl
  · exact absurd p' p
  · exact absurd p p'
  · rcases q with ⟨rfl, q⟩ | ⟨q1, q2, q3⟩ <;> rcases q' with ⟨rfl, u⟩ | ⟨u1, u2, u3⟩
    · rfl
    · have := LargeOK.one ht p.1 p.2 q u3; omega
    · have := LargeOK.one ht p.1 p.2 u q3; omega
    · exact Prod.ext (LargeOK.one ht p.1 p.2 q3 u3) (q1.trans u1.symm)
theorem LargestE_ok {F : Nat} (hF : 2000000 < F) (t : Tariff) (c a : Int) : Ok (Both t (fun e => (0, e)) (LargeP t c a)) (fees_Largest F t c a) := by
  by_cases ht : TarOK t
  · exact (largest_ok hF ht).mono fun r hr => .inr ⟨ht, hr⟩
  · unfold fees_Largest
    exact bad_bnd (Check_eq (by omega) t) fun h => absurd h ht
theorem refLargestE_ok {F : Nat} (hF : 2000000 < F) (t : Tariff2) (c a : Int) : Ok (Both (back t) (fun e => (0, e)) (LargeP (back t) c a)) (ref12_Largest F t c a) := by
  by_cases ht : TarOK (back t)
  · exact (refLargest_ok hF ht).mono fun r hr => .inr ⟨ht, hr⟩
  · unfold ref12_Largest
    exact bad_bnd (refCheck_eq (by omega) t) fun h => absurd h ht

def SeasonP (t : Tariff) (l : List Voyage) (r : List Account × Int × Int) : Prop := (500 < l.length ∧ r = ([], 0, 2)) ∨ (l.length ≤ 500 ∧ SeaP t l r)
theorem SeasonP.one {t : Tariff} {l : List Voyage} {r s : List Account × Int × Int} (h : SeasonP t l r) (h' : SeasonP t l s) : r = s := by
  rcases h with ⟨a, rfl⟩ | ⟨a, b⟩ <;> rcases h' with ⟨c, rfl⟩ | ⟨c, d⟩
  · rfl
  · omega
  · omega
  · exact b.one d
theorem SeasonE_ok {F : Nat} (hF : 1000 < F) (t : Tariff) (l : List Voyage) : Ok (Both t (fun e => ([], 0, e)) (SeasonP t l)) (fees_Season F t l) := by
  by_cases ht : TarOK t
  · exact (season_ok hF ht l).mono fun r hr => .inr ⟨ht, hr⟩
  · unfold fees_Season
    exact bad_bnd (Check_eq (by omega) t) fun h => absurd h ht
theorem refSeasonE_ok {F : Nat} (hF : 1000 < F) (t : Tariff2) (l : List Voyage) : Ok (Both (back t) (fun e => ([], 0, e)) (SeasonP (back t) l)) (ref12_Season F t l) := by
  by_cases ht : TarOK (back t)
  · exact (refSeason_ok hF ht l).mono fun r hr => .inr ⟨ht, hr⟩
  · unfold ref12_Season
    exact bad_bnd (refCheck_eq (by omega) t) fun h => absurd h ht

/-! ### Lists that are the same -/

theorem ok_skip {α : Type} {post : α → Prop} {F n : Nat} {c : Int → Bool} {hit : Option α} {exit : Option α} (hF : n < F) (hn : n ≤ 1000000) (hc : ∀ i : Int, c i = false) (he : Ok post exit) :
    Ok post (loopC (fun (x : Int) next => brk (decide (x < (n : Int))) (chk (0 ≤ x ∧ x < (n : Int)) (chk (0 ≤ x ∧ x < (n : Int)) (brk (c x) hit (chk (InR (x + 1)) (next (x + 1)))))) exit) F 0) := by
  refine ok_loop (fun x : Int => 0 ≤ x ∧ x ≤ n) (fun x : Int => n - x.toNat) ⟨by simp, by simp⟩ (by simp; omega) ?_
  rintro i next ⟨i1, i2⟩ hnx
  refine ok_brk (fun hb => ?_) (fun _ => he)
  have hb : i < n := of_decide_eq_true hb
  exact ok_chk ⟨i1, hb⟩ (ok_chk ⟨i1, hb⟩ (ok_brkF (hc i) (ok_chk (show InR _ from ⟨by omega, by omega⟩) (hnx _ ⟨by omega, by omega⟩ (by show n - (i + 1).toNat < n - i.toNat; omega)))))

theorem eqBand_eq {F : Nat} {l : List Band} (hF : l.length < F) (hl : l.length ≤ 1000000) : slices_Equal_fees_Band F l l = some true := by
  refine Ok.eq ?_
  unfold slices_Equal_fees_Band
  exact ok_brkF (by simp) (ok_skip hF hl (fun i => by simp) (ok_some rfl))
theorem eqVoyage_eq {F : Nat} {l : List Voyage} (hF : l.length < F) (hl : l.length ≤ 1000000) : slices_Equal_fees_Voyage F l l = some true := by
  refine Ok.eq ?_
  unfold slices_Equal_fees_Voyage
  exact ok_brkF (by simp) (ok_skip hF hl (fun i => by simp) (ok_some rfl))

theorem tariff_eq {F : Nat} {t : Tariff} (hF : 100 < F) (hl : t.Bands.length ≤ 20) : law12_Tariff F t = some (conv t) := by
  refine Ok.eq ?_
  unfold law12_Tariff
  refine ok_loop (fun x : Int × List Band => 0 ≤ x.1 ∧ x.1 ≤ t.Bands.length ∧ x.2 = t.Bands.take x.1.toNat) (fun x => t.Bands.length - x.1.toNat) ⟨by simp, by simp, rfl⟩ (by simp; omega) ?_
  rintro ⟨i, o⟩ next ⟨i1, i2, i3⟩ hn
  simp only at i1 i2 i3
  dsimp only
  refine ok_brk (fun hc => ?_) (fun hc => ok_some ?_)
  · have hc : i < t.Bands.length := of_decide_eq_true hc
    have hi : i.toNat < t.Bands.length := by omega
    refine ok_chk ⟨i1, hc⟩ (ok_chk ?_ (ok_chk (show InR _ from ⟨by omega, by omega⟩) (hn _ ⟨by show 0 ≤ i + 1; omega, by show i + 1 ≤ _; omega, ?_⟩ (by show t.Bands.length - (i + 1).toNat < t.Bands.length - i.toNat; omega))))
    · rw [i3, List.length_take]; simp; omega
    · show o ++ [t.Bands.getD i.toNat b0] = _
      rw [show (i + 1).toNat = i.toNat + 1 by omega, take_succ' (d := b0) hi, i3]
  · have hc : ¬ i < t.Bands.length := of_decide_eq_false hc
    rw [List.take_of_length_le (by omega)] at i3
    rw [i3]; rfl

theorem clone_eq {α : Type} {l : List α} (h : l.length ≤ 1000000) : chk ((0 : Nat) + l.length ≤ (1000000 : Nat)) (some ([] ++ l)) = some l := by
  rw [chk_pos (by omega)]; rfl

theorem feesBills_ok' {F : Nat} (hF : F = 1000000000000000) (t : Tariff) (class_ tonnes amount calls : Int) (v : Voyage) (l : List Voyage) : law12_FeesBills F t class_ tonnes amount calls v l = some true := by
  have haw : law12_awake F = some true := by rw [hF]; exact awake_eq
  refine Ok.eq ?_
  unfold law12_FeesBills
  rw [haw]
  refine ok_brk (fun hb => ok_bnde rfl (ok_some rfl)) (fun hb => ?_)
  simp only [Bool.or_eq_false_iff, Bool.and_eq_false_iff, decide_eq_false_iff_not] at hb
  have hl1 : t.Bands.length ≤ 20 := by omega
  have hl2 : l.length ≤ 520 := by omega
  refine ok_bnde (tariff_eq (t := t) (by omega) hl1) (ok_bnde (show slices_Clone_fees_Band F t.Bands = _ from clone_eq (by omega)) (ok_bnde (show slices_Clone_fees_Voyage F l = _ from clone_eq (by omega)) ?_))
  refine ok_bnde (Check_eq (by omega) t) (ok_bnde (refCheck_eq (by omega) (conv t)) ?_)
  rw [back_conv]
  refine ok_brkF (by simp) ?_
  refine ok_bnd _ (Dues_ok (by omega) t class_ tonnes) fun r1 h1 => ok_bnd _ (refDuesE_ok (by omega) (conv t) class_ tonnes) fun s1 g1 => ?_
  rw [back_conv] at g1
  obtain rfl := h1.one g1 fun _ a b => a.one b
  refine ok_brkF (by simp) ?_
  refine ok_bnd _ (LargestE_ok (by omega) t class_ amount) fun r2 h2 => ok_bnd _ (refLargestE_ok (by omega) (conv t) class_ amount) fun s2 g2 => ?_
  rw [back_conv] at g2
  obtain rfl := h2.one g2 fun ht a b => LargeP.one ht a b
  refine ok_brkF (by simp) ?_
  refine ok_bnd _ (Bill_ok (by omega) t v calls) fun r3 h3 => ok_bnd _ (refBillE_ok (by omega) (conv t) v calls) fun s3 g3 => ?_
  rw [back_conv] at g3
  obtain rfl := h3.one g3 fun _ a b => a.one b
  refine ok_brkF (by simp) ?_
  refine ok_loop (fun x : List Voyage × Int => 0 ≤ x.2 ∧ x.2 ≤ l.length ∧ x.1 = l.take x.2.toNat) (fun x => l.length - x.2.toNat) ⟨by simp, by simp, rfl⟩ (by simp; omega) ?_
  rintro ⟨o, i⟩ next ⟨i1, i2, i3⟩ hn
  simp only at i1 i2 i3
  dsimp only
  refine ok_brk (fun hc => ?_) (fun hc => ?_)
  · have hc : i < l.length := of_decide_eq_true hc
    have hi : i.toNat < l.length := by omega
    refine ok_chk ⟨i1, hc⟩ (ok_chk ?_ (ok_chk (show InR _ from ⟨by omega, by omega⟩) (hn _ ⟨by show 0 ≤ i + 1; omega, by show i + 1 ≤ _; omega, ?_⟩ (by show l.length - (i + 1).toNat < l.length - i.toNat; omega))))
    · rw [i3, List.length_take]; simp; omega
    · show o ++ [l.getD i.toNat v0] = _
      rw [show (i + 1).toNat = i.toNat + 1 by omega, take_succ' (d := v0) hi, i3]
  have hc : ¬ i < l.length := of_decide_eq_false hc
  rw [List.take_of_length_le (by omega)] at i3
  rw [i3]
  refine ok_bnd _ (SeasonE_ok (by omega) t l) fun r4 h4 => ok_bnd _ (refSeasonE_ok (by omega) (conv t) l) fun s4 g4 => ?_
  rw [back_conv] at g4
  have hlen : r4.1.length ≤ 520 := by
    rcases h4 with ⟨_, q⟩ | ⟨_, ⟨_, q⟩ | ⟨_, ⟨_, q⟩ | ⟨_, q⟩⟩⟩ <;> rw [q] <;> simp
    rw [seaV_length]; omega
  obtain rfl := h4.one g4 fun _ a b => a.one b
  refine ok_brkT (by simp) (ok_brkT (by simp) ?_)
  refine ok_join (by omega) (fun b : Bool => b = true) (fun b hb => ok_brkT hb (ok_bnde (eqBand_eq (by omega) (by omega)) (ok_brkT rfl (ok_bnde (eqVoyage_eq (by omega) (by omega)) (ok_brkT rfl (ok_bnde rfl (ok_some rfl))))))) fun k hk => ?_
  refine ok_brkF (by simp) ?_
  refine ok_loop (fun x : Int => 0 ≤ x ∧ x ≤ r4.1.length) (fun x : Int => r4.1.length - x.toNat) ⟨by simp, by simp⟩ (by simp; omega) ?_
  rintro j next ⟨j1, j2⟩ hn
  refine ok_brk (fun hb => ?_) (fun _ => hk true rfl)
  have hb : j < r4.1.length := of_decide_eq_true hb
  refine ok_chk ⟨j1, hb⟩ (ok_chk ⟨j1, hb⟩ (ok_bnde (b := true) (by unfold law12_FeesBills_1; simp) (ok_brkF rfl (ok_chk (show InR _ from ⟨by omega, by omega⟩) (hn _ ⟨by omega, by omega⟩ (by show r4.1.length - (j + 1).toNat < r4.1.length - j.toNat; omega))))))
theorem feesBills_ok {t : Tariff} {c n a k : Int} {v : Voyage} {l : List Voyage} {P0 P1 P2 P3 P4 P5 P6 : Prop} (_ : P0) (_ : P1) (_ : P2) (_ : P3) (_ : P4) (_ : P5) (_ : P6) : law12_FeesBills 1000000000000000 t c n a k v l = some true := feesBills_ok' rfl t c n a k v l
end Go.Proofs.Fe

namespace Go.Proofs.Fe
open Go Go.KX

theorem cls7 {a b c d e f g : Int} (ha : 0 ≤ a ∧ a ≤ 300) (hb : 0 ≤ b ∧ b ≤ a) (hc : 0 ≤ c ∧ c ≤ b) (hd : 0 ≤ d ∧ d ≤ c) (he : 0 ≤ e ∧ e ≤ d) (hf : 0 ≤ f ∧ f ≤ e) (hg : 0 ≤ g ∧ g ≤ f) : ClassOK 300 [a, b, c, d, e, f, g] :=
  ⟨ha, hb, hc, hd, he, hf, hg, trivial⟩

theorem min60 {n : Int} (h : 0 ≤ n) : 0 < (if 60 < n then 60 else n) + 1 ∧ (if 60 < n then 60 else n) + 1 ≤ 61 ∧ (if 60 < n then 60 else n) ≤ n := by split <;> omega

set_option maxRecDepth 100000 in
theorem made_ok {F : Nat} (hF : 100 < F) {l : List Int} (hl : Bytes l) : Ok TarOK (law12_Made F l) := by
  unfold law12_Made
  have F0 : 0 < F := by omega
  refine ok_next0 F0 hl (by omega) fun x1 p1 a1 a2 a3 a4 a5 => ?_
  dsimp only
  refine ok_chk (show InR _ from ⟨by omega, by omega⟩) (ok_next F0 hl a4 a5 (by omega) fun x2 p2 b1 b2 b3 b4 b5 => ?_)
  dsimp only
  refine ok_chk (show InR _ from ⟨by omega, by omega⟩) (ok_next F0 hl b4 b5 (by omega) fun x3 p3 c1 c2 c3 c4 c5 => ?_)
  dsimp only
  refine ok_next F0 hl c4 c5 (by omega) fun x4 p4 d1 d2 d3 d4 d5 => ?_
  dsimp only
  refine ok_chk (show InR _ from ⟨by omega, by omega⟩) (ok_next F0 hl d4 d5 (by omega) fun x5 p5 e1 e2 e3 e4 e5 => ?_)
  dsimp only
  refine ok_chk (show InR _ from ⟨by omega, by omega⟩) (ok_next F0 hl e4 e5 (by omega) fun x6 p6 f1 f2 f3 f4 f5 => ?_)
  dsimp only
  refine ok_chk (show InR _ from ⟨by omega, by omega⟩) (ok_next F0 hl f4 f5 (by omega) fun x7 p7 g1 g2 g3 g4 g5 => ?_)
  dsimp only
  refine ok_chk (show InR _ from ⟨by omega, by omega⟩) (ok_chk (show InR _ from ⟨by omega, by omega⟩) (ok_next F0 hl g4 g5 (by decide) fun y1 q1 h1 h2 h3 h4 h5 => ?_))
  have h2 : y1 < 61 := h2
  dsimp only
  have m1 := min60 (n := 300 - y1) (by omega)
  refine ok_chk (show InR _ from ⟨by omega, by omega⟩) (ok_chk (show InR _ from ⟨by omega, by omega⟩) (ok_nextS F0 hl h4 h5 m1.1 fun y2 q2 i1 i2 i3 i4 i5 => ?_))
  dsimp only
  have m2 := min60 (n := 300 - y1 - y2) (by omega)
  refine ok_chk (show InR _ from ⟨by omega, by omega⟩) (ok_chk (show InR _ from ⟨by omega, by omega⟩) (ok_nextS F0 hl i4 i5 m2.1 fun y3 q3 j1 j2 j3 j4 j5 => ?_))
  dsimp only
  have m3 := min60 (n := 300 - y1 - y2 - y3) (by omega)
  refine ok_chk (show InR _ from ⟨by omega, by omega⟩) (ok_chk (show InR _ from ⟨by omega, by omega⟩) (ok_nextS F0 hl j4 j5 m3.1 fun y4 q4 k1 k2 k3 k4 k5 => ?_))
  dsimp only
  have m4 := min60 (n := 300 - y1 - y2 - y3 - y4) (by omega)
  refine ok_chk (show InR _ from ⟨by omega, by omega⟩) (ok_chk (show InR _ from ⟨by omega, by omega⟩) (ok_nextS F0 hl k4 k5 m4.1 fun y5 q5 l1 l2 l3 l4 l5 => ?_))
  dsimp only
  have m5 := min60 (n := 300 - y1 - y2 - y3 - y4 - y5) (by omega)
  refine ok_chk (show InR _ from ⟨by omega, by omega⟩) (ok_chk (show InR _ from ⟨by omega, by omega⟩) (ok_nextS F0 hl l4 l5 m5.1 fun y6 q6 n1 n2 n3 n4 n5 => ?_))
  dsimp only
  have m6 := min60 (n := 300 - y1 - y2 - y3 - y4 - y5 - y6) (by omega)
  refine ok_chk (show InR _ from ⟨by omega, by omega⟩) (ok_chk (show InR _ from ⟨by omega, by omega⟩) (ok_nextS F0 hl n4 n5 m6.1 fun y7 q7 o1 o2 o3 o4 o5 => ?_))
  dsimp only
  refine ok_chk (show InR _ from ⟨by omega, by omega⟩) (ok_next F0 hl o4 o5 (by omega) fun z q8 r1 r2 r3 r4 r5 => ?_)
  dsimp only
  refine ok_loop (fun x : Int × Int × List Band × Int => 0 ≤ x.1 ∧ x.1 ≤ z ∧ x.2.1 = endB 0 x.2.2.1 ∧ 0 ≤ x.2.1 ∧ x.2.1 ≤ 25501 * x.1 ∧ BandsOK 0 x.2.2.1 ∧ (x.2.2.1.length : Int) = x.1 ∧ 0 ≤ x.2.2.2 ∧ x.2.2.2 ≤ l.length) (fun x => (z - x.1).toNat)
    ⟨by simp, by omega, rfl, by simp, by simp, trivial, rfl, r4, r5⟩ (by show (z - 0).toNat < F; omega) ?_
  rintro ⟨i, u, bs, p⟩ next ⟨s1, s2, s3, s4, s5, s6, s7, s8, s9⟩ hn
  simp only at s1 s2 s3 s4 s5 s6 s7 s8 s9
  dsimp only
  refine ok_brk (fun hc => ?_) (fun hc => ?_)
  · have hc : i < z := of_decide_eq_true hc
    refine ok_next F0 hl s8 s9 (by omega) fun w1 t1 u1 u2 u3 u4 u5 => ?_
    dsimp only
    refine ok_chk (show InR _ from ⟨by omega, by omega⟩) (ok_chk (show InR _ from ⟨by omega, by omega⟩) (ok_chk (show InR _ from ⟨by omega, by omega⟩) (ok_next F0 hl u4 u5 (by omega) fun w2 t2 v1 v2 v3 v4 v5 => ?_)))
    dsimp only
    refine ok_chk (show InR _ from ⟨by omega, by omega⟩) (ok_chk (by simp; omega) (ok_chk (show InR _ from ⟨by omega, by omega⟩) (hn _ ⟨by show 0 ≤ i + 1; omega, by show i + 1 ≤ z; omega, ?_, by show 0 ≤ u + _; omega, by show u + _ ≤ 25501 * (i + 1); omega, ?_, by simp; omega, v4, v5⟩ (by show (z - (i + 1)).toNat < (z - i).toNat; omega))))
    · show u + (1 + 100 * w1) = endB 0 (bs ++ [_])
      rw [endB_snoc]
    · refine s6.join ⟨?_, ?_, trivial⟩
      · show endB 0 bs + 1 ≤ u + (1 + 100 * w1) ∧ u + (1 + 100 * w1) ≤ 500000
        rw [← s3]; omega
      · show 0 ≤ 4 * w2 ∧ 4 * w2 ≤ 1000
        omega
  · have hc : ¬ i < z := of_decide_eq_false hc
    refine ok_next F0 hl s8 s9 (by omega) fun w1 t1 u1 u2 u3 u4 u5 => ?_
    dsimp only
    refine ok_chk (by simp; omega) (ok_some ⟨?_, ?_, ?_, ?_, ?_⟩)
    · show 1 ≤ (bs ++ [_]).length ∧ (bs ++ [_]).length ≤ 8
      simp; omega
    · refine s6.join ⟨?_, ?_, trivial⟩
      · show endB 0 bs + 1 ≤ 500000 ∧ (500000 : Int) ≤ 500000
        rw [← s3]; omega
      · show 0 ≤ w1 ∧ w1 ≤ 1000
        omega
    · show endB 0 (bs ++ [_]) = 500000
      rw [endB_snoc]
    · show ClassOK 300 [300 - y1, 300 - y1 - y2, 300 - y1 - y2 - y3, 300 - y1 - y2 - y3 - y4, 300 - y1 - y2 - y3 - y4 - y5, 300 - y1 - y2 - y3 - y4 - y5 - y6, 300 - y1 - y2 - y3 - y4 - y5 - y6 - y7]
      exact cls7 (by omega) (by omega) (by omega) (by omega) (by omega) (by omega) (by omega)
    · exact ⟨⟨by show 0 ≤ 100 * x1 + 5000 * x7; omega, by show 100 * x1 + 5000 * x7 ≤ _; omega⟩, ⟨by show 0 ≤ 100 * x1; omega, by show 100 * x1 ≤ 100 * x1 + 5000 * x7; omega⟩, ⟨by show 1 ≤ 1 + x2; omega, by show 1 + x2 ≤ 1000; omega⟩, ⟨c1, by show x3 ≤ 100000; omega⟩, ⟨by show 0 ≤ 100 * x4; omega, by show 100 * x4 ≤ _; omega⟩, ⟨by show 0 ≤ 100 * x5; omega, by show 100 * x5 ≤ _; omega⟩, ⟨by show 0 ≤ 100 * x6; omega, by show 100 * x6 ≤ _; omega⟩⟩

/-! ### More is not cheaper -/

structure Less (v w : Voyage) : Prop where
  cls : v.Class = w.Class
  tonnes : v.Tonnes ≤ w.Tonnes
  tenths : v.Tenths ≤ w.Tenths
  escort : v.Escort ≤ w.Escort
  cut : v.Cut ≤ w.Cut
  tow : v.Tow ≤ w.Tow

structure LinesLe (a b : A5ofInt) : Prop where
  a0 : 0 ≤ a.a0 ∧ a.a0 ≤ b.a0
  a1 : 0 ≤ a.a1 ∧ a.a1 ≤ b.a1
  a2 : 0 ≤ a.a2 ∧ a.a2 ≤ b.a2
  a3 : 0 ≤ a.a3 ∧ a.a3 ≤ b.a3
  a4 : 0 ≤ a.a4 ∧ a.a4 ≤ b.a4

theorem lines_mono {t : Tariff} (ht : TarOK t) {v w : Voyage} (hv : VoyOK v) (hw : VoyOK w) (h : Less v w) (calls : Int) : LinesLe (linesV t v calls) (linesV t w calls) := by
  have b := billB ht hv
  have c := billB ht hw
  refine ⟨⟨?_, ?_⟩, ⟨?_, ?_⟩, ⟨b.e.1, ?_⟩, ⟨b.c.1, ?_⟩, ⟨b.w.1, ?_⟩⟩
  · show 0 ≤ if calls < t.Paid then duesV t v.Class v.Tonnes else 0
    have := b.d
    split <;> omega
  · show (if calls < t.Paid then duesV t v.Class v.Tonnes else 0) ≤ if calls < t.Paid then duesV t w.Class w.Tonnes else 0
    have := dues_mono ht hv.cls.1 hv.cls.2 h.tonnes
    rw [← h.cls]
    split <;> omega
  · show 0 ≤ milesV t v
    have := b.mg
    unfold milesV; omega
  · show milesV t v ≤ milesV t w
    have h1 : t.Mile * v.Tenths ≤ t.Mile * w.Tenths := Int.mul_le_mul_of_nonneg_left h.tenths ht.nums.mile.1
    have hv3 := hv.tonnes
    have h5 := h.tonnes
    have h2 : 0 ≤ (v.Tonnes + 999) / 1000 ∧ (v.Tonnes + 999) / 1000 ≤ (w.Tonnes + 999) / 1000 := by omega
    have h3 : t.Mile * v.Tenths * ((v.Tonnes + 999) / 1000) ≤ t.Mile * w.Tenths * ((w.Tonnes + 999) / 1000) := Int.mul_le_mul h1 h2.2 h2.1 c.mt.1
    unfold milesV; omega
  · exact Int.mul_le_mul_of_nonneg_left h.escort ht.nums.escort.1
  · exact Int.mul_le_mul_of_nonneg_left h.cut ht.nums.cut.1
  · exact Int.mul_le_mul_of_nonneg_left h.tow ht.nums.tow.1

theorem Dues_is {F : Nat} (hF : 100 < F) {t : Tariff} (ht : TarOK t) {c n : Int} (hc : 0 ≤ c ∧ c ≤ 6) (hn : 1 ≤ n ∧ n ≤ 500000) : fees_Dues F t c n = some (duesV t c n, 0) := by
  refine Ok.eq ((Dues_ok hF t c n).mono fun r h => ?_)
  rcases h with ⟨q, _⟩ | ⟨_, ⟨_, _, q⟩ | ⟨q, _⟩⟩
  · exact absurd ht.check q
  · exact q
  · exact absurd ⟨hc, hn⟩ q
theorem Bill_is {F : Nat} (hF : 100 < F) {t : Tariff} (ht : TarOK t) {v : Voyage} (hv : VoyOK v) {c : Int} (hc : 0 ≤ c) : fees_Bill F t v c = some (billV t v c, 0) := by
  refine Ok.eq ((Bill_ok hF t v c).mono fun r h => ?_)
  rcases h with ⟨q, _⟩ | ⟨_, ⟨q, _⟩ | ⟨_, ⟨q, _⟩ | ⟨_, q⟩⟩⟩
  · exact absurd ht.check q
  · exact absurd hv q
  · omega
  · exact q

theorem large_iff {t : Tariff} (ht : TarOK t) {c a k n : Int} (hc : 0 ≤ c ∧ c ≤ 6) (h : LargeOK t c a k) (hn : 1 ≤ n ∧ n ≤ 500000) : duesV t c n ≤ a ↔ n ≤ k := by
  constructor
  · intro h1
    rcases Int.lt_or_le k n with q | q
    · rcases h.next with p | p
      · omega
      · have := dues_mono ht hc.1 hc.2 (n := k + 1) (m := n) (by omega)
        omega
    · exact q
  · intro h1
    rcases h.at_ with p | p
    · omega
    · have := dues_mono ht hc.1 hc.2 h1
      omega

structure DuesB (a1 a2 a3 a4 a5 : Int) : Prop where
  a : 0 ≤ a1 ∧ a1 ≤ 65535
  b : 0 ≤ a2 ∧ a2 ≤ 65535
  c : 0 ≤ a3 ∧ a3 ≤ 255
  d : 0 ≤ a4 ∧ a4 ≤ 255
  e : 0 ≤ a5 ∧ a5 ≤ 4294967295

set_option maxRecDepth 100000 in
theorem feesDues_ok' {F : Nat} (hF : F = 1000000000000000) (l : List Int) (a1 a2 a3 a4 a5 : Int) (h : List Int) (hl : Bytes l) (hb : DuesB a1 a2 a3 a4 a5) (hh : Bytes h) : law12_FeesDues F l a1 a2 a3 a4 a5 h = some true := by
  have haw : law12_awake F = some true := by rw [hF]; exact awake_eq
  obtain ⟨⟨a11, a12⟩, ⟨a21, a22⟩, ⟨a31, a32⟩, ⟨a41, a42⟩, ⟨a51, a52⟩⟩ := hb
  have F0 : 0 < F := by omega
  refine Ok.eq ?_
  unfold law12_FeesDues
  rw [haw]
  refine ok_bnd _ (made_ok (by omega) hl) fun t ht => ?_
  have hs : 0 ≤ (if a2 < a1 then a2 else a1) ∧ (if a2 < a1 then a2 else a1) ≤ 65535 ∧ (if a2 < a1 then a2 else a1) ≤ (if a2 > a1 then a2 else a1) ∧ (if a2 > a1 then a2 else a1) ≤ 65535 := by
    refine ⟨?_, ?_, ?_, ?_⟩ <;> (repeat' split) <;> omega
  generalize (if a2 < a1 then a2 else a1) = s at hs
  generalize (if a2 > a1 then a2 else a1) = g at hs
  refine ok_chk (show InR _ from ⟨by omega, by omega⟩) (ok_chk (show InR _ from ⟨by omega, by omega⟩) (ok_chk (show InR _ from ⟨by omega, by omega⟩) (ok_chk (show InR _ from ⟨by omega, by omega⟩) (ok_chk (show InR _ from ⟨by omega, by omega⟩) (ok_chk (show InR _ from ⟨by omega, by omega⟩) (ok_chk (show InR _ from ⟨by omega, by omega⟩) (ok_chk ⟨by omega, by omega⟩ (ok_chk (show InR _ from ⟨by omega, by omega⟩) (ok_chk ⟨by omega, by omega⟩ (ok_chk (show InR _ from ⟨by omega, by omega⟩) ?_))))))))))
  have hlow : 0 ≤ a3 % 7 ∧ a3 % 7 ≤ 6 := by omega
  have hhigh : a3 % 7 ≤ (if a3 % 7 + a4 % 3 < 6 then a3 % 7 + a4 % 3 else 6) ∧ (if a3 % 7 + a4 % 3 < 6 then a3 % 7 + a4 % 3 else 6) ≤ 6 := by split <;> omega
  generalize (if a3 % 7 + a4 % 3 < 6 then a3 % 7 + a4 % 3 else 6) = hi at hhigh
  generalize a3 % 7 = lo at hlow hhigh
  refine ok_bnde (Dues_is (by omega) (t := t) ht hlow (by omega)) (ok_bnde (Dues_is (by omega) (t := t) ht hlow (by omega)) (ok_bnde (Dues_is (by omega) (t := t) ht ⟨by omega, hhigh.2⟩ (by omega)) ?_))
  have hm : duesV t lo (1 + s * 7) ≤ duesV t lo (1 + g * 7) := dues_mono ht hlow.1 hlow.2 (by omega)
  have hz : duesV t hi (1 + s * 7) ≤ duesV t lo (1 + s * 7) := dues_class ht hhigh.2 hhigh.1
  have hbx : t.Least ≤ duesV t lo (1 + s * 7) ∧ duesV t lo (1 + s * 7) ≤ t.Most := clamp_bound ht.nums.least.2
  have hby : t.Least ≤ duesV t lo (1 + g * 7) ∧ duesV t lo (1 + g * 7) ≤ t.Most := clamp_bound ht.nums.least.2
  refine ok_brkF ?_ (ok_chk (show InR _ from ⟨by omega, by omega⟩) (ok_chk ⟨by omega, by omega⟩ ?_))
  · simp only [Bool.or_eq_false_iff, decide_eq_false_iff_not, bne_eq_false_iff_eq, gt_iff_lt]
    exact ⟨⟨⟨⟨⟨⟨trivial, trivial⟩, trivial⟩, by omega⟩, by omega⟩, by omega⟩, by omega⟩
  generalize a5 % 3000000 = am
  refine ok_bnd _ (LargestE_ok (by omega) t lo am) fun r hr => ?_
  have hr : ∃ k, LargeOK t lo am k ∧ ((k = 0 ∧ r.2 = 4) ∨ (1 ≤ k ∧ r.2 = 0 ∧ r.1 = k)) := by
    rcases hr with ⟨q, _⟩ | ⟨_, ⟨q, _⟩ | ⟨_, ⟨q, p⟩ | ⟨q1, q2, q3⟩⟩⟩
    · exact absurd ht.check q
    · exact absurd hlow q
    · exact ⟨0, p, .inl ⟨rfl, by rw [q]⟩⟩
    · exact ⟨r.1, q3, .inr ⟨q2, q1, rfl⟩⟩
  obtain ⟨r1, r2⟩ := r
  obtain ⟨k, hk, hr⟩ := hr
  simp only at hr
  dsimp only
  have hkb := hk.b
  have i1 := large_iff ht hlow hk (n := 1 + s * 7) (by omega)
  have i2 := large_iff ht hlow hk (n := 1 + g * 7) (by omega)
  have hd : ∀ n : Int, 1 ≤ n → (duesV t lo n ≤ am ↔ n ≤ k) → (decide (duesV t lo n ≤ am) == (r2 == 0 && decide (n ≤ r1))) = true := fun n hn hi => by
    rcases hr with ⟨rfl, rfl⟩ | ⟨q1, rfl, rfl⟩
    · rw [decide_eq_false (show ¬ duesV t lo n ≤ am from fun q => by have := hi.1 q; omega)]; rfl
    · by_cases q : n ≤ r1
      · rw [decide_eq_true (hi.2 q), decide_eq_true q]; rfl
      · rw [decide_eq_false (fun p => q (hi.1 p)), decide_eq_false q]; rfl
  refine ok_brkF ?_ ?_
  · rw [hd _ (by omega) i1, hd _ (by omega) i2]
    rcases hr with ⟨_, rfl⟩ | ⟨_, rfl, _⟩ <;> rfl
  refine ok_join F0 (fun _ => True) (fun _ _ => ?_) fun kk hkk => ?_
  · refine ok_next0 F0 hh (by omega) fun x1 p1 b1 b2 b3 b4 b5 => ?_
    dsimp only
    refine ok_chk (show InR _ from ⟨by omega, by omega⟩) (ok_next F0 hh b4 b5 (by omega) fun x2 p2 c1 c2 c3 c4 c5 => ?_)
    dsimp only
    refine ok_next F0 hh c4 c5 (by omega) fun x3 p3 d1 d2 d3 d4 d5 => ?_
    dsimp only
    refine ok_next F0 hh d4 d5 (by omega) fun x4 p4 e1 e2 e3 e4 e5 => ?_
    dsimp only
    refine ok_next F0 hh e4 e5 (by omega) fun x5 p5 f1 f2 f3 f4 f5 => ?_
    dsimp only
    refine ok_chk (show InR _ from ⟨by omega, by omega⟩) (ok_next F0 hh f4 f5 (by omega) fun x6 p6 g1 g2 g3 g4 g5 => ?_)
    dsimp only
    refine ok_chk (show InR _ from ⟨by omega, by omega⟩) (ok_next F0 hh g4 g5 (by omega) fun x7 p7 h1 h2 h3 h4 h5 => ?_)
    dsimp only
    refine ok_chk (show InR _ from ⟨by omega, by omega⟩) (ok_next F0 hh h4 h5 (by omega) fun x8 p8 j1 j2 j3 j4 j5 => ?_)
    dsimp only
    refine ok_chk (show InR _ from ⟨by omega, by omega⟩) (ok_next F0 hh j4 j5 (by omega) fun x9 p9 k1 k2 k3 k4 k5 => ?_)
    dsimp only
    have hv : VoyOK ⟨3, lo, 1 + s * 7, 10 * x1, x2, x3, x4⟩ := ⟨by simp, hlow, by show 1 ≤ 1 + s * 7 ∧ 1 + s * 7 ≤ 500000; omega, by show 0 ≤ 10 * x1 ∧ 10 * x1 ≤ 100000; omega, by show 0 ≤ x2 ∧ x2 ≤ 1000; omega, by show 0 ≤ x3 ∧ x3 ≤ 1000; omega, by show 0 ≤ x4 ∧ x4 ≤ 1000; omega⟩
    have hw : VoyOK ⟨3, lo, 1 + g * 7, 10 * x1 + x5, x2 + x6, x3 + x7, x4 + x8⟩ := ⟨by simp, hlow, by show 1 ≤ 1 + g * 7 ∧ 1 + g * 7 ≤ 500000; omega, by show 0 ≤ 10 * x1 + x5 ∧ 10 * x1 + x5 ≤ 100000; omega, by show 0 ≤ x2 + x6 ∧ x2 + x6 ≤ 1000; omega, by show 0 ≤ x3 + x7 ∧ x3 + x7 ≤ 1000; omega, by show 0 ≤ x4 + x8 ∧ x4 + x8 ≤ 1000; omega⟩
    refine ok_bnde (Bill_is (by omega) (t := t) ht hv k1) (ok_bnde (Bill_is (by omega) (t := t) ht hw k1) ?_)
    have hle := lines_mono ht hv hw ⟨rfl, by show 1 + s * 7 ≤ 1 + g * 7; omega, by show 10 * x1 ≤ 10 * x1 + x5; omega, by show x2 ≤ x2 + x6; omega, by show x3 ≤ x3 + x7; omega, by show x4 ≤ x4 + x8; omega⟩ x9
    have hB := billB ht hv
    have hx0 : (linesV t ⟨3, lo, 1 + s * 7, 10 * x1, x2, x3, x4⟩ x9).a0 = if x9 < t.Paid then duesV t lo (1 + s * 7) else 0 := rfl
    have hub : (billV t ⟨3, lo, 1 + s * 7, 10 * x1, x2, x3, x4⟩ x9).Sum ≤ 600000000000 := (billV_bound ht hv x9).2
    have es : ∀ v : Voyage, (billV t v x9).Sum = sumA (linesV t v x9) := fun _ => rfl
    have el : ∀ v : Voyage, (billV t v x9).Lines = linesV t v x9 := fun _ => rfl
    simp only [es, el] at hub ⊢
    generalize linesV t ⟨3, lo, 1 + s * 7, 10 * x1, x2, x3, x4⟩ x9 = C at hle hx0 hub ⊢
    generalize linesV t ⟨3, lo, 1 + g * 7, 10 * x1 + x5, x2 + x6, x3 + x7, x4 + x8⟩ x9 = D at hle ⊢
    obtain ⟨⟨z0, w0⟩, ⟨z1, w1⟩, ⟨z2, w2⟩, ⟨z3, w3⟩, ⟨z4, w4⟩⟩ := hle
    have hb0 := hB.d
    have hb0 : 0 ≤ duesV t lo (1 + s * 7) := hb0.1
    have hcd : ¬ sumA C > sumA D := by simp only [sumA]; omega
    have hub2 : C.a0 + C.a1 + C.a2 + C.a3 + C.a4 ≤ 600000000000 := by simp only [sumA] at hub; omega
    refine ok_brkF ?_ ?_
    · rw [decide_eq_false hcd]
      simp only [Bool.or_eq_false_iff, Bool.and_eq_false_iff, decide_eq_false_iff_not, bne_eq_false_iff_eq]
      by_cases hq : x9 < t.Paid
      · rw [if_pos hq] at hx0
        exact ⟨⟨⟨⟨trivial, trivial⟩, trivial⟩, .inr ⟨by omega, hx0⟩⟩, .inr hx0⟩
      · rw [if_neg hq] at hx0
        exact ⟨⟨⟨⟨trivial, trivial⟩, trivial⟩, .inl hx0⟩, .inl hq⟩
    refine ok_brkF (by simp only [Bool.or_eq_false_iff, decide_eq_false_iff_not]; omega) (ok_chk (show InR _ from ⟨by omega, by omega⟩) ?_)
    refine ok_brkF (by simp only [Bool.or_eq_false_iff, decide_eq_false_iff_not]; omega) (ok_chk (show InR _ from ⟨by omega, by omega⟩) ?_)
    refine ok_brkF (by simp only [Bool.or_eq_false_iff, decide_eq_false_iff_not]; omega) (ok_chk (show InR _ from ⟨by omega, by omega⟩) ?_)
    refine ok_brkF (by simp only [Bool.or_eq_false_iff, decide_eq_false_iff_not]; omega) (ok_chk (show InR _ from ⟨by omega, by omega⟩) ?_)
    refine ok_brkF (by simp only [Bool.or_eq_false_iff, decide_eq_false_iff_not]; omega) (ok_chk (show InR _ from ⟨by omega, by omega⟩) ?_)
    have hfin : (0 + C.a0 + C.a1 + C.a2 + C.a3 + C.a4 == sumA C) = true := beq_self_eq_true _
    rw [hfin]
    exact ok_bnde rfl (ok_some rfl)
  · refine ok_brk (fun hq => ?_) (fun _ => hkk () trivial)
    have hq : r2 = 0 := by simpa using hq
    rcases hr with ⟨_, q⟩ | ⟨q1, _, rfl⟩
    · omega
    refine ok_bnde (Dues_is (by omega) (t := t) ht hlow (by omega)) (ok_chk (show InR _ from ⟨by omega, by omega⟩) ?_)
    have hmin : 1 ≤ (if 500000 < r1 + 1 then 500000 else r1 + 1) ∧ (if 500000 < r1 + 1 then 500000 else r1 + 1) ≤ 500000 := by split <;> omega
    refine ok_bnde (Dues_is (by omega) (t := t) ht hlow hmin) (ok_brkF ?_ (hkk () trivial))
    have i3 := large_iff ht hlow hk (n := r1) (by omega)
    have i4 := large_iff ht hlow hk hmin
    have h3 := i3.2 (Int.le_refl _)
    simp only [Bool.or_eq_false_iff, Bool.and_eq_false_iff, decide_eq_false_iff_not, bne_eq_false_iff_eq]
    refine ⟨⟨⟨trivial, trivial⟩, by omega⟩, ?_⟩
    by_cases q : r1 < 500000
    · right
      intro p
      have := i4.1 p
      rw [if_neg (by omega)] at this
      omega
    · exact .inl q
theorem feesDues_ok {l : List Int} {a1 a2 a3 a4 a5 : Int} {h : List Int} (h0 : (∀ y ∈ l, 0 ≤ y ∧ y ≤ 255) ∧ l.length ≤ 9223372036854775807) (h1 : 0 ≤ a1 ∧ a1 ≤ 65535) (h2 : 0 ≤ a2 ∧ a2 ≤ 65535) (h3 : 0 ≤ a3 ∧ a3 ≤ 255) (h4 : 0 ≤ a4 ∧ a4 ≤ 255) (h5 : 0 ≤ a5 ∧ a5 ≤ 4294967295) (h6 : (∀ y ∈ h, 0 ≤ y ∧ y ≤ 255) ∧ h.length ≤ 9223372036854775807) : law12_FeesDues 1000000000000000 l a1 a2 a3 a4 a5 h = some true :=
  feesDues_ok' rfl l a1 a2 a3 a4 a5 h ⟨h0.1, h0.2⟩ ⟨h1, h2, h3, h4, h5⟩ ⟨h6.1, h6.2⟩
end Go.Proofs.Fe

namespace Go.KX
open Go Go.ChangeShapes Go.WideShapes Go.RowKit

/-- Types whose reading asks only for cells: numbers, Booleans, and structs, arrays and slices of such. -/
def goodT (P : Program) : Nat → TypeId → Bool
  | 0, _ => false
  | n + 1, t => match P.underlying t with
    | some (.int _) => true
    | some .bool => true
    | some (.struct fs) => fs.toList.all fun f => goodT P n f.type
    | some (.array _ e) => goodT P n e
    | some (.slice e) => goodT P n e && Nat.ble 1 (P.cellsOf e)
    | _ => false

theorem mapM_carry' {α β : Type} {f g : α → Option β} : ∀ {l : List α} {r : List β}, l.mapM f = some r → (∀ x y, x ∈ l → y ∈ r → f x = some y → g x = some y) → l.mapM g = some r := mapM_carry

section
variable {H : Type} {enc : TypeId × Value → H} {P : Program} {w : World} {base : Nat} {held : Bool}

theorem trod_spare {sp : Nat → Bool} : ∀ (m n : Nat) (t : TypeId) (cs : List Value) (x : DataW H × List MemPlace), goodT P m t = true →
    DataW.trod enc P w base (fun _ => true) held n t cs = some x → (∀ p ∈ x.2, sp p.block = true) → DataW.trod enc P w base sp held n t cs = some x := by
  intro m
  induction m with
  | zero => intro n t cs x h; cases h
  | succ m ih =>
    intro n t cs x hg h hs
    cases n with
    | zero => simp [DataW.trod] at h
    | succ n =>
      rw [DataW.trod_step] at h ⊢
      unfold goodT at hg
      unfold DataW.trodStep at h ⊢
      split at h
      case h_1 => exact h
      case h_2 => exact h
      case h_8 e a len cap hu =>
        rw [hu] at hg
        simp only [Bool.and_eq_true] at hg
        simp only at h ⊢
        split at h
        · rename_i hc
          rw [if_pos hc]
          simp only [if_true, Option.map_eq_some_iff, Option.bind_eq_some_iff] at h ⊢
          obtain ⟨elems, he, rest, hr, rfl⟩ := h
          have hlen : elems.length = len := by simpa using mapM_some_length he
          have hrlen : rest.length = cap - len := by simpa using mapM_some_length hr
          have hk : 1 ≤ P.cellsOf e := Nat.le_of_ble_eq_true hg.2
          have one : ∀ i y, (w.cells? base (a.add (i * P.cellsOf e)) (P.cellsOf e)).bind (DataW.trod enc P w base (fun _ => true) held n e) = some y → (∀ p ∈ y.2, sp p.block = true) →
              (w.cells? base (a.add (i * P.cellsOf e)) (P.cellsOf e)).bind (DataW.trod enc P w base sp held n e) = some y := by
            intro i y hy hp
            rw [Option.bind_eq_some_iff] at hy ⊢
            obtain ⟨cs', h1, h2⟩ := hy
            exact ⟨cs', h1, ih n e cs' y hg.1 h2 hp⟩
          have hpl : ∀ y, y ∈ elems ++ rest → ∀ p ∈ y.2, sp p.block = true := fun y hy p hp => hs p (by
            simp only [List.mem_append]
            exact .inr (List.mem_flatMap.2 ⟨y, hy, hp⟩))
          refine ⟨elems, mapM_carry' he fun i y hi hy hiy => one i y hiy (hpl y (by simp [hy])), rest, ?_, rfl⟩
          by_cases hcap : cap = 0
          · have : rest = [] := List.length_eq_zero_iff.1 (by omega)
            subst this
            split
            · rw [show cap - len = 0 by omega]; rfl
            · rfl
          · have : sp a.block = true := by
              have := hs (.cell a.block (a.off + 0)) (by
                simp only [List.mem_append]
                refine .inl (MemPlace.mem_row.2 ⟨0, ?_, rfl⟩)
                rw [hlen, hrlen, show len + (cap - len) = cap by omega]
                exact Nat.mul_pos (by omega) hk)
              exact this
            rw [if_pos this]
            exact mapM_carry' hr fun j y hj hy hjy => one _ y hjy (hpl y (by simp [hy]))
        · cases h
      case h_7 => exact h
      case h_9 fs cs' hu =>
        rw [hu] at hg
        simp only at hg
        split at h
        · rename_i hl
          rw [if_pos hl]
          simp only [Option.map_eq_some_iff] at h ⊢
          obtain ⟨xs, hx, rfl⟩ := h
          refine ⟨xs, mapM_carry' hx fun f y hf hy hfy => ih n f.type _ y (List.all_eq_true.1 hg f hf) hfy fun p hp => hs p ?_, rfl⟩
          exact List.mem_flatMap.2 ⟨y, hy, hp⟩
        · cases h
      case h_10 =>
        rename_i e hu
        rw [hu] at hg
        simp only at hg
        split at h
        · rename_i hl
          rw [if_pos hl]
          simp only [Option.map_eq_some_iff] at h ⊢
          obtain ⟨xs, hx, rfl⟩ := h
          refine ⟨xs, mapM_carry' hx fun f y hf hy hfy => ih n e _ y hg hfy fun p hp => hs p ?_, rfl⟩
          exact List.mem_flatMap.2 ⟨y, hy, hp⟩
        · cases h
      all_goals simp_all

theorem trod_move {w' : World} {sp : Nat → Bool} {t : TypeId} {v : Value} {d : DataW H} {ps : List MemPlace} (hg : goodT P 8 t = true) (h : DataW.Trod enc P w base (fun _ => true) held t v d ps)
    (hsame : ∀ p ∈ ps, w.sameAt w' p) (hs : ∀ p ∈ ps, sp p.block = true) : DataW.Trod enc P w' base sp held t v d ps := by
  obtain ⟨n, hn⟩ := h
  exact ⟨n, trod_spare 8 n t _ _ hg (DataW.trod_carry n t _ _ hn hsame) hs⟩

theorem trodAll_move {w' : World} {sp : Nat → Bool} : ∀ {ts : List TypeId} {vs : List Value} {ds : List (DataW H)} {ps : List MemPlace}, ts.all (goodT P 8) = true → DataW.TrodAll enc P w base (fun _ => true) held ts vs ds ps →
    (∀ p ∈ ps, w.sameAt w' p) → (∀ p ∈ ps, sp p.block = true) → DataW.TrodAll enc P w' base sp held ts vs ds ps := by
  intro ts
  induction ts with
  | nil =>
    intro vs ds ps _ h _ _
    obtain ⟨rfl, rfl, rfl⟩ := trodAll_nil h
    rfl
  | cons t ts ih =>
    intro vs ds ps hg h hsame hs
    obtain ⟨v, vs', d, ds', p, q, rfl, rfl, rfl, h1, h2⟩ := trodAll_cons h
    simp only [List.all_cons, Bool.and_eq_true] at hg
    exact ⟨p, q, trod_move hg.1 h1 (fun x hx => hsame x (by simp [hx])) (fun x hx => hs x (by simp [hx])), ih hg.2 h2 (fun x hx => hsame x (by simp [hx])) (fun x hx => hs x (by simp [hx])), rfl⟩

/-- A law that returns true and leaves what was there alone. -/
theorem post_law {f : Func} {s : ChangeSpec} {W W' : World} {args : Array Value} {ds gs : List (DataW H)} {before : List MemPlace} {tb : TypeId} (hW : DataW.Whole enc P f.params.toList s.vars false W args.toList ds gs before)
    (hv : s.vars = []) (hfn : s.fn H ds = { results := [.lit (.bool true)], args := ds }) (hrt : f.resultTypes = #[tb]) (htb : P.underlying tb = some .bool) (hgood : f.params.toList.all (goodT P 8) = true) (hb : Below W.heap.size W W') :
    s.post enc P f false true false false W args (.bool true) W' := by
  have hW0 := hW
  obtain ⟨p, q, hA, hV, rfl, _, _⟩ := hW
  rw [hv] at hV
  obtain ⟨rfl, rfl⟩ := trodVars_none hV
  have hlt : ∀ x ∈ p ++ [], x.block < W.heap.size := fun x hx => hW0.lt x hx
  have hsame : ∀ x ∈ p, W.sameAt W' x := fun x hx => hb.same (hlt x (by simpa using hx))
  refine ⟨ds, [], p ++ [], [], p, [], hW0, ?_, ?_, ?_, hb.frame _, fun h => by cases h⟩
  · simp only [List.append_nil, hfn, hrt]
    exact trodAll_mk1 (shut_bool htb _)
  · simp only [List.append_nil, hfn]
    exact trodAll_move hgood hA hsame fun x hx => by simpa using hlt x (by simpa using hx)
  · simp only [List.append_nil, hfn, hv]
    rfl
end

theorem wf_u8 {n : Int} (h : (Lit.int .u8 n).wf = true) : 0 ≤ n ∧ n ≤ 255 := by
  simp [Lit.wf, IntKind.min, IntKind.max, IntKind.signed, IntKind.bits] at h
  omega
theorem wf_u16 {n : Int} (h : (Lit.int .u16 n).wf = true) : 0 ≤ n ∧ n ≤ 65535 := by
  simp [Lit.wf, IntKind.min, IntKind.max, IntKind.signed, IntKind.bits] at h
  omega
theorem wf_u32 {n : Int} (h : (Lit.int .u32 n).wf = true) : 0 ≤ n ∧ n ≤ 4294967295 := by
  simp [Lit.wf, IntKind.min, IntKind.max, IntKind.signed, IntKind.bits] at h
  omega
theorem wf_i64 {n : Int} (h : (Lit.int .i64 n).wf = true) : -9223372036854775808 ≤ n ∧ n ≤ 9223372036854775807 := by
  simp [Lit.wf, IntKind.min, IntKind.max, IntKind.signed, IntKind.bits] at h
  omega

/-- Values of the type t read as something of the registered type c, of which In is so. -/
def HReads (E : Env) (t : TypeId) (c : Nat) (In : E.G.car c → Prop) : Prop :=
  E.P.cellsOf t = E.G.sz c ∧ ∀ (H : Type) (e : TypeId × Value → H) (w : World) (base : Nat) (sp : Nat → Bool) (held : Bool) (fuel : Nat) (cs : List Value) (x : DataW H × List MemPlace),
    DataW.trod e E.P w base sp held fuel t cs = some x → ∃ a : E.G.car c, HdL E.G (IsCells w) w (E.G.enc c a) cs ∧ In a

theorem isCells_of {w : World} {a : Addr} {u : Value} (h : w.cell? a = some u) : IsCells w a.block ∧ a.spot = none := by
  unfold World.cell? at h
  split at h
  · rename_i c e s hb
    refine ⟨⟨_, hb, rfl⟩, ?_⟩
    split at h
    · cases h
    · rename_i hs
      simpa using hs
  · cases h

section
variable {E : Env} {H : Type} {e : TypeId × Value → H} {w : World} {base : Nat} {sp : Nat → Bool} {held : Bool}

theorem hdL_one {x : Value} {cv : CV E.G.car} (h : Hd E.G (IsCells w) w cv x) : HdL E.G (IsCells w) w [cv] [x] := ⟨_, _, rfl, h, rfl⟩

theorem hdL_append : ∀ {a b : List (CV E.G.car)} {u v : List Value}, HdL E.G (IsCells w) w a u → HdL E.G (IsCells w) w b v → HdL E.G (IsCells w) w (a ++ b) (u ++ v)
  | [], _, _, _, h, h' => by cases h; exact h'
  | _ :: _, _, _, _, ⟨x, us, rfl, h1, h2⟩, h' => ⟨x, us ++ _, rfl, h1, hdL_append h2 h'⟩

theorem hreads_int {t : TypeId} {c : Nat} {k : IntKind} {In : E.G.car c → Prop} (f : Int → E.G.car c) (hf : ∀ n, E.G.enc c (f n) = [.v (.int k n)]) (hu : E.P.underlying t = some (.int k)) (hc : E.P.cellsOf t = E.G.sz c)
    (hIn : ∀ n, (Lit.int k n).wf = true → In (f n)) : HReads E t c In :=
  ⟨hc, fun _ _ _ _ _ _ _ _ _ h => by
    obtain ⟨n, h1, _, h2⟩ := DataW.trod_int hu h
    subst h1
    exact ⟨f n, by rw [hf]; exact hdL_one (.v _), hIn n h2⟩⟩

theorem hreads_bool {t : TypeId} {c : Nat} {In : E.G.car c → Prop} (f : Bool → E.G.car c) (hf : ∀ n, E.G.enc c (f n) = [.v (.bool n)]) (hu : E.P.underlying t = some .bool) (hc : E.P.cellsOf t = E.G.sz c) (hIn : ∀ b, In (f b)) : HReads E t c In :=
  ⟨hc, fun _ _ _ _ _ _ _ _ _ h => by
    obtain ⟨n, h1, _⟩ := DataW.trod_bool hu h
    subst h1
    exact ⟨f n, by rw [hf]; exact hdL_one (.v _), hIn n⟩⟩

theorem fields_of {t : TypeId} {fs : Array Field} {fuel : Nat} {cs : List Value} {x : DataW H × List MemPlace} (hu : E.P.underlying t = some (.struct fs)) (h : DataW.trod e E.P w base sp held fuel t cs = some x) :
    cs.length = E.P.cellsOf t ∧ ∀ (j : Nat) (fd : Field), fs[j]? = some fd → ∃ fuel y, DataW.trod e E.P w base sp held fuel fd.type ((cs.drop fd.offset).take (E.P.cellsOf fd.type)) = some y := by
  obtain ⟨xs, n, rfl, rfl, hl, hlen, hf⟩ := DataW.trod_struct hu h
  refine ⟨hl, fun j fd hj => ?_⟩
  have hlt : j < xs.length := by have := (Array.getElem?_eq_some_iff.1 hj).1; omega
  exact ⟨n, xs[j], by rw [hf j fd hj, List.getElem?_eq_getElem hlt]⟩

theorem elems_of {t el : TypeId} {n s : Nat} {fuel : Nat} {cs : List Value} {x : DataW H × List MemPlace} (hu : E.P.underlying t = some (.array n el)) (hs : E.P.cellsOf el = s) (h : DataW.trod e E.P w base sp held fuel t cs = some x) :
    cs.length = E.P.cellsOf t ∧ ∀ (j : Nat), j < n → ∃ fuel y, DataW.trod e E.P w base sp held fuel el ((cs.drop (j * s)).take (E.P.cellsOf el)) = some y := by
  obtain ⟨xs, m, rfl, rfl, hl, hlen, hf⟩ := DataW.trod_array hu h
  subst hs
  refine ⟨hl, fun j hj => ?_⟩
  have hlt : j < xs.length := by omega
  exact ⟨m, xs[j], by rw [hf j hj, List.getElem?_eq_getElem hlt]⟩

theorem HReads.at {t : TypeId} {c off : Nat} {In : E.G.car c → Prop} {cs : List Value} (hR : HReads E t c In)
    (hx : ∃ fuel y, DataW.trod e E.P w base sp held fuel t ((cs.drop off).take (E.P.cellsOf t)) = some y) : ∃ a, HdL E.G (IsCells w) w (E.G.enc c a) ((cs.drop off).take (E.G.sz c)) ∧ In a := by
  obtain ⟨fuel, y, h⟩ := hx
  rw [hR.1] at h
  exact hR.2 _ _ _ _ _ _ _ _ _ h

theorem hcut_cons {a r : List (CV E.G.car)} {cs : List Value} {o n : Nat} (h : HdL E.G (IsCells w) w a ((cs.drop o).take n)) (hr : HdL E.G (IsCells w) w r (cs.drop (o + n))) : HdL E.G (IsCells w) w (a ++ r) (cs.drop o) := by
  have := hdL_append h hr
  rwa [← List.drop_drop, List.take_append_drop] at this

theorem hcut_nil {cs : List Value} {o : Nat} (h : cs.length ≤ o) : HdL E.G (IsCells w) w [] (cs.drop o) := List.drop_eq_nil_of_le h

/-- A slice's elements. -/
theorem hslice_of {t el : TypeId} {c fuel : Nat} {In : E.G.car c → Prop} {cs : List Value} {x : DataW H × List MemPlace} (hu : E.P.underlying t = some (.slice el)) (hR : HReads E el c In) (hn : 0 < E.G.sz c)
    (h : DataW.trod e E.P w base sp held fuel t cs = some x) :
    ∃ (p : Option Addr) (n cap : Nat) (l : List (E.G.car c)), cs = [.slice p n cap] ∧ Hd E.G (IsCells w) w (.sl c l) (.slice p n cap) ∧ (∀ x ∈ l, In x) ∧ l.length ≤ 9223372036854775807 := by
  rcases DataW.trod_slice hu h with ⟨rfl, _⟩ | ⟨a, len, cap, elems, rest, m, _, rfl, _, hb, hl, hm, hel, hi, _, _⟩
  · exact ⟨none, 0, 0, [], rfl, Hd.mk (b := 0) (o := 0) rfl (Nat.le_refl _) (fun h => absurd rfl h) (fun i x hx => by simp at hx), by simp, by simp⟩
  have build : ∀ k, k ≤ len → ∃ l : List (E.G.car c), l.length = k ∧ ∀ i x, l[i]? = some x → In x ∧ ∃ us, w.cells? base (a.add (i * E.G.sz c)) (E.G.sz c) = some us ∧ HdL E.G (IsCells w) w (E.G.enc c x) us := by
    intro k
    induction k with
    | zero => intro _; exact ⟨[], rfl, fun i x hx => by simp at hx⟩
    | succ k ih =>
      intro hk
      obtain ⟨l, h1, h2⟩ := ih (by omega)
      have h3 := hi k (by omega)
      rw [List.getElem?_eq_getElem (by omega), hR.1, Option.bind_eq_some_iff] at h3
      obtain ⟨cs', h4, h5⟩ := h3
      obtain ⟨y, hy1, hy⟩ := hR.2 _ _ _ _ _ _ _ _ _ h5
      refine ⟨l ++ [y], by simp [h1], fun i x hx => ?_⟩
      rcases Nat.lt_or_ge i k with h6 | h6
      · rw [List.getElem?_append_left (by omega)] at hx; exact h2 i x hx
      · rw [List.getElem?_append_right (by omega)] at hx
        have : i - l.length = 0 := by
          have := (List.getElem?_eq_some_iff.1 hx).1
          simpa using this
        rw [this] at hx
        simp only [List.getElem?_cons_zero, Option.some.injEq] at hx
        subst hx
        obtain rfl : i = k := by omega
        exact ⟨hy, _, h4, hy1⟩
  obtain ⟨l, h1, h2⟩ := build len (Nat.le_refl _)
  have hcell : ∀ (i : Nat) x, l[i]? = some x → ∀ (j : Nat) (cv : CV E.G.car), (E.G.enc c x)[j]? = some cv → ∃ u, w.cell? ((a.add (i * E.G.sz c)).add j) = some u ∧ Hd E.G (IsCells w) w cv u := by
    intro i x hx j cv hcv
    obtain ⟨_, us, h3, h4⟩ := h2 i x hx
    obtain ⟨u, h5, h6⟩ := h4.get j cv hcv
    obtain ⟨_, h7, h8⟩ := World.cells?_some h3
    refine ⟨u, ?_, h6⟩
    rw [h8 j (by rw [← h7]; exact (List.getElem?_eq_some_iff.1 h5).1), h5]
  refine ⟨some a, len, cap, l, rfl, ?_, fun x hx => ?_, by unfold maxLen at hm; omega⟩
  · rcases Nat.eq_zero_or_pos len with h0 | h0
    · have : l = [] := List.length_eq_zero_iff.1 (by omega)
      subst this
      exact Hd.mk (b := 0) (o := 0) h1.symm hl (fun h => absurd rfl h) (fun i x hx => by simp at hx)
    · have hpos : 0 < l.length := by omega
      have hz : 0 < (E.G.enc c l[0]).length := by rw [E.G.hsz]; exact hn
      obtain ⟨u, h3, _⟩ := hcell 0 l[0] (List.getElem?_eq_getElem hpos) 0 _ (List.getElem?_eq_getElem hz)
      rw [Nat.zero_mul, show (a.add 0).add 0 = a by simp [Addr.add]] at h3
      obtain ⟨h4, h5⟩ := isCells_of h3
      obtain ⟨b, o, s⟩ := a
      simp only at h4 h5
      subst h5
      refine Hd.mk (b := b) (o := o) h1.symm hl (fun _ => ⟨rfl, h4⟩) (fun i x hx j cv hcv => ?_)
      have := hcell i x hx j cv hcv
      rwa [addr_add, addr_add] at this
  · obtain ⟨i, hi⟩ := List.getElem?_of_mem hx
    exact (h2 i x hi).1

theorem hreads_slice {t el : TypeId} {c d : Nat} {In : E.G.car c → Prop} {In' : E.G.car d → Prop} (f : List (E.G.car c) → E.G.car d) (hf : ∀ l, E.G.enc d (f l) = [.sl c l]) (hu : E.P.underlying t = some (.slice el)) (hR : HReads E el c In)
    (hn : 0 < E.G.sz c) (hc : E.P.cellsOf t = E.G.sz d) (hIn : ∀ l, (∀ x ∈ l, In x) → l.length ≤ 9223372036854775807 → In' (f l)) : HReads E t d In' :=
  ⟨hc, fun _ _ _ _ _ _ _ _ _ h => by
    obtain ⟨p, n, cap, l, rfl, h1, h2, h3⟩ := hslice_of hu hR hn h
    exact ⟨f l, by rw [hf]; exact hdL_one h1, hIn l h2 h3⟩⟩

/-! ### Arguments -/

theorem harg_int {r : Reach} {b0 : Nat} {t : TypeId} {c : Nat} {k : IntKind} {In : E.G.car c → Prop} {v : Value} {d : DataW H} {ps : List MemPlace} (hR : HReads E t c In) (hu : E.P.underlying t = some (.int k))
    (hval : Value.okWide E.P w r b0 t v) (h : DataW.Trod e E.P w base sp held t v d ps) : ∃ a : E.G.car c, ArgIs E (IsCells w) w (.v c false) a v ∧ In a := by
  obtain ⟨n, rfl⟩ := okWide_int hu hval
  obtain ⟨fuel, hf⟩ := h
  obtain ⟨a, h1, h2⟩ := hR.2 _ _ _ _ _ _ _ _ _ hf
  exact ⟨a, ⟨_, h1, rfl⟩, h2⟩

theorem harg_bool {r : Reach} {b0 : Nat} {t : TypeId} {c : Nat} {In : E.G.car c → Prop} {v : Value} {d : DataW H} {ps : List MemPlace} (hR : HReads E t c In) (hu : E.P.underlying t = some .bool)
    (hval : Value.okWide E.P w r b0 t v) (h : DataW.Trod e E.P w base sp held t v d ps) : ∃ a : E.G.car c, ArgIs E (IsCells w) w (.v c false) a v ∧ In a := by
  obtain ⟨n, rfl⟩ := okWide_bool hu hval
  obtain ⟨fuel, hf⟩ := h
  obtain ⟨a, h1, h2⟩ := hR.2 _ _ _ _ _ _ _ _ _ hf
  exact ⟨a, ⟨_, h1, rfl⟩, h2⟩

theorem harg_agg {r : Reach} {b0 : Nat} {t : TypeId} {c : Nat} {fs : Array Field} {In : E.G.car c → Prop} {v : Value} {d : DataW H} {ps : List MemPlace} (hR : HReads E t c In) (hu : E.P.underlying t = some (.struct fs))
    (hval : Value.okWide E.P w r b0 t v) (h : DataW.Trod e E.P w base sp held t v d ps) : ∃ a : E.G.car c, ArgIs E (IsCells w) w (.v c true) a v ∧ In a := by
  obtain ⟨cs, rfl, _⟩ := okWide_struct hu hval
  obtain ⟨fuel, hf⟩ := h
  obtain ⟨a, h1, h2⟩ := hR.2 _ _ _ _ _ _ _ _ _ hf
  exact ⟨a, ⟨_, h1, rfl⟩, h2⟩

theorem harg_sl {r : Reach} {b0 : Nat} {t el : TypeId} {c : Nat} {In : E.G.car c → Prop} {v : Value} {d : DataW H} {ps : List MemPlace} (hu : E.P.underlying t = some (.slice el)) (hR : HReads E el c In) (hn : 0 < E.G.sz c)
    (hval : Value.okWide E.P w r b0 t v) (h : DataW.Trod e E.P w base sp held t v d ps) : ∃ a : List (E.G.car c), ArgIs E (IsCells w) w (.sl c) a v ∧ (∀ x ∈ a, In x) ∧ a.length ≤ 9223372036854775807 := by
  obtain ⟨p, n, cap, rfl⟩ := okWide_slice hu hval
  obtain ⟨fuel, hf⟩ := h
  obtain ⟨p', n', cap', l, h1, h2, h3, h4⟩ := hslice_of hu hR hn hf
  have h1 : [Value.slice p n cap] = [.slice p' n' cap'] := h1
  simp only [List.cons.injEq, and_true, Value.slice.injEq] at h1
  obtain ⟨rfl, rfl, rfl⟩ := h1
  exact ⟨l, h2, h3, h4⟩

/-- A law whose mirror answers true returns true, and leaves what was there. -/
theorem law_calls {k : Nat} {ps : List PK} {t : Nat} {es : List Nat} {f : AT E.G.car ps → Option (E.G.car t)} (hc : CSok E [] ⟨k, ps, [.v t false es], f⟩) (hglo : E.glo = []) (b : E.G.car t) (hb : E.G.enc t b = [.v (.bool true)])
    {vs : List Value} {xs : AT E.G.car ps} (ha : ArgsAre E (IsCells w) w ps xs vs) (hm : f xs = some b) :
    Calls E.P k vs.toArray w fun e w' => e = .returned (.bool true) ∧ Below w.heap.size w w' := by
  have h := hc.ok (IsCells w) w vs xs ⟨fun _ => ⟨0, none, 0, 0⟩, by rw [hglo]; exact And.intro (fun p hp => nomatch hp) (fun q hq => nomatch hq)⟩ (fun _ h => h) ha b hm
  refine h.mono fun e' w' ⟨us, ms, A', h1, h2, _, _, _, h3, _⟩ => ⟨?_, h2⟩
  obtain ⟨v, rfl, us', h4, h5⟩ := h3
  simp only [Bool.false_eq_true, if_false] at h5
  subst h5
  have h4 : ResCells E.G A' w.heap.size w' (E.G.enc t b) es [v] ms := h4
  rw [hb] at h4
  obtain ⟨us2, h6, _⟩ := h4
  cases h6
  exact h1
end
end Go.KX
