/- Texts FePFJ, FePFE, FePFF, FePFG, FePFK, KFR: own work; each part says what it is. -/
import Derived.Test.YtglcljiadhcopaaAd3
import Derived.Handed
import Derived.OpenShut
import Derived.ChangeSlices
import Derived.JoinedOf
namespace Go.Proofs.Fe
open Go Go.KX

def tab {α : Type} (n : Nat) (g : Nat → α) : List α := (List.range n).map g
theorem tab_length {α : Type} (n : Nat) (g : Nat → α) : (tab n g).length = n := by simp [tab]
theorem tab_succ {α : Type} (n : Nat) (g : Nat → α) : tab (n + 1) g = tab n g ++ [g n] := by simp [tab, List.range_succ]
theorem tab_get {α : Type} {n i : Nat} {g : Nat → α} {d : α} (h : i < n) : (tab n g).getD i d = g i := by
  rw [getD_get (by rw [tab_length]; exact h)]; simp [tab]
theorem tab_mem {α : Type} {n : Nat} {g : Nat → α} {x : α} (h : x ∈ tab n g) : ∃ i, i < n ∧ x = g i := by
  simp only [tab, List.mem_map, List.mem_range] at h
  obtain ⟨i, h1, h2⟩ := h
  exact ⟨i, h1, h2.symm⟩
theorem tab_ext {α : Type} {n : Nat} {g : Nat → α} {l : List α} (d : α) (h1 : l.length = n) (h : ∀ i, i < n → l.getD i d = g i) : l = tab n g :=
  list_ext d (by rw [h1, tab_length]) fun i hi => by rw [h i (by omega), tab_get (by omega)]

/-- A state of n owners and m authorities, with numbers up to B. -/
structure StaOK (n m : Nat) (B : Int) (s : State) : Prop where
  nb : 1 ≤ n ∧ n ≤ 10
  mb : 1 ≤ m ∧ m ≤ 6
  dl : s.Deposits.length = n
  ol : s.Owed.length = n
  rl : ∀ i, i < n → (s.Owed.getD i []).length = m
  d : ∀ i, i < n → 0 ≤ s.Deposits.getD i 0 ∧ s.Deposits.getD i 0 ≤ B
  o : ∀ i, i < n → ∀ k, k < m → 0 ≤ (s.Owed.getD i []).getD k 0 ∧ (s.Owed.getD i []).getD k 0 ≤ B

theorem amounts1_eq (F : Nat) (c : Int) : fees_amounts_1 F c = some (!decide (0 ≤ c ∧ c ≤ 1000000000000)) := by
  show some (!(decide (c ≥ 0) && decide (c ≤ 1000000000000))) = _
  rw [wb]

theorem table_eq {F : Nat} (hF : 100 < F) {l : List (List Int)} {n m : Nat} (hn : n ≤ 20) (h1 : l.length = n) (h2 : ∀ i, i < n → (l.getD i []).length = m) : fees_table F l n m = some 0 := by
  refine Ok.eq ?_
  unfold fees_table
  refine ok_brkF (by simp [h1]) ?_
  refine ok_join (by omega) (fun x : Int => x = -1) (fun x hx => ok_brkF (by subst hx; rfl) (ok_some rfl)) fun k hk => ?_
  refine ok_loop (fun x : Int => 0 ≤ x ∧ x ≤ l.length) (fun x : Int => l.length - x.toNat) ⟨by simp, by simp⟩ (by simp; omega) ?_
  rintro i next ⟨i1, i2⟩ hnx
  refine ok_brk (fun hc => ?_) (fun _ => hk _ rfl)
  have hc : i < l.length := of_decide_eq_true hc
  exact ok_chk ⟨i1, hc⟩ (ok_brkF (by rw [h2 i.toNat (by omega)]; simp) (ok_chk (show InR _ from ⟨by omega, by omega⟩) (hnx _ ⟨by omega, by omega⟩ (by show l.length - (i + 1).toNat < l.length - i.toNat; omega))))

theorem amounts_eq {F : Nat} (hF : 100 < F) {l : List (List Int)} (hl : l.length ≤ 20) (h : ∀ r ∈ l, r.length ≤ 20 ∧ ∀ x ∈ r, 0 ≤ x ∧ x ≤ 1000000000000) : fees_amounts F l = some 0 := by
  refine Ok.eq ?_
  unfold fees_amounts
  refine ok_loop (fun x : Int => 0 ≤ x ∧ x ≤ l.length) (fun x : Int => l.length - x.toNat) ⟨by simp, by simp⟩ (by simp; omega) ?_
  rintro i next ⟨i1, i2⟩ hnx
  refine ok_brk (fun hc => ?_) (fun _ => ok_some rfl)
  have hc : i < l.length := of_decide_eq_true hc
  obtain ⟨hr1, hr2⟩ := h _ (getD_mem (d := []) (show i.toNat < l.length by omega))
  refine ok_chk ⟨i1, hc⟩ (ok_join (by omega) (fun x : Int => x = -1) (fun x hx => ok_brkF (by subst hx; rfl) (ok_chk (show InR _ from ⟨by omega, by omega⟩) (hnx _ ⟨by omega, by omega⟩ (by show l.length - (i + 1).toNat < l.length - i.toNat; omega)))) fun k hk => ?_)
  refine ok_find (p := fun c => !decide (0 ≤ c ∧ c ≤ 1000000000000)) (by omega) (by omega) (fun c _ => amounts1_eq F c) (fun j hj hp => absurd (hr2 _ (getD_mem hj)) (nd_true hp)) (fun _ => hk _ rfl)

theorem cloneL_eq {F : Nat} {l : List (List Int)} (h : l.length ≤ 1000000) : slices_Clone_Lint F l = some l := by
  show chk ((0 : Nat) + l.length ≤ (1000000 : Nat)) (some ([] ++ l)) = some l
  rw [chk_pos (by omega)]; rfl
theorem cloneI_eq {F : Nat} {l : List Int} (h : l.length ≤ 1000000) : slices_Clone_int F l = some l := by
  show chk ((0 : Nat) + l.length ≤ (1000000 : Nat)) (some ([] ++ l)) = some l
  rw [chk_pos (by omega)]; rfl

theorem StaOK.amounts {n m : Nat} {B : Int} {s : State} (h : StaOK n m B s) (hB : B ≤ 1000000000000) : ∀ r ∈ s.Owed ++ [s.Deposits], r.length ≤ 20 ∧ ∀ x ∈ r, 0 ≤ x ∧ x ≤ 1000000000000 := by
  intro r hr
  have hn := h.nb
  have hm := h.mb
  rcases List.mem_append.1 hr with hr | hr
  · obtain ⟨i, hi, rfl⟩ := List.getElem_of_mem hr
    have hi' : i < n := by rw [← h.ol]; exact hi
    have hl := h.rl i hi'
    rw [getD_get hi] at hl
    refine ⟨by omega, fun x hx => ?_⟩
    obtain ⟨k, hk, rfl⟩ := List.getElem_of_mem hx
    have := h.o i hi' k (by omega)
    rw [getD_get hi, getD_get hk] at this
    omega
  · rw [List.mem_singleton.1 hr]
    refine ⟨by rw [h.dl]; omega, fun x hx => ?_⟩
    obtain ⟨k, hk, rfl⟩ := List.getElem_of_mem hx
    have := h.d k (by rw [← h.dl]; exact hk)
    rw [getD_get hk] at this
    omega

theorem check_eq {F : Nat} (hF : 100 < F) {n m : Nat} {B : Int} {s : State} (h : StaOK n m B s) (hB : B ≤ 1000000000000) : fees_State_check F s = some 0 := by
  refine Ok.eq ?_
  unfold fees_State_check
  have hn := h.nb
  have hm := h.mb
  have hol := h.ol
  have hr0 := h.rl 0 (by omega)
  have hr0' : (s.Owed.getD (Int.toNat 0) []).length = m := hr0
  rw [within_eq, within_eq, wb, wb, h.dl, hr0', hol]
  refine ok_bnde rfl (ok_brkF (ndF (by omega)) (ok_brkF (by simp; omega) (ok_chk ⟨by omega, by omega⟩ (ok_bnde rfl (ok_brkF (ndF (by omega)) (ok_chk ⟨by omega, by omega⟩ ?_))))))
  refine ok_bnde (table_eq hF (by omega) hol h.rl) (ok_brkF rfl (ok_bnde (cloneL_eq (by omega)) (ok_chk (by simp; omega) ?_)))
  exact ok_bnde (amounts_eq hF (by simp; omega) (h.amounts hB)) (ok_some rfl)

/-! ### Settlements -/

structure SetP (n m : Nat) (s : State) (r : State × List (List Int)) : Prop where
  dl : r.1.Deposits.length = n
  ol : r.1.Owed.length = n
  pl : r.2.length = n
  aw : ∀ i, i < n → AwOK (s.Owed.getD i []) (s.Deposits.getD i 0) (r.2.getD i [])
  d : ∀ i, i < n → r.1.Deposits.getD i 0 = s.Deposits.getD i 0 - sumL (r.2.getD i [])
  o : ∀ i, i < n → (r.1.Owed.getD i []).length = m ∧ ∀ k, k < m → (r.1.Owed.getD i []).getD k 0 = (s.Owed.getD i []).getD k 0 - (r.2.getD i []).getD k 0

/-- What an award is like. -/
theorem AwOK.each {l : List Int} {e : Int} {a : List Int} (h : AwOK l e a) (hl : ∀ c ∈ l, 0 ≤ c) : ∀ k, k < l.length → 0 ≤ a.getD k 0 ∧ a.getD k 0 ≤ l.getD k 0 := by
  obtain ⟨r, hr, rfl⟩ := h
  intro k hk
  have h1 := ((awV_in r.1 l r.2).get hk).cases
  have h2 := hr.n0
  have h3 := hl _ (getD_mem (d := 0) hk)
  omega

theorem snoc_get {α : Type} {l : List α} {x d : α} {j : Nat} (h : j < l.length + 1) : (l ++ [x]).getD j d = if j < l.length then l.getD j d else x := by
  by_cases e : j < l.length
  · rw [if_pos e, getD_append_left' e]
  · rw [if_neg e]
    obtain rfl : j = l.length := by omega
    exact getD_append_here

theorem settle_ok {F : Nat} (hF : 2000000000000 < F) {n m : Nat} {B : Int} {s : State} (h : StaOK n m B s) (hB : B ≤ 1000000000000) : Ok (SetP n m s) (fees_State_settle F s) := by
  unfold fees_State_settle
  have hn := h.nb
  have hm := h.mb
  have hdl := h.dl
  have hol := h.ol
  refine ok_bnde (cloneI_eq (by omega)) ?_
  refine ok_loop (fun x : List (List Int) × Int × List (List Int) × List Int => 0 ≤ x.2.1 ∧ x.2.1 ≤ n ∧ (x.1.length : Int) = x.2.1 ∧ (x.2.2.1.length : Int) = x.2.1 ∧ x.2.2.2.length = n ∧
      (∀ i : Nat, (i : Int) < x.2.1 → AwOK (s.Owed.getD i []) (s.Deposits.getD i 0) (x.1.getD i []) ∧ x.2.2.2.getD i 0 = s.Deposits.getD i 0 - sumL (x.1.getD i []) ∧ (x.2.2.1.getD i []).length = m ∧ ∀ k, k < m → (x.2.2.1.getD i []).getD k 0 = (s.Owed.getD i []).getD k 0 - (x.1.getD i []).getD k 0) ∧
      (∀ i : Nat, x.2.1 ≤ (i : Int) → i < n → x.2.2.2.getD i 0 = s.Deposits.getD i 0)) (fun x => n - x.2.1.toNat)
    ⟨by simp, by show (0 : Int) ≤ n; omega, rfl, rfl, hdl, fun i hi => by (have hi : (i : Int) < 0 := hi); omega, fun i _ _ => rfl⟩ (by simp; omega) ?_
  rintro ⟨paid, i, ow, dp⟩ next ⟨i1, i2, i3, i4, i5, i6, i7⟩ hnx
  simp only at i1 i2 i3 i4 i5 i6 i7
  dsimp only
  rw [hol]
  refine ok_brk (fun hc => ?_) (fun hc => ok_some ?_)
  · have hc : i < n := of_decide_eq_true hc
    have hi : i.toNat < n := by omega
    have hrl := h.rl i.toNat hi
    have hd := h.d i.toNat hi
    have ho := h.o i.toNat hi
    have hcl : Cl (s.Owed.getD i.toNat []) := fun c hc => by
      obtain ⟨k, hk, rfl⟩ := List.getElem_of_mem hc
      have := ho k (by omega)
      rw [getD_get hk] at this
      omega
    have h7 := i7 i.toNat (by omega) hi
    refine ok_chk ⟨i1, hc⟩ (ok_chk ⟨i1, by omega⟩ (ok_bnd _ (awards_ok hF (by omega) (by omega) hcl ⟨hd.1, by omega⟩) fun pay hpay => ?_))
    have hpl := hpay.length
    have hpe := hpay.each fun c hc => (hcl c hc).1
    have hps := hpay.sum
    have hpB : ∀ k : Nat, 0 ≤ sumL (pay.take k) ∧ sumL (pay.take k) ≤ 6000000000000 := fun k => by
      have hb : ∀ x ∈ pay, 0 ≤ x ∧ x ≤ 1000000000000 := fun x hx => by
        obtain ⟨q, hq, rfl⟩ := List.getElem_of_mem hx
        have h1 := hpe q (by omega)
        have h2 := ho q (by omega)
        rw [getD_get hq] at h1
        omega
      have h1 := sumL_nonneg (pay.take k) fun x hx => (hb x (List.mem_of_mem_take hx)).1
      have h2 := sumL_le (pay.take k) (B := 1000000000000) fun x hx => (hb x (List.mem_of_mem_take hx)).2
      have h3 : (pay.take k).length ≤ 6 := by rw [List.length_take]; omega
      omega
    rw [show (s.Owed.getD i.toNat []).length = m from hrl] at hpl
    generalize hO : s.Owed.getD i.toNat [] = O at hrl ho hpay hpe hcl ⊢
    generalize hD : s.Deposits.getD i.toNat 0 = D at hd hpay h7 hps ⊢
    refine ok_bnde (cloneI_eq (by omega)) ?_
    refine ok_loop (fun x : Int × List Int × List Int => 0 ≤ x.1 ∧ x.1 ≤ m ∧ x.2.1.length = m ∧ x.2.2.length = n ∧ (∀ q : Nat, q < m → x.2.1.getD q 0 = if (q : Int) < x.1 then O.getD q 0 - pay.getD q 0 else O.getD q 0) ∧ (∀ j, j < n → x.2.2.getD j 0 = if j = i.toNat then D - sumL (pay.take x.1.toNat) else dp.getD j 0)) (fun x => m - x.1.toNat)
      ⟨by simp, by show (0 : Int) ≤ m; omega, hrl, i5, fun q _ => by show O.getD q 0 = _; rw [if_neg (show ¬ (q : Int) < 0 by omega)], fun j hj => by
        show dp.getD j 0 = if j = i.toNat then D - sumL (pay.take (Int.toNat 0)) else dp.getD j 0
        split
        · rename_i e; subst e; rw [h7]; simp [sumL]
        · rfl⟩ (by simp; omega) ?_
    rintro ⟨k, rs, dq⟩ next2 ⟨k1, k2, k3, k4, k5, k6⟩ hn2
    simp only at k1 k2 k3 k4 k5 k6
    dsimp only
    rw [hpl]
    refine ok_brk (fun hb => ?_) (fun hb => ?_)
    · have hb : k < m := of_decide_eq_true hb
      have hk : k.toNat < m := by omega
      have e5 := k5 k.toNat hk
      rw [if_neg (by omega)] at e5
      have e6 := k6 i.toNat hi
      rw [if_pos rfl] at e6
      have hp := hpe k.toNat (by omega)
      have hoo := ho k.toNat hk
      have hs1 := hpB k.toNat
      have hs2 := hpB (k + 1).toNat
      have hsum : sumL (pay.take (k + 1).toNat) = sumL (pay.take k.toNat) + pay.getD k.toNat 0 := by
        rw [show (k + 1).toNat = k.toNat + 1 by omega, take_succ' (d := 0) (by omega), sumL_append]; simp only [sumL]; omega
      refine ok_chk ⟨k1, by omega⟩ (ok_chk ⟨k1, by omega⟩ (ok_chk (show InR _ from ⟨by omega, by omega⟩) (ok_chk ⟨k1, by omega⟩ (ok_chk ⟨i1, by omega⟩ (ok_chk (show InR _ from ⟨by omega, by omega⟩) (ok_chk ⟨i1, by omega⟩ (ok_chk (show InR _ from ⟨by omega, by omega⟩) (hn2 _ ⟨by show 0 ≤ k + 1; omega, by show k + 1 ≤ m; omega, by show (rs.set _ _).length = m; rw [List.length_set]; exact k3, by show (dq.set _ _).length = n; rw [List.length_set]; exact k4, fun q hq => ?_, fun j hj => ?_⟩ (by show m - (k + 1).toNat < m - k.toNat; omega)))))))))
      · show (rs.set k.toNat (rs.getD k.toNat 0 - pay.getD k.toNat 0)).getD q 0 = if (q : Int) < k + 1 then _ else _
        rw [getD_set' (by omega)]
        by_cases e : k.toNat = q
        · subst e
          rw [if_pos rfl, if_pos (by omega), e5]
        · rw [if_neg e, k5 q hq]
          by_cases e2 : (q : Int) < k
          · rw [if_pos e2, if_pos (by omega)]
          · rw [if_neg e2, if_neg (by omega)]
      · show (dq.set i.toNat (dq.getD i.toNat 0 - pay.getD k.toNat 0)).getD j 0 = if j = i.toNat then D - sumL (pay.take (k + 1).toNat) else dp.getD j 0
        rw [getD_set' (by omega)]
        by_cases e : i.toNat = j
        · subst e
          rw [if_pos rfl, if_pos rfl, e6, hsum]; omega
        · rw [if_neg e, if_neg (Ne.symm e), k6 j hj, if_neg (Ne.symm e)]
    · have hb : ¬ k < m := of_decide_eq_false hb
      rw [List.take_of_length_le (by omega)] at k6
      refine ok_chk (by simp; omega) (ok_chk (by simp; omega) (ok_chk (show InR _ from ⟨by omega, by omega⟩) (hnx _ ⟨by show 0 ≤ i + 1; omega, by show i + 1 ≤ n; omega, by simp; omega, by simp; omega, k4, fun j hj => ?_, fun j hj1 hj2 => ?_⟩ (by show n - (i + 1).toNat < n - i.toNat; omega))))
      · have hj : (j : Int) < i + 1 := hj
        have ej : j < paid.length + 1 := by omega
        have ej2 : j < ow.length + 1 := by omega
        show AwOK _ _ ((paid ++ [pay]).getD j []) ∧ dq.getD j 0 = _ - sumL ((paid ++ [pay]).getD j []) ∧ ((ow ++ [rs]).getD j []).length = m ∧ ∀ k, k < m → ((ow ++ [rs]).getD j []).getD k 0 = _ - ((paid ++ [pay]).getD j []).getD k 0
        rw [snoc_get ej, snoc_get ej2]
        by_cases e : (j : Int) < i
        · obtain ⟨f1, f2, f3, f4⟩ := i6 j e
          rw [if_pos (by omega), if_pos (by omega), k6 j (by omega), if_neg (by omega)]
          exact ⟨f1, f2, f3, f4⟩
        · obtain rfl : j = i.toNat := by omega
          rw [if_neg (by omega), if_neg (by omega), k6 _ hi, if_pos rfl, hO, hD]
          refine ⟨hpay, rfl, k3, fun q hq => ?_⟩
          rw [k5 q hq, if_pos (by omega)]
      · have hj1 : i + 1 ≤ (j : Int) := hj1
        show dq.getD j 0 = _
        rw [k6 j hj2, if_neg (by omega), i7 j (by omega) hj2]
  · have hc : ¬ i < n := of_decide_eq_false hc
    obtain rfl : i = n := by omega
    exact ⟨i5, by show ow.length = n; omega, by show paid.length = n; omega, fun j hj => (i6 j (by omega)).1, fun j hj => (i6 j (by omega)).2.1, fun j hj => (i6 j (by omega)).2.2⟩

/-! ### Months -/

def moreV (late o : Int) : Int := (o * late + 99) / 100
def owN (s : State) (late : Int) (b : List (List Int)) (i k : Nat) : Int := (s.Owed.getD i []).getD k 0 + moreV late ((s.Owed.getD i []).getD k 0) + (b.getD i []).getD k 0
def monS (n m : Nat) (s : State) (paid : List Int) (b : List (List Int)) (late : Int) : State :=
  ⟨tab n fun i => s.Deposits.getD i 0 + paid.getD i 0, tab n fun i => tab m fun k => owN s late b i k⟩

structure InOK (n m : Nat) (paid : List Int) (b : List (List Int)) (late : Int) : Prop where
  pl : paid.length = n
  p : ∀ i, i < n → 0 ≤ paid.getD i 0 ∧ paid.getD i 0 ≤ 1000
  bl : b.length = n
  rl : ∀ i, i < n → (b.getD i []).length = m
  b : ∀ i, i < n → ∀ k, k < m → 0 ≤ (b.getD i []).getD k 0 ∧ (b.getD i []).getD k 0 ≤ 300
  l : 0 ≤ late ∧ late ≤ 100

theorem more_bound {late o B : Int} (hl : 0 ≤ late ∧ late ≤ 100) (ho : 0 ≤ o ∧ o ≤ B) : 0 ≤ o * late ∧ o * late ≤ 100 * o ∧ 0 ≤ moreV late o ∧ moreV late o ≤ o + 0 := by
  have h1 := Int.mul_nonneg ho.1 hl.1
  have h2 : o * late ≤ o * 100 := Int.mul_le_mul_of_nonneg_left hl.2 ho.1
  unfold moreV
  omega

theorem monS_ok {n m : Nat} {B : Int} {s : State} {paid : List Int} {b : List (List Int)} {late : Int} (h : StaOK n m B s) (hi : InOK n m paid b late) : StaOK n m (2 * B + 1000) (monS n m s paid b late) := by
  have hB : 0 ≤ B := by have hn := h.nb; have := h.d 0 (by omega); omega
  refine ⟨h.nb, h.mb, tab_length _ _, tab_length _ _, fun i hin => ?_, fun i hin => ?_, fun i hin k hk => ?_⟩
  · show ((tab n fun i => tab m fun k => owN s late b i k).getD i []).length = m
    rw [tab_get hin, tab_length]
  · show 0 ≤ (tab n fun i => s.Deposits.getD i 0 + paid.getD i 0).getD i 0 ∧ (tab n fun i => s.Deposits.getD i 0 + paid.getD i 0).getD i 0 ≤ _
    rw [tab_get hin]
    have := h.d i hin
    have := hi.p i hin
    omega
  · show 0 ≤ ((tab n fun i => tab m fun k => owN s late b i k).getD i []).getD k 0 ∧ ((tab n fun i => tab m fun k => owN s late b i k).getD i []).getD k 0 ≤ _
    rw [tab_get hin, tab_get hk]
    have h1 := h.o i hin k hk
    have h2 := hi.b i hin k hk
    have h3 := more_bound hi.l h1
    unfold owN
    omega

theorem Month_ok {F : Nat} (hF : 2000000000000 < F) {n m : Nat} {B : Int} {s : State} {paid : List Int} {b : List (List Int)} {late : Int} (h : StaOK n m B s) (hB : B ≤ 1000000) (hi : InOK n m paid b late) :
    Ok (fun r : State × List (List Int) × Int => r.2.2 = 0 ∧ SetP n m (monS n m s paid b late) (r.1, r.2.1)) (fees_Month F s paid b late) := by
  unfold fees_Month
  have hn := h.nb
  have hm := h.mb
  have hol := h.ol
  have hdl := h.dl
  have hl := hi.l
  have hr0' : (s.Owed.getD (Int.toNat 0) []).length = m := h.rl 0 (by omega)
  refine ok_bnde (check_eq (by omega) h (by omega)) (ok_brkF rfl (ok_chk ⟨by omega, by omega⟩ ?_))
  rw [hr0', hdl]
  refine ok_bnde (table_eq (by omega) (by omega) hi.bl hi.rl) ?_
  have hbr : ∀ r ∈ b ++ [paid], r.length ≤ 20 ∧ ∀ x ∈ r, 0 ≤ x ∧ x ≤ 1000000000000 := by
    intro r hr
    rcases List.mem_append.1 hr with hr | hr
    · obtain ⟨i, hib, rfl⟩ := List.getElem_of_mem hr
      have hin : i < n := by rw [← hi.bl]; exact hib
      have hl := hi.rl i hin
      rw [getD_get hib] at hl
      refine ⟨by omega, fun x hx => ?_⟩
      obtain ⟨k, hk, rfl⟩ := List.getElem_of_mem hx
      have := hi.b i hin k (by omega)
      rw [getD_get hib, getD_get hk] at this
      omega
    · rw [List.mem_singleton.1 hr]
      refine ⟨by rw [hi.pl]; omega, fun x hx => ?_⟩
      obtain ⟨k, hk, rfl⟩ := List.getElem_of_mem hx
      have := hi.p k (by rw [← hi.pl]; exact hk)
      rw [getD_get hk] at this
      omega
  refine ok_join (by omega) (fun x : Int => x = 0) (fun x hx => ?_) fun k hk => ok_brkF (by rw [hi.pl]; simp) (hk _ rfl)
  subst hx
  refine ok_join (by omega) (fun x : Int => x = 0) (fun x hx => ?_) fun k hk => ?_
  · subst hx
    refine ok_join (by omega) (fun x : Int => x = 0) (fun x hx => ?_) fun k hk => ?_
    · subst hx
      refine ok_brkF rfl ?_
      refine ok_loop (fun x : Int × List (List Int) × List Int => 0 ≤ x.1 ∧ x.1 ≤ n ∧ x.2.1 = tab x.1.toNat (fun i => tab m fun k => owN s late b i k) ∧ x.2.2 = tab x.1.toNat (fun i => s.Deposits.getD i 0 + paid.getD i 0)) (fun x => n - x.1.toNat)
        ⟨by simp, by show (0 : Int) ≤ n; omega, rfl, rfl⟩ (by simp; omega) ?_
      rintro ⟨i, ow, dp⟩ next ⟨i1, i2, i3, i4⟩ hnx
      simp only at i1 i2 i3 i4
      dsimp only
      rw [hol]
      refine ok_brk (fun hc => ?_) (fun hc => ?_)
      · have hc : i < n := of_decide_eq_true hc
        have hin : i.toNat < n := by omega
        have hd := h.d i.toNat hin
        have hp := hi.p i.toNat hin
        have hpl := hi.pl
        have hbl := hi.bl
        have hrl := h.rl i.toNat hin
        have hbrl := hi.rl i.toNat hin
        have hlen : dp.length = i.toNat := by rw [i4, tab_length]
        have hlen2 : ow.length = i.toNat := by rw [i3, tab_length]
        refine ok_chk ⟨i1, hc⟩ (ok_chk ⟨i1, by omega⟩ (ok_chk ⟨i1, by omega⟩ (ok_chk (show InR _ from ⟨by omega, by omega⟩) (ok_chk (by simp; omega) ?_))))
        refine ok_loop (fun x : List Int × Int => 0 ≤ x.2 ∧ x.2 ≤ m ∧ x.1 = tab x.2.toNat (fun k => owN s late b i.toNat k)) (fun x => m - x.2.toNat)
          ⟨by simp, by show (0 : Int) ≤ m; omega, rfl⟩ (by simp; omega) ?_
        rintro ⟨rw_, k⟩ next2 ⟨k1, k2, k3⟩ hn2
        simp only at k1 k2 k3
        dsimp only
        rw [hrl]
        refine ok_brk (fun hb => ?_) (fun hb => ?_)
        · have hb : k < m := of_decide_eq_true hb
          have hk : k.toNat < m := by omega
          have ho := h.o i.toNat hin k.toNat hk
          have hbb := hi.b i.toNat hin k.toNat hk
          have hmo := more_bound hi.l ho
          have hl3 : rw_.length = k.toNat := by rw [k3, tab_length]
          have he : (s.Owed.getD i.toNat []).getD k.toNat 0 + ((s.Owed.getD i.toNat []).getD k.toNat 0 * late + 99) / 100 + (b.getD i.toNat []).getD k.toNat 0 = owN s late b i.toNat k.toNat := rfl
          have hm2 : ((s.Owed.getD i.toNat []).getD k.toNat 0 * late + 99) / 100 = moreV late ((s.Owed.getD i.toNat []).getD k.toNat 0) := rfl
          rw [he, hm2]
          have hoN : owN s late b i.toNat k.toNat = (s.Owed.getD i.toNat []).getD k.toNat 0 + moreV late ((s.Owed.getD i.toNat []).getD k.toNat 0) + (b.getD i.toNat []).getD k.toNat 0 := rfl
          refine ok_chk ⟨k1, hb⟩ (ok_chk (show InR _ from ⟨by omega, by omega⟩) (ok_chk (show InR _ from ⟨by omega, by omega⟩) (ok_chk ⟨by omega, by omega⟩ (ok_chk (show InR _ from ⟨by omega, by omega⟩) (ok_chk ⟨i1, by omega⟩ (ok_chk ⟨k1, by omega⟩ (ok_chk (show InR _ from ⟨by omega, by omega⟩) (ok_chk (by simp; omega) (ok_chk (show InR _ from ⟨by omega, by omega⟩) (hn2 _ ⟨by show 0 ≤ k + 1; omega, by show k + 1 ≤ m; omega, ?_⟩ (by show m - (k + 1).toNat < m - k.toNat; omega)))))))))))
          show rw_ ++ [owN s late b i.toNat k.toNat] = tab (k + 1).toNat _
          rw [show (k + 1).toNat = k.toNat + 1 by omega, tab_succ, ← k3]
        · have hb : ¬ k < m := of_decide_eq_false hb
          have hkm : k.toNat = m := by omega
          rw [hkm] at k3
          refine ok_chk (by simp; omega) (ok_chk (show InR _ from ⟨by omega, by omega⟩) (hnx _ ⟨by show 0 ≤ i + 1; omega, by show i + 1 ≤ n; omega, ?_, ?_⟩ (by show n - (i + 1).toNat < n - i.toNat; omega)))
          · show ow ++ [rw_] = tab (i + 1).toNat _
            rw [show (i + 1).toNat = i.toNat + 1 by omega, tab_succ, ← i3, k3]
          · show dp ++ [s.Deposits.getD i.toNat 0 + paid.getD i.toNat 0] = tab (i + 1).toNat _
            rw [show (i + 1).toNat = i.toNat + 1 by omega, tab_succ, ← i4]
      · have hc : ¬ i < n := of_decide_eq_false hc
        have hiN : i.toNat = n := by omega
        rw [hiN] at i3 i4
        have hS := monS_ok h hi
        have hlen2 : ow.length = n := by rw [i3, tab_length]
        have hsame : (⟨dp, ow⟩ : State) = monS n m s paid b late := by rw [i3, i4]; rfl
        have ham := hS.amounts (by omega)
        rw [← hsame] at ham
        refine ok_bnde (cloneL_eq (by omega)) (ok_chk (by simp; omega) (ok_bnde (amounts_eq (by omega) (by simp; omega) ham) (ok_brkF rfl ?_)))
        rw [hsame]
        exact ok_bnd _ (settle_ok hF hS (by omega)) fun r hr => ok_some ⟨rfl, hr⟩
    · refine ok_brkT rfl (ok_bnde (cloneL_eq (by have := hi.bl; omega)) (ok_chk (by have := hi.bl; simp; omega) (ok_bnde (amounts_eq (by omega) (by have := hi.bl; simp; omega) hbr) (hk _ rfl))))
  · rw [within_eq, wb]
    refine ok_bnde (b := decide (0 ≤ late ∧ late ≤ 100)) rfl ?_
    rw [decide_eq_true hl]
    exact ok_brkF rfl (hk _ rfl)

theorem Settle_ok {F : Nat} (hF : 2000000000000 < F) {n m : Nat} {B : Int} {s : State} (h : StaOK n m B s) (hB : B ≤ 1000000000000) : Ok (fun r : State × List (List Int) × Int => r.2.2 = 0 ∧ SetP n m s (r.1, r.2.1)) (fees_Settle F s) := by
  unfold fees_Settle
  refine ok_bnde (check_eq (by omega) h hB) (ok_brkF rfl ?_)
  exact ok_bnd _ (settle_ok hF h hB) fun r hr => ok_some ⟨rfl, hr⟩

def sumO (l : List (List Int)) : Int := sumL (l.map sumL)

theorem Sum_eq {F : Nat} (hF : 100 < F) {n m : Nat} {B : Int} {s : State} (h : StaOK n m B s) (hB : B ≤ 1000000000000) : fees_Sum F s = some (sumL s.Deposits, sumO s.Owed, 0) := by
  refine Ok.eq ?_
  unfold fees_Sum
  have hn := h.nb
  have hm := h.mb
  have hol := h.ol
  have hdl := h.dl
  refine ok_bnde (check_eq (by omega) h hB) (ok_brkF rfl ?_)
  have hlm : (s.Owed.map sumL).length = n := by simp [hol]
  refine ok_loop (fun x : Int × Int × Int => 0 ≤ x.1 ∧ x.1 ≤ n ∧ x.2.1 = sumL (s.Deposits.take x.1.toNat) ∧ x.2.2 = sumL ((s.Owed.map sumL).take x.1.toNat) ∧ 0 ≤ x.2.1 ∧ x.2.1 ≤ B * x.1 ∧ 0 ≤ x.2.2 ∧ x.2.2 ≤ 6 * B * x.1) (fun x => n - x.1.toNat)
    ⟨by simp, by show (0 : Int) ≤ n; omega, rfl, rfl, by simp, by simp, by simp, by simp⟩ (by simp; omega) ?_
  rintro ⟨i, d, o⟩ next ⟨i1, i2, i3, i4, i5, i6, i7, i8⟩ hnx
  simp only at i1 i2 i3 i4 i5 i6 i7 i8
  dsimp only
  rw [hdl]
  refine ok_brk (fun hc => ?_) (fun hc => ok_some ?_)
  · have hc : i < n := of_decide_eq_true hc
    have hin : i.toNat < n := by omega
    have hd := h.d i.toNat hin
    have hrl := h.rl i.toNat hin
    have hB0 : 0 ≤ B := by omega
    have hBi : B * (i + 1) = B * i + B := by rw [Int.mul_add]; omega
    have hBi6 : 6 * B * (i + 1) = 6 * B * i + 6 * B := by rw [Int.mul_add]; omega
    have hb1 : B * i ≤ B * 10 := Int.mul_le_mul_of_nonneg_left (by omega) hB0
    have hb2 : 6 * B * i ≤ 6 * B * 10 := Int.mul_le_mul_of_nonneg_left (by omega) (by omega)
    have e1 : sumL (s.Deposits.take (i + 1).toNat) = d + s.Deposits.getD i.toNat 0 := by
      rw [show (i + 1).toNat = i.toNat + 1 by omega, take_succ' (d := 0) (by omega), sumL_append, i3]; simp only [sumL]; omega
    have e2 : sumL ((s.Owed.map sumL).take (i + 1).toNat) = o + sumL (s.Owed.getD i.toNat []) := by
      rw [show (i + 1).toNat = i.toNat + 1 by omega, take_succ' (d := 0) (by omega), sumL_append, i4]
      have : (s.Owed.map sumL).getD i.toNat 0 = sumL (s.Owed.getD i.toNat []) := by
        rw [getD_get (by omega), List.getElem_map, getD_get (by omega)]
      simp only [sumL, this]; omega
    have hO : ∀ x ∈ s.Owed.getD i.toNat [], 0 ≤ x ∧ x ≤ B := fun x hx => by
      obtain ⟨k, hk, rfl⟩ := List.getElem_of_mem hx
      have := h.o i.toNat hin k (by omega)
      rwa [getD_get hk] at this
    generalize s.Owed.getD i.toNat [] = O at hrl e2 hO ⊢
    refine ok_chk ⟨i1, hc⟩ (ok_chk (show InR _ from ⟨by omega, by omega⟩) (ok_chk ⟨i1, by omega⟩ ?_))
    have hpB : ∀ k : Nat, 0 ≤ sumL (O.take k) ∧ sumL (O.take k) ≤ B * 6 := fun k => by
      have h1 := sumL_nonneg (O.take k) fun x hx => (hO x (List.mem_of_mem_take hx)).1
      have h2 := sumL_le (O.take k) (B := B) fun x hx => (hO x (List.mem_of_mem_take hx)).2
      have h3 : (O.take k).length ≤ 6 := by rw [List.length_take]; omega
      have h4 : B * ((O.take k).length : Int) ≤ B * 6 := Int.mul_le_mul_of_nonneg_left (by omega) hB0
      omega
    refine ok_loop (fun x : Int × Int => 0 ≤ x.1 ∧ x.1 ≤ m ∧ x.2 = o + sumL (O.take x.1.toNat)) (fun x => m - x.1.toNat) ⟨by simp, by show (0 : Int) ≤ m; omega, by simp [sumL]⟩ (by simp; omega) ?_
    rintro ⟨k, q⟩ next2 ⟨k1, k2, k3⟩ hn2
    simp only at k1 k2 k3
    dsimp only
    rw [hrl]
    refine ok_brk (fun hb => ?_) (fun hb => ?_)
    · have hb : k < m := of_decide_eq_true hb
      have hk := hO _ (getD_mem (d := 0) (show k.toNat < O.length by omega))
      have h1 := hpB k.toNat
      have e3 : sumL (O.take (k + 1).toNat) = sumL (O.take k.toNat) + O.getD k.toNat 0 := by
        rw [show (k + 1).toNat = k.toNat + 1 by omega, take_succ' (d := 0) (by omega), sumL_append]; simp only [sumL]; omega
      exact ok_chk ⟨k1, hb⟩ (ok_chk (show InR _ from ⟨by omega, by omega⟩) (ok_chk (show InR _ from ⟨by omega, by omega⟩) (hn2 _ ⟨by show 0 ≤ k + 1; omega, by show k + 1 ≤ m; omega, by show q + _ = o + _; rw [e3]; omega⟩ (by show m - (k + 1).toNat < m - k.toNat; omega))))
    · have hb : ¬ k < m := of_decide_eq_false hb
      have h1 := hpB k.toNat
      rw [List.take_of_length_le (by omega)] at k3 h1
      exact ok_chk (show InR _ from ⟨by omega, by omega⟩) (hnx _ ⟨by show 0 ≤ i + 1; omega, by show i + 1 ≤ n; omega, e1.symm, by show q = _; rw [e2]; exact k3, by show 0 ≤ d + _; omega, by show d + _ ≤ B * (i + 1); omega, by show 0 ≤ q; omega, by show q ≤ 6 * B * (i + 1); omega⟩ (by show n - (i + 1).toNat < n - i.toNat; omega))
  · have hc : ¬ i < n := of_decide_eq_false hc
    rw [List.take_of_length_le (by omega)] at i3 i4
    rw [i3, i4]; rfl
end Go.Proofs.Fe

namespace Go.Proofs.Fe
open Go Go.KX

abbrev b0 : Band := ⟨0, 0⟩

def BandsOK : Int → List Band → Prop
  | _, [] => True
  | b, x :: l => (b + 1 ≤ x.Upto ∧ x.Upto ≤ 500000) ∧ (0 ≤ x.Rate ∧ x.Rate ≤ 1000) ∧ BandsOK x.Upto l
def endB : Int → List Band → Int
  | b, [] => b
  | _, x :: l => endB x.Upto l
def ClassOK : Int → List Int → Prop
  | _, [] => True
  | m, x :: l => (0 ≤ x ∧ x ≤ m) ∧ ClassOK x l
def classes (t : Tariff) : List Int := [t.Class.a0, t.Class.a1, t.Class.a2, t.Class.a3, t.Class.a4, t.Class.a5, t.Class.a6]

structure Nums (t : Tariff) : Prop where
  most : 0 ≤ t.Most ∧ t.Most ≤ 1000000000
  least : 0 ≤ t.Least ∧ t.Least ≤ t.Most
  paid : 1 ≤ t.Paid ∧ t.Paid ≤ 1000
  mile : 0 ≤ t.Mile ∧ t.Mile ≤ 100000
  escort : 0 ≤ t.Escort ∧ t.Escort ≤ 1000000
  cut : 0 ≤ t.Cut ∧ t.Cut ≤ 1000000
  tow : 0 ≤ t.Tow ∧ t.Tow ≤ 1000000

structure TarOK (t : Tariff) : Prop where
  len : 1 ≤ t.Bands.length ∧ t.Bands.length ≤ 8
  bands : BandsOK 0 t.Bands
  last : endB 0 t.Bands = 500000
  cls : ClassOK 300 (classes t)
  nums : Nums t

open Classical in
noncomputable def checkV (t : Tariff) : Int := if 1 ≤ t.Bands.length ∧ t.Bands.length ≤ 8 then (if TarOK t then 0 else 130) else 2

theorem checkV_zero {t : Tariff} (h : checkV t = 0) : TarOK t := by
  unfold checkV at h
  split at h
  · split at h
    · assumption
    · omega
  · omega
theorem TarOK.check {t : Tariff} (h : TarOK t) : checkV t = 0 := by
  unfold checkV
  rw [if_pos h.len, if_pos h]

/-- A condition that fails: the tariff is wrong. -/
theorem checkV_bad {t : Tariff} (hl : 1 ≤ t.Bands.length ∧ t.Bands.length ≤ 8) (h : ¬ TarOK t) : (130 : Int) = checkV t := by
  unfold checkV
  rw [if_pos hl, if_neg h]

theorem BandsOK.split : ∀ {l : List Band} {b : Int} (i : Nat), BandsOK b l → BandsOK (endB b (l.take i)) (l.drop i)
  | _, _, 0, h => h
  | [], _, i + 1, _ => trivial
  | x :: l, _, i + 1, h => by
    show BandsOK (endB x.Upto (l.take i)) (l.drop i)
    exact BandsOK.split i h.2.2
theorem endB_snoc : ∀ (l : List Band) (b : Int) (x : Band), endB b (l ++ [x]) = x.Upto
  | [], _, _ => rfl
  | y :: l, _, x => endB_snoc l y.Upto x
theorem BandsOK.join : ∀ {l r : List Band} {b : Int}, BandsOK b l → BandsOK (endB b l) r → BandsOK b (l ++ r)
  | [], _, _, _, h => h
  | _ :: _, _, _, h, h2 => ⟨h.1, h.2.1, BandsOK.join h.2.2 h2⟩
theorem BandsOK.left : ∀ {l r : List Band} {b : Int}, BandsOK b (l ++ r) → BandsOK b l
  | [], _, _, _ => trivial
  | _ :: _, _, _, h => ⟨h.1, h.2.1, BandsOK.left h.2.2⟩
theorem ClassOK.left : ∀ {l r : List Int} {b : Int}, ClassOK b (l ++ r) → ClassOK b l
  | [], _, _, _ => trivial
  | _ :: _, _, _, h => ⟨h.1, ClassOK.left h.2⟩
def endC : Int → List Int → Int
  | b, [] => b
  | _, x :: l => endC x l
theorem endC_snoc : ∀ (l : List Int) (b : Int) (x : Int), endC b (l ++ [x]) = x
  | [], _, _ => rfl
  | y :: l, _, x => endC_snoc l y x
theorem ClassOK.join : ∀ {l r : List Int} {b : Int}, ClassOK b l → ClassOK (endC b l) r → ClassOK b (l ++ r)
  | [], _, _, _, h => h
  | _ :: _, _, _, h, h2 => ⟨h.1, ClassOK.join h.2 h2⟩
theorem ClassOK.right : ∀ {l r : List Int} {b : Int}, ClassOK b (l ++ r) → ClassOK (endC b l) r
  | [], _, _, h => h
  | _ :: l, _, _, h => ClassOK.right (l := l) h.2
theorem ClassOK.all : ∀ {l : List Int} {m : Int}, ClassOK m l → ∀ x ∈ l, 0 ≤ x ∧ x ≤ m
  | y :: l, m, h, x, hx => by
    rcases List.mem_cons.1 hx with rfl | hx
    · exact h.1
    · have := ClassOK.all h.2 x hx
      have := h.1
      omega
theorem ClassOK.anti : ∀ {l : List Int} {m : Int}, ClassOK m l → ∀ {i j : Nat}, i ≤ j → j < l.length → l.getD j 0 ≤ l.getD i 0
  | y :: l, m, h, 0, 0, _, _ => Int.le_refl _
  | y :: l, m, h, 0, j + 1, _, hj => (h.2.all _ (getD_mem (d := 0) (by simpa using hj))).2
  | y :: l, m, h, i + 1, j + 1, hij, hj => ClassOK.anti h.2 (by omega) (by simpa using hj)
theorem take_one {α : Type} {l : List α} {i : Nat} {d : α} (h : i < l.length) : l = l.take i ++ (l.getD i d :: l.drop (i + 1)) := by
  rw [← drop_get h, List.take_append_drop]

/-! ### Check -/

theorem check1_eq (F : Nat) (c : Int) : fees_Check_1 F c = some (!decide (0 ≤ c ∧ c ≤ 1000000)) := by
  show some (!(decide (c ≥ 0) && decide (c ≤ 1000000))) = _
  rw [wb]

theorem Check_eq {F : Nat} (hF : 100 < F) (t : Tariff) : fees_Check F t = some (checkV t) := by
  refine Ok.eq ?_
  unfold fees_Check
  rw [within_eq, wb]
  refine ok_bnde rfl (ok_brk (fun hb => ok_some ?_) (fun hb => ?_))
  · have := nd_true hb
    unfold checkV; rw [if_neg (by omega)]
  have hlen := nd_false hb
  have hl : 1 ≤ t.Bands.length ∧ t.Bands.length ≤ 8 := by omega
  refine ok_loop (fun x : Int × Int => 0 ≤ x.1 ∧ x.1 ≤ t.Bands.length ∧ x.2 = endB 0 (t.Bands.take x.1.toNat) ∧ 0 ≤ x.2 ∧ x.2 ≤ 500000 ∧ BandsOK 0 (t.Bands.take x.1.toNat)) (fun x : Int × Int => t.Bands.length - x.1.toNat)
    ⟨by simp, by simp, rfl, by simp, by simp, trivial⟩ (by simp; omega) ?_
  rintro ⟨i, u⟩ next ⟨i1, i2, i3, i4, i5, i6⟩ hn
  simp only at i1 i2 i3 i4 i5 i6
  dsimp only
  refine ok_brk (fun hc => ?_) (fun hc => ?_)
  · have hc : i < t.Bands.length := of_decide_eq_true hc
    have hi : i.toNat < t.Bands.length := by omega
    rw [within_eq, within_eq, wb, wb]
    refine ok_chk ⟨i1, hc⟩ (ok_chk (show InR _ from ⟨by omega, by omega⟩) (ok_bnde rfl ?_))
    by_cases h1 : u + 1 ≤ (t.Bands.getD i.toNat ⟨0, 0⟩).Upto ∧ (t.Bands.getD i.toNat ⟨0, 0⟩).Upto ≤ 500000
    · rw [decide_eq_true h1]
      refine ok_bnde (b := decide (0 ≤ (t.Bands.getD i.toNat ⟨0, 0⟩).Rate ∧ (t.Bands.getD i.toNat ⟨0, 0⟩).Rate ≤ 1000)) rfl (ok_brk (fun hb => ok_some ?_) (fun hb => ok_chk (show InR _ from ⟨by omega, by omega⟩) (hn _ ⟨by show 0 ≤ i + 1; omega, by show i + 1 ≤ _; omega, ?_, by show 0 ≤ (t.Bands.getD i.toNat ⟨0, 0⟩).Upto; omega, h1.2, ?_⟩ (by show t.Bands.length - (i + 1).toNat < t.Bands.length - i.toNat; omega))))
      · refine checkV_bad hl fun hk => ?_
        have := hk.bands.split i.toNat
        rw [drop_get (d := b0) hi] at this
        rw [Bool.not_true, Bool.false_or] at hb
        exact nd_true hb this.2.1
      · show (t.Bands.getD i.toNat ⟨0, 0⟩).Upto = _
        rw [show (i + 1).toNat = i.toNat + 1 by omega, take_succ' (d := b0) hi, endB_snoc]
      · rw [show (i + 1).toNat = i.toNat + 1 by omega, take_succ' (d := b0) hi]
        rw [Bool.not_true, Bool.false_or] at hb
        refine i6.join ⟨?_, nd_false hb, trivial⟩
        rw [← i3]; exact h1
    · rw [decide_eq_false h1]
      refine ok_bnde (b := false) rfl (ok_brkT rfl (ok_some (checkV_bad hl fun hk => h1 ?_)))
      have := hk.bands.split i.toNat
      rw [drop_get (d := b0) hi, ← i3] at this
      exact this.1
  have hc : ¬ i < t.Bands.length := of_decide_eq_false hc
  rw [List.take_of_length_le (by omega)] at i3 i6
  have hcl : ([t.Class.a0, t.Class.a1, t.Class.a2, t.Class.a3, t.Class.a4, t.Class.a5, t.Class.a6] : List Int) = classes t := rfl
  have h7 : (classes t).length = 7 := rfl
  rw [hcl]
  refine ok_loop (fun x : Int × Int => 0 ≤ x.2 ∧ x.2 ≤ 7 ∧ x.1 = endC 300 ((classes t).take x.2.toNat) ∧ ClassOK 300 ((classes t).take x.2.toNat)) (fun x : Int × Int => 7 - x.2.toNat)
    ⟨by simp, by simp, rfl, trivial⟩ (by simp; omega) ?_
  rintro ⟨m, j⟩ next ⟨j1, j2, j3, j4⟩ hn
  simp only at j1 j2 j3 j4
  dsimp only
  refine ok_brk (fun hc => ?_) (fun hc => ?_)
  · have hc : j < 7 := of_decide_eq_true hc
    have hj : j.toNat < (classes t).length := by omega
    rw [within_eq, wb]
    refine ok_chk ⟨j1, hc⟩ (ok_bnde rfl (ok_brk (fun hb => ok_some (checkV_bad hl fun hk => ?_)) (fun hb => ok_chk (show InR _ from ⟨by omega, by omega⟩) (hn _ ⟨by show 0 ≤ j + 1; omega, by show j + 1 ≤ 7; omega, ?_, ?_⟩ (by show 7 - (j + 1).toNat < 7 - j.toNat; omega)))))
    · have := hk.cls
      rw [take_one (d := 0) hj] at this
      have := this.right
      rw [← j3] at this
      exact nd_true hb this.1
    · show (classes t).getD j.toNat 0 = _
      rw [show (j + 1).toNat = j.toNat + 1 by omega, take_succ' (d := 0) hj, endC_snoc]
    · rw [show (j + 1).toNat = j.toNat + 1 by omega, take_succ' (d := 0) hj]
      refine j4.join ⟨?_, trivial⟩
      rw [← j3]; exact nd_false hb
  have hc : ¬ j < 7 := of_decide_eq_false hc
  rw [List.take_of_length_le (by omega)] at j4
  refine ok_brk (fun hb => ok_some (checkV_bad hl fun hk => ?_)) (fun hb => ?_)
  · have := hk.last
    simp at hb; omega
  have hu : u = 500000 := by simpa using hb
  rw [within_eq, within_eq, within_eq, within_eq, wb, wb, wb, wb]
  refine ok_bnde rfl (ok_brk (fun hb => ok_some (checkV_bad hl fun hk => nd_true hb hk.nums.most)) (fun q1 => ?_))
  refine ok_bnde rfl (ok_brk (fun hb => ok_some (checkV_bad hl fun hk => nd_true hb hk.nums.least)) (fun q2 => ?_))
  refine ok_bnde rfl (ok_brk (fun hb => ok_some (checkV_bad hl fun hk => nd_true hb hk.nums.paid)) (fun q3 => ?_))
  refine ok_bnde rfl (ok_brk (fun hb => ok_some (checkV_bad hl fun hk => nd_true hb hk.nums.mile)) (fun q4 => ?_))
  refine ok_join (by omega) (fun x : Int => (x = -1 ∧ TarOK t) ∨ (0 ≤ x ∧ ¬ TarOK t)) (fun x hx => ok_brk (fun hb => ok_some ?_) (fun hb => ok_some ?_)) fun k hk => ?_
  · have hb : x ≥ 0 := of_decide_eq_true hb
    rcases hx with ⟨rfl, _⟩ | ⟨_, hx⟩
    · omega
    · exact checkV_bad hl hx
  · have hb : ¬ x ≥ 0 := of_decide_eq_false hb
    rcases hx with ⟨_, hx⟩ | ⟨hx, _⟩
    · exact hx.check.symm
    · omega
  · refine ok_find (l := [t.Escort, t.Cut, t.Tow]) (p := fun c => !decide (0 ≤ c ∧ c ≤ 1000000)) (by simp; omega) (by simp) (fun c _ => check1_eq F c) (fun i hi hp => hk _ (.inr ⟨by omega, fun q => ?_⟩)) (fun hp => hk _ (.inl ⟨rfl, ?_⟩))
    · have hm := getD_mem (d := 0) hi
      have hp := nd_true hp
      simp only [List.mem_cons, List.not_mem_nil, or_false] at hm
      rcases hm with e | e | e <;> rw [e] at hp
      · exact hp q.nums.escort
      · exact hp q.nums.cut
      · exact hp q.nums.tow
    · refine ⟨hl, i6, by rw [← i3]; exact hu, j4, nd_false q1, nd_false q2, nd_false q3, nd_false q4, nd_false (hp t.Escort (by simp)), nd_false (hp t.Cut (by simp)), nd_false (hp t.Tow (by simp))⟩
end Go.Proofs.Fe

namespace Go.Proofs.Fe
open Go Go.KX

def back (t : Tariff2) : Tariff := ⟨t.Bands, t.Class, t.Least, t.Most, t.Paid, t.Mile, t.Escort, t.Cut, t.Tow⟩
def conv (t : Tariff) : Tariff2 := ⟨t.Bands, t.Class, t.Least, t.Most, t.Paid, t.Mile, t.Escort, t.Cut, t.Tow⟩
theorem back_conv (t : Tariff) : back (conv t) = t := rfl

theorem endB_take {l : List Band} {i : Nat} (h : i < l.length) (b : Int) : endB b (l.take (i + 1)) = (l.getD i b0).Upto := by
  rw [take_succ' (d := b0) h, endB_snoc]

/-- What comes before element i. -/
theorem prev_band {l : List Band} {i : Int} (h0 : 0 < i) (h : i ≤ l.length) : endB 0 (l.take i.toNat) = (l.getD (i - 1).toNat b0).Upto := by
  rw [show i.toNat = (i - 1).toNat + 1 by omega, endB_take (by omega)]
theorem prev_class {l : List Int} {i : Int} (h0 : 0 < i) (h : i ≤ l.length) : endC 300 (l.take i.toNat) = l.getD (i - 1).toNat 0 := by
  rw [show i.toNat = (i - 1).toNat + 1 by omega, take_succ' (d := 0) (by omega), endC_snoc]

theorem refCheck_eq {F : Nat} (hF : 100 < F) (t : Tariff2) : ref12_Check F t = some (checkV (back t)) := by
  refine Ok.eq ?_
  unfold ref12_Check
  refine ok_brk (fun hb => ok_some ?_) (fun hb => ?_)
  · simp only [Bool.or_eq_true, decide_eq_true_eq] at hb
    unfold checkV; rw [if_neg (by show ¬ (1 ≤ t.Bands.length ∧ t.Bands.length ≤ 8); omega)]
  simp only [Bool.or_eq_false_iff, decide_eq_false_iff_not] at hb
  have hl : 1 ≤ (back t).Bands.length ∧ (back t).Bands.length ≤ 8 := by show 1 ≤ t.Bands.length ∧ t.Bands.length ≤ 8; omega
  have hl' : 1 ≤ t.Bands.length ∧ t.Bands.length ≤ 8 := hl
  refine ok_loop (fun x : Int => 0 ≤ x ∧ x ≤ t.Bands.length ∧ 0 ≤ endB 0 (t.Bands.take x.toNat) ∧ (0 < x → 1 ≤ endB 0 (t.Bands.take x.toNat)) ∧ BandsOK 0 (t.Bands.take x.toNat)) (fun x : Int => t.Bands.length - x.toNat)
    ⟨by simp, by simp, by simp [endB], by simp, trivial⟩ (by simp; omega) ?_
  rintro i next ⟨i1, i2, i3, i4, i5⟩ hn
  refine ok_brk (fun hc => ?_) (fun hc => ?_)
  · have hc : i < t.Bands.length := of_decide_eq_true hc
    have hi : i.toNat < t.Bands.length := by omega
    have hsplit : TarOK (back t) → BandsOK (endB 0 (t.Bands.take i.toNat)) (t.Bands.getD i.toNat b0 :: t.Bands.drop (i.toNat + 1)) := fun hk => by
      have := hk.bands.split i.toNat
      rwa [show (back t).Bands = t.Bands from rfl, drop_get (d := b0) hi] at this
    have hsn : t.Bands.take (i + 1).toNat = t.Bands.take i.toNat ++ [t.Bands.getD i.toNat b0] := by
      rw [show (i + 1).toNat = i.toNat + 1 by omega, take_succ' (d := b0) hi]
    rw [refIn_eq, refIn_eq, wb, wb]
    refine ok_chk ⟨i1, hc⟩ (ok_bnde rfl ?_)
    have hprev : 0 < i → endB 0 (t.Bands.take i.toNat) = (t.Bands.getD (i - 1).toNat ⟨0, 0⟩).Upto := fun h => prev_band h (by omega)
    generalize hx : t.Bands.getD i.toNat ⟨0, 0⟩ = X at hsplit hsn ⊢
    by_cases h1 : 1 ≤ X.Upto ∧ X.Upto ≤ 500000
    · rw [decide_eq_true h1]
      refine ok_bnde (b := decide (0 ≤ X.Rate ∧ X.Rate ≤ 1000)) rfl ?_
      refine ok_chk (fun h => ⟨by omega, by omega⟩) (ok_chk (fun h => ?_) (ok_brk (fun hb => ok_some (checkV_bad hl fun hk => ?_)) (fun hb => ok_chk (show InR _ from ⟨by omega, by omega⟩) ?_)))
      · simp only [Bool.and_eq_true, decide_eq_true_eq] at h; omega
      · have hs := hsplit hk
        simp only [Bool.not_true, Bool.false_or, Bool.or_eq_true, Bool.and_eq_true, decide_eq_true_eq] at hb
        rcases hb with hb | ⟨hb, hb2⟩
        · exact nd_true hb hs.2.1
        · have := hprev hb
          have := hs.1.1
          omega
      · simp only [Bool.not_true, Bool.false_or, Bool.or_eq_false_iff, Bool.and_eq_false_iff, decide_eq_false_iff_not] at hb
        have hr := nd_false hb.1
        refine hn _ ⟨by omega, by omega, ?_, fun _ => ?_, ?_⟩ (by show t.Bands.length - (i + 1).toNat < t.Bands.length - i.toNat; omega)
        · rw [hsn, endB_snoc]; omega
        · rw [hsn, endB_snoc]; omega
        · rw [hsn]
          refine i5.join ⟨⟨?_, h1.2⟩, hr, trivial⟩
          by_cases h0 : i > 0
          · have := hprev h0
            rcases hb.2 with q | q <;> omega
          · have : i = 0 := by omega
            subst this
            show (0 : Int) + 1 ≤ _
            omega
    · rw [decide_eq_false h1]
      refine ok_bnde (b := false) rfl (ok_chk (fun h => ⟨by omega, by omega⟩) (ok_chk (fun h => by simp at h) (ok_brkT rfl (ok_some (checkV_bad hl fun hk => h1 ?_)))))
      have := hsplit hk
      have := this.1
      omega
  have hc : ¬ i < t.Bands.length := of_decide_eq_false hc
  have hii : i = t.Bands.length := by omega
  have hlast : endB 0 t.Bands = (t.Bands.getD ((t.Bands.length : Int) - 1).toNat ⟨0, 0⟩).Upto := by
    have := prev_band (l := t.Bands) (i := t.Bands.length) (by omega) (by omega)
    rwa [List.take_of_length_le (by omega)] at this
  rw [List.take_of_length_le (by omega)] at i3 i5
  refine ok_chk (show InR _ from ⟨by omega, by omega⟩) (ok_chk ⟨by omega, by omega⟩ (ok_brk (fun hb => ok_some (checkV_bad hl fun hk => ?_)) (fun hb => ?_)))
  · have h1 := hk.last
    have h2 : endB 0 t.Bands = 500000 := h1
    rw [hlast] at h2
    rw [h2] at hb; simp at hb
  have hlast5 : endB 0 t.Bands = 500000 := by
    rw [hlast]; exact (bne_eq_false_iff_eq.1 hb)
  have hcl : ([t.Class.a0, t.Class.a1, t.Class.a2, t.Class.a3, t.Class.a4, t.Class.a5, t.Class.a6] : List Int) = classes (back t) := rfl
  have h7 : (classes (back t)).length = 7 := rfl
  rw [hcl]
  generalize hg : classes (back t) = cls at h7
  refine ok_loop (fun x : Int => 0 ≤ x ∧ x ≤ 7 ∧ ClassOK 300 (cls.take x.toNat)) (fun x : Int => 7 - x.toNat) ⟨by simp, by simp, trivial⟩ (by simp; omega) ?_
  rintro j next ⟨j1, j2, j4⟩ hn
  refine ok_brk (fun hc => ?_) (fun hc => ?_)
  · have hc : j < 7 := of_decide_eq_true hc
    have hj : j.toNat < cls.length := by omega
    have hsn : cls.take (j + 1).toNat = cls.take j.toNat ++ [cls.getD j.toNat 0] := by
      rw [show (j + 1).toNat = j.toNat + 1 by omega, take_succ' (d := 0) hj]
    have hprev : 0 < j → endC 300 (cls.take j.toNat) = cls.getD (j - 1).toNat 0 := fun h => prev_class h (by omega)
    have hpm : 0 < j → 0 ≤ cls.getD (j - 1).toNat 0 ∧ cls.getD (j - 1).toNat 0 ≤ 300 := fun h => by
      have := j4.all (cls.getD (j - 1).toNat 0) (by
        rw [getD_get (by omega)]
        exact List.mem_take_iff_getElem.2 ⟨(j - 1).toNat, by omega, rfl⟩)
      exact this
    have hsp : TarOK (back t) → ClassOK (endC 300 (cls.take j.toNat)) (cls.getD j.toNat 0 :: cls.drop (j.toNat + 1)) := fun hk => by
      have := hk.cls
      rw [hg, take_one (d := 0) hj] at this
      exact this.right
    generalize hX : cls.getD j.toNat 0 = X at hsn hsp ⊢
    rw [refIn_eq, wb]
    refine ok_chk ⟨j1, hc⟩ (ok_bnde rfl (ok_chk (fun _ => ⟨j1, hc⟩) (ok_chk (fun _ => ⟨by omega, by omega⟩) (ok_chk (fun h => ?_) (ok_brk (fun hb => ok_some (checkV_bad hl fun hk => ?_)) (fun hb => ok_chk (show InR _ from ⟨by omega, by omega⟩) (hn _ ⟨by omega, by omega, ?_⟩ (by show 7 - (j + 1).toNat < 7 - j.toNat; omega))))))))
    · simp only [Bool.and_eq_true, decide_eq_true_eq] at h
      exact ⟨by omega, by show j - 1 < 7; omega⟩
    · have hs := (hsp hk).1
      simp only [Bool.or_eq_true, Bool.and_eq_true, decide_eq_true_eq] at hb
      rcases hb with hb | ⟨hb, hb2⟩
      · refine nd_true hb ⟨hs.1, ?_⟩
        by_cases h0 : 0 < j
        · have := hprev h0; have := hpm h0; omega
        · obtain rfl : j = 0 := by omega
          exact hs.2
      · have := hprev hb; omega
    · simp only [Bool.or_eq_false_iff, Bool.and_eq_false_iff, decide_eq_false_iff_not] at hb
      have hr := nd_false hb.1
      rw [hsn]
      refine j4.join ⟨⟨hr.1, ?_⟩, trivial⟩
      by_cases h0 : 0 < j
      · have := hprev h0
        rcases hb.2 with q | q <;> omega
      · obtain rfl : j = 0 := by omega
        exact hr.2
  have hc : ¬ j < 7 := of_decide_eq_false hc
  rw [List.take_of_length_le (by omega)] at j4
  have hN : Nums (back t) → TarOK (back t) := fun h => ⟨hl, i5, hlast5, by rw [hg]; exact j4, h⟩
  simp only [refIn_eq, wb]
  refine ok_bnde rfl ?_
  have e1 : ∀ (c p : Prop) [Decidable c] [Decidable p], brk (decide c) (some (decide p)) (some false) = some (decide (c ∧ p)) := fun c p _ _ => by
    by_cases h : c
    · simp [h, brk]
    · simp [h, brk]
  have e2 : ∀ (b : Bool) (p : Prop) [Decidable p], brk b (some (decide p)) (some false) = some (b && decide p) := fun b p _ => by cases b <;> rfl
  rw [e2]
  refine ok_bnde rfl ?_
  rw [e2]
  refine ok_bnde rfl (ok_brk (fun hb => ok_some (checkV_bad hl fun hk => ?_)) (fun hq => ?_))
  · have h1 := hk.nums.least
    have h2 := hk.nums.most
    have h3 := hk.nums.paid
    have g1 : 0 ≤ t.Least ∧ t.Least ≤ t.Most := h1
    have g2 : 0 ≤ t.Most ∧ t.Most ≤ 1000000000 := h2
    have g3 : 1 ≤ t.Paid ∧ t.Paid ≤ 1000 := h3
    rw [decide_eq_true (show 0 ≤ t.Least ∧ t.Least ≤ 1000000000 by omega), decide_eq_true g2, decide_eq_false (show ¬ t.Least > t.Most by omega), decide_eq_true g3] at hb
    cases hb
  refine ok_bnde rfl ?_
  rw [e2]
  refine ok_bnde rfl ?_
  rw [e2]
  refine ok_bnde rfl ?_
  rw [e2]
  refine ok_bnde rfl (ok_brk (fun hb => ok_some (checkV_bad hl fun hk => ?_)) (fun hr => ok_some ?_))
  · have g1 : 0 ≤ t.Mile ∧ t.Mile ≤ 100000 := hk.nums.mile
    have g2 : 0 ≤ t.Escort ∧ t.Escort ≤ 1000000 := hk.nums.escort
    have g3 : 0 ≤ t.Cut ∧ t.Cut ≤ 1000000 := hk.nums.cut
    have g4 : 0 ≤ t.Tow ∧ t.Tow ≤ 1000000 := hk.nums.tow
    rw [decide_eq_true g1, decide_eq_true g2, decide_eq_true g3, decide_eq_true g4] at hb
    cases hb
  · refine (hN ?_).check.symm
    have split : ∀ a b : Bool, (a || b) = false → a = false ∧ b = false := fun a b h => by cases a <;> cases b <;> simp_all
    obtain ⟨hq, p4⟩ := split _ _ hq
    obtain ⟨hq, p3⟩ := split _ _ hq
    obtain ⟨p1, p2⟩ := split _ _ hq
    have n1 := nd_false p1
    rw [decide_eq_true n1] at p2 p4
    simp only [Bool.not_true, Bool.not_false, Bool.true_and, Bool.false_or] at p2 p4
    have n2 := nd_false p2
    rw [decide_eq_true n2] at p4
    have n3 := of_decide_eq_false p3
    rw [decide_eq_false n3] at p4
    simp only [Bool.not_true, Bool.not_false, Bool.true_and, Bool.or_false] at p4
    have n4 := nd_false p4
    obtain ⟨hr, r4⟩ := split _ _ hr
    obtain ⟨hr, r3⟩ := split _ _ hr
    obtain ⟨r1, r2⟩ := split _ _ hr
    have m1 := nd_false r1
    rw [decide_eq_true m1] at r2 r3 r4
    simp only [Bool.not_true, Bool.not_false, Bool.true_and, Bool.false_or] at r2 r3 r4
    have m2 := nd_false r2
    rw [decide_eq_true m2] at r3 r4
    simp only [Bool.not_true, Bool.not_false, Bool.true_and, Bool.false_or] at r3 r4
    have m3 := nd_false r3
    rw [decide_eq_true m3] at r4
    simp only [Bool.not_true, Bool.not_false, Bool.true_and] at r4
    have m4 := nd_false r4
    exact ⟨n2, ⟨n1.1, by show t.Least ≤ t.Most; omega⟩, n4, m1, m2, m3, m4⟩

/-! ### Dues -/

def part (b n u : Int) : Int := if (if u < n then u else n) - b > 0 then (if u < n then u else n) - b else 0
def bandSum (n : Int) : Int → List Band → Int
  | _, [] => 0
  | b, x :: l => x.Rate * part b n x.Upto + bandSum n x.Upto l
def roundV (t : Tariff) (s c : Int) : Int := (s * (classes t).getD c.toNat 0 + 50) / 100
def clamp (t : Tariff) (x : Int) : Int := if (if x > t.Least then x else t.Least) < t.Most then if x > t.Least then x else t.Least else t.Most
def duesV (t : Tariff) (c n : Int) : Int := clamp t (roundV t (bandSum n 0 t.Bands) c)

theorem part_le {b n u : Int} (h : b ≤ u) : 0 ≤ part b n u ∧ part b n u ≤ u - b := by
  unfold part; (repeat' split) <;> omega
theorem part_mono {b n m u : Int} (h : n ≤ m) : part b n u ≤ part b m u := by
  unfold part; (repeat' split) <;> omega

theorem bandSum_bound {n : Int} : ∀ {l : List Band} {b : Int}, BandsOK b l → 0 ≤ bandSum n b l ∧ bandSum n b l ≤ 1000 * (endB b l - b)
  | [], b, _ => by simp only [bandSum, endB]; omega
  | x :: l, b, h => by
    have h1 := bandSum_bound (n := n) h.2.2
    have h2 := part_le (b := b) (n := n) (u := x.Upto) (by have := h.1.1; omega)
    have h3 : 0 ≤ x.Rate * part b n x.Upto := Int.mul_nonneg h.2.1.1 h2.1
    have h4 : x.Rate * part b n x.Upto ≤ 1000 * part b n x.Upto := Int.mul_le_mul_of_nonneg_right h.2.1.2 h2.1
    simp only [bandSum, endB]
    omega
theorem bandSum_mono {n m : Int} (hnm : n ≤ m) : ∀ {l : List Band} {b : Int}, BandsOK b l → bandSum n b l ≤ bandSum m b l
  | [], b, _ => Int.le_refl _
  | x :: l, b, h => by
    have h1 := bandSum_mono hnm h.2.2
    have h2 : x.Rate * part b n x.Upto ≤ x.Rate * part b m x.Upto := Int.mul_le_mul_of_nonneg_left (part_mono hnm) h.2.1.1
    simp only [bandSum]
    omega
theorem bandSum_snoc (n : Int) (x : Band) : ∀ (l : List Band) (b : Int), bandSum n b (l ++ [x]) = bandSum n b l + x.Rate * part (endB b l) n x.Upto
  | [], b => by simp only [List.nil_append, bandSum, endB]; omega
  | y :: l, b => by
    have := bandSum_snoc n x l y.Upto
    simp only [List.cons_append, bandSum, endB, this]
    omega

theorem clamp_mono {t : Tariff} {x y : Int} (h : x ≤ y) : clamp t x ≤ clamp t y := by
  unfold clamp
  (repeat' split) <;> omega
theorem clamp_bound {t : Tariff} {x : Int} (h : t.Least ≤ t.Most) : t.Least ≤ clamp t x ∧ clamp t x ≤ t.Most := by
  unfold clamp
  (repeat' split) <;> omega

theorem TarOK.class {t : Tariff} (h : TarOK t) {c : Int} (h0 : 0 ≤ c) (h1 : c ≤ 6) : 0 ≤ (classes t).getD c.toNat 0 ∧ (classes t).getD c.toNat 0 ≤ 300 :=
  h.cls.all _ (getD_mem (by show c.toNat < 7; omega))
theorem TarOK.sum {t : Tariff} (h : TarOK t) (n : Int) : 0 ≤ bandSum n 0 t.Bands ∧ bandSum n 0 t.Bands ≤ 500000000 := by
  have h1 := bandSum_bound (n := n) h.bands
  rw [h.last] at h1
  omega
theorem TarOK.prod {t : Tariff} (h : TarOK t) {c : Int} (h0 : 0 ≤ c) (h1 : c ≤ 6) (n : Int) : 0 ≤ bandSum n 0 t.Bands * (classes t).getD c.toNat 0 ∧ bandSum n 0 t.Bands * (classes t).getD c.toNat 0 ≤ 150000000000 := by
  have h2 := h.class h0 h1
  have h3 := h.sum n
  refine ⟨Int.mul_nonneg h3.1 h2.1, ?_⟩
  have h4 : bandSum n 0 t.Bands * (classes t).getD c.toNat 0 ≤ bandSum n 0 t.Bands * 300 := Int.mul_le_mul_of_nonneg_left h2.2 h3.1
  omega
theorem dues_mono {t : Tariff} (h : TarOK t) {c n m : Int} (h0 : 0 ≤ c) (h1 : c ≤ 6) (hnm : n ≤ m) : duesV t c n ≤ duesV t c m := by
  refine clamp_mono ?_
  unfold roundV
  have h2 := h.class h0 h1
  have h3 : bandSum n 0 t.Bands * (classes t).getD c.toNat 0 ≤ bandSum m 0 t.Bands * (classes t).getD c.toNat 0 := Int.mul_le_mul_of_nonneg_right (bandSum_mono hnm h.bands) h2.1
  omega
theorem dues_class {t : Tariff} (h : TarOK t) {c d n : Int} (h1 : d ≤ 6) (hcd : c ≤ d) : duesV t d n ≤ duesV t c n := by
  refine clamp_mono ?_
  unfold roundV
  have h2 := h.cls.anti (i := c.toNat) (j := d.toNat) (by omega) (by show d.toNat < 7; omega)
  have h3 := (h.sum n).1
  have h4 : bandSum n 0 t.Bands * (classes t).getD d.toNat 0 ≤ bandSum n 0 t.Bands * (classes t).getD c.toNat 0 := Int.mul_le_mul_of_nonneg_left h2 h3
  omega

theorem dues_eq {F : Nat} (hF : 100 < F) {t : Tariff} (h : TarOK t) {c n : Int} (h0 : 0 ≤ c) (h1 : c ≤ 6) (hn0 : 0 ≤ n) (hn1 : n ≤ 500000) : fees_Tariff_dues F t c n = some (duesV t c n) := by
  refine Ok.eq ?_
  unfold fees_Tariff_dues
  have hl := h.len
  refine ok_loop (fun x : Int × Int × Int => 0 ≤ x.2.1 ∧ x.2.1 ≤ t.Bands.length ∧ x.1 = endB 0 (t.Bands.take x.2.1.toNat) ∧ 0 ≤ x.1 ∧ x.1 ≤ 500000 ∧ x.2.2 = bandSum n 0 (t.Bands.take x.2.1.toNat) ∧ 0 ≤ x.2.2 ∧ x.2.2 ≤ 1000 * x.1) (fun x : Int × Int × Int => t.Bands.length - x.2.1.toNat)
    ⟨by simp, by simp, rfl, by simp, by simp, rfl, by simp, by simp⟩ (by simp; omega) ?_
  rintro ⟨u, i, s⟩ next ⟨i1, i2, i3, i4, i5, i6, i7, i8⟩ hn
  simp only at i1 i2 i3 i4 i5 i6 i7 i8
  dsimp only
  refine ok_brk (fun hc => ?_) (fun hc => ?_)
  · have hc : i < t.Bands.length := of_decide_eq_true hc
    have hi : i.toNat < t.Bands.length := by omega
    have hs := h.bands.split i.toNat
    rw [drop_get (d := b0) hi, ← i3] at hs
    have e1 : endB 0 (t.Bands.take (i + 1).toNat) = (t.Bands.getD i.toNat b0).Upto := by rw [show (i + 1).toNat = i.toNat + 1 by omega, endB_take hi]
    have e2 : bandSum n 0 (t.Bands.take (i + 1).toNat) = s + (t.Bands.getD i.toNat b0).Rate * part u n (t.Bands.getD i.toNat b0).Upto := by
      rw [show (i + 1).toNat = i.toNat + 1 by omega, take_succ' (d := b0) hi, bandSum_snoc, ← i3, ← i6]
    generalize hx : t.Bands.getD i.toNat ⟨0, 0⟩ = X
    have hx' : t.Bands.getD i.toNat b0 = X := hx
    rw [hx'] at hs e1 e2
    obtain ⟨g1, g2, _⟩ := hs
    have h2 := part_le (b := u) (n := n) (u := X.Upto) (by omega)
    have h3 : 0 ≤ X.Rate * part u n X.Upto := Int.mul_nonneg g2.1 h2.1
    have h4 : X.Rate * part u n X.Upto ≤ 1000 * part u n X.Upto := Int.mul_le_mul_of_nonneg_right g2.2 h2.1
    have hp : (if (if X.Upto < n then X.Upto else n) - u > 0 then (if X.Upto < n then X.Upto else n) - u else 0) = part u n X.Upto := rfl
    rw [hp]
    have hm : -500000 ≤ (if X.Upto < n then X.Upto else n) - u ∧ (if X.Upto < n then X.Upto else n) - u ≤ 500000 := by split <;> omega
    exact ok_chk ⟨i1, hc⟩ (ok_chk (show InR _ from ⟨by omega, by omega⟩) (ok_chk (show InR _ from ⟨by omega, by omega⟩) (ok_chk (show InR _ from ⟨by omega, by omega⟩) (ok_chk (show InR _ from ⟨by omega, by omega⟩) (hn _ ⟨by show 0 ≤ i + 1; omega, by show i + 1 ≤ _; omega, e1.symm, by show 0 ≤ X.Upto; omega, g1.2, e2.symm, by show 0 ≤ s + _; omega, by show s + _ ≤ 1000 * X.Upto; omega⟩ (by show t.Bands.length - (i + 1).toNat < t.Bands.length - i.toNat; omega))))))
  · have hc : ¬ i < t.Bands.length := of_decide_eq_false hc
    rw [List.take_of_length_le (by omega)] at i6
    have hp := h.prod h0 h1 n
    rw [← i6] at hp
    have hcl : ([t.Class.a0, t.Class.a1, t.Class.a2, t.Class.a3, t.Class.a4, t.Class.a5, t.Class.a6] : List Int) = classes t := rfl
    rw [hcl]
    refine ok_chk ⟨h0, by show c < 7; omega⟩ (ok_chk (show InR _ from ⟨by omega, by omega⟩) (ok_chk (show InR _ from ⟨by omega, by omega⟩) (ok_chk ⟨by omega, by omega⟩ (ok_some ?_))))
    show clamp t (roundV t s c) = _
    rw [i6]; rfl

theorem refDues_eq {F : Nat} (hF : 100 < F) {t : Tariff2} (h : TarOK (back t)) {c n : Int} (h0 : 0 ≤ c) (h1 : c ≤ 6) (hn0 : 0 ≤ n) (hn1 : n ≤ 500000) : ref12_dues F t c n = some (duesV (back t) c n) := by
  refine Ok.eq ?_
  unfold ref12_dues
  have hl : 1 ≤ t.Bands.length ∧ t.Bands.length ≤ 8 := h.len
  have hB : BandsOK 0 t.Bands := h.bands
  refine ok_loop (fun x : Int × Int × Int => 0 ≤ x.2.1 ∧ x.2.1 ≤ t.Bands.length ∧ x.1 = endB 0 (t.Bands.take x.2.1.toNat) ∧ 0 ≤ x.1 ∧ x.1 ≤ 500000 ∧ x.2.2 = bandSum n 0 (t.Bands.take x.2.1.toNat) ∧ 0 ≤ x.2.2 ∧ x.2.2 ≤ 1000 * x.1) (fun x : Int × Int × Int => t.Bands.length - x.2.1.toNat)
    ⟨by simp, by simp, rfl, by simp, by simp, rfl, by simp, by simp⟩ (by simp; omega) ?_
  rintro ⟨u, i, s⟩ next ⟨i1, i2, i3, i4, i5, i6, i7, i8⟩ hn
  simp only at i1 i2 i3 i4 i5 i6 i7 i8
  dsimp only
  refine ok_brk (fun hc => ?_) (fun hc => ?_)
  · have hc : i < t.Bands.length := of_decide_eq_true hc
    have hi : i.toNat < t.Bands.length := by omega
    have hs := hB.split i.toNat
    rw [drop_get (d := b0) hi, ← i3] at hs
    have e1 : endB 0 (t.Bands.take (i + 1).toNat) = (t.Bands.getD i.toNat b0).Upto := by rw [show (i + 1).toNat = i.toNat + 1 by omega, endB_take hi]
    have e2 : bandSum n 0 (t.Bands.take (i + 1).toNat) = s + (t.Bands.getD i.toNat b0).Rate * part u n (t.Bands.getD i.toNat b0).Upto := by
      rw [show (i + 1).toNat = i.toNat + 1 by omega, take_succ' (d := b0) hi, bandSum_snoc, ← i3, ← i6]
    generalize hx : t.Bands.getD i.toNat ⟨0, 0⟩ = X
    have hx' : t.Bands.getD i.toNat b0 = X := hx
    rw [hx'] at hs e1 e2
    obtain ⟨g1, g2, _⟩ := hs
    have h2 := part_le (b := u) (n := n) (u := X.Upto) (by omega)
    have h3 : 0 ≤ X.Rate * part u n X.Upto := Int.mul_nonneg g2.1 h2.1
    have h4 : X.Rate * part u n X.Upto ≤ 1000 * part u n X.Upto := Int.mul_le_mul_of_nonneg_right g2.2 h2.1
    refine ok_chk ⟨i1, hc⟩ (ok_join (by omega) (fun x : Int => x = if X.Upto < n then X.Upto else n) (fun m hm => ok_join (by omega) (fun x : Int => x = s + X.Rate * part u n X.Upto) (fun s' hs' => ?_) fun k hk => ?_) fun k hk => ?_)
    · subst hs'
      exact ok_chk ⟨i1, hc⟩ (ok_chk (show InR _ from ⟨by omega, by omega⟩) (hn _ ⟨by show 0 ≤ i + 1; omega, by show i + 1 ≤ _; omega, e1.symm, by show 0 ≤ X.Upto; omega, g1.2, e2.symm, by show 0 ≤ s + _; omega, by show s + _ ≤ 1000 * X.Upto; omega⟩ (by show t.Bands.length - (i + 1).toNat < t.Bands.length - i.toNat; omega)))
    · have hp : part u n X.Upto = if m - u > 0 then m - u else 0 := by subst hm; rfl
      have hmb : -500000 ≤ m - u ∧ m - u ≤ 500000 := by subst hm; split <;> omega
      refine ok_brk (fun hb => ?_) (fun hb => hk _ ?_)
      · have hb : m > u := of_decide_eq_true hb
        rw [if_pos (by omega)] at hp
        rw [hp, Int.mul_comm] at h3 h4
        refine ok_chk (show InR _ from ⟨by omega, by omega⟩) (ok_chk ⟨i1, hc⟩ (ok_chk (show InR _ from ⟨by omega, by omega⟩) (ok_chk (show InR _ from ⟨by omega, by omega⟩) (hk _ ?_))))
        rw [hp, Int.mul_comm]
      · have hb : ¬ m > u := of_decide_eq_false hb
        rw [if_neg (by omega)] at hp
        rw [hp]; simp
    · refine ok_brk (fun hb => hk _ ?_) (fun hb => hk _ ?_)
      · have hb : n < X.Upto := of_decide_eq_true hb
        rw [if_neg (by omega)]
      · have hb : ¬ n < X.Upto := of_decide_eq_false hb
        split <;> omega
  · have hc : ¬ i < t.Bands.length := of_decide_eq_false hc
    rw [List.take_of_length_le (by omega)] at i6
    have hp := h.prod h0 h1 n
    rw [show (back t).Bands = t.Bands from rfl, ← i6] at hp
    have hcl : ([t.Class.a0, t.Class.a1, t.Class.a2, t.Class.a3, t.Class.a4, t.Class.a5, t.Class.a6] : List Int) = classes (back t) := rfl
    rw [hcl]
    have hd : duesV (back t) c n = clamp (back t) ((s * (classes (back t)).getD c.toNat 0 + 50) / 100) := by rw [i6]; rfl
    rw [hd]
    generalize s * (classes (back t)).getD c.toNat 0 = P at hp
    refine ok_chk ⟨h0, by show c < 7; omega⟩ (ok_chk (show InR _ from ⟨by omega, by omega⟩) (ok_chk ⟨by omega, by omega⟩ (ok_join (by omega) (fun x : Int => x = (P + 50) / 100) (fun x hx => ?_) fun k hk => ?_)))
    · refine ok_join (by omega) (fun y : Int => y = if x > t.Least then x else t.Least) (fun y hy => ?_) fun k hk => ?_
      · refine ok_join (by omega) (fun z : Int => z = if y < t.Most then y else t.Most) (fun z hz => ok_some ?_) fun k hk => ?_
        · subst hz hy hx; rfl
        · refine ok_brk (fun hb => hk _ ?_) (fun hb => hk _ ?_)
          · have hb : y > t.Most := of_decide_eq_true hb
            rw [if_neg (by omega)]
          · have hb : ¬ y > t.Most := of_decide_eq_false hb
            split <;> omega
      · refine ok_brk (fun hb => hk _ ?_) (fun hb => hk _ ?_)
        · have hb : x < t.Least := of_decide_eq_true hb
          rw [if_neg (by omega)]
        · have hb : ¬ x < t.Least := of_decide_eq_false hb
          split <;> omega
    · refine ok_chk ⟨by omega, by omega⟩ (ok_brk (fun hb => ?_) (fun hb => hk _ ?_))
      · have hb : P % 100 ≥ 50 := of_decide_eq_true hb
        exact ok_chk (show InR _ from ⟨by omega, by omega⟩) (hk _ (by omega))
      · have hb : ¬ P % 100 ≥ 50 := of_decide_eq_false hb
        omega
end Go.Proofs.Fe

namespace Go.Proofs.Fe
open Go Go.KX

/-! ### The greatest tonnage -/

structure LargeOK (t : Tariff) (c a n : Int) : Prop where
  b : 0 ≤ n ∧ n ≤ 500000
  at_ : n = 0 ∨ duesV t c n ≤ a
  next : n = 500000 ∨ a < duesV t c (n + 1)

theorem LargeOK.one {t : Tariff} {c a n m : Int} (ht : TarOK t) (h0 : 0 ≤ c) (h1 : c ≤ 6) (h : LargeOK t c a n) (h' : LargeOK t c a m) : n = m := by
  have key : ∀ {n m : Int}, LargeOK t c a n → LargeOK t c a m → ¬ n < m := fun {n m} h h' hlt => by
    have := h.b
    have := h'.b
    rcases h'.at_ with q | q
    · omega
    · rcases h.next with p | p
      · omega
      · have := dues_mono ht h0 h1 (n := n + 1) (m := m) (by omega)
        omega
  have := key h h'
  have := key h' h
  omega

theorem largest_ok {F : Nat} (hF : 2000000 < F) {t : Tariff} {c a : Int} (ht : TarOK t) : Ok (fun r : Int × Int => (¬ (0 ≤ c ∧ c ≤ 6) ∧ r = (0, 1)) ∨ ((0 ≤ c ∧ c ≤ 6) ∧ ((r = (0, 4) ∧ LargeOK t c a 0) ∨ (r.2 = 0 ∧ 1 ≤ r.1 ∧ LargeOK t c a r.1)))) (fees_Largest F t c a) := by
  unfold fees_Largest
  refine ok_bnde (Check_eq (by omega) t) ?_
  rw [ht.check]
  refine ok_brkF rfl ?_
  rw [within_eq, wb]
  refine ok_bnde rfl (ok_brk (fun hb => ok_some (.inl ⟨nd_true hb, rfl⟩)) (fun hb => ?_))
  have hc := nd_false hb
  rw [show IntKind.i64.wrap (1 - 1) = 0 from rfl]
  refine ok_loop (fun x : Int × Int => 0 ≤ x.2 ∧ x.2 ≤ x.1 ∧ x.1 ≤ 500000 ∧ (x.2 = 0 ∨ duesV t c x.2 ≤ a) ∧ (x.1 = 500000 ∨ a < duesV t c (x.1 + 1))) (fun x : Int × Int => (x.1 - x.2).toNat)
    ⟨by simp, by simp, by simp, .inl rfl, .inl rfl⟩ (by show (500000 - 0 : Int).toNat < F; omega) ?_
  rintro ⟨hi, lo⟩ next ⟨i2, i3, i4, i5, i6⟩ hn
  simp only at i2 i3 i4 i5 i6
  dsimp only
  refine ok_brk (fun hb => ?_) (fun hb => ?_)
  · have hb : lo < hi := of_decide_eq_true hb
    refine ok_chk (show InR _ from ⟨by omega, by omega⟩) (ok_chk (show InR _ from ⟨by omega, by omega⟩) (ok_chk ⟨by omega, by omega⟩ (ok_chk (show InR _ from ⟨by omega, by omega⟩) ?_)))
    have g1 : lo < lo + (hi - lo + 1) / 2 := by omega
    have g2 : lo + (hi - lo + 1) / 2 ≤ hi := by omega
    generalize lo + (hi - lo + 1) / 2 = mid at g1 g2
    refine ok_bnde (dues_eq (by omega) ht hc.1 hc.2 (by omega) (by omega)) (ok_brk (fun hd => ?_) (fun hd => ok_chk (show InR _ from ⟨by omega, by omega⟩) ?_))
    · have hd : duesV t c mid ≤ a := of_decide_eq_true hd
      exact hn _ ⟨by show 0 ≤ mid; omega, g2, i4, .inr hd, i6⟩ (by show (hi - mid).toNat < (hi - lo).toNat; omega)
    · have hd : ¬ duesV t c mid ≤ a := of_decide_eq_false hd
      exact hn _ ⟨i2, by show lo ≤ mid - 1; omega, by show mid - 1 ≤ _; omega, i5, .inr (by show a < duesV t c (mid - 1 + 1); rw [Int.sub_add_cancel]; omega)⟩ (by show (mid - 1 - lo).toNat < (hi - lo).toNat; omega)
  · have hb : ¬ lo < hi := of_decide_eq_false hb
    obtain rfl : lo = hi := by omega
    have hL : LargeOK t c a lo := ⟨⟨i2, i4⟩, i5, i6⟩
    refine ok_brk (fun hd => ok_some (.inr ⟨hc, .inl ⟨rfl, ?_⟩⟩)) (fun hd => ok_some (.inr ⟨hc, .inr ⟨rfl, ?_, hL⟩⟩))
    · have hd : lo < 1 := of_decide_eq_true hd
      obtain rfl : lo = 0 := by omega
      exact hL
    · have hd : ¬ lo < 1 := of_decide_eq_false hd
      show 1 ≤ lo
      omega

theorem refLargest_ok {F : Nat} (hF : 2000000 < F) {t : Tariff2} {c a : Int} (ht : TarOK (back t)) : Ok (fun r : Int × Int => (¬ (0 ≤ c ∧ c ≤ 6) ∧ r = (0, 1)) ∨ ((0 ≤ c ∧ c ≤ 6) ∧ ((r = (0, 4) ∧ LargeOK (back t) c a 0) ∨ (r.2 = 0 ∧ 1 ≤ r.1 ∧ LargeOK (back t) c a r.1)))) (ref12_Largest F t c a) := by
  unfold ref12_Largest
  refine ok_bnde (refCheck_eq (by omega) t) ?_
  rw [ht.check]
  refine ok_brkF rfl ?_
  rw [refIn_eq, wb]
  refine ok_bnde rfl (ok_brk (fun hb => ok_some (.inl ⟨nd_true hb, rfl⟩)) (fun hb => ?_))
  have hc := nd_false hb
  have rest : ∀ n : Int, 1 ≤ n → n ≤ 500000 → (n = 500000 ∨ a < duesV (back t) c (n + 1)) → Ok (fun r : Int × Int => (¬ (0 ≤ c ∧ c ≤ 6) ∧ r = (0, 1)) ∨ ((0 ≤ c ∧ c ≤ 6) ∧ ((r = (0, 4) ∧ LargeOK (back t) c a 0) ∨ (r.2 = 0 ∧ 1 ≤ r.1 ∧ LargeOK (back t) c a r.1))))
      (loopC (fun (x : Int) next => bnd (brk (decide (x > 0)) (ref12_dues F (Tariff2.mk t.Bands (A7ofInt.mk t.Class.a0 t.Class.a1 t.Class.a2 t.Class.a3 t.Class.a4 t.Class.a5 t.Class.a6) t.Least t.Most t.Paid t.Mile t.Escort t.Cut t.Tow) c x) (some 0)) (fun (y : Int) => brk (decide (x > 0) && decide (y > a)) (chk (InR (x - 1)) (next (x - 1))) (brk (x == 0) (some (0, 4)) (some (x, 0))))) F n) := by
    intro n i1 i2 i3
    refine ok_loop (fun x : Int => 0 ≤ x ∧ x ≤ 500000 ∧ (x = 500000 ∨ a < duesV (back t) c (x + 1))) (fun x : Int => x.toNat) ⟨by omega, i2, i3⟩ (by omega) ?_
    rintro m next ⟨j1, j2, j3⟩ hn
    by_cases hk : m > 0
    · rw [decide_eq_true hk]
      refine ok_bnde (show brk true _ _ = _ from refDues_eq (by omega) ht hc.1 hc.2 (by omega) (by omega)) ?_
      rw [Bool.true_and]
      refine ok_brk (fun hb => ?_) (fun hb => ?_)
      · have hb : duesV (back t) c m > a := of_decide_eq_true hb
        exact ok_chk (show InR _ from ⟨by omega, by omega⟩) (hn _ ⟨by omega, by omega, .inr (by rw [Int.sub_add_cancel]; exact hb)⟩ (by omega))
      · have hb : ¬ duesV (back t) c m > a := of_decide_eq_false hb
        exact ok_brkF (by simp; omega) (ok_some (.inr ⟨hc, .inr ⟨rfl, by show 1 ≤ m; omega, ⟨j1, j2⟩, .inr (by show duesV (back t) c m ≤ a; omega), j3⟩⟩))
    · rw [decide_eq_false hk]
      refine ok_bnde (show brk false _ _ = some 0 from rfl) ?_
      rw [Bool.false_and]
      obtain rfl : m = 0 := by omega
      exact ok_brkF rfl (ok_brkT rfl (ok_some (.inr ⟨hc, .inl ⟨rfl, ⟨j1, j2⟩, .inl rfl, j3⟩⟩)))
  refine ok_loop (fun x : Int => 1 ≤ x ∧ x ≤ 500000 ∧ (x = 500000 ∨ a < duesV (back t) c (x + 1))) (fun x : Int => x.toNat)
    ⟨by simp, by simp, .inl rfl⟩ (by omega) ?_
  rintro n next ⟨i1, i2, i3⟩ hn
  refine ok_chk (fun _ => ⟨by omega, by omega⟩) ?_
  by_cases hk : n > 1000
  · rw [decide_eq_true hk]
    refine ok_bnde (show brk true _ _ = _ from refDues_eq (by omega) ht hc.1 hc.2 (by omega) (by omega)) ?_
    rw [Bool.true_and]
    refine ok_brk (fun hb => ?_) (fun hb => ?_)
    · have hb : duesV (back t) c (n - 1000) > a := of_decide_eq_true hb
      refine ok_chk (show InR _ from ⟨by omega, by omega⟩) (hn _ ⟨by omega, by omega, .inr ?_⟩ (by omega))
      have := dues_mono ht hc.1 hc.2 (n := n - 1000) (m := n - 1000 + 1) (by omega)
      omega
    · exact rest n i1 i2 i3
  · rw [decide_eq_false hk]
    refine ok_bnde (show brk false _ _ = some 0 from rfl) ?_
    rw [Bool.false_and]
    exact ok_brkF rfl (rest n i1 i2 i3)

/-! ### Voyages -/

structure VoyOK (v : Voyage) : Prop where
  ship : 0 ≤ v.Ship ∧ v.Ship ≤ 1000000
  cls : 0 ≤ v.Class ∧ v.Class ≤ 6
  tonnes : 1 ≤ v.Tonnes ∧ v.Tonnes ≤ 500000
  tenths : 0 ≤ v.Tenths ∧ v.Tenths ≤ 100000
  escort : 0 ≤ v.Escort ∧ v.Escort ≤ 1000
  cut : 0 ≤ v.Cut ∧ v.Cut ≤ 1000
  tow : 0 ≤ v.Tow ∧ v.Tow ≤ 1000

theorem right1_eq (F : Nat) (c : Int) : fees_Voyage_right_1 F c = some (!decide (0 ≤ c ∧ c ≤ 1000)) := by
  show some (!(decide (c ≥ 0) && decide (c ≤ 1000))) = _
  rw [wb]

def IsB (p : Prop) (b : Bool) : Prop := b = true ↔ p
theorem IsB.one {p : Prop} {a b : Bool} (h : IsB p a) (h' : IsB p b) : a = b := by
  cases a <;> cases b <;> simp_all [IsB]

theorem right_ok {F : Nat} (hF : 100 < F) (v : Voyage) : Ok (IsB (VoyOK v)) (fees_Voyage_right F v) := by
  unfold fees_Voyage_right
  simp only [within_eq, wb]
  have no : ¬ VoyOK v → Ok (IsB (VoyOK v)) (some false) := fun h => ok_some ⟨(fun e => nomatch e), fun q => absurd q h⟩
  refine ok_bnde rfl (ok_brk (fun h1 => ?_) (fun h1 => no fun q => (of_decide_eq_false h1) q.ship))
  refine ok_bnde rfl (ok_brk (fun h2 => ?_) (fun h1 => no fun q => (of_decide_eq_false h1) q.cls))
  refine ok_bnde rfl (ok_brk (fun h3 => ?_) (fun h1 => no fun q => (of_decide_eq_false h1) q.tonnes))
  refine ok_bnde rfl (ok_brk (fun h4 => ?_) (fun h1 => no fun q => (of_decide_eq_false h1) q.tenths))
  refine ok_join (by omega) (fun x : Int => (x = -1 ∧ VoyOK v) ∨ (0 ≤ x ∧ ¬ VoyOK v)) (fun x hx => ok_some ?_) fun k hk => ?_
  · rcases hx with ⟨rfl, q⟩ | ⟨q1, q2⟩
    · exact ⟨fun _ => q, fun _ => rfl⟩
    · rw [decide_eq_true (show x ≥ 0 from q1)]
      exact ⟨(fun e => nomatch e), fun q => absurd q q2⟩
  · refine ok_find (l := [v.Escort, v.Cut, v.Tow]) (p := fun c => !decide (0 ≤ c ∧ c ≤ 1000)) (by simp; omega) (by simp) (fun c _ => right1_eq F c) (fun i hi hp => hk _ (.inr ⟨by omega, fun q => ?_⟩)) (fun hp => hk _ (.inl ⟨rfl, ?_⟩))
    · have hm := getD_mem (d := 0) hi
      have hp := nd_true hp
      simp only [List.mem_cons, List.not_mem_nil, or_false] at hm
      rcases hm with e | e | e <;> rw [e] at hp
      · exact hp q.escort
      · exact hp q.cut
      · exact hp q.tow
    · exact ⟨of_decide_eq_true h1, of_decide_eq_true h2, of_decide_eq_true h3, of_decide_eq_true h4, nd_false (hp v.Escort (by simp)), nd_false (hp v.Cut (by simp)), nd_false (hp v.Tow (by simp))⟩

theorem refRight_ok {F : Nat} (v : Voyage) : Ok (IsB (VoyOK v)) (ref12_right F v) := by
  unfold ref12_right
  simp only [refIn_eq, wb]
  have e2 : ∀ (b : Bool) (p : Prop) [Decidable p], brk b (some (decide p)) (some false) = some (b && decide p) := fun b p _ => by cases b <;> rfl
  refine ok_bnde rfl ?_
  rw [e2]; refine ok_bnde rfl ?_
  rw [e2]; refine ok_bnde rfl ?_
  rw [e2]; refine ok_bnde rfl ?_
  rw [e2]; refine ok_bnde rfl ?_
  rw [e2]; refine ok_bnde rfl ?_
  rw [e2]; refine ok_bnde rfl (ok_some ⟨fun h => ?_, fun q => ?_⟩)
  · simp only [Bool.and_eq_true, decide_eq_true_eq] at h
    obtain ⟨⟨⟨⟨⟨⟨q1, q2⟩, q3⟩, q4⟩, q5⟩, q6⟩, q7⟩ := h
    exact ⟨q1, q2.2, q3.2, q4.2, q5.2, q6.2, q7.2⟩
  · rw [decide_eq_true q.ship, decide_eq_true q.cls, decide_eq_true q.tonnes, decide_eq_true q.tenths, decide_eq_true q.escort, decide_eq_true q.cut, decide_eq_true q.tow]; rfl

/-! ### Accounts -/

def milesV (t : Tariff) (v : Voyage) : Int := (t.Mile * v.Tenths * ((v.Tonnes + 999) / 1000) + 9) / 10
def linesV (t : Tariff) (v : Voyage) (calls : Int) : A5ofInt := ⟨if calls < t.Paid then duesV t v.Class v.Tonnes else 0, milesV t v, t.Escort * v.Escort, t.Cut * v.Cut, t.Tow * v.Tow⟩
def sumA (l : A5ofInt) : Int := 0 + l.a0 + l.a1 + l.a2 + l.a3 + l.a4
def billV (t : Tariff) (v : Voyage) (calls : Int) : Account := ⟨linesV t v calls, sumA (linesV t v calls)⟩

theorem mul_bound {a b A B : Int} (h : 0 ≤ a ∧ a ≤ A) (h' : 0 ≤ b ∧ b ≤ B) : 0 ≤ a * b ∧ a * b ≤ A * B :=
  ⟨Int.mul_nonneg h.1 h'.1, Int.mul_le_mul h.2 h'.2 h'.1 (Int.le_trans h.1 h.2)⟩

structure BillB (t : Tariff) (v : Voyage) : Prop where
  mt : 0 ≤ t.Mile * v.Tenths ∧ t.Mile * v.Tenths ≤ 10000000000
  mg : 0 ≤ t.Mile * v.Tenths * ((v.Tonnes + 999) / 1000) ∧ t.Mile * v.Tenths * ((v.Tonnes + 999) / 1000) ≤ 5000000000000
  e : 0 ≤ t.Escort * v.Escort ∧ t.Escort * v.Escort ≤ 1000000000
  c : 0 ≤ t.Cut * v.Cut ∧ t.Cut * v.Cut ≤ 1000000000
  w : 0 ≤ t.Tow * v.Tow ∧ t.Tow * v.Tow ≤ 1000000000
  d : 0 ≤ duesV t v.Class v.Tonnes ∧ duesV t v.Class v.Tonnes ≤ 1000000000

theorem billB {t : Tariff} {v : Voyage} (ht : TarOK t) (hv : VoyOK v) : BillB t v := by
  have h1 := mul_bound ht.nums.mile hv.tenths
  have hv3 := hv.tonnes
  have h2 : 0 ≤ (v.Tonnes + 999) / 1000 ∧ (v.Tonnes + 999) / 1000 ≤ 500 := by omega
  have h3 := mul_bound h1 h2
  have h4 := clamp_bound (x := roundV t (bandSum v.Tonnes 0 t.Bands) v.Class) ht.nums.least.2
  have h5 := ht.nums.most
  have h6 := ht.nums.least
  exact ⟨h1, h3, mul_bound ht.nums.escort hv.escort, mul_bound ht.nums.cut hv.cut, mul_bound ht.nums.tow hv.tow, by show 0 ≤ clamp t _; omega, by show clamp t _ ≤ _; omega⟩

theorem billV_bound {t : Tariff} {v : Voyage} (ht : TarOK t) (hv : VoyOK v) (calls : Int) : 0 ≤ (billV t v calls).Sum ∧ (billV t v calls).Sum ≤ 600000000000 := by
  have h := billB ht hv
  have h1 := h.mg
  have h2 := h.e
  have h3 := h.c
  have h4 := h.w
  have h5 := h.d
  simp only [billV, sumA, linesV, milesV]
  split <;> omega

theorem account_eq {F : Nat} (a b c d e : Int) (ha : 0 ≤ a ∧ a ≤ 1000000000000) (hb : 0 ≤ b ∧ b ≤ 1000000000000) (hc : 0 ≤ c ∧ c ≤ 1000000000000) (hd : 0 ≤ d ∧ d ≤ 1000000000000) (he : 0 ≤ e ∧ e ≤ 1000000000000) :
    fees_account F [a, b, c, d, e] = some ⟨⟨a, b, c, d, e⟩, sumA ⟨a, b, c, d, e⟩⟩ := by
  unfold fees_account
  have hl : ((([a, b, c, d, e] : List Int).length : Nat) : Int) = 5 := rfl
  rw [hl]
  have w1 : IntKind.i64.wrap ((0 : Int) + 1) = 1 := rfl
  have w2 : IntKind.i64.wrap ((1 : Int) + 1) = 2 := rfl
  have w3 : IntKind.i64.wrap ((2 : Int) + 1) = 3 := rfl
  have w4 : IntKind.i64.wrap ((3 : Int) + 1) = 4 := rfl
  have w5 : IntKind.i64.wrap ((4 : Int) + 1) = 5 := rfl
  rw [w1, w2, w3, w4, w5]
  have g0 : ([a, b, c, d, e] : List Int).getD (Int.toNat 0) 0 = a := rfl
  have g1 : ([a, b, c, d, e] : List Int).getD (Int.toNat 1) 0 = b := rfl
  have g2 : ([a, b, c, d, e] : List Int).getD (Int.toNat 2) 0 = c := rfl
  have g3 : ([a, b, c, d, e] : List Int).getD (Int.toNat 3) 0 = d := rfl
  have g4 : ([a, b, c, d, e] : List Int).getD (Int.toNat 4) 0 = e := rfl
  rw [g0, g1, g2, g3, g4]
  rw [decide_eq_true (show (0 : Int) < 5 by omega), brk_true, chk_pos (by omega), chk_pos (show InR _ from ⟨by omega, by omega⟩),
    decide_eq_true (show (1 : Int) < 5 by omega), brk_true, chk_pos (by omega), chk_pos (show InR _ from ⟨by omega, by omega⟩),
    decide_eq_true (show (2 : Int) < 5 by omega), brk_true, chk_pos (by omega), chk_pos (show InR _ from ⟨by omega, by omega⟩),
    decide_eq_true (show (3 : Int) < 5 by omega), brk_true, chk_pos (by omega), chk_pos (show InR _ from ⟨by omega, by omega⟩),
    decide_eq_true (show (4 : Int) < 5 by omega), brk_true, chk_pos (by omega), chk_pos (show InR _ from ⟨by omega, by omega⟩),
    decide_eq_false (show ¬ (5 : Int) < 5 by omega), brk_false]
  rfl

theorem bill_eq {F : Nat} (hF : 100 < F) {t : Tariff} {v : Voyage} (ht : TarOK t) (hv : VoyOK v) (calls : Int) : fees_Tariff_bill F t v calls = some (billV t v calls) := by
  refine Ok.eq ?_
  unfold fees_Tariff_bill
  have h := billB ht hv
  have h0 := h.mt
  have h1 := h.mg
  have h2 := h.e
  have h3 := h.c
  have h4 := h.w
  have h5 := h.d
  have hv3 := hv.tonnes
  refine ok_join (by omega) (fun x : Int => x = if calls < t.Paid then duesV t v.Class v.Tonnes else 0) (fun x hx => ?_) fun k hk => ?_
  · have hx0 : 0 ≤ x ∧ x ≤ 1000000000 := by subst hx; split <;> omega
    refine ok_chk (show InR _ from ⟨by omega, by omega⟩) (ok_chk ⟨by omega, by omega⟩ (ok_chk (show InR _ from ⟨by omega, by omega⟩) (ok_chk (show InR _ from ⟨by omega, by omega⟩) (ok_chk (show InR _ from ⟨by omega, by omega⟩) (ok_chk ⟨by omega, by omega⟩ (ok_chk (show InR _ from ⟨by omega, by omega⟩) (ok_chk (show InR _ from ⟨by omega, by omega⟩) (ok_chk (show InR _ from ⟨by omega, by omega⟩) ?_))))))))
    refine ok_bnde (account_eq _ _ _ _ _ (by omega) (by omega) (by omega) (by omega) (by omega)) (ok_some ?_)
    subst hx; rfl
  · refine ok_brk (fun hb => ?_) (fun hb => hk _ ?_)
    · have hb : calls < t.Paid := of_decide_eq_true hb
      refine ok_bnde (dues_eq hF ht hv.cls.1 hv.cls.2 (by omega) (by omega)) (hk _ ?_)
      rw [if_pos hb]
    · have hb : ¬ calls < t.Paid := of_decide_eq_false hb
      rw [if_neg hb]

theorem refBill_eq {F : Nat} (hF : 100 < F) {t : Tariff2} {v : Voyage} (ht : TarOK (back t)) (hv : VoyOK v) (calls : Int) : ref12_bill F t v calls = some (billV (back t) v calls) := by
  refine Ok.eq ?_
  unfold ref12_bill
  have h := billB ht hv
  have h0 : 0 ≤ t.Mile * v.Tenths ∧ t.Mile * v.Tenths ≤ 10000000000 := h.mt
  have h1 : 0 ≤ t.Mile * v.Tenths * ((v.Tonnes + 999) / 1000) ∧ t.Mile * v.Tenths * ((v.Tonnes + 999) / 1000) ≤ 5000000000000 := h.mg
  have h2 : 0 ≤ t.Escort * v.Escort ∧ t.Escort * v.Escort ≤ 1000000000 := h.e
  have h3 : 0 ≤ t.Cut * v.Cut ∧ t.Cut * v.Cut ≤ 1000000000 := h.c
  have h4 : 0 ≤ t.Tow * v.Tow ∧ t.Tow * v.Tow ≤ 1000000000 := h.w
  have h5 := h.d
  have hv3 := hv.tonnes
  have hP : (back t).Paid = t.Paid := rfl
  have hM : milesV (back t) v = (t.Mile * v.Tenths * ((v.Tonnes + 999) / 1000) + 9) / 10 := rfl
  refine ok_join (by omega) (fun x : Int => x = if calls < t.Paid then duesV (back t) v.Class v.Tonnes else 0) (fun x hx => ?_) fun k hk => ?_
  · have hx0 : 0 ≤ x ∧ x ≤ 1000000000 := by subst hx; split <;> omega
    refine ok_chk ⟨by omega, by omega⟩ (ok_join (by omega) (fun g : Int => g = (v.Tonnes + 999) / 1000) (fun g hg => ?_) fun k hk => ?_)
    · rw [← hg] at h1 hM
      refine ok_chk (show InR _ from ⟨by omega, by omega⟩) (ok_chk (show InR _ from ⟨by omega, by omega⟩) (ok_chk ⟨by omega, by omega⟩ (ok_join (by omega) (fun m : Int => m = milesV (back t) v) (fun m hm => ?_) fun k hk => ?_)))
      · have hmb : 0 ≤ m ∧ m ≤ 1000000000000 := by rw [hm, hM]; omega
        refine ok_chk (show InR _ from ⟨by omega, by omega⟩) (ok_chk (show InR _ from ⟨by omega, by omega⟩) (ok_chk (show InR _ from ⟨by omega, by omega⟩) ?_))
        have hl5 : (([x, m, t.Escort * v.Escort, t.Cut * v.Cut, t.Tow * v.Tow] : List Int)).length = 5 := rfl
        have hmem : ∀ y ∈ ([x, m, t.Escort * v.Escort, t.Cut * v.Cut, t.Tow * v.Tow] : List Int), 0 ≤ y ∧ y ≤ 1000000000000 := fun y hy => by
          simp only [List.mem_cons, List.not_mem_nil, or_false] at hy
          rcases hy with rfl | rfl | rfl | rfl | rfl <;> omega
        have hfin : (⟨⟨x, m, t.Escort * v.Escort, t.Cut * v.Cut, t.Tow * v.Tow⟩, sumL [x, m, t.Escort * v.Escort, t.Cut * v.Cut, t.Tow * v.Tow]⟩ : Account) = billV (back t) v calls := by
          have e1 : linesV (back t) v calls = ⟨x, m, t.Escort * v.Escort, t.Cut * v.Cut, t.Tow * v.Tow⟩ := by subst hx hm; rfl
          simp only [billV, e1, sumA, sumL]
          congr 1; omega
        generalize hL : ([x, m, t.Escort * v.Escort, t.Cut * v.Cut, t.Tow * v.Tow] : List Int) = L at hl5 hmem hfin ⊢
        refine ok_loop (fun z : Int × Int => 0 ≤ z.1 ∧ z.1 ≤ 5 ∧ z.2 = sumL (L.take z.1.toNat)) (fun z : Int × Int => 5 - z.1.toNat) ⟨by simp, by simp, rfl⟩ (by simp; omega) ?_
        rintro ⟨i, s⟩ next ⟨i1, i2, i3⟩ hn
        simp only at i1 i2 i3
        dsimp only
        have hsb : 0 ≤ s ∧ s ≤ 5000000000000 := by
          have h1 := sumL_nonneg (L.take i.toNat) fun y hy => (hmem y (List.mem_of_mem_take hy)).1
          have h2 := sumL_le (L.take i.toNat) (B := 1000000000000) fun y hy => (hmem y (List.mem_of_mem_take hy)).2
          have h3 : (L.take i.toNat).length ≤ 5 := by rw [List.length_take]; omega
          omega
        refine ok_brk (fun hc => ?_) (fun hc => ok_some ?_)
        · have hc : i < 5 := of_decide_eq_true hc
          have hi : i.toNat < L.length := by omega
          have hmi := hmem _ (getD_mem (d := 0) hi)
          have e1 : sumL (L.take (i + 1).toNat) = s + L.getD i.toNat 0 := by
            rw [show (i + 1).toNat = i.toNat + 1 by omega, take_succ' (d := 0) hi, sumL_append, i3]; simp only [sumL]; omega
          exact ok_chk ⟨i1, hc⟩ (ok_chk (show InR _ from ⟨by omega, by omega⟩) (ok_chk (show InR _ from ⟨by omega, by omega⟩) (hn _ ⟨by show 0 ≤ i + 1; omega, by show i + 1 ≤ 5; omega, e1.symm⟩ (by show 5 - (i + 1).toNat < 5 - i.toNat; omega))))
        · have hc : ¬ i < 5 := of_decide_eq_false hc
          rw [List.take_of_length_le (by omega)] at i3
          rw [i3]; exact hfin
      · refine ok_chk ⟨by omega, by omega⟩ (ok_brk (fun hb => ?_) (fun hb => hk _ ?_))
        · have hb : t.Mile * v.Tenths * g % 10 > 0 := of_decide_eq_true hb
          exact ok_chk (show InR _ from ⟨by omega, by omega⟩) (hk _ (by rw [hM]; omega))
        · have hb : ¬ t.Mile * v.Tenths * g % 10 > 0 := of_decide_eq_false hb
          rw [hM]; omega
    · refine ok_chk ⟨by omega, by omega⟩ (ok_brk (fun hb => ?_) (fun hb => hk _ ?_))
      · have hb : v.Tonnes % 1000 > 0 := of_decide_eq_true hb
        exact ok_chk (show InR _ from ⟨by omega, by omega⟩) (hk _ (by omega))
      · have hb : ¬ v.Tonnes % 1000 > 0 := of_decide_eq_false hb
        omega
  · refine ok_brk (fun hb => ?_) (fun hb => hk _ ?_)
    · have hb : calls < t.Paid := of_decide_eq_true hb
      refine ok_bnde (refDues_eq hF ht hv.cls.1 hv.cls.2 (by omega) (by omega)) (hk _ ?_)
      rw [if_pos hb]
    · have hb : ¬ calls < t.Paid := of_decide_eq_false hb
      rw [if_neg hb]
end Go.Proofs.Fe

namespace Go.Proofs.Fe
open Go Go.KX

/-- Numbers after so many months. -/
def cap (i : Nat) : Int := 5000 * 2 ^ i - 1000
theorem cap_succ (i : Nat) : cap (i + 1) = 2 * cap i + 1000 := by unfold cap; rw [Int.pow_succ]; omega
theorem cap_le {i : Nat} (h : i ≤ 6) : 0 ≤ cap i ∧ cap i ≤ 400000 := by
  have : i = 0 ∨ i = 1 ∨ i = 2 ∨ i = 3 ∨ i = 4 ∨ i = 5 ∨ i = 6 := by omega
  rcases this with rfl | rfl | rfl | rfl | rfl | rfl | rfl <;> decide

theorem StaOK.mono {n m : Nat} {B C : Int} {s : State} (h : StaOK n m B s) (hB : B ≤ C) : StaOK n m C s :=
  ⟨h.nb, h.mb, h.dl, h.ol, h.rl, fun i hi => ⟨(h.d i hi).1, Int.le_trans (h.d i hi).2 hB⟩, fun i hi k hk => ⟨(h.o i hi k hk).1, Int.le_trans (h.o i hi k hk).2 hB⟩⟩

theorem StaOK.row {n m : Nat} {B : Int} {s : State} (h : StaOK n m B s) {i : Nat} (hi : i < n) : ∀ c ∈ s.Owed.getD i [], 0 ≤ c := fun c hc => by
  obtain ⟨k, hk, rfl⟩ := List.getElem_of_mem hc
  have := h.o i hi k (by have := h.rl i hi; omega)
  rw [getD_get hk] at this
  exact this.1

/-- What a settlement leaves is a state. -/
theorem SetP.ok {n m : Nat} {B : Int} {s : State} {r : State × List (List Int)} (h : StaOK n m B s) (hr : SetP n m s r) : StaOK n m B r.1 := by
  refine ⟨h.nb, h.mb, hr.dl, hr.ol, fun i hi => (hr.o i hi).1, fun i hi => ?_, fun i hi k hk => ?_⟩
  · have h1 := hr.aw i hi
    have h2 := h1.sum
    have h3 := h.d i hi
    have h4 := h1.each (h.row hi)
    have h5 := hr.d i hi
    have h6 : 0 ≤ sumL (r.2.getD i []) := sumL_nonneg _ fun x hx => by
      obtain ⟨k, hk, rfl⟩ := List.getElem_of_mem hx
      have := h4 k (by rw [← h1.length]; exact hk)
      rw [getD_get hk] at this
      exact this.1
    split at h2 <;> omega
  · have h1 := (hr.aw i hi).each (h.row hi) k (by rw [h.rl i hi]; exact hk)
    have h2 := (hr.o i hi).2 k hk
    have h3 := h.o i hi k hk
    omega

/-- Nothing is left, or nothing is owed. -/
theorem SetP.done {n m : Nat} {B : Int} {s : State} {r : State × List (List Int)} (h : StaOK n m B s) (hr : SetP n m s r) {i : Nat} (hi : i < n) : r.1.Deposits.getD i 0 = 0 ∨ ∀ k, k < m → (r.1.Owed.getD i []).getD k 0 = 0 := by
  have h1 := hr.aw i hi
  have h2 := h1.sum
  have h3 := hr.d i hi
  have hrl := h.rl i hi
  by_cases q : sumL (s.Owed.getD i []) < s.Deposits.getD i 0
  · rw [if_pos q] at h2
    right
    have h4 := h1.each (h.row hi)
    have hlen := h1.length
    -- the awards are the claims
    have key : ∀ (l a : List Int), a.length = l.length → (∀ k, k < l.length → a.getD k 0 ≤ l.getD k 0) → sumL a = sumL l → ∀ k, k < l.length → a.getD k 0 = l.getD k 0 := by
      intro l
      induction l with
      | nil => intro a _ _ _ k hk; simp at hk
      | cons x l ih =>
        intro a ha hle hs k hk
        cases a with
        | nil => simp at ha
        | cons y a =>
          have h0 : y ≤ x := hle 0 (by simp)
          have hr : ∀ k, k < l.length → a.getD k 0 ≤ l.getD k 0 := fun k hk => hle (k + 1) (by simpa using hk)
          have hsum : sumL a ≤ sumL l := by
            have : ∀ (l a : List Int), a.length = l.length → (∀ k, k < l.length → a.getD k 0 ≤ l.getD k 0) → sumL a ≤ sumL l := by
              intro l
              induction l with
              | nil => intro a ha _; cases a with
                | nil => exact Int.le_refl _
                | cons _ _ => simp at ha
              | cons x l ih =>
                intro a ha hle
                cases a with
                | nil => simp at ha
                | cons y a =>
                  have h0 : y ≤ x := hle 0 (by simp)
                  have := ih a (by simpa using ha) fun k hk => hle (k + 1) (by simpa using hk)
                  simp only [sumL]; omega
            exact this l a (by simpa using ha) hr
          simp only [sumL] at hs
          cases k with
          | zero => show y = x; omega
          | succ k => exact ih a (by simpa using ha) hr (by omega) k (by simpa using hk)
    intro k hk
    rw [(hr.o i hi).2 k hk, key _ _ hlen (fun k hk => (h4 k hk).2) h2 k (by omega)]
    omega
  · rw [if_neg q] at h2
    left
    omega

/-- Awards of nothing. -/
theorem AwOK.zero {l : List Int} {e : Int} {a : List Int} (h : AwOK l e a) (hl : ∀ c ∈ l, 0 ≤ c) (hz : e = 0 ∨ ∀ k, k < l.length → l.getD k 0 = 0) : ∀ k, k < l.length → a.getD k 0 = 0 := by
  have h1 := h.each hl
  rcases hz with rfl | hz
  · have h2 := h.sum
    have h3 := sumL_nonneg l hl
    rw [if_neg (by omega)] at h2
    intro k hk
    have h4 : ∀ x ∈ a, 0 ≤ x := fun x hx => by
      obtain ⟨q, hq, rfl⟩ := List.getElem_of_mem hx
      have := h1 q (by rw [← h.length]; exact hq)
      rw [getD_get hq] at this
      exact this.1
    have h5 := mem_le_sumL a h4 _ (getD_mem (d := 0) (show k < a.length by rw [h.length]; exact hk))
    have := (h1 k hk).1
    omega
  · intro k hk
    have := h1 k hk
    have := hz k hk
    omega

/-- A second settlement changes nothing. -/
theorem SetP.again {n m : Nat} {B : Int} {s : State} {r : State × List (List Int)} (h : StaOK n m B s) (hr : SetP n m s r) {q : State × List (List Int)} (hq : SetP n m r.1 q) :
    q.1.Deposits = r.1.Deposits ∧ (∀ i, i < n → q.1.Owed.getD i [] = r.1.Owed.getD i []) ∧ ∀ i, i < n → ∀ x ∈ q.2.getD i [], x = 0 := by
  have hS := hr.ok h
  have hz : ∀ i, i < n → (q.2.getD i []).length = m ∧ ∀ k, k < m → (q.2.getD i []).getD k 0 = 0 := fun i hi => by
    have h1 := hq.aw i hi
    have h2 := h1.length
    rw [hS.rl i hi] at h2
    refine ⟨h2, fun k hk => ?_⟩
    refine h1.zero (hS.row hi) ?_ k (by rw [hS.rl i hi]; exact hk)
    rw [hS.rl i hi]
    exact hr.done h hi
  have hzero : ∀ i, i < n → sumL (q.2.getD i []) = 0 := fun i hi => by
    obtain ⟨h1, h2⟩ := hz i hi
    have : q.2.getD i [] = tab m fun _ => 0 := tab_ext 0 h1 h2
    rw [this]
    have : ∀ m : Nat, sumL (tab m fun _ => (0 : Int)) = 0 := fun m => by
      induction m with
      | zero => rfl
      | succ m ih => rw [tab_succ, sumL_append, ih]; rfl
    exact this m
  refine ⟨list_ext 0 (by rw [hq.dl, hr.dl]) fun i hi => ?_, fun i hi => list_ext 0 (by rw [(hq.o i hi).1, (hr.o i hi).1]) fun k hk => ?_, fun i hi x hx => ?_⟩
  · have hi : i < n := by rw [← hq.dl]; exact hi
    have := hq.d i hi
    rw [hzero i hi] at this
    omega
  · have hk : k < m := by rw [← (hq.o i hi).1]; exact hk
    have := (hq.o i hi).2 k hk
    rw [(hz i hi).2 k hk] at this
    omega
  · obtain ⟨k, hk, rfl⟩ := List.getElem_of_mem hx
    have := (hz i hi).2 k (by rw [← (hz i hi).1]; exact hk)
    rwa [getD_get hk] at this

theorem eqInt_eq {F : Nat} {l : List Int} (hF : l.length < F) (hl : l.length ≤ 1000000) : slices_Equal_int F l l = some true := by
  refine Ok.eq ?_
  unfold slices_Equal_int
  refine ok_brkF (by simp) ?_
  refine ok_loop (fun x : Int => 0 ≤ x ∧ x ≤ l.length) (fun x : Int => l.length - x.toNat) ⟨by simp, by simp⟩ (by simp; omega) ?_
  rintro i next ⟨i1, i2⟩ hn
  refine ok_brk (fun hc => ?_) (fun hc => ok_some rfl)
  have hc : i < l.length := of_decide_eq_true hc
  exact ok_chk ⟨i1, hc⟩ (ok_chk ⟨i1, hc⟩ (ok_brkF (by simp) (ok_chk (show InR _ from ⟨by omega, by omega⟩) (hn _ ⟨by omega, by omega⟩ (by show l.length - (i + 1).toNat < l.length - i.toNat; omega)))))

theorem sum_bound {l : List Int} {B : Int} {n : Nat} (hB : 0 ≤ B) (hn : l.length ≤ n) (h : ∀ x ∈ l, 0 ≤ x ∧ x ≤ B) : 0 ≤ sumL l ∧ sumL l ≤ B * n := by
  have h1 := sumL_nonneg l fun x hx => (h x hx).1
  have h2 := sumL_le l (B := B) fun x hx => (h x hx).2
  have h3 : B * (l.length : Int) ≤ B * n := Int.mul_le_mul_of_nonneg_left (by omega) hB
  omega

theorem sum_snoc {l : List Int} {i : Int} (h0 : 0 ≤ i) (h : i < l.length) : sumL (l.take (i + 1).toNat) = sumL (l.take i.toNat) + l.getD i.toNat 0 := by
  rw [show (i + 1).toNat = i.toNat + 1 by omega, take_succ' (d := 0) (by omega), sumL_append]; simp only [sumL]; omega
theorem sumO_snoc {l : List (List Int)} {i : Int} (h0 : 0 ≤ i) (h : i < l.length) : sumL ((l.map sumL).take (i + 1).toNat) = sumL ((l.map sumL).take i.toNat) + sumL (l.getD i.toNat []) := by
  rw [sum_snoc h0 (by simpa using h)]
  have : (l.map sumL).getD i.toNat 0 = sumL (l.getD i.toNat []) := by
    rw [getD_get (by simp; omega), List.getElem_map, getD_get (by omega)]
  rw [this]

theorem StaOK.sums {n m : Nat} {B : Int} {s : State} (h : StaOK n m B s) (hB : 0 ≤ B) (k : Nat) : 0 ≤ sumL (s.Deposits.take k) ∧ sumL (s.Deposits.take k) ≤ B * 10 ∧ 0 ≤ sumL ((s.Owed.map sumL).take k) ∧ sumL ((s.Owed.map sumL).take k) ≤ B * 6 * 10 := by
  have hn := h.nb
  have hm := h.mb
  have hd : ∀ x ∈ s.Deposits, 0 ≤ x ∧ x ≤ B := fun x hx => by
    obtain ⟨i, hi, rfl⟩ := List.getElem_of_mem hx
    have := h.d i (by rw [← h.dl]; exact hi)
    rwa [getD_get hi] at this
  have hO : ∀ x ∈ s.Owed.map sumL, 0 ≤ x ∧ x ≤ B * 6 := fun x hx => by
    obtain ⟨r, hr, rfl⟩ := List.mem_map.1 hx
    obtain ⟨i, hi, rfl⟩ := List.getElem_of_mem hr
    have hin : i < n := by rw [← h.ol]; exact hi
    have hl := h.rl i hin
    rw [getD_get hi] at hl
    refine sum_bound hB (n := 6) (by omega) fun y hy => ?_
    obtain ⟨k, hk, rfl⟩ := List.getElem_of_mem hy
    have := h.o i hin k (by omega)
    rwa [getD_get hi, getD_get hk] at this
  have h1 := sum_bound hB (n := 10) (l := s.Deposits.take k) (by rw [List.length_take, h.dl]; omega) fun x hx => hd x (List.mem_of_mem_take hx)
  have h2 := sum_bound (B := B * 6) (by omega) (n := 10) (l := (s.Owed.map sumL).take k) (by rw [List.length_take, List.length_map, h.ol]; omega) fun x hx => hO x (List.mem_of_mem_take hx)
  omega

theorem feesAdds1_eq (F : Nat) (c : Int) : law12_FeesAdds_1 F c = some (c != 0) := rfl

set_option maxRecDepth 100000 in
set_option maxHeartbeats 4000000 in
theorem feesAdds_ok' {F : Nat} (hF : F = 1000000000000000) (l m_ : List Int) (hl : Bytes l) (hm_ : Bytes m_) : law12_FeesAdds F l m_ = some true := by
  have haw : law12_awake F = some true := by rw [hF]; exact awake_eq
  have F0 : 0 < F := by omega
  refine Ok.eq ?_
  unfold law12_FeesAdds
  rw [haw]
  refine ok_next0 F0 hl (by omega) fun ow p1 a1 a2 a3 a4 a5 => ?_
  dsimp only
  refine ok_chk (show InR _ from ⟨by omega, by omega⟩) (ok_next F0 hl a4 a5 (by omega) fun au p2 b1 b2 b3 b4 b5 => ?_)
  dsimp only
  refine ok_chk (show InR _ from ⟨by omega, by omega⟩) ?_
  obtain ⟨n, hn⟩ : ∃ n : Nat, 1 + ow = n := ⟨(1 + ow).toNat, by omega⟩
  obtain ⟨m, hm⟩ : ∃ m : Nat, 1 + au = m := ⟨(1 + au).toNat, by omega⟩
  rw [hn, hm]
  have hn1 : 1 ≤ n ∧ n ≤ 6 := by omega
  have hm1 : 1 ≤ m ∧ m ≤ 4 := by omega
  -- the first state
  refine ok_loop (fun x : Int × List (List Int) × List Int × Int => 0 ≤ x.1 ∧ x.1 ≤ n ∧ (x.2.1.length : Int) = x.1 ∧ (x.2.2.1.length : Int) = x.1 ∧ (∀ r ∈ x.2.1, r.length = m ∧ ∀ y ∈ r, 0 ≤ y ∧ y ≤ 4000) ∧ (∀ y ∈ x.2.2.1, 0 ≤ y ∧ y ≤ 4000) ∧ 0 ≤ x.2.2.2 ∧ x.2.2.2 ≤ l.length) (fun x => n - x.1.toNat)
    ⟨by simp, by show (0 : Int) ≤ n; omega, rfl, rfl, fun _ h => by (cases h), fun _ h => by (cases h), b4, b5⟩ (by simp; omega) ?_
  rintro ⟨i, O, D, p⟩ next ⟨i1, i2, i3, i4, i5, i6, i7, i8⟩ hnx
  simp only at i1 i2 i3 i4 i5 i6 i7 i8
  dsimp only
  refine ok_brk (fun hc => ?_) (fun hc => ?_)
  · have hc : i < n := of_decide_eq_true hc
    refine ok_next F0 hl i7 i8 (by omega) fun d q c1 c2 c3 c4 c5 => ?_
    dsimp only
    refine ok_chk (show InR _ from ⟨by omega, by omega⟩) (ok_chk (by simp; omega) ?_)
    refine ok_loop (fun x : Int × List Int × Int => 0 ≤ x.1 ∧ x.1 ≤ m ∧ (x.2.1.length : Int) = x.1 ∧ (∀ y ∈ x.2.1, 0 ≤ y ∧ y ≤ 4000) ∧ 0 ≤ x.2.2 ∧ x.2.2 ≤ l.length) (fun x => m - x.1.toNat)
      ⟨by simp, by show (0 : Int) ≤ m; omega, rfl, fun _ h => by (cases h), c4, c5⟩ (by simp; omega) ?_
    rintro ⟨k, R, p⟩ next2 ⟨k1, k2, k3, k4, k5, k6⟩ hn2
    simp only at k1 k2 k3 k4 k5 k6
    dsimp only
    refine ok_brk (fun hb => ?_) (fun hb => ?_)
    · have hb : k < m := of_decide_eq_true hb
      refine ok_next F0 hl k5 k6 (by omega) fun u q1 d1 d2 d3 d4 d5 => ?_
      dsimp only
      refine ok_next F0 hl d4 d5 (by omega) fun v q2 e1 e2 e3 e4 e5 => ?_
      dsimp only
      have huv := mul_bound (a := u) (b := v) (A := 4) (B := 255) ⟨d1, by omega⟩ ⟨e1, e3⟩
      refine ok_chk (show InR _ from ⟨by omega, by omega⟩) (ok_chk (by simp; omega) (ok_chk (show InR _ from ⟨by omega, by omega⟩) (hn2 _ ⟨by show 0 ≤ k + 1; omega, by show k + 1 ≤ m; omega, by simp; omega, fun y hy => ?_, e4, e5⟩ (by show m - (k + 1).toNat < m - k.toNat; omega))))
      rcases List.mem_append.1 hy with hy | hy
      · exact k4 y hy
      · rw [List.mem_singleton.1 hy]; omega
    · have hb : ¬ k < m := of_decide_eq_false hb
      refine ok_chk (by simp; omega) (ok_chk (show InR _ from ⟨by omega, by omega⟩) (hnx _ ⟨by show 0 ≤ i + 1; omega, by show i + 1 ≤ n; omega, by simp; omega, by simp; omega, fun r hr => ?_, fun y hy => ?_, k5, k6⟩ (by show n - (i + 1).toNat < n - i.toNat; omega)))
      · rcases List.mem_append.1 hr with hr | hr
        · exact i5 r hr
        · rw [List.mem_singleton.1 hr]; exact ⟨by omega, k4⟩
      · rcases List.mem_append.1 hy with hy | hy
        · exact i6 y hy
        · rw [List.mem_singleton.1 hy]; omega
  have hc : ¬ i < n := of_decide_eq_false hc
  have hst0 : StaOK n m (cap 0) ⟨D, O⟩ := by
    refine ⟨by omega, by omega, by show D.length = n; omega, by show O.length = n; omega, fun j hj => ?_, fun j hj => ?_, fun j hj k hk => ?_⟩
    · exact (i5 _ (getD_mem (by show j < O.length; omega))).1
    · exact i6 _ (getD_mem (by show j < D.length; omega))
    · obtain ⟨h1, h2⟩ := i5 _ (getD_mem (d := []) (show j < O.length by omega))
      exact h2 _ (getD_mem (by show k < (O.getD j []).length; omega))
  clear hnx i1 i2 i3 i4 i5 i6 i7 i8 hc a1 a2 a3 a4 a5 b1 b2 b3 b4 b5 hn hm
  -- the months
  refine ok_next0 F0 hm_ (by omega) fun mo p3 c1 c2 c3 c4 c5 => ?_
  dsimp only
  refine ok_loop (fun x : Int × List (List Int) × List Int × Int => 0 ≤ x.1 ∧ x.1 ≤ mo ∧ StaOK n m (cap x.1.toNat) ⟨x.2.2.1, x.2.1⟩ ∧ 0 ≤ x.2.2.2 ∧ x.2.2.2 ≤ m_.length) (fun x => (mo - x.1).toNat)
    ⟨by simp, c1, hst0, c4, c5⟩ (by show (mo - 0).toNat < F; omega) ?_
  rintro ⟨j, O, D, p⟩ next ⟨j1, j2, hst, j4, j5⟩ hnx
  simp only at j1 j2 hst j4 j5
  dsimp only
  refine ok_brk (fun hd => ?_) (fun _ => ok_bnde rfl (ok_some rfl))
  have hd : j < mo := of_decide_eq_true hd
  refine ok_next F0 hm_ j4 j5 (by omega) fun late p4 d1 d2 d3 d4 d5 => ?_
  dsimp only
  -- payments and bills
  refine ok_loop (fun x : List Int × List (List Int) × Int × Int => 0 ≤ x.2.2.1 ∧ x.2.2.1 ≤ n ∧ (x.1.length : Int) = x.2.2.1 ∧ (x.2.1.length : Int) = x.2.2.1 ∧ (∀ r ∈ x.2.1, r.length = m ∧ ∀ y ∈ r, 0 ≤ y ∧ y ≤ 300) ∧ (∀ y ∈ x.1, 0 ≤ y ∧ y ≤ 1000) ∧ 0 ≤ x.2.2.2 ∧ x.2.2.2 ≤ m_.length) (fun x => n - x.2.2.1.toNat)
    ⟨by simp, by show (0 : Int) ≤ n; omega, rfl, rfl, fun _ h => by (cases h), fun _ h => by (cases h), d4, d5⟩ (by simp; omega) ?_
  rintro ⟨pd, bl, i, p⟩ next2 ⟨i1, i2, i3, i4, i5, i6, i7, i8⟩ hn2
  simp only at i1 i2 i3 i4 i5 i6 i7 i8
  dsimp only
  refine ok_brk (fun hc => ?_) (fun hc => ?_)
  · have hc : i < n := of_decide_eq_true hc
    refine ok_next F0 hm_ i7 i8 (by omega) fun d q c1 c2 c3 c4 c5 => ?_
    dsimp only
    refine ok_chk (show InR _ from ⟨by omega, by omega⟩) (ok_chk (by simp; omega) ?_)
    refine ok_loop (fun x : Int × List Int × Int => 0 ≤ x.1 ∧ x.1 ≤ m ∧ (x.2.1.length : Int) = x.1 ∧ (∀ y ∈ x.2.1, 0 ≤ y ∧ y ≤ 300) ∧ 0 ≤ x.2.2 ∧ x.2.2 ≤ m_.length) (fun x => m - x.1.toNat)
      ⟨by simp, by show (0 : Int) ≤ m; omega, rfl, fun _ h => by (cases h), c4, c5⟩ (by simp; omega) ?_
    rintro ⟨k, R, p⟩ next3 ⟨k1, k2, k3, k4, k5, k6⟩ hn3
    simp only at k1 k2 k3 k4 k5 k6
    dsimp only
    refine ok_brk (fun hb => ?_) (fun hb => ?_)
    · have hb : k < m := of_decide_eq_true hb
      refine ok_next F0 hm_ k5 k6 (by omega) fun u q1 d1 d2 d3 d4 d5 => ?_
      dsimp only
      refine ok_chk (by simp; omega) (ok_chk (show InR _ from ⟨by omega, by omega⟩) (hn3 _ ⟨by show 0 ≤ k + 1; omega, by show k + 1 ≤ m; omega, by simp; omega, fun y hy => ?_, d4, d5⟩ (by show m - (k + 1).toNat < m - k.toNat; omega)))
      rcases List.mem_append.1 hy with hy | hy
      · exact k4 y hy
      · rw [List.mem_singleton.1 hy]; omega
    · have hb : ¬ k < m := of_decide_eq_false hb
      refine ok_chk (by simp; omega) (ok_chk (show InR _ from ⟨by omega, by omega⟩) (hn2 _ ⟨by show 0 ≤ i + 1; omega, by show i + 1 ≤ n; omega, by simp; omega, by simp; omega, fun r hr => ?_, fun y hy => ?_, k5, k6⟩ (by show n - (i + 1).toNat < n - i.toNat; omega)))
      · rcases List.mem_append.1 hr with hr | hr
        · exact i5 r hr
        · rw [List.mem_singleton.1 hr]; exact ⟨by omega, k4⟩
      · rcases List.mem_append.1 hy with hy | hy
        · exact i6 y hy
        · rw [List.mem_singleton.1 hy]; omega
  have hc : ¬ i < n := of_decide_eq_false hc
  have hin : InOK n m pd bl late := by
    refine ⟨by omega, fun j hj => i6 _ (getD_mem (by omega)), by omega, fun j hj => (i5 _ (getD_mem (by omega))).1, fun j hj k hk => ?_, d1, by omega⟩
    obtain ⟨h1, h2⟩ := i5 _ (getD_mem (d := []) (show j < bl.length by omega))
    exact h2 _ (getD_mem (by omega))
  have hcap := cap_le (i := j.toNat) (by omega)
  clear hn2 i1 i2 i3 i4 i5 i6 hc d1 d2 d3 d4 d5 j4 j5
  have hcap1 := cap_le (i := j.toNat + 1) (by omega)
  have hmon := monS_ok hst hin
  rw [← cap_succ] at hmon
  refine ok_bnd _ (Month_ok (by omega) hst (by omega) hin) ?_
  rintro ⟨x, pays, e⟩ ⟨rfl, hset⟩
  simp only at hset
  have hx := hset.ok hmon
  simp only at hx
  dsimp only
  refine ok_bnd _ (Settle_ok (s := x) (by omega) hx (by omega)) ?_
  rintro ⟨again, none_, e⟩ ⟨rfl, hag⟩
  simp only at hag
  dsimp only
  obtain ⟨g1, g2, g3⟩ := hset.again hmon hag
  simp only at g1 g2 g3
  have hxd := hset.dl
  have hxo := hset.ol
  have hpl := hset.pl
  have hagd := hag.dl
  have hago := hag.ol
  have hnl := hag.pl
  simp only at hxd hxo hpl hagd hago hnl
  refine ok_bnde (Sum_eq (s := ⟨D, O⟩) (by omega) hst (by omega)) (ok_bnde (Sum_eq (s := x) (by omega) hx (by omega)) ?_)
  dsimp only
  rw [hxd, hxo, hpl, hnl, hago]
  simp only [bne_self_eq_false, Bool.or_false, Bool.false_or, Bool.not_false]
  refine ok_bnde (b := true) (by rw [g1]; exact eqInt_eq (by omega) (by omega)) (ok_brkF rfl ?_)
  have hsO := hst.sums hcap.1
  have hsX := hx.sums hcap1.1
  have hDl : D.length = n := hst.dl
  have hOl : O.length = n := hst.ol
  have hpdl := hin.pl
  have hbll := hin.bl
  -- the accounts of all owners
  refine ok_loop (fun z : Int × Int × Int × Int => 0 ≤ z.2.1 ∧ z.2.1 ≤ n ∧ sumL (D.take z.2.1.toNat) + z.2.2.1 = sumL (x.Deposits.take z.2.1.toNat) + z.2.2.2 ∧ sumL ((O.map sumL).take z.2.1.toNat) + z.1 = sumL ((x.Owed.map sumL).take z.2.1.toNat) + z.2.2.2 ∧ 0 ≤ z.2.2.1 ∧ z.2.2.1 ≤ 1000 * z.2.1 ∧ 0 ≤ z.1 ∧ z.1 ≤ 3000000 * z.2.1 ∧ 0 ≤ z.2.2.2 ∧ z.2.2.2 ≤ 3000000 * z.2.1) (fun z => n - z.2.1.toNat)
    ⟨by simp, by show (0 : Int) ≤ n; omega, by simp [sumL], by simp [sumL], by simp, by simp, by simp, by simp, by simp, by simp⟩ (by simp; omega) ?_
  rintro ⟨came, i, inn, out⟩ next4 ⟨f1, f2, f3, f4, f5, f6, f7, f8, f9, f10⟩ hn4
  simp only at f1 f2 f3 f4 f5 f6 f7 f8 f9 f10
  dsimp only
  obtain ⟨so1, so2, so3, so4⟩ := hsO i.toNat
  obtain ⟨sx1, sx2, sx3, sx4⟩ := hsX i.toNat
  simp only at so1 so2 so3 so4
  refine ok_brk (fun hb => ?_) (fun hb => ?_)
  · have hb : i < n := of_decide_eq_true hb
    have hi : i.toNat < n := by omega
    have hpay := hset.aw i.toNat hi
    have hrowX := (hset.o i.toNat hi).1
    have hrowXk := (hset.o i.toNat hi).2
    have hdX := hset.d i.toNat hi
    have hdone := hset.done hmon hi
    have hrlM : ((monS n m ⟨D, O⟩ pd bl late).Owed.getD i.toNat []).length = m := hmon.rl i.toNat hi
    have hpayl := hpay.length
    have hpeach := hpay.each (hmon.row hi)
    have hMd : (monS n m ⟨D, O⟩ pd bl late).Deposits.getD i.toNat 0 = D.getD i.toNat 0 + pd.getD i.toNat 0 := tab_get hi
    have hMo : ∀ k, k < m → ((monS n m ⟨D, O⟩ pd bl late).Owed.getD i.toNat []).getD k 0 = owN ⟨D, O⟩ late bl i.toNat k := fun k hk => by
      show ((tab n fun i => tab m fun k => owN ⟨D, O⟩ late bl i k).getD i.toNat []).getD k 0 = _
      rw [tab_get hi, tab_get hk]
    simp only at hpay hrowX hrowXk hdX hdone hpayl hpeach
    rw [hMd] at hdX
    rw [hrlM] at hpayl hpeach
    have hDi := hst.d i.toNat hi
    have hPi := hin.p i.toNat hi
    have hXi := hx.d i.toNat hi
    have hOi := hst.o i.toNat hi
    have hBi := hin.b i.toNat hi
    have hXo := hx.o i.toNat hi
    have hOrl := hst.rl i.toNat hi
    have hBrl := hin.rl i.toNat hi
    simp only at hDi hOi hOrl
    have q1 := sum_snoc (l := D) f1 (by omega)
    have q2 := sum_snoc (l := x.Deposits) f1 (by omega)
    have q3 := sumO_snoc (l := O) f1 (by omega)
    have q4 := sumO_snoc (l := x.Owed) f1 (by omega)
    have hown : ∀ k, k < m → (pays.getD i.toNat []).getD k 0 ≤ cap (j.toNat + 1) := fun k hk => by
      have h1 := hmon.o i.toNat hi k hk
      have h2 := hpeach k hk
      omega
    have hown2 : ∀ k, k < m → (O.getD i.toNat []).getD k 0 + moreV late ((O.getD i.toNat []).getD k 0) + (bl.getD i.toNat []).getD k 0 = (x.Owed.getD i.toNat []).getD k 0 + (pays.getD i.toNat []).getD k 0 := fun k hk => by
      have h1 := hrowXk k hk
      rw [hMo k hk] at h1
      unfold owN at h1
      simp only at h1
      omega
    refine ok_chk ⟨f1, hb⟩ (ok_brkF (by rw [hrowX]; simp) (ok_chk ⟨f1, hb⟩ (ok_brkF (by rw [hpayl]; simp) (ok_chk ⟨f1, hb⟩ (ok_chk ⟨f1, hb⟩ ?_)))))
    refine ok_bnde (b := true) (by rw [g2 i.toNat hi]; exact eqInt_eq (by omega) (by omega)) (ok_brkF rfl (ok_chk ⟨f1, hb⟩ ?_))
    have hnone := g3 i.toNat hi
    have hnonel : (none_.getD i.toNat []).length = m := by
      have := (hag.aw i.toNat hi).length
      rw [hx.rl i.toNat hi] at this
      exact this
    refine ok_join F0 (fun z : Int => z = -1) (fun z hz => ?_) fun kk hkk => ?_
    · refine ok_brkF (by subst hz; rfl) (ok_chk ⟨f1, by omega⟩ (ok_chk ⟨f1, by omega⟩ (ok_chk (show InR _ from ⟨by omega, by omega⟩) (ok_chk ⟨f1, by omega⟩ ?_))))
      have hOb : ∀ k : Nat, 0 ≤ sumL ((O.getD i.toNat []).take k) := fun k => sumL_nonneg _ fun y hy => hst.row hi y (List.mem_of_mem_take hy)
      have hXb : ∀ k : Nat, 0 ≤ sumL ((x.Owed.getD i.toNat []).take k) := fun k => sumL_nonneg _ fun y hy => hx.row hi y (List.mem_of_mem_take hy)
      generalize hgO : O.getD i.toNat [] = Oi at hOi hOrl hown2 q3 hOb ⊢
      generalize hgX : x.Owed.getD i.toNat [] = Xi at hrowX hXo hdone hown2 q4 hXb ⊢
      generalize hgB : bl.getD i.toNat [] = Bi at hBi hBrl hown2 ⊢
      generalize hgP : pays.getD i.toNat [] = Pi at hpayl hpeach hown hown2 hdX ⊢
      refine ok_loop (fun z : Int × Int × Int × Int × Int => 0 ≤ z.2.2.1 ∧ z.2.2.1 ≤ m ∧ z.2.1 = D.getD i.toNat 0 + pd.getD i.toNat 0 - sumL (Pi.take z.2.2.1.toNat) ∧ z.2.2.2.1 = out + sumL (Pi.take z.2.2.1.toNat) ∧ z.2.2.2.2 = sumL (Xi.take z.2.2.1.toNat) ∧ sumL (Oi.take z.2.2.1.toNat) + z.1 = came + sumL (Xi.take z.2.2.1.toNat) + sumL (Pi.take z.2.2.1.toNat) ∧ came ≤ z.1 ∧ z.1 ≤ came + 500000 * z.2.2.1 ∧ 0 ≤ sumL (Pi.take z.2.2.1.toNat) ∧ sumL (Pi.take z.2.2.1.toNat) ≤ 400000 * z.2.2.1 ∧ sumL (Xi.take z.2.2.1.toNat) ≤ 400000 * z.2.2.1) (fun z => m - z.2.2.1.toNat)
        ⟨by simp, by show (0 : Int) ≤ m; omega, by simp [sumL], by simp [sumL], rfl, by simp [sumL], by simp, by simp, by simp [sumL], by simp [sumL], by simp [sumL]⟩ (by simp; omega) ?_
      have hlate := hin.l
      clear hnx hmon hst hin hset hag hx g1 g2 g3 hsO hsX
      rintro ⟨ca, has, k, ou, owes⟩ next5 ⟨k1, k2, k3, k4, k5, k6, k7, k8, k9, k10, k11⟩ hn5
      simp only at k1 k2 k3 k4 k5 k6 k7 k8 k9 k10 k11
      dsimp only
      rw [hrowX]
      have hoB : 0 ≤ out ∧ out ≤ 18000000 := by omega
      refine ok_brk (fun hq => ?_) (fun hq => ?_)
      · have hq : k < m := of_decide_eq_true hq
        have hk : k.toNat < m := by omega
        have e1 := hOi k.toNat hk
        have e2 := hXo k.toNat hk
        have e3 := hBi k.toNat hk
        have e4 := hpeach k.toNat hk
        have e5 := hown2 k.toNat hk
        have e6 := hown k.toNat hk
        have e7 := more_bound hlate e1
        have r1 := sum_snoc (l := Oi) k1 (by omega)
        have r2 := sum_snoc (l := Xi) k1 (by omega)
        have r3 := sum_snoc (l := Pi) k1 (by omega)
        have rX := hXb k.toNat
        have hmv : (Oi.getD k.toNat 0 * late + 99) / 100 = moreV late (Oi.getD k.toNat 0) := rfl
        rw [hmv]
        generalize Oi.getD k.toNat 0 = o at e1 e5 e7 r1 ⊢
        generalize Xi.getD k.toNat 0 = xo at e2 e5 r2 ⊢
        generalize Bi.getD k.toNat 0 = bb at e3 e5 ⊢
        generalize Pi.getD k.toNat 0 = pp at e4 e5 e6 r3 ⊢
        generalize moreV late o = mv at e5 e7 ⊢
        have ik : 0 ≤ k ∧ k < m := ⟨k1, hq⟩
        refine ok_chk ik (ok_chk ⟨f1, by omega⟩ (ok_chk ⟨k1, by omega⟩ (ok_chk (show InR _ from ⟨by omega, by omega⟩) (ok_chk (show InR _ from ⟨by omega, by omega⟩) (ok_chk ⟨by omega, by omega⟩ (ok_brkF (decide_eq_false (by omega)) ?_))))))
        refine ok_chk ⟨f1, by omega⟩ (ok_chk ⟨k1, by omega⟩ (ok_brkF (decide_eq_false (by omega)) (ok_chk ⟨f1, by omega⟩ (ok_chk ⟨k1, by omega⟩ (ok_chk (show InR _ from ⟨by omega, by omega⟩) ?_)))))
        refine ok_chk ⟨f1, by omega⟩ (ok_chk ⟨k1, by omega⟩ (ok_chk (show InR _ from ⟨by omega, by omega⟩) (ok_chk ⟨f1, by omega⟩ (ok_chk ⟨k1, by omega⟩ (ok_chk (show InR _ from ⟨by omega, by omega⟩) (ok_brkF (by simp only [bne_eq_false_iff_eq]; omega) ?_))))))
        refine ok_chk ⟨f1, by omega⟩ (ok_chk ⟨k1, by omega⟩ (ok_chk (show InR _ from ⟨by omega, by omega⟩) (ok_chk (show InR _ from ⟨by omega, by omega⟩) (ok_chk ⟨f1, by omega⟩ (ok_chk ⟨k1, by omega⟩ (ok_chk (show InR _ from ⟨by omega, by omega⟩) ?_))))))
        refine ok_chk ⟨f1, by omega⟩ (ok_chk ⟨k1, by omega⟩ (ok_chk (show InR _ from ⟨by omega, by omega⟩) (ok_chk (show InR _ from ⟨by omega, by omega⟩) (ok_chk (show InR _ from ⟨by omega, by omega⟩) (hn5 _ ⟨by show 0 ≤ k + 1; omega, by show k + 1 ≤ m; omega, ?_, ?_, ?_, ?_, ?_, ?_, ?_, ?_, ?_⟩ (by show m - (k + 1).toNat < m - k.toNat; omega))))))
        · show has - pp = _ - sumL (Pi.take (k + 1).toNat); omega
        · show ou + pp = out + sumL (Pi.take (k + 1).toNat); omega
        · show owes + xo = sumL (Xi.take (k + 1).toNat); omega
        · show sumL (Oi.take (k + 1).toNat) + (ca + (mv + bb)) = came + sumL (Xi.take (k + 1).toNat) + sumL (Pi.take (k + 1).toNat); omega
        · show came ≤ ca + (mv + bb); omega
        · show ca + (mv + bb) ≤ came + 500000 * (k + 1); omega
        · show 0 ≤ sumL (Pi.take (k + 1).toNat); omega
        · show sumL (Pi.take (k + 1).toNat) ≤ 400000 * (k + 1); omega
        · show sumL (Xi.take (k + 1).toNat) ≤ 400000 * (k + 1); omega
      · have hq : ¬ k < m := of_decide_eq_false hq
        rw [List.take_of_length_le (by omega)] at k3 k4 k9 k10
        rw [List.take_of_length_le (l := Xi) (by omega)] at k5 k6 k11
        rw [List.take_of_length_le (by omega), List.take_of_length_le (by omega)] at k6
        have hz : x.Deposits.getD i.toNat 0 = 0 ∨ owes = 0 := by
          rcases hdone with q | q
          · exact .inl q
          · right
            rw [k5]
            have : Xi = tab m fun _ => 0 := tab_ext 0 hrowX q
            rw [this]
            have : ∀ m : Nat, sumL (tab m fun _ => (0 : Int)) = 0 := fun m => by
              induction m with
              | zero => rfl
              | succ m ih => rw [tab_succ, sumL_append, ih]; rfl
            exact this m
        refine ok_chk ⟨f1, by omega⟩ (ok_brkF ?_ (ok_chk ⟨f1, by omega⟩ (ok_chk (show InR _ from ⟨by omega, by omega⟩) (ok_chk (show InR _ from ⟨by omega, by omega⟩) (hn4 _ ⟨by show 0 ≤ i + 1; omega, by show i + 1 ≤ n; omega, ?_, ?_, ?_, ?_, ?_, ?_, ?_, ?_⟩ (by show n - (i + 1).toNat < n - i.toNat; omega))))))
        · simp only [Bool.or_eq_false_iff, Bool.and_eq_false_iff, decide_eq_false_iff_not, bne_eq_false_iff_eq]
          omega
        · show sumL (D.take (i + 1).toNat) + (inn + pd.getD i.toNat 0) = sumL (x.Deposits.take (i + 1).toNat) + ou; omega
        · show sumL ((O.map sumL).take (i + 1).toNat) + ca = sumL ((x.Owed.map sumL).take (i + 1).toNat) + ou; omega
        · show 0 ≤ inn + pd.getD i.toNat 0; omega
        · show inn + pd.getD i.toNat 0 ≤ 1000 * (i + 1); omega
        · show 0 ≤ ca; omega
        · show ca ≤ 3000000 * (i + 1); omega
        · show 0 ≤ ou; omega
        · show ou ≤ 3000000 * (i + 1); omega
    · refine ok_find (p := fun c => c != 0) (by omega) (by omega) (fun c _ => feesAdds1_eq F c) (fun q hq hp => ?_) (fun _ => hkk _ rfl)
      have := hnone _ (getD_mem (d := 0) hq)
      rw [this] at hp
      simp at hp
  · have hb : ¬ i < n := of_decide_eq_false hb
    have e1 : sumL D = sumL (D.take i.toNat) := by rw [List.take_of_length_le (by omega)]
    have e2 : sumL x.Deposits = sumL (x.Deposits.take i.toNat) := by rw [List.take_of_length_le (by omega)]
    have e3 : sumO O = sumL ((O.map sumL).take i.toNat) := by rw [List.take_of_length_le (by simp; omega)]; rfl
    have e4 : sumO x.Owed = sumL ((x.Owed.map sumL).take i.toNat) := by rw [List.take_of_length_le (by simp; omega)]; rfl
    rw [e1, e2, e3, e4]
    refine ok_chk (show InR _ from ⟨by omega, by omega⟩) (ok_chk (show InR _ from ⟨by omega, by omega⟩) (ok_chk (fun _ => ⟨by omega, by omega⟩) (ok_chk (fun _ => ⟨by omega, by omega⟩) (ok_brkF ?_ (ok_chk (show InR _ from ⟨by omega, by omega⟩) (hnx _ ⟨by show 0 ≤ j + 1; omega, by show j + 1 ≤ mo; omega, ?_, i7, i8⟩ (by show (mo - (j + 1)).toNat < (mo - j).toNat; omega)))))))
    · simp only [Bool.or_eq_false_iff, bne_eq_false_iff_eq]
      omega
    · show StaOK n m (cap (j + 1).toNat) x
      rw [show (j + 1).toNat = j.toNat + 1 by omega]
      exact hx
theorem feesAdds_ok {l k : List Int} (h0 : (∀ y ∈ l, 0 ≤ y ∧ y ≤ 255) ∧ l.length ≤ 9223372036854775807) (h1 : (∀ y ∈ k, 0 ≤ y ∧ y ≤ 255) ∧ k.length ≤ 9223372036854775807) : law12_FeesAdds 1000000000000000 l k = some true :=
  feesAdds_ok' rfl l k ⟨h0.1, h0.2⟩ ⟨h1.1, h1.2⟩
end Go.Proofs.Fe

namespace Go.KX
open Go Go.ChangeShapes Go.WideShapes Go.RowKit

/-- Types whose reading asks only for cells: numbers, Booleans, and structs, arrays and slices of such. -/
def goodT (P : Program) : Nat → TypeId → Bool
  | 0, _ => false
  | n + 1, t => match P.underlying t with
    | some (.int _) => true
    | some .bool => true
    | some (.struct fs) => fs.toList.all fun f => goodT P n f.type
    | some (.array _ e) => goodT P n e
    | some (.slice e) => goodT P n e && Nat.ble 1 (P.cellsOf e)
    | _ => false

theorem mapM_carry' {α β : Type} {f g : α → Option β} : ∀ {l : List α} {r : List β}, l.mapM f = some r → (∀ x y, x ∈ l → y ∈ r → f x = some y → g x = some y) → l.mapM g = some r := mapM_carry

section
variable {H : Type} {enc : TypeId × Value → H} {P : Program} {w : World} {base : Nat} {held : Bool}

theorem trod_spare {sp : Nat → Bool} : ∀ (m n : Nat) (t : TypeId) (cs : List Value) (x : DataW H × List MemPlace), goodT P m t = true →
    DataW.trod enc P w base (fun _ => true) held n t cs = some x → (∀ p ∈ x.2, sp p.block = true) → DataW.trod enc P w base sp held n t cs = some x := by
  intro m
  induction m with
  | zero => intro n t cs x h; cases h
  | succ m ih =>
    intro n t cs x hg h hs
    cases n with
    | zero => simp [DataW.trod] at h
    | succ n =>
      rw [DataW.trod_step] at h ⊢
      unfold goodT at hg
      unfold DataW.trodStep at h ⊢
      split at h
      case h_1 => exact h
      case h_2 => exact h
      case h_8 e a len cap hu =>
        rw [hu] at hg
        simp only [Bool.and_eq_true] at hg
        simp only at h ⊢
        split at h
        · rename_i hc
          rw [if_pos hc]
          simp only [if_true, Option.map_eq_some_iff, Option.bind_eq_some_iff] at h ⊢
          obtain ⟨elems, he, rest, hr, rfl⟩ := h
          have hlen : elems.length = len := by simpa using mapM_some_length he
          have hrlen : rest.length = cap - len := by simpa using mapM_some_length hr
          have hk : 1 ≤ P.cellsOf e := Nat.le_of_ble_eq_true hg.2
          have one : ∀ i y, (w.cells? base (a.add (i * P.cellsOf e)) (P.cellsOf e)).bind (DataW.trod enc P w base (fun _ => true) held n e) = some y → (∀ p ∈ y.2, sp p.block = true) →
              (w.cells? base (a.add (i * P.cellsOf e)) (P.cellsOf e)).bind (DataW.trod enc P w base sp held n e) = some y := by
            intro i y hy hp
            rw [Option.bind_eq_some_iff] at hy ⊢
            obtain ⟨cs', h1, h2⟩ := hy
            exact ⟨cs', h1, ih n e cs' y hg.1 h2 hp⟩
          have hpl : ∀ y, y ∈ elems ++ rest → ∀ p ∈ y.2, sp p.block = true := fun y hy p hp => hs p (by
            simp only [List.mem_append]
            exact .inr (List.mem_flatMap.2 ⟨y, hy, hp⟩))
          refine ⟨elems, mapM_carry' he fun i y hi hy hiy => one i y hiy (hpl y (by simp [hy])), rest, ?_, rfl⟩
          by_cases hcap : cap = 0
          · have : rest = [] := List.length_eq_zero_iff.1 (by omega)
            subst this
            split
            · rw [show cap - len = 0 by omega]; rfl
            · rfl
          · have : sp a.block = true := by
              have := hs (.cell a.block (a.off + 0)) (by
                simp only [List.mem_append]
                refine .inl (MemPlace.mem_row.2 ⟨0, ?_, rfl⟩)
                rw [hlen, hrlen, show len + (cap - len) = cap by omega]
                exact Nat.mul_pos (by omega) hk)
              exact this
            rw [if_pos this]
            exact mapM_carry' hr fun j y hj hy hjy => one _ y hjy (hpl y (by simp [hy]))
        · cases h
      case h_7 => exact h
      case h_9 fs cs' hu =>
        rw [hu] at hg
        simp only at hg
        split at h
        · rename_i hl
          rw [if_pos hl]
          simp only [Option.map_eq_some_iff] at h ⊢
          obtain ⟨xs, hx, rfl⟩ := h
          refine ⟨xs, mapM_carry' hx fun f y hf hy hfy => ih n f.type _ y (List.all_eq_true.1 hg f hf) hfy fun p hp => hs p ?_, rfl⟩
          exact List.mem_flatMap.2 ⟨y, hy, hp⟩
        · cases h
      case h_10 =>
        rename_i e hu
        rw [hu] at hg
        simp only at hg
        split at h
        · rename_i hl
          rw [if_pos hl]
          simp only [Option.map_eq_some_iff] at h ⊢
          obtain ⟨xs, hx, rfl⟩ := h
          refine ⟨xs, mapM_carry' hx fun f y hf hy hfy => ih n e _ y hg hfy fun p hp => hs p ?_, rfl⟩
          exact List.mem_flatMap.2 ⟨y, hy, hp⟩
        · cases h
      all_goals simp_all

theorem trod_move {w' : World} {sp : Nat → Bool} {t : TypeId} {v : Value} {d : DataW H} {ps : List MemPlace} (hg : goodT P 8 t = true) (h : DataW.Trod enc P w base (fun _ => true) held t v d ps)
    (hsame : ∀ p ∈ ps, w.sameAt w' p) (hs : ∀ p ∈ ps, sp p.block = true) : DataW.Trod enc P w' base sp held t v d ps := by
  obtain ⟨n, hn⟩ := h
  exact ⟨n, trod_spare 8 n t _ _ hg (DataW.trod_carry n t _ _ hn hsame) hs⟩

theorem trodAll_move {w' : World} {sp : Nat → Bool} : ∀ {ts : List TypeId} {vs : List Value} {ds : List (DataW H)} {ps : List MemPlace}, ts.all (goodT P 8) = true → DataW.TrodAll enc P w base (fun _ => true) held ts vs ds ps →
    (∀ p ∈ ps, w.sameAt w' p) → (∀ p ∈ ps, sp p.block = true) → DataW.TrodAll enc P w' base sp held ts vs ds ps := by
  intro ts
  induction ts with
  | nil =>
    intro vs ds ps _ h _ _
    obtain ⟨rfl, rfl, rfl⟩ := trodAll_nil h
    rfl
  | cons t ts ih =>
    intro vs ds ps hg h hsame hs
    obtain ⟨v, vs', d, ds', p, q, rfl, rfl, rfl, h1, h2⟩ := trodAll_cons h
    simp only [List.all_cons, Bool.and_eq_true] at hg
    exact ⟨p, q, trod_move hg.1 h1 (fun x hx => hsame x (by simp [hx])) (fun x hx => hs x (by simp [hx])), ih hg.2 h2 (fun x hx => hsame x (by simp [hx])) (fun x hx => hs x (by simp [hx])), rfl⟩

/-- A law that returns true and leaves what was there alone. -/
theorem post_law {f : Func} {s : ChangeSpec} {W W' : World} {args : Array Value} {ds gs : List (DataW H)} {before : List MemPlace} {tb : TypeId} (hW : DataW.Whole enc P f.params.toList s.vars false W args.toList ds gs before)
    (hv : s.vars = []) (hfn : s.fn H ds = { results := [.lit (.bool true)], args := ds }) (hrt : f.resultTypes = #[tb]) (htb : P.underlying tb = some .bool) (hgood : f.params.toList.all (goodT P 8) = true) (hb : Below W.heap.size W W') :
    s.post enc P f false true false false W args (.bool true) W' := by
  have hW0 := hW
  obtain ⟨p, q, hA, hV, rfl, _, _⟩ := hW
  rw [hv] at hV
  obtain ⟨rfl, rfl⟩ := trodVars_none hV
  have hlt : ∀ x ∈ p ++ [], x.block < W.heap.size := fun x hx => hW0.lt x hx
  have hsame : ∀ x ∈ p, W.sameAt W' x := fun x hx => hb.same (hlt x (by simpa using hx))
  refine ⟨ds, [], p ++ [], [], p, [], hW0, ?_, ?_, ?_, hb.frame _, fun h => by cases h⟩
  · simp only [List.append_nil, hfn, hrt]
    exact trodAll_mk1 (shut_bool htb _)
  · simp only [List.append_nil, hfn]
    exact trodAll_move hgood hA hsame fun x hx => by simpa using hlt x (by simpa using hx)
  · simp only [List.append_nil, hfn, hv]
    rfl
end

theorem wf_u8 {n : Int} (h : (Lit.int .u8 n).wf = true) : 0 ≤ n ∧ n ≤ 255 := by
  simp [Lit.wf, IntKind.min, IntKind.max, IntKind.signed, IntKind.bits] at h
  omega
theorem wf_u16 {n : Int} (h : (Lit.int .u16 n).wf = true) : 0 ≤ n ∧ n ≤ 65535 := by
  simp [Lit.wf, IntKind.min, IntKind.max, IntKind.signed, IntKind.bits] at h
  omega
theorem wf_u32 {n : Int} (h : (Lit.int .u32 n).wf = true) : 0 ≤ n ∧ n ≤ 4294967295 := by
  simp [Lit.wf, IntKind.min, IntKind.max, IntKind.signed, IntKind.bits] at h
  omega
theorem wf_i64 {n : Int} (h : (Lit.int .i64 n).wf = true) : -9223372036854775808 ≤ n ∧ n ≤ 9223372036854775807 := by
  simp [Lit.wf, IntKind.min, IntKind.max, IntKind.signed, IntKind.bits] at h
  omega

/-- Values of the type t read as something of the registered type c, of which In is so. -/
def HReads (E : Env) (t : TypeId) (c : Nat) (In : E.G.car c → Prop) : Prop :=
  E.P.cellsOf t = E.G.sz c ∧ ∀ (H : Type) (e : TypeId × Value → H) (w : World) (base : Nat) (sp : Nat → Bool) (held : Bool) (fuel : Nat) (cs : List Value) (x : DataW H × List MemPlace),
    DataW.trod e E.P w base sp held fuel t cs = some x → ∃ a : E.G.car c, HdL E.G (IsCells w) w (E.G.enc c a) cs ∧ In a

theorem isCells_of {w : World} {a : Addr} {u : Value} (h : w.cell? a = some u) : IsCells w a.block ∧ a.spot = none := by
  unfold World.cell? at h
  split at h
  · rename_i c e s hb
    refine ⟨⟨_, hb, rfl⟩, ?_⟩
    split at h
    · cases h
    · rename_i hs
      simpa using hs
  · cases h

section
variable {E : Env} {H : Type} {e : TypeId × Value → H} {w : World} {base : Nat} {sp : Nat → Bool} {held : Bool}

theorem hdL_one {x : Value} {cv : CV E.G.car} (h : Hd E.G (IsCells w) w cv x) : HdL E.G (IsCells w) w [cv] [x] := ⟨_, _, rfl, h, rfl⟩

theorem hdL_append : ∀ {a b : List (CV E.G.car)} {u v : List Value}, HdL E.G (IsCells w) w a u → HdL E.G (IsCells w) w b v → HdL E.G (IsCells w) w (a ++ b) (u ++ v)
  | [], _, _, _, h, h' => by cases h; exact h'
  | _ :: _, _, _, _, ⟨x, us, rfl, h1, h2⟩, h' => ⟨x, us ++ _, rfl, h1, hdL_append h2 h'⟩

theorem hreads_int {t : TypeId} {c : Nat} {k : IntKind} {In : E.G.car c → Prop} (f : Int → E.G.car c) (hf : ∀ n, E.G.enc c (f n) = [.v (.int k n)]) (hu : E.P.underlying t = some (.int k)) (hc : E.P.cellsOf t = E.G.sz c)
    (hIn : ∀ n, (Lit.int k n).wf = true → In (f n)) : HReads E t c In :=
  ⟨hc, fun _ _ _ _ _ _ _ _ _ h => by
    obtain ⟨n, h1, _, h2⟩ := DataW.trod_int hu h
    subst h1
    exact ⟨f n, by rw [hf]; exact hdL_one (.v _), hIn n h2⟩⟩

theorem hreads_bool {t : TypeId} {c : Nat} {In : E.G.car c → Prop} (f : Bool → E.G.car c) (hf : ∀ n, E.G.enc c (f n) = [.v (.bool n)]) (hu : E.P.underlying t = some .bool) (hc : E.P.cellsOf t = E.G.sz c) (hIn : ∀ b, In (f b)) : HReads E t c In :=
  ⟨hc, fun _ _ _ _ _ _ _ _ _ h => by
    obtain ⟨n, h1, _⟩ := DataW.trod_bool hu h
    subst h1
    exact ⟨f n, by rw [hf]; exact hdL_one (.v _), hIn n⟩⟩

theorem fields_of {t : TypeId} {fs : Array Field} {fuel : Nat} {cs : List Value} {x : DataW H × List MemPlace} (hu : E.P.underlying t = some (.struct fs)) (h : DataW.trod e E.P w base sp held fuel t cs = some x) :
    cs.length = E.P.cellsOf t ∧ ∀ (j : Nat) (fd : Field), fs[j]? = some fd → ∃ fuel y, DataW.trod e E.P w base sp held fuel fd.type ((cs.drop fd.offset).take (E.P.cellsOf fd.type)) = some y := by
  obtain ⟨xs, n, rfl, rfl, hl, hlen, hf⟩ := DataW.trod_struct hu h
  refine ⟨hl, fun j fd hj => ?_⟩
  have hlt : j < xs.length := by have := (Array.getElem?_eq_some_iff.1 hj).1; omega
  exact ⟨n, xs[j], by rw [hf j fd hj, List.getElem?_eq_getElem hlt]⟩

theorem elems_of {t el : TypeId} {n s : Nat} {fuel : Nat} {cs : List Value} {x : DataW H × List MemPlace} (hu : E.P.underlying t = some (.array n el)) (hs : E.P.cellsOf el = s) (h : DataW.trod e E.P w base sp held fuel t cs = some x) :
    cs.length = E.P.cellsOf t ∧ ∀ (j : Nat), j < n → ∃ fuel y, DataW.trod e E.P w base sp held fuel el ((cs.drop (j * s)).take (E.P.cellsOf el)) = some y := by
  obtain ⟨xs, m, rfl, rfl, hl, hlen, hf⟩ := DataW.trod_array hu h
  subst hs
  refine ⟨hl, fun j hj => ?_⟩
  have hlt : j < xs.length := by omega
  exact ⟨m, xs[j], by rw [hf j hj, List.getElem?_eq_getElem hlt]⟩

theorem HReads.at {t : TypeId} {c off : Nat} {In : E.G.car c → Prop} {cs : List Value} (hR : HReads E t c In)
    (hx : ∃ fuel y, DataW.trod e E.P w base sp held fuel t ((cs.drop off).take (E.P.cellsOf t)) = some y) : ∃ a, HdL E.G (IsCells w) w (E.G.enc c a) ((cs.drop off).take (E.G.sz c)) ∧ In a := by
  obtain ⟨fuel, y, h⟩ := hx
  rw [hR.1] at h
  exact hR.2 _ _ _ _ _ _ _ _ _ h

theorem hcut_cons {a r : List (CV E.G.car)} {cs : List Value} {o n : Nat} (h : HdL E.G (IsCells w) w a ((cs.drop o).take n)) (hr : HdL E.G (IsCells w) w r (cs.drop (o + n))) : HdL E.G (IsCells w) w (a ++ r) (cs.drop o) := by
  have := hdL_append h hr
  rwa [← List.drop_drop, List.take_append_drop] at this

theorem hcut_nil {cs : List Value} {o : Nat} (h : cs.length ≤ o) : HdL E.G (IsCells w) w [] (cs.drop o) := List.drop_eq_nil_of_le h

/-- A slice's elements. -/
theorem hslice_of {t el : TypeId} {c fuel : Nat} {In : E.G.car c → Prop} {cs : List Value} {x : DataW H × List MemPlace} (hu : E.P.underlying t = some (.slice el)) (hR : HReads E el c In) (hn : 0 < E.G.sz c)
    (h : DataW.trod e E.P w base sp held fuel t cs = some x) :
    ∃ (p : Option Addr) (n cap : Nat) (l : List (E.G.car c)), cs = [.slice p n cap] ∧ Hd E.G (IsCells w) w (.sl c l) (.slice p n cap) ∧ (∀ x ∈ l, In x) ∧ l.length ≤ 9223372036854775807 := by
  rcases DataW.trod_slice hu h with ⟨rfl, _⟩ | ⟨a, len, cap, elems, rest, m, _, rfl, _, hb, hl, hm, hel, hi, _, _⟩
  · exact ⟨none, 0, 0, [], rfl, Hd.mk (b := 0) (o := 0) rfl (Nat.le_refl _) (fun h => absurd rfl h) (fun i x hx => by simp at hx), by simp, by simp⟩
  have build : ∀ k, k ≤ len → ∃ l : List (E.G.car c), l.length = k ∧ ∀ i x, l[i]? = some x → In x ∧ ∃ us, w.cells? base (a.add (i * E.G.sz c)) (E.G.sz c) = some us ∧ HdL E.G (IsCells w) w (E.G.enc c x) us := by
    intro k
    induction k with
    | zero => intro _; exact ⟨[], rfl, fun i x hx => by simp at hx⟩
    | succ k ih =>
      intro hk
      obtain ⟨l, h1, h2⟩ := ih (by omega)
      have h3 := hi k (by omega)
      rw [List.getElem?_eq_getElem (by omega), hR.1, Option.bind_eq_some_iff] at h3
      obtain ⟨cs', h4, h5⟩ := h3
      obtain ⟨y, hy1, hy⟩ := hR.2 _ _ _ _ _ _ _ _ _ h5
      refine ⟨l ++ [y], by simp [h1], fun i x hx => ?_⟩
      rcases Nat.lt_or_ge i k with h6 | h6
      · rw [List.getElem?_append_left (by omega)] at hx; exact h2 i x hx
      · rw [List.getElem?_append_right (by omega)] at hx
        have : i - l.length = 0 := by
          have := (List.getElem?_eq_some_iff.1 hx).1
          simpa using this
        rw [this] at hx
        simp only [List.getElem?_cons_zero, Option.some.injEq] at hx
        subst hx
        obtain rfl : i = k := by omega
        exact ⟨hy, _, h4, hy1⟩
  obtain ⟨l, h1, h2⟩ := build len (Nat.le_refl _)
  have hcell : ∀ (i : Nat) x, l[i]? = some x → ∀ (j : Nat) (cv : CV E.G.car), (E.G.enc c x)[j]? = some cv → ∃ u, w.cell? ((a.add (i * E.G.sz c)).add j) = some u ∧ Hd E.G (IsCells w) w cv u := by
    intro i x hx j cv hcv
    obtain ⟨_, us, h3, h4⟩ := h2 i x hx
    obtain ⟨u, h5, h6⟩ := h4.get j cv hcv
    obtain ⟨_, h7, h8⟩ := World.cells?_some h3
    refine ⟨u, ?_, h6⟩
    rw [h8 j (by rw [← h7]; exact (List.getElem?_eq_some_iff.1 h5).1), h5]
  refine ⟨some a, len, cap, l, rfl, ?_, fun x hx => ?_, by unfold maxLen at hm; omega⟩
  · rcases Nat.eq_zero_or_pos len with h0 | h0
    · have : l = [] := List.length_eq_zero_iff.1 (by omega)
      subst this
      exact Hd.mk (b := 0) (o := 0) h1.symm hl (fun h => absurd rfl h) (fun i x hx => by simp at hx)
    · have hpos : 0 < l.length := by omega
      have hz : 0 < (E.G.enc c l[0]).length := by rw [E.G.hsz]; exact hn
      obtain ⟨u, h3, _⟩ := hcell 0 l[0] (List.getElem?_eq_getElem hpos) 0 _ (List.getElem?_eq_getElem hz)
      rw [Nat.zero_mul, show (a.add 0).add 0 = a by simp [Addr.add]] at h3
      obtain ⟨h4, h5⟩ := isCells_of h3
      obtain ⟨b, o, s⟩ := a
      simp only at h4 h5
      subst h5
      refine Hd.mk (b := b) (o := o) h1.symm hl (fun _ => ⟨rfl, h4⟩) (fun i x hx j cv hcv => ?_)
      have := hcell i x hx j cv hcv
      rwa [addr_add, addr_add] at this
  · obtain ⟨i, hi⟩ := List.getElem?_of_mem hx
    exact (h2 i x hi).1

theorem hreads_slice {t el : TypeId} {c d : Nat} {In : E.G.car c → Prop} {In' : E.G.car d → Prop} (f : List (E.G.car c) → E.G.car d) (hf : ∀ l, E.G.enc d (f l) = [.sl c l]) (hu : E.P.underlying t = some (.slice el)) (hR : HReads E el c In)
    (hn : 0 < E.G.sz c) (hc : E.P.cellsOf t = E.G.sz d) (hIn : ∀ l, (∀ x ∈ l, In x) → l.length ≤ 9223372036854775807 → In' (f l)) : HReads E t d In' :=
  ⟨hc, fun _ _ _ _ _ _ _ _ _ h => by
    obtain ⟨p, n, cap, l, rfl, h1, h2, h3⟩ := hslice_of hu hR hn h
    exact ⟨f l, by rw [hf]; exact hdL_one h1, hIn l h2 h3⟩⟩

/-! ### Arguments -/

theorem harg_int {r : Reach} {b0 : Nat} {t : TypeId} {c : Nat} {k : IntKind} {In : E.G.car c → Prop} {v : Value} {d : DataW H} {ps : List MemPlace} (hR : HReads E t c In) (hu : E.P.underlying t = some (.int k))
    (hval : Value.okWide E.P w r b0 t v) (h : DataW.Trod e E.P w base sp held t v d ps) : ∃ a : E.G.car c, ArgIs E (IsCells w) w (.v c false) a v ∧ In a := by
  obtain ⟨n, rfl⟩ := okWide_int hu hval
  obtain ⟨fuel, hf⟩ := h
  obtain ⟨a, h1, h2⟩ := hR.2 _ _ _ _ _ _ _ _ _ hf
  exact ⟨a, ⟨_, h1, rfl⟩, h2⟩

theorem harg_bool {r : Reach} {b0 : Nat} {t : TypeId} {c : Nat} {In : E.G.car c → Prop} {v : Value} {d : DataW H} {ps : List MemPlace} (hR : HReads E t c In) (hu : E.P.underlying t = some .bool)
    (hval : Value.okWide E.P w r b0 t v) (h : DataW.Trod e E.P w base sp held t v d ps) : ∃ a : E.G.car c, ArgIs E (IsCells w) w (.v c false) a v ∧ In a := by
  obtain ⟨n, rfl⟩ := okWide_bool hu hval
  obtain ⟨fuel, hf⟩ := h
  obtain ⟨a, h1, h2⟩ := hR.2 _ _ _ _ _ _ _ _ _ hf
  exact ⟨a, ⟨_, h1, rfl⟩, h2⟩

theorem harg_agg {r : Reach} {b0 : Nat} {t : TypeId} {c : Nat} {fs : Array Field} {In : E.G.car c → Prop} {v : Value} {d : DataW H} {ps : List MemPlace} (hR : HReads E t c In) (hu : E.P.underlying t = some (.struct fs))
    (hval : Value.okWide E.P w r b0 t v) (h : DataW.Trod e E.P w base sp held t v d ps) : ∃ a : E.G.car c, ArgIs E (IsCells w) w (.v c true) a v ∧ In a := by
  obtain ⟨cs, rfl, _⟩ := okWide_struct hu hval
  obtain ⟨fuel, hf⟩ := h
  obtain ⟨a, h1, h2⟩ := hR.2 _ _ _ _ _ _ _ _ _ hf
  exact ⟨a, ⟨_, h1, rfl⟩, h2⟩

theorem harg_sl {r : Reach} {b0 : Nat} {t el : TypeId} {c : Nat} {In : E.G.car c → Prop} {v : Value} {d : DataW H} {ps : List MemPlace} (hu : E.P.underlying t = some (.slice el)) (hR : HReads E el c In) (hn : 0 < E.G.sz c)
    (hval : Value.okWide E.P w r b0 t v) (h : DataW.Trod e E.P w base sp held t v d ps) : ∃ a : List (E.G.car c), ArgIs E (IsCells w) w (.sl c) a v ∧ (∀ x ∈ a, In x) ∧ a.length ≤ 9223372036854775807 := by
  obtain ⟨p, n, cap, rfl⟩ := okWide_slice hu hval
  obtain ⟨fuel, hf⟩ := h
  obtain ⟨p', n', cap', l, h1, h2, h3, h4⟩ := hslice_of hu hR hn hf
  have h1 : [Value.slice p n cap] = [.slice p' n' cap'] := h1
  simp only [List.cons.injEq, and_true, Value.slice.injEq] at h1
  obtain ⟨rfl, rfl, rfl⟩ := h1
  exact ⟨l, h2, h3, h4⟩

/-- A law whose mirror answers true returns true, and leaves what was there. -/
theorem law_calls {k : Nat} {ps : List PK} {t : Nat} {es : List Nat} {f : AT E.G.car ps → Option (E.G.car t)} (hc : CSok E [] ⟨k, ps, [.v t false es], f⟩) (hglo : E.glo = []) (b : E.G.car t) (hb : E.G.enc t b = [.v (.bool true)])
    {vs : List Value} {xs : AT E.G.car ps} (ha : ArgsAre E (IsCells w) w ps xs vs) (hm : f xs = some b) :
    Calls E.P k vs.toArray w fun e w' => e = .returned (.bool true) ∧ Below w.heap.size w w' := by
  have h := hc.ok (IsCells w) w vs xs ⟨fun _ => ⟨0, none, 0, 0⟩, by rw [hglo]; exact And.intro (fun p hp => nomatch hp) (fun q hq => nomatch hq)⟩ (fun _ h => h) ha b hm
  refine h.mono fun e' w' ⟨us, ms, A', h1, h2, _, _, _, h3, _⟩ => ⟨?_, h2⟩
  obtain ⟨v, rfl, us', h4, h5⟩ := h3
  simp only [Bool.false_eq_true, if_false] at h5
  subst h5
  have h4 : ResCells E.G A' w.heap.size w' (E.G.enc t b) es [v] ms := h4
  rw [hb] at h4
  obtain ⟨us2, h6, _⟩ := h4
  cases h6
  exact h1
end
end Go.KX
