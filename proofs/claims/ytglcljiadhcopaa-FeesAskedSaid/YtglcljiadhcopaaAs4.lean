/- Texts FePFJ, FePFL, FePFM, FePFN, FePFO, FePFP, FePFQ, FePFR, FePFS, KFR: own work; each part says what it is. -/
import Derived.Test.YtglcljiadhcopaaAs3
import Derived.Handed
import Derived.OpenShut
import Derived.ChangeSlices
import Derived.JoinedOf
namespace Go.Proofs.Fe
open Go Go.KX

def tab {α : Type} (n : Nat) (g : Nat → α) : List α := (List.range n).map g
theorem tab_length {α : Type} (n : Nat) (g : Nat → α) : (tab n g).length = n := by simp [tab]
theorem tab_succ {α : Type} (n : Nat) (g : Nat → α) : tab (n + 1) g = tab n g ++ [g n] := by simp [tab, List.range_succ]
theorem tab_get {α : Type} {n i : Nat} {g : Nat → α} {d : α} (h : i < n) : (tab n g).getD i d = g i := by
  rw [getD_get (by rw [tab_length]; exact h)]; simp [tab]
theorem tab_mem {α : Type} {n : Nat} {g : Nat → α} {x : α} (h : x ∈ tab n g) : ∃ i, i < n ∧ x = g i := by
  simp only [tab, List.mem_map, List.mem_range] at h
  obtain ⟨i, h1, h2⟩ := h
  exact ⟨i, h1, h2.symm⟩
theorem tab_ext {α : Type} {n : Nat} {g : Nat → α} {l : List α} (d : α) (h1 : l.length = n) (h : ∀ i, i < n → l.getD i d = g i) : l = tab n g :=
  list_ext d (by rw [h1, tab_length]) fun i hi => by rw [h i (by omega), tab_get (by omega)]

/-- A state of n owners and m authorities, with numbers up to B. -/
structure StaOK (n m : Nat) (B : Int) (s : State) : Prop where
  nb : 1 ≤ n ∧ n ≤ 10
  mb : 1 ≤ m ∧ m ≤ 6
  dl : s.Deposits.length = n
  ol : s.Owed.length = n
  rl : ∀ i, i < n → (s.Owed.getD i []).length = m
  d : ∀ i, i < n → 0 ≤ s.Deposits.getD i 0 ∧ s.Deposits.getD i 0 ≤ B
  o : ∀ i, i < n → ∀ k, k < m → 0 ≤ (s.Owed.getD i []).getD k 0 ∧ (s.Owed.getD i []).getD k 0 ≤ B

theorem amounts1_eq (F : Nat) (c : Int) : fees_amounts_1 F c = some (!decide (0 ≤ c ∧ c ≤ 1000000000000)) := by
  show some (!(decide (c ≥ 0) && decide (c ≤ 1000000000000))) = _
  rw [wb]

theorem table_eq {F : Nat} (hF : 100 < F) {l : List (List Int)} {n m : Nat} (hn : n ≤ 20) (h1 : l.length = n) (h2 : ∀ i, i < n → (l.getD i []).length = m) : fees_table F l n m = some 0 := by
  refine Ok.eq ?_
  unfold fees_table
  refine ok_brkF (by simp [h1]) ?_
  refine ok_join (by omega) (fun x : Int => x = -1) (fun x hx => ok_brkF (by subst hx; rfl) (ok_some rfl)) fun k hk => ?_
  refine ok_loop (fun x : Int => 0 ≤ x ∧ x ≤ l.length) (fun x : Int => l.length - x.toNat) ⟨by simp, by simp⟩ (by simp; omega) ?_
  rintro i next ⟨i1, i2⟩ hnx
  refine ok_brk (fun hc => ?_) (fun _ => hk _ rfl)
  have hc : i < l.length := of_decide_eq_true hc
  exact ok_chk ⟨i1, hc⟩ (ok_brkF (by rw [h2 i.toNat (by omega)]; simp) (ok_chk (show InR _ from ⟨by omega, by omega⟩) (hnx _ ⟨by omega, by omega⟩ (by show l.length - (i + 1).toNat < l.length - i.toNat; omega))))

theorem amounts_eq {F : Nat} (hF : 100 < F) {l : List (List Int)} (hl : l.length ≤ 20) (h : ∀ r ∈ l, r.length ≤ 20 ∧ ∀ x ∈ r, 0 ≤ x ∧ x ≤ 1000000000000) : fees_amounts F l = some 0 := by
  refine Ok.eq ?_
  unfold fees_amounts
  refine ok_loop (fun x : Int => 0 ≤ x ∧ x ≤ l.length) (fun x : Int => l.length - x.toNat) ⟨by simp, by simp⟩ (by simp; omega) ?_
  rintro i next ⟨i1, i2⟩ hnx
  refine ok_brk (fun hc => ?_) (fun _ => ok_some rfl)
  have hc : i < l.length := of_decide_eq_true hc
  obtain ⟨hr1, hr2⟩ := h _ (getD_mem (d := []) (show i.toNat < l.length by omega))
  refine ok_chk ⟨i1, hc⟩ (ok_join (by omega) (fun x : Int => x = -1) (fun x hx => ok_brkF (by subst hx; rfl) (ok_chk (show InR _ from ⟨by omega, by omega⟩) (hnx _ ⟨by omega, by omega⟩ (by show l.length - (i + 1).toNat < l.length - i.toNat; omega)))) fun k hk => ?_)
  refine ok_find (p := fun c => !decide (0 ≤ c ∧ c ≤ 1000000000000)) (by omega) (by omega) (fun c _ => amounts1_eq F c) (fun j hj hp => absurd (hr2 _ (getD_mem hj)) (nd_true hp)) (fun _ => hk _ rfl)

theorem cloneL_eq {F : Nat} {l : List (List Int)} (h : l.length ≤ 1000000) : slices_Clone_Lint F l = some l := by
  show chk ((0 : Nat) + l.length ≤ (1000000 : Nat)) (some ([] ++ l)) = some l
  rw [chk_pos (by omega)]; rfl
theorem cloneI_eq {F : Nat} {l : List Int} (h : l.length ≤ 1000000) : slices_Clone_int F l = some l := by
  show chk ((0 : Nat) + l.length ≤ (1000000 : Nat)) (some ([] ++ l)) = some l
  rw [chk_pos (by omega)]; rfl

theorem StaOK.amounts {n m : Nat} {B : Int} {s : State} (h : StaOK n m B s) (hB : B ≤ 1000000000000) : ∀ r ∈ s.Owed ++ [s.Deposits], r.length ≤ 20 ∧ ∀ x ∈ r, 0 ≤ x ∧ x ≤ 1000000000000 := by
  intro r hr
  have hn := h.nb
  have hm := h.mb
  rcases List.mem_append.1 hr with hr | hr
  · obtain ⟨i, hi, rfl⟩ := List.getElem_of_mem hr
    have hi' : i < n := by rw [← h.ol]; exact hi
    have hl := h.rl i hi'
    rw [getD_get hi] at hl
    refine ⟨by omega, fun x hx => ?_⟩
    obtain ⟨k, hk, rfl⟩ := List.getElem_of_mem hx
    have := h.o i hi' k (by omega)
    rw [getD_get hi, getD_get hk] at this
    omega
  · rw [List.mem_singleton.1 hr]
    refine ⟨by rw [h.dl]; omega, fun x hx => ?_⟩
    obtain ⟨k, hk, rfl⟩ := List.getElem_of_mem hx
    have := h.d k (by rw [← h.dl]; exact hk)
    rw [getD_get hk] at this
    omega

theorem check_eq {F : Nat} (hF : 100 < F) {n m : Nat} {B : Int} {s : State} (h : StaOK n m B s) (hB : B ≤ 1000000000000) : fees_State_check F s = some 0 := by
  refine Ok.eq ?_
  unfold fees_State_check
  have hn := h.nb
  have hm := h.mb
  have hol := h.ol
  have hr0 := h.rl 0 (by omega)
  have hr0' : (s.Owed.getD (Int.toNat 0) []).length = m := hr0
  rw [within_eq, within_eq, wb, wb, h.dl, hr0', hol]
  refine ok_bnde rfl (ok_brkF (ndF (by omega)) (ok_brkF (by simp; omega) (ok_chk ⟨by omega, by omega⟩ (ok_bnde rfl (ok_brkF (ndF (by omega)) (ok_chk ⟨by omega, by omega⟩ ?_))))))
  refine ok_bnde (table_eq hF (by omega) hol h.rl) (ok_brkF rfl (ok_bnde (cloneL_eq (by omega)) (ok_chk (by simp; omega) ?_)))
  exact ok_bnde (amounts_eq hF (by simp; omega) (h.amounts hB)) (ok_some rfl)

/-! ### Settlements -/

structure SetP (n m : Nat) (s : State) (r : State × List (List Int)) : Prop where
  dl : r.1.Deposits.length = n
  ol : r.1.Owed.length = n
  pl : r.2.length = n
  aw : ∀ i, i < n → AwOK (s.Owed.getD i []) (s.Deposits.getD i 0) (r.2.getD i [])
  d : ∀ i, i < n → r.1.Deposits.getD i 0 = s.Deposits.getD i 0 - sumL (r.2.getD i [])
  o : ∀ i, i < n → (r.1.Owed.getD i []).length = m ∧ ∀ k, k < m → (r.1.Owed.getD i []).getD k 0 = (s.Owed.getD i []).getD k 0 - (r.2.getD i []).getD k 0

/-- What an award is like. -/
theorem AwOK.each {l : List Int} {e : Int} {a : List Int} (h : AwOK l e a) (hl : ∀ c ∈ l, 0 ≤ c) : ∀ k, k < l.length → 0 ≤ a.getD k 0 ∧ a.getD k 0 ≤ l.getD k 0 := by
  obtain ⟨r, hr, rfl⟩ := h
  intro k hk
  have h1 := ((awV_in r.1 l r.2).get hk).cases
  have h2 := hr.n0
  have h3 := hl _ (getD_mem (d := 0) hk)
  omega

theorem snoc_get {α : Type} {l : List α} {x d : α} {j : Nat} (h : j < l.length + 1) : (l ++ [x]).getD j d = if j < l.length then l.getD j d else x := by
  by_cases e : j < l.length
  · rw [if_pos e, getD_append_left' e]
  · rw [if_neg e]
    obtain rfl : j = l.length := by omega
    exact getD_append_here

theorem settle_ok {F : Nat} (hF : 2000000000000 < F) {n m : Nat} {B : Int} {s : State} (h : StaOK n m B s) (hB : B ≤ 1000000000000) : Ok (SetP n m s) (fees_State_settle F s) := by
  unfold fees_State_settle
  have hn := h.nb
  have hm := h.mb
  have hdl := h.dl
  have hol := h.ol
  refine ok_bnde (cloneI_eq (by omega)) ?_
  refine ok_loop (fun x : List (List Int) × Int × List (List Int) × List Int => 0 ≤ x.2.1 ∧ x.2.1 ≤ n ∧ (x.1.length : Int) = x.2.1 ∧ (x.2.2.1.length : Int) = x.2.1 ∧ x.2.2.2.length = n ∧
      (∀ i : Nat, (i : Int) < x.2.1 → AwOK (s.Owed.getD i []) (s.Deposits.getD i 0) (x.1.getD i []) ∧ x.2.2.2.getD i 0 = s.Deposits.getD i 0 - sumL (x.1.getD i []) ∧ (x.2.2.1.getD i []).length = m ∧ ∀ k, k < m → (x.2.2.1.getD i []).getD k 0 = (s.Owed.getD i []).getD k 0 - (x.1.getD i []).getD k 0) ∧
      (∀ i : Nat, x.2.1 ≤ (i : Int) → i < n → x.2.2.2.getD i 0 = s.Deposits.getD i 0)) (fun x => n - x.2.1.toNat)
    ⟨by simp, by show (0 : Int) ≤ n; omega, rfl, rfl, hdl, fun i hi => by (have hi : (i : Int) < 0 := hi); omega, fun i _ _ => rfl⟩ (by simp; omega) ?_
  rintro ⟨paid, i, ow, dp⟩ next ⟨i1, i2, i3, i4, i5, i6, i7⟩ hnx
  simp only at i1 i2 i3 i4 i5 i6 i7
  dsimp only
  rw [hol]
  refine ok_brk (fun hc => ?_) (fun hc => ok_some ?_)
  · have hc : i < n := of_decide_eq_true hc
    have hi : i.toNat < n := by omega
    have hrl := h.rl i.toNat hi
    have hd := h.d i.toNat hi
    have ho := h.o i.toNat hi
    have hcl : Cl (s.Owed.getD i.toNat []) := fun c hc => by
      obtain ⟨k, hk, rfl⟩ := List.getElem_of_mem hc
      have := ho k (by omega)
      rw [getD_get hk] at this
      omega
    have h7 := i7 i.toNat (by omega) hi
    refine ok_chk ⟨i1, hc⟩ (ok_chk ⟨i1, by omega⟩ (ok_bnd _ (awards_ok hF (by omega) (by omega) hcl ⟨hd.1, by omega⟩) fun pay hpay => ?_))
    have hpl := hpay.length
    have hpe := hpay.each fun c hc => (hcl c hc).1
    have hps := hpay.sum
    have hpB : ∀ k : Nat, 0 ≤ sumL (pay.take k) ∧ sumL (pay.take k) ≤ 6000000000000 := fun k => by
      have hb : ∀ x ∈ pay, 0 ≤ x ∧ x ≤ 1000000000000 := fun x hx => by
        obtain ⟨q, hq, rfl⟩ := List.getElem_of_mem hx
        have h1 := hpe q (by omega)
        have h2 := ho q (by omega)
        rw [getD_get hq] at h1
        omega
      have h1 := sumL_nonneg (pay.take k) fun x hx => (hb x (List.mem_of_mem_take hx)).1
      have h2 := sumL_le (pay.take k) (B := 1000000000000) fun x hx => (hb x (List.mem_of_mem_take hx)).2
      have h3 : (pay.take k).length ≤ 6 := by rw [List.length_take]; omega
      omega
    rw [show (s.Owed.getD i.toNat []).length = m from hrl] at hpl
    generalize hO : s.Owed.getD i.toNat [] = O at hrl ho hpay hpe hcl ⊢
    generalize hD : s.Deposits.getD i.toNat 0 = D at hd hpay h7 hps ⊢
    refine ok_bnde (cloneI_eq (by omega)) ?_
    refine ok_loop (fun x : Int × List Int × List Int => 0 ≤ x.1 ∧ x.1 ≤ m ∧ x.2.1.length = m ∧ x.2.2.length = n ∧ (∀ q : Nat, q < m → x.2.1.getD q 0 = if (q : Int) < x.1 then O.getD q 0 - pay.getD q 0 else O.getD q 0) ∧ (∀ j, j < n → x.2.2.getD j 0 = if j = i.toNat then D - sumL (pay.take x.1.toNat) else dp.getD j 0)) (fun x => m - x.1.toNat)
      ⟨by simp, by show (0 : Int) ≤ m; omega, hrl, i5, fun q _ => by show O.getD q 0 = _; rw [if_neg (show ¬ (q : Int) < 0 by omega)], fun j hj => by
        show dp.getD j 0 = if j = i.toNat then D - sumL (pay.take (Int.toNat 0)) else dp.getD j 0
        split
        · rename_i e; subst e; rw [h7]; simp [sumL]
        · rfl⟩ (by simp; omega) ?_
    rintro ⟨k, rs, dq⟩ next2 ⟨k1, k2, k3, k4, k5, k6⟩ hn2
    simp only at k1 k2 k3 k4 k5 k6
    dsimp only
    rw [hpl]
    refine ok_brk (fun hb => ?_) (fun hb => ?_)
    · have hb : k < m := of_decide_eq_true hb
      have hk : k.toNat < m := by omega
      have e5 := k5 k.toNat hk
      rw [if_neg (by omega)] at e5
      have e6 := k6 i.toNat hi
      rw [if_pos rfl] at e6
      have hp := hpe k.toNat (by omega)
      have hoo := ho k.toNat hk
      have hs1 := hpB k.toNat
      have hs2 := hpB (k + 1).toNat
      have hsum : sumL (pay.take (k + 1).toNat) = sumL (pay.take k.toNat) + pay.getD k.toNat 0 := by
        rw [show (k + 1).toNat = k.toNat + 1 by omega, take_succ' (d := 0) (by omega), sumL_append]; simp only [sumL]; omega
      refine ok_chk ⟨k1, by omega⟩ (ok_chk ⟨k1, by omega⟩ (ok_chk (show InR _ from ⟨by omega, by omega⟩) (ok_chk ⟨k1, by omega⟩ (ok_chk ⟨i1, by omega⟩ (ok_chk (show InR _ from ⟨by omega, by omega⟩) (ok_chk ⟨i1, by omega⟩ (ok_chk (show InR _ from ⟨by omega, by omega⟩) (hn2 _ ⟨by show 0 ≤ k + 1; omega, by show k + 1 ≤ m; omega, by show (rs.set _ _).length = m; rw [List.length_set]; exact k3, by show (dq.set _ _).length = n; rw [List.length_set]; exact k4, fun q hq => ?_, fun j hj => ?_⟩ (by show m - (k + 1).toNat < m - k.toNat; omega)))))))))
      · show (rs.set k.toNat (rs.getD k.toNat 0 - pay.getD k.toNat 0)).getD q 0 = if (q : Int) < k + 1 then _ else _
        rw [getD_set' (by omega)]
        by_cases e : k.toNat = q
        · subst e
          rw [if_pos rfl, if_pos (by omega), e5]
        · rw [if_neg e, k5 q hq]
          by_cases e2 : (q : Int) < k
          · rw [if_pos e2, if_pos (by omega)]
          · rw [if_neg e2, if_neg (by omega)]
      · show (dq.set i.toNat (dq.getD i.toNat 0 - pay.getD k.toNat 0)).getD j 0 = if j = i.toNat then D - sumL (pay.take (k + 1).toNat) else dp.getD j 0
        rw [getD_set' (by omega)]
        by_cases e : i.toNat = j
        · subst e
          rw [if_pos rfl, if_pos rfl, e6, hsum]; omega
        · rw [if_neg e, if_neg (Ne.symm e), k6 j hj, if_neg (Ne.symm e)]
    · have hb : ¬ k < m := of_decide_eq_false hb
      rw [List.take_of_length_le (by omega)] at k6
      refine ok_chk (by simp; omega) (ok_chk (by simp; omega) (ok_chk (show InR _ from ⟨by omega, by omega⟩) (hnx _ ⟨by show 0 ≤ i + 1; omega, by show i + 1 ≤ n; omega, by simp; omega, by simp; omega, k4, fun j hj => ?_, fun j hj1 hj2 => ?_⟩ (by show n - (i + 1).toNat < n - i.toNat; omega))))
      · have hj : (j : Int) < i + 1 := hj
        have ej : j < paid.length + 1 := by omega
        have ej2 : j < ow.length + 1 := by omega
        show AwOK _ _ ((paid ++ [pay]).getD j []) ∧ dq.getD j 0 = _ - sumL ((paid ++ [pay]).getD j []) ∧ ((ow ++ [rs]).getD j []).length = m ∧ ∀ k, k < m → ((ow ++ [rs]).getD j []).getD k 0 = _ - ((paid ++ [pay]).getD j []).getD k 0
        rw [snoc_get ej, snoc_get ej2]
        by_cases e : (j : Int) < i
        · obtain ⟨f1, f2, f3, f4⟩ := i6 j e
          rw [if_pos (by omega), if_pos (by omega), k6 j (by omega), if_neg (by omega)]
          exact ⟨f1, f2, f3, f4⟩
        · obtain rfl : j = i.toNat := by omega
          rw [if_neg (by omega), if_neg (by omega), k6 _ hi, if_pos rfl, hO, hD]
          refine ⟨hpay, rfl, k3, fun q hq => ?_⟩
          rw [k5 q hq, if_pos (by omega)]
      · have hj1 : i + 1 ≤ (j : Int) := hj1
        show dq.getD j 0 = _
        rw [k6 j hj2, if_neg (by omega), i7 j (by omega) hj2]
  · have hc : ¬ i < n := of_decide_eq_false hc
    obtain rfl : i = n := by omega
    exact ⟨i5, by show ow.length = n; omega, by show paid.length = n; omega, fun j hj => (i6 j (by omega)).1, fun j hj => (i6 j (by omega)).2.1, fun j hj => (i6 j (by omega)).2.2⟩

/-! ### Months -/

def moreV (late o : Int) : Int := (o * late + 99) / 100
def owN (s : State) (late : Int) (b : List (List Int)) (i k : Nat) : Int := (s.Owed.getD i []).getD k 0 + moreV late ((s.Owed.getD i []).getD k 0) + (b.getD i []).getD k 0
def monS (n m : Nat) (s : State) (paid : List Int) (b : List (List Int)) (late : Int) : State :=
  ⟨tab n fun i => s.Deposits.getD i 0 + paid.getD i 0, tab n fun i => tab m fun k => owN s late b i k⟩

structure InOK (n m : Nat) (paid : List Int) (b : List (List Int)) (late : Int) : Prop where
  pl : paid.length = n
  p : ∀ i, i < n → 0 ≤ paid.getD i 0 ∧ paid.getD i 0 ≤ 1000
  bl : b.length = n
  rl : ∀ i, i < n → (b.getD i []).length = m
  b : ∀ i, i < n → ∀ k, k < m → 0 ≤ (b.getD i []).getD k 0 ∧ (b.getD i []).getD k 0 ≤ 300
  l : 0 ≤ late ∧ late ≤ 100

theorem more_bound {late o B : Int} (hl : 0 ≤ late ∧ late ≤ 100) (ho : 0 ≤ o ∧ o ≤ B) : 0 ≤ o * late ∧ o * late ≤ 100 * o ∧ 0 ≤ moreV late o ∧ moreV late o ≤ o + 0 := by
  have h1 := Int.mul_nonneg ho.1 hl.1
  have h2 : o * late ≤ o * 100 := Int.mul_le_mul_of_nonneg_left hl.2 ho.1
  unfold moreV
  omega

theorem monS_ok {n m : Nat} {B : Int} {s : State} {paid : List Int} {b : List (List Int)} {late : Int} (h : StaOK n m B s) (hi : InOK n m paid b late) : StaOK n m (2 * B + 1000) (monS n m s paid b late) := by
  have hB : 0 ≤ B := by have hn := h.nb; have := h.d 0 (by omega); omega
  refine ⟨h.nb, h.mb, tab_length _ _, tab_length _ _, fun i hin => ?_, fun i hin => ?_, fun i hin k hk => ?_⟩
  · show ((tab n fun i => tab m fun k => owN s late b i k).getD i []).length = m
    rw [tab_get hin, tab_length]
  · show 0 ≤ (tab n fun i => s.Deposits.getD i 0 + paid.getD i 0).getD i 0 ∧ (tab n fun i => s.Deposits.getD i 0 + paid.getD i 0).getD i 0 ≤ _
    rw [tab_get hin]
    have := h.d i hin
    have := hi.p i hin
    omega
  · show 0 ≤ ((tab n fun i => tab m fun k => owN s late b i k).getD i []).getD k 0 ∧ ((tab n fun i => tab m fun k => owN s late b i k).getD i []).getD k 0 ≤ _
    rw [tab_get hin, tab_get hk]
    have h1 := h.o i hin k hk
    have h2 := hi.b i hin k hk
    have h3 := more_bound hi.l h1
    unfold owN
    omega

theorem Month_ok {F : Nat} (hF : 2000000000000 < F) {n m : Nat} {B : Int} {s : State} {paid : List Int} {b : List (List Int)} {late : Int} (h : StaOK n m B s) (hB : B ≤ 1000000) (hi : InOK n m paid b late) :
    Ok (fun r : State × List (List Int) × Int => r.2.2 = 0 ∧ SetP n m (monS n m s paid b late) (r.1, r.2.1)) (fees_Month F s paid b late) := by
  unfold fees_Month
  have hn := h.nb
  have hm := h.mb
  have hol := h.ol
  have hdl := h.dl
  have hl := hi.l
  have hr0' : (s.Owed.getD (Int.toNat 0) []).length = m := h.rl 0 (by omega)
  refine ok_bnde (check_eq (by omega) h (by omega)) (ok_brkF rfl (ok_chk ⟨by omega, by omega⟩ ?_))
  rw [hr0', hdl]
  refine ok_bnde (table_eq (by omega) (by omega) hi.bl hi.rl) ?_
  have hbr : ∀ r ∈ b ++ [paid], r.length ≤ 20 ∧ ∀ x ∈ r, 0 ≤ x ∧ x ≤ 1000000000000 := by
    intro r hr
    rcases List.mem_append.1 hr with hr | hr
    · obtain ⟨i, hib, rfl⟩ := List.getElem_of_mem hr
      have hin : i < n := by rw [← hi.bl]; exact hib
      have hl := hi.rl i hin
      rw [getD_get hib] at hl
      refine ⟨by omega, fun x hx => ?_⟩
      obtain ⟨k, hk, rfl⟩ := List.getElem_of_mem hx
      have := hi.b i hin k (by omega)
      rw [getD_get hib, getD_get hk] at this
      omega
    · rw [List.mem_singleton.1 hr]
      refine ⟨by rw [hi.pl]; omega, fun x hx => ?_⟩
      obtain ⟨k, hk, rfl⟩ := List.getElem_of_mem hx
      have := hi.p k (by rw [← hi.pl]; exact hk)
      rw [getD_get hk] at this
      omega
  refine ok_join (by omega) (fun x : Int => x = 0) (fun x hx => ?_) fun k hk => ok_brkF (by rw [hi.pl]; simp) (hk _ rfl)
  subst hx
  refine ok_join (by omega) (fun x : Int => x = 0) (fun x hx => ?_) fun k hk => ?_
  · subst hx
    refine ok_join (by omega) (fun x : Int => x = 0) (fun x hx => ?_) fun k hk => ?_
    · subst hx
      refine ok_brkF rfl ?_
      refine ok_loop (fun x : Int × List (List Int) × List Int => 0 ≤ x.1 ∧ x.1 ≤ n ∧ x.2.1 = tab x.1.toNat (fun i => tab m fun k => owN s late b i k) ∧ x.2.2 = tab x.1.toNat (fun i => s.Deposits.getD i 0 + paid.getD i 0)) (fun x => n - x.1.toNat)
        ⟨by simp, by show (0 : Int) ≤ n; omega, rfl, rfl⟩ (by simp; omega) ?_
      rintro ⟨i, ow, dp⟩ next ⟨i1, i2, i3, i4⟩ hnx
      simp only at i1 i2 i3 i4
      dsimp only
      rw [hol]
      refine ok_brk (fun hc => ?_) (fun hc => ?_)
      · have hc : i < n := of_decide_eq_true hc
        have hin : i.toNat < n := by omega
        have hd := h.d i.toNat hin
        have hp := hi.p i.toNat hin
        have hpl := hi.pl
        have hbl := hi.bl
        have hrl := h.rl i.toNat hin
        have hbrl := hi.rl i.toNat hin
        have hlen : dp.length = i.toNat := by rw [i4, tab_length]
        have hlen2 : ow.length = i.toNat := by rw [i3, tab_length]
        refine ok_chk ⟨i1, hc⟩ (ok_chk ⟨i1, by omega⟩ (ok_chk ⟨i1, by omega⟩ (ok_chk (show InR _ from ⟨by omega, by omega⟩) (ok_chk (by simp; omega) ?_))))
        refine ok_loop (fun x : List Int × Int => 0 ≤ x.2 ∧ x.2 ≤ m ∧ x.1 = tab x.2.toNat (fun k => owN s late b i.toNat k)) (fun x => m - x.2.toNat)
          ⟨by simp, by show (0 : Int) ≤ m; omega, rfl⟩ (by simp; omega) ?_
        rintro ⟨rw_, k⟩ next2 ⟨k1, k2, k3⟩ hn2
        simp only at k1 k2 k3
        dsimp only
        rw [hrl]
        refine ok_brk (fun hb => ?_) (fun hb => ?_)
        · have hb : k < m := of_decide_eq_true hb
          have hk : k.toNat < m := by omega
          have ho := h.o i.toNat hin k.toNat hk
          have hbb := hi.b i.toNat hin k.toNat hk
          have hmo := more_bound hi.l ho
          have hl3 : rw_.length = k.toNat := by rw [k3, tab_length]
          have he : (s.Owed.getD i.toNat []).getD k.toNat 0 + ((s.Owed.getD i.toNat []).getD k.toNat 0 * late + 99) / 100 + (b.getD i.toNat []).getD k.toNat 0 = owN s late b i.toNat k.toNat := rfl
          have hm2 : ((s.Owed.getD i.toNat []).getD k.toNat 0 * late + 99) / 100 = moreV late ((s.Owed.getD i.toNat []).getD k.toNat 0) := rfl
          rw [he, hm2]
          have hoN : owN s late b i.toNat k.toNat = (s.Owed.getD i.toNat []).getD k.toNat 0 + moreV late ((s.Owed.getD i.toNat []).getD k.toNat 0) + (b.getD i.toNat []).getD k.toNat 0 := rfl
          refine ok_chk ⟨k1, hb⟩ (ok_chk (show InR _ from ⟨by omega, by omega⟩) (ok_chk (show InR _ from ⟨by omega, by omega⟩) (ok_chk ⟨by omega, by omega⟩ (ok_chk (show InR _ from ⟨by omega, by omega⟩) (ok_chk ⟨i1, by omega⟩ (ok_chk ⟨k1, by omega⟩ (ok_chk (show InR _ from ⟨by omega, by omega⟩) (ok_chk (by simp; omega) (ok_chk (show InR _ from ⟨by omega, by omega⟩) (hn2 _ ⟨by show 0 ≤ k + 1; omega, by show k + 1 ≤ m; omega, ?_⟩ (by show m - (k + 1).toNat < m - k.toNat; omega)))))))))))
          show rw_ ++ [owN s late b i.toNat k.toNat] = tab (k + 1).toNat _
          rw [show (k + 1).toNat = k.toNat + 1 by omega, tab_succ, ← k3]
        · have hb : ¬ k < m := of_decide_eq_false hb
          have hkm : k.toNat = m := by omega
          rw [hkm] at k3
          refine ok_chk (by simp; omega) (ok_chk (show InR _ from ⟨by omega, by omega⟩) (hnx _ ⟨by show 0 ≤ i + 1; omega, by show i + 1 ≤ n; omega, ?_, ?_⟩ (by show n - (i + 1).toNat < n - i.toNat; omega)))
          · show ow ++ [rw_] = tab (i + 1).toNat _
            rw [show (i + 1).toNat = i.toNat + 1 by omega, tab_succ, ← i3, k3]
          · show dp ++ [s.Deposits.getD i.toNat 0 + paid.getD i.toNat 0] = tab (i + 1).toNat _
            rw [show (i + 1).toNat = i.toNat + 1 by omega, tab_succ, ← i4]
      · have hc : ¬ i < n := of_decide_eq_false hc
        have hiN : i.toNat = n := by omega
        rw [hiN] at i3 i4
        have hS := monS_ok h hi
        have hlen2 : ow.length = n := by rw [i3, tab_length]
        have hsame : (⟨dp, ow⟩ : State) = monS n m s paid b late := by rw [i3, i4]; rfl
        have ham := hS.amounts (by omega)
        rw [← hsame] at ham
        refine ok_bnde (cloneL_eq (by omega)) (ok_chk (by simp; omega) (ok_bnde (amounts_eq (by omega) (by simp; omega) ham) (ok_brkF rfl ?_)))
        rw [hsame]
        exact ok_bnd _ (settle_ok hF hS (by omega)) fun r hr => ok_some ⟨rfl, hr⟩
    · refine ok_brkT rfl (ok_bnde (cloneL_eq (by have := hi.bl; omega)) (ok_chk (by have := hi.bl; simp; omega) (ok_bnde (amounts_eq (by omega) (by have := hi.bl; simp; omega) hbr) (hk _ rfl))))
  · rw [within_eq, wb]
    refine ok_bnde (b := decide (0 ≤ late ∧ late ≤ 100)) rfl ?_
    rw [decide_eq_true hl]
    exact ok_brkF rfl (hk _ rfl)

theorem Settle_ok {F : Nat} (hF : 2000000000000 < F) {n m : Nat} {B : Int} {s : State} (h : StaOK n m B s) (hB : B ≤ 1000000000000) : Ok (fun r : State × List (List Int) × Int => r.2.2 = 0 ∧ SetP n m s (r.1, r.2.1)) (fees_Settle F s) := by
  unfold fees_Settle
  refine ok_bnde (check_eq (by omega) h hB) (ok_brkF rfl ?_)
  exact ok_bnd _ (settle_ok hF h hB) fun r hr => ok_some ⟨rfl, hr⟩

def sumO (l : List (List Int)) : Int := sumL (l.map sumL)

theorem Sum_eq {F : Nat} (hF : 100 < F) {n m : Nat} {B : Int} {s : State} (h : StaOK n m B s) (hB : B ≤ 1000000000000) : fees_Sum F s = some (sumL s.Deposits, sumO s.Owed, 0) := by
  refine Ok.eq ?_
  unfold fees_Sum
  have hn := h.nb
  have hm := h.mb
  have hol := h.ol
  have hdl := h.dl
  refine ok_bnde (check_eq (by omega) h hB) (ok_brkF rfl ?_)
  have hlm : (s.Owed.map sumL).length = n := by simp [hol]
  refine ok_loop (fun x : Int × Int × Int => 0 ≤ x.1 ∧ x.1 ≤ n ∧ x.2.1 = sumL (s.Deposits.take x.1.toNat) ∧ x.2.2 = sumL ((s.Owed.map sumL).take x.1.toNat) ∧ 0 ≤ x.2.1 ∧ x.2.1 ≤ B * x.1 ∧ 0 ≤ x.2.2 ∧ x.2.2 ≤ 6 * B * x.1) (fun x => n - x.1.toNat)
    ⟨by simp, by show (0 : Int) ≤ n; omega, rfl, rfl, by simp, by simp, by simp, by simp⟩ (by simp; omega) ?_
  rintro ⟨i, d, o⟩ next ⟨i1, i2, i3, i4, i5, i6, i7, i8⟩ hnx
  simp only at i1 i2 i3 i4 i5 i6 i7 i8
  dsimp only
  rw [hdl]
  refine ok_brk (fun hc => ?_) (fun hc => ok_some ?_)
  · have hc : i < n := of_decide_eq_true hc
    have hin : i.toNat < n := by omega
    have hd := h.d i.toNat hin
    have hrl := h.rl i.toNat hin
    have hB0 : 0 ≤ B := by omega
    have hBi : B * (i + 1) = B * i + B := by rw [Int.mul_add]; omega
    have hBi6 : 6 * B * (i + 1) = 6 * B * i + 6 * B := by rw [Int.mul_add]; omega
    have hb1 : B * i ≤ B * 10 := Int.mul_le_mul_of_nonneg_left (by omega) hB0
    have hb2 : 6 * B * i ≤ 6 * B * 10 := Int.mul_le_mul_of_nonneg_left (by omega) (by omega)
    have e1 : sumL (s.Deposits.take (i + 1).toNat) = d + s.Deposits.getD i.toNat 0 := by
      rw [show (i + 1).toNat = i.toNat + 1 by omega, take_succ' (d := 0) (by omega), sumL_append, i3]; simp only [sumL]; omega
    have e2 : sumL ((s.Owed.map sumL).take (i + 1).toNat) = o + sumL (s.Owed.getD i.toNat []) := by
      rw [show (i + 1).toNat = i.toNat + 1 by omega, take_succ' (d := 0) (by omega), sumL_append, i4]
      have : (s.Owed.map sumL).getD i.toNat 0 = sumL (s.Owed.getD i.toNat []) := by
        rw [getD_get (by omega), List.getElem_map, getD_get (by omega)]
      simp only [sumL, this]; omega
    have hO : ∀ x ∈ s.Owed.getD i.toNat [], 0 ≤ x ∧ x ≤ B := fun x hx => by
      obtain ⟨k, hk, rfl⟩ := List.getElem_of_mem hx
      have := h.o i.toNat hin k (by omega)
      rwa [getD_get hk] at this
    generalize s.Owed.getD i.toNat [] = O at hrl e2 hO ⊢
    refine ok_chk ⟨i1, hc⟩ (ok_chk (show InR _ from ⟨by omega, by omega⟩) (ok_chk ⟨i1, by omega⟩ ?_))
    have hpB : ∀ k : Nat, 0 ≤ sumL (O.take k) ∧ sumL (O.take k) ≤ B * 6 := fun k => by
      have h1 := sumL_nonneg (O.take k) fun x hx => (hO x (List.mem_of_mem_take hx)).1
      have h2 := sumL_le (O.take k) (B := B) fun x hx => (hO x (List.mem_of_mem_take hx)).2
      have h3 : (O.take k).length ≤ 6 := by rw [List.length_take]; omega
      have h4 : B * ((O.take k).length : Int) ≤ B * 6 := Int.mul_le_mul_of_nonneg_left (by omega) hB0
      omega
    refine ok_loop (fun x : Int × Int => 0 ≤ x.1 ∧ x.1 ≤ m ∧ x.2 = o + sumL (O.take x.1.toNat)) (fun x => m - x.1.toNat) ⟨by simp, by show (0 : Int) ≤ m; omega, by simp [sumL]⟩ (by simp; omega) ?_
    rintro ⟨k, q⟩ next2 ⟨k1, k2, k3⟩ hn2
    simp only at k1 k2 k3
    dsimp only
    rw [hrl]
    refine ok_brk (fun hb => ?_) (fun hb => ?_)
    · have hb : k < m := of_decide_eq_true hb
      have hk := hO _ (getD_mem (d := 0) (show k.toNat < O.length by omega))
      have h1 := hpB k.toNat
      have e3 : sumL (O.take (k + 1).toNat) = sumL (O.take k.toNat) + O.getD k.toNat 0 := by
        rw [show (k + 1).toNat = k.toNat + 1 by omega, take_succ' (d := 0) (by omega), sumL_append]; simp only [sumL]; omega
      exact ok_chk ⟨k1, hb⟩ (ok_chk (show InR _ from ⟨by omega, by omega⟩) (ok_chk (show InR _ from ⟨by omega, by omega⟩) (hn2 _ ⟨by show 0 ≤ k + 1; omega, by show k + 1 ≤ m; omega, by show q + _ = o + _; rw [e3]; omega⟩ (by show m - (k + 1).toNat < m - k.toNat; omega))))
    · have hb : ¬ k < m := of_decide_eq_false hb
      have h1 := hpB k.toNat
      rw [List.take_of_length_le (by omega)] at k3 h1
      exact ok_chk (show InR _ from ⟨by omega, by omega⟩) (hnx _ ⟨by show 0 ≤ i + 1; omega, by show i + 1 ≤ n; omega, e1.symm, by show q = _; rw [e2]; exact k3, by show 0 ≤ d + _; omega, by show d + _ ≤ B * (i + 1); omega, by show 0 ≤ q; omega, by show q ≤ 6 * B * (i + 1); omega⟩ (by show n - (i + 1).toNat < n - i.toNat; omega))
  · have hc : ¬ i < n := of_decide_eq_false hc
    rw [List.take_of_length_le (by omega)] at i3 i4
    rw [i3, i4]; rfl
end Go.Proofs.Fe

namespace Go.Proofs.Fe
open Go Go.KX

/-! ### Exact shares -/

/-- The share, times 27720, of a ship with this need. -/
def W (N : List Int) : Nat → Int
  | 0 => 0
  | t + 1 => W N t + 27720 / (abv N t : Int)

theorem abv_between {a x t : Int} (h1 : a ≤ t) (h2 : t < x) : ∀ l : List Int, (∀ c ∈ l, c ≤ a ∨ x ≤ c) → abv l t = abv l a
  | [], _ => rfl
  | c :: l, h => by
    have ih := abv_between h1 h2 l fun d hd => h d (List.mem_cons_of_mem _ hd)
    have hc := h c List.mem_cons_self
    rw [abv_cons, abv_cons, ih]
    by_cases q : a < c
    · rw [if_pos q, if_pos (by omega)]
    · rw [if_neg q, if_neg (by omega)]

theorem W_line {N : List Int} {a : Nat} : ∀ {b : Nat}, a ≤ b → (∀ c ∈ N, c ≤ a ∨ (b : Int) ≤ c) → W N b = W N a + ((b : Int) - a) * (27720 / (abv N a : Int)) := by
  have key : ∀ (d : Nat), (∀ c ∈ N, c ≤ (a : Int) ∨ ((a + d : Nat) : Int) ≤ c) → W N (a + d) = W N a + (d : Int) * (27720 / (abv N a : Int)) := by
    intro d
    induction d with
    | zero => intro _; simp
    | succ d ih =>
      intro h
      have h1 := ih fun c hc => by
        rcases h c hc with q | q
        · exact .inl q
        · exact .inr (by omega)
      have h2 := abv_between (a := a) (x := ((a + (d + 1) : Nat) : Int)) (t := ((a + d : Nat) : Int)) (by omega) (by omega) N h
      show W N (a + d) + 27720 / (abv N ((a + d : Nat) : Int) : Int) = _
      rw [h1, h2]
      push_cast
      rw [Int.add_mul]
      omega
  intro b hab h
  have := key (b - a) (by rw [show a + (b - a) = b by omega]; exact h)
  rw [show a + (b - a) = b by omega] at this
  rw [this]
  congr 2
  omega

theorem W_mono (N : List Int) : ∀ {a b : Nat}, a ≤ b → W N a ≤ W N b := by
  have key : ∀ (a d : Nat), W N a ≤ W N (a + d) := by
    intro a d
    induction d with
    | zero => exact Int.le_refl _
    | succ d ih =>
      show _ ≤ W N (a + d) + 27720 / (abv N ((a + d : Nat) : Int) : Int)
      have : 0 ≤ (27720 : Int) / (abv N ((a + d : Nat) : Int) : Int) := Int.ediv_nonneg (by omega) (by omega)
      omega
  intro a b h
  have := key a (b - a)
  rwa [show a + (b - a) = b by omega] at this
theorem W_nonneg (N : List Int) (t : Nat) : 0 ≤ W N t := W_mono N (Nat.zero_le t)
theorem W_le (N : List Int) : ∀ t : Nat, W N t ≤ 27720 * t
  | 0 => by simp [W]
  | t + 1 => by
    have ih := W_le N t
    have : (27720 : Int) / (abv N t : Int) ≤ 27720 := Int.ediv_le_self _ (by omega)
    simp only [W]
    push_cast
    omega

/-- The shares of some, up to a cost. -/
def GS (N P : List Int) (T : Nat) : Int := sumL (P.map fun c => W N (min c.toNat T))

theorem GS_succ (N : List Int) (T : Nat) : ∀ P : List Int, (∀ c ∈ P, 0 ≤ c) → GS N P (T + 1) = GS N P T + (abv P T : Int) * (27720 / (abv N T : Int))
  | [], _ => by simp [GS, sumL, abv]
  | c :: P, h => by
    have ih := GS_succ N T P fun d hd => h d (List.mem_cons_of_mem _ hd)
    have hc := h c List.mem_cons_self
    unfold GS at ih ⊢
    simp only [List.map_cons, sumL, ih, abv_cons]
    by_cases q : (T : Int) < c
    · rw [if_pos q, show min c.toNat (T + 1) = T + 1 by omega, show min c.toNat T = T by omega]
      push_cast
      rw [Int.add_mul]
      simp only [W]
      omega
    · rw [if_neg q, show min c.toNat (T + 1) = min c.toNat T by omega, Nat.zero_add]
      omega

theorem GS_zero (N : List Int) : ∀ P : List Int, GS N P 0 = 0
  | [] => rfl
  | c :: P => by
    have ih := GS_zero N P
    unfold GS at ih ⊢
    simp only [List.map_cons, sumL, ih]
    rw [Nat.min_zero]; rfl

theorem div12 {k : Nat} (h1 : 1 ≤ k) (h2 : k ≤ 12) : (k : Int) * (27720 / (k : Int)) = 27720 := by
  have : k = 1 ∨ k = 2 ∨ k = 3 ∨ k = 4 ∨ k = 5 ∨ k = 6 ∨ k = 7 ∨ k = 8 ∨ k = 9 ∨ k = 10 ∨ k = 11 ∨ k = 12 := by omega
  rcases this with rfl | rfl | rfl | rfl | rfl | rfl | rfl | rfl | rfl | rfl | rfl | rfl <;> decide

theorem GS_all {N : List Int} (hl : N.length ≤ 12) (h : ∀ c ∈ N, 0 ≤ c) {m : Int} (hm : m ∈ N) : ∀ T : Nat, (T : Int) ≤ m → GS N N T = 27720 * T
  | 0, _ => by
    exact GS_zero N N
  | T + 1, hT => by
    have ih := GS_all hl h hm T (by omega)
    rw [GS_succ N T N h, ih]
    have h1 : 1 ≤ abv N T := List.length_pos_of_mem (List.mem_filter.2 ⟨hm, decide_eq_true (by omega)⟩)
    have h2 := abv_le N T
    rw [div12 h1 (by omega)]
    push_cast
    omega

theorem GS_part {N P : List Int} (hl : N.length ≤ 12) (h : ∀ c ∈ P, 0 ≤ c) (hp : ∀ t : Int, abv P t ≤ abv N t) : ∀ T : Nat, GS N P T ≤ 27720 * T
  | 0 => by
    rw [GS_zero]; simp
  | T + 1 => by
    have ih := GS_part hl h hp T
    rw [GS_succ N T P h]
    have h2 := abv_le N T
    have h3 := hp T
    have h4 : (abv P T : Int) * (27720 / (abv N T : Int)) ≤ 27720 := by
      by_cases q : abv N T = 0
      · have : abv P T = 0 := by omega
        rw [this]; simp
      · have e := div12 (k := abv N T) (by omega) (by omega)
        have h5 : 0 ≤ (27720 : Int) / (abv N T : Int) := Int.ediv_nonneg (by omega) (by omega)
        have h6 : (abv P T : Int) * (27720 / (abv N T : Int)) ≤ (abv N T : Int) * (27720 / (abv N T : Int)) := Int.mul_le_mul_of_nonneg_right (by omega) h5
        omega
    push_cast
    omega

theorem GS_top {N P : List Int} {T : Nat} (h : ∀ c ∈ P, c ≤ T) : GS N P T = sumL (P.map fun c => W N c.toNat) := by
  unfold GS
  congr 1
  apply List.map_congr_left
  intro c hc
  have := h c hc
  rw [show min c.toNat T = c.toNat by omega]

/-- All shares are together the greatest need. -/
theorem shares_sum {N : List Int} (hl : N.length ≤ 12) (h : ∀ c ∈ N, 0 ≤ c) {m : Int} (hm : MaxOK N m) : sumL (N.map fun c => W N c.toNat) = 27720 * m := by
  have h0 := h m hm.1
  have h1 := GS_all hl h hm.1 m.toNat (by omega)
  rw [GS_top (fun c hc => by have := hm.2 c hc; omega)] at h1
  rw [h1]; omega

/-! ### Lists sorted by insertion -/

def upto (n : Nat) : List Int := tab n fun i => (i : Int)
theorem upto_length (n : Nat) : (upto n).length = n := tab_length _ _
theorem upto_drop {n i : Nat} (h : i < n) : (upto n).drop i = (i : Int) :: (upto n).drop (i + 1) := by
  rw [drop_get (d := 0) (by rw [upto_length]; exact h)]
  congr 1
  exact tab_get h
theorem upto_mem {n : Nat} {x : Int} : x ∈ upto n ↔ 0 ≤ x ∧ x < n := by
  constructor
  · intro h
    obtain ⟨i, h1, h2⟩ := tab_mem h
    omega
  · intro ⟨h1, h2⟩
    simp only [upto, tab, List.mem_map, List.mem_range]
    exact ⟨x.toNat, by omega, by omega⟩

/-- By keys, and by numbers where these are the same. -/
def Lx (key : Int → Int) (a b : Int) : Prop := key a < key b ∨ (key a = key b ∧ a < b)
theorem Lx.trans {key : Int → Int} {a b c : Int} (h : Lx key a b) (h' : Lx key b c) : Lx key a c := by
  unfold Lx at *; omega
theorem Lx.irrefl {key : Int → Int} {a : Int} (h : Lx key a a) : False := by unfold Lx at h; omega

structure Sorted (key : Int → Int) (n : Nat) (l : List Int) : Prop where
  perm : l.Perm (upto n)
  pw : l.Pairwise (Lx key)

/-- The first i are sorted, the others are as they were. -/
def SortI (key : Int → Int) (n i : Nat) (l : List Int) : Prop := ∃ S, l = S ++ (upto n).drop i ∧ Sorted key i S

theorem Sorted.length {key : Int → Int} {n : Nat} {l : List Int} (h : Sorted key n l) : l.length = n := by rw [h.perm.length_eq, upto_length]
theorem Sorted.mem {key : Int → Int} {n : Nat} {l : List Int} (h : Sorted key n l) {x : Int} : x ∈ l ↔ 0 ≤ x ∧ x < n := by rw [h.perm.mem_iff, upto_mem]

def InsI (key : Int → Int) (n i : Nat) (j : Int) (l : List Int) : Prop :=
  ∃ A B : List Int, l = A ++ (i : Int) :: (B ++ (upto n).drop (i + 1)) ∧ (A.length : Int) = j ∧ (A ++ B).Perm (upto i) ∧ (A ++ B).Pairwise (Lx key) ∧ ∀ u ∈ B, Lx key i u

theorem SortI.zero (key : Int → Int) (n : Nat) : SortI key n 0 (upto n) := ⟨[], by simp, ⟨List.Perm.refl _, List.Pairwise.nil⟩⟩
theorem SortI.one (key : Int → Int) {n : Nat} (h : 1 ≤ n) : SortI key n 1 (upto n) := by
  refine ⟨[0], ?_, ⟨List.Perm.refl _, List.pairwise_singleton _ _⟩⟩
  have := upto_drop (n := n) (i := 0) (by omega)
  rw [List.drop_zero] at this
  exact this
theorem SortI.done {key : Int → Int} {n : Nat} {l : List Int} (h : SortI key n n l) : Sorted key n l := by
  obtain ⟨S, rfl, hS⟩ := h
  rw [List.drop_eq_nil_of_le (by rw [upto_length]; exact Nat.le_refl _), List.append_nil]
  exact hS
theorem SortI.start {key : Int → Int} {n i : Nat} {l : List Int} (h : SortI key n i l) (hi : i < n) : InsI key n i i l := by
  obtain ⟨S, rfl, hS⟩ := h
  exact ⟨S, [], by rw [upto_drop hi]; rfl, by rw [hS.length], by rw [List.append_nil]; exact hS.perm, by rw [List.append_nil]; exact hS.pw, fun _ h => nomatch h⟩

theorem upto_succ (i : Nat) : upto (i + 1) = upto i ++ [(i : Int)] := tab_succ _ _

theorem InsI.facts {key : Int → Int} {n i : Nat} {j : Int} {l : List Int} (h : InsI key n i j l) (hi : i < n) : l.length = n ∧ 0 ≤ j ∧ j ≤ i ∧ l.getD j.toNat 0 = i ∧ (0 < j → 0 ≤ l.getD (j - 1).toNat 0 ∧ l.getD (j - 1).toNat 0 < i) := by
  obtain ⟨A, B, rfl, hA, hp, _, _⟩ := h
  have hl := hp.length_eq
  rw [List.length_append, upto_length] at hl
  refine ⟨?_, by omega, by omega, ?_, fun h0 => ?_⟩
  · simp only [List.length_append, List.length_cons, List.length_drop, upto_length]; omega
  · have : j.toNat = A.length := by omega
    rw [this]
    simp [List.getD_eq_getElem?_getD]
  · have hlt : (j - 1).toNat < A.length := by omega
    rw [getD_append_left' hlt]
    have hm : A.getD (j - 1).toNat 0 ∈ A ++ B := List.mem_append_left _ (getD_mem hlt)
    have := upto_mem.1 (hp.mem_iff.1 hm)
    omega

theorem InsI.swap {key : Int → Int} {n i : Nat} {j : Int} {l : List Int} (h : InsI key n i j l) (hj : 0 < j) (hk : key (l.getD j.toNat 0) < key (l.getD (j - 1).toNat 0)) :
    InsI key n i (j - 1) ((l.set j.toNat (l.getD (j - 1).toNat 0)).set (j - 1).toNat (l.getD j.toNat 0)) := by
  obtain ⟨A, B, rfl, hA, hp, hw, hB⟩ := h
  have hne : A ≠ [] := fun e => by rw [e] at hA; simp at hA; omega
  obtain ⟨A', u, rfl⟩ : ∃ A' u, A = A' ++ [u] := ⟨A.dropLast, A.getLast hne, (List.dropLast_concat_getLast hne).symm⟩
  have hA' : (A'.length : Int) = j - 1 := by simp at hA; omega
  have e1 : j.toNat = (A' ++ [u]).length := by omega
  have e2 : (j - 1).toNat = A'.length := by omega
  have g1 : ((A' ++ [u]) ++ (i : Int) :: (B ++ (upto n).drop (i + 1))).getD j.toNat 0 = i := by rw [e1]; simp [List.getD_eq_getElem?_getD]
  have g2 : ((A' ++ [u]) ++ (i : Int) :: (B ++ (upto n).drop (i + 1))).getD (j - 1).toNat 0 = u := by
    rw [getD_append_left' (by rw [e2]; simp), e2]; simp [List.getD_eq_getElem?_getD]
  rw [g1, g2] at hk ⊢
  refine ⟨A', u :: B, ?_, hA', ?_, ?_, ?_⟩
  · rw [List.set_append_right _ _ (by omega), e1, Nat.sub_self, List.set_cons_zero, List.set_append_left _ _ (by rw [e2]; simp), e2]
    simp
  · have : (A' ++ u :: B) = (A' ++ [u]) ++ B := by simp
    rw [this]; exact hp
  · have : (A' ++ u :: B) = (A' ++ [u]) ++ B := by simp
    rw [this]; exact hw
  · intro x hx
    rcases List.mem_cons.1 hx with rfl | hx
    · exact .inl hk
    · exact hB x hx

theorem InsI.stop {key : Int → Int} {n i : Nat} {j : Int} {l : List Int} (h : InsI key n i j l) (hk : j = 0 ∨ key (l.getD (j - 1).toNat 0) ≤ key i) : SortI key n (i + 1) l := by
  obtain ⟨A, B, rfl, hA, hp, hw, hB⟩ := h
  refine ⟨A ++ (i : Int) :: B, by simp, ⟨?_, ?_⟩⟩
  · rw [upto_succ]
    exact (List.perm_middle.trans (List.Perm.cons _ hp)).trans (List.perm_append_singleton _ _).symm
  · rw [List.pairwise_append] at hw ⊢
    obtain ⟨w1, w2, w3⟩ := hw
    have hAi : ∀ a ∈ A, Lx key a i := by
      rcases hk with rfl | hk
      · intro a ha
        have : A = [] := List.eq_nil_of_length_eq_zero (by omega)
        rw [this] at ha; cases ha
      · by_cases hne : A = []
        · intro a ha; rw [hne] at ha; cases ha
        obtain ⟨A', u, rfl⟩ : ∃ A' u, A = A' ++ [u] := ⟨A.dropLast, A.getLast hne, (List.dropLast_concat_getLast hne).symm⟩
        have e2 : (j - 1).toNat = A'.length := by simp at hA; omega
        have g2 : ((A' ++ [u]) ++ (i : Int) :: (B ++ (upto n).drop (i + 1))).getD (j - 1).toNat 0 = u := by
          rw [getD_append_left' (by rw [e2]; simp), e2]; simp [List.getD_eq_getElem?_getD]
        rw [g2] at hk
        have hu : Lx key u i := by
          have hm : u ∈ (A' ++ [u]) ++ B := by simp
          have := upto_mem.1 (hp.mem_iff.1 hm)
          rcases Int.lt_or_le (key u) (key i) with q | q
          · exact .inl q
          · exact .inr ⟨by omega, this.2⟩
        rw [List.pairwise_append] at w1
        intro a ha
        rcases List.mem_append.1 ha with ha | ha
        · exact (w1.2.2 a ha u (by simp)).trans hu
        · rw [List.mem_singleton.1 ha]; exact hu
    refine ⟨w1, List.Pairwise.cons hB w2, fun a ha b hb => ?_⟩
    rcases List.mem_cons.1 hb with rfl | hb
    · exact hAi a ha
    · exact w3 a ha b hb

/-- What is sorted is so in one way. -/
theorem Sorted.one {key : Int → Int} {n : Nat} {l r : List Int} (h : Sorted key n l) (h' : Sorted key n r) : l = r :=
  List.Perm.eq_of_pairwise (le := Lx key) (fun _ _ _ _ h1 h2 => absurd (h1.trans h2) fun q => q.irrefl) h.pw h'.pw (h.perm.trans h'.perm.symm)
end Go.Proofs.Fe

namespace Go.Proofs.Fe
open Go Go.KX

abbrev NeedsB (N : List Int) : Prop := ∀ c ∈ N, 0 ≤ c ∧ c ≤ 1000000000

/-- Shares of all. -/
def shV (N : List Int) : List Int := N.map fun c => W N c.toNat

theorem NeedsB.get {N : List Int} (h : NeedsB N) (i : Nat) : 0 ≤ N.getD i 0 ∧ N.getD i 0 ≤ 1000000000 := by
  by_cases hi : i < N.length
  · exact h _ (getD_mem hi)
  · simp [List.getD_eq_getElem?_getD, List.getElem?_eq_none (Nat.le_of_not_lt hi)]

theorem abv_perm {N l : List Int} {n : Nat} (hn : N.length = n) (hp : l.Perm (upto n)) (t : Int) : abv N t = (l.filter fun u => decide (t < N.getD u.toNat 0)).length := by
  have h1 : N = (upto n).map fun u => N.getD u.toNat 0 := by
    apply list_ext 0 (by simp [upto_length, hn])
    intro i hi
    rw [getD_get (l := (upto n).map _) (by simp [upto_length]; omega), List.getElem_map]
    have : (upto n)[i]'(by rw [upto_length]; omega) = (i : Int) := by
      have := tab_get (n := n) (i := i) (g := fun i => (i : Int)) (d := 0) (by omega)
      rw [getD_get (by rw [tab_length]; omega)] at this
      exact this
    rw [this]; simp
  have h2 := (hp.filter fun u => decide (t < N.getD u.toNat 0)).length_eq
  rw [h2]
  unfold abv
  rw [h1, List.filter_map, List.length_map]
  congr 1
  apply List.filter_congr
  intro u hu
  simp only [Function.comp]
  rw [← h1]

set_option maxHeartbeats 1000000 in
theorem exact_ok {F : Nat} (hF : 2000000000000 < F) {N : List Int} (h1 : 1 ≤ N.length) (h2 : N.length ≤ 12) (h : NeedsB N) : fees_exact F N = some (shV N) := by
  refine Ok.eq ?_
  unfold fees_exact
  obtain ⟨n, hn⟩ : ∃ n, N.length = n := ⟨_, rfl⟩
  have hrl : (List.replicate ((N.length : Int)).toNat (0 : Int)).length = n := by simp [hn]
  rw [hrl, hn]
  refine ok_chk ⟨by omega, by omega, by omega⟩ (ok_chk ⟨by omega, by omega, by omega⟩ ?_)
  -- the order as it was
  refine ok_loop (fun x : Int × List Int => 0 ≤ x.1 ∧ x.1 ≤ n ∧ x.2.length = n ∧ ∀ q : Nat, (q : Int) < x.1 → x.2.getD q 0 = q) (fun x => n - x.1.toNat)
    ⟨by simp, by show (0 : Int) ≤ n; omega, by simp, fun q hq => by (have hq : (q : Int) < 0 := hq); omega⟩ (by simp; omega) ?_
  rintro ⟨i, o⟩ next ⟨i1, i2, i3, i4⟩ hnx
  simp only at i1 i2 i3 i4
  dsimp only
  refine ok_brk (fun hc => ?_) (fun hc => ?_)
  · have hc : i < n := of_decide_eq_true hc
    refine ok_chk ⟨i1, by omega⟩ (ok_chk (show InR _ from ⟨by omega, by omega⟩) (hnx _ ⟨by show 0 ≤ i + 1; omega, by show i + 1 ≤ n; omega, by show (o.set _ _).length = n; rw [List.length_set]; exact i3, fun q hq => ?_⟩ (by show n - (i + 1).toNat < n - i.toNat; omega)))
    have hq : (q : Int) < i + 1 := hq
    show (o.set i.toNat i).getD q 0 = q
    rw [getD_set' (by omega)]
    by_cases e : i.toNat = q
    · rw [if_pos e]; omega
    · rw [if_neg e]; exact i4 q (by omega)
  have hc : ¬ i < n := of_decide_eq_false hc
  have ho : o = upto n := tab_ext 0 i3 fun q hq => i4 q (by omega)
  clear hnx
  rw [ho, upto_length]
  refine ok_loop (fun x : Int × Int => x = (20, 0)) (fun _ => 0) rfl (by omega) ?_
  rintro _ next rfl hnx
  clear hnx next
  refine ok_brkF (decide_eq_false (by show ¬ (20 : Int) ≤ n; omega)) (ok_chk (show InR (0 + 1) from ⟨by omega, by omega⟩) ?_)
  -- the order sorted
  refine ok_loop (fun x : Int × List Int => 1 ≤ x.1 ∧ x.1 ≤ n ∧ SortI (fun u => N.getD u.toNat 0) n x.1.toNat x.2) (fun x => n - x.1.toNat)
    ⟨by simp, by show (0 : Int) + 1 ≤ n; omega, SortI.one _ (by omega)⟩ (by simp; omega) ?_
  rintro ⟨i, l⟩ next ⟨i1, i2, i3⟩ hnx
  simp only at i1 i2 i3
  dsimp only
  refine ok_brk (fun hc => ?_) (fun hc => ?_)
  · have hc : i < n := of_decide_eq_true hc
    have hi : i.toNat < n := by omega
    have hst := i3.start hi
    refine ok_loop (fun x : Int × List Int => InsI (fun u => N.getD u.toNat 0) n i.toNat x.1 x.2) (fun x => x.1.toNat)
      (by rw [show ((i.toNat : Nat) : Int) = i by omega] at hst; exact hst) (by show i.toNat < F; omega) ?_
    rintro ⟨j, l⟩ next2 hI hn2
    simp only at hI
    dsimp only
    obtain ⟨f1, f2, f3, f4, f5⟩ := hI.facts hi
    have go : SortI (fun u => N.getD u.toNat 0) n (i.toNat + 1) l → Ok (fun x => x = shV N) (chk (InR (i + 1)) (next (i + 1, l))) := fun q =>
      ok_chk (show InR _ from ⟨by omega, by omega⟩) (hnx _ ⟨by show 1 ≤ i + 1; omega, by show i + 1 ≤ n; omega, by show SortI _ n (i + 1).toNat l; rw [show (i + 1).toNat = i.toNat + 1 by omega]; exact q⟩ (by show n - (i + 1).toNat < n - i.toNat; omega))
    refine ok_brk (fun hb => ?_) (fun hb => ?_)
    · have hb : j > 0 := of_decide_eq_true hb
      have g := f5 hb
      have hv : 0 ≤ l.getD j.toNat 0 ∧ l.getD j.toNat 0 < n := by rw [f4]; omega
      have kv := h.get (l.getD j.toNat 0).toNat
      have ku := h.get (l.getD (j - 1).toNat 0).toNat
      refine ok_chk ⟨f2, by omega⟩ (ok_chk (show InR _ from ⟨by omega, by omega⟩) (ok_chk ⟨by omega, by omega⟩ (ok_chk hv (ok_chk ⟨g.1, by omega⟩ (ok_chk (show InR _ from ⟨by omega, by omega⟩) (ok_brk (fun hd => ?_) (fun hd => ?_)))))))
      · have hd := of_decide_eq_true hd
        refine ok_chk (show InR _ from ⟨by omega, by omega⟩) (ok_chk (show InR _ from ⟨by omega, by omega⟩) (ok_chk ⟨by omega, by omega⟩ (ok_chk ⟨by omega, by omega⟩ (ok_chk ⟨by omega, by omega⟩ (ok_chk ⟨by omega, by rw [List.length_set]; omega⟩ (ok_chk (show InR _ from ⟨by omega, by omega⟩) (hn2 _ (hI.swap hb (by show N.getD _ 0 < N.getD _ 0; omega)) (by show (j - 1).toNat < j.toNat; omega))))))))
      · have hd := of_decide_eq_false hd
        refine go (hI.stop (.inr ?_))
        show N.getD (l.getD (j - 1).toNat 0).toNat 0 ≤ N.getD ((i.toNat : Nat) : Int).toNat 0
        rw [← f4]; omega
    · have hb : ¬ j > 0 := of_decide_eq_false hb
      exact go (hI.stop (.inl (by omega)))
  have hc : ¬ i < n := of_decide_eq_false hc
  have hs : Sorted (fun u => N.getD u.toNat 0) n l := SortI.done (by rw [show i.toNat = n by omega] at i3; exact i3)
  clear hnx i3
  refine ok_loop (fun x : Int => x = 20) (fun _ => 0) rfl (by omega) ?_
  rintro _ next rfl hnx
  clear hnx next
  refine ok_brkF (decide_eq_false (by omega)) ?_
  have hll := hs.length
  have hlm : ∀ k : Nat, k < n → 0 ≤ l.getD k 0 ∧ l.getD k 0 < n := fun k hk => hs.mem.1 (getD_mem (by omega))
  rw [hll]
  -- the parts
  refine ok_loop (fun x : Int × Int × List Int => 0 ≤ x.2.1 ∧ x.2.1 ≤ n ∧ 0 ≤ x.1 ∧ x.1 ≤ 1000000000 ∧ (∀ u ∈ l.take x.2.1.toNat, N.getD u.toNat 0 ≤ x.1) ∧ (∀ u ∈ l.drop x.2.1.toNat, x.1 ≤ N.getD u.toNat 0) ∧ x.2.2.length = n ∧ ∀ q : Nat, q < n → x.2.2.getD q 0 = W N (min (N.getD q 0) x.1).toNat) (fun x => n - x.2.1.toNat)
    ⟨by simp, by show (0 : Int) ≤ n; omega, by simp, by simp, fun u hu => by simp at hu, fun u _ => (h.get _).1, by simp, fun q hq => by
      show (List.replicate ((n : Nat) : Int).toNat (0 : Int)).getD q 0 = W N (min (N.getD q 0) 0).toNat
      have := (h.get q).1
      rw [show (min (N.getD q 0) 0).toNat = 0 by omega]
      rw [getD_get (by simp; omega)]; simp [W]⟩ (by simp; omega) ?_
  rintro ⟨bf, k, out⟩ next ⟨k1, k2, k3, k4, k5, k6, k7, k8⟩ hnx
  simp only at k1 k2 k3 k4 k5 k6 k7 k8
  dsimp only
  refine ok_brk (fun hb => ?_) (fun hb => ok_some ?_)
  · have hb : k < n := of_decide_eq_true hb
    have hk : k.toNat < n := by omega
    have hu := hlm k.toNat hk
    have hdr := drop_get (d := 0) (show k.toNat < l.length by omega)
    have hub := h.get (l.getD k.toNat 0).toNat
    have hle := k6 (l.getD k.toNat 0) (by rw [hdr]; exact List.mem_cons_self)
    -- how much each one gets
    have hmin : ∀ u ∈ l.drop k.toNat, N.getD (l.getD k.toNat 0).toNat 0 ≤ N.getD u.toNat 0 := fun u hu => by
      have hp := (List.pairwise_append.1 (by rw [List.take_append_drop]; exact hs.pw : (l.take k.toNat ++ l.drop k.toNat).Pairwise _)).2.1
      rw [hdr] at hp hu
      rcases List.mem_cons.1 hu with rfl | hu
      · exact Int.le_refl _
      · have := (List.pairwise_cons.1 hp).1 u hu
        unfold Lx at this
        dsimp only at this
        omega
    have hW : W N (N.getD (l.getD k.toNat 0).toNat 0).toNat = W N bf.toNat + (N.getD (l.getD k.toNat 0).toNat 0 - bf) * (27720 / ((n : Int) - k)) := by
      by_cases e : bf < N.getD (l.getD k.toNat 0).toNat 0
      · have hbt : ∀ c ∈ N, c ≤ ((bf.toNat : Nat) : Int) ∨ (((N.getD (l.getD k.toNat 0).toNat 0).toNat : Nat) : Int) ≤ c := fun c hc => by
          obtain ⟨q, hq, rfl⟩ := List.getElem_of_mem hc
          have hm : ((q : Nat) : Int) ∈ l := hs.mem.2 ⟨by omega, by omega⟩
          rw [← List.take_append_drop k.toNat l] at hm
          have hg : N.getD ((q : Nat) : Int).toNat 0 = N[q] := by rw [Int.toNat_natCast, getD_get hq]
          rcases List.mem_append.1 hm with hm | hm
          · have := k5 _ hm; rw [hg] at this; exact .inl (by omega)
          · have := hmin _ hm; rw [hg] at this; exact .inr (by omega)
        have hcnt : (abv N ((bf.toNat : Nat) : Int) : Int) = (n : Int) - k := by
          rw [abv_perm hn hs.perm, show l = l.take k.toNat ++ l.drop k.toNat from (List.take_append_drop _ _).symm, List.filter_append, List.length_append]
          have e1 : ((l.take k.toNat).filter fun u => decide (((bf.toNat : Nat) : Int) < N.getD u.toNat 0)) = [] := by
            rw [List.filter_eq_nil_iff]
            intro u hu
            have := k5 u hu
            simp only [decide_eq_true_eq]; omega
          have e2 : ((l.drop k.toNat).filter fun u => decide (((bf.toNat : Nat) : Int) < N.getD u.toNat 0)) = l.drop k.toNat := by
            rw [List.filter_eq_self]
            intro u hu
            have := hmin u hu
            exact decide_eq_true (by omega)
          rw [e1, e2, List.length_drop, hll]
          simp; omega
        have := W_line (N := N) (a := bf.toNat) (b := (N.getD (l.getD k.toNat 0).toNat 0).toNat) (by omega) hbt
        rw [this, hcnt]
        congr 2; omega
      · have : N.getD (l.getD k.toNat 0).toNat 0 = bf := by omega
        rw [this, Int.sub_self, Int.zero_mul, Int.add_zero]
    have hWb1 := W_le N bf.toNat
    have hWb2 := W_nonneg N bf.toNat
    have hWb3 := W_le N (N.getD (l.getD k.toNat 0).toNat 0).toNat
    have hWb4 := W_mono N (show bf.toNat ≤ (N.getD (l.getD k.toNat 0).toNat 0).toNat by omega)
    generalize hV : N.getD (l.getD k.toNat 0).toNat 0 = V at hub hle hmin hW hWb3 hWb4 ⊢
    generalize hadd : (V - bf) * (27720 / ((n : Int) - k)) = add at hW ⊢
    refine ok_chk ⟨k1, by omega⟩ (ok_chk ⟨hu.1, hu.2⟩ (ok_chk (show InR _ from ⟨by omega, by omega⟩) (ok_chk ⟨k1, by omega, by omega⟩ ?_)))
    refine ok_loop (fun x : Int × List Int => 0 ≤ x.1 ∧ x.1 ≤ n - k ∧ x.2.length = n ∧ ∀ q : Nat, q < n → x.2.getD q 0 = out.getD q 0 + if (q : Int) ∈ (l.drop k.toNat).take x.1.toNat then add else 0) (fun x => n - x.1.toNat)
      ⟨by simp, by show (0 : Int) ≤ n - k; omega, k7, fun q _ => by simp⟩ (by simp; omega) ?_
    rintro ⟨j, ot⟩ next2 ⟨j1, j2, j3, j4⟩ hn2
    simp only at j1 j2 j3 j4
    dsimp only
    refine ok_brk (fun hd => ?_) (fun hd => ?_)
    · have hd : j < (n : Int) - k := of_decide_eq_true hd
      have hkj : (k + j).toNat < n := by omega
      have hv := hlm (k + j).toNat hkj
      have hmem : l.getD (k + j).toNat 0 ∈ l.drop k.toNat := by
        rw [getD_get (by omega)]
        refine List.mem_drop_iff_getElem.2 ⟨j.toNat, by omega, ?_⟩
        congr 1; omega
      have htk : (l.drop k.toNat).take (j + 1).toNat = (l.drop k.toNat).take j.toNat ++ [l.getD (k + j).toNat 0] := by
        rw [show (j + 1).toNat = j.toNat + 1 by omega, take_succ' (d := 0) (by rw [List.length_drop]; omega)]
        congr 2
        rw [getD_get (by rw [List.length_drop]; omega), getD_get (by omega), List.getElem_drop]
        congr 1; omega
      have hnew : ¬ l.getD (k + j).toNat 0 ∈ (l.drop k.toNat).take j.toNat := fun hq => by
        have hp : ((l.drop k.toNat).take (j + 1).toNat).Pairwise (Lx fun u => N.getD u.toNat 0) := (hs.pw.sublist (List.drop_sublist _ _)).sublist (List.take_sublist _ _)
        rw [htk, List.pairwise_append] at hp
        exact (hp.2.2 _ hq _ (by simp)).irrefl
      have hq := j4 (l.getD (k + j).toNat 0).toNat (by omega)
      have hqe : (((l.getD (k + j).toNat 0).toNat : Nat) : Int) = l.getD (k + j).toNat 0 := by omega
      rw [hqe, if_neg hnew, k8 _ (by omega)] at hq
      have hmn : (min (N.getD (l.getD (k + j).toNat 0).toNat 0) bf).toNat = bf.toNat := by
        have := hmin _ hmem
        omega
      rw [hmn] at hq
      generalize l.getD (k + j).toNat 0 = u at hv hmem htk hnew hq hqe hmn ⊢
      have hdiv : 0 < (n : Int) - k := by omega
      refine ok_chk ⟨j1, hd⟩ (ok_chk ⟨hv.1, by omega⟩ (ok_chk ⟨⟨by omega, by omega⟩, hdiv⟩ ?_))
      refine ok_chk (show InR _ from ⟨by omega, by omega⟩) (ok_chk (show InR _ from ⟨by omega, by omega⟩) (ok_chk ⟨hv.1, by omega⟩ (ok_chk (show InR _ from ⟨by omega, by omega⟩) (hn2 _ ⟨by show 0 ≤ j + 1; omega, by show j + 1 ≤ n - k; omega, by show (ot.set _ _).length = n; rw [List.length_set]; exact j3, fun q hqn => ?_⟩ (by show n - (j + 1).toNat < n - j.toNat; omega)))))
      show (ot.set u.toNat (ot.getD u.toNat 0 + add)).getD q 0 = out.getD q 0 + if (q : Int) ∈ (l.drop k.toNat).take (j + 1).toNat then add else 0
      rw [getD_set' (by omega), htk]
      by_cases e : u.toNat = q
      · rw [if_pos e, if_pos (by rw [← e, hqe]; simp), ← e, j4 u.toNat (by omega), hqe, if_neg hnew, Int.add_zero]
      · rw [if_neg e, j4 q hqn]
        congr 1
        by_cases e2 : (q : Int) ∈ (l.drop k.toNat).take j.toNat
        · rw [if_pos e2, if_pos (List.mem_append_left _ e2)]
        · rw [if_neg e2, if_neg (fun q3 => by
            rcases List.mem_append.1 q3 with q4 | q4
            · exact e2 q4
            · have := List.mem_singleton.1 q4
              omega)]
    · have hd : ¬ j < (n : Int) - k := of_decide_eq_false hd
      rw [List.take_of_length_le (by rw [List.length_drop]; omega)] at j4
      refine ok_chk ⟨hu.1, hu.2⟩ (ok_chk (show InR _ from ⟨by omega, by omega⟩) (hnx _ ⟨by show 0 ≤ k + 1; omega, by show k + 1 ≤ n; omega, by show 0 ≤ V; omega, by show V ≤ _; omega, fun u hu2 => ?_, fun u hu2 => ?_, j3, fun q hqn => ?_⟩ (by show n - (k + 1).toNat < n - k.toNat; omega)))
      · show N.getD u.toNat 0 ≤ V
        have hu2 : u ∈ l.take (k + 1).toNat := hu2
        rw [show (k + 1).toNat = k.toNat + 1 by omega, take_succ' (d := 0) (by omega)] at hu2
        rcases List.mem_append.1 hu2 with q | q
        · have := k5 u q; omega
        · rw [List.mem_singleton.1 q, hV]; omega
      · show V ≤ N.getD u.toNat 0
        have hu2 : u ∈ l.drop (k + 1).toNat := hu2
        refine hmin u ?_
        rw [hdr]
        rw [show (k + 1).toNat = k.toNat + 1 by omega] at hu2
        exact List.mem_cons_of_mem _ hu2
      · show ot.getD q 0 = W N (min (N.getD q 0) V).toNat
        have hm : ((q : Nat) : Int) ∈ l := hs.mem.2 ⟨by omega, by omega⟩
        rw [j4 q hqn, k8 q hqn]
        by_cases e : (q : Int) ∈ l.drop k.toNat
        · have h5 := hmin _ e
          have h6 := k6 _ e
          rw [Int.toNat_natCast] at h5 h6
          rw [if_pos e, show min (N.getD q 0) bf = bf by omega, show min (N.getD q 0) V = V by omega, hW]
        · rw [if_neg e, Int.add_zero]
          rw [← List.take_append_drop k.toNat l] at hm
          rcases List.mem_append.1 hm with hm | hm
          · have := k5 _ hm
            rw [Int.toNat_natCast] at this
            rw [show min (N.getD q 0) bf = N.getD q 0 by omega, show min (N.getD q 0) V = N.getD q 0 by omega]
          · exact absurd hm e
  · have hb : ¬ k < n := of_decide_eq_false hb
    apply list_ext 0 (by rw [k7]; simp [shV, hn])
    intro q hq
    have hqn : q < n := by omega
    rw [k8 q hqn]
    have hm : ((q : Nat) : Int) ∈ l := hs.mem.2 ⟨by omega, by omega⟩
    have := k5 _ (by rw [List.take_of_length_le (by omega)]; exact hm)
    rw [Int.toNat_natCast] at this
    rw [show min (N.getD q 0) bf = N.getD q 0 by omega]
    unfold shV
    rw [getD_get (l := N.map _) (by simp; omega), List.getElem_map, getD_get (by omega)]
end Go.Proofs.Fe

namespace Go.Proofs.Fe
open Go Go.KX

open Classical in
noncomputable def askedV (N : List Int) : Int := if 1 ≤ N.length ∧ N.length ≤ 12 then (if NeedsB N then 0 else 6) else 2
theorem askedV_zero {N : List Int} (h : askedV N = 0) : 1 ≤ N.length ∧ N.length ≤ 12 ∧ NeedsB N := by
  unfold askedV at h
  split at h
  · split at h
    · rename_i h1 h2; exact ⟨h1.1, h1.2, h2⟩
    · omega
  · omega
theorem askedV_ok {N : List Int} (h1 : 1 ≤ N.length) (h2 : N.length ≤ 12) (h3 : NeedsB N) : askedV N = 0 := by
  unfold askedV
  rw [if_pos ⟨h1, h2⟩, if_pos h3]

theorem asked1_eq (F : Nat) (c : Int) : fees_asked_1 F c = some (!decide (0 ≤ c ∧ c ≤ 1000000000)) := by
  show some (!(decide (c ≥ 0) && decide (c ≤ 1000000000))) = _
  rw [wb]
theorem asked_eq {F : Nat} (hF : 100 < F) (N : List Int) : fees_asked F N = some (askedV N) := by
  refine Ok.eq ?_
  unfold fees_asked askedV
  rw [within_eq, wb]
  refine ok_bnde rfl (ok_brk (fun hb => ok_some ?_) (fun hb => ?_))
  · rw [if_neg (by have := nd_true hb; omega)]
  have hl := nd_false hb
  rw [if_pos (by omega)]
  refine ok_join (by omega) (fun x : Int => (x = -1 ∧ NeedsB N) ∨ (0 ≤ x ∧ ¬ NeedsB N)) (fun x hx => ok_brk (fun hb => ok_some ?_) (fun hb => ok_some ?_)) fun k hk => ?_
  · have hb : x ≥ 0 := of_decide_eq_true hb
    rcases hx with ⟨rfl, _⟩ | ⟨_, q⟩
    · omega
    · rw [if_neg q]
  · have hb : ¬ x ≥ 0 := of_decide_eq_false hb
    rcases hx with ⟨_, q⟩ | ⟨q, _⟩
    · rw [if_pos q]
    · omega
  · refine ok_find (p := fun c => !decide (0 ≤ c ∧ c ≤ 1000000000)) (by omega) (by omega) (fun c _ => asked1_eq F c) (fun i hi hp => hk _ (.inr ⟨by omega, fun q => nd_true hp (q _ (getD_mem hi))⟩)) (fun hp => hk _ (.inl ⟨rfl, fun c hc => nd_false (hp c hc)⟩))
theorem needed_eq {F : Nat} (hF : 100 < F) (N : List Int) : ref12_needed F N = some (askedV N) := by
  refine Ok.eq ?_
  unfold ref12_needed askedV
  refine ok_brk (fun hb => ok_some ?_) (fun hb => ?_)
  · simp only [Bool.or_eq_true, decide_eq_true_eq] at hb
    rw [if_neg (by omega)]
  simp only [Bool.or_eq_false_iff, decide_eq_false_iff_not] at hb
  rw [if_pos (by omega)]
  refine ok_loop (fun x : Int => 0 ≤ x ∧ x ≤ N.length ∧ ∀ j : Nat, (j : Int) < x → 0 ≤ N.getD j 0 ∧ N.getD j 0 ≤ 1000000000) (fun x : Int => N.length - x.toNat) ⟨by simp, by simp, fun j hj => by omega⟩ (by simp; omega) ?_
  rintro i next ⟨i1, i2, i3⟩ hn
  refine ok_brk (fun hc => ?_) (fun hc => ok_some ?_)
  · have hc : i < N.length := of_decide_eq_true hc
    rw [refIn_eq, wb]
    refine ok_chk ⟨i1, hc⟩ (ok_bnde rfl (ok_brk (fun hb => ok_some ?_) (fun hb => ok_chk (show InR _ from ⟨by omega, by omega⟩) (hn _ ⟨by omega, by omega, fun j hj => ?_⟩ (by show N.length - (i + 1).toNat < N.length - i.toNat; omega)))))
    · rw [if_neg]
      intro q
      exact nd_true hb (q _ (getD_mem (d := 0) (show i.toNat < N.length by omega)))
    · by_cases e : (j : Int) < i
      · exact i3 j e
      · obtain rfl : j = i.toNat := by omega
        exact nd_false hb
  · have hc : ¬ i < N.length := of_decide_eq_false hc
    rw [if_pos]
    intro c hc
    obtain ⟨j, hj, rfl⟩ := List.getElem_of_mem hc
    have := i3 j (by omega)
    rwa [getD_get hj] at this

/-- The reference's share of a ship. -/
theorem refShare_eq {F : Nat} (hF : 100 < F) {N : List Int} (h2 : N.length ≤ 12) (h : NeedsB N) {s : Int} (hs : 0 ≤ s ∧ s < N.length) : ref12_share F N s = some (W N (N.getD s.toNat 0).toNat) := by
  refine Ok.eq ?_
  unfold ref12_share
  have hns := h.get s.toNat
  refine ok_loop (fun x : Int × Int => 0 ≤ x.1 ∧ x.1 ≤ N.getD s.toNat 0 ∧ x.2 = W N x.1.toNat ∧ (x.1 = 0 ∨ x.1 ∈ N)) (fun x => abv N x.1) ⟨by simp, hns.1, rfl, .inl rfl⟩ (by have := abv_le N 0; show abv N 0 < F; omega) ?_
  rintro ⟨a, o⟩ next ⟨i1, i2, i3, i4⟩ hnext
  simp only at i1 i2 i3 i4
  dsimp only
  refine ok_chk hs (ok_brk (fun ha => ?_) (fun ha => ok_some ?_))
  · have ha : a < N.getD s.toNat 0 := of_decide_eq_true ha
    refine ok_loop (fun x : Int × Int × Int => 0 ≤ x.2.1 ∧ x.2.1 ≤ N.length ∧ x.1 = (abv (N.take x.2.1.toNat) a : Int) ∧ ((x.2.2 = -1 ∧ x.1 = 0) ∨ (1 ≤ x.1 ∧ x.2.2 ∈ N ∧ a < x.2.2 ∧ ∀ j : Nat, (j : Int) < x.2.1 → a < N.getD j 0 → x.2.2 ≤ N.getD j 0))) (fun x : Int × Int × Int => N.length - x.2.1.toNat)
      ⟨by simp, by simp, rfl, .inl ⟨rfl, rfl⟩⟩ (by simp; omega) ?_
    rintro ⟨ab, i, nx⟩ next2 ⟨j1, j2, j3, j4⟩ hn
    simp only at j1 j2 j3 j4
    dsimp only
    have hab : ab ≤ 12 := by
      have := abv_le (N.take i.toNat) a
      have := List.length_take_le i.toNat N
      omega
    refine ok_brk (fun hc => ?_) (fun hc => ?_)
    · have hc : i < N.length := of_decide_eq_true hc
      have hi : i.toNat < N.length := by omega
      have hst : abv (N.take (i + 1).toNat) a = abv (N.take i.toNat) a + (if a < N.getD i.toNat 0 then 1 else 0) := by
        rw [show (i + 1).toNat = i.toNat + 1 by omega, take_succ' (d := 0) hi]
        unfold abv
        rw [List.filter_append, List.length_append]
        congr 1
        by_cases q : a < N.getD i.toNat 0
        · rw [if_pos q, List.filter_cons, if_pos (decide_eq_true q)]; rfl
        · rw [if_neg q, List.filter_cons, if_neg (by simpa using q)]; rfl
      refine ok_join (by omega) (fun x : Int × Int => x.1 = (abv (N.take (i + 1).toNat) a : Int) ∧ ((x.2 = -1 ∧ x.1 = 0) ∨ (1 ≤ x.1 ∧ x.2 ∈ N ∧ a < x.2 ∧ ∀ j : Nat, (j : Int) < i + 1 → a < N.getD j 0 → x.2 ≤ N.getD j 0))) (fun x hx => ok_chk (show InR (i + 1) from ⟨by omega, by omega⟩) (hn _ ⟨by show 0 ≤ i + 1; omega, by show i + 1 ≤ _; omega, hx⟩ (by show N.length - (i + 1).toNat < N.length - i.toNat; omega))) fun k hk => ?_
      refine ok_chk ⟨j1, hc⟩ (ok_brk (fun hb => ?_) (fun hb => hk _ ⟨?_, ?_⟩))
      · have hb : a < N.getD i.toNat 0 := of_decide_eq_true hb
        rw [if_pos hb] at hst
        refine ok_chk (show InR (ab + 1) from ⟨by omega, by omega⟩) (ok_chk (fun _ => ⟨j1, hc⟩) (ok_brk (fun hq => ok_chk ⟨j1, hc⟩ (hk _ ⟨by show ab + 1 = _; omega, .inr ⟨by show 1 ≤ ab + 1; omega, getD_mem hi, hb, fun j hj haj => ?_⟩⟩)) (fun hq => hk _ ⟨by show ab + 1 = _; omega, ?_⟩)))
        · show N.getD i.toNat 0 ≤ N.getD j 0
          simp only [Bool.or_eq_true, decide_eq_true_eq] at hq
          by_cases e2 : (j : Int) < i
          · rcases j4 with ⟨q1, q2⟩ | ⟨q1, q2, q3, q4⟩
            · exfalso
              have hmem : N.getD j 0 ∈ (N.take i.toNat).filter fun c => decide (a < c) := by
                rw [List.mem_filter]
                refine ⟨?_, decide_eq_true haj⟩
                rw [getD_get (by omega : j < N.length)]
                exact List.mem_take_iff_getElem.2 ⟨j, by omega, rfl⟩
              have : 0 < abv (N.take i.toNat) a := List.length_pos_of_mem hmem
              omega
            · have := q4 j e2 haj
              rcases hq with hq | hq <;> omega
          · obtain rfl : j = i.toNat := by omega
            exact Int.le_refl _
        · simp only [Bool.or_eq_false_iff, decide_eq_false_iff_not] at hq
          rcases j4 with ⟨q1, q2⟩ | ⟨q1, q2, q3, q4⟩
          · omega
          · refine .inr ⟨by show 1 ≤ ab + 1; omega, q2, q3, fun j hj haj => ?_⟩
            have hj : (j : Int) < i + 1 := hj
            by_cases e2 : (j : Int) < i
            · exact q4 j e2 haj
            · obtain rfl : j = i.toNat := by omega
              show nx ≤ N.getD i.toNat 0
              omega
      · have hb : ¬ a < N.getD i.toNat 0 := of_decide_eq_false hb
        rw [if_neg hb] at hst
        show ab = _
        omega
      · have hb : ¬ a < N.getD i.toNat 0 := of_decide_eq_false hb
        rcases j4 with q | ⟨q1, q2, q3, q4⟩
        · exact .inl q
        · refine .inr ⟨q1, q2, q3, fun j hj haj => ?_⟩
          have hj : (j : Int) < i + 1 := hj
          by_cases e2 : (j : Int) < i
          · exact q4 j e2 haj
          · obtain rfl : j = i.toNat := by omega
            exact absurd haj hb
    · have hc : ¬ i < N.length := of_decide_eq_false hc
      rw [List.take_of_length_le (by omega)] at j3
      have hpos : 0 < abv N a := List.length_pos_of_mem (List.mem_filter.2 ⟨getD_mem (d := 0) (show s.toNat < N.length by omega), decide_eq_true ha⟩)
      rcases j4 with ⟨q1, q2⟩ | ⟨q1, q2, q3, q4⟩
      · omega
      have hnx := h nx q2
      have hnxs : nx ≤ N.getD s.toNat 0 := q4 s.toNat (by omega) ha
      have hall : ∀ c ∈ N, c ≤ ((a.toNat : Nat) : Int) ∨ ((nx.toNat : Nat) : Int) ≤ c := fun c hc' => by
        obtain ⟨j, hj, rfl⟩ := List.getElem_of_mem hc'
        by_cases q : a < N[j]
        · have := q4 j (by omega) (by rw [getD_get hj]; exact q)
          rw [getD_get hj] at this
          exact .inr (by omega)
        · exact .inl (by omega)
      have hline := W_line (N := N) (a := a.toNat) (b := nx.toNat) (by omega) hall
      have e1 : ((a.toNat : Nat) : Int) = a := by omega
      have e2 : ((nx.toNat : Nat) : Int) = nx := by omega
      rw [e1, e2, ← j3, ← i3] at hline
      have hmx : (if (1 : Int) > ab then 1 else ab) = ab := by split <;> omega
      rw [hmx]
      have hb1 := W_le N nx.toNat
      have hb2 := W_nonneg N a.toNat
      have hb3 := W_nonneg N nx.toNat
      have hb4 := W_mono N (show a.toNat ≤ nx.toNat by omega)
      rw [← i3] at hb2 hb4
      generalize (nx - a) * (27720 / ab) = add at hline ⊢
      refine ok_chk (show InR _ from ⟨by omega, by omega⟩) (ok_chk ⟨⟨by omega, by omega⟩, by omega⟩ (ok_chk (show InR _ from ⟨by omega, by omega⟩) (ok_chk (show InR _ from ⟨by omega, by omega⟩) (hnext _ ⟨by show 0 ≤ nx; omega, hnxs, hline.symm, .inr q2⟩ (abv_drop q3 N q2)))))
  · have ha : ¬ a < N.getD s.toNat 0 := of_decide_eq_false ha
    rw [i3, show a = N.getD s.toNat 0 by omega]

/-! ### Fractions -/

def gcdI (a b : Int) : Int := (Nat.gcd a.toNat b.toNat : Int)
theorem gcdI_step {a b : Int} (ha : 0 ≤ a) (hb : 0 < b) : gcdI a b = gcdI b (a % b) := by
  unfold gcdI
  have h1 : (a % b).toNat = a.toNat % b.toNat := by
    have : a % b = ((a.toNat % b.toNat : Nat) : Int) := by
      rw [Int.natCast_emod, Int.toNat_of_nonneg ha, Int.toNat_of_nonneg (Int.le_of_lt hb)]
    rw [this]; exact Int.toNat_natCast _
  rw [h1, Nat.gcd_comm b.toNat, ← Nat.gcd_rec, Nat.gcd_comm]
theorem gcdI_zero {a : Int} (ha : 0 ≤ a) : gcdI a 0 = a := by
  unfold gcdI
  simp; omega

theorem refGcdR {F : Nat} : ∀ (n : Nat) (a b : Int), 0 ≤ a → a ≤ 9223372036854775807 → 0 ≤ b → b ≤ 9223372036854775807 → b.toNat < n → ref12_gcdR F n a b = some (gcdI a b)
  | n + 1, a, b, h1, h2, h3, h4, h5 => by
    show brk (b == 0) (some a) (chk ((0 ≤ a ∧ a ≤ 9223372036854775807) ∧ 0 < b) (bnd (ref12_gcdR F n b (a % b)) fun x => some x)) = _
    by_cases hb : b = 0
    · subst hb
      rw [gcdI_zero h1]; rfl
    · rw [show (b == 0) = false by simpa using hb, brk_false, chk_pos ⟨⟨h1, h2⟩, by omega⟩]
      have hm1 := Int.emod_nonneg a hb
      have hm2 := Int.emod_lt_of_pos a (show 0 < b by omega)
      rw [refGcdR n b (a % b) h3 h4 hm1 (by omega) (by omega), bnd_so, gcdI_step h1 (by omega)]

theorem refGcd_eq {F : Nat} (hF : 30000 < F) {a : Int} (h1 : 0 ≤ a) (h2 : a ≤ 9223372036854775807) : ref12_gcd F a 27720 = some (gcdI a 27720) :=
  refGcdR F a 27720 h1 h2 (by omega) (by omega) (by show (27720 : Nat) < F; omega)

theorem gcd_pos (a : Int) : 1 ≤ gcdI a 27720 := by
  have h : 0 < Nat.gcd a.toNat 27720 := Nat.gcd_pos_of_pos_right _ (by omega)
  show (1 : Int) ≤ (Nat.gcd a.toNat 27720 : Int)
  omega

def ratioV (n : Int) : Ratio := ⟨n / gcdI n 27720, 27720 / gcdI n 27720⟩
def exactR (N : List Int) : List Ratio := (shV N).map ratioV

theorem shV_bound {N : List Int} (h : NeedsB N) : ∀ x ∈ shV N, 0 ≤ x ∧ x ≤ 27720000000000 := by
  intro x hx
  obtain ⟨c, hc, rfl⟩ := List.mem_map.1 hx
  have h1 := W_nonneg N c.toNat
  have h2 := W_le N c.toNat
  have h3 := h c hc
  omega
theorem shV_get {N : List Int} {i : Nat} (hi : i < N.length) : (shV N).getD i 0 = W N (N.getD i 0).toNat := by
  unfold shV
  rw [getD_get (by simpa using hi), List.getElem_map, getD_get hi]
theorem shV_length (N : List Int) : (shV N).length = N.length := List.length_map _

theorem Exact_eq {F : Nat} (hF : 2000000000000 < F) (N : List Int) : fees_Exact F N = some (if askedV N = 0 then (exactR N, 0) else ([], askedV N)) := by
  refine Ok.eq ?_
  unfold fees_Exact
  refine ok_bnde (asked_eq (by omega) N) (ok_brk (fun hb => ok_some ?_) (fun hb => ?_))
  · rw [if_neg (by simpa using hb)]
  have hz : askedV N = 0 := by simpa using hb
  rw [if_pos hz]
  obtain ⟨h1, h2, h3⟩ := askedV_zero hz
  refine ok_bnde (exact_ok hF h1 h2 h3) ?_
  have hsl := shV_length N
  refine ok_loop (fun x : Int × List Ratio => 0 ≤ x.1 ∧ x.1 ≤ N.length ∧ x.2 = ((shV N).take x.1.toNat).map ratioV) (fun x => N.length - x.1.toNat) ⟨by simp, by simp, rfl⟩ (by simp; omega) ?_
  rintro ⟨i, o⟩ next ⟨i1, i2, i3⟩ hn
  simp only at i1 i2 i3
  dsimp only
  rw [hsl]
  refine ok_brk (fun hc => ?_) (fun hc => ok_some ?_)
  · have hc : i < N.length := of_decide_eq_true hc
    have hi : i.toNat < (shV N).length := by omega
    have hx := shV_bound h3 _ (getD_mem (d := 0) hi)
    have htk := take_succ' (d := 0) hi
    generalize (shV N).getD i.toNat 0 = x at hx htk ⊢
    refine ok_chk ⟨i1, hc⟩ ?_
    refine ok_loop (fun y : Int × Int => 0 ≤ y.1 ∧ y.1 ≤ 27720000000000 ∧ 0 ≤ y.2 ∧ y.2 ≤ 27720 ∧ gcdI y.1 y.2 = gcdI x 27720) (fun y => y.2.toNat) ⟨hx.1, hx.2, by simp, by simp, rfl⟩ (by show (27720 : Nat) < F; omega) ?_
    rintro ⟨a, b⟩ next2 ⟨j1, j2, j3, j4, j5⟩ hn2
    simp only at j1 j2 j3 j4 j5
    dsimp only
    refine ok_brk (fun hb => ?_) (fun hb => ?_)
    · have hb : b ≠ 0 := by simpa using hb
      have hm1 := Int.emod_nonneg a hb
      have hm2 := Int.emod_lt_of_pos a (show 0 < b by omega)
      exact ok_chk ⟨⟨j1, by omega⟩, by omega⟩ (hn2 _ ⟨j3, by show b ≤ _; omega, hm1, by show a % b ≤ _; omega, by rw [← gcdI_step j1 (by omega)]; exact j5⟩ (by show (a % b).toNat < b.toNat; omega))
    · have hb : b = 0 := by simpa using hb
      subst hb
      rw [gcdI_zero j1] at j5
      have hg := gcd_pos x
      rw [← j5] at hg
      refine ok_chk ⟨⟨hx.1, by omega⟩, by omega⟩ (ok_chk ⟨⟨by omega, by omega⟩, by omega⟩ (ok_chk ?_ (ok_chk (show InR _ from ⟨by omega, by omega⟩) (hn _ ⟨by show 0 ≤ i + 1; omega, by show i + 1 ≤ _; omega, ?_⟩ (by show N.length - (i + 1).toNat < N.length - i.toNat; omega)))))
      · rw [i3]; simp; omega
      · show o ++ [(⟨x / a, 27720 / a⟩ : Ratio)] = _
        rw [show (i + 1).toNat = i.toNat + 1 by omega, htk, List.map_append, ← i3, j5]; rfl
  · have hc : ¬ i < N.length := of_decide_eq_false hc
    rw [List.take_of_length_le (by omega)] at i3
    rw [i3]; rfl

theorem refExact_eq {F : Nat} (hF : 2000000000000 < F) (N : List Int) : ref12_Exact F N = some (if askedV N = 0 then (exactR N, 0) else ([], askedV N)) := by
  refine Ok.eq ?_
  unfold ref12_Exact
  refine ok_bnde (needed_eq (by omega) N) (ok_brk (fun hb => ok_some ?_) (fun hb => ?_))
  · rw [if_neg (by simpa using hb)]
  have hz : askedV N = 0 := by simpa using hb
  rw [if_pos hz]
  obtain ⟨h1, h2, h3⟩ := askedV_zero hz
  have hsl := shV_length N
  refine ok_loop (fun x : Int × List Ratio => 0 ≤ x.1 ∧ x.1 ≤ N.length ∧ x.2 = ((shV N).take x.1.toNat).map ratioV) (fun x => N.length - x.1.toNat) ⟨by simp, by simp, rfl⟩ (by simp; omega) ?_
  rintro ⟨i, o⟩ next ⟨i1, i2, i3⟩ hn
  simp only at i1 i2 i3
  dsimp only
  refine ok_brk (fun hc => ?_) (fun hc => ok_some ?_)
  · have hc : i < N.length := of_decide_eq_true hc
    have hi : i.toNat < (shV N).length := by omega
    have hx := shV_bound h3 _ (getD_mem (d := 0) hi)
    have htk := take_succ' (d := 0) hi
    refine ok_bnde (refShare_eq (by omega) h2 h3 ⟨i1, hc⟩) ?_
    rw [shV_get (by omega)] at hx htk
    generalize W N (N.getD i.toNat 0).toNat = x at hx htk ⊢
    have hg := gcd_pos x
    refine ok_bnde (refGcd_eq (by omega) hx.1 (by omega)) (ok_chk ⟨⟨hx.1, by omega⟩, by omega⟩ (ok_chk ⟨⟨by omega, by omega⟩, by omega⟩ (ok_chk ?_ (ok_chk (show InR _ from ⟨by omega, by omega⟩) (hn _ ⟨by show 0 ≤ i + 1; omega, by show i + 1 ≤ _; omega, ?_⟩ (by show N.length - (i + 1).toNat < N.length - i.toNat; omega))))))
    · rw [i3]; simp; omega
    · show o ++ [ratioV x] = _
      rw [show (i + 1).toNat = i.toNat + 1 by omega, htk, List.map_append, ← i3]; rfl
  · have hc : ¬ i < N.length := of_decide_eq_false hc
    rw [List.take_of_length_le (by omega)] at i3
    rw [i3]; rfl
end Go.Proofs.Fe

namespace Go.Proofs.Fe
open Go Go.KX

/-- Who gets a cent more: by what is left of the exact share. -/
def rk (N : List Int) (u : Int) : Int := -((shV N).getD u.toNat 0 % 27720)
def baseV (N : List Int) : List Int := (shV N).map fun x => x / 27720
def leftV (N : List Int) (m : Int) : Int := m - sumL (baseV N)

structure ShareP (N rank : List Int) (m : Int) (o : List Int) : Prop where
  len : o.length = N.length
  sum : sumL o = m
  get : ∀ q : Nat, q < N.length → o.getD q 0 = (shV N).getD q 0 / 27720 + if (q : Int) ∈ rank.take (leftV N m).toNat then 1 else 0

theorem ShareP.one {N rank o p : List Int} {m : Int} (h : ShareP N rank m o) (h' : ShareP N rank m p) : o = p :=
  list_ext 0 (by rw [h.len, h'.len]) fun i hi => by rw [h.get i (by rw [← h.len]; exact hi), h'.get i (by rw [← h.len]; exact hi)]

theorem MaxOK.one {N : List Int} {m n : Int} (h : MaxOK N m) (h' : MaxOK N n) : m = n := by
  have h1 := h.2 _ h'.1
  have h2 := h'.2 _ h.1
  omega

theorem rem_parts : ∀ l : List Int, sumL l = 27720 * sumL (l.map fun x => x / 27720) + sumL (l.map fun x => x % 27720)
  | [] => rfl
  | x :: l => by
    have ih := rem_parts l
    simp only [List.map_cons, sumL]
    omega
theorem rem_le : ∀ l : List Int, 0 ≤ sumL (l.map fun x => x % 27720) ∧ sumL (l.map fun x => x % 27720) ≤ 27719 * l.length
  | [] => by simp [sumL]
  | x :: l => by
    have ih := rem_le l
    simp only [List.map_cons, sumL, List.length_cons]
    push_cast
    omega

theorem left_bound {N : List Int} {m : Int} (h2 : N.length ≤ 12) (h : NeedsB N) (hm : MaxOK N m) : 0 ≤ leftV N m ∧ leftV N m ≤ N.length ∧ 27720 * leftV N m = sumL ((shV N).map fun x => x % 27720) := by
  have e : sumL (shV N) = 27720 * m := shares_sum h2 (fun c hc => (h c hc).1) hm
  have p := rem_parts (shV N)
  have q := rem_le (shV N)
  rw [shV_length] at q
  unfold leftV baseV
  omega

theorem baseV_length (N : List Int) : (baseV N).length = N.length := by rw [baseV, List.length_map, shV_length]
theorem baseV_get {N : List Int} {i : Nat} (hi : i < N.length) : (baseV N).getD i 0 = (shV N).getD i 0 / 27720 := by
  have h1 : i < (shV N).length := by rw [shV_length]; exact hi
  unfold baseV
  rw [getD_get (by simpa using h1), List.getElem_map, getD_get h1]
theorem baseV_bound {N : List Int} (h : NeedsB N) : ∀ x ∈ baseV N, 0 ≤ x ∧ x ≤ 1000000000 := by
  intro x hx
  obtain ⟨c, hc, rfl⟩ := List.mem_map.1 hx
  have := shV_bound h c hc
  omega
theorem shV_getb {N : List Int} (h : NeedsB N) (i : Nat) : 0 ≤ (shV N).getD i 0 ∧ (shV N).getD i 0 ≤ 27720000000000 := by
  by_cases hi : i < (shV N).length
  · exact shV_bound h _ (getD_mem hi)
  · simp [List.getD_eq_getElem?_getD, List.getElem?_eq_none (Nat.le_of_not_lt hi)]

theorem sumL_sub {l : List Int} {B : Int} (hB : 0 ≤ B) (h : ∀ x ∈ l, 0 ≤ x ∧ x ≤ B) (hl : l.length ≤ 20) (i : Nat) : 0 ≤ sumL (l.take i) ∧ sumL (l.take i) ≤ B * 20 := by
  have h1 := sumL_nonneg (l.take i) fun x hx => (h x (List.mem_of_mem_take hx)).1
  have h2 := sumL_le (B := B) (l.take i) fun x hx => (h x (List.mem_of_mem_take hx)).2
  have h3 : (l.take i).length ≤ l.length := by rw [List.length_take]; omega
  have h4 : B * ((l.take i).length : Int) ≤ B * 20 := Int.mul_le_mul_of_nonneg_left (by omega) hB
  omega

/-- One cent more to the next one. -/
theorem share_step {N rank o : List Int} {n : Nat} (hs : Sorted (rk N) n rank) {k : Nat} (hk : k < n) (hl : o.length = n) {v : Int}
    (ho : ∀ q : Nat, q < n → o.getD q 0 = (shV N).getD q 0 / 27720 + if (q : Int) ∈ rank.take k then 1 else 0) (hv : v = o.getD (rank.getD k 0).toNat 0 + 1) :
    ∀ q : Nat, q < n → (o.set (rank.getD k 0).toNat v).getD q 0 = (shV N).getD q 0 / 27720 + if (q : Int) ∈ rank.take (k + 1) then 1 else 0 := by
  intro q hq
  have hll := hs.length
  have hm : 0 ≤ rank.getD k 0 ∧ rank.getD k 0 < n := hs.mem.1 (getD_mem (by omega))
  have htk : rank.take (k + 1) = rank.take k ++ [rank.getD k 0] := take_succ' (by omega)
  have hnew : ¬ rank.getD k 0 ∈ rank.take k := fun hx => by
    have hp : (rank.take (k + 1)).Pairwise (Lx (rk N)) := hs.pw.sublist (List.take_sublist _ _)
    rw [htk, List.pairwise_append] at hp
    exact (hp.2.2 _ hx _ (by simp)).irrefl
  rw [getD_set' (by omega), htk]
  by_cases e : (rank.getD k 0).toNat = q
  · have e2 : ((q : Nat) : Int) = rank.getD k 0 := by omega
    rw [if_pos e, if_pos (by rw [e2]; simp), hv, e, ho q hq, e2, if_neg hnew]; omega
  · rw [if_neg e, ho q hq]
    congr 1
    by_cases e2 : (q : Int) ∈ rank.take k
    · rw [if_pos e2, if_pos (List.mem_append_left _ e2)]
    · rw [if_neg e2, if_neg (fun q3 => by
        rcases List.mem_append.1 q3 with q4 | q4
        · exact e2 q4
        · have := List.mem_singleton.1 q4
          omega)]

set_option maxHeartbeats 1000000 in
theorem Share_ok {F : Nat} (hF : 2000000000000 < F) (N : List Int) : Ok (fun r : List Int × Int => (askedV N ≠ 0 ∧ r = ([], askedV N)) ∨ (askedV N = 0 ∧ r.2 = 0 ∧ ∃ m rank, MaxOK N m ∧ Sorted (rk N) N.length rank ∧ ShareP N rank m r.1)) (fees_Share F N) := by
  unfold fees_Share
  refine ok_bnde (asked_eq (by omega) N) (ok_brk (fun hb => ok_some ?_) (fun hb => ?_))
  · exact .inl ⟨by simpa using hb, rfl⟩
  have hz : askedV N = 0 := by simpa using hb
  obtain ⟨h1, h2, h⟩ := askedV_zero hz
  refine ok_bnde (exact_ok hF h1 h2 h) (ok_bnd (MaxOK N) (max_ok (by omega) (by omega) h1) fun m hm => ?_)
  obtain ⟨n, hn⟩ : ∃ n, N.length = n := ⟨_, rfl⟩
  have hsl : (shV N).length = n := by rw [shV_length, hn]
  have hmb := h m hm.1
  obtain ⟨lb1, lb2, -⟩ := left_bound h2 h hm
  rw [hn] at lb2
  rw [hsl]
  refine ok_chk ⟨by omega, by omega, by omega⟩ (ok_chk ⟨by omega, by omega, by omega⟩ ?_)
  refine ok_loop (fun x : Int × Int × List Int × List Int => 0 ≤ x.2.1 ∧ x.2.1 ≤ n ∧ x.2.2.1.length = n ∧ x.2.2.2.length = n ∧ (∀ q : Nat, (q : Int) < x.2.1 → x.2.2.1.getD q 0 = q) ∧ (∀ q : Nat, (q : Int) < x.2.1 → x.2.2.2.getD q 0 = (baseV N).getD q 0) ∧ x.1 = m - sumL ((baseV N).take x.2.1.toNat)) (fun x => n - x.2.1.toNat)
    ⟨by simp, by show (0 : Int) ≤ n; omega, by simp, by simp, fun q hq => by (have hq : (q : Int) < 0 := hq); omega, fun q hq => by (have hq : (q : Int) < 0 := hq); omega, by simp [sumL]⟩ (by simp; omega) ?_
  rintro ⟨left, i, rank, out⟩ next ⟨i1, i2, i3, i4, i5, i6, i7⟩ hnx
  simp only at i1 i2 i3 i4 i5 i6 i7
  dsimp only
  have hbl : (baseV N).length = n := by rw [baseV_length, hn]
  have hsb := fun i => sumL_sub (B := 1000000000) (by omega) (baseV_bound h) (by omega) i
  refine ok_brk (fun hc => ?_) (fun hc => ?_)
  · have hc : i < n := of_decide_eq_true hc
    have hi : i.toNat < n := by omega
    have hx := shV_getb h i.toNat
    have hg : (baseV N).getD i.toNat 0 = (shV N).getD i.toNat 0 / 27720 := baseV_get (by omega)
    have htk : sumL ((baseV N).take (i + 1).toNat) = sumL ((baseV N).take i.toNat) + (baseV N).getD i.toNat 0 := by
      rw [show (i + 1).toNat = i.toNat + 1 by omega, take_succ' (d := 0) (by omega), sumL_append]
      simp [sumL]
    have s1 := hsb i.toNat
    have hv : (out.set i.toNat ((shV N).getD i.toNat 0 / 27720)).getD i.toNat 0 = (shV N).getD i.toNat 0 / 27720 := by rw [getD_set' (by omega), if_pos rfl]
    rw [hv]
    refine ok_chk ⟨i1, hc⟩ (ok_chk ⟨hx.1, by omega⟩ (ok_chk ⟨i1, by omega⟩ (ok_chk ⟨i1, by omega⟩ (ok_chk ⟨i1, by rw [List.length_set]; omega⟩ (ok_chk (show InR _ from ⟨by omega, by omega⟩) (ok_chk (show InR _ from ⟨by omega, by omega⟩) (hnx _ ⟨by show 0 ≤ i + 1; omega, by show i + 1 ≤ n; omega, by show (rank.set _ _).length = n; rw [List.length_set]; exact i3, by show (out.set _ _).length = n; rw [List.length_set]; exact i4, fun q hq => ?_, fun q hq => ?_, ?_⟩ (by show n - (i + 1).toNat < n - i.toNat; omega))))))))
    · have hq : (q : Int) < i + 1 := hq
      show (rank.set i.toNat i).getD q 0 = q
      rw [getD_set' (by omega)]
      by_cases e : i.toNat = q
      · rw [if_pos e]; omega
      · rw [if_neg e]; exact i5 q (by omega)
    · have hq : (q : Int) < i + 1 := hq
      show (out.set i.toNat _).getD q 0 = _
      rw [getD_set' (by omega)]
      by_cases e : i.toNat = q
      · rw [if_pos e, ← e, hg]
      · rw [if_neg e]; exact i6 q (by omega)
    · show left - _ = m - sumL ((baseV N).take (i + 1).toNat)
      rw [htk, hg, i7]; omega
  have hc : ¬ i < n := of_decide_eq_false hc
  have ho : rank = upto n := tab_ext 0 i3 fun q hq => i5 q (by omega)
  have hout : out = baseV N := list_ext 0 (by omega) fun q hq => i6 q (by omega)
  rw [List.take_of_length_le (by omega)] at i7
  have hleft : left = leftV N m := i7
  clear hnx i5 i6 i7
  subst hout
  rw [ho, upto_length, hleft]
  refine ok_loop (fun x : Int × Int => x = (20, 0)) (fun _ => 0) rfl (by omega) ?_
  rintro _ next rfl hnx
  clear hnx next
  refine ok_brkF (decide_eq_false (by show ¬ (20 : Int) ≤ n; omega)) (ok_chk (show InR (0 + 1) from ⟨by omega, by omega⟩) ?_)
  refine ok_loop (fun x : Int × List Int => 1 ≤ x.1 ∧ x.1 ≤ n ∧ SortI (rk N) n x.1.toNat x.2) (fun x => n - x.1.toNat)
    ⟨by simp, by show (0 : Int) + 1 ≤ n; omega, SortI.one _ (by omega)⟩ (by simp; omega) ?_
  rintro ⟨i, l⟩ next ⟨i1, i2, i3⟩ hnx
  simp only at i1 i2 i3
  dsimp only
  refine ok_brk (fun hc => ?_) (fun hc => ?_)
  · have hc : i < n := of_decide_eq_true hc
    have hi : i.toNat < n := by omega
    have hst := i3.start hi
    refine ok_loop (fun x : Int × List Int => InsI (rk N) n i.toNat x.1 x.2) (fun x => x.1.toNat)
      (by rw [show ((i.toNat : Nat) : Int) = i by omega] at hst; exact hst) (by show i.toNat < F; omega) ?_
    rintro ⟨j, l⟩ next2 hI hn2
    simp only at hI
    dsimp only
    obtain ⟨f1, f2, f3, f4, f5⟩ := hI.facts hi
    have go : SortI (rk N) n (i.toNat + 1) l → Ok _ (chk (InR (i + 1)) (next (i + 1, l))) := fun q =>
      ok_chk (show InR _ from ⟨by omega, by omega⟩) (hnx _ ⟨by show 1 ≤ i + 1; omega, by show i + 1 ≤ n; omega, by show SortI _ n (i + 1).toNat l; rw [show (i + 1).toNat = i.toNat + 1 by omega]; exact q⟩ (by show n - (i + 1).toNat < n - i.toNat; omega))
    refine ok_brk (fun hb => ?_) (fun hb => ?_)
    · have hb : j > 0 := of_decide_eq_true hb
      have g := f5 hb
      have hv : 0 ≤ l.getD j.toNat 0 ∧ l.getD j.toNat 0 < n := by rw [f4]; omega
      have kv := shV_getb h (l.getD j.toNat 0).toNat
      have ku := shV_getb h (l.getD (j - 1).toNat 0).toNat
      refine ok_chk ⟨f2, by omega⟩ (ok_chk (show InR _ from ⟨by omega, by omega⟩) (ok_chk ⟨by omega, by omega⟩ (ok_chk ⟨g.1, by omega⟩ (ok_chk ⟨ku.1, by omega⟩ (ok_chk hv (ok_chk ⟨kv.1, by omega⟩ (ok_chk (show InR _ from ⟨by omega, by omega⟩) (ok_brk (fun hd => ?_) (fun hd => ?_)))))))))
      · have hd := of_decide_eq_true hd
        refine ok_chk (show InR _ from ⟨by omega, by omega⟩) (ok_chk (show InR _ from ⟨by omega, by omega⟩) (ok_chk ⟨by omega, by omega⟩ (ok_chk ⟨by omega, by omega⟩ (ok_chk ⟨by omega, by omega⟩ (ok_chk ⟨by omega, by rw [List.length_set]; omega⟩ (ok_chk (show InR _ from ⟨by omega, by omega⟩) (hn2 _ (hI.swap hb (by unfold rk; omega)) (by show (j - 1).toNat < j.toNat; omega))))))))
      · have hd := of_decide_eq_false hd
        refine go (hI.stop (.inr ?_))
        unfold rk
        rw [← f4]; omega
    · have hb : ¬ j > 0 := of_decide_eq_false hb
      exact go (hI.stop (.inl (by omega)))
  have hc : ¬ i < n := of_decide_eq_false hc
  have hs : Sorted (rk N) n l := SortI.done (by rw [show i.toNat = n by omega] at i3; exact i3)
  clear hnx i3
  refine ok_loop (fun x : Int => x = 20) (fun _ => 0) rfl (by omega) ?_
  rintro _ next rfl hnx
  clear hnx next
  have hll := hs.length
  refine ok_brkF (decide_eq_false (by omega)) (ok_chk ⟨by omega, lb1, by omega⟩ ?_)
  refine ok_loop (fun x : Int × List Int => 0 ≤ x.1 ∧ x.1 ≤ leftV N m ∧ x.2.length = n ∧ sumL x.2 = sumL (baseV N) + x.1 ∧ ∀ q : Nat, q < n → x.2.getD q 0 = (shV N).getD q 0 / 27720 + if (q : Int) ∈ l.take x.1.toNat then 1 else 0) (fun x => n - x.1.toNat)
    ⟨by simp, lb1, hbl, by simp, fun q hq => by
      show (baseV N).getD q 0 = _ + if (q : Int) ∈ l.take 0 then 1 else 0
      rw [baseV_get (by omega)]; simp⟩ (by simp; omega) ?_
  rintro ⟨k, o⟩ next ⟨k1, k2, k3, k4, k5⟩ hnx
  simp only at k1 k2 k3 k4 k5
  dsimp only
  refine ok_brk (fun hb => ?_) (fun hb => ok_some ?_)
  · have hb : k < leftV N m - 0 := of_decide_eq_true hb
    have hk : k.toNat < n := by omega
    rw [show (0 + k).toNat = k.toNat by omega]
    have hu : 0 ≤ l.getD k.toNat 0 ∧ l.getD k.toNat 0 < n := hs.mem.1 (getD_mem (by omega))
    have hob : 0 ≤ o.getD (l.getD k.toNat 0).toNat 0 ∧ o.getD (l.getD k.toNat 0).toNat 0 ≤ 1000000001 := by
      rw [k5 _ (by omega)]
      have := shV_getb h (l.getD k.toNat 0).toNat
      split <;> omega
    refine ok_chk ⟨k1, by omega⟩ (ok_chk ⟨hu.1, by omega⟩ (ok_chk (show InR _ from ⟨by omega, by omega⟩) (ok_chk ⟨hu.1, by omega⟩ (ok_chk (show InR _ from ⟨by omega, by omega⟩) (hnx _ ⟨by show 0 ≤ k + 1; omega, by show k + 1 ≤ leftV N m; omega, by show (o.set _ _).length = n; rw [List.length_set]; exact k3, ?_, ?_⟩ (by show n - (k + 1).toNat < n - k.toNat; omega))))))
    · show sumL (o.set _ _) = _ + (k + 1)
      rw [sumL_set _ _ _ (by omega), k4]; omega
    · show ∀ q : Nat, q < n → (o.set _ _).getD q 0 = (shV N).getD q 0 / 27720 + if (q : Int) ∈ l.take (k + 1).toNat then 1 else 0
      rw [show (k + 1).toNat = k.toNat + 1 by omega]
      exact share_step hs hk k3 k5 rfl
  · have hb : ¬ k < leftV N m - 0 := of_decide_eq_false hb
    obtain rfl : k = leftV N m := by omega
    refine .inr ⟨hz, rfl, m, l, hm, by rw [hn]; exact hs, ⟨by rw [hn]; exact k3, ?_, fun q hq => k5 q (by omega)⟩⟩
    rw [k4]; unfold leftV; omega

set_option maxHeartbeats 1000000 in
theorem refShareE_ok {F : Nat} (hF : 2000000000000 < F) (N : List Int) : Ok (fun r : List Int × Int => (askedV N ≠ 0 ∧ r = ([], askedV N)) ∨ (askedV N = 0 ∧ r.2 = 0 ∧ ∃ m, MaxOK N m ∧ ∀ rank, Sorted (rk N) N.length rank → ShareP N rank m r.1)) (ref12_Share F N) := by
  unfold ref12_Share
  refine ok_bnde (needed_eq (by omega) N) (ok_brk (fun hb => ok_some ?_) (fun hb => ?_))
  · exact .inl ⟨by simpa using hb, rfl⟩
  have hz : askedV N = 0 := by simpa using hb
  obtain ⟨h1, h2, h⟩ := askedV_zero hz
  obtain ⟨n, hn⟩ : ∃ n, N.length = n := ⟨_, rfl⟩
  have hsl : (shV N).length = n := by rw [shV_length, hn]
  have hbl : (baseV N).length = n := by rw [baseV_length, hn]
  have hsb := fun i => sumL_sub (B := 1000000000) (by omega) (baseV_bound h) (by omega) i
  rw [hn]
  refine ok_loop (fun x : Int × Int => 0 ≤ x.1 ∧ x.1 ≤ n ∧ ((x.1 = 0 ∧ x.2 = 0) ∨ x.2 ∈ N) ∧ ∀ j : Nat, (j : Int) < x.1 → N.getD j 0 ≤ x.2) (fun x => n - x.1.toNat)
    ⟨by simp, by show (0 : Int) ≤ n; omega, .inl ⟨rfl, rfl⟩, fun j hj => by (have hj : (j : Int) < 0 := hj); omega⟩ (by simp; omega) ?_
  rintro ⟨i, b⟩ next ⟨i1, i2, i3, i4⟩ hnx
  simp only at i1 i2 i3 i4
  dsimp only
  refine ok_brk (fun hc => ?_) (fun hc => ?_)
  · have hc : i < n := of_decide_eq_true hc
    refine ok_chk ⟨i1, hc⟩ (ok_chk (show InR _ from ⟨by omega, by omega⟩) (hnx _ ⟨by show 0 ≤ i + 1; omega, by show i + 1 ≤ n; omega, .inr ?_, fun j hj => ?_⟩ (by show n - (i + 1).toNat < n - i.toNat; omega)))
    · show (if N.getD i.toNat 0 > b then N.getD i.toNat 0 else b) ∈ N
      have hm : N.getD i.toNat 0 ∈ N := getD_mem (by omega)
      split
      · exact hm
      · rcases i3 with ⟨q1, q2⟩ | q
        · have := (h _ hm).1
          rw [show b = N.getD i.toNat 0 by omega]; exact hm
        · exact q
    · have hj : (j : Int) < i + 1 := hj
      show N.getD j 0 ≤ if N.getD i.toNat 0 > b then N.getD i.toNat 0 else b
      by_cases e : (j : Int) < i
      · have := i4 j e
        split <;> omega
      · obtain rfl : j = i.toNat := by omega
        split <;> omega
  have hc : ¬ i < n := of_decide_eq_false hc
  have hm : MaxOK N b := by
    refine ⟨?_, fun c hc => ?_⟩
    · rcases i3 with q | q
      · omega
      · exact q
    · obtain ⟨j, hj, rfl⟩ := List.getElem_of_mem hc
      have := i4 j (by omega)
      rwa [getD_get hj] at this
  clear hnx i3 i4
  obtain ⟨lb1, lb2, -⟩ := left_bound h2 h hm
  have hmb := h b hm.1
  refine ok_loop (fun x : List Int × Int × Int × List Int => 0 ≤ x.2.2.1 ∧ x.2.2.1 ≤ n ∧ x.1 = ((shV N).map fun x => x % 27720).take x.2.2.1.toNat ∧ x.2.2.2 = (baseV N).take x.2.2.1.toNat ∧ x.2.1 = b - sumL ((baseV N).take x.2.2.1.toNat)) (fun x => n - x.2.2.1.toNat)
    ⟨by simp, by show (0 : Int) ≤ n; omega, rfl, rfl, by simp [sumL]⟩ (by simp; omega) ?_
  rintro ⟨rm, left, i, out⟩ next ⟨i1, i2, i3, i4, i5⟩ hnx
  simp only at i1 i2 i3 i4 i5
  dsimp only
  refine ok_brk (fun hc => ?_) (fun hc => ?_)
  · have hc : i < n := of_decide_eq_true hc
    have hi : i.toNat < n := by omega
    refine ok_bnde (refShare_eq (by omega) h2 h ⟨i1, by omega⟩) ?_
    rw [← shV_get (by omega)]
    have hx := shV_getb h i.toNat
    have hg : (baseV N).getD i.toNat 0 = (shV N).getD i.toNat 0 / 27720 := baseV_get (by omega)
    have hg2 : ((shV N).map fun x => x % 27720).getD i.toNat 0 = (shV N).getD i.toNat 0 % 27720 := by
      rw [getD_get (by simpa using (by omega : i.toNat < (shV N).length)), List.getElem_map, getD_get (by omega)]
    have e1 : (baseV N).take (i + 1).toNat = (baseV N).take i.toNat ++ [(shV N).getD i.toNat 0 / 27720] := by
      rw [show (i + 1).toNat = i.toNat + 1 by omega, take_succ' (d := 0) (by omega), hg]
    have e2 : ((shV N).map fun x => x % 27720).take (i + 1).toNat = ((shV N).map fun x => x % 27720).take i.toNat ++ [(shV N).getD i.toNat 0 % 27720] := by
      rw [show (i + 1).toNat = i.toNat + 1 by omega, take_succ' (d := 0) (by simp; omega), hg2]
    have s1 := hsb i.toNat
    have l1 : rm.length ≤ n := by rw [i3]; simp; omega
    have l2 : out.length ≤ n := by rw [i4]; simp; omega
    refine ok_chk ⟨hx.1, by omega⟩ (ok_chk (by simp; omega) (ok_chk ⟨hx.1, by omega⟩ (ok_chk (by simp; omega) (ok_chk ⟨hx.1, by omega⟩ (ok_chk (show InR _ from ⟨by omega, by omega⟩) (ok_chk (show InR _ from ⟨by omega, by omega⟩) (hnx _ ⟨by show 0 ≤ i + 1; omega, by show i + 1 ≤ n; omega, ?_, ?_, ?_⟩ (by show n - (i + 1).toNat < n - i.toNat; omega))))))))
    · show rm ++ _ = _
      rw [e2, i3]
    · show out ++ _ = _
      rw [e1, i4]
    · show left - _ = b - sumL ((baseV N).take (i + 1).toNat)
      rw [e1, sumL_append, i5]; simp [sumL]; omega
  have hc : ¬ i < n := of_decide_eq_false hc
  rw [List.take_of_length_le (by simp; omega)] at i3
  rw [List.take_of_length_le (by omega)] at i4 i5
  have hleft : left = leftV N b := i5
  clear hnx i5
  subst i3 i4
  rw [hleft]
  -- for each order
  refine Ok.mono (post := fun r : List Int × Int => r.2 = 0 ∧ ∀ rank, Sorted (rk N) n rank → ShareP N rank b r.1) ?_ fun r hr => .inr ⟨hz, hr.1, b, hm, hr.2⟩
  refine ok_loop (fun x : Int × List Int × List Int => 0 ≤ x.1 ∧ x.1 ≤ leftV N b ∧ x.2.1.length = n ∧ x.2.2.length = n ∧ sumL x.2.2 = sumL (baseV N) + (leftV N b - x.1) ∧ (∀ q : Nat, q < n → 0 ≤ x.2.2.getD q 0 ∧ x.2.2.getD q 0 ≤ 1000000000 + (leftV N b - x.1)) ∧ ∀ rank, Sorted (rk N) n rank →
      (∀ q : Nat, q < n → x.2.1.getD q 0 = if (q : Int) ∈ rank.take (leftV N b - x.1).toNat then -1 else (shV N).getD q 0 % 27720) ∧
      ∀ q : Nat, q < n → x.2.2.getD q 0 = (shV N).getD q 0 / 27720 + if (q : Int) ∈ rank.take (leftV N b - x.1).toNat then 1 else 0) (fun x => x.1.toNat)
    ⟨lb1, Int.le_refl _, by simpa using hsl, hbl, by simp, fun q hq => by
      show 0 ≤ (baseV N).getD q 0 ∧ (baseV N).getD q 0 ≤ 1000000000 + (leftV N b - leftV N b)
      have := baseV_bound h _ (getD_mem (d := 0) (show q < (baseV N).length by omega))
      omega, fun rank hr => ⟨fun q hq => by
        show ((shV N).map fun x => x % 27720).getD q 0 = if (q : Int) ∈ rank.take (leftV N b - leftV N b).toNat then -1 else _
        rw [getD_get (by simpa using (by omega : q < (shV N).length)), List.getElem_map, getD_get (by omega), Int.sub_self]; simp, fun q hq => by
        show (baseV N).getD q 0 = _ + if (q : Int) ∈ rank.take (leftV N b - leftV N b).toNat then 1 else 0
        rw [baseV_get (by omega), Int.sub_self]; simp⟩⟩ (by show (leftV N b).toNat < F; omega) ?_
  rintro ⟨lf, rm, out⟩ next ⟨i1, i2, i3, i4, i5, i6, i7⟩ hnx
  simp only at i1 i2 i3 i4 i5 i6 i7
  dsimp only
  rw [i3, i4]
  refine ok_brk (fun hc => ?_) (fun hc => ok_some ⟨rfl, fun rank hr => ?_⟩)
  · have hc : lf > 0 := of_decide_eq_true hc
    refine ok_loop (fun x : Int × Int => 0 ≤ x.1 ∧ x.1 ≤ n ∧ 0 ≤ x.2 ∧ x.2 ≤ x.1 ∧ x.2 < n ∧ ∀ j : Nat, (j : Int) < x.1 → rm.getD j 0 ≤ rm.getD x.2.toNat 0 ∧ ((j : Int) < x.2 → rm.getD j 0 < rm.getD x.2.toNat 0)) (fun x => n - x.1.toNat)
      ⟨by simp, by show (0 : Int) ≤ n; omega, by simp, by simp, by show (0 : Int) < n; omega, fun j hj => by (have hj : (j : Int) < 0 := hj); omega⟩ (by simp; omega) ?_
    rintro ⟨i, y⟩ next2 ⟨j1, j2, j3, j4, j5, j6⟩ hn2
    simp only at j1 j2 j3 j4 j5 j6
    dsimp only
    refine ok_brk (fun hd => ?_) (fun hd => ?_)
    · have hd : i < n := of_decide_eq_true hd
      refine ok_join (by omega) (fun z : Int => 0 ≤ z ∧ z ≤ i + 1 ∧ z < n ∧ ∀ j : Nat, (j : Int) < i + 1 → rm.getD j 0 ≤ rm.getD z.toNat 0 ∧ ((j : Int) < z → rm.getD j 0 < rm.getD z.toNat 0)) (fun z hz => ok_chk (show InR _ from ⟨by omega, by omega⟩) (hn2 _ ⟨by show 0 ≤ i + 1; omega, by show i + 1 ≤ n; omega, hz.1, hz.2.1, hz.2.2.1, hz.2.2.2⟩ (by show n - (i + 1).toNat < n - i.toNat; omega))) fun k hk => ?_
      refine ok_chk ⟨j1, hd⟩ (ok_chk ⟨j3, j5⟩ (ok_brk (fun hb => ?_) (fun hb => ?_)))
      · have hb := of_decide_eq_true hb
        refine hk _ ⟨j1, by omega, hd, fun j hj => ?_⟩
        by_cases e : (j : Int) < i
        · have := j6 j e
          exact ⟨by omega, fun _ => by omega⟩
        · obtain rfl : j = i.toNat := by omega
          exact ⟨Int.le_refl _, fun q => by omega⟩
      · have hb := of_decide_eq_false hb
        refine hk _ ⟨j3, by omega, j5, fun j hj => ?_⟩
        by_cases e : (j : Int) < i
        · exact j6 j e
        · obtain rfl : j = i.toNat := by omega
          exact ⟨by omega, fun q => by omega⟩
    have hd : ¬ i < n := of_decide_eq_false hd
    have hob := i6 y.toNat (by omega)
    refine ok_chk ⟨j3, j5⟩ (ok_chk (show InR _ from ⟨by omega, by omega⟩) (ok_chk ⟨j3, j5⟩ (ok_chk ⟨j3, j5⟩ (ok_chk (show InR _ from ⟨by omega, by omega⟩) (hnx _ ⟨by show 0 ≤ lf - 1; omega, by show lf - 1 ≤ _; omega, by show (rm.set _ _).length = n; rw [List.length_set]; exact i3, by show (out.set _ _).length = n; rw [List.length_set]; exact i4, ?_, fun q hq => ?_, fun rank hr => ?_⟩ (by show (lf - 1).toNat < lf.toNat; omega))))))
    · show sumL (out.set _ _) = _ + (leftV N b - (lf - 1))
      rw [sumL_set _ _ _ (by omega), i5]; omega
    · show 0 ≤ (out.set _ _).getD q 0 ∧ (out.set _ _).getD q 0 ≤ 1000000000 + (leftV N b - (lf - 1))
      have := i6 q hq
      rw [getD_set' (by omega)]
      split <;> omega
    · obtain ⟨r1, r2⟩ := i7 rank hr
      have hll := hr.length
      -- it is the next one
      obtain ⟨k, hk⟩ : ∃ k : Nat, (leftV N b - lf).toNat = k := ⟨_, rfl⟩
      have hk' : (leftV N b - (lf - 1)).toNat = k + 1 := by omega
      have hkn : k < n := by omega
      rw [hk] at r1 r2
      have hy : y = rank.getD k 0 := by
        have hu : 0 ≤ rank.getD k 0 ∧ rank.getD k 0 < n := hr.mem.1 (getD_mem (by omega))
        have hnew : ¬ rank.getD k 0 ∈ rank.take k := fun hx => by
          have hp : (rank.take (k + 1)).Pairwise (Lx (rk N)) := hr.pw.sublist (List.take_sublist _ _)
          rw [take_succ' (d := 0) (by omega), List.pairwise_append] at hp
          exact (hp.2.2 _ hx _ (by simp)).irrefl
        have hru := r1 (rank.getD k 0).toNat (by omega)
        rw [show (((rank.getD k 0).toNat : Nat) : Int) = rank.getD k 0 by omega, if_neg hnew] at hru
        have hry := r1 y.toNat (by omega)
        rw [show ((y.toNat : Nat) : Int) = y by omega] at hry
        have hle := j6 (rank.getD k 0).toNat (by omega)
        rw [show (((rank.getD k 0).toNat : Nat) : Int) = rank.getD k 0 by omega] at hle
        have h0 : 0 ≤ (shV N).getD (rank.getD k 0).toNat 0 % 27720 := Int.emod_nonneg _ (by omega)
        by_cases e : y ∈ rank.take k
        · rw [if_pos e] at hry
          omega
        · rw [if_neg e] at hry
          have hym : y ∈ rank := hr.mem.2 ⟨j3, j5⟩
          rw [← List.take_append_drop k rank] at hym
          rcases List.mem_append.1 hym with q | q
          · exact absurd q e
          · rw [drop_get (d := 0) (by omega)] at q
            rcases List.mem_cons.1 q with q | q
            · exact q
            · have hp : (rank.drop k).Pairwise (Lx (rk N)) := hr.pw.sublist (List.drop_sublist _ _)
              rw [drop_get (d := 0) (by omega)] at hp
              have := (List.pairwise_cons.1 hp).1 y q
              unfold Lx rk at this
              exfalso
              rcases this with t | ⟨t1, t2⟩
              · omega
              · have := hle.2 t2
                omega
      show (∀ q : Nat, q < n → (rm.set y.toNat (-1)).getD q 0 = if (q : Int) ∈ rank.take (leftV N b - (lf - 1)).toNat then -1 else _) ∧ ∀ q : Nat, q < n → (out.set y.toNat _).getD q 0 = _ + if (q : Int) ∈ rank.take (leftV N b - (lf - 1)).toNat then 1 else 0
      rw [hk']
      refine ⟨fun q hq => ?_, ?_⟩
      · rw [getD_set' (by omega), take_succ' (d := 0) (by omega)]
        by_cases e : y.toNat = q
        · rw [if_pos e, if_pos]
          rw [← hy]; simp; omega
        · rw [if_neg e, r1 q hq]
          by_cases e2 : (q : Int) ∈ rank.take k
          · rw [if_pos e2, if_pos (List.mem_append_left _ e2)]
          · rw [if_neg e2, if_neg (fun q3 => by
              rcases List.mem_append.1 q3 with q4 | q4
              · exact e2 q4
              · have := List.mem_singleton.1 q4
                omega)]
      · subst hy
        exact share_step hr hkn i4 r2 rfl
  · have hc : ¬ lf > 0 := of_decide_eq_false hc
    obtain ⟨-, r2⟩ := i7 rank hr
    obtain rfl : lf = 0 := by omega
    rw [show leftV N b - 0 = leftV N b by omega] at r2
    exact ⟨by rw [hn]; exact i4, by rw [i5]; unfold leftV; omega, fun q hq => r2 q (by omega)⟩
end Go.Proofs.Fe

namespace Go.Proofs.Fe
open Go Go.KX

/-! ### Groups -/

def payP (b : Nat → Bool) (S : List Int) : Nat → Int
  | 0 => 0
  | i + 1 => payP b S i + if b i = true then S.getD i 0 else 0
def costP (b : Nat → Bool) (N : List Int) : Nat → Int
  | 0 => 0
  | i + 1 => if b i = true ∧ N.getD i 0 > costP b N i then N.getD i 0 else costP b N i

theorem costP_mem {b : Nat → Bool} {N : List Int} (h : ∀ i, 0 ≤ N.getD i 0) : ∀ n : Nat, 0 ≤ costP b N n ∧ (∀ i, i < n → b i = true → N.getD i 0 ≤ costP b N n) ∧ ((costP b N n = 0) ∨ ∃ i, i < n ∧ b i = true ∧ costP b N n = N.getD i 0)
  | 0 => ⟨Int.le_refl _, fun i hi => absurd hi (Nat.not_lt_zero _), .inl rfl⟩
  | n + 1 => by
    obtain ⟨h0, h1, h2⟩ := costP_mem (b := b) h n
    have hn := h n
    simp only [costP]
    by_cases q : b n = true ∧ N.getD n 0 > costP b N n
    · rw [if_pos q]
      refine ⟨hn, fun i hi hb => ?_, .inr ⟨n, by omega, q.1, rfl⟩⟩
      by_cases e : i < n
      · have := h1 i e hb; omega
      · obtain rfl : i = n := by omega
        exact Int.le_refl _
    · rw [if_neg q]
      refine ⟨h0, fun i hi hb => ?_, ?_⟩
      · by_cases e : i < n
        · exact h1 i e hb
        · obtain rfl : i = n := by omega
          have : ¬ N.getD i 0 > costP b N i := fun t => q ⟨hb, t⟩
          omega
      · rcases h2 with h2 | ⟨i, hi, h3, h4⟩
        · exact .inl h2
        · exact .inr ⟨i, by omega, h3, h4⟩

theorem payP_mono {b c : Nat → Bool} {S : List Int} (h : ∀ i, 0 ≤ S.getD i 0) : ∀ n : Nat, (∀ i, i < n → b i = true → c i = true) → payP b S n ≤ payP c S n
  | 0, _ => Int.le_refl _
  | n + 1, hb => by
    have ih := payP_mono h n fun i hi => hb i (by omega)
    have hn := h n
    simp only [payP]
    by_cases q : b n = true
    · rw [if_pos q, if_pos (hb n (by omega) q)]; omega
    · rw [if_neg q]
      split <;> omega
theorem payP_bound {b : Nat → Bool} {S : List Int} (h : ∀ i, 0 ≤ S.getD i 0 ∧ S.getD i 0 ≤ 1000000000000) : ∀ n : Nat, 0 ≤ payP b S n ∧ payP b S n ≤ 1000000000000 * n
  | 0 => by simp [payP]
  | n + 1 => by
    have ih := payP_bound (b := b) h n
    have hn := h n
    simp only [payP]
    push_cast
    split <;> omega
theorem payP_congr {b c : Nat → Bool} {S : List Int} : ∀ n : Nat, (∀ i, i < n → b i = c i) → payP b S n = payP c S n
  | 0, _ => rfl
  | n + 1, hb => by simp only [payP]; rw [payP_congr n fun i hi => hb i (by omega), hb n (by omega)]
theorem costP_congr {b c : Nat → Bool} {S : List Int} : ∀ n : Nat, (∀ i, i < n → b i = c i) → costP b S n = costP c S n
  | 0, _ => rfl
  | n + 1, hb => by simp only [costP]; rw [costP_congr n fun i hi => hb i (by omega), hb n (by omega)]
theorem payP_sum {b : Nat → Bool} {S : List Int} : ∀ n : Nat, n ≤ S.length → (∀ i, i < n → b i = true) → payP b S n = sumL (S.take n)
  | 0, _, _ => by simp [payP, sumL]
  | n + 1, hn, hb => by
    simp only [payP]
    rw [payP_sum n (by omega) fun i hi => hb i (by omega), if_pos (hb n (by omega)), take_succ' (d := 0) (by omega), sumL_append]
    simp [sumL]

/-! ### Groups as numbers -/

def bitI (s : Int) (i : Nat) : Bool := s / 2 ^ i % 2 == 1
theorem bitI_zero (s : Int) : bitI s 0 = (s % 2 == 1) := by unfold bitI; rw [Int.pow_zero, Int.ediv_one]
theorem ediv_pow_succ (s : Int) (i : Nat) : s / 2 ^ (i + 1) = s / 2 / 2 ^ i := by
  rw [Int.pow_succ, Int.mul_comm, Int.ediv_ediv_of_nonneg (by omega)]
theorem ediv_pow_succ' (s : Int) (i : Nat) : s / 2 ^ (i + 1) = s / 2 ^ i / 2 := by
  have : (0 : Int) ≤ 2 ^ i := Int.pow_nonneg (by omega)
  rw [Int.pow_succ, Int.ediv_ediv_of_nonneg this]
theorem bitI_succ (s : Int) (i : Nat) : bitI s (i + 1) = bitI (s / 2) i := by unfold bitI; rw [ediv_pow_succ]

def enc : Nat → (Nat → Bool) → Nat
  | 0, _ => 0
  | n + 1, b => (if b 0 = true then 1 else 0) + 2 * enc n fun i => b (i + 1)
theorem enc_lt : ∀ (n : Nat) (b : Nat → Bool), enc n b < 2 ^ n
  | 0, _ => by simp [enc]
  | n + 1, b => by
    have := enc_lt n fun i => b (i + 1)
    simp only [enc]
    rw [Nat.pow_succ]
    split <;> omega
theorem enc_bit : ∀ (n : Nat) (b : Nat → Bool) (i : Nat), i < n → bitI (enc n b : Int) i = b i
  | n + 1, b, 0, _ => by
    rw [bitI_zero]
    simp only [enc]
    push_cast
    by_cases q : b 0 = true
    · rw [if_pos q, q]; simp
    · rw [if_neg q]
      have : b 0 = false := by simpa using q
      rw [this]; simp
  | n + 1, b, i + 1, hi => by
    have ih := enc_bit n (fun i => b (i + 1)) i (by omega)
    rw [bitI_succ]
    rw [show ((enc (n + 1) b : Nat) : Int) / 2 = (enc n fun i => b (i + 1) : Int) by
      simp only [enc]; push_cast; split <;> omega]
    exact ih
theorem enc_pos {n : Nat} {b : Nat → Bool} {i : Nat} (hi : i < n) (hb : b i = true) : 1 ≤ enc n b := by
  rcases Nat.eq_zero_or_pos (enc n b) with h | h
  · have := enc_bit n b i hi
    rw [h, hb] at this
    simp [bitI] at this
  · exact h
theorem bits_all : ∀ (n : Nat) (i : Nat), i < n → bitI ((2 : Int) ^ n - 1) i = true
  | n + 1, 0, _ => by
    rw [bitI_zero, Int.pow_succ]; simp; try omega
  | n + 1, i + 1, hi => by
    rw [bitI_succ, Int.pow_succ, show ((2 : Int) ^ n * 2 - 1) / 2 = 2 ^ n - 1 by omega]
    exact bits_all n i (by omega)

theorem pow12 {n : Nat} (h : n ≤ 12) : (1 : Int) ≤ 2 ^ n ∧ (2 : Int) ^ n ≤ 4096 := by
  have : n = 0 ∨ n = 1 ∨ n = 2 ∨ n = 3 ∨ n = 4 ∨ n = 5 ∨ n = 6 ∨ n = 7 ∨ n = 8 ∨ n = 9 ∨ n = 10 ∨ n = 11 ∨ n = 12 := by omega
  rcases this with rfl | rfl | rfl | rfl | rfl | rfl | rfl | rfl | rfl | rfl | rfl | rfl | rfl <;> decide

/-! ### The core -/

/-- All ships with no greater need. -/
def upB (N : List Int) (m : Int) (i : Nat) : Bool := decide (N.getD i 0 ≤ m)
def GoodM (N S : List Int) (m : Int) : Prop := payP (upB N m) S N.length ≤ m ∧ (MaxOK N m → payP (upB N m) S N.length = m)
def CoreOK (N S : List Int) : Prop := ∀ m ∈ N, GoodM N S m
def GoodS (N S : List Int) (s : Int) : Prop := payP (bitI s) S N.length ≤ costP (bitI s) N N.length ∧ (s = 2 ^ N.length - 1 → payP (bitI s) S N.length = costP (bitI s) N N.length)

theorem MaxOK.exists : ∀ {N : List Int}, 1 ≤ N.length → ∃ m, MaxOK N m
  | [], h => by simp at h
  | [x], _ => ⟨x, List.mem_singleton.2 rfl, fun c hc => by rw [List.mem_singleton.1 hc]; exact Int.le_refl _⟩
  | x :: y :: l, _ => by
    obtain ⟨m, h1, h2⟩ := MaxOK.exists (N := y :: l) (by simp)
    by_cases q : x ≤ m
    · refine ⟨m, List.mem_cons_of_mem _ h1, fun c hc => ?_⟩
      rcases List.mem_cons.1 hc with rfl | hc
      · exact q
      · exact h2 c hc
    · refine ⟨x, List.mem_cons_self, fun c hc => ?_⟩
      rcases List.mem_cons.1 hc with rfl | hc
      · exact Int.le_refl _
      · have := h2 c hc; omega

theorem NeedsB.get0 {N : List Int} (h : NeedsB N) (i : Nat) : 0 ≤ N.getD i 0 := (h.get i).1

/-- What is so for those with no greater need is so for all groups. -/
theorem CoreOK.group {N S : List Int} (h : CoreOK N S) (hN : NeedsB N) (hS : NeedsB S) (b : Nat → Bool) : payP b S N.length ≤ costP b N N.length := by
  obtain ⟨h0, h1, h2⟩ := costP_mem (b := b) hN.get0 N.length
  rcases h2 with h2 | ⟨i, hi, h3, h4⟩
  · by_cases q : ∃ i, i < N.length ∧ b i = true
    · obtain ⟨i, hi, hb⟩ := q
      have h5 := h1 i hi hb
      have h6 := hN.get0 i
      have h7 : N.getD i 0 = 0 := by omega
      have h8 := (h (N.getD i 0) (getD_mem hi)).1
      have h9 := payP_mono (b := b) (c := upB N (N.getD i 0)) hS.get0 N.length fun j hj hb => decide_eq_true (by have := h1 j hj hb; omega)
      omega
    · have h9 := payP_mono (b := b) (c := fun _ => false) hS.get0 N.length fun j hj hb => absurd ⟨j, hj, hb⟩ q
      have h10 : ∀ n, payP (fun _ => false) S n = 0 := by
        intro n
        induction n with
        | zero => rfl
        | succ n ih => simp only [payP, ih]; simp
      rw [h10] at h9
      omega
  · rw [h4]
    have h8 := (h (N.getD i 0) (getD_mem hi)).1
    have h9 := payP_mono (b := b) (c := upB N (N.getD i 0)) hS.get0 N.length fun j hj hb => decide_eq_true (by have := h1 j hj hb; omega)
    omega

theorem cost_all {N : List Int} (hN : NeedsB N) {m : Int} (hm : MaxOK N m) {b : Nat → Bool} (hb : ∀ i, i < N.length → b i = true) : costP b N N.length = m := by
  obtain ⟨h0, h1, h2⟩ := costP_mem (b := b) hN.get0 N.length
  obtain ⟨i, hi, he⟩ := List.getElem_of_mem hm.1
  have h3 := h1 i hi (hb i hi)
  rw [getD_get hi, he] at h3
  rcases h2 with h2 | ⟨j, hj, _, h4⟩
  · have := hN m hm.1; omega
  · have := hm.2 _ (getD_mem (d := 0) hj)
    omega
theorem pay_all {N S : List Int} {m : Int} (hm : MaxOK N m) {b : Nat → Bool} (hb : ∀ i, i < N.length → b i = true) : payP b S N.length = payP (upB N m) S N.length :=
  payP_congr _ fun i hi => by rw [hb i hi]; exact (decide_eq_true (hm.2 _ (getD_mem hi))).symm

theorem CoreOK.sets {N S : List Int} (h : CoreOK N S) (hN : NeedsB N) (hS : NeedsB S) (h1 : 1 ≤ N.length) (s : Int) : GoodS N S s := by
  refine ⟨h.group hN hS _, fun e => ?_⟩
  obtain ⟨m, hm⟩ := MaxOK.exists h1
  have hb : ∀ i, i < N.length → bitI s i = true := fun i hi => by rw [e]; exact bits_all _ i hi
  rw [cost_all hN hm hb, pay_all hm hb]
  exact (h m hm.1).2 hm

theorem CoreOK.back {N S : List Int} (hN : NeedsB N) (h : ∀ s : Int, 1 ≤ s → s ≤ 2 ^ N.length - 1 → GoodS N S s) : CoreOK N S := by
  intro m hm
  obtain ⟨i, hi, he⟩ := List.getElem_of_mem hm
  have hb : upB N m i = true := decide_eq_true (by rw [getD_get hi, he]; exact Int.le_refl _)
  have h1 := enc_pos hi hb
  have h2 := enc_lt N.length (upB N m)
  have h2' : ((enc N.length (upB N m) : Nat) : Int) < 2 ^ N.length := by exact_mod_cast h2
  have hg := h (enc N.length (upB N m)) (by omega) (by omega)
  have e1 : payP (bitI (enc N.length (upB N m) : Int)) S N.length = payP (upB N m) S N.length := payP_congr _ fun j hj => enc_bit _ _ _ hj
  have e2 : costP (bitI (enc N.length (upB N m) : Int)) N N.length = costP (upB N m) N N.length := costP_congr _ fun j hj => enc_bit _ _ _ hj
  have e3 : costP (upB N m) N N.length = m := by
    obtain ⟨h0, c1, c2⟩ := costP_mem (b := upB N m) hN.get0 N.length
    have h3 := c1 i hi hb
    rw [getD_get hi, he] at h3
    rcases c2 with c2 | ⟨j, hj, c3, c4⟩
    · have := hN m hm; omega
    · have := of_decide_eq_true c3
      omega
  refine ⟨by have := hg.1; rw [e1, e2, e3] at this; exact this, fun hx => ?_⟩
  have p := (pow12 (n := 0) (by omega)).1
  have hs := h (2 ^ N.length - 1) (by
    have : (enc N.length (upB N m) : Int) < 2 ^ N.length := h2'
    omega) (Int.le_refl _)
  have ha : ∀ i, i < N.length → bitI (2 ^ N.length - 1) i = true := fun i hi => bits_all _ i hi
  have := hs.2 rfl
  rw [cost_all hN hx ha, pay_all hx ha] at this
  exact this

def CoreR (N S : List Int) (r : Bool × Int) : Prop :=
  (askedV N ≠ 0 ∧ r = (false, askedV N)) ∨ (askedV N = 0 ∧ S.length ≠ N.length ∧ r = (false, 1)) ∨ (askedV N = 0 ∧ S.length = N.length ∧ ¬ NeedsB S ∧ r = (false, 6)) ∨ (askedV N = 0 ∧ S.length = N.length ∧ NeedsB S ∧ r.2 = 0 ∧ (r.1 = true ↔ CoreOK N S))

theorem CoreR.one {N S : List Int} {r s : Bool × Int} (h : CoreR N S r) (h' : CoreR N S s) : r = s := by
  rcases h with ⟨a, b⟩ | ⟨a, b, c⟩ | ⟨a, b, c, d⟩ | ⟨a, b, c, d, e⟩ <;> rcases h' with ⟨a', b'⟩ | ⟨a', b', c'⟩ | ⟨a', b', c', d'⟩ | ⟨a', b', c', d', e'⟩
  · rw [b, b']
  · exact absurd a' a
  · exact absurd a' a
  · exact absurd a' a
  · exact absurd a a'
  · rw [c, c']
  · exact absurd b' b
  · exact absurd b' b
  · exact absurd a a'
  · exact absurd b b'
  · rw [d, d']
  · exact absurd c' c
  · exact absurd a a'
  · exact absurd b b'
  · exact absurd c c'
  · obtain ⟨r1, r2⟩ := r
    obtain ⟨s1, s2⟩ := s
    simp only at d e d' e'
    rw [d, d']
    congr 1
    rw [Bool.eq_iff_iff, e, e']

theorem core1_eq (F : Nat) (c : Int) : fees_Core_1 F c = some (!decide (0 ≤ c ∧ c ≤ 1000000000)) := by
  show some (!(decide (c ≥ 0) && decide (c ≤ 1000000000))) = _
  rw [wb]

theorem Core_ok {F : Nat} (hF : 2000000000000 < F) {N S : List Int} (hSl : S.length ≤ 1000) : Ok (CoreR N S) (fees_Core F N S) := by
  unfold fees_Core
  refine ok_bnde (asked_eq (by omega) N) (ok_brk (fun hb => ok_some ?_) (fun hb => ?_))
  · exact .inl ⟨by simpa using hb, rfl⟩
  have hz : askedV N = 0 := by simpa using hb
  obtain ⟨h1, h2, h⟩ := askedV_zero hz
  refine ok_brk (fun hb => ok_some ?_) (fun hb => ?_)
  · have hb : ¬ (S.length : Int) = N.length := by simpa using hb
    exact .inr (.inl ⟨hz, by omega, rfl⟩)
  have hl : S.length = N.length := by
    have hb : (S.length : Int) = N.length := by simpa using hb
    omega
  refine ok_join (by omega) (fun x : Int => (x = -1 ∧ NeedsB S) ∨ (0 ≤ x ∧ ¬ NeedsB S)) (fun x hx => ok_brk (fun hb => ok_some ?_) (fun hb => ?_)) fun k hk => ?_
  · have hb : x ≥ 0 := of_decide_eq_true hb
    rcases hx with ⟨rfl, _⟩ | ⟨_, q⟩
    · omega
    · exact .inr (.inr (.inl ⟨hz, hl, q, rfl⟩))
  · have hb : ¬ x ≥ 0 := of_decide_eq_false hb
    have hS : NeedsB S := by
      rcases hx with ⟨_, q⟩ | ⟨q, _⟩
      · exact q
      · omega
    clear hx
    obtain ⟨n, hn⟩ : ∃ n, N.length = n := ⟨_, rfl⟩
    rw [hn]
    have fin : ∀ r : Bool × Int, r.2 = 0 → (r.1 = true ↔ CoreOK N S) → CoreR N S r := fun r q1 q2 => .inr (.inr (.inr ⟨hz, hl, hS, q1, q2⟩))
    refine ok_loop (fun x : Int => 0 ≤ x ∧ x ≤ n ∧ ∀ j : Nat, (j : Int) < x → GoodM N S (N.getD j 0)) (fun x => n - x.toNat) ⟨by simp, by simp, fun j hj => by omega⟩ (by simp; omega) ?_
    rintro i next ⟨i1, i2, i3⟩ hnx
    refine ok_brk (fun hc => ?_) (fun hc => ok_some (fin _ rfl ?_))
    · have hc : i < n := of_decide_eq_true hc
      have hi : i.toNat < N.length := by omega
      refine ok_chk ⟨i1, hc⟩ ?_
      obtain ⟨m, hm⟩ : ∃ m, N.getD i.toNat 0 = m := ⟨_, rfl⟩
      rw [hm]
      have hpb := fun j => payP_bound (b := upB N m) (S := S) (fun i => ⟨(hS.get i).1, by have := (hS.get i).2; omega⟩) j
      refine ok_loop (fun x : Int × Int => 0 ≤ x.1 ∧ x.1 ≤ n ∧ x.2 = payP (upB N m) S x.1.toNat) (fun x => n - x.1.toNat) ⟨by simp, by show (0 : Int) ≤ n; omega, rfl⟩ (by simp; omega) ?_
      rintro ⟨j, pays⟩ next2 ⟨j1, j2, j3⟩ hn2
      simp only at j1 j2 j3
      dsimp only
      refine ok_brk (fun hd => ?_) (fun hd => ?_)
      · have hd : j < n := of_decide_eq_true hd
        have hst : payP (upB N m) S (j + 1).toNat = payP (upB N m) S j.toNat + if N.getD j.toNat 0 ≤ m then S.getD j.toNat 0 else 0 := by
          rw [show (j + 1).toNat = j.toNat + 1 by omega]
          simp only [payP, upB, decide_eq_true_eq]
        have b1 := hpb j.toNat
        have b2 := hpb (j + 1).toNat
        refine ok_join (by omega) (fun x : Int => x = payP (upB N m) S (j + 1).toNat) (fun x hx => ok_chk (show InR _ from ⟨by omega, by omega⟩) (hn2 _ ⟨by show 0 ≤ j + 1; omega, by show j + 1 ≤ n; omega, hx⟩ (by show n - (j + 1).toNat < n - j.toNat; omega))) fun k hk => ?_
        refine ok_chk ⟨j1, hd⟩ (ok_brk (fun he => ?_) (fun he => ?_))
        · have he := of_decide_eq_true he
          rw [if_pos he] at hst
          exact ok_chk ⟨j1, by omega⟩ (ok_chk (show InR _ from ⟨by omega, by omega⟩) (hk _ (by omega)))
        · have he := of_decide_eq_false he
          rw [if_neg he] at hst
          exact hk _ (by omega)
      · have hd : ¬ j < n := of_decide_eq_false hd
        have hp : pays = payP (upB N m) S N.length := by rw [j3, show j.toNat = N.length by omega]
        have hmem : m ∈ N := by rw [← hm]; exact getD_mem hi
        refine ok_bnd (fun mx : Int => pays > m ∨ MaxOK N mx) ?_ fun mx hmx => ok_brk (fun he => ok_some (fin _ rfl ?_)) (fun he => ?_)
        · refine ok_brk (fun he => ?_) (fun he => ok_some ?_)
          · exact (max_ok (by omega) (by omega) h1).mono fun r hr => .inr hr
          · simp only [Bool.not_eq_false', decide_eq_true_eq] at he
            exact .inl he
        · simp only [Bool.or_eq_true, Bool.and_eq_true, decide_eq_true_eq, bne_iff_ne, beq_iff_eq] at he
          refine ⟨(fun q => nomatch q), fun q => ?_⟩
          have hg := q m hmem
          unfold GoodM at hg
          rw [← hp] at hg
          rcases he with he | ⟨e1, e2⟩
          · omega
          · rcases hmx with hmx | hmx
            · omega
            · rw [← e1] at hmx
              exact absurd (hg.2 hmx) e2
        · simp only [Bool.or_eq_false_iff, Bool.and_eq_false_iff, decide_eq_false_iff_not, bne_eq_false_iff_eq, beq_eq_false_iff_ne] at he
          refine ok_chk (show InR _ from ⟨by omega, by omega⟩) (hnx _ ⟨by omega, by omega, fun q hq => ?_⟩ (by show n - (i + 1).toNat < n - i.toNat; omega))
          by_cases e : (q : Int) < i
          · exact i3 q e
          · obtain rfl : q = i.toNat := by omega
            rw [hm]
            unfold GoodM
            rw [← hp]
            refine ⟨by omega, fun hx => ?_⟩
            rcases hmx with hmx | hmx
            · omega
            · rcases he.2 with t | t
              · exact absurd (hx.one hmx) t
              · exact t
    · have hc : ¬ i < n := of_decide_eq_false hc
      refine ⟨fun _ m hm => ?_, fun _ => rfl⟩
      obtain ⟨j, hj, rfl⟩ := List.getElem_of_mem hm
      have := i3 j (by omega)
      rwa [getD_get hj] at this
  · refine ok_find (p := fun c => !decide (0 ≤ c ∧ c ≤ 1000000000)) (by omega) (by omega) (fun c _ => core1_eq F c) (fun i hi hp => hk _ (.inr ⟨by omega, fun q => nd_true hp (q _ (getD_mem hi))⟩)) (fun hp => hk _ (.inl ⟨rfl, fun c hc => nd_false (hp c hc)⟩))

theorem refCore_ok {F : Nat} (hF : 2000000000000 < F) {N S : List Int} (hSl : S.length ≤ 1000) : Ok (CoreR N S) (ref12_Core F N S) := by
  unfold ref12_Core
  refine ok_bnde (needed_eq (by omega) N) (ok_brk (fun hb => ok_some ?_) (fun hb => ?_))
  · exact .inl ⟨by simpa using hb, rfl⟩
  have hz : askedV N = 0 := by simpa using hb
  obtain ⟨h1, h2, h⟩ := askedV_zero hz
  refine ok_brk (fun hb => ok_some ?_) (fun hb => ?_)
  · have hb : ¬ (S.length : Int) = N.length := by simpa using hb
    exact .inr (.inl ⟨hz, by omega, rfl⟩)
  have hl : S.length = N.length := by
    have hb : (S.length : Int) = N.length := by simpa using hb
    omega
  obtain ⟨n, hn⟩ : ∃ n, N.length = n := ⟨_, rfl⟩
  have p12 := pow12 (n := n) (by omega)
  rw [hl, hn]
  refine ok_loop (fun x : Int => 0 ≤ x ∧ x ≤ n ∧ ∀ j : Nat, (j : Int) < x → 0 ≤ S.getD j 0 ∧ S.getD j 0 ≤ 1000000000) (fun x => n - x.toNat) ⟨by simp, by simp, fun j hj => by omega⟩ (by simp; omega) ?_
  rintro i next ⟨i1, i2, i3⟩ hnx
  refine ok_brk (fun hc => ?_) (fun hc => ?_)
  · have hc : i < n := of_decide_eq_true hc
    rw [refIn_eq, wb]
    refine ok_chk ⟨i1, hc⟩ (ok_bnde rfl (ok_brk (fun hb => ok_some ?_) (fun hb => ok_chk (show InR _ from ⟨by omega, by omega⟩) (hnx _ ⟨by omega, by omega, fun j hj => ?_⟩ (by show n - (i + 1).toNat < n - i.toNat; omega)))))
    · exact .inr (.inr (.inl ⟨hz, hl, fun q => nd_true hb (q _ (getD_mem (d := 0) (show i.toNat < S.length by omega))), rfl⟩))
    · by_cases e : (j : Int) < i
      · exact i3 j e
      · obtain rfl : j = i.toNat := by omega
        exact nd_false hb
  have hc : ¬ i < n := of_decide_eq_false hc
  have hS : NeedsB S := fun c hc => by
    obtain ⟨j, hj, rfl⟩ := List.getElem_of_mem hc
    have := i3 j (by omega)
    rwa [getD_get hj] at this
  clear hnx i3
  have fin : ∀ r : Bool × Int, r.2 = 0 → (r.1 = true ↔ CoreOK N S) → CoreR N S r := fun r q1 q2 => .inr (.inr (.inr ⟨hz, hl, hS, q1, q2⟩))
  rw [show ((n : Nat) : Int).toNat = n by omega]
  generalize hP : (2 : Int) ^ n = P at p12 ⊢
  refine ok_chk ⟨by omega, show InR _ from ⟨by omega, by omega⟩⟩ (ok_chk (show InR _ from ⟨by omega, by omega⟩) ?_)
  refine ok_loop (fun x : Int => 1 ≤ x ∧ x ≤ P ∧ ∀ s : Int, 1 ≤ s → s < x → GoodS N S s) (fun x => (P - x).toNat) ⟨by omega, by omega, fun s q1 q2 => by omega⟩ (by omega) ?_
  rintro s next ⟨s1, s2, s3⟩ hnx
  refine ok_brk (fun hd => ?_) (fun hd => ok_some (fin _ rfl ?_))
  · have hd : s ≤ 1 * P - 1 := of_decide_eq_true hd
    have hpb := fun j => payP_bound (b := bitI s) (S := S) (fun i => ⟨(hS.get i).1, by have := (hS.get i).2; omega⟩) j
    refine ok_loop (fun x : Int × Int × Int × Int => 0 ≤ x.2.2.1 ∧ x.2.2.1 ≤ n ∧ x.1 = s / 2 ^ x.2.2.1.toNat ∧ 0 ≤ x.1 ∧ x.1 ≤ s ∧ x.2.1 = payP (bitI s) S x.2.2.1.toNat ∧ x.2.2.2 = costP (bitI s) N x.2.2.1.toNat) (fun x => n - x.2.2.1.toNat)
      ⟨by simp, by show (0 : Int) ≤ n; omega, by show s = s / 2 ^ (0 : Int).toNat; simp, by show 0 ≤ s; omega, Int.le_refl _, rfl, rfl⟩ (by simp; omega) ?_
    rintro ⟨x, pays, j, cost⟩ next2 ⟨j1, j2, j3, j4, j5, j6, j7⟩ hn2
    simp only at j1 j2 j3 j4 j5 j6 j7
    dsimp only
    refine ok_brk (fun he => ?_) (fun he => ?_)
    · have he : j < n := of_decide_eq_true he
      have hbit : bitI s j.toNat = (x % 2 == 1) := by unfold bitI; rw [j3]
      have hst : payP (bitI s) S (j + 1).toNat = payP (bitI s) S j.toNat + if (x % 2 == 1) = true then S.getD j.toNat 0 else 0 := by
        rw [show (j + 1).toNat = j.toNat + 1 by omega, ← hbit]
        simp only [payP]
      have hst2 : costP (bitI s) N (j + 1).toNat = if (x % 2 == 1) = true ∧ N.getD j.toNat 0 > costP (bitI s) N j.toNat then N.getD j.toNat 0 else costP (bitI s) N j.toNat := by
        rw [show (j + 1).toNat = j.toNat + 1 by omega, ← hbit]
        simp only [costP]
      have b1 := hpb j.toNat
      have b2 := hpb (j + 1).toNat
      refine ok_join (by omega) (fun x : Int × Int => x.1 = payP (bitI s) S (j + 1).toNat ∧ x.2 = costP (bitI s) N (j + 1).toNat) (fun y hy => ok_chk ⟨j4, by omega⟩ (ok_chk (show InR _ from ⟨by omega, by omega⟩) (hn2 _ ⟨by show 0 ≤ j + 1; omega, by show j + 1 ≤ n; omega, ?_, by show 0 ≤ x / 2; omega, by show x / 2 ≤ s; omega, hy.1, hy.2⟩ (by show n - (j + 1).toNat < n - j.toNat; omega)))) fun k hk => ?_
      · show x / 2 = s / 2 ^ (j + 1).toNat
        rw [show (j + 1).toNat = j.toNat + 1 by omega, ediv_pow_succ', ← j3]
      refine ok_chk ⟨j4, by omega⟩ (ok_brk (fun hf => ?_) (fun hf => ?_))
      · rw [if_pos hf] at hst
        refine ok_chk ⟨j1, he⟩ (ok_chk (show InR _ from ⟨by omega, by omega⟩) (ok_chk ⟨j1, he⟩ (hk _ ⟨by show pays + _ = _; omega, ?_⟩)))
        show (if N.getD j.toNat 0 > cost then N.getD j.toNat 0 else cost) = _
        rw [hst2, ← j7]
        by_cases q : N.getD j.toNat 0 > cost
        · rw [if_pos q, if_pos ⟨hf, q⟩]
        · rw [if_neg q, if_neg fun t => q t.2]
      · rw [if_neg (by rw [hf]; exact Bool.false_ne_true)] at hst
        rw [if_neg (fun t => by rw [hf] at t; exact Bool.false_ne_true t.1)] at hst2
        exact hk _ ⟨by show pays = _; omega, by show cost = _; omega⟩
    · have he : ¬ j < n := of_decide_eq_false he
      have hj : j.toNat = N.length := by omega
      rw [hj] at j6 j7
      refine ok_brk (fun hf => ok_some (fin _ rfl ?_)) (fun hf => ?_)
      · simp only [Bool.or_eq_true, Bool.and_eq_true, decide_eq_true_eq, bne_iff_ne, beq_iff_eq] at hf
        refine ⟨(fun q => nomatch q), fun q => ?_⟩
        have hg := q.sets h hS h1 s
        unfold GoodS at hg
        rw [← j6, ← j7, hn, hP] at hg
        rcases hf with hf | ⟨f1, f2⟩
        · omega
        · exact absurd (hg.2 (by omega)) f2
      · simp only [Bool.or_eq_false_iff, Bool.and_eq_false_iff, decide_eq_false_iff_not, bne_eq_false_iff_eq, beq_eq_false_iff_ne] at hf
        refine ok_chk (show InR _ from ⟨by omega, by omega⟩) (hnx _ ⟨by omega, by omega, fun t t1 t2 => ?_⟩ (by omega))
        by_cases e : t < s
        · exact s3 t t1 e
        · obtain rfl : t = s := by omega
          unfold GoodS
          rw [← j6, ← j7, hn, hP]
          refine ⟨by omega, fun hx => ?_⟩
          rcases hf.2 with q | q
          · omega
          · exact q
  · have hd : ¬ s ≤ 1 * P - 1 := of_decide_eq_false hd
    exact ⟨fun _ => CoreOK.back h (fun t t1 t2 => s3 t t1 (by rw [hn, hP] at t2; omega)), fun _ => rfl⟩
end Go.Proofs.Fe

namespace Go.Proofs.Fe
open Go Go.KX

structure WantsOK (N : List Int) : Prop where
  l1 : 1 ≤ N.length
  l2 : N.length ≤ 12
  b : ∀ c ∈ N, 0 ≤ c ∧ c ≤ 1530
theorem WantsOK.needs {N : List Int} (h : WantsOK N) : NeedsB N := fun c hc => by have := h.b c hc; omega
theorem WantsOK.asked {N : List Int} (h : WantsOK N) : askedV N = 0 := askedV_ok h.l1 h.l2 h.needs

theorem wants_ok {F : Nat} (hF : 100 < F) {l : List Int} (hl : Bytes l) : Ok WantsOK (law12_wants F l) := by
  unfold law12_wants
  refine ok_next0 (by omega) hl (by omega) ?_
  intro cnt pos c1 c2 _ c4 c5
  refine ok_chk (show InR _ from ⟨by show _ ≤ 1 + cnt; omega, by show 1 + cnt ≤ _; omega⟩) ?_
  show Ok _ (loopC _ F ([], 0, pos))
  refine ok_loop (fun x : List Int × Int × Int => 0 ≤ x.2.1 ∧ x.2.1 ≤ 1 + cnt ∧ (x.1.length : Int) = x.2.1 ∧ (∀ c ∈ x.1, 0 ≤ c ∧ c ≤ 1530) ∧ 0 ≤ x.2.2 ∧ x.2.2 ≤ l.length) (fun x => (1 + cnt - x.2.1).toNat)
    ⟨by simp, by show 0 ≤ 1 + cnt; omega, rfl, fun _ h => by (cases h), c4, c5⟩ (by show (1 + cnt - 0).toNat < F; omega) ?_
  rintro ⟨cl, n, p⟩ next ⟨i1, i2, i3, i4, i5, i6⟩ hn
  simp only at i1 i2 i3 i4 i5 i6
  dsimp only
  refine ok_brk (fun hc => ?_) (fun hc => ok_some ?_)
  · have hc : n < 1 + cnt := of_decide_eq_true hc
    refine ok_next (by omega) hl i5 i6 (by omega) ?_
    intro u p1 u1 u2 _ u4 u5
    dsimp only
    refine ok_next (by omega) hl u4 u5 (by omega) ?_
    intro v p2 v1 v2 _ v4 v5
    dsimp only
    have huv : 0 ≤ u * v ∧ u * v ≤ 1530 := by
      refine ⟨Int.mul_nonneg u1 v1, ?_⟩
      have h1 : u * v ≤ 6 * v := Int.mul_le_mul_of_nonneg_right (by omega) v1
      omega
    refine ok_chk (show InR _ from ⟨by omega, by omega⟩) (ok_chk (by simp; omega) (ok_chk (show InR _ from ⟨by omega, by omega⟩) (hn _ ⟨by show 0 ≤ n + 1; omega, by show n + 1 ≤ _; omega, by simp; omega, fun c hc' => ?_, v4, v5⟩ (by show (1 + cnt - (n + 1)).toNat < (1 + cnt - n).toNat; omega))))
    simp only [List.mem_append, List.mem_singleton] at hc'
    rcases hc' with q | rfl
    · exact i4 c q
    · exact huv
  · have hc : ¬ n < 1 + cnt := of_decide_eq_false hc
    exact ⟨by show 1 ≤ cl.length; omega, by show cl.length ≤ 12; omega, i4⟩

/-! ### Fractions -/

structure RatP (x : Int) (r : Ratio) : Prop where
  d1 : 1 ≤ r.D
  d2 : r.D ≤ 27720
  n0 : 0 ≤ r.N
  n1 : r.N ≤ x
  m : 27720 % r.D = 0
  e : r.N * (27720 / r.D) = x

theorem ratio_ok {x : Int} (hx : 0 ≤ x) : RatP x (ratioV x) := by
  obtain ⟨g, hg⟩ : ∃ g, gcdI x 27720 = g := ⟨_, rfl⟩
  have h1 := gcd_pos x
  rw [hg] at h1
  have hd1 : g ∣ x := by
    rw [← hg]; unfold gcdI
    have : (Nat.gcd x.toNat 27720 : Int) ∣ (x.toNat : Int) := Int.natCast_dvd_natCast.2 (Nat.gcd_dvd_left _ _)
    rwa [Int.toNat_of_nonneg hx] at this
  have hd2 : g ∣ 27720 := by
    rw [← hg]; unfold gcdI
    exact Int.natCast_dvd_natCast.2 (Nat.gcd_dvd_right x.toNat 27720)
  obtain ⟨a, ha⟩ := hd1
  obtain ⟨b, hb⟩ := hd2
  have e1 : x / g = a := by rw [ha]; exact Int.mul_ediv_cancel_left _ (by omega)
  have e2 : (27720 : Int) / g = b := by rw [hb]; exact Int.mul_ediv_cancel_left _ (by omega)
  have hb0 : 1 ≤ b := by
    rcases Int.lt_or_le 0 b with q | q
    · omega
    · have : g * b ≤ 0 := Int.mul_nonpos_of_nonneg_of_nonpos (by omega) q
      omega
  have ha0 : 0 ≤ a := by
    rcases Int.lt_or_le a 0 with q | q
    · have : g * a < 0 := Int.mul_neg_of_pos_of_neg (by omega) q
      omega
    · exact q
  have hba : b ≤ 27720 := by
    have : 1 * b ≤ g * b := Int.mul_le_mul_of_nonneg_right h1 (by omega)
    omega
  have haa : a ≤ x := by
    have : 1 * a ≤ g * a := Int.mul_le_mul_of_nonneg_right h1 ha0
    omega
  have e3 : (27720 : Int) / b = g := by rw [hb]; exact Int.mul_ediv_cancel _ (by omega)
  have e4 : (27720 : Int) % b = 0 := by rw [hb]; exact Int.mul_emod_left _ _
  have hr : ratioV x = ⟨a, b⟩ := by unfold ratioV; rw [hg, e1, e2]
  rw [hr]
  exact ⟨hb0, hba, ha0, haa, e4, by show a * (27720 / b) = x; rw [e3, ha, Int.mul_comm]⟩

/-- Fractions are as the numbers are. -/
theorem RatP.le {x y : Int} {r s : Ratio} (h : RatP x r) (h' : RatP y s) (hxy : x ≤ y) : r.N * s.D ≤ s.N * r.D := by
  obtain ⟨g, hg⟩ : ∃ g, 27720 / r.D = g := ⟨_, rfl⟩
  obtain ⟨k, hk⟩ : ∃ k, 27720 / s.D = k := ⟨_, rfl⟩
  have e1 := h.e
  have e2 := h'.e
  rw [hg] at e1
  rw [hk] at e2
  have d1 : r.D * g = 27720 := by have := Int.mul_ediv_add_emod 27720 r.D; rw [hg, h.m] at this; omega
  have d2 : s.D * k = 27720 := by have := Int.mul_ediv_add_emod 27720 s.D; rw [hk, h'.m] at this; omega
  have hr := h.d1
  have hs := h'.d1
  have g0 : 0 < g := by
    rcases Int.lt_or_le 0 g with q | q
    · exact q
    · have : r.D * g ≤ 0 := Int.mul_nonpos_of_nonneg_of_nonpos (by omega) q
      omega
  have k0 : 0 < k := by
    rcases Int.lt_or_le 0 k with q | q
    · exact q
    · have : s.D * k ≤ 0 := Int.mul_nonpos_of_nonneg_of_nonpos (by omega) q
      omega
  have a1 : r.N * s.D * (g * k) = x * 27720 := by
    rw [← e1, ← d2]
    simp only [Int.mul_comm, Int.mul_left_comm]
  have a2 : s.N * r.D * (g * k) = y * 27720 := by
    rw [← e2, ← d1]
    simp only [Int.mul_comm, Int.mul_left_comm]
  refine Int.le_of_mul_le_mul_right (a := g * k) ?_ (Int.mul_pos g0 k0)
  rw [a1, a2]; omega

theorem exactR_length (N : List Int) : (exactR N).length = N.length := by unfold exactR; rw [List.length_map, shV_length]
theorem exactR_get {N : List Int} {i : Nat} {d : Ratio} (hi : i < N.length) : (exactR N).getD i d = ratioV ((shV N).getD i 0) := by
  unfold exactR
  rw [getD_get (by simpa [shV_length] using hi), List.getElem_map, getD_get (by rw [shV_length]; exact hi)]

theorem mulB {a b A B : Int} (h : 0 ≤ a ∧ a ≤ A) (h' : 0 ≤ b ∧ b ≤ B) : 0 ≤ a * b ∧ a * b ≤ A * B :=
  ⟨Int.mul_nonneg h.1 h'.1, Int.le_trans (Int.mul_le_mul_of_nonneg_right h.2 h'.1) (Int.mul_le_mul_of_nonneg_left h'.2 (Int.le_trans h.1 h.2))⟩

/-! ### Cents -/

theorem sumL_perm {l r : List Int} (h : l.Perm r) : sumL l = sumL r := by
  induction h with
  | nil => rfl
  | cons x _ ih => simp only [sumL]; omega
  | swap x y l => simp only [sumL]; omega
  | trans _ _ h1 h2 => omega

theorem sumL_map_le {f : Int → Int} {B : Int} : ∀ l : List Int, (∀ x ∈ l, f x ≤ B) → sumL (l.map f) ≤ B * l.length := fun l h => by
  have := sumL_le (B := B) (l.map f) fun x hx => by
    obtain ⟨y, hy, rfl⟩ := List.mem_map.1 hx
    exact h y hy
  rwa [List.length_map] at this

theorem shV_rem {N rank : List Int} (hs : Sorted (rk N) N.length rank) : sumL ((shV N).map fun x => x % 27720) = sumL (rank.map fun u => (shV N).getD u.toNat 0 % 27720) := by
  rw [sumL_perm (hs.perm.map _)]
  congr 1
  apply list_ext 0 (by simp [upto_length, shV_length])
  intro i hi
  have hi' : i < (shV N).length := by simpa using hi
  have hi'' : i < N.length := by rwa [shV_length] at hi'
  rw [getD_get hi, List.getElem_map, getD_get (l := (upto N.length).map _) (by simpa [upto_length] using hi''), List.getElem_map]
  have : (upto N.length)[i]'(by rw [upto_length]; exact hi'') = (i : Int) := by
    have := tab_get (n := N.length) (i := i) (g := fun i => (i : Int)) (d := 0) hi''
    rw [getD_get (by rw [tab_length]; exact hi'')] at this
    exact this
  rw [this, Int.toNat_natCast, getD_get hi']

/-- Shares in cents are near. -/
theorem ShareP.near {N rank o : List Int} {m : Int} (h : ShareP N rank m o) (hs : Sorted (rk N) N.length rank) (h2 : N.length ≤ 12) (hN : NeedsB N) (hm : MaxOK N m) {q : Nat} (hq : q < N.length) :
    (shV N).getD q 0 - 27720 < 27720 * o.getD q 0 ∧ 27720 * o.getD q 0 < (shV N).getD q 0 + 27720 := by
  rw [h.get q hq]
  have hb := shV_getb hN q
  by_cases e : (q : Int) ∈ rank.take (leftV N m).toNat
  · rw [if_pos e]
    have : 0 < (shV N).getD q 0 % 27720 := by
      rcases Int.lt_or_le 0 ((shV N).getD q 0 % 27720) with t | t
      · exact t
      exfalso
      obtain ⟨lb1, lb2, lb3⟩ := left_bound h2 hN hm
      obtain ⟨k, hk, he⟩ := List.mem_take_iff_getElem.1 e
      have hll := hs.length
      have hk' : k < rank.length := by omega
      rw [shV_rem hs, ← List.take_append_drop k rank, drop_get (d := 0) hk', List.map_append, sumL_append] at lb3
      have hqk : rank.getD k 0 = q := by rw [getD_get hk']; exact he
      rw [hqk, List.map_cons] at lb3
      simp only [sumL, Int.toNat_natCast] at lb3
      have s1 := sumL_map_le (B := 27719) (f := fun u => (shV N).getD u.toNat 0 % 27720) (rank.take k) fun x _ => by show _ % 27720 ≤ 27719; omega
      have s2 := sumL_map_le (B := 0) (f := fun u => (shV N).getD u.toNat 0 % 27720) (rank.drop (k + 1)) fun x hx => by
        have hp : (rank.drop k).Pairwise (Lx (rk N)) := hs.pw.sublist (List.drop_sublist _ _)
        rw [drop_get (d := 0) hk'] at hp
        have := (List.pairwise_cons.1 hp).1 x hx
        rw [hqk] at this
        unfold Lx rk at this
        rw [Int.toNat_natCast] at this
        show (shV N).getD x.toNat 0 % 27720 ≤ 0
        omega
      have hkl : (rank.take k).length = k := by rw [List.length_take]; omega
      rw [hkl] at s1
      omega
    omega
  · rw [if_neg e]; omega

theorem ShareP.bound {N rank o : List Int} {m : Int} (h : ShareP N rank m o) {B : Int} (hB : ∀ c ∈ N, 0 ≤ c ∧ c ≤ B) (q : Nat) (hq : q < N.length) : 0 ≤ o.getD q 0 ∧ o.getD q 0 ≤ B + 1 := by
  have h1 := hB _ (getD_mem (d := 0) hq)
  have h2 := W_nonneg N (N.getD q 0).toNat
  have h3 := W_le N (N.getD q 0).toNat
  rw [h.get q hq, shV_get hq]
  split <;> omega

/-! ### Groups pay at most what their own help would cost -/

theorem sel_abv {b : Nat → Bool} {t : Int} : ∀ (l : List Int) (k : Nat), abv (sel b k l) t ≤ abv l t
  | [], _ => Nat.le_refl _
  | c :: l, k => by
    have ih := sel_abv (b := b) (t := t) l (k + 1)
    unfold sel
    rw [abv_cons]
    split
    · rw [abv_cons]; omega
    · omega

theorem pay_sel {N : List Int} {b : Nat → Bool} : ∀ i : Nat, i ≤ N.length → payP b (shV N) i = sumL ((sel b 0 (N.take i)).map fun c => W N c.toNat)
  | 0, _ => by simp [payP, sel, sumL]
  | i + 1, hi => by
    have ih := pay_sel (N := N) (b := b) i (by omega)
    simp only [payP]
    rw [sel_snoc (by omega), List.map_append, sumL_append, ih, shV_get (by omega)]
    split <;> simp [sumL]

theorem group_pays {N : List Int} (h2 : N.length ≤ 12) (h : NeedsB N) (b : Nat → Bool) : payP b (shV N) N.length ≤ 27720 * costP b N N.length := by
  obtain ⟨h0, h1, -⟩ := costP_mem (b := b) h.get0 N.length
  have e := pay_sel (b := b) N.length (Nat.le_refl _)
  rw [List.take_of_length_le (Nat.le_refl _)] at e
  have hsub : ∀ c ∈ sel b 0 N, 0 ≤ c := fun c hc => (h c (sel_sub _ _ c hc)).1
  have hle : ∀ c ∈ sel b 0 N, c ≤ ((costP b N N.length).toNat : Int) := by
    have key : ∀ i, i ≤ N.length → ∀ c ∈ sel b 0 (N.take i), c ≤ costP b N N.length := by
      intro i
      induction i with
      | zero => intro _ c hc; simp [sel] at hc
      | succ i ih =>
        intro hi c hc
        rw [sel_snoc (by omega)] at hc
        rcases List.mem_append.1 hc with q | q
        · exact ih (by omega) c q
        · by_cases hb : b i = true
          · rw [if_pos hb] at q
            rw [List.mem_singleton.1 q]
            exact h1 i (by omega) hb
          · rw [if_neg hb] at q; cases q
    intro c hc
    have := key N.length (Nat.le_refl _) c (by rw [List.take_of_length_le (Nat.le_refl _)]; exact hc)
    omega
  have := GS_part (N := N) (P := sel b 0 N) h2 hsub (fun t => sel_abv N 0) (costP b N N.length).toNat
  rw [GS_top hle, ← e] at this
  omega

theorem payP_scale {b : Nat → Bool} {S T : List Int} {c : Int} : ∀ n : Nat, (∀ i, i < n → c * S.getD i 0 = T.getD i 0) → c * payP b S n = payP b T n
  | 0, _ => by simp [payP]
  | n + 1, h => by
    have ih := payP_scale (b := b) n fun i hi => h i (by omega)
    simp only [payP]
    rw [Int.mul_add, ih]
    split
    · rw [h n (by omega)]
    · simp

/-- Exact shares that are whole are in the core. -/
theorem whole_core {N o : List Int} {m : Int} (h2 : N.length ≤ 12) (h : NeedsB N) (hm : MaxOK N m) (hl : o.length = N.length) (hs : sumL o = m) (ho : ∀ q : Nat, q < N.length → 27720 * o.getD q 0 = (shV N).getD q 0) : CoreOK N o := by
  intro c hc
  obtain ⟨i, hi, he⟩ := List.getElem_of_mem hc
  refine ⟨?_, fun hx => ?_⟩
  · have h1 := group_pays h2 h (upB N c)
    rw [← payP_scale N.length ho] at h1
    obtain ⟨h0, c1, c2⟩ := costP_mem (b := upB N c) h.get0 N.length
    have h3 : costP (upB N c) N N.length ≤ c := by
      rcases c2 with c2 | ⟨j, hj, c3, c4⟩
      · have := h c hc; omega
      · have := of_decide_eq_true c3
        omega
    omega
  · rw [payP_sum (b := upB N c) (S := o) N.length (by omega) (fun i hi => decide_eq_true (hx.2 _ (getD_mem hi))), ← hl, List.take_of_length_le (Nat.le_refl _), hs]
    exact hm.one hx
end Go.Proofs.Fe

namespace Go.Proofs.Fe
open Go Go.KX

theorem fdiv_bit {s : Int} {i : Nat} : (s.fdiv (2 ^ i) % 2 == 1) = bitI s i := by
  unfold bitI
  rw [Int.fdiv_eq_ediv_of_nonneg _ (Int.pow_nonneg (by omega))]

set_option maxHeartbeats 2000000 in
theorem feesCore_ok' {F : Nat} (hF : F = 1000000000000000) (l : List Int) (gr : Int) (hl : Bytes l) : law12_FeesCore F l gr = some true := by
  have haw : law12_awake F = some true := by rw [hF]; exact awake_eq
  refine Ok.eq ?_
  unfold law12_FeesCore
  rw [haw]
  refine ok_bnd _ (wants_ok (by omega) hl) fun N hW => ?_
  have hz := hW.asked
  have h := hW.needs
  have h1 := hW.l1
  have h2 := hW.l2
  have hb := hW.b
  refine ok_bnde (Exact_eq (by omega) N) ?_
  rw [if_pos hz]
  refine ok_bnd _ (Share_ok (by omega) N) ?_
  rintro ⟨o, e⟩ hsh
  rcases hsh with ⟨q, _⟩ | ⟨_, q2, m, rank, hm, hs, hP⟩
  · exact absurd hz q
  simp only at q2 hP
  subst q2
  obtain ⟨n, hn⟩ : ∃ n, N.length = n := ⟨_, rfl⟩
  have hxl : (exactR N).length = n := by rw [exactR_length, hn]
  have hol : o.length = n := by rw [hP.len, hn]
  dsimp only
  rw [hxl, hol, hn]
  refine ok_brkF (by simp) ?_
  have hsl : (shV N).length = n := by rw [shV_length, hn]
  have shb : ∀ i : Nat, 0 ≤ (shV N).getD i 0 ∧ (shV N).getD i 0 ≤ 42411600 := fun i => by
    by_cases hi : i < N.length
    · rw [shV_get hi]
      have := hb _ (getD_mem (d := 0) hi)
      have := W_nonneg N (N.getD i 0).toNat
      have := W_le N (N.getD i 0).toNat
      omega
    · simp [List.getD_eq_getElem?_getD, List.getElem?_eq_none (Nat.le_of_not_lt (show ¬ i < (shV N).length by omega))]
  have rat : ∀ i : Nat, i < n → RatP ((shV N).getD i 0) ((exactR N).getD i ⟨0, 0⟩) := fun i hi => by
    rw [exactR_get (by omega)]
    exact ratio_ok (shb i).1
  have ob := fun q hq => hP.bound hb q hq
  have near := fun q hq => hP.near hs h2 h hm (q := q) hq
  have pb := fun j => payP_bound (b := bitI gr) (S := shV N) (fun i => ⟨(shb i).1, by have := (shb i).2; omega⟩) j
  have sb := fun j => sumL_sub (l := shV N) (B := 42411600) (by omega) (fun x hx => by
    obtain ⟨i, hi, rfl⟩ := List.getElem_of_mem hx
    have := shb i
    rwa [getD_get hi] at this) (by omega) j
  have cb := fun j => sumL_sub (l := o) (B := 1531) (by omega) (fun x hx => by
    obtain ⟨i, hi, rfl⟩ := List.getElem_of_mem hx
    have := ob i (by omega)
    rw [getD_get hi] at this
    omega) (by omega) j
  have kb : ∀ j : Nat, 0 ≤ costP (bitI gr) N j ∧ costP (bitI gr) N j ≤ 1530 := fun j => by
    obtain ⟨c0, -, c2⟩ := costP_mem (b := bitI gr) h.get0 j
    refine ⟨c0, ?_⟩
    rcases c2 with c2 | ⟨i, hi, -, c4⟩
    · omega
    · rw [c4]
      by_cases q : i < N.length
      · exact (hb _ (getD_mem q)).2
      · simp [List.getD_eq_getElem?_getD, List.getElem?_eq_none (Nat.le_of_not_lt q)]
  refine ok_loop (fun x : Int × Int × Bool × Int × Int × Int => 0 ≤ x.2.2.2.1 ∧ x.2.2.2.1 ≤ n ∧ x.1 = sumL ((shV N).take x.2.2.2.1.toNat) ∧ x.2.1 = payP (bitI gr) (shV N) x.2.2.2.1.toNat ∧ (x.2.2.1 = true → ∀ j : Nat, (j : Int) < x.2.2.2.1 → ((exactR N).getD j ⟨0, 0⟩).D = 1) ∧ x.2.2.2.2.1 = sumL (o.take x.2.2.2.1.toNat) ∧ x.2.2.2.2.2 = costP (bitI gr) N x.2.2.2.1.toNat) (fun x => n - x.2.2.2.1.toNat)
    ⟨by simp, by show (0 : Int) ≤ n; omega, by simp [sumL], rfl, fun _ j hj => by (have hj : (j : Int) < 0 := hj); omega, by simp [sumL], rfl⟩ (by simp; omega) ?_
  rintro ⟨total, pays, whole, i, tog, cost⟩ next ⟨i1, i2, i3, i4, i5, i6, i7⟩ hnx
  simp only at i1 i2 i3 i4 i5 i6 i7
  dsimp only
  refine ok_brk (fun hc => ?_) (fun hc => ?_)
  · have hc : i < n := of_decide_eq_true hc
    have hi : i.toNat < n := by omega
    have hX := rat i.toNat hi
    have hs' := shb i.toNat
    have hob := ob i.toNat (by omega)
    have hne := near i.toNat (by omega)
    have st1 : sumL ((shV N).take (i + 1).toNat) = sumL ((shV N).take i.toNat) + (shV N).getD i.toNat 0 := by
      rw [show (i + 1).toNat = i.toNat + 1 by omega, take_succ' (d := 0) (by omega), sumL_append]
      simp [sumL]
    have st2 : sumL (o.take (i + 1).toNat) = sumL (o.take i.toNat) + o.getD i.toNat 0 := by
      rw [show (i + 1).toNat = i.toNat + 1 by omega, take_succ' (d := 0) (by omega), sumL_append]
      simp [sumL]
    have st3 : payP (bitI gr) (shV N) (i + 1).toNat = payP (bitI gr) (shV N) i.toNat + if bitI gr i.toNat = true then (shV N).getD i.toNat 0 else 0 := by
      rw [show (i + 1).toNat = i.toNat + 1 by omega]
      simp only [payP]
    have st4 : costP (bitI gr) N (i + 1).toNat = if bitI gr i.toNat = true ∧ N.getD i.toNat 0 > costP (bitI gr) N i.toNat then N.getD i.toNat 0 else costP (bitI gr) N i.toNat := by
      rw [show (i + 1).toNat = i.toNat + 1 by omega]
      simp only [costP]
    have sb1 := sb i.toNat
    have sb2 := sb (i + 1).toNat
    have cb1 := cb i.toNat
    have cb2 := cb (i + 1).toNat
    have pb1 := pb i.toNat
    have pb2 := pb (i + 1).toNat
    generalize hXe : (exactR N).getD i.toNat ⟨0, 0⟩ = X at hX ⊢
    have hXe' : ∀ j : Nat, (j : Int) < i + 1 → ¬ (j : Int) < i → (exactR N).getD j ⟨0, 0⟩ = X := fun j q1 q2 => by rw [← hXe]; congr 1; omega
    have hd1 := hX.d1
    have hd2 := hX.d2
    have hn0 := hX.n0
    have hn1 := hX.n1
    refine ok_chk ⟨i1, hc⟩ (ok_chk (fun _ => ⟨⟨by omega, by omega⟩, by omega⟩) (ok_brkF (by
      simp only [Bool.or_eq_false_iff, decide_eq_false_iff_not, bne_eq_false_iff_eq]
      exact ⟨⟨by omega, hX.m⟩, by omega⟩) (ok_chk ⟨⟨by omega, by omega⟩, by omega⟩ ?_)))
    rw [hX.e]
    generalize hsg : (shV N).getD i.toNat 0 = s at *
    generalize hog : o.getD i.toNat 0 = ci at *
    refine ok_chk (show InR _ from ⟨by omega, by omega⟩) (ok_chk (show InR _ from ⟨by omega, by omega⟩) (ok_chk ⟨i1, hc⟩ (ok_chk (show InR _ from ⟨by omega, by omega⟩) ?_)))
    refine ok_join (by omega) (fun y : Int × Int => y.1 = payP (bitI gr) (shV N) (i + 1).toNat ∧ y.2 = costP (bitI gr) N (i + 1).toNat) (fun y hy => ?_) fun k hk => ?_
    · refine ok_chk ⟨i1, hc⟩ (ok_chk (show InR _ from ⟨by omega, by omega⟩) (ok_chk (show InR _ from ⟨by omega, by omega⟩) (ok_chk (fun _ => ⟨i1, hc⟩) (ok_chk (fun _ => show InR _ from ⟨by omega, by omega⟩) (ok_chk (fun _ => show InR _ from ⟨by omega, by omega⟩) (ok_brkF (by
        simp only [Bool.or_eq_false_iff, decide_eq_false_iff_not]; omega) (ok_chk ⟨by omega, i1, by omega⟩ ?_)))))))
      refine ok_loop (fun x : Int => 0 ≤ x ∧ x ≤ i) (fun x => n - x.toNat) ⟨by simp, by show (0 : Int) ≤ i; omega⟩ (by simp; omega) ?_
      rintro k next2 ⟨k1, k2⟩ hn2
      refine ok_brk (fun hd => ?_) (fun hd => ?_)
      · have hd : k < i - 0 := of_decide_eq_true hd
        have hY := rat k.toNat (by omega)
        have hs'' := shb k.toNat
        rw [show (0 + k).toNat = k.toNat by omega]
        have heq : N.getD i.toNat 0 = N.getD k.toNat 0 → X = (exactR N).getD k.toNat ⟨0, 0⟩ := fun q => by
          rw [← hXe, exactR_get (by omega), exactR_get (by omega), shV_get (by omega), shV_get (by omega), q]
        have hle1 : N.getD i.toNat 0 ≤ N.getD k.toNat 0 → s ≤ (shV N).getD k.toNat 0 := fun q => by
          rw [← hsg, shV_get (by omega), shV_get (by omega)]
          exact W_mono N (by omega)
        have hle2 : N.getD k.toNat 0 ≤ N.getD i.toNat 0 → (shV N).getD k.toNat 0 ≤ s := fun q => by
          rw [← hsg, shV_get (by omega), shV_get (by omega)]
          exact W_mono N (by omega)
        generalize (exactR N).getD k.toNat ⟨0, 0⟩ = Y at hY heq ⊢
        generalize (shV N).getD k.toNat 0 = t at hY hs'' hle1 hle2
        have yd1 := hY.d1
        have yd2 := hY.d2
        have yn0 := hY.n0
        have yn1 := hY.n1
        have b1 : InR (X.N * Y.D) := by
          have := mulB (a := X.N) (b := Y.D) (A := 42411600) (B := 27720) ⟨by omega, by omega⟩ ⟨by omega, by omega⟩
          exact ⟨by omega, by omega⟩
        have b2 : InR (Y.N * X.D) := by
          have := mulB (a := Y.N) (b := X.D) (A := 42411600) (B := 27720) ⟨by omega, by omega⟩ ⟨by omega, by omega⟩
          exact ⟨by omega, by omega⟩
        have c1 : N.getD k.toNat 0 ≤ N.getD i.toNat 0 → ¬ X.N * Y.D < Y.N * X.D := fun q => by have := hY.le hX (hle2 q); omega
        have c2 : N.getD i.toNat 0 ≤ N.getD k.toNat 0 → ¬ X.N * Y.D > Y.N * X.D := fun q => by have := hX.le hY (hle1 q); omega
        generalize X.N * Y.D = u at b1 c1 c2 ⊢
        generalize Y.N * X.D = v at b2 c1 c2 ⊢
        refine ok_chk ⟨k1, hd⟩ (ok_chk (fun _ => ⟨i1, hc⟩) (ok_chk (fun _ => ⟨k1, by omega⟩) (ok_chk (fun _ => ⟨i1, hc⟩) (ok_chk (fun _ => ⟨k1, by omega⟩) (ok_chk (fun _ => b1) (ok_chk (fun _ => b2) (ok_chk (fun _ => ⟨i1, hc⟩) (ok_chk (fun _ => ⟨k1, by omega⟩) (ok_chk (fun _ => b1) (ok_chk (fun _ => b2) (ok_brkF ?_ (ok_chk (show InR _ from ⟨by omega, by omega⟩) (hn2 _ ⟨by omega, by omega⟩ (by show n - (k + 1).toNat < n - k.toNat; omega))))))))))))))
        rw [decide_eq_false (show ¬ Y.D < 1 by omega), Bool.false_or]
        rcases Int.lt_trichotomy (N.getD i.toNat 0) (N.getD k.toNat 0) with q | q | q
        · rw [show (N.getD i.toNat 0 == N.getD k.toNat 0) = false from beq_eq_false_iff_ne.2 (by omega), decide_eq_false (show ¬ N.getD i.toNat 0 > N.getD k.toNat 0 by omega), decide_eq_false (c2 (by omega))]; simp
        · rw [decide_eq_false (show ¬ N.getD i.toNat 0 > N.getD k.toNat 0 by omega), decide_eq_false (show ¬ N.getD i.toNat 0 < N.getD k.toNat 0 by omega), ← heq q]; simp
        · rw [show (N.getD i.toNat 0 == N.getD k.toNat 0) = false from beq_eq_false_iff_ne.2 (by omega), decide_eq_false (show ¬ N.getD i.toNat 0 < N.getD k.toNat 0 by omega), decide_eq_false (c1 (by omega))]; simp
      · refine ok_chk (show InR _ from ⟨by omega, by omega⟩) (hnx _ ⟨by show 0 ≤ i + 1; omega, by show i + 1 ≤ n; omega, by show total + s = sumL ((shV N).take (i + 1).toNat); omega, hy.1, fun hw j hj => ?_, by show tog + ci = sumL (o.take (i + 1).toNat); omega, hy.2⟩ (by show n - (i + 1).toNat < n - i.toNat; omega))
        have hw : (whole && X.D == 1) = true := hw
        simp only [Bool.and_eq_true, beq_iff_eq] at hw
        by_cases q : (j : Int) < i
        · exact i5 hw.1 j q
        · rw [hXe' j hj q]; exact hw.2
    · refine ok_chk ⟨i1, by show i ≤ (16 : Int); omega⟩ (ok_brk (fun hf => ?_) (fun hf => ?_))
      · rw [fdiv_bit] at hf
        rw [if_pos hf] at st3
        refine ok_chk (show InR _ from ⟨by omega, by omega⟩) (ok_chk ⟨i1, hc⟩ (hk _ ⟨by show pays + s = _; omega, ?_⟩))
        show (if N.getD i.toNat 0 > cost then N.getD i.toNat 0 else cost) = _
        rw [st4, ← i7]
        by_cases q : N.getD i.toNat 0 > cost
        · rw [if_pos q, if_pos ⟨hf, q⟩]
        · rw [if_neg q, if_neg fun t => q t.2]
      · rw [fdiv_bit] at hf
        rw [if_neg (by rw [hf]; exact Bool.false_ne_true)] at st3
        rw [if_neg (fun t => by rw [hf] at t; exact Bool.false_ne_true t.1)] at st4
        exact hk _ ⟨by show pays = _; omega, by show cost = _; omega⟩
  · have hc : ¬ i < n := of_decide_eq_false hc
    have hi : i.toNat = N.length := by omega
    rw [hi] at i3 i4 i6 i7
    rw [List.take_of_length_le (by omega)] at i3 i6
    refine ok_bnd (MaxOK N) (max_ok (by omega) (by omega) h1) fun mx hmx => ?_
    obtain rfl := hmx.one hm
    have hmb := hb _ hm.1
    have et : total = 27720 * mx := by rw [i3]; exact shares_sum h2 (fun c hc => (h c hc).1) hm
    have eg : tog = mx := by rw [i6]; exact hP.sum
    have gp := group_pays h2 h (bitI gr)
    rw [← i4, ← i7] at gp
    have kb1 := kb N.length
    rw [← i7] at kb1
    refine ok_chk (show InR _ from ⟨by omega, by omega⟩) (ok_chk (fun _ => show InR _ from ⟨by omega, by omega⟩) (ok_brkF (by
      simp only [Bool.or_eq_false_iff, decide_eq_false_iff_not, bne_eq_false_iff_eq]
      exact ⟨⟨et, eg⟩, by omega⟩) ?_))
    refine ok_join (by omega) (fun _ : PUnit => True) (fun _ _ => ok_bnde rfl (ok_some rfl)) fun k hk => ?_
    refine ok_brk (fun hw => ?_) (fun _ => hk _ trivial)
    have hD := i5 hw
    have hoS : NeedsB o := fun c hc => by
      obtain ⟨j, hj, rfl⟩ := List.getElem_of_mem hc
      have := ob j (by omega)
      rw [getD_get hj] at this
      omega
    have hcore : CoreOK N o := whole_core h2 h hm hP.len hP.sum fun q hq => by
      have r := rat q (by omega)
      have d := hD q (by omega)
      have e := r.e
      rw [d, Int.ediv_one] at e
      have := near q hq
      omega
    refine ok_bnd _ (Core_ok (by omega) (by omega)) fun r hr => ok_brkF ?_ (hk _ trivial)
    rcases hr with ⟨q, _⟩ | ⟨_, q, _⟩ | ⟨_, _, q, _⟩ | ⟨_, _, _, q1, q2⟩
    · exact absurd hz q
    · exact absurd hP.len q
    · exact absurd hoS q
    · rw [q1, q2.2 hcore]; rfl
theorem feesCore_ok {l : List Int} {g : Int} (h0 : (∀ y ∈ l, 0 ≤ y ∧ y ≤ 255) ∧ l.length ≤ 9223372036854775807) {P : Prop} (_ : P) : law12_FeesCore 1000000000000000 l g = some true := feesCore_ok' rfl l g ⟨h0.1, h0.2⟩
end Go.Proofs.Fe

namespace Go.Proofs.Fe
open Go Go.KX

/-- What a group pays, and what its help costs, one ship after the other. -/
theorem ok_group {α : Type} {post : α → Prop} {F : Nat} (hF : 100 < F) {N S : List Int} {n : Nat} {s : Int} {exit : Int × Int × Int → Option α} (hn : N.length = n) (hl : S.length = n) (h2 : n ≤ 12) (hS : NeedsB S)
    (he : Ok post (exit ((n : Int), payP (bitI s) S n, costP (bitI s) N n))) :
    Ok post (loopC (fun x : Int × Int × Int => fun next => brk (decide (x.1 < (n : Int))) (join F (fun y : Int × Int => chk (InR (x.1 + 1)) (next (x.1 + 1, y.1, y.2))) (fun k => chk (0 ≤ x.1 ∧ x.1 < (n : Int)) (chk (0 ≤ x.1 ∧ x.1 ≤ ((IntKind.i64.bits : Nat) : Int)) (brk (s.fdiv (2 ^ x.1.toNat) % 2 == 1) (chk (0 ≤ x.1 ∧ x.1 < (n : Int)) (chk (InR (x.2.1 + S.getD x.1.toNat 0)) (k (x.2.1 + S.getD x.1.toNat 0, if N.getD x.1.toNat 0 > x.2.2 then N.getD x.1.toNat 0 else x.2.2)))) (k (x.2.1, x.2.2)))))) (exit x)) F (0, 0, 0)) := by
  have pb := fun j => payP_bound (b := bitI s) (S := S) (fun i => ⟨(hS.get i).1, by have := (hS.get i).2; omega⟩) j
  refine ok_loop (fun x : Int × Int × Int => 0 ≤ x.1 ∧ x.1 ≤ n ∧ x.2.1 = payP (bitI s) S x.1.toNat ∧ x.2.2 = costP (bitI s) N x.1.toNat) (fun x => n - x.1.toNat) ⟨by simp, by show (0 : Int) ≤ n; omega, rfl, rfl⟩ (by simp; omega) ?_
  rintro ⟨i, pays, cost⟩ next ⟨i1, i2, i4, i7⟩ hnx
  simp only at i1 i2 i4 i7
  dsimp only
  refine ok_brk (fun hc => ?_) (fun hc => ?_)
  · have hc : i < n := of_decide_eq_true hc
    have st3 : payP (bitI s) S (i + 1).toNat = payP (bitI s) S i.toNat + if bitI s i.toNat = true then S.getD i.toNat 0 else 0 := by
      rw [show (i + 1).toNat = i.toNat + 1 by omega]
      simp only [payP]
    have st4 : costP (bitI s) N (i + 1).toNat = if bitI s i.toNat = true ∧ N.getD i.toNat 0 > costP (bitI s) N i.toNat then N.getD i.toNat 0 else costP (bitI s) N i.toNat := by
      rw [show (i + 1).toNat = i.toNat + 1 by omega]
      simp only [costP]
    have pb1 := pb i.toNat
    have pb2 := pb (i + 1).toNat
    have hb := hS.get i.toNat
    refine ok_join (by omega) (fun y : Int × Int => y.1 = payP (bitI s) S (i + 1).toNat ∧ y.2 = costP (bitI s) N (i + 1).toNat) (fun y hy => ok_chk (show InR _ from ⟨by omega, by omega⟩) (hnx _ ⟨by show 0 ≤ i + 1; omega, by show i + 1 ≤ n; omega, hy.1, hy.2⟩ (by show n - (i + 1).toNat < n - i.toNat; omega))) fun k hk => ?_
    refine ok_chk ⟨i1, hc⟩ (ok_chk ⟨i1, by show i ≤ (64 : Int); omega⟩ (ok_brk (fun hf => ?_) (fun hf => ?_)))
    · rw [fdiv_bit] at hf
      rw [if_pos hf] at st3
      refine ok_chk ⟨i1, hc⟩ (ok_chk (show InR _ from ⟨by omega, by omega⟩) (hk _ ⟨by show pays + _ = _; omega, ?_⟩))
      show (if N.getD i.toNat 0 > cost then N.getD i.toNat 0 else cost) = _
      rw [st4, ← i7]
      by_cases q : N.getD i.toNat 0 > cost
      · rw [if_pos q, if_pos ⟨hf, q⟩]
      · rw [if_neg q, if_neg fun t => q t.2]
    · rw [fdiv_bit] at hf
      rw [if_neg (by rw [hf]; exact Bool.false_ne_true)] at st3
      rw [if_neg (fun t => by rw [hf] at t; exact Bool.false_ne_true t.1)] at st4
      exact hk _ ⟨by show pays = _; omega, by show cost = _; omega⟩
  · have hc : ¬ i < n := of_decide_eq_false hc
    obtain rfl : i = n := by omega
    rw [i4, i7, Int.toNat_natCast]
    exact he

structure ShrOK (n : Nat) (B : Int) (S : List Int) : Prop where
  l : S.length = n
  b : ∀ q : Nat, q < n → 0 ≤ S.getD q 0 ∧ S.getD q 0 ≤ B

set_option maxHeartbeats 2000000 in
theorem feesAsked_ok' {F : Nat} (hF : F = 1000000000000000) (l by' : List Int) (gr : Int) (hl : Bytes l) (hby : Bytes by') (hg : 0 ≤ gr ∧ gr ≤ 65535) : law12_FeesAsked F l by' gr = some true := by
  have haw : law12_awake F = some true := by rw [hF]; exact awake_eq
  refine Ok.eq ?_
  unfold law12_FeesAsked
  rw [haw]
  refine ok_bnd _ (wants_ok (by omega) hl) fun N hW => ?_
  have hz := hW.asked
  have h := hW.needs
  have h1 := hW.l1
  have h2 := hW.l2
  have hb := hW.b
  refine ok_bnd _ (Share_ok (by omega) N) ?_
  rintro ⟨o, e⟩ hsh
  rcases hsh with ⟨q, _⟩ | ⟨_, q2, m, rank, hm, hs, hP⟩
  · exact absurd hz q
  simp only at q2 hP
  subst q2
  obtain ⟨n, hn⟩ : ∃ n, N.length = n := ⟨_, rfl⟩
  have hol : o.length = n := by rw [hP.len, hn]
  dsimp only
  rw [hol, hn]
  refine ok_brkF (by simp) ?_
  refine ok_next0 (by omega) hby (by omega) ?_
  intro cnt pos c1 c2 _ c4 c5
  dsimp only
  refine ok_loop (fun x : Int × Int × List Int => 0 ≤ x.1 ∧ x.1 ≤ cnt ∧ 0 ≤ x.2.1 ∧ x.2.1 ≤ by'.length ∧ ShrOK n (2000 + 20 * x.1) x.2.2) (fun x => (cnt - x.1).toNat)
    ⟨by simp, c1, c4, c5, ⟨hol, fun q hq => by have := hP.bound hb q (by omega); show 0 ≤ o.getD q 0 ∧ o.getD q 0 ≤ 2000 + 20 * 0; omega⟩⟩ (by show (cnt - 0).toNat < F; omega) ?_
  rintro ⟨i, p, S⟩ next ⟨i1, i2, i3, i4, hS⟩ hnx
  simp only at i1 i2 i3 i4 hS
  dsimp only
  have hSl := hS.l
  rw [hSl]
  refine ok_brk (fun hc => ?_) (fun hc => ?_)
  · have hc : i < cnt := of_decide_eq_true hc
    refine ok_nextS (by omega) hby i3 i4 (by omega) ?_
    intro a p1 a1 a2 _ a4 a5
    dsimp only
    refine ok_nextS (by omega) hby a4 a5 (by omega) ?_
    intro b p2 b1 b2 _ b4 b5
    dsimp only
    refine ok_next (by omega) hby b4 b5 (by omega) ?_
    intro c p3 d1 d2 _ d4 d5
    dsimp only
    have ha := hS.b a.toNat (by omega)
    obtain ⟨w, hw⟩ : ∃ w, (if S.getD a.toNat 0 < c then S.getD a.toNat 0 else c) = w := ⟨_, rfl⟩
    rw [hw]
    have hwb : 0 ≤ w ∧ w ≤ S.getD a.toNat 0 ∧ w ≤ 20 := by rw [← hw]; split <;> omega
    have hl1 : (S.set a.toNat (S.getD a.toNat 0 - w)).length = n := by rw [List.length_set]; exact hSl
    rw [hl1]
    have hg1 : (S.set a.toNat (S.getD a.toNat 0 - w)).getD b.toNat 0 = if a.toNat = b.toNat then S.getD a.toNat 0 - w else S.getD b.toNat 0 := getD_set' (by omega)
    have hg2 := hS.b b.toNat (by omega)
    have hg3 : 0 ≤ (S.set a.toNat (S.getD a.toNat 0 - w)).getD b.toNat 0 ∧ (S.set a.toNat (S.getD a.toNat 0 - w)).getD b.toNat 0 ≤ 2000 + 20 * i := by rw [hg1]; split <;> omega
    refine ok_chk ⟨a1, a2⟩ (ok_chk ⟨a1, a2⟩ (ok_chk (show InR _ from ⟨by omega, by omega⟩) (ok_chk ⟨a1, a2⟩ (ok_chk ⟨b1, b2⟩ (ok_chk (show InR _ from ⟨by omega, by omega⟩) (ok_chk ⟨b1, b2⟩ (ok_chk (show InR _ from ⟨by omega, by omega⟩) (hnx _ ⟨by show 0 ≤ i + 1; omega, by show i + 1 ≤ cnt; omega, d4, d5, ⟨?_, fun q hq => ?_⟩⟩ (by show (cnt - (i + 1)).toNat < (cnt - i).toNat; omega)))))))))
    · show ((S.set _ _).set _ _).length = n
      rw [List.length_set]; exact hl1
    · show 0 ≤ ((S.set _ _).set _ _).getD q 0 ∧ ((S.set _ _).set _ _).getD q 0 ≤ 2000 + 20 * (i + 1)
      rw [getD_set' (by omega)]
      have := hS.b q hq
      split
      · omega
      · rw [getD_set' (by omega)]
        split <;> omega
  -- some are changed
  clear hnx
  refine ok_join (by omega) (fun T : List Int => ShrOK n 3000 T) (fun T hT => ?_) fun k hk => ?_
  · have hTl := hT.l
    have hTB : NeedsB T := fun c hc => by
      obtain ⟨j, hj, rfl⟩ := List.getElem_of_mem hc
      have := hT.b j (by omega)
      rw [getD_get hj] at this
      omega
    have p12 := pow12 (n := n) (by omega)
    rw [hTl]
    refine ok_bnd _ (Core_ok (by omega) (by omega)) ?_
    rintro ⟨is, e⟩ hr
    rcases hr with ⟨q, _⟩ | ⟨_, q, _⟩ | ⟨_, _, q, _⟩ | ⟨_, _, _, q1, q2⟩
    · exact absurd hz q
    · exact absurd (hTl.trans hn.symm) q
    · exact absurd hTB q
    simp only at q1 q2
    subst q1
    refine ok_brkF (by simp) ?_
    rw [show ((n : Nat) : Int).toNat = n by omega]
    have hall := bits_all n
    have hPn : (2 : Int) ^ N.length = 2 ^ n := by rw [hn]
    generalize hPe : (2 : Int) ^ n = P at p12 hall hPn ⊢
    have e1 : 1 * P - 1 = P - 1 := by omega
    have sets := fun (q : is = true) (s : Int) => (q2.1 q).sets h hTB h1 s
    refine ok_chk ⟨by omega, show InR _ from ⟨by omega, by omega⟩⟩ (ok_chk (show InR _ from ⟨by omega, by omega⟩) ?_)
    refine ok_group (by omega) hn hTl (by omega) hTB ?_
    dsimp only
    rw [e1]
    obtain ⟨pa, hpa⟩ : ∃ x, payP (bitI (P - 1)) T n = x := ⟨_, rfl⟩
    obtain ⟨ca, hca⟩ : ∃ x, costP (bitI (P - 1)) N n = x := ⟨_, rfl⟩
    rw [hpa, hca]
    have hgood : is = true → pa = ca := fun q => by
      have := (sets q (P - 1)).2 (by rw [hPn])
      rwa [hn, hpa, hca] at this
    refine ok_brkF ?_ ?_
    · by_cases q : is = true
      · rw [q, hgood q]; simp
      · rw [show is = false by simpa using q]; rfl
    refine ok_chk (show InR _ from ⟨by omega, by omega⟩) (ok_chk ⟨by omega, show InR _ from ⟨by omega, by omega⟩⟩ (ok_chk ⟨⟨by omega, by omega⟩, by omega⟩ ?_))
    refine ok_group (by omega) hn hTl (by omega) hTB ?_
    dsimp only
    refine ok_brkF ?_ ?_
    · by_cases q : is = true
      · have := (sets q (gr % (1 * P))).1
        rw [hn] at this
        rw [q, decide_eq_false (by omega)]; rfl
      · rw [show is = false by simpa using q]; rfl
    refine ok_join (by omega) (fun _ : PUnit => True) (fun _ _ => ok_bnde rfl (ok_some rfl)) fun k hk => ?_
    refine ok_brk (fun _ => ?_) (fun _ => hk _ trivial)
    refine ok_loop (fun x : Bool × Int => 1 ≤ x.2 ∧ x.2 ≤ P ∧ (x.1 = true ↔ (pa = ca ∧ ∀ s : Int, 1 ≤ s → s < x.2 → payP (bitI s) T n ≤ costP (bitI s) N n))) (fun x => (P - x.2).toNat)
      ⟨by show (1 : Int) ≤ 1; omega, by show 1 ≤ P; omega, by
        show (pa == ca) = true ↔ _
        rw [beq_iff_eq]
        exact ⟨fun q => ⟨q, fun s s1 s2 => by (have s2 : s < 1 := s2); omega⟩, fun q => q.1⟩⟩ (by show (P - 1).toNat < F; omega) ?_
    rintro ⟨good, s⟩ next ⟨g1, g2, g3⟩ hnx
    simp only at g1 g2 g3
    dsimp only
    refine ok_chk ⟨by omega, show InR _ from ⟨by omega, by omega⟩⟩ (ok_brk (fun hd => ?_) (fun hd => ok_brkF ?_ (hk _ trivial)))
    · have hd : s < 1 * P := of_decide_eq_true hd
      refine ok_group (by omega) hn hTl (by omega) hTB ?_
      dsimp only
      refine ok_chk (show InR _ from ⟨by omega, by omega⟩) (hnx _ ⟨by show 1 ≤ s + 1; omega, by show s + 1 ≤ P; omega, ?_⟩ (by show (P - (s + 1)).toNat < (P - s).toNat; omega))
      show (good && decide (payP (bitI s) T n ≤ costP (bitI s) N n)) = true ↔ _
      rw [Bool.and_eq_true, decide_eq_true_eq, g3]
      constructor
      · rintro ⟨⟨q3, q4⟩, q5⟩
        refine ⟨q3, fun t t1 t2 => ?_⟩
        have t2 : t < s + 1 := t2
        by_cases e : t < s
        · exact q4 t t1 e
        · obtain rfl : t = s := by omega
          exact q5
      · rintro ⟨q3, q4⟩
        exact ⟨⟨q3, fun t t1 t2 => q4 t t1 (by show t < s + 1; omega)⟩, q4 s g1 (by show s < s + 1; omega)⟩
    · have hd : ¬ s < 1 * P := of_decide_eq_false hd
      have hx : good = is := by
        rw [Bool.eq_iff_iff, g3]
        constructor
        · rintro ⟨q3, q4⟩
          refine q2.2 (CoreOK.back h fun t t1 t2 => ⟨by rw [hn]; exact q4 t t1 (by rw [hPn] at t2; omega), fun t3 => ?_⟩)
          rw [hn, t3, hPn, hpa, hca]; exact q3
        · intro q
          refine ⟨hgood q, fun t _ _ => ?_⟩
          have := (sets q t).1
          rwa [hn] at this
      rw [hx]; simp
  · refine ok_next (by omega) hby i3 i4 (by omega) ?_
    intro a p1 a1 a2 _ a4 a5
    dsimp only
    refine ok_brk (fun _ => ?_) (fun _ => hk _ ⟨hSl, fun q hq => by have := hS.b q hq; omega⟩)
    refine ok_nextS (by omega) hby a4 a5 (by omega) ?_
    intro b p2 b1 b2 _ b4 b5
    dsimp only
    refine ok_chk ⟨b1, b2⟩ ?_
    refine ok_next (by omega) hby b4 b5 (by omega) ?_
    intro c p3 d1 d2 _ d4 d5
    dsimp only
    have hg2 := hS.b b.toNat (by omega)
    refine ok_chk (show InR _ from ⟨by omega, by omega⟩) (ok_chk ⟨b1, b2⟩ (hk _ ⟨by rw [List.length_set]; exact hSl, fun q hq => ?_⟩))
    have := hS.b q hq
    rw [getD_set' (by omega)]
    split <;> omega
theorem feesAsked_ok {l b : List Int} {g : Int} (h0 : (∀ y ∈ l, 0 ≤ y ∧ y ≤ 255) ∧ l.length ≤ 9223372036854775807) (h1 : (∀ y ∈ b, 0 ≤ y ∧ y ≤ 255) ∧ b.length ≤ 9223372036854775807) (h2 : 0 ≤ g ∧ g ≤ 65535) : law12_FeesAsked 1000000000000000 l b g = some true :=
  feesAsked_ok' rfl l b g ⟨h0.1, h0.2⟩ ⟨h1.1, h1.2⟩ h2
end Go.Proofs.Fe

namespace Go.KX
open Go Go.ChangeShapes Go.WideShapes Go.RowKit

/-- Types whose reading asks only for cells: numbers, Booleans, and structs, arrays and slices of such. -/
def goodT (P : Program) : Nat → TypeId → Bool
  | 0, _ => false
  | n + 1, t => match P.underlying t with
    | some (.int _) => true
    | some .bool => true
    | some (.struct fs) => fs.toList.all fun f => goodT P n f.type
    | some (.array _ e) => goodT P n e
    | some (.slice e) => goodT P n e && Nat.ble 1 (P.cellsOf e)
    | _ => false

theorem mapM_carry' {α β : Type} {f g : α → Option β} : ∀ {l : List α} {r : List β}, l.mapM f = some r → (∀ x y, x ∈ l → y ∈ r → f x = some y → g x = some y) → l.mapM g = some r := mapM_carry

section
variable {H : Type} {enc : TypeId × Value → H} {P : Program} {w : World} {base : Nat} {held : Bool}

theorem trod_spare {sp : Nat → Bool} : ∀ (m n : Nat) (t : TypeId) (cs : List Value) (x : DataW H × List MemPlace), goodT P m t = true →
    DataW.trod enc P w base (fun _ => true) held n t cs = some x → (∀ p ∈ x.2, sp p.block = true) → DataW.trod enc P w base sp held n t cs = some x := by
  intro m
  induction m with
  | zero => intro n t cs x h; cases h
  | succ m ih =>
    intro n t cs x hg h hs
    cases n with
    | zero => simp [DataW.trod] at h
    | succ n =>
      rw [DataW.trod_step] at h ⊢
      unfold goodT at hg
      unfold DataW.trodStep at h ⊢
      split at h
      case h_1 => exact h
      case h_2 => exact h
      case h_8 e a len cap hu =>
        rw [hu] at hg
        simp only [Bool.and_eq_true] at hg
        simp only at h ⊢
        split at h
        · rename_i hc
          rw [if_pos hc]
          simp only [if_true, Option.map_eq_some_iff, Option.bind_eq_some_iff] at h ⊢
          obtain ⟨elems, he, rest, hr, rfl⟩ := h
          have hlen : elems.length = len := by simpa using mapM_some_length he
          have hrlen : rest.length = cap - len := by simpa using mapM_some_length hr
          have hk : 1 ≤ P.cellsOf e := Nat.le_of_ble_eq_true hg.2
          have one : ∀ i y, (w.cells? base (a.add (i * P.cellsOf e)) (P.cellsOf e)).bind (DataW.trod enc P w base (fun _ => true) held n e) = some y → (∀ p ∈ y.2, sp p.block = true) →
              (w.cells? base (a.add (i * P.cellsOf e)) (P.cellsOf e)).bind (DataW.trod enc P w base sp held n e) = some y := by
            intro i y hy hp
            rw [Option.bind_eq_some_iff] at hy ⊢
            obtain ⟨cs', h1, h2⟩ := hy
            exact ⟨cs', h1, ih n e cs' y hg.1 h2 hp⟩
          have hpl : ∀ y, y ∈ elems ++ rest → ∀ p ∈ y.2, sp p.block = true := fun y hy p hp => hs p (by
            simp only [List.mem_append]
            exact .inr (List.mem_flatMap.2 ⟨y, hy, hp⟩))
          refine ⟨elems, mapM_carry' he fun i y hi hy hiy => one i y hiy (hpl y (by simp [hy])), rest, ?_, rfl⟩
          by_cases hcap : cap = 0
          · have : rest = [] := List.length_eq_zero_iff.1 (by omega)
            subst this
            split
            · rw [show cap - len = 0 by omega]; rfl
            · rfl
          · have : sp a.block = true := by
              have := hs (.cell a.block (a.off + 0)) (by
                simp only [List.mem_append]
                refine .inl (MemPlace.mem_row.2 ⟨0, ?_, rfl⟩)
                rw [hlen, hrlen, show len + (cap - len) = cap by omega]
                exact Nat.mul_pos (by omega) hk)
              exact this
            rw [if_pos this]
            exact mapM_carry' hr fun j y hj hy hjy => one _ y hjy (hpl y (by simp [hy]))
        · cases h
      case h_7 => exact h
      case h_9 fs cs' hu =>
        rw [hu] at hg
        simp only at hg
        split at h
        · rename_i hl
          rw [if_pos hl]
          simp only [Option.map_eq_some_iff] at h ⊢
          obtain ⟨xs, hx, rfl⟩ := h
          refine ⟨xs, mapM_carry' hx fun f y hf hy hfy => ih n f.type _ y (List.all_eq_true.1 hg f hf) hfy fun p hp => hs p ?_, rfl⟩
          exact List.mem_flatMap.2 ⟨y, hy, hp⟩
        · cases h
      case h_10 =>
        rename_i e hu
        rw [hu] at hg
        simp only at hg
        split at h
        · rename_i hl
          rw [if_pos hl]
          simp only [Option.map_eq_some_iff] at h ⊢
          obtain ⟨xs, hx, rfl⟩ := h
          refine ⟨xs, mapM_carry' hx fun f y hf hy hfy => ih n e _ y hg hfy fun p hp => hs p ?_, rfl⟩
          exact List.mem_flatMap.2 ⟨y, hy, hp⟩
        · cases h
      all_goals simp_all

theorem trod_move {w' : World} {sp : Nat → Bool} {t : TypeId} {v : Value} {d : DataW H} {ps : List MemPlace} (hg : goodT P 8 t = true) (h : DataW.Trod enc P w base (fun _ => true) held t v d ps)
    (hsame : ∀ p ∈ ps, w.sameAt w' p) (hs : ∀ p ∈ ps, sp p.block = true) : DataW.Trod enc P w' base sp held t v d ps := by
  obtain ⟨n, hn⟩ := h
  exact ⟨n, trod_spare 8 n t _ _ hg (DataW.trod_carry n t _ _ hn hsame) hs⟩

theorem trodAll_move {w' : World} {sp : Nat → Bool} : ∀ {ts : List TypeId} {vs : List Value} {ds : List (DataW H)} {ps : List MemPlace}, ts.all (goodT P 8) = true → DataW.TrodAll enc P w base (fun _ => true) held ts vs ds ps →
    (∀ p ∈ ps, w.sameAt w' p) → (∀ p ∈ ps, sp p.block = true) → DataW.TrodAll enc P w' base sp held ts vs ds ps := by
  intro ts
  induction ts with
  | nil =>
    intro vs ds ps _ h _ _
    obtain ⟨rfl, rfl, rfl⟩ := trodAll_nil h
    rfl
  | cons t ts ih =>
    intro vs ds ps hg h hsame hs
    obtain ⟨v, vs', d, ds', p, q, rfl, rfl, rfl, h1, h2⟩ := trodAll_cons h
    simp only [List.all_cons, Bool.and_eq_true] at hg
    exact ⟨p, q, trod_move hg.1 h1 (fun x hx => hsame x (by simp [hx])) (fun x hx => hs x (by simp [hx])), ih hg.2 h2 (fun x hx => hsame x (by simp [hx])) (fun x hx => hs x (by simp [hx])), rfl⟩

/-- A law that returns true and leaves what was there alone. -/
theorem post_law {f : Func} {s : ChangeSpec} {W W' : World} {args : Array Value} {ds gs : List (DataW H)} {before : List MemPlace} {tb : TypeId} (hW : DataW.Whole enc P f.params.toList s.vars false W args.toList ds gs before)
    (hv : s.vars = []) (hfn : s.fn H ds = { results := [.lit (.bool true)], args := ds }) (hrt : f.resultTypes = #[tb]) (htb : P.underlying tb = some .bool) (hgood : f.params.toList.all (goodT P 8) = true) (hb : Below W.heap.size W W') :
    s.post enc P f false true false false W args (.bool true) W' := by
  have hW0 := hW
  obtain ⟨p, q, hA, hV, rfl, _, _⟩ := hW
  rw [hv] at hV
  obtain ⟨rfl, rfl⟩ := trodVars_none hV
  have hlt : ∀ x ∈ p ++ [], x.block < W.heap.size := fun x hx => hW0.lt x hx
  have hsame : ∀ x ∈ p, W.sameAt W' x := fun x hx => hb.same (hlt x (by simpa using hx))
  refine ⟨ds, [], p ++ [], [], p, [], hW0, ?_, ?_, ?_, hb.frame _, fun h => by cases h⟩
  · simp only [List.append_nil, hfn, hrt]
    exact trodAll_mk1 (shut_bool htb _)
  · simp only [List.append_nil, hfn]
    exact trodAll_move hgood hA hsame fun x hx => by simpa using hlt x (by simpa using hx)
  · simp only [List.append_nil, hfn, hv]
    rfl
end

theorem wf_u8 {n : Int} (h : (Lit.int .u8 n).wf = true) : 0 ≤ n ∧ n ≤ 255 := by
  simp [Lit.wf, IntKind.min, IntKind.max, IntKind.signed, IntKind.bits] at h
  omega
theorem wf_u16 {n : Int} (h : (Lit.int .u16 n).wf = true) : 0 ≤ n ∧ n ≤ 65535 := by
  simp [Lit.wf, IntKind.min, IntKind.max, IntKind.signed, IntKind.bits] at h
  omega
theorem wf_u32 {n : Int} (h : (Lit.int .u32 n).wf = true) : 0 ≤ n ∧ n ≤ 4294967295 := by
  simp [Lit.wf, IntKind.min, IntKind.max, IntKind.signed, IntKind.bits] at h
  omega
theorem wf_i64 {n : Int} (h : (Lit.int .i64 n).wf = true) : -9223372036854775808 ≤ n ∧ n ≤ 9223372036854775807 := by
  simp [Lit.wf, IntKind.min, IntKind.max, IntKind.signed, IntKind.bits] at h
  omega

/-- Values of the type t read as something of the registered type c, of which In is so. -/
def HReads (E : Env) (t : TypeId) (c : Nat) (In : E.G.car c → Prop) : Prop :=
  E.P.cellsOf t = E.G.sz c ∧ ∀ (H : Type) (e : TypeId × Value → H) (w : World) (base : Nat) (sp : Nat → Bool) (held : Bool) (fuel : Nat) (cs : List Value) (x : DataW H × List MemPlace),
    DataW.trod e E.P w base sp held fuel t cs = some x → ∃ a : E.G.car c, HdL E.G (IsCells w) w (E.G.enc c a) cs ∧ In a

theorem isCells_of {w : World} {a : Addr} {u : Value} (h : w.cell? a = some u) : IsCells w a.block ∧ a.spot = none := by
  unfold World.cell? at h
  split at h
  · rename_i c e s hb
    refine ⟨⟨_, hb, rfl⟩, ?_⟩
    split at h
    · cases h
    · rename_i hs
      simpa using hs
  · cases h

section
variable {E : Env} {H : Type} {e : TypeId × Value → H} {w : World} {base : Nat} {sp : Nat → Bool} {held : Bool}

theorem hdL_one {x : Value} {cv : CV E.G.car} (h : Hd E.G (IsCells w) w cv x) : HdL E.G (IsCells w) w [cv] [x] := ⟨_, _, rfl, h, rfl⟩

theorem hdL_append : ∀ {a b : List (CV E.G.car)} {u v : List Value}, HdL E.G (IsCells w) w a u → HdL E.G (IsCells w) w b v → HdL E.G (IsCells w) w (a ++ b) (u ++ v)
  | [], _, _, _, h, h' => by cases h; exact h'
  | _ :: _, _, _, _, ⟨x, us, rfl, h1, h2⟩, h' => ⟨x, us ++ _, rfl, h1, hdL_append h2 h'⟩

theorem hreads_int {t : TypeId} {c : Nat} {k : IntKind} {In : E.G.car c → Prop} (f : Int → E.G.car c) (hf : ∀ n, E.G.enc c (f n) = [.v (.int k n)]) (hu : E.P.underlying t = some (.int k)) (hc : E.P.cellsOf t = E.G.sz c)
    (hIn : ∀ n, (Lit.int k n).wf = true → In (f n)) : HReads E t c In :=
  ⟨hc, fun _ _ _ _ _ _ _ _ _ h => by
    obtain ⟨n, h1, _, h2⟩ := DataW.trod_int hu h
    subst h1
    exact ⟨f n, by rw [hf]; exact hdL_one (.v _), hIn n h2⟩⟩

theorem hreads_bool {t : TypeId} {c : Nat} {In : E.G.car c → Prop} (f : Bool → E.G.car c) (hf : ∀ n, E.G.enc c (f n) = [.v (.bool n)]) (hu : E.P.underlying t = some .bool) (hc : E.P.cellsOf t = E.G.sz c) (hIn : ∀ b, In (f b)) : HReads E t c In :=
  ⟨hc, fun _ _ _ _ _ _ _ _ _ h => by
    obtain ⟨n, h1, _⟩ := DataW.trod_bool hu h
    subst h1
    exact ⟨f n, by rw [hf]; exact hdL_one (.v _), hIn n⟩⟩

theorem fields_of {t : TypeId} {fs : Array Field} {fuel : Nat} {cs : List Value} {x : DataW H × List MemPlace} (hu : E.P.underlying t = some (.struct fs)) (h : DataW.trod e E.P w base sp held fuel t cs = some x) :
    cs.length = E.P.cellsOf t ∧ ∀ (j : Nat) (fd : Field), fs[j]? = some fd → ∃ fuel y, DataW.trod e E.P w base sp held fuel fd.type ((cs.drop fd.offset).take (E.P.cellsOf fd.type)) = some y := by
  obtain ⟨xs, n, rfl, rfl, hl, hlen, hf⟩ := DataW.trod_struct hu h
  refine ⟨hl, fun j fd hj => ?_⟩
  have hlt : j < xs.length := by have := (Array.getElem?_eq_some_iff.1 hj).1; omega
  exact ⟨n, xs[j], by rw [hf j fd hj, List.getElem?_eq_getElem hlt]⟩

theorem elems_of {t el : TypeId} {n s : Nat} {fuel : Nat} {cs : List Value} {x : DataW H × List MemPlace} (hu : E.P.underlying t = some (.array n el)) (hs : E.P.cellsOf el = s) (h : DataW.trod e E.P w base sp held fuel t cs = some x) :
    cs.length = E.P.cellsOf t ∧ ∀ (j : Nat), j < n → ∃ fuel y, DataW.trod e E.P w base sp held fuel el ((cs.drop (j * s)).take (E.P.cellsOf el)) = some y := by
  obtain ⟨xs, m, rfl, rfl, hl, hlen, hf⟩ := DataW.trod_array hu h
  subst hs
  refine ⟨hl, fun j hj => ?_⟩
  have hlt : j < xs.length := by omega
  exact ⟨m, xs[j], by rw [hf j hj, List.getElem?_eq_getElem hlt]⟩

theorem HReads.at {t : TypeId} {c off : Nat} {In : E.G.car c → Prop} {cs : List Value} (hR : HReads E t c In)
    (hx : ∃ fuel y, DataW.trod e E.P w base sp held fuel t ((cs.drop off).take (E.P.cellsOf t)) = some y) : ∃ a, HdL E.G (IsCells w) w (E.G.enc c a) ((cs.drop off).take (E.G.sz c)) ∧ In a := by
  obtain ⟨fuel, y, h⟩ := hx
  rw [hR.1] at h
  exact hR.2 _ _ _ _ _ _ _ _ _ h

theorem hcut_cons {a r : List (CV E.G.car)} {cs : List Value} {o n : Nat} (h : HdL E.G (IsCells w) w a ((cs.drop o).take n)) (hr : HdL E.G (IsCells w) w r (cs.drop (o + n))) : HdL E.G (IsCells w) w (a ++ r) (cs.drop o) := by
  have := hdL_append h hr
  rwa [← List.drop_drop, List.take_append_drop] at this

theorem hcut_nil {cs : List Value} {o : Nat} (h : cs.length ≤ o) : HdL E.G (IsCells w) w [] (cs.drop o) := List.drop_eq_nil_of_le h

/-- A slice's elements. -/
theorem hslice_of {t el : TypeId} {c fuel : Nat} {In : E.G.car c → Prop} {cs : List Value} {x : DataW H × List MemPlace} (hu : E.P.underlying t = some (.slice el)) (hR : HReads E el c In) (hn : 0 < E.G.sz c)
    (h : DataW.trod e E.P w base sp held fuel t cs = some x) :
    ∃ (p : Option Addr) (n cap : Nat) (l : List (E.G.car c)), cs = [.slice p n cap] ∧ Hd E.G (IsCells w) w (.sl c l) (.slice p n cap) ∧ (∀ x ∈ l, In x) ∧ l.length ≤ 9223372036854775807 := by
  rcases DataW.trod_slice hu h with ⟨rfl, _⟩ | ⟨a, len, cap, elems, rest, m, _, rfl, _, hb, hl, hm, hel, hi, _, _⟩
  · exact ⟨none, 0, 0, [], rfl, Hd.mk (b := 0) (o := 0) rfl (Nat.le_refl _) (fun h => absurd rfl h) (fun i x hx => by simp at hx), by simp, by simp⟩
  have build : ∀ k, k ≤ len → ∃ l : List (E.G.car c), l.length = k ∧ ∀ i x, l[i]? = some x → In x ∧ ∃ us, w.cells? base (a.add (i * E.G.sz c)) (E.G.sz c) = some us ∧ HdL E.G (IsCells w) w (E.G.enc c x) us := by
    intro k
    induction k with
    | zero => intro _; exact ⟨[], rfl, fun i x hx => by simp at hx⟩
    | succ k ih =>
      intro hk
      obtain ⟨l, h1, h2⟩ := ih (by omega)
      have h3 := hi k (by omega)
      rw [List.getElem?_eq_getElem (by omega), hR.1, Option.bind_eq_some_iff] at h3
      obtain ⟨cs', h4, h5⟩ := h3
      obtain ⟨y, hy1, hy⟩ := hR.2 _ _ _ _ _ _ _ _ _ h5
      refine ⟨l ++ [y], by simp [h1], fun i x hx => ?_⟩
      rcases Nat.lt_or_ge i k with h6 | h6
      · rw [List.getElem?_append_left (by omega)] at hx; exact h2 i x hx
      · rw [List.getElem?_append_right (by omega)] at hx
        have : i - l.length = 0 := by
          have := (List.getElem?_eq_some_iff.1 hx).1
          simpa using this
        rw [this] at hx
        simp only [List.getElem?_cons_zero, Option.some.injEq] at hx
        subst hx
        obtain rfl : i = k := by omega
        exact ⟨hy, _, h4, hy1⟩
  obtain ⟨l, h1, h2⟩ := build len (Nat.le_refl _)
  have hcell : ∀ (i : Nat) x, l[i]? = some x → ∀ (j : Nat) (cv : CV E.G.car), (E.G.enc c x)[j]? = some cv → ∃ u, w.cell? ((a.add (i * E.G.sz c)).add j) = some u ∧ Hd E.G (IsCells w) w cv u := by
    intro i x hx j cv hcv
    obtain ⟨_, us, h3, h4⟩ := h2 i x hx
    obtain ⟨u, h5, h6⟩ := h4.get j cv hcv
    obtain ⟨_, h7, h8⟩ := World.cells?_some h3
    refine ⟨u, ?_, h6⟩
    rw [h8 j (by rw [← h7]; exact (List.getElem?_eq_some_iff.1 h5).1), h5]
  refine ⟨some a, len, cap, l, rfl, ?_, fun x hx => ?_, by unfold maxLen at hm; omega⟩
  · rcases Nat.eq_zero_or_pos len with h0 | h0
    · have : l = [] := List.length_eq_zero_iff.1 (by omega)
      subst this
      exact Hd.mk (b := 0) (o := 0) h1.symm hl (fun h => absurd rfl h) (fun i x hx => by simp at hx)
    · have hpos : 0 < l.length := by omega
      have hz : 0 < (E.G.enc c l[0]).length := by rw [E.G.hsz]; exact hn
      obtain ⟨u, h3, _⟩ := hcell 0 l[0] (List.getElem?_eq_getElem hpos) 0 _ (List.getElem?_eq_getElem hz)
      rw [Nat.zero_mul, show (a.add 0).add 0 = a by simp [Addr.add]] at h3
      obtain ⟨h4, h5⟩ := isCells_of h3
      obtain ⟨b, o, s⟩ := a
      simp only at h4 h5
      subst h5
      refine Hd.mk (b := b) (o := o) h1.symm hl (fun _ => ⟨rfl, h4⟩) (fun i x hx j cv hcv => ?_)
      have := hcell i x hx j cv hcv
      rwa [addr_add, addr_add] at this
  · obtain ⟨i, hi⟩ := List.getElem?_of_mem hx
    exact (h2 i x hi).1

theorem hreads_slice {t el : TypeId} {c d : Nat} {In : E.G.car c → Prop} {In' : E.G.car d → Prop} (f : List (E.G.car c) → E.G.car d) (hf : ∀ l, E.G.enc d (f l) = [.sl c l]) (hu : E.P.underlying t = some (.slice el)) (hR : HReads E el c In)
    (hn : 0 < E.G.sz c) (hc : E.P.cellsOf t = E.G.sz d) (hIn : ∀ l, (∀ x ∈ l, In x) → l.length ≤ 9223372036854775807 → In' (f l)) : HReads E t d In' :=
  ⟨hc, fun _ _ _ _ _ _ _ _ _ h => by
    obtain ⟨p, n, cap, l, rfl, h1, h2, h3⟩ := hslice_of hu hR hn h
    exact ⟨f l, by rw [hf]; exact hdL_one h1, hIn l h2 h3⟩⟩

/-! ### Arguments -/

theorem harg_int {r : Reach} {b0 : Nat} {t : TypeId} {c : Nat} {k : IntKind} {In : E.G.car c → Prop} {v : Value} {d : DataW H} {ps : List MemPlace} (hR : HReads E t c In) (hu : E.P.underlying t = some (.int k))
    (hval : Value.okWide E.P w r b0 t v) (h : DataW.Trod e E.P w base sp held t v d ps) : ∃ a : E.G.car c, ArgIs E (IsCells w) w (.v c false) a v ∧ In a := by
  obtain ⟨n, rfl⟩ := okWide_int hu hval
  obtain ⟨fuel, hf⟩ := h
  obtain ⟨a, h1, h2⟩ := hR.2 _ _ _ _ _ _ _ _ _ hf
  exact ⟨a, ⟨_, h1, rfl⟩, h2⟩

theorem harg_bool {r : Reach} {b0 : Nat} {t : TypeId} {c : Nat} {In : E.G.car c → Prop} {v : Value} {d : DataW H} {ps : List MemPlace} (hR : HReads E t c In) (hu : E.P.underlying t = some .bool)
    (hval : Value.okWide E.P w r b0 t v) (h : DataW.Trod e E.P w base sp held t v d ps) : ∃ a : E.G.car c, ArgIs E (IsCells w) w (.v c false) a v ∧ In a := by
  obtain ⟨n, rfl⟩ := okWide_bool hu hval
  obtain ⟨fuel, hf⟩ := h
  obtain ⟨a, h1, h2⟩ := hR.2 _ _ _ _ _ _ _ _ _ hf
  exact ⟨a, ⟨_, h1, rfl⟩, h2⟩

theorem harg_agg {r : Reach} {b0 : Nat} {t : TypeId} {c : Nat} {fs : Array Field} {In : E.G.car c → Prop} {v : Value} {d : DataW H} {ps : List MemPlace} (hR : HReads E t c In) (hu : E.P.underlying t = some (.struct fs))
    (hval : Value.okWide E.P w r b0 t v) (h : DataW.Trod e E.P w base sp held t v d ps) : ∃ a : E.G.car c, ArgIs E (IsCells w) w (.v c true) a v ∧ In a := by
  obtain ⟨cs, rfl, _⟩ := okWide_struct hu hval
  obtain ⟨fuel, hf⟩ := h
  obtain ⟨a, h1, h2⟩ := hR.2 _ _ _ _ _ _ _ _ _ hf
  exact ⟨a, ⟨_, h1, rfl⟩, h2⟩

theorem harg_sl {r : Reach} {b0 : Nat} {t el : TypeId} {c : Nat} {In : E.G.car c → Prop} {v : Value} {d : DataW H} {ps : List MemPlace} (hu : E.P.underlying t = some (.slice el)) (hR : HReads E el c In) (hn : 0 < E.G.sz c)
    (hval : Value.okWide E.P w r b0 t v) (h : DataW.Trod e E.P w base sp held t v d ps) : ∃ a : List (E.G.car c), ArgIs E (IsCells w) w (.sl c) a v ∧ (∀ x ∈ a, In x) ∧ a.length ≤ 9223372036854775807 := by
  obtain ⟨p, n, cap, rfl⟩ := okWide_slice hu hval
  obtain ⟨fuel, hf⟩ := h
  obtain ⟨p', n', cap', l, h1, h2, h3, h4⟩ := hslice_of hu hR hn hf
  have h1 : [Value.slice p n cap] = [.slice p' n' cap'] := h1
  simp only [List.cons.injEq, and_true, Value.slice.injEq] at h1
  obtain ⟨rfl, rfl, rfl⟩ := h1
  exact ⟨l, h2, h3, h4⟩

/-- A law whose mirror answers true returns true, and leaves what was there. -/
theorem law_calls {k : Nat} {ps : List PK} {t : Nat} {es : List Nat} {f : AT E.G.car ps → Option (E.G.car t)} (hc : CSok E [] ⟨k, ps, [.v t false es], f⟩) (hglo : E.glo = []) (b : E.G.car t) (hb : E.G.enc t b = [.v (.bool true)])
    {vs : List Value} {xs : AT E.G.car ps} (ha : ArgsAre E (IsCells w) w ps xs vs) (hm : f xs = some b) :
    Calls E.P k vs.toArray w fun e w' => e = .returned (.bool true) ∧ Below w.heap.size w w' := by
  have h := hc.ok (IsCells w) w vs xs ⟨fun _ => ⟨0, none, 0, 0⟩, by rw [hglo]; exact And.intro (fun p hp => nomatch hp) (fun q hq => nomatch hq)⟩ (fun _ h => h) ha b hm
  refine h.mono fun e' w' ⟨us, ms, A', h1, h2, _, _, _, h3, _⟩ => ⟨?_, h2⟩
  obtain ⟨v, rfl, us', h4, h5⟩ := h3
  simp only [Bool.false_eq_true, if_false] at h5
  subst h5
  have h4 : ResCells E.G A' w.heap.size w' (E.G.enc t b) es [v] ms := h4
  rw [hb] at h4
  obtain ⟨us2, h6, _⟩ := h4
  cases h6
  exact h1
end
end Go.KX
