/- Texts FePFM, FePFN, FePFO, FePFP, FePFP2, KFR: own work; each part says what it is. -/
import Derived.Test.YtglcljiadhcopaaSh3
import Derived.Handed
import Derived.OpenShut
import Derived.ChangeSlices
import Derived.JoinedOf
namespace Go.Proofs.Fe
open Go Go.KX

abbrev NeedsB (N : List Int) : Prop := ∀ c ∈ N, 0 ≤ c ∧ c ≤ 1000000000

/-- Shares of all. -/
def shV (N : List Int) : List Int := N.map fun c => W N c.toNat

theorem NeedsB.get {N : List Int} (h : NeedsB N) (i : Nat) : 0 ≤ N.getD i 0 ∧ N.getD i 0 ≤ 1000000000 := by
  by_cases hi : i < N.length
  · exact h _ (getD_mem hi)
  · simp [List.getD_eq_getElem?_getD, List.getElem?_eq_none (Nat.le_of_not_lt hi)]

theorem abv_perm {N l : List Int} {n : Nat} (hn : N.length = n) (hp : l.Perm (upto n)) (t : Int) : abv N t = (l.filter fun u => decide (t < N.getD u.toNat 0)).length := by
  have h1 : N = (upto n).map fun u => N.getD u.toNat 0 := by
    apply list_ext 0 (by simp [upto_length, hn])
    intro i hi
    rw [getD_get (l := (upto n).map _) (by simp [upto_length]; omega), List.getElem_map]
    have : (upto n)[i]'(by rw [upto_length]; omega) = (i : Int) := by
      have := tab_get (n := n) (i := i) (g := fun i => (i : Int)) (d := 0) (by omega)
      rw [getD_get (by rw [tab_length]; omega)] at this
      exact this
    rw [this]; simp
  have h2 := (hp.filter fun u => decide (t < N.getD u.toNat 0)).length_eq
  rw [h2]
  unfold abv
  rw [h1, List.filter_map, List.length_map]
  congr 1
  apply List.filter_congr
  intro u hu
  simp only [Function.comp]
  rw [← h1]

set_option maxHeartbeats 1000000 in
theorem exact_ok {F : Nat} (hF : 2000000000000 < F) {N : List Int} (h1 : 1 ≤ N.length) (h2 : N.length ≤ 12) (h : NeedsB N) : fees_exact F N = some (shV N) := by
  refine Ok.eq ?_
  unfold fees_exact
  obtain ⟨n, hn⟩ : ∃ n, N.length = n := ⟨_, rfl⟩
  have hrl : (List.replicate ((N.length : Int)).toNat (0 : Int)).length = n := by simp [hn]
  rw [hrl, hn]
  refine ok_chk ⟨by omega, by omega, by omega⟩ (ok_chk ⟨by omega, by omega, by omega⟩ ?_)
  -- the order as it was
  refine ok_loop (fun x : Int × List Int => 0 ≤ x.1 ∧ x.1 ≤ n ∧ x.2.length = n ∧ ∀ q : Nat, (q : Int) < x.1 → x.2.getD q 0 = q) (fun x => n - x.1.toNat)
    ⟨by simp, by show (0 : Int) ≤ n; omega, by simp, fun q hq => by (have hq : (q : Int) < 0 := hq); omega⟩ (by simp; omega) ?_
  rintro ⟨i, o⟩ next ⟨i1, i2, i3, i4⟩ hnx
  simp only at i1 i2 i3 i4
  dsimp only
  refine ok_brk (fun hc => ?_) (fun hc => ?_)
  · have hc : i < n := of_decide_eq_true hc
    refine ok_chk ⟨i1, by omega⟩ (ok_chk (show InR _ from ⟨by omega, by omega⟩) (hnx _ ⟨by show 0 ≤ i + 1; omega, by show i + 1 ≤ n; omega, by show (o.set _ _).length = n; rw [List.length_set]; exact i3, fun q hq => ?_⟩ (by show n - (i + 1).toNat < n - i.toNat; omega)))
    have hq : (q : Int) < i + 1 := hq
    show (o.set i.toNat i).getD q 0 = q
    rw [getD_set' (by omega)]
    by_cases e : i.toNat = q
    · rw [if_pos e]; omega
    · rw [if_neg e]; exact i4 q (by omega)
  have hc : ¬ i < n := of_decide_eq_false hc
  have ho : o = upto n := tab_ext 0 i3 fun q hq => i4 q (by omega)
  clear hnx
  rw [ho, upto_length]
  refine ok_loop (fun x : Int × Int => x = (20, 0)) (fun _ => 0) rfl (by omega) ?_
  rintro _ next rfl hnx
  clear hnx next
  refine ok_brkF (decide_eq_false (by show ¬ (20 : Int) ≤ n; omega)) (ok_chk (show InR (0 + 1) from ⟨by omega, by omega⟩) ?_)
  -- the order sorted
  refine ok_loop (fun x : Int × List Int => 1 ≤ x.1 ∧ x.1 ≤ n ∧ SortI (fun u => N.getD u.toNat 0) n x.1.toNat x.2) (fun x => n - x.1.toNat)
    ⟨by simp, by show (0 : Int) + 1 ≤ n; omega, SortI.one _ (by omega)⟩ (by simp; omega) ?_
  rintro ⟨i, l⟩ next ⟨i1, i2, i3⟩ hnx
  simp only at i1 i2 i3
  dsimp only
  refine ok_brk (fun hc => ?_) (fun hc => ?_)
  · have hc : i < n := of_decide_eq_true hc
    have hi : i.toNat < n := by omega
    have hst := i3.start hi
    refine ok_loop (fun x : Int × List Int => InsI (fun u => N.getD u.toNat 0) n i.toNat x.1 x.2) (fun x => x.1.toNat)
      (by rw [show ((i.toNat : Nat) : Int) = i by omega] at hst; exact hst) (by show i.toNat < F; omega) ?_
    rintro ⟨j, l⟩ next2 hI hn2
    simp only at hI
    dsimp only
    obtain ⟨f1, f2, f3, f4, f5⟩ := hI.facts hi
    have go : SortI (fun u => N.getD u.toNat 0) n (i.toNat + 1) l → Ok (fun x => x = shV N) (chk (InR (i + 1)) (next (i + 1, l))) := fun q =>
      ok_chk (show InR _ from ⟨by omega, by omega⟩) (hnx _ ⟨by show 1 ≤ i + 1; omega, by show i + 1 ≤ n; omega, by show SortI _ n (i + 1).toNat l; rw [show (i + 1).toNat = i.toNat + 1 by omega]; exact q⟩ (by show n - (i + 1).toNat < n - i.toNat; omega))
    refine ok_brk (fun hb => ?_) (fun hb => ?_)
    · have hb : j > 0 := of_decide_eq_true hb
      have g := f5 hb
      have hv : 0 ≤ l.getD j.toNat 0 ∧ l.getD j.toNat 0 < n := by rw [f4]; omega
      have kv := h.get (l.getD j.toNat 0).toNat
      have ku := h.get (l.getD (j - 1).toNat 0).toNat
      refine ok_chk ⟨f2, by omega⟩ (ok_chk (show InR _ from ⟨by omega, by omega⟩) (ok_chk ⟨by omega, by omega⟩ (ok_chk hv (ok_chk ⟨g.1, by omega⟩ (ok_chk (show InR _ from ⟨by omega, by omega⟩) (ok_brk (fun hd => ?_) (fun hd => ?_)))))))
      · have hd := of_decide_eq_true hd
        refine ok_chk (show InR _ from ⟨by omega, by omega⟩) (ok_chk (show InR _ from ⟨by omega, by omega⟩) (ok_chk ⟨by omega, by omega⟩ (ok_chk ⟨by omega, by omega⟩ (ok_chk ⟨by omega, by omega⟩ (ok_chk ⟨by omega, by rw [List.length_set]; omega⟩ (ok_chk (show InR _ from ⟨by omega, by omega⟩) (hn2 _ (hI.swap hb (by show N.getD _ 0 < N.getD _ 0; omega)) (by show (j - 1).toNat < j.toNat; omega))))))))
      · have hd := of_decide_eq_false hd
        refine go (hI.stop (.inr ?_))
        show N.getD (l.getD (j - 1).toNat 0).toNat 0 ≤ N.getD ((i.toNat : Nat) : Int).toNat 0
        rw [← f4]; omega
    · have hb : ¬ j > 0 := of_decide_eq_false hb
      exact go (hI.stop (.inl (by omega)))
  have hc : ¬ i < n := of_decide_eq_false hc
  have hs : Sorted (fun u => N.getD u.toNat 0) n l := SortI.done (by rw [show i.toNat = n by omega] at i3; exact i3)
  clear hnx i3
  refine ok_loop (fun x : Int => x = 20) (fun _ => 0) rfl (by omega) ?_
  rintro _ next rfl hnx
  clear hnx next
  refine ok_brkF (decide_eq_false (by omega)) ?_
  have hll := hs.length
  have hlm : ∀ k : Nat, k < n → 0 ≤ l.getD k 0 ∧ l.getD k 0 < n := fun k hk => hs.mem.1 (getD_mem (by omega))
  rw [hll]
  -- the parts
  refine ok_loop (fun x : Int × Int × List Int => 0 ≤ x.2.1 ∧ x.2.1 ≤ n ∧ 0 ≤ x.1 ∧ x.1 ≤ 1000000000 ∧ (∀ u ∈ l.take x.2.1.toNat, N.getD u.toNat 0 ≤ x.1) ∧ (∀ u ∈ l.drop x.2.1.toNat, x.1 ≤ N.getD u.toNat 0) ∧ x.2.2.length = n ∧ ∀ q : Nat, q < n → x.2.2.getD q 0 = W N (min (N.getD q 0) x.1).toNat) (fun x => n - x.2.1.toNat)
    ⟨by simp, by show (0 : Int) ≤ n; omega, by simp, by simp, fun u hu => by simp at hu, fun u _ => (h.get _).1, by simp, fun q hq => by
      show (List.replicate ((n : Nat) : Int).toNat (0 : Int)).getD q 0 = W N (min (N.getD q 0) 0).toNat
      have := (h.get q).1
      rw [show (min (N.getD q 0) 0).toNat = 0 by omega]
      rw [getD_get (by simp; omega)]; simp [W]⟩ (by simp; omega) ?_
  rintro ⟨bf, k, out⟩ next ⟨k1, k2, k3, k4, k5, k6, k7, k8⟩ hnx
  simp only at k1 k2 k3 k4 k5 k6 k7 k8
  dsimp only
  refine ok_brk (fun hb => ?_) (fun hb => ok_some ?_)
  · have hb : k < n := of_decide_eq_true hb
    have hk : k.toNat < n := by omega
    have hu := hlm k.toNat hk
    have hdr := drop_get (d := 0) (show k.toNat < l.length by omega)
    have hub := h.get (l.getD k.toNat 0).toNat
    have hle := k6 (l.getD k.toNat 0) (by rw [hdr]; exact List.mem_cons_self)
    -- how much each one gets
    have hmin : ∀ u ∈ l.drop k.toNat, N.getD (l.getD k.toNat 0).toNat 0 ≤ N.getD u.toNat 0 := fun u hu => by
      have hp := (List.pairwise_append.1 (by rw [List.take_append_drop]; exact hs.pw : (l.take k.toNat ++ l.drop k.toNat).Pairwise _)).2.1
      rw [hdr] at hp hu
      rcases List.mem_cons.1 hu with rfl | hu
      · exact Int.le_refl _
      · have := (List.pairwise_cons.1 hp).1 u hu
        unfold Lx at this
        dsimp only at this
        omega
    have hW : W N (N.getD (l.getD k.toNat 0).toNat 0).toNat = W N bf.toNat + (N.getD (l.getD k.toNat 0).toNat 0 - bf) * (27720 / ((n : Int) - k)) := by
      by_cases e : bf < N.getD (l.getD k.toNat 0).toNat 0
      · have hbt : ∀ c ∈ N, c ≤ ((bf.toNat : Nat) : Int) ∨ (((N.getD (l.getD k.toNat 0).toNat 0).toNat : Nat) : Int) ≤ c := fun c hc => by
          obtain ⟨q, hq, rfl⟩ := List.getElem_of_mem hc
          have hm : ((q : Nat) : Int) ∈ l := hs.mem.2 ⟨by omega, by omega⟩
          rw [← List.take_append_drop k.toNat l] at hm
          have hg : N.getD ((q : Nat) : Int).toNat 0 = N[q] := by rw [Int.toNat_natCast, getD_get hq]
          rcases List.mem_append.1 hm with hm | hm
          · have := k5 _ hm; rw [hg] at this; exact .inl (by omega)
          · have := hmin _ hm; rw [hg] at this; exact .inr (by omega)
        have hcnt : (abv N ((bf.toNat : Nat) : Int) : Int) = (n : Int) - k := by
          rw [abv_perm hn hs.perm, show l = l.take k.toNat ++ l.drop k.toNat from (List.take_append_drop _ _).symm, List.filter_append, List.length_append]
          have e1 : ((l.take k.toNat).filter fun u => decide (((bf.toNat : Nat) : Int) < N.getD u.toNat 0)) = [] := by
            rw [List.filter_eq_nil_iff]
            intro u hu
            have := k5 u hu
            simp only [decide_eq_true_eq]; omega
          have e2 : ((l.drop k.toNat).filter fun u => decide (((bf.toNat : Nat) : Int) < N.getD u.toNat 0)) = l.drop k.toNat := by
            rw [List.filter_eq_self]
            intro u hu
            have := hmin u hu
            exact decide_eq_true (by omega)
          rw [e1, e2, List.length_drop, hll]
          simp; omega
        have := W_line (N := N) (a := bf.toNat) (b := (N.getD (l.getD k.toNat 0).toNat 0).toNat) (by omega) hbt
        rw [this, hcnt]
        congr 2; omega
      · have : N.getD (l.getD k.toNat 0).toNat 0 = bf := by omega
        rw [this, Int.sub_self, Int.zero_mul, Int.add_zero]
    have hWb1 := W_le N bf.toNat
    have hWb2 := W_nonneg N bf.toNat
    have hWb3 := W_le N (N.getD (l.getD k.toNat 0).toNat 0).toNat
    have hWb4 := W_mono N (show bf.toNat ≤ (N.getD (l.getD k.toNat 0).toNat 0).toNat by omega)
    generalize hV : N.getD (l.getD k.toNat 0).toNat 0 = V at hub hle hmin hW hWb3 hWb4 ⊢
    generalize hadd : (V - bf) * (27720 / ((n : Int) - k)) = add at hW ⊢
    refine ok_chk ⟨k1, by omega⟩ (ok_chk ⟨hu.1, hu.2⟩ (ok_chk (show InR _ from ⟨by omega, by omega⟩) (ok_chk ⟨k1, by omega, by omega⟩ ?_)))
    refine ok_loop (fun x : Int × List Int => 0 ≤ x.1 ∧ x.1 ≤ n - k ∧ x.2.length = n ∧ ∀ q : Nat, q < n → x.2.getD q 0 = out.getD q 0 + if (q : Int) ∈ (l.drop k.toNat).take x.1.toNat then add else 0) (fun x => n - x.1.toNat)
      ⟨by simp, by show (0 : Int) ≤ n - k; omega, k7, fun q _ => by simp⟩ (by simp; omega) ?_
    rintro ⟨j, ot⟩ next2 ⟨j1, j2, j3, j4⟩ hn2
    simp only at j1 j2 j3 j4
    dsimp only
    refine ok_brk (fun hd => ?_) (fun hd => ?_)
    · have hd : j < (n : Int) - k := of_decide_eq_true hd
      have hkj : (k + j).toNat < n := by omega
      have hv := hlm (k + j).toNat hkj
      have hmem : l.getD (k + j).toNat 0 ∈ l.drop k.toNat := by
        rw [getD_get (by omega)]
        refine List.mem_drop_iff_getElem.2 ⟨j.toNat, by omega, ?_⟩
        congr 1; omega
      have htk : (l.drop k.toNat).take (j + 1).toNat = (l.drop k.toNat).take j.toNat ++ [l.getD (k + j).toNat 0] := by
        rw [show (j + 1).toNat = j.toNat + 1 by omega, take_succ' (d := 0) (by rw [List.length_drop]; omega)]
        congr 2
        rw [getD_get (by rw [List.length_drop]; omega), getD_get (by omega), List.getElem_drop]
        congr 1; omega
      have hnew : ¬ l.getD (k + j).toNat 0 ∈ (l.drop k.toNat).take j.toNat := fun hq => by
        have hp : ((l.drop k.toNat).take (j + 1).toNat).Pairwise (Lx fun u => N.getD u.toNat 0) := (hs.pw.sublist (List.drop_sublist _ _)).sublist (List.take_sublist _ _)
        rw [htk, List.pairwise_append] at hp
        exact (hp.2.2 _ hq _ (by simp)).irrefl
      have hq := j4 (l.getD (k + j).toNat 0).toNat (by omega)
      have hqe : (((l.getD (k + j).toNat 0).toNat : Nat) : Int) = l.getD (k + j).toNat 0 := by omega
      rw [hqe, if_neg hnew, k8 _ (by omega)] at hq
      have hmn : (min (N.getD (l.getD (k + j).toNat 0).toNat 0) bf).toNat = bf.toNat := by
        have := hmin _ hmem
        omega
      rw [hmn] at hq
      generalize l.getD (k + j).toNat 0 = u at hv hmem htk hnew hq hqe hmn ⊢
      have hdiv : 0 < (n : Int) - k := by omega
      refine ok_chk ⟨j1, hd⟩ (ok_chk ⟨hv.1, by omega⟩ (ok_chk ⟨⟨by omega, by omega⟩, hdiv⟩ ?_))
      refine ok_chk (show InR _ from ⟨by omega, by omega⟩) (ok_chk (show InR _ from ⟨by omega, by omega⟩) (ok_chk ⟨hv.1, by omega⟩ (ok_chk (show InR _ from ⟨by omega, by omega⟩) (hn2 _ ⟨by show 0 ≤ j + 1; omega, by show j + 1 ≤ n - k; omega, by show (ot.set _ _).length = n; rw [List.length_set]; exact j3, fun q hqn => ?_⟩ (by show n - (j + 1).toNat < n - j.toNat; omega)))))
      show (ot.set u.toNat (ot.getD u.toNat 0 + add)).getD q 0 = out.getD q 0 + if (q : Int) ∈ (l.drop k.toNat).take (j + 1).toNat then add else 0
      rw [getD_set' (by omega), htk]
      by_cases e : u.toNat = q
      · rw [if_pos e, if_pos (by rw [← e, hqe]; simp), ← e, j4 u.toNat (by omega), hqe, if_neg hnew, Int.add_zero]
      · rw [if_neg e, j4 q hqn]
        congr 1
        by_cases e2 : (q : Int) ∈ (l.drop k.toNat).take j.toNat
        · rw [if_pos e2, if_pos (List.mem_append_left _ e2)]
        · rw [if_neg e2, if_neg (fun q3 => by
            rcases List.mem_append.1 q3 with q4 | q4
            · exact e2 q4
            · have := List.mem_singleton.1 q4
              omega)]
    · have hd : ¬ j < (n : Int) - k := of_decide_eq_false hd
      rw [List.take_of_length_le (by rw [List.length_drop]; omega)] at j4
      refine ok_chk ⟨hu.1, hu.2⟩ (ok_chk (show InR _ from ⟨by omega, by omega⟩) (hnx _ ⟨by show 0 ≤ k + 1; omega, by show k + 1 ≤ n; omega, by show 0 ≤ V; omega, by show V ≤ _; omega, fun u hu2 => ?_, fun u hu2 => ?_, j3, fun q hqn => ?_⟩ (by show n - (k + 1).toNat < n - k.toNat; omega)))
      · show N.getD u.toNat 0 ≤ V
        have hu2 : u ∈ l.take (k + 1).toNat := hu2
        rw [show (k + 1).toNat = k.toNat + 1 by omega, take_succ' (d := 0) (by omega)] at hu2
        rcases List.mem_append.1 hu2 with q | q
        · have := k5 u q; omega
        · rw [List.mem_singleton.1 q, hV]; omega
      · show V ≤ N.getD u.toNat 0
        have hu2 : u ∈ l.drop (k + 1).toNat := hu2
        refine hmin u ?_
        rw [hdr]
        rw [show (k + 1).toNat = k.toNat + 1 by omega] at hu2
        exact List.mem_cons_of_mem _ hu2
      · show ot.getD q 0 = W N (min (N.getD q 0) V).toNat
        have hm : ((q : Nat) : Int) ∈ l := hs.mem.2 ⟨by omega, by omega⟩
        rw [j4 q hqn, k8 q hqn]
        by_cases e : (q : Int) ∈ l.drop k.toNat
        · have h5 := hmin _ e
          have h6 := k6 _ e
          rw [Int.toNat_natCast] at h5 h6
          rw [if_pos e, show min (N.getD q 0) bf = bf by omega, show min (N.getD q 0) V = V by omega, hW]
        · rw [if_neg e, Int.add_zero]
          rw [← List.take_append_drop k.toNat l] at hm
          rcases List.mem_append.1 hm with hm | hm
          · have := k5 _ hm
            rw [Int.toNat_natCast] at this
            rw [show min (N.getD q 0) bf = N.getD q 0 by omega, show min (N.getD q 0) V = N.getD q 0 by omega]
          · exact absurd hm e
  · have hb : ¬ k < n := of_decide_eq_false hb
    apply list_ext 0 (by rw [k7]; simp [shV, hn])
    intro q hq
    have hqn : q < n := by omega
    rw [k8 q hqn]
    have hm : ((q : Nat) : Int) ∈ l := hs.mem.2 ⟨by omega, by omega⟩
    have := k5 _ (by rw [List.take_of_length_le (by omega)]; exact hm)
    rw [Int.toNat_natCast] at this
    rw [show min (N.getD q 0) bf = N.getD q 0 by omega]
    unfold shV
    rw [getD_get (l := N.map _) (by simp; omega), List.getElem_map, getD_get (by omega)]
end Go.Proofs.Fe

namespace Go.Proofs.Fe
open Go Go.KX

open Classical in
noncomputable def askedV (N : List Int) : Int := if 1 ≤ N.length ∧ N.length ≤ 12 then (if NeedsB N then 0 else 6) else 2
theorem askedV_zero {N : List Int} (h : askedV N = 0) : 1 ≤ N.length ∧ N.length ≤ 12 ∧ NeedsB N := by
  unfold askedV at h
  split at h
  · split at h
    · rename_i h1 h2; exact ⟨h1.1, h1.2, h2⟩
    · omega
  · omega
theorem askedV_ok {N : List Int} (h1 : 1 ≤ N.length) (h2 : N.length ≤ 12) (h3 : NeedsB N) : askedV N = 0 := by
  unfold askedV
  rw [if_pos ⟨h1, h2⟩, if_pos h3]

theorem asked1_eq (F : Nat) (c : Int) : fees_asked_1 F c = some (!decide (0 ≤ c ∧ c ≤ 1000000000)) := by
  show some (!(decide (c ≥ 0) && decide (c ≤ 1000000000))) = _
  rw [wb]
theorem asked_eq {F : Nat} (hF : 100 < F) (N : List Int) : fees_asked F N = some (askedV N) := by
  refine Ok.eq ?_
  unfold fees_asked askedV
  rw [within_eq, wb]
  refine ok_bnde rfl (ok_brk (fun hb => ok_some ?_) (fun hb => ?_))
  · rw [if_neg (by have := nd_true hb; omega)]
  have hl := nd_false hb
  rw [if_pos (by omega)]
  refine ok_join (by omega) (fun x : Int => (x = -1 ∧ NeedsB N) ∨ (0 ≤ x ∧ ¬ NeedsB N)) (fun x hx => ok_brk (fun hb => ok_some ?_) (fun hb => ok_some ?_)) fun k hk => ?_
  · have hb : x ≥ 0 := of_decide_eq_true hb
    rcases hx with ⟨rfl, _⟩ | ⟨_, q⟩
    · omega
    · rw [if_neg q]
  · have hb : ¬ x ≥ 0 := of_decide_eq_false hb
    rcases hx with ⟨_, q⟩ | ⟨q, _⟩
    · rw [if_pos q]
    · omega
  · refine ok_find (p := fun c => !decide (0 ≤ c ∧ c ≤ 1000000000)) (by omega) (by omega) (fun c _ => asked1_eq F c) (fun i hi hp => hk _ (.inr ⟨by omega, fun q => nd_true hp (q _ (getD_mem hi))⟩)) (fun hp => hk _ (.inl ⟨rfl, fun c hc => nd_false (hp c hc)⟩))
theorem needed_eq {F : Nat} (hF : 100 < F) (N : List Int) : ref12_needed F N = some (askedV N) := by
  refine Ok.eq ?_
  unfold ref12_needed askedV
  refine ok_brk (fun hb => ok_some ?_) (fun hb => ?_)
  · simp only [Bool.or_eq_true, decide_eq_true_eq] at hb
    rw [if_neg (by omega)]
  simp only [Bool.or_eq_false_iff, decide_eq_false_iff_not] at hb
  rw [if_pos (by omega)]
  refine ok_loop (fun x : Int => 0 ≤ x ∧ x ≤ N.length ∧ ∀ j : Nat, (j : Int) < x → 0 ≤ N.getD j 0 ∧ N.getD j 0 ≤ 1000000000) (fun x : Int => N.length - x.toNat) ⟨by simp, by simp, fun j hj => by omega⟩ (by simp; omega) ?_
  rintro i next ⟨i1, i2, i3⟩ hn
  refine ok_brk (fun hc => ?_) (fun hc => ok_some ?_)
  · have hc : i < N.length := of_decide_eq_true hc
    rw [refIn_eq, wb]
    refine ok_chk ⟨i1, hc⟩ (ok_bnde rfl (ok_brk (fun hb => ok_some ?_) (fun hb => ok_chk (show InR _ from ⟨by omega, by omega⟩) (hn _ ⟨by omega, by omega, fun j hj => ?_⟩ (by show N.length - (i + 1).toNat < N.length - i.toNat; omega)))))
    · rw [if_neg]
      intro q
      exact nd_true hb (q _ (getD_mem (d := 0) (show i.toNat < N.length by omega)))
    · by_cases e : (j : Int) < i
      · exact i3 j e
      · obtain rfl : j = i.toNat := by omega
        exact nd_false hb
  · have hc : ¬ i < N.length := of_decide_eq_false hc
    rw [if_pos]
    intro c hc
    obtain ⟨j, hj, rfl⟩ := List.getElem_of_mem hc
    have := i3 j (by omega)
    rwa [getD_get hj] at this

/-- The reference's share of a ship. -/
theorem refShare_eq {F : Nat} (hF : 100 < F) {N : List Int} (h2 : N.length ≤ 12) (h : NeedsB N) {s : Int} (hs : 0 ≤ s ∧ s < N.length) : ref12_share F N s = some (W N (N.getD s.toNat 0).toNat) := by
  refine Ok.eq ?_
  unfold ref12_share
  have hns := h.get s.toNat
  refine ok_loop (fun x : Int × Int => 0 ≤ x.1 ∧ x.1 ≤ N.getD s.toNat 0 ∧ x.2 = W N x.1.toNat ∧ (x.1 = 0 ∨ x.1 ∈ N)) (fun x => abv N x.1) ⟨by simp, hns.1, rfl, .inl rfl⟩ (by have := abv_le N 0; show abv N 0 < F; omega) ?_
  rintro ⟨a, o⟩ next ⟨i1, i2, i3, i4⟩ hnext
  simp only at i1 i2 i3 i4
  dsimp only
  refine ok_chk hs (ok_brk (fun ha => ?_) (fun ha => ok_some ?_))
  · have ha : a < N.getD s.toNat 0 := of_decide_eq_true ha
    refine ok_loop (fun x : Int × Int × Int => 0 ≤ x.2.1 ∧ x.2.1 ≤ N.length ∧ x.1 = (abv (N.take x.2.1.toNat) a : Int) ∧ ((x.2.2 = -1 ∧ x.1 = 0) ∨ (1 ≤ x.1 ∧ x.2.2 ∈ N ∧ a < x.2.2 ∧ ∀ j : Nat, (j : Int) < x.2.1 → a < N.getD j 0 → x.2.2 ≤ N.getD j 0))) (fun x : Int × Int × Int => N.length - x.2.1.toNat)
      ⟨by simp, by simp, rfl, .inl ⟨rfl, rfl⟩⟩ (by simp; omega) ?_
    rintro ⟨ab, i, nx⟩ next2 ⟨j1, j2, j3, j4⟩ hn
    simp only at j1 j2 j3 j4
    dsimp only
    have hab : ab ≤ 12 := by
      have := abv_le (N.take i.toNat) a
      have := List.length_take_le i.toNat N
      omega
    refine ok_brk (fun hc => ?_) (fun hc => ?_)
    · have hc : i < N.length := of_decide_eq_true hc
      have hi : i.toNat < N.length := by omega
      have hst : abv (N.take (i + 1).toNat) a = abv (N.take i.toNat) a + (if a < N.getD i.toNat 0 then 1 else 0) := by
        rw [show (i + 1).toNat = i.toNat + 1 by omega, take_succ' (d := 0) hi]
        unfold abv
        rw [List.filter_append, List.length_append]
        congr 1
        by_cases q : a < N.getD i.toNat 0
        · rw [if_pos q, List.filter_cons, if_pos (decide_eq_true q)]; rfl
        · rw [if_neg q, List.filter_cons, if_neg (by simpa using q)]; rfl
      refine ok_join (by omega) (fun x : Int × Int => x.1 = (abv (N.take (i + 1).toNat) a : Int) ∧ ((x.2 = -1 ∧ x.1 = 0) ∨ (1 ≤ x.1 ∧ x.2 ∈ N ∧ a < x.2 ∧ ∀ j : Nat, (j : Int) < i + 1 → a < N.getD j 0 → x.2 ≤ N.getD j 0))) (fun x hx => ok_chk (show InR (i + 1) from ⟨by omega, by omega⟩) (hn _ ⟨by show 0 ≤ i + 1; omega, by show i + 1 ≤ _; omega, hx⟩ (by show N.length - (i + 1).toNat < N.length - i.toNat; omega))) fun k hk => ?_
      refine ok_chk ⟨j1, hc⟩ (ok_brk (fun hb => ?_) (fun hb => hk _ ⟨?_, ?_⟩))
      · have hb : a < N.getD i.toNat 0 := of_decide_eq_true hb
        rw [if_pos hb] at hst
        refine ok_chk (show InR (ab + 1) from ⟨by omega, by omega⟩) (ok_chk (fun _ => ⟨j1, hc⟩) (ok_brk (fun hq => ok_chk ⟨j1, hc⟩ (hk _ ⟨by show ab + 1 = _; omega, .inr ⟨by show 1 ≤ ab + 1; omega, getD_mem hi, hb, fun j hj haj => ?_⟩⟩)) (fun hq => hk _ ⟨by show ab + 1 = _; omega, ?_⟩)))
        · show N.getD i.toNat 0 ≤ N.getD j 0
          simp only [Bool.or_eq_true, decide_eq_true_eq] at hq
          by_cases e2 : (j : Int) < i
          · rcases j4 with ⟨q1, q2⟩ | ⟨q1, q2, q3, q4⟩
            · exfalso
              have hmem : N.getD j 0 ∈ (N.take i.toNat).filter fun c => decide (a < c) := by
                rw [List.mem_filter]
                refine ⟨?_, decide_eq_true haj⟩
                rw [getD_get (by omega : j < N.length)]
                exact List.mem_take_iff_getElem.2 ⟨j, by omega, rfl⟩
              have : 0 < abv (N.take i.toNat) a := List.length_pos_of_mem hmem
              omega
            · have := q4 j e2 haj
              rcases hq with hq | hq <;> omega
          · obtain rfl : j = i.toNat := by omega
            exact Int.le_refl _
        · simp only [Bool.or_eq_false_iff, decide_eq_false_iff_not] at hq
          rcases j4 with ⟨q1, q2⟩ | ⟨q1, q2, q3, q4⟩
          · omega
          · refine .inr ⟨by show 1 ≤ ab + 1; omega, q2, q3, fun j hj haj => ?_⟩
            have hj : (j : Int) < i + 1 := hj
            by_cases e2 : (j : Int) < i
            · exact q4 j e2 haj
            · obtain rfl : j = i.toNat := by omega
              show nx ≤ N.getD i.toNat 0
              omega
      · have hb : ¬ a < N.getD i.toNat 0 := of_decide_eq_false hb
        rw [if_neg hb] at hst
        show ab = _
        omega
      · have hb : ¬ a < N.getD i.toNat 0 := of_decide_eq_false hb
        rcases j4 with q | ⟨q1, q2, q3, q4⟩
        · exact .inl q
        · refine .inr ⟨q1, q2, q3, fun j hj haj => ?_⟩
          have hj : (j : Int) < i + 1 := hj
          by_cases e2 : (j : Int) < i
          · exact q4 j e2 haj
          · obtain rfl : j = i.toNat := by omega
            exact absurd haj hb
    · have hc : ¬ i < N.length := of_decide_eq_false hc
      rw [List.take_of_length_le (by omega)] at j3
      have hpos : 0 < abv N a := List.length_pos_of_mem (List.mem_filter.2 ⟨getD_mem (d := 0) (show s.toNat < N.length by omega), decide_eq_true ha⟩)
      rcases j4 with ⟨q1, q2⟩ | ⟨q1, q2, q3, q4⟩
      · omega
      have hnx := h nx q2
      have hnxs : nx ≤ N.getD s.toNat 0 := q4 s.toNat (by omega) ha
      have hall : ∀ c ∈ N, c ≤ ((a.toNat : Nat) : Int) ∨ ((nx.toNat : Nat) : Int) ≤ c := fun c hc' => by
        obtain ⟨j, hj, rfl⟩ := List.getElem_of_mem hc'
        by_cases q : a < N[j]
        · have := q4 j (by omega) (by rw [getD_get hj]; exact q)
          rw [getD_get hj] at this
          exact .inr (by omega)
        · exact .inl (by omega)
      have hline := W_line (N := N) (a := a.toNat) (b := nx.toNat) (by omega) hall
      have e1 : ((a.toNat : Nat) : Int) = a := by omega
      have e2 : ((nx.toNat : Nat) : Int) = nx := by omega
      rw [e1, e2, ← j3, ← i3] at hline
      have hmx : (if (1 : Int) > ab then 1 else ab) = ab := by split <;> omega
      rw [hmx]
      have hb1 := W_le N nx.toNat
      have hb2 := W_nonneg N a.toNat
      have hb3 := W_nonneg N nx.toNat
      have hb4 := W_mono N (show a.toNat ≤ nx.toNat by omega)
      rw [← i3] at hb2 hb4
      generalize (nx - a) * (27720 / ab) = add at hline ⊢
      refine ok_chk (show InR _ from ⟨by omega, by omega⟩) (ok_chk ⟨⟨by omega, by omega⟩, by omega⟩ (ok_chk (show InR _ from ⟨by omega, by omega⟩) (ok_chk (show InR _ from ⟨by omega, by omega⟩) (hnext _ ⟨by show 0 ≤ nx; omega, hnxs, hline.symm, .inr q2⟩ (abv_drop q3 N q2)))))
  · have ha : ¬ a < N.getD s.toNat 0 := of_decide_eq_false ha
    rw [i3, show a = N.getD s.toNat 0 by omega]

/-! ### Fractions -/

def gcdI (a b : Int) : Int := (Nat.gcd a.toNat b.toNat : Int)
theorem gcdI_step {a b : Int} (ha : 0 ≤ a) (hb : 0 < b) : gcdI a b = gcdI b (a % b) := by
  unfold gcdI
  have h1 : (a % b).toNat = a.toNat % b.toNat := by
    have : a % b = ((a.toNat % b.toNat : Nat) : Int) := by
      rw [Int.natCast_emod, Int.toNat_of_nonneg ha, Int.toNat_of_nonneg (Int.le_of_lt hb)]
    rw [this]; exact Int.toNat_natCast _
  rw [h1, Nat.gcd_comm b.toNat, ← Nat.gcd_rec, Nat.gcd_comm]
theorem gcdI_zero {a : Int} (ha : 0 ≤ a) : gcdI a 0 = a := by
  unfold gcdI
  simp; omega

theorem refGcdR {F : Nat} : ∀ (n : Nat) (a b : Int), 0 ≤ a → a ≤ 9223372036854775807 → 0 ≤ b → b ≤ 9223372036854775807 → b.toNat < n → ref12_gcdR F n a b = some (gcdI a b)
  | n + 1, a, b, h1, h2, h3, h4, h5 => by
    show brk (b == 0) (some a) (chk ((0 ≤ a ∧ a ≤ 9223372036854775807) ∧ 0 < b) (bnd (ref12_gcdR F n b (a % b)) fun x => some x)) = _
    by_cases hb : b = 0
    · subst hb
      rw [gcdI_zero h1]; rfl
    · rw [show (b == 0) = false by simpa using hb, brk_false, chk_pos ⟨⟨h1, h2⟩, by omega⟩]
      have hm1 := Int.emod_nonneg a hb
      have hm2 := Int.emod_lt_of_pos a (show 0 < b by omega)
      rw [refGcdR n b (a % b) h3 h4 hm1 (by omega) (by omega), bnd_so, gcdI_step h1 (by omega)]

theorem refGcd_eq {F : Nat} (hF : 30000 < F) {a : Int} (h1 : 0 ≤ a) (h2 : a ≤ 9223372036854775807) : ref12_gcd F a 27720 = some (gcdI a 27720) :=
  refGcdR F a 27720 h1 h2 (by omega) (by omega) (by show (27720 : Nat) < F; omega)

theorem gcd_pos (a : Int) : 1 ≤ gcdI a 27720 := by
  have h : 0 < Nat.gcd a.toNat 27720 := Nat.gcd_pos_of_pos_right _ (by omega)
  show (1 : Int) ≤ (Nat.gcd a.toNat 27720 : Int)
  omega

def ratioV (n : Int) : Ratio := ⟨n / gcdI n 27720, 27720 / gcdI n 27720⟩
def exactR (N : List Int) : List Ratio := (shV N).map ratioV

theorem shV_bound {N : List Int} (h : NeedsB N) : ∀ x ∈ shV N, 0 ≤ x ∧ x ≤ 27720000000000 := by
  intro x hx
  obtain ⟨c, hc, rfl⟩ := List.mem_map.1 hx
  have h1 := W_nonneg N c.toNat
  have h2 := W_le N c.toNat
  have h3 := h c hc
  omega
theorem shV_get {N : List Int} {i : Nat} (hi : i < N.length) : (shV N).getD i 0 = W N (N.getD i 0).toNat := by
  unfold shV
  rw [getD_get (by simpa using hi), List.getElem_map, getD_get hi]
theorem shV_length (N : List Int) : (shV N).length = N.length := List.length_map _

theorem Exact_eq {F : Nat} (hF : 2000000000000 < F) (N : List Int) : fees_Exact F N = some (if askedV N = 0 then (exactR N, 0) else ([], askedV N)) := by
  refine Ok.eq ?_
  unfold fees_Exact
  refine ok_bnde (asked_eq (by omega) N) (ok_brk (fun hb => ok_some ?_) (fun hb => ?_))
  · rw [if_neg (by simpa using hb)]
  have hz : askedV N = 0 := by simpa using hb
  rw [if_pos hz]
  obtain ⟨h1, h2, h3⟩ := askedV_zero hz
  refine ok_bnde (exact_ok hF h1 h2 h3) ?_
  have hsl := shV_length N
  refine ok_loop (fun x : Int × List Ratio => 0 ≤ x.1 ∧ x.1 ≤ N.length ∧ x.2 = ((shV N).take x.1.toNat).map ratioV) (fun x => N.length - x.1.toNat) ⟨by simp, by simp, rfl⟩ (by simp; omega) ?_
  rintro ⟨i, o⟩ next ⟨i1, i2, i3⟩ hn
  simp only at i1 i2 i3
  dsimp only
  rw [hsl]
  refine ok_brk (fun hc => ?_) (fun hc => ok_some ?_)
  · have hc : i < N.length := of_decide_eq_true hc
    have hi : i.toNat < (shV N).length := by omega
    have hx := shV_bound h3 _ (getD_mem (d := 0) hi)
    have htk := take_succ' (d := 0) hi
    generalize (shV N).getD i.toNat 0 = x at hx htk ⊢
    refine ok_chk ⟨i1, hc⟩ ?_
    refine ok_loop (fun y : Int × Int => 0 ≤ y.1 ∧ y.1 ≤ 27720000000000 ∧ 0 ≤ y.2 ∧ y.2 ≤ 27720 ∧ gcdI y.1 y.2 = gcdI x 27720) (fun y => y.2.toNat) ⟨hx.1, hx.2, by simp, by simp, rfl⟩ (by show (27720 : Nat) < F; omega) ?_
    rintro ⟨a, b⟩ next2 ⟨j1, j2, j3, j4, j5⟩ hn2
    simp only at j1 j2 j3 j4 j5
    dsimp only
    refine ok_brk (fun hb => ?_) (fun hb => ?_)
    · have hb : b ≠ 0 := by simpa using hb
      have hm1 := Int.emod_nonneg a hb
      have hm2 := Int.emod_lt_of_pos a (show 0 < b by omega)
      exact ok_chk ⟨⟨j1, by omega⟩, by omega⟩ (hn2 _ ⟨j3, by show b ≤ _; omega, hm1, by show a % b ≤ _; omega, by rw [← gcdI_step j1 (by omega)]; exact j5⟩ (by show (a % b).toNat < b.toNat; omega))
    · have hb : b = 0 := by simpa using hb
      subst hb
      rw [gcdI_zero j1] at j5
      have hg := gcd_pos x
      rw [← j5] at hg
      refine ok_chk ⟨⟨hx.1, by omega⟩, by omega⟩ (ok_chk ⟨⟨by omega, by omega⟩, by omega⟩ (ok_chk ?_ (ok_chk (show InR _ from ⟨by omega, by omega⟩) (hn _ ⟨by show 0 ≤ i + 1; omega, by show i + 1 ≤ _; omega, ?_⟩ (by show N.length - (i + 1).toNat < N.length - i.toNat; omega)))))
      · rw [i3]; simp; omega
      · show o ++ [(⟨x / a, 27720 / a⟩ : Ratio)] = _
        rw [show (i + 1).toNat = i.toNat + 1 by omega, htk, List.map_append, ← i3, j5]; rfl
  · have hc : ¬ i < N.length := of_decide_eq_false hc
    rw [List.take_of_length_le (by omega)] at i3
    rw [i3]; rfl

theorem refExact_eq {F : Nat} (hF : 2000000000000 < F) (N : List Int) : ref12_Exact F N = some (if askedV N = 0 then (exactR N, 0) else ([], askedV N)) := by
  refine Ok.eq ?_
  unfold ref12_Exact
  refine ok_bnde (needed_eq (by omega) N) (ok_brk (fun hb => ok_some ?_) (fun hb => ?_))
  · rw [if_neg (by simpa using hb)]
  have hz : askedV N = 0 := by simpa using hb
  rw [if_pos hz]
  obtain ⟨h1, h2, h3⟩ := askedV_zero hz
  have hsl := shV_length N
  refine ok_loop (fun x : Int × List Ratio => 0 ≤ x.1 ∧ x.1 ≤ N.length ∧ x.2 = ((shV N).take x.1.toNat).map ratioV) (fun x => N.length - x.1.toNat) ⟨by simp, by simp, rfl⟩ (by simp; omega) ?_
  rintro ⟨i, o⟩ next ⟨i1, i2, i3⟩ hn
  simp only at i1 i2 i3
  dsimp only
  refine ok_brk (fun hc => ?_) (fun hc => ok_some ?_)
  · have hc : i < N.length := of_decide_eq_true hc
    have hi : i.toNat < (shV N).length := by omega
    have hx := shV_bound h3 _ (getD_mem (d := 0) hi)
    have htk := take_succ' (d := 0) hi
    refine ok_bnde (refShare_eq (by omega) h2 h3 ⟨i1, hc⟩) ?_
    rw [shV_get (by omega)] at hx htk
    generalize W N (N.getD i.toNat 0).toNat = x at hx htk ⊢
    have hg := gcd_pos x
    refine ok_bnde (refGcd_eq (by omega) hx.1 (by omega)) (ok_chk ⟨⟨hx.1, by omega⟩, by omega⟩ (ok_chk ⟨⟨by omega, by omega⟩, by omega⟩ (ok_chk ?_ (ok_chk (show InR _ from ⟨by omega, by omega⟩) (hn _ ⟨by show 0 ≤ i + 1; omega, by show i + 1 ≤ _; omega, ?_⟩ (by show N.length - (i + 1).toNat < N.length - i.toNat; omega))))))
    · rw [i3]; simp; omega
    · show o ++ [ratioV x] = _
      rw [show (i + 1).toNat = i.toNat + 1 by omega, htk, List.map_append, ← i3]; rfl
  · have hc : ¬ i < N.length := of_decide_eq_false hc
    rw [List.take_of_length_le (by omega)] at i3
    rw [i3]; rfl
end Go.Proofs.Fe

namespace Go.Proofs.Fe
open Go Go.KX

/-- Who gets a cent more: by what is left of the exact share. -/
def rk (N : List Int) (u : Int) : Int := -((shV N).getD u.toNat 0 % 27720)
def baseV (N : List Int) : List Int := (shV N).map fun x => x / 27720
def leftV (N : List Int) (m : Int) : Int := m - sumL (baseV N)

structure ShareP (N rank : List Int) (m : Int) (o : List Int) : Prop where
  len : o.length = N.length
  sum : sumL o = m
  get : ∀ q : Nat, q < N.length → o.getD q 0 = (shV N).getD q 0 / 27720 + if (q : Int) ∈ rank.take (leftV N m).toNat then 1 else 0

theorem ShareP.one {N rank o p : List Int} {m : Int} (h : ShareP N rank m o) (h' : ShareP N rank m p) : o = p :=
  list_ext 0 (by rw [h.len, h'.len]) fun i hi => by rw [h.get i (by rw [← h.len]; exact hi), h'.get i (by rw [← h.len]; exact hi)]

theorem MaxOK.one {N : List Int} {m n : Int} (h : MaxOK N m) (h' : MaxOK N n) : m = n := by
  have h1 := h.2 _ h'.1
  have h2 := h'.2 _ h.1
  omega

theorem rem_parts : ∀ l : List Int, sumL l = 27720 * sumL (l.map fun x => x / 27720) + sumL (l.map fun x => x % 27720)
  | [] => rfl
  | x :: l => by
    have ih := rem_parts l
    simp only [List.map_cons, sumL]
    omega
theorem rem_le : ∀ l : List Int, 0 ≤ sumL (l.map fun x => x % 27720) ∧ sumL (l.map fun x => x % 27720) ≤ 27719 * l.length
  | [] => by simp [sumL]
  | x :: l => by
    have ih := rem_le l
    simp only [List.map_cons, sumL, List.length_cons]
    push_cast
    omega

theorem left_bound {N : List Int} {m : Int} (h2 : N.length ≤ 12) (h : NeedsB N) (hm : MaxOK N m) : 0 ≤ leftV N m ∧ leftV N m ≤ N.length ∧ 27720 * leftV N m = sumL ((shV N).map fun x => x % 27720) := by
  have e : sumL (shV N) = 27720 * m := shares_sum h2 (fun c hc => (h c hc).1) hm
  have p := rem_parts (shV N)
  have q := rem_le (shV N)
  rw [shV_length] at q
  unfold leftV baseV
  omega

theorem baseV_length (N : List Int) : (baseV N).length = N.length := by rw [baseV, List.length_map, shV_length]
theorem baseV_get {N : List Int} {i : Nat} (hi : i < N.length) : (baseV N).getD i 0 = (shV N).getD i 0 / 27720 := by
  have h1 : i < (shV N).length := by rw [shV_length]; exact hi
  unfold baseV
  rw [getD_get (by simpa using h1), List.getElem_map, getD_get h1]
theorem baseV_bound {N : List Int} (h : NeedsB N) : ∀ x ∈ baseV N, 0 ≤ x ∧ x ≤ 1000000000 := by
  intro x hx
  obtain ⟨c, hc, rfl⟩ := List.mem_map.1 hx
  have := shV_bound h c hc
  omega
theorem shV_getb {N : List Int} (h : NeedsB N) (i : Nat) : 0 ≤ (shV N).getD i 0 ∧ (shV N).getD i 0 ≤ 27720000000000 := by
  by_cases hi : i < (shV N).length
  · exact shV_bound h _ (getD_mem hi)
  · simp [List.getD_eq_getElem?_getD, List.getElem?_eq_none (Nat.le_of_not_lt hi)]

theorem sumL_sub {l : List Int} {B : Int} (hB : 0 ≤ B) (h : ∀ x ∈ l, 0 ≤ x ∧ x ≤ B) (hl : l.length ≤ 20) (i : Nat) : 0 ≤ sumL (l.take i) ∧ sumL (l.take i) ≤ B * 20 := by
  have h1 := sumL_nonneg (l.take i) fun x hx => (h x (List.mem_of_mem_take hx)).1
  have h2 := sumL_le (B := B) (l.take i) fun x hx => (h x (List.mem_of_mem_take hx)).2
  have h3 : (l.take i).length ≤ l.length := by rw [List.length_take]; omega
  have h4 : B * ((l.take i).length : Int) ≤ B * 20 := Int.mul_le_mul_of_nonneg_left (by omega) hB
  omega

/-- One cent more to the next one. -/
theorem share_step {N rank o : List Int} {n : Nat} (hs : Sorted (rk N) n rank) {k : Nat} (hk : k < n) (hl : o.length = n) {v : Int}
    (ho : ∀ q : Nat, q < n → o.getD q 0 = (shV N).getD q 0 / 27720 + if (q : Int) ∈ rank.take k then 1 else 0) (hv : v = o.getD (rank.getD k 0).toNat 0 + 1) :
    ∀ q : Nat, q < n → (o.set (rank.getD k 0).toNat v).getD q 0 = (shV N).getD q 0 / 27720 + if (q : Int) ∈ rank.take (k + 1) then 1 else 0 := by
  intro q hq
  have hll := hs.length
  have hm : 0 ≤ rank.getD k 0 ∧ rank.getD k 0 < n := hs.mem.1 (getD_mem (by omega))
  have htk : rank.take (k + 1) = rank.take k ++ [rank.getD k 0] := take_succ' (by omega)
  have hnew : ¬ rank.getD k 0 ∈ rank.take k := fun hx => by
    have hp : (rank.take (k + 1)).Pairwise (Lx (rk N)) := hs.pw.sublist (List.take_sublist _ _)
    rw [htk, List.pairwise_append] at hp
    exact (hp.2.2 _ hx _ (by simp)).irrefl
  rw [getD_set' (by omega), htk]
  by_cases e : (rank.getD k 0).toNat = q
  · have e2 : ((q : Nat) : Int) = rank.getD k 0 := by omega
    rw [if_pos e, if_pos (by rw [e2]; simp), hv, e, ho q hq, e2, if_neg hnew]; omega
  · rw [if_neg e, ho q hq]
    congr 1
    by_cases e2 : (q : Int) ∈ rank.take k
    · rw [if_pos e2, if_pos (List.mem_append_left _ e2)]
    · rw [if_neg e2, if_neg (fun q3 => by
        rcases List.mem_append.1 q3 with q4 | q4
        · exact e2 q4
        · have := List.mem_singleton.1 q4
          omega)]

set_option maxHeartbeats 1000000 in
theorem Share_ok {F : Nat} (hF : 2000000000000 < F) (N : List Int) : Ok (fun r : List Int × Int => (askedV N ≠ 0 ∧ r = ([], askedV N)) ∨ (askedV N = 0 ∧ r.2 = 0 ∧ ∃ m rank, MaxOK N m ∧ Sorted (rk N) N.length rank ∧ ShareP N rank m r.1)) (fees_Share F N) := by
  unfold fees_Share
  refine ok_bnde (asked_eq (by omega) N) (ok_brk (fun hb => ok_some ?_) (fun hb => ?_))
  · exact .inl ⟨by simpa using hb, rfl⟩
  have hz : askedV N = 0 := by simpa using hb
  obtain ⟨h1, h2, h⟩ := askedV_zero hz
  refine ok_bnde (exact_ok hF h1 h2 h) (ok_bnd (MaxOK N) (max_ok (by omega) (by omega) h1) fun m hm => ?_)
  obtain ⟨n, hn⟩ : ∃ n, N.length = n := ⟨_, rfl⟩
  have hsl : (shV N).length = n := by rw [shV_length, hn]
  have hmb := h m hm.1
  obtain ⟨lb1, lb2, -⟩ := left_bound h2 h hm
  rw [hn] at lb2
  rw [hsl]
  refine ok_chk ⟨by omega, by omega, by omega⟩ (ok_chk ⟨by omega, by omega, by omega⟩ ?_)
  refine ok_loop (fun x : Int × Int × List Int × List Int => 0 ≤ x.2.1 ∧ x.2.1 ≤ n ∧ x.2.2.1.length = n ∧ x.2.2.2.length = n ∧ (∀ q : Nat, (q : Int) < x.2.1 → x.2.2.1.getD q 0 = q) ∧ (∀ q : Nat, (q : Int) < x.2.1 → x.2.2.2.getD q 0 = (baseV N).getD q 0) ∧ x.1 = m - sumL ((baseV N).take x.2.1.toNat)) (fun x => n - x.2.1.toNat)
    ⟨by simp, by show (0 : Int) ≤ n; omega, by simp, by simp, fun q hq => by (have hq : (q : Int) < 0 := hq); omega, fun q hq => by (have hq : (q : Int) < 0 := hq); omega, by simp [sumL]⟩ (by simp; omega) ?_
  rintro ⟨left, i, rank, out⟩ next ⟨i1, i2, i3, i4, i5, i6, i7⟩ hnx
  simp only at i1 i2 i3 i4 i5 i6 i7
  dsimp only
  have hbl : (baseV N).length = n := by rw [baseV_length, hn]
  have hsb := fun i => sumL_sub (B := 1000000000) (by omega) (baseV_bound h) (by omega) i
  refine ok_brk (fun hc => ?_) (fun hc => ?_)
  · have hc : i < n := of_decide_eq_true hc
    have hi : i.toNat < n := by omega
    have hx := shV_getb h i.toNat
    have hg : (baseV N).getD i.toNat 0 = (shV N).getD i.toNat 0 / 27720 := baseV_get (by omega)
    have htk : sumL ((baseV N).take (i + 1).toNat) = sumL ((baseV N).take i.toNat) + (baseV N).getD i.toNat 0 := by
      rw [show (i + 1).toNat = i.toNat + 1 by omega, take_succ' (d := 0) (by omega), sumL_append]
      simp [sumL]
    have s1 := hsb i.toNat
    have hv : (out.set i.toNat ((shV N).getD i.toNat 0 / 27720)).getD i.toNat 0 = (shV N).getD i.toNat 0 / 27720 := by rw [getD_set' (by omega), if_pos rfl]
    rw [hv]
    refine ok_chk ⟨i1, hc⟩ (ok_chk ⟨hx.1, by omega⟩ (ok_chk ⟨i1, by omega⟩ (ok_chk ⟨i1, by omega⟩ (ok_chk ⟨i1, by rw [List.length_set]; omega⟩ (ok_chk (show InR _ from ⟨by omega, by omega⟩) (ok_chk (show InR _ from ⟨by omega, by omega⟩) (hnx _ ⟨by show 0 ≤ i + 1; omega, by show i + 1 ≤ n; omega, by show (rank.set _ _).length = n; rw [List.length_set]; exact i3, by show (out.set _ _).length = n; rw [List.length_set]; exact i4, fun q hq => ?_, fun q hq => ?_, ?_⟩ (by show n - (i + 1).toNat < n - i.toNat; omega))))))))
    · have hq : (q : Int) < i + 1 := hq
      show (rank.set i.toNat i).getD q 0 = q
      rw [getD_set' (by omega)]
      by_cases e : i.toNat = q
      · rw [if_pos e]; omega
      · rw [if_neg e]; exact i5 q (by omega)
    · have hq : (q : Int) < i + 1 := hq
      show (out.set i.toNat _).getD q 0 = _
      rw [getD_set' (by omega)]
      by_cases e : i.toNat = q
      · rw [if_pos e, ← e, hg]
      · rw [if_neg e]; exact i6 q (by omega)
    · show left - _ = m - sumL ((baseV N).take (i + 1).toNat)
      rw [htk, hg, i7]; omega
  have hc : ¬ i < n := of_decide_eq_false hc
  have ho : rank = upto n := tab_ext 0 i3 fun q hq => i5 q (by omega)
  have hout : out = baseV N := list_ext 0 (by omega) fun q hq => i6 q (by omega)
  rw [List.take_of_length_le (by omega)] at i7
  have hleft : left = leftV N m := i7
  clear hnx i5 i6 i7
  subst hout
  rw [ho, upto_length, hleft]
  refine ok_loop (fun x : Int × Int => x = (20, 0)) (fun _ => 0) rfl (by omega) ?_
  rintro _ next rfl hnx
  clear hnx next
  refine ok_brkF (decide_eq_false (by show ¬ (20 : Int) ≤ n; omega)) (ok_chk (show InR (0 + 1) from ⟨by omega, by omega⟩) ?_)
  refine ok_loop (fun x : Int × List Int => 1 ≤ x.1 ∧ x.1 ≤ n ∧ SortI (rk N) n x.1.toNat x.2) (fun x => n - x.1.toNat)
    ⟨by simp, by show (0 : Int) + 1 ≤ n; omega, SortI.one _ (by omega)⟩ (by simp; omega) ?_
  rintro ⟨i, l⟩ next ⟨i1, i2, i3⟩ hnx
  simp only at i1 i2 i3
  dsimp only
  refine ok_brk (fun hc => ?_) (fun hc => ?_)
  · have hc : i < n := of_decide_eq_true hc
    have hi : i.toNat < n := by omega
    have hst := i3.start hi
    refine ok_loop (fun x : Int × List Int => InsI (rk N) n i.toNat x.1 x.2) (fun x => x.1.toNat)
      (by rw [show ((i.toNat : Nat) : Int) = i by omega] at hst; exact hst) (by show i.toNat < F; omega) ?_
    rintro ⟨j, l⟩ next2 hI hn2
    simp only at hI
    dsimp only
    obtain ⟨f1, f2, f3, f4, f5⟩ := hI.facts hi
    have go : SortI (rk N) n (i.toNat + 1) l → Ok _ (chk (InR (i + 1)) (next (i + 1, l))) := fun q =>
      ok_chk (show InR _ from ⟨by omega, by omega⟩) (hnx _ ⟨by show 1 ≤ i + 1; omega, by show i + 1 ≤ n; omega, by show SortI _ n (i + 1).toNat l; rw [show (i + 1).toNat = i.toNat + 1 by omega]; exact q⟩ (by show n - (i + 1).toNat < n - i.toNat; omega))
    refine ok_brk (fun hb => ?_) (fun hb => ?_)
    · have hb : j > 0 := of_decide_eq_true hb
      have g := f5 hb
      have hv : 0 ≤ l.getD j.toNat 0 ∧ l.getD j.toNat 0 < n := by rw [f4]; omega
      have kv := shV_getb h (l.getD j.toNat 0).toNat
      have ku := shV_getb h (l.getD (j - 1).toNat 0).toNat
      refine ok_chk ⟨f2, by omega⟩ (ok_chk (show InR _ from ⟨by omega, by omega⟩) (ok_chk ⟨by omega, by omega⟩ (ok_chk ⟨g.1, by omega⟩ (ok_chk ⟨ku.1, by omega⟩ (ok_chk hv (ok_chk ⟨kv.1, by omega⟩ (ok_chk (show InR _ from ⟨by omega, by omega⟩) (ok_brk (fun hd => ?_) (fun hd => ?_)))))))))
      · have hd := of_decide_eq_true hd
        refine ok_chk (show InR _ from ⟨by omega, by omega⟩) (ok_chk (show InR _ from ⟨by omega, by omega⟩) (ok_chk ⟨by omega, by omega⟩ (ok_chk ⟨by omega, by omega⟩ (ok_chk ⟨by omega, by omega⟩ (ok_chk ⟨by omega, by rw [List.length_set]; omega⟩ (ok_chk (show InR _ from ⟨by omega, by omega⟩) (hn2 _ (hI.swap hb (by unfold rk; omega)) (by show (j - 1).toNat < j.toNat; omega))))))))
      · have hd := of_decide_eq_false hd
        refine go (hI.stop (.inr ?_))
        unfold rk
        rw [← f4]; omega
    · have hb : ¬ j > 0 := of_decide_eq_false hb
      exact go (hI.stop (.inl (by omega)))
  have hc : ¬ i < n := of_decide_eq_false hc
  have hs : Sorted (rk N) n l := SortI.done (by rw [show i.toNat = n by omega] at i3; exact i3)
  clear hnx i3
  refine ok_loop (fun x : Int => x = 20) (fun _ => 0) rfl (by omega) ?_
  rintro _ next rfl hnx
  clear hnx next
  have hll := hs.length
  refine ok_brkF (decide_eq_false (by omega)) (ok_chk ⟨by omega, lb1, by omega⟩ ?_)
  refine ok_loop (fun x : Int × List Int => 0 ≤ x.1 ∧ x.1 ≤ leftV N m ∧ x.2.length = n ∧ sumL x.2 = sumL (baseV N) + x.1 ∧ ∀ q : Nat, q < n → x.2.getD q 0 = (shV N).getD q 0 / 27720 + if (q : Int) ∈ l.take x.1.toNat then 1 else 0) (fun x => n - x.1.toNat)
    ⟨by simp, lb1, hbl, by simp, fun q hq => by
      show (baseV N).getD q 0 = _ + if (q : Int) ∈ l.take 0 then 1 else 0
      rw [baseV_get (by omega)]; simp⟩ (by simp; omega) ?_
  rintro ⟨k, o⟩ next ⟨k1, k2, k3, k4, k5⟩ hnx
  simp only at k1 k2 k3 k4 k5
  dsimp only
  refine ok_brk (fun hb => ?_) (fun hb => ok_some ?_)
  · have hb : k < leftV N m - 0 := of_decide_eq_true hb
    have hk : k.toNat < n := by omega
    rw [show (0 + k).toNat = k.toNat by omega]
    have hu : 0 ≤ l.getD k.toNat 0 ∧ l.getD k.toNat 0 < n := hs.mem.1 (getD_mem (by omega))
    have hob : 0 ≤ o.getD (l.getD k.toNat 0).toNat 0 ∧ o.getD (l.getD k.toNat 0).toNat 0 ≤ 1000000001 := by
      rw [k5 _ (by omega)]
      have := shV_getb h (l.getD k.toNat 0).toNat
      split <;> omega
    refine ok_chk ⟨k1, by omega⟩ (ok_chk ⟨hu.1, by omega⟩ (ok_chk (show InR _ from ⟨by omega, by omega⟩) (ok_chk ⟨hu.1, by omega⟩ (ok_chk (show InR _ from ⟨by omega, by omega⟩) (hnx _ ⟨by show 0 ≤ k + 1; omega, by show k + 1 ≤ leftV N m; omega, by show (o.set _ _).length = n; rw [List.length_set]; exact k3, ?_, ?_⟩ (by show n - (k + 1).toNat < n - k.toNat; omega))))))
    · show sumL (o.set _ _) = _ + (k + 1)
      rw [sumL_set _ _ _ (by omega), k4]; omega
    · show ∀ q : Nat, q < n → (o.set _ _).getD q 0 = (shV N).getD q 0 / 27720 + if (q : Int) ∈ l.take (k + 1).toNat then 1 else 0
      rw [show (k + 1).toNat = k.toNat + 1 by omega]
      exact share_step hs hk k3 k5 rfl
  · have hb : ¬ k < leftV N m - 0 := of_decide_eq_false hb
    obtain rfl : k = leftV N m := by omega
    refine .inr ⟨hz, rfl, m, l, hm, by rw [hn]; exact hs, ⟨by rw [hn]; exact k3, ?_, fun q hq => k5 q (by omega)⟩⟩
    rw [k4]; unfold leftV; omega

set_option maxHeartbeats 1000000 in
theorem refShareE_ok {F : Nat} (hF : 2000000000000 < F) (N : List Int) : Ok (fun r : List Int × Int => (askedV N ≠ 0 ∧ r = ([], askedV N)) ∨ (askedV N = 0 ∧ r.2 = 0 ∧ ∃ m, MaxOK N m ∧ ∀ rank, Sorted (rk N) N.length rank → ShareP N rank m r.1)) (ref12_Share F N) := by
  unfold ref12_Share
  refine ok_bnde (needed_eq (by omega) N) (ok_brk (fun hb => ok_some ?_) (fun hb => ?_))
  · exact .inl ⟨by simpa using hb, rfl⟩
  have hz : askedV N = 0 := by simpa using hb
  obtain ⟨h1, h2, h⟩ := askedV_zero hz
  obtain ⟨n, hn⟩ : ∃ n, N.length = n := ⟨_, rfl⟩
  have hsl : (shV N).length = n := by rw [shV_length, hn]
  have hbl : (baseV N).length = n := by rw [baseV_length, hn]
  have hsb := fun i => sumL_sub (B := 1000000000) (by omega) (baseV_bound h) (by omega) i
  rw [hn]
  refine ok_loop (fun x : Int × Int => 0 ≤ x.1 ∧ x.1 ≤ n ∧ ((x.1 = 0 ∧ x.2 = 0) ∨ x.2 ∈ N) ∧ ∀ j : Nat, (j : Int) < x.1 → N.getD j 0 ≤ x.2) (fun x => n - x.1.toNat)
    ⟨by simp, by show (0 : Int) ≤ n; omega, .inl ⟨rfl, rfl⟩, fun j hj => by (have hj : (j : Int) < 0 := hj); omega⟩ (by simp; omega) ?_
  rintro ⟨i, b⟩ next ⟨i1, i2, i3, i4⟩ hnx
  simp only at i1 i2 i3 i4
  dsimp only
  refine ok_brk (fun hc => ?_) (fun hc => ?_)
  · have hc : i < n := of_decide_eq_true hc
    refine ok_chk ⟨i1, hc⟩ (ok_chk (show InR _ from ⟨by omega, by omega⟩) (hnx _ ⟨by show 0 ≤ i + 1; omega, by show i + 1 ≤ n; omega, .inr ?_, fun j hj => ?_⟩ (by show n - (i + 1).toNat < n - i.toNat; omega)))
    · show (if N.getD i.toNat 0 > b then N.getD i.toNat 0 else b) ∈ N
      have hm : N.getD i.toNat 0 ∈ N := getD_mem (by omega)
      split
      · exact hm
      · rcases i3 with ⟨q1, q2⟩ | q
        · have := (h _ hm).1
          rw [show b = N.getD i.toNat 0 by omega]; exact hm
        · exact q
    · have hj : (j : Int) < i + 1 := hj
      show N.getD j 0 ≤ if N.getD i.toNat 0 > b then N.getD i.toNat 0 else b
      by_cases e : (j : Int) < i
      · have := i4 j e
        split <;> omega
      · obtain rfl : j = i.toNat := by omega
        split <;> omega
  have hc : ¬ i < n := of_decide_eq_false hc
  have hm : MaxOK N b := by
    refine ⟨?_, fun c hc => ?_⟩
    · rcases i3 with q | q
      · omega
      · exact q
    · obtain ⟨j, hj, rfl⟩ := List.getElem_of_mem hc
      have := i4 j (by omega)
      rwa [getD_get hj] at this
  clear hnx i3 i4
  obtain ⟨lb1, lb2, -⟩ := left_bound h2 h hm
  have hmb := h b hm.1
  refine ok_loop (fun x : List Int × Int × Int × List Int => 0 ≤ x.2.2.1 ∧ x.2.2.1 ≤ n ∧ x.1 = ((shV N).map fun x => x % 27720).take x.2.2.1.toNat ∧ x.2.2.2 = (baseV N).take x.2.2.1.toNat ∧ x.2.1 = b - sumL ((baseV N).take x.2.2.1.toNat)) (fun x => n - x.2.2.1.toNat)
    ⟨by simp, by show (0 : Int) ≤ n; omega, rfl, rfl, by simp [sumL]⟩ (by simp; omega) ?_
  rintro ⟨rm, left, i, out⟩ next ⟨i1, i2, i3, i4, i5⟩ hnx
  simp only at i1 i2 i3 i4 i5
  dsimp only
  refine ok_brk (fun hc => ?_) (fun hc => ?_)
  · have hc : i < n := of_decide_eq_true hc
    have hi : i.toNat < n := by omega
    refine ok_bnde (refShare_eq (by omega) h2 h ⟨i1, by omega⟩) ?_
    rw [← shV_get (by omega)]
    have hx := shV_getb h i.toNat
    have hg : (baseV N).getD i.toNat 0 = (shV N).getD i.toNat 0 / 27720 := baseV_get (by omega)
    have hg2 : ((shV N).map fun x => x % 27720).getD i.toNat 0 = (shV N).getD i.toNat 0 % 27720 := by
      rw [getD_get (by simpa using (by omega : i.toNat < (shV N).length)), List.getElem_map, getD_get (by omega)]
    have e1 : (baseV N).take (i + 1).toNat = (baseV N).take i.toNat ++ [(shV N).getD i.toNat 0 / 27720] := by
      rw [show (i + 1).toNat = i.toNat + 1 by omega, take_succ' (d := 0) (by omega), hg]
    have e2 : ((shV N).map fun x => x % 27720).take (i + 1).toNat = ((shV N).map fun x => x % 27720).take i.toNat ++ [(shV N).getD i.toNat 0 % 27720] := by
      rw [show (i + 1).toNat = i.toNat + 1 by omega, take_succ' (d := 0) (by simp; omega), hg2]
    have s1 := hsb i.toNat
    have l1 : rm.length ≤ n := by rw [i3]; simp; omega
    have l2 : out.length ≤ n := by rw [i4]; simp; omega
    refine ok_chk ⟨hx.1, by omega⟩ (ok_chk (by simp; omega) (ok_chk ⟨hx.1, by omega⟩ (ok_chk (by simp; omega) (ok_chk ⟨hx.1, by omega⟩ (ok_chk (show InR _ from ⟨by omega, by omega⟩) (ok_chk (show InR _ from ⟨by omega, by omega⟩) (hnx _ ⟨by show 0 ≤ i + 1; omega, by show i + 1 ≤ n; omega, ?_, ?_, ?_⟩ (by show n - (i + 1).toNat < n - i.toNat; omega))))))))
    · show rm ++ _ = _
      rw [e2, i3]
    · show out ++ _ = _
      rw [e1, i4]
    · show left - _ = b - sumL ((baseV N).take (i + 1).toNat)
      rw [e1, sumL_append, i5]; simp [sumL]; omega
  have hc : ¬ i < n := of_decide_eq_false hc
  rw [List.take_of_length_le (by simp; omega)] at i3
  rw [List.take_of_length_le (by omega)] at i4 i5
  have hleft : left = leftV N b := i5
  clear hnx i5
  subst i3 i4
  rw [hleft]
  -- for each order
  refine Ok.mono (post := fun r : List Int × Int => r.2 = 0 ∧ ∀ rank, Sorted (rk N) n rank → ShareP N rank b r.1) ?_ fun r hr => .inr ⟨hz, hr.1, b, hm, hr.2⟩
  refine ok_loop (fun x : Int × List Int × List Int => 0 ≤ x.1 ∧ x.1 ≤ leftV N b ∧ x.2.1.length = n ∧ x.2.2.length = n ∧ sumL x.2.2 = sumL (baseV N) + (leftV N b - x.1) ∧ (∀ q : Nat, q < n → 0 ≤ x.2.2.getD q 0 ∧ x.2.2.getD q 0 ≤ 1000000000 + (leftV N b - x.1)) ∧ ∀ rank, Sorted (rk N) n rank →
      (∀ q : Nat, q < n → x.2.1.getD q 0 = if (q : Int) ∈ rank.take (leftV N b - x.1).toNat then -1 else (shV N).getD q 0 % 27720) ∧
      ∀ q : Nat, q < n → x.2.2.getD q 0 = (shV N).getD q 0 / 27720 + if (q : Int) ∈ rank.take (leftV N b - x.1).toNat then 1 else 0) (fun x => x.1.toNat)
    ⟨lb1, Int.le_refl _, by simpa using hsl, hbl, by simp, fun q hq => by
      show 0 ≤ (baseV N).getD q 0 ∧ (baseV N).getD q 0 ≤ 1000000000 + (leftV N b - leftV N b)
      have := baseV_bound h _ (getD_mem (d := 0) (show q < (baseV N).length by omega))
      omega, fun rank hr => ⟨fun q hq => by
        show ((shV N).map fun x => x % 27720).getD q 0 = if (q : Int) ∈ rank.take (leftV N b - leftV N b).toNat then -1 else _
        rw [getD_get (by simpa using (by omega : q < (shV N).length)), List.getElem_map, getD_get (by omega), Int.sub_self]; simp, fun q hq => by
        show (baseV N).getD q 0 = _ + if (q : Int) ∈ rank.take (leftV N b - leftV N b).toNat then 1 else 0
        rw [baseV_get (by omega), Int.sub_self]; simp⟩⟩ (by show (leftV N b).toNat < F; omega) ?_
  rintro ⟨lf, rm, out⟩ next ⟨i1, i2, i3, i4, i5, i6, i7⟩ hnx
  simp only at i1 i2 i3 i4 i5 i6 i7
  dsimp only
  rw [i3, i4]
  refine ok_brk (fun hc => ?_) (fun hc => ok_some ⟨rfl, fun rank hr => ?_⟩)
  · have hc : lf > 0 := of_decide_eq_true hc
    refine ok_loop (fun x : Int × Int => 0 ≤ x.1 ∧ x.1 ≤ n ∧ 0 ≤ x.2 ∧ x.2 ≤ x.1 ∧ x.2 < n ∧ ∀ j : Nat, (j : Int) < x.1 → rm.getD j 0 ≤ rm.getD x.2.toNat 0 ∧ ((j : Int) < x.2 → rm.getD j 0 < rm.getD x.2.toNat 0)) (fun x => n - x.1.toNat)
      ⟨by simp, by show (0 : Int) ≤ n; omega, by simp, by simp, by show (0 : Int) < n; omega, fun j hj => by (have hj : (j : Int) < 0 := hj); omega⟩ (by simp; omega) ?_
    rintro ⟨i, y⟩ next2 ⟨j1, j2, j3, j4, j5, j6⟩ hn2
    simp only at j1 j2 j3 j4 j5 j6
    dsimp only
    refine ok_brk (fun hd => ?_) (fun hd => ?_)
    · have hd : i < n := of_decide_eq_true hd
      refine ok_join (by omega) (fun z : Int => 0 ≤ z ∧ z ≤ i + 1 ∧ z < n ∧ ∀ j : Nat, (j : Int) < i + 1 → rm.getD j 0 ≤ rm.getD z.toNat 0 ∧ ((j : Int) < z → rm.getD j 0 < rm.getD z.toNat 0)) (fun z hz => ok_chk (show InR _ from ⟨by omega, by omega⟩) (hn2 _ ⟨by show 0 ≤ i + 1; omega, by show i + 1 ≤ n; omega, hz.1, hz.2.1, hz.2.2.1, hz.2.2.2⟩ (by show n - (i + 1).toNat < n - i.toNat; omega))) fun k hk => ?_
      refine ok_chk ⟨j1, hd⟩ (ok_chk ⟨j3, j5⟩ (ok_brk (fun hb => ?_) (fun hb => ?_)))
      · have hb := of_decide_eq_true hb
        refine hk _ ⟨j1, by omega, hd, fun j hj => ?_⟩
        by_cases e : (j : Int) < i
        · have := j6 j e
          exact ⟨by omega, fun _ => by omega⟩
        · obtain rfl : j = i.toNat := by omega
          exact ⟨Int.le_refl _, fun q => by omega⟩
      · have hb := of_decide_eq_false hb
        refine hk _ ⟨j3, by omega, j5, fun j hj => ?_⟩
        by_cases e : (j : Int) < i
        · exact j6 j e
        · obtain rfl : j = i.toNat := by omega
          exact ⟨by omega, fun q => by omega⟩
    have hd : ¬ i < n := of_decide_eq_false hd
    have hob := i6 y.toNat (by omega)
    refine ok_chk ⟨j3, j5⟩ (ok_chk (show InR _ from ⟨by omega, by omega⟩) (ok_chk ⟨j3, j5⟩ (ok_chk ⟨j3, j5⟩ (ok_chk (show InR _ from ⟨by omega, by omega⟩) (hnx _ ⟨by show 0 ≤ lf - 1; omega, by show lf - 1 ≤ _; omega, by show (rm.set _ _).length = n; rw [List.length_set]; exact i3, by show (out.set _ _).length = n; rw [List.length_set]; exact i4, ?_, fun q hq => ?_, fun rank hr => ?_⟩ (by show (lf - 1).toNat < lf.toNat; omega))))))
    · show sumL (out.set _ _) = _ + (leftV N b - (lf - 1))
      rw [sumL_set _ _ _ (by omega), i5]; omega
    · show 0 ≤ (out.set _ _).getD q 0 ∧ (out.set _ _).getD q 0 ≤ 1000000000 + (leftV N b - (lf - 1))
      have := i6 q hq
      rw [getD_set' (by omega)]
      split <;> omega
    · obtain ⟨r1, r2⟩ := i7 rank hr
      have hll := hr.length
      -- it is the next one
      obtain ⟨k, hk⟩ : ∃ k : Nat, (leftV N b - lf).toNat = k := ⟨_, rfl⟩
      have hk' : (leftV N b - (lf - 1)).toNat = k + 1 := by omega
      have hkn : k < n := by omega
      rw [hk] at r1 r2
      have hy : y = rank.getD k 0 := by
        have hu : 0 ≤ rank.getD k 0 ∧ rank.getD k 0 < n := hr.mem.1 (getD_mem (by omega))
        have hnew : ¬ rank.getD k 0 ∈ rank.take k := fun hx => by
          have hp : (rank.take (k + 1)).Pairwise (Lx (rk N)) := hr.pw.sublist (List.take_sublist _ _)
          rw [take_succ' (d := 0) (by omega), List.pairwise_append] at hp
          exact (hp.2.2 _ hx _ (by simp)).irrefl
        have hru := r1 (rank.getD k 0).toNat (by omega)
        rw [show (((rank.getD k 0).toNat : Nat) : Int) = rank.getD k 0 by omega, if_neg hnew] at hru
        have hry := r1 y.toNat (by omega)
        rw [show ((y.toNat : Nat) : Int) = y by omega] at hry
        have hle := j6 (rank.getD k 0).toNat (by omega)
        rw [show (((rank.getD k 0).toNat : Nat) : Int) = rank.getD k 0 by omega] at hle
        have h0 : 0 ≤ (shV N).getD (rank.getD k 0).toNat 0 % 27720 := Int.emod_nonneg _ (by omega)
        by_cases e : y ∈ rank.take k
        · rw [if_pos e] at hry
          omega
        · rw [if_neg e] at hry
          have hym : y ∈ rank := hr.mem.2 ⟨j3, j5⟩
          rw [← List.take_append_drop k rank] at hym
          rcases List.mem_append.1 hym with q | q
          · exact absurd q e
          · rw [drop_get (d := 0) (by omega)] at q
            rcases List.mem_cons.1 q with q | q
            · exact q
            · have hp : (rank.drop k).Pairwise (Lx (rk N)) := hr.pw.sublist (List.drop_sublist _ _)
              rw [drop_get (d := 0) (by omega)] at hp
              have := (List.pairwise_cons.1 hp).1 y q
              unfold Lx rk at this
              exfalso
              rcases this with t | ⟨t1, t2⟩
              · omega
              · have := hle.2 t2
                omega
      show (∀ q : Nat, q < n → (rm.set y.toNat (-1)).getD q 0 = if (q : Int) ∈ rank.take (leftV N b - (lf - 1)).toNat then -1 else _) ∧ ∀ q : Nat, q < n → (out.set y.toNat _).getD q 0 = _ + if (q : Int) ∈ rank.take (leftV N b - (lf - 1)).toNat then 1 else 0
      rw [hk']
      refine ⟨fun q hq => ?_, ?_⟩
      · rw [getD_set' (by omega), take_succ' (d := 0) (by omega)]
        by_cases e : y.toNat = q
        · rw [if_pos e, if_pos]
          rw [← hy]; simp; omega
        · rw [if_neg e, r1 q hq]
          by_cases e2 : (q : Int) ∈ rank.take k
          · rw [if_pos e2, if_pos (List.mem_append_left _ e2)]
          · rw [if_neg e2, if_neg (fun q3 => by
              rcases List.mem_append.1 q3 with q4 | q4
              · exact e2 q4
              · have := List.mem_singleton.1 q4
                omega)]
      · subst hy
        exact share_step hr hkn i4 r2 rfl
  · have hc : ¬ lf > 0 := of_decide_eq_false hc
    obtain ⟨-, r2⟩ := i7 rank hr
    obtain rfl : lf = 0 := by omega
    rw [show leftV N b - 0 = leftV N b by omega] at r2
    exact ⟨by rw [hn]; exact i4, by rw [i5]; unfold leftV; omega, fun q hq => r2 q (by omega)⟩
end Go.Proofs.Fe

namespace Go.Proofs.Fe
open Go Go.KX

/-! ### Groups -/

def payP (b : Nat → Bool) (S : List Int) : Nat → Int
  | 0 => 0
  | i + 1 => payP b S i + if b i = true then S.getD i 0 else 0
def costP (b : Nat → Bool) (N : List Int) : Nat → Int
  | 0 => 0
  | i + 1 => if b i = true ∧ N.getD i 0 > costP b N i then N.getD i 0 else costP b N i

theorem costP_mem {b : Nat → Bool} {N : List Int} (h : ∀ i, 0 ≤ N.getD i 0) : ∀ n : Nat, 0 ≤ costP b N n ∧ (∀ i, i < n → b i = true → N.getD i 0 ≤ costP b N n) ∧ ((costP b N n = 0) ∨ ∃ i, i < n ∧ b i = true ∧ costP b N n = N.getD i 0)
  | 0 => ⟨Int.le_refl _, fun i hi => absurd hi (Nat.not_lt_zero _), .inl rfl⟩
  | n + 1 => by
    obtain ⟨h0, h1, h2⟩ := costP_mem (b := b) h n
    have hn := h n
    simp only [costP]
    by_cases q : b n = true ∧ N.getD n 0 > costP b N n
    · rw [if_pos q]
      refine ⟨hn, fun i hi hb => ?_, .inr ⟨n, by omega, q.1, rfl⟩⟩
      by_cases e : i < n
      · have := h1 i e hb; omega
      · obtain rfl : i = n := by omega
        exact Int.le_refl _
    · rw [if_neg q]
      refine ⟨h0, fun i hi hb => ?_, ?_⟩
      · by_cases e : i < n
        · exact h1 i e hb
        · obtain rfl : i = n := by omega
          have : ¬ N.getD i 0 > costP b N i := fun t => q ⟨hb, t⟩
          omega
      · rcases h2 with h2 | ⟨i, hi, h3, h4⟩
        · exact .inl h2
        · exact .inr ⟨i, by omega, h3, h4⟩

theorem payP_mono {b c : Nat → Bool} {S : List Int} (h : ∀ i, 0 ≤ S.getD i 0) : ∀ n : Nat, (∀ i, i < n → b i = true → c i = true) → payP b S n ≤ payP c S n
  | 0, _ => Int.le_refl _
  | n + 1, hb => by
    have ih := payP_mono h n fun i hi => hb i (by omega)
    have hn := h n
    simp only [payP]
    by_cases q : b n = true
    · rw [if_pos q, if_pos (hb n (by omega) q)]; omega
    · rw [if_neg q]
      split <;> omega
theorem payP_bound {b : Nat → Bool} {S : List Int} (h : ∀ i, 0 ≤ S.getD i 0 ∧ S.getD i 0 ≤ 1000000000000) : ∀ n : Nat, 0 ≤ payP b S n ∧ payP b S n ≤ 1000000000000 * n
  | 0 => by simp [payP]
  | n + 1 => by
    have ih := payP_bound (b := b) h n
    have hn := h n
    simp only [payP]
    push_cast
    split <;> omega
theorem payP_congr {b c : Nat → Bool} {S : List Int} : ∀ n : Nat, (∀ i, i < n → b i = c i) → payP b S n = payP c S n
  | 0, _ => rfl
  | n + 1, hb => by simp only [payP]; rw [payP_congr n fun i hi => hb i (by omega), hb n (by omega)]
theorem costP_congr {b c : Nat → Bool} {S : List Int} : ∀ n : Nat, (∀ i, i < n → b i = c i) → costP b S n = costP c S n
  | 0, _ => rfl
  | n + 1, hb => by simp only [costP]; rw [costP_congr n fun i hi => hb i (by omega), hb n (by omega)]
theorem payP_sum {b : Nat → Bool} {S : List Int} : ∀ n : Nat, n ≤ S.length → (∀ i, i < n → b i = true) → payP b S n = sumL (S.take n)
  | 0, _, _ => by simp [payP, sumL]
  | n + 1, hn, hb => by
    simp only [payP]
    rw [payP_sum n (by omega) fun i hi => hb i (by omega), if_pos (hb n (by omega)), take_succ' (d := 0) (by omega), sumL_append]
    simp [sumL]

/-! ### Groups as numbers -/

def bitI (s : Int) (i : Nat) : Bool := s / 2 ^ i % 2 == 1
theorem bitI_zero (s : Int) : bitI s 0 = (s % 2 == 1) := by unfold bitI; rw [Int.pow_zero, Int.ediv_one]
theorem ediv_pow_succ (s : Int) (i : Nat) : s / 2 ^ (i + 1) = s / 2 / 2 ^ i := by
  rw [Int.pow_succ, Int.mul_comm, Int.ediv_ediv_of_nonneg (by omega)]
theorem ediv_pow_succ' (s : Int) (i : Nat) : s / 2 ^ (i + 1) = s / 2 ^ i / 2 := by
  have : (0 : Int) ≤ 2 ^ i := Int.pow_nonneg (by omega)
  rw [Int.pow_succ, Int.ediv_ediv_of_nonneg this]
theorem bitI_succ (s : Int) (i : Nat) : bitI s (i + 1) = bitI (s / 2) i := by unfold bitI; rw [ediv_pow_succ]

def enc : Nat → (Nat → Bool) → Nat
  | 0, _ => 0
  | n + 1, b => (if b 0 = true then 1 else 0) + 2 * enc n fun i => b (i + 1)
theorem enc_lt : ∀ (n : Nat) (b : Nat → Bool), enc n b < 2 ^ n
  | 0, _ => by simp [enc]
  | n + 1, b => by
    have := enc_lt n fun i => b (i + 1)
    simp only [enc]
    rw [Nat.pow_succ]
    split <;> omega
theorem enc_bit : ∀ (n : Nat) (b : Nat → Bool) (i : Nat), i < n → bitI (enc n b : Int) i = b i
  | n + 1, b, 0, _ => by
    rw [bitI_zero]
    simp only [enc]
    push_cast
    by_cases q : b 0 = true
    · rw [if_pos q, q]; simp
    · rw [if_neg q]
      have : b 0 = false := by simpa using q
      rw [this]; simp
  | n + 1, b, i + 1, hi => by
    have ih := enc_bit n (fun i => b (i + 1)) i (by omega)
    rw [bitI_succ]
    rw [show ((enc (n + 1) b : Nat) : Int) / 2 = (enc n fun i => b (i + 1) : Int) by
      simp only [enc]; push_cast; split <;> omega]
    exact ih
theorem enc_pos {n : Nat} {b : Nat → Bool} {i : Nat} (hi : i < n) (hb : b i = true) : 1 ≤ enc n b := by
  rcases Nat.eq_zero_or_pos (enc n b) with h | h
  · have := enc_bit n b i hi
    rw [h, hb] at this
    simp [bitI] at this
  · exact h
theorem bits_all : ∀ (n : Nat) (i : Nat), i < n → bitI ((2 : Int) ^ n - 1) i = true
  | n + 1, 0, _ => by
    rw [bitI_zero, Int.pow_succ]; simp; try omega
  | n + 1, i + 1, hi => by
    rw [bitI_succ, Int.pow_succ, show ((2 : Int) ^ n * 2 - 1) / 2 = 2 ^ n - 1 by omega]
    exact bits_all n i (by omega)

theorem pow12 {n : Nat} (h : n ≤ 12) : (1 : Int) ≤ 2 ^ n ∧ (2 : Int) ^ n ≤ 4096 := by
  have : n = 0 ∨ n = 1 ∨ n = 2 ∨ n = 3 ∨ n = 4 ∨ n = 5 ∨ n = 6 ∨ n = 7 ∨ n = 8 ∨ n = 9 ∨ n = 10 ∨ n = 11 ∨ n = 12 := by omega
  rcases this with rfl | rfl | rfl | rfl | rfl | rfl | rfl | rfl | rfl | rfl | rfl | rfl | rfl <;> decide

/-! ### The core -/

/-- All ships with no greater need. -/
def upB (N : List Int) (m : Int) (i : Nat) : Bool := decide (N.getD i 0 ≤ m)
def GoodM (N S : List Int) (m : Int) : Prop := payP (upB N m) S N.length ≤ m ∧ (MaxOK N m → payP (upB N m) S N.length = m)
def CoreOK (N S : List Int) : Prop := ∀ m ∈ N, GoodM N S m
def GoodS (N S : List Int) (s : Int) : Prop := payP (bitI s) S N.length ≤ costP (bitI s) N N.length ∧ (s = 2 ^ N.length - 1 → payP (bitI s) S N.length = costP (bitI s) N N.length)

theorem MaxOK.exists : ∀ {N : List Int}, 1 ≤ N.length → ∃ m, MaxOK N m
  | [], h => by simp at h
  | [x], _ => ⟨x, List.mem_singleton.2 rfl, fun c hc => by rw [List.mem_singleton.1 hc]; exact Int.le_refl _⟩
  | x :: y :: l, _ => by
    obtain ⟨m, h1, h2⟩ := MaxOK.exists (N := y :: l) (by simp)
    by_cases q : x ≤ m
    · refine ⟨m, List.mem_cons_of_mem _ h1, fun c hc => ?_⟩
      rcases List.mem_cons.1 hc with rfl | hc
      · exact q
      · exact h2 c hc
    · refine ⟨x, List.mem_cons_self, fun c hc => ?_⟩
      rcases List.mem_cons.1 hc with rfl | hc
      · exact Int.le_refl _
      · have := h2 c hc; omega

theorem NeedsB.get0 {N : List Int} (h : NeedsB N) (i : Nat) : 0 ≤ N.getD i 0 := (h.get i).1

/-- What is so for those with no greater need is so for all groups. -/
theorem CoreOK.group {N S : List Int} (h : CoreOK N S) (hN : NeedsB N) (hS : NeedsB S) (b : Nat → Bool) : payP b S N.length ≤ costP b N N.length := by
  obtain ⟨h0, h1, h2⟩ := costP_mem (b := b) hN.get0 N.length
  rcases h2 with h2 | ⟨i, hi, h3, h4⟩
  · by_cases q : ∃ i, i < N.length ∧ b i = true
    · obtain ⟨i, hi, hb⟩ := q
      have h5 := h1 i hi hb
      have h6 := hN.get0 i
      have h7 : N.getD i 0 = 0 := by omega
      have h8 := (h (N.getD i 0) (getD_mem hi)).1
      have h9 := payP_mono (b := b) (c := upB N (N.getD i 0)) hS.get0 N.length fun j hj hb => decide_eq_true (by have := h1 j hj hb; omega)
      omega
    · have h9 := payP_mono (b := b) (c := fun _ => false) hS.get0 N.length fun j hj hb => absurd ⟨j, hj, hb⟩ q
      have h10 : ∀ n, payP (fun _ => false) S n = 0 := by
        intro n
        induction n with
        | zero => rfl
        | succ n ih => simp only [payP, ih]; simp
      rw [h10] at h9
      omega
  · rw [h4]
    have h8 := (h (N.getD i 0) (getD_mem hi)).1
    have h9 := payP_mono (b := b) (c := upB N (N.getD i 0)) hS.get0 N.length fun j hj hb => decide_eq_true (by have := h1 j hj hb; omega)
    omega

theorem cost_all {N : List Int} (hN : NeedsB N) {m : Int} (hm : MaxOK N m) {b : Nat → Bool} (hb : ∀ i, i < N.length → b i = true) : costP b N N.length = m := by
  obtain ⟨h0, h1, h2⟩ := costP_mem (b := b) hN.get0 N.length
  obtain ⟨i, hi, he⟩ := List.getElem_of_mem hm.1
  have h3 := h1 i hi (hb i hi)
  rw [getD_get hi, he] at h3
  rcases h2 with h2 | ⟨j, hj, _, h4⟩
  · have := hN m hm.1; omega
  · have := hm.2 _ (getD_mem (d := 0) hj)
    omega
theorem pay_all {N S : List Int} {m : Int} (hm : MaxOK N m) {b : Nat → Bool} (hb : ∀ i, i < N.length → b i = true) : payP b S N.length = payP (upB N m) S N.length :=
  payP_congr _ fun i hi => by rw [hb i hi]; exact (decide_eq_true (hm.2 _ (getD_mem hi))).symm

theorem CoreOK.sets {N S : List Int} (h : CoreOK N S) (hN : NeedsB N) (hS : NeedsB S) (h1 : 1 ≤ N.length) (s : Int) : GoodS N S s := by
  refine ⟨h.group hN hS _, fun e => ?_⟩
  obtain ⟨m, hm⟩ := MaxOK.exists h1
  have hb : ∀ i, i < N.length → bitI s i = true := fun i hi => by rw [e]; exact bits_all _ i hi
  rw [cost_all hN hm hb, pay_all hm hb]
  exact (h m hm.1).2 hm

theorem CoreOK.back {N S : List Int} (hN : NeedsB N) (h : ∀ s : Int, 1 ≤ s → s ≤ 2 ^ N.length - 1 → GoodS N S s) : CoreOK N S := by
  intro m hm
  obtain ⟨i, hi, he⟩ := List.getElem_of_mem hm
  have hb : upB N m i = true := decide_eq_true (by rw [getD_get hi, he]; exact Int.le_refl _)
  have h1 := enc_pos hi hb
  have h2 := enc_lt N.length (upB N m)
  have h2' : ((enc N.length (upB N m) : Nat) : Int) < 2 ^ N.length := by exact_mod_cast h2
  have hg := h (enc N.length (upB N m)) (by omega) (by omega)
  have e1 : payP (bitI (enc N.length (upB N m) : Int)) S N.length = payP (upB N m) S N.length := payP_congr _ fun j hj => enc_bit _ _ _ hj
  have e2 : costP (bitI (enc N.length (upB N m) : Int)) N N.length = costP (upB N m) N N.length := costP_congr _ fun j hj => enc_bit _ _ _ hj
  have e3 : costP (upB N m) N N.length = m := by
    obtain ⟨h0, c1, c2⟩ := costP_mem (b := upB N m) hN.get0 N.length
    have h3 := c1 i hi hb
    rw [getD_get hi, he] at h3
    rcases c2 with c2 | ⟨j, hj, c3, c4⟩
    · have := hN m hm; omega
    · have := of_decide_eq_true c3
      omega
  refine ⟨by have := hg.1; rw [e1, e2, e3] at this; exact this, fun hx => ?_⟩
  have p := (pow12 (n := 0) (by omega)).1
  have hs := h (2 ^ N.length - 1) (by
    have : (enc N.length (upB N m) : Int) < 2 ^ N.length := h2'
    omega) (Int.le_refl _)
  have ha : ∀ i, i < N.length → bitI (2 ^ N.length - 1) i = true := fun i hi => bits_all _ i hi
  have := hs.2 rfl
  rw [cost_all hN hx ha, pay_all hx ha] at this
  exact this

def CoreR (N S : List Int) (r : Bool × Int) : Prop :=
  (askedV N ≠ 0 ∧ r = (false, askedV N)) ∨ (askedV N = 0 ∧ S.length ≠ N.length ∧ r = (false, 1)) ∨ (askedV N = 0 ∧ S.length = N.length ∧ ¬ NeedsB S ∧ r = (false, 6)) ∨ (askedV N = 0 ∧ S.length = N.length ∧ NeedsB S ∧ r.2 = 0 ∧ (r.1 = true ↔ CoreOK N S))

theorem CoreR.one {N S : List Int} {r s : Bool × Int} (h : CoreR N S r) (h' : CoreR N S s) : r = s := by
  rcases h with ⟨a, b⟩ | ⟨a, b, c⟩ | ⟨a, b, c, d⟩ | ⟨a, b, c, d, e⟩ <;> rcases h' with ⟨a', b'⟩ | ⟨a', b', c'⟩ | ⟨a', b', c', d'⟩ | ⟨a', b', c', d', e'⟩
  · rw [b, b']
  · exact absurd a' a
  · exact absurd a' a
  · exact absurd a' a
  · exact absurd a a'
  · rw [c, c']
  · exact absurd b' b
  · exact absurd b' b
  · exact absurd a a'
  · exact absurd b b'
  · rw [d, d']
  · exact absurd c' c
  · exact absurd a a'
  · exact absurd b b'
  · exact absurd c c'
  · obtain ⟨r1, r2⟩ := r
    obtain ⟨s1, s2⟩ := s
    simp only at d e d' e'
    rw [d, d']
    congr 1
    rw [Bool.eq_iff_iff, e, e']

theorem core1_eq (F : Nat) (c : Int) : fees_Core_1 F c = some (!decide (0 ≤ c ∧ c ≤ 1000000000)) := by
  show some (!(decide (c ≥ 0) && decide (c ≤ 1000000000))) = _
  rw [wb]

theorem Core_ok {F : Nat} (hF : 2000000000000 < F) {N S : List Int} (hSl : S.length ≤ 1000) : Ok (CoreR N S) (fees_Core F N S) := by
  unfold fees_Core
  refine ok_bnde (asked_eq (by omega) N) (ok_brk (fun hb => ok_some ?_) (fun hb => ?_))
  · exact .inl ⟨by simpa using hb, rfl⟩
  have hz : askedV N = 0 := by simpa using hb
  obtain ⟨h1, h2, h⟩ := askedV_zero hz
  refine ok_brk (fun hb => ok_some ?_) (fun hb => ?_)
  · have hb : ¬ (S.length : Int) = N.length := by simpa using hb
    exact .inr (.inl ⟨hz, by omega, rfl⟩)
  have hl : S.length = N.length := by
    have hb : (S.length : Int) = N.length := by simpa using hb
    omega
  refine ok_join (by omega) (fun x : Int => (x = -1 ∧ NeedsB S) ∨ (0 ≤ x ∧ ¬ NeedsB S)) (fun x hx => ok_brk (fun hb => ok_some ?_) (fun hb => ?_)) fun k hk => ?_
  · have hb : x ≥ 0 := of_decide_eq_true hb
    rcases hx with ⟨rfl, _⟩ | ⟨_, q⟩
    · omega
    · exact .inr (.inr (.inl ⟨hz, hl, q, rfl⟩))
  · have hb : ¬ x ≥ 0 := of_decide_eq_false hb
    have hS : NeedsB S := by
      rcases hx with ⟨_, q⟩ | ⟨q, _⟩
      · exact q
      · omega
    clear hx
    obtain ⟨n, hn⟩ : ∃ n, N.length = n := ⟨_, rfl⟩
    rw [hn]
    have fin : ∀ r : Bool × Int, r.2 = 0 → (r.1 = true ↔ CoreOK N S) → CoreR N S r := fun r q1 q2 => .inr (.inr (.inr ⟨hz, hl, hS, q1, q2⟩))
    refine ok_loop (fun x : Int => 0 ≤ x ∧ x ≤ n ∧ ∀ j : Nat, (j : Int) < x → GoodM N S (N.getD j 0)) (fun x => n - x.toNat) ⟨by simp, by simp, fun j hj => by omega⟩ (by simp; omega) ?_
    rintro i next ⟨i1, i2, i3⟩ hnx
    refine ok_brk (fun hc => ?_) (fun hc => ok_some (fin _ rfl ?_))
    · have hc : i < n := of_decide_eq_true hc
      have hi : i.toNat < N.length := by omega
      refine ok_chk ⟨i1, hc⟩ ?_
      obtain ⟨m, hm⟩ : ∃ m, N.getD i.toNat 0 = m := ⟨_, rfl⟩
      rw [hm]
      have hpb := fun j => payP_bound (b := upB N m) (S := S) (fun i => ⟨(hS.get i).1, by have := (hS.get i).2; omega⟩) j
      refine ok_loop (fun x : Int × Int => 0 ≤ x.1 ∧ x.1 ≤ n ∧ x.2 = payP (upB N m) S x.1.toNat) (fun x => n - x.1.toNat) ⟨by simp, by show (0 : Int) ≤ n; omega, rfl⟩ (by simp; omega) ?_
      rintro ⟨j, pays⟩ next2 ⟨j1, j2, j3⟩ hn2
      simp only at j1 j2 j3
      dsimp only
      refine ok_brk (fun hd => ?_) (fun hd => ?_)
      · have hd : j < n := of_decide_eq_true hd
        have hst : payP (upB N m) S (j + 1).toNat = payP (upB N m) S j.toNat + if N.getD j.toNat 0 ≤ m then S.getD j.toNat 0 else 0 := by
          rw [show (j + 1).toNat = j.toNat + 1 by omega]
          simp only [payP, upB, decide_eq_true_eq]
        have b1 := hpb j.toNat
        have b2 := hpb (j + 1).toNat
        refine ok_join (by omega) (fun x : Int => x = payP (upB N m) S (j + 1).toNat) (fun x hx => ok_chk (show InR _ from ⟨by omega, by omega⟩) (hn2 _ ⟨by show 0 ≤ j + 1; omega, by show j + 1 ≤ n; omega, hx⟩ (by show n - (j + 1).toNat < n - j.toNat; omega))) fun k hk => ?_
        refine ok_chk ⟨j1, hd⟩ (ok_brk (fun he => ?_) (fun he => ?_))
        · have he := of_decide_eq_true he
          rw [if_pos he] at hst
          exact ok_chk ⟨j1, by omega⟩ (ok_chk (show InR _ from ⟨by omega, by omega⟩) (hk _ (by omega)))
        · have he := of_decide_eq_false he
          rw [if_neg he] at hst
          exact hk _ (by omega)
      · have hd : ¬ j < n := of_decide_eq_false hd
        have hp : pays = payP (upB N m) S N.length := by rw [j3, show j.toNat = N.length by omega]
        have hmem : m ∈ N := by rw [← hm]; exact getD_mem hi
        refine ok_bnd (fun mx : Int => pays > m ∨ MaxOK N mx) ?_ fun mx hmx => ok_brk (fun he => ok_some (fin _ rfl ?_)) (fun he => ?_)
        · refine ok_brk (fun he => ?_) (fun he => ok_some ?_)
          · exact (max_ok (by omega) (by omega) h1).mono fun r hr => .inr hr
          · simp only [Bool.not_eq_false', decide_eq_true_eq] at he
            exact .inl he
        · simp only [Bool.or_eq_true, Bool.and_eq_true, decide_eq_true_eq, bne_iff_ne, beq_iff_eq] at he
          refine ⟨(fun q => nomatch q), fun q => ?_⟩
          have hg := q m hmem
          unfold GoodM at hg
          rw [← hp] at hg
          rcases he with he | ⟨e1, e2⟩
          · omega
          · rcases hmx with hmx | hmx
            · omega
            · rw [← e1] at hmx
              exact absurd (hg.2 hmx) e2
        · simp only [Bool.or_eq_false_iff, Bool.and_eq_false_iff, decide_eq_false_iff_not, bne_eq_false_iff_eq, beq_eq_false_iff_ne] at he
          refine ok_chk (show InR _ from ⟨by omega, by omega⟩) (hnx _ ⟨by omega, by omega, fun q hq => ?_⟩ (by show n - (i + 1).toNat < n - i.toNat; omega))
          by_cases e : (q : Int) < i
          · exact i3 q e
          · obtain rfl : q = i.toNat := by omega
            rw [hm]
            unfold GoodM
            rw [← hp]
            refine ⟨by omega, fun hx => ?_⟩
            rcases hmx with hmx | hmx
            · omega
            · rcases he.2 with t | t
              · exact absurd (hx.one hmx) t
              · exact t
    · have hc : ¬ i < n := of_decide_eq_false hc
      refine ⟨fun _ m hm => ?_, fun _ => rfl⟩
      obtain ⟨j, hj, rfl⟩ := List.getElem_of_mem hm
      have := i3 j (by omega)
      rwa [getD_get hj] at this
  · refine ok_find (p := fun c => !decide (0 ≤ c ∧ c ≤ 1000000000)) (by omega) (by omega) (fun c _ => core1_eq F c) (fun i hi hp => hk _ (.inr ⟨by omega, fun q => nd_true hp (q _ (getD_mem hi))⟩)) (fun hp => hk _ (.inl ⟨rfl, fun c hc => nd_false (hp c hc)⟩))

theorem refCore_ok {F : Nat} (hF : 2000000000000 < F) {N S : List Int} (hSl : S.length ≤ 1000) : Ok (CoreR N S) (ref12_Core F N S) := by
  unfold ref12_Core
  refine ok_bnde (needed_eq (by omega) N) (ok_brk (fun hb => ok_some ?_) (fun hb => ?_))
  · exact .inl ⟨by simpa using hb, rfl⟩
  have hz : askedV N = 0 := by simpa using hb
  obtain ⟨h1, h2, h⟩ := askedV_zero hz
  refine ok_brk (fun hb => ok_some ?_) (fun hb => ?_)
  · have hb : ¬ (S.length : Int) = N.length := by simpa using hb
    exact .inr (.inl ⟨hz, by omega, rfl⟩)
  have hl : S.length = N.length := by
    have hb : (S.length : Int) = N.length := by simpa using hb
    omega
  obtain ⟨n, hn⟩ : ∃ n, N.length = n := ⟨_, rfl⟩
  have p12 := pow12 (n := n) (by omega)
  rw [hl, hn]
  refine ok_loop (fun x : Int => 0 ≤ x ∧ x ≤ n ∧ ∀ j : Nat, (j : Int) < x → 0 ≤ S.getD j 0 ∧ S.getD j 0 ≤ 1000000000) (fun x => n - x.toNat) ⟨by simp, by simp, fun j hj => by omega⟩ (by simp; omega) ?_
  rintro i next ⟨i1, i2, i3⟩ hnx
  refine ok_brk (fun hc => ?_) (fun hc => ?_)
  · have hc : i < n := of_decide_eq_true hc
    rw [refIn_eq, wb]
    refine ok_chk ⟨i1, hc⟩ (ok_bnde rfl (ok_brk (fun hb => ok_some ?_) (fun hb => ok_chk (show InR _ from ⟨by omega, by omega⟩) (hnx _ ⟨by omega, by omega, fun j hj => ?_⟩ (by show n - (i + 1).toNat < n - i.toNat; omega)))))
    · exact .inr (.inr (.inl ⟨hz, hl, fun q => nd_true hb (q _ (getD_mem (d := 0) (show i.toNat < S.length by omega))), rfl⟩))
    · by_cases e : (j : Int) < i
      · exact i3 j e
      · obtain rfl : j = i.toNat := by omega
        exact nd_false hb
  have hc : ¬ i < n := of_decide_eq_false hc
  have hS : NeedsB S := fun c hc => by
    obtain ⟨j, hj, rfl⟩ := List.getElem_of_mem hc
    have := i3 j (by omega)
    rwa [getD_get hj] at this
  clear hnx i3
  have fin : ∀ r : Bool × Int, r.2 = 0 → (r.1 = true ↔ CoreOK N S) → CoreR N S r := fun r q1 q2 => .inr (.inr (.inr ⟨hz, hl, hS, q1, q2⟩))
  rw [show ((n : Nat) : Int).toNat = n by omega]
  generalize hP : (2 : Int) ^ n = P at p12 ⊢
  refine ok_chk ⟨by omega, show InR _ from ⟨by omega, by omega⟩⟩ (ok_chk (show InR _ from ⟨by omega, by omega⟩) ?_)
  refine ok_loop (fun x : Int => 1 ≤ x ∧ x ≤ P ∧ ∀ s : Int, 1 ≤ s → s < x → GoodS N S s) (fun x => (P - x).toNat) ⟨by omega, by omega, fun s q1 q2 => by omega⟩ (by omega) ?_
  rintro s next ⟨s1, s2, s3⟩ hnx
  refine ok_brk (fun hd => ?_) (fun hd => ok_some (fin _ rfl ?_))
  · have hd : s ≤ 1 * P - 1 := of_decide_eq_true hd
    have hpb := fun j => payP_bound (b := bitI s) (S := S) (fun i => ⟨(hS.get i).1, by have := (hS.get i).2; omega⟩) j
    refine ok_loop (fun x : Int × Int × Int × Int => 0 ≤ x.2.2.1 ∧ x.2.2.1 ≤ n ∧ x.1 = s / 2 ^ x.2.2.1.toNat ∧ 0 ≤ x.1 ∧ x.1 ≤ s ∧ x.2.1 = payP (bitI s) S x.2.2.1.toNat ∧ x.2.2.2 = costP (bitI s) N x.2.2.1.toNat) (fun x => n - x.2.2.1.toNat)
      ⟨by simp, by show (0 : Int) ≤ n; omega, by show s = s / 2 ^ (0 : Int).toNat; simp, by show 0 ≤ s; omega, Int.le_refl _, rfl, rfl⟩ (by simp; omega) ?_
    rintro ⟨x, pays, j, cost⟩ next2 ⟨j1, j2, j3, j4, j5, j6, j7⟩ hn2
    simp only at j1 j2 j3 j4 j5 j6 j7
    dsimp only
    refine ok_brk (fun he => ?_) (fun he => ?_)
    · have he : j < n := of_decide_eq_true he
      have hbit : bitI s j.toNat = (x % 2 == 1) := by unfold bitI; rw [j3]
      have hst : payP (bitI s) S (j + 1).toNat = payP (bitI s) S j.toNat + if (x % 2 == 1) = true then S.getD j.toNat 0 else 0 := by
        rw [show (j + 1).toNat = j.toNat + 1 by omega, ← hbit]
        simp only [payP]
      have hst2 : costP (bitI s) N (j + 1).toNat = if (x % 2 == 1) = true ∧ N.getD j.toNat 0 > costP (bitI s) N j.toNat then N.getD j.toNat 0 else costP (bitI s) N j.toNat := by
        rw [show (j + 1).toNat = j.toNat + 1 by omega, ← hbit]
        simp only [costP]
      have b1 := hpb j.toNat
      have b2 := hpb (j + 1).toNat
      refine ok_join (by omega) (fun x : Int × Int => x.1 = payP (bitI s) S (j + 1).toNat ∧ x.2 = costP (bitI s) N (j + 1).toNat) (fun y hy => ok_chk ⟨j4, by omega⟩ (ok_chk (show InR _ from ⟨by omega, by omega⟩) (hn2 _ ⟨by show 0 ≤ j + 1; omega, by show j + 1 ≤ n; omega, ?_, by show 0 ≤ x / 2; omega, by show x / 2 ≤ s; omega, hy.1, hy.2⟩ (by show n - (j + 1).toNat < n - j.toNat; omega)))) fun k hk => ?_
      · show x / 2 = s / 2 ^ (j + 1).toNat
        rw [show (j + 1).toNat = j.toNat + 1 by omega, ediv_pow_succ', ← j3]
      refine ok_chk ⟨j4, by omega⟩ (ok_brk (fun hf => ?_) (fun hf => ?_))
      · rw [if_pos hf] at hst
        refine ok_chk ⟨j1, he⟩ (ok_chk (show InR _ from ⟨by omega, by omega⟩) (ok_chk ⟨j1, he⟩ (hk _ ⟨by show pays + _ = _; omega, ?_⟩)))
        show (if N.getD j.toNat 0 > cost then N.getD j.toNat 0 else cost) = _
        rw [hst2, ← j7]
        by_cases q : N.getD j.toNat 0 > cost
        · rw [if_pos q, if_pos ⟨hf, q⟩]
        · rw [if_neg q, if_neg fun t => q t.2]
      · rw [if_neg (by rw [hf]; exact Bool.false_ne_true)] at hst
        rw [if_neg (fun t => by rw [hf] at t; exact Bool.false_ne_true t.1)] at hst2
        exact hk _ ⟨by show pays = _; omega, by show cost = _; omega⟩
    · have he : ¬ j < n := of_decide_eq_false he
      have hj : j.toNat = N.length := by omega
      rw [hj] at j6 j7
      refine ok_brk (fun hf => ok_some (fin _ rfl ?_)) (fun hf => ?_)
      · simp only [Bool.or_eq_true, Bool.and_eq_true, decide_eq_true_eq, bne_iff_ne, beq_iff_eq] at hf
        refine ⟨(fun q => nomatch q), fun q => ?_⟩
        have hg := q.sets h hS h1 s
        unfold GoodS at hg
        rw [← j6, ← j7, hn, hP] at hg
        rcases hf with hf | ⟨f1, f2⟩
        · omega
        · exact absurd (hg.2 (by omega)) f2
      · simp only [Bool.or_eq_false_iff, Bool.and_eq_false_iff, decide_eq_false_iff_not, bne_eq_false_iff_eq, beq_eq_false_iff_ne] at hf
        refine ok_chk (show InR _ from ⟨by omega, by omega⟩) (hnx _ ⟨by omega, by omega, fun t t1 t2 => ?_⟩ (by omega))
        by_cases e : t < s
        · exact s3 t t1 e
        · obtain rfl : t = s := by omega
          unfold GoodS
          rw [← j6, ← j7, hn, hP]
          refine ⟨by omega, fun hx => ?_⟩
          rcases hf.2 with q | q
          · omega
          · exact q
  · have hd : ¬ s ≤ 1 * P - 1 := of_decide_eq_false hd
    exact ⟨fun _ => CoreOK.back h (fun t t1 t2 => s3 t t1 (by rw [hn, hP] at t2; omega)), fun _ => rfl⟩
end Go.Proofs.Fe

namespace Go.Proofs.Fe
open Go Go.KX

theorem sameR_ok {F : Nat} {l : List Ratio} (hF : l.length < F) (hl : l.length ≤ 1000000) : kit_SameRatios F l l = some true := by
  refine Ok.eq ?_
  unfold kit_SameRatios
  refine ok_brkF (by simp) ?_
  refine ok_loop (fun x : Int => 0 ≤ x ∧ x ≤ l.length) (fun x : Int => l.length - x.toNat) ⟨by simp, by simp⟩ (by simp; omega) ?_
  rintro i next ⟨i1, i2⟩ hn
  refine ok_brk (fun hc => ?_) (fun hc => ok_some rfl)
  have hc : i < l.length := of_decide_eq_true hc
  exact ok_chk ⟨i1, hc⟩ (ok_chk ⟨i1, hc⟩ (ok_brkF (by simp) (ok_chk (show InR _ from ⟨by omega, by omega⟩) (hn _ ⟨by omega, by omega⟩ (by show l.length - (i + 1).toNat < l.length - i.toNat; omega)))))

/-- FeesShares. -/
theorem feesShares_ok' {F : Nat} (hF : F = 1000000000000000) (N S : List Int) : law12_FeesShares F N S = some true := by
  have haw : law12_awake F = some true := by rw [hF]; exact awake_eq
  refine Ok.eq ?_
  unfold law12_FeesShares
  rw [haw]
  refine ok_brk (fun hb => ok_bnde rfl (ok_some rfl)) (fun hb => ?_)
  simp only [Bool.or_eq_false_iff, decide_eq_false_iff_not] at hb
  have hl : N.length ≤ 20 ∧ S.length ≤ 20 := by omega
  rw [copyInts_eq (by omega), copyInts_eq (by omega)]
  refine ok_bnde rfl (ok_bnde rfl ?_)
  refine ok_bnde (Exact_eq (by omega) N) (ok_bnde (refExact_eq (by omega) N) ?_)
  have hR : ∀ x : List Ratio × Int, x = (if askedV N = 0 then (exactR N, 0) else ([], askedV N)) → x.1.length ≤ 20 := by
    rintro x rfl
    by_cases q : askedV N = 0
    · rw [if_pos q]; show (exactR N).length ≤ 20
      unfold exactR
      rw [List.length_map, shV_length]; omega
    · rw [if_neg q]; simp
  generalize hg : (if askedV N = 0 then (exactR N, 0) else ([], askedV N)) = x
  have hx := hR x hg.symm
  have e0 : (x.2 != x.2) = false := by simp
  rw [e0]
  refine ok_bnde (show brk true _ _ = _ from sameR_ok (by omega) (by omega)) (ok_brkF rfl ?_)
  refine ok_bnd _ (Share_ok (by omega) N) ?_
  rintro ⟨a, x⟩ h3
  refine ok_bnd _ (refShareE_ok (by omega) N) ?_
  rintro ⟨b, y⟩ h4
  have e2 : a = b ∧ x = y ∧ a.length ≤ 50 := by
    rcases h3 with ⟨q1, q2⟩ | ⟨q1, q2, m, rank, q3, q4, q5⟩ <;> rcases h4 with ⟨p1, p2⟩ | ⟨p1, p2, m', p3, p4⟩
    · cases q2; cases p2; exact ⟨rfl, rfl, by simp⟩
    · exact absurd p1 q1
    · exact absurd q1 p1
    · obtain rfl := q3.one p3
      exact ⟨q5.one (p4 rank q4), q2.trans p2.symm, by have := q5.len; simp only at this; omega⟩
  obtain ⟨rfl, rfl, e3⟩ := e2
  have h5 : ((a, x).snd != (a, x).snd) = false := by simp
  rw [h5]
  refine ok_bnde (show brk true _ _ = _ from same_ok (by show a.length < F; omega) (by show a.length ≤ _; omega)) (ok_brkF rfl ?_)
  refine ok_bnd _ (Core_ok (by omega) (by omega)) fun r hr => ok_bnd _ (refCore_ok (by omega) (by omega)) fun s hs => ?_
  obtain rfl := hr.one hs
  have h6 : ((r.1 == r.1) && (r.2 == r.2)) = true := by simp
  rw [h6]
  refine ok_bnde (show brk true _ _ = _ from same_ok (by omega) (by omega)) ?_
  refine ok_bnde (show brk (true && true) _ _ = _ from same_ok (by omega) (by omega)) ?_
  exact ok_bnde (show brk _ _ _ = some true from rfl) (ok_some rfl)
theorem feesShares_ok {N S : List Int} {P Q : Prop} (_ : P) (_ : Q) : law12_FeesShares 1000000000000000 N S = some true := feesShares_ok' rfl N S
end Go.Proofs.Fe

namespace Go.KX
open Go Go.ChangeShapes Go.WideShapes Go.RowKit

/-- Types whose reading asks only for cells: numbers, Booleans, and structs, arrays and slices of such. -/
def goodT (P : Program) : Nat → TypeId → Bool
  | 0, _ => false
  | n + 1, t => match P.underlying t with
    | some (.int _) => true
    | some .bool => true
    | some (.struct fs) => fs.toList.all fun f => goodT P n f.type
    | some (.array _ e) => goodT P n e
    | some (.slice e) => goodT P n e && Nat.ble 1 (P.cellsOf e)
    | _ => false

theorem mapM_carry' {α β : Type} {f g : α → Option β} : ∀ {l : List α} {r : List β}, l.mapM f = some r → (∀ x y, x ∈ l → y ∈ r → f x = some y → g x = some y) → l.mapM g = some r := mapM_carry

section
variable {H : Type} {enc : TypeId × Value → H} {P : Program} {w : World} {base : Nat} {held : Bool}

theorem trod_spare {sp : Nat → Bool} : ∀ (m n : Nat) (t : TypeId) (cs : List Value) (x : DataW H × List MemPlace), goodT P m t = true →
    DataW.trod enc P w base (fun _ => true) held n t cs = some x → (∀ p ∈ x.2, sp p.block = true) → DataW.trod enc P w base sp held n t cs = some x := by
  intro m
  induction m with
  | zero => intro n t cs x h; cases h
  | succ m ih =>
    intro n t cs x hg h hs
    cases n with
    | zero => simp [DataW.trod] at h
    | succ n =>
      rw [DataW.trod_step] at h ⊢
      unfold goodT at hg
      unfold DataW.trodStep at h ⊢
      split at h
      case h_1 => exact h
      case h_2 => exact h
      case h_8 e a len cap hu =>
        rw [hu] at hg
        simp only [Bool.and_eq_true] at hg
        simp only at h ⊢
        split at h
        · rename_i hc
          rw [if_pos hc]
          simp only [if_true, Option.map_eq_some_iff, Option.bind_eq_some_iff] at h ⊢
          obtain ⟨elems, he, rest, hr, rfl⟩ := h
          have hlen : elems.length = len := by simpa using mapM_some_length he
          have hrlen : rest.length = cap - len := by simpa using mapM_some_length hr
          have hk : 1 ≤ P.cellsOf e := Nat.le_of_ble_eq_true hg.2
          have one : ∀ i y, (w.cells? base (a.add (i * P.cellsOf e)) (P.cellsOf e)).bind (DataW.trod enc P w base (fun _ => true) held n e) = some y → (∀ p ∈ y.2, sp p.block = true) →
              (w.cells? base (a.add (i * P.cellsOf e)) (P.cellsOf e)).bind (DataW.trod enc P w base sp held n e) = some y := by
            intro i y hy hp
            rw [Option.bind_eq_some_iff] at hy ⊢
            obtain ⟨cs', h1, h2⟩ := hy
            exact ⟨cs', h1, ih n e cs' y hg.1 h2 hp⟩
          have hpl : ∀ y, y ∈ elems ++ rest → ∀ p ∈ y.2, sp p.block = true := fun y hy p hp => hs p (by
            simp only [List.mem_append]
            exact .inr (List.mem_flatMap.2 ⟨y, hy, hp⟩))
          refine ⟨elems, mapM_carry' he fun i y hi hy hiy => one i y hiy (hpl y (by simp [hy])), rest, ?_, rfl⟩
          by_cases hcap : cap = 0
          · have : rest = [] := List.length_eq_zero_iff.1 (by omega)
            subst this
            split
            · rw [show cap - len = 0 by omega]; rfl
            · rfl
          · have : sp a.block = true := by
              have := hs (.cell a.block (a.off + 0)) (by
                simp only [List.mem_append]
                refine .inl (MemPlace.mem_row.2 ⟨0, ?_, rfl⟩)
                rw [hlen, hrlen, show len + (cap - len) = cap by omega]
                exact Nat.mul_pos (by omega) hk)
              exact this
            rw [if_pos this]
            exact mapM_carry' hr fun j y hj hy hjy => one _ y hjy (hpl y (by simp [hy]))
        · cases h
      case h_7 => exact h
      case h_9 fs cs' hu =>
        rw [hu] at hg
        simp only at hg
        split at h
        · rename_i hl
          rw [if_pos hl]
          simp only [Option.map_eq_some_iff] at h ⊢
          obtain ⟨xs, hx, rfl⟩ := h
          refine ⟨xs, mapM_carry' hx fun f y hf hy hfy => ih n f.type _ y (List.all_eq_true.1 hg f hf) hfy fun p hp => hs p ?_, rfl⟩
          exact List.mem_flatMap.2 ⟨y, hy, hp⟩
        · cases h
      case h_10 =>
        rename_i e hu
        rw [hu] at hg
        simp only at hg
        split at h
        · rename_i hl
          rw [if_pos hl]
          simp only [Option.map_eq_some_iff] at h ⊢
          obtain ⟨xs, hx, rfl⟩ := h
          refine ⟨xs, mapM_carry' hx fun f y hf hy hfy => ih n e _ y hg hfy fun p hp => hs p ?_, rfl⟩
          exact List.mem_flatMap.2 ⟨y, hy, hp⟩
        · cases h
      all_goals simp_all

theorem trod_move {w' : World} {sp : Nat → Bool} {t : TypeId} {v : Value} {d : DataW H} {ps : List MemPlace} (hg : goodT P 8 t = true) (h : DataW.Trod enc P w base (fun _ => true) held t v d ps)
    (hsame : ∀ p ∈ ps, w.sameAt w' p) (hs : ∀ p ∈ ps, sp p.block = true) : DataW.Trod enc P w' base sp held t v d ps := by
  obtain ⟨n, hn⟩ := h
  exact ⟨n, trod_spare 8 n t _ _ hg (DataW.trod_carry n t _ _ hn hsame) hs⟩

theorem trodAll_move {w' : World} {sp : Nat → Bool} : ∀ {ts : List TypeId} {vs : List Value} {ds : List (DataW H)} {ps : List MemPlace}, ts.all (goodT P 8) = true → DataW.TrodAll enc P w base (fun _ => true) held ts vs ds ps →
    (∀ p ∈ ps, w.sameAt w' p) → (∀ p ∈ ps, sp p.block = true) → DataW.TrodAll enc P w' base sp held ts vs ds ps := by
  intro ts
  induction ts with
  | nil =>
    intro vs ds ps _ h _ _
    obtain ⟨rfl, rfl, rfl⟩ := trodAll_nil h
    rfl
  | cons t ts ih =>
    intro vs ds ps hg h hsame hs
    obtain ⟨v, vs', d, ds', p, q, rfl, rfl, rfl, h1, h2⟩ := trodAll_cons h
    simp only [List.all_cons, Bool.and_eq_true] at hg
    exact ⟨p, q, trod_move hg.1 h1 (fun x hx => hsame x (by simp [hx])) (fun x hx => hs x (by simp [hx])), ih hg.2 h2 (fun x hx => hsame x (by simp [hx])) (fun x hx => hs x (by simp [hx])), rfl⟩

/-- A law that returns true and leaves what was there alone. -/
theorem post_law {f : Func} {s : ChangeSpec} {W W' : World} {args : Array Value} {ds gs : List (DataW H)} {before : List MemPlace} {tb : TypeId} (hW : DataW.Whole enc P f.params.toList s.vars false W args.toList ds gs before)
    (hv : s.vars = []) (hfn : s.fn H ds = { results := [.lit (.bool true)], args := ds }) (hrt : f.resultTypes = #[tb]) (htb : P.underlying tb = some .bool) (hgood : f.params.toList.all (goodT P 8) = true) (hb : Below W.heap.size W W') :
    s.post enc P f false true false false W args (.bool true) W' := by
  have hW0 := hW
  obtain ⟨p, q, hA, hV, rfl, _, _⟩ := hW
  rw [hv] at hV
  obtain ⟨rfl, rfl⟩ := trodVars_none hV
  have hlt : ∀ x ∈ p ++ [], x.block < W.heap.size := fun x hx => hW0.lt x hx
  have hsame : ∀ x ∈ p, W.sameAt W' x := fun x hx => hb.same (hlt x (by simpa using hx))
  refine ⟨ds, [], p ++ [], [], p, [], hW0, ?_, ?_, ?_, hb.frame _, fun h => by cases h⟩
  · simp only [List.append_nil, hfn, hrt]
    exact trodAll_mk1 (shut_bool htb _)
  · simp only [List.append_nil, hfn]
    exact trodAll_move hgood hA hsame fun x hx => by simpa using hlt x (by simpa using hx)
  · simp only [List.append_nil, hfn, hv]
    rfl
end

theorem wf_u8 {n : Int} (h : (Lit.int .u8 n).wf = true) : 0 ≤ n ∧ n ≤ 255 := by
  simp [Lit.wf, IntKind.min, IntKind.max, IntKind.signed, IntKind.bits] at h
  omega
theorem wf_u16 {n : Int} (h : (Lit.int .u16 n).wf = true) : 0 ≤ n ∧ n ≤ 65535 := by
  simp [Lit.wf, IntKind.min, IntKind.max, IntKind.signed, IntKind.bits] at h
  omega
theorem wf_u32 {n : Int} (h : (Lit.int .u32 n).wf = true) : 0 ≤ n ∧ n ≤ 4294967295 := by
  simp [Lit.wf, IntKind.min, IntKind.max, IntKind.signed, IntKind.bits] at h
  omega
theorem wf_i64 {n : Int} (h : (Lit.int .i64 n).wf = true) : -9223372036854775808 ≤ n ∧ n ≤ 9223372036854775807 := by
  simp [Lit.wf, IntKind.min, IntKind.max, IntKind.signed, IntKind.bits] at h
  omega

/-- Values of the type t read as something of the registered type c, of which In is so. -/
def HReads (E : Env) (t : TypeId) (c : Nat) (In : E.G.car c → Prop) : Prop :=
  E.P.cellsOf t = E.G.sz c ∧ ∀ (H : Type) (e : TypeId × Value → H) (w : World) (base : Nat) (sp : Nat → Bool) (held : Bool) (fuel : Nat) (cs : List Value) (x : DataW H × List MemPlace),
    DataW.trod e E.P w base sp held fuel t cs = some x → ∃ a : E.G.car c, HdL E.G (IsCells w) w (E.G.enc c a) cs ∧ In a

theorem isCells_of {w : World} {a : Addr} {u : Value} (h : w.cell? a = some u) : IsCells w a.block ∧ a.spot = none := by
  unfold World.cell? at h
  split at h
  · rename_i c e s hb
    refine ⟨⟨_, hb, rfl⟩, ?_⟩
    split at h
    · cases h
    · rename_i hs
      simpa using hs
  · cases h

section
variable {E : Env} {H : Type} {e : TypeId × Value → H} {w : World} {base : Nat} {sp : Nat → Bool} {held : Bool}

theorem hdL_one {x : Value} {cv : CV E.G.car} (h : Hd E.G (IsCells w) w cv x) : HdL E.G (IsCells w) w [cv] [x] := ⟨_, _, rfl, h, rfl⟩

theorem hdL_append : ∀ {a b : List (CV E.G.car)} {u v : List Value}, HdL E.G (IsCells w) w a u → HdL E.G (IsCells w) w b v → HdL E.G (IsCells w) w (a ++ b) (u ++ v)
  | [], _, _, _, h, h' => by cases h; exact h'
  | _ :: _, _, _, _, ⟨x, us, rfl, h1, h2⟩, h' => ⟨x, us ++ _, rfl, h1, hdL_append h2 h'⟩

theorem hreads_int {t : TypeId} {c : Nat} {k : IntKind} {In : E.G.car c → Prop} (f : Int → E.G.car c) (hf : ∀ n, E.G.enc c (f n) = [.v (.int k n)]) (hu : E.P.underlying t = some (.int k)) (hc : E.P.cellsOf t = E.G.sz c)
    (hIn : ∀ n, (Lit.int k n).wf = true → In (f n)) : HReads E t c In :=
  ⟨hc, fun _ _ _ _ _ _ _ _ _ h => by
    obtain ⟨n, h1, _, h2⟩ := DataW.trod_int hu h
    subst h1
    exact ⟨f n, by rw [hf]; exact hdL_one (.v _), hIn n h2⟩⟩

theorem hreads_bool {t : TypeId} {c : Nat} {In : E.G.car c → Prop} (f : Bool → E.G.car c) (hf : ∀ n, E.G.enc c (f n) = [.v (.bool n)]) (hu : E.P.underlying t = some .bool) (hc : E.P.cellsOf t = E.G.sz c) (hIn : ∀ b, In (f b)) : HReads E t c In :=
  ⟨hc, fun _ _ _ _ _ _ _ _ _ h => by
    obtain ⟨n, h1, _⟩ := DataW.trod_bool hu h
    subst h1
    exact ⟨f n, by rw [hf]; exact hdL_one (.v _), hIn n⟩⟩

theorem fields_of {t : TypeId} {fs : Array Field} {fuel : Nat} {cs : List Value} {x : DataW H × List MemPlace} (hu : E.P.underlying t = some (.struct fs)) (h : DataW.trod e E.P w base sp held fuel t cs = some x) :
    cs.length = E.P.cellsOf t ∧ ∀ (j : Nat) (fd : Field), fs[j]? = some fd → ∃ fuel y, DataW.trod e E.P w base sp held fuel fd.type ((cs.drop fd.offset).take (E.P.cellsOf fd.type)) = some y := by
  obtain ⟨xs, n, rfl, rfl, hl, hlen, hf⟩ := DataW.trod_struct hu h
  refine ⟨hl, fun j fd hj => ?_⟩
  have hlt : j < xs.length := by have := (Array.getElem?_eq_some_iff.1 hj).1; omega
  exact ⟨n, xs[j], by rw [hf j fd hj, List.getElem?_eq_getElem hlt]⟩

theorem elems_of {t el : TypeId} {n s : Nat} {fuel : Nat} {cs : List Value} {x : DataW H × List MemPlace} (hu : E.P.underlying t = some (.array n el)) (hs : E.P.cellsOf el = s) (h : DataW.trod e E.P w base sp held fuel t cs = some x) :
    cs.length = E.P.cellsOf t ∧ ∀ (j : Nat), j < n → ∃ fuel y, DataW.trod e E.P w base sp held fuel el ((cs.drop (j * s)).take (E.P.cellsOf el)) = some y := by
  obtain ⟨xs, m, rfl, rfl, hl, hlen, hf⟩ := DataW.trod_array hu h
  subst hs
  refine ⟨hl, fun j hj => ?_⟩
  have hlt : j < xs.length := by omega
  exact ⟨m, xs[j], by rw [hf j hj, List.getElem?_eq_getElem hlt]⟩

theorem HReads.at {t : TypeId} {c off : Nat} {In : E.G.car c → Prop} {cs : List Value} (hR : HReads E t c In)
    (hx : ∃ fuel y, DataW.trod e E.P w base sp held fuel t ((cs.drop off).take (E.P.cellsOf t)) = some y) : ∃ a, HdL E.G (IsCells w) w (E.G.enc c a) ((cs.drop off).take (E.G.sz c)) ∧ In a := by
  obtain ⟨fuel, y, h⟩ := hx
  rw [hR.1] at h
  exact hR.2 _ _ _ _ _ _ _ _ _ h

theorem hcut_cons {a r : List (CV E.G.car)} {cs : List Value} {o n : Nat} (h : HdL E.G (IsCells w) w a ((cs.drop o).take n)) (hr : HdL E.G (IsCells w) w r (cs.drop (o + n))) : HdL E.G (IsCells w) w (a ++ r) (cs.drop o) := by
  have := hdL_append h hr
  rwa [← List.drop_drop, List.take_append_drop] at this

theorem hcut_nil {cs : List Value} {o : Nat} (h : cs.length ≤ o) : HdL E.G (IsCells w) w [] (cs.drop o) := List.drop_eq_nil_of_le h

/-- A slice's elements. -/
theorem hslice_of {t el : TypeId} {c fuel : Nat} {In : E.G.car c → Prop} {cs : List Value} {x : DataW H × List MemPlace} (hu : E.P.underlying t = some (.slice el)) (hR : HReads E el c In) (hn : 0 < E.G.sz c)
    (h : DataW.trod e E.P w base sp held fuel t cs = some x) :
    ∃ (p : Option Addr) (n cap : Nat) (l : List (E.G.car c)), cs = [.slice p n cap] ∧ Hd E.G (IsCells w) w (.sl c l) (.slice p n cap) ∧ (∀ x ∈ l, In x) ∧ l.length ≤ 9223372036854775807 := by
  rcases DataW.trod_slice hu h with ⟨rfl, _⟩ | ⟨a, len, cap, elems, rest, m, _, rfl, _, hb, hl, hm, hel, hi, _, _⟩
  · exact ⟨none, 0, 0, [], rfl, Hd.mk (b := 0) (o := 0) rfl (Nat.le_refl _) (fun h => absurd rfl h) (fun i x hx => by simp at hx), by simp, by simp⟩
  have build : ∀ k, k ≤ len → ∃ l : List (E.G.car c), l.length = k ∧ ∀ i x, l[i]? = some x → In x ∧ ∃ us, w.cells? base (a.add (i * E.G.sz c)) (E.G.sz c) = some us ∧ HdL E.G (IsCells w) w (E.G.enc c x) us := by
    intro k
    induction k with
    | zero => intro _; exact ⟨[], rfl, fun i x hx => by simp at hx⟩
    | succ k ih =>
      intro hk
      obtain ⟨l, h1, h2⟩ := ih (by omega)
      have h3 := hi k (by omega)
      rw [List.getElem?_eq_getElem (by omega), hR.1, Option.bind_eq_some_iff] at h3
      obtain ⟨cs', h4, h5⟩ := h3
      obtain ⟨y, hy1, hy⟩ := hR.2 _ _ _ _ _ _ _ _ _ h5
      refine ⟨l ++ [y], by simp [h1], fun i x hx => ?_⟩
      rcases Nat.lt_or_ge i k with h6 | h6
      · rw [List.getElem?_append_left (by omega)] at hx; exact h2 i x hx
      · rw [List.getElem?_append_right (by omega)] at hx
        have : i - l.length = 0 := by
          have := (List.getElem?_eq_some_iff.1 hx).1
          simpa using this
        rw [this] at hx
        simp only [List.getElem?_cons_zero, Option.some.injEq] at hx
        subst hx
        obtain rfl : i = k := by omega
        exact ⟨hy, _, h4, hy1⟩
  obtain ⟨l, h1, h2⟩ := build len (Nat.le_refl _)
  have hcell : ∀ (i : Nat) x, l[i]? = some x → ∀ (j : Nat) (cv : CV E.G.car), (E.G.enc c x)[j]? = some cv → ∃ u, w.cell? ((a.add (i * E.G.sz c)).add j) = some u ∧ Hd E.G (IsCells w) w cv u := by
    intro i x hx j cv hcv
    obtain ⟨_, us, h3, h4⟩ := h2 i x hx
    obtain ⟨u, h5, h6⟩ := h4.get j cv hcv
    obtain ⟨_, h7, h8⟩ := World.cells?_some h3
    refine ⟨u, ?_, h6⟩
    rw [h8 j (by rw [← h7]; exact (List.getElem?_eq_some_iff.1 h5).1), h5]
  refine ⟨some a, len, cap, l, rfl, ?_, fun x hx => ?_, by unfold maxLen at hm; omega⟩
  · rcases Nat.eq_zero_or_pos len with h0 | h0
    · have : l = [] := List.length_eq_zero_iff.1 (by omega)
      subst this
      exact Hd.mk (b := 0) (o := 0) h1.symm hl (fun h => absurd rfl h) (fun i x hx => by simp at hx)
    · have hpos : 0 < l.length := by omega
      have hz : 0 < (E.G.enc c l[0]).length := by rw [E.G.hsz]; exact hn
      obtain ⟨u, h3, _⟩ := hcell 0 l[0] (List.getElem?_eq_getElem hpos) 0 _ (List.getElem?_eq_getElem hz)
      rw [Nat.zero_mul, show (a.add 0).add 0 = a by simp [Addr.add]] at h3
      obtain ⟨h4, h5⟩ := isCells_of h3
      obtain ⟨b, o, s⟩ := a
      simp only at h4 h5
      subst h5
      refine Hd.mk (b := b) (o := o) h1.symm hl (fun _ => ⟨rfl, h4⟩) (fun i x hx j cv hcv => ?_)
      have := hcell i x hx j cv hcv
      rwa [addr_add, addr_add] at this
  · obtain ⟨i, hi⟩ := List.getElem?_of_mem hx
    exact (h2 i x hi).1

theorem hreads_slice {t el : TypeId} {c d : Nat} {In : E.G.car c → Prop} {In' : E.G.car d → Prop} (f : List (E.G.car c) → E.G.car d) (hf : ∀ l, E.G.enc d (f l) = [.sl c l]) (hu : E.P.underlying t = some (.slice el)) (hR : HReads E el c In)
    (hn : 0 < E.G.sz c) (hc : E.P.cellsOf t = E.G.sz d) (hIn : ∀ l, (∀ x ∈ l, In x) → l.length ≤ 9223372036854775807 → In' (f l)) : HReads E t d In' :=
  ⟨hc, fun _ _ _ _ _ _ _ _ _ h => by
    obtain ⟨p, n, cap, l, rfl, h1, h2, h3⟩ := hslice_of hu hR hn h
    exact ⟨f l, by rw [hf]; exact hdL_one h1, hIn l h2 h3⟩⟩

/-! ### Arguments -/

theorem harg_int {r : Reach} {b0 : Nat} {t : TypeId} {c : Nat} {k : IntKind} {In : E.G.car c → Prop} {v : Value} {d : DataW H} {ps : List MemPlace} (hR : HReads E t c In) (hu : E.P.underlying t = some (.int k))
    (hval : Value.okWide E.P w r b0 t v) (h : DataW.Trod e E.P w base sp held t v d ps) : ∃ a : E.G.car c, ArgIs E (IsCells w) w (.v c false) a v ∧ In a := by
  obtain ⟨n, rfl⟩ := okWide_int hu hval
  obtain ⟨fuel, hf⟩ := h
  obtain ⟨a, h1, h2⟩ := hR.2 _ _ _ _ _ _ _ _ _ hf
  exact ⟨a, ⟨_, h1, rfl⟩, h2⟩

theorem harg_bool {r : Reach} {b0 : Nat} {t : TypeId} {c : Nat} {In : E.G.car c → Prop} {v : Value} {d : DataW H} {ps : List MemPlace} (hR : HReads E t c In) (hu : E.P.underlying t = some .bool)
    (hval : Value.okWide E.P w r b0 t v) (h : DataW.Trod e E.P w base sp held t v d ps) : ∃ a : E.G.car c, ArgIs E (IsCells w) w (.v c false) a v ∧ In a := by
  obtain ⟨n, rfl⟩ := okWide_bool hu hval
  obtain ⟨fuel, hf⟩ := h
  obtain ⟨a, h1, h2⟩ := hR.2 _ _ _ _ _ _ _ _ _ hf
  exact ⟨a, ⟨_, h1, rfl⟩, h2⟩

theorem harg_agg {r : Reach} {b0 : Nat} {t : TypeId} {c : Nat} {fs : Array Field} {In : E.G.car c → Prop} {v : Value} {d : DataW H} {ps : List MemPlace} (hR : HReads E t c In) (hu : E.P.underlying t = some (.struct fs))
    (hval : Value.okWide E.P w r b0 t v) (h : DataW.Trod e E.P w base sp held t v d ps) : ∃ a : E.G.car c, ArgIs E (IsCells w) w (.v c true) a v ∧ In a := by
  obtain ⟨cs, rfl, _⟩ := okWide_struct hu hval
  obtain ⟨fuel, hf⟩ := h
  obtain ⟨a, h1, h2⟩ := hR.2 _ _ _ _ _ _ _ _ _ hf
  exact ⟨a, ⟨_, h1, rfl⟩, h2⟩

theorem harg_sl {r : Reach} {b0 : Nat} {t el : TypeId} {c : Nat} {In : E.G.car c → Prop} {v : Value} {d : DataW H} {ps : List MemPlace} (hu : E.P.underlying t = some (.slice el)) (hR : HReads E el c In) (hn : 0 < E.G.sz c)
    (hval : Value.okWide E.P w r b0 t v) (h : DataW.Trod e E.P w base sp held t v d ps) : ∃ a : List (E.G.car c), ArgIs E (IsCells w) w (.sl c) a v ∧ (∀ x ∈ a, In x) ∧ a.length ≤ 9223372036854775807 := by
  obtain ⟨p, n, cap, rfl⟩ := okWide_slice hu hval
  obtain ⟨fuel, hf⟩ := h
  obtain ⟨p', n', cap', l, h1, h2, h3, h4⟩ := hslice_of hu hR hn hf
  have h1 : [Value.slice p n cap] = [.slice p' n' cap'] := h1
  simp only [List.cons.injEq, and_true, Value.slice.injEq] at h1
  obtain ⟨rfl, rfl, rfl⟩ := h1
  exact ⟨l, h2, h3, h4⟩

/-- A law whose mirror answers true returns true, and leaves what was there. -/
theorem law_calls {k : Nat} {ps : List PK} {t : Nat} {es : List Nat} {f : AT E.G.car ps → Option (E.G.car t)} (hc : CSok E [] ⟨k, ps, [.v t false es], f⟩) (hglo : E.glo = []) (b : E.G.car t) (hb : E.G.enc t b = [.v (.bool true)])
    {vs : List Value} {xs : AT E.G.car ps} (ha : ArgsAre E (IsCells w) w ps xs vs) (hm : f xs = some b) :
    Calls E.P k vs.toArray w fun e w' => e = .returned (.bool true) ∧ Below w.heap.size w w' := by
  have h := hc.ok (IsCells w) w vs xs ⟨fun _ => ⟨0, none, 0, 0⟩, by rw [hglo]; exact And.intro (fun p hp => nomatch hp) (fun q hq => nomatch hq)⟩ (fun _ h => h) ha b hm
  refine h.mono fun e' w' ⟨us, ms, A', h1, h2, _, _, _, h3, _⟩ => ⟨?_, h2⟩
  obtain ⟨v, rfl, us', h4, h5⟩ := h3
  simp only [Bool.false_eq_true, if_false] at h5
  subst h5
  have h4 : ResCells E.G A' w.heap.size w' (E.G.enc t b) es [v] ms := h4
  rw [hb] at h4
  obtain ⟨us2, h6, _⟩ := h4
  cases h6
  exact h1
end
end Go.KX
