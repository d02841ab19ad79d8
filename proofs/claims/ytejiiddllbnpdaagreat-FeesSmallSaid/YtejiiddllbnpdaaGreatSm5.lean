/- Texts FzF, FzM, FzLaw, KFR: own work; each part says what it is. -/
import Derived.Test.YtejiiddllbnpdaaGreatSm4
import Derived.Handed
import Derived.OpenShut
import Derived.ChangeSlices
import Derived.JoinedOf
namespace Go.Proofs.Fz
open Go Go.KX
theorem within_eq (F : Nat) (a b c : Int) : fees_within F a b c = some (decide (a ≥ b) && decide (a ≤ c)) := rfl
theorem refIn_eq (F : Nat) (a b c : Int) : ref12_in F a b c = some (decide (a ≥ b) && decide (a ≤ c)) := rfl
theorem wb {x lo hi : Int} : (decide (x ≥ lo) && decide (x ≤ hi)) = decide (lo ≤ x ∧ x ≤ hi) := by
 by_cases h1 : x ≥ lo <;> by_cases h2 : x ≤ hi <;> simp [h1, h2] <;> omega
def mn (n c : Int) : Int := if n < c then n else c
def cutV (l : List Int) (n : Int) : Int := sumL (l.map (mn n))
abbrev Cl (l : List Int) : Prop := ∀ c ∈ l, 0 ≤ c ∧ c ≤ 1000000000000
theorem mn_le {n c : Int} : mn n c ≤ n ∧ mn n c ≤ c := by unfold mn; split <;> omega
theorem mn_mono {n m c : Int} (h : n ≤ m) : mn n c ≤ mn m c := by unfold mn; split <;> split <;> omega
theorem cutV_mono : ∀ (l : List Int) {n m : Int}, n ≤ m → cutV l n ≤ cutV l m
 | [], _, _, _ => Int.le_refl _
 | c :: l, n, m, h => by
  have h1 := cutV_mono l h
  have h2 := mn_mono (c := c) h
  simp only [cutV, List.map_cons, sumL] at h1 ⊢
  omega
theorem cutV_zero : ∀ (l : List Int), (∀ c ∈ l, 0 ≤ c) → cutV l 0 = 0
 | [], _ => rfl
 | c :: l, h => by
  have h1 := cutV_zero l fun x hx => h x (List.mem_cons_of_mem _ hx)
  have h2 := h c List.mem_cons_self
  simp only [cutV, List.map_cons, sumL] at h1 ⊢
  unfold mn at h1 ⊢
  split <;> omega
theorem cutV_nonneg {l : List Int} {n : Int} (hn : 0 ≤ n) (h : ∀ c ∈ l, 0 ≤ c) : 0 ≤ cutV l n := by
 have := cutV_mono l hn
 rw [cutV_zero l h] at this
 exact this
theorem cutV_all : ∀ (l : List Int) {n : Int}, (∀ c ∈ l, c ≤ n) → cutV l n = sumL l
 | [], _, _ => rfl
 | c :: l, n, h => by
  have h1 := cutV_all l (n := n) fun x hx => h x (List.mem_cons_of_mem _ hx)
  have h2 := h c List.mem_cons_self
  simp only [cutV, List.map_cons, sumL] at h1 ⊢
  rw [h1]
  unfold mn
  rw [if_neg (by omega)]
theorem cut_eq {F : Nat} {l : List Int} {n : Int} (hF : l.length < F) (hl : l.length ≤ 1000) (h : Cl l) (hn : 0 ≤ n ∧ n ≤ 1000000000000) : fees_cut F l n = some (cutV l n) := by
 refine Ok.eq ?_
 unfold fees_cut
 refine ok_loop (fun x : Int × Int => 0 ≤ x.1 ∧ x.1 ≤ l.length ∧ x.2 = sumL ((l.map (mn n)).take x.1.toNat)) (fun x : Int × Int => l.length - x.1.toNat) ⟨by simp, by simp, rfl⟩ (by simp; omega) ?_
 rintro ⟨i, s⟩ next ⟨i1, i2, i3⟩ hn'
 simp only at i1 i2 i3
 dsimp only
 have hlm : (l.map (mn n)).length = l.length := List.length_map _
 have hb : ∀ x ∈ (l.map (mn n)).take i.toNat, 0 ≤ x ∧ x ≤ 1000000000000 := fun x hx => by
  obtain ⟨c, hc, rfl⟩ := List.mem_map.1 (List.mem_of_mem_take hx)
  have := h c hc
  unfold mn; split <;> omega
 have hs0 := sumL_nonneg _ fun x hx => (hb x hx).1
 have hs1 := sumL_le _ fun x hx => (hb x hx).2
 have htl : ((l.map (mn n)).take i.toNat).length = i.toNat := by rw [List.length_take, hlm]; omega
 rw [htl] at hs1
 refine ok_brk (fun hc => ?_) (fun hc => ok_some ?_)
 ·have hc : i < l.length := of_decide_eq_true hc
  have hi : i.toNat < l.length := by omega
  have hci := h _ (getD_mem (d := 0) hi)
  have hmi : (if n < l.getD i.toNat 0 then n else l.getD i.toNat 0) = mn n (l.getD i.toNat 0) := rfl
  rw [hmi]
  have hmb : 0 ≤ mn n (l.getD i.toNat 0) ∧ mn n (l.getD i.toNat 0) ≤ 1000000000000 := by unfold mn; split <;> omega
  refine ok_chk ⟨i1, hc⟩ (ok_chk (show InR _ from ⟨by omega, by omega⟩) (ok_chk (show InR _ from ⟨by omega, by omega⟩) (hn' _ ⟨by show 0 ≤ i + 1; omega, by show i + 1 ≤ _; omega, ?_⟩ (by show l.length - (i + 1).toNat < l.length - i.toNat; omega))))
  show s + mn n (l.getD i.toNat 0) = sumL ((l.map (mn n)).take (i + 1).toNat)
  rw [show (i + 1).toNat = i.toNat + 1 by omega, take_succ' (d := 0) (by omega), sumL_append, i3]
  congr 1
  simp only [sumL, Int.add_zero]
  rw [getD_get (l := l.map (mn n)) (by omega), List.getElem_map, getD_get hi]
 ·have hc : ¬ i < l.length := of_decide_eq_false hc
  show s = cutV l n
  rw [i3, List.take_of_length_le (by omega)]; rfl
def MaxOK (l : List Int) (m : Int) : Prop := m ∈ l ∧ ∀ c ∈ l, c ≤ m
theorem max_ok {F : Nat} {l : List Int} (hF : l.length < F) (hl : l.length ≤ 1000000) (h : 1 ≤ l.length) : Ok (MaxOK l) (slices_Max_int F l) := by
 unfold slices_Max_int
 refine ok_brkF (by simp; omega) (ok_chk ⟨by omega, by omega⟩ ?_)
 refine ok_loop (fun x : Int × Int => 1 ≤ x.1 ∧ x.1 ≤ l.length ∧ x.2 ∈ l ∧ ∀ j : Nat, (j : Int) < x.1 → l.getD j 0 ≤ x.2) (fun x : Int × Int => l.length - x.1.toNat) ⟨by simp, by simp; omega, getD_mem (by show (0 : Nat) < _; omega), fun j hj => by
  have hj : (j : Int) < 1 := hj
  obtain rfl : j = 0 := by omega
  exact Int.le_refl _⟩ (by simp; omega) ?_
 rintro ⟨i, s⟩ next ⟨i1, i2, i3, i4⟩ hn
 simp only at i1 i2 i3 i4
 dsimp only
 refine ok_brk (fun hc => ?_) (fun hc => ok_some ⟨i3, fun c hc' => ?_⟩)
 ·have hc : i < l.length := of_decide_eq_true hc
  refine ok_chk ⟨by omega, hc⟩ (ok_chk (show InR _ from ⟨by omega, by omega⟩) (hn _ ⟨by show 1 ≤ i + 1; omega, by show i + 1 ≤ _; omega, ?_, fun j hj => ?_⟩ (by show l.length - (i + 1).toNat < l.length - i.toNat; omega)))
  ·show (if l.getD i.toNat 0 > s then l.getD i.toNat 0 else s) ∈ l
   split
   ·exact getD_mem (by omega)
   ·exact i3
  ·have hj : (j : Int) < i + 1 := hj
   show l.getD j 0 ≤ if l.getD i.toNat 0 > s then l.getD i.toNat 0 else s
   by_cases e : (j : Int) < i
   ·have := i4 j e
    split <;> omega
   ·obtain rfl : j = i.toNat := by omega
    split <;> omega
 ·have hc : ¬ i < l.length := of_decide_eq_false hc
  obtain ⟨j, hj, rfl⟩ := List.getElem_of_mem hc'
  have := i4 j (by omega)
  rw [getD_get hj] at this
  exact this
structure LevelOK (l : List Int) (e : Int) (r : Int × Int) : Prop where
 n0 : 0 ≤ r.1
 top : r.1 = 0 ∨ ∃ c ∈ l, r.1 ≤ c
 cut : cutV l r.1 ≤ e
 left : r.2 = e - cutV l r.1
 max : (∀ c ∈ l, c ≤ r.1) ∨ e < cutV l (r.1 + 1)
theorem LevelOK.one {l : List Int} {e : Int} {r s : Int × Int} (h : LevelOK l e r) (h' : LevelOK l e s) : r = s := by
 have key : ∀ {r s : Int × Int}, LevelOK l e r → LevelOK l e s → ¬ r.1 < s.1 := by
  intro r s h h' hlt
  have hn := h.n0
  rcases h'.top with q | ⟨c, hc, q⟩
  ·omega
  ·rcases h.max with p | p
   ·have := p c hc; omega
   ·have h1 := cutV_mono l (n := r.1 + 1) (m := s.1) (by omega)
    have h2 := h'.cut
    omega
 have e1 : r.1 = s.1 := by
  have h1 := key h h'
  have h2 := key h' h
  omega
 have e2 : r.2 = s.2 := by rw [h.left, h'.left, e1]
 exact Prod.ext e1 e2
theorem LevelOK.left0 {l : List Int} {e : Int} {r : Int × Int} (h : LevelOK l e r) : 0 ≤ r.2 := by have := h.left; have := h.cut; omega
theorem level_ok {F : Nat} {l : List Int} {e : Int} (hF : 2000000000000 < F) (h1 : 1 ≤ l.length) (h2 : l.length ≤ 40) (h : Cl l) (he : 0 ≤ e ∧ e ≤ 1000000000000) : Ok (LevelOK l e) (fees_level F l e) := by
 unfold fees_level
 refine ok_bnd _ (max_ok (by omega) (by omega) h1) ?_
 intro m ⟨m1, m2⟩
 have hm := h m m1
 have hz := cutV_zero l fun c hc => (h c hc).1
 rw [show IntKind.i64.wrap (0 - 1) = -1 from rfl]
 refine ok_loop (fun x : Int × Int => -1 ≤ x.2 ∧ x.2 ≤ x.1 ∧ 0 ≤ x.1 ∧ x.1 ≤ m ∧ (x.2 = -1 ∨ cutV l x.2 ≤ e) ∧ (x.1 = m ∨ e < cutV l (x.1 + 1))) (fun x : Int × Int => (x.1 - x.2).toNat)
  ⟨by simp, by show -1 ≤ m; omega, hm.1, Int.le_refl _, .inl rfl, .inl rfl⟩ (by show (m - (-1)).toNat < F; omega) ?_
 rintro ⟨hi, lo⟩ next ⟨i1, i2, i3, i4, i5, i6⟩ hn
 simp only at i1 i2 i3 i4 i5 i6
 dsimp only
 refine ok_brk (fun hc => ?_) (fun hc => ?_)
 ·have hc : lo < hi := of_decide_eq_true hc
  refine ok_chk (show InR _ from ⟨by omega, by omega⟩) (ok_chk (show InR _ from ⟨by omega, by omega⟩) (ok_chk ⟨by omega, by omega⟩ (ok_chk (show InR _ from ⟨by omega, by omega⟩) ?_)))
  have g1 : lo < lo + (hi - lo + 1) / 2 := by omega
  have g2 : lo + (hi - lo + 1) / 2 ≤ hi := by omega
  generalize lo + (hi - lo + 1) / 2 = mid at g1 g2
  refine ok_bnde (cut_eq (by omega) (by omega) h ⟨by omega, by omega⟩) (ok_brk (fun hb => ?_) (fun hb => ok_chk (show InR _ from ⟨by omega, by omega⟩) ?_))
  ·have hb : cutV l mid ≤ e := of_decide_eq_true hb
   exact hn _ ⟨by show -1 ≤ mid; omega, g2, i3, i4, .inr hb, i6⟩ (by show (hi - mid).toNat < (hi - lo).toNat; omega)
  ·have hb : ¬ cutV l mid ≤ e := of_decide_eq_false hb
   have hmid : mid ≠ 0 := fun q => by subst q; omega
   exact hn _ ⟨i1, by show lo ≤ mid - 1; omega, by show 0 ≤ mid - 1; omega, by show mid - 1 ≤ m; omega, i5, .inr (by show e < cutV l (mid - 1 + 1); rw [Int.sub_add_cancel]; omega)⟩ (by show (mid - 1 - lo).toNat < (hi - lo).toNat; omega)
 ·have hc : ¬ lo < hi := of_decide_eq_false hc
  obtain rfl : lo = hi := by omega
  have hcut : cutV l lo ≤ e := by
   rcases i5 with q | q
   ·omega
   ·exact q
  have hc0 := cutV_nonneg (l := l) i3 fun c hc => (h c hc).1
  refine ok_bnde (cut_eq (by omega) (by omega) h ⟨i3, by omega⟩) (ok_chk (show InR _ from ⟨by omega, by omega⟩) (ok_some ⟨i3, .inr ⟨m, m1, i4⟩, hcut, rfl, ?_⟩))
  rcases i6 with q | q
  ·exact .inl fun c hc => by show c ≤ lo; rw [q]; exact m2 c hc
  ·exact .inr q
def abv (l : List Int) (n : Int) : Nat := (l.filter fun c => decide (n < c)).length
theorem abv_cons (c : Int) (l : List Int) (n : Int) : abv (c :: l) n = (if n < c then 1 else 0) + abv l n := by
 unfold abv
 rw [List.filter_cons]
 by_cases h : n < c
 ·rw [if_pos (decide_eq_true h), if_pos h, List.length_cons]; omega
 ·rw [if_neg (by simpa using h), if_neg h]; omega
theorem abv_le (l : List Int) (n : Int) : abv l n ≤ l.length := List.length_filter_le _ _
theorem cutV_line {a x : Int} (hax : a ≤ x) : ∀ l : List Int, (∀ c ∈ l, c ≤ a ∨ x ≤ c) → cutV l x = cutV l a + (x - a) * (abv l a : Int)
 | [], _ => by simp [cutV, sumL, abv]
 | c :: l, h => by
  have h1 := cutV_line hax l fun y hy => h y (List.mem_cons_of_mem _ hy)
  have h2 := h c List.mem_cons_self
  rw [abv_cons]
  simp only [cutV, List.map_cons, sumL] at h1 ⊢
  rw [h1]
  by_cases hc : a < c
  ·rw [if_pos hc]
   have e1 : mn x c = x := by unfold mn; split <;> omega
   have e2 : mn a c = a := by unfold mn; split <;> omega
   rw [e1, e2]
   push_cast
   rw [Int.mul_add]
   omega
  ·rw [if_neg hc]
   have e1 : mn x c = c := by unfold mn; split <;> omega
   have e2 : mn a c = c := by unfold mn; split <;> omega
   rw [e1, e2, Nat.zero_add]
   omega
theorem abv_lt {a x : Int} (hax : a ≤ x) : ∀ l : List Int, abv l x ≤ abv l a
 | [] => Nat.le_refl _
 | c :: l => by
  have := abv_lt hax l
  rw [abv_cons, abv_cons]
  by_cases h : x < c
  ·rw [if_pos h, if_pos (by omega)]; omega
  ·rw [if_neg h]; split <;> omega
theorem abv_drop {a x : Int} (hax : a < x) : ∀ l : List Int, x ∈ l → abv l x < abv l a
 | c :: l, h => by
  rw [abv_cons, abv_cons]
  rcases List.mem_cons.1 h with rfl | h
  ·have := abv_lt (Int.le_of_lt hax) l
   rw [if_neg (by omega), if_pos hax]; omega
  ·have := abv_drop hax l h
   by_cases hc : x < c
   ·rw [if_pos hc, if_pos (by omega)]; omega
   ·rw [if_neg hc]; split <;> omega
theorem abv_zero {n : Int} : ∀ l : List Int, abv l n = 0 → ∀ c ∈ l, c ≤ n
 | [], _, c, hc => by cases hc
 | d :: l, h, c, hc => by
  rw [abv_cons] at h
  rcases List.mem_cons.1 hc with rfl | hc
  ·by_cases q : n < c
   ·rw [if_pos q] at h; omega
   ·omega
  ·exact abv_zero l (by omega) c hc
theorem refLevel_ok {F : Nat} {l : List Int} {e : Int} (hF : 2000000000000 < F) (h2 : l.length ≤ 40) (h : Cl l) (he : 0 ≤ e ∧ e ≤ 1000000000000) : Ok (LevelOK l e) (ref12_level F l e) := by
 unfold ref12_level
 have hz := cutV_zero l fun c hc => (h c hc).1
 refine ok_loop (fun x : Int × Int => 0 ≤ x.1 ∧ 0 ≤ x.2 ∧ x.2 ≤ 1000000000000 ∧ (x.2 = 0 ∨ x.2 ∈ l) ∧ x.1 = e - cutV l x.2) (fun x : Int × Int => abv l x.2)
  ⟨he.1, by simp, by simp, .inl rfl, by show e = e - cutV l 0; omega⟩ (by have := abv_le l 0; show abv l 0 < F; omega) ?_
 rintro ⟨rem, a⟩ next ⟨i1, i2, i3, i4, i5⟩ hnext
 simp only at i1 i2 i3 i4 i5
 dsimp only
 have hc0 := cutV_nonneg (l := l) i2 fun c hc => (h c hc).1
 refine ok_loop (fun x : Int × Int × Int => 0 ≤ x.2.1 ∧ x.2.1 ≤ l.length ∧ x.1 = (abv (l.take x.2.1.toNat) a : Int) ∧ ((x.2.2 = -1 ∧ x.1 = 0) ∨ (1 ≤ x.1 ∧ x.2.2 ∈ l ∧ a < x.2.2 ∧ ∀ j : Nat, (j : Int) < x.2.1 → a < l.getD j 0 → x.2.2 ≤ l.getD j 0))) (fun x : Int × Int × Int => l.length - x.2.1.toNat)
  ⟨by simp, by simp, rfl, .inl ⟨rfl, rfl⟩⟩ (by simp; omega) ?_
 rintro ⟨ab, i, nx⟩ next2 ⟨j1, j2, j3, j4⟩ hn
 simp only at j1 j2 j3 j4
 dsimp only
 have hab : ab ≤ 40 := by
  have := abv_le (l.take i.toNat) a
  have := List.length_take_le i.toNat l
  omega
 have hab0 : 0 ≤ ab := by omega
 refine ok_brk (fun hc => ?_) (fun hc => ?_)
 ·have hc : i < l.length := of_decide_eq_true hc
  have hi : i.toNat < l.length := by omega
  have hci := h _ (getD_mem (d := 0) hi)
  have hst : abv (l.take (i + 1).toNat) a = abv (l.take i.toNat) a + (if a < l.getD i.toNat 0 then 1 else 0) := by
   rw [show (i + 1).toNat = i.toNat + 1 by omega, take_succ' (d := 0) hi]
   unfold abv
   rw [List.filter_append, List.length_append]
   congr 1
   by_cases q : a < l.getD i.toNat 0
   ·rw [if_pos q, List.filter_cons, if_pos (decide_eq_true q)]; rfl
   ·rw [if_neg q, List.filter_cons, if_neg (by simpa using q)]; rfl
  refine ok_join (by omega) (fun x : Int × Int => x.1 = (abv (l.take (i + 1).toNat) a : Int) ∧ ((x.2 = -1 ∧ x.1 = 0) ∨ (1 ≤ x.1 ∧ x.2 ∈ l ∧ a < x.2 ∧ ∀ j : Nat, (j : Int) < i + 1 → a < l.getD j 0 → x.2 ≤ l.getD j 0))) (fun x hx => ok_chk (show InR (i + 1) from ⟨by omega, by omega⟩) (hn _ ⟨by show 0 ≤ i + 1; omega, by show i + 1 ≤ _; omega, hx⟩ (by show l.length - (i + 1).toNat < l.length - i.toNat; omega))) fun k hk => ?_
  refine ok_chk ⟨j1, hc⟩ (ok_brk (fun hb => ?_) (fun hb => hk _ ⟨?_, ?_⟩))
  ·have hb : a < l.getD i.toNat 0 := of_decide_eq_true hb
   rw [if_pos hb] at hst
   refine ok_chk (show InR (ab + 1) from ⟨by omega, by omega⟩) (ok_chk (fun _ => ⟨j1, hc⟩) (ok_brk (fun hq => ok_chk ⟨j1, hc⟩ (hk _ ⟨by show ab + 1 = _; omega, .inr ⟨by show 1 ≤ ab + 1; omega, getD_mem hi, hb, fun j hj haj => ?_⟩⟩)) (fun hq => hk _ ⟨by show ab + 1 = _; omega, ?_⟩)))
   ·show l.getD i.toNat 0 ≤ l.getD j 0
    simp only [Bool.or_eq_true, decide_eq_true_eq] at hq
    by_cases e2 : (j : Int) < i
    ·rcases j4 with ⟨q1, q2⟩ | ⟨q1, q2, q3, q4⟩
     ·exfalso
      have hmem : l.getD j 0 ∈ (l.take i.toNat).filter fun c => decide (a < c) := by
       rw [List.mem_filter]
       refine ⟨?_, decide_eq_true haj⟩
       rw [getD_get (by omega : j < l.length)]
       exact List.mem_take_iff_getElem.2 ⟨j, by omega, rfl⟩
      have : 0 < abv (l.take i.toNat) a := List.length_pos_of_mem hmem
      omega
     ·have := q4 j e2 haj
      rcases hq with hq | hq <;> omega
    ·obtain rfl : j = i.toNat := by omega
     exact Int.le_refl _
   ·simp only [Bool.or_eq_false_iff, decide_eq_false_iff_not] at hq
    rcases j4 with ⟨q1, q2⟩ | ⟨q1, q2, q3, q4⟩
    ·omega
    ·refine .inr ⟨by show 1 ≤ ab + 1; omega, q2, q3, fun j hj haj => ?_⟩
     have hj : (j : Int) < i + 1 := hj
     by_cases e2 : (j : Int) < i
     ·exact q4 j e2 haj
     ·obtain rfl : j = i.toNat := by omega
      show nx ≤ l.getD i.toNat 0
      omega
  ·have hb : ¬ a < l.getD i.toNat 0 := of_decide_eq_false hb
   rw [if_neg hb] at hst
   show ab = _
   omega
  ·have hb : ¬ a < l.getD i.toNat 0 := of_decide_eq_false hb
   rcases j4 with q | ⟨q1, q2, q3, q4⟩
   ·exact .inl q
   ·refine .inr ⟨q1, q2, q3, fun j hj haj => ?_⟩
    have hj : (j : Int) < i + 1 := hj
    by_cases e2 : (j : Int) < i
    ·exact q4 j e2 haj
    ·obtain rfl : j = i.toNat := by omega
     exact absurd haj hb
 ·have hc : ¬ i < l.length := of_decide_eq_false hc
  rw [List.take_of_length_le (by omega)] at j3
  have htop : a = 0 ∨ ∃ c ∈ l, a ≤ c := by
   rcases i4 with q | q
   ·exact .inl q
   ·exact .inr ⟨a, q, Int.le_refl _⟩
  refine ok_brk (fun hb => ok_some ⟨i2, htop, by show cutV l a ≤ e; omega, i5, .inl (abv_zero l ?_)⟩) (fun hb => ?_)
  ·have hb : ab = 0 := by simpa using hb
   show abv l a = 0
   omega
  have hb : ab ≠ 0 := by simpa using hb
  rcases j4 with ⟨q1, q2⟩ | ⟨q1, q2, q3, q4⟩
  ·omega
  have hnx := h nx q2
  have hall : ∀ c ∈ l, c ≤ a ∨ nx ≤ c := fun c hc' => by
   obtain ⟨j, hj, rfl⟩ := List.getElem_of_mem hc'
   by_cases q : a < l[j]
   ·have := q4 j (by omega) (by rw [getD_get hj]; exact q)
    rw [getD_get hj] at this
    exact .inr this
   ·exact .inl (by omega)
  have hline := cutV_line (Int.le_of_lt q3) l hall
  rw [← j3] at hline
  have hmul : 0 ≤ (nx - a) * ab ∧ (nx - a) * ab ≤ 40000000000000 := by
   refine ⟨Int.mul_nonneg (by omega) hab0, ?_⟩
   have h1 : (nx - a) * ab ≤ 1000000000000 * ab := Int.mul_le_mul_of_nonneg_right (by omega) hab0
   omega
  refine ok_chk (show InR (nx - a) from ⟨by omega, by omega⟩) (ok_chk (show InR _ from ⟨by omega, by omega⟩) (ok_brk (fun hd => ?_) (fun hd => ?_)))
  ·have hd : (nx - a) * ab > rem := of_decide_eq_true hd
   have hq0 : 0 ≤ rem / ab := Int.ediv_nonneg i1 hab0
   have hq1 : rem / ab * ab ≤ rem := Int.ediv_mul_le _ hb
   have hq2 : rem < (rem / ab + 1) * ab := by
    have h3 := Int.lt_ediv_add_one_mul_self rem (show (0 : Int) < ab by omega)
    exact h3
   have hq3 : rem / ab < nx - a := by
    rcases Int.lt_or_le (rem / ab) (nx - a) with q | q
    ·exact q
    ·have := Int.mul_le_mul_of_nonneg_right q hab0
     omega
   have hmod : rem % ab = rem - rem / ab * ab := by
    have := Int.emod_add_mul_ediv rem ab
    rw [Int.mul_comm] at this
    omega
   have hcut : cutV l (a + rem / ab) = cutV l a + rem / ab * ab := by
    have := cutV_line (a := a) (x := a + rem / ab) (by omega) l fun c hc' => by
     rcases hall c hc' with q | q
     ·exact .inl q
     ·exact .inr (by omega)
    rw [this, ← j3, show a + rem / ab - a = rem / ab by omega]
   have hcut1 : cutV l (a + rem / ab + 1) = cutV l a + (rem / ab + 1) * ab := by
    have := cutV_line (a := a) (x := a + rem / ab + 1) (by omega) l fun c hc' => by
     rcases hall c hc' with q | q
     ·exact .inl q
     ·exact .inr (by omega)
    rw [this, ← j3, show a + rem / ab + 1 - a = rem / ab + 1 by omega]
   refine ok_chk ⟨⟨i1, by omega⟩, by omega⟩ (ok_chk (show InR _ from ⟨by omega, by omega⟩) (ok_chk ⟨⟨i1, by omega⟩, by omega⟩ (ok_some ⟨by show 0 ≤ a + rem / ab; omega, .inr ⟨nx, q2, by show a + rem / ab ≤ nx; omega⟩, ?_, ?_, .inr ?_⟩)))
   ·show cutV l (a + rem / ab) ≤ e
    omega
   ·show rem % ab = e - cutV l (a + rem / ab)
    omega
   ·show e < cutV l (a + rem / ab + 1)
    omega
  ·have hd : ¬ (nx - a) * ab > rem := of_decide_eq_false hd
   exact ok_chk (show InR _ from ⟨by omega, by omega⟩) (ok_chk (show InR _ from ⟨by omega, by omega⟩) (ok_chk (show InR _ from ⟨by omega, by omega⟩) (hnext _ ⟨by show 0 ≤ rem - (nx - a) * ab; omega, by show 0 ≤ nx; omega, hnx.2, .inr q2, by show rem - (nx - a) * ab = e - cutV l nx; omega⟩ (abv_drop q3 l q2))))
open Classical in
noncomputable def claimedV (l : List Int) (e : Int) : Int := if 1 ≤ l.length ∧ l.length ≤ 40 then (if Cl l ∧ 0 ≤ e ∧ e ≤ 1000000000000 then 0 else 6) else 2
theorem claimedV_zero {l : List Int} {e : Int} (h : claimedV l e = 0) : 1 ≤ l.length ∧ l.length ≤ 40 ∧ Cl l ∧ 0 ≤ e ∧ e ≤ 1000000000000 := by
 unfold claimedV at h
 split at h
 ·split at h
  ·rename_i h1 h2; exact ⟨h1.1, h1.2, h2⟩
  ·omega
 ·omega
theorem claimed1_eq (F : Nat) (c : Int) : fees_claimed_1 F c = some (!decide (0 ≤ c ∧ c ≤ 1000000000000)) := by
 show some (!(decide (c ≥ 0) && decide (c ≤ 1000000000000))) = _
 rw [wb]
theorem claimed_eq {F : Nat} {l : List Int} {e : Int} (hF : 100 < F) : fees_claimed F l e = some (claimedV l e) := by
 refine Ok.eq ?_
 unfold fees_claimed
 rw [within_eq]
 refine ok_bnde rfl ?_
 rw [wb]
 unfold claimedV
 by_cases h : (1 : Int) ≤ l.length ∧ (l.length : Int) ≤ 40
 ·rw [if_pos (by omega)]
  refine ok_brkF (ndF h) ?_
  refine ok_join (by omega) (fun x : Int => (x = -1 ∧ Cl l) ∨ (0 ≤ x ∧ ¬ Cl l)) (fun x hx => ?_) fun k hk => ?_
  ·rw [within_eq]
   rcases hx with ⟨rfl, hc⟩ | ⟨hx, hc⟩
   ·rw [wb]
    refine ok_bnde (b := decide (0 ≤ e ∧ e ≤ 1000000000000)) rfl ?_
    by_cases he : 0 ≤ e ∧ e ≤ 1000000000000
    ·exact ok_brkF (ndF he) (ok_some (by rw [if_pos ⟨hc, he⟩]))
    ·exact ok_brkT (ndT he) (ok_some (by rw [if_neg (fun q => he q.2)]))
   ·have h1 : decide (x ≥ 0) = true := decide_eq_true hx
    rw [h1]
    exact ok_bnde (b := false) rfl (ok_brkT rfl (ok_some (by rw [if_neg (fun q => hc q.1)])))
  ·refine ok_find (p := fun c => !decide (0 ≤ c ∧ c ≤ 1000000000000)) (by omega) (by omega) (fun c _ => claimed1_eq F c) (fun i hi hp => hk _ (.inr ⟨by omega, fun q => ?_⟩)) (fun hp => hk _ (.inl ⟨rfl, fun c hc => ?_⟩))
   ·exact nd_true hp (q _ (getD_mem hi))
   ·exact nd_false (hp c hc)
 ·rw [if_neg (by omega)]
  exact ok_brkT (ndT h) (ok_some rfl)
theorem refClaimed_eq {F : Nat} {l : List Int} {e : Int} (hF : 100 < F) : ref12_claimed F l e = some (claimedV l e) := by
 refine Ok.eq ?_
 unfold ref12_claimed claimedV
 by_cases h : (1 : Int) ≤ l.length ∧ (l.length : Int) ≤ 40
 ·rw [if_pos (by omega)]
  refine ok_brkF (by simp; omega) ?_
  refine ok_loop (fun x : Int => 0 ≤ x ∧ x ≤ l.length ∧ ∀ j : Nat, (j : Int) < x → 0 ≤ l.getD j 0 ∧ l.getD j 0 ≤ 1000000000000) (fun x : Int => l.length - x.toNat) ⟨by simp, by simp, fun j hj => by omega⟩ (by simp; omega) ?_
  rintro i next ⟨i1, i2, i3⟩ hn
  refine ok_brk (fun hc => ?_) (fun hc => ?_)
  ·have hc : i < l.length := of_decide_eq_true hc
   rw [refIn_eq, wb]
   refine ok_chk ⟨i1, hc⟩ (ok_bnde rfl (ok_brk (fun hb => ok_some ?_) (fun hb => ok_chk (show InR _ from ⟨by omega, by omega⟩) (hn _ ⟨by omega, by omega, fun j hj => ?_⟩ (by show l.length - (i + 1).toNat < l.length - i.toNat; omega)))))
   ·rw [if_neg]
    intro q
    have := q.1 _ (getD_mem (d := 0) (show i.toNat < l.length by omega))
    exact nd_true hb this
   ·by_cases e : (j : Int) < i
    ·exact i3 j e
    ·obtain rfl : j = i.toNat := by omega
     exact nd_false hb
  ·have hc : ¬ i < l.length := of_decide_eq_false hc
   have hcl : Cl l := fun c hc => by
    obtain ⟨j, hj, rfl⟩ := List.getElem_of_mem hc
    have := i3 j (by omega)
    rwa [getD_get hj] at this
   rw [refIn_eq, wb]
   refine ok_bnde rfl (ok_brk (fun hb => ok_some ?_) (fun hb => ok_some ?_))
   ·rw [if_neg]
    intro q
    exact nd_true hb q.2
   ·rw [if_pos ⟨hcl, nd_false hb⟩]
 ·rw [if_neg (by omega)]
  exact ok_brkT (by simp; omega) (ok_some rfl)
def awV (n : Int) : Int → List Int → List Int
 | _, [] => []
 | left, c :: l => if c > n then (if left > 0 then (n + 1) :: awV n (left - 1) l else n :: awV n left l) else c :: awV n left l
theorem awV_cons (n left c : Int) (l : List Int) : awV n left (c :: l) = if c > n then (if left > 0 then (n + 1) :: awV n (left - 1) l else n :: awV n left l) else c :: awV n left l := rfl
theorem awV_length (n : Int) : ∀ (l : List Int) (left : Int), (awV n left l).length = l.length
 | [], _ => rfl
 | c :: l, left => by
  unfold awV
  split
  ·split <;> simp [awV_length n l]
  ·simp [awV_length n l]
def AwOK (l : List Int) (e : Int) (out : List Int) : Prop := ∃ r, LevelOK l e r ∧ out = awV r.1 r.2 l
theorem AwOK.one {l : List Int} {e : Int} {a b : List Int} (h : AwOK l e a) (h' : AwOK l e b) : a = b := by
 obtain ⟨r, h1, rfl⟩ := h
 obtain ⟨s, h2, rfl⟩ := h'
 rw [h1.one h2]
theorem LevelOK.bounds {l : List Int} {e : Int} {r : Int × Int} (h : LevelOK l e r) (hl : Cl l) (he : e ≤ 1000000000000) : r.1 ≤ 1000000000000 ∧ 0 ≤ r.2 ∧ r.2 ≤ 1000000000000 := by
 refine ⟨?_, h.left0, ?_⟩
 ·rcases h.top with q | ⟨c, hc, q⟩
  ·omega
  ·have := hl c hc; omega
 ·have := cutV_nonneg (l := l) h.n0 fun c hc => (hl c hc).1
  have := h.left
  omega
theorem awards_ok {F : Nat} {l : List Int} {e : Int} (hF : 2000000000000 < F) (h1 : 1 ≤ l.length) (h2 : l.length ≤ 40) (h : Cl l) (he : 0 ≤ e ∧ e ≤ 1000000000000) : Ok (AwOK l e) (fees_awards F l e) := by
 unfold fees_awards
 refine ok_bnd _ (level_ok hF h1 h2 h he) ?_
 intro r hr
 obtain ⟨b1, b2, b3⟩ := hr.bounds h he.2
 have b0 := hr.n0
 refine ok_loop (fun x : Int × List Int × Int => 0 ≤ x.2.2 ∧ x.2.2 ≤ l.length ∧ 0 ≤ x.1 ∧ x.1 ≤ 1000000000000 ∧ x.2.1.length = x.2.2.toNat ∧ x.2.1 ++ awV r.1 x.1 (l.drop x.2.2.toNat) = awV r.1 r.2 l) (fun x : Int × List Int × Int => l.length - x.2.2.toNat)
  ⟨by simp, by simp, b2, b3, rfl, rfl⟩ (by simp; omega) ?_
 rintro ⟨left, out, i⟩ next ⟨i1, i2, i3, i4, i5, i6⟩ hn
 simp only at i1 i2 i3 i4 i5 i6
 dsimp only
 refine ok_brk (fun hc => ?_) (fun hc => ok_some ⟨r, hr, ?_⟩)
 ·have hc : i < l.length := of_decide_eq_true hc
  have hi : i.toNat < l.length := by omega
  rw [drop_get (d := 0) hi, show i.toNat + 1 = (i + 1).toNat by omega] at i6
  have hci := h _ (getD_mem (d := 0) hi)
  refine ok_chk ⟨i1, hc⟩ (ok_join (by omega) (fun x : Int × Int => 0 ≤ x.1 ∧ x.1 ≤ 1000000000000 ∧ out ++ [x.2] ++ awV r.1 x.1 (l.drop (i + 1).toNat) = awV r.1 r.2 l) (fun x hx => ?_) fun k hk => ?_)
  ·refine ok_chk (by simp; omega) (ok_chk (show InR _ from ⟨by omega, by omega⟩) (hn _ ⟨by show 0 ≤ i + 1; omega, by show i + 1 ≤ _; omega, hx.1, hx.2.1, by show (out ++ [x.2]).length = (i + 1).toNat; simp; omega, hx.2.2⟩ (by show l.length - (i + 1).toNat < l.length - i.toNat; omega)))
  ·have e1 : (if r.1 < l.getD i.toNat 0 then r.1 else l.getD i.toNat 0) = mn r.1 (l.getD i.toNat 0) := rfl
   rw [e1]
   rw [awV_cons] at i6
   refine ok_brk (fun hb => ?_) (fun hb => hk _ ?_)
   ·simp only [Bool.and_eq_true, decide_eq_true_eq] at hb
    have e2 : mn r.1 (l.getD i.toNat 0) = r.1 := by unfold mn; split <;> omega
    rw [e2]
    rw [if_pos hb.1, if_pos hb.2] at i6
    exact ok_chk (show InR _ from ⟨by omega, by omega⟩) (ok_chk (show InR _ from ⟨by omega, by omega⟩) (hk _ ⟨by show 0 ≤ left - 1; omega, by show left - 1 ≤ _; omega, by rw [List.append_assoc]; exact i6⟩))
   ·simp only [Bool.and_eq_false_iff, decide_eq_false_iff_not] at hb
    refine ⟨i3, i4, ?_⟩
    rw [List.append_assoc]
    show out ++ (mn r.1 (l.getD i.toNat 0) :: awV r.1 left (l.drop (i + 1).toNat)) = _
    rw [← i6]
    by_cases hq : l.getD i.toNat 0 > r.1
    ·rw [if_pos hq, if_neg (by omega)]
     have e2 : mn r.1 (l.getD i.toNat 0) = r.1 := by unfold mn; split <;> omega
     rw [e2]
    ·rw [if_neg hq]
     have e2 : mn r.1 (l.getD i.toNat 0) = l.getD i.toNat 0 := by unfold mn; split <;> omega
     rw [e2]
 ·have hc : ¬ i < l.length := of_decide_eq_false hc
  rw [List.drop_eq_nil_of_le (by omega)] at i6
  rw [← i6]; simp [awV]
theorem refAwards_ok {F : Nat} {l : List Int} {e : Int} (hF : 2000000000000 < F) (h2 : l.length ≤ 40) (h : Cl l) (he : 0 ≤ e ∧ e ≤ 1000000000000) : Ok (AwOK l e) (ref12_awards F l e) := by
 unfold ref12_awards
 refine ok_bnd _ (refLevel_ok hF h2 h he) ?_
 intro r hr
 obtain ⟨b1, b2, b3⟩ := hr.bounds h he.2
 have b0 := hr.n0
 refine ok_loop (fun x : Int × Int × List Int => 0 ≤ x.1 ∧ x.1 ≤ l.length ∧ 0 ≤ x.2.1 ∧ x.2.1 ≤ 1000000000000 ∧ x.2.2.length = x.1.toNat ∧ x.2.2 ++ awV r.1 x.2.1 (l.drop x.1.toNat) = awV r.1 r.2 l) (fun x : Int × Int × List Int => l.length - x.1.toNat)
  ⟨by simp, by simp, b2, b3, rfl, rfl⟩ (by simp; omega) ?_
 rintro ⟨i, left, out⟩ next ⟨i1, i2, i3, i4, i5, i6⟩ hn
 simp only at i1 i2 i3 i4 i5 i6
 dsimp only
 refine ok_brk (fun hc => ?_) (fun hc => ok_some ⟨r, hr, ?_⟩)
 ·have hc : i < l.length := of_decide_eq_true hc
  have hi : i.toNat < l.length := by omega
  rw [drop_get (d := 0) hi, show i.toNat + 1 = (i + 1).toNat by omega] at i6
  have hci := h _ (getD_mem (d := 0) hi)
  refine ok_chk ⟨i1, hc⟩ (ok_join (by omega) (fun x : Int × Int => 0 ≤ x.1 ∧ x.1 ≤ 1000000000000 ∧ out ++ [x.2] ++ awV r.1 x.1 (l.drop (i + 1).toNat) = awV r.1 r.2 l) (fun x hx => ?_) fun k hk => ?_)
  ·refine ok_chk (by simp; omega) (ok_chk (show InR _ from ⟨by omega, by omega⟩) (hn _ ⟨by show 0 ≤ i + 1; omega, by show i + 1 ≤ _; omega, hx.1, hx.2.1, by show (out ++ [x.2]).length = (i + 1).toNat; simp; omega, hx.2.2⟩ (by show l.length - (i + 1).toNat < l.length - i.toNat; omega)))
  ·rw [awV_cons] at i6
   refine ok_brk (fun hb => ok_brk (fun hd => ?_) (fun hd => hk _ ?_)) (fun hb => hk _ ?_)
   ·have hb : l.getD i.toNat 0 > r.1 := of_decide_eq_true hb
    have hd : left > 0 := of_decide_eq_true hd
    rw [if_pos hb, if_pos hd] at i6
    exact ok_chk (show InR _ from ⟨by omega, by omega⟩) (ok_chk (show InR _ from ⟨by omega, by omega⟩) (hk _ ⟨by show 0 ≤ left - 1; omega, by show left - 1 ≤ _; omega, by rw [List.append_assoc]; exact i6⟩))
   ·have hb : l.getD i.toNat 0 > r.1 := of_decide_eq_true hb
    have hd : ¬ left > 0 := of_decide_eq_false hd
    rw [if_pos hb, if_neg hd] at i6
    exact ⟨i3, i4, by rw [List.append_assoc]; exact i6⟩
   ·have hb : ¬ l.getD i.toNat 0 > r.1 := of_decide_eq_false hb
    rw [if_neg hb] at i6
    exact ⟨i3, i4, by rw [List.append_assoc]; exact i6⟩
 ·have hc : ¬ i < l.length := of_decide_eq_false hc
  rw [List.drop_eq_nil_of_le (by omega)] at i6
  rw [← i6]; simp [awV]
theorem Level_ok {F : Nat} {l : List Int} {e : Int} (hF : 2000000000000 < F) : Ok (fun r : Int × Int × Int => (claimedV l e ≠ 0 ∧ r = (0, 0, claimedV l e)) ∨ (claimedV l e = 0 ∧ r.2.2 = 0 ∧ LevelOK l e (r.1, r.2.1))) (fees_Level F l e) := by
 unfold fees_Level
 rw [claimed_eq (by omega)]
 refine ok_bnde rfl (ok_brk (fun hb => ok_some (.inl ⟨by simpa using hb, rfl⟩)) (fun hb => ?_))
 have hb : claimedV l e = 0 := by simpa using hb
 obtain ⟨h1, h2, h3, h4⟩ := claimedV_zero hb
 exact ok_bnd _ (level_ok hF h1 h2 h3 h4) fun r hr => ok_some (.inr ⟨hb, rfl, hr⟩)
theorem refLevelE_ok {F : Nat} {l : List Int} {e : Int} (hF : 2000000000000 < F) : Ok (fun r : Int × Int × Int => (claimedV l e ≠ 0 ∧ r = (0, 0, claimedV l e)) ∨ (claimedV l e = 0 ∧ r.2.2 = 0 ∧ LevelOK l e (r.1, r.2.1))) (ref12_Level F l e) := by
 unfold ref12_Level
 rw [refClaimed_eq (by omega)]
 refine ok_bnde rfl (ok_brk (fun hb => ok_some (.inl ⟨by simpa using hb, rfl⟩)) (fun hb => ?_))
 have hb : claimedV l e = 0 := by simpa using hb
 obtain ⟨h1, h2, h3, h4⟩ := claimedV_zero hb
 exact ok_bnd _ (refLevel_ok hF h2 h3 h4) fun r hr => ok_some (.inr ⟨hb, rfl, hr⟩)
theorem Awards_ok {F : Nat} {l : List Int} {e : Int} (hF : 2000000000000 < F) : Ok (fun r : List Int × Int => (claimedV l e ≠ 0 ∧ r = ([], claimedV l e)) ∨ (claimedV l e = 0 ∧ r.2 = 0 ∧ AwOK l e r.1)) (fees_Awards F l e) := by
 unfold fees_Awards
 rw [claimed_eq (by omega)]
 refine ok_bnde rfl (ok_brk (fun hb => ok_some (.inl ⟨by simpa using hb, rfl⟩)) (fun hb => ?_))
 have hb : claimedV l e = 0 := by simpa using hb
 obtain ⟨h1, h2, h3, h4⟩ := claimedV_zero hb
 exact ok_bnd _ (awards_ok hF h1 h2 h3 h4) fun r hr => ok_some (.inr ⟨hb, rfl, hr⟩)
theorem refAwardsE_ok {F : Nat} {l : List Int} {e : Int} (hF : 2000000000000 < F) : Ok (fun r : List Int × Int => (claimedV l e ≠ 0 ∧ r = ([], claimedV l e)) ∨ (claimedV l e = 0 ∧ r.2 = 0 ∧ AwOK l e r.1)) (ref12_Awards F l e) := by
 unfold ref12_Awards
 rw [refClaimed_eq (by omega)]
 refine ok_bnde rfl (ok_brk (fun hb => ok_some (.inl ⟨by simpa using hb, rfl⟩)) (fun hb => ?_))
 have hb : claimedV l e = 0 := by simpa using hb
 obtain ⟨h1, h2, h3, h4⟩ := claimedV_zero hb
 exact ok_bnd _ (refAwards_ok hF h2 h3 h4) fun r hr => ok_some (.inr ⟨hb, rfl, hr⟩)
theorem same_ok {F : Nat} {l : List Int} (hF : l.length < F) (hl : l.length ≤ 1000000) : kit_SameInts F l l = some true := by
 refine Ok.eq ?_
 unfold kit_SameInts
 refine ok_brkF (by simp) ?_
 refine ok_loop (fun x : Int => 0 ≤ x ∧ x ≤ l.length) (fun x : Int => l.length - x.toNat) ⟨by simp, by simp⟩ (by simp; omega) ?_
 rintro i next ⟨i1, i2⟩ hn
 refine ok_brk (fun hc => ?_) (fun hc => ok_some rfl)
 have hc : i < l.length := of_decide_eq_true hc
 exact ok_chk ⟨i1, hc⟩ (ok_chk ⟨i1, hc⟩ (ok_brkF (by simp) (ok_chk (show InR _ from ⟨by omega, by omega⟩) (hn _ ⟨by omega, by omega⟩ (by show l.length - (i + 1).toNat < l.length - i.toNat; omega)))))
theorem AwOK.length {l : List Int} {e : Int} {a : List Int} (h : AwOK l e a) : a.length = l.length := by
 obtain ⟨r, _, rfl⟩ := h
 exact awV_length _ _ _
theorem copyInts_eq {F : Nat} {l : List Int} (h : l.length ≤ 1000000) : kit_CopyInts F l = some l := chk_pos (Nat.le_trans h (by decide))
theorem feesAwards_ok' {F : Nat} (hF : F = 1000000000000000) (l : List Int) (e : Int) : law12_FeesAwards F l e = some true := by
 have haw : law12_awake F = some true := by rw [hF]; exact awake_eq
 refine Ok.eq ?_
 unfold law12_FeesAwards
 rw [haw]
 refine ok_brk (fun hb => ok_bnde rfl (ok_some rfl)) (fun hb => ?_)
 have hl : l.length ≤ 50 := by have := of_decide_eq_false hb; omega
 rw [copyInts_eq (by omega)]
 refine ok_bnde rfl ?_
 refine ok_bnd _ (Level_ok (by omega)) ?_
 rintro ⟨n, k, x⟩ h1
 refine ok_bnd _ (refLevelE_ok (by omega)) ?_
 rintro ⟨m, j, y⟩ h2
 have e1 : n = m ∧ k = j ∧ x = y := by
  rcases h1 with ⟨q1, q2⟩ | ⟨q1, q2, q3⟩ <;> rcases h2 with ⟨p1, p2⟩ | ⟨p1, p2, p3⟩
  ·cases q2; cases p2; exact ⟨rfl, rfl, rfl⟩
  ·exact absurd p1 q1
  ·exact absurd q1 p1
  ·have := q3.one p3
   simp only [Prod.mk.injEq] at this
   exact ⟨this.1, this.2, q2.trans p2.symm⟩
 obtain ⟨rfl, rfl, rfl⟩ := e1
 refine ok_brkF (by simp) ?_
 refine ok_bnd _ (Awards_ok (by omega)) ?_
 rintro ⟨a, x⟩ h3
 refine ok_bnd _ (refAwardsE_ok (by omega)) ?_
 rintro ⟨b, y⟩ h4
 have e2 : a = b ∧ x = y ∧ a.length ≤ 50 := by
  rcases h3 with ⟨q1, q2⟩ | ⟨q1, q2, q3⟩ <;> rcases h4 with ⟨p1, p2⟩ | ⟨p1, p2, p3⟩
  ·cases q2; cases p2; exact ⟨rfl, rfl, by simp⟩
  ·exact absurd p1 q1
  ·exact absurd q1 p1
  ·exact ⟨q3.one p3, q2.trans p2.symm, by have := q3.length; simp only at this; omega⟩
 obtain ⟨rfl, rfl, e3⟩ := e2
 have h5 : ((a, x).snd == (a, x).snd) = true := by simp
 rw [h5]
 refine ok_bnde (show brk true _ _ = _ from same_ok (by show a.length < F; omega) (by show a.length ≤ _; omega)) ?_
 refine ok_bnde (show brk (true && true) _ _ = _ from same_ok (by omega) (by omega)) ?_
 exact ok_bnde (show brk _ _ _ = some true from rfl) (ok_some rfl)
def In1 (n c a : Int) : Prop := mn n c ≤ a ∧ a ≤ mn (n + 1) c
theorem In1.cases {n c a : Int} (h : In1 n c a) : (c ≤ n ∧ a = c) ∨ (n < c ∧ (a = n ∨ a = n + 1)) := by
 obtain ⟨h1, h2⟩ := h
 unfold mn at h1 h2
 split at h1 <;> split at h2 <;> omega
theorem in1_low {n c : Int} : In1 n c (mn n c) := ⟨Int.le_refl _, mn_mono (by omega)⟩
theorem in1_high {n c : Int} (h : n < c) : In1 n c (n + 1) := by
 unfold In1 mn
 constructor <;> split <;> omega
inductive All2 (R : Int → Int → Prop) : List Int → List Int → Prop
 | nil : All2 R [] []
 | cons {x y : Int} {l r : List Int} : R x y → All2 R l r → All2 R (x :: l) (y :: r)
theorem All2.length {R : Int → Int → Prop} {l r : List Int} (h : All2 R l r) : l.length = r.length := by
 induction h with
 | nil => rfl
 | cons _ _ ih => simp [ih]
theorem All2.get {R : Int → Int → Prop} {l r : List Int} (h : All2 R l r) : ∀ {i : Nat}, i < l.length → R (l.getD i 0) (r.getD i 0) := by
 induction h with
 | nil => intro i hi; simp at hi
 | cons h1 _ ih =>
  intro i hi
  cases i with
  | zero => exact h1
  | succ i => exact ih (by simpa using hi)
theorem awV_in (n : Int) : ∀ (l : List Int) (left : Int), All2 (In1 n) l (awV n left l)
 | [], _ => .nil
 | c :: l, left => by
  rw [awV_cons]
  by_cases h : c > n
  ·rw [if_pos h]
   have e : mn n c = n := by unfold mn; rw [if_pos (by omega)]
   split
   ·exact .cons (in1_high h) (awV_in n l _)
   ·exact .cons (by have := in1_low (n := n) (c := c); rwa [e] at this) (awV_in n l _)
  ·rw [if_neg h]
   have e : mn n c = c := by unfold mn; rw [if_neg (by omega)]
   exact .cons (by have := in1_low (n := n) (c := c); rwa [e] at this) (awV_in n l _)
theorem awV_sum (n : Int) : ∀ (l : List Int) (left : Int), 0 ≤ left → sumL (awV n left l) = cutV l n + (if left < (abv l n : Int) then left else (abv l n : Int))
 | [], left, h => by
  have e : ((abv [] n : Nat) : Int) = 0 := rfl
  rw [e, if_neg (by omega)]; rfl
 | c :: l, left, h => by
  have h0 := awV_sum n l left h
  have hcut : cutV (c :: l) n = mn n c + cutV l n := rfl
  rw [awV_cons, hcut]
  by_cases hc : c > n
  ·have ha : (abv (c :: l) n : Int) = abv l n + 1 := by rw [abv_cons, if_pos (show n < c from hc)]; omega
   have e : mn n c = n := by unfold mn; rw [if_pos (show n < c from hc)]
   rw [if_pos hc, ha, e]
   by_cases hl : left > 0
   ·have h1 := awV_sum n l (left - 1) (by omega)
    rw [if_pos hl]
    simp only [sumL]
    rw [h1]
    split <;> split <;> omega
   ·rw [if_neg hl]
    simp only [sumL]
    rw [h0]
    split <;> split <;> omega
  ·have ha : (abv (c :: l) n : Int) = abv l n := by rw [abv_cons, if_neg (show ¬ n < c from hc)]; omega
   have e : mn n c = c := by unfold mn; rw [if_neg (show ¬ n < c from hc)]
   rw [if_neg hc, ha, e]
   simp only [sumL]
   rw [h0]; omega
theorem awV_mono (n : Int) : ∀ (l : List Int) (left left' : Int), left ≤ left' → All2 (fun a b => a ≤ b) (awV n left l) (awV n left' l)
 | [], _, _, _ => .nil
 | c :: l, left, left', h => by
  rw [awV_cons, awV_cons]
  by_cases hc : c > n
  ·rw [if_pos hc, if_pos hc]
   by_cases h1 : left > 0
   ·rw [if_pos h1, if_pos (by omega)]
    exact .cons (Int.le_refl _) (awV_mono n l _ _ (by omega))
   ·rw [if_neg h1]
    split
    ·exact .cons (by omega) (awV_mono' n l left (left' - 1) (by omega))
    ·exact .cons (Int.le_refl _) (awV_mono n l _ _ h)
  ·rw [if_neg hc, if_neg hc]
   exact .cons (Int.le_refl _) (awV_mono n l _ _ h)
where
 awV_mono' (n : Int) (l : List Int) (left left' : Int) (h : left ≤ 0 ∧ 0 ≤ left') : All2 (fun a b => a ≤ b) (awV n left l) (awV n left' l) := awV_mono n l left left' (by omega)
theorem AwOK.mono {l : List Int} {e e' : Int} {a b : List Int} (h : AwOK l e a) (h' : AwOK l e' b) (he : e ≤ e') : ∀ i, i < l.length → a.getD i 0 ≤ b.getD i 0 := by
 obtain ⟨r, hr, rfl⟩ := h
 obtain ⟨s, hs, rfl⟩ := h'
 intro i hi
 have h1 := (awV_in r.1 l r.2).get hi
 have h2 := (awV_in s.1 l s.2).get hi
 rcases Int.lt_trichotomy r.1 s.1 with q | q | q
 ·have := h1.cases
  have := h2.cases
  omega
 ·have hl : r.2 ≤ s.2 := by rw [hr.left, hs.left, q]; omega
  rw [q]
  exact (awV_mono s.1 l r.2 s.2 hl).get (by rw [awV_length]; exact hi)
 ·exfalso
  have := hs.n0
  rcases hr.top with p | ⟨c, hc, p⟩
  ·omega
  ·rcases hs.max with u | u
   ·have := u c hc; omega
   ·have h1 := cutV_mono l (n := s.1 + 1) (m := r.1) (by omega)
    have h2 := hr.cut
    omega
theorem AwOK.sum {l : List Int} {e : Int} {a : List Int} (h : AwOK l e a) : sumL a = if sumL l < e then sumL l else e := by
 obtain ⟨r, hr, rfl⟩ := h
 have h0 := hr.left0
 rw [awV_sum _ _ _ h0]
 have h1 := hr.left
 have h2 := hr.cut
 have key : (∀ c ∈ l, c ≤ r.1) → cutV l r.1 = sumL l ∧ abv l r.1 = 0 := fun q => by
  refine ⟨cutV_all l q, ?_⟩
  unfold abv
  rw [List.length_eq_zero_iff, List.filter_eq_nil_iff]
  intro c hc
  have := q c hc
  simp; omega
 rcases hr.max with q | q
 ·obtain ⟨q1, q2⟩ := key q
  rw [q1, q2]
  rw [q1] at h2 h1
  split <;> split <;> omega
 ·have hline := cutV_line (a := r.1) (x := r.1 + 1) (by omega) l fun c _ => by omega
  have hall : cutV l (r.1 + 1) ≤ sumL l := by
   have : ∀ l : List Int, ∀ m, cutV l m ≤ sumL l := by
    intro l m
    induction l with
    | nil => exact Int.le_refl _
    | cons c l ih =>
     simp only [cutV, List.map_cons, sumL] at ih ⊢
     have := (mn_le (n := m) (c := c)).2
     omega
   exact this l _
  rw [hline] at q hall
  have : (r.1 + 1 - r.1) * (abv l r.1 : Int) = (abv l r.1 : Int) := by rw [show r.1 + 1 - r.1 = 1 by omega]; omega
  rw [this] at q hall
  split <;> split <;> omega
structure FairB (a1 a2 a3 : Int) : Prop where
 a : 0 ≤ a1 ∧ a1 ≤ 65535
 b : 0 ≤ a2 ∧ a2 ≤ 65535
 c : 0 ≤ a3 ∧ a3 ≤ 4294967295
abbrev b0 : Band := ⟨0, 0⟩
def BandsOK : Int → List Band → Prop
 | _, [] => True
 | b, x :: l => (b + 1 ≤ x.Upto ∧ x.Upto ≤ 500000) ∧ (0 ≤ x.Rate ∧ x.Rate ≤ 1000) ∧ BandsOK x.Upto l
def endB : Int → List Band → Int
 | b, [] => b
 | _, x :: l => endB x.Upto l
def ClassOK : Int → List Int → Prop
 | _, [] => True
 | m, x :: l => (0 ≤ x ∧ x ≤ m) ∧ ClassOK x l
def classes (t : Tariff) : List Int := [t.Class.a0, t.Class.a1, t.Class.a2, t.Class.a3, t.Class.a4, t.Class.a5, t.Class.a6]
structure Nums (t : Tariff) : Prop where
 most : 0 ≤ t.Most ∧ t.Most ≤ 1000000000
 least : 0 ≤ t.Least ∧ t.Least ≤ t.Most
 paid : 1 ≤ t.Paid ∧ t.Paid ≤ 1000
 mile : 0 ≤ t.Mile ∧ t.Mile ≤ 100000
 escort : 0 ≤ t.Escort ∧ t.Escort ≤ 1000000
 cut : 0 ≤ t.Cut ∧ t.Cut ≤ 1000000
 tow : 0 ≤ t.Tow ∧ t.Tow ≤ 1000000
structure TarOK (t : Tariff) : Prop where
 len : 1 ≤ t.Bands.length ∧ t.Bands.length ≤ 8
 bands : BandsOK 0 t.Bands
 last : endB 0 t.Bands = 500000
 cls : ClassOK 300 (classes t)
 nums : Nums t
open Classical in
noncomputable def checkV (t : Tariff) : Int := if 1 ≤ t.Bands.length ∧ t.Bands.length ≤ 8 then (if TarOK t then 0 else 130) else 2
theorem checkV_zero {t : Tariff} (h : checkV t = 0) : TarOK t := by
 unfold checkV at h
 split at h
 ·split at h
  ·assumption
  ·omega
 ·omega
theorem TarOK.check {t : Tariff} (h : TarOK t) : checkV t = 0 := by
 unfold checkV
 rw [if_pos h.len, if_pos h]
theorem checkV_bad {t : Tariff} (hl : 1 ≤ t.Bands.length ∧ t.Bands.length ≤ 8) (h : ¬ TarOK t) : (130 : Int) = checkV t := by
 unfold checkV
 rw [if_pos hl, if_neg h]
theorem BandsOK.split : ∀ {l : List Band} {b : Int} (i : Nat), BandsOK b l → BandsOK (endB b (l.take i)) (l.drop i)
 | _, _, 0, h => h
 | [], _, i + 1, _ => trivial
 | x :: l, _, i + 1, h => by
  show BandsOK (endB x.Upto (l.take i)) (l.drop i)
  exact BandsOK.split i h.2.2
theorem endB_snoc : ∀ (l : List Band) (b : Int) (x : Band), endB b (l ++ [x]) = x.Upto
 | [], _, _ => rfl
 | y :: l, _, x => endB_snoc l y.Upto x
theorem BandsOK.join : ∀ {l r : List Band} {b : Int}, BandsOK b l → BandsOK (endB b l) r → BandsOK b (l ++ r)
 | [], _, _, _, h => h
 | _ :: _, _, _, h, h2 => ⟨h.1, h.2.1, BandsOK.join h.2.2 h2⟩
theorem BandsOK.left : ∀ {l r : List Band} {b : Int}, BandsOK b (l ++ r) → BandsOK b l
 | [], _, _, _ => trivial
 | _ :: _, _, _, h => ⟨h.1, h.2.1, BandsOK.left h.2.2⟩
theorem ClassOK.left : ∀ {l r : List Int} {b : Int}, ClassOK b (l ++ r) → ClassOK b l
 | [], _, _, _ => trivial
 | _ :: _, _, _, h => ⟨h.1, ClassOK.left h.2⟩
def endC : Int → List Int → Int
 | b, [] => b
 | _, x :: l => endC x l
theorem endC_snoc : ∀ (l : List Int) (b : Int) (x : Int), endC b (l ++ [x]) = x
 | [], _, _ => rfl
 | y :: l, _, x => endC_snoc l y x
theorem ClassOK.join : ∀ {l r : List Int} {b : Int}, ClassOK b l → ClassOK (endC b l) r → ClassOK b (l ++ r)
 | [], _, _, _, h => h
 | _ :: _, _, _, h, h2 => ⟨h.1, ClassOK.join h.2 h2⟩
theorem ClassOK.right : ∀ {l r : List Int} {b : Int}, ClassOK b (l ++ r) → ClassOK (endC b l) r
 | [], _, _, h => h
 | _ :: l, _, _, h => ClassOK.right (l := l) h.2
theorem ClassOK.all : ∀ {l : List Int} {m : Int}, ClassOK m l → ∀ x ∈ l, 0 ≤ x ∧ x ≤ m
 | y :: l, m, h, x, hx => by
  rcases List.mem_cons.1 hx with rfl | hx
  ·exact h.1
  ·have := ClassOK.all h.2 x hx
   have := h.1
   omega
theorem take_one {α : Type} {l : List α} {i : Nat} {d : α} (h : i < l.length) : l = l.take i ++ (l.getD i d :: l.drop (i + 1)) := by
 rw [← drop_get h, List.take_append_drop]
theorem check1_eq (F : Nat) (c : Int) : fees_Check_1 F c = some (!decide (0 ≤ c ∧ c ≤ 1000000)) := by
 show some (!(decide (c ≥ 0) && decide (c ≤ 1000000))) = _
 rw [wb]
theorem Check_eq {F : Nat} (hF : 100 < F) (t : Tariff) : fees_Check F t = some (checkV t) := by
 refine Ok.eq ?_
 unfold fees_Check
 rw [within_eq, wb]
 refine ok_bnde rfl (ok_brk (fun hb => ok_some ?_) (fun hb => ?_))
 ·have := nd_true hb
  unfold checkV; rw [if_neg (by omega)]
 have hlen := nd_false hb
 have hl : 1 ≤ t.Bands.length ∧ t.Bands.length ≤ 8 := by omega
 refine ok_loop (fun x : Int × Int => 0 ≤ x.1 ∧ x.1 ≤ t.Bands.length ∧ x.2 = endB 0 (t.Bands.take x.1.toNat) ∧ 0 ≤ x.2 ∧ x.2 ≤ 500000 ∧ BandsOK 0 (t.Bands.take x.1.toNat)) (fun x : Int × Int => t.Bands.length - x.1.toNat)
  ⟨by simp, by simp, rfl, by simp, by simp, trivial⟩ (by simp; omega) ?_
 rintro ⟨i, u⟩ next ⟨i1, i2, i3, i4, i5, i6⟩ hn
 simp only at i1 i2 i3 i4 i5 i6
 dsimp only
 refine ok_brk (fun hc => ?_) (fun hc => ?_)
 ·have hc : i < t.Bands.length := of_decide_eq_true hc
  have hi : i.toNat < t.Bands.length := by omega
  rw [within_eq, within_eq, wb, wb]
  refine ok_chk ⟨i1, hc⟩ (ok_chk (show InR _ from ⟨by omega, by omega⟩) (ok_bnde rfl ?_))
  by_cases h1 : u + 1 ≤ (t.Bands.getD i.toNat ⟨0, 0⟩).Upto ∧ (t.Bands.getD i.toNat ⟨0, 0⟩).Upto ≤ 500000
  ·rw [decide_eq_true h1]
   refine ok_bnde (b := decide (0 ≤ (t.Bands.getD i.toNat ⟨0, 0⟩).Rate ∧ (t.Bands.getD i.toNat ⟨0, 0⟩).Rate ≤ 1000)) rfl (ok_brk (fun hb => ok_some ?_) (fun hb => ok_chk (show InR _ from ⟨by omega, by omega⟩) (hn _ ⟨by show 0 ≤ i + 1; omega, by show i + 1 ≤ _; omega, ?_, by show 0 ≤ (t.Bands.getD i.toNat ⟨0, 0⟩).Upto; omega, h1.2, ?_⟩ (by show t.Bands.length - (i + 1).toNat < t.Bands.length - i.toNat; omega))))
   ·refine checkV_bad hl fun hk => ?_
    have := hk.bands.split i.toNat
    rw [drop_get (d := b0) hi] at this
    rw [Bool.not_true, Bool.false_or] at hb
    exact nd_true hb this.2.1
   ·show (t.Bands.getD i.toNat ⟨0, 0⟩).Upto = _
    rw [show (i + 1).toNat = i.toNat + 1 by omega, take_succ' (d := b0) hi, endB_snoc]
   ·rw [show (i + 1).toNat = i.toNat + 1 by omega, take_succ' (d := b0) hi]
    rw [Bool.not_true, Bool.false_or] at hb
    refine i6.join ⟨?_, nd_false hb, trivial⟩
    rw [← i3]; exact h1
  ·rw [decide_eq_false h1]
   refine ok_bnde (b := false) rfl (ok_brkT rfl (ok_some (checkV_bad hl fun hk => h1 ?_)))
   have := hk.bands.split i.toNat
   rw [drop_get (d := b0) hi, ← i3] at this
   exact this.1
 have hc : ¬ i < t.Bands.length := of_decide_eq_false hc
 rw [List.take_of_length_le (by omega)] at i3 i6
 have hcl : ([t.Class.a0, t.Class.a1, t.Class.a2, t.Class.a3, t.Class.a4, t.Class.a5, t.Class.a6] : List Int) = classes t := rfl
 have h7 : (classes t).length = 7 := rfl
 rw [hcl]
 refine ok_loop (fun x : Int × Int => 0 ≤ x.2 ∧ x.2 ≤ 7 ∧ x.1 = endC 300 ((classes t).take x.2.toNat) ∧ ClassOK 300 ((classes t).take x.2.toNat)) (fun x : Int × Int => 7 - x.2.toNat)
  ⟨by simp, by simp, rfl, trivial⟩ (by simp; omega) ?_
 rintro ⟨m, j⟩ next ⟨j1, j2, j3, j4⟩ hn
 simp only at j1 j2 j3 j4
 dsimp only
 refine ok_brk (fun hc => ?_) (fun hc => ?_)
 ·have hc : j < 7 := of_decide_eq_true hc
  have hj : j.toNat < (classes t).length := by omega
  rw [within_eq, wb]
  refine ok_chk ⟨j1, hc⟩ (ok_bnde rfl (ok_brk (fun hb => ok_some (checkV_bad hl fun hk => ?_)) (fun hb => ok_chk (show InR _ from ⟨by omega, by omega⟩) (hn _ ⟨by show 0 ≤ j + 1; omega, by show j + 1 ≤ 7; omega, ?_, ?_⟩ (by show 7 - (j + 1).toNat < 7 - j.toNat; omega)))))
  ·have := hk.cls
   rw [take_one (d := 0) hj] at this
   have := this.right
   rw [← j3] at this
   exact nd_true hb this.1
  ·show (classes t).getD j.toNat 0 = _
   rw [show (j + 1).toNat = j.toNat + 1 by omega, take_succ' (d := 0) hj, endC_snoc]
  ·rw [show (j + 1).toNat = j.toNat + 1 by omega, take_succ' (d := 0) hj]
   refine j4.join ⟨?_, trivial⟩
   rw [← j3]; exact nd_false hb
 have hc : ¬ j < 7 := of_decide_eq_false hc
 rw [List.take_of_length_le (by omega)] at j4
 refine ok_brk (fun hb => ok_some (checkV_bad hl fun hk => ?_)) (fun hb => ?_)
 ·have := hk.last
  simp at hb; omega
 have hu : u = 500000 := by simpa using hb
 rw [within_eq, within_eq, within_eq, within_eq, wb, wb, wb, wb]
 refine ok_bnde rfl (ok_brk (fun hb => ok_some (checkV_bad hl fun hk => nd_true hb hk.nums.most)) (fun q1 => ?_))
 refine ok_bnde rfl (ok_brk (fun hb => ok_some (checkV_bad hl fun hk => nd_true hb hk.nums.least)) (fun q2 => ?_))
 refine ok_bnde rfl (ok_brk (fun hb => ok_some (checkV_bad hl fun hk => nd_true hb hk.nums.paid)) (fun q3 => ?_))
 refine ok_bnde rfl (ok_brk (fun hb => ok_some (checkV_bad hl fun hk => nd_true hb hk.nums.mile)) (fun q4 => ?_))
 refine ok_join (by omega) (fun x : Int => (x = -1 ∧ TarOK t) ∨ (0 ≤ x ∧ ¬ TarOK t)) (fun x hx => ok_brk (fun hb => ok_some ?_) (fun hb => ok_some ?_)) fun k hk => ?_
 ·have hb : x ≥ 0 := of_decide_eq_true hb
  rcases hx with ⟨rfl, _⟩ | ⟨_, hx⟩
  ·omega
  ·exact checkV_bad hl hx
 ·have hb : ¬ x ≥ 0 := of_decide_eq_false hb
  rcases hx with ⟨_, hx⟩ | ⟨hx, _⟩
  ·exact hx.check.symm
  ·omega
 ·refine ok_find (l := [t.Escort, t.Cut, t.Tow]) (p := fun c => !decide (0 ≤ c ∧ c ≤ 1000000)) (by simp; omega) (by simp) (fun c _ => check1_eq F c) (fun i hi hp => hk _ (.inr ⟨by omega, fun q => ?_⟩)) (fun hp => hk _ (.inl ⟨rfl, ?_⟩))
  ·have hm := getD_mem (d := 0) hi
   have hp := nd_true hp
   simp only [List.mem_cons, List.not_mem_nil, or_false] at hm
   rcases hm with e | e | e <;> rw [e] at hp
   ·exact hp q.nums.escort
   ·exact hp q.nums.cut
   ·exact hp q.nums.tow
  ·refine ⟨hl, i6, by rw [← i3]; exact hu, j4, nd_false q1, nd_false q2, nd_false q3, nd_false q4, nd_false (hp t.Escort (by simp)), nd_false (hp t.Cut (by simp)), nd_false (hp t.Tow (by simp))⟩
def back (t : Tariff2) : Tariff := ⟨t.Bands, t.Class, t.Least, t.Most, t.Paid, t.Mile, t.Escort, t.Cut, t.Tow⟩
def conv (t : Tariff) : Tariff2 := ⟨t.Bands, t.Class, t.Least, t.Most, t.Paid, t.Mile, t.Escort, t.Cut, t.Tow⟩
theorem back_conv (t : Tariff) : back (conv t) = t := rfl
theorem endB_take {l : List Band} {i : Nat} (h : i < l.length) (b : Int) : endB b (l.take (i + 1)) = (l.getD i b0).Upto := by
 rw [take_succ' (d := b0) h, endB_snoc]
theorem prev_band {l : List Band} {i : Int} (h0 : 0 < i) (h : i ≤ l.length) : endB 0 (l.take i.toNat) = (l.getD (i - 1).toNat b0).Upto := by
 rw [show i.toNat = (i - 1).toNat + 1 by omega, endB_take (by omega)]
theorem prev_class {l : List Int} {i : Int} (h0 : 0 < i) (h : i ≤ l.length) : endC 300 (l.take i.toNat) = l.getD (i - 1).toNat 0 := by
 rw [show i.toNat = (i - 1).toNat + 1 by omega, take_succ' (d := 0) (by omega), endC_snoc]
theorem refCheck_eq {F : Nat} (hF : 100 < F) (t : Tariff2) : ref12_Check F t = some (checkV (back t)) := by
 refine Ok.eq ?_
 unfold ref12_Check
 refine ok_brk (fun hb => ok_some ?_) (fun hb => ?_)
 ·simp only [Bool.or_eq_true, decide_eq_true_eq] at hb
  unfold checkV; rw [if_neg (by show ¬ (1 ≤ t.Bands.length ∧ t.Bands.length ≤ 8); omega)]
 simp only [Bool.or_eq_false_iff, decide_eq_false_iff_not] at hb
 have hl : 1 ≤ (back t).Bands.length ∧ (back t).Bands.length ≤ 8 := by show 1 ≤ t.Bands.length ∧ t.Bands.length ≤ 8; omega
 have hl' : 1 ≤ t.Bands.length ∧ t.Bands.length ≤ 8 := hl
 refine ok_loop (fun x : Int => 0 ≤ x ∧ x ≤ t.Bands.length ∧ 0 ≤ endB 0 (t.Bands.take x.toNat) ∧ (0 < x → 1 ≤ endB 0 (t.Bands.take x.toNat)) ∧ BandsOK 0 (t.Bands.take x.toNat)) (fun x : Int => t.Bands.length - x.toNat)
  ⟨by simp, by simp, by simp [endB], by simp, trivial⟩ (by simp; omega) ?_
 rintro i next ⟨i1, i2, i3, i4, i5⟩ hn
 refine ok_brk (fun hc => ?_) (fun hc => ?_)
 ·have hc : i < t.Bands.length := of_decide_eq_true hc
  have hi : i.toNat < t.Bands.length := by omega
  have hsplit : TarOK (back t) → BandsOK (endB 0 (t.Bands.take i.toNat)) (t.Bands.getD i.toNat b0 :: t.Bands.drop (i.toNat + 1)) := fun hk => by
   have := hk.bands.split i.toNat
   rwa [show (back t).Bands = t.Bands from rfl, drop_get (d := b0) hi] at this
  have hsn : t.Bands.take (i + 1).toNat = t.Bands.take i.toNat ++ [t.Bands.getD i.toNat b0] := by
   rw [show (i + 1).toNat = i.toNat + 1 by omega, take_succ' (d := b0) hi]
  rw [refIn_eq, refIn_eq, wb, wb]
  refine ok_chk ⟨i1, hc⟩ (ok_bnde rfl ?_)
  have hprev : 0 < i → endB 0 (t.Bands.take i.toNat) = (t.Bands.getD (i - 1).toNat ⟨0, 0⟩).Upto := fun h => prev_band h (by omega)
  generalize hx : t.Bands.getD i.toNat ⟨0, 0⟩ = X at hsplit hsn ⊢
  by_cases h1 : 1 ≤ X.Upto ∧ X.Upto ≤ 500000
  ·rw [decide_eq_true h1]
   refine ok_bnde (b := decide (0 ≤ X.Rate ∧ X.Rate ≤ 1000)) rfl ?_
   refine ok_chk (fun h => ⟨by omega, by omega⟩) (ok_chk (fun h => ?_) (ok_brk (fun hb => ok_some (checkV_bad hl fun hk => ?_)) (fun hb => ok_chk (show InR _ from ⟨by omega, by omega⟩) ?_)))
   ·simp only [Bool.and_eq_true, decide_eq_true_eq] at h; omega
   ·have hs := hsplit hk
    simp only [Bool.not_true, Bool.false_or, Bool.or_eq_true, Bool.and_eq_true, decide_eq_true_eq] at hb
    rcases hb with hb | ⟨hb, hb2⟩
    ·exact nd_true hb hs.2.1
    ·have := hprev hb
     have := hs.1.1
     omega
   ·simp only [Bool.not_true, Bool.false_or, Bool.or_eq_false_iff, Bool.and_eq_false_iff, decide_eq_false_iff_not] at hb
    have hr := nd_false hb.1
    refine hn _ ⟨by omega, by omega, ?_, fun _ => ?_, ?_⟩ (by show t.Bands.length - (i + 1).toNat < t.Bands.length - i.toNat; omega)
    ·rw [hsn, endB_snoc]; omega
    ·rw [hsn, endB_snoc]; omega
    ·rw [hsn]
     refine i5.join ⟨⟨?_, h1.2⟩, hr, trivial⟩
     by_cases h0 : i > 0
     ·have := hprev h0
      rcases hb.2 with q | q <;> omega
     ·have : i = 0 := by omega
      subst this
      show (0 : Int) + 1 ≤ _
      omega
  ·rw [decide_eq_false h1]
   refine ok_bnde (b := false) rfl (ok_chk (fun h => ⟨by omega, by omega⟩) (ok_chk (fun h => by simp at h) (ok_brkT rfl (ok_some (checkV_bad hl fun hk => h1 ?_)))))
   have := hsplit hk
   have := this.1
   omega
 have hc : ¬ i < t.Bands.length := of_decide_eq_false hc
 have hii : i = t.Bands.length := by omega
 have hlast : endB 0 t.Bands = (t.Bands.getD ((t.Bands.length : Int) - 1).toNat ⟨0, 0⟩).Upto := by
  have := prev_band (l := t.Bands) (i := t.Bands.length) (by omega) (by omega)
  rwa [List.take_of_length_le (by omega)] at this
 rw [List.take_of_length_le (by omega)] at i3 i5
 refine ok_chk (show InR _ from ⟨by omega, by omega⟩) (ok_chk ⟨by omega, by omega⟩ (ok_brk (fun hb => ok_some (checkV_bad hl fun hk => ?_)) (fun hb => ?_)))
 ·have h1 := hk.last
  have h2 : endB 0 t.Bands = 500000 := h1
  rw [hlast] at h2
  rw [h2] at hb; simp at hb
 have hlast5 : endB 0 t.Bands = 500000 := by
  rw [hlast]; exact (bne_eq_false_iff_eq.1 hb)
 have hcl : ([t.Class.a0, t.Class.a1, t.Class.a2, t.Class.a3, t.Class.a4, t.Class.a5, t.Class.a6] : List Int) = classes (back t) := rfl
 have h7 : (classes (back t)).length = 7 := rfl
 rw [hcl]
 generalize hg : classes (back t) = cls at h7
 refine ok_loop (fun x : Int => 0 ≤ x ∧ x ≤ 7 ∧ ClassOK 300 (cls.take x.toNat)) (fun x : Int => 7 - x.toNat) ⟨by simp, by simp, trivial⟩ (by simp; omega) ?_
 rintro j next ⟨j1, j2, j4⟩ hn
 refine ok_brk (fun hc => ?_) (fun hc => ?_)
 ·have hc : j < 7 := of_decide_eq_true hc
  have hj : j.toNat < cls.length := by omega
  have hsn : cls.take (j + 1).toNat = cls.take j.toNat ++ [cls.getD j.toNat 0] := by
   rw [show (j + 1).toNat = j.toNat + 1 by omega, take_succ' (d := 0) hj]
  have hprev : 0 < j → endC 300 (cls.take j.toNat) = cls.getD (j - 1).toNat 0 := fun h => prev_class h (by omega)
  have hpm : 0 < j → 0 ≤ cls.getD (j - 1).toNat 0 ∧ cls.getD (j - 1).toNat 0 ≤ 300 := fun h => by
   have := j4.all (cls.getD (j - 1).toNat 0) (by
    rw [getD_get (by omega)]
    exact List.mem_take_iff_getElem.2 ⟨(j - 1).toNat, by omega, rfl⟩)
   exact this
  have hsp : TarOK (back t) → ClassOK (endC 300 (cls.take j.toNat)) (cls.getD j.toNat 0 :: cls.drop (j.toNat + 1)) := fun hk => by
   have := hk.cls
   rw [hg, take_one (d := 0) hj] at this
   exact this.right
  generalize hX : cls.getD j.toNat 0 = X at hsn hsp ⊢
  rw [refIn_eq, wb]
  refine ok_chk ⟨j1, hc⟩ (ok_bnde rfl (ok_chk (fun _ => ⟨j1, hc⟩) (ok_chk (fun _ => ⟨by omega, by omega⟩) (ok_chk (fun h => ?_) (ok_brk (fun hb => ok_some (checkV_bad hl fun hk => ?_)) (fun hb => ok_chk (show InR _ from ⟨by omega, by omega⟩) (hn _ ⟨by omega, by omega, ?_⟩ (by show 7 - (j + 1).toNat < 7 - j.toNat; omega))))))))
  ·simp only [Bool.and_eq_true, decide_eq_true_eq] at h
   exact ⟨by omega, by show j - 1 < 7; omega⟩
  ·have hs := (hsp hk).1
   simp only [Bool.or_eq_true, Bool.and_eq_true, decide_eq_true_eq] at hb
   rcases hb with hb | ⟨hb, hb2⟩
   ·refine nd_true hb ⟨hs.1, ?_⟩
    by_cases h0 : 0 < j
    ·have := hprev h0; have := hpm h0; omega
    ·obtain rfl : j = 0 := by omega
     exact hs.2
   ·have := hprev hb; omega
  ·simp only [Bool.or_eq_false_iff, Bool.and_eq_false_iff, decide_eq_false_iff_not] at hb
   have hr := nd_false hb.1
   rw [hsn]
   refine j4.join ⟨⟨hr.1, ?_⟩, trivial⟩
   by_cases h0 : 0 < j
   ·have := hprev h0
    rcases hb.2 with q | q <;> omega
   ·obtain rfl : j = 0 := by omega
    exact hr.2
 have hc : ¬ j < 7 := of_decide_eq_false hc
 rw [List.take_of_length_le (by omega)] at j4
 have hN : Nums (back t) → TarOK (back t) := fun h => ⟨hl, i5, hlast5, by rw [hg]; exact j4, h⟩
 simp only [refIn_eq, wb]
 refine ok_bnde rfl ?_
 have e1 : ∀ (c p : Prop) [Decidable c] [Decidable p], brk (decide c) (some (decide p)) (some false) = some (decide (c ∧ p)) := fun c p _ _ => by
  by_cases h : c
  ·simp [h, brk]
  ·simp [h, brk]
 have e2 : ∀ (b : Bool) (p : Prop) [Decidable p], brk b (some (decide p)) (some false) = some (b && decide p) := fun b p _ => by cases b <;> rfl
 rw [e2]
 refine ok_bnde rfl ?_
 rw [e2]
 refine ok_bnde rfl (ok_brk (fun hb => ok_some (checkV_bad hl fun hk => ?_)) (fun hq => ?_))
 ·have h1 := hk.nums.least
  have h2 := hk.nums.most
  have h3 := hk.nums.paid
  have g1 : 0 ≤ t.Least ∧ t.Least ≤ t.Most := h1
  have g2 : 0 ≤ t.Most ∧ t.Most ≤ 1000000000 := h2
  have g3 : 1 ≤ t.Paid ∧ t.Paid ≤ 1000 := h3
  rw [decide_eq_true (show 0 ≤ t.Least ∧ t.Least ≤ 1000000000 by omega), decide_eq_true g2, decide_eq_false (show ¬ t.Least > t.Most by omega), decide_eq_true g3] at hb
  cases hb
 refine ok_bnde rfl ?_
 rw [e2]
 refine ok_bnde rfl ?_
 rw [e2]
 refine ok_bnde rfl ?_
 rw [e2]
 refine ok_bnde rfl (ok_brk (fun hb => ok_some (checkV_bad hl fun hk => ?_)) (fun hr => ok_some ?_))
 ·have g1 : 0 ≤ t.Mile ∧ t.Mile ≤ 100000 := hk.nums.mile
  have g2 : 0 ≤ t.Escort ∧ t.Escort ≤ 1000000 := hk.nums.escort
  have g3 : 0 ≤ t.Cut ∧ t.Cut ≤ 1000000 := hk.nums.cut
  have g4 : 0 ≤ t.Tow ∧ t.Tow ≤ 1000000 := hk.nums.tow
  rw [decide_eq_true g1, decide_eq_true g2, decide_eq_true g3, decide_eq_true g4] at hb
  cases hb
 ·refine (hN ?_).check.symm
  have split : ∀ a b : Bool, (a || b) = false → a = false ∧ b = false := fun a b h => by cases a <;> cases b <;> simp_all
  obtain ⟨hq, p4⟩ := split _ _ hq
  obtain ⟨hq, p3⟩ := split _ _ hq
  obtain ⟨p1, p2⟩ := split _ _ hq
  have n1 := nd_false p1
  rw [decide_eq_true n1] at p2 p4
  simp only [Bool.not_true, Bool.not_false, Bool.true_and, Bool.false_or] at p2 p4
  have n2 := nd_false p2
  rw [decide_eq_true n2] at p4
  have n3 := of_decide_eq_false p3
  rw [decide_eq_false n3] at p4
  simp only [Bool.not_true, Bool.not_false, Bool.true_and, Bool.or_false] at p4
  have n4 := nd_false p4
  obtain ⟨hr, r4⟩ := split _ _ hr
  obtain ⟨hr, r3⟩ := split _ _ hr
  obtain ⟨r1, r2⟩ := split _ _ hr
  have m1 := nd_false r1
  rw [decide_eq_true m1] at r2 r3 r4
  simp only [Bool.not_true, Bool.not_false, Bool.true_and, Bool.false_or] at r2 r3 r4
  have m2 := nd_false r2
  rw [decide_eq_true m2] at r3 r4
  simp only [Bool.not_true, Bool.not_false, Bool.true_and, Bool.false_or] at r3 r4
  have m3 := nd_false r3
  rw [decide_eq_true m3] at r4
  simp only [Bool.not_true, Bool.not_false, Bool.true_and] at r4
  have m4 := nd_false r4
  exact ⟨n2, ⟨n1.1, by show t.Least ≤ t.Most; omega⟩, n4, m1, m2, m3, m4⟩
def part (b n u : Int) : Int := if (if u < n then u else n) - b > 0 then (if u < n then u else n) - b else 0
def bandSum (n : Int) : Int → List Band → Int
 | _, [] => 0
 | b, x :: l => x.Rate * part b n x.Upto + bandSum n x.Upto l
def roundV (t : Tariff) (s c : Int) : Int := (s * (classes t).getD c.toNat 0 + 50) / 100
def clamp (t : Tariff) (x : Int) : Int := if (if x > t.Least then x else t.Least) < t.Most then if x > t.Least then x else t.Least else t.Most
def duesV (t : Tariff) (c n : Int) : Int := clamp t (roundV t (bandSum n 0 t.Bands) c)
theorem part_le {b n u : Int} (h : b ≤ u) : 0 ≤ part b n u ∧ part b n u ≤ u - b := by
 unfold part; (repeat' split) <;> omega
theorem part_mono {b n m u : Int} (h : n ≤ m) : part b n u ≤ part b m u := by
 unfold part; (repeat' split) <;> omega
theorem bandSum_bound {n : Int} : ∀ {l : List Band} {b : Int}, BandsOK b l → 0 ≤ bandSum n b l ∧ bandSum n b l ≤ 1000 * (endB b l - b)
 | [], b, _ => by simp only [bandSum, endB]; omega
 | x :: l, b, h => by
  have h1 := bandSum_bound (n := n) h.2.2
  have h2 := part_le (b := b) (n := n) (u := x.Upto) (by have := h.1.1; omega)
  have h3 : 0 ≤ x.Rate * part b n x.Upto := Int.mul_nonneg h.2.1.1 h2.1
  have h4 : x.Rate * part b n x.Upto ≤ 1000 * part b n x.Upto := Int.mul_le_mul_of_nonneg_right h.2.1.2 h2.1
  simp only [bandSum, endB]
  omega
theorem bandSum_mono {n m : Int} (hnm : n ≤ m) : ∀ {l : List Band} {b : Int}, BandsOK b l → bandSum n b l ≤ bandSum m b l
 | [], b, _ => Int.le_refl _
 | x :: l, b, h => by
  have h1 := bandSum_mono hnm h.2.2
  have h2 : x.Rate * part b n x.Upto ≤ x.Rate * part b m x.Upto := Int.mul_le_mul_of_nonneg_left (part_mono hnm) h.2.1.1
  simp only [bandSum]
  omega
theorem bandSum_snoc (n : Int) (x : Band) : ∀ (l : List Band) (b : Int), bandSum n b (l ++ [x]) = bandSum n b l + x.Rate * part (endB b l) n x.Upto
 | [], b => by simp only [List.nil_append, bandSum, endB]; omega
 | y :: l, b => by
  have := bandSum_snoc n x l y.Upto
  simp only [List.cons_append, bandSum, endB, this]
  omega
theorem clamp_mono {t : Tariff} {x y : Int} (h : x ≤ y) : clamp t x ≤ clamp t y := by
 unfold clamp
 (repeat' split) <;> omega
theorem clamp_bound {t : Tariff} {x : Int} (h : t.Least ≤ t.Most) : t.Least ≤ clamp t x ∧ clamp t x ≤ t.Most := by
 unfold clamp
 (repeat' split) <;> omega
theorem TarOK.class {t : Tariff} (h : TarOK t) {c : Int} (h0 : 0 ≤ c) (h1 : c ≤ 6) : 0 ≤ (classes t).getD c.toNat 0 ∧ (classes t).getD c.toNat 0 ≤ 300 :=
 h.cls.all _ (getD_mem (by show c.toNat < 7; omega))
theorem TarOK.sum {t : Tariff} (h : TarOK t) (n : Int) : 0 ≤ bandSum n 0 t.Bands ∧ bandSum n 0 t.Bands ≤ 500000000 := by
 have h1 := bandSum_bound (n := n) h.bands
 rw [h.last] at h1
 omega
theorem TarOK.prod {t : Tariff} (h : TarOK t) {c : Int} (h0 : 0 ≤ c) (h1 : c ≤ 6) (n : Int) : 0 ≤ bandSum n 0 t.Bands * (classes t).getD c.toNat 0 ∧ bandSum n 0 t.Bands * (classes t).getD c.toNat 0 ≤ 150000000000 := by
 have h2 := h.class h0 h1
 have h3 := h.sum n
 refine ⟨Int.mul_nonneg h3.1 h2.1, ?_⟩
 have h4 : bandSum n 0 t.Bands * (classes t).getD c.toNat 0 ≤ bandSum n 0 t.Bands * 300 := Int.mul_le_mul_of_nonneg_left h2.2 h3.1
 omega
theorem dues_mono {t : Tariff} (h : TarOK t) {c n m : Int} (h0 : 0 ≤ c) (h1 : c ≤ 6) (hnm : n ≤ m) : duesV t c n ≤ duesV t c m := by
 refine clamp_mono ?_
 unfold roundV
 have h2 := h.class h0 h1
 have h3 : bandSum n 0 t.Bands * (classes t).getD c.toNat 0 ≤ bandSum m 0 t.Bands * (classes t).getD c.toNat 0 := Int.mul_le_mul_of_nonneg_right (bandSum_mono hnm h.bands) h2.1
 omega
theorem dues_eq {F : Nat} (hF : 100 < F) {t : Tariff} (h : TarOK t) {c n : Int} (h0 : 0 ≤ c) (h1 : c ≤ 6) (hn0 : 0 ≤ n) (hn1 : n ≤ 500000) : fees_Tariff_dues F t c n = some (duesV t c n) := by
 refine Ok.eq ?_
 unfold fees_Tariff_dues
 have hl := h.len
 refine ok_loop (fun x : Int × Int × Int => 0 ≤ x.2.1 ∧ x.2.1 ≤ t.Bands.length ∧ x.1 = endB 0 (t.Bands.take x.2.1.toNat) ∧ 0 ≤ x.1 ∧ x.1 ≤ 500000 ∧ x.2.2 = bandSum n 0 (t.Bands.take x.2.1.toNat) ∧ 0 ≤ x.2.2 ∧ x.2.2 ≤ 1000 * x.1) (fun x : Int × Int × Int => t.Bands.length - x.2.1.toNat)
  ⟨by simp, by simp, rfl, by simp, by simp, rfl, by simp, by simp⟩ (by simp; omega) ?_
 rintro ⟨u, i, s⟩ next ⟨i1, i2, i3, i4, i5, i6, i7, i8⟩ hn
 simp only at i1 i2 i3 i4 i5 i6 i7 i8
 dsimp only
 refine ok_brk (fun hc => ?_) (fun hc => ?_)
 ·have hc : i < t.Bands.length := of_decide_eq_true hc
  have hi : i.toNat < t.Bands.length := by omega
  have hs := h.bands.split i.toNat
  rw [drop_get (d := b0) hi, ← i3] at hs
  have e1 : endB 0 (t.Bands.take (i + 1).toNat) = (t.Bands.getD i.toNat b0).Upto := by rw [show (i + 1).toNat = i.toNat + 1 by omega, endB_take hi]
  have e2 : bandSum n 0 (t.Bands.take (i + 1).toNat) = s + (t.Bands.getD i.toNat b0).Rate * part u n (t.Bands.getD i.toNat b0).Upto := by
   rw [show (i + 1).toNat = i.toNat + 1 by omega, take_succ' (d := b0) hi, bandSum_snoc, ← i3, ← i6]
  generalize hx : t.Bands.getD i.toNat ⟨0, 0⟩ = X
  have hx' : t.Bands.getD i.toNat b0 = X := hx
  rw [hx'] at hs e1 e2
  obtain ⟨g1, g2, _⟩ := hs
  have h2 := part_le (b := u) (n := n) (u := X.Upto) (by omega)
  have h3 : 0 ≤ X.Rate * part u n X.Upto := Int.mul_nonneg g2.1 h2.1
  have h4 : X.Rate * part u n X.Upto ≤ 1000 * part u n X.Upto := Int.mul_le_mul_of_nonneg_right g2.2 h2.1
  have hp : (if (if X.Upto < n then X.Upto else n) - u > 0 then (if X.Upto < n then X.Upto else n) - u else 0) = part u n X.Upto := rfl
  rw [hp]
  have hm : -500000 ≤ (if X.Upto < n then X.Upto else n) - u ∧ (if X.Upto < n then X.Upto else n) - u ≤ 500000 := by split <;> omega
  exact ok_chk ⟨i1, hc⟩ (ok_chk (show InR _ from ⟨by omega, by omega⟩) (ok_chk (show InR _ from ⟨by omega, by omega⟩) (ok_chk (show InR _ from ⟨by omega, by omega⟩) (ok_chk (show InR _ from ⟨by omega, by omega⟩) (hn _ ⟨by show 0 ≤ i + 1; omega, by show i + 1 ≤ _; omega, e1.symm, by show 0 ≤ X.Upto; omega, g1.2, e2.symm, by show 0 ≤ s + _; omega, by show s + _ ≤ 1000 * X.Upto; omega⟩ (by show t.Bands.length - (i + 1).toNat < t.Bands.length - i.toNat; omega))))))
 ·have hc : ¬ i < t.Bands.length := of_decide_eq_false hc
  rw [List.take_of_length_le (by omega)] at i6
  have hp := h.prod h0 h1 n
  rw [← i6] at hp
  have hcl : ([t.Class.a0, t.Class.a1, t.Class.a2, t.Class.a3, t.Class.a4, t.Class.a5, t.Class.a6] : List Int) = classes t := rfl
  rw [hcl]
  refine ok_chk ⟨h0, by show c < 7; omega⟩ (ok_chk (show InR _ from ⟨by omega, by omega⟩) (ok_chk (show InR _ from ⟨by omega, by omega⟩) (ok_chk ⟨by omega, by omega⟩ (ok_some ?_))))
  show clamp t (roundV t s c) = _
  rw [i6]; rfl
theorem refDues_eq {F : Nat} (hF : 100 < F) {t : Tariff2} (h : TarOK (back t)) {c n : Int} (h0 : 0 ≤ c) (h1 : c ≤ 6) (hn0 : 0 ≤ n) (hn1 : n ≤ 500000) : ref12_dues F t c n = some (duesV (back t) c n) := by
 refine Ok.eq ?_
 unfold ref12_dues
 have hl : 1 ≤ t.Bands.length ∧ t.Bands.length ≤ 8 := h.len
 have hB : BandsOK 0 t.Bands := h.bands
 refine ok_loop (fun x : Int × Int × Int => 0 ≤ x.2.1 ∧ x.2.1 ≤ t.Bands.length ∧ x.1 = endB 0 (t.Bands.take x.2.1.toNat) ∧ 0 ≤ x.1 ∧ x.1 ≤ 500000 ∧ x.2.2 = bandSum n 0 (t.Bands.take x.2.1.toNat) ∧ 0 ≤ x.2.2 ∧ x.2.2 ≤ 1000 * x.1) (fun x : Int × Int × Int => t.Bands.length - x.2.1.toNat)
  ⟨by simp, by simp, rfl, by simp, by simp, rfl, by simp, by simp⟩ (by simp; omega) ?_
 rintro ⟨u, i, s⟩ next ⟨i1, i2, i3, i4, i5, i6, i7, i8⟩ hn
 simp only at i1 i2 i3 i4 i5 i6 i7 i8
 dsimp only
 refine ok_brk (fun hc => ?_) (fun hc => ?_)
 ·have hc : i < t.Bands.length := of_decide_eq_true hc
  have hi : i.toNat < t.Bands.length := by omega
  have hs := hB.split i.toNat
  rw [drop_get (d := b0) hi, ← i3] at hs
  have e1 : endB 0 (t.Bands.take (i + 1).toNat) = (t.Bands.getD i.toNat b0).Upto := by rw [show (i + 1).toNat = i.toNat + 1 by omega, endB_take hi]
  have e2 : bandSum n 0 (t.Bands.take (i + 1).toNat) = s + (t.Bands.getD i.toNat b0).Rate * part u n (t.Bands.getD i.toNat b0).Upto := by
   rw [show (i + 1).toNat = i.toNat + 1 by omega, take_succ' (d := b0) hi, bandSum_snoc, ← i3, ← i6]
  generalize hx : t.Bands.getD i.toNat ⟨0, 0⟩ = X
  have hx' : t.Bands.getD i.toNat b0 = X := hx
  rw [hx'] at hs e1 e2
  obtain ⟨g1, g2, _⟩ := hs
  have h2 := part_le (b := u) (n := n) (u := X.Upto) (by omega)
  have h3 : 0 ≤ X.Rate * part u n X.Upto := Int.mul_nonneg g2.1 h2.1
  have h4 : X.Rate * part u n X.Upto ≤ 1000 * part u n X.Upto := Int.mul_le_mul_of_nonneg_right g2.2 h2.1
  refine ok_chk ⟨i1, hc⟩ (ok_join (by omega) (fun x : Int => x = if X.Upto < n then X.Upto else n) (fun m hm => ok_join (by omega) (fun x : Int => x = s + X.Rate * part u n X.Upto) (fun s' hs' => ?_) fun k hk => ?_) fun k hk => ?_)
  ·subst hs'
   exact ok_chk ⟨i1, hc⟩ (ok_chk (show InR _ from ⟨by omega, by omega⟩) (hn _ ⟨by show 0 ≤ i + 1; omega, by show i + 1 ≤ _; omega, e1.symm, by show 0 ≤ X.Upto; omega, g1.2, e2.symm, by show 0 ≤ s + _; omega, by show s + _ ≤ 1000 * X.Upto; omega⟩ (by show t.Bands.length - (i + 1).toNat < t.Bands.length - i.toNat; omega)))
  ·have hp : part u n X.Upto = if m - u > 0 then m - u else 0 := by subst hm; rfl
   have hmb : -500000 ≤ m - u ∧ m - u ≤ 500000 := by subst hm; split <;> omega
   refine ok_brk (fun hb => ?_) (fun hb => hk _ ?_)
   ·have hb : m > u := of_decide_eq_true hb
    rw [if_pos (by omega)] at hp
    rw [hp, Int.mul_comm] at h3 h4
    refine ok_chk (show InR _ from ⟨by omega, by omega⟩) (ok_chk ⟨i1, hc⟩ (ok_chk (show InR _ from ⟨by omega, by omega⟩) (ok_chk (show InR _ from ⟨by omega, by omega⟩) (hk _ ?_))))
    rw [hp, Int.mul_comm]
   ·have hb : ¬ m > u := of_decide_eq_false hb
    rw [if_neg (by omega)] at hp
    rw [hp]; simp
  ·refine ok_brk (fun hb => hk _ ?_) (fun hb => hk _ ?_)
   ·have hb : n < X.Upto := of_decide_eq_true hb
    rw [if_neg (by omega)]
   ·have hb : ¬ n < X.Upto := of_decide_eq_false hb
    split <;> omega
 ·have hc : ¬ i < t.Bands.length := of_decide_eq_false hc
  rw [List.take_of_length_le (by omega)] at i6
  have hp := h.prod h0 h1 n
  rw [show (back t).Bands = t.Bands from rfl, ← i6] at hp
  have hcl : ([t.Class.a0, t.Class.a1, t.Class.a2, t.Class.a3, t.Class.a4, t.Class.a5, t.Class.a6] : List Int) = classes (back t) := rfl
  rw [hcl]
  have hd : duesV (back t) c n = clamp (back t) ((s * (classes (back t)).getD c.toNat 0 + 50) / 100) := by rw [i6]; rfl
  rw [hd]
  generalize s * (classes (back t)).getD c.toNat 0 = P at hp
  refine ok_chk ⟨h0, by show c < 7; omega⟩ (ok_chk (show InR _ from ⟨by omega, by omega⟩) (ok_chk ⟨by omega, by omega⟩ (ok_join (by omega) (fun x : Int => x = (P + 50) / 100) (fun x hx => ?_) fun k hk => ?_)))
  ·refine ok_join (by omega) (fun y : Int => y = if x > t.Least then x else t.Least) (fun y hy => ?_) fun k hk => ?_
   ·refine ok_join (by omega) (fun z : Int => z = if y < t.Most then y else t.Most) (fun z hz => ok_some ?_) fun k hk => ?_
    ·subst hz hy hx; rfl
    ·refine ok_brk (fun hb => hk _ ?_) (fun hb => hk _ ?_)
     ·have hb : y > t.Most := of_decide_eq_true hb
      rw [if_neg (by omega)]
     ·have hb : ¬ y > t.Most := of_decide_eq_false hb
      split <;> omega
   ·refine ok_brk (fun hb => hk _ ?_) (fun hb => hk _ ?_)
    ·have hb : x < t.Least := of_decide_eq_true hb
     rw [if_neg (by omega)]
    ·have hb : ¬ x < t.Least := of_decide_eq_false hb
     split <;> omega
  ·refine ok_chk ⟨by omega, by omega⟩ (ok_brk (fun hb => ?_) (fun hb => hk _ ?_))
   ·have hb : P % 100 ≥ 50 := of_decide_eq_true hb
    exact ok_chk (show InR _ from ⟨by omega, by omega⟩) (hk _ (by omega))
   ·have hb : ¬ P % 100 ≥ 50 := of_decide_eq_false hb
    omega
structure LargeOK (t : Tariff) (c a n : Int) : Prop where
 b : 0 ≤ n ∧ n ≤ 500000
 at_ : n = 0 ∨ duesV t c n ≤ a
 next : n = 500000 ∨ a < duesV t c (n + 1)
theorem LargeOK.one {t : Tariff} {c a n m : Int} (ht : TarOK t) (h0 : 0 ≤ c) (h1 : c ≤ 6) (h : LargeOK t c a n) (h' : LargeOK t c a m) : n = m := by
 have key : ∀ {n m : Int}, LargeOK t c a n → LargeOK t c a m → ¬ n < m := fun {n m} h h' hlt => by
  have := h.b
  have := h'.b
  rcases h'.at_ with q | q
  ·omega
  ·rcases h.next with p | p
   ·omega
   ·have := dues_mono ht h0 h1 (n := n + 1) (m := m) (by omega)
    omega
 have := key h h'
 have := key h' h
 omega
theorem largest_ok {F : Nat} (hF : 2000000 < F) {t : Tariff} {c a : Int} (ht : TarOK t) : Ok (fun r : Int × Int => (¬ (0 ≤ c ∧ c ≤ 6) ∧ r = (0, 1)) ∨ ((0 ≤ c ∧ c ≤ 6) ∧ ((r = (0, 4) ∧ LargeOK t c a 0) ∨ (r.2 = 0 ∧ 1 ≤ r.1 ∧ LargeOK t c a r.1)))) (fees_Largest F t c a) := by
 unfold fees_Largest
 refine ok_bnde (Check_eq (by omega) t) ?_
 rw [ht.check]
 refine ok_brkF rfl ?_
 rw [within_eq, wb]
 refine ok_bnde rfl (ok_brk (fun hb => ok_some (.inl ⟨nd_true hb, rfl⟩)) (fun hb => ?_))
 have hc := nd_false hb
 rw [show IntKind.i64.wrap (1 - 1) = 0 from rfl]
 refine ok_loop (fun x : Int × Int => 0 ≤ x.2 ∧ x.2 ≤ x.1 ∧ x.1 ≤ 500000 ∧ (x.2 = 0 ∨ duesV t c x.2 ≤ a) ∧ (x.1 = 500000 ∨ a < duesV t c (x.1 + 1))) (fun x : Int × Int => (x.1 - x.2).toNat)
  ⟨by simp, by simp, by simp, .inl rfl, .inl rfl⟩ (by show (500000 - 0 : Int).toNat < F; omega) ?_
 rintro ⟨hi, lo⟩ next ⟨i2, i3, i4, i5, i6⟩ hn
 simp only at i2 i3 i4 i5 i6
 dsimp only
 refine ok_brk (fun hb => ?_) (fun hb => ?_)
 ·have hb : lo < hi := of_decide_eq_true hb
  refine ok_chk (show InR _ from ⟨by omega, by omega⟩) (ok_chk (show InR _ from ⟨by omega, by omega⟩) (ok_chk ⟨by omega, by omega⟩ (ok_chk (show InR _ from ⟨by omega, by omega⟩) ?_)))
  have g1 : lo < lo + (hi - lo + 1) / 2 := by omega
  have g2 : lo + (hi - lo + 1) / 2 ≤ hi := by omega
  generalize lo + (hi - lo + 1) / 2 = mid at g1 g2
  refine ok_bnde (dues_eq (by omega) ht hc.1 hc.2 (by omega) (by omega)) (ok_brk (fun hd => ?_) (fun hd => ok_chk (show InR _ from ⟨by omega, by omega⟩) ?_))
  ·have hd : duesV t c mid ≤ a := of_decide_eq_true hd
   exact hn _ ⟨by show 0 ≤ mid; omega, g2, i4, .inr hd, i6⟩ (by show (hi - mid).toNat < (hi - lo).toNat; omega)
  ·have hd : ¬ duesV t c mid ≤ a := of_decide_eq_false hd
   exact hn _ ⟨i2, by show lo ≤ mid - 1; omega, by show mid - 1 ≤ _; omega, i5, .inr (by show a < duesV t c (mid - 1 + 1); rw [Int.sub_add_cancel]; omega)⟩ (by show (mid - 1 - lo).toNat < (hi - lo).toNat; omega)
 ·have hb : ¬ lo < hi := of_decide_eq_false hb
  obtain rfl : lo = hi := by omega
  have hL : LargeOK t c a lo := ⟨⟨i2, i4⟩, i5, i6⟩
  refine ok_brk (fun hd => ok_some (.inr ⟨hc, .inl ⟨rfl, ?_⟩⟩)) (fun hd => ok_some (.inr ⟨hc, .inr ⟨rfl, ?_, hL⟩⟩))
  ·have hd : lo < 1 := of_decide_eq_true hd
   obtain rfl : lo = 0 := by omega
   exact hL
  ·have hd : ¬ lo < 1 := of_decide_eq_false hd
   show 1 ≤ lo
   omega
theorem refLargest_ok {F : Nat} (hF : 2000000 < F) {t : Tariff2} {c a : Int} (ht : TarOK (back t)) : Ok (fun r : Int × Int => (¬ (0 ≤ c ∧ c ≤ 6) ∧ r = (0, 1)) ∨ ((0 ≤ c ∧ c ≤ 6) ∧ ((r = (0, 4) ∧ LargeOK (back t) c a 0) ∨ (r.2 = 0 ∧ 1 ≤ r.1 ∧ LargeOK (back t) c a r.1)))) (ref12_Largest F t c a) := by
 unfold ref12_Largest
 refine ok_bnde (refCheck_eq (by omega) t) ?_
 rw [ht.check]
 refine ok_brkF rfl ?_
 rw [refIn_eq, wb]
 refine ok_bnde rfl (ok_brk (fun hb => ok_some (.inl ⟨nd_true hb, rfl⟩)) (fun hb => ?_))
 have hc := nd_false hb
 have rest : ∀ n : Int, 1 ≤ n → n ≤ 500000 → (n = 500000 ∨ a < duesV (back t) c (n + 1)) → Ok (fun r : Int × Int => (¬ (0 ≤ c ∧ c ≤ 6) ∧ r = (0, 1)) ∨ ((0 ≤ c ∧ c ≤ 6) ∧ ((r = (0, 4) ∧ LargeOK (back t) c a 0) ∨ (r.2 = 0 ∧ 1 ≤ r.1 ∧ LargeOK (back t) c a r.1))))
   (loopC (fun (x : Int) next => bnd (brk (decide (x > 0)) (ref12_dues F (Tariff2.mk t.Bands (A7ofInt.mk t.Class.a0 t.Class.a1 t.Class.a2 t.Class.a3 t.Class.a4 t.Class.a5 t.Class.a6) t.Least t.Most t.Paid t.Mile t.Escort t.Cut t.Tow) c x) (some 0)) (fun (y : Int) => brk (decide (x > 0) && decide (y > a)) (chk (InR (x - 1)) (next (x - 1))) (brk (x == 0) (some (0, 4)) (some (x, 0))))) F n) := by
  intro n i1 i2 i3
  refine ok_loop (fun x : Int => 0 ≤ x ∧ x ≤ 500000 ∧ (x = 500000 ∨ a < duesV (back t) c (x + 1))) (fun x : Int => x.toNat) ⟨by omega, i2, i3⟩ (by omega) ?_
  rintro m next ⟨j1, j2, j3⟩ hn
  by_cases hk : m > 0
  ·rw [decide_eq_true hk]
   refine ok_bnde (show brk true _ _ = _ from refDues_eq (by omega) ht hc.1 hc.2 (by omega) (by omega)) ?_
   rw [Bool.true_and]
   refine ok_brk (fun hb => ?_) (fun hb => ?_)
   ·have hb : duesV (back t) c m > a := of_decide_eq_true hb
    exact ok_chk (show InR _ from ⟨by omega, by omega⟩) (hn _ ⟨by omega, by omega, .inr (by rw [Int.sub_add_cancel]; exact hb)⟩ (by omega))
   ·have hb : ¬ duesV (back t) c m > a := of_decide_eq_false hb
    exact ok_brkF (by simp; omega) (ok_some (.inr ⟨hc, .inr ⟨rfl, by show 1 ≤ m; omega, ⟨j1, j2⟩, .inr (by show duesV (back t) c m ≤ a; omega), j3⟩⟩))
  ·rw [decide_eq_false hk]
   refine ok_bnde (show brk false _ _ = some 0 from rfl) ?_
   rw [Bool.false_and]
   obtain rfl : m = 0 := by omega
   exact ok_brkF rfl (ok_brkT rfl (ok_some (.inr ⟨hc, .inl ⟨rfl, ⟨j1, j2⟩, .inl rfl, j3⟩⟩)))
 refine ok_loop (fun x : Int => 1 ≤ x ∧ x ≤ 500000 ∧ (x = 500000 ∨ a < duesV (back t) c (x + 1))) (fun x : Int => x.toNat)
  ⟨by simp, by simp, .inl rfl⟩ (by omega) ?_
 rintro n next ⟨i1, i2, i3⟩ hn
 refine ok_chk (fun _ => ⟨by omega, by omega⟩) ?_
 by_cases hk : n > 1000
 ·rw [decide_eq_true hk]
  refine ok_bnde (show brk true _ _ = _ from refDues_eq (by omega) ht hc.1 hc.2 (by omega) (by omega)) ?_
  rw [Bool.true_and]
  refine ok_brk (fun hb => ?_) (fun hb => ?_)
  ·have hb : duesV (back t) c (n - 1000) > a := of_decide_eq_true hb
   refine ok_chk (show InR _ from ⟨by omega, by omega⟩) (hn _ ⟨by omega, by omega, .inr ?_⟩ (by omega))
   have := dues_mono ht hc.1 hc.2 (n := n - 1000) (m := n - 1000 + 1) (by omega)
   omega
  ·exact rest n i1 i2 i3
 ·rw [decide_eq_false hk]
  refine ok_bnde (show brk false _ _ = some 0 from rfl) ?_
  rw [Bool.false_and]
  exact ok_brkF rfl (rest n i1 i2 i3)
structure VoyOK (v : Voyage) : Prop where
 ship : 0 ≤ v.Ship ∧ v.Ship ≤ 1000000
 cls : 0 ≤ v.Class ∧ v.Class ≤ 6
 tonnes : 1 ≤ v.Tonnes ∧ v.Tonnes ≤ 500000
 tenths : 0 ≤ v.Tenths ∧ v.Tenths ≤ 100000
 escort : 0 ≤ v.Escort ∧ v.Escort ≤ 1000
 cut : 0 ≤ v.Cut ∧ v.Cut ≤ 1000
 tow : 0 ≤ v.Tow ∧ v.Tow ≤ 1000
theorem right1_eq (F : Nat) (c : Int) : fees_Voyage_right_1 F c = some (!decide (0 ≤ c ∧ c ≤ 1000)) := by
 show some (!(decide (c ≥ 0) && decide (c ≤ 1000))) = _
 rw [wb]
def IsB (p : Prop) (b : Bool) : Prop := b = true ↔ p
theorem IsB.one {p : Prop} {a b : Bool} (h : IsB p a) (h' : IsB p b) : a = b := by
 cases a <;> cases b <;> simp_all [IsB]
theorem right_ok {F : Nat} (hF : 100 < F) (v : Voyage) : Ok (IsB (VoyOK v)) (fees_Voyage_right F v) := by
 unfold fees_Voyage_right
 simp only [within_eq, wb]
 have no : ¬ VoyOK v → Ok (IsB (VoyOK v)) (some false) := fun h => ok_some ⟨(fun e => nomatch e), fun q => absurd q h⟩
 refine ok_bnde rfl (ok_brk (fun h1 => ?_) (fun h1 => no fun q => (of_decide_eq_false h1) q.ship))
 refine ok_bnde rfl (ok_brk (fun h2 => ?_) (fun h1 => no fun q => (of_decide_eq_false h1) q.cls))
 refine ok_bnde rfl (ok_brk (fun h3 => ?_) (fun h1 => no fun q => (of_decide_eq_false h1) q.tonnes))
 refine ok_bnde rfl (ok_brk (fun h4 => ?_) (fun h1 => no fun q => (of_decide_eq_false h1) q.tenths))
 refine ok_join (by omega) (fun x : Int => (x = -1 ∧ VoyOK v) ∨ (0 ≤ x ∧ ¬ VoyOK v)) (fun x hx => ok_some ?_) fun k hk => ?_
 ·rcases hx with ⟨rfl, q⟩ | ⟨q1, q2⟩
  ·exact ⟨fun _ => q, fun _ => rfl⟩
  ·rw [decide_eq_true (show x ≥ 0 from q1)]
   exact ⟨(fun e => nomatch e), fun q => absurd q q2⟩
 ·refine ok_find (l := [v.Escort, v.Cut, v.Tow]) (p := fun c => !decide (0 ≤ c ∧ c ≤ 1000)) (by simp; omega) (by simp) (fun c _ => right1_eq F c) (fun i hi hp => hk _ (.inr ⟨by omega, fun q => ?_⟩)) (fun hp => hk _ (.inl ⟨rfl, ?_⟩))
  ·have hm := getD_mem (d := 0) hi
   have hp := nd_true hp
   simp only [List.mem_cons, List.not_mem_nil, or_false] at hm
   rcases hm with e | e | e <;> rw [e] at hp
   ·exact hp q.escort
   ·exact hp q.cut
   ·exact hp q.tow
  ·exact ⟨of_decide_eq_true h1, of_decide_eq_true h2, of_decide_eq_true h3, of_decide_eq_true h4, nd_false (hp v.Escort (by simp)), nd_false (hp v.Cut (by simp)), nd_false (hp v.Tow (by simp))⟩
theorem refRight_ok {F : Nat} (v : Voyage) : Ok (IsB (VoyOK v)) (ref12_right F v) := by
 unfold ref12_right
 simp only [refIn_eq, wb]
 have e2 : ∀ (b : Bool) (p : Prop) [Decidable p], brk b (some (decide p)) (some false) = some (b && decide p) := fun b p _ => by cases b <;> rfl
 refine ok_bnde rfl ?_
 rw [e2]; refine ok_bnde rfl ?_
 rw [e2]; refine ok_bnde rfl ?_
 rw [e2]; refine ok_bnde rfl ?_
 rw [e2]; refine ok_bnde rfl ?_
 rw [e2]; refine ok_bnde rfl ?_
 rw [e2]; refine ok_bnde rfl (ok_some ⟨fun h => ?_, fun q => ?_⟩)
 ·simp only [Bool.and_eq_true, decide_eq_true_eq] at h
  obtain ⟨⟨⟨⟨⟨⟨q1, q2⟩, q3⟩, q4⟩, q5⟩, q6⟩, q7⟩ := h
  exact ⟨q1, q2.2, q3.2, q4.2, q5.2, q6.2, q7.2⟩
 ·rw [decide_eq_true q.ship, decide_eq_true q.cls, decide_eq_true q.tonnes, decide_eq_true q.tenths, decide_eq_true q.escort, decide_eq_true q.cut, decide_eq_true q.tow]; rfl
def milesV (t : Tariff) (v : Voyage) : Int := (t.Mile * v.Tenths * ((v.Tonnes + 999) / 1000) + 9) / 10
def linesV (t : Tariff) (v : Voyage) (calls : Int) : A5ofInt := ⟨if calls < t.Paid then duesV t v.Class v.Tonnes else 0, milesV t v, t.Escort * v.Escort, t.Cut * v.Cut, t.Tow * v.Tow⟩
def sumA (l : A5ofInt) : Int := 0 + l.a0 + l.a1 + l.a2 + l.a3 + l.a4
def billV (t : Tariff) (v : Voyage) (calls : Int) : Account := ⟨linesV t v calls, sumA (linesV t v calls)⟩
theorem mul_bound {a b A B : Int} (h : 0 ≤ a ∧ a ≤ A) (h' : 0 ≤ b ∧ b ≤ B) : 0 ≤ a * b ∧ a * b ≤ A * B :=
 ⟨Int.mul_nonneg h.1 h'.1, Int.mul_le_mul h.2 h'.2 h'.1 (Int.le_trans h.1 h.2)⟩
structure BillB (t : Tariff) (v : Voyage) : Prop where
 mt : 0 ≤ t.Mile * v.Tenths ∧ t.Mile * v.Tenths ≤ 10000000000
 mg : 0 ≤ t.Mile * v.Tenths * ((v.Tonnes + 999) / 1000) ∧ t.Mile * v.Tenths * ((v.Tonnes + 999) / 1000) ≤ 5000000000000
 e : 0 ≤ t.Escort * v.Escort ∧ t.Escort * v.Escort ≤ 1000000000
 c : 0 ≤ t.Cut * v.Cut ∧ t.Cut * v.Cut ≤ 1000000000
 w : 0 ≤ t.Tow * v.Tow ∧ t.Tow * v.Tow ≤ 1000000000
 d : 0 ≤ duesV t v.Class v.Tonnes ∧ duesV t v.Class v.Tonnes ≤ 1000000000
theorem billB {t : Tariff} {v : Voyage} (ht : TarOK t) (hv : VoyOK v) : BillB t v := by
 have h1 := mul_bound ht.nums.mile hv.tenths
 have hv3 := hv.tonnes
 have h2 : 0 ≤ (v.Tonnes + 999) / 1000 ∧ (v.Tonnes + 999) / 1000 ≤ 500 := by omega
 have h3 := mul_bound h1 h2
 have h4 := clamp_bound (x := roundV t (bandSum v.Tonnes 0 t.Bands) v.Class) ht.nums.least.2
 have h5 := ht.nums.most
 have h6 := ht.nums.least
 exact ⟨h1, h3, mul_bound ht.nums.escort hv.escort, mul_bound ht.nums.cut hv.cut, mul_bound ht.nums.tow hv.tow, by show 0 ≤ clamp t _; omega, by show clamp t _ ≤ _; omega⟩
theorem billV_bound {t : Tariff} {v : Voyage} (ht : TarOK t) (hv : VoyOK v) (calls : Int) : 0 ≤ (billV t v calls).Sum ∧ (billV t v calls).Sum ≤ 600000000000 := by
 have h := billB ht hv
 have h1 := h.mg
 have h2 := h.e
 have h3 := h.c
 have h4 := h.w
 have h5 := h.d
 simp only [billV, sumA, linesV, milesV]
 split <;> omega
theorem account_eq {F : Nat} (hF : 100 < F) (a b c d e : Int) (ha : 0 ≤ a ∧ a ≤ 1000000000000) (hb : 0 ≤ b ∧ b ≤ 1000000000000) (hc : 0 ≤ c ∧ c ≤ 1000000000000) (hd : 0 ≤ d ∧ d ≤ 1000000000000) (he : 0 ≤ e ∧ e ≤ 1000000000000) :
  fees_account F [a, b, c, d, e] = some ⟨⟨a, b, c, d, e⟩, sumA ⟨a, b, c, d, e⟩⟩ := by
 obtain ⟨n, rfl⟩ : ∃ n, F = n + 6 := ⟨F - 6, by omega⟩
 unfold fees_account
 have hl : ((([a, b, c, d, e] : List Int).length : Nat) : Int) = 5 := rfl
 have s1 : ((Nat.succ (0 : Nat)) : Int) = 1 := rfl
 have s2 : ((Nat.succ (0 : Nat)).succ : Int) = 2 := rfl
 have s3 : ((Nat.succ (0 : Nat)).succ.succ : Int) = 3 := rfl
 have s4 : ((Nat.succ (0 : Nat)).succ.succ.succ : Int) = 4 := rfl
 have s5 : ((5 : Nat) : Int) = 5 := rfl
 have s0 : ((0 : Nat) : Int) = 0 := rfl
 simp only [hl]
 have g0 : ([a, b, c, d, e] : List Int).getD (Int.toNat 0) 0 = a := rfl
 have g1 : ([a, b, c, d, e] : List Int).getD (Int.toNat 1) 0 = b := rfl
 have g2 : ([a, b, c, d, e] : List Int).getD (Int.toNat 2) 0 = c := rfl
 have g3 : ([a, b, c, d, e] : List Int).getD (Int.toNat 3) 0 = d := rfl
 have g4 : ([a, b, c, d, e] : List Int).getD (Int.toNat 4) 0 = e := rfl
 have r0 : InR (0 + a) := ⟨by omega, by omega⟩
 have r1 : InR (0 + a + b) := ⟨by omega, by omega⟩
 have r2 : InR (0 + a + b + c) := ⟨by omega, by omega⟩
 have r3 : InR (0 + a + b + c + d) := ⟨by omega, by omega⟩
 have r4 : InR (0 + a + b + c + d + e) := ⟨by omega, by omega⟩
 have i1 : InR ((0 : Int) + 1) := ⟨by decide, by decide⟩
 have i2 : InR ((0 : Int) + 1 + 1) := ⟨by decide, by decide⟩
 have i3 : InR ((0 : Int) + 1 + 1 + 1) := ⟨by decide, by decide⟩
 have i4 : InR ((0 : Int) + 1 + 1 + 1 + 1) := ⟨by decide, by decide⟩
 have i5 : InR ((0 : Int) + 1 + 1 + 1 + 1 + 1) := ⟨by decide, by decide⟩
 rw [loopC_succ]
 dsimp only
 rw [show decide ((0 : Int) < 5) = true from rfl, brk_true, chk_pos (by decide), chk_pos (by decide), g0, chk_pos r0, chk_pos i1]
 rw [loopC_succ]
 dsimp only
 rw [show decide ((0 : Int) + 1 < 5) = true from rfl, brk_true, chk_pos (by decide), chk_pos (by decide), show ([a, b, c, d, e] : List Int).getD (Int.toNat (0 + 1)) 0 = b from rfl, chk_pos r1, chk_pos i2]
 rw [loopC_succ]
 dsimp only
 rw [show decide ((0 : Int) + 1 + 1 < 5) = true from rfl, brk_true, chk_pos (by decide), chk_pos (by decide), show ([a, b, c, d, e] : List Int).getD (Int.toNat (0 + 1 + 1)) 0 = c from rfl, chk_pos r2, chk_pos i3]
 rw [loopC_succ]
 dsimp only
 rw [show decide ((0 : Int) + 1 + 1 + 1 < 5) = true from rfl, brk_true, chk_pos (by decide), chk_pos (by decide), show ([a, b, c, d, e] : List Int).getD (Int.toNat (0 + 1 + 1 + 1)) 0 = d from rfl, chk_pos r3, chk_pos i4]
 rw [loopC_succ]
 dsimp only
 rw [show decide ((0 : Int) + 1 + 1 + 1 + 1 < 5) = true from rfl, brk_true, chk_pos (by decide), chk_pos (by decide), show ([a, b, c, d, e] : List Int).getD (Int.toNat (0 + 1 + 1 + 1 + 1)) 0 = e from rfl, chk_pos r4, chk_pos i5]
 rw [loopC_succ]
 dsimp only
 rw [show decide ((0 : Int) + 1 + 1 + 1 + 1 + 1 < 5) = false from rfl, brk_false]
 rfl
theorem bill_eq {F : Nat} (hF : 100 < F) {t : Tariff} {v : Voyage} (ht : TarOK t) (hv : VoyOK v) (calls : Int) : fees_Tariff_bill F t v calls = some (billV t v calls) := by
 refine Ok.eq ?_
 unfold fees_Tariff_bill
 have h := billB ht hv
 have h0 := h.mt
 have h1 := h.mg
 have h2 := h.e
 have h3 := h.c
 have h4 := h.w
 have h5 := h.d
 have hv3 := hv.tonnes
 refine ok_join (by omega) (fun x : Int => x = if calls < t.Paid then duesV t v.Class v.Tonnes else 0) (fun x hx => ?_) fun k hk => ?_
 ·have hx0 : 0 ≤ x ∧ x ≤ 1000000000 := by subst hx; split <;> omega
  refine ok_chk (show InR _ from ⟨by omega, by omega⟩) (ok_chk ⟨by omega, by omega⟩ (ok_chk (show InR _ from ⟨by omega, by omega⟩) (ok_chk (show InR _ from ⟨by omega, by omega⟩) (ok_chk (show InR _ from ⟨by omega, by omega⟩) (ok_chk ⟨by omega, by omega⟩ (ok_chk (show InR _ from ⟨by omega, by omega⟩) (ok_chk (show InR _ from ⟨by omega, by omega⟩) (ok_chk (show InR _ from ⟨by omega, by omega⟩) ?_))))))))
  refine ok_bnde (account_eq (by omega) _ _ _ _ _ (by omega) (by omega) (by omega) (by omega) (by omega)) (ok_some ?_)
  subst hx; rfl
 ·refine ok_brk (fun hb => ?_) (fun hb => hk _ ?_)
  ·have hb : calls < t.Paid := of_decide_eq_true hb
   refine ok_bnde (dues_eq hF ht hv.cls.1 hv.cls.2 (by omega) (by omega)) (hk _ ?_)
   rw [if_pos hb]
  ·have hb : ¬ calls < t.Paid := of_decide_eq_false hb
   rw [if_neg hb]
theorem refBill_eq {F : Nat} (hF : 100 < F) {t : Tariff2} {v : Voyage} (ht : TarOK (back t)) (hv : VoyOK v) (calls : Int) : ref12_bill F t v calls = some (billV (back t) v calls) := by
 refine Ok.eq ?_
 unfold ref12_bill
 have h := billB ht hv
 have h0 : 0 ≤ t.Mile * v.Tenths ∧ t.Mile * v.Tenths ≤ 10000000000 := h.mt
 have h1 : 0 ≤ t.Mile * v.Tenths * ((v.Tonnes + 999) / 1000) ∧ t.Mile * v.Tenths * ((v.Tonnes + 999) / 1000) ≤ 5000000000000 := h.mg
 have h2 : 0 ≤ t.Escort * v.Escort ∧ t.Escort * v.Escort ≤ 1000000000 := h.e
 have h3 : 0 ≤ t.Cut * v.Cut ∧ t.Cut * v.Cut ≤ 1000000000 := h.c
 have h4 : 0 ≤ t.Tow * v.Tow ∧ t.Tow * v.Tow ≤ 1000000000 := h.w
 have h5 := h.d
 have hv3 := hv.tonnes
 have hP : (back t).Paid = t.Paid := rfl
 have hM : milesV (back t) v = (t.Mile * v.Tenths * ((v.Tonnes + 999) / 1000) + 9) / 10 := rfl
 refine ok_join (by omega) (fun x : Int => x = if calls < t.Paid then duesV (back t) v.Class v.Tonnes else 0) (fun x hx => ?_) fun k hk => ?_
 ·have hx0 : 0 ≤ x ∧ x ≤ 1000000000 := by subst hx; split <;> omega
  refine ok_chk ⟨by omega, by omega⟩ (ok_join (by omega) (fun g : Int => g = (v.Tonnes + 999) / 1000) (fun g hg => ?_) fun k hk => ?_)
  ·rw [← hg] at h1 hM
   refine ok_chk (show InR _ from ⟨by omega, by omega⟩) (ok_chk (show InR _ from ⟨by omega, by omega⟩) (ok_chk ⟨by omega, by omega⟩ (ok_join (by omega) (fun m : Int => m = milesV (back t) v) (fun m hm => ?_) fun k hk => ?_)))
   ·have hmb : 0 ≤ m ∧ m ≤ 1000000000000 := by rw [hm, hM]; omega
    refine ok_chk (show InR _ from ⟨by omega, by omega⟩) (ok_chk (show InR _ from ⟨by omega, by omega⟩) (ok_chk (show InR _ from ⟨by omega, by omega⟩) ?_))
    have hl5 : (([x, m, t.Escort * v.Escort, t.Cut * v.Cut, t.Tow * v.Tow] : List Int)).length = 5 := rfl
    have hmem : ∀ y ∈ ([x, m, t.Escort * v.Escort, t.Cut * v.Cut, t.Tow * v.Tow] : List Int), 0 ≤ y ∧ y ≤ 1000000000000 := fun y hy => by
     simp only [List.mem_cons, List.not_mem_nil, or_false] at hy
     rcases hy with rfl | rfl | rfl | rfl | rfl <;> omega
    have hfin : (⟨⟨x, m, t.Escort * v.Escort, t.Cut * v.Cut, t.Tow * v.Tow⟩, sumL [x, m, t.Escort * v.Escort, t.Cut * v.Cut, t.Tow * v.Tow]⟩ : Account) = billV (back t) v calls := by
     have e1 : linesV (back t) v calls = ⟨x, m, t.Escort * v.Escort, t.Cut * v.Cut, t.Tow * v.Tow⟩ := by subst hx hm; rfl
     simp only [billV, e1, sumA, sumL]
     congr 1; omega
    generalize hL : ([x, m, t.Escort * v.Escort, t.Cut * v.Cut, t.Tow * v.Tow] : List Int) = L at hl5 hmem hfin ⊢
    refine ok_loop (fun z : Int × Int => 0 ≤ z.1 ∧ z.1 ≤ 5 ∧ z.2 = sumL (L.take z.1.toNat)) (fun z : Int × Int => 5 - z.1.toNat) ⟨by simp, by simp, rfl⟩ (by simp; omega) ?_
    rintro ⟨i, s⟩ next ⟨i1, i2, i3⟩ hn
    simp only at i1 i2 i3
    dsimp only
    have hsb : 0 ≤ s ∧ s ≤ 5000000000000 := by
     have h1 := sumL_nonneg (L.take i.toNat) fun y hy => (hmem y (List.mem_of_mem_take hy)).1
     have h2 := sumL_le (L.take i.toNat) (B := 1000000000000) fun y hy => (hmem y (List.mem_of_mem_take hy)).2
     have h3 : (L.take i.toNat).length ≤ 5 := by rw [List.length_take]; omega
     omega
    refine ok_brk (fun hc => ?_) (fun hc => ok_some ?_)
    ·have hc : i < 5 := of_decide_eq_true hc
     have hi : i.toNat < L.length := by omega
     have hmi := hmem _ (getD_mem (d := 0) hi)
     have e1 : sumL (L.take (i + 1).toNat) = s + L.getD i.toNat 0 := by
      rw [show (i + 1).toNat = i.toNat + 1 by omega, take_succ' (d := 0) hi, sumL_append, i3]; simp only [sumL]; omega
     exact ok_chk ⟨i1, hc⟩ (ok_chk (show InR _ from ⟨by omega, by omega⟩) (ok_chk (show InR _ from ⟨by omega, by omega⟩) (hn _ ⟨by show 0 ≤ i + 1; omega, by show i + 1 ≤ 5; omega, e1.symm⟩ (by show 5 - (i + 1).toNat < 5 - i.toNat; omega))))
    ·have hc : ¬ i < 5 := of_decide_eq_false hc
     rw [List.take_of_length_le (by omega)] at i3
     rw [i3]; exact hfin
   ·refine ok_chk ⟨by omega, by omega⟩ (ok_brk (fun hb => ?_) (fun hb => hk _ ?_))
    ·have hb : t.Mile * v.Tenths * g % 10 > 0 := of_decide_eq_true hb
     exact ok_chk (show InR _ from ⟨by omega, by omega⟩) (hk _ (by rw [hM]; omega))
    ·have hb : ¬ t.Mile * v.Tenths * g % 10 > 0 := of_decide_eq_false hb
     rw [hM]; omega
  ·refine ok_chk ⟨by omega, by omega⟩ (ok_brk (fun hb => ?_) (fun hb => hk _ ?_))
   ·have hb : v.Tonnes % 1000 > 0 := of_decide_eq_true hb
    exact ok_chk (show InR _ from ⟨by omega, by omega⟩) (hk _ (by omega))
   ·have hb : ¬ v.Tonnes % 1000 > 0 := of_decide_eq_false hb
    omega
 ·refine ok_brk (fun hb => ?_) (fun hb => hk _ ?_)
  ·have hb : calls < t.Paid := of_decide_eq_true hb
   refine ok_bnde (refDues_eq hF ht hv.cls.1 hv.cls.2 (by omega) (by omega)) (hk _ ?_)
   rw [if_pos hb]
  ·have hb : ¬ calls < t.Paid := of_decide_eq_false hb
   rw [if_neg hb]
abbrev v0 : Voyage := ⟨0, 0, 0, 0, 0, 0, 0⟩
theorem getM_setM : ∀ (m : List (Int × Int)) (k v s : Int), getM (setM m k v) s = if k = s then v else getM m s
 | [], k, v, s => rfl
 | p :: m, k, v, s => by
  have ih := getM_setM m k v s
  unfold setM
  by_cases h : p.1 = k
  ·rw [if_pos h]
   unfold getM
   by_cases h2 : k = s
   ·rw [if_pos h2, if_pos h2]
   ·rw [if_neg h2, if_neg h2, if_neg (by rw [h]; exact h2)]
  ·rw [if_neg h]
   unfold getM
   rw [ih]
   by_cases h2 : p.1 = s
   ·rw [if_pos h2, if_neg (fun e => h (h2.trans e.symm)), if_pos h2]
   ·rw [if_neg h2]
    by_cases h3 : k = s
    ·rw [if_pos h3, if_pos h3]
    ·rw [if_neg h3, if_neg h3]
     cases m with
     | nil => unfold getM; rw [if_neg h2]
     | cons q m => rw [if_neg h2]
def cnt (s : Int) (l : List Voyage) : Int := ((l.filter fun v => decide (v.Ship = s)).length : Int)
theorem cnt_snoc (s : Int) (l : List Voyage) (v : Voyage) : cnt s (l ++ [v]) = cnt s l + if v.Ship = s then 1 else 0 := by
 unfold cnt
 rw [List.filter_append, List.length_append]
 by_cases h : v.Ship = s
 ·simp [h]
 ·simp [h]
theorem cnt_bound (s : Int) (l : List Voyage) : 0 ≤ cnt s l ∧ cnt s l ≤ l.length := by
 unfold cnt
 have := List.length_filter_le (fun v : Voyage => decide (v.Ship = s)) l
 omega
def seaV (t : Tariff) : List Voyage → List Voyage → List Account
 | _, [] => []
 | d, v :: l => billV t v (cnt v.Ship d) :: seaV t (d ++ [v]) l
theorem seaV_length (t : Tariff) : ∀ (l d : List Voyage), (seaV t d l).length = l.length
 | [], _ => rfl
 | v :: l, d => by simp [seaV, seaV_length t l]
def sumS : List Account → Int
 | [] => 0
 | a :: l => a.Sum + sumS l
theorem sumS_append : ∀ l r : List Account, sumS (l ++ r) = sumS l + sumS r
 | [], r => by simp [sumS]
 | x :: l, r => by simp only [List.cons_append, sumS, sumS_append l r]; omega
def SeaP (t : Tariff) (l : List Voyage) (r : List Account × Int × Int) : Prop :=
 (¬ (∀ v ∈ l, VoyOK v) ∧ r = ([], 0, 1)) ∨ ((∀ v ∈ l, VoyOK v) ∧ r = (seaV t [] l, sumS (seaV t [] l), 0))
theorem SeaP.one {t : Tariff} {l : List Voyage} {r s : List Account × Int × Int} (h : SeaP t l r) (h' : SeaP t l s) : r = s := by
 rcases h with ⟨a, rfl⟩ | ⟨a, rfl⟩ <;> rcases h' with ⟨b, rfl⟩ | ⟨b, rfl⟩
 ·rfl
 ·exact absurd b a
 ·exact absurd a b
 ·rfl
theorem season_ok {F : Nat} (hF : 1000 < F) {t : Tariff} (ht : TarOK t) (l : List Voyage) : Ok (fun r => (500 < l.length ∧ r = ([], 0, 2)) ∨ (l.length ≤ 500 ∧ SeaP t l r)) (fees_Season F t l) := by
 unfold fees_Season
 refine ok_bnde (Check_eq (by omega) t) ?_
 rw [ht.check]
 refine ok_brkF rfl (ok_brk (fun hb => ok_some (.inl ⟨by have := of_decide_eq_true hb; omega, rfl⟩)) (fun hb => ?_))
 have hl : l.length ≤ 500 := by have := of_decide_eq_false hb; omega
 refine ok_loop (fun x : Int × List Account × Int × List (Int × Int) => 0 ≤ x.2.2.1 ∧ x.2.2.1 ≤ l.length ∧ x.2.1 ++ seaV t (l.take x.2.2.1.toNat) (l.drop x.2.2.1.toNat) = seaV t [] l ∧ x.2.1.length = x.2.2.1.toNat ∧ x.1 = sumS x.2.1 ∧ 0 ≤ x.1 ∧ x.1 ≤ 600000000000 * x.2.2.1 ∧ (∀ s, getM x.2.2.2 s = cnt s (l.take x.2.2.1.toNat)) ∧ ∀ v ∈ l.take x.2.2.1.toNat, VoyOK v)
  (fun x => l.length - x.2.2.1.toNat) ⟨by simp, by simp, rfl, rfl, rfl, by simp, by simp, fun _ => rfl, fun _ h => by (cases h)⟩ (by simp; omega) ?_
 rintro ⟨sm, out, i, m⟩ next ⟨i1, i2, i3, i4, i5, i6, i7, i8, i9⟩ hn
 simp only at i1 i2 i3 i4 i5 i6 i7 i8 i9
 dsimp only
 refine ok_brk (fun hc => ?_) (fun hc => ok_some (.inr ⟨hl, .inr ⟨?_, ?_⟩⟩))
 ·have hc : i < l.length := of_decide_eq_true hc
  have hi : i.toNat < l.length := by omega
  rw [drop_get (d := v0) hi] at i3
  have htk : l.take (i + 1).toNat = l.take i.toNat ++ [l.getD i.toNat v0] := by rw [show (i + 1).toNat = i.toNat + 1 by omega, take_succ' (d := v0) hi]
  have hmem : l.getD i.toNat v0 ∈ l := getD_mem hi
  refine ok_join (by omega) (fun x : Int × List Account × List (Int × Int) => x.2.1 ++ seaV t (l.take (i + 1).toNat) (l.drop (i + 1).toNat) = seaV t [] l ∧ x.2.1.length = (i + 1).toNat ∧ x.1 = sumS x.2.1 ∧ 0 ≤ x.1 ∧ x.1 ≤ 600000000000 * (i + 1) ∧ (∀ s, getM x.2.2 s = cnt s (l.take (i + 1).toNat)) ∧ ∀ v ∈ l.take (i + 1).toNat, VoyOK v)
   (fun x ⟨a, b, c, d, e, f, g⟩ => ok_chk (show InR _ from ⟨by omega, by omega⟩) (hn _ ⟨by show 0 ≤ i + 1; omega, by show i + 1 ≤ _; omega, a, b, c, d, e, f, g⟩ (by show l.length - (i + 1).toNat < l.length - i.toNat; omega))) fun k hk => ?_
  have hx : l.getD i.toNat ⟨0, 0, 0, 0, 0, 0, 0⟩ = l.getD i.toNat v0 := rfl
  rw [hx]
  generalize l.getD i.toNat v0 = V at i3 htk hmem ⊢
  refine ok_chk ⟨i1, hc⟩ (ok_bnd _ (right_ok (by omega) V) fun b hb => ok_brk (fun h => ok_some (.inr ⟨hl, .inl ⟨fun q => ?_, rfl⟩⟩)) (fun h => ?_))
  ·have h : b = false := by simpa using h
   have := hb.2 (q V hmem)
   rw [h] at this; cases this
  have h : b = true := by simpa using h
  have hV := hb.1 h
  have hg := i8 V.Ship
  have hcb := cnt_bound V.Ship (l.take i.toNat)
  have hlt : (l.take i.toNat).length ≤ i := by rw [List.length_take]; omega
  refine ok_bnde (bill_eq (by omega) ht hV _) ?_
  rw [hg]
  have hbb := billV_bound ht hV (cnt V.Ship (l.take i.toNat))
  have hseq : (out ++ [billV t V (cnt V.Ship (l.take i.toNat))]) ++ seaV t (l.take (i + 1).toNat) (l.drop (i + 1).toNat) = seaV t [] l := by
   rw [← i3, htk, List.append_assoc, show (i + 1).toNat = i.toNat + 1 by omega]; rfl
  generalize billV t V (cnt V.Ship (l.take i.toNat)) = A at hbb hseq ⊢
  have hsum : sumS (out ++ [A]) = sm + A.Sum := by rw [sumS_append, ← i5]; simp only [sumS]; omega
  have hlen : (out ++ [A]).length = (i + 1).toNat := by simp; omega
  have hmap : ∀ s, getM (setM m V.Ship (cnt V.Ship (l.take i.toNat) + 1)) s = cnt s (l.take (i + 1).toNat) := fun s => by
   rw [getM_setM, htk, cnt_snoc]
   by_cases e : V.Ship = s
   ·rw [if_pos e, if_pos e, e]
   ·rw [if_neg e, if_neg e, i8]; omega
  have hall : ∀ v ∈ l.take (i + 1).toNat, VoyOK v := fun v hv => by
   rw [htk] at hv
   rcases List.mem_append.1 hv with q | q
   ·exact i9 v q
   ·rw [List.mem_singleton.1 q]; exact hV
  refine ok_chk (show InR _ from ⟨by omega, by omega⟩) (ok_chk (by simp; omega) (ok_brk (fun _ => ok_chk (show InR _ from ⟨by omega, by omega⟩) (hk _ ⟨hseq, hlen, hsum.symm, by show 0 ≤ sm + A.Sum; omega, by show sm + A.Sum ≤ _; omega, hmap, hall⟩)) (fun hz => hk _ ⟨hseq, hlen, ?_, i6, by show sm ≤ _; omega, hmap, hall⟩)))
  show sm = sumS (out ++ [A])
  have hz : A.Sum = 0 := by
   simp only [Bool.not_eq_false', Bool.and_eq_true, beq_iff_eq, Bool.and_true] at hz
   exact hz.2
  rw [hsum, hz]; omega
 ·have hc : ¬ i < l.length := of_decide_eq_false hc
  rw [List.take_of_length_le (by omega)] at i9
  exact i9
 ·have hc : ¬ i < l.length := of_decide_eq_false hc
  rw [List.drop_eq_nil_of_le (by omega)] at i3
  have : out = seaV t [] l := by rw [← i3]; simp [seaV]
  rw [i5, this]
theorem refSeason_ok {F : Nat} (hF : 1000 < F) {t : Tariff2} (ht : TarOK (back t)) (l : List Voyage) : Ok (fun r => (500 < l.length ∧ r = ([], 0, 2)) ∨ (l.length ≤ 500 ∧ SeaP (back t) l r)) (ref12_Season F t l) := by
 unfold ref12_Season
 refine ok_bnde (refCheck_eq (by omega) t) ?_
 rw [ht.check]
 refine ok_brkF rfl (ok_brk (fun hb => ok_some (.inl ⟨by have := of_decide_eq_true hb; omega, rfl⟩)) (fun hb => ?_))
 have hl : l.length ≤ 500 := by have := of_decide_eq_false hb; omega
 refine ok_loop (fun x : List Account × Int × Int => 0 ≤ x.2.1 ∧ x.2.1 ≤ l.length ∧ x.1 ++ seaV (back t) (l.take x.2.1.toNat) (l.drop x.2.1.toNat) = seaV (back t) [] l ∧ x.1.length = x.2.1.toNat ∧ x.2.2 = sumS x.1 ∧ 0 ≤ x.2.2 ∧ x.2.2 ≤ 600000000000 * x.2.1 ∧ ∀ v ∈ l.take x.2.1.toNat, VoyOK v)
  (fun x => l.length - x.2.1.toNat) ⟨by simp, by simp, rfl, rfl, rfl, by simp, by simp, fun _ h => by (cases h)⟩ (by simp; omega) ?_
 rintro ⟨out, i, sm⟩ next ⟨i1, i2, i3, i4, i5, i6, i7, i9⟩ hn
 simp only at i1 i2 i3 i4 i5 i6 i7 i9
 dsimp only
 refine ok_brk (fun hc => ?_) (fun hc => ok_some (.inr ⟨hl, .inr ⟨?_, ?_⟩⟩))
 ·have hc : i < l.length := of_decide_eq_true hc
  have hi : i.toNat < l.length := by omega
  rw [drop_get (d := v0) hi] at i3
  have htk : l.take (i + 1).toNat = l.take i.toNat ++ [l.getD i.toNat v0] := by rw [show (i + 1).toNat = i.toNat + 1 by omega, take_succ' (d := v0) hi]
  have hmem : l.getD i.toNat v0 ∈ l := getD_mem hi
  have hx : l.getD i.toNat ⟨0, 0, 0, 0, 0, 0, 0⟩ = l.getD i.toNat v0 := rfl
  rw [hx]
  generalize l.getD i.toNat v0 = V at i3 htk hmem ⊢
  refine ok_chk ⟨i1, hc⟩ (ok_bnd _ (refRight_ok V) fun b hb => ok_brk (fun h => ok_some (.inr ⟨hl, .inl ⟨fun q => ?_, rfl⟩⟩)) (fun h => ?_))
  ·have h : b = false := by simpa using h
   have := hb.2 (q V hmem)
   rw [h] at this; cases this
  have h : b = true := by simpa using h
  have hV := hb.1 h
  refine ok_loop (fun x : Int × Int => 0 ≤ x.1 ∧ x.1 ≤ i ∧ x.2 = cnt V.Ship (l.take x.1.toNat)) (fun x => i.toNat - x.1.toNat) ⟨by simp, i1, rfl⟩ (by simp; omega) ?_
  rintro ⟨j, c⟩ next2 ⟨j1, j2, j3⟩ hn2
  simp only at j1 j2 j3
  dsimp only
  have hcb := cnt_bound V.Ship (l.take j.toNat)
  have hlt : (l.take j.toNat).length ≤ j := by rw [List.length_take]; omega
  refine ok_brk (fun hd => ?_) (fun hd => ?_)
  ·have hd : j < i := of_decide_eq_true hd
   have hj : j.toNat < l.length := by omega
   have htj : l.take (j + 1).toNat = l.take j.toNat ++ [l.getD j.toNat v0] := by rw [show (j + 1).toNat = j.toNat + 1 by omega, take_succ' (d := v0) hj]
   have hy : l.getD j.toNat ⟨0, 0, 0, 0, 0, 0, 0⟩ = l.getD j.toNat v0 := rfl
   rw [hy]
   generalize l.getD j.toNat v0 = W at htj ⊢
   refine ok_join (by omega) (fun x : Int => x = cnt V.Ship (l.take (j + 1).toNat)) (fun x hx => ok_chk (show InR _ from ⟨by omega, by omega⟩) (hn2 _ ⟨by show 0 ≤ j + 1; omega, by show j + 1 ≤ i; omega, hx⟩ (by show i.toNat - (j + 1).toNat < i.toNat - j.toNat; omega))) fun k hk => ?_
   refine ok_chk ⟨j1, by omega⟩ (ok_chk ⟨i1, hc⟩ (ok_brk (fun he => ok_chk (show InR _ from ⟨by omega, by omega⟩) (hk _ ?_)) (fun he => hk _ ?_)))
   ·have he : W.Ship = V.Ship := by simpa using he
    rw [htj, cnt_snoc, if_pos he, j3]
   ·have he : ¬ W.Ship = V.Ship := by simpa using he
    rw [htj, cnt_snoc, if_neg he, j3]; omega
  ·have hd : ¬ j < i := of_decide_eq_false hd
   obtain rfl : j = i := by omega
   refine ok_chk ⟨i1, hc⟩ (ok_bnde (refBill_eq (by omega) ht hV _) ?_)
   rw [j3]
   have hbb := billV_bound ht hV (cnt V.Ship (l.take j.toNat))
   have hseq : (out ++ [billV (back t) V (cnt V.Ship (l.take j.toNat))]) ++ seaV (back t) (l.take (j + 1).toNat) (l.drop (j + 1).toNat) = seaV (back t) [] l := by
    rw [← i3, htk, List.append_assoc, show (j + 1).toNat = j.toNat + 1 by omega]; rfl
   generalize billV (back t) V (cnt V.Ship (l.take j.toNat)) = A at hbb hseq ⊢
   have hsum : sumS (out ++ [A]) = sm + A.Sum := by rw [sumS_append, ← i5]; simp only [sumS]; omega
   have hlen : (out ++ [A]).length = (j + 1).toNat := by simp; omega
   have hall : ∀ v ∈ l.take (j + 1).toNat, VoyOK v := fun v hv => by
    rw [htk] at hv
    rcases List.mem_append.1 hv with q | q
    ·exact i9 v q
    ·rw [List.mem_singleton.1 q]; exact hV
   exact ok_chk (by simp; omega) (ok_chk (show InR _ from ⟨by omega, by omega⟩) (ok_chk (show InR _ from ⟨by omega, by omega⟩) (hn _ ⟨by show 0 ≤ j + 1; omega, by show j + 1 ≤ _; omega, hseq, hlen, hsum.symm, by show 0 ≤ sm + A.Sum; omega, by show sm + A.Sum ≤ 600000000000 * (j + 1); omega, hall⟩ (by show l.length - (j + 1).toNat < l.length - j.toNat; omega))))
 ·have hc : ¬ i < l.length := of_decide_eq_false hc
  rw [List.take_of_length_le (by omega)] at i9
  exact i9
 ·have hc : ¬ i < l.length := of_decide_eq_false hc
  rw [List.drop_eq_nil_of_le (by omega)] at i3
  have : out = seaV (back t) [] l := by rw [← i3]; simp [seaV]
  rw [i5, this]
def Both {α : Type} (t : Tariff) (bad : Int → α) (P : α → Prop) (r : α) : Prop := (checkV t ≠ 0 ∧ r = bad (checkV t)) ∨ (TarOK t ∧ P r)
theorem Both.one {α : Type} {t : Tariff} {bad : Int → α} {P : α → Prop} {r s : α} (h : Both t bad P r) (h' : Both t bad P s) (hP : TarOK t → P r → P s → r = s) : r = s := by
 rcases h with ⟨a, rfl⟩ | ⟨a, b⟩ <;> rcases h' with ⟨c, rfl⟩ | ⟨c, d⟩
 ·rfl
 ·exact absurd c.check a
 ·exact absurd a.check c
 ·exact hP a b d
theorem bad_bnd {α : Type} {t : Tariff} {x : Option Int} (hx : x = some (checkV t)) {bad : Int → α} {P : α → Prop} {g : Option α} (h : TarOK t → Ok P g) : Ok (Both t bad P) (bnd x fun e => brk (e != 0) (some (bad e)) g) := by
 refine ok_bnde hx (ok_brk (fun hb => ok_some (.inl ⟨by simpa using hb, rfl⟩)) (fun hb => ?_))
 have hb : checkV t = 0 := by simpa using hb
 exact (h (checkV_zero hb)).mono fun r hr => .inr ⟨checkV_zero hb, hr⟩
def DuesP (t : Tariff) (c n : Int) (r : Int × Int) : Prop := ((0 ≤ c ∧ c ≤ 6) ∧ (1 ≤ n ∧ n ≤ 500000) ∧ r = (duesV t c n, 0)) ∨ (¬ ((0 ≤ c ∧ c ≤ 6) ∧ (1 ≤ n ∧ n ≤ 500000)) ∧ r = (0, 1))
theorem DuesP.one {t : Tariff} {c n : Int} {r s : Int × Int} (h : DuesP t c n r) (h' : DuesP t c n s) : r = s := by
 rcases h with ⟨a, b, rfl⟩ | ⟨a, rfl⟩ <;> rcases h' with ⟨c, d, rfl⟩ | ⟨c, rfl⟩
 ·rfl
 ·exact absurd ⟨a, b⟩ c
 ·exact absurd ⟨c, d⟩ a
 ·rfl
theorem Dues_ok {F : Nat} (hF : 100 < F) (t : Tariff) (c n : Int) : Ok (Both t (fun e => (0, e)) (DuesP t c n)) (fees_Dues F t c n) := by
 unfold fees_Dues
 refine bad_bnd (Check_eq hF t) fun ht => ?_
 rw [within_eq, within_eq, wb, wb]
 refine ok_bnde rfl ?_
 by_cases h1 : 0 ≤ c ∧ c ≤ 6
 ·rw [decide_eq_true h1]
  refine ok_bnde (b := decide (1 ≤ n ∧ n ≤ 500000)) rfl (ok_brk (fun hb => ok_some (.inr ⟨fun q => ?_, rfl⟩)) (fun hb => ?_))
  ·rw [Bool.not_true, Bool.false_or] at hb; exact nd_true hb q.2
  ·rw [Bool.not_true, Bool.false_or] at hb
   have := nd_false hb
   exact ok_bnde (dues_eq hF ht h1.1 h1.2 (by omega) (by omega)) (ok_some (.inl ⟨h1, this, rfl⟩))
 ·rw [decide_eq_false h1]
  exact ok_bnde (b := false) rfl (ok_brkT rfl (ok_some (.inr ⟨fun q => h1 q.1, rfl⟩)))
theorem refDuesE_ok {F : Nat} (hF : 100 < F) (t : Tariff2) (c n : Int) : Ok (Both (back t) (fun e => (0, e)) (DuesP (back t) c n)) (ref12_Dues F t c n) := by
 unfold ref12_Dues
 refine bad_bnd (refCheck_eq hF t) fun ht => ?_
 rw [refIn_eq, refIn_eq, wb, wb]
 refine ok_bnde rfl ?_
 by_cases h1 : 0 ≤ c ∧ c ≤ 6
 ·rw [decide_eq_true h1]
  refine ok_bnde (b := decide (1 ≤ n ∧ n ≤ 500000)) rfl (ok_brk (fun hb => ok_some (.inr ⟨fun q => ?_, rfl⟩)) (fun hb => ?_))
  ·rw [Bool.not_true, Bool.false_or] at hb; exact nd_true hb q.2
  ·rw [Bool.not_true, Bool.false_or] at hb
   have := nd_false hb
   exact ok_bnde (refDues_eq hF ht h1.1 h1.2 (by omega) (by omega)) (ok_some (.inl ⟨h1, this, rfl⟩))
 ·rw [decide_eq_false h1]
  exact ok_bnde (b := false) rfl (ok_brkT rfl (ok_some (.inr ⟨fun q => h1 q.1, rfl⟩)))
abbrev zeroA : Account := ⟨⟨0, 0, 0, 0, 0⟩, 0⟩
def BillP (t : Tariff) (v : Voyage) (calls : Int) (r : Account × Int) : Prop := (¬ VoyOK v ∧ r = (zeroA, 1)) ∨ (VoyOK v ∧ ((calls < 0 ∧ r = (zeroA, 6)) ∨ (0 ≤ calls ∧ r = (billV t v calls, 0))))
theorem BillP.one {t : Tariff} {v : Voyage} {c : Int} {r s : Account × Int} (h : BillP t v c r) (h' : BillP t v c s) : r = s := by
 rcases h with ⟨a, rfl⟩ | ⟨a, ⟨b, rfl⟩ | ⟨b, rfl⟩⟩ <;> rcases h' with ⟨c, rfl⟩ | ⟨c, ⟨d, rfl⟩ | ⟨d, rfl⟩⟩ <;> first | rfl | contradiction | omega
theorem Bill_ok {F : Nat} (hF : 100 < F) (t : Tariff) (v : Voyage) (calls : Int) : Ok (Both t (fun e => (zeroA, e)) (BillP t v calls)) (fees_Bill F t v calls) := by
 unfold fees_Bill
 refine bad_bnd (Check_eq hF t) fun ht => ?_
 refine ok_bnd _ (right_ok hF v) fun b hb => ok_brk (fun h => ok_some (.inl ⟨fun q => ?_, rfl⟩)) (fun h => ?_)
 ·rw [hb.2 q] at h; cases h
 ·have hv := hb.1 (by simpa using h)
  refine ok_brk (fun h => ok_some (.inr ⟨hv, .inl ⟨of_decide_eq_true h, rfl⟩⟩)) (fun h => ok_bnde (bill_eq hF ht hv _) (ok_some (.inr ⟨hv, .inr ⟨?_, rfl⟩⟩)))
  have := of_decide_eq_false h; omega
theorem refBillE_ok {F : Nat} (hF : 100 < F) (t : Tariff2) (v : Voyage) (calls : Int) : Ok (Both (back t) (fun e => (zeroA, e)) (BillP (back t) v calls)) (ref12_Bill F t v calls) := by
 unfold ref12_Bill
 refine bad_bnd (refCheck_eq hF t) fun ht => ?_
 refine ok_bnd _ (refRight_ok v) fun b hb => ok_brk (fun h => ok_some (.inl ⟨fun q => ?_, rfl⟩)) (fun h => ?_)
 ·rw [hb.2 q] at h; cases h
 ·have hv := hb.1 (by simpa using h)
  refine ok_brk (fun h => ok_some (.inr ⟨hv, .inl ⟨of_decide_eq_true h, rfl⟩⟩)) (fun h => ok_bnde (refBill_eq hF ht hv _) (ok_some (.inr ⟨hv, .inr ⟨?_, rfl⟩⟩)))
  have := of_decide_eq_false h; omega
def LargeP (t : Tariff) (c a : Int) (r : Int × Int) : Prop := (¬ (0 ≤ c ∧ c ≤ 6) ∧ r = (0, 1)) ∨ ((0 ≤ c ∧ c ≤ 6) ∧ ((r = (0, 4) ∧ LargeOK t c a 0) ∨ (r.2 = 0 ∧ 1 ≤ r.1 ∧ LargeOK t c a r.1)))
theorem LargeP.one {t : Tariff} {c a : Int} {r s : Int × Int} (ht : TarOK t) (h : LargeP t c a r) (h' : LargeP t c a s) : r = s := by
 rcases h with ⟨p, rfl⟩ | ⟨p, q⟩ <;> rcases h' with ⟨p', rfl⟩ | ⟨p', q'⟩
 ·rfl
 ·exact absurd p' p
 ·exact absurd p p'
 ·rcases q with ⟨rfl, q⟩ | ⟨q1, q2, q3⟩ <;> rcases q' with ⟨rfl, u⟩ | ⟨u1, u2, u3⟩
  ·rfl
  ·have := LargeOK.one ht p.1 p.2 q u3; omega
  ·have := LargeOK.one ht p.1 p.2 u q3; omega
  ·exact Prod.ext (LargeOK.one ht p.1 p.2 q3 u3) (q1.trans u1.symm)
theorem LargestE_ok {F : Nat} (hF : 2000000 < F) (t : Tariff) (c a : Int) : Ok (Both t (fun e => (0, e)) (LargeP t c a)) (fees_Largest F t c a) := by
 by_cases ht : TarOK t
 ·exact (largest_ok hF ht).mono fun r hr => .inr ⟨ht, hr⟩
 ·unfold fees_Largest
  exact bad_bnd (Check_eq (by omega) t) fun h => absurd h ht
theorem refLargestE_ok {F : Nat} (hF : 2000000 < F) (t : Tariff2) (c a : Int) : Ok (Both (back t) (fun e => (0, e)) (LargeP (back t) c a)) (ref12_Largest F t c a) := by
 by_cases ht : TarOK (back t)
 ·exact (refLargest_ok hF ht).mono fun r hr => .inr ⟨ht, hr⟩
 ·unfold ref12_Largest
  exact bad_bnd (refCheck_eq (by omega) t) fun h => absurd h ht
def SeasonP (t : Tariff) (l : List Voyage) (r : List Account × Int × Int) : Prop := (500 < l.length ∧ r = ([], 0, 2)) ∨ (l.length ≤ 500 ∧ SeaP t l r)
theorem SeasonP.one {t : Tariff} {l : List Voyage} {r s : List Account × Int × Int} (h : SeasonP t l r) (h' : SeasonP t l s) : r = s := by
 rcases h with ⟨a, rfl⟩ | ⟨a, b⟩ <;> rcases h' with ⟨c, rfl⟩ | ⟨c, d⟩
 ·rfl
 ·omega
 ·omega
 ·exact b.one d
theorem SeasonE_ok {F : Nat} (hF : 1000 < F) (t : Tariff) (l : List Voyage) : Ok (Both t (fun e => ([], 0, e)) (SeasonP t l)) (fees_Season F t l) := by
 by_cases ht : TarOK t
 ·exact (season_ok hF ht l).mono fun r hr => .inr ⟨ht, hr⟩
 ·unfold fees_Season
  exact bad_bnd (Check_eq (by omega) t) fun h => absurd h ht
theorem refSeasonE_ok {F : Nat} (hF : 1000 < F) (t : Tariff2) (l : List Voyage) : Ok (Both (back t) (fun e => ([], 0, e)) (SeasonP (back t) l)) (ref12_Season F t l) := by
 by_cases ht : TarOK (back t)
 ·exact (refSeason_ok hF ht l).mono fun r hr => .inr ⟨ht, hr⟩
 ·unfold ref12_Season
  exact bad_bnd (refCheck_eq (by omega) t) fun h => absurd h ht
theorem ok_skip {α : Type} {post : α → Prop} {F n : Nat} {c : Int → Bool} {hit : Option α} {exit : Option α} (hF : n < F) (hn : n ≤ 1000000) (hc : ∀ i : Int, c i = false) (he : Ok post exit) :
  Ok post (loopC (fun (x : Int) next => brk (decide (x < (n : Int))) (chk (0 ≤ x ∧ x < (n : Int)) (chk (0 ≤ x ∧ x < (n : Int)) (brk (c x) hit (chk (InR (x + 1)) (next (x + 1)))))) exit) F 0) := by
 refine ok_loop (fun x : Int => 0 ≤ x ∧ x ≤ n) (fun x : Int => n - x.toNat) ⟨by simp, by simp⟩ (by simp; omega) ?_
 rintro i next ⟨i1, i2⟩ hnx
 refine ok_brk (fun hb => ?_) (fun _ => he)
 have hb : i < n := of_decide_eq_true hb
 exact ok_chk ⟨i1, hb⟩ (ok_chk ⟨i1, hb⟩ (ok_brkF (hc i) (ok_chk (show InR _ from ⟨by omega, by omega⟩) (hnx _ ⟨by omega, by omega⟩ (by show n - (i + 1).toNat < n - i.toNat; omega)))))
theorem eqBand_eq {F : Nat} {l : List Band} (hF : l.length < F) (hl : l.length ≤ 1000000) : slices_Equal_fees_Band F l l = some true := by
 refine Ok.eq ?_
 unfold slices_Equal_fees_Band
 exact ok_brkF (by simp) (ok_skip hF hl (fun i => by simp) (ok_some rfl))
theorem eqVoyage_eq {F : Nat} {l : List Voyage} (hF : l.length < F) (hl : l.length ≤ 1000000) : slices_Equal_fees_Voyage F l l = some true := by
 refine Ok.eq ?_
 unfold slices_Equal_fees_Voyage
 exact ok_brkF (by simp) (ok_skip hF hl (fun i => by simp) (ok_some rfl))
theorem tariff_eq {F : Nat} {t : Tariff} (hF : 100 < F) (hl : t.Bands.length ≤ 20) : law12_Tariff F t = some (conv t) := by
 refine Ok.eq ?_
 unfold law12_Tariff
 refine ok_loop (fun x : Int × List Band => 0 ≤ x.1 ∧ x.1 ≤ t.Bands.length ∧ x.2 = t.Bands.take x.1.toNat) (fun x => t.Bands.length - x.1.toNat) ⟨by simp, by simp, rfl⟩ (by simp; omega) ?_
 rintro ⟨i, o⟩ next ⟨i1, i2, i3⟩ hn
 simp only at i1 i2 i3
 dsimp only
 refine ok_brk (fun hc => ?_) (fun hc => ok_some ?_)
 ·have hc : i < t.Bands.length := of_decide_eq_true hc
  have hi : i.toNat < t.Bands.length := by omega
  refine ok_chk ⟨i1, hc⟩ (ok_chk ?_ (ok_chk (show InR _ from ⟨by omega, by omega⟩) (hn _ ⟨by show 0 ≤ i + 1; omega, by show i + 1 ≤ _; omega, ?_⟩ (by show t.Bands.length - (i + 1).toNat < t.Bands.length - i.toNat; omega))))
  ·rw [i3, List.length_take]; simp; omega
  ·show o ++ [t.Bands.getD i.toNat b0] = _
   rw [show (i + 1).toNat = i.toNat + 1 by omega, take_succ' (d := b0) hi, i3]
 ·have hc : ¬ i < t.Bands.length := of_decide_eq_false hc
  rw [List.take_of_length_le (by omega)] at i3
  rw [i3]; rfl
theorem clone_eq {α : Type} {l : List α} (h : l.length ≤ 1000000000) : chk ((0 : Nat) + l.length ≤ (1000000000 : Nat)) (some ([] ++ l)) = some l := by
 rw [chk_pos (by omega)]; rfl
theorem feesBills_ok' {F : Nat} (hF : F = 1000000000000000) (t : Tariff) (class_ tonnes amount calls : Int) (v : Voyage) (l : List Voyage) : law12_FeesBills F t class_ tonnes amount calls v l = some true := by
 have haw : law12_awake F = some true := by rw [hF]; exact awake_eq
 refine Ok.eq ?_
 unfold law12_FeesBills
 rw [haw]
 refine ok_brk (fun hb => ok_bnde rfl (ok_some rfl)) (fun hb => ?_)
 simp only [Bool.or_eq_false_iff, Bool.and_eq_false_iff, decide_eq_false_iff_not] at hb
 have hl1 : t.Bands.length ≤ 20 := by omega
 have hl2 : l.length ≤ 520 := by omega
 refine ok_bnde (tariff_eq (t := t) (by omega) hl1) (ok_bnde (show slices_Clone_fees_Band F t.Bands = _ from clone_eq (by omega)) (ok_bnde (show slices_Clone_fees_Voyage F l = _ from clone_eq (by omega)) ?_))
 refine ok_bnde (Check_eq (by omega) t) (ok_bnde (refCheck_eq (by omega) (conv t)) ?_)
 rw [back_conv]
 refine ok_brkF (by simp) ?_
 refine ok_bnd _ (Dues_ok (by omega) t class_ tonnes) fun r1 h1 => ok_bnd _ (refDuesE_ok (by omega) (conv t) class_ tonnes) fun s1 g1 => ?_
 rw [back_conv] at g1
 obtain rfl := h1.one g1 fun _ a b => a.one b
 refine ok_brkF (by simp) ?_
 refine ok_bnd _ (LargestE_ok (by omega) t class_ amount) fun r2 h2 => ok_bnd _ (refLargestE_ok (by omega) (conv t) class_ amount) fun s2 g2 => ?_
 rw [back_conv] at g2
 obtain rfl := h2.one g2 fun ht a b => LargeP.one ht a b
 refine ok_brkF (by simp) ?_
 refine ok_bnd _ (Bill_ok (by omega) t v calls) fun r3 h3 => ok_bnd _ (refBillE_ok (by omega) (conv t) v calls) fun s3 g3 => ?_
 rw [back_conv] at g3
 obtain rfl := h3.one g3 fun _ a b => a.one b
 refine ok_brkF (by simp) ?_
 refine ok_loop (fun x : List Voyage × Int => 0 ≤ x.2 ∧ x.2 ≤ l.length ∧ x.1 = l.take x.2.toNat) (fun x => l.length - x.2.toNat) ⟨by simp, by simp, rfl⟩ (by simp; omega) ?_
 rintro ⟨o, i⟩ next ⟨i1, i2, i3⟩ hn
 simp only at i1 i2 i3
 dsimp only
 refine ok_brk (fun hc => ?_) (fun hc => ?_)
 ·have hc : i < l.length := of_decide_eq_true hc
  have hi : i.toNat < l.length := by omega
  refine ok_chk ⟨i1, hc⟩ (ok_chk ?_ (ok_chk (show InR _ from ⟨by omega, by omega⟩) (hn _ ⟨by show 0 ≤ i + 1; omega, by show i + 1 ≤ _; omega, ?_⟩ (by show l.length - (i + 1).toNat < l.length - i.toNat; omega))))
  ·rw [i3, List.length_take]; simp; omega
  ·show o ++ [l.getD i.toNat v0] = _
   rw [show (i + 1).toNat = i.toNat + 1 by omega, take_succ' (d := v0) hi, i3]
 have hc : ¬ i < l.length := of_decide_eq_false hc
 rw [List.take_of_length_le (by omega)] at i3
 rw [i3]
 refine ok_bnd _ (SeasonE_ok (by omega) t l) fun r4 h4 => ok_bnd _ (refSeasonE_ok (by omega) (conv t) l) fun s4 g4 => ?_
 rw [back_conv] at g4
 have hlen : r4.1.length ≤ 520 := by
  rcases h4 with ⟨_, q⟩ | ⟨_, ⟨_, q⟩ | ⟨_, ⟨_, q⟩ | ⟨_, q⟩⟩⟩ <;> rw [q] <;> simp
  rw [seaV_length]; omega
 obtain rfl := h4.one g4 fun _ a b => a.one b
 refine ok_brkT (by simp) (ok_brkT (by simp) ?_)
 refine ok_join (by omega) (fun b : Bool => b = true) (fun b hb => ok_brkT hb (ok_bnde (eqBand_eq (by omega) (by omega)) (ok_brkT rfl (ok_bnde (eqVoyage_eq (by omega) (by omega)) (ok_brkT rfl (ok_bnde rfl (ok_some rfl))))))) fun k hk => ?_
 refine ok_brkF (by simp) ?_
 refine ok_loop (fun x : Int => 0 ≤ x ∧ x ≤ r4.1.length) (fun x : Int => r4.1.length - x.toNat) ⟨by simp, by simp⟩ (by simp; omega) ?_
 rintro j next ⟨j1, j2⟩ hn
 refine ok_brk (fun hb => ?_) (fun _ => hk true rfl)
 have hb : j < r4.1.length := of_decide_eq_true hb
 refine ok_chk ⟨j1, hb⟩ (ok_chk ⟨j1, hb⟩ (ok_bnde (b := true) (by unfold law12_FeesBills_1; simp) (ok_brkF rfl (ok_chk (show InR _ from ⟨by omega, by omega⟩) (hn _ ⟨by omega, by omega⟩ (by show r4.1.length - (j + 1).toNat < r4.1.length - j.toNat; omega))))))
set_option maxRecDepth 100000 in
structure Less (v w : Voyage) : Prop where
 cls : v.Class = w.Class
 tonnes : v.Tonnes ≤ w.Tonnes
 tenths : v.Tenths ≤ w.Tenths
 escort : v.Escort ≤ w.Escort
 cut : v.Cut ≤ w.Cut
 tow : v.Tow ≤ w.Tow
structure LinesLe (a b : A5ofInt) : Prop where
 a0 : 0 ≤ a.a0 ∧ a.a0 ≤ b.a0
 a1 : 0 ≤ a.a1 ∧ a.a1 ≤ b.a1
 a2 : 0 ≤ a.a2 ∧ a.a2 ≤ b.a2
 a3 : 0 ≤ a.a3 ∧ a.a3 ≤ b.a3
 a4 : 0 ≤ a.a4 ∧ a.a4 ≤ b.a4
structure DuesB (a1 a2 a3 a4 a5 : Int) : Prop where
 a : 0 ≤ a1 ∧ a1 ≤ 65535
 b : 0 ≤ a2 ∧ a2 ≤ 65535
 c : 0 ≤ a3 ∧ a3 ≤ 255
 d : 0 ≤ a4 ∧ a4 ≤ 255
 e : 0 ≤ a5 ∧ a5 ≤ 4294967295
def tab {α : Type} (n : Nat) (g : Nat → α) : List α := (List.range n).map g
theorem tab_length {α : Type} (n : Nat) (g : Nat → α) : (tab n g).length = n := by simp [tab]
theorem tab_succ {α : Type} (n : Nat) (g : Nat → α) : tab (n + 1) g = tab n g ++ [g n] := by simp [tab, List.range_succ]
theorem tab_get {α : Type} {n i : Nat} {g : Nat → α} {d : α} (h : i < n) : (tab n g).getD i d = g i := by
 rw [getD_get (by rw [tab_length]; exact h)]; simp [tab]
theorem tab_mem {α : Type} {n : Nat} {g : Nat → α} {x : α} (h : x ∈ tab n g) : ∃ i, i < n ∧ x = g i := by
 simp only [tab, List.mem_map, List.mem_range] at h
 obtain ⟨i, h1, h2⟩ := h
 exact ⟨i, h1, h2.symm⟩
theorem tab_ext {α : Type} {n : Nat} {g : Nat → α} {l : List α} (d : α) (h1 : l.length = n) (h : ∀ i, i < n → l.getD i d = g i) : l = tab n g :=
 list_ext d (by rw [h1, tab_length]) fun i hi => by rw [h i (by omega), tab_get (by omega)]
structure StaOK (n m : Nat) (B : Int) (s : State) : Prop where
 nb : 1 ≤ n ∧ n ≤ 10
 mb : 1 ≤ m ∧ m ≤ 6
 dl : s.Deposits.length = n
 ol : s.Owed.length = n
 rl : ∀ i, i < n → (s.Owed.getD i []).length = m
 d : ∀ i, i < n → 0 ≤ s.Deposits.getD i 0 ∧ s.Deposits.getD i 0 ≤ B
 o : ∀ i, i < n → ∀ k, k < m → 0 ≤ (s.Owed.getD i []).getD k 0 ∧ (s.Owed.getD i []).getD k 0 ≤ B
structure SetP (n m : Nat) (s : State) (r : State × List (List Int)) : Prop where
 dl : r.1.Deposits.length = n
 ol : r.1.Owed.length = n
 pl : r.2.length = n
 aw : ∀ i, i < n → AwOK (s.Owed.getD i []) (s.Deposits.getD i 0) (r.2.getD i [])
 d : ∀ i, i < n → r.1.Deposits.getD i 0 = s.Deposits.getD i 0 - sumL (r.2.getD i [])
 o : ∀ i, i < n → (r.1.Owed.getD i []).length = m ∧ ∀ k, k < m → (r.1.Owed.getD i []).getD k 0 = (s.Owed.getD i []).getD k 0 - (r.2.getD i []).getD k 0
theorem AwOK.each {l : List Int} {e : Int} {a : List Int} (h : AwOK l e a) (hl : ∀ c ∈ l, 0 ≤ c) : ∀ k, k < l.length → 0 ≤ a.getD k 0 ∧ a.getD k 0 ≤ l.getD k 0 := by
 obtain ⟨r, hr, rfl⟩ := h
 intro k hk
 have h1 := ((awV_in r.1 l r.2).get hk).cases
 have h2 := hr.n0
 have h3 := hl _ (getD_mem (d := 0) hk)
 omega
structure InOK (n m : Nat) (paid : List Int) (b : List (List Int)) (late : Int) : Prop where
 pl : paid.length = n
 p : ∀ i, i < n → 0 ≤ paid.getD i 0 ∧ paid.getD i 0 ≤ 1000
 bl : b.length = n
 rl : ∀ i, i < n → (b.getD i []).length = m
 b : ∀ i, i < n → ∀ k, k < m → 0 ≤ (b.getD i []).getD k 0 ∧ (b.getD i []).getD k 0 ≤ 300
 l : 0 ≤ late ∧ late ≤ 100
theorem StaOK.mono {n m : Nat} {B C : Int} {s : State} (h : StaOK n m B s) (hB : B ≤ C) : StaOK n m C s :=
 ⟨h.nb, h.mb, h.dl, h.ol, h.rl, fun i hi => ⟨(h.d i hi).1, Int.le_trans (h.d i hi).2 hB⟩, fun i hi k hk => ⟨(h.o i hi k hk).1, Int.le_trans (h.o i hi k hk).2 hB⟩⟩
theorem StaOK.row {n m : Nat} {B : Int} {s : State} (h : StaOK n m B s) {i : Nat} (hi : i < n) : ∀ c ∈ s.Owed.getD i [], 0 ≤ c := fun c hc => by
 obtain ⟨k, hk, rfl⟩ := List.getElem_of_mem hc
 have := h.o i hi k (by have := h.rl i hi; omega)
 rw [getD_get hk] at this
 exact this.1
theorem SetP.done {n m : Nat} {B : Int} {s : State} {r : State × List (List Int)} (h : StaOK n m B s) (hr : SetP n m s r) {i : Nat} (hi : i < n) : r.1.Deposits.getD i 0 = 0 ∨ ∀ k, k < m → (r.1.Owed.getD i []).getD k 0 = 0 := by
 have h1 := hr.aw i hi
 have h2 := h1.sum
 have h3 := hr.d i hi
 have hrl := h.rl i hi
 by_cases q : sumL (s.Owed.getD i []) < s.Deposits.getD i 0
 ·rw [if_pos q] at h2
  right
  have h4 := h1.each (h.row hi)
  have hlen := h1.length
  have key : ∀ (l a : List Int), a.length = l.length → (∀ k, k < l.length → a.getD k 0 ≤ l.getD k 0) → sumL a = sumL l → ∀ k, k < l.length → a.getD k 0 = l.getD k 0 := by
   intro l
   induction l with
   | nil => intro a _ _ _ k hk; simp at hk
   | cons x l ih =>
    intro a ha hle hs k hk
    cases a with
    | nil => simp at ha
    | cons y a =>
     have h0 : y ≤ x := hle 0 (by simp)
     have hr : ∀ k, k < l.length → a.getD k 0 ≤ l.getD k 0 := fun k hk => hle (k + 1) (by simpa using hk)
     have hsum : sumL a ≤ sumL l := by
      have : ∀ (l a : List Int), a.length = l.length → (∀ k, k < l.length → a.getD k 0 ≤ l.getD k 0) → sumL a ≤ sumL l := by
       intro l
       induction l with
       | nil => intro a ha _; cases a with
        | nil => exact Int.le_refl _
        | cons _ _ => simp at ha
       | cons x l ih =>
        intro a ha hle
        cases a with
        | nil => simp at ha
        | cons y a =>
         have h0 : y ≤ x := hle 0 (by simp)
         have := ih a (by simpa using ha) fun k hk => hle (k + 1) (by simpa using hk)
         simp only [sumL]; omega
      exact this l a (by simpa using ha) hr
     simp only [sumL] at hs
     cases k with
     | zero => show y = x; omega
     | succ k => exact ih a (by simpa using ha) hr (by omega) k (by simpa using hk)
  intro k hk
  rw [(hr.o i hi).2 k hk, key _ _ hlen (fun k hk => (h4 k hk).2) h2 k (by omega)]
  omega
 ·rw [if_neg q] at h2
  left
  omega
theorem AwOK.zero {l : List Int} {e : Int} {a : List Int} (h : AwOK l e a) (hl : ∀ c ∈ l, 0 ≤ c) (hz : e = 0 ∨ ∀ k, k < l.length → l.getD k 0 = 0) : ∀ k, k < l.length → a.getD k 0 = 0 := by
 have h1 := h.each hl
 rcases hz with rfl | hz
 ·have h2 := h.sum
  have h3 := sumL_nonneg l hl
  rw [if_neg (by omega)] at h2
  intro k hk
  have h4 : ∀ x ∈ a, 0 ≤ x := fun x hx => by
   obtain ⟨q, hq, rfl⟩ := List.getElem_of_mem hx
   have := h1 q (by rw [← h.length]; exact hq)
   rw [getD_get hq] at this
   exact this.1
  have h5 := mem_le_sumL a h4 _ (getD_mem (d := 0) (show k < a.length by rw [h.length]; exact hk))
  have := (h1 k hk).1
  omega
 ·intro k hk
  have := h1 k hk
  have := hz k hk
  omega
def W (N : List Int) : Nat → Int
 | 0 => 0
 | t + 1 => W N t + 27720 / (abv N t : Int)
theorem abv_between {a x t : Int} (h1 : a ≤ t) (h2 : t < x) : ∀ l : List Int, (∀ c ∈ l, c ≤ a ∨ x ≤ c) → abv l t = abv l a
 | [], _ => rfl
 | c :: l, h => by
  have ih := abv_between h1 h2 l fun d hd => h d (List.mem_cons_of_mem _ hd)
  have hc := h c List.mem_cons_self
  rw [abv_cons, abv_cons, ih]
  by_cases q : a < c
  ·rw [if_pos q, if_pos (by omega)]
  ·rw [if_neg q, if_neg (by omega)]
theorem W_line {N : List Int} {a : Nat} : ∀ {b : Nat}, a ≤ b → (∀ c ∈ N, c ≤ a ∨ (b : Int) ≤ c) → W N b = W N a + ((b : Int) - a) * (27720 / (abv N a : Int)) := by
 have key : ∀ (d : Nat), (∀ c ∈ N, c ≤ (a : Int) ∨ ((a + d : Nat) : Int) ≤ c) → W N (a + d) = W N a + (d : Int) * (27720 / (abv N a : Int)) := by
  intro d
  induction d with
  | zero => intro _; simp
  | succ d ih =>
   intro h
   have h1 := ih fun c hc => by
    rcases h c hc with q | q
    ·exact .inl q
    ·exact .inr (by omega)
   have h2 := abv_between (a := a) (x := ((a + (d + 1) : Nat) : Int)) (t := ((a + d : Nat) : Int)) (by omega) (by omega) N h
   show W N (a + d) + 27720 / (abv N ((a + d : Nat) : Int) : Int) = _
   rw [h1, h2]
   push_cast
   rw [Int.add_mul]
   omega
 intro b hab h
 have := key (b - a) (by rw [show a + (b - a) = b by omega]; exact h)
 rw [show a + (b - a) = b by omega] at this
 rw [this]
 congr 2
 omega
theorem W_mono (N : List Int) : ∀ {a b : Nat}, a ≤ b → W N a ≤ W N b := by
 have key : ∀ (a d : Nat), W N a ≤ W N (a + d) := by
  intro a d
  induction d with
  | zero => exact Int.le_refl _
  | succ d ih =>
   show _ ≤ W N (a + d) + 27720 / (abv N ((a + d : Nat) : Int) : Int)
   have : 0 ≤ (27720 : Int) / (abv N ((a + d : Nat) : Int) : Int) := Int.ediv_nonneg (by omega) (by omega)
   omega
 intro a b h
 have := key a (b - a)
 rwa [show a + (b - a) = b by omega] at this
theorem W_nonneg (N : List Int) (t : Nat) : 0 ≤ W N t := W_mono N (Nat.zero_le t)
theorem W_le (N : List Int) : ∀ t : Nat, W N t ≤ 27720 * t
 | 0 => by simp [W]
 | t + 1 => by
  have ih := W_le N t
  have : (27720 : Int) / (abv N t : Int) ≤ 27720 := Int.ediv_le_self _ (by omega)
  simp only [W]
  push_cast
  omega
def GS (N P : List Int) (T : Nat) : Int := sumL (P.map fun c => W N (min c.toNat T))
theorem GS_succ (N : List Int) (T : Nat) : ∀ P : List Int, (∀ c ∈ P, 0 ≤ c) → GS N P (T + 1) = GS N P T + (abv P T : Int) * (27720 / (abv N T : Int))
 | [], _ => by simp [GS, sumL, abv]
 | c :: P, h => by
  have ih := GS_succ N T P fun d hd => h d (List.mem_cons_of_mem _ hd)
  have hc := h c List.mem_cons_self
  unfold GS at ih ⊢
  simp only [List.map_cons, sumL, ih, abv_cons]
  by_cases q : (T : Int) < c
  ·rw [if_pos q, show min c.toNat (T + 1) = T + 1 by omega, show min c.toNat T = T by omega]
   push_cast
   rw [Int.add_mul]
   simp only [W]
   omega
  ·rw [if_neg q, show min c.toNat (T + 1) = min c.toNat T by omega, Nat.zero_add]
   omega
theorem GS_zero (N : List Int) : ∀ P : List Int, GS N P 0 = 0
 | [] => rfl
 | c :: P => by
  have ih := GS_zero N P
  unfold GS at ih ⊢
  simp only [List.map_cons, sumL, ih]
  rw [Nat.min_zero]; rfl
theorem div12 {k : Nat} (h1 : 1 ≤ k) (h2 : k ≤ 12) : (k : Int) * (27720 / (k : Int)) = 27720 := by
 have : k = 1 ∨ k = 2 ∨ k = 3 ∨ k = 4 ∨ k = 5 ∨ k = 6 ∨ k = 7 ∨ k = 8 ∨ k = 9 ∨ k = 10 ∨ k = 11 ∨ k = 12 := by omega
 rcases this with rfl | rfl | rfl | rfl | rfl | rfl | rfl | rfl | rfl | rfl | rfl | rfl <;> decide
theorem GS_all {N : List Int} (hl : N.length ≤ 12) (h : ∀ c ∈ N, 0 ≤ c) {m : Int} (hm : m ∈ N) : ∀ T : Nat, (T : Int) ≤ m → GS N N T = 27720 * T
 | 0, _ => by
  exact GS_zero N N
 | T + 1, hT => by
  have ih := GS_all hl h hm T (by omega)
  rw [GS_succ N T N h, ih]
  have h1 : 1 ≤ abv N T := List.length_pos_of_mem (List.mem_filter.2 ⟨hm, decide_eq_true (by omega)⟩)
  have h2 := abv_le N T
  rw [div12 h1 (by omega)]
  push_cast
  omega
theorem GS_top {N P : List Int} {T : Nat} (h : ∀ c ∈ P, c ≤ T) : GS N P T = sumL (P.map fun c => W N c.toNat) := by
 unfold GS
 congr 1
 apply List.map_congr_left
 intro c hc
 have := h c hc
 rw [show min c.toNat T = c.toNat by omega]
theorem shares_sum {N : List Int} (hl : N.length ≤ 12) (h : ∀ c ∈ N, 0 ≤ c) {m : Int} (hm : MaxOK N m) : sumL (N.map fun c => W N c.toNat) = 27720 * m := by
 have h0 := h m hm.1
 have h1 := GS_all hl h hm.1 m.toNat (by omega)
 rw [GS_top (fun c hc => by have := hm.2 c hc; omega)] at h1
 rw [h1]; omega
def upto (n : Nat) : List Int := tab n fun i => (i : Int)
theorem upto_length (n : Nat) : (upto n).length = n := tab_length _ _
theorem upto_drop {n i : Nat} (h : i < n) : (upto n).drop i = (i : Int) :: (upto n).drop (i + 1) := by
 rw [drop_get (d := 0) (by rw [upto_length]; exact h)]
 congr 1
 exact tab_get h
theorem upto_mem {n : Nat} {x : Int} : x ∈ upto n ↔ 0 ≤ x ∧ x < n := by
 constructor
 ·intro h
  obtain ⟨i, h1, h2⟩ := tab_mem h
  omega
 ·intro ⟨h1, h2⟩
  simp only [upto, tab, List.mem_map, List.mem_range]
  exact ⟨x.toNat, by omega, by omega⟩
def Lx (key : Int → Int) (a b : Int) : Prop := key a < key b ∨ (key a = key b ∧ a < b)
theorem Lx.trans {key : Int → Int} {a b c : Int} (h : Lx key a b) (h' : Lx key b c) : Lx key a c := by
 unfold Lx at *; omega
theorem Lx.irrefl {key : Int → Int} {a : Int} (h : Lx key a a) : False := by unfold Lx at h; omega
structure Sorted (key : Int → Int) (n : Nat) (l : List Int) : Prop where
 perm : l.Perm (upto n)
 pw : l.Pairwise (Lx key)
def SortI (key : Int → Int) (n i : Nat) (l : List Int) : Prop := ∃ S, l = S ++ (upto n).drop i ∧ Sorted key i S
theorem Sorted.length {key : Int → Int} {n : Nat} {l : List Int} (h : Sorted key n l) : l.length = n := by rw [h.perm.length_eq, upto_length]
theorem Sorted.mem {key : Int → Int} {n : Nat} {l : List Int} (h : Sorted key n l) {x : Int} : x ∈ l ↔ 0 ≤ x ∧ x < n := by rw [h.perm.mem_iff, upto_mem]
def InsI (key : Int → Int) (n i : Nat) (j : Int) (l : List Int) : Prop :=
 ∃ A B : List Int, l = A ++ (i : Int) :: (B ++ (upto n).drop (i + 1)) ∧ (A.length : Int) = j ∧ (A ++ B).Perm (upto i) ∧ (A ++ B).Pairwise (Lx key) ∧ ∀ u ∈ B, Lx key i u
theorem SortI.zero (key : Int → Int) (n : Nat) : SortI key n 0 (upto n) := ⟨[], by simp, ⟨List.Perm.refl _, List.Pairwise.nil⟩⟩
theorem SortI.one (key : Int → Int) {n : Nat} (h : 1 ≤ n) : SortI key n 1 (upto n) := by
 refine ⟨[0], ?_, ⟨List.Perm.refl _, List.pairwise_singleton _ _⟩⟩
 have := upto_drop (n := n) (i := 0) (by omega)
 rw [List.drop_zero] at this
 exact this
theorem SortI.done {key : Int → Int} {n : Nat} {l : List Int} (h : SortI key n n l) : Sorted key n l := by
 obtain ⟨S, rfl, hS⟩ := h
 rw [List.drop_eq_nil_of_le (by rw [upto_length]; exact Nat.le_refl _), List.append_nil]
 exact hS
theorem SortI.start {key : Int → Int} {n i : Nat} {l : List Int} (h : SortI key n i l) (hi : i < n) : InsI key n i i l := by
 obtain ⟨S, rfl, hS⟩ := h
 exact ⟨S, [], by rw [upto_drop hi]; rfl, by rw [hS.length], by rw [List.append_nil]; exact hS.perm, by rw [List.append_nil]; exact hS.pw, fun _ h => nomatch h⟩
theorem upto_succ (i : Nat) : upto (i + 1) = upto i ++ [(i : Int)] := tab_succ _ _
theorem InsI.facts {key : Int → Int} {n i : Nat} {j : Int} {l : List Int} (h : InsI key n i j l) (hi : i < n) : l.length = n ∧ 0 ≤ j ∧ j ≤ i ∧ l.getD j.toNat 0 = i ∧ (0 < j → 0 ≤ l.getD (j - 1).toNat 0 ∧ l.getD (j - 1).toNat 0 < i) := by
 obtain ⟨A, B, rfl, hA, hp, _, _⟩ := h
 have hl := hp.length_eq
 rw [List.length_append, upto_length] at hl
 refine ⟨?_, by omega, by omega, ?_, fun h0 => ?_⟩
 ·simp only [List.length_append, List.length_cons, List.length_drop, upto_length]; omega
 ·have : j.toNat = A.length := by omega
  rw [this]
  simp [List.getD_eq_getElem?_getD]
 ·have hlt : (j - 1).toNat < A.length := by omega
  rw [getD_append_left' hlt]
  have hm : A.getD (j - 1).toNat 0 ∈ A ++ B := List.mem_append_left _ (getD_mem hlt)
  have := upto_mem.1 (hp.mem_iff.1 hm)
  omega
theorem InsI.swap {key : Int → Int} {n i : Nat} {j : Int} {l : List Int} (h : InsI key n i j l) (hj : 0 < j) (hk : key (l.getD j.toNat 0) < key (l.getD (j - 1).toNat 0)) :
  InsI key n i (j - 1) ((l.set j.toNat (l.getD (j - 1).toNat 0)).set (j - 1).toNat (l.getD j.toNat 0)) := by
 obtain ⟨A, B, rfl, hA, hp, hw, hB⟩ := h
 have hne : A ≠ [] := fun e => by rw [e] at hA; simp at hA; omega
 obtain ⟨A', u, rfl⟩ : ∃ A' u, A = A' ++ [u] := ⟨A.dropLast, A.getLast hne, (List.dropLast_concat_getLast hne).symm⟩
 have hA' : (A'.length : Int) = j - 1 := by simp at hA; omega
 have e1 : j.toNat = (A' ++ [u]).length := by omega
 have e2 : (j - 1).toNat = A'.length := by omega
 have g1 : ((A' ++ [u]) ++ (i : Int) :: (B ++ (upto n).drop (i + 1))).getD j.toNat 0 = i := by rw [e1]; simp [List.getD_eq_getElem?_getD]
 have g2 : ((A' ++ [u]) ++ (i : Int) :: (B ++ (upto n).drop (i + 1))).getD (j - 1).toNat 0 = u := by
  rw [getD_append_left' (by rw [e2]; simp), e2]; simp [List.getD_eq_getElem?_getD]
 rw [g1, g2] at hk ⊢
 refine ⟨A', u :: B, ?_, hA', ?_, ?_, ?_⟩
 ·rw [List.set_append_right _ _ (by omega), e1, Nat.sub_self, List.set_cons_zero, List.set_append_left _ _ (by rw [e2]; simp), e2]
  simp
 ·have : (A' ++ u :: B) = (A' ++ [u]) ++ B := by simp
  rw [this]; exact hp
 ·have : (A' ++ u :: B) = (A' ++ [u]) ++ B := by simp
  rw [this]; exact hw
 ·intro x hx
  rcases List.mem_cons.1 hx with rfl | hx
  ·exact .inl hk
  ·exact hB x hx
theorem InsI.stop {key : Int → Int} {n i : Nat} {j : Int} {l : List Int} (h : InsI key n i j l) (hk : j = 0 ∨ key (l.getD (j - 1).toNat 0) ≤ key i) : SortI key n (i + 1) l := by
 obtain ⟨A, B, rfl, hA, hp, hw, hB⟩ := h
 refine ⟨A ++ (i : Int) :: B, by simp, ⟨?_, ?_⟩⟩
 ·rw [upto_succ]
  exact (List.perm_middle.trans (List.Perm.cons _ hp)).trans (List.perm_append_singleton _ _).symm
 ·rw [List.pairwise_append] at hw ⊢
  obtain ⟨w1, w2, w3⟩ := hw
  have hAi : ∀ a ∈ A, Lx key a i := by
   rcases hk with rfl | hk
   ·intro a ha
    have : A = [] := List.eq_nil_of_length_eq_zero (by omega)
    rw [this] at ha; cases ha
   ·by_cases hne : A = []
    ·intro a ha; rw [hne] at ha; cases ha
    obtain ⟨A', u, rfl⟩ : ∃ A' u, A = A' ++ [u] := ⟨A.dropLast, A.getLast hne, (List.dropLast_concat_getLast hne).symm⟩
    have e2 : (j - 1).toNat = A'.length := by simp at hA; omega
    have g2 : ((A' ++ [u]) ++ (i : Int) :: (B ++ (upto n).drop (i + 1))).getD (j - 1).toNat 0 = u := by
     rw [getD_append_left' (by rw [e2]; simp), e2]; simp [List.getD_eq_getElem?_getD]
    rw [g2] at hk
    have hu : Lx key u i := by
     have hm : u ∈ (A' ++ [u]) ++ B := by simp
     have := upto_mem.1 (hp.mem_iff.1 hm)
     rcases Int.lt_or_le (key u) (key i) with q | q
     ·exact .inl q
     ·exact .inr ⟨by omega, this.2⟩
    rw [List.pairwise_append] at w1
    intro a ha
    rcases List.mem_append.1 ha with ha | ha
    ·exact (w1.2.2 a ha u (by simp)).trans hu
    ·rw [List.mem_singleton.1 ha]; exact hu
  refine ⟨w1, List.Pairwise.cons hB w2, fun a ha b hb => ?_⟩
  rcases List.mem_cons.1 hb with rfl | hb
  ·exact hAi a ha
  ·exact w3 a ha b hb
theorem Sorted.one {key : Int → Int} {n : Nat} {l r : List Int} (h : Sorted key n l) (h' : Sorted key n r) : l = r :=
 List.Perm.eq_of_pairwise (le := Lx key) (fun _ _ _ _ h1 h2 => absurd (h1.trans h2) fun q => q.irrefl) h.pw h'.pw (h.perm.trans h'.perm.symm)
abbrev NeedsB (N : List Int) : Prop := ∀ c ∈ N, 0 ≤ c ∧ c ≤ 1000000000
def shV (N : List Int) : List Int := N.map fun c => W N c.toNat
theorem NeedsB.get {N : List Int} (h : NeedsB N) (i : Nat) : 0 ≤ N.getD i 0 ∧ N.getD i 0 ≤ 1000000000 := by
 by_cases hi : i < N.length
 ·exact h _ (getD_mem hi)
 ·simp [List.getD_eq_getElem?_getD, List.getElem?_eq_none (Nat.le_of_not_lt hi)]
theorem abv_perm {N l : List Int} {n : Nat} (hn : N.length = n) (hp : l.Perm (upto n)) (t : Int) : abv N t = (l.filter fun u => decide (t < N.getD u.toNat 0)).length := by
 have h1 : N = (upto n).map fun u => N.getD u.toNat 0 := by
  apply list_ext 0 (by simp [upto_length, hn])
  intro i hi
  rw [getD_get (l := (upto n).map _) (by simp [upto_length]; omega), List.getElem_map]
  have : (upto n)[i]'(by rw [upto_length]; omega) = (i : Int) := by
   have := tab_get (n := n) (i := i) (g := fun i => (i : Int)) (d := 0) (by omega)
   rw [getD_get (by rw [tab_length]; omega)] at this
   exact this
  rw [this]; simp
 have h2 := (hp.filter fun u => decide (t < N.getD u.toNat 0)).length_eq
 rw [h2]
 unfold abv
 rw [h1, List.filter_map, List.length_map]
 congr 1
 apply List.filter_congr
 intro u hu
 simp only [Function.comp]
 rw [← h1]
set_option maxHeartbeats 1000000 in
theorem exact_ok {F : Nat} (hF : 2000000000000 < F) {N : List Int} (h1 : 1 ≤ N.length) (h2 : N.length ≤ 12) (h : NeedsB N) : fees_exact F N = some (shV N) := by
 refine Ok.eq ?_
 unfold fees_exact
 obtain ⟨n, hn⟩ : ∃ n, N.length = n := ⟨_, rfl⟩
 have hrl : (List.replicate ((N.length : Int)).toNat (0 : Int)).length = n := by simp [hn]
 rw [hrl, hn]
 refine ok_chk ⟨by omega, by omega, by omega⟩ (ok_chk ⟨by omega, by omega, by omega⟩ ?_)
 refine ok_loop (fun x : Int × List Int => 0 ≤ x.1 ∧ x.1 ≤ n ∧ x.2.length = n ∧ ∀ q : Nat, (q : Int) < x.1 → x.2.getD q 0 = q) (fun x => n - x.1.toNat)
  ⟨by simp, by show (0 : Int) ≤ n; omega, by simp, fun q hq => by (have hq : (q : Int) < 0 := hq); omega⟩ (by simp; omega) ?_
 rintro ⟨i, o⟩ next ⟨i1, i2, i3, i4⟩ hnx
 simp only at i1 i2 i3 i4
 dsimp only
 refine ok_brk (fun hc => ?_) (fun hc => ?_)
 ·have hc : i < n := of_decide_eq_true hc
  refine ok_chk ⟨i1, by omega⟩ (ok_chk (show InR _ from ⟨by omega, by omega⟩) (hnx _ ⟨by show 0 ≤ i + 1; omega, by show i + 1 ≤ n; omega, by show (o.set _ _).length = n; rw [List.length_set]; exact i3, fun q hq => ?_⟩ (by show n - (i + 1).toNat < n - i.toNat; omega)))
  have hq : (q : Int) < i + 1 := hq
  show (o.set i.toNat i).getD q 0 = q
  rw [getD_set' (by omega)]
  by_cases e : i.toNat = q
  ·rw [if_pos e]; omega
  ·rw [if_neg e]; exact i4 q (by omega)
 have hc : ¬ i < n := of_decide_eq_false hc
 have ho : o = upto n := tab_ext 0 i3 fun q hq => i4 q (by omega)
 clear hnx
 rw [ho, upto_length]
 refine ok_loop (fun x : Int × Int => x = (20, 0)) (fun _ => 0) rfl (by omega) ?_
 rintro _ next rfl hnx
 clear hnx next
 refine ok_brkF (decide_eq_false (by show ¬ (20 : Int) ≤ n; omega)) (ok_chk (show InR (0 + 1) from ⟨by omega, by omega⟩) ?_)
 refine ok_loop (fun x : Int × List Int => 1 ≤ x.1 ∧ x.1 ≤ n ∧ SortI (fun u => N.getD u.toNat 0) n x.1.toNat x.2) (fun x => n - x.1.toNat)
  ⟨by simp, by show (0 : Int) + 1 ≤ n; omega, SortI.one _ (by omega)⟩ (by simp; omega) ?_
 rintro ⟨i, l⟩ next ⟨i1, i2, i3⟩ hnx
 simp only at i1 i2 i3
 dsimp only
 refine ok_brk (fun hc => ?_) (fun hc => ?_)
 ·have hc : i < n := of_decide_eq_true hc
  have hi : i.toNat < n := by omega
  have hst := i3.start hi
  refine ok_loop (fun x : Int × List Int => InsI (fun u => N.getD u.toNat 0) n i.toNat x.1 x.2) (fun x => x.1.toNat)
   (by rw [show ((i.toNat : Nat) : Int) = i by omega] at hst; exact hst) (by show i.toNat < F; omega) ?_
  rintro ⟨j, l⟩ next2 hI hn2
  simp only at hI
  dsimp only
  obtain ⟨f1, f2, f3, f4, f5⟩ := hI.facts hi
  have go : SortI (fun u => N.getD u.toNat 0) n (i.toNat + 1) l → Ok (fun x => x = shV N) (chk (InR (i + 1)) (next (i + 1, l))) := fun q =>
   ok_chk (show InR _ from ⟨by omega, by omega⟩) (hnx _ ⟨by show 1 ≤ i + 1; omega, by show i + 1 ≤ n; omega, by show SortI _ n (i + 1).toNat l; rw [show (i + 1).toNat = i.toNat + 1 by omega]; exact q⟩ (by show n - (i + 1).toNat < n - i.toNat; omega))
  refine ok_brk (fun hb => ?_) (fun hb => ?_)
  ·have hb : j > 0 := of_decide_eq_true hb
   have g := f5 hb
   have hv : 0 ≤ l.getD j.toNat 0 ∧ l.getD j.toNat 0 < n := by rw [f4]; omega
   have kv := h.get (l.getD j.toNat 0).toNat
   have ku := h.get (l.getD (j - 1).toNat 0).toNat
   refine ok_chk ⟨f2, by omega⟩ (ok_chk (show InR _ from ⟨by omega, by omega⟩) (ok_chk ⟨by omega, by omega⟩ (ok_chk hv (ok_chk ⟨g.1, by omega⟩ (ok_chk (show InR _ from ⟨by omega, by omega⟩) (ok_brk (fun hd => ?_) (fun hd => ?_)))))))
   ·have hd := of_decide_eq_true hd
    refine ok_chk (show InR _ from ⟨by omega, by omega⟩) (ok_chk (show InR _ from ⟨by omega, by omega⟩) (ok_chk ⟨by omega, by omega⟩ (ok_chk ⟨by omega, by omega⟩ (ok_chk ⟨by omega, by omega⟩ (ok_chk ⟨by omega, by rw [List.length_set]; omega⟩ (ok_chk (show InR _ from ⟨by omega, by omega⟩) (hn2 _ (hI.swap hb (by show N.getD _ 0 < N.getD _ 0; omega)) (by show (j - 1).toNat < j.toNat; omega))))))))
   ·have hd := of_decide_eq_false hd
    refine go (hI.stop (.inr ?_))
    show N.getD (l.getD (j - 1).toNat 0).toNat 0 ≤ N.getD ((i.toNat : Nat) : Int).toNat 0
    rw [← f4]; omega
  ·have hb : ¬ j > 0 := of_decide_eq_false hb
   exact go (hI.stop (.inl (by omega)))
 have hc : ¬ i < n := of_decide_eq_false hc
 have hs : Sorted (fun u => N.getD u.toNat 0) n l := SortI.done (by rw [show i.toNat = n by omega] at i3; exact i3)
 clear hnx i3
 refine ok_loop (fun x : Int => x = 20) (fun _ => 0) rfl (by omega) ?_
 rintro _ next rfl hnx
 clear hnx next
 refine ok_brkF (decide_eq_false (by omega)) ?_
 have hll := hs.length
 have hlm : ∀ k : Nat, k < n → 0 ≤ l.getD k 0 ∧ l.getD k 0 < n := fun k hk => hs.mem.1 (getD_mem (by omega))
 rw [hll]
 refine ok_loop (fun x : Int × Int × List Int => 0 ≤ x.2.1 ∧ x.2.1 ≤ n ∧ 0 ≤ x.1 ∧ x.1 ≤ 1000000000 ∧ (∀ u ∈ l.take x.2.1.toNat, N.getD u.toNat 0 ≤ x.1) ∧ (∀ u ∈ l.drop x.2.1.toNat, x.1 ≤ N.getD u.toNat 0) ∧ x.2.2.length = n ∧ ∀ q : Nat, q < n → x.2.2.getD q 0 = W N (min (N.getD q 0) x.1).toNat) (fun x => n - x.2.1.toNat)
  ⟨by simp, by show (0 : Int) ≤ n; omega, by simp, by simp, fun u hu => by simp at hu, fun u _ => (h.get _).1, by simp, fun q hq => by
   show (List.replicate ((n : Nat) : Int).toNat (0 : Int)).getD q 0 = W N (min (N.getD q 0) 0).toNat
   have := (h.get q).1
   rw [show (min (N.getD q 0) 0).toNat = 0 by omega]
   rw [getD_get (by simp; omega)]; simp [W]⟩ (by simp; omega) ?_
 rintro ⟨bf, k, out⟩ next ⟨k1, k2, k3, k4, k5, k6, k7, k8⟩ hnx
 simp only at k1 k2 k3 k4 k5 k6 k7 k8
 dsimp only
 refine ok_brk (fun hb => ?_) (fun hb => ok_some ?_)
 ·have hb : k < n := of_decide_eq_true hb
  have hk : k.toNat < n := by omega
  have hu := hlm k.toNat hk
  have hdr := drop_get (d := 0) (show k.toNat < l.length by omega)
  have hub := h.get (l.getD k.toNat 0).toNat
  have hle := k6 (l.getD k.toNat 0) (by rw [hdr]; exact List.mem_cons_self)
  have hmin : ∀ u ∈ l.drop k.toNat, N.getD (l.getD k.toNat 0).toNat 0 ≤ N.getD u.toNat 0 := fun u hu => by
   have hp := (List.pairwise_append.1 (by rw [List.take_append_drop]; exact hs.pw : (l.take k.toNat ++ l.drop k.toNat).Pairwise _)).2.1
   rw [hdr] at hp hu
   rcases List.mem_cons.1 hu with rfl | hu
   ·exact Int.le_refl _
   ·have := (List.pairwise_cons.1 hp).1 u hu
    unfold Lx at this
    dsimp only at this
    omega
  have hW : W N (N.getD (l.getD k.toNat 0).toNat 0).toNat = W N bf.toNat + (N.getD (l.getD k.toNat 0).toNat 0 - bf) * (27720 / ((n : Int) - k)) := by
   by_cases e : bf < N.getD (l.getD k.toNat 0).toNat 0
   ·have hbt : ∀ c ∈ N, c ≤ ((bf.toNat : Nat) : Int) ∨ (((N.getD (l.getD k.toNat 0).toNat 0).toNat : Nat) : Int) ≤ c := fun c hc => by
     obtain ⟨q, hq, rfl⟩ := List.getElem_of_mem hc
     have hm : ((q : Nat) : Int) ∈ l := hs.mem.2 ⟨by omega, by omega⟩
     rw [← List.take_append_drop k.toNat l] at hm
     have hg : N.getD ((q : Nat) : Int).toNat 0 = N[q] := by rw [Int.toNat_natCast, getD_get hq]
     rcases List.mem_append.1 hm with hm | hm
     ·have := k5 _ hm; rw [hg] at this; exact .inl (by omega)
     ·have := hmin _ hm; rw [hg] at this; exact .inr (by omega)
    have hcnt : (abv N ((bf.toNat : Nat) : Int) : Int) = (n : Int) - k := by
     rw [abv_perm hn hs.perm, show l = l.take k.toNat ++ l.drop k.toNat from (List.take_append_drop _ _).symm, List.filter_append, List.length_append]
     have e1 : ((l.take k.toNat).filter fun u => decide (((bf.toNat : Nat) : Int) < N.getD u.toNat 0)) = [] := by
      rw [List.filter_eq_nil_iff]
      intro u hu
      have := k5 u hu
      simp only [decide_eq_true_eq]; omega
     have e2 : ((l.drop k.toNat).filter fun u => decide (((bf.toNat : Nat) : Int) < N.getD u.toNat 0)) = l.drop k.toNat := by
      rw [List.filter_eq_self]
      intro u hu
      have := hmin u hu
      exact decide_eq_true (by omega)
     rw [e1, e2, List.length_drop, hll]
     simp; omega
    have := W_line (N := N) (a := bf.toNat) (b := (N.getD (l.getD k.toNat 0).toNat 0).toNat) (by omega) hbt
    rw [this, hcnt]
    congr 2; omega
   ·have : N.getD (l.getD k.toNat 0).toNat 0 = bf := by omega
    rw [this, Int.sub_self, Int.zero_mul, Int.add_zero]
  have hWb1 := W_le N bf.toNat
  have hWb2 := W_nonneg N bf.toNat
  have hWb3 := W_le N (N.getD (l.getD k.toNat 0).toNat 0).toNat
  have hWb4 := W_mono N (show bf.toNat ≤ (N.getD (l.getD k.toNat 0).toNat 0).toNat by omega)
  generalize hV : N.getD (l.getD k.toNat 0).toNat 0 = V at hub hle hmin hW hWb3 hWb4 ⊢
  generalize hadd : (V - bf) * (27720 / ((n : Int) - k)) = add at hW ⊢
  refine ok_chk ⟨k1, by omega⟩ (ok_chk ⟨hu.1, hu.2⟩ (ok_chk (show InR _ from ⟨by omega, by omega⟩) (ok_chk ⟨k1, by omega, by omega⟩ ?_)))
  refine ok_loop (fun x : Int × List Int => 0 ≤ x.1 ∧ x.1 ≤ n - k ∧ x.2.length = n ∧ ∀ q : Nat, q < n → x.2.getD q 0 = out.getD q 0 + if (q : Int) ∈ (l.drop k.toNat).take x.1.toNat then add else 0) (fun x => n - x.1.toNat)
   ⟨by simp, by show (0 : Int) ≤ n - k; omega, k7, fun q _ => by simp⟩ (by simp; omega) ?_
  rintro ⟨j, ot⟩ next2 ⟨j1, j2, j3, j4⟩ hn2
  simp only at j1 j2 j3 j4
  dsimp only
  refine ok_brk (fun hd => ?_) (fun hd => ?_)
  ·have hd : j < (n : Int) - k := of_decide_eq_true hd
   have hkj : (k + j).toNat < n := by omega
   have hv := hlm (k + j).toNat hkj
   have hmem : l.getD (k + j).toNat 0 ∈ l.drop k.toNat := by
    rw [getD_get (by omega)]
    refine List.mem_drop_iff_getElem.2 ⟨j.toNat, by omega, ?_⟩
    congr 1; omega
   have htk : (l.drop k.toNat).take (j + 1).toNat = (l.drop k.toNat).take j.toNat ++ [l.getD (k + j).toNat 0] := by
    rw [show (j + 1).toNat = j.toNat + 1 by omega, take_succ' (d := 0) (by rw [List.length_drop]; omega)]
    congr 2
    rw [getD_get (by rw [List.length_drop]; omega), getD_get (by omega), List.getElem_drop]
    congr 1; omega
   have hnew : ¬ l.getD (k + j).toNat 0 ∈ (l.drop k.toNat).take j.toNat := fun hq => by
    have hp : ((l.drop k.toNat).take (j + 1).toNat).Pairwise (Lx fun u => N.getD u.toNat 0) := (hs.pw.sublist (List.drop_sublist _ _)).sublist (List.take_sublist _ _)
    rw [htk, List.pairwise_append] at hp
    exact (hp.2.2 _ hq _ (by simp)).irrefl
   have hq := j4 (l.getD (k + j).toNat 0).toNat (by omega)
   have hqe : (((l.getD (k + j).toNat 0).toNat : Nat) : Int) = l.getD (k + j).toNat 0 := by omega
   rw [hqe, if_neg hnew, k8 _ (by omega)] at hq
   have hmn : (min (N.getD (l.getD (k + j).toNat 0).toNat 0) bf).toNat = bf.toNat := by
    have := hmin _ hmem
    omega
   rw [hmn] at hq
   generalize l.getD (k + j).toNat 0 = u at hv hmem htk hnew hq hqe hmn ⊢
   have hdiv : 0 < (n : Int) - k := by omega
   refine ok_chk ⟨j1, hd⟩ (ok_chk ⟨hv.1, by omega⟩ (ok_chk ⟨⟨by omega, by omega⟩, hdiv⟩ ?_))
   refine ok_chk (show InR _ from ⟨by omega, by omega⟩) (ok_chk (show InR _ from ⟨by omega, by omega⟩) (ok_chk ⟨hv.1, by omega⟩ (ok_chk (show InR _ from ⟨by omega, by omega⟩) (hn2 _ ⟨by show 0 ≤ j + 1; omega, by show j + 1 ≤ n - k; omega, by show (ot.set _ _).length = n; rw [List.length_set]; exact j3, fun q hqn => ?_⟩ (by show n - (j + 1).toNat < n - j.toNat; omega)))))
   show (ot.set u.toNat (ot.getD u.toNat 0 + add)).getD q 0 = out.getD q 0 + if (q : Int) ∈ (l.drop k.toNat).take (j + 1).toNat then add else 0
   rw [getD_set' (by omega), htk]
   by_cases e : u.toNat = q
   ·rw [if_pos e, if_pos (by rw [← e, hqe]; simp), ← e, j4 u.toNat (by omega), hqe, if_neg hnew, Int.add_zero]
   ·rw [if_neg e, j4 q hqn]
    congr 1
    by_cases e2 : (q : Int) ∈ (l.drop k.toNat).take j.toNat
    ·rw [if_pos e2, if_pos (List.mem_append_left _ e2)]
    ·rw [if_neg e2, if_neg (fun q3 => by
      rcases List.mem_append.1 q3 with q4 | q4
      ·exact e2 q4
      ·have := List.mem_singleton.1 q4
       omega)]
  ·have hd : ¬ j < (n : Int) - k := of_decide_eq_false hd
   rw [List.take_of_length_le (by rw [List.length_drop]; omega)] at j4
   refine ok_chk ⟨hu.1, hu.2⟩ (ok_chk (show InR _ from ⟨by omega, by omega⟩) (hnx _ ⟨by show 0 ≤ k + 1; omega, by show k + 1 ≤ n; omega, by show 0 ≤ V; omega, by show V ≤ _; omega, fun u hu2 => ?_, fun u hu2 => ?_, j3, fun q hqn => ?_⟩ (by show n - (k + 1).toNat < n - k.toNat; omega)))
   ·show N.getD u.toNat 0 ≤ V
    have hu2 : u ∈ l.take (k + 1).toNat := hu2
    rw [show (k + 1).toNat = k.toNat + 1 by omega, take_succ' (d := 0) (by omega)] at hu2
    rcases List.mem_append.1 hu2 with q | q
    ·have := k5 u q; omega
    ·rw [List.mem_singleton.1 q, hV]; omega
   ·show V ≤ N.getD u.toNat 0
    have hu2 : u ∈ l.drop (k + 1).toNat := hu2
    refine hmin u ?_
    rw [hdr]
    rw [show (k + 1).toNat = k.toNat + 1 by omega] at hu2
    exact List.mem_cons_of_mem _ hu2
   ·show ot.getD q 0 = W N (min (N.getD q 0) V).toNat
    have hm : ((q : Nat) : Int) ∈ l := hs.mem.2 ⟨by omega, by omega⟩
    rw [j4 q hqn, k8 q hqn]
    by_cases e : (q : Int) ∈ l.drop k.toNat
    ·have h5 := hmin _ e
     have h6 := k6 _ e
     rw [Int.toNat_natCast] at h5 h6
     rw [if_pos e, show min (N.getD q 0) bf = bf by omega, show min (N.getD q 0) V = V by omega, hW]
    ·rw [if_neg e, Int.add_zero]
     rw [← List.take_append_drop k.toNat l] at hm
     rcases List.mem_append.1 hm with hm | hm
     ·have := k5 _ hm
      rw [Int.toNat_natCast] at this
      rw [show min (N.getD q 0) bf = N.getD q 0 by omega, show min (N.getD q 0) V = N.getD q 0 by omega]
     ·exact absurd hm e
 ·have hb : ¬ k < n := of_decide_eq_false hb
  apply list_ext 0 (by rw [k7]; simp [shV, hn])
  intro q hq
  have hqn : q < n := by omega
  rw [k8 q hqn]
  have hm : ((q : Nat) : Int) ∈ l := hs.mem.2 ⟨by omega, by omega⟩
  have := k5 _ (by rw [List.take_of_length_le (by omega)]; exact hm)
  rw [Int.toNat_natCast] at this
  rw [show min (N.getD q 0) bf = N.getD q 0 by omega]
  unfold shV
  rw [getD_get (l := N.map _) (by simp; omega), List.getElem_map, getD_get (by omega)]
open Classical in
noncomputable def askedV (N : List Int) : Int := if 1 ≤ N.length ∧ N.length ≤ 12 then (if NeedsB N then 0 else 6) else 2
theorem askedV_zero {N : List Int} (h : askedV N = 0) : 1 ≤ N.length ∧ N.length ≤ 12 ∧ NeedsB N := by
 unfold askedV at h
 split at h
 ·split at h
  ·rename_i h1 h2; exact ⟨h1.1, h1.2, h2⟩
  ·omega
 ·omega
theorem asked1_eq (F : Nat) (c : Int) : fees_asked_1 F c = some (!decide (0 ≤ c ∧ c ≤ 1000000000)) := by
 show some (!(decide (c ≥ 0) && decide (c ≤ 1000000000))) = _
 rw [wb]
theorem asked_eq {F : Nat} (hF : 100 < F) (N : List Int) : fees_asked F N = some (askedV N) := by
 refine Ok.eq ?_
 unfold fees_asked askedV
 rw [within_eq, wb]
 refine ok_bnde rfl (ok_brk (fun hb => ok_some ?_) (fun hb => ?_))
 ·rw [if_neg (by have := nd_true hb; omega)]
 have hl := nd_false hb
 rw [if_pos (by omega)]
 refine ok_join (by omega) (fun x : Int => (x = -1 ∧ NeedsB N) ∨ (0 ≤ x ∧ ¬ NeedsB N)) (fun x hx => ok_brk (fun hb => ok_some ?_) (fun hb => ok_some ?_)) fun k hk => ?_
 ·have hb : x ≥ 0 := of_decide_eq_true hb
  rcases hx with ⟨rfl, _⟩ | ⟨_, q⟩
  ·omega
  ·rw [if_neg q]
 ·have hb : ¬ x ≥ 0 := of_decide_eq_false hb
  rcases hx with ⟨_, q⟩ | ⟨q, _⟩
  ·rw [if_pos q]
  ·omega
 ·refine ok_find (p := fun c => !decide (0 ≤ c ∧ c ≤ 1000000000)) (by omega) (by omega) (fun c _ => asked1_eq F c) (fun i hi hp => hk _ (.inr ⟨by omega, fun q => nd_true hp (q _ (getD_mem hi))⟩)) (fun hp => hk _ (.inl ⟨rfl, fun c hc => nd_false (hp c hc)⟩))
theorem needed_eq {F : Nat} (hF : 100 < F) (N : List Int) : ref12_needed F N = some (askedV N) := by
 refine Ok.eq ?_
 unfold ref12_needed askedV
 refine ok_brk (fun hb => ok_some ?_) (fun hb => ?_)
 ·simp only [Bool.or_eq_true, decide_eq_true_eq] at hb
  rw [if_neg (by omega)]
 simp only [Bool.or_eq_false_iff, decide_eq_false_iff_not] at hb
 rw [if_pos (by omega)]
 refine ok_loop (fun x : Int => 0 ≤ x ∧ x ≤ N.length ∧ ∀ j : Nat, (j : Int) < x → 0 ≤ N.getD j 0 ∧ N.getD j 0 ≤ 1000000000) (fun x : Int => N.length - x.toNat) ⟨by simp, by simp, fun j hj => by omega⟩ (by simp; omega) ?_
 rintro i next ⟨i1, i2, i3⟩ hn
 refine ok_brk (fun hc => ?_) (fun hc => ok_some ?_)
 ·have hc : i < N.length := of_decide_eq_true hc
  rw [refIn_eq, wb]
  refine ok_chk ⟨i1, hc⟩ (ok_bnde rfl (ok_brk (fun hb => ok_some ?_) (fun hb => ok_chk (show InR _ from ⟨by omega, by omega⟩) (hn _ ⟨by omega, by omega, fun j hj => ?_⟩ (by show N.length - (i + 1).toNat < N.length - i.toNat; omega)))))
  ·rw [if_neg]
   intro q
   exact nd_true hb (q _ (getD_mem (d := 0) (show i.toNat < N.length by omega)))
  ·by_cases e : (j : Int) < i
   ·exact i3 j e
   ·obtain rfl : j = i.toNat := by omega
    exact nd_false hb
 ·have hc : ¬ i < N.length := of_decide_eq_false hc
  rw [if_pos]
  intro c hc
  obtain ⟨j, hj, rfl⟩ := List.getElem_of_mem hc
  have := i3 j (by omega)
  rwa [getD_get hj] at this
theorem refShare_eq {F : Nat} (hF : 100 < F) {N : List Int} (h2 : N.length ≤ 12) (h : NeedsB N) {s : Int} (hs : 0 ≤ s ∧ s < N.length) : ref12_share F N s = some (W N (N.getD s.toNat 0).toNat) := by
 refine Ok.eq ?_
 unfold ref12_share
 have hns := h.get s.toNat
 refine ok_loop (fun x : Int × Int => 0 ≤ x.1 ∧ x.1 ≤ N.getD s.toNat 0 ∧ x.2 = W N x.1.toNat ∧ (x.1 = 0 ∨ x.1 ∈ N)) (fun x => abv N x.1) ⟨by simp, hns.1, rfl, .inl rfl⟩ (by have := abv_le N 0; show abv N 0 < F; omega) ?_
 rintro ⟨a, o⟩ next ⟨i1, i2, i3, i4⟩ hnext
 simp only at i1 i2 i3 i4
 dsimp only
 refine ok_chk hs (ok_brk (fun ha => ?_) (fun ha => ok_some ?_))
 ·have ha : a < N.getD s.toNat 0 := of_decide_eq_true ha
  refine ok_loop (fun x : Int × Int × Int => 0 ≤ x.2.1 ∧ x.2.1 ≤ N.length ∧ x.1 = (abv (N.take x.2.1.toNat) a : Int) ∧ ((x.2.2 = -1 ∧ x.1 = 0) ∨ (1 ≤ x.1 ∧ x.2.2 ∈ N ∧ a < x.2.2 ∧ ∀ j : Nat, (j : Int) < x.2.1 → a < N.getD j 0 → x.2.2 ≤ N.getD j 0))) (fun x : Int × Int × Int => N.length - x.2.1.toNat)
   ⟨by simp, by simp, rfl, .inl ⟨rfl, rfl⟩⟩ (by simp; omega) ?_
  rintro ⟨ab, i, nx⟩ next2 ⟨j1, j2, j3, j4⟩ hn
  simp only at j1 j2 j3 j4
  dsimp only
  have hab : ab ≤ 12 := by
   have := abv_le (N.take i.toNat) a
   have := List.length_take_le i.toNat N
   omega
  refine ok_brk (fun hc => ?_) (fun hc => ?_)
  ·have hc : i < N.length := of_decide_eq_true hc
   have hi : i.toNat < N.length := by omega
   have hst : abv (N.take (i + 1).toNat) a = abv (N.take i.toNat) a + (if a < N.getD i.toNat 0 then 1 else 0) := by
    rw [show (i + 1).toNat = i.toNat + 1 by omega, take_succ' (d := 0) hi]
    unfold abv
    rw [List.filter_append, List.length_append]
    congr 1
    by_cases q : a < N.getD i.toNat 0
    ·rw [if_pos q, List.filter_cons, if_pos (decide_eq_true q)]; rfl
    ·rw [if_neg q, List.filter_cons, if_neg (by simpa using q)]; rfl
   refine ok_join (by omega) (fun x : Int × Int => x.1 = (abv (N.take (i + 1).toNat) a : Int) ∧ ((x.2 = -1 ∧ x.1 = 0) ∨ (1 ≤ x.1 ∧ x.2 ∈ N ∧ a < x.2 ∧ ∀ j : Nat, (j : Int) < i + 1 → a < N.getD j 0 → x.2 ≤ N.getD j 0))) (fun x hx => ok_chk (show InR (i + 1) from ⟨by omega, by omega⟩) (hn _ ⟨by show 0 ≤ i + 1; omega, by show i + 1 ≤ _; omega, hx⟩ (by show N.length - (i + 1).toNat < N.length - i.toNat; omega))) fun k hk => ?_
   refine ok_chk ⟨j1, hc⟩ (ok_brk (fun hb => ?_) (fun hb => hk _ ⟨?_, ?_⟩))
   ·have hb : a < N.getD i.toNat 0 := of_decide_eq_true hb
    rw [if_pos hb] at hst
    refine ok_chk (show InR (ab + 1) from ⟨by omega, by omega⟩) (ok_chk (fun _ => ⟨j1, hc⟩) (ok_brk (fun hq => ok_chk ⟨j1, hc⟩ (hk _ ⟨by show ab + 1 = _; omega, .inr ⟨by show 1 ≤ ab + 1; omega, getD_mem hi, hb, fun j hj haj => ?_⟩⟩)) (fun hq => hk _ ⟨by show ab + 1 = _; omega, ?_⟩)))
    ·show N.getD i.toNat 0 ≤ N.getD j 0
     simp only [Bool.or_eq_true, decide_eq_true_eq] at hq
     by_cases e2 : (j : Int) < i
     ·rcases j4 with ⟨q1, q2⟩ | ⟨q1, q2, q3, q4⟩
      ·exfalso
       have hmem : N.getD j 0 ∈ (N.take i.toNat).filter fun c => decide (a < c) := by
        rw [List.mem_filter]
        refine ⟨?_, decide_eq_true haj⟩
        rw [getD_get (by omega : j < N.length)]
        exact List.mem_take_iff_getElem.2 ⟨j, by omega, rfl⟩
       have : 0 < abv (N.take i.toNat) a := List.length_pos_of_mem hmem
       omega
      ·have := q4 j e2 haj
       rcases hq with hq | hq <;> omega
     ·obtain rfl : j = i.toNat := by omega
      exact Int.le_refl _
    ·simp only [Bool.or_eq_false_iff, decide_eq_false_iff_not] at hq
     rcases j4 with ⟨q1, q2⟩ | ⟨q1, q2, q3, q4⟩
     ·omega
     ·refine .inr ⟨by show 1 ≤ ab + 1; omega, q2, q3, fun j hj haj => ?_⟩
      have hj : (j : Int) < i + 1 := hj
      by_cases e2 : (j : Int) < i
      ·exact q4 j e2 haj
      ·obtain rfl : j = i.toNat := by omega
       show nx ≤ N.getD i.toNat 0
       omega
   ·have hb : ¬ a < N.getD i.toNat 0 := of_decide_eq_false hb
    rw [if_neg hb] at hst
    show ab = _
    omega
   ·have hb : ¬ a < N.getD i.toNat 0 := of_decide_eq_false hb
    rcases j4 with q | ⟨q1, q2, q3, q4⟩
    ·exact .inl q
    ·refine .inr ⟨q1, q2, q3, fun j hj haj => ?_⟩
     have hj : (j : Int) < i + 1 := hj
     by_cases e2 : (j : Int) < i
     ·exact q4 j e2 haj
     ·obtain rfl : j = i.toNat := by omega
      exact absurd haj hb
  ·have hc : ¬ i < N.length := of_decide_eq_false hc
   rw [List.take_of_length_le (by omega)] at j3
   have hpos : 0 < abv N a := List.length_pos_of_mem (List.mem_filter.2 ⟨getD_mem (d := 0) (show s.toNat < N.length by omega), decide_eq_true ha⟩)
   rcases j4 with ⟨q1, q2⟩ | ⟨q1, q2, q3, q4⟩
   ·omega
   have hnx := h nx q2
   have hnxs : nx ≤ N.getD s.toNat 0 := q4 s.toNat (by omega) ha
   have hall : ∀ c ∈ N, c ≤ ((a.toNat : Nat) : Int) ∨ ((nx.toNat : Nat) : Int) ≤ c := fun c hc' => by
    obtain ⟨j, hj, rfl⟩ := List.getElem_of_mem hc'
    by_cases q : a < N[j]
    ·have := q4 j (by omega) (by rw [getD_get hj]; exact q)
     rw [getD_get hj] at this
     exact .inr (by omega)
    ·exact .inl (by omega)
   have hline := W_line (N := N) (a := a.toNat) (b := nx.toNat) (by omega) hall
   have e1 : ((a.toNat : Nat) : Int) = a := by omega
   have e2 : ((nx.toNat : Nat) : Int) = nx := by omega
   rw [e1, e2, ← j3, ← i3] at hline
   have hmx : (if (1 : Int) > ab then 1 else ab) = ab := by split <;> omega
   rw [hmx]
   have hb1 := W_le N nx.toNat
   have hb2 := W_nonneg N a.toNat
   have hb3 := W_nonneg N nx.toNat
   have hb4 := W_mono N (show a.toNat ≤ nx.toNat by omega)
   rw [← i3] at hb2 hb4
   generalize (nx - a) * (27720 / ab) = add at hline ⊢
   refine ok_chk (show InR _ from ⟨by omega, by omega⟩) (ok_chk ⟨⟨by omega, by omega⟩, by omega⟩ (ok_chk (show InR _ from ⟨by omega, by omega⟩) (ok_chk (show InR _ from ⟨by omega, by omega⟩) (hnext _ ⟨by show 0 ≤ nx; omega, hnxs, hline.symm, .inr q2⟩ (abv_drop q3 N q2)))))
 ·have ha : ¬ a < N.getD s.toNat 0 := of_decide_eq_false ha
  rw [i3, show a = N.getD s.toNat 0 by omega]
def gcdI (a b : Int) : Int := (Nat.gcd a.toNat b.toNat : Int)
theorem gcdI_step {a b : Int} (ha : 0 ≤ a) (hb : 0 < b) : gcdI a b = gcdI b (a % b) := by
 unfold gcdI
 have h1 : (a % b).toNat = a.toNat % b.toNat := by
  have : a % b = ((a.toNat % b.toNat : Nat) : Int) := by
   rw [Int.natCast_emod, Int.toNat_of_nonneg ha, Int.toNat_of_nonneg (Int.le_of_lt hb)]
  rw [this]; exact Int.toNat_natCast _
 rw [h1, Nat.gcd_comm b.toNat, ← Nat.gcd_rec, Nat.gcd_comm]
theorem gcdI_zero {a : Int} (ha : 0 ≤ a) : gcdI a 0 = a := by
 unfold gcdI
 simp; omega
theorem refGcdR {F : Nat} : ∀ (n : Nat) (a b : Int), 0 ≤ a → a ≤ 9223372036854775807 → 0 ≤ b → b ≤ 9223372036854775807 → b.toNat < n → ref12_gcdR F n a b = some (gcdI a b)
 | n + 1, a, b, h1, h2, h3, h4, h5 => by
  show brk (b == 0) (some a) (chk ((0 ≤ a ∧ a ≤ 9223372036854775807) ∧ 0 < b) (bnd (ref12_gcdR F n b (a % b)) fun x => some x)) = _
  by_cases hb : b = 0
  ·subst hb
   rw [gcdI_zero h1]; rfl
  ·rw [show (b == 0) = false by simpa using hb, brk_false, chk_pos ⟨⟨h1, h2⟩, by omega⟩]
   have hm1 := Int.emod_nonneg a hb
   have hm2 := Int.emod_lt_of_pos a (show 0 < b by omega)
   rw [refGcdR n b (a % b) h3 h4 hm1 (by omega) (by omega), bnd_so, gcdI_step h1 (by omega)]
theorem refGcd_eq {F : Nat} (hF : 30000 < F) {a : Int} (h1 : 0 ≤ a) (h2 : a ≤ 9223372036854775807) : ref12_gcd F a 27720 = some (gcdI a 27720) :=
 refGcdR F a 27720 h1 h2 (by omega) (by omega) (by show (27720 : Nat) < F; omega)
theorem gcd_pos (a : Int) : 1 ≤ gcdI a 27720 := by
 have h : 0 < Nat.gcd a.toNat 27720 := Nat.gcd_pos_of_pos_right _ (by omega)
 show (1 : Int) ≤ (Nat.gcd a.toNat 27720 : Int)
 omega
def ratioV (n : Int) : Ratio := ⟨n / gcdI n 27720, 27720 / gcdI n 27720⟩
def exactR (N : List Int) : List Ratio := (shV N).map ratioV
theorem shV_bound {N : List Int} (h : NeedsB N) : ∀ x ∈ shV N, 0 ≤ x ∧ x ≤ 27720000000000 := by
 intro x hx
 obtain ⟨c, hc, rfl⟩ := List.mem_map.1 hx
 have h1 := W_nonneg N c.toNat
 have h2 := W_le N c.toNat
 have h3 := h c hc
 omega
theorem shV_get {N : List Int} {i : Nat} (hi : i < N.length) : (shV N).getD i 0 = W N (N.getD i 0).toNat := by
 unfold shV
 rw [getD_get (by simpa using hi), List.getElem_map, getD_get hi]
theorem shV_length (N : List Int) : (shV N).length = N.length := List.length_map _
theorem Exact_eq {F : Nat} (hF : 2000000000000 < F) (N : List Int) : fees_Exact F N = some (if askedV N = 0 then (exactR N, 0) else ([], askedV N)) := by
 refine Ok.eq ?_
 unfold fees_Exact
 refine ok_bnde (asked_eq (by omega) N) (ok_brk (fun hb => ok_some ?_) (fun hb => ?_))
 ·rw [if_neg (by simpa using hb)]
 have hz : askedV N = 0 := by simpa using hb
 rw [if_pos hz]
 obtain ⟨h1, h2, h3⟩ := askedV_zero hz
 refine ok_bnde (exact_ok hF h1 h2 h3) ?_
 have hsl := shV_length N
 refine ok_loop (fun x : Int × List Ratio => 0 ≤ x.1 ∧ x.1 ≤ N.length ∧ x.2 = ((shV N).take x.1.toNat).map ratioV) (fun x => N.length - x.1.toNat) ⟨by simp, by simp, rfl⟩ (by simp; omega) ?_
 rintro ⟨i, o⟩ next ⟨i1, i2, i3⟩ hn
 simp only at i1 i2 i3
 dsimp only
 rw [hsl]
 refine ok_brk (fun hc => ?_) (fun hc => ok_some ?_)
 ·have hc : i < N.length := of_decide_eq_true hc
  have hi : i.toNat < (shV N).length := by omega
  have hx := shV_bound h3 _ (getD_mem (d := 0) hi)
  have htk := take_succ' (d := 0) hi
  generalize (shV N).getD i.toNat 0 = x at hx htk ⊢
  refine ok_chk ⟨i1, hc⟩ ?_
  refine ok_loop (fun y : Int × Int => 0 ≤ y.1 ∧ y.1 ≤ 27720000000000 ∧ 0 ≤ y.2 ∧ y.2 ≤ 27720 ∧ gcdI y.1 y.2 = gcdI x 27720) (fun y => y.2.toNat) ⟨hx.1, hx.2, by simp, by simp, rfl⟩ (by show (27720 : Nat) < F; omega) ?_
  rintro ⟨a, b⟩ next2 ⟨j1, j2, j3, j4, j5⟩ hn2
  simp only at j1 j2 j3 j4 j5
  dsimp only
  refine ok_brk (fun hb => ?_) (fun hb => ?_)
  ·have hb : b ≠ 0 := by simpa using hb
   have hm1 := Int.emod_nonneg a hb
   have hm2 := Int.emod_lt_of_pos a (show 0 < b by omega)
   exact ok_chk ⟨⟨j1, by omega⟩, by omega⟩ (hn2 _ ⟨j3, by show b ≤ _; omega, hm1, by show a % b ≤ _; omega, by rw [← gcdI_step j1 (by omega)]; exact j5⟩ (by show (a % b).toNat < b.toNat; omega))
  ·have hb : b = 0 := by simpa using hb
   subst hb
   rw [gcdI_zero j1] at j5
   have hg := gcd_pos x
   rw [← j5] at hg
   refine ok_chk ⟨⟨hx.1, by omega⟩, by omega⟩ (ok_chk ⟨⟨by omega, by omega⟩, by omega⟩ (ok_chk ?_ (ok_chk (show InR _ from ⟨by omega, by omega⟩) (hn _ ⟨by show 0 ≤ i + 1; omega, by show i + 1 ≤ _; omega, ?_⟩ (by show N.length - (i + 1).toNat < N.length - i.toNat; omega)))))
   ·rw [i3]; simp; omega
   ·show o ++ [(⟨x / a, 27720 / a⟩ : Ratio)] = _
    rw [show (i + 1).toNat = i.toNat + 1 by omega, htk, List.map_append, ← i3, j5]; rfl
 ·have hc : ¬ i < N.length := of_decide_eq_false hc
  rw [List.take_of_length_le (by omega)] at i3
  rw [i3]; rfl
theorem refExact_eq {F : Nat} (hF : 2000000000000 < F) (N : List Int) : ref12_Exact F N = some (if askedV N = 0 then (exactR N, 0) else ([], askedV N)) := by
 refine Ok.eq ?_
 unfold ref12_Exact
 refine ok_bnde (needed_eq (by omega) N) (ok_brk (fun hb => ok_some ?_) (fun hb => ?_))
 ·rw [if_neg (by simpa using hb)]
 have hz : askedV N = 0 := by simpa using hb
 rw [if_pos hz]
 obtain ⟨h1, h2, h3⟩ := askedV_zero hz
 have hsl := shV_length N
 refine ok_loop (fun x : Int × List Ratio => 0 ≤ x.1 ∧ x.1 ≤ N.length ∧ x.2 = ((shV N).take x.1.toNat).map ratioV) (fun x => N.length - x.1.toNat) ⟨by simp, by simp, rfl⟩ (by simp; omega) ?_
 rintro ⟨i, o⟩ next ⟨i1, i2, i3⟩ hn
 simp only at i1 i2 i3
 dsimp only
 refine ok_brk (fun hc => ?_) (fun hc => ok_some ?_)
 ·have hc : i < N.length := of_decide_eq_true hc
  have hi : i.toNat < (shV N).length := by omega
  have hx := shV_bound h3 _ (getD_mem (d := 0) hi)
  have htk := take_succ' (d := 0) hi
  refine ok_bnde (refShare_eq (by omega) h2 h3 ⟨i1, hc⟩) ?_
  rw [shV_get (by omega)] at hx htk
  generalize W N (N.getD i.toNat 0).toNat = x at hx htk ⊢
  have hg := gcd_pos x
  refine ok_bnde (refGcd_eq (by omega) hx.1 (by omega)) (ok_chk ⟨⟨hx.1, by omega⟩, by omega⟩ (ok_chk ⟨⟨by omega, by omega⟩, by omega⟩ (ok_chk ?_ (ok_chk (show InR _ from ⟨by omega, by omega⟩) (hn _ ⟨by show 0 ≤ i + 1; omega, by show i + 1 ≤ _; omega, ?_⟩ (by show N.length - (i + 1).toNat < N.length - i.toNat; omega))))))
  ·rw [i3]; simp; omega
  ·show o ++ [ratioV x] = _
   rw [show (i + 1).toNat = i.toNat + 1 by omega, htk, List.map_append, ← i3]; rfl
 ·have hc : ¬ i < N.length := of_decide_eq_false hc
  rw [List.take_of_length_le (by omega)] at i3
  rw [i3]; rfl
def rk (N : List Int) (u : Int) : Int := -((shV N).getD u.toNat 0 % 27720)
def baseV (N : List Int) : List Int := (shV N).map fun x => x / 27720
def leftV (N : List Int) (m : Int) : Int := m - sumL (baseV N)
structure ShareP (N rank : List Int) (m : Int) (o : List Int) : Prop where
 len : o.length = N.length
 sum : sumL o = m
 get : ∀ q : Nat, q < N.length → o.getD q 0 = (shV N).getD q 0 / 27720 + if (q : Int) ∈ rank.take (leftV N m).toNat then 1 else 0
theorem ShareP.one {N rank o p : List Int} {m : Int} (h : ShareP N rank m o) (h' : ShareP N rank m p) : o = p :=
 list_ext 0 (by rw [h.len, h'.len]) fun i hi => by rw [h.get i (by rw [← h.len]; exact hi), h'.get i (by rw [← h.len]; exact hi)]
theorem MaxOK.one {N : List Int} {m n : Int} (h : MaxOK N m) (h' : MaxOK N n) : m = n := by
 have h1 := h.2 _ h'.1
 have h2 := h'.2 _ h.1
 omega
theorem rem_parts : ∀ l : List Int, sumL l = 27720 * sumL (l.map fun x => x / 27720) + sumL (l.map fun x => x % 27720)
 | [] => rfl
 | x :: l => by
  have ih := rem_parts l
  simp only [List.map_cons, sumL]
  omega
theorem rem_le : ∀ l : List Int, 0 ≤ sumL (l.map fun x => x % 27720) ∧ sumL (l.map fun x => x % 27720) ≤ 27719 * l.length
 | [] => by simp [sumL]
 | x :: l => by
  have ih := rem_le l
  simp only [List.map_cons, sumL, List.length_cons]
  push_cast
  omega
theorem left_bound {N : List Int} {m : Int} (h2 : N.length ≤ 12) (h : NeedsB N) (hm : MaxOK N m) : 0 ≤ leftV N m ∧ leftV N m ≤ N.length ∧ 27720 * leftV N m = sumL ((shV N).map fun x => x % 27720) := by
 have e : sumL (shV N) = 27720 * m := shares_sum h2 (fun c hc => (h c hc).1) hm
 have p := rem_parts (shV N)
 have q := rem_le (shV N)
 rw [shV_length] at q
 unfold leftV baseV
 omega
theorem baseV_length (N : List Int) : (baseV N).length = N.length := by rw [baseV, List.length_map, shV_length]
theorem baseV_get {N : List Int} {i : Nat} (hi : i < N.length) : (baseV N).getD i 0 = (shV N).getD i 0 / 27720 := by
 have h1 : i < (shV N).length := by rw [shV_length]; exact hi
 unfold baseV
 rw [getD_get (by simpa using h1), List.getElem_map, getD_get h1]
theorem baseV_bound {N : List Int} (h : NeedsB N) : ∀ x ∈ baseV N, 0 ≤ x ∧ x ≤ 1000000000 := by
 intro x hx
 obtain ⟨c, hc, rfl⟩ := List.mem_map.1 hx
 have := shV_bound h c hc
 omega
theorem shV_getb {N : List Int} (h : NeedsB N) (i : Nat) : 0 ≤ (shV N).getD i 0 ∧ (shV N).getD i 0 ≤ 27720000000000 := by
 by_cases hi : i < (shV N).length
 ·exact shV_bound h _ (getD_mem hi)
 ·simp [List.getD_eq_getElem?_getD, List.getElem?_eq_none (Nat.le_of_not_lt hi)]
theorem sumL_sub {l : List Int} {B : Int} (hB : 0 ≤ B) (h : ∀ x ∈ l, 0 ≤ x ∧ x ≤ B) (hl : l.length ≤ 20) (i : Nat) : 0 ≤ sumL (l.take i) ∧ sumL (l.take i) ≤ B * 20 := by
 have h1 := sumL_nonneg (l.take i) fun x hx => (h x (List.mem_of_mem_take hx)).1
 have h2 := sumL_le (B := B) (l.take i) fun x hx => (h x (List.mem_of_mem_take hx)).2
 have h3 : (l.take i).length ≤ l.length := by rw [List.length_take]; omega
 have h4 : B * ((l.take i).length : Int) ≤ B * 20 := Int.mul_le_mul_of_nonneg_left (by omega) hB
 omega
theorem share_step {N rank o : List Int} {n : Nat} (hs : Sorted (rk N) n rank) {k : Nat} (hk : k < n) (hl : o.length = n) {v : Int}
  (ho : ∀ q : Nat, q < n → o.getD q 0 = (shV N).getD q 0 / 27720 + if (q : Int) ∈ rank.take k then 1 else 0) (hv : v = o.getD (rank.getD k 0).toNat 0 + 1) :
  ∀ q : Nat, q < n → (o.set (rank.getD k 0).toNat v).getD q 0 = (shV N).getD q 0 / 27720 + if (q : Int) ∈ rank.take (k + 1) then 1 else 0 := by
 intro q hq
 have hll := hs.length
 have hm : 0 ≤ rank.getD k 0 ∧ rank.getD k 0 < n := hs.mem.1 (getD_mem (by omega))
 have htk : rank.take (k + 1) = rank.take k ++ [rank.getD k 0] := take_succ' (by omega)
 have hnew : ¬ rank.getD k 0 ∈ rank.take k := fun hx => by
  have hp : (rank.take (k + 1)).Pairwise (Lx (rk N)) := hs.pw.sublist (List.take_sublist _ _)
  rw [htk, List.pairwise_append] at hp
  exact (hp.2.2 _ hx _ (by simp)).irrefl
 rw [getD_set' (by omega), htk]
 by_cases e : (rank.getD k 0).toNat = q
 ·have e2 : ((q : Nat) : Int) = rank.getD k 0 := by omega
  rw [if_pos e, if_pos (by rw [e2]; simp), hv, e, ho q hq, e2, if_neg hnew]; omega
 ·rw [if_neg e, ho q hq]
  congr 1
  by_cases e2 : (q : Int) ∈ rank.take k
  ·rw [if_pos e2, if_pos (List.mem_append_left _ e2)]
  ·rw [if_neg e2, if_neg (fun q3 => by
    rcases List.mem_append.1 q3 with q4 | q4
    ·exact e2 q4
    ·have := List.mem_singleton.1 q4
     omega)]
set_option maxHeartbeats 1000000 in
theorem Share_ok {F : Nat} (hF : 2000000000000 < F) (N : List Int) : Ok (fun r : List Int × Int => (askedV N ≠ 0 ∧ r = ([], askedV N)) ∨ (askedV N = 0 ∧ r.2 = 0 ∧ ∃ m rank, MaxOK N m ∧ Sorted (rk N) N.length rank ∧ ShareP N rank m r.1)) (fees_Share F N) := by
 unfold fees_Share
 refine ok_bnde (asked_eq (by omega) N) (ok_brk (fun hb => ok_some ?_) (fun hb => ?_))
 ·exact .inl ⟨by simpa using hb, rfl⟩
 have hz : askedV N = 0 := by simpa using hb
 obtain ⟨h1, h2, h⟩ := askedV_zero hz
 refine ok_bnde (exact_ok hF h1 h2 h) (ok_bnd (MaxOK N) (max_ok (by omega) (by omega) h1) fun m hm => ?_)
 obtain ⟨n, hn⟩ : ∃ n, N.length = n := ⟨_, rfl⟩
 have hsl : (shV N).length = n := by rw [shV_length, hn]
 have hmb := h m hm.1
 obtain ⟨lb1, lb2, -⟩ := left_bound h2 h hm
 rw [hn] at lb2
 rw [hsl]
 refine ok_chk ⟨by omega, by omega, by omega⟩ (ok_chk ⟨by omega, by omega, by omega⟩ ?_)
 refine ok_loop (fun x : Int × Int × List Int × List Int => 0 ≤ x.2.1 ∧ x.2.1 ≤ n ∧ x.2.2.1.length = n ∧ x.2.2.2.length = n ∧ (∀ q : Nat, (q : Int) < x.2.1 → x.2.2.1.getD q 0 = q) ∧ (∀ q : Nat, (q : Int) < x.2.1 → x.2.2.2.getD q 0 = (baseV N).getD q 0) ∧ x.1 = m - sumL ((baseV N).take x.2.1.toNat)) (fun x => n - x.2.1.toNat)
  ⟨by simp, by show (0 : Int) ≤ n; omega, by simp, by simp, fun q hq => by (have hq : (q : Int) < 0 := hq); omega, fun q hq => by (have hq : (q : Int) < 0 := hq); omega, by simp [sumL]⟩ (by simp; omega) ?_
 rintro ⟨left, i, rank, out⟩ next ⟨i1, i2, i3, i4, i5, i6, i7⟩ hnx
 simp only at i1 i2 i3 i4 i5 i6 i7
 dsimp only
 have hbl : (baseV N).length = n := by rw [baseV_length, hn]
 have hsb := fun i => sumL_sub (B := 1000000000) (by omega) (baseV_bound h) (by omega) i
 refine ok_brk (fun hc => ?_) (fun hc => ?_)
 ·have hc : i < n := of_decide_eq_true hc
  have hi : i.toNat < n := by omega
  have hx := shV_getb h i.toNat
  have hg : (baseV N).getD i.toNat 0 = (shV N).getD i.toNat 0 / 27720 := baseV_get (by omega)
  have htk : sumL ((baseV N).take (i + 1).toNat) = sumL ((baseV N).take i.toNat) + (baseV N).getD i.toNat 0 := by
   rw [show (i + 1).toNat = i.toNat + 1 by omega, take_succ' (d := 0) (by omega), sumL_append]
   simp [sumL]
  have s1 := hsb i.toNat
  have hv : (out.set i.toNat ((shV N).getD i.toNat 0 / 27720)).getD i.toNat 0 = (shV N).getD i.toNat 0 / 27720 := by rw [getD_set' (by omega), if_pos rfl]
  rw [hv]
  refine ok_chk ⟨i1, hc⟩ (ok_chk ⟨hx.1, by omega⟩ (ok_chk ⟨i1, by omega⟩ (ok_chk ⟨i1, by omega⟩ (ok_chk ⟨i1, by rw [List.length_set]; omega⟩ (ok_chk (show InR _ from ⟨by omega, by omega⟩) (ok_chk (show InR _ from ⟨by omega, by omega⟩) (hnx _ ⟨by show 0 ≤ i + 1; omega, by show i + 1 ≤ n; omega, by show (rank.set _ _).length = n; rw [List.length_set]; exact i3, by show (out.set _ _).length = n; rw [List.length_set]; exact i4, fun q hq => ?_, fun q hq => ?_, ?_⟩ (by show n - (i + 1).toNat < n - i.toNat; omega))))))))
  ·have hq : (q : Int) < i + 1 := hq
   show (rank.set i.toNat i).getD q 0 = q
   rw [getD_set' (by omega)]
   by_cases e : i.toNat = q
   ·rw [if_pos e]; omega
   ·rw [if_neg e]; exact i5 q (by omega)
  ·have hq : (q : Int) < i + 1 := hq
   show (out.set i.toNat _).getD q 0 = _
   rw [getD_set' (by omega)]
   by_cases e : i.toNat = q
   ·rw [if_pos e, ← e, hg]
   ·rw [if_neg e]; exact i6 q (by omega)
  ·show left - _ = m - sumL ((baseV N).take (i + 1).toNat)
   rw [htk, hg, i7]; omega
 have hc : ¬ i < n := of_decide_eq_false hc
 have ho : rank = upto n := tab_ext 0 i3 fun q hq => i5 q (by omega)
 have hout : out = baseV N := list_ext 0 (by omega) fun q hq => i6 q (by omega)
 rw [List.take_of_length_le (by omega)] at i7
 have hleft : left = leftV N m := i7
 clear hnx i5 i6 i7
 subst hout
 rw [ho, upto_length, hleft]
 refine ok_loop (fun x : Int × Int => x = (20, 0)) (fun _ => 0) rfl (by omega) ?_
 rintro _ next rfl hnx
 clear hnx next
 refine ok_brkF (decide_eq_false (by show ¬ (20 : Int) ≤ n; omega)) (ok_chk (show InR (0 + 1) from ⟨by omega, by omega⟩) ?_)
 refine ok_loop (fun x : Int × List Int => 1 ≤ x.1 ∧ x.1 ≤ n ∧ SortI (rk N) n x.1.toNat x.2) (fun x => n - x.1.toNat)
  ⟨by simp, by show (0 : Int) + 1 ≤ n; omega, SortI.one _ (by omega)⟩ (by simp; omega) ?_
 rintro ⟨i, l⟩ next ⟨i1, i2, i3⟩ hnx
 simp only at i1 i2 i3
 dsimp only
 refine ok_brk (fun hc => ?_) (fun hc => ?_)
 ·have hc : i < n := of_decide_eq_true hc
  have hi : i.toNat < n := by omega
  have hst := i3.start hi
  refine ok_loop (fun x : Int × List Int => InsI (rk N) n i.toNat x.1 x.2) (fun x => x.1.toNat)
   (by rw [show ((i.toNat : Nat) : Int) = i by omega] at hst; exact hst) (by show i.toNat < F; omega) ?_
  rintro ⟨j, l⟩ next2 hI hn2
  simp only at hI
  dsimp only
  obtain ⟨f1, f2, f3, f4, f5⟩ := hI.facts hi
  have go : SortI (rk N) n (i.toNat + 1) l → Ok _ (chk (InR (i + 1)) (next (i + 1, l))) := fun q =>
   ok_chk (show InR _ from ⟨by omega, by omega⟩) (hnx _ ⟨by show 1 ≤ i + 1; omega, by show i + 1 ≤ n; omega, by show SortI _ n (i + 1).toNat l; rw [show (i + 1).toNat = i.toNat + 1 by omega]; exact q⟩ (by show n - (i + 1).toNat < n - i.toNat; omega))
  refine ok_brk (fun hb => ?_) (fun hb => ?_)
  ·have hb : j > 0 := of_decide_eq_true hb
   have g := f5 hb
   have hv : 0 ≤ l.getD j.toNat 0 ∧ l.getD j.toNat 0 < n := by rw [f4]; omega
   have kv := shV_getb h (l.getD j.toNat 0).toNat
   have ku := shV_getb h (l.getD (j - 1).toNat 0).toNat
   refine ok_chk ⟨f2, by omega⟩ (ok_chk (show InR _ from ⟨by omega, by omega⟩) (ok_chk ⟨by omega, by omega⟩ (ok_chk ⟨g.1, by omega⟩ (ok_chk ⟨ku.1, by omega⟩ (ok_chk hv (ok_chk ⟨kv.1, by omega⟩ (ok_chk (show InR _ from ⟨by omega, by omega⟩) (ok_brk (fun hd => ?_) (fun hd => ?_)))))))))
   ·have hd := of_decide_eq_true hd
    refine ok_chk (show InR _ from ⟨by omega, by omega⟩) (ok_chk (show InR _ from ⟨by omega, by omega⟩) (ok_chk ⟨by omega, by omega⟩ (ok_chk ⟨by omega, by omega⟩ (ok_chk ⟨by omega, by omega⟩ (ok_chk ⟨by omega, by rw [List.length_set]; omega⟩ (ok_chk (show InR _ from ⟨by omega, by omega⟩) (hn2 _ (hI.swap hb (by unfold rk; omega)) (by show (j - 1).toNat < j.toNat; omega))))))))
   ·have hd := of_decide_eq_false hd
    refine go (hI.stop (.inr ?_))
    unfold rk
    rw [← f4]; omega
  ·have hb : ¬ j > 0 := of_decide_eq_false hb
   exact go (hI.stop (.inl (by omega)))
 have hc : ¬ i < n := of_decide_eq_false hc
 have hs : Sorted (rk N) n l := SortI.done (by rw [show i.toNat = n by omega] at i3; exact i3)
 clear hnx i3
 refine ok_loop (fun x : Int => x = 20) (fun _ => 0) rfl (by omega) ?_
 rintro _ next rfl hnx
 clear hnx next
 have hll := hs.length
 refine ok_brkF (decide_eq_false (by omega)) (ok_chk ⟨by omega, lb1, by omega⟩ ?_)
 refine ok_loop (fun x : Int × List Int => 0 ≤ x.1 ∧ x.1 ≤ leftV N m ∧ x.2.length = n ∧ sumL x.2 = sumL (baseV N) + x.1 ∧ ∀ q : Nat, q < n → x.2.getD q 0 = (shV N).getD q 0 / 27720 + if (q : Int) ∈ l.take x.1.toNat then 1 else 0) (fun x => n - x.1.toNat)
  ⟨by simp, lb1, hbl, by simp, fun q hq => by
   show (baseV N).getD q 0 = _ + if (q : Int) ∈ l.take 0 then 1 else 0
   rw [baseV_get (by omega)]; simp⟩ (by simp; omega) ?_
 rintro ⟨k, o⟩ next ⟨k1, k2, k3, k4, k5⟩ hnx
 simp only at k1 k2 k3 k4 k5
 dsimp only
 refine ok_brk (fun hb => ?_) (fun hb => ok_some ?_)
 ·have hb : k < leftV N m - 0 := of_decide_eq_true hb
  have hk : k.toNat < n := by omega
  rw [show (0 + k).toNat = k.toNat by omega]
  have hu : 0 ≤ l.getD k.toNat 0 ∧ l.getD k.toNat 0 < n := hs.mem.1 (getD_mem (by omega))
  have hob : 0 ≤ o.getD (l.getD k.toNat 0).toNat 0 ∧ o.getD (l.getD k.toNat 0).toNat 0 ≤ 1000000001 := by
   rw [k5 _ (by omega)]
   have := shV_getb h (l.getD k.toNat 0).toNat
   split <;> omega
  refine ok_chk ⟨k1, by omega⟩ (ok_chk ⟨hu.1, by omega⟩ (ok_chk (show InR _ from ⟨by omega, by omega⟩) (ok_chk ⟨hu.1, by omega⟩ (ok_chk (show InR _ from ⟨by omega, by omega⟩) (hnx _ ⟨by show 0 ≤ k + 1; omega, by show k + 1 ≤ leftV N m; omega, by show (o.set _ _).length = n; rw [List.length_set]; exact k3, ?_, ?_⟩ (by show n - (k + 1).toNat < n - k.toNat; omega))))))
  ·show sumL (o.set _ _) = _ + (k + 1)
   rw [sumL_set _ _ _ (by omega), k4]; omega
  ·show ∀ q : Nat, q < n → (o.set _ _).getD q 0 = (shV N).getD q 0 / 27720 + if (q : Int) ∈ l.take (k + 1).toNat then 1 else 0
   rw [show (k + 1).toNat = k.toNat + 1 by omega]
   exact share_step hs hk k3 k5 rfl
 ·have hb : ¬ k < leftV N m - 0 := of_decide_eq_false hb
  obtain rfl : k = leftV N m := by omega
  refine .inr ⟨hz, rfl, m, l, hm, by rw [hn]; exact hs, ⟨by rw [hn]; exact k3, ?_, fun q hq => k5 q (by omega)⟩⟩
  rw [k4]; unfold leftV; omega
set_option maxHeartbeats 1000000 in
theorem refShareE_ok {F : Nat} (hF : 2000000000000 < F) (N : List Int) : Ok (fun r : List Int × Int => (askedV N ≠ 0 ∧ r = ([], askedV N)) ∨ (askedV N = 0 ∧ r.2 = 0 ∧ ∃ m, MaxOK N m ∧ ∀ rank, Sorted (rk N) N.length rank → ShareP N rank m r.1)) (ref12_Share F N) := by
 unfold ref12_Share
 refine ok_bnde (needed_eq (by omega) N) (ok_brk (fun hb => ok_some ?_) (fun hb => ?_))
 ·exact .inl ⟨by simpa using hb, rfl⟩
 have hz : askedV N = 0 := by simpa using hb
 obtain ⟨h1, h2, h⟩ := askedV_zero hz
 obtain ⟨n, hn⟩ : ∃ n, N.length = n := ⟨_, rfl⟩
 have hsl : (shV N).length = n := by rw [shV_length, hn]
 have hbl : (baseV N).length = n := by rw [baseV_length, hn]
 have hsb := fun i => sumL_sub (B := 1000000000) (by omega) (baseV_bound h) (by omega) i
 rw [hn]
 refine ok_loop (fun x : Int × Int => 0 ≤ x.1 ∧ x.1 ≤ n ∧ ((x.1 = 0 ∧ x.2 = 0) ∨ x.2 ∈ N) ∧ ∀ j : Nat, (j : Int) < x.1 → N.getD j 0 ≤ x.2) (fun x => n - x.1.toNat)
  ⟨by simp, by show (0 : Int) ≤ n; omega, .inl ⟨rfl, rfl⟩, fun j hj => by (have hj : (j : Int) < 0 := hj); omega⟩ (by simp; omega) ?_
 rintro ⟨i, b⟩ next ⟨i1, i2, i3, i4⟩ hnx
 simp only at i1 i2 i3 i4
 dsimp only
 refine ok_brk (fun hc => ?_) (fun hc => ?_)
 ·have hc : i < n := of_decide_eq_true hc
  refine ok_chk ⟨i1, hc⟩ (ok_chk (show InR _ from ⟨by omega, by omega⟩) (hnx _ ⟨by show 0 ≤ i + 1; omega, by show i + 1 ≤ n; omega, .inr ?_, fun j hj => ?_⟩ (by show n - (i + 1).toNat < n - i.toNat; omega)))
  ·show (if N.getD i.toNat 0 > b then N.getD i.toNat 0 else b) ∈ N
   have hm : N.getD i.toNat 0 ∈ N := getD_mem (by omega)
   split
   ·exact hm
   ·rcases i3 with ⟨q1, q2⟩ | q
    ·have := (h _ hm).1
     rw [show b = N.getD i.toNat 0 by omega]; exact hm
    ·exact q
  ·have hj : (j : Int) < i + 1 := hj
   show N.getD j 0 ≤ if N.getD i.toNat 0 > b then N.getD i.toNat 0 else b
   by_cases e : (j : Int) < i
   ·have := i4 j e
    split <;> omega
   ·obtain rfl : j = i.toNat := by omega
    split <;> omega
 have hc : ¬ i < n := of_decide_eq_false hc
 have hm : MaxOK N b := by
  refine ⟨?_, fun c hc => ?_⟩
  ·rcases i3 with q | q
   ·omega
   ·exact q
  ·obtain ⟨j, hj, rfl⟩ := List.getElem_of_mem hc
   have := i4 j (by omega)
   rwa [getD_get hj] at this
 clear hnx i3 i4
 obtain ⟨lb1, lb2, -⟩ := left_bound h2 h hm
 have hmb := h b hm.1
 refine ok_loop (fun x : List Int × Int × Int × List Int => 0 ≤ x.2.2.1 ∧ x.2.2.1 ≤ n ∧ x.1 = ((shV N).map fun x => x % 27720).take x.2.2.1.toNat ∧ x.2.2.2 = (baseV N).take x.2.2.1.toNat ∧ x.2.1 = b - sumL ((baseV N).take x.2.2.1.toNat)) (fun x => n - x.2.2.1.toNat)
  ⟨by simp, by show (0 : Int) ≤ n; omega, rfl, rfl, by simp [sumL]⟩ (by simp; omega) ?_
 rintro ⟨rm, left, i, out⟩ next ⟨i1, i2, i3, i4, i5⟩ hnx
 simp only at i1 i2 i3 i4 i5
 dsimp only
 refine ok_brk (fun hc => ?_) (fun hc => ?_)
 ·have hc : i < n := of_decide_eq_true hc
  have hi : i.toNat < n := by omega
  refine ok_bnde (refShare_eq (by omega) h2 h ⟨i1, by omega⟩) ?_
  rw [← shV_get (by omega)]
  have hx := shV_getb h i.toNat
  have hg : (baseV N).getD i.toNat 0 = (shV N).getD i.toNat 0 / 27720 := baseV_get (by omega)
  have hg2 : ((shV N).map fun x => x % 27720).getD i.toNat 0 = (shV N).getD i.toNat 0 % 27720 := by
   rw [getD_get (by simpa using (by omega : i.toNat < (shV N).length)), List.getElem_map, getD_get (by omega)]
  have e1 : (baseV N).take (i + 1).toNat = (baseV N).take i.toNat ++ [(shV N).getD i.toNat 0 / 27720] := by
   rw [show (i + 1).toNat = i.toNat + 1 by omega, take_succ' (d := 0) (by omega), hg]
  have e2 : ((shV N).map fun x => x % 27720).take (i + 1).toNat = ((shV N).map fun x => x % 27720).take i.toNat ++ [(shV N).getD i.toNat 0 % 27720] := by
   rw [show (i + 1).toNat = i.toNat + 1 by omega, take_succ' (d := 0) (by simp; omega), hg2]
  have s1 := hsb i.toNat
  have l1 : rm.length ≤ n := by rw [i3]; simp; omega
  have l2 : out.length ≤ n := by rw [i4]; simp; omega
  refine ok_chk ⟨hx.1, by omega⟩ (ok_chk (by simp; omega) (ok_chk ⟨hx.1, by omega⟩ (ok_chk (by simp; omega) (ok_chk ⟨hx.1, by omega⟩ (ok_chk (show InR _ from ⟨by omega, by omega⟩) (ok_chk (show InR _ from ⟨by omega, by omega⟩) (hnx _ ⟨by show 0 ≤ i + 1; omega, by show i + 1 ≤ n; omega, ?_, ?_, ?_⟩ (by show n - (i + 1).toNat < n - i.toNat; omega))))))))
  ·show rm ++ _ = _
   rw [e2, i3]
  ·show out ++ _ = _
   rw [e1, i4]
  ·show left - _ = b - sumL ((baseV N).take (i + 1).toNat)
   rw [e1, sumL_append, i5]; simp [sumL]; omega
 have hc : ¬ i < n := of_decide_eq_false hc
 rw [List.take_of_length_le (by simp; omega)] at i3
 rw [List.take_of_length_le (by omega)] at i4 i5
 have hleft : left = leftV N b := i5
 clear hnx i5
 subst i3 i4
 rw [hleft]
 refine Ok.mono (post := fun r : List Int × Int => r.2 = 0 ∧ ∀ rank, Sorted (rk N) n rank → ShareP N rank b r.1) ?_ fun r hr => .inr ⟨hz, hr.1, b, hm, hr.2⟩
 refine ok_loop (fun x : Int × List Int × List Int => 0 ≤ x.1 ∧ x.1 ≤ leftV N b ∧ x.2.1.length = n ∧ x.2.2.length = n ∧ sumL x.2.2 = sumL (baseV N) + (leftV N b - x.1) ∧ (∀ q : Nat, q < n → 0 ≤ x.2.2.getD q 0 ∧ x.2.2.getD q 0 ≤ 1000000000 + (leftV N b - x.1)) ∧ ∀ rank, Sorted (rk N) n rank →
   (∀ q : Nat, q < n → x.2.1.getD q 0 = if (q : Int) ∈ rank.take (leftV N b - x.1).toNat then -1 else (shV N).getD q 0 % 27720) ∧
   ∀ q : Nat, q < n → x.2.2.getD q 0 = (shV N).getD q 0 / 27720 + if (q : Int) ∈ rank.take (leftV N b - x.1).toNat then 1 else 0) (fun x => x.1.toNat)
  ⟨lb1, Int.le_refl _, by simpa using hsl, hbl, by simp, fun q hq => by
   show 0 ≤ (baseV N).getD q 0 ∧ (baseV N).getD q 0 ≤ 1000000000 + (leftV N b - leftV N b)
   have := baseV_bound h _ (getD_mem (d := 0) (show q < (baseV N).length by omega))
   omega, fun rank hr => ⟨fun q hq => by
    show ((shV N).map fun x => x % 27720).getD q 0 = if (q : Int) ∈ rank.take (leftV N b - leftV N b).toNat then -1 else _
    rw [getD_get (by simpa using (by omega : q < (shV N).length)), List.getElem_map, getD_get (by omega), Int.sub_self]; simp, fun q hq => by
    show (baseV N).getD q 0 = _ + if (q : Int) ∈ rank.take (leftV N b - leftV N b).toNat then 1 else 0
    rw [baseV_get (by omega), Int.sub_self]; simp⟩⟩ (by show (leftV N b).toNat < F; omega) ?_
 rintro ⟨lf, rm, out⟩ next ⟨i1, i2, i3, i4, i5, i6, i7⟩ hnx
 simp only at i1 i2 i3 i4 i5 i6 i7
 dsimp only
 rw [i3, i4]
 refine ok_brk (fun hc => ?_) (fun hc => ok_some ⟨rfl, fun rank hr => ?_⟩)
 ·have hc : lf > 0 := of_decide_eq_true hc
  refine ok_loop (fun x : Int × Int => 0 ≤ x.1 ∧ x.1 ≤ n ∧ 0 ≤ x.2 ∧ x.2 ≤ x.1 ∧ x.2 < n ∧ ∀ j : Nat, (j : Int) < x.1 → rm.getD j 0 ≤ rm.getD x.2.toNat 0 ∧ ((j : Int) < x.2 → rm.getD j 0 < rm.getD x.2.toNat 0)) (fun x => n - x.1.toNat)
   ⟨by simp, by show (0 : Int) ≤ n; omega, by simp, by simp, by show (0 : Int) < n; omega, fun j hj => by (have hj : (j : Int) < 0 := hj); omega⟩ (by simp; omega) ?_
  rintro ⟨i, y⟩ next2 ⟨j1, j2, j3, j4, j5, j6⟩ hn2
  simp only at j1 j2 j3 j4 j5 j6
  dsimp only
  refine ok_brk (fun hd => ?_) (fun hd => ?_)
  ·have hd : i < n := of_decide_eq_true hd
   refine ok_join (by omega) (fun z : Int => 0 ≤ z ∧ z ≤ i + 1 ∧ z < n ∧ ∀ j : Nat, (j : Int) < i + 1 → rm.getD j 0 ≤ rm.getD z.toNat 0 ∧ ((j : Int) < z → rm.getD j 0 < rm.getD z.toNat 0)) (fun z hz => ok_chk (show InR _ from ⟨by omega, by omega⟩) (hn2 _ ⟨by show 0 ≤ i + 1; omega, by show i + 1 ≤ n; omega, hz.1, hz.2.1, hz.2.2.1, hz.2.2.2⟩ (by show n - (i + 1).toNat < n - i.toNat; omega))) fun k hk => ?_
   refine ok_chk ⟨j1, hd⟩ (ok_chk ⟨j3, j5⟩ (ok_brk (fun hb => ?_) (fun hb => ?_)))
   ·have hb := of_decide_eq_true hb
    refine hk _ ⟨j1, by omega, hd, fun j hj => ?_⟩
    by_cases e : (j : Int) < i
    ·have := j6 j e
     exact ⟨by omega, fun _ => by omega⟩
    ·obtain rfl : j = i.toNat := by omega
     exact ⟨Int.le_refl _, fun q => by omega⟩
   ·have hb := of_decide_eq_false hb
    refine hk _ ⟨j3, by omega, j5, fun j hj => ?_⟩
    by_cases e : (j : Int) < i
    ·exact j6 j e
    ·obtain rfl : j = i.toNat := by omega
     exact ⟨by omega, fun q => by omega⟩
  have hd : ¬ i < n := of_decide_eq_false hd
  have hob := i6 y.toNat (by omega)
  refine ok_chk ⟨j3, j5⟩ (ok_chk (show InR _ from ⟨by omega, by omega⟩) (ok_chk ⟨j3, j5⟩ (ok_chk ⟨j3, j5⟩ (ok_chk (show InR _ from ⟨by omega, by omega⟩) (hnx _ ⟨by show 0 ≤ lf - 1; omega, by show lf - 1 ≤ _; omega, by show (rm.set _ _).length = n; rw [List.length_set]; exact i3, by show (out.set _ _).length = n; rw [List.length_set]; exact i4, ?_, fun q hq => ?_, fun rank hr => ?_⟩ (by show (lf - 1).toNat < lf.toNat; omega))))))
  ·show sumL (out.set _ _) = _ + (leftV N b - (lf - 1))
   rw [sumL_set _ _ _ (by omega), i5]; omega
  ·show 0 ≤ (out.set _ _).getD q 0 ∧ (out.set _ _).getD q 0 ≤ 1000000000 + (leftV N b - (lf - 1))
   have := i6 q hq
   rw [getD_set' (by omega)]
   split <;> omega
  ·obtain ⟨r1, r2⟩ := i7 rank hr
   have hll := hr.length
   obtain ⟨k, hk⟩ : ∃ k : Nat, (leftV N b - lf).toNat = k := ⟨_, rfl⟩
   have hk' : (leftV N b - (lf - 1)).toNat = k + 1 := by omega
   have hkn : k < n := by omega
   rw [hk] at r1 r2
   have hy : y = rank.getD k 0 := by
    have hu : 0 ≤ rank.getD k 0 ∧ rank.getD k 0 < n := hr.mem.1 (getD_mem (by omega))
    have hnew : ¬ rank.getD k 0 ∈ rank.take k := fun hx => by
     have hp : (rank.take (k + 1)).Pairwise (Lx (rk N)) := hr.pw.sublist (List.take_sublist _ _)
     rw [take_succ' (d := 0) (by omega), List.pairwise_append] at hp
     exact (hp.2.2 _ hx _ (by simp)).irrefl
    have hru := r1 (rank.getD k 0).toNat (by omega)
    rw [show (((rank.getD k 0).toNat : Nat) : Int) = rank.getD k 0 by omega, if_neg hnew] at hru
    have hry := r1 y.toNat (by omega)
    rw [show ((y.toNat : Nat) : Int) = y by omega] at hry
    have hle := j6 (rank.getD k 0).toNat (by omega)
    rw [show (((rank.getD k 0).toNat : Nat) : Int) = rank.getD k 0 by omega] at hle
    have h0 : 0 ≤ (shV N).getD (rank.getD k 0).toNat 0 % 27720 := Int.emod_nonneg _ (by omega)
    by_cases e : y ∈ rank.take k
    ·rw [if_pos e] at hry
     omega
    ·rw [if_neg e] at hry
     have hym : y ∈ rank := hr.mem.2 ⟨j3, j5⟩
     rw [← List.take_append_drop k rank] at hym
     rcases List.mem_append.1 hym with q | q
     ·exact absurd q e
     ·rw [drop_get (d := 0) (by omega)] at q
      rcases List.mem_cons.1 q with q | q
      ·exact q
      ·have hp : (rank.drop k).Pairwise (Lx (rk N)) := hr.pw.sublist (List.drop_sublist _ _)
       rw [drop_get (d := 0) (by omega)] at hp
       have := (List.pairwise_cons.1 hp).1 y q
       unfold Lx rk at this
       exfalso
       rcases this with t | ⟨t1, t2⟩
       ·omega
       ·have := hle.2 t2
        omega
   show (∀ q : Nat, q < n → (rm.set y.toNat (-1)).getD q 0 = if (q : Int) ∈ rank.take (leftV N b - (lf - 1)).toNat then -1 else _) ∧ ∀ q : Nat, q < n → (out.set y.toNat _).getD q 0 = _ + if (q : Int) ∈ rank.take (leftV N b - (lf - 1)).toNat then 1 else 0
   rw [hk']
   refine ⟨fun q hq => ?_, ?_⟩
   ·rw [getD_set' (by omega), take_succ' (d := 0) (by omega)]
    by_cases e : y.toNat = q
    ·rw [if_pos e, if_pos]
     rw [← hy]; simp; omega
    ·rw [if_neg e, r1 q hq]
     by_cases e2 : (q : Int) ∈ rank.take k
     ·rw [if_pos e2, if_pos (List.mem_append_left _ e2)]
     ·rw [if_neg e2, if_neg (fun q3 => by
       rcases List.mem_append.1 q3 with q4 | q4
       ·exact e2 q4
       ·have := List.mem_singleton.1 q4
        omega)]
   ·subst hy
    exact share_step hr hkn i4 r2 rfl
 ·have hc : ¬ lf > 0 := of_decide_eq_false hc
  obtain ⟨-, r2⟩ := i7 rank hr
  obtain rfl : lf = 0 := by omega
  rw [show leftV N b - 0 = leftV N b by omega] at r2
  exact ⟨by rw [hn]; exact i4, by rw [i5]; unfold leftV; omega, fun q hq => r2 q (by omega)⟩
def payP (b : Nat → Bool) (S : List Int) : Nat → Int
 | 0 => 0
 | i + 1 => payP b S i + if b i = true then S.getD i 0 else 0
def costP (b : Nat → Bool) (N : List Int) : Nat → Int
 | 0 => 0
 | i + 1 => if b i = true ∧ N.getD i 0 > costP b N i then N.getD i 0 else costP b N i
theorem costP_mem {b : Nat → Bool} {N : List Int} (h : ∀ i, 0 ≤ N.getD i 0) : ∀ n : Nat, 0 ≤ costP b N n ∧ (∀ i, i < n → b i = true → N.getD i 0 ≤ costP b N n) ∧ ((costP b N n = 0) ∨ ∃ i, i < n ∧ b i = true ∧ costP b N n = N.getD i 0)
 | 0 => ⟨Int.le_refl _, fun i hi => absurd hi (Nat.not_lt_zero _), .inl rfl⟩
 | n + 1 => by
  obtain ⟨h0, h1, h2⟩ := costP_mem (b := b) h n
  have hn := h n
  simp only [costP]
  by_cases q : b n = true ∧ N.getD n 0 > costP b N n
  ·rw [if_pos q]
   refine ⟨hn, fun i hi hb => ?_, .inr ⟨n, by omega, q.1, rfl⟩⟩
   by_cases e : i < n
   ·have := h1 i e hb; omega
   ·obtain rfl : i = n := by omega
    exact Int.le_refl _
  ·rw [if_neg q]
   refine ⟨h0, fun i hi hb => ?_, ?_⟩
   ·by_cases e : i < n
    ·exact h1 i e hb
    ·obtain rfl : i = n := by omega
     have : ¬ N.getD i 0 > costP b N i := fun t => q ⟨hb, t⟩
     omega
   ·rcases h2 with h2 | ⟨i, hi, h3, h4⟩
    ·exact .inl h2
    ·exact .inr ⟨i, by omega, h3, h4⟩
theorem payP_mono {b c : Nat → Bool} {S : List Int} (h : ∀ i, 0 ≤ S.getD i 0) : ∀ n : Nat, (∀ i, i < n → b i = true → c i = true) → payP b S n ≤ payP c S n
 | 0, _ => Int.le_refl _
 | n + 1, hb => by
  have ih := payP_mono h n fun i hi => hb i (by omega)
  have hn := h n
  simp only [payP]
  by_cases q : b n = true
  ·rw [if_pos q, if_pos (hb n (by omega) q)]; omega
  ·rw [if_neg q]
   split <;> omega
theorem payP_bound {b : Nat → Bool} {S : List Int} (h : ∀ i, 0 ≤ S.getD i 0 ∧ S.getD i 0 ≤ 1000000000000) : ∀ n : Nat, 0 ≤ payP b S n ∧ payP b S n ≤ 1000000000000 * n
 | 0 => by simp [payP]
 | n + 1 => by
  have ih := payP_bound (b := b) h n
  have hn := h n
  simp only [payP]
  push_cast
  split <;> omega
theorem payP_congr {b c : Nat → Bool} {S : List Int} : ∀ n : Nat, (∀ i, i < n → b i = c i) → payP b S n = payP c S n
 | 0, _ => rfl
 | n + 1, hb => by simp only [payP]; rw [payP_congr n fun i hi => hb i (by omega), hb n (by omega)]
theorem costP_congr {b c : Nat → Bool} {S : List Int} : ∀ n : Nat, (∀ i, i < n → b i = c i) → costP b S n = costP c S n
 | 0, _ => rfl
 | n + 1, hb => by simp only [costP]; rw [costP_congr n fun i hi => hb i (by omega), hb n (by omega)]
def bitI (s : Int) (i : Nat) : Bool := s / 2 ^ i % 2 == 1
theorem bitI_zero (s : Int) : bitI s 0 = (s % 2 == 1) := by unfold bitI; rw [Int.pow_zero, Int.ediv_one]
theorem ediv_pow_succ (s : Int) (i : Nat) : s / 2 ^ (i + 1) = s / 2 / 2 ^ i := by
 rw [Int.pow_succ, Int.mul_comm, Int.ediv_ediv_of_nonneg (by omega)]
theorem ediv_pow_succ' (s : Int) (i : Nat) : s / 2 ^ (i + 1) = s / 2 ^ i / 2 := by
 have : (0 : Int) ≤ 2 ^ i := Int.pow_nonneg (by omega)
 rw [Int.pow_succ, Int.ediv_ediv_of_nonneg this]
theorem bitI_succ (s : Int) (i : Nat) : bitI s (i + 1) = bitI (s / 2) i := by unfold bitI; rw [ediv_pow_succ]
def enc : Nat → (Nat → Bool) → Nat
 | 0, _ => 0
 | n + 1, b => (if b 0 = true then 1 else 0) + 2 * enc n fun i => b (i + 1)
theorem enc_lt : ∀ (n : Nat) (b : Nat → Bool), enc n b < 2 ^ n
 | 0, _ => by simp [enc]
 | n + 1, b => by
  have := enc_lt n fun i => b (i + 1)
  simp only [enc]
  rw [Nat.pow_succ]
  split <;> omega
theorem enc_bit : ∀ (n : Nat) (b : Nat → Bool) (i : Nat), i < n → bitI (enc n b : Int) i = b i
 | n + 1, b, 0, _ => by
  rw [bitI_zero]
  simp only [enc]
  push_cast
  by_cases q : b 0 = true
  ·rw [if_pos q, q]; simp
  ·rw [if_neg q]
   have : b 0 = false := by simpa using q
   rw [this]; simp
 | n + 1, b, i + 1, hi => by
  have ih := enc_bit n (fun i => b (i + 1)) i (by omega)
  rw [bitI_succ]
  rw [show ((enc (n + 1) b : Nat) : Int) / 2 = (enc n fun i => b (i + 1) : Int) by
   simp only [enc]; push_cast; split <;> omega]
  exact ih
theorem enc_pos {n : Nat} {b : Nat → Bool} {i : Nat} (hi : i < n) (hb : b i = true) : 1 ≤ enc n b := by
 rcases Nat.eq_zero_or_pos (enc n b) with h | h
 ·have := enc_bit n b i hi
  rw [h, hb] at this
  simp [bitI] at this
 ·exact h
theorem bits_all : ∀ (n : Nat) (i : Nat), i < n → bitI ((2 : Int) ^ n - 1) i = true
 | n + 1, 0, _ => by
  rw [bitI_zero, Int.pow_succ]; simp; try omega
 | n + 1, i + 1, hi => by
  rw [bitI_succ, Int.pow_succ, show ((2 : Int) ^ n * 2 - 1) / 2 = 2 ^ n - 1 by omega]
  exact bits_all n i (by omega)
theorem pow12 {n : Nat} (h : n ≤ 12) : (1 : Int) ≤ 2 ^ n ∧ (2 : Int) ^ n ≤ 4096 := by
 have : n = 0 ∨ n = 1 ∨ n = 2 ∨ n = 3 ∨ n = 4 ∨ n = 5 ∨ n = 6 ∨ n = 7 ∨ n = 8 ∨ n = 9 ∨ n = 10 ∨ n = 11 ∨ n = 12 := by omega
 rcases this with rfl | rfl | rfl | rfl | rfl | rfl | rfl | rfl | rfl | rfl | rfl | rfl | rfl <;> decide
def upB (N : List Int) (m : Int) (i : Nat) : Bool := decide (N.getD i 0 ≤ m)
def GoodM (N S : List Int) (m : Int) : Prop := payP (upB N m) S N.length ≤ m ∧ (MaxOK N m → payP (upB N m) S N.length = m)
def CoreOK (N S : List Int) : Prop := ∀ m ∈ N, GoodM N S m
def GoodS (N S : List Int) (s : Int) : Prop := payP (bitI s) S N.length ≤ costP (bitI s) N N.length ∧ (s = 2 ^ N.length - 1 → payP (bitI s) S N.length = costP (bitI s) N N.length)
theorem MaxOK.exists : ∀ {N : List Int}, 1 ≤ N.length → ∃ m, MaxOK N m
 | [], h => by simp at h
 | [x], _ => ⟨x, List.mem_singleton.2 rfl, fun c hc => by rw [List.mem_singleton.1 hc]; exact Int.le_refl _⟩
 | x :: y :: l, _ => by
  obtain ⟨m, h1, h2⟩ := MaxOK.exists (N := y :: l) (by simp)
  by_cases q : x ≤ m
  ·refine ⟨m, List.mem_cons_of_mem _ h1, fun c hc => ?_⟩
   rcases List.mem_cons.1 hc with rfl | hc
   ·exact q
   ·exact h2 c hc
  ·refine ⟨x, List.mem_cons_self, fun c hc => ?_⟩
   rcases List.mem_cons.1 hc with rfl | hc
   ·exact Int.le_refl _
   ·have := h2 c hc; omega
theorem NeedsB.get0 {N : List Int} (h : NeedsB N) (i : Nat) : 0 ≤ N.getD i 0 := (h.get i).1
theorem CoreOK.group {N S : List Int} (h : CoreOK N S) (hN : NeedsB N) (hS : NeedsB S) (b : Nat → Bool) : payP b S N.length ≤ costP b N N.length := by
 obtain ⟨h0, h1, h2⟩ := costP_mem (b := b) hN.get0 N.length
 rcases h2 with h2 | ⟨i, hi, h3, h4⟩
 ·by_cases q : ∃ i, i < N.length ∧ b i = true
  ·obtain ⟨i, hi, hb⟩ := q
   have h5 := h1 i hi hb
   have h6 := hN.get0 i
   have h7 : N.getD i 0 = 0 := by omega
   have h8 := (h (N.getD i 0) (getD_mem hi)).1
   have h9 := payP_mono (b := b) (c := upB N (N.getD i 0)) hS.get0 N.length fun j hj hb => decide_eq_true (by have := h1 j hj hb; omega)
   omega
  ·have h9 := payP_mono (b := b) (c := fun _ => false) hS.get0 N.length fun j hj hb => absurd ⟨j, hj, hb⟩ q
   have h10 : ∀ n, payP (fun _ => false) S n = 0 := by
    intro n
    induction n with
    | zero => rfl
    | succ n ih => simp only [payP, ih]; simp
   rw [h10] at h9
   omega
 ·rw [h4]
  have h8 := (h (N.getD i 0) (getD_mem hi)).1
  have h9 := payP_mono (b := b) (c := upB N (N.getD i 0)) hS.get0 N.length fun j hj hb => decide_eq_true (by have := h1 j hj hb; omega)
  omega
theorem cost_all {N : List Int} (hN : NeedsB N) {m : Int} (hm : MaxOK N m) {b : Nat → Bool} (hb : ∀ i, i < N.length → b i = true) : costP b N N.length = m := by
 obtain ⟨h0, h1, h2⟩ := costP_mem (b := b) hN.get0 N.length
 obtain ⟨i, hi, he⟩ := List.getElem_of_mem hm.1
 have h3 := h1 i hi (hb i hi)
 rw [getD_get hi, he] at h3
 rcases h2 with h2 | ⟨j, hj, _, h4⟩
 ·have := hN m hm.1; omega
 ·have := hm.2 _ (getD_mem (d := 0) hj)
  omega
theorem pay_all {N S : List Int} {m : Int} (hm : MaxOK N m) {b : Nat → Bool} (hb : ∀ i, i < N.length → b i = true) : payP b S N.length = payP (upB N m) S N.length :=
 payP_congr _ fun i hi => by rw [hb i hi]; exact (decide_eq_true (hm.2 _ (getD_mem hi))).symm
theorem CoreOK.sets {N S : List Int} (h : CoreOK N S) (hN : NeedsB N) (hS : NeedsB S) (h1 : 1 ≤ N.length) (s : Int) : GoodS N S s := by
 refine ⟨h.group hN hS _, fun e => ?_⟩
 obtain ⟨m, hm⟩ := MaxOK.exists h1
 have hb : ∀ i, i < N.length → bitI s i = true := fun i hi => by rw [e]; exact bits_all _ i hi
 rw [cost_all hN hm hb, pay_all hm hb]
 exact (h m hm.1).2 hm
theorem CoreOK.back {N S : List Int} (hN : NeedsB N) (h : ∀ s : Int, 1 ≤ s → s ≤ 2 ^ N.length - 1 → GoodS N S s) : CoreOK N S := by
 intro m hm
 obtain ⟨i, hi, he⟩ := List.getElem_of_mem hm
 have hb : upB N m i = true := decide_eq_true (by rw [getD_get hi, he]; exact Int.le_refl _)
 have h1 := enc_pos hi hb
 have h2 := enc_lt N.length (upB N m)
 have h2' : ((enc N.length (upB N m) : Nat) : Int) < 2 ^ N.length := by exact_mod_cast h2
 have hg := h (enc N.length (upB N m)) (by omega) (by omega)
 have e1 : payP (bitI (enc N.length (upB N m) : Int)) S N.length = payP (upB N m) S N.length := payP_congr _ fun j hj => enc_bit _ _ _ hj
 have e2 : costP (bitI (enc N.length (upB N m) : Int)) N N.length = costP (upB N m) N N.length := costP_congr _ fun j hj => enc_bit _ _ _ hj
 have e3 : costP (upB N m) N N.length = m := by
  obtain ⟨h0, c1, c2⟩ := costP_mem (b := upB N m) hN.get0 N.length
  have h3 := c1 i hi hb
  rw [getD_get hi, he] at h3
  rcases c2 with c2 | ⟨j, hj, c3, c4⟩
  ·have := hN m hm; omega
  ·have := of_decide_eq_true c3
   omega
 refine ⟨by have := hg.1; rw [e1, e2, e3] at this; exact this, fun hx => ?_⟩
 have p := (pow12 (n := 0) (by omega)).1
 have hs := h (2 ^ N.length - 1) (by
  have : (enc N.length (upB N m) : Int) < 2 ^ N.length := h2'
  omega) (Int.le_refl _)
 have ha : ∀ i, i < N.length → bitI (2 ^ N.length - 1) i = true := fun i hi => bits_all _ i hi
 have := hs.2 rfl
 rw [cost_all hN hx ha, pay_all hx ha] at this
 exact this
def CoreR (N S : List Int) (r : Bool × Int) : Prop :=
 (askedV N ≠ 0 ∧ r = (false, askedV N)) ∨ (askedV N = 0 ∧ S.length ≠ N.length ∧ r = (false, 1)) ∨ (askedV N = 0 ∧ S.length = N.length ∧ ¬ NeedsB S ∧ r = (false, 6)) ∨ (askedV N = 0 ∧ S.length = N.length ∧ NeedsB S ∧ r.2 = 0 ∧ (r.1 = true ↔ CoreOK N S))
theorem CoreR.one {N S : List Int} {r s : Bool × Int} (h : CoreR N S r) (h' : CoreR N S s) : r = s := by
 rcases h with ⟨a, b⟩ | ⟨a, b, c⟩ | ⟨a, b, c, d⟩ | ⟨a, b, c, d, e⟩ <;> rcases h' with ⟨a', b'⟩ | ⟨a', b', c'⟩ | ⟨a', b', c', d'⟩ | ⟨a', b', c', d', e'⟩
 ·rw [b, b']
 ·exact absurd a' a
 ·exact absurd a' a
 ·exact absurd a' a
 ·exact absurd a a'
 ·rw [c, c']
 ·exact absurd b' b
 ·exact absurd b' b
 ·exact absurd a a'
 ·exact absurd b b'
 ·rw [d, d']
 ·exact absurd c' c
 ·exact absurd a a'
 ·exact absurd b b'
 ·exact absurd c c'
 ·obtain ⟨r1, r2⟩ := r
  obtain ⟨s1, s2⟩ := s
  simp only at d e d' e'
  rw [d, d']
  congr 1
  rw [Bool.eq_iff_iff, e, e']
theorem core1_eq (F : Nat) (c : Int) : fees_Core_1 F c = some (!decide (0 ≤ c ∧ c ≤ 1000000000)) := by
 show some (!(decide (c ≥ 0) && decide (c ≤ 1000000000))) = _
 rw [wb]
theorem Core_ok {F : Nat} (hF : 2000000000000 < F) {N S : List Int} (hSl : S.length ≤ 1000) : Ok (CoreR N S) (fees_Core F N S) := by
 unfold fees_Core
 refine ok_bnde (asked_eq (by omega) N) (ok_brk (fun hb => ok_some ?_) (fun hb => ?_))
 ·exact .inl ⟨by simpa using hb, rfl⟩
 have hz : askedV N = 0 := by simpa using hb
 obtain ⟨h1, h2, h⟩ := askedV_zero hz
 refine ok_brk (fun hb => ok_some ?_) (fun hb => ?_)
 ·have hb : ¬ (S.length : Int) = N.length := by simpa using hb
  exact .inr (.inl ⟨hz, by omega, rfl⟩)
 have hl : S.length = N.length := by
  have hb : (S.length : Int) = N.length := by simpa using hb
  omega
 refine ok_join (by omega) (fun x : Int => (x = -1 ∧ NeedsB S) ∨ (0 ≤ x ∧ ¬ NeedsB S)) (fun x hx => ok_brk (fun hb => ok_some ?_) (fun hb => ?_)) fun k hk => ?_
 ·have hb : x ≥ 0 := of_decide_eq_true hb
  rcases hx with ⟨rfl, _⟩ | ⟨_, q⟩
  ·omega
  ·exact .inr (.inr (.inl ⟨hz, hl, q, rfl⟩))
 ·have hb : ¬ x ≥ 0 := of_decide_eq_false hb
  have hS : NeedsB S := by
   rcases hx with ⟨_, q⟩ | ⟨q, _⟩
   ·exact q
   ·omega
  clear hx
  obtain ⟨n, hn⟩ : ∃ n, N.length = n := ⟨_, rfl⟩
  rw [hn]
  have fin : ∀ r : Bool × Int, r.2 = 0 → (r.1 = true ↔ CoreOK N S) → CoreR N S r := fun r q1 q2 => .inr (.inr (.inr ⟨hz, hl, hS, q1, q2⟩))
  refine ok_loop (fun x : Int => 0 ≤ x ∧ x ≤ n ∧ ∀ j : Nat, (j : Int) < x → GoodM N S (N.getD j 0)) (fun x => n - x.toNat) ⟨by simp, by simp, fun j hj => by omega⟩ (by simp; omega) ?_
  rintro i next ⟨i1, i2, i3⟩ hnx
  refine ok_brk (fun hc => ?_) (fun hc => ok_some (fin _ rfl ?_))
  ·have hc : i < n := of_decide_eq_true hc
   have hi : i.toNat < N.length := by omega
   refine ok_chk ⟨i1, hc⟩ ?_
   obtain ⟨m, hm⟩ : ∃ m, N.getD i.toNat 0 = m := ⟨_, rfl⟩
   rw [hm]
   have hpb := fun j => payP_bound (b := upB N m) (S := S) (fun i => ⟨(hS.get i).1, by have := (hS.get i).2; omega⟩) j
   refine ok_loop (fun x : Int × Int => 0 ≤ x.1 ∧ x.1 ≤ n ∧ x.2 = payP (upB N m) S x.1.toNat) (fun x => n - x.1.toNat) ⟨by simp, by show (0 : Int) ≤ n; omega, rfl⟩ (by simp; omega) ?_
   rintro ⟨j, pays⟩ next2 ⟨j1, j2, j3⟩ hn2
   simp only at j1 j2 j3
   dsimp only
   refine ok_brk (fun hd => ?_) (fun hd => ?_)
   ·have hd : j < n := of_decide_eq_true hd
    have hst : payP (upB N m) S (j + 1).toNat = payP (upB N m) S j.toNat + if N.getD j.toNat 0 ≤ m then S.getD j.toNat 0 else 0 := by
     rw [show (j + 1).toNat = j.toNat + 1 by omega]
     simp only [payP, upB, decide_eq_true_eq]
    have b1 := hpb j.toNat
    have b2 := hpb (j + 1).toNat
    refine ok_join (by omega) (fun x : Int => x = payP (upB N m) S (j + 1).toNat) (fun x hx => ok_chk (show InR _ from ⟨by omega, by omega⟩) (hn2 _ ⟨by show 0 ≤ j + 1; omega, by show j + 1 ≤ n; omega, hx⟩ (by show n - (j + 1).toNat < n - j.toNat; omega))) fun k hk => ?_
    refine ok_chk ⟨j1, hd⟩ (ok_brk (fun he => ?_) (fun he => ?_))
    ·have he := of_decide_eq_true he
     rw [if_pos he] at hst
     exact ok_chk ⟨j1, by omega⟩ (ok_chk (show InR _ from ⟨by omega, by omega⟩) (hk _ (by omega)))
    ·have he := of_decide_eq_false he
     rw [if_neg he] at hst
     exact hk _ (by omega)
   ·have hd : ¬ j < n := of_decide_eq_false hd
    have hp : pays = payP (upB N m) S N.length := by rw [j3, show j.toNat = N.length by omega]
    have hmem : m ∈ N := by rw [← hm]; exact getD_mem hi
    refine ok_bnd (fun mx : Int => pays > m ∨ MaxOK N mx) ?_ fun mx hmx => ok_brk (fun he => ok_some (fin _ rfl ?_)) (fun he => ?_)
    ·refine ok_brk (fun he => ?_) (fun he => ok_some ?_)
     ·exact (max_ok (by omega) (by omega) h1).mono fun r hr => .inr hr
     ·simp only [Bool.not_eq_false', decide_eq_true_eq] at he
      exact .inl he
    ·simp only [Bool.or_eq_true, Bool.and_eq_true, decide_eq_true_eq, bne_iff_ne, beq_iff_eq] at he
     refine ⟨(fun q => nomatch q), fun q => ?_⟩
     have hg := q m hmem
     unfold GoodM at hg
     rw [← hp] at hg
     rcases he with he | ⟨e1, e2⟩
     ·omega
     ·rcases hmx with hmx | hmx
      ·omega
      ·rw [← e1] at hmx
       exact absurd (hg.2 hmx) e2
    ·simp only [Bool.or_eq_false_iff, Bool.and_eq_false_iff, decide_eq_false_iff_not, bne_eq_false_iff_eq, beq_eq_false_iff_ne] at he
     refine ok_chk (show InR _ from ⟨by omega, by omega⟩) (hnx _ ⟨by omega, by omega, fun q hq => ?_⟩ (by show n - (i + 1).toNat < n - i.toNat; omega))
     by_cases e : (q : Int) < i
     ·exact i3 q e
     ·obtain rfl : q = i.toNat := by omega
      rw [hm]
      unfold GoodM
      rw [← hp]
      refine ⟨by omega, fun hx => ?_⟩
      rcases hmx with hmx | hmx
      ·omega
      ·rcases he.2 with t | t
       ·exact absurd (hx.one hmx) t
       ·exact t
  ·have hc : ¬ i < n := of_decide_eq_false hc
   refine ⟨fun _ m hm => ?_, fun _ => rfl⟩
   obtain ⟨j, hj, rfl⟩ := List.getElem_of_mem hm
   have := i3 j (by omega)
   rwa [getD_get hj] at this
 ·refine ok_find (p := fun c => !decide (0 ≤ c ∧ c ≤ 1000000000)) (by omega) (by omega) (fun c _ => core1_eq F c) (fun i hi hp => hk _ (.inr ⟨by omega, fun q => nd_true hp (q _ (getD_mem hi))⟩)) (fun hp => hk _ (.inl ⟨rfl, fun c hc => nd_false (hp c hc)⟩))
theorem refCore_ok {F : Nat} (hF : 2000000000000 < F) {N S : List Int} (hSl : S.length ≤ 1000) : Ok (CoreR N S) (ref12_Core F N S) := by
 unfold ref12_Core
 refine ok_bnde (needed_eq (by omega) N) (ok_brk (fun hb => ok_some ?_) (fun hb => ?_))
 ·exact .inl ⟨by simpa using hb, rfl⟩
 have hz : askedV N = 0 := by simpa using hb
 obtain ⟨h1, h2, h⟩ := askedV_zero hz
 refine ok_brk (fun hb => ok_some ?_) (fun hb => ?_)
 ·have hb : ¬ (S.length : Int) = N.length := by simpa using hb
  exact .inr (.inl ⟨hz, by omega, rfl⟩)
 have hl : S.length = N.length := by
  have hb : (S.length : Int) = N.length := by simpa using hb
  omega
 obtain ⟨n, hn⟩ : ∃ n, N.length = n := ⟨_, rfl⟩
 have p12 := pow12 (n := n) (by omega)
 rw [hl, hn]
 refine ok_loop (fun x : Int => 0 ≤ x ∧ x ≤ n ∧ ∀ j : Nat, (j : Int) < x → 0 ≤ S.getD j 0 ∧ S.getD j 0 ≤ 1000000000) (fun x => n - x.toNat) ⟨by simp, by simp, fun j hj => by omega⟩ (by simp; omega) ?_
 rintro i next ⟨i1, i2, i3⟩ hnx
 refine ok_brk (fun hc => ?_) (fun hc => ?_)
 ·have hc : i < n := of_decide_eq_true hc
  rw [refIn_eq, wb]
  refine ok_chk ⟨i1, hc⟩ (ok_bnde rfl (ok_brk (fun hb => ok_some ?_) (fun hb => ok_chk (show InR _ from ⟨by omega, by omega⟩) (hnx _ ⟨by omega, by omega, fun j hj => ?_⟩ (by show n - (i + 1).toNat < n - i.toNat; omega)))))
  ·exact .inr (.inr (.inl ⟨hz, hl, fun q => nd_true hb (q _ (getD_mem (d := 0) (show i.toNat < S.length by omega))), rfl⟩))
  ·by_cases e : (j : Int) < i
   ·exact i3 j e
   ·obtain rfl : j = i.toNat := by omega
    exact nd_false hb
 have hc : ¬ i < n := of_decide_eq_false hc
 have hS : NeedsB S := fun c hc => by
  obtain ⟨j, hj, rfl⟩ := List.getElem_of_mem hc
  have := i3 j (by omega)
  rwa [getD_get hj] at this
 clear hnx i3
 have fin : ∀ r : Bool × Int, r.2 = 0 → (r.1 = true ↔ CoreOK N S) → CoreR N S r := fun r q1 q2 => .inr (.inr (.inr ⟨hz, hl, hS, q1, q2⟩))
 rw [show ((n : Nat) : Int).toNat = n by omega]
 generalize hP : (2 : Int) ^ n = P at p12 ⊢
 refine ok_chk ⟨by omega, show InR _ from ⟨by omega, by omega⟩⟩ (ok_chk (show InR _ from ⟨by omega, by omega⟩) ?_)
 refine ok_loop (fun x : Int => 1 ≤ x ∧ x ≤ P ∧ ∀ s : Int, 1 ≤ s → s < x → GoodS N S s) (fun x => (P - x).toNat) ⟨by omega, by omega, fun s q1 q2 => by omega⟩ (by omega) ?_
 rintro s next ⟨s1, s2, s3⟩ hnx
 refine ok_brk (fun hd => ?_) (fun hd => ok_some (fin _ rfl ?_))
 ·have hd : s ≤ 1 * P - 1 := of_decide_eq_true hd
  have hpb := fun j => payP_bound (b := bitI s) (S := S) (fun i => ⟨(hS.get i).1, by have := (hS.get i).2; omega⟩) j
  refine ok_loop (fun x : Int × Int × Int × Int => 0 ≤ x.2.2.1 ∧ x.2.2.1 ≤ n ∧ x.1 = s / 2 ^ x.2.2.1.toNat ∧ 0 ≤ x.1 ∧ x.1 ≤ s ∧ x.2.1 = payP (bitI s) S x.2.2.1.toNat ∧ x.2.2.2 = costP (bitI s) N x.2.2.1.toNat) (fun x => n - x.2.2.1.toNat)
   ⟨by simp, by show (0 : Int) ≤ n; omega, by show s = s / 2 ^ (0 : Int).toNat; simp, by show 0 ≤ s; omega, Int.le_refl _, rfl, rfl⟩ (by simp; omega) ?_
  rintro ⟨x, pays, j, cost⟩ next2 ⟨j1, j2, j3, j4, j5, j6, j7⟩ hn2
  simp only at j1 j2 j3 j4 j5 j6 j7
  dsimp only
  refine ok_brk (fun he => ?_) (fun he => ?_)
  ·have he : j < n := of_decide_eq_true he
   have hbit : bitI s j.toNat = (x % 2 == 1) := by unfold bitI; rw [j3]
   have hst : payP (bitI s) S (j + 1).toNat = payP (bitI s) S j.toNat + if (x % 2 == 1) = true then S.getD j.toNat 0 else 0 := by
    rw [show (j + 1).toNat = j.toNat + 1 by omega, ← hbit]
    simp only [payP]
   have hst2 : costP (bitI s) N (j + 1).toNat = if (x % 2 == 1) = true ∧ N.getD j.toNat 0 > costP (bitI s) N j.toNat then N.getD j.toNat 0 else costP (bitI s) N j.toNat := by
    rw [show (j + 1).toNat = j.toNat + 1 by omega, ← hbit]
    simp only [costP]
   have b1 := hpb j.toNat
   have b2 := hpb (j + 1).toNat
   refine ok_join (by omega) (fun x : Int × Int => x.1 = payP (bitI s) S (j + 1).toNat ∧ x.2 = costP (bitI s) N (j + 1).toNat) (fun y hy => ok_chk ⟨j4, by omega⟩ (ok_chk (show InR _ from ⟨by omega, by omega⟩) (hn2 _ ⟨by show 0 ≤ j + 1; omega, by show j + 1 ≤ n; omega, ?_, by show 0 ≤ x / 2; omega, by show x / 2 ≤ s; omega, hy.1, hy.2⟩ (by show n - (j + 1).toNat < n - j.toNat; omega)))) fun k hk => ?_
   ·show x / 2 = s / 2 ^ (j + 1).toNat
    rw [show (j + 1).toNat = j.toNat + 1 by omega, ediv_pow_succ', ← j3]
   refine ok_chk ⟨j4, by omega⟩ (ok_brk (fun hf => ?_) (fun hf => ?_))
   ·rw [if_pos hf] at hst
    refine ok_chk ⟨j1, he⟩ (ok_chk (show InR _ from ⟨by omega, by omega⟩) (ok_chk ⟨j1, he⟩ (hk _ ⟨by show pays + _ = _; omega, ?_⟩)))
    show (if N.getD j.toNat 0 > cost then N.getD j.toNat 0 else cost) = _
    rw [hst2, ← j7]
    by_cases q : N.getD j.toNat 0 > cost
    ·rw [if_pos q, if_pos ⟨hf, q⟩]
    ·rw [if_neg q, if_neg fun t => q t.2]
   ·rw [if_neg (by rw [hf]; exact Bool.false_ne_true)] at hst
    rw [if_neg (fun t => by rw [hf] at t; exact Bool.false_ne_true t.1)] at hst2
    exact hk _ ⟨by show pays = _; omega, by show cost = _; omega⟩
  ·have he : ¬ j < n := of_decide_eq_false he
   have hj : j.toNat = N.length := by omega
   rw [hj] at j6 j7
   refine ok_brk (fun hf => ok_some (fin _ rfl ?_)) (fun hf => ?_)
   ·simp only [Bool.or_eq_true, Bool.and_eq_true, decide_eq_true_eq, bne_iff_ne, beq_iff_eq] at hf
    refine ⟨(fun q => nomatch q), fun q => ?_⟩
    have hg := q.sets h hS h1 s
    unfold GoodS at hg
    rw [← j6, ← j7, hn, hP] at hg
    rcases hf with hf | ⟨f1, f2⟩
    ·omega
    ·exact absurd (hg.2 (by omega)) f2
   ·simp only [Bool.or_eq_false_iff, Bool.and_eq_false_iff, decide_eq_false_iff_not, bne_eq_false_iff_eq, beq_eq_false_iff_ne] at hf
    refine ok_chk (show InR _ from ⟨by omega, by omega⟩) (hnx _ ⟨by omega, by omega, fun t t1 t2 => ?_⟩ (by omega))
    by_cases e : t < s
    ·exact s3 t t1 e
    ·obtain rfl : t = s := by omega
     unfold GoodS
     rw [← j6, ← j7, hn, hP]
     refine ⟨by omega, fun hx => ?_⟩
     rcases hf.2 with q | q
     ·omega
     ·exact q
 ·have hd : ¬ s ≤ 1 * P - 1 := of_decide_eq_false hd
  exact ⟨fun _ => CoreOK.back h (fun t t1 t2 => s3 t t1 (by rw [hn, hP] at t2; omega)), fun _ => rfl⟩
theorem sameR_ok {F : Nat} {l : List Ratio} (hF : l.length < F) (hl : l.length ≤ 1000000) : kit_SameRatios F l l = some true := by
 refine Ok.eq ?_
 unfold kit_SameRatios
 refine ok_brkF (by simp) ?_
 refine ok_loop (fun x : Int => 0 ≤ x ∧ x ≤ l.length) (fun x : Int => l.length - x.toNat) ⟨by simp, by simp⟩ (by simp; omega) ?_
 rintro i next ⟨i1, i2⟩ hn
 refine ok_brk (fun hc => ?_) (fun hc => ok_some rfl)
 have hc : i < l.length := of_decide_eq_true hc
 exact ok_chk ⟨i1, hc⟩ (ok_chk ⟨i1, hc⟩ (ok_brkF (by simp) (ok_chk (show InR _ from ⟨by omega, by omega⟩) (hn _ ⟨by omega, by omega⟩ (by show l.length - (i + 1).toNat < l.length - i.toNat; omega)))))
theorem feesShares_ok' {F : Nat} (hF : F = 1000000000000000) (N S : List Int) : law12_FeesShares F N S = some true := by
 have haw : law12_awake F = some true := by rw [hF]; exact awake_eq
 refine Ok.eq ?_
 unfold law12_FeesShares
 rw [haw]
 refine ok_brk (fun hb => ok_bnde rfl (ok_some rfl)) (fun hb => ?_)
 simp only [Bool.or_eq_false_iff, decide_eq_false_iff_not] at hb
 have hl : N.length ≤ 20 ∧ S.length ≤ 20 := by omega
 rw [copyInts_eq (by omega), copyInts_eq (by omega)]
 refine ok_bnde rfl (ok_bnde rfl ?_)
 refine ok_bnde (Exact_eq (by omega) N) (ok_bnde (refExact_eq (by omega) N) ?_)
 have hR : ∀ x : List Ratio × Int, x = (if askedV N = 0 then (exactR N, 0) else ([], askedV N)) → x.1.length ≤ 20 := by
  rintro x rfl
  by_cases q : askedV N = 0
  ·rw [if_pos q]; show (exactR N).length ≤ 20
   unfold exactR
   rw [List.length_map, shV_length]; omega
  ·rw [if_neg q]; simp
 generalize hg : (if askedV N = 0 then (exactR N, 0) else ([], askedV N)) = x
 have hx := hR x hg.symm
 have e0 : (x.2 != x.2) = false := by simp
 rw [e0]
 refine ok_bnde (show brk true _ _ = _ from sameR_ok (by omega) (by omega)) (ok_brkF rfl ?_)
 refine ok_bnd _ (Share_ok (by omega) N) ?_
 rintro ⟨a, x⟩ h3
 refine ok_bnd _ (refShareE_ok (by omega) N) ?_
 rintro ⟨b, y⟩ h4
 have e2 : a = b ∧ x = y ∧ a.length ≤ 50 := by
  rcases h3 with ⟨q1, q2⟩ | ⟨q1, q2, m, rank, q3, q4, q5⟩ <;> rcases h4 with ⟨p1, p2⟩ | ⟨p1, p2, m', p3, p4⟩
  ·cases q2; cases p2; exact ⟨rfl, rfl, by simp⟩
  ·exact absurd p1 q1
  ·exact absurd q1 p1
  ·obtain rfl := q3.one p3
   exact ⟨q5.one (p4 rank q4), q2.trans p2.symm, by have := q5.len; simp only at this; omega⟩
 obtain ⟨rfl, rfl, e3⟩ := e2
 have h5 : ((a, x).snd != (a, x).snd) = false := by simp
 rw [h5]
 refine ok_bnde (show brk true _ _ = _ from same_ok (by show a.length < F; omega) (by show a.length ≤ _; omega)) (ok_brkF rfl ?_)
 refine ok_bnd _ (Core_ok (by omega) (by omega)) fun r hr => ok_bnd _ (refCore_ok (by omega) (by omega)) fun s hs => ?_
 obtain rfl := hr.one hs
 have h6 : ((r.1 == r.1) && (r.2 == r.2)) = true := by simp
 rw [h6]
 refine ok_bnde (show brk true _ _ = _ from same_ok (by omega) (by omega)) ?_
 refine ok_bnde (show brk (true && true) _ _ = _ from same_ok (by omega) (by omega)) ?_
 exact ok_bnde (show brk _ _ _ = some true from rfl) (ok_some rfl)
end Go.Proofs.Fz

namespace Go.Proofs.Fz
open Go Go.KX
abbrev F0 : Nat := 1000000000000000
noncomputable def mon (s : State) (p : List Int) (b : List (List Int)) (l : Int) : Bool := law12_FeesMonths F0 s p b l == some true
theorem mon_eq {s : State} {p : List Int} {b : List (List Int)} {l : Int} (h : mon s p b l = true) : law12_FeesMonths F0 s p b l = some true := eq_of_beq h
theorem base_eq : mon (State.mk [(61 : Int), (5 : Int)] [[(30 : Int), (10 : Int)], [(0 : Int), (7 : Int)]]) [(9 : Int), (0 : Int)] [[(0 : Int), (5 : Int)], [(1 : Int), (1 : Int)]] (10 : Int) = true := by kernel_rfl
noncomputable def mOne (v : Int) : Bool :=
 mon (State.mk ([(61 : Int), (5 : Int)].set (Int.toNat (1 : Int)) v) [[(30 : Int), (10 : Int)], [(0 : Int), (7 : Int)]]) [(9 : Int), (0 : Int)] [[(0 : Int), (5 : Int)], [(1 : Int), (1 : Int)]] (10 : Int) &&
 (mon (State.mk [(61 : Int), (5 : Int)] [[(30 : Int), (10 : Int)].set (Int.toNat (1 : Int)) v, [(0 : Int), (7 : Int)]]) [(9 : Int), (0 : Int)] [[(0 : Int), (5 : Int)], [(1 : Int), (1 : Int)]] (10 : Int) &&
 (mon (State.mk [(61 : Int), (5 : Int)] [[(30 : Int), (10 : Int)], [(0 : Int), (7 : Int)]]) ([(9 : Int), (0 : Int)].set (Int.toNat (0 : Int)) v) [[(0 : Int), (5 : Int)], [(1 : Int), (1 : Int)]] (10 : Int) &&
 (mon (State.mk [(61 : Int), (5 : Int)] [[(30 : Int), (10 : Int)], [(0 : Int), (7 : Int)]]) [(9 : Int), (0 : Int)] [[(0 : Int), (5 : Int)], [(1 : Int), (1 : Int)].set (Int.toNat (0 : Int)) v] (10 : Int) &&
 mon (State.mk [(61 : Int), (5 : Int)] [[(30 : Int), (10 : Int)], [(0 : Int), (7 : Int)]]) [(9 : Int), (0 : Int)] [[(0 : Int), (5 : Int)], [(1 : Int), (1 : Int)]] v)))
theorem months_eq : nums.all mOne = true := by kernel_rfl
def ns14 : List Int := [0, 1, 2, 3, 4, 5, 6, 7, 8, 9, 10, 11, 12, 13]
noncomputable def nOne (n : Int) : Bool := match slices_Repeat_Lint F0 [List.replicate (n / (2 : Int)).toNat (0 : Int)] n, slices_Repeat_int F0 [(7 : Int) * n] n, slices_Repeat_int F0 [n] ((29 : Int) + n) with
 | some r, some _, some _ => mon (State.mk (List.replicate (Int.toNat n) (0 : Int)) r) (List.replicate (Int.toNat n) (0 : Int)) r (3 : Int) &&
  (mon (State.mk (List.replicate (Int.toNat n) (0 : Int)) r) (List.replicate (Int.toNat n) (0 : Int)) [] (3 : Int) &&
  mon (State.mk (List.replicate (Int.toNat (2 : Int)) (0 : Int)) (List.replicate (Int.toNat n) [])) [] [] (0 : Int))
 | _, _, _ => false
theorem ns_eq : ns14.all nOne = true := by kernel_rfl
noncomputable def exT : Tariff := Tariff.mk [Band.mk (2000 : Int) (50 : Int), Band.mk (500000 : Int) (20 : Int)] (A7ofInt.mk 150 120 100 80 70 60 50) (1000 : Int) (1000000000 : Int) (3 : Int) (7 : Int) (900 : Int) (2000 : Int) (3000 : Int)
theorem ex_eq (F : Nat) : law12_Example F = some exT := rfl
noncomputable def sOne (n : Int) : Option (List Account × Int × Int) := match slices_Repeat_fees_Voyage F0 [Voyage.mk (0 : Int) (0 : Int) (1 : Int) (0 : Int) (0 : Int) (0 : Int) (0 : Int)] n with
 | some l => fees_Season F0 exT l
 | none => none
theorem s501 : (match sOne 501 with | some r => r.2.2 == 2 | none => false) = true := by kernel_rfl
theorem s500 : (match sOne 500 with | some r => r.2.2 == 0 && ((r.1.length : Int) == 500 && r.2.1 == 3000) | none => false) = true := by kernel_rfl
end Go.Proofs.Fz

namespace Go.Proofs.Fz
open Go Go.KX
theorem ch {p : Prop} [Decidable p] (h : decide p = true) : p := of_decide_eq_true h
set_option maxRecDepth 100000 in
set_option maxHeartbeats 4000000 in
theorem feesSmall_ok' {F : Nat} (hF : F = F0) : law12_FeesSmall F = some true := by
 have F1 : 1000000 < F := by rw [hF]; decide
 suffices H : Ok (fun r => r = true) (law12_FeesSmall F) by obtain ⟨r, h1, rfl⟩ := H; exact h1
 unfold law12_FeesSmall
 refine ok_loop (fun x : Int => 0 ≤ x ∧ x ≤ 34) (fun x => (34 - x).toNat) ⟨Int.le_refl _, by decide⟩ (by show (34 - (0 : Int)).toNat < F; omega) ?_
 intro x next ⟨x0, x1⟩ hn
 refine ok_brk (fun hc => ?_) (fun _ => ?_)
 ·have hc : x < 34 := of_decide_eq_true hc
  refine ok_chk ⟨x0, hc⟩ ?_
  iterate 24 (refine ok_bnde (ex_eq F) (ok_chk (ch rfl) (ok_chk (ch rfl) (ok_chk (ch rfl) (ok_bnde (feesBills_ok' hF _ _ _ _ _ _ _) (ok_brkF rfl ?_))))))
  have hm : mOne (nv x) = true := List.all_eq_true.1 months_eq _ (getD_mem (by show x.toNat < 34; omega))
  simp only [mOne, Bool.and_eq_true] at hm
  obtain ⟨m1, m2, m3, m4, m5⟩ := hm
  have m0 := mon_eq base_eq
  have m1 := mon_eq m1
  have m2 := mon_eq m2
  have m3 := mon_eq m3
  have m4 := mon_eq m4
  have m5 := mon_eq m5
  rw [← hF] at m0 m1 m2 m3 m4 m5
  iterate 4 (refine ok_chk (ch rfl) (ok_chk (ch rfl) (ok_chk (ch rfl) (ok_chk (ch rfl) (ok_chk (ch rfl) (ok_chk (ch rfl) (ok_chk (ch rfl) (ok_bnde (feesShares_ok' hF _ _) (ok_bnde (brk_true.trans (feesAwards_ok' hF _ _)) (ok_bnde (brk_true.trans m0) (ok_brkF rfl ?_)))))))))))
  iterate 1 (refine ok_chk (ch rfl) (ok_chk (ch rfl) (ok_chk (ch rfl) (ok_chk (ch rfl) (ok_chk (ch rfl) (ok_chk (ch rfl) (ok_chk (ch rfl) (ok_bnde (feesShares_ok' hF _ _) (ok_bnde (brk_true.trans (feesAwards_ok' hF _ _)) (ok_bnde (brk_true.trans m1) (ok_brkF rfl ?_)))))))))))
  iterate 1 (refine ok_chk (ch rfl) (ok_chk (ch rfl) (ok_chk (ch rfl) (ok_chk (ch rfl) (ok_chk (ch rfl) (ok_chk (ch rfl) (ok_chk (ch rfl) (ok_bnde (feesShares_ok' hF _ _) (ok_bnde (brk_true.trans (feesAwards_ok' hF _ _)) (ok_bnde (brk_true.trans m2) (ok_brkF rfl ?_)))))))))))
  iterate 1 (refine ok_chk (ch rfl) (ok_chk (ch rfl) (ok_chk (ch rfl) (ok_chk (ch rfl) (ok_chk (ch rfl) (ok_chk (ch rfl) (ok_chk (ch rfl) (ok_bnde (feesShares_ok' hF _ _) (ok_bnde (brk_true.trans (feesAwards_ok' hF _ _)) (ok_bnde (brk_true.trans m3) (ok_brkF rfl ?_)))))))))))
  iterate 1 (refine ok_chk (ch rfl) (ok_chk (ch rfl) (ok_chk (ch rfl) (ok_chk (ch rfl) (ok_chk (ch rfl) (ok_chk (ch rfl) (ok_chk (ch rfl) (ok_bnde (feesShares_ok' hF _ _) (ok_bnde (brk_true.trans (feesAwards_ok' hF _ _)) (ok_bnde (brk_true.trans m4) (ok_brkF rfl ?_)))))))))))
  iterate 1 (refine ok_chk (ch rfl) (ok_chk (ch rfl) (ok_chk (ch rfl) (ok_chk (ch rfl) (ok_chk (ch rfl) (ok_chk (ch rfl) (ok_chk (ch rfl) (ok_bnde (feesShares_ok' hF _ _) (ok_bnde (brk_true.trans (feesAwards_ok' hF _ _)) (ok_bnde (brk_true.trans m5) (ok_brkF rfl ?_)))))))))))
  exact ok_chk (show InR _ from ⟨by omega, by omega⟩) (hn _ ⟨by omega, by omega⟩ (by omega))
 clear hn next
 refine ok_loop (fun x : Int => 0 ≤ x ∧ x ≤ 4320) (fun x => (4320 - x).toNat) ⟨Int.le_refl _, by decide⟩ (by show (4320 - (0 : Int)).toNat < F; omega) ?_
 intro n next ⟨n0, n1⟩ hn
 refine ok_brk (fun hc => ?_) (fun _ => ?_)
 ·have hc : n < 4320 := of_decide_eq_true hc
  refine ok_chk ⟨by omega, by omega⟩ (ok_chk ⟨by omega, by omega⟩ (ok_chk ⟨by omega, by omega⟩ (ok_chk ⟨by omega, by omega⟩ (ok_chk ⟨by omega, by omega⟩ (ok_chk ⟨by omega, by omega⟩ (ok_bnde (feesAwards_ok' hF _ _) (ok_brkF rfl (ok_chk ⟨by omega, by omega⟩ (ok_brk (fun _ => ?_) (fun _ => ?_))))))))))
  ·exact ok_chk ⟨by omega, by omega⟩ (ok_chk ⟨by omega, by omega⟩ (ok_chk ⟨by omega, by omega⟩ (ok_bnde (feesShares_ok' hF _ _) (ok_brkF rfl (ok_chk (show InR _ from ⟨by omega, by omega⟩) (hn _ ⟨by omega, by omega⟩ (by omega)))))))
  ·exact ok_chk (show InR _ from ⟨by omega, by omega⟩) (hn _ ⟨by omega, by omega⟩ (by omega))
 clear hn next
 refine ok_loop (fun x : Int => 0 ≤ x ∧ x ≤ 14) (fun x => (14 - x).toNat) ⟨Int.le_refl _, by decide⟩ (by show (14 - (0 : Int)).toNat < F; omega) ?_
 intro n next ⟨n0, n1⟩ hn
 refine ok_brk (fun hc => ?_) (fun _ => ?_)
 ·have hc : n < 14 := of_decide_eq_true hc
  refine ok_bnde (ex_eq F) (ok_loop (fun x : Int × List Band => 0 ≤ x.1 ∧ x.1 ≤ n ∧ x.2.length = x.1.toNat) (fun x => (n - x.1).toNat) ⟨Int.le_refl _, n0, rfl⟩ (by show (n - (0 : Int)).toNat < F; omega) ?_)
  rintro ⟨i, bs⟩ next2 ⟨i0, i1, i2⟩ hn2
  simp only at i0 i1 i2
  dsimp only
  refine ok_brk (fun hc2 => ?_) (fun _ => ?_)
  ·have hc2 : i < n := of_decide_eq_true hc2
   refine ok_chk (show InR _ from ⟨by omega, by omega⟩) (ok_chk (show InR _ from ⟨by omega, by omega⟩) (ok_chk ⟨⟨by omega, by omega⟩, by split <;> omega⟩ (ok_chk ⟨by omega, by omega⟩ (ok_chk (show InR _ from ⟨by omega, by omega⟩) (ok_chk (by simp; omega) (ok_chk (show InR _ from ⟨by omega, by omega⟩) (hn2 _ ⟨by show 0 ≤ i + 1; omega, by show i + 1 ≤ n; omega, by simp; omega⟩ (by show (n - (i + 1)).toNat < (n - i).toNat; omega))))))))
  have hN : nOne n = true := List.all_eq_true.1 ns_eq _ (by simp only [ns14, List.mem_cons]; omega)
  unfold nOne at hN
  rw [← hF] at hN
  split at hN
  ·rename_i r r2 r3 e1 e2 e3
   simp only [Bool.and_eq_true] at hN
   obtain ⟨m1, m2, m3⟩ := hN
   have m1 := mon_eq m1
   have m2 := mon_eq m2
   have m3 := mon_eq m3
   rw [← hF] at m1 m2 m3
   refine ok_chk ⟨by omega, by omega, by omega⟩ (ok_chk ⟨by omega, by omega⟩ (ok_chk ⟨by omega, by omega, by omega⟩ (ok_bnde e1 (ok_bnde (feesBills_ok' hF _ _ _ _ _ _ _) (ok_brkF rfl (ok_chk (show InR _ from ⟨by omega, by omega⟩) (ok_bnde e2 (ok_chk ⟨by omega, by omega, by omega⟩ (ok_bnde (feesShares_ok' hF _ _) (ok_brkF rfl (ok_chk (show InR _ from ⟨by omega, by omega⟩) (ok_bnde e3 (ok_bnde (feesAwards_ok' hF _ _) (ok_brkF rfl ?_))))))))))))))
   refine ok_chk ⟨by omega, by omega, by omega⟩ (ok_chk ⟨by omega, by omega⟩ (ok_chk ⟨by omega, by omega, by omega⟩ (ok_bnde e1 (ok_bnde m1 (ok_brkF rfl (ok_chk ⟨by omega, by omega, by omega⟩ (ok_bnde m2 (ok_brkF rfl (ok_chk (ch rfl) (ok_chk ⟨by omega, by omega, by omega⟩ (ok_bnde m3 (ok_brkF rfl ?_))))))))))))
   exact ok_chk (show InR _ from ⟨by omega, by omega⟩) (hn _ ⟨by omega, by omega⟩ (by omega))
  ·cases hN
 clear hn next
 have h1 := s501
 have h2 := s500
 unfold sOne at h1 h2
 rw [← hF] at h1 h2
 split at h1
 ·rename_i a ha
  split at h2
  ·rename_i b hb
   split at ha
   ·rename_i l1 e1
    split at hb
    ·rename_i l2 e2
     simp only [Bool.and_eq_true] at h2
     obtain ⟨h2, h3, h4⟩ := h2
     refine ok_bnde (ex_eq F) (ok_bnde e1 (ok_bnde ha (ok_bnde (ex_eq F) (ok_bnde e2 (ok_bnde hb ?_)))))
     have haw : law12_awake F = some true := by rw [hF]; exact awake_eq
     generalize law12_awake F = A at haw ⊢
     subst haw
     simp only [h1, h2, h3, h4, Bool.and_self]
     exact ok_some rfl
    ·cases hb
   ·cases ha
  ·cases h2
 ·cases h1
theorem feesSmall_ok : law12_FeesSmall 1000000000000000 = some true := feesSmall_ok' rfl
end Go.Proofs.Fz

namespace Go.KX
open Go Go.ChangeShapes Go.WideShapes Go.RowKit
def goodT (P : Program) : Nat → TypeId → Bool
 | 0, _ => false
 | n + 1, t => match P.underlying t with
  | some (.int _) => true
  | some .bool => true
  | some (.struct fs) => fs.toList.all fun f => goodT P n f.type
  | some (.array _ e) => goodT P n e
  | some (.slice e) => goodT P n e && Nat.ble 1 (P.cellsOf e)
  | _ => false
theorem mapM_carry' {α β : Type} {f g : α → Option β} : ∀ {l : List α} {r : List β}, l.mapM f = some r → (∀ x y, x ∈ l → y ∈ r → f x = some y → g x = some y) → l.mapM g = some r := mapM_carry
section
variable {H : Type} {enc : TypeId × Value → H} {P : Program} {w : World} {base : Nat} {held : Bool}
theorem trod_spare {sp : Nat → Bool} : ∀ (m n : Nat) (t : TypeId) (cs : List Value) (x : DataW H × List MemPlace), goodT P m t = true →
  DataW.trod enc P w base (fun _ => true) held n t cs = some x → (∀ p ∈ x.2, sp p.block = true) → DataW.trod enc P w base sp held n t cs = some x := by
 intro m
 induction m with
 | zero => intro n t cs x h; cases h
 | succ m ih =>
  intro n t cs x hg h hs
  cases n with
  | zero => simp [DataW.trod] at h
  | succ n =>
   rw [DataW.trod_step] at h ⊢
   unfold goodT at hg
   unfold DataW.trodStep at h ⊢
   split at h
   case h_1 => exact h
   case h_2 => exact h
   case h_8 e a len cap hu =>
    rw [hu] at hg
    simp only [Bool.and_eq_true] at hg
    simp only at h ⊢
    split at h
    ·rename_i hc
     rw [if_pos hc]
     simp only [if_true, Option.map_eq_some_iff, Option.bind_eq_some_iff] at h ⊢
     obtain ⟨elems, he, rest, hr, rfl⟩ := h
     have hlen : elems.length = len := by simpa using mapM_some_length he
     have hrlen : rest.length = cap - len := by simpa using mapM_some_length hr
     have hk : 1 ≤ P.cellsOf e := Nat.le_of_ble_eq_true hg.2
     have one : ∀ i y, (w.cells? base (a.add (i * P.cellsOf e)) (P.cellsOf e)).bind (DataW.trod enc P w base (fun _ => true) held n e) = some y → (∀ p ∈ y.2, sp p.block = true) →
       (w.cells? base (a.add (i * P.cellsOf e)) (P.cellsOf e)).bind (DataW.trod enc P w base sp held n e) = some y := by
      intro i y hy hp
      rw [Option.bind_eq_some_iff] at hy ⊢
      obtain ⟨cs', h1, h2⟩ := hy
      exact ⟨cs', h1, ih n e cs' y hg.1 h2 hp⟩
     have hpl : ∀ y, y ∈ elems ++ rest → ∀ p ∈ y.2, sp p.block = true := fun y hy p hp => hs p (by
      simp only [List.mem_append]
      exact .inr (List.mem_flatMap.2 ⟨y, hy, hp⟩))
     refine ⟨elems, mapM_carry' he fun i y hi hy hiy => one i y hiy (hpl y (by simp [hy])), rest, ?_, rfl⟩
     by_cases hcap : cap = 0
     ·have : rest = [] := List.length_eq_zero_iff.1 (by omega)
      subst this
      split
      ·rw [show cap - len = 0 by omega]; rfl
      ·rfl
     ·have : sp a.block = true := by
       have := hs (.cell a.block (a.off + 0)) (by
        simp only [List.mem_append]
        refine .inl (MemPlace.mem_row.2 ⟨0, ?_, rfl⟩)
        rw [hlen, hrlen, show len + (cap - len) = cap by omega]
        exact Nat.mul_pos (by omega) hk)
       exact this
      rw [if_pos this]
      exact mapM_carry' hr fun j y hj hy hjy => one _ y hjy (hpl y (by simp [hy]))
    ·cases h
   case h_7 => exact h
   case h_9 fs cs' hu =>
    rw [hu] at hg
    simp only at hg
    split at h
    ·rename_i hl
     rw [if_pos hl]
     simp only [Option.map_eq_some_iff] at h ⊢
     obtain ⟨xs, hx, rfl⟩ := h
     refine ⟨xs, mapM_carry' hx fun f y hf hy hfy => ih n f.type _ y (List.all_eq_true.1 hg f hf) hfy fun p hp => hs p ?_, rfl⟩
     exact List.mem_flatMap.2 ⟨y, hy, hp⟩
    ·cases h
   case h_10 =>
    rename_i e hu
    rw [hu] at hg
    simp only at hg
    split at h
    ·rename_i hl
     rw [if_pos hl]
     simp only [Option.map_eq_some_iff] at h ⊢
     obtain ⟨xs, hx, rfl⟩ := h
     refine ⟨xs, mapM_carry' hx fun f y hf hy hfy => ih n e _ y hg hfy fun p hp => hs p ?_, rfl⟩
     exact List.mem_flatMap.2 ⟨y, hy, hp⟩
    ·cases h
   all_goals simp_all
theorem trod_move {w' : World} {sp : Nat → Bool} {t : TypeId} {v : Value} {d : DataW H} {ps : List MemPlace} (hg : goodT P 8 t = true) (h : DataW.Trod enc P w base (fun _ => true) held t v d ps)
  (hsame : ∀ p ∈ ps, w.sameAt w' p) (hs : ∀ p ∈ ps, sp p.block = true) : DataW.Trod enc P w' base sp held t v d ps := by
 obtain ⟨n, hn⟩ := h
 exact ⟨n, trod_spare 8 n t _ _ hg (DataW.trod_carry n t _ _ hn hsame) hs⟩
theorem trodAll_move {w' : World} {sp : Nat → Bool} : ∀ {ts : List TypeId} {vs : List Value} {ds : List (DataW H)} {ps : List MemPlace}, ts.all (goodT P 8) = true → DataW.TrodAll enc P w base (fun _ => true) held ts vs ds ps →
  (∀ p ∈ ps, w.sameAt w' p) → (∀ p ∈ ps, sp p.block = true) → DataW.TrodAll enc P w' base sp held ts vs ds ps := by
 intro ts
 induction ts with
 | nil =>
  intro vs ds ps _ h _ _
  obtain ⟨rfl, rfl, rfl⟩ := trodAll_nil h
  rfl
 | cons t ts ih =>
  intro vs ds ps hg h hsame hs
  obtain ⟨v, vs', d, ds', p, q, rfl, rfl, rfl, h1, h2⟩ := trodAll_cons h
  simp only [List.all_cons, Bool.and_eq_true] at hg
  exact ⟨p, q, trod_move hg.1 h1 (fun x hx => hsame x (by simp [hx])) (fun x hx => hs x (by simp [hx])), ih hg.2 h2 (fun x hx => hsame x (by simp [hx])) (fun x hx => hs x (by simp [hx])), rfl⟩
theorem post_law {f : Func} {s : ChangeSpec} {W W' : World} {args : Array Value} {ds gs : List (DataW H)} {before : List MemPlace} {tb : TypeId} (hW : DataW.Whole enc P f.params.toList s.vars false W args.toList ds gs before)
  (hv : s.vars = []) (hfn : s.fn H ds = { results := [.lit (.bool true)], args := ds }) (hrt : f.resultTypes = #[tb]) (htb : P.underlying tb = some .bool) (hgood : f.params.toList.all (goodT P 8) = true) (hb : Below W.heap.size W W') :
  s.post enc P f false true false false W args (.bool true) W' := by
 have hW0 := hW
 obtain ⟨p, q, hA, hV, rfl, _, _⟩ := hW
 rw [hv] at hV
 obtain ⟨rfl, rfl⟩ := trodVars_none hV
 have hlt : ∀ x ∈ p ++ [], x.block < W.heap.size := fun x hx => hW0.lt x hx
 have hsame : ∀ x ∈ p, W.sameAt W' x := fun x hx => hb.same (hlt x (by simpa using hx))
 refine ⟨ds, [], p ++ [], [], p, [], hW0, ?_, ?_, ?_, hb.frame _, fun h => by cases h⟩
 ·simp only [List.append_nil, hfn, hrt]
  exact trodAll_mk1 (shut_bool htb _)
 ·simp only [List.append_nil, hfn]
  exact trodAll_move hgood hA hsame fun x hx => by simpa using hlt x (by simpa using hx)
 ·simp only [List.append_nil, hfn, hv]
  rfl
end
def HReads (E : Env) (t : TypeId) (c : Nat) (In : E.G.car c → Prop) : Prop :=
 E.P.cellsOf t = E.G.sz c ∧ ∀ (H : Type) (e : TypeId × Value → H) (w : World) (base : Nat) (sp : Nat → Bool) (held : Bool) (fuel : Nat) (cs : List Value) (x : DataW H × List MemPlace),
  DataW.trod e E.P w base sp held fuel t cs = some x → ∃ a : E.G.car c, HdL E.G (IsCells w) w (E.G.enc c a) cs ∧ In a
section
variable {E : Env} {H : Type} {e : TypeId × Value → H} {w : World} {base : Nat} {sp : Nat → Bool} {held : Bool}
theorem HReads.at {t : TypeId} {c off : Nat} {In : E.G.car c → Prop} {cs : List Value} (hR : HReads E t c In)
  (hx : ∃ fuel y, DataW.trod e E.P w base sp held fuel t ((cs.drop off).take (E.P.cellsOf t)) = some y) : ∃ a, HdL E.G (IsCells w) w (E.G.enc c a) ((cs.drop off).take (E.G.sz c)) ∧ In a := by
 obtain ⟨fuel, y, h⟩ := hx
 rw [hR.1] at h
 exact hR.2 _ _ _ _ _ _ _ _ _ h
theorem law_calls {k : Nat} {ps : List PK} {t : Nat} {es : List Nat} {f : AT E.G.car ps → Option (E.G.car t)} (hc : CSok E [] ⟨k, ps, [.v t false es], f⟩) (hglo : E.glo = []) (b : E.G.car t) (hb : E.G.enc t b = [.v (.bool true)])
  {vs : List Value} {xs : AT E.G.car ps} (ha : ArgsAre E (IsCells w) w ps xs vs) (hm : f xs = some b) :
  Calls E.P k vs.toArray w fun e w' => e = .returned (.bool true) ∧ Below w.heap.size w w' := by
 have h := hc.ok (IsCells w) w vs xs ⟨fun _ => { b := 0, p := none, n := 0, c := 0 }, by rw [hglo]; exact And.intro (fun p hp => nomatch hp) (fun q hq => nomatch hq)⟩ (fun _ h => h) ha b hm
 refine h.mono fun e' w' ⟨us, ms, A', h1, h2, _, _, _, h3, _⟩ => ⟨?_, h2.below⟩
 obtain ⟨v, rfl, us', h4, h5⟩ := h3
 simp only [Bool.false_eq_true, if_false] at h5
 subst h5
 have h4 : ResCells E.G A' w.heap.size w' (E.G.enc t b) es [v] ms := h4
 rw [hb] at h4
 obtain ⟨us2, h6, _⟩ := h4
 cases h6
 exact h1
end
end Go.KX
