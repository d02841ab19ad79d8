/- Texts FePFH, KFR: own work; each part says what it is. -/
import Derived.Test.YtglcljiadhcopaaBi3
import Derived.Handed
import Derived.OpenShut
import Derived.ChangeSlices
import Derived.JoinedOf
namespace Go.Proofs.Fe
open Go Go.KX

abbrev v0 : Voyage := ⟨0, 0, 0, 0, 0, 0, 0⟩

theorem getM_setM : ∀ (m : List (Int × Int)) (k v s : Int), getM (setM m k v) s = if k = s then v else getM m s
  | [], k, v, s => rfl
  | p :: m, k, v, s => by
    have ih := getM_setM m k v s
    unfold setM
    by_cases h : p.1 = k
    · rw [if_pos h]
      unfold getM
      by_cases h2 : k = s
      · rw [if_pos h2, if_pos h2]
      · rw [if_neg h2, if_neg h2, if_neg (by rw [h]; exact h2)]
    · rw [if_neg h]
      unfold getM
      rw [ih]
      by_cases h2 : p.1 = s
      · rw [if_pos h2, if_neg (fun e => h (h2.trans e.symm)), if_pos h2]
      · rw [if_neg h2]
        by_cases h3 : k = s
        · rw [if_pos h3, if_pos h3]
        · rw [if_neg h3, if_neg h3]
          cases m with
          | nil => unfold getM; rw [if_neg h2]
          | cons q m => rw [if_neg h2]

def cnt (s : Int) (l : List Voyage) : Int := ((l.filter fun v => decide (v.Ship = s)).length : Int)
theorem cnt_snoc (s : Int) (l : List Voyage) (v : Voyage) : cnt s (l ++ [v]) = cnt s l + if v.Ship = s then 1 else 0 := by
  unfold cnt
  rw [List.filter_append, List.length_append]
  by_cases h : v.Ship = s
  · simp [h]
  · simp [h]
theorem cnt_bound (s : Int) (l : List Voyage) : 0 ≤ cnt s l ∧ cnt s l ≤ l.length := by
  unfold cnt
  have := List.length_filter_le (fun v : Voyage => decide (v.Ship = s)) l
  omega

def seaV (t : Tariff) : List Voyage → List Voyage → List Account
  | _, [] => []
  | d, v :: l => billV t v (cnt v.Ship d) :: seaV t (d ++ [v]) l
theorem seaV_length (t : Tariff) : ∀ (l d : List Voyage), (seaV t d l).length = l.length
  | [], _ => rfl
  | v :: l, d => by simp [seaV, seaV_length t l]
def sumS : List Account → Int
  | [] => 0
  | a :: l => a.Sum + sumS l
theorem sumS_append : ∀ l r : List Account, sumS (l ++ r) = sumS l + sumS r
  | [], r => by simp [sumS]
  | x :: l, r => by simp only [List.cons_append, sumS, sumS_append l r]; omega

def SeaP (t : Tariff) (l : List Voyage) (r : List Account × Int × Int) : Prop :=
  (¬ (∀ v ∈ l, VoyOK v) ∧ r = ([], 0, 1)) ∨ ((∀ v ∈ l, VoyOK v) ∧ r = (seaV t [] l, sumS (seaV t [] l), 0))
theorem SeaP.one {t : Tariff} {l : List Voyage} {r s : List Account × Int × Int} (h : SeaP t l r) (h' : SeaP t l s) : r = s := by
  rcases h with ⟨a, rfl⟩ | ⟨a, rfl⟩ <;> rcases h' with ⟨b, rfl⟩ | ⟨b, rfl⟩
  · rfl
  · exact absurd b a
  · exact absurd a b
  · rfl

theorem season_ok {F : Nat} (hF : 1000 < F) {t : Tariff} (ht : TarOK t) (l : List Voyage) : Ok (fun r => (500 < l.length ∧ r = ([], 0, 2)) ∨ (l.length ≤ 500 ∧ SeaP t l r)) (fees_Season F t l) := by
  unfold fees_Season
  refine ok_bnde (Check_eq (by omega) t) ?_
  rw [ht.check]
  refine ok_brkF rfl (ok_brk (fun hb => ok_some (.inl ⟨by have := of_decide_eq_true hb; omega, rfl⟩)) (fun hb => ?_))
  have hl : l.length ≤ 500 := by have := of_decide_eq_false hb; omega
  refine ok_loop (fun x : Int × List Account × Int × List (Int × Int) => 0 ≤ x.2.2.1 ∧ x.2.2.1 ≤ l.length ∧ x.2.1 ++ seaV t (l.take x.2.2.1.toNat) (l.drop x.2.2.1.toNat) = seaV t [] l ∧ x.2.1.length = x.2.2.1.toNat ∧ x.1 = sumS x.2.1 ∧ 0 ≤ x.1 ∧ x.1 ≤ 600000000000 * x.2.2.1 ∧ (∀ s, getM x.2.2.2 s = cnt s (l.take x.2.2.1.toNat)) ∧ ∀ v ∈ l.take x.2.2.1.toNat, VoyOK v)
    (fun x => l.length - x.2.2.1.toNat) ⟨by simp, by simp, rfl, rfl, rfl, by simp, by simp, fun _ => rfl, fun _ h => by (cases h)⟩ (by simp; omega) ?_
  rintro ⟨sm, out, i, m⟩ next ⟨i1, i2, i3, i4, i5, i6, i7, i8, i9⟩ hn
  simp only at i1 i2 i3 i4 i5 i6 i7 i8 i9
  dsimp only
  refine ok_brk (fun hc => ?_) (fun hc => ok_some (.inr ⟨hl, .inr ⟨?_, ?_⟩⟩))
  · have hc : i < l.length := of_decide_eq_true hc
    have hi : i.toNat < l.length := by omega
    rw [drop_get (d := v0) hi] at i3
    have htk : l.take (i + 1).toNat = l.take i.toNat ++ [l.getD i.toNat v0] := by rw [show (i + 1).toNat = i.toNat + 1 by omega, take_succ' (d := v0) hi]
    have hmem : l.getD i.toNat v0 ∈ l := getD_mem hi
    refine ok_join (by omega) (fun x : Int × List Account × List (Int × Int) => x.2.1 ++ seaV t (l.take (i + 1).toNat) (l.drop (i + 1).toNat) = seaV t [] l ∧ x.2.1.length = (i + 1).toNat ∧ x.1 = sumS x.2.1 ∧ 0 ≤ x.1 ∧ x.1 ≤ 600000000000 * (i + 1) ∧ (∀ s, getM x.2.2 s = cnt s (l.take (i + 1).toNat)) ∧ ∀ v ∈ l.take (i + 1).toNat, VoyOK v)
      (fun x ⟨a, b, c, d, e, f, g⟩ => ok_chk (show InR _ from ⟨by omega, by omega⟩) (hn _ ⟨by show 0 ≤ i + 1; omega, by show i + 1 ≤ _; omega, a, b, c, d, e, f, g⟩ (by show l.length - (i + 1).toNat < l.length - i.toNat; omega))) fun k hk => ?_
    have hx : l.getD i.toNat ⟨0, 0, 0, 0, 0, 0, 0⟩ = l.getD i.toNat v0 := rfl
    rw [hx]
    generalize l.getD i.toNat v0 = V at i3 htk hmem ⊢
    refine ok_chk ⟨i1, hc⟩ (ok_bnd _ (right_ok (by omega) V) fun b hb => ok_brk (fun h => ok_some (.inr ⟨hl, .inl ⟨fun q => ?_, rfl⟩⟩)) (fun h => ?_))
    · have h : b = false := by simpa using h
      have := hb.2 (q V hmem)
      rw [h] at this; cases this
    have h : b = true := by simpa using h
    have hV := hb.1 h
    have hg := i8 V.Ship
    have hcb := cnt_bound V.Ship (l.take i.toNat)
    have hlt : (l.take i.toNat).length ≤ i := by rw [List.length_take]; omega
    refine ok_bnde (bill_eq (by omega) ht hV _) ?_
    rw [hg]
    have hbb := billV_bound ht hV (cnt V.Ship (l.take i.toNat))
    have hseq : (out ++ [billV t V (cnt V.Ship (l.take i.toNat))]) ++ seaV t (l.take (i + 1).toNat) (l.drop (i + 1).toNat) = seaV t [] l := by
      rw [← i3, htk, List.append_assoc, show (i + 1).toNat = i.toNat + 1 by omega]; rfl
    generalize billV t V (cnt V.Ship (l.take i.toNat)) = A at hbb hseq ⊢
    have hsum : sumS (out ++ [A]) = sm + A.Sum := by rw [sumS_append, ← i5]; simp only [sumS]; omega
    have hlen : (out ++ [A]).length = (i + 1).toNat := by simp; omega
    have hmap : ∀ s, getM (setM m V.Ship (cnt V.Ship (l.take i.toNat) + 1)) s = cnt s (l.take (i + 1).toNat) := fun s => by
      rw [getM_setM, htk, cnt_snoc]
      by_cases e : V.Ship = s
      · rw [if_pos e, if_pos e, e]
      · rw [if_neg e, if_neg e, i8]; omega
    have hall : ∀ v ∈ l.take (i + 1).toNat, VoyOK v := fun v hv => by
      rw [htk] at hv
      rcases List.mem_append.1 hv with q | q
      · exact i9 v q
      · rw [List.mem_singleton.1 q]; exact hV
    refine ok_chk (show InR _ from ⟨by omega, by omega⟩) (ok_chk (by simp; omega) (ok_brk (fun _ => ok_chk (show InR _ from ⟨by omega, by omega⟩) (hk _ ⟨hseq, hlen, hsum.symm, by show 0 ≤ sm + A.Sum; omega, by show sm + A.Sum ≤ _; omega, hmap, hall⟩)) (fun hz => hk _ ⟨hseq, hlen, ?_, i6, by show sm ≤ _; omega, hmap, hall⟩)))
    show sm = sumS (out ++ [A])
    have hz : A.Sum = 0 := by
      simp only [Bool.not_eq_false', Bool.and_eq_true, beq_iff_eq, Bool.and_true] at hz
      exact hz.2
    rw [hsum, hz]; omega
  · have hc : ¬ i < l.length := of_decide_eq_false hc
    rw [List.take_of_length_le (by omega)] at i9
    exact i9
  · have hc : ¬ i < l.length := of_decide_eq_false hc
    rw [List.drop_eq_nil_of_le (by omega)] at i3
    have : out = seaV t [] l := by rw [← i3]; simp [seaV]
    rw [i5, this]

theorem refSeason_ok {F : Nat} (hF : 1000 < F) {t : Tariff2} (ht : TarOK (back t)) (l : List Voyage) : Ok (fun r => (500 < l.length ∧ r = ([], 0, 2)) ∨ (l.length ≤ 500 ∧ SeaP (back t) l r)) (ref12_Season F t l) := by
  unfold ref12_Season
  refine ok_bnde (refCheck_eq (by omega) t) ?_
  rw [ht.check]
  refine ok_brkF rfl (ok_brk (fun hb => ok_some (.inl ⟨by have := of_decide_eq_true hb; omega, rfl⟩)) (fun hb => ?_))
  have hl : l.length ≤ 500 := by have := of_decide_eq_false hb; omega
  refine ok_loop (fun x : List Account × Int × Int => 0 ≤ x.2.1 ∧ x.2.1 ≤ l.length ∧ x.1 ++ seaV (back t) (l.take x.2.1.toNat) (l.drop x.2.1.toNat) = seaV (back t) [] l ∧ x.1.length = x.2.1.toNat ∧ x.2.2 = sumS x.1 ∧ 0 ≤ x.2.2 ∧ x.2.2 ≤ 600000000000 * x.2.1 ∧ ∀ v ∈ l.take x.2.1.toNat, VoyOK v)
    (fun x => l.length - x.2.1.toNat) ⟨by simp, by simp, rfl, rfl, rfl, by simp, by simp, fun _ h => by (cases h)⟩ (by simp; omega) ?_
  rintro ⟨out, i, sm⟩ next ⟨i1, i2, i3, i4, i5, i6, i7, i9⟩ hn
  simp only at i1 i2 i3 i4 i5 i6 i7 i9
  dsimp only
  refine ok_brk (fun hc => ?_) (fun hc => ok_some (.inr ⟨hl, .inr ⟨?_, ?_⟩⟩))
  · have hc : i < l.length := of_decide_eq_true hc
    have hi : i.toNat < l.length := by omega
    rw [drop_get (d := v0) hi] at i3
    have htk : l.take (i + 1).toNat = l.take i.toNat ++ [l.getD i.toNat v0] := by rw [show (i + 1).toNat = i.toNat + 1 by omega, take_succ' (d := v0) hi]
    have hmem : l.getD i.toNat v0 ∈ l := getD_mem hi
    have hx : l.getD i.toNat ⟨0, 0, 0, 0, 0, 0, 0⟩ = l.getD i.toNat v0 := rfl
    rw [hx]
    generalize l.getD i.toNat v0 = V at i3 htk hmem ⊢
    refine ok_chk ⟨i1, hc⟩ (ok_bnd _ (refRight_ok V) fun b hb => ok_brk (fun h => ok_some (.inr ⟨hl, .inl ⟨fun q => ?_, rfl⟩⟩)) (fun h => ?_))
    · have h : b = false := by simpa using h
      have := hb.2 (q V hmem)
      rw [h] at this; cases this
    have h : b = true := by simpa using h
    have hV := hb.1 h
    refine ok_loop (fun x : Int × Int => 0 ≤ x.1 ∧ x.1 ≤ i ∧ x.2 = cnt V.Ship (l.take x.1.toNat)) (fun x => i.toNat - x.1.toNat) ⟨by simp, i1, rfl⟩ (by simp; omega) ?_
    rintro ⟨j, c⟩ next2 ⟨j1, j2, j3⟩ hn2
    simp only at j1 j2 j3
    dsimp only
    have hcb := cnt_bound V.Ship (l.take j.toNat)
    have hlt : (l.take j.toNat).length ≤ j := by rw [List.length_take]; omega
    refine ok_brk (fun hd => ?_) (fun hd => ?_)
    · have hd : j < i := of_decide_eq_true hd
      have hj : j.toNat < l.length := by omega
      have htj : l.take (j + 1).toNat = l.take j.toNat ++ [l.getD j.toNat v0] := by rw [show (j + 1).toNat = j.toNat + 1 by omega, take_succ' (d := v0) hj]
      have hy : l.getD j.toNat ⟨0, 0, 0, 0, 0, 0, 0⟩ = l.getD j.toNat v0 := rfl
      rw [hy]
      generalize l.getD j.toNat v0 = W at htj ⊢
      refine ok_join (by omega) (fun x : Int => x = cnt V.Ship (l.take (j + 1).toNat)) (fun x hx => ok_chk (show InR _ from ⟨by omega, by omega⟩) (hn2 _ ⟨by show 0 ≤ j + 1; omega, by show j + 1 ≤ i; omega, hx⟩ (by show i.toNat - (j + 1).toNat < i.toNat - j.toNat; omega))) fun k hk => ?_
      refine ok_chk ⟨j1, by omega⟩ (ok_chk ⟨i1, hc⟩ (ok_brk (fun he => ok_chk (show InR _ from ⟨by omega, by omega⟩) (hk _ ?_)) (fun he => hk _ ?_)))
      · have he : W.Ship = V.Ship := by simpa using he
        rw [htj, cnt_snoc, if_pos he, j3]
      · have he : ¬ W.Ship = V.Ship := by simpa using he
        rw [htj, cnt_snoc, if_neg he, j3]; omega
    · have hd : ¬ j < i := of_decide_eq_false hd
      obtain rfl : j = i := by omega
      refine ok_chk ⟨i1, hc⟩ (ok_bnde (refBill_eq (by omega) ht hV _) ?_)
      rw [j3]
      have hbb := billV_bound ht hV (cnt V.Ship (l.take j.toNat))
      have hseq : (out ++ [billV (back t) V (cnt V.Ship (l.take j.toNat))]) ++ seaV (back t) (l.take (j + 1).toNat) (l.drop (j + 1).toNat) = seaV (back t) [] l := by
        rw [← i3, htk, List.append_assoc, show (j + 1).toNat = j.toNat + 1 by omega]; rfl
      generalize billV (back t) V (cnt V.Ship (l.take j.toNat)) = A at hbb hseq ⊢
      have hsum : sumS (out ++ [A]) = sm + A.Sum := by rw [sumS_append, ← i5]; simp only [sumS]; omega
      have hlen : (out ++ [A]).length = (j + 1).toNat := by simp; omega
      have hall : ∀ v ∈ l.take (j + 1).toNat, VoyOK v := fun v hv => by
        rw [htk] at hv
        rcases List.mem_append.1 hv with q | q
        · exact i9 v q
        · rw [List.mem_singleton.1 q]; exact hV
      exact ok_chk (by simp; omega) (ok_chk (show InR _ from ⟨by omega, by omega⟩) (ok_chk (show InR _ from ⟨by omega, by omega⟩) (hn _ ⟨by show 0 ≤ j + 1; omega, by show j + 1 ≤ _; omega, hseq, hlen, hsum.symm, by show 0 ≤ sm + A.Sum; omega, by show sm + A.Sum ≤ 600000000000 * (j + 1); omega, hall⟩ (by show l.length - (j + 1).toNat < l.length - j.toNat; omega))))
  · have hc : ¬ i < l.length := of_decide_eq_false hc
    rw [List.take_of_length_le (by omega)] at i9
    exact i9
  · have hc : ¬ i < l.length := of_decide_eq_false hc
    rw [List.drop_eq_nil_of_le (by omega)] at i3
    have : out = seaV (back t) [] l := by rw [← i3]; simp [seaV]
    rw [i5, this]

/-! ### The exported functions, whatever the tariff -/

/-- What a function says of a tariff that is wrong, or right. -/
def Both {α : Type} (t : Tariff) (bad : Int → α) (P : α → Prop) (r : α) : Prop := (checkV t ≠ 0 ∧ r = bad (checkV t)) ∨ (TarOK t ∧ P r)
theorem Both.one {α : Type} {t : Tariff} {bad : Int → α} {P : α → Prop} {r s : α} (h : Both t bad P r) (h' : Both t bad P s) (hP : TarOK t → P r → P s → r = s) : r = s := by
  rcases h with ⟨a, rfl⟩ | ⟨a, b⟩ <;> rcases h' with ⟨c, rfl⟩ | ⟨c, d⟩
  · rfl
  · exact absurd c.check a
  · exact absurd a.check c
  · exact hP a b d

theorem bad_bnd {α : Type} {t : Tariff} {x : Option Int} (hx : x = some (checkV t)) {bad : Int → α} {P : α → Prop} {g : Option α} (h : TarOK t → Ok P g) : Ok (Both t bad P) (bnd x fun e => brk (e != 0) (some (bad e)) g) := by
  refine ok_bnde hx (ok_brk (fun hb => ok_some (.inl ⟨by simpa using hb, rfl⟩)) (fun hb => ?_))
  have hb : checkV t = 0 := by simpa using hb
  exact (h (checkV_zero hb)).mono fun r hr => .inr ⟨checkV_zero hb, hr⟩

def DuesP (t : Tariff) (c n : Int) (r : Int × Int) : Prop := ((0 ≤ c ∧ c ≤ 6) ∧ (1 ≤ n ∧ n ≤ 500000) ∧ r = (duesV t c n, 0)) ∨ (¬ ((0 ≤ c ∧ c ≤ 6) ∧ (1 ≤ n ∧ n ≤ 500000)) ∧ r = (0, 1))
theorem DuesP.one {t : Tariff} {c n : Int} {r s : Int × Int} (h : DuesP t c n r) (h' : DuesP t c n s) : r = s := by
  rcases h with ⟨a, b, rfl⟩ | ⟨a, rfl⟩ <;> rcases h' with ⟨c, d, rfl⟩ | ⟨c, rfl⟩
  · rfl
  · exact absurd ⟨a, b⟩ c
  · exact absurd ⟨c, d⟩ a
  · rfl
theorem Dues_ok {F : Nat} (hF : 100 < F) (t : Tariff) (c n : Int) : Ok (Both t (fun e => (0, e)) (DuesP t c n)) (fees_Dues F t c n) := by
  unfold fees_Dues
  refine bad_bnd (Check_eq hF t) fun ht => ?_
  rw [within_eq, within_eq, wb, wb]
  refine ok_bnde rfl ?_
  by_cases h1 : 0 ≤ c ∧ c ≤ 6
  · rw [decide_eq_true h1]
    refine ok_bnde (b := decide (1 ≤ n ∧ n ≤ 500000)) rfl (ok_brk (fun hb => ok_some (.inr ⟨fun q => ?_, rfl⟩)) (fun hb => ?_))
    · rw [Bool.not_true, Bool.false_or] at hb; exact nd_true hb q.2
    · rw [Bool.not_true, Bool.false_or] at hb
      have := nd_false hb
      exact ok_bnde (dues_eq hF ht h1.1 h1.2 (by omega) (by omega)) (ok_some (.inl ⟨h1, this, rfl⟩))
  · rw [decide_eq_false h1]
    exact ok_bnde (b := false) rfl (ok_brkT rfl (ok_some (.inr ⟨fun q => h1 q.1, rfl⟩)))
theorem refDuesE_ok {F : Nat} (hF : 100 < F) (t : Tariff2) (c n : Int) : Ok (Both (back t) (fun e => (0, e)) (DuesP (back t) c n)) (ref12_Dues F t c n) := by
  unfold ref12_Dues
  refine bad_bnd (refCheck_eq hF t) fun ht => ?_
  rw [refIn_eq, refIn_eq, wb, wb]
  refine ok_bnde rfl ?_
  by_cases h1 : 0 ≤ c ∧ c ≤ 6
  · rw [decide_eq_true h1]
    refine ok_bnde (b := decide (1 ≤ n ∧ n ≤ 500000)) rfl (ok_brk (fun hb => ok_some (.inr ⟨fun q => ?_, rfl⟩)) (fun hb => ?_))
    · rw [Bool.not_true, Bool.false_or] at hb; exact nd_true hb q.2
    · rw [Bool.not_true, Bool.false_or] at hb
      have := nd_false hb
      exact ok_bnde (refDues_eq hF ht h1.1 h1.2 (by omega) (by omega)) (ok_some (.inl ⟨h1, this, rfl⟩))
  · rw [decide_eq_false h1]
    exact ok_bnde (b := false) rfl (ok_brkT rfl (ok_some (.inr ⟨fun q => h1 q.1, rfl⟩)))

abbrev zeroA : Account := ⟨⟨0, 0, 0, 0, 0⟩, 0⟩
def BillP (t : Tariff) (v : Voyage) (calls : Int) (r : Account × Int) : Prop := (¬ VoyOK v ∧ r = (zeroA, 1)) ∨ (VoyOK v ∧ ((calls < 0 ∧ r = (zeroA, 6)) ∨ (0 ≤ calls ∧ r = (billV t v calls, 0))))
theorem BillP.one {t : Tariff} {v : Voyage} {c : Int} {r s : Account × Int} (h : BillP t v c r) (h' : BillP t v c s) : r = s := by
  rcases h with ⟨a, rfl⟩ | ⟨a, ⟨b, rfl⟩ | ⟨b, rfl⟩⟩ <;> rcases h' with ⟨c, rfl⟩ | ⟨c, ⟨d, rfl⟩ | ⟨d, rfl⟩⟩ <;> first | rfl | contradiction | omega
theorem Bill_ok {F : Nat} (hF : 100 < F) (t : Tariff) (v : Voyage) (calls : Int) : Ok (Both t (fun e => (zeroA, e)) (BillP t v calls)) (fees_Bill F t v calls) := by
  unfold fees_Bill
  refine bad_bnd (Check_eq hF t) fun ht => ?_
  refine ok_bnd _ (right_ok hF v) fun b hb => ok_brk (fun h => ok_some (.inl ⟨fun q => ?_, rfl⟩)) (fun h => ?_)
  · rw [hb.2 q] at h; cases h
  · have hv := hb.1 (by simpa using h)
    refine ok_brk (fun h => ok_some (.inr ⟨hv, .inl ⟨of_decide_eq_true h, rfl⟩⟩)) (fun h => ok_bnde (bill_eq hF ht hv _) (ok_some (.inr ⟨hv, .inr ⟨?_, rfl⟩⟩)))
    have := of_decide_eq_false h; omega
theorem refBillE_ok {F : Nat} (hF : 100 < F) (t : Tariff2) (v : Voyage) (calls : Int) : Ok (Both (back t) (fun e => (zeroA, e)) (BillP (back t) v calls)) (ref12_Bill F t v calls) := by
  unfold ref12_Bill
  refine bad_bnd (refCheck_eq hF t) fun ht => ?_
  refine ok_bnd _ (refRight_ok v) fun b hb => ok_brk (fun h => ok_some (.inl ⟨fun q => ?_, rfl⟩)) (fun h => ?_)
  · rw [hb.2 q] at h; cases h
  · have hv := hb.1 (by simpa using h)
    refine ok_brk (fun h => ok_some (.inr ⟨hv, .inl ⟨of_decide_eq_true h, rfl⟩⟩)) (fun h => ok_bnde (refBill_eq hF ht hv _) (ok_some (.inr ⟨hv, .inr ⟨?_, rfl⟩⟩)))
    have := of_decide_eq_false h; omega

def LargeP (t : Tariff) (c a : Int) (r : Int × Int) : Prop := (¬ (0 ≤ c ∧ c ≤ 6) ∧ r = (0, 1)) ∨ ((0 ≤ c ∧ c ≤ 6) ∧ ((r = (0, 4) ∧ LargeOK t c a 0) ∨ (r.2 = 0 ∧ 1 ≤ r.1 ∧ LargeOK t c a r.1)))
theorem LargeP.one {t : Tariff} {c a : Int} {r s : Int × Int} (ht : TarOK t) (h : LargeP t c a r) (h' : LargeP t c a s) : r = s := by
  rcases h with ⟨p, rfl⟩ | ⟨p, q⟩ <;> rcases h' with ⟨p', rfl⟩ | ⟨p', q'⟩
  · rfl
  · exact absurd p' p
  · exact absurd p p'
  · rcases q with ⟨rfl, q⟩ | ⟨q1, q2, q3⟩ <;> rcases q' with ⟨rfl, u⟩ | ⟨u1, u2, u3⟩
    · rfl
    · have := LargeOK.one ht p.1 p.2 q u3; omega
    · have := LargeOK.one ht p.1 p.2 u q3; omega
    · exact Prod.ext (LargeOK.one ht p.1 p.2 q3 u3) (q1.trans u1.symm)
theorem LargestE_ok {F : Nat} (hF : 2000000 < F) (t : Tariff) (c a : Int) : Ok (Both t (fun e => (0, e)) (LargeP t c a)) (fees_Largest F t c a) := by
  by_cases ht : TarOK t
  · exact (largest_ok hF ht).mono fun r hr => .inr ⟨ht, hr⟩
  · unfold fees_Largest
    exact bad_bnd (Check_eq (by omega) t) fun h => absurd h ht
theorem refLargestE_ok {F : Nat} (hF : 2000000 < F) (t : Tariff2) (c a : Int) : Ok (Both (back t) (fun e => (0, e)) (LargeP (back t) c a)) (ref12_Largest F t c a) := by
  by_cases ht : TarOK (back t)
  · exact (refLargest_ok hF ht).mono fun r hr => .inr ⟨ht, hr⟩
  · unfold ref12_Largest
    exact bad_bnd (refCheck_eq (by omega) t) fun h => absurd h ht

def SeasonP (t : Tariff) (l : List Voyage) (r : List Account × Int × Int) : Prop := (500 < l.length ∧ r = ([], 0, 2)) ∨ (l.length ≤ 500 ∧ SeaP t l r)
theorem SeasonP.one {t : Tariff} {l : List Voyage} {r s : List Account × Int × Int} (h : SeasonP t l r) (h' : SeasonP t l s) : r = s := by
  rcases h with ⟨a, rfl⟩ | ⟨a, b⟩ <;> rcases h' with ⟨c, rfl⟩ | ⟨c, d⟩
  · rfl
  · omega
  · omega
  · exact b.one d
theorem SeasonE_ok {F : Nat} (hF : 1000 < F) (t : Tariff) (l : List Voyage) : Ok (Both t (fun e => ([], 0, e)) (SeasonP t l)) (fees_Season F t l) := by
  by_cases ht : TarOK t
  · exact (season_ok hF ht l).mono fun r hr => .inr ⟨ht, hr⟩
  · unfold fees_Season
    exact bad_bnd (Check_eq (by omega) t) fun h => absurd h ht
theorem refSeasonE_ok {F : Nat} (hF : 1000 < F) (t : Tariff2) (l : List Voyage) : Ok (Both (back t) (fun e => ([], 0, e)) (SeasonP (back t) l)) (ref12_Season F t l) := by
  by_cases ht : TarOK (back t)
  · exact (refSeason_ok hF ht l).mono fun r hr => .inr ⟨ht, hr⟩
  · unfold ref12_Season
    exact bad_bnd (refCheck_eq (by omega) t) fun h => absurd h ht

/-! ### Lists that are the same -/

theorem ok_skip {α : Type} {post : α → Prop} {F n : Nat} {c : Int → Bool} {hit : Option α} {exit : Option α} (hF : n < F) (hn : n ≤ 1000000) (hc : ∀ i : Int, c i = false) (he : Ok post exit) :
    Ok post (loopC (fun (x : Int) next => brk (decide (x < (n : Int))) (chk (0 ≤ x ∧ x < (n : Int)) (chk (0 ≤ x ∧ x < (n : Int)) (brk (c x) hit (chk (InR (x + 1)) (next (x + 1)))))) exit) F 0) := by
  refine ok_loop (fun x : Int => 0 ≤ x ∧ x ≤ n) (fun x : Int => n - x.toNat) ⟨by simp, by simp⟩ (by simp; omega) ?_
  rintro i next ⟨i1, i2⟩ hnx
  refine ok_brk (fun hb => ?_) (fun _ => he)
  have hb : i < n := of_decide_eq_true hb
  exact ok_chk ⟨i1, hb⟩ (ok_chk ⟨i1, hb⟩ (ok_brkF (hc i) (ok_chk (show InR _ from ⟨by omega, by omega⟩) (hnx _ ⟨by omega, by omega⟩ (by show n - (i + 1).toNat < n - i.toNat; omega)))))

theorem eqBand_eq {F : Nat} {l : List Band} (hF : l.length < F) (hl : l.length ≤ 1000000) : slices_Equal_fees_Band F l l = some true := by
  refine Ok.eq ?_
  unfold slices_Equal_fees_Band
  exact ok_brkF (by simp) (ok_skip hF hl (fun i => by simp) (ok_some rfl))
theorem eqVoyage_eq {F : Nat} {l : List Voyage} (hF : l.length < F) (hl : l.length ≤ 1000000) : slices_Equal_fees_Voyage F l l = some true := by
  refine Ok.eq ?_
  unfold slices_Equal_fees_Voyage
  exact ok_brkF (by simp) (ok_skip hF hl (fun i => by simp) (ok_some rfl))

theorem tariff_eq {F : Nat} {t : Tariff} (hF : 100 < F) (hl : t.Bands.length ≤ 20) : law12_Tariff F t = some (conv t) := by
  refine Ok.eq ?_
  unfold law12_Tariff
  refine ok_loop (fun x : Int × List Band => 0 ≤ x.1 ∧ x.1 ≤ t.Bands.length ∧ x.2 = t.Bands.take x.1.toNat) (fun x => t.Bands.length - x.1.toNat) ⟨by simp, by simp, rfl⟩ (by simp; omega) ?_
  rintro ⟨i, o⟩ next ⟨i1, i2, i3⟩ hn
  simp only at i1 i2 i3
  dsimp only
  refine ok_brk (fun hc => ?_) (fun hc => ok_some ?_)
  · have hc : i < t.Bands.length := of_decide_eq_true hc
    have hi : i.toNat < t.Bands.length := by omega
    refine ok_chk ⟨i1, hc⟩ (ok_chk ?_ (ok_chk (show InR _ from ⟨by omega, by omega⟩) (hn _ ⟨by show 0 ≤ i + 1; omega, by show i + 1 ≤ _; omega, ?_⟩ (by show t.Bands.length - (i + 1).toNat < t.Bands.length - i.toNat; omega))))
    · rw [i3, List.length_take]; simp; omega
    · show o ++ [t.Bands.getD i.toNat b0] = _
      rw [show (i + 1).toNat = i.toNat + 1 by omega, take_succ' (d := b0) hi, i3]
  · have hc : ¬ i < t.Bands.length := of_decide_eq_false hc
    rw [List.take_of_length_le (by omega)] at i3
    rw [i3]; rfl

theorem clone_eq {α : Type} {l : List α} (h : l.length ≤ 1000000) : chk ((0 : Nat) + l.length ≤ (1000000 : Nat)) (some ([] ++ l)) = some l := by
  rw [chk_pos (by omega)]; rfl

theorem feesBills_ok' {F : Nat} (hF : F = 1000000000000000) (t : Tariff) (class_ tonnes amount calls : Int) (v : Voyage) (l : List Voyage) : law12_FeesBills F t class_ tonnes amount calls v l = some true := by
  have haw : law12_awake F = some true := by rw [hF]; exact awake_eq
  refine Ok.eq ?_
  unfold law12_FeesBills
  rw [haw]
  refine ok_brk (fun hb => ok_bnde rfl (ok_some rfl)) (fun hb => ?_)
  simp only [Bool.or_eq_false_iff, Bool.and_eq_false_iff, decide_eq_false_iff_not] at hb
  have hl1 : t.Bands.length ≤ 20 := by omega
  have hl2 : l.length ≤ 520 := by omega
  refine ok_bnde (tariff_eq (t := t) (by omega) hl1) (ok_bnde (show slices_Clone_fees_Band F t.Bands = _ from clone_eq (by omega)) (ok_bnde (show slices_Clone_fees_Voyage F l = _ from clone_eq (by omega)) ?_))
  refine ok_bnde (Check_eq (by omega) t) (ok_bnde (refCheck_eq (by omega) (conv t)) ?_)
  rw [back_conv]
  refine ok_brkF (by simp) ?_
  refine ok_bnd _ (Dues_ok (by omega) t class_ tonnes) fun r1 h1 => ok_bnd _ (refDuesE_ok (by omega) (conv t) class_ tonnes) fun s1 g1 => ?_
  rw [back_conv] at g1
  obtain rfl := h1.one g1 fun _ a b => a.one b
  refine ok_brkF (by simp) ?_
  refine ok_bnd _ (LargestE_ok (by omega) t class_ amount) fun r2 h2 => ok_bnd _ (refLargestE_ok (by omega) (conv t) class_ amount) fun s2 g2 => ?_
  rw [back_conv] at g2
  obtain rfl := h2.one g2 fun ht a b => LargeP.one ht a b
  refine ok_brkF (by simp) ?_
  refine ok_bnd _ (Bill_ok (by omega) t v calls) fun r3 h3 => ok_bnd _ (refBillE_ok (by omega) (conv t) v calls) fun s3 g3 => ?_
  rw [back_conv] at g3
  obtain rfl := h3.one g3 fun _ a b => a.one b
  refine ok_brkF (by simp) ?_
  refine ok_loop (fun x : List Voyage × Int => 0 ≤ x.2 ∧ x.2 ≤ l.length ∧ x.1 = l.take x.2.toNat) (fun x => l.length - x.2.toNat) ⟨by simp, by simp, rfl⟩ (by simp; omega) ?_
  rintro ⟨o, i⟩ next ⟨i1, i2, i3⟩ hn
  simp only at i1 i2 i3
  dsimp only
  refine ok_brk (fun hc => ?_) (fun hc => ?_)
  · have hc : i < l.length := of_decide_eq_true hc
    have hi : i.toNat < l.length := by omega
    refine ok_chk ⟨i1, hc⟩ (ok_chk ?_ (ok_chk (show InR _ from ⟨by omega, by omega⟩) (hn _ ⟨by show 0 ≤ i + 1; omega, by show i + 1 ≤ _; omega, ?_⟩ (by show l.length - (i + 1).toNat < l.length - i.toNat; omega))))
    · rw [i3, List.length_take]; simp; omega
    · show o ++ [l.getD i.toNat v0] = _
      rw [show (i + 1).toNat = i.toNat + 1 by omega, take_succ' (d := v0) hi, i3]
  have hc : ¬ i < l.length := of_decide_eq_false hc
  rw [List.take_of_length_le (by omega)] at i3
  rw [i3]
  refine ok_bnd _ (SeasonE_ok (by omega) t l) fun r4 h4 => ok_bnd _ (refSeasonE_ok (by omega) (conv t) l) fun s4 g4 => ?_
  rw [back_conv] at g4
  have hlen : r4.1.length ≤ 520 := by
    rcases h4 with ⟨_, q⟩ | ⟨_, ⟨_, q⟩ | ⟨_, ⟨_, q⟩ | ⟨_, q⟩⟩⟩ <;> rw [q] <;> simp
    rw [seaV_length]; omega
  obtain rfl := h4.one g4 fun _ a b => a.one b
  refine ok_brkT (by simp) (ok_brkT (by simp) ?_)
  refine ok_join (by omega) (fun b : Bool => b = true) (fun b hb => ok_brkT hb (ok_bnde (eqBand_eq (by omega) (by omega)) (ok_brkT rfl (ok_bnde (eqVoyage_eq (by omega) (by omega)) (ok_brkT rfl (ok_bnde rfl (ok_some rfl))))))) fun k hk => ?_
  refine ok_brkF (by simp) ?_
  refine ok_loop (fun x : Int => 0 ≤ x ∧ x ≤ r4.1.length) (fun x : Int => r4.1.length - x.toNat) ⟨by simp, by simp⟩ (by simp; omega) ?_
  rintro j next ⟨j1, j2⟩ hn
  refine ok_brk (fun hb => ?_) (fun _ => hk true rfl)
  have hb : j < r4.1.length := of_decide_eq_true hb
  refine ok_chk ⟨j1, hb⟩ (ok_chk ⟨j1, hb⟩ (ok_bnde (b := true) (by unfold law12_FeesBills_1; simp) (ok_brkF rfl (ok_chk (show InR _ from ⟨by omega, by omega⟩) (hn _ ⟨by omega, by omega⟩ (by show r4.1.length - (j + 1).toNat < r4.1.length - j.toNat; omega))))))
theorem feesBills_ok {t : Tariff} {c n a k : Int} {v : Voyage} {l : List Voyage} {P0 P1 P2 P3 P4 P5 P6 : Prop} (_ : P0) (_ : P1) (_ : P2) (_ : P3) (_ : P4) (_ : P5) (_ : P6) : law12_FeesBills 1000000000000000 t c n a k v l = some true := feesBills_ok' rfl t c n a k v l
end Go.Proofs.Fe

namespace Go.KX
open Go Go.ChangeShapes Go.WideShapes Go.RowKit

/-- Types whose reading asks only for cells: numbers, Booleans, and structs, arrays and slices of such. -/
def goodT (P : Program) : Nat → TypeId → Bool
  | 0, _ => false
  | n + 1, t => match P.underlying t with
    | some (.int _) => true
    | some .bool => true
    | some (.struct fs) => fs.toList.all fun f => goodT P n f.type
    | some (.array _ e) => goodT P n e
    | some (.slice e) => goodT P n e && Nat.ble 1 (P.cellsOf e)
    | _ => false

theorem mapM_carry' {α β : Type} {f g : α → Option β} : ∀ {l : List α} {r : List β}, l.mapM f = some r → (∀ x y, x ∈ l → y ∈ r → f x = some y → g x = some y) → l.mapM g = some r := mapM_carry

section
variable {H : Type} {enc : TypeId × Value → H} {P : Program} {w : World} {base : Nat} {held : Bool}

theorem trod_spare {sp : Nat → Bool} : ∀ (m n : Nat) (t : TypeId) (cs : List Value) (x : DataW H × List MemPlace), goodT P m t = true →
    DataW.trod enc P w base (fun _ => true) held n t cs = some x → (∀ p ∈ x.2, sp p.block = true) → DataW.trod enc P w base sp held n t cs = some x := by
  intro m
  induction m with
  | zero => intro n t cs x h; cases h
  | succ m ih =>
    intro n t cs x hg h hs
    cases n with
    | zero => simp [DataW.trod] at h
    | succ n =>
      rw [DataW.trod_step] at h ⊢
      unfold goodT at hg
      unfold DataW.trodStep at h ⊢
      split at h
      case h_1 => exact h
      case h_2 => exact h
      case h_8 e a len cap hu =>
        rw [hu] at hg
        simp only [Bool.and_eq_true] at hg
        simp only at h ⊢
        split at h
        · rename_i hc
          rw [if_pos hc]
          simp only [if_true, Option.map_eq_some_iff, Option.bind_eq_some_iff] at h ⊢
          obtain ⟨elems, he, rest, hr, rfl⟩ := h
          have hlen : elems.length = len := by simpa using mapM_some_length he
          have hrlen : rest.length = cap - len := by simpa using mapM_some_length hr
          have hk : 1 ≤ P.cellsOf e := Nat.le_of_ble_eq_true hg.2
          have one : ∀ i y, (w.cells? base (a.add (i * P.cellsOf e)) (P.cellsOf e)).bind (DataW.trod enc P w base (fun _ => true) held n e) = some y → (∀ p ∈ y.2, sp p.block = true) →
              (w.cells? base (a.add (i * P.cellsOf e)) (P.cellsOf e)).bind (DataW.trod enc P w base sp held n e) = some y := by
            intro i y hy hp
            rw [Option.bind_eq_some_iff] at hy ⊢
            obtain ⟨cs', h1, h2⟩ := hy
            exact ⟨cs', h1, ih n e cs' y hg.1 h2 hp⟩
          have hpl : ∀ y, y ∈ elems ++ rest → ∀ p ∈ y.2, sp p.block = true := fun y hy p hp => hs p (by
            simp only [List.mem_append]
            exact .inr (List.mem_flatMap.2 ⟨y, hy, hp⟩))
          refine ⟨elems, mapM_carry' he fun i y hi hy hiy => one i y hiy (hpl y (by simp [hy])), rest, ?_, rfl⟩
          by_cases hcap : cap = 0
          · have : rest = [] := List.length_eq_zero_iff.1 (by omega)
            subst this
            split
            · rw [show cap - len = 0 by omega]; rfl
            · rfl
          · have : sp a.block = true := by
              have := hs (.cell a.block (a.off + 0)) (by
                simp only [List.mem_append]
                refine .inl (MemPlace.mem_row.2 ⟨0, ?_, rfl⟩)
                rw [hlen, hrlen, show len + (cap - len) = cap by omega]
                exact Nat.mul_pos (by omega) hk)
              exact this
            rw [if_pos this]
            exact mapM_carry' hr fun j y hj hy hjy => one _ y hjy (hpl y (by simp [hy]))
        · cases h
      case h_7 => exact h
      case h_9 fs cs' hu =>
        rw [hu] at hg
        simp only at hg
        split at h
        · rename_i hl
          rw [if_pos hl]
          simp only [Option.map_eq_some_iff] at h ⊢
          obtain ⟨xs, hx, rfl⟩ := h
          refine ⟨xs, mapM_carry' hx fun f y hf hy hfy => ih n f.type _ y (List.all_eq_true.1 hg f hf) hfy fun p hp => hs p ?_, rfl⟩
          exact List.mem_flatMap.2 ⟨y, hy, hp⟩
        · cases h
      case h_10 =>
        rename_i e hu
        rw [hu] at hg
        simp only at hg
        split at h
        · rename_i hl
          rw [if_pos hl]
          simp only [Option.map_eq_some_iff] at h ⊢
          obtain ⟨xs, hx, rfl⟩ := h
          refine ⟨xs, mapM_carry' hx fun f y hf hy hfy => ih n e _ y hg hfy fun p hp => hs p ?_, rfl⟩
          exact List.mem_flatMap.2 ⟨y, hy, hp⟩
        · cases h
      all_goals simp_all

theorem trod_move {w' : World} {sp : Nat → Bool} {t : TypeId} {v : Value} {d : DataW H} {ps : List MemPlace} (hg : goodT P 8 t = true) (h : DataW.Trod enc P w base (fun _ => true) held t v d ps)
    (hsame : ∀ p ∈ ps, w.sameAt w' p) (hs : ∀ p ∈ ps, sp p.block = true) : DataW.Trod enc P w' base sp held t v d ps := by
  obtain ⟨n, hn⟩ := h
  exact ⟨n, trod_spare 8 n t _ _ hg (DataW.trod_carry n t _ _ hn hsame) hs⟩

theorem trodAll_move {w' : World} {sp : Nat → Bool} : ∀ {ts : List TypeId} {vs : List Value} {ds : List (DataW H)} {ps : List MemPlace}, ts.all (goodT P 8) = true → DataW.TrodAll enc P w base (fun _ => true) held ts vs ds ps →
    (∀ p ∈ ps, w.sameAt w' p) → (∀ p ∈ ps, sp p.block = true) → DataW.TrodAll enc P w' base sp held ts vs ds ps := by
  intro ts
  induction ts with
  | nil =>
    intro vs ds ps _ h _ _
    obtain ⟨rfl, rfl, rfl⟩ := trodAll_nil h
    rfl
  | cons t ts ih =>
    intro vs ds ps hg h hsame hs
    obtain ⟨v, vs', d, ds', p, q, rfl, rfl, rfl, h1, h2⟩ := trodAll_cons h
    simp only [List.all_cons, Bool.and_eq_true] at hg
    exact ⟨p, q, trod_move hg.1 h1 (fun x hx => hsame x (by simp [hx])) (fun x hx => hs x (by simp [hx])), ih hg.2 h2 (fun x hx => hsame x (by simp [hx])) (fun x hx => hs x (by simp [hx])), rfl⟩

/-- A law that returns true and leaves what was there alone. -/
theorem post_law {f : Func} {s : ChangeSpec} {W W' : World} {args : Array Value} {ds gs : List (DataW H)} {before : List MemPlace} {tb : TypeId} (hW : DataW.Whole enc P f.params.toList s.vars false W args.toList ds gs before)
    (hv : s.vars = []) (hfn : s.fn H ds = { results := [.lit (.bool true)], args := ds }) (hrt : f.resultTypes = #[tb]) (htb : P.underlying tb = some .bool) (hgood : f.params.toList.all (goodT P 8) = true) (hb : Below W.heap.size W W') :
    s.post enc P f false true false false W args (.bool true) W' := by
  have hW0 := hW
  obtain ⟨p, q, hA, hV, rfl, _, _⟩ := hW
  rw [hv] at hV
  obtain ⟨rfl, rfl⟩ := trodVars_none hV
  have hlt : ∀ x ∈ p ++ [], x.block < W.heap.size := fun x hx => hW0.lt x hx
  have hsame : ∀ x ∈ p, W.sameAt W' x := fun x hx => hb.same (hlt x (by simpa using hx))
  refine ⟨ds, [], p ++ [], [], p, [], hW0, ?_, ?_, ?_, hb.frame _, fun h => by cases h⟩
  · simp only [List.append_nil, hfn, hrt]
    exact trodAll_mk1 (shut_bool htb _)
  · simp only [List.append_nil, hfn]
    exact trodAll_move hgood hA hsame fun x hx => by simpa using hlt x (by simpa using hx)
  · simp only [List.append_nil, hfn, hv]
    rfl
end

theorem wf_u8 {n : Int} (h : (Lit.int .u8 n).wf = true) : 0 ≤ n ∧ n ≤ 255 := by
  simp [Lit.wf, IntKind.min, IntKind.max, IntKind.signed, IntKind.bits] at h
  omega
theorem wf_u16 {n : Int} (h : (Lit.int .u16 n).wf = true) : 0 ≤ n ∧ n ≤ 65535 := by
  simp [Lit.wf, IntKind.min, IntKind.max, IntKind.signed, IntKind.bits] at h
  omega
theorem wf_u32 {n : Int} (h : (Lit.int .u32 n).wf = true) : 0 ≤ n ∧ n ≤ 4294967295 := by
  simp [Lit.wf, IntKind.min, IntKind.max, IntKind.signed, IntKind.bits] at h
  omega
theorem wf_i64 {n : Int} (h : (Lit.int .i64 n).wf = true) : -9223372036854775808 ≤ n ∧ n ≤ 9223372036854775807 := by
  simp [Lit.wf, IntKind.min, IntKind.max, IntKind.signed, IntKind.bits] at h
  omega

/-- Values of the type t read as something of the registered type c, of which In is so. -/
def HReads (E : Env) (t : TypeId) (c : Nat) (In : E.G.car c → Prop) : Prop :=
  E.P.cellsOf t = E.G.sz c ∧ ∀ (H : Type) (e : TypeId × Value → H) (w : World) (base : Nat) (sp : Nat → Bool) (held : Bool) (fuel : Nat) (cs : List Value) (x : DataW H × List MemPlace),
    DataW.trod e E.P w base sp held fuel t cs = some x → ∃ a : E.G.car c, HdL E.G (IsCells w) w (E.G.enc c a) cs ∧ In a

theorem isCells_of {w : World} {a : Addr} {u : Value} (h : w.cell? a = some u) : IsCells w a.block ∧ a.spot = none := by
  unfold World.cell? at h
  split at h
  · rename_i c e s hb
    refine ⟨⟨_, hb, rfl⟩, ?_⟩
    split at h
    · cases h
    · rename_i hs
      simpa using hs
  · cases h

section
variable {E : Env} {H : Type} {e : TypeId × Value → H} {w : World} {base : Nat} {sp : Nat → Bool} {held : Bool}

theorem hdL_one {x : Value} {cv : CV E.G.car} (h : Hd E.G (IsCells w) w cv x) : HdL E.G (IsCells w) w [cv] [x] := ⟨_, _, rfl, h, rfl⟩

theorem hdL_append : ∀ {a b : List (CV E.G.car)} {u v : List Value}, HdL E.G (IsCells w) w a u → HdL E.G (IsCells w) w b v → HdL E.G (IsCells w) w (a ++ b) (u ++ v)
  | [], _, _, _, h, h' => by cases h; exact h'
  | _ :: _, _, _, _, ⟨x, us, rfl, h1, h2⟩, h' => ⟨x, us ++ _, rfl, h1, hdL_append h2 h'⟩

theorem hreads_int {t : TypeId} {c : Nat} {k : IntKind} {In : E.G.car c → Prop} (f : Int → E.G.car c) (hf : ∀ n, E.G.enc c (f n) = [.v (.int k n)]) (hu : E.P.underlying t = some (.int k)) (hc : E.P.cellsOf t = E.G.sz c)
    (hIn : ∀ n, (Lit.int k n).wf = true → In (f n)) : HReads E t c In :=
  ⟨hc, fun _ _ _ _ _ _ _ _ _ h => by
    obtain ⟨n, h1, _, h2⟩ := DataW.trod_int hu h
    subst h1
    exact ⟨f n, by rw [hf]; exact hdL_one (.v _), hIn n h2⟩⟩

theorem hreads_bool {t : TypeId} {c : Nat} {In : E.G.car c → Prop} (f : Bool → E.G.car c) (hf : ∀ n, E.G.enc c (f n) = [.v (.bool n)]) (hu : E.P.underlying t = some .bool) (hc : E.P.cellsOf t = E.G.sz c) (hIn : ∀ b, In (f b)) : HReads E t c In :=
  ⟨hc, fun _ _ _ _ _ _ _ _ _ h => by
    obtain ⟨n, h1, _⟩ := DataW.trod_bool hu h
    subst h1
    exact ⟨f n, by rw [hf]; exact hdL_one (.v _), hIn n⟩⟩

theorem fields_of {t : TypeId} {fs : Array Field} {fuel : Nat} {cs : List Value} {x : DataW H × List MemPlace} (hu : E.P.underlying t = some (.struct fs)) (h : DataW.trod e E.P w base sp held fuel t cs = some x) :
    cs.length = E.P.cellsOf t ∧ ∀ (j : Nat) (fd : Field), fs[j]? = some fd → ∃ fuel y, DataW.trod e E.P w base sp held fuel fd.type ((cs.drop fd.offset).take (E.P.cellsOf fd.type)) = some y := by
  obtain ⟨xs, n, rfl, rfl, hl, hlen, hf⟩ := DataW.trod_struct hu h
  refine ⟨hl, fun j fd hj => ?_⟩
  have hlt : j < xs.length := by have := (Array.getElem?_eq_some_iff.1 hj).1; omega
  exact ⟨n, xs[j], by rw [hf j fd hj, List.getElem?_eq_getElem hlt]⟩

theorem elems_of {t el : TypeId} {n s : Nat} {fuel : Nat} {cs : List Value} {x : DataW H × List MemPlace} (hu : E.P.underlying t = some (.array n el)) (hs : E.P.cellsOf el = s) (h : DataW.trod e E.P w base sp held fuel t cs = some x) :
    cs.length = E.P.cellsOf t ∧ ∀ (j : Nat), j < n → ∃ fuel y, DataW.trod e E.P w base sp held fuel el ((cs.drop (j * s)).take (E.P.cellsOf el)) = some y := by
  obtain ⟨xs, m, rfl, rfl, hl, hlen, hf⟩ := DataW.trod_array hu h
  subst hs
  refine ⟨hl, fun j hj => ?_⟩
  have hlt : j < xs.length := by omega
  exact ⟨m, xs[j], by rw [hf j hj, List.getElem?_eq_getElem hlt]⟩

theorem HReads.at {t : TypeId} {c off : Nat} {In : E.G.car c → Prop} {cs : List Value} (hR : HReads E t c In)
    (hx : ∃ fuel y, DataW.trod e E.P w base sp held fuel t ((cs.drop off).take (E.P.cellsOf t)) = some y) : ∃ a, HdL E.G (IsCells w) w (E.G.enc c a) ((cs.drop off).take (E.G.sz c)) ∧ In a := by
  obtain ⟨fuel, y, h⟩ := hx
  rw [hR.1] at h
  exact hR.2 _ _ _ _ _ _ _ _ _ h

theorem hcut_cons {a r : List (CV E.G.car)} {cs : List Value} {o n : Nat} (h : HdL E.G (IsCells w) w a ((cs.drop o).take n)) (hr : HdL E.G (IsCells w) w r (cs.drop (o + n))) : HdL E.G (IsCells w) w (a ++ r) (cs.drop o) := by
  have := hdL_append h hr
  rwa [← List.drop_drop, List.take_append_drop] at this

theorem hcut_nil {cs : List Value} {o : Nat} (h : cs.length ≤ o) : HdL E.G (IsCells w) w [] (cs.drop o) := List.drop_eq_nil_of_le h

/-- A slice's elements. -/
theorem hslice_of {t el : TypeId} {c fuel : Nat} {In : E.G.car c → Prop} {cs : List Value} {x : DataW H × List MemPlace} (hu : E.P.underlying t = some (.slice el)) (hR : HReads E el c In) (hn : 0 < E.G.sz c)
    (h : DataW.trod e E.P w base sp held fuel t cs = some x) :
    ∃ (p : Option Addr) (n cap : Nat) (l : List (E.G.car c)), cs = [.slice p n cap] ∧ Hd E.G (IsCells w) w (.sl c l) (.slice p n cap) ∧ (∀ x ∈ l, In x) ∧ l.length ≤ 9223372036854775807 := by
  rcases DataW.trod_slice hu h with ⟨rfl, _⟩ | ⟨a, len, cap, elems, rest, m, _, rfl, _, hb, hl, hm, hel, hi, _, _⟩
  · exact ⟨none, 0, 0, [], rfl, Hd.mk (b := 0) (o := 0) rfl (Nat.le_refl _) (fun h => absurd rfl h) (fun i x hx => by simp at hx), by simp, by simp⟩
  have build : ∀ k, k ≤ len → ∃ l : List (E.G.car c), l.length = k ∧ ∀ i x, l[i]? = some x → In x ∧ ∃ us, w.cells? base (a.add (i * E.G.sz c)) (E.G.sz c) = some us ∧ HdL E.G (IsCells w) w (E.G.enc c x) us := by
    intro k
    induction k with
    | zero => intro _; exact ⟨[], rfl, fun i x hx => by simp at hx⟩
    | succ k ih =>
      intro hk
      obtain ⟨l, h1, h2⟩ := ih (by omega)
      have h3 := hi k (by omega)
      rw [List.getElem?_eq_getElem (by omega), hR.1, Option.bind_eq_some_iff] at h3
      obtain ⟨cs', h4, h5⟩ := h3
      obtain ⟨y, hy1, hy⟩ := hR.2 _ _ _ _ _ _ _ _ _ h5
      refine ⟨l ++ [y], by simp [h1], fun i x hx => ?_⟩
      rcases Nat.lt_or_ge i k with h6 | h6
      · rw [List.getElem?_append_left (by omega)] at hx; exact h2 i x hx
      · rw [List.getElem?_append_right (by omega)] at hx
        have : i - l.length = 0 := by
          have := (List.getElem?_eq_some_iff.1 hx).1
          simpa using this
        rw [this] at hx
        simp only [List.getElem?_cons_zero, Option.some.injEq] at hx
        subst hx
        obtain rfl : i = k := by omega
        exact ⟨hy, _, h4, hy1⟩
  obtain ⟨l, h1, h2⟩ := build len (Nat.le_refl _)
  have hcell : ∀ (i : Nat) x, l[i]? = some x → ∀ (j : Nat) (cv : CV E.G.car), (E.G.enc c x)[j]? = some cv → ∃ u, w.cell? ((a.add (i * E.G.sz c)).add j) = some u ∧ Hd E.G (IsCells w) w cv u := by
    intro i x hx j cv hcv
    obtain ⟨_, us, h3, h4⟩ := h2 i x hx
    obtain ⟨u, h5, h6⟩ := h4.get j cv hcv
    obtain ⟨_, h7, h8⟩ := World.cells?_some h3
    refine ⟨u, ?_, h6⟩
    rw [h8 j (by rw [← h7]; exact (List.getElem?_eq_some_iff.1 h5).1), h5]
  refine ⟨some a, len, cap, l, rfl, ?_, fun x hx => ?_, by unfold maxLen at hm; omega⟩
  · rcases Nat.eq_zero_or_pos len with h0 | h0
    · have : l = [] := List.length_eq_zero_iff.1 (by omega)
      subst this
      exact Hd.mk (b := 0) (o := 0) h1.symm hl (fun h => absurd rfl h) (fun i x hx => by simp at hx)
    · have hpos : 0 < l.length := by omega
      have hz : 0 < (E.G.enc c l[0]).length := by rw [E.G.hsz]; exact hn
      obtain ⟨u, h3, _⟩ := hcell 0 l[0] (List.getElem?_eq_getElem hpos) 0 _ (List.getElem?_eq_getElem hz)
      rw [Nat.zero_mul, show (a.add 0).add 0 = a by simp [Addr.add]] at h3
      obtain ⟨h4, h5⟩ := isCells_of h3
      obtain ⟨b, o, s⟩ := a
      simp only at h4 h5
      subst h5
      refine Hd.mk (b := b) (o := o) h1.symm hl (fun _ => ⟨rfl, h4⟩) (fun i x hx j cv hcv => ?_)
      have := hcell i x hx j cv hcv
      rwa [addr_add, addr_add] at this
  · obtain ⟨i, hi⟩ := List.getElem?_of_mem hx
    exact (h2 i x hi).1

theorem hreads_slice {t el : TypeId} {c d : Nat} {In : E.G.car c → Prop} {In' : E.G.car d → Prop} (f : List (E.G.car c) → E.G.car d) (hf : ∀ l, E.G.enc d (f l) = [.sl c l]) (hu : E.P.underlying t = some (.slice el)) (hR : HReads E el c In)
    (hn : 0 < E.G.sz c) (hc : E.P.cellsOf t = E.G.sz d) (hIn : ∀ l, (∀ x ∈ l, In x) → l.length ≤ 9223372036854775807 → In' (f l)) : HReads E t d In' :=
  ⟨hc, fun _ _ _ _ _ _ _ _ _ h => by
    obtain ⟨p, n, cap, l, rfl, h1, h2, h3⟩ := hslice_of hu hR hn h
    exact ⟨f l, by rw [hf]; exact hdL_one h1, hIn l h2 h3⟩⟩

/-! ### Arguments -/

theorem harg_int {r : Reach} {b0 : Nat} {t : TypeId} {c : Nat} {k : IntKind} {In : E.G.car c → Prop} {v : Value} {d : DataW H} {ps : List MemPlace} (hR : HReads E t c In) (hu : E.P.underlying t = some (.int k))
    (hval : Value.okWide E.P w r b0 t v) (h : DataW.Trod e E.P w base sp held t v d ps) : ∃ a : E.G.car c, ArgIs E (IsCells w) w (.v c false) a v ∧ In a := by
  obtain ⟨n, rfl⟩ := okWide_int hu hval
  obtain ⟨fuel, hf⟩ := h
  obtain ⟨a, h1, h2⟩ := hR.2 _ _ _ _ _ _ _ _ _ hf
  exact ⟨a, ⟨_, h1, rfl⟩, h2⟩

theorem harg_bool {r : Reach} {b0 : Nat} {t : TypeId} {c : Nat} {In : E.G.car c → Prop} {v : Value} {d : DataW H} {ps : List MemPlace} (hR : HReads E t c In) (hu : E.P.underlying t = some .bool)
    (hval : Value.okWide E.P w r b0 t v) (h : DataW.Trod e E.P w base sp held t v d ps) : ∃ a : E.G.car c, ArgIs E (IsCells w) w (.v c false) a v ∧ In a := by
  obtain ⟨n, rfl⟩ := okWide_bool hu hval
  obtain ⟨fuel, hf⟩ := h
  obtain ⟨a, h1, h2⟩ := hR.2 _ _ _ _ _ _ _ _ _ hf
  exact ⟨a, ⟨_, h1, rfl⟩, h2⟩

theorem harg_agg {r : Reach} {b0 : Nat} {t : TypeId} {c : Nat} {fs : Array Field} {In : E.G.car c → Prop} {v : Value} {d : DataW H} {ps : List MemPlace} (hR : HReads E t c In) (hu : E.P.underlying t = some (.struct fs))
    (hval : Value.okWide E.P w r b0 t v) (h : DataW.Trod e E.P w base sp held t v d ps) : ∃ a : E.G.car c, ArgIs E (IsCells w) w (.v c true) a v ∧ In a := by
  obtain ⟨cs, rfl, _⟩ := okWide_struct hu hval
  obtain ⟨fuel, hf⟩ := h
  obtain ⟨a, h1, h2⟩ := hR.2 _ _ _ _ _ _ _ _ _ hf
  exact ⟨a, ⟨_, h1, rfl⟩, h2⟩

theorem harg_sl {r : Reach} {b0 : Nat} {t el : TypeId} {c : Nat} {In : E.G.car c → Prop} {v : Value} {d : DataW H} {ps : List MemPlace} (hu : E.P.underlying t = some (.slice el)) (hR : HReads E el c In) (hn : 0 < E.G.sz c)
    (hval : Value.okWide E.P w r b0 t v) (h : DataW.Trod e E.P w base sp held t v d ps) : ∃ a : List (E.G.car c), ArgIs E (IsCells w) w (.sl c) a v ∧ (∀ x ∈ a, In x) ∧ a.length ≤ 9223372036854775807 := by
  obtain ⟨p, n, cap, rfl⟩ := okWide_slice hu hval
  obtain ⟨fuel, hf⟩ := h
  obtain ⟨p', n', cap', l, h1, h2, h3, h4⟩ := hslice_of hu hR hn hf
  have h1 : [Value.slice p n cap] = [.slice p' n' cap'] := h1
  simp only [List.cons.injEq, and_true, Value.slice.injEq] at h1
  obtain ⟨rfl, rfl, rfl⟩ := h1
  exact ⟨l, h2, h3, h4⟩

/-- A law whose mirror answers true returns true, and leaves what was there. -/
theorem law_calls {k : Nat} {ps : List PK} {t : Nat} {es : List Nat} {f : AT E.G.car ps → Option (E.G.car t)} (hc : CSok E [] ⟨k, ps, [.v t false es], f⟩) (hglo : E.glo = []) (b : E.G.car t) (hb : E.G.enc t b = [.v (.bool true)])
    {vs : List Value} {xs : AT E.G.car ps} (ha : ArgsAre E (IsCells w) w ps xs vs) (hm : f xs = some b) :
    Calls E.P k vs.toArray w fun e w' => e = .returned (.bool true) ∧ Below w.heap.size w w' := by
  have h := hc.ok (IsCells w) w vs xs ⟨fun _ => ⟨0, none, 0, 0⟩, by rw [hglo]; exact And.intro (fun p hp => nomatch hp) (fun q hq => nomatch hq)⟩ (fun _ h => h) ha b hm
  refine h.mono fun e' w' ⟨us, ms, A', h1, h2, _, _, _, h3, _⟩ => ⟨?_, h2⟩
  obtain ⟨v, rfl, us', h4, h5⟩ := h3
  simp only [Bool.false_eq_true, if_false] at h5
  subst h5
  have h4 : ResCells E.G A' w.heap.size w' (E.G.enc t b) es [v] ms := h4
  rw [hb] at h4
  obtain ⟨us2, h6, _⟩ := h4
  cases h6
  exact h1
end
end Go.KX
