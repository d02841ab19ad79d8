/- Texts FmLaw, KFR: own work; each part says what it is. -/
import Derived.Test.YtejiiddllbnpdaaMo4
import Derived.Handed
import Derived.OpenShut
import Derived.ChangeSlices
import Derived.JoinedOf
namespace Go.Proofs.Fm
open Go Go.KX
set_option linter.unusedVariables false
theorem concat_eq {F : Nat} (hF : 100 < F) {l r : List (List Int)} (hl : l.length ≤ 14) (hr : r.length ≤ 14) : slices_Concat_Lint F [l, r] = some (l ++ r) := by
 refine Ok.eq ?_
 unfold slices_Concat_Lint
 have h2 : (([l, r] : List (List (List Int))).length : Int) = 2 := rfl
 refine ok_rest (l := [l, r]) (d := []) (fun x : Int × Int => x.2) (fun x q => 0 ≤ x.1 ∧ x.1 + ((q.map List.length).foldr (· + ·) 0 : Nat) = (l.length + r.length : Nat) ∧ ∀ p ∈ q, p.length ≤ 14) (by simp; omega) rfl ⟨by simp, by simp, fun p hp => by simp at hp; rcases hp with rfl | rfl <;> assumption⟩ (fun x next y0 y1 hq hm hn => ?_) (fun x next y1 hq => ?_)
 ·obtain ⟨n, i⟩ := x
  obtain ⟨q1, q2, q3⟩ := hq
  dsimp only at y0 y1 q1 q2 q3 hm hn ⊢
  have q4 := q3 _ List.mem_cons_self
  simp only [List.map_cons, List.foldr_cons] at q2
  refine ok_brkT (decide_eq_true y1) (ok_chk ⟨y0, y1⟩ (ok_chk (show InR _ from ⟨by omega, by omega⟩) (ok_brkF (decide_eq_false (by omega)) (ok_chk (show InR _ from ⟨by omega, by omega⟩) (hn _ rfl ⟨by dsimp only; omega, by dsimp only; omega, fun p hp => q3 p (List.mem_cons_of_mem _ hp)⟩)))))
 obtain ⟨n, i⟩ := x
 obtain ⟨q1, q2, q3⟩ := hq
 dsimp only at y1 q1 q2 q3 ⊢
 have q2 : n = (l.length + r.length : Nat) := by simpa using q2
 refine ok_brkF (decide_eq_false (by omega)) ?_
 have hg : slices_Grow_Lint F (0 : Nat) n = some [] := chk_pos ⟨rfl, by omega, by omega⟩
 refine ok_bnde hg ?_
 refine ok_rest (l := [l, r]) (d := []) (fun x : List (List Int) × Int => x.2) (fun x q => x.1 ++ q.flatten = l ++ r ∧ x.1.length ≤ 28) (by simp; omega) rfl ⟨by simp, by simp⟩ (fun x next y0 y1 hq hm hn => ?_) (fun x next y1 hq => ?_)
 ·obtain ⟨out, i⟩ := x
  obtain ⟨g1, g2⟩ := hq
  dsimp only at y0 y1 g1 g2 hm hn ⊢
  have hlen := congrArg List.length g1
  simp only [List.flatten_cons, List.length_append] at hlen
  refine ok_brkT (decide_eq_true y1) (ok_chk ⟨y0, y1⟩ (ok_chk (by omega) (ok_chk (show InR _ from ⟨by omega, by omega⟩) (hn _ rfl ⟨?_, ?_⟩))))
  ·dsimp only
   rw [List.append_assoc]; simpa using g1
  ·dsimp only
   rw [List.length_append]; omega
 ·obtain ⟨out, i⟩ := x
  dsimp only at y1 hq ⊢
  refine ok_brkF (decide_eq_false (by omega)) (ok_some ?_)
  have := hq.1
  simpa using this
theorem copyLists_eq {F : Nat} (hF : 100 < F) {l : List (List Int)} (hl : Few l) : kit_CopyLists F l = some l := by
 refine Ok.eq ?_
 unfold kit_CopyLists
 have hn := hl.n
 refine ok_rest (l := l) (d := []) (fun x : Int × List (List Int) => x.1) (fun x r => (x.2.length : Int) = x.1 ∧ x.2 ++ r = l) (by omega) rfl ⟨rfl, rfl⟩ (fun x next y0 y1 hq hm hn => ?_) (fun x next y1 hq => ?_)
 ·obtain ⟨i, out⟩ := x
  obtain ⟨g1, g2⟩ := hq
  dsimp only at y0 y1 g1 g2 hm hn ⊢
  have hr := hl.r _ hm
  have hc : kit_CopyList F (l.getD i.toNat []) = some (l.getD i.toNat []) := by
   unfold kit_CopyList
   rw [copyInts_eq (by omega), bnd_so]
  refine ok_brkT (decide_eq_true y1) (ok_chk ⟨y0, y1⟩ (ok_bnde hc (ok_chk (by rw [List.length_singleton]; omega) (ok_chk (show InR _ from ⟨by omega, by omega⟩) (hn _ rfl ⟨by dsimp only; simp; omega, ?_⟩)))))
  dsimp only
  rw [List.append_assoc]; exact g2
 ·obtain ⟨i, out⟩ := x
  dsimp only at y1 hq ⊢
  rw [List.append_nil] at hq
  exact ok_brkF (decide_eq_false (by omega)) (ok_some hq.2)
theorem sameList_eq {F : Nat} (hF : 100 < F) {l : List Int} (hl : l.length ≤ 10) : kit_SameList F l l = some true := by
 unfold kit_SameList
 rw [same_ok (by omega) (by omega), bnd_so]
theorem sameLists_ok {α : Type} {post : α → Prop} {F : Nat} (hF : 100 < F) {l : List (List Int)} (hl : Few l) {K : Bool → Option α} (h : Ok post (K true)) :
  Ok post (brk ((l.length : Int) != (l.length : Int)) (K false) (loopC (fun (x_13 : Int) => fun x_14 => brk (decide (x_13 < (l.length : Int))) (chk (0 ≤ x_13 ∧ x_13 < (l.length : Int)) (chk (0 ≤ x_13 ∧ x_13 < (l.length : Int)) (bnd (kit_SameList F (List.getD l (Int.toNat x_13) []) (List.getD l (Int.toNat x_13) [])) (fun (x_15 : Bool) => brk (!x_15) (K false) (chk (InR (x_13 + 1)) (x_14 (x_13 + 1))))))) (K true)) F (0 : Int))) := by
 have hn := hl.n
 refine ok_brkF (by simp) ?_
 refine ok_rest (l := l) (d := []) (fun x : Int => x) (fun _ _ => True) (by omega) rfl trivial (fun x next y0 y1 _ hm hn => ?_) (fun x next y1 _ => ok_brkF (decide_eq_false (by omega)) h)
 exact ok_brkT (decide_eq_true y1) (ok_chk ⟨y0, y1⟩ (ok_chk ⟨y0, y1⟩ (ok_bnde (sameList_eq hF (hl.r _ hm)) (ok_brkF rfl (ok_chk (show InR _ from ⟨by omega, by omega⟩) (hn _ rfl trivial))))))
theorem set_self {α : Type} {l : List α} {i : Nat} {d : α} (h : i < l.length) : l.set i (l.getD i d) = l := by
 rw [List.getD_eq_getElem?_getD, List.getElem?_eq_getElem h, Option.getD_some, List.set_getElem_self]
structure BL (N : Nat) (b : Int) (l : List (List Int)) : Prop where
 n : l.length = N
 r : ∀ r ∈ l, r.length ≤ 10
 x : ∀ r ∈ l, ∀ x ∈ r, 0 ≤ x ∧ x ≤ b
theorem BL.mono {N : Nat} {b c : Int} {l : List (List Int)} (h : BL N b l) (hb : b ≤ c) : BL N c l := ⟨h.n, h.r, fun r hr x hx => ⟨(h.x r hr x hx).1, by have := (h.x r hr x hx).2; omega⟩⟩
theorem BL.set {N : Nat} {b : Int} {l : List (List Int)} (h : BL N b l) {i : Nat} {q : List Int} (h1 : q.length ≤ 10) (h2 : ∀ x ∈ q, 0 ≤ x ∧ x ≤ b) : BL N b (l.set i q) :=
 ⟨by rw [List.length_set]; exact h.n, fun r hr => (List.mem_or_eq_of_mem_set hr).elim (h.r r) (fun e => e ▸ h1), fun r hr => (List.mem_or_eq_of_mem_set hr).elim (h.x r) (fun e => e ▸ h2)⟩
theorem SetP.few {n m : Nat} {B : Int} {s : State} {r : State × List (List Int)} (h : StaOK n m B s) (hr : SetP n m s r) : r.1.Deposits.length ≤ 14 ∧ Few r.2 ∧ BL r.1.Owed.length B r.1.Owed := by
 have hn := h.nb
 have hm := h.mb
 have h1 := hr.dl
 have h2 := hr.ol
 have h3 := hr.pl
 refine ⟨by omega, ⟨by omega, fun q hq => ?_⟩, ⟨rfl, fun q hq => ?_, fun q hq x hx => ?_⟩⟩
 ·obtain ⟨i, hi, rfl⟩ := List.getElem_of_mem hq
  have := (hr.aw i (by omega)).length
  rw [getD_get hi, h.rl i (by omega)] at this
  omega
 ·obtain ⟨i, hi, rfl⟩ := List.getElem_of_mem hq
  have := (hr.o i (by omega)).1
  rw [getD_get hi] at this
  omega
 ·obtain ⟨i, hi, rfl⟩ := List.getElem_of_mem hq
  obtain ⟨k, hk, rfl⟩ := List.getElem_of_mem hx
  obtain ⟨o1, o2⟩ := hr.o i (by omega)
  rw [getD_get hi] at o1
  have := o2 k (by omega)
  rw [getD_get hi, getD_get hk] at this
  have hrl := h.rl i (by omega)
  have he := (hr.aw i (by omega)).each (h.row (show i < n by omega)) k (by omega)
  have ho := h.o i (by omega) k (by omega)
  omega
theorem SetR.few {s : State} {r : State × List (List Int) × Int} (h : SetR s r) : r.1.Deposits.length ≤ 14 ∧ Few r.2.1 ∧ r.1.Owed.length ≤ 14 ∧ BL r.1.Owed.length 1000000000000 r.1.Owed := by
 rcases h with ⟨_, rfl⟩ | ⟨h1, _, h3⟩
 ·exact ⟨by simp, ⟨by simp, fun _ h => by simp at h⟩, by simp, ⟨rfl, fun _ h => by simp at h, fun _ h => by simp at h⟩⟩
 ·have hS := check_zero h1
  obtain ⟨a, b, c⟩ := h3.few hS
  have h9 : r.1.Owed.length = _ := h3.ol
  have := hS.nb
  exact ⟨a, b, by omega, c⟩
theorem MonR.few {s : State} {paid : List Int} {b : List (List Int)} {late : Int} {r : State × List (List Int) × Int} (h : MonR s paid b late r) : r.1.Deposits.length ≤ 14 ∧ Few r.2.1 ∧ Few r.1.Owed := by
 rcases h with ⟨_, rfl⟩ | ⟨h1, _, h3⟩
 ·exact ⟨by simp, ⟨by simp, fun _ h => by simp at h⟩, ⟨by simp, fun _ h => by simp at h⟩⟩
 ·have hc : checkV s = 0 := by
   unfold monthE at h1
   split at h1
   ·rename_i hne; exact absurd h1 hne
   ·rename_i hne; exact Classical.byContradiction hne
  have ha : amtB ((monOf s paid b late).Owed ++ [(monOf s paid b late).Deposits]) = true := by
   unfold monthE at h1
   rw [if_neg (by omega)] at h1
   unfold e5 at h1
   split at h1
   ·rename_i hne; exact absurd h1 hne
   ·split at h1
    ·assumption
    ·omega
  have hS := mon_ok (check_zero hc) ha
  obtain ⟨a, b, c⟩ := h3.few hS
  have h9 : r.1.Owed.length = _ := h3.ol
  have := hS.nb
  exact ⟨a, b, ⟨by omega, c.r⟩⟩
theorem feesMonths_ok' {F : Nat} (hF : F = 1000000000000000) (s : State) (paid : List Int) (bills : List (List Int)) (late : Int) : law12_FeesMonths F s paid bills late = some true := by
 have hF2 : 2000000000000 < F := by rw [hF]; decide
 have hF1 : 100 < F := by omega
 have aw : law12_awake F = some true := by rw [hF]; exact awake_eq
 refine Ok.eq ?_
 unfold law12_FeesMonths
 refine ok_brk (fun _ => ok_bnde aw (ok_some rfl)) (fun h1 => ok_brk (fun _ => ok_bnde aw (ok_some rfl)) (fun h2 => ok_brk (fun _ => ok_bnde aw (ok_some rfl)) (fun h3 => ok_brk (fun _ => ok_bnde aw (ok_some rfl)) (fun h4 => ?_))))
 have h1 := of_decide_eq_false h1
 have h2 := of_decide_eq_false h2
 have h3 := of_decide_eq_false h3
 have h4 := of_decide_eq_false h4
 refine ok_bnde (concat_eq hF1 (by omega) (by omega)) ?_
 refine ok_join (by omega) (fun x : Int => 0 ≤ x ∨ (x = -1 ∧ ∀ r ∈ s.Owed ++ bills, r.length ≤ 10)) (fun x hx => ?_) fun k hk => ?_
 rotate_left
 ·refine ok_find (d := []) (p := fun r : List Int => decide ((r.length : Int) > 10)) (by rw [List.length_append]; omega) (by rw [List.length_append]; omega) (fun r _ => rfl) (fun i hi _ => hk _ (.inl (by omega))) (fun hall => hk _ (.inr ⟨rfl, fun r hr => by have := of_decide_eq_false (hall r hr); omega⟩))
 rcases hx with hx | ⟨rfl, hrows⟩
 ·exact ok_brkT (decide_eq_true hx) (ok_bnde aw (ok_some rfl))
 have hd14 : s.Deposits.length ≤ 14 := by omega
 have hsF : Few s.Owed := ⟨by omega, fun r hr => hrows r (List.mem_append.2 (.inl hr))⟩
 have hbF : Few bills := ⟨by omega, fun r hr => hrows r (List.mem_append.2 (.inr hr))⟩
 refine ok_brkF (by decide) (ok_bnde (copyInts_eq (by omega)) (ok_bnde (copyLists_eq hF1 hsF) (ok_bnde (copyInts_eq (by omega)) (ok_bnde (copyLists_eq hF1 hbF) (ok_bnde (copyInts_eq (by omega)) (ok_bnde (copyLists_eq hF1 hsF) ?_))))))
 refine ok_join (by omega) (fun x : List Int × List (List Int) × List (List Int) × Int => SetR s (⟨x.1, x.2.1⟩, x.2.2.1, x.2.2.2)) (fun x hx => ?_) fun k hk => ?_
 rotate_left
 ·refine ok_bnde (check_eq hF1 hsF hd14) (ok_brk (fun g => hk _ (.inl ⟨bne_iff_ne.1 g, rfl⟩)) (fun g => ?_))
  have g : checkV s = 0 := by simpa using g
  exact settleM_ok (lim := 1000000) (Nat.le_refl _) hF2 (check_zero g) (Int.le_refl _) (K := fun x_11 => k (x_11.2.2.2, x_11.2.2.1, x_11.1, (0 : Int))) fun x hx => hk _ (.inr ⟨g, rfl, hx⟩)
 obtain ⟨xd, xo, xp, xe⟩ := x
 dsimp only at hx ⊢
 refine ok_bnd _ (refSettleE_ok hF2 hsF hd14) fun y hy => ?_
 have e := hx.one hy
 subst e
 obtain ⟨f1, f2, f3, f4⟩ := hx.few
 dsimp only at f1 f2 f3 f4 ⊢
 refine ok_brkF (by simp) (ok_bnde (same_ok (by omega) (by omega)) (ok_brkF rfl ?_))
 refine ok_join (by omega) (fun x : Bool × List (List Int) => x = (true, xo)) (fun x hx11 => ?_) fun k hk => ?_
 rotate_left
 ·refine ok_brkF (by simp) ?_
  refine ok_loop (fun x : Int × List (List Int) => 0 ≤ x.1 ∧ x.1 ≤ xo.length ∧ x.2 = xo) (fun x => xo.length - x.1.toNat) ⟨by simp, by show (0 : Int) ≤ xo.length; omega, rfl⟩ (by simp; omega) ?_
  rintro ⟨i, l⟩ next ⟨i1, i2, i3⟩ hn
  dsimp only at i1 i2 i3 ⊢
  subst i3
  refine ok_brk (fun hc => ?_) (fun _ => hk _ rfl)
  have hc := of_decide_eq_true hc
  have hi : i.toNat < l.length := by omega
  refine ok_chk ⟨i1, hc⟩ (ok_chk ⟨i1, hc⟩ (ok_bnde (sameList_eq hF1 (f4.r _ (getD_mem hi))) (ok_brkF rfl (ok_chk (show InR _ from ⟨by omega, by omega⟩) (hn _ ⟨by dsimp only; omega, by dsimp only; omega, by dsimp only; exact set_self hi⟩ (by dsimp only; omega))))))
 subst hx11
 refine ok_brkF rfl ?_
 refine ok_join (by omega) (fun x : Bool => x = true) (fun x hx12 => ?_) fun k hk => sameLists_ok hF1 f2 (hk _ rfl)
 subst hx12
 refine ok_brkF rfl ?_
 dsimp only
 refine ok_loop (fun x : Int × List (List Int) => 0 ≤ x.1 ∧ x.1 ≤ xo.length ∧ BL xo.length (1000000000000 + 100 * x.1) x.2) (fun x => xo.length - x.1.toNat) ⟨by simp, by show (0 : Int) ≤ xo.length; omega, by simpa using f4⟩ (by simp; omega) ?_
 rintro ⟨i, l⟩ next ⟨i1, i2, i3⟩ hn
 dsimp only at i1 i2 i3 ⊢
 refine ok_brk (fun hc => ?_) (fun _ => ?_)
 ·have hc := of_decide_eq_true hc
  have hln := i3.n
  have hi : i.toNat < l.length := by omega
  refine ok_chk ⟨i1, by omega⟩ ?_
  have hL10 := i3.r _ (getD_mem (d := []) hi)
  refine ok_loop (fun x : Int × List (List Int) => 0 ≤ x.1 ∧ x.1 ≤ (l.getD i.toNat []).length ∧ BL xo.length (1000000000000 + 100 * i + x.1) x.2 ∧ (x.2.getD i.toNat []).length = (l.getD i.toNat []).length) (fun x => (l.getD i.toNat []).length - x.1.toNat)
   ⟨by simp, by dsimp only; omega, by dsimp only; rw [set_self hi]; exact i3.mono (by omega), by dsimp only; rw [set_self hi]⟩ (by dsimp only; omega) ?_
  rintro ⟨j, l2⟩ next2 ⟨j1, j2, j3, j4⟩ hn2
  dsimp only at j1 j2 j3 j4 ⊢
  have hln2 := j3.n
  have hi2 : i.toNat < l2.length := by omega
  refine ok_brk (fun hb => ?_) (fun hb => ok_chk (show InR _ from ⟨by omega, by omega⟩) (hn _ ⟨by dsimp only; omega, by dsimp only; omega, by dsimp only; exact j3.mono (by omega)⟩ (by dsimp only; omega)))
  have hb := of_decide_eq_true hb
  have hx := j3.x _ (getD_mem (d := []) hi2) _ (getD_mem (d := 0) (show j.toNat < (l2.getD i.toNat []).length by omega))
  refine ok_chk ⟨i1, by omega⟩ (ok_chk ⟨j1, by omega⟩ (ok_chk (show InR _ from ⟨by omega, by omega⟩) (ok_chk ⟨j1, by omega⟩ (ok_chk (show InR _ from ⟨by omega, by omega⟩) (hn2 _ ⟨by dsimp only; omega, by dsimp only; omega, ?_, ?_⟩ (by dsimp only; omega))))))
  ·dsimp only
   refine (j3.mono (by omega)).set (by rw [List.length_set]; omega) fun y hy => ?_
   rcases List.mem_or_eq_of_mem_set hy with hy | rfl
   ·have := j3.x _ (getD_mem (d := []) hi2) y hy
    omega
   ·omega
  ·dsimp only
   rw [getD_set' (by omega), if_pos rfl, List.length_set]; exact j4
 refine ok_bnd _ (Month_ok hF2 hsF hd14 (by omega) hbF) fun x hx2 => ok_bnd _ (refMonth_ok hF2 hsF hd14 (by omega) hbF) fun y hy2 => ?_
 have e := hx2.one hy2
 subst e
 obtain ⟨m1, m2, m3⟩ := hx2.few
 refine ok_brkF (by simp) (ok_bnde (same_ok (by omega) (by omega)) (ok_brkF rfl ?_))
 refine ok_join (by omega) (fun x : Bool => x = true) (fun x hx18 => ?_) fun k hk => sameLists_ok hF1 m3 (hk _ rfl)
 subst hx18
 refine ok_brkF rfl ?_
 refine ok_join (by omega) (fun x : Bool => x = true) (fun x hx19 => ?_) fun k hk => sameLists_ok hF1 m2 (hk _ rfl)
 subst hx19
 refine ok_brkF rfl ?_
 obtain ⟨r, e1, e2⟩ := sums_one hF1 hsF (s := s) hd14
 refine ok_bnde e1 (ok_bnde e2 (ok_brkT (by simp) (ok_brkT (by simp) (ok_bnde (same_ok (by omega) (by omega)) (ok_brkT rfl ?_)))))
 refine ok_join (by omega) (fun x : Bool => x = true) (fun x hx23 => ?_) fun k hk => sameLists_ok hF1 hsF (hk _ rfl)
 subst hx23
 refine ok_brkT rfl (ok_bnde (same_ok (by omega) (by omega)) (ok_brkT rfl ?_))
 refine ok_join (by omega) (fun x : Bool => x = true) (fun x hx25 => ?_) fun k hk => sameLists_ok hF1 hbF (hk _ rfl)
 subst hx25
 exact ok_bnde (b := true) (by rw [brk_true]; exact aw) (ok_some rfl)
theorem feesMonths_ok {s : State} {p : List Int} {b : List (List Int)} {late : Int} {P Q R S : Prop} (_ : P) (_ : Q) (_ : R) (_ : S) : law12_FeesMonths 1000000000000000 s p b late = some true := feesMonths_ok' rfl s p b late
end Go.Proofs.Fm

namespace Go.KX
open Go Go.ChangeShapes Go.WideShapes Go.RowKit
def goodT (P : Program) : Nat → TypeId → Bool
 | 0, _ => false
 | n + 1, t => match P.underlying t with
  | some (.int _) => true
  | some .bool => true
  | some (.struct fs) => fs.toList.all fun f => goodT P n f.type
  | some (.array _ e) => goodT P n e
  | some (.slice e) => goodT P n e && Nat.ble 1 (P.cellsOf e)
  | _ => false
theorem mapM_carry' {α β : Type} {f g : α → Option β} : ∀ {l : List α} {r : List β}, l.mapM f = some r → (∀ x y, x ∈ l → y ∈ r → f x = some y → g x = some y) → l.mapM g = some r := mapM_carry
section
variable {H : Type} {enc : TypeId × Value → H} {P : Program} {w : World} {base : Nat} {held : Bool}
theorem trod_spare {sp : Nat → Bool} : ∀ (m n : Nat) (t : TypeId) (cs : List Value) (x : DataW H × List MemPlace), goodT P m t = true →
  DataW.trod enc P w base (fun _ => true) held n t cs = some x → (∀ p ∈ x.2, sp p.block = true) → DataW.trod enc P w base sp held n t cs = some x := by
 intro m
 induction m with
 | zero => intro n t cs x h; cases h
 | succ m ih =>
  intro n t cs x hg h hs
  cases n with
  | zero => simp [DataW.trod] at h
  | succ n =>
   rw [DataW.trod_step] at h ⊢
   unfold goodT at hg
   unfold DataW.trodStep at h ⊢
   split at h
   case h_1 => exact h
   case h_2 => exact h
   case h_8 e a len cap hu =>
    rw [hu] at hg
    simp only [Bool.and_eq_true] at hg
    simp only at h ⊢
    split at h
    ·rename_i hc
     rw [if_pos hc]
     simp only [if_true, Option.map_eq_some_iff, Option.bind_eq_some_iff] at h ⊢
     obtain ⟨elems, he, rest, hr, rfl⟩ := h
     have hlen : elems.length = len := by simpa using mapM_some_length he
     have hrlen : rest.length = cap - len := by simpa using mapM_some_length hr
     have hk : 1 ≤ P.cellsOf e := Nat.le_of_ble_eq_true hg.2
     have one : ∀ i y, (w.cells? base (a.add (i * P.cellsOf e)) (P.cellsOf e)).bind (DataW.trod enc P w base (fun _ => true) held n e) = some y → (∀ p ∈ y.2, sp p.block = true) →
       (w.cells? base (a.add (i * P.cellsOf e)) (P.cellsOf e)).bind (DataW.trod enc P w base sp held n e) = some y := by
      intro i y hy hp
      rw [Option.bind_eq_some_iff] at hy ⊢
      obtain ⟨cs', h1, h2⟩ := hy
      exact ⟨cs', h1, ih n e cs' y hg.1 h2 hp⟩
     have hpl : ∀ y, y ∈ elems ++ rest → ∀ p ∈ y.2, sp p.block = true := fun y hy p hp => hs p (by
      simp only [List.mem_append]
      exact .inr (List.mem_flatMap.2 ⟨y, hy, hp⟩))
     refine ⟨elems, mapM_carry' he fun i y hi hy hiy => one i y hiy (hpl y (by simp [hy])), rest, ?_, rfl⟩
     by_cases hcap : cap = 0
     ·have : rest = [] := List.length_eq_zero_iff.1 (by omega)
      subst this
      split
      ·rw [show cap - len = 0 by omega]; rfl
      ·rfl
     ·have : sp a.block = true := by
       have := hs (.cell a.block (a.off + 0)) (by
        simp only [List.mem_append]
        refine .inl (MemPlace.mem_row.2 ⟨0, ?_, rfl⟩)
        rw [hlen, hrlen, show len + (cap - len) = cap by omega]
        exact Nat.mul_pos (by omega) hk)
       exact this
      rw [if_pos this]
      exact mapM_carry' hr fun j y hj hy hjy => one _ y hjy (hpl y (by simp [hy]))
    ·cases h
   case h_7 => exact h
   case h_9 fs cs' hu =>
    rw [hu] at hg
    simp only at hg
    split at h
    ·rename_i hl
     rw [if_pos hl]
     simp only [Option.map_eq_some_iff] at h ⊢
     obtain ⟨xs, hx, rfl⟩ := h
     refine ⟨xs, mapM_carry' hx fun f y hf hy hfy => ih n f.type _ y (List.all_eq_true.1 hg f hf) hfy fun p hp => hs p ?_, rfl⟩
     exact List.mem_flatMap.2 ⟨y, hy, hp⟩
    ·cases h
   case h_10 =>
    rename_i e hu
    rw [hu] at hg
    simp only at hg
    split at h
    ·rename_i hl
     rw [if_pos hl]
     simp only [Option.map_eq_some_iff] at h ⊢
     obtain ⟨xs, hx, rfl⟩ := h
     refine ⟨xs, mapM_carry' hx fun f y hf hy hfy => ih n e _ y hg hfy fun p hp => hs p ?_, rfl⟩
     exact List.mem_flatMap.2 ⟨y, hy, hp⟩
    ·cases h
   all_goals simp_all
theorem trod_move {w' : World} {sp : Nat → Bool} {t : TypeId} {v : Value} {d : DataW H} {ps : List MemPlace} (hg : goodT P 8 t = true) (h : DataW.Trod enc P w base (fun _ => true) held t v d ps)
  (hsame : ∀ p ∈ ps, w.sameAt w' p) (hs : ∀ p ∈ ps, sp p.block = true) : DataW.Trod enc P w' base sp held t v d ps := by
 obtain ⟨n, hn⟩ := h
 exact ⟨n, trod_spare 8 n t _ _ hg (DataW.trod_carry n t _ _ hn hsame) hs⟩
theorem trodAll_move {w' : World} {sp : Nat → Bool} : ∀ {ts : List TypeId} {vs : List Value} {ds : List (DataW H)} {ps : List MemPlace}, ts.all (goodT P 8) = true → DataW.TrodAll enc P w base (fun _ => true) held ts vs ds ps →
  (∀ p ∈ ps, w.sameAt w' p) → (∀ p ∈ ps, sp p.block = true) → DataW.TrodAll enc P w' base sp held ts vs ds ps := by
 intro ts
 induction ts with
 | nil =>
  intro vs ds ps _ h _ _
  obtain ⟨rfl, rfl, rfl⟩ := trodAll_nil h
  rfl
 | cons t ts ih =>
  intro vs ds ps hg h hsame hs
  obtain ⟨v, vs', d, ds', p, q, rfl, rfl, rfl, h1, h2⟩ := trodAll_cons h
  simp only [List.all_cons, Bool.and_eq_true] at hg
  exact ⟨p, q, trod_move hg.1 h1 (fun x hx => hsame x (by simp [hx])) (fun x hx => hs x (by simp [hx])), ih hg.2 h2 (fun x hx => hsame x (by simp [hx])) (fun x hx => hs x (by simp [hx])), rfl⟩
theorem post_law {f : Func} {s : ChangeSpec} {W W' : World} {args : Array Value} {ds gs : List (DataW H)} {before : List MemPlace} {tb : TypeId} (hW : DataW.Whole enc P f.params.toList s.vars false W args.toList ds gs before)
  (hv : s.vars = []) (hfn : s.fn H ds = { results := [.lit (.bool true)], args := ds }) (hrt : f.resultTypes = #[tb]) (htb : P.underlying tb = some .bool) (hgood : f.params.toList.all (goodT P 8) = true) (hb : Below W.heap.size W W') :
  s.post enc P f false true false false W args (.bool true) W' := by
 have hW0 := hW
 obtain ⟨p, q, hA, hV, rfl, _, _⟩ := hW
 rw [hv] at hV
 obtain ⟨rfl, rfl⟩ := trodVars_none hV
 have hlt : ∀ x ∈ p ++ [], x.block < W.heap.size := fun x hx => hW0.lt x hx
 have hsame : ∀ x ∈ p, W.sameAt W' x := fun x hx => hb.same (hlt x (by simpa using hx))
 refine ⟨ds, [], p ++ [], [], p, [], hW0, ?_, ?_, ?_, hb.frame _, fun h => by cases h⟩
 ·simp only [List.append_nil, hfn, hrt]
  exact trodAll_mk1 (shut_bool htb _)
 ·simp only [List.append_nil, hfn]
  exact trodAll_move hgood hA hsame fun x hx => by simpa using hlt x (by simpa using hx)
 ·simp only [List.append_nil, hfn, hv]
  rfl
end
theorem wf_i64 {n : Int} (h : (Lit.int .i64 n).wf = true) : -9223372036854775808 ≤ n ∧ n ≤ 9223372036854775807 := by
 simp [Lit.wf, IntKind.min, IntKind.max, IntKind.signed, IntKind.bits] at h
 omega
def HReads (E : Env) (t : TypeId) (c : Nat) (In : E.G.car c → Prop) : Prop :=
 E.P.cellsOf t = E.G.sz c ∧ ∀ (H : Type) (e : TypeId × Value → H) (w : World) (base : Nat) (sp : Nat → Bool) (held : Bool) (fuel : Nat) (cs : List Value) (x : DataW H × List MemPlace),
  DataW.trod e E.P w base sp held fuel t cs = some x → ∃ a : E.G.car c, HdL E.G (IsCells w) w (E.G.enc c a) cs ∧ In a
theorem isCells_of {w : World} {a : Addr} {u : Value} (h : w.cell? a = some u) : IsCells w a.block ∧ a.spot = none := by
 unfold World.cell? at h
 split at h
 ·rename_i c e s hb
  refine ⟨⟨_, hb, rfl⟩, ?_⟩
  split at h
  ·cases h
  ·rename_i hs
   simpa using hs
 ·cases h
section
variable {E : Env} {H : Type} {e : TypeId × Value → H} {w : World} {base : Nat} {sp : Nat → Bool} {held : Bool}
theorem hdL_one {x : Value} {cv : CV E.G.car} (h : Hd E.G (IsCells w) w cv x) : HdL E.G (IsCells w) w [cv] [x] := ⟨_, _, rfl, h, rfl⟩
theorem hdL_append : ∀ {a b : List (CV E.G.car)} {u v : List Value}, HdL E.G (IsCells w) w a u → HdL E.G (IsCells w) w b v → HdL E.G (IsCells w) w (a ++ b) (u ++ v)
 | [], _, _, _, h, h' => by cases h; exact h'
 | _ :: _, _, _, _, ⟨x, us, rfl, h1, h2⟩, h' => ⟨x, us ++ _, rfl, h1, hdL_append h2 h'⟩
theorem hreads_int {t : TypeId} {c : Nat} {k : IntKind} {In : E.G.car c → Prop} (f : Int → E.G.car c) (hf : ∀ n, E.G.enc c (f n) = [.v (.int k n)]) (hu : E.P.underlying t = some (.int k)) (hc : E.P.cellsOf t = E.G.sz c)
  (hIn : ∀ n, (Lit.int k n).wf = true → In (f n)) : HReads E t c In :=
 ⟨hc, fun _ _ _ _ _ _ _ _ _ h => by
  obtain ⟨n, h1, _, h2⟩ := DataW.trod_int hu h
  subst h1
  exact ⟨f n, by rw [hf]; exact hdL_one (.v _), hIn n h2⟩⟩
theorem fields_of {t : TypeId} {fs : Array Field} {fuel : Nat} {cs : List Value} {x : DataW H × List MemPlace} (hu : E.P.underlying t = some (.struct fs)) (h : DataW.trod e E.P w base sp held fuel t cs = some x) :
  cs.length = E.P.cellsOf t ∧ ∀ (j : Nat) (fd : Field), fs[j]? = some fd → ∃ fuel y, DataW.trod e E.P w base sp held fuel fd.type ((cs.drop fd.offset).take (E.P.cellsOf fd.type)) = some y := by
 obtain ⟨xs, n, rfl, rfl, hl, hlen, hf⟩ := DataW.trod_struct hu h
 refine ⟨hl, fun j fd hj => ?_⟩
 have hlt : j < xs.length := by have := (Array.getElem?_eq_some_iff.1 hj).1; omega
 exact ⟨n, xs[j], by rw [hf j fd hj, List.getElem?_eq_getElem hlt]⟩
theorem HReads.at {t : TypeId} {c off : Nat} {In : E.G.car c → Prop} {cs : List Value} (hR : HReads E t c In)
  (hx : ∃ fuel y, DataW.trod e E.P w base sp held fuel t ((cs.drop off).take (E.P.cellsOf t)) = some y) : ∃ a, HdL E.G (IsCells w) w (E.G.enc c a) ((cs.drop off).take (E.G.sz c)) ∧ In a := by
 obtain ⟨fuel, y, h⟩ := hx
 rw [hR.1] at h
 exact hR.2 _ _ _ _ _ _ _ _ _ h
theorem hcut_cons {a r : List (CV E.G.car)} {cs : List Value} {o n : Nat} (h : HdL E.G (IsCells w) w a ((cs.drop o).take n)) (hr : HdL E.G (IsCells w) w r (cs.drop (o + n))) : HdL E.G (IsCells w) w (a ++ r) (cs.drop o) := by
 have := hdL_append h hr
 rwa [← List.drop_drop, List.take_append_drop] at this
theorem hcut_nil {cs : List Value} {o : Nat} (h : cs.length ≤ o) : HdL E.G (IsCells w) w [] (cs.drop o) := List.drop_eq_nil_of_le h
theorem hslice_of {t el : TypeId} {c fuel : Nat} {In : E.G.car c → Prop} {cs : List Value} {x : DataW H × List MemPlace} (hu : E.P.underlying t = some (.slice el)) (hR : HReads E el c In) (hn : 0 < E.G.sz c)
  (h : DataW.trod e E.P w base sp held fuel t cs = some x) :
  ∃ (p : Option Addr) (n cap : Nat) (l : List (E.G.car c)), cs = [.slice p n cap] ∧ Hd E.G (IsCells w) w (.sl c l) (.slice p n cap) ∧ (∀ x ∈ l, In x) ∧ l.length ≤ 9223372036854775807 := by
 rcases DataW.trod_slice hu h with ⟨rfl, _⟩ | ⟨a, len, cap, elems, rest, m, _, rfl, _, hb, hl, hm, hel, hi, _, _⟩
 ·exact ⟨none, 0, 0, [], rfl, Hd.mk (b := 0) (o := 0) rfl (Nat.le_refl _) (fun h => absurd rfl h) (fun i x hx => by simp at hx), by simp, by simp⟩
 have build : ∀ k, k ≤ len → ∃ l : List (E.G.car c), l.length = k ∧ ∀ i x, l[i]? = some x → In x ∧ ∃ us, w.cells? base (a.add (i * E.G.sz c)) (E.G.sz c) = some us ∧ HdL E.G (IsCells w) w (E.G.enc c x) us := by
  intro k
  induction k with
  | zero => intro _; exact ⟨[], rfl, fun i x hx => by simp at hx⟩
  | succ k ih =>
   intro hk
   obtain ⟨l, h1, h2⟩ := ih (by omega)
   have h3 := hi k (by omega)
   rw [List.getElem?_eq_getElem (by omega), hR.1, Option.bind_eq_some_iff] at h3
   obtain ⟨cs', h4, h5⟩ := h3
   obtain ⟨y, hy1, hy⟩ := hR.2 _ _ _ _ _ _ _ _ _ h5
   refine ⟨l ++ [y], by simp [h1], fun i x hx => ?_⟩
   rcases Nat.lt_or_ge i k with h6 | h6
   ·rw [List.getElem?_append_left (by omega)] at hx; exact h2 i x hx
   ·rw [List.getElem?_append_right (by omega)] at hx
    have : i - l.length = 0 := by
     have := (List.getElem?_eq_some_iff.1 hx).1
     simpa using this
    rw [this] at hx
    simp only [List.getElem?_cons_zero, Option.some.injEq] at hx
    subst hx
    obtain rfl : i = k := by omega
    exact ⟨hy, _, h4, hy1⟩
 obtain ⟨l, h1, h2⟩ := build len (Nat.le_refl _)
 have hcell : ∀ (i : Nat) x, l[i]? = some x → ∀ (j : Nat) (cv : CV E.G.car), (E.G.enc c x)[j]? = some cv → ∃ u, w.cell? ((a.add (i * E.G.sz c)).add j) = some u ∧ Hd E.G (IsCells w) w cv u := by
  intro i x hx j cv hcv
  obtain ⟨_, us, h3, h4⟩ := h2 i x hx
  obtain ⟨u, h5, h6⟩ := h4.get j cv hcv
  obtain ⟨_, h7, h8⟩ := World.cells?_some h3
  refine ⟨u, ?_, h6⟩
  rw [h8 j (by rw [← h7]; exact (List.getElem?_eq_some_iff.1 h5).1), h5]
 refine ⟨some a, len, cap, l, rfl, ?_, fun x hx => ?_, by unfold maxLen at hm; omega⟩
 ·rcases Nat.eq_zero_or_pos len with h0 | h0
  ·have : l = [] := List.length_eq_zero_iff.1 (by omega)
   subst this
   exact Hd.mk (b := 0) (o := 0) h1.symm hl (fun h => absurd rfl h) (fun i x hx => by simp at hx)
  ·have hpos : 0 < l.length := by omega
   have hz : 0 < (E.G.enc c l[0]).length := by rw [E.G.hsz]; exact hn
   obtain ⟨u, h3, _⟩ := hcell 0 l[0] (List.getElem?_eq_getElem hpos) 0 _ (List.getElem?_eq_getElem hz)
   rw [Nat.zero_mul, show (a.add 0).add 0 = a by simp [Addr.add]] at h3
   obtain ⟨h4, h5⟩ := isCells_of h3
   obtain ⟨b, o, s⟩ := a
   simp only at h4 h5
   subst h5
   refine Hd.mk (b := b) (o := o) h1.symm hl (fun _ => ⟨rfl, h4⟩) (fun i x hx j cv hcv => ?_)
   have := hcell i x hx j cv hcv
   rwa [addr_add, addr_add] at this
 ·obtain ⟨i, hi⟩ := List.getElem?_of_mem hx
  exact (h2 i x hi).1
theorem hreads_slice {t el : TypeId} {c d : Nat} {In : E.G.car c → Prop} {In' : E.G.car d → Prop} (f : List (E.G.car c) → E.G.car d) (hf : ∀ l, E.G.enc d (f l) = [.sl c l]) (hu : E.P.underlying t = some (.slice el)) (hR : HReads E el c In)
  (hn : 0 < E.G.sz c) (hc : E.P.cellsOf t = E.G.sz d) (hIn : ∀ l, (∀ x ∈ l, In x) → l.length ≤ 9223372036854775807 → In' (f l)) : HReads E t d In' :=
 ⟨hc, fun _ _ _ _ _ _ _ _ _ h => by
  obtain ⟨p, n, cap, l, rfl, h1, h2, h3⟩ := hslice_of hu hR hn h
  exact ⟨f l, by rw [hf]; exact hdL_one h1, hIn l h2 h3⟩⟩
theorem harg_int {r : Reach} {b0 : Nat} {t : TypeId} {c : Nat} {k : IntKind} {In : E.G.car c → Prop} {v : Value} {d : DataW H} {ps : List MemPlace} (hR : HReads E t c In) (hu : E.P.underlying t = some (.int k))
  (hval : Value.okWide E.P w r b0 t v) (h : DataW.Trod e E.P w base sp held t v d ps) : ∃ a : E.G.car c, ArgIs E (IsCells w) w (.v c false) a v ∧ In a := by
 obtain ⟨n, rfl⟩ := okWide_int hu hval
 obtain ⟨fuel, hf⟩ := h
 obtain ⟨a, h1, h2⟩ := hR.2 _ _ _ _ _ _ _ _ _ hf
 exact ⟨a, ⟨_, h1, rfl⟩, h2⟩
theorem harg_agg {r : Reach} {b0 : Nat} {t : TypeId} {c : Nat} {fs : Array Field} {In : E.G.car c → Prop} {v : Value} {d : DataW H} {ps : List MemPlace} (hR : HReads E t c In) (hu : E.P.underlying t = some (.struct fs))
  (hval : Value.okWide E.P w r b0 t v) (h : DataW.Trod e E.P w base sp held t v d ps) : ∃ a : E.G.car c, ArgIs E (IsCells w) w (.v c true) a v ∧ In a := by
 obtain ⟨cs, rfl, _⟩ := okWide_struct hu hval
 obtain ⟨fuel, hf⟩ := h
 obtain ⟨a, h1, h2⟩ := hR.2 _ _ _ _ _ _ _ _ _ hf
 exact ⟨a, ⟨_, h1, rfl⟩, h2⟩
theorem harg_sl {r : Reach} {b0 : Nat} {t el : TypeId} {c : Nat} {In : E.G.car c → Prop} {v : Value} {d : DataW H} {ps : List MemPlace} (hu : E.P.underlying t = some (.slice el)) (hR : HReads E el c In) (hn : 0 < E.G.sz c)
  (hval : Value.okWide E.P w r b0 t v) (h : DataW.Trod e E.P w base sp held t v d ps) : ∃ a : List (E.G.car c), ArgIs E (IsCells w) w (.sl c) a v ∧ (∀ x ∈ a, In x) ∧ a.length ≤ 9223372036854775807 := by
 obtain ⟨p, n, cap, rfl⟩ := okWide_slice hu hval
 obtain ⟨fuel, hf⟩ := h
 obtain ⟨p', n', cap', l, h1, h2, h3, h4⟩ := hslice_of hu hR hn hf
 have h1 : [Value.slice p n cap] = [.slice p' n' cap'] := h1
 simp only [List.cons.injEq, and_true, Value.slice.injEq] at h1
 obtain ⟨rfl, rfl, rfl⟩ := h1
 exact ⟨l, h2, h3, h4⟩
theorem law_calls {k : Nat} {ps : List PK} {t : Nat} {es : List Nat} {f : AT E.G.car ps → Option (E.G.car t)} (hc : CSok E [] ⟨k, ps, [.v t false es], f⟩) (hglo : E.glo = []) (b : E.G.car t) (hb : E.G.enc t b = [.v (.bool true)])
  {vs : List Value} {xs : AT E.G.car ps} (ha : ArgsAre E (IsCells w) w ps xs vs) (hm : f xs = some b) :
  Calls E.P k vs.toArray w fun e w' => e = .returned (.bool true) ∧ Below w.heap.size w w' := by
 have h := hc.ok (IsCells w) w vs xs ⟨fun _ => { b := 0, p := none, n := 0, c := 0 }, by rw [hglo]; exact And.intro (fun p hp => nomatch hp) (fun q hq => nomatch hq)⟩ (fun _ h => h) ha b hm
 refine h.mono fun e' w' ⟨us, ms, A', h1, h2, _, _, _, h3, _⟩ => ⟨?_, h2.below⟩
 obtain ⟨v, rfl, us', h4, h5⟩ := h3
 simp only [Bool.false_eq_true, if_false] at h5
 subst h5
 have h4 : ResCells E.G A' w.heap.size w' (E.G.enc t b) es [v] ms := h4
 rw [hb] at h4
 obtain ⟨us2, h6, _⟩ := h4
 cases h6
 exact h1
end
end Go.KX
