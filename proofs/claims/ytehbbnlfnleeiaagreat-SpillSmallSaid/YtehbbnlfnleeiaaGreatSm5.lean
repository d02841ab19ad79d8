/- Texts SsQ, SsL, KFR: own work; each part says what it is. -/
import Derived.Test.YtehbbnlfnleeiaaGreatSm4
import Derived.Handed
import Derived.OpenShut
import Derived.ChangeSlices
import Derived.JoinedOf
namespace Go.Proofs.Ss
open Go Go.KX
end Go.Proofs.Ss
namespace Go.Proofs.Ss
open Go Go.KX
abbrev j0 : Job := Job.mk (0 : Int) (0 : Int) (0 : Int)
structure JobOK (j : Job) : Prop where
 f0 : 0 ≤ j.f_from
 ft : j.f_from < j.f_to
 t1 : j.f_to ≤ 48
 w0 : 0 ≤ j.f_worth
 w1 : j.f_worth ≤ 64000000
structure JobsOK (J : List Job) : Prop where
 len : J.length ≤ 12
 ok : ∀ j ∈ J, JobOK j
theorem JobsOK.at {J : List Job} (h : JobsOK J) {i : Nat} (hi : i < J.length) : JobOK (J.getD i j0) := h.ok _ (getD_mem hi)
def Arc (J : List Job) (ch : List Bool) (idle : List Int) (b : Int) (v u : Nat) (c : Int) : Prop :=
 (b = -1 ∧ v = u + 1 ∧ u < 48 ∧ c = 0) ∨ (b = -2 ∧ u = v + 1 ∧ v < 48 ∧ c = 0 ∧ 0 < idle.getD v 0) ∨
 (0 ≤ b ∧ b < J.length ∧ ch.getD b.toNat false = true ∧ v = (J.getD b.toNat j0).f_from.toNat ∧ u = (J.getD b.toNat j0).f_to.toNat ∧ c = (J.getD b.toNat j0).f_worth) ∨
 (0 ≤ b ∧ b < J.length ∧ ch.getD b.toNat false = false ∧ v = (J.getD b.toNat j0).f_to.toNat ∧ u = (J.getD b.toNat j0).f_from.toNat ∧ c = -(J.getD b.toNat j0).f_worth)
theorem Arc.lt {J : List Job} {ch : List Bool} {idle : List Int} {b : Int} {v u : Nat} {c : Int} (hJ : JobsOK J) (h : Arc J ch idle b v u c) : v < 49 ∧ u < 49 ∧ v ≠ u := by
 rcases h with ⟨_, h1, h2, _⟩ | ⟨_, h1, h2, _⟩ | ⟨h0, h1, _, h2, h3, _⟩ | ⟨h0, h1, _, h2, h3, _⟩
 ·omega
 ·omega
 ·have := hJ.at (i := b.toNat) (by omega)
  obtain ⟨q1, q2, q3, _, _⟩ := this
  omega
 ·have := hJ.at (i := b.toNat) (by omega)
  obtain ⟨q1, q2, q3, _, _⟩ := this
  omega
theorem Arc.one {J : List Job} {ch : List Bool} {idle : List Int} {b : Int} {v u u' : Nat} {c c' : Int} (h : Arc J ch idle b v u c) (h' : Arc J ch idle b v u' c') : u = u' ∧ c = c' := by
 rcases h with ⟨h0, h1, h2, h3⟩ | ⟨h0, h1, h2, h3, _⟩ | ⟨h0, h1, hc, h2, h3, h4⟩ | ⟨h0, h1, hc, h2, h3, h4⟩ <;>
  rcases h' with ⟨g0, g1, g2, g3⟩ | ⟨g0, g1, g2, g3, _⟩ | ⟨g0, g1, gc, g2, g3, g4⟩ | ⟨g0, g1, gc, g2, g3, g4⟩ <;>
  first | (exfalso; omega) | (rw [hc] at gc; cases gc) | skip
 ·exact ⟨by omega, by omega⟩
 ·exact ⟨by omega, by omega⟩
 ·exact ⟨by rw [h3, g3], by rw [h4, g4]⟩
 ·exact ⟨by rw [h3, g3], by rw [h4, g4]⟩
theorem Arc.node {J : List Job} {ch : List Bool} {idle : List Int} {b : Int} {v v' u u' : Nat} {c c' : Int} (h : Arc J ch idle b v u c) (h' : Arc J ch idle b v' u' c') (hb : 0 ≤ b) : v = v' := by
 rcases h with ⟨h0, _⟩ | ⟨h0, _⟩ | ⟨h0, h1, hc, h2, h3, h4⟩ | ⟨h0, h1, hc, h2, h3, h4⟩
 ·omega
 ·omega
 ·rcases h' with ⟨g0, _⟩ | ⟨g0, _⟩ | ⟨g0, g1, gc, g2, g3, g4⟩ | ⟨g0, g1, gc, g2, g3, g4⟩
  ·omega
  ·omega
  ·rw [h2, g2]
  ·rw [hc] at gc; cases gc
 ·rcases h' with ⟨g0, _⟩ | ⟨g0, _⟩ | ⟨g0, g1, gc, g2, g3, g4⟩ | ⟨g0, g1, gc, g2, g3, g4⟩
  ·omega
  ·omega
  ·rw [hc] at gc; cases gc
  ·rw [h2, g2]
def Feas (J : List Job) (ch : List Bool) (idle : List Int) (p : Nat → Int) : Prop := ∀ b v u c, Arc J ch idle b v u c → p v ≤ p u + c
structure CI (J : List Job) (ch : List Bool) (idle : List Int) (p : Nat → Int) (cost bys : List Int) : Prop where
 lc : cost.length = 49
 lb : bys.length = 49
 c0 : cost.getD 0 0 = 0
 lo : ∀ v, v < 49 → p v ≤ cost.getD v 0
 hi : ∀ v, v < 49 → cost.getD v 0 ≤ 0
 rk : ∃ D : Nat → Nat, ∀ v, 1 ≤ v → v < 49 → ∃ u c, Arc J ch idle (bys.getD v 0) v u c ∧ cost.getD u 0 + c ≤ cost.getD v 0 ∧ D u < D v
inductive Via (R : Nat → Nat → Prop) (v : Nat) : Nat → Prop
 | here : Via R v v
 | step {w u : Nat} (h : R w u) (hu : Via R v u) : Via R v w
theorem CI.reach {J : List Job} {ch : List Bool} {idle : List Int} {p : Nat → Int} {cost bys : List Int} (hJ : JobsOK J) (hp : Feas J ch idle p) (p0 : p 0 = 0) (h : CI J ch idle p cost bys) {b : Int} {v u : Nat} {c : Int} (ha : Arc J ch idle b v u c) (hlt : cost.getD u 0 + c < cost.getD v 0) :
  CI J ch idle p (cost.set v (cost.getD u 0 + c)) (bys.set v b) := by
 obtain ⟨hv, hu, hne⟩ := ha.lt hJ
 have hlc := h.lc
 have hlb := h.lb
 have hl := h.lo u hu
 have hpa := hp _ _ _ _ ha
 have hv0 : v ≠ 0 := by
  rintro rfl
  have := h.c0
  omega
 have gc : ∀ w, (cost.set v (cost.getD u 0 + c)).getD w 0 = if v = w then cost.getD u 0 + c else cost.getD w 0 := fun w => getD_set' (by omega)
 have gb : ∀ w, (bys.set v b).getD w 0 = if v = w then b else bys.getD w 0 := fun w => getD_set' (by omega)
 refine ⟨by rw [List.length_set, hlc], by rw [List.length_set, hlb], by rw [gc, if_neg (by omega), h.c0], fun w hw => ?_, fun w hw => ?_, ?_⟩
 ·rw [gc]
  split
  ·rename_i e; subst e; omega
  ·exact h.lo w hw
 ·rw [gc]
  split
  ·have := h.hi v hv; omega
  ·exact h.hi w hw
 ·obtain ⟨D, hD⟩ := h.rk
  -- pointers before
  let R : Nat → Nat → Prop := fun w x => 1 ≤ w ∧ w < 49 ∧ ∃ c', Arc J ch idle (bys.getD w 0) w x c' ∧ cost.getD x 0 + c' ≤ cost.getD w 0
  have Rone : ∀ w x x', R w x → R w x' → x = x' := fun w x x' ⟨_, _, _, a, _⟩ ⟨_, _, _, a', _⟩ => (a.one a').1
  have via_cost : ∀ w, Via R v w → p w - p v ≤ cost.getD w 0 - cost.getD v 0 := by
   intro w hw
   induction hw with
   | here => omega
   | step hr _ ih =>
    obtain ⟨_, _, c', a, hc⟩ := hr
    have := hp _ _ _ _ a
    omega
  have hnu : ¬ Via R v u := fun hh => by
   have := via_cost u hh
   omega
  classical
  refine ⟨fun w => if Via R v w then D w + D u + 1 else D w, fun w hw1 hw2 => ?_⟩
  rw [gb]
  by_cases e : v = w
  ·subst e
   rw [if_pos rfl]
   refine ⟨u, c, ha, ?_, ?_⟩
   ·rw [gc, gc, if_pos rfl, if_neg hne]; exact Int.le_refl _
   ·show (if Via R v u then _ else _) < (if Via R v v then _ else _)
    rw [if_neg hnu, if_pos Via.here]; omega
  ·rw [if_neg e]
   obtain ⟨x, c', a, hc, hd⟩ := hD w hw1 hw2
   have hr : R w x := ⟨hw1, hw2, c', a, hc⟩
   refine ⟨x, c', a, ?_, ?_⟩
   ·rw [gc, gc, if_neg e]
    split
    ·rename_i e2; subst e2; omega
    ·exact hc
   ·show (if Via R v x then _ else _) < (if Via R v w then _ else _)
    by_cases hx : Via R v x
    ·rw [if_pos hx, if_pos (Via.step hr hx)]; omega
    ·rw [if_neg hx, if_neg (fun hw => by
      cases hw with
      | here => exact e rfl
      | step hr' hu' => exact hx (Rone _ _ _ hr hr' ▸ hu'))]
     exact hd
theorem CI.init {J : List Job} {ch : List Bool} {idle : List Int} {p : Nat → Int} {bys : List Int} (hp : Feas J ch idle p) (p0 : p 0 = 0) (hb : bys.length = 49) (hb1 : ∀ v, v < 49 → bys.getD v 0 = -1) : CI J ch idle p (List.replicate 49 0) bys := by
 have hdown : ∀ v, v < 49 → p v ≤ 0 := by
  intro v
  induction v with
  | zero => intro _; omega
  | succ n ih =>
   intro hn
   have h1 := ih (by omega)
   have := hp (-1) (n + 1) n 0 (.inl ⟨rfl, rfl, by omega, rfl⟩)
   omega
 have g : ∀ v, v < 49 → (List.replicate 49 (0 : Int)).getD v 0 = 0 := fun v hv => by rw [getD_get (by rw [List.length_replicate]; exact hv), List.getElem_replicate]
 refine ⟨by rw [List.length_replicate], hb, g 0 (by omega), fun v hv => by rw [g v hv]; exact hdown v hv, fun v hv => by rw [g v hv]; exact Int.le_refl _, id, fun v h1 h2 => ⟨v - 1, 0, .inl ⟨hb1 v h2, by omega, by omega, rfl⟩, by rw [g v h2, g (v - 1) (by omega)]; exact Int.le_refl _, by show v - 1 < v; omega⟩⟩
theorem small_rank (D : Nat → Nat) : ∃ D' : Nat → Nat, (∀ v, D' v ≤ 49) ∧ ∀ u v, u < 49 → D u < D v → D' u < D' v := by
 refine ⟨fun v => ((List.range 49).filter fun w => decide (D w < D v)).length, fun v => ?_, fun u v hu h => ?_⟩
 ·refine Nat.le_trans (List.length_filter_le _ _) ?_
  rw [List.length_range]; exact Nat.le_refl _
 ·have key : ∀ l : List Nat, u ∈ l → (l.filter fun w => decide (D w < D u)).length < (l.filter fun w => decide (D w < D v)).length := by
   intro l
   have mono : ∀ l : List Nat, (l.filter fun w => decide (D w < D u)).length ≤ (l.filter fun w => decide (D w < D v)).length := by
    intro l
    induction l with
    | nil => exact Nat.le_refl _
    | cons x l ih =>
     rw [List.filter_cons, List.filter_cons]
     by_cases h1 : D x < D u
     ·rw [if_pos (decide_eq_true h1), if_pos (decide_eq_true (Nat.lt_trans h1 h))]
      simp only [List.length_cons]; omega
     ·rw [if_neg (by simpa using h1)]
      split
      ·simp only [List.length_cons]; omega
      ·exact ih
   induction l with
   | nil => intro hh; cases hh
   | cons x l ih =>
    intro hh
    rw [List.filter_cons, List.filter_cons]
    by_cases e : x = u
    ·subst e
     rw [if_neg (by simp), if_pos (decide_eq_true h)]
     have := mono l
     simp only [List.length_cons]; omega
    ·have := ih (by simpa [Ne.symm e] using hh)
     by_cases h1 : D x < D u
     ·rw [if_pos (decide_eq_true h1), if_pos (decide_eq_true (Nat.lt_trans h1 h))]
      simp only [List.length_cons]; omega
     ·rw [if_neg (by simpa using h1)]
      split
      ·simp only [List.length_cons]; omega
      ·exact this
  exact key _ (List.mem_range.2 hu)
end Go.Proofs.Ss
namespace Go.Proofs.Ss
open Go Go.KX
theorem sumL_ge {B : Int} : ∀ l : List Int, (∀ x ∈ l, -B ≤ x) → -(B * l.length) ≤ sumL l
 | [], _ => by simp [sumL]
 | x :: l, h => by
  have h1 := sumL_ge l fun y hy => h y (List.mem_cons_of_mem _ hy)
  have h2 := h x List.mem_cons_self
  have e : B * ((x :: l).length : Int) = B * (l.length : Int) + B := by rw [List.length_cons]; push_cast; rw [Int.mul_add, Int.mul_one]
  simp only [sumL]
  omega
theorem CI.sum {J : List Job} {ch : List Bool} {idle : List Int} {p : Nat → Int} {cost bys : List Int} (h : CI J ch idle p cost bys) (hb : ∀ v, v < 49 → -1000000000 ≤ p v) : -49000000000 ≤ sumL cost ∧ sumL cost ≤ 0 := by
 have hl := h.lc
 constructor
 ·have := sumL_ge (B := 1000000000) cost fun x hx => by
   obtain ⟨i, hi, rfl⟩ := List.getElem_of_mem hx
   have h1 := h.lo i (by omega)
   have h2 := hb i (by omega)
   rw [getD_get hi] at h1
   omega
  rw [hl] at this
  omega
 ·have := sumL_le (B := 0) cost fun x hx => by
   obtain ⟨i, hi, rfl⟩ := List.getElem_of_mem hx
   have h1 := h.hi i (by omega)
   rw [getD_get hi] at h1
   exact h1
  omega
theorem reach_ok {R : Type} {post : R → Prop} {J : List Job} {ch : List Bool} {idle : List Int} {p : Nat → Int} {cost bys : List Int} (hJ : JobsOK J) (hp : Feas J ch idle p) (p0 : p 0 = 0) (h : CI J ch idle p cost bys) {b : Int} {v u : Nat} {c : Int} (ha : Arc J ch idle b v u c) {t n : Int} (ht : t.toNat = v) (ht0 : 0 ≤ t) (hn : n = cost.getD u 0 + c)
  {k : Bool × List Int × List Int → Option R} (hk1 : cost.getD v 0 ≤ cost.getD u 0 + c → Ok post (k (false, cost, bys))) (hk2 : ∀ cost' bys', CI J ch idle p cost' bys' → sumL cost' < sumL cost → Ok post (k (true, cost', bys'))) :
  Ok post (chk (0 ≤ t ∧ t < (cost.length : Int)) (brk (decide (n ≥ cost.getD t.toNat 0)) (k (false, cost, bys)) (chk (0 ≤ t ∧ t < (cost.length : Int)) (chk (0 ≤ t ∧ t < (bys.length : Int)) (k (true, cost.set t.toNat n, bys.set t.toNat b)))))) := by
 obtain ⟨hv, hu, hne⟩ := ha.lt hJ
 have hlc := h.lc
 have hlb := h.lb
 subst hn
 refine ok_chk ⟨ht0, by omega⟩ (ok_brk (fun hb => hk1 ?_) (fun hb => ok_chk ⟨ht0, by omega⟩ (ok_chk ⟨ht0, by omega⟩ (hk2 _ _ ?_ ?_))))
 ·have : cost.getD u 0 + c ≥ cost.getD t.toNat 0 := of_decide_eq_true hb
  rw [ht] at this
  exact this
 ·have : ¬ cost.getD u 0 + c ≥ cost.getD t.toNat 0 := of_decide_eq_false hb
  rw [ht] at this ⊢
  exact h.reach hJ hp p0 ha (by omega)
 ·have : ¬ cost.getD u 0 + c ≥ cost.getD t.toNat 0 := of_decide_eq_false hb
  rw [sumL_set _ _ _ (by omega)]
  omega
structure RI (J : List Job) (ch : List Bool) (idle : List Int) (p : Nat → Int) (c0 b0 : List Int) (D : Int → Nat → Nat → Prop) (changed : Bool) (cost bys : List Int) : Prop where
 ci : CI J ch idle p cost bys
 no : changed = false → cost = c0 ∧ bys = b0 ∧ ∀ b v u c, Arc J ch idle b v u c → D b v u → c0.getD v 0 ≤ c0.getD u 0 + c
 yes : changed = true → sumL cost < sumL c0
theorem RI.le {J : List Job} {ch : List Bool} {idle : List Int} {p : Nat → Int} {c0 b0 : List Int} {D : Int → Nat → Nat → Prop} {changed : Bool} {cost bys : List Int} (h : RI J ch idle p c0 b0 D changed cost bys) : sumL cost ≤ sumL c0 := by
 cases hc : changed with
 | false => rw [(h.no hc).1]; exact Int.le_refl _
 | true => have := h.yes hc; omega
theorem RI.keep {J : List Job} {ch : List Bool} {idle : List Int} {p : Nat → Int} {c0 b0 : List Int} {D D' : Int → Nat → Nat → Prop} {changed : Bool} {cost bys : List Int} (h : RI J ch idle p c0 b0 D changed cost bys)
  (hD : ∀ b v u c, Arc J ch idle b v u c → D' b v u → D b v u ∨ cost.getD v 0 ≤ cost.getD u 0 + c) : RI J ch idle p c0 b0 D' changed cost bys :=
 ⟨h.ci, (fun hc => by
  obtain ⟨e1, e2, e3⟩ := h.no hc
  refine ⟨e1, e2, fun b v u c ha hd => ?_⟩
  rcases hD b v u c ha hd with q | q
  ·exact e3 b v u c ha q
  ·rw [← e1]; exact q), h.yes⟩
theorem RI.new {J : List Job} {ch : List Bool} {idle : List Int} {p : Nat → Int} {c0 b0 : List Int} {D D' : Int → Nat → Nat → Prop} {changed : Bool} {cost bys cost' bys' : List Int} (h : RI J ch idle p c0 b0 D changed cost bys) (hc : CI J ch idle p cost' bys') (hs : sumL cost' < sumL cost) :
  RI J ch idle p c0 b0 D' true cost' bys' :=
 ⟨hc, (fun e => by cases e), fun _ => by have := h.le; omega⟩
def DoneA (m : Int) (b : Int) (v u : Nat) : Prop := (b = -1 ∧ (u : Int) < m) ∨ (b = -2 ∧ (v : Int) < m)
def DoneA' (m : Int) (b : Int) (v u : Nat) : Prop := (b = -1 ∧ (u : Int) ≤ m) ∨ (b = -2 ∧ (v : Int) < m)
def DoneB (i : Int) (b : Int) (_v _u : Nat) : Prop := b < i
structure CostOK (J : List Job) (ch : List Bool) (idle : List Int) (p : Nat → Int) (r : List Int × List Int) : Prop where
 ci : CI J ch idle p r.1 r.2
 fs : Feas J ch idle fun v => r.1.getD v 0
theorem costs_ok {F : Nat} (hF : 100000000000 < F) {J : List Job} {ch : List Bool} {idle : List Int} {p : Nat → Int} (hJ : JobsOK J) (hch : ch.length = J.length) (hid : idle.length = 48) (hp : Feas J ch idle p) (p0 : p 0 = 0) (pb : ∀ v, v < 49 → -1000000000 ≤ p v) : Ok (CostOK J ch idle p) (spill_costs F J ch idle) := by
 have hJl := hJ.len
 unfold spill_costs
 have r49 : ∀ v : Int, (List.replicate (Int.toNat 49) v).length = 49 := fun v => by rw [List.length_replicate]; rfl
 refine ok_chk ⟨by omega, by omega, by omega⟩ (ok_chk ⟨by omega, by omega, by omega⟩ ?_)
 refine ok_loop (fun x : Int × List Int => 0 ≤ x.1 ∧ x.1 ≤ 49 ∧ x.2.length = 49 ∧ ∀ v : Nat, (v : Int) < x.1 → x.2.getD v 0 = -1) (fun x : Int × List Int => 49 - x.1.toNat) ⟨by simp, by simp, r49 0, fun v hv => by simp at hv; omega⟩ (by simp; omega) ?_
 rintro ⟨i, l⟩ next ⟨i1, i2, i3, i4⟩ hn
 simp only at i1 i2 i3 i4
 refine ok_brk (fun hc => ?_) (fun hc => ?_)
 ·have hc : i < (List.replicate (Int.toNat 49) (0 : Int)).length := of_decide_eq_true hc
  rw [r49] at hc
  refine ok_chk ⟨i1, by show i < (l.length : Int); omega⟩ (ok_chk (show InR (i + 1) from ⟨by omega, by omega⟩) (hn _ ⟨by show 0 ≤ i + 1; omega, by show i + 1 ≤ 49; omega, by rw [List.length_set]; exact i3, fun v hv => ?_⟩ (by show 49 - (i + 1).toNat < 49 - i.toNat; omega)))
  have hv : (v : Int) < i + 1 := hv
  show (l.set i.toNat (-1)).getD v 0 = -1
  rw [getD_set' (by omega)]
  split
  ·rfl
  ·exact i4 v (by omega)
 have hc : ¬ i < (List.replicate (Int.toNat 49) (0 : Int)).length := of_decide_eq_false hc
 rw [r49] at hc
 have hci : CI J ch idle p (List.replicate 49 0) l := CI.init hp p0 i3 fun v hv => i4 v (by omega)
 clear hn next
 refine ok_loop (fun x : List Int × List Int => CI J ch idle p x.1 x.2) (fun x : List Int × List Int => (sumL x.1 + 49000000000).toNat) hci (by have := hci.sum pb; show (sumL (List.replicate 49 0) + 49000000000).toNat < F; omega) ?_
 clear hci
 rintro ⟨c0, b0⟩ next hci hnext
 simp only at hci
 have hs0 := hci.sum pb
 refine ok_loop (fun x : Bool × Int × List Int × List Int => 0 ≤ x.2.1 ∧ x.2.1 ≤ 48 ∧ RI J ch idle p c0 b0 (DoneA x.2.1) x.1 x.2.2.1 x.2.2.2) (fun x : Bool × Int × List Int × List Int => 48 - x.2.1.toNat)
  ⟨by simp, by simp, hci, fun _ => ⟨rfl, rfl, fun b v u c ha hd => by rcases hd with ⟨_, h⟩ | ⟨_, h⟩ <;> simp at h <;> omega⟩, fun e => by cases e⟩ (by simp; omega) ?_
 rintro ⟨chg, h, cost, bys⟩ next1 ⟨i1, i2, i3⟩ hn
 simp only at i1 i2 i3
 dsimp only
 have hlc := i3.ci.lc
 refine ok_brk (fun hc => ?_) (fun hc => ?_)
 ·have hc : h < 48 := of_decide_eq_true hc
  refine ok_join (by omega) (fun x : Bool × List Int × List Int => RI J ch idle p c0 b0 (DoneA (h + 1)) x.1 x.2.1 x.2.2) (fun x hx => ok_chk (show InR (h + 1) from ⟨by omega, by omega⟩) (hn _ ⟨by show 0 ≤ h + 1; omega, by show h + 1 ≤ 48; omega, hx⟩ (by show 48 - (h + 1).toNat < 48 - h.toNat; omega))) fun k hk => ?_
  refine ok_chk (show InR (h + 1) from ⟨by omega, by omega⟩) (ok_chk ⟨i1, by show h < (cost.length : Int); omega⟩ ?_)
  refine ok_join (by omega) (fun x : Bool × List Int × List Int => RI J ch idle p c0 b0 (DoneA' h) (x.1 || chg) x.2.1 x.2.2) (fun x hx => ?_) fun k2 hk2 => ?_
  ·obtain ⟨c1, cost1, bys1⟩ := x
   have hx : RI J ch idle p c0 b0 (DoneA' h) (c1 || chg) cost1 bys1 := hx
   have hl1 := hx.ci.lc
   refine ok_chk ⟨i1, by omega⟩ (ok_brk (fun hi => ?_) (fun hi => hk _ ?_))
   ·have hi : 0 < idle.getD h.toNat 0 := of_decide_eq_true hi
    refine ok_chk (show InR (h + 1) from ⟨by omega, by omega⟩) (ok_chk ⟨by omega, by show h + 1 < (cost1.length : Int); omega⟩ ?_)
    refine ok_join (by omega) (fun x : Bool × List Int × List Int => RI J ch idle p c0 b0 (DoneA (h + 1)) (x.1 || (c1 || chg)) x.2.1 x.2.2) (fun x hx => hk _ hx) fun k3 hk3 => ?_
    refine reach_ok (R := _) hJ hp p0 hx.ci (b := -2) (v := h.toNat) (u := h.toNat + 1) (c := 0) (.inr (.inl ⟨rfl, rfl, by omega, rfl, hi⟩)) (t := h) rfl i1 (n := cost1.getD (h + 1).toNat 0) (by rw [show (h + 1).toNat = h.toNat + 1 by omega, Int.add_zero]) (k := k3) (fun hle => hk3 _ ?_) (fun cost' bys' g1 g2 => hk3 _ (hx.new g1 g2))
    refine hx.keep fun b v u c ha hd => ?_
    rcases hd with ⟨e, hd⟩ | ⟨e, hd⟩
    ·exact .inl (.inl ⟨e, by omega⟩)
    ·by_cases e2 : (v : Int) < h
     ·exact .inl (.inr ⟨e, e2⟩)
     ·right
      subst e
      obtain rfl : v = h.toNat := by omega
      obtain ⟨rfl, rfl⟩ := ha.one (.inr (.inl ⟨rfl, rfl, by omega, rfl, hi⟩))
      exact hle
   ·have hi : ¬ 0 < idle.getD h.toNat 0 := of_decide_eq_false hi
    refine hx.keep fun b v u c ha hd => ?_
    rcases hd with ⟨e, hd⟩ | ⟨e, hd⟩
    ·exact .inl (.inl ⟨e, by omega⟩)
    ·by_cases e2 : (v : Int) < h
     ·exact .inl (.inr ⟨e, e2⟩)
     ·exfalso
      subst e
      obtain rfl : v = h.toNat := by omega
      rcases ha with ⟨q, _⟩ | ⟨_, _, _, _, q⟩ | ⟨q, _⟩ | ⟨q, _⟩ <;> omega
  ·refine reach_ok (R := _) hJ hp p0 i3.ci (b := -1) (v := h.toNat + 1) (u := h.toNat) (c := 0) (.inl ⟨rfl, rfl, by omega, rfl⟩) (t := h + 1) (by omega) (by omega) (n := cost.getD h.toNat 0) (by rw [Int.add_zero]) (k := k2) (fun hle => hk2 _ ?_) (fun cost' bys' g1 g2 => hk2 _ (i3.new g1 g2))
   refine i3.keep fun b v u c ha hd => ?_
   rcases hd with ⟨e, hd⟩ | ⟨e, hd⟩
   ·by_cases e2 : (u : Int) < h
    ·exact .inl (.inl ⟨e, e2⟩)
    ·right
     subst e
     obtain rfl : u = h.toNat := by omega
     obtain rfl : v = h.toNat + 1 := by rcases ha with ⟨_, q, _⟩ | ⟨q, _⟩ | ⟨q, _⟩ | ⟨q, _⟩ <;> omega
     obtain ⟨_, rfl⟩ := ha.one (.inl ⟨rfl, rfl, by omega, rfl⟩)
     exact hle
   ·exact .inl (.inr ⟨e, hd⟩)
 -- the flights
 have hc : ¬ h < 48 := of_decide_eq_false hc
 have e48 : h = 48 := by omega
 subst e48
 have i3 : RI J ch idle p c0 b0 (DoneB 0) chg cost bys := i3.keep fun b v u c ha hd => by
  have hd : b < 0 := hd
  rcases ha with ⟨q, q1, q2, _⟩ | ⟨q, q1, q2, _⟩ | ⟨q, _⟩ | ⟨q, _⟩
  ·exact .inl (.inl ⟨q, by omega⟩)
  ·exact .inl (.inr ⟨q, by omega⟩)
  ·omega
  ·omega
 clear hn next1
 refine ok_loop (fun x : Bool × Int × List Int × List Int => 0 ≤ x.2.1 ∧ x.2.1 ≤ J.length ∧ RI J ch idle p c0 b0 (DoneB x.2.1) x.1 x.2.2.1 x.2.2.2) (fun x : Bool × Int × List Int × List Int => J.length - x.2.1.toNat)
  ⟨by simp, by simp, i3⟩ (by simp; omega) ?_
 clear i3
 rintro ⟨chg, i, cost, bys⟩ next2 ⟨i1, i2, i3⟩ hn
 simp only at i1 i2 i3
 dsimp only
 have hlc := i3.ci.lc
 refine ok_brk (fun hc => ?_) (fun hc => ?_)
 ·have hc : i < J.length := of_decide_eq_true hc
  have hj := hJ.at (i := i.toNat) (by omega)
  obtain ⟨j1, j2, j3, j4, j5⟩ := hj
  have hat : (J.getD i.toNat (Job.mk (0 : Int) (0 : Int) (0 : Int))) = J.getD i.toNat j0 := rfl
  rw [hat]
  refine ok_join (by omega) (fun x : Bool × List Int × List Int => RI J ch idle p c0 b0 (DoneB (i + 1)) x.1 x.2.1 x.2.2) (fun x hx => ok_chk (show InR (i + 1) from ⟨by omega, by omega⟩) (hn _ ⟨by show 0 ≤ i + 1; omega, by show i + 1 ≤ J.length; omega, hx⟩ (by show J.length - (i + 1).toNat < J.length - i.toNat; omega))) fun k hk => ?_
  have hbd : ∀ v : Nat, v < 49 → -1000000000 ≤ cost.getD v 0 ∧ cost.getD v 0 ≤ 0 := fun v hv => ⟨by have := i3.ci.lo v hv; have := pb v hv; omega, i3.ci.hi v hv⟩
  have fin : ∀ v u c, Arc J ch idle i v u c → cost.getD v 0 ≤ cost.getD u 0 + c → RI J ch idle p c0 b0 (DoneB (i + 1)) chg cost bys := fun v u c ha hle => i3.keep fun b v' u' c' ha' hd => by
   have hd : b < i + 1 := hd
   by_cases e : b < i
   ·exact .inl e
   ·right
    obtain rfl : b = i := by omega
    obtain rfl := ha.node ha' i1
    obtain ⟨rfl, rfl⟩ := ha.one ha'
    exact hle
  refine ok_chk ⟨i1, hc⟩ (ok_chk ⟨i1, by omega⟩ (ok_brk (fun hb => ?_) (fun hb => ?_)))
  ·have ht := hbd (J.getD i.toNat j0).f_to.toNat (by omega)
   refine ok_chk ⟨by omega, by show _ < (cost.length : Int); omega⟩ (ok_chk (show InR _ from ⟨by omega, by omega⟩) ?_)
   refine ok_join (by omega) (fun x : Bool × List Int × List Int => RI J ch idle p c0 b0 (DoneB (i + 1)) (x.1 || chg) x.2.1 x.2.2) (fun x hx => hk _ hx) fun k3 hk3 => ?_
   have ha : Arc J ch idle i (J.getD i.toNat j0).f_from.toNat (J.getD i.toNat j0).f_to.toNat (J.getD i.toNat j0).f_worth := .inr (.inr (.inl ⟨i1, hc, hb, rfl, rfl, rfl⟩))
   exact reach_ok (R := _) hJ hp p0 i3.ci ha (t := (J.getD i.toNat j0).f_from) rfl j1 rfl (k := k3) (fun hle => hk3 _ (fin _ _ _ ha hle)) (fun cost' bys' g1 g2 => hk3 _ (i3.new g1 g2))
  ·have ht := hbd (J.getD i.toNat j0).f_from.toNat (by omega)
   refine ok_chk ⟨by omega, by show _ < (cost.length : Int); omega⟩ (ok_chk (show InR _ from ⟨by omega, by omega⟩) ?_)
   refine ok_join (by omega) (fun x : Bool × List Int × List Int => RI J ch idle p c0 b0 (DoneB (i + 1)) (x.1 || chg) x.2.1 x.2.2) (fun x hx => hk _ hx) fun k3 hk3 => ?_
   have ha : Arc J ch idle i (J.getD i.toNat j0).f_to.toNat (J.getD i.toNat j0).f_from.toNat (-(J.getD i.toNat j0).f_worth) := .inr (.inr (.inr ⟨i1, hc, hb, rfl, rfl, rfl⟩))
   exact reach_ok (R := _) hJ hp p0 i3.ci ha (t := (J.getD i.toNat j0).f_to) rfl (by omega) (by omega) (k := k3) (fun hle => hk3 _ (fin _ _ _ ha hle)) (fun cost' bys' g1 g2 => hk3 _ (i3.new g1 g2))
 ·have hc : ¬ i < J.length := of_decide_eq_false hc
  obtain rfl : i = J.length := by omega
  refine ok_brk (fun hb => ok_some ⟨i3.ci, fun b v u c ha => ?_⟩) (fun hb => ?_)
  ·have hb : chg = false := by simpa using hb
   obtain ⟨e1, e2, e3⟩ := i3.no hb
   show cost.getD v 0 ≤ cost.getD u 0 + c
   rw [e1]
   refine e3 b v u c ha ?_
   show b < J.length
   rcases ha with ⟨q, _⟩ | ⟨q, _⟩ | ⟨_, q, _⟩ | ⟨_, q, _⟩ <;> omega
  ·have hb : chg = true := by simpa using hb
   have hlt := i3.yes hb
   have hs := i3.ci.sum pb
   exact hnext _ i3.ci (by show (sumL cost + 49000000000).toNat < (sumL c0 + 49000000000).toNat; omega)
end Go.Proofs.Ss
namespace Go.Proofs.Ss
open Go Go.KX
def sumN : Nat → (Nat → Int) → Int
 | 0, _ => 0
 | n + 1, f => sumN n f + f n
theorem sumN_congr {f g : Nat → Int} : ∀ n : Nat, (∀ i, i < n → f i = g i) → sumN n f = sumN n g
 | 0, _ => rfl
 | n + 1, h => by simp only [sumN]; rw [sumN_congr n fun i hi => h i (by omega), h n (by omega)]
theorem sumN_le {f g : Nat → Int} : ∀ n : Nat, (∀ i, i < n → f i ≤ g i) → sumN n f ≤ sumN n g
 | 0, _ => Int.le_refl _
 | n + 1, h => by
  have h1 := sumN_le n fun i hi => h i (by omega)
  have h2 := h n (by omega)
  simp only [sumN]; omega
theorem sumN_add {f g : Nat → Int} : ∀ n : Nat, sumN n (fun i => f i + g i) = sumN n f + sumN n g
 | 0 => rfl
 | n + 1 => by simp only [sumN]; rw [sumN_add n]; omega
theorem sumN_zero {f : Nat → Int} : ∀ n : Nat, (∀ i, i < n → f i = 0) → sumN n f = 0
 | 0, _ => rfl
 | n + 1, h => by simp only [sumN]; rw [sumN_zero n fun i hi => h i (by omega), h n (by omega)]; rfl
theorem sumN_nonneg {f : Nat → Int} : ∀ n : Nat, (∀ i, i < n → 0 ≤ f i) → 0 ≤ sumN n f
 | 0, _ => Int.le_refl _
 | n + 1, h => by
  have h1 := sumN_nonneg n fun i hi => h i (by omega)
  have h2 := h n (by omega)
  simp only [sumN]; omega
theorem sumN_one {f g : Nat → Int} {j : Nat} : ∀ n : Nat, j < n → (∀ i, i < n → i ≠ j → f i = g i) → sumN n f = sumN n g + (f j - g j)
 | 0, h, _ => absurd h (Nat.not_lt_zero _)
 | n + 1, h, he => by
  simp only [sumN]
  by_cases e : j = n
  ·subst e
   rw [sumN_congr j fun i hi => he i (by omega) (by omega)]; omega
  ·rw [sumN_one n (by omega) fun i hi => he i (by omega), he n (by omega) (fun q => e q.symm)]; omega
theorem sumN_mul {c : Int} {f : Nat → Int} : ∀ n : Nat, sumN n (fun i => c * f i) = c * sumN n f
 | 0 => by simp [sumN]
 | n + 1 => by simp only [sumN]; rw [sumN_mul n, Int.mul_add]
theorem sumN_comm {f : Nat → Nat → Int} (m : Nat) : ∀ n : Nat, sumN n (fun i => sumN m fun h => f i h) = sumN m fun h => sumN n fun i => f i h
 | 0 => (sumN_zero m fun _ _ => rfl).symm
 | n + 1 => by
  simp only [sumN]
  rw [sumN_comm m n, ← sumN_add]
theorem sumN_bound {f : Nat → Int} {B : Int} : ∀ n : Nat, (∀ i, i < n → f i ≤ B) → sumN n f ≤ B * n
 | 0, _ => by simp [sumN]
 | n + 1, h => by
  have h1 := sumN_bound n fun i hi => h i (by omega)
  have h2 := h n (by omega)
  simp only [sumN]
  push_cast
  rw [Int.mul_add]; omega
def on (J : List Job) (i h : Nat) : Prop := (J.getD i j0).f_from ≤ h ∧ (h : Int) < (J.getD i j0).f_to
instance (J : List Job) (i h : Nat) : Decidable (on J i h) := inferInstanceAs (Decidable (_ ∧ _))
def cov (J : List Job) (ch : List Bool) (h : Nat) : Int := sumN J.length fun i => if ch.getD i false = true ∧ on J i h then 1 else 0
def val (J : List Job) (ch : List Bool) : Int := sumN J.length fun i => if ch.getD i false = true then (J.getD i j0).f_worth else 0
theorem cov_nonneg (J : List Job) (ch : List Bool) (h : Nat) : 0 ≤ cov J ch h := sumN_nonneg _ fun i _ => by split <;> omega
theorem cov_set {J : List Job} {ch : List Bool} {i : Nat} {x : Bool} (hi : i < J.length) (hl : ch.length = J.length) (h : Nat) :
  cov J (ch.set i x) h = cov J ch h + ((if x = true ∧ on J i h then 1 else 0) - if ch.getD i false = true ∧ on J i h then 1 else 0) := by
 unfold cov
 rw [sumN_one (j := i) (g := fun i => if ch.getD i false = true ∧ on J i h then 1 else 0) _ hi fun k _ hk => by
  rw [getD_set' (by omega), if_neg (show ¬ i = k from fun e => hk e.symm)]]
 rw [getD_set' (by omega), if_pos rfl]
structure ChOK (J : List Job) (k : Int) (ch : List Bool) (idle : List Int) (p : Nat → Int) : Prop where
 lc : ch.length = J.length
 li : idle.length = 48
 fs : Feas J ch idle p
 p0 : p 0 = 0
 pb : ∀ v, v < 49 → -1000000000 ≤ p v
 i0 : ∀ h, h < 48 → 0 ≤ idle.getD h 0
 ct : ∀ h, h < 48 → idle.getD h 0 + cov J ch h = k
structure WI (J : List Job) (k : Int) (ch0 : List Bool) (idle0 cost bys : List Int) (D : Nat → Nat) (x : Int) (ch : List Bool) (idle : List Int) : Prop where
 x0 : 0 ≤ x
 x1 : x ≤ 48
 lc : ch.length = J.length
 li : idle.length = 48
 fs : Feas J ch idle fun v => cost.getD v 0
 i0 : ∀ h, h < 48 → 0 ≤ idle.getD h 0
 ct : ∀ h : Nat, h < 48 → idle.getD h 0 + cov J ch h = k + if x ≤ h then 1 else 0
 dn : ∀ h : Nat, h < 48 → idle0.getD h 0 ≤ idle.getD h 0 ∨ (bys.getD h 0 = -2 ∧ D x.toNat < D h ∧ idle0.getD h 0 - 1 ≤ idle.getD h 0)
 tg : ∀ i, i < J.length → ch.getD i false = ch0.getD i false ∨ ∃ w, 1 ≤ w ∧ w < 49 ∧ bys.getD w 0 = (i : Int) ∧ D x.toNat < D w
theorem choose_ok {F : Nat} (hF : 100000000000 < F) {J : List Job} {k : Int} (hJ : JobsOK J) (hk : 0 ≤ k ∧ k ≤ 10) : Ok (fun r : List Bool × List Int => ∃ p, ChOK J k r.1 r.2 p) (spill_choose F J k) := by
 have hJl := hJ.len
 unfold spill_choose
 refine ok_chk ⟨by omega, by omega, by omega⟩ (ok_chk ⟨by omega, by omega, by omega⟩ ?_)
 refine ok_loop (fun x : Int × List Bool × List Int => 0 ≤ x.1 ∧ x.1 ≤ k ∧ ∃ p, ChOK J x.1 x.2.1 x.2.2 p) (fun x => (k - x.1).toNat) ⟨by simp, hk.1, ?_⟩ (by show (k - 0).toNat < F; omega) ?_
 ·-- nothing is chosen
  have hf : ∀ i, (List.replicate ((J.length : Int)).toNat false).getD i false = false := fun i => by
   by_cases hi : i < (List.replicate ((J.length : Int)).toNat false).length
   ·rw [getD_get hi, List.getElem_replicate]
   ·rw [List.getD_eq_getElem?_getD, List.getElem?_eq_none (Nat.le_of_not_lt hi)]; rfl
  have hz : ∀ h, (List.replicate (Int.toNat 48) (0 : Int)).getD h 0 = 0 := fun h => by
   by_cases hi : h < (List.replicate (Int.toNat 48) (0 : Int)).length
   ·rw [getD_get hi, List.getElem_replicate]
   ·rw [List.getD_eq_getElem?_getD, List.getElem?_eq_none (Nat.le_of_not_lt hi)]; rfl
  let p : Nat → Int := fun v => -sumN J.length fun i => if (J.getD i j0).f_to ≤ v then (J.getD i j0).f_worth else 0
  have hw : ∀ i, i < J.length → 0 ≤ (J.getD i j0).f_worth ∧ (J.getD i j0).f_worth ≤ 64000000 := fun i hi => by have := hJ.at hi; exact ⟨this.w0, this.w1⟩
  have hmono : ∀ u v : Nat, u ≤ v → p v ≤ p u := fun u v huv => by
   have := sumN_le (f := fun i => if (J.getD i j0).f_to ≤ u then (J.getD i j0).f_worth else 0) (g := fun i => if (J.getD i j0).f_to ≤ v then (J.getD i j0).f_worth else 0) J.length fun i hi => by
    have := hw i hi
    try dsimp only
    split <;> split <;> omega
   show -_ ≤ -_
   omega
  refine ⟨p, by rw [List.length_replicate]; omega, by rw [List.length_replicate]; rfl, fun b v u c ha => ?_, ?_, fun v hv => ?_, fun h _ => by show 0 ≤ (List.replicate (Int.toNat 48) (0 : Int)).getD h 0; rw [hz]; omega, fun h _ => ?_⟩
  ·rcases ha with ⟨_, h1, h2, h3⟩ | ⟨_, _, _, _, h3⟩ | ⟨_, _, h3, _⟩ | ⟨h0, h1, _, h2, h3, h4⟩
   ·rw [h1, h3]
    have := hmono u (u + 1) (by omega)
    omega
   ·rw [hz] at h3; omega
   ·rw [hf] at h3; cases h3
   ·have hi : b.toNat < J.length := by omega
    have hj := hJ.at hi
    obtain ⟨j1, j2, j3, j4, j5⟩ := hj
    rw [h2, h3, h4]
    have := sumN_le (f := fun i => (if (J.getD i j0).f_to ≤ ((J.getD b.toNat j0).f_from.toNat : Int) then (J.getD i j0).f_worth else 0) + if i = b.toNat then (J.getD b.toNat j0).f_worth else 0) (g := fun i => if (J.getD i j0).f_to ≤ ((J.getD b.toNat j0).f_to.toNat : Int) then (J.getD i j0).f_worth else 0) J.length fun i hi => by
     have := hw i hi
     try dsimp only
     by_cases e : i = b.toNat
     ·subst e
      rw [if_neg (by omega), if_pos rfl, if_pos (by omega)]; omega
     ·rw [if_neg e]
      split <;> split <;> omega
    rw [sumN_add, sumN_one (f := fun i => if i = b.toNat then (J.getD b.toNat j0).f_worth else 0) (g := fun _ => 0) (j := b.toNat) _ hi fun i _ e => by rw [if_neg e], sumN_zero J.length (f := fun _ => 0) fun _ _ => rfl] at this
    simp only [if_true] at this
    show -_ ≤ -_ + -_
    omega
  ·show -_ = (0 : Int)
   rw [sumN_zero J.length fun i hi => by
    have := hJ.at hi
    obtain ⟨j1, j2, j3, j4, j5⟩ := this
    try dsimp only
    rw [if_neg (by omega)]]
   rfl
  ·have := sumN_bound (f := fun i => if (J.getD i j0).f_to ≤ v then (J.getD i j0).f_worth else 0) (B := 64000000) J.length fun i hi => by
    have := hw i hi
    try dsimp only
    split <;> omega
   show _ ≤ -_
   omega
  ·show (List.replicate (Int.toNat 48) (0 : Int)).getD h 0 + cov J _ h = 0
   rw [hz]
   unfold cov
   rw [sumN_zero J.length fun i _ => by
    rw [hf, if_neg (fun q => Bool.false_ne_true q.1)]]
   rfl
 rintro ⟨n, ch0, idle0⟩ next ⟨n0, n1, p, hC⟩ hnext
 simp only at n0 n1 hC
 dsimp only
 refine ok_brk (fun hc => ?_) (fun hc => ok_some ?_)
 ·have hc : n < k := of_decide_eq_true hc
  refine ok_bnd _ (costs_ok hF hJ hC.lc hC.li hC.fs hC.p0 hC.pb) ?_
  rintro ⟨cost, bys⟩ ⟨hci, hfs⟩
  simp only at hci hfs
  dsimp only
  obtain ⟨D0, hD0⟩ := hci.rk
  obtain ⟨D, hD1, hD2⟩ := small_rank D0
  have hD : ∀ v, 1 ≤ v → v < 49 → ∃ u c, Arc J ch0 idle0 (bys.getD v 0) v u c ∧ cost.getD u 0 + c ≤ cost.getD v 0 ∧ D u < D v := fun v h1 h2 => by
   obtain ⟨u, c, a, b, d⟩ := hD0 v h1 h2
   exact ⟨u, c, a, b, hD2 u v (a.lt hJ).2.1 d⟩
  have hlb := hci.lb
  refine ok_loop (fun x : Int × List Bool × List Int => WI J n ch0 idle0 cost bys D x.1 x.2.1 x.2.2) (fun x => D x.1.toNat)
   ⟨by simp, by simp, hC.lc, hC.li, hfs, hC.i0, fun h hh => by
    show idle0.getD h 0 + cov J ch0 h = n + if (48 : Int) ≤ h then 1 else 0
    rw [if_neg (by omega), hC.ct h hh]; omega, fun h _ => .inl (Int.le_refl _), fun i _ => .inl rfl⟩ (by have := hD1 48; show D 48 < F; omega) ?_
  rintro ⟨x, ch, idle⟩ next2 hW hn2
  simp only at hW
  dsimp only
  obtain ⟨x0, x1, lc, li, fs, i0, ct, dn, tg⟩ := hW
  have ib : ∀ h, h < 48 → idle.getD h 0 ≤ 12 := fun h hh => by
   have h1 := ct h hh
   have h2 := cov_nonneg J ch h
   split at h1 <;> omega
  refine ok_brk (fun hx => ?_) (fun hx => ?_)
  ·have hx : x > 0 := of_decide_eq_true hx
   obtain ⟨u, c, ha, htight, hdec⟩ := hD x.toNat (by omega) (by omega)
   -- nobody has turned this one
   have htg : ∀ i, i < J.length → bys.getD x.toNat 0 = (i : Int) → ch.getD i false = ch0.getD i false := fun i hi hb => by
    rcases tg i hi with q | ⟨w, w1, w2, w3, w4⟩
    ·exact q
    ·exfalso
     obtain ⟨u', c', ha', _, _⟩ := hD w w1 w2
     rw [w3, ← hb] at ha'
     have := ha.node ha' (by rw [hb]; omega)
     rw [this] at w4
     exact Nat.lt_irrefl _ w4
   refine ok_chk ⟨x0, by omega⟩ ?_
   generalize hby : bys.getD x.toNat 0 = b at ha htg ⊢
   rcases ha with ⟨h1, h2, h3, h4⟩ | ⟨h1, h2, h3, h4, h5⟩ | ⟨h0, h1, h2, h3, h4, h5⟩ | ⟨h0, h1, h2, h3, h4, h5⟩
   ·-- an hour back in which nothing is done
    subst h1 h4
    have hu : (x - 1).toNat = u := by omega
    refine ok_brkT rfl (ok_chk (show InR _ from ⟨by omega, by omega⟩) (ok_chk ⟨by omega, by omega⟩ ?_))
    rw [hu]
    have hi0 := i0 u h3
    have hib := ib u h3
    refine ok_chk (show InR _ from ⟨by omega, by omega⟩) (ok_chk ⟨by omega, by omega⟩ (hn2 _ ?_ (by show D (x - 1).toNat < D x.toNat; rw [hu]; exact hdec)))
    have gi : ∀ h, (idle.set u (idle.getD u 0 + 1)).getD h 0 = if u = h then idle.getD u 0 + 1 else idle.getD h 0 := fun h => getD_set' (by omega)
    refine ⟨by show 0 ≤ x - 1; omega, by show x - 1 ≤ 48; omega, lc, by show (idle.set _ _).length = 48; rw [List.length_set]; exact li, ?_, fun h hh => ?_, fun h hh => ?_, fun h hh => ?_, fun i hi => ?_⟩
    ·intro b v w c' ha'
     rcases ha' with q | ⟨q1, q2, q3, q4, q5⟩ | q | q
     ·exact fs _ _ _ _ (.inl q)
     ·by_cases e : u = v
      ·subst e
       subst q2 q4
       show cost.getD u 0 ≤ cost.getD (u + 1) 0 + 0
       rw [show x.toNat = u + 1 by omega] at htight
       omega
      ·rw [gi, if_neg e] at q5
       exact fs _ _ _ _ (.inr (.inl ⟨q1, q2, q3, q4, q5⟩))
     ·exact fs _ _ _ _ (.inr (.inr (.inl q)))
     ·exact fs _ _ _ _ (.inr (.inr (.inr q)))
    ·show 0 ≤ (idle.set u _).getD h 0
     rw [gi]
     have := i0 h hh
     split <;> omega
    ·show (idle.set u _).getD h 0 + cov J ch h = n + if x - 1 ≤ (h : Int) then 1 else 0
     rw [gi]
     have := ct h hh
     by_cases e : u = h
     ·subst e
      rw [if_pos rfl, if_pos (by omega)]
      rw [if_neg (by omega)] at this
      omega
     ·rw [if_neg e]
      by_cases q : x ≤ (h : Int)
      ·rw [if_pos q] at this; rw [if_pos (by omega)]; exact this
      ·rw [if_neg q] at this; rw [if_neg (by omega)]; exact this
    ·show _ ≤ (idle.set u _).getD h 0 ∨ (_ ∧ D (x - 1).toNat < D h ∧ _ ≤ (idle.set u _).getD h 0)
     rw [gi, hu]
     rcases dn h hh with q | ⟨q1, q2, q3⟩
     ·left; split
      ·rename_i e; subst e; omega
      ·exact q
     ·right
      refine ⟨q1, by omega, ?_⟩
      split
      ·rename_i e; subst e; omega
      ·exact q3
    ·rcases tg i hi with q | ⟨w, w1, w2, w3, w4⟩
     ·exact .inl q
     ·exact .inr ⟨w, w1, w2, w3, by show D (x - 1).toNat < D w; rw [hu]; omega⟩
   ·-- an hour given back
    subst h1 h4
    have hxu : (x + 1).toNat = u := by omega
    have hge : 1 ≤ idle.getD x.toNat 0 := by
     rcases dn x.toNat h3 with q | ⟨_, q, _⟩
     ·omega
     ·exact absurd q (Nat.lt_irrefl _)
    have hib := ib x.toNat h3
    refine ok_brkF rfl (ok_brkT rfl (ok_chk ⟨x0, by omega⟩ (ok_chk (show InR _ from ⟨by omega, by omega⟩) (ok_chk ⟨x0, by omega⟩ (ok_chk (show InR _ from ⟨by omega, by omega⟩) (hn2 _ ?_ (by show D (x + 1).toNat < D x.toNat; rw [hxu]; exact hdec)))))))
    have gi : ∀ h, (idle.set x.toNat (idle.getD x.toNat 0 - 1)).getD h 0 = if x.toNat = h then idle.getD x.toNat 0 - 1 else idle.getD h 0 := fun h => getD_set' (by omega)
    refine ⟨by show 0 ≤ x + 1; omega, by show x + 1 ≤ 48; omega, lc, by show (idle.set _ _).length = 48; rw [List.length_set]; exact li, ?_, fun h hh => ?_, fun h hh => ?_, fun h hh => ?_, fun i hi => ?_⟩
    ·intro b v w c' ha'
     rcases ha' with q | ⟨q1, q2, q3, q4, q5⟩ | q | q
     ·exact fs _ _ _ _ (.inl q)
     ·rw [gi] at q5
      refine fs _ _ _ _ (.inr (.inl ⟨q1, q2, q3, q4, ?_⟩))
      split at q5
      ·rename_i e; rw [← e]; omega
      ·exact q5
     ·exact fs _ _ _ _ (.inr (.inr (.inl q)))
     ·exact fs _ _ _ _ (.inr (.inr (.inr q)))
    ·show 0 ≤ (idle.set x.toNat _).getD h 0
     rw [gi]
     have := i0 h hh
     split <;> omega
    ·show (idle.set x.toNat _).getD h 0 + cov J ch h = n + if x + 1 ≤ (h : Int) then 1 else 0
     rw [gi]
     have := ct h hh
     by_cases e : x.toNat = h
     ·rw [if_pos e, if_neg (by omega)]
      rw [if_pos (by omega)] at this
      rw [e]; omega
     ·rw [if_neg e]
      by_cases q : x ≤ (h : Int)
      ·rw [if_pos q] at this; rw [if_pos (by omega)]; exact this
      ·rw [if_neg q] at this; rw [if_neg (by omega)]; exact this
    ·show _ ≤ (idle.set x.toNat _).getD h 0 ∨ (_ ∧ D (x + 1).toNat < D h ∧ _ ≤ (idle.set x.toNat _).getD h 0)
     rw [gi, hxu]
     by_cases e : x.toNat = h
     ·right
      subst e
      rw [if_pos rfl]
      refine ⟨hby, hdec, ?_⟩
      rcases dn x.toNat h3 with q | ⟨_, q, _⟩
      ·omega
      ·exact absurd q (Nat.lt_irrefl _)
     ·rw [if_neg e]
      rcases dn h hh with q | ⟨q1, q2, q3⟩
      ·exact .inl q
      ·exact .inr ⟨q1, by omega, q3⟩
    ·rcases tg i hi with q | ⟨w, w1, w2, w3, w4⟩
     ·exact .inl q
     ·exact .inr ⟨w, w1, w2, w3, by show D (x + 1).toNat < D w; rw [hxu]; omega⟩
   ·-- a flight given back
    have hb : b.toNat < J.length := by omega
    have hcur : ch.getD b.toNat false = true := by rw [htg b.toNat hb (by omega)]; exact h2
    have hj := hJ.at hb
    obtain ⟨j1, j2, j3, j4, j5⟩ := hj
    have hat : (J.getD b.toNat (Job.mk (0 : Int) (0 : Int) (0 : Int))) = J.getD b.toNat j0 := rfl
    refine ok_brkF (by simp; omega) (ok_brkF (by simp; omega) (ok_chk ⟨h0, by omega⟩ (ok_brkT hcur (ok_chk ⟨h0, h1⟩ (ok_chk ⟨h0, by omega⟩ (hn2 _ ?_ ?_))))))
    ·rw [hat]
     have gc : ∀ i, (ch.set b.toNat false).getD i false = if b.toNat = i then false else ch.getD i false := fun i => getD_set' (by omega)
     refine ⟨by show 0 ≤ (J.getD b.toNat j0).f_to; omega, by show (J.getD b.toNat j0).f_to ≤ 48; omega, by show (ch.set _ _).length = _; rw [List.length_set]; exact lc, li, ?_, i0, fun h hh => ?_, fun h hh => ?_, fun i hi => ?_⟩
     ·intro e v w c' ha'
      rcases ha' with q | q | ⟨q0, q1, q2, q3⟩ | ⟨q0, q1, q2, q3, q4, q5⟩
      ·exact fs _ _ _ _ (.inl q)
      ·exact fs _ _ _ _ (.inr (.inl q))
      ·rw [gc] at q2
       split at q2
       ·cases q2
       ·exact fs _ _ _ _ (.inr (.inr (.inl ⟨q0, q1, q2, q3⟩)))
      ·by_cases ee : b.toNat = e.toNat
       ·rw [← ee] at q3 q4 q5
        show cost.getD v 0 ≤ cost.getD w 0 + c'
        rw [q3, q4, q5, ← h3, ← h4]
        omega
       ·rw [gc, if_neg ee] at q2
        exact fs _ _ _ _ (.inr (.inr (.inr ⟨q0, q1, q2, q3, q4, q5⟩)))
     ·show idle.getD h 0 + cov J (ch.set b.toNat false) h = n + if (J.getD b.toNat j0).f_to ≤ (h : Int) then 1 else 0
      have := ct h hh
      rw [cov_set hb lc, hcur]
      have hon : on J b.toNat h ↔ (x ≤ (h : Int) ∧ ¬ (J.getD b.toNat j0).f_to ≤ (h : Int)) := by unfold on; omega
      by_cases q : x ≤ (h : Int)
      ·rw [if_pos q] at this
       by_cases q2 : (J.getD b.toNat j0).f_to ≤ (h : Int)
       ·rw [if_neg (fun t => Bool.false_ne_true t.1), if_neg (fun t => (hon.1 t.2).2 q2), if_pos q2]; omega
       ·rw [if_neg (fun t => Bool.false_ne_true t.1), if_pos ⟨rfl, hon.2 ⟨q, q2⟩⟩, if_neg q2]; omega
      ·rw [if_neg q] at this
       rw [if_neg (fun t => Bool.false_ne_true t.1), if_neg (fun t => q (hon.1 t.2).1), if_neg (by omega)]; omega
     ·rcases dn h hh with q | ⟨q1, q2, q3⟩
      ·exact .inl q
      ·exact .inr ⟨q1, by show D (J.getD b.toNat j0).f_to.toNat < D h; rw [← h4]; omega, q3⟩
     ·show (ch.set b.toNat false).getD i false = _ ∨ ∃ w, _ ∧ _ ∧ _ ∧ D (J.getD b.toNat j0).f_to.toNat < D w
      rw [← h4]
      by_cases e : b.toNat = i
      ·exact .inr ⟨x.toNat, by omega, by omega, by rw [hby]; omega, hdec⟩
      ·rw [gc, if_neg e]
       rcases tg i hi with q | ⟨w, w1, w2, w3, w4⟩
       ·exact .inl q
       ·exact .inr ⟨w, w1, w2, w3, by omega⟩
    ·rw [hat]
     show D (J.getD b.toNat j0).f_to.toNat < D x.toNat
     rw [← h4]; exact hdec
   ·-- a flight taken
    have hb : b.toNat < J.length := by omega
    have hcur : ch.getD b.toNat false = false := by rw [htg b.toNat hb (by omega)]; exact h2
    have hj := hJ.at hb
    obtain ⟨j1, j2, j3, j4, j5⟩ := hj
    have hat : (J.getD b.toNat (Job.mk (0 : Int) (0 : Int) (0 : Int))) = J.getD b.toNat j0 := rfl
    refine ok_brkF (by simp; omega) (ok_brkF (by simp; omega) (ok_chk ⟨h0, by omega⟩ (ok_brkF hcur (ok_chk ⟨h0, h1⟩ (ok_chk ⟨h0, by omega⟩ (hn2 _ ?_ ?_))))))
    ·rw [hat]
     have gc : ∀ i, (ch.set b.toNat true).getD i false = if b.toNat = i then true else ch.getD i false := fun i => getD_set' (by omega)
     refine ⟨by show 0 ≤ (J.getD b.toNat j0).f_from; omega, by show (J.getD b.toNat j0).f_from ≤ 48; omega, by show (ch.set _ _).length = _; rw [List.length_set]; exact lc, li, ?_, i0, fun h hh => ?_, fun h hh => ?_, fun i hi => ?_⟩
     ·intro e v w c' ha'
      rcases ha' with q | q | ⟨q0, q1, q2, q3, q4, q5⟩ | ⟨q0, q1, q2, q3⟩
      ·exact fs _ _ _ _ (.inl q)
      ·exact fs _ _ _ _ (.inr (.inl q))
      ·by_cases ee : b.toNat = e.toNat
       ·rw [← ee] at q3 q4 q5
        show cost.getD v 0 ≤ cost.getD w 0 + c'
        rw [q3, q4, q5, ← h3, ← h4]
        omega
       ·rw [gc, if_neg ee] at q2
        exact fs _ _ _ _ (.inr (.inr (.inl ⟨q0, q1, q2, q3, q4, q5⟩)))
      ·rw [gc] at q2
       split at q2
       ·cases q2
       ·exact fs _ _ _ _ (.inr (.inr (.inr ⟨q0, q1, q2, q3⟩)))
     ·show idle.getD h 0 + cov J (ch.set b.toNat true) h = n + if (J.getD b.toNat j0).f_from ≤ (h : Int) then 1 else 0
      have := ct h hh
      rw [cov_set hb lc, hcur]
      have hon : on J b.toNat h ↔ ((J.getD b.toNat j0).f_from ≤ (h : Int) ∧ ¬ x ≤ (h : Int)) := by unfold on; omega
      by_cases q : x ≤ (h : Int)
      ·rw [if_pos q] at this
       rw [if_neg (fun t => (hon.1 t.2).2 q), if_neg (fun t => Bool.false_ne_true t.1), if_pos (by omega)]; omega
      ·rw [if_neg q] at this
       by_cases q2 : (J.getD b.toNat j0).f_from ≤ (h : Int)
       ·rw [if_pos ⟨rfl, hon.2 ⟨q2, q⟩⟩, if_neg (fun t => Bool.false_ne_true t.1), if_pos q2]; omega
       ·rw [if_neg (fun t => q2 (hon.1 t.2).1), if_neg (fun t => Bool.false_ne_true t.1), if_neg q2]; omega
     ·rcases dn h hh with q | ⟨q1, q2, q3⟩
      ·exact .inl q
      ·exact .inr ⟨q1, by show D (J.getD b.toNat j0).f_from.toNat < D h; rw [← h4]; omega, q3⟩
     ·show (ch.set b.toNat true).getD i false = _ ∨ ∃ w, _ ∧ _ ∧ _ ∧ D (J.getD b.toNat j0).f_from.toNat < D w
      rw [← h4]
      by_cases e : b.toNat = i
      ·exact .inr ⟨x.toNat, by omega, by omega, by rw [hby]; omega, hdec⟩
      ·rw [gc, if_neg e]
       rcases tg i hi with q | ⟨w, w1, w2, w3, w4⟩
       ·exact .inl q
       ·exact .inr ⟨w, w1, w2, w3, by omega⟩
    ·rw [hat]
     show D (J.getD b.toNat j0).f_from.toNat < D x.toNat
     rw [← h4]; exact hdec
  ·have hx : ¬ x > 0 := of_decide_eq_false hx
   obtain rfl : x = 0 := by omega
   refine ok_chk (show InR _ from ⟨by omega, by omega⟩) (hnext _ ⟨by show 0 ≤ n + 1; omega, by show n + 1 ≤ k; omega, fun v => cost.getD v 0, lc, li, fs, hci.c0, fun v hv => ?_, i0, fun h hh => ?_⟩ (by show (k - (n + 1)).toNat < (k - n).toNat; omega))
   ·have := hci.lo v hv
    have := hC.pb v hv
    show _ ≤ cost.getD v 0
    omega
   ·have := ct h hh
    rw [if_pos (by omega)] at this
    exact this
 ·have hc : ¬ n < k := of_decide_eq_false hc
  obtain rfl : n = k := by omega
  exact ⟨p, hC⟩
end Go.Proofs.Ss
namespace Go.Proofs.Ss
open Go Go.KX
def max0 (x : Int) : Int := if x > 0 then x else 0
theorem max0_ge (x : Int) : x ≤ max0 x ∧ 0 ≤ max0 x := by unfold max0; split <;> omega
def tot (J : List Job) (pr : Nat → Int) (i : Nat) : Int := sumN 48 fun h => if on J i h then pr h else 0
def bnd' (J : List Job) (k : Int) (pr : Nat → Int) : Int := k * sumN 48 pr + sumN J.length fun i => max0 ((J.getD i j0).f_worth - tot J pr i)
theorem paid {J : List Job} {ch : List Bool} {pr : Nat → Int} : (sumN J.length fun i => if ch.getD i false = true then tot J pr i else 0) = sumN 48 fun h => pr h * cov J ch h := by
 have e1 : (sumN J.length fun i => if ch.getD i false = true then tot J pr i else 0) = sumN J.length fun i => sumN 48 fun h => if ch.getD i false = true ∧ on J i h then pr h else 0 := by
  apply sumN_congr
  intro i _
  by_cases q : ch.getD i false = true
  ·rw [if_pos q]
   unfold tot
   apply sumN_congr
   intro h _
   by_cases o : on J i h
   ·rw [if_pos o, if_pos ⟨q, o⟩]
   ·rw [if_neg o, if_neg fun t => o t.2]
  ·rw [if_neg q, sumN_zero 48 fun h _ => if_neg fun t => q t.1]
 rw [e1, sumN_comm]
 apply sumN_congr
 intro h _
 unfold cov
 rw [← sumN_mul]
 apply sumN_congr
 intro i _
 split
 ·rw [Int.mul_one]
 ·rw [Int.mul_zero]
theorem weak {J : List Job} {ch : List Bool} {k : Int} {pr : Nat → Int} (hp : ∀ h, h < 48 → 0 ≤ pr h) (hc : ∀ h, h < 48 → cov J ch h ≤ k) : val J ch ≤ bnd' J k pr := by
 have h1 : val J ch ≤ sumN J.length fun i => (max0 ((J.getD i j0).f_worth - tot J pr i)) + if ch.getD i false = true then tot J pr i else 0 := by
  apply sumN_le
  intro i _
  have := max0_ge ((J.getD i j0).f_worth - tot J pr i)
  split <;> omega
 rw [sumN_add, paid] at h1
 have h2 : (sumN 48 fun h => pr h * cov J ch h) ≤ sumN 48 fun h => k * pr h := by
  apply sumN_le
  intro h hh
  rw [Int.mul_comm k]
  exact Int.mul_le_mul_of_nonneg_left (hc h hh) (hp h hh)
 rw [sumN_mul] at h2
 unfold bnd'
 omega
theorem tele {c : Nat → Int} {a b : Nat} (hab : a ≤ b) : ∀ n : Nat, (sumN n fun h => if (a : Int) ≤ h ∧ (h : Int) < b then c h - c (h + 1) else 0) = if n ≤ a then 0 else c a - c (min n b)
 | 0 => by rw [if_pos (Nat.zero_le _)]; rfl
 | n + 1 => by
  have ih := tele (c := c) hab n
  simp only [sumN]
  rw [ih]
  by_cases q1 : n < a
  ·rw [if_pos (by omega), if_neg (by omega), if_pos (by omega)]; rfl
  ·by_cases q2 : n < b
   ·rw [if_pos (⟨by omega, by omega⟩ : (a : Int) ≤ n ∧ (n : Int) < b), if_neg (by omega : ¬ n + 1 ≤ a), show min (n + 1) b = n + 1 by omega]
    by_cases q3 : n ≤ a
    ·obtain rfl : n = a := by omega
     rw [if_pos (Nat.le_refl _)]; omega
    ·rw [if_neg q3, show min n b = n by omega]; omega
   ·rw [if_neg (fun t : (a : Int) ≤ n ∧ (n : Int) < b => by omega)]
    by_cases q3 : n ≤ a
    ·obtain rfl : n = a := by omega
     obtain rfl : n = b := by omega
     rw [if_pos (Nat.le_refl _), if_neg (by omega), show min (n + 1) n = n by omega]; omega
    ·rw [if_neg q3, if_neg (by omega), show min n b = b by omega, show min (n + 1) b = b by omega]; omega
def prc (cost : List Int) (h : Nat) : Int := cost.getD h 0 - cost.getD (h + 1) 0
theorem tot_prc {J : List Job} (hJ : JobsOK J) {cost : List Int} {i : Nat} (hi : i < J.length) : tot J (prc cost) i = cost.getD (J.getD i j0).f_from.toNat 0 - cost.getD (J.getD i j0).f_to.toNat 0 := by
 obtain ⟨j1, j2, j3, j4, j5⟩ := hJ.at hi
 have := tele (c := fun h => cost.getD h 0) (a := (J.getD i j0).f_from.toNat) (b := (J.getD i j0).f_to.toNat) (by omega) 48
 rw [if_neg (by omega), show min 48 (J.getD i j0).f_to.toNat = (J.getD i j0).f_to.toNat by omega, show (((J.getD i j0).f_from.toNat : Nat) : Int) = (J.getD i j0).f_from by omega, show (((J.getD i j0).f_to.toNat : Nat) : Int) = (J.getD i j0).f_to by omega] at this
 exact this
theorem strong {J : List Job} (hJ : JobsOK J) {ch : List Bool} {idle cost : List Int} {k : Int} (hl : ch.length = J.length) (i0 : ∀ h, h < 48 → 0 ≤ idle.getD h 0) (ct : ∀ h, h < 48 → idle.getD h 0 + cov J ch h = k) (hf : Feas J ch idle fun v => cost.getD v 0) :
  (∀ h, h < 48 → 0 ≤ prc cost h) ∧ bnd' J k (prc cost) = val J ch := by
 have p0 : ∀ h, h < 48 → 0 ≤ prc cost h := fun h hh => by
  have : cost.getD (h + 1) 0 ≤ cost.getD h 0 + 0 := hf (-1) (h + 1) h 0 (.inl ⟨rfl, rfl, hh, rfl⟩)
  unfold prc; omega
 have p1 : ∀ h, h < 48 → prc cost h * idle.getD h 0 = 0 := fun h hh => by
  have h0 := i0 h hh
  by_cases q : 0 < idle.getD h 0
  ·have : cost.getD h 0 ≤ cost.getD (h + 1) 0 + 0 := hf (-2) h (h + 1) 0 (.inr (.inl ⟨rfl, rfl, hh, rfl, q⟩))
   have h1 := p0 h hh
   have : prc cost h = 0 := by unfold prc at h1 ⊢; omega
   rw [this, Int.zero_mul]
  ·rw [show idle.getD h 0 = 0 by omega, Int.mul_zero]
 refine ⟨p0, ?_⟩
 have e1 : (sumN J.length fun i => max0 ((J.getD i j0).f_worth - tot J (prc cost) i) + if ch.getD i false = true then tot J (prc cost) i else 0) = val J ch := by
  apply sumN_congr
  intro i hi
  have hj := hJ.at hi
  rw [tot_prc hJ hi]
  by_cases q : ch.getD i false = true
  ·have := hf (i : Int) _ _ _ (.inr (.inr (.inl ⟨by omega, by omega, by simpa using q, rfl, rfl, rfl⟩)))
   simp only [Int.toNat_natCast] at this
   rw [if_pos q, if_pos q]
   unfold max0
   split <;> omega
  ·have := hf (i : Int) _ _ _ (.inr (.inr (.inr ⟨by omega, by omega, by simpa using q, rfl, rfl, rfl⟩)))
   simp only [Int.toNat_natCast] at this
   rw [if_neg q, if_neg q]
   unfold max0
   split <;> omega
 rw [sumN_add, paid] at e1
 have e2 : k * sumN 48 (prc cost) = sumN 48 fun h => prc cost h * cov J ch h := by
  rw [← sumN_mul]
  apply sumN_congr
  intro h hh
  have := ct h hh
  rw [← this, Int.add_mul, Int.mul_comm (idle.getD h 0), p1 h hh, Int.mul_comm (cov J ch h)]; omega
 unfold bnd'
 omega
end Go.Proofs.Ss
namespace Go.Proofs.Ss
open Go Go.KX
abbrev f0 : Flight := Flight.mk (0 : Int) []
def FleetOK (n : Nat) (t : Fleet) : Prop := (0 ≤ t.Base ∧ t.Base ≤ n - 1) ∧ (0 ≤ t.Range ∧ t.Range ≤ 100) ∧ (1 ≤ t.Speed ∧ t.Speed ≤ 20) ∧ (1 ≤ t.Count ∧ t.Count ≤ 6)
instance (n : Nat) (t : Fleet) : Decidable (FleetOK n t) := inferInstanceAs (Decidable (_ ∧ _))
theorem wd {x lo hi : Int} : (decide (x ≥ lo) && decide (x ≤ hi)) = decide (lo ≤ x ∧ x ≤ hi) := by rw [← Bool.decide_and]
theorem and4 {a b c d : Prop} [Decidable a] [Decidable b] [Decidable c] [Decidable d] (w2 w3 w4 : Option Bool) (h2 : w2 = some (decide b)) (h3 : w3 = some (decide c)) (h4 : w4 = some (decide d)) :
  (bnd (some (decide a)) fun x => bnd (brk x w2 (some false)) fun x1 => bnd (brk (x && x1) w3 (some false)) fun x2 => bnd (brk (x && x1 && x2) w4 (some false)) fun x3 => some (x && x1 && x2 && x3)) = some (decide (a ∧ b ∧ c ∧ d)) := by
 rw [h2, h3, h4]
 by_cases ha : a
 ·by_cases hb : b
  ·by_cases hc : c
   ·by_cases hd : d
    ·simp [ha, hb, hc, hd, bnd, brk]
    ·simp [ha, hb, hc, hd, bnd, brk]
   ·simp [ha, hb, hc, bnd, brk]
  ·simp [ha, hb, bnd, brk]
 ·simp [ha, bnd, brk]
theorem right_eq {F : Nat} {f : Field} {t : Fleet} (hf : f.Cells.length ≤ 100) : spill_grid_right F f t = some (decide (FleetOK f.Cells.length t)) := by
 unfold spill_grid_right
 rw [chk_pos (show InR _ from ⟨by omega, by omega⟩), within_eq, wd]
 exact and4 _ _ _ (by rw [within_eq, wd]) (by rw [within_eq, wd]) (by rw [within_eq, wd])
theorem refFleet_eq {F : Nat} {f : Field} {t : Fleet} (hf : f.Cells.length ≤ 100) : ref11_fleet F f t = some (decide (FleetOK f.Cells.length t)) := by
 unfold ref11_fleet
 rw [chk_pos (show InR _ from ⟨by omega, by omega⟩), refIn_eq, wd]
 exact and4 _ _ _ (by rw [refIn_eq, wd]) (by rw [refIn_eq, wd]) (by rw [refIn_eq, wd])
structure PathOK (f : Field) (b : Int) (P : List Int) : Prop where
 ne : P ≠ []
 st : P.getD 0 0 = b
 en : P.getD (P.length - 1) 0 = b
 wi : ∀ i : Nat, i < P.length → 0 ≤ P.getD i 0 ∧ P.getD i 0 < f.Cells.length
 nr : ∀ i : Nat, 0 < i → i < P.length → P.getD (i - 1) 0 ∈ nb f.W f.H (P.getD i 0)
theorem path_ok {F : Nat} (hF : 2000 < F) {f : Field} {t : Fleet} {P : List Int} (hf : FieldOK f) (hP : P.length ≤ 1000) : Ok (fun b => b = true ↔ PathOK f t.Base P) (spill_grid_path F f t P) := by
 obtain ⟨hs1, hs2⟩ := hf.small
 obtain ⟨hW, hH, hl⟩ : (1 ≤ f.W ∧ f.W ≤ 8) ∧ (1 ≤ f.H ∧ f.H ≤ 8) ∧ (f.Cells.length : Int) = f.W * f.H := ⟨hf.w, hf.h, hf.len⟩
 unfold spill_grid_path
 by_cases hne : P = []
 ·subst hne
  refine ok_chk (fun h => by simp at h) (ok_chk (fun h => by simp at h) (ok_chk (fun h => by simp at h) (ok_brkT (by simp) (ok_some ⟨(fun h => nomatch h), fun h => absurd rfl h.ne⟩))))
 have hp : 0 < P.length := List.length_pos_iff.2 hne
 have e0 : ((P.length : Int) == 0) = false := beq_eq_false_iff_ne.2 (by omega)
 rw [e0, show ((P.length : Int) - 1).toNat = P.length - 1 by omega, show (Int.toNat 0) = 0 from rfl, Bool.false_or]
 refine ok_chk (fun _ => ⟨by omega, by omega⟩) (ok_chk (fun _ => show InR _ from ⟨by omega, by omega⟩) (ok_chk (fun _ => ⟨by omega, by omega⟩) (ok_brk (fun hb => ok_some ?_) (fun hb => ?_))))
 ·simp only [Bool.or_eq_true, bne_iff_ne] at hb
  exact ⟨(fun h => nomatch h), fun h => by
   rcases hb with hb | hb
   ·exact absurd h.st hb
   ·exact absurd h.en hb⟩
 simp only [Bool.or_eq_false_iff, bne_eq_false_iff_eq] at hb
 refine ok_loop (fun x : Int => 0 ≤ x ∧ x ≤ P.length ∧ (∀ i : Nat, (i : Int) < x → 0 ≤ P.getD i 0 ∧ P.getD i 0 < f.Cells.length) ∧ ∀ i : Nat, 0 < i → (i : Int) < x → P.getD (i - 1) 0 ∈ nb f.W f.H (P.getD i 0)) (fun x => P.length - x.toNat)
  ⟨by omega, by omega, fun i hi => by omega, fun i _ hi => by omega⟩ (by simp; omega) ?_
 rintro i next ⟨i1, i2, i3, i4⟩ hn
 refine ok_brk (fun hc => ?_) (fun hc => ok_some ?_)
 ·have hc : i < P.length := of_decide_eq_true hc
  have hi : i.toNat < P.length := by omega
  rw [within_eq, wd]
  refine ok_chk ⟨i1, hc⟩ (ok_chk (show InR _ from ⟨by omega, by omega⟩) (ok_bnde rfl (ok_brk (fun hb => ok_some ⟨(fun h => nomatch h), fun h => absurd (h.wi _ hi) (by have := nd_true hb; omega)⟩) (fun hw => ?_))))
  have hw := nd_false hw
  obtain ⟨c, hcq⟩ : ∃ c, P.getD i.toNat 0 = c := ⟨_, rfl⟩
  rw [hcq] at hw ⊢
  obtain ⟨p1, p2, p3, p4⟩ := pos_bound hW hH (c := c) ⟨hw.1, by omega⟩
  refine ok_chk ⟨⟨hw.1, by omega⟩, by omega⟩ (ok_chk ⟨⟨hw.1, by omega⟩, by omega⟩ ?_)
  have dsm : ∀ j : Nat, j < 4 → -1 ≤ (dirs.getD j d0).a0 ∧ (dirs.getD j d0).a0 ≤ 1 ∧ -1 ≤ (dirs.getD j d0).a1 ∧ (dirs.getD j d0).a1 ≤ 1 := fun j hj => dirs_small _ (getD_mem (l := dirs) hj)
  refine ok_loop (fun x : Int × Int × Bool => 0 ≤ x.2.1 ∧ x.2.1 ≤ 4 ∧ 0 ≤ x.1 ∧ x.1 ≤ x.2.1 ∧ (x.2.2 = true ↔ (i = 0 ∨ P.getD (i - 1).toNat 0 ∈ nbl f.W f.H c (dirs.take x.2.1.toNat)))) (fun x => 4 - x.2.1.toNat)
   ⟨by simp, by simp, by simp, by simp, by
    show (i == 0) = true ↔ _
    rw [beq_iff_eq]
    exact ⟨.inl, fun h => by rcases h with h | h; exact h; exact absurd h (by simp [nbl])⟩⟩ (by simp; omega) ?_
  rintro ⟨cnt, j, near⟩ next1 ⟨g1, g2, g3, g4, g5⟩ hn1
  simp only at g1 g2 g3 g4 g5
  dsimp only
  refine ok_brk (fun hj => ?_) (fun hj => ?_)
  ·have hj : j < 4 := by simpa using hj
   have ht : dirs.take (j + 1).toNat = dirs.take j.toNat ++ [dirs.getD j.toNat d0] := by
    rw [show (j + 1).toNat = j.toNat + 1 by omega]; exact take_succ' (l := dirs) (by show j.toNat < 4; omega)
   obtain ⟨q1, q2, q3, q4⟩ := dsm j.toNat (by omega)
   refine ok_join (by omega) (fun y : Int × Bool => 0 ≤ y.1 ∧ y.1 ≤ j + 1 ∧ (y.2 = true ↔ (i = 0 ∨ P.getD (i - 1).toNat 0 ∈ nbl f.W f.H c (dirs.take (j + 1).toNat)))) (fun y hy => ?_) fun k1 hk1 => ?_
   ·exact ok_chk (show InR _ from ⟨by omega, by omega⟩) (hn1 _ ⟨by show 0 ≤ j + 1; omega, by show j + 1 ≤ 4; omega, hy.1, hy.2.1, hy.2.2⟩ (by show 4 - (j + 1).toNat < 4 - j.toNat; omega))
   have i5 : InR (c % f.W + (dirs.getD j.toNat d0).a0) := ⟨by omega, by omega⟩
   have i6 : InR (c / f.W + (dirs.getD j.toNat d0).a1) := ⟨by omega, by omega⟩
   refine ok_chk ⟨g1, hj⟩ (ok_chk i5 (ok_chk i6 (ok_chk (show InR _ from ⟨by omega, by omega⟩) ?_)))
   rw [within_eq, bnd_so]
   refine ok_chk (fun _ => show InR _ from ⟨by omega, by omega⟩) ?_
   rw [brk_and, bnd_so, Bool.and_self_left]
   rw [ht, nbl_snoc] at hk1
   refine ok_brk (fun hb => ?_) (fun hb => ?_)
   ·have hb : okD f.W f.H c (dirs.getD j.toNat d0) = true := hb
    obtain ⟨b1, b2, b3, b4⟩ := toD_bound hW hH hb
    rw [hb, cond_true] at hk1
    have ht2 : toD f.W c (dirs.getD j.toNat d0) = (c / f.W + (dirs.getD j.toNat d0).a1) * f.W + (c % f.W + (dirs.getD j.toNat d0).a0) := rfl
    have i1' : InR ((c / f.W + (dirs.getD j.toNat d0).a1) * f.W) := ⟨by omega, by omega⟩
    have i2' : InR ((c / f.W + (dirs.getD j.toNat d0).a1) * f.W + (c % f.W + (dirs.getD j.toNat d0).a0)) := ⟨by omega, by omega⟩
    have hpos : (!near) = true → 0 < i := fun h => by
     rcases Int.lt_or_eq_of_le i1 with q | q
     ·exact q
     ·have : near = true := g5.2 (.inl q.symm)
      rw [this] at h; cases h
    refine ok_chk i1' (ok_chk i2' (ok_chk (fun _ => show InR _ from ⟨by omega, by omega⟩) (ok_chk (fun h => by have := hpos h; exact ⟨by omega, by omega⟩) (ok_chk (show InR _ from ⟨by omega, by omega⟩) (hk1 _ ⟨by show 0 ≤ cnt + 1; omega, by show cnt + 1 ≤ j + 1; omega, ?_⟩)))))
    show (near || _ == _) = true ↔ _
    rw [Bool.or_eq_true, g5, beq_iff_eq, ← ht2]
    simp only [List.mem_append, List.mem_singleton]
    constructor
    ·rintro ((h | h) | h)
     ·exact .inl h
     ·exact .inr (.inl h)
     ·exact .inr (.inr h.symm)
    ·rintro (h | (h | h))
     ·exact .inl (.inl h)
     ·exact .inl (.inr h)
     ·exact .inr h.symm
   ·have hb : okD f.W f.H c (dirs.getD j.toNat d0) = false := hb
    rw [hb, cond_false] at hk1
    exact hk1 _ ⟨g3, by show cnt ≤ j + 1; omega, g5⟩
  ·have hj : ¬ j < 4 := by simpa using hj
   obtain rfl : j = 4 := by omega
   have g5 : near = true ↔ (i = 0 ∨ P.getD (i - 1).toNat 0 ∈ nb f.W f.H c) := g5
   refine ok_brk (fun hb => ok_some ⟨(fun h => nomatch h), fun h => ?_⟩) (fun hb => ?_)
   ·have hb : near = false := by simpa using hb
    by_cases q : i = 0
    ·have := g5.2 (.inl q); rw [hb] at this; cases this
    ·have := h.nr i.toNat (by omega) hi
     rw [hcq, show i.toNat - 1 = (i - 1).toNat by omega] at this
     have := g5.2 (.inr this); rw [hb] at this; cases this
   ·have hb : near = true := by simpa using hb
    refine ok_chk (show InR _ from ⟨by omega, by omega⟩) (hn _ ⟨by omega, by omega, fun q hq => ?_, fun q hq0 hq => ?_⟩ (by show P.length - (i + 1).toNat < P.length - i.toNat; omega))
    ·by_cases e : (q : Int) < i
     ·exact i3 q e
     ·obtain rfl : q = i.toNat := by omega
      rw [hcq]; omega
    ·by_cases e : (q : Int) < i
     ·exact i4 q hq0 e
     ·obtain rfl : q = i.toNat := by omega
      rw [hcq, show i.toNat - 1 = (i - 1).toNat by omega]
      rcases g5.1 hb with h | h
      ·omega
      ·exact h
 ·have hc : ¬ i < P.length := of_decide_eq_false hc
  exact ⟨fun _ => ⟨hne, hb.1, hb.2, fun q hq => i3 q (by omega), fun q h0 hq => i4 q h0 (by omega)⟩, fun _ => rfl⟩
theorem refPath_ok {F : Nat} (hF : 2000 < F) {f : Field} {t : Fleet} {P : List Int} (hf : FieldOK f) (hP : P.length ≤ 1000) : Ok (fun b => b = true ↔ PathOK f t.Base P) (ref11_path F f t P) := by
 obtain ⟨hs1, hs2⟩ := hf.small
 obtain ⟨hW, hH, hl⟩ : (1 ≤ f.W ∧ f.W ≤ 8) ∧ (1 ≤ f.H ∧ f.H ≤ 8) ∧ (f.Cells.length : Int) = f.W * f.H := ⟨hf.w, hf.h, hf.len⟩
 unfold ref11_path
 by_cases hne : P = []
 ·subst hne
  refine ok_chk (fun h => by simp at h) (ok_chk (fun h => by simp at h) (ok_chk (fun h => by simp at h) (ok_brkT (by simp) (ok_some ⟨(fun h => nomatch h), fun h => absurd rfl h.ne⟩))))
 have hp : 0 < P.length := List.length_pos_iff.2 hne
 have e0 : ((P.length : Int) == 0) = false := beq_eq_false_iff_ne.2 (by omega)
 rw [e0, show ((P.length : Int) - 1).toNat = P.length - 1 by omega, show (Int.toNat 0) = 0 from rfl, Bool.false_or]
 refine ok_chk (fun _ => ⟨by omega, by omega⟩) (ok_chk (fun _ => show InR _ from ⟨by omega, by omega⟩) (ok_chk (fun _ => ⟨by omega, by omega⟩) (ok_brk (fun hb => ok_some ?_) (fun hb => ?_))))
 ·simp only [Bool.or_eq_true, bne_iff_ne] at hb
  exact ⟨(fun h => nomatch h), fun h => by
   rcases hb with hb | hb
   ·exact absurd h.st hb
   ·exact absurd h.en hb⟩
 simp only [Bool.or_eq_false_iff, bne_eq_false_iff_eq] at hb
 refine ok_loop (fun x : Int => 0 ≤ x ∧ x ≤ P.length ∧ (∀ i : Nat, (i : Int) < x → 0 ≤ P.getD i 0 ∧ P.getD i 0 < f.Cells.length) ∧ ∀ i : Nat, 0 < i → (i : Int) < x → P.getD (i - 1) 0 ∈ nb f.W f.H (P.getD i 0)) (fun x => P.length - x.toNat)
  ⟨by omega, by omega, fun i hi => by omega, fun i _ hi => by omega⟩ (by simp; omega) ?_
 rintro i next ⟨i1, i2, i3, i4⟩ hn
 refine ok_brk (fun hc => ?_) (fun hc => ok_some ?_)
 ·have hc : i < P.length := of_decide_eq_true hc
  have hi : i.toNat < P.length := by omega
  rw [refIn_eq, wd]
  obtain ⟨c, hcq⟩ : ∃ c, P.getD i.toNat 0 = c := ⟨_, rfl⟩
  rw [hcq]
  refine ok_join (by omega) (fun _ : PUnit => (0 ≤ c ∧ c < f.Cells.length) ∧ (i = 0 ∨ P.getD (i - 1).toNat 0 ∈ nb f.W f.H c)) (fun _ hx => ?_) fun k hk => ?_
  ·refine ok_chk (show InR _ from ⟨by omega, by omega⟩) (hn _ ⟨by omega, by omega, fun q hq => ?_, fun q hq0 hq => ?_⟩ (by show P.length - (i + 1).toNat < P.length - i.toNat; omega))
   ·by_cases e : (q : Int) < i
    ·exact i3 q e
    ·obtain rfl : q = i.toNat := by omega
     rw [hcq]; exact hx.1
   ·by_cases e : (q : Int) < i
    ·exact i4 q hq0 e
    ·obtain rfl : q = i.toNat := by omega
     rw [hcq, show i.toNat - 1 = (i - 1).toNat by omega]
     rcases hx.2 with h | h
     ·omega
     ·exact h
  refine ok_chk ⟨i1, hc⟩ (ok_chk (show InR _ from ⟨by omega, by omega⟩) (ok_bnde rfl (ok_brk (fun hb => ok_some ⟨(fun h => nomatch h), fun h => absurd (h.wi _ hi) (by have := nd_true hb; rw [hcq]; omega)⟩) (fun hw => ?_))))
  have hw := nd_false hw
  refine ok_brk (fun hz => hk _ ⟨by omega, .inl (by simpa using hz)⟩) (fun hz => ?_)
  have hz : i ≠ 0 := by simpa using hz
  have hprev := i3 (i - 1).toNat (by omega)
  refine ok_chk (show InR _ from ⟨by omega, by omega⟩) (ok_chk ⟨by omega, by omega⟩ ?_)
  obtain ⟨u, hu⟩ : ∃ u, P.getD (i - 1).toNat 0 = u := ⟨_, rfl⟩
  rw [hu] at hprev hk ⊢
  have hg := (grid_of hW hH (c := u) ⟨hprev.1, by omega⟩).2.2 c hw.1 (by omega)
  refine ok_bnde (refNb_eq (by omega) hW hH ⟨hprev.1, by omega⟩) ?_
  have hle : (nb f.W f.H u).length ≤ 4 := nbl_le4 f.W f.H u 4
  refine ok_loop (fun x : Int × Bool => 0 ≤ x.1 ∧ x.1 ≤ (nb f.W f.H u).length ∧ (x.2 = true ↔ c ∈ (nb f.W f.H u).take x.1.toNat)) (fun x => (nb f.W f.H u).length - x.1.toNat) ⟨by simp, by simp, by simp⟩ (by simp; omega) ?_
  rintro ⟨j, fnd⟩ next1 ⟨g1, g2, g3⟩ hn1
  simp only at g1 g2 g3
  dsimp only
  refine ok_brk (fun hj => ?_) (fun hj => ?_)
  ·have hj : j < (nb f.W f.H u).length := of_decide_eq_true hj
   refine ok_chk (fun _ => ⟨g1, hj⟩) (ok_chk (fun _ => ⟨i1, hc⟩) (ok_chk (show InR _ from ⟨by omega, by omega⟩) (hn1 _ ⟨by show 0 ≤ j + 1; omega, by show j + 1 ≤ _; omega, ?_⟩ (by show (nb f.W f.H u).length - (j + 1).toNat < (nb f.W f.H u).length - j.toNat; omega))))
   show (fnd || (nb f.W f.H u).getD j.toNat 0 == c) = true ↔ c ∈ (nb f.W f.H u).take (j + 1).toNat
   rw [Bool.or_eq_true, g3, beq_iff_eq, show (j + 1).toNat = j.toNat + 1 by omega, take_succ' (d := 0) (by omega)]
   simp only [List.mem_append, List.mem_singleton]
   exact ⟨fun h => h.imp id Eq.symm, fun h => h.imp id Eq.symm⟩
  ·have hj : ¬ j < (nb f.W f.H u).length := of_decide_eq_false hj
   rw [List.take_of_length_le (by omega)] at g3
   refine ok_brk (fun hb => ok_some ⟨(fun h => nomatch h), fun h => ?_⟩) (fun hb => hk _ ⟨by omega, .inr (hg.1 (g3.1 (by simpa using hb)))⟩)
   have hb : fnd = false := by simpa using hb
   have hh := h.nr i.toNat (by omega) hi
   rw [hcq, show i.toNat - 1 = (i - 1).toNat by omega, hu] at hh
   have := g3.2 (hg.2 hh)
   rw [hb] at this; cases this
 ·have hc : ¬ i < P.length := of_decide_eq_false hc
  exact ⟨fun _ => ⟨hne, hb.1, hb.2, fun q hq => i3 q (by omega), fun q h0 hq => i4 q h0 (by omega)⟩, fun _ => rfl⟩
end Go.Proofs.Ss
namespace Go.Proofs.Ss
open Go Go.KX
def hoursV (t : Fleet) (P : List Int) : Int := if ((P.length : Int) + t.Speed - 2) / t.Speed > 1 then ((P.length : Int) + t.Speed - 2) / t.Speed else 1
def wide (f : Field) (c : Nat) : Int := (f.Cells.getD c ⟨0, 0⟩).Hi - (f.Cells.getD c ⟨0, 0⟩).Lo
def worthV (f : Field) (P : List Int) : Int := sumN f.Cells.length fun c => if (c : Int) ∈ P then wide f c else 0
open Classical in
noncomputable def jobE (f : Field) (t : Fleet) (x : Flight) : Job × Int :=
 if ¬ (0 ≤ x.From ∧ x.From ≤ 47) then (j0, 12) else if ¬ PathOK f t.Base x.Path then (j0, 120) else if (x.Path.length : Int) - 1 > t.Range then (j0, 6)
 else if x.From + hoursV t x.Path > 48 then (j0, 12) else (⟨x.From, x.From + hoursV t x.Path, worthV f x.Path⟩, 0)
theorem FieldOK.wide {f : Field} (h : FieldOK f) {c : Nat} (hc : c < f.Cells.length) : 0 ≤ wide f c ∧ wide f c ≤ 1000000 ∧ 0 ≤ (f.Cells.getD c ⟨0, 0⟩).Lo ∧ (f.Cells.getD c ⟨0, 0⟩).Hi ≤ 1000000 := by
 have := h.cells _ (getD_mem (d := ⟨0, 0⟩) hc)
 unfold Ss.wide
 omega
theorem worth_bound {f : Field} (h : FieldOK f) (P : List Int) : 0 ≤ worthV f P ∧ worthV f P ≤ 64000000 := by
 have hs := h.small
 constructor
 ·exact sumN_nonneg _ fun c hc => by
   have := h.wide hc
   split <;> omega
 ·have := sumN_bound (f := fun c => if (c : Int) ∈ P then wide f c else 0) (B := 1000000) f.Cells.length fun c hc => by
   have := h.wide hc
   split <;> omega
  unfold worthV
  omega
theorem hours_spec {t : Fleet} {P : List Int} (hS : 1 ≤ t.Speed ∧ t.Speed ≤ 20) (hP : P.length ≤ 1000) : 1 ≤ hoursV t P ∧ hoursV t P ≤ 1100 ∧ (P.length : Int) - 1 ≤ hoursV t P * t.Speed ∧ (hoursV t P = 1 ∨ (hoursV t P - 1) * t.Speed < (P.length : Int) - 1) := by
 obtain ⟨q, hq⟩ : ∃ q, ((P.length : Int) + t.Speed - 2) / t.Speed = q := ⟨_, rfl⟩
 have h1 := Int.mul_ediv_add_emod ((P.length : Int) + t.Speed - 2) t.Speed
 have h2 := Int.emod_nonneg ((P.length : Int) + t.Speed - 2) (show t.Speed ≠ 0 by omega)
 have h3 := Int.emod_lt_of_pos ((P.length : Int) + t.Speed - 2) (show 0 < t.Speed by omega)
 rw [hq, Int.mul_comm] at h1
 have hqb : q ≤ 1100 := by
  rcases Int.lt_or_le 1100 q with h | h
  ·have : 1101 * t.Speed ≤ q * t.Speed := Int.mul_le_mul_of_nonneg_right (by omega) (by omega)
   omega
  ·exact h
 unfold hoursV
 rw [hq]
 by_cases h : q > 1
 ·rw [if_pos h]
  have e : (q - 1) * t.Speed = q * t.Speed - t.Speed := by rw [Int.sub_mul, Int.one_mul]
  refine ⟨by omega, hqb, by omega, .inr (by omega)⟩
 ·rw [if_neg h]
  have : q * t.Speed ≤ 1 * t.Speed := Int.mul_le_mul_of_nonneg_right (by omega) (by omega)
  exact ⟨by omega, by omega, by omega, .inl rfl⟩
theorem hasI_ins {l : List Int} {n x : Int} : hasI (insI l n) x = true ↔ x = n ∨ hasI l x = true := by
 unfold insI
 by_cases h : hasI l n = true
 ·rw [h, cond_true]
  exact ⟨.inr, fun q => by rcases q with rfl | q; exact h; exact q⟩
 ·rw [show hasI l n = false by simpa using h, cond_false]
  unfold hasI
  simp only [List.any_append, Bool.or_eq_true, List.any_cons, List.any_nil, Bool.or_false, beq_iff_eq]
  exact ⟨fun q => q.elim .inr fun q => .inl q.symm, fun q => q.elim (fun q => .inr q.symm) .inl⟩
theorem worth_step {f : Field} {l : List Int} {c : Int} (hc : 0 ≤ c ∧ c < f.Cells.length) : worthV f (l ++ [c]) = worthV f l + if c ∈ l then 0 else wide f c.toNat := by
 unfold worthV
 rw [sumN_one (j := c.toNat) (g := fun d => if (d : Int) ∈ l then wide f d else 0) _ (by omega) fun d _ hd => by
  by_cases q : (d : Int) ∈ l
  ·rw [if_pos q, if_pos (List.mem_append_left _ q)]
  ·rw [if_neg q, if_neg]
   intro t
   rcases List.mem_append.1 t with t | t
   ·exact q t
   ·have := List.mem_singleton.1 t
    omega]
 congr 1
 rw [show ((c.toNat : Nat) : Int) = c by omega, if_pos (by simp)]
 by_cases q : c ∈ l
 ·rw [if_pos q, if_pos q]; omega
 ·rw [if_neg q, if_neg q]; omega
theorem job_eq {F : Nat} (hF : 2000 < F) {f : Field} {t : Fleet} {x : Flight} (hf : FieldOK f) (ht : FleetOK f.Cells.length t) (hP : x.Path.length ≤ 1000) : spill_grid_job F f t x = some (jobE f t x) := by
 refine Ok.eq ?_
 obtain ⟨t1, t2, t3, t4⟩ := ht
 have hs := hf.small
 unfold spill_grid_job jobE
 rw [within_eq, wd]
 refine ok_bnde rfl (ok_brk (fun hb => ok_some (by rw [if_pos (nd_true hb)])) (fun hb => ?_))
 have hfr := nd_false hb
 rw [if_neg (fun q => q hfr)]
 refine ok_bnd _ (path_ok hF hf hP) fun b hb => ok_brk (fun hn => ok_some ?_) (fun hn => ?_)
 ·rw [if_pos]
  intro q
  have := hb.2 q
  rw [this] at hn; cases hn
 have hp : PathOK f t.Base x.Path := hb.1 (by simpa using hn)
 rw [if_neg (fun q => q hp)]
 refine ok_chk (show InR _ from ⟨by omega, by omega⟩) (ok_brk (fun hb => ok_some (by rw [if_pos (of_decide_eq_true hb)])) (fun hb => ?_))
 rw [if_neg (of_decide_eq_false hb)]
 obtain ⟨h1, h2, -, -⟩ := hours_spec t3 hP
 have hH : (if ((x.Path.length : Int) + t.Speed - 2) / t.Speed > 1 then ((x.Path.length : Int) + t.Speed - 2) / t.Speed else 1) = hoursV t x.Path := rfl
 rw [hH]
 have hlen : 1 ≤ x.Path.length := List.length_pos_iff.2 hp.ne
 refine ok_chk (show InR _ from ⟨by omega, by omega⟩) (ok_chk (show InR _ from ⟨by omega, by omega⟩) (ok_chk ⟨⟨by omega, by omega⟩, by omega⟩ (ok_chk (show InR _ from ⟨by omega, by omega⟩) (ok_brk (fun hb => ok_some (by rw [if_pos (of_decide_eq_true hb)])) (fun hb => ?_)))))
 rw [if_neg (of_decide_eq_false hb)]
 refine ok_loop (fun y : Int × Int × List Int => 0 ≤ y.1 ∧ y.1 ≤ x.Path.length ∧ y.2.1 = worthV f (x.Path.take y.1.toNat) ∧ ∀ c, hasI y.2.2 c = true ↔ c ∈ x.Path.take y.1.toNat) (fun y => x.Path.length - y.1.toNat)
  ⟨by simp, by simp, by show 0 = worthV f (x.Path.take 0); rw [List.take_zero]; unfold worthV; rw [sumN_zero]; intro c _; simp, fun c => by show hasI [] c = true ↔ c ∈ x.Path.take 0; simp [hasI]⟩ (by simp; omega) ?_
 rintro ⟨i, w, seen⟩ next ⟨i1, i2, i3, i4⟩ hnx
 simp only at i1 i2 i3 i4
 dsimp only
 refine ok_brk (fun hc => ?_) (fun hc => ok_some ?_)
 ·have hc : i < x.Path.length := of_decide_eq_true hc
  have hi : i.toNat < x.Path.length := by omega
  have hwi := hp.wi i.toNat hi
  have htk : x.Path.take (i + 1).toNat = x.Path.take i.toNat ++ [x.Path.getD i.toNat 0] := by rw [show (i + 1).toNat = i.toNat + 1 by omega, take_succ' (d := 0) hi]
  generalize x.Path.getD i.toNat 0 = c at hwi htk ⊢
  have hst := worth_step (l := x.Path.take i.toNat) hwi
  rw [← htk, ← i3] at hst
  have hwb := worth_bound hf (x.Path.take i.toNat)
  rw [← i3] at hwb
  have hcw := hf.wide (c := c.toNat) (by omega)
  refine ok_join (by omega) (fun y : Int × List Int => y.1 = worthV f (x.Path.take (i + 1).toNat) ∧ ∀ d, hasI y.2 d = true ↔ d ∈ x.Path.take (i + 1).toNat) (fun y hy => ok_chk (show InR _ from ⟨by omega, by omega⟩) (hnx _ ⟨by show 0 ≤ i + 1; omega, by show i + 1 ≤ _; omega, hy.1, hy.2⟩ (by show x.Path.length - (i + 1).toNat < x.Path.length - i.toNat; omega))) fun k hk => ?_
  refine ok_chk ⟨i1, hc⟩ (ok_brk (fun hb => ?_) (fun hb => ?_))
  ·have hb : ¬ hasI seen c = true := by simpa using hb
   have hnm : ¬ c ∈ x.Path.take i.toNat := fun q => hb ((i4 c).2 q)
   rw [if_neg hnm] at hst
   unfold Ss.wide at hst hcw
   refine ok_chk ⟨hwi.1, hwi.2⟩ (ok_chk ⟨hwi.1, hwi.2⟩ (ok_chk (show InR _ from ⟨by omega, by omega⟩) (ok_chk (show InR _ from ⟨by omega, by omega⟩) (hk _ ⟨hst.symm, fun d => ?_⟩))))
   show hasI (insI seen c) d = true ↔ _
   rw [hasI_ins, i4, htk]
   simp only [List.mem_append, List.mem_singleton]
   exact Or.comm
  ·have hb : hasI seen c = true := by simpa using hb
   have hm : c ∈ x.Path.take i.toNat := (i4 c).1 hb
   rw [if_pos hm] at hst
   refine hk _ ⟨by show w = _; omega, fun d => ?_⟩
   show hasI seen d = true ↔ _
   rw [i4, htk]
   simp only [List.mem_append, List.mem_singleton]
   exact ⟨.inl, fun q => by rcases q with q | rfl; exact q; exact hm⟩
 ·have hc : ¬ i < x.Path.length := of_decide_eq_false hc
  rw [List.take_of_length_le (by omega)] at i3
  rw [i3]
theorem refWorth1_eq {F : Nat} (hF : 2000 < F) {f : Field} {t : Fleet} {x : Flight} (hf : FieldOK f) (ht : FleetOK f.Cells.length t) (hP : x.Path.length ≤ 1000) : ref11_worth F f t x = some ((jobE f t x).1.f_worth, (jobE f t x).1.f_to - (jobE f t x).1.f_from, (jobE f t x).2) := by
 refine Ok.eq ?_
 obtain ⟨t1, t2, t3, t4⟩ := ht
 have hs := hf.small
 unfold ref11_worth jobE
 rw [refIn_eq, wd]
 refine ok_bnde rfl (ok_brk (fun hb => ok_some (by rw [if_pos (nd_true hb)]; rfl)) (fun hb => ?_))
 have hfr := nd_false hb
 rw [if_neg (fun q => q hfr)]
 refine ok_bnd _ (refPath_ok hF hf hP) fun b hb => ok_brk (fun hn => ok_some ?_) (fun hn => ?_)
 ·rw [if_pos]
  ·rfl
  intro q
  have := hb.2 q
  rw [this] at hn; cases hn
 have hp : PathOK f t.Base x.Path := hb.1 (by simpa using hn)
 rw [if_neg (fun q => q hp)]
 refine ok_chk (show InR _ from ⟨by omega, by omega⟩) (ok_brk (fun hb => ok_some (by rw [if_pos (by have := of_decide_eq_true hb; omega)]; rfl)) (fun hb => ?_))
 rw [if_neg (by have := of_decide_eq_false hb; omega)]
 obtain ⟨h1, h2, h3, h4⟩ := hours_spec t3 hP
 refine ok_loop (fun y : Int => 1 ≤ y ∧ y ≤ hoursV t x.Path) (fun y => 1200 - y.toNat) ⟨by omega, h1⟩ (by show 1200 - (1 : Int).toNat < F; omega) ?_
 rintro y next ⟨y1, y2⟩ hnx
 have hyS : 0 ≤ y * t.Speed ∧ y * t.Speed ≤ hoursV t x.Path * t.Speed := ⟨Int.mul_nonneg (by omega) (by omega), Int.mul_le_mul_of_nonneg_right y2 (by omega)⟩
 have hHS : hoursV t x.Path * t.Speed ≤ 1100 * 20 := Int.le_trans (Int.mul_le_mul_of_nonneg_right h2 (by omega)) (by omega)
 refine ok_chk (show InR _ from ⟨by omega, by omega⟩) (ok_chk (show InR _ from ⟨by omega, by omega⟩) (ok_brk (fun hb => ?_) (fun hb => ?_)))
 ·have hb := of_decide_eq_true hb
  refine ok_chk (show InR _ from ⟨by omega, by omega⟩) (hnx _ ⟨by omega, ?_⟩ (by show 1200 - (y + 1).toNat < 1200 - y.toNat; omega))
  rcases Int.lt_or_le y (hoursV t x.Path) with q | q
  ·omega
  ·rw [show y = hoursV t x.Path by omega] at hb; omega
 have hb := of_decide_eq_false hb
 have hy : y = hoursV t x.Path := by
  rcases Int.lt_or_eq_of_le y2 with q | q
  ·exfalso
   rcases h4 with h4 | h4
   ·omega
   ·have : y * t.Speed ≤ (hoursV t x.Path - 1) * t.Speed := Int.mul_le_mul_of_nonneg_right (by omega) (by omega)
    omega
  ·exact q
 subst hy
 clear hnx
 refine ok_chk (show InR _ from ⟨by omega, by omega⟩) (ok_brk (fun hb => ok_some (by rw [if_pos (of_decide_eq_true hb)]; rfl)) (fun hb => ?_))
 rw [if_neg (of_decide_eq_false hb)]
 have hwb : ∀ n, n ≤ f.Cells.length → 0 ≤ (sumN n fun c => if (c : Int) ∈ x.Path then wide f c else 0) ∧ (sumN n fun c => if (c : Int) ∈ x.Path then wide f c else 0) ≤ 64000000 := fun n hn => by
  have b1 := sumN_nonneg (f := fun c => if (c : Int) ∈ x.Path then wide f c else 0) n fun c hc => by
   have := hf.wide (c := c) (by omega)
   split <;> omega
  have b2 := sumN_bound (f := fun c => if (c : Int) ∈ x.Path then wide f c else 0) (B := 1000000) n fun c hc => by
   have := hf.wide (c := c) (by omega)
   split <;> omega
  omega
 refine ok_loop (fun y : Int × Int => 0 ≤ y.2 ∧ y.2 ≤ f.Cells.length ∧ y.1 = sumN y.2.toNat fun c => if (c : Int) ∈ x.Path then wide f c else 0) (fun y => f.Cells.length - y.2.toNat) ⟨by simp, by simp, rfl⟩ (by simp; omega) ?_
 rintro ⟨w, c⟩ next ⟨c1, c2, c3⟩ hnx
 simp only at c1 c2 c3
 dsimp only
 refine ok_brk (fun hc => ?_) (fun hc => ok_some ?_)
 ·have hc : c < f.Cells.length := of_decide_eq_true hc
  have hst : (sumN (c + 1).toNat fun c => if (c : Int) ∈ x.Path then wide f c else 0) = w + if c ∈ x.Path then wide f c.toNat else 0 := by
   rw [show (c + 1).toNat = c.toNat + 1 by omega]
   simp only [sumN]
   rw [← c3, show ((c.toNat : Nat) : Int) = c by omega]
  have b1 := hwb c.toNat (by omega)
  rw [← c3] at b1
  have hcw := hf.wide (c := c.toNat) (by omega)
  refine ok_join (by omega) (fun y : Int => y = sumN (c + 1).toNat fun c => if (c : Int) ∈ x.Path then wide f c else 0) (fun y hy => ok_chk (show InR _ from ⟨by omega, by omega⟩) (hnx _ ⟨by show 0 ≤ c + 1; omega, by show c + 1 ≤ _; omega, hy⟩ (by show f.Cells.length - (c + 1).toNat < f.Cells.length - c.toNat; omega))) fun k hk => ?_
  refine ok_loop (fun y : Bool × Int => 0 ≤ y.2 ∧ y.2 ≤ x.Path.length ∧ (y.1 = true ↔ c ∈ x.Path.take y.2.toNat)) (fun y => x.Path.length - y.2.toNat) ⟨by simp, by simp, by simp⟩ (by simp; omega) ?_
  rintro ⟨fnd, j⟩ next1 ⟨g1, g2, g3⟩ hn1
  simp only at g1 g2 g3
  dsimp only
  refine ok_brk (fun hj => ?_) (fun hj => ?_)
  ·have hj : j < x.Path.length := of_decide_eq_true hj
   refine ok_chk (fun _ => ⟨g1, hj⟩) (ok_chk (show InR _ from ⟨by omega, by omega⟩) (hn1 _ ⟨by show 0 ≤ j + 1; omega, by show j + 1 ≤ _; omega, ?_⟩ (by show x.Path.length - (j + 1).toNat < x.Path.length - j.toNat; omega)))
   show (fnd || x.Path.getD j.toNat 0 == c) = true ↔ c ∈ x.Path.take (j + 1).toNat
   rw [Bool.or_eq_true, g3, beq_iff_eq, show (j + 1).toNat = j.toNat + 1 by omega, take_succ' (d := 0) (by omega)]
   simp only [List.mem_append, List.mem_singleton]
   exact ⟨fun h => h.imp id Eq.symm, fun h => h.imp id Eq.symm⟩
  ·have hj : ¬ j < x.Path.length := of_decide_eq_false hj
   rw [List.take_of_length_le (by omega)] at g3
   refine ok_brk (fun hb => ?_) (fun hb => hk _ ?_)
   ·rw [if_pos (g3.1 hb)] at hst
    rw [show wide f c.toNat = (f.Cells.getD c.toNat ⟨0, 0⟩).Hi - (f.Cells.getD c.toNat ⟨0, 0⟩).Lo from rfl] at hst hcw
    refine ok_chk ⟨c1, hc⟩ (ok_chk (show InR _ from ⟨by omega, by omega⟩) (ok_chk ⟨c1, hc⟩ (ok_chk (show InR _ from ⟨by omega, by omega⟩) (hk _ (by omega)))))
   ·rw [if_neg (fun q => by rw [g3.2 q] at hb; cases hb)] at hst
    omega
 ·have hc : ¬ c < f.Cells.length := of_decide_eq_false hc
  rw [show c.toNat = f.Cells.length by omega] at c3
  rw [c3]
  show _ = (worthV f x.Path, x.From + hoursV t x.Path - x.From, 0)
  rw [show x.From + hoursV t x.Path - x.From = hoursV t x.Path by omega]; rfl
end Go.Proofs.Ss
namespace Go.Proofs.Ss
open Go Go.KX
noncomputable def firstE : List (Job × Int) → Int
 | [] => 0
 | x :: l => if x.2 ≠ 0 then x.2 else firstE l
open Classical in
noncomputable def jobsV (f : Field) (t : Fleet) (l : List Flight) : List Job × Int :=
 if checkV f ≠ 0 then ([], checkV f) else if ¬ FleetOK f.Cells.length t then ([], 120) else if 12 < l.length then ([], 2)
 else if firstE (l.map (jobE f t)) ≠ 0 then ([], firstE (l.map (jobE f t))) else (l.map fun x => (jobE f t x).1, 0)
structure FlsB (l : List Flight) : Prop where
 len : l.length ≤ 1000
 p : ∀ x ∈ l, x.Path.length ≤ 1000
theorem jobs_eq {F : Nat} (hF : 2000 < F) {f : Field} {t : Fleet} {l : List Flight} (hl : f.Cells.length ≤ 100) (hb : FlsB l) : spill_jobs F f t l = some (jobsV f t l) := by
 refine Ok.eq ?_
 unfold spill_jobs jobsV
 refine ok_bnde (Check_eq (by show f.Cells.length < F; omega)) (ok_brk (fun hc => ?_) (fun hc => ?_))
 ·have hc : checkV f ≠ 0 := by simpa using hc
  rw [if_pos hc]
  refine ok_join (by omega) (fun e : Int => e = checkV f) (fun e he => ?_) fun k hk => ?_
  ·subst he
   exact ok_brkT (by simpa using hc) (ok_some rfl)
  ·refine ok_brkF ?_ (hk _ rfl)
   rw [show (checkV f == 0) = false from beq_eq_false_iff_ne.2 hc]; rfl
 have hc : checkV f = 0 := by simpa using hc
 have hf := checkV_ok hc
 rw [if_neg (by omega)]
 refine ok_bnde (right_eq hl) (ok_brk (fun ht => ok_some ?_) (fun ht => ?_))
 ·rw [if_pos (nd_true ht)]
 have ht := nd_false ht
 rw [if_neg (fun q => q ht)]
 refine ok_join (by omega) (fun e : Int => (e = 2 ∧ 12 < l.length) ∨ (e = 0 ∧ ¬ 12 < l.length)) (fun e he => ?_) fun k hk => ?_
 ·rcases he with ⟨rfl, h12⟩ | ⟨rfl, h12⟩
  ·exact ok_brkT rfl (ok_some (by rw [if_pos h12]))
  ·rw [if_neg h12]
   refine ok_brkF rfl ?_
   refine ok_rest (d := f0) (fun x : List Job × Int => x.2) (fun x rest => firstE (l.map (jobE f t)) = firstE (rest.map (jobE f t)) ∧ x.1 ++ (rest.map fun x => (jobE f t x).1) = l.map fun x => (jobE f t x).1) (by have := hb.len; omega) rfl ⟨rfl, rfl⟩ ?_ ?_
   ·rintro ⟨out, i⟩ next i1 i2 ⟨i3, i4⟩ hm hn
    simp only at i1 i2 i3 i4 hm hn
    dsimp only
    have hlen := hb.len
    have hol : out.length ≤ 1000 := by
     have := congrArg List.length i4
     simp only [List.length_append, List.length_map, List.map_cons, List.length_cons] at this
     omega
    refine ok_brkT (decide_eq_true (by omega)) (ok_chk ⟨i1, i2⟩ ?_)
    generalize hx : l.getD i.toNat f0 = x at i3 i4 hm
    refine ok_bnde (b := jobE f t x) (job_eq hF hf ht (x := ⟨x.From, x.Path⟩) (hb.p x hm)) (ok_brk (fun hq => ok_some ?_) (fun hq => ?_))
    ·have hq : (jobE f t x).2 ≠ 0 := by simpa using hq
     have e : firstE ((x :: l.drop (i.toNat + 1)).map (jobE f t)) = (jobE f t x).2 := by rw [List.map_cons, firstE, if_pos hq]
     rw [i3, e, if_pos hq]
    ·have hq : (jobE f t x).2 = 0 := by simpa using hq
     have e : firstE ((x :: l.drop (i.toNat + 1)).map (jobE f t)) = firstE ((l.drop (i.toNat + 1)).map (jobE f t)) := by rw [List.map_cons, firstE, if_neg (fun t => t hq)]
     refine ok_chk (by simp; omega) (ok_chk (show InR _ from ⟨by omega, by omega⟩) (hn _ rfl ⟨by rw [i3, e], ?_⟩))
     rw [← i4, List.map_cons]
     show (out ++ [(jobE f t x).1]) ++ _ = out ++ _
     rw [List.append_assoc]; rfl
   ·rintro ⟨out, i⟩ next i1 ⟨i3, i4⟩
    simp only at i1 i3 i4
    dsimp only
    refine ok_brkF (decide_eq_false (by omega)) (ok_some ?_)
    rw [if_neg (by rw [i3]; simp [firstE])]
    simp only [List.map_nil, List.append_nil] at i4
    rw [i4]
 ·refine ok_brk (fun h => hk _ (.inl ⟨rfl, by have := of_decide_eq_true h; omega⟩)) (fun h => hk _ (.inr ⟨rfl, by have := of_decide_eq_false h; omega⟩))
theorem asked_eq {F : Nat} (hF : 2000 < F) {f : Field} {t : Fleet} {l : List Flight} (hl : f.Cells.length ≤ 100) (hb : FlsB l) : ref11_asked F f t l = some (jobsV f t l).2 := by
 refine Ok.eq ?_
 unfold ref11_asked jobsV
 refine ok_bnde (refCheck_eq (by show f.Cells.length < F; omega)) (ok_brk (fun hc => ok_some ?_) (fun hc => ?_))
 ·have hc : checkV f ≠ 0 := by simpa using hc
  rw [if_pos hc]
 have hc : checkV f = 0 := by simpa using hc
 have hf := checkV_ok hc
 rw [if_neg (by omega)]
 refine ok_bnde (refFleet_eq hl) (ok_brk (fun ht => ok_some ?_) (fun ht => ?_))
 ·rw [if_pos (nd_true ht)]
 have ht := nd_false ht
 rw [if_neg (fun q => q ht)]
 refine ok_brk (fun h => ok_some (by rw [if_pos (by have := of_decide_eq_true h; omega)])) (fun h => ?_)
 rw [if_neg (by have := of_decide_eq_false h; omega)]
 refine ok_rest (d := f0) (fun x : Int => x) (fun x rest => firstE (l.map (jobE f t)) = firstE (rest.map (jobE f t))) (by have := hb.len; omega) rfl rfl ?_ ?_
 ·rintro i next i1 i2 i3 hm hn
  have hlen := hb.len
  refine ok_brkT (decide_eq_true (by omega)) (ok_chk ⟨i1, i2⟩ ?_)
  generalize hx : l.getD i.toNat f0 = x at i3 hm
  refine ok_bnde (refWorth1_eq hF hf ht (x := ⟨x.From, x.Path⟩) (hb.p x hm)) (ok_brk (fun hq => ok_some ?_) (fun hq => ?_))
  ·have hq : (jobE f t x).2 ≠ 0 := by simpa using hq
   have e : firstE ((x :: l.drop (i.toNat + 1)).map (jobE f t)) = (jobE f t x).2 := by rw [List.map_cons, firstE, if_pos hq]
   rw [i3, e, if_pos hq]
  ·have hq : (jobE f t x).2 = 0 := by simpa using hq
   have e : firstE ((x :: l.drop (i.toNat + 1)).map (jobE f t)) = firstE ((l.drop (i.toNat + 1)).map (jobE f t)) := by rw [List.map_cons, firstE, if_neg (fun t => t hq)]
   exact ok_chk (show InR _ from ⟨by omega, by omega⟩) (hn _ rfl (by rw [i3, e]))
 ·rintro i next i1 i3
  refine ok_brkF (decide_eq_false (by omega)) (ok_some ?_)
  rw [if_neg (by rw [i3]; simp [firstE])]
structure JobsR (f : Field) (t : Fleet) (l : List Flight) (J : List Job) : Prop where
 fo : FieldOK f
 fl : FleetOK f.Cells.length t
 ok : JobsOK J
 len : l.length = J.length
 l12 : J.length ≤ 12
 ev : ∀ i, i < J.length → jobE f t (l.getD i f0) = (J.getD i j0, 0)
 fr : ∀ i, i < J.length → (J.getD i j0).f_from = (l.getD i f0).From
theorem firstE_zero : ∀ {l : List (Job × Int)}, firstE l = 0 → ∀ x ∈ l, x.2 = 0
 | x :: l, h, y, hy => by
  unfold firstE at h
  by_cases q : x.2 ≠ 0
  ·rw [if_pos q] at h; exact absurd h q
  ·rw [if_neg q] at h
   rcases List.mem_cons.1 hy with rfl | hy
   ·exact Classical.not_not.1 q
   ·exact firstE_zero h y hy
theorem jobE_ok {f : Field} {t : Fleet} {x : Flight} (hf : FieldOK f) (ht : FleetOK f.Cells.length t) (hP : x.Path.length ≤ 1000) (h : (jobE f t x).2 = 0) : JobOK (jobE f t x).1 ∧ (jobE f t x).1.f_from = x.From ∧ PathOK f t.Base x.Path ∧ (jobE f t x).1.f_worth = worthV f x.Path := by
 obtain ⟨h1, h2, -, -⟩ := hours_spec ht.2.2.1 hP
 have hw := worth_bound hf x.Path
 unfold jobE at h ⊢
 split at h
 ·cases h
 rename_i q1
 rw [if_neg q1]
 split at h
 ·cases h
 rename_i q2
 rw [if_neg q2]
 split at h
 ·cases h
 rename_i q3
 rw [if_neg q3]
 split at h
 ·cases h
 rename_i q4
 rw [if_neg q4]
 have q1 := Classical.not_not.1 q1
 have q2 := Classical.not_not.1 q2
 exact ⟨⟨by show 0 ≤ x.From; omega, by show x.From < x.From + hoursV t x.Path; omega, by show x.From + hoursV t x.Path ≤ 48; omega, hw.1, hw.2⟩, rfl, q2, rfl⟩
theorem jobsV_zero {f : Field} {t : Fleet} {l : List Flight} (hb : FlsB l) (h : (jobsV f t l).2 = 0) : JobsR f t l (jobsV f t l).1 := by
 unfold jobsV at h ⊢
 split at h
 ·rename_i q; exact absurd h q
 rename_i q1
 rw [if_neg q1]
 split at h
 ·cases h
 rename_i q2
 rw [if_neg q2]
 split at h
 ·cases h
 rename_i q3
 rw [if_neg q3]
 split at h
 ·rename_i q; exact absurd h q
 rename_i q4
 rw [if_neg q4]
 have hf := checkV_ok (Classical.not_not.1 q1)
 have ht := Classical.not_not.1 q2
 have h0 : ∀ x ∈ l, (jobE f t x).2 = 0 := fun x hx => firstE_zero (Classical.not_not.1 q4) _ (List.mem_map_of_mem hx)
 have hat : ∀ i, i < l.length → (l.map fun x => (jobE f t x).1).getD i j0 = (jobE f t (l.getD i f0)).1 := fun i hi => by
  rw [getD_get (by simpa using hi), List.getElem_map, getD_get hi]
 refine ⟨hf, ht, ⟨by rw [List.length_map]; omega, fun j hj => ?_⟩, by rw [List.length_map], by rw [List.length_map]; omega, fun i hi => ?_, fun i hi => ?_⟩
 ·obtain ⟨x, hx, rfl⟩ := List.mem_map.1 hj
  exact (jobE_ok hf ht (hb.p x hx) (h0 x hx)).1
 ·rw [List.length_map] at hi
  show _ = ((l.map fun x => (jobE f t x).1).getD i j0, 0)
  rw [hat i hi]
  exact Prod.ext rfl (h0 _ (getD_mem hi))
 ·rw [List.length_map] at hi
  show ((l.map fun x => (jobE f t x).1).getD i j0).f_from = _
  rw [hat i hi]
  exact (jobE_ok hf ht (hb.p _ (getD_mem hi)) (h0 _ (getD_mem hi))).2.1
end Go.Proofs.Ss
namespace Go.Proofs.Ss
open Go Go.KX
structure Opt (J : List Job) (k n : Int) : Prop where
 has : ∃ ch, ch.length = J.length ∧ (∀ h, h < 48 → cov J ch h ≤ k) ∧ val J ch = n
 le : ∀ ch, (∀ h, h < 48 → cov J ch h ≤ k) → val J ch ≤ n
theorem Opt.one {J : List Job} {k n m : Int} (h : Opt J k n) (h' : Opt J k m) : n = m := by
 obtain ⟨c, _, c1, c2⟩ := h.has
 obtain ⟨d, _, d1, d2⟩ := h'.has
 have := h.le d d1
 have := h'.le c c1
 omega
theorem ChOK.cov {J : List Job} {k : Int} {ch : List Bool} {idle : List Int} {p : Nat → Int} (h : ChOK J k ch idle p) : ∀ q, q < 48 → Ss.cov J ch q ≤ k := fun q hq => by
 have := h.ct q hq
 have := h.i0 q hq
 omega
theorem ChOK.opt {J : List Job} (hJ : JobsOK J) {k : Int} {ch : List Bool} {idle : List Int} {p : Nat → Int} (h : ChOK J k ch idle p) : Opt J k (val J ch) := by
 refine ⟨⟨ch, h.lc, h.cov, rfl⟩, fun ch' hc' => ?_⟩
 obtain ⟨r, _, hr⟩ := costs_ok (F := 1000000000000) (by omega) hJ h.lc h.li h.fs h.p0 h.pb
 obtain ⟨s1, s2⟩ := strong hJ h.lc h.i0 h.ct hr.fs
 rw [← s2]
 exact weak s1 hc'
theorem val_bound {J : List Job} (hJ : JobsOK J) (ch : List Bool) (n : Nat) (hn : n ≤ J.length) : 0 ≤ (sumN n fun i => if ch.getD i false = true then (J.getD i j0).f_worth else 0) ∧ (sumN n fun i => if ch.getD i false = true then (J.getD i j0).f_worth else 0) ≤ 768000000 := by
 have b1 := sumN_nonneg (f := fun i => if ch.getD i false = true then (J.getD i j0).f_worth else 0) n fun i hi => by
  have := hJ.at (show i < J.length by omega)
  obtain ⟨_, _, _, w0, w1⟩ := this
  split <;> omega
 have b2 := sumN_bound (f := fun i => if ch.getD i false = true then (J.getD i j0).f_worth else 0) (B := 64000000) n fun i hi => by
  have := hJ.at (show i < J.length by omega)
  obtain ⟨_, _, _, w0, w1⟩ := this
  split <;> omega
 have := hJ.len
 omega
theorem Best_ok {F : Nat} (hF : 100000000000 < F) {f : Field} {t : Fleet} {l : List Flight} (hl : f.Cells.length ≤ 100) (hb : FlsB l) :
  Ok (fun r : List Bool × Int × Int => ((jobsV f t l).2 ≠ 0 ∧ r = ([], 0, (jobsV f t l).2)) ∨ ((jobsV f t l).2 = 0 ∧ r.2.2 = 0 ∧ r.1.length = (jobsV f t l).1.length ∧ (∀ h, h < 48 → cov (jobsV f t l).1 r.1 h ≤ t.Count) ∧ val (jobsV f t l).1 r.1 = r.2.1 ∧ Opt (jobsV f t l).1 t.Count r.2.1)) (spill_Best F f t l) := by
 unfold spill_Best
 refine ok_bnde (jobs_eq (by omega) hl hb) (ok_brk (fun h => ok_some (.inl ⟨by simpa using h, rfl⟩)) (fun h => ?_))
 have hz : (jobsV f t l).2 = 0 := by simpa using h
 have hR := jobsV_zero hb hz
 generalize hJv : (jobsV f t l).1 = J at hR ⊢
 have hk := hR.fl.2.2.2
 refine ok_bnd _ (choose_ok hF hR.ok (by omega)) ?_
 rintro ⟨ch, idle⟩ ⟨p, hC⟩
 simp only at hC
 dsimp only
 have hJl := hR.l12
 have hlc := hC.lc
 refine ok_loop (fun x : Int × Int => 0 ≤ x.2 ∧ x.2 ≤ J.length ∧ x.1 = sumN x.2.toNat fun i => if ch.getD i false = true then (J.getD i j0).f_worth else 0) (fun x => J.length - x.2.toNat) ⟨by simp, by simp, rfl⟩ (by simp; omega) ?_
 rintro ⟨n, i⟩ next ⟨i1, i2, i3⟩ hn
 simp only at i1 i2 i3
 dsimp only
 refine ok_brk (fun hc => ?_) (fun hc => ok_some ?_)
 ·have hc : i < J.length := of_decide_eq_true hc
  have hst : (sumN (i + 1).toNat fun i => if ch.getD i false = true then (J.getD i j0).f_worth else 0) = n + if ch.getD i.toNat false = true then (J.getD i.toNat j0).f_worth else 0 := by
   rw [show (i + 1).toNat = i.toNat + 1 by omega]
   simp only [sumN]
   rw [← i3]
  have b1 := val_bound hR.ok ch i.toNat (by omega)
  have b2 := val_bound hR.ok ch (i + 1).toNat (by omega)
  refine ok_join (by omega) (fun y : Int => y = sumN (i + 1).toNat fun i => if ch.getD i false = true then (J.getD i j0).f_worth else 0) (fun y hy => ok_chk (show InR _ from ⟨by omega, by omega⟩) (hn _ ⟨by show 0 ≤ i + 1; omega, by show i + 1 ≤ _; omega, hy⟩ (by show J.length - (i + 1).toNat < J.length - i.toNat; omega))) fun k hk => ?_
  refine ok_chk ⟨i1, hc⟩ (ok_chk ⟨i1, by omega⟩ (ok_brk (fun hb => ?_) (fun hb => ?_)))
  ·rw [if_pos hb] at hst
   exact ok_chk (show InR _ from ⟨by show -9223372036854775808 ≤ n + (J.getD i.toNat j0).f_worth; omega, by show n + (J.getD i.toNat j0).f_worth ≤ _; omega⟩) (hk _ hst.symm)
  ·rw [if_neg (by rw [hb]; exact Bool.false_ne_true)] at hst
   exact hk _ (by omega)
 ·have hc : ¬ i < J.length := of_decide_eq_false hc
  rw [show i.toNat = J.length by omega] at i3
  have e : val J ch = n := i3.symm
  refine .inr ⟨hz, rfl, hlc, hC.cov, e, ?_⟩
  show Opt J t.Count n
  rw [← e]; exact hC.opt hR.ok
structure PrR (J : List Job) (k : Int) (pr : List Int) : Prop where
 l : pr.length = 48
 b : ∀ h, h < 48 → 0 ≤ pr.getD h 0 ∧ pr.getD h 0 ≤ 1000000000
 o : Opt J k (bnd' J k fun h => pr.getD h 0)
theorem tot_congr {J : List Job} {p q : Nat → Int} (h : ∀ i, i < 48 → p i = q i) (i : Nat) : tot J p i = tot J q i := by
 unfold tot
 apply sumN_congr
 intro x hx
 rw [h x hx]
theorem bnd_congr {J : List Job} {k : Int} {p q : Nat → Int} (h : ∀ i, i < 48 → p i = q i) : bnd' J k p = bnd' J k q := by
 unfold bnd'
 rw [sumN_congr 48 h]
 congr 1
 apply sumN_congr
 intro i _
 rw [tot_congr h]
theorem Prices_ok {F : Nat} (hF : 100000000000 < F) {f : Field} {t : Fleet} {l : List Flight} (hl : f.Cells.length ≤ 100) (hb : FlsB l) :
  Ok (fun r : List Int × Int => ((jobsV f t l).2 ≠ 0 ∧ r = ([], (jobsV f t l).2)) ∨ ((jobsV f t l).2 = 0 ∧ r.2 = 0 ∧ PrR (jobsV f t l).1 t.Count r.1)) (spill_Prices F f t l) := by
 unfold spill_Prices
 refine ok_bnde (jobs_eq (by omega) hl hb) (ok_brk (fun h => ok_some (.inl ⟨by simpa using h, rfl⟩)) (fun h => ?_))
 have hz : (jobsV f t l).2 = 0 := by simpa using h
 have hR := jobsV_zero hb hz
 generalize hJv : (jobsV f t l).1 = J at hR ⊢
 have hk := hR.fl.2.2.2
 refine ok_bnd _ (choose_ok hF hR.ok (by omega)) ?_
 rintro ⟨ch, idle⟩ ⟨p, hC⟩
 simp only at hC
 dsimp only
 refine ok_bnd _ (costs_ok hF hR.ok hC.lc hC.li hC.fs hC.p0 hC.pb) ?_
 rintro ⟨cost, bys⟩ ⟨hci, hfs⟩
 simp only at hci hfs
 dsimp only
 obtain ⟨s1, s2⟩ := strong hR.ok hC.lc hC.i0 hC.ct hfs
 have hlc := hci.lc
 have hcb : ∀ v, v < 49 → -1000000000 ≤ cost.getD v 0 ∧ cost.getD v 0 ≤ 0 := fun v hv => ⟨by have := hci.lo v hv; have := hC.pb v hv; omega, hci.hi v hv⟩
 have hr48 : (List.replicate (Int.toNat 48) (0 : Int)).length = 48 := by rw [List.length_replicate]; rfl
 rw [hr48]
 refine ok_chk ⟨by omega, by omega, by omega⟩ ?_
 refine ok_loop (fun x : Int × List Int => 0 ≤ x.1 ∧ x.1 ≤ 48 ∧ x.2.length = 48 ∧ ∀ h : Nat, (h : Int) < x.1 → x.2.getD h 0 = prc cost h) (fun x => 48 - x.1.toNat) ⟨by simp, by simp, hr48, fun h hh => by (have hh : (h : Int) < 0 := hh); omega⟩ (by simp; omega) ?_
 rintro ⟨i, pr⟩ next ⟨i1, i2, i3, i4⟩ hn
 simp only at i1 i2 i3 i4
 dsimp only
 refine ok_brk (fun hc => ?_) (fun hc => ok_some ?_)
 ·have hc : i < ((48 : Nat) : Int) := of_decide_eq_true hc
  have b1 := hcb i.toNat (by omega)
  have b2 := hcb (i + 1).toNat (by omega)
  refine ok_chk ⟨i1, by omega⟩ (ok_chk (show InR _ from ⟨by omega, by omega⟩) (ok_chk ⟨by omega, by omega⟩ (ok_chk (show InR _ from ⟨by omega, by omega⟩) (ok_chk ⟨i1, by omega⟩ (ok_chk (show InR _ from ⟨by omega, by omega⟩) (hn _ ⟨by show 0 ≤ i + 1; omega, by show i + 1 ≤ 48; omega, by show (pr.set _ _).length = 48; rw [List.length_set]; exact i3, fun h hh => ?_⟩ (by show 48 - (i + 1).toNat < 48 - i.toNat; omega)))))))
  have hh : (h : Int) < i + 1 := hh
  show (pr.set i.toNat (cost.getD i.toNat 0 - cost.getD (i + 1).toNat 0)).getD h 0 = prc cost h
  rw [getD_set' (by omega)]
  by_cases e : i.toNat = h
  ·rw [if_pos e, ← e]
   unfold prc
   rw [show (i + 1).toNat = i.toNat + 1 by omega]
  ·rw [if_neg e]; exact i4 h (by omega)
 ·have hc : ¬ i < ((48 : Nat) : Int) := of_decide_eq_false hc
  have e : ∀ h, h < 48 → pr.getD h 0 = prc cost h := fun h hh => i4 h (by omega)
  refine .inr ⟨hz, rfl, i3, fun h hh => ?_, ?_⟩
  ·show 0 ≤ pr.getD h 0 ∧ pr.getD h 0 ≤ 1000000000
   rw [e h hh]
   have := s1 h hh
   have := hcb h (by omega)
   have := hcb (h + 1) (by omega)
   unfold prc at *
   omega
  ·show Opt J t.Count (bnd' J t.Count fun h => pr.getD h 0)
   rw [bnd_congr (q := prc cost) e, s2]
   exact hC.opt hR.ok
theorem seg {g : Nat → Int} {a b : Nat} (hab : a ≤ b) : ∀ n : Nat, (sumN n fun h => if (a : Int) ≤ h ∧ (h : Int) < b then g h else 0) = sumN (min n b - a) fun q => g (a + q)
 | 0 => by rw [show min 0 b - a = 0 by omega]; rfl
 | n + 1 => by
  have ih := seg (g := g) hab n
  simp only [sumN]
  rw [ih]
  by_cases q : a ≤ n ∧ n < b
  ·rw [if_pos (⟨by omega, by omega⟩ : (a : Int) ≤ n ∧ (n : Int) < b), show min (n + 1) b - a = (min n b - a) + 1 by omega]
   simp only [sumN]
   rw [show a + (min n b - a) = n by omega]
  ·rw [if_neg (fun t : (a : Int) ≤ n ∧ (n : Int) < b => q ⟨by omega, by omega⟩)]
   by_cases q2 : n < b
   ·rw [show min (n + 1) b - a = 0 by omega, show min n b - a = 0 by omega]; rfl
   ·rw [show min (n + 1) b = b by omega, show min n b = b by omega]; omega
theorem tot_seg {J : List Job} (hJ : JobsOK J) {i : Nat} (hi : i < J.length) (pr : Nat → Int) : tot J pr i = sumN ((J.getD i j0).f_to - (J.getD i j0).f_from).toNat fun q => pr ((J.getD i j0).f_from.toNat + q) := by
 obtain ⟨j1, j2, j3, j4, j5⟩ := hJ.at hi
 have := seg (g := pr) (a := (J.getD i j0).f_from.toNat) (b := (J.getD i j0).f_to.toNat) (by omega) 48
 rw [show min 48 (J.getD i j0).f_to.toNat - (J.getD i j0).f_from.toNat = ((J.getD i j0).f_to - (J.getD i j0).f_from).toNat by omega, show (((J.getD i j0).f_from.toNat : Nat) : Int) = (J.getD i j0).f_from by omega, show (((J.getD i j0).f_to.toNat : Nat) : Int) = (J.getD i j0).f_to by omega] at this
 exact this
abbrev PrB (pr : List Int) : Prop := ∀ n ∈ pr, 0 ≤ n ∧ n ≤ 1000000000
theorem PrB.get {pr : List Int} (h : PrB pr) (i : Nat) : 0 ≤ pr.getD i 0 ∧ pr.getD i 0 ≤ 1000000000 := by
 by_cases hi : i < pr.length
 ·exact h _ (getD_mem hi)
 ·rw [List.getD_eq_getElem?_getD, List.getElem?_eq_none (Nat.le_of_not_lt hi)]; exact ⟨by show (0 : Int) ≤ 0; omega, by show (0 : Int) ≤ _; omega⟩
open Classical in
noncomputable def boundV (f : Field) (t : Fleet) (l : List Flight) (pr : List Int) : Int × Int :=
 if (jobsV f t l).2 ≠ 0 then (0, (jobsV f t l).2) else if pr.length ≠ 48 then (0, 1) else if ¬ PrB pr then (0, 6) else (bnd' (jobsV f t l).1 t.Count fun h => pr.getD h 0, 0)
theorem pr_bound {pr : List Int} (h : PrB pr) (a n : Nat) : 0 ≤ (sumN n fun q => pr.getD (a + q) 0) ∧ (sumN n fun q => pr.getD (a + q) 0) ≤ 1000000000 * n :=
 ⟨sumN_nonneg _ fun q _ => (h.get _).1, sumN_bound _ fun q _ => (h.get _).2⟩
theorem part_bound {J : List Job} (hJ : JobsOK J) {pr : List Int} (h : PrB pr) (n : Nat) (hn : n ≤ J.length) : 0 ≤ (sumN n fun i => max0 ((J.getD i j0).f_worth - tot J (fun h => pr.getD h 0) i)) ∧ (sumN n fun i => max0 ((J.getD i j0).f_worth - tot J (fun h => pr.getD h 0) i)) ≤ 768000000 := by
 have b1 := sumN_nonneg (f := fun i => max0 ((J.getD i j0).f_worth - tot J (fun h => pr.getD h 0) i)) n fun i _ => (max0_ge _).2
 have b2 := sumN_bound (f := fun i => max0 ((J.getD i j0).f_worth - tot J (fun h => pr.getD h 0) i)) (B := 64000000) n fun i hi => by
  obtain ⟨_, _, _, w0, w1⟩ := hJ.at (show i < J.length by omega)
  have : 0 ≤ tot J (fun h => pr.getD h 0) i := sumN_nonneg _ fun q _ => by
   have := (h.get q).1
   split <;> omega
  unfold max0
  split <;> omega
 have := hJ.len
 omega
theorem mul_bd {k c B : Int} (hk : 0 ≤ k ∧ k ≤ 6) (hc : 0 ≤ c ∧ c ≤ B) : 0 ≤ k * c ∧ k * c ≤ 6 * B :=
 ⟨Int.mul_nonneg hk.1 hc.1, Int.le_trans (Int.mul_le_mul_of_nonneg_right hk.2 hc.1) (Int.mul_le_mul_of_nonneg_left hc.2 (by omega))⟩
theorem bound1_eq (F : Nat) (c : Int) : spill_Bound_1 F c = some (!decide (0 ≤ c ∧ c ≤ 1000000000)) := by
 show some (!(decide (c ≥ 0) && decide (c ≤ 1000000000))) = _
 rw [wd]
theorem Bound_eq {F : Nat} (hF : 100000000000 < F) {f : Field} {t : Fleet} {l : List Flight} {pr : List Int} (hl : f.Cells.length ≤ 100) (hb : FlsB l) (hpl : pr.length ≤ 1000) : spill_Bound F f t l pr = some (boundV f t l pr) := by
 refine Ok.eq ?_
 unfold spill_Bound boundV
 refine ok_bnde (jobs_eq (by omega) hl hb) (ok_brk (fun h => ok_some (by rw [if_pos (by simpa using h)])) (fun h => ?_))
 have hz : (jobsV f t l).2 = 0 := by simpa using h
 have hR := jobsV_zero hb hz
 rw [if_neg (fun q => q hz)]
 generalize hJv : (jobsV f t l).1 = J at hR ⊢
 have hk := hR.fl.2.2.2
 have hJl := hR.l12
 refine ok_brk (fun h => ok_some ?_) (fun h => ?_)
 ·have h : (pr.length : Int) ≠ 48 := by simpa using h
  rw [if_pos (by omega)]
 have h : (pr.length : Int) = 48 := by simpa using h
 have h48 : pr.length = 48 := by omega
 rw [if_neg (fun q => q h48)]
 refine ok_join (by omega) (fun i : Int => (i = -1 ∧ PrB pr) ∨ (0 ≤ i ∧ ¬ PrB pr)) (fun i hi => ok_brk (fun hb => ok_some ?_) (fun hb => ?_)) fun k hk => ?_
 ·have hb : i ≥ 0 := of_decide_eq_true hb
  rcases hi with ⟨rfl, _⟩ | ⟨_, q⟩
  ·omega
  ·rw [if_pos q]
 ·have hb : ¬ i ≥ 0 := of_decide_eq_false hb
  have hp : PrB pr := by
   rcases hi with ⟨_, q⟩ | ⟨q, _⟩
   ·exact q
   ·omega
  rw [if_neg (fun q => q hp)]
  rw [h48]
  have sb := fun n => pr_bound hp 0 n
  simp only [Nat.zero_add] at sb
  refine ok_loop (fun x : Int × Int => 0 ≤ x.1 ∧ x.1 ≤ 48 ∧ x.2 = t.Count * sumN x.1.toNat fun h => pr.getD h 0) (fun x => 48 - x.1.toNat) ⟨by simp, by simp, by show 0 = t.Count * 0; rw [Int.mul_zero]⟩ (by simp; omega) ?_
  rintro ⟨i, s⟩ next ⟨i1, i2, i3⟩ hn
  simp only at i1 i2 i3
  dsimp only
  refine ok_brk (fun hc => ?_) (fun hc => ?_)
  ·have hc : i < ((48 : Nat) : Int) := of_decide_eq_true hc
   have b0 := sb i.toNat
   have b1 := mul_bd (k := t.Count) (c := sumN i.toNat fun h => pr.getD h 0) (B := 48000000000) ⟨by omega, hk.2⟩ ⟨b0.1, by omega⟩
   have b2 := mul_bd ⟨by omega, hk.2⟩ (hp.get i.toNat)
   have hst : (t.Count * sumN (i + 1).toNat fun h => pr.getD h 0) = s + t.Count * pr.getD i.toNat 0 := by
    rw [show (i + 1).toNat = i.toNat + 1 by omega]
    simp only [sumN]
    rw [Int.mul_add, i3]
   rw [← i3] at b1
   exact ok_chk ⟨i1, hc⟩ (ok_chk (show InR _ from ⟨by omega, by omega⟩) (ok_chk (show InR _ from ⟨by omega, by omega⟩) (ok_chk (show InR _ from ⟨by omega, by omega⟩) (hn _ ⟨by show 0 ≤ i + 1; omega, by show i + 1 ≤ 48; omega, hst.symm⟩ (by show 48 - (i + 1).toNat < 48 - i.toNat; omega)))))
  have hc : ¬ i < ((48 : Nat) : Int) := of_decide_eq_false hc
  have b0 := sb 48
  have b1 := mul_bd (k := t.Count) (c := sumN 48 fun h => pr.getD h 0) (B := 48000000000) ⟨by omega, hk.2⟩ ⟨b0.1, by omega⟩
  rw [show i.toNat = 48 by omega] at i3
  clear hn
  rw [← i3] at b1
  refine ok_loop (fun x : Int × Int => 0 ≤ x.2 ∧ x.2 ≤ J.length ∧ x.1 = s + sumN x.2.toNat fun i => max0 ((J.getD i j0).f_worth - tot J (fun h => pr.getD h 0) i)) (fun x => J.length - x.2.toNat) ⟨by simp, by simp, by show s = s + 0; omega⟩ (by simp; omega) ?_
  rintro ⟨w, j⟩ next ⟨c1, c2, c3⟩ hn
  simp only at c1 c2 c3
  dsimp only
  refine ok_brk (fun hc => ?_) (fun hc => ok_some ?_)
  ·have hc : j < J.length := of_decide_eq_true hc
   have hj : j.toNat < J.length := by omega
   have hts := tot_seg hR.ok hj fun h => pr.getD h 0
   obtain ⟨j1, j2, j3, j4, j5⟩ := hR.ok.at hj
   have p1 := part_bound hR.ok hp j.toNat (by omega)
   have p2 := part_bound hR.ok hp (j + 1).toNat (by omega)
   have hst : (sumN (j + 1).toNat fun i => max0 ((J.getD i j0).f_worth - tot J (fun h => pr.getD h 0) i)) = (sumN j.toNat fun i => max0 ((J.getD i j0).f_worth - tot J (fun h => pr.getD h 0) i)) + max0 ((J.getD j.toNat j0).f_worth - tot J (fun h => pr.getD h 0) j.toNat) := by
    rw [show (j + 1).toNat = j.toNat + 1 by omega]; rfl
   have hat : (J.getD j.toNat (Job.mk (0 : Int) (0 : Int) (0 : Int))) = J.getD j.toNat j0 := rfl
   rw [hat]
   have qb := fun n => pr_bound hp (J.getD j.toNat j0).f_from.toNat n
   generalize J.getD j.toNat j0 = X at j1 j2 j3 j4 j5 hts hst qb ⊢
   refine ok_chk ⟨c1, hc⟩ (ok_chk ⟨j1, by omega, by omega⟩ ?_)
   refine ok_loop (fun x : Int × Int => 0 ≤ x.1 ∧ x.1 ≤ X.f_to - X.f_from ∧ x.2 = X.f_worth - sumN x.1.toNat fun q => pr.getD (X.f_from.toNat + q) 0) (fun x => 48 - x.1.toNat) ⟨by simp, by show (0 : Int) ≤ _; omega, by show X.f_worth = X.f_worth - 0; omega⟩ (by simp; omega) ?_
   rintro ⟨q, left⟩ next1 ⟨d1, d2, d3⟩ hn1
   simp only at d1 d2 d3
   dsimp only
   have q0 := qb q.toNat
   refine ok_brk (fun hd => ?_) (fun hd => ?_)
   ·have hd : q < X.f_to - X.f_from := of_decide_eq_true hd
    rw [show (X.f_from + q).toNat = X.f_from.toNat + q.toNat by omega]
    have gq := hp.get (X.f_from.toNat + q.toNat)
    refine ok_chk ⟨d1, hd⟩ (ok_chk (show InR _ from ⟨by omega, by omega⟩) (ok_chk (show InR _ from ⟨by omega, by omega⟩) (hn1 _ ⟨by show 0 ≤ q + 1; omega, by show q + 1 ≤ _; omega, ?_⟩ (by show 48 - (q + 1).toNat < 48 - q.toNat; omega))))
    show left - _ = X.f_worth - sumN (q + 1).toNat _
    rw [show (q + 1).toNat = q.toNat + 1 by omega]
    simp only [sumN]
    omega
   ·have hd : ¬ q < X.f_to - X.f_from := of_decide_eq_false hd
    have e : left = X.f_worth - tot J (fun h => pr.getD h 0) j.toNat := by
     rw [hts, d3, show q.toNat = (X.f_to - X.f_from).toNat by omega]
    have em : (if left > 0 then left else 0) = max0 (X.f_worth - tot J (fun h => pr.getD h 0) j.toNat) := by rw [← e]; rfl
    rw [em]
    have hm := max0_ge (X.f_worth - tot J (fun h => pr.getD h 0) j.toNat)
    exact ok_chk (show InR _ from ⟨by omega, by omega⟩) (ok_chk (show InR _ from ⟨by omega, by omega⟩) (hn _ ⟨by show 0 ≤ j + 1; omega, by show j + 1 ≤ _; omega, by show w + _ = s + sumN (j + 1).toNat _; omega⟩ (by show J.length - (j + 1).toNat < J.length - j.toNat; omega)))
  ·have hc : ¬ j < J.length := of_decide_eq_false hc
   rw [show j.toNat = J.length by omega] at c3
   rw [c3, i3]; rfl
 ·refine ok_find (p := fun c => !decide (0 ≤ c ∧ c ≤ 1000000000)) (by omega) (by omega) (fun c _ => bound1_eq F c) (fun i hi hp => hk _ (.inr ⟨by omega, fun q => nd_true hp (q _ (getD_mem hi))⟩)) (fun hp => hk _ (.inl ⟨rfl, fun c hc => nd_false (hp c hc)⟩))
end Go.Proofs.Ss
namespace Go.Proofs.Ss
open Go Go.KX
def bitI (s : Int) (i : Nat) : Bool := s / 2 ^ i % 2 == 1
theorem bitI_zero (s : Int) : bitI s 0 = (s % 2 == 1) := by unfold bitI; rw [Int.pow_zero, Int.ediv_one]
theorem ediv_pow_succ (s : Int) (i : Nat) : s / 2 ^ (i + 1) = s / 2 / 2 ^ i := by
 rw [Int.pow_succ, Int.mul_comm, Int.ediv_ediv_of_nonneg (by omega)]
theorem bitI_succ (s : Int) (i : Nat) : bitI s (i + 1) = bitI (s / 2) i := by unfold bitI; rw [ediv_pow_succ]
def encB : Nat → (Nat → Bool) → Nat
 | 0, _ => 0
 | n + 1, b => (if b 0 = true then 1 else 0) + 2 * encB n fun i => b (i + 1)
theorem enc_lt : ∀ (n : Nat) (b : Nat → Bool), encB n b < 2 ^ n
 | 0, _ => by simp [encB]
 | n + 1, b => by
  have := enc_lt n fun i => b (i + 1)
  simp only [encB]
  rw [Nat.pow_succ]
  split <;> omega
theorem enc_bit : ∀ (n : Nat) (b : Nat → Bool) (i : Nat), i < n → bitI (encB n b : Int) i = b i
 | n + 1, b, 0, _ => by
  rw [bitI_zero]
  simp only [encB]
  push_cast
  by_cases q : b 0 = true
  ·rw [if_pos q, q]; simp
  ·rw [if_neg q]
   have : b 0 = false := by simpa using q
   rw [this]; simp
 | n + 1, b, i + 1, hi => by
  have ih := enc_bit n (fun i => b (i + 1)) i (by omega)
  rw [bitI_succ]
  rw [show ((encB (n + 1) b : Nat) : Int) / 2 = (encB n fun i => b (i + 1) : Int) by
   simp only [encB]; push_cast; split <;> omega]
  exact ih
theorem pow12 {n : Nat} (h : n ≤ 12) : (1 : Int) ≤ 2 ^ n ∧ (2 : Int) ^ n ≤ 4096 := by
 have : n = 0 ∨ n = 1 ∨ n = 2 ∨ n = 3 ∨ n = 4 ∨ n = 5 ∨ n = 6 ∨ n = 7 ∨ n = 8 ∨ n = 9 ∨ n = 10 ∨ n = 11 ∨ n = 12 := by omega
 rcases this with rfl | rfl | rfl | rfl | rfl | rfl | rfl | rfl | rfl | rfl | rfl | rfl | rfl <;> decide
def chS (n : Nat) (s : Int) : List Bool := (List.range n).map (bitI s)
theorem chS_get {n : Nat} {s : Int} {i : Nat} (hi : i < n) : (chS n s).getD i false = bitI s i := by
 unfold chS
 rw [getD_get (by simpa using hi), List.getElem_map, List.getElem_range]
theorem val_congr {J : List Job} {c d : List Bool} (h : ∀ i, i < J.length → c.getD i false = d.getD i false) : val J c = val J d := by
 unfold val
 apply sumN_congr
 intro i hi
 rw [h i hi]
theorem cov_congr {J : List Job} {c d : List Bool} (h : ∀ i, i < J.length → c.getD i false = d.getD i false) (q : Nat) : cov J c q = cov J d q := by
 unfold cov
 apply sumN_congr
 intro i hi
 rw [h i hi]
def covP (J : List Job) (ch : List Bool) (n q : Nat) : Int := sumN n fun i => if ch.getD i false = true ∧ on J i q then 1 else 0
def valP (J : List Job) (ch : List Bool) (n : Nat) : Int := sumN n fun i => if ch.getD i false = true then (J.getD i j0).f_worth else 0
theorem sumN_mono {f : Nat → Int} {m n : Nat} (h : m ≤ n) (hf : ∀ i, i < n → 0 ≤ f i) : sumN m f ≤ sumN n f := by
 induction n with
 | zero =>
  obtain rfl : m = 0 := by omega
  exact Int.le_refl _
 | succ n ih =>
  by_cases e : m = n + 1
  ·subst e; exact Int.le_refl _
  ·have := ih (by omega) fun i hi => hf i (by omega)
   have := hf n (by omega)
   simp only [sumN]; omega
theorem covP_le {J : List Job} {ch : List Bool} {n q : Nat} (h : n ≤ J.length) : covP J ch n q ≤ cov J ch q := sumN_mono h fun i _ => by split <;> omega
theorem covP_bound {J : List Job} {ch : List Bool} {n q : Nat} : 0 ≤ covP J ch n q ∧ covP J ch n q ≤ n := by
 have b1 := sumN_nonneg (f := fun i => if ch.getD i false = true ∧ on J i q then (1 : Int) else 0) n fun i _ => by split <;> omega
 have b2 := sumN_bound (f := fun i => if ch.getD i false = true ∧ on J i q then (1 : Int) else 0) (B := 1) n fun i _ => by split <;> omega
 unfold covP
 omega
theorem valP_succ (J : List Job) (ch : List Bool) (n : Nat) : valP J ch (n + 1) = valP J ch n + if ch.getD n false = true then (J.getD n j0).f_worth else 0 := rfl
theorem refRight_eq {F : Nat} (hF : 2000 < F) {f : Field} {t : Fleet} {l : List Flight} {J : List Job} (hfb : FlsB l) (hR : JobsR f t l J) {ch : List Bool} (hl : ch.length = J.length) (hc : ∀ h, h < 48 → cov J ch h ≤ t.Count) :
  ref11_Right F f t l ch = some (true, val J ch) := by
 refine Ok.eq ?_
 have hk := hR.fl.2.2.2
 have hJl := hR.l12
 have hll := hR.len
 have hr48 : (List.replicate (Int.toNat 48) (0 : Int)).length = 48 := by rw [List.length_replicate]; rfl
 have hz : ∀ h, (List.replicate (Int.toNat 48) (0 : Int)).getD h 0 = 0 := fun h => by
  by_cases hi : h < (List.replicate (Int.toNat 48) (0 : Int)).length
  ·rw [getD_get hi, List.getElem_replicate]
  ·rw [List.getD_eq_getElem?_getD, List.getElem?_eq_none (Nat.le_of_not_lt hi)]; rfl
 unfold ref11_Right
 refine ok_chk ⟨by omega, by omega, by omega⟩ ?_
 refine ok_loop (fun x : Int × Int × List Int => 0 ≤ x.1 ∧ x.1 ≤ J.length ∧ x.2.1 = valP J ch x.1.toNat ∧ x.2.2.length = 48 ∧ ∀ q : Nat, q < 48 → x.2.2.getD q 0 = covP J ch x.1.toNat q) (fun x => J.length - x.1.toNat)
  ⟨by simp, by simp, rfl, hr48, fun q _ => hz q⟩ (by simp; omega) ?_
 rintro ⟨i, n, air⟩ next ⟨i1, i2, i3, i4, i5⟩ hn
 simp only at i1 i2 i3 i4 i5
 dsimp only
 rw [hl, hll]
 refine ok_brk (fun hb => ?_) (fun hb => ok_some ?_)
 ·simp only [Bool.and_eq_true, decide_eq_true_eq] at hb
  have hi : i.toNat < J.length := by omega
  have st1 := valP_succ J ch i.toNat
  rw [show i.toNat + 1 = (i + 1).toNat by omega] at st1
  have st2 : ∀ q, covP J ch (i + 1).toNat q = covP J ch i.toNat q + if ch.getD i.toNat false = true ∧ on J i.toNat q then 1 else 0 := fun q => by rw [show (i + 1).toNat = i.toNat + 1 by omega]; rfl
  refine ok_join (by omega) (fun y : Int × List Int => y.1 = valP J ch (i + 1).toNat ∧ y.2.length = 48 ∧ ∀ q : Nat, q < 48 → y.2.getD q 0 = covP J ch (i + 1).toNat q) (fun y hy => ok_chk (show InR _ from ⟨by omega, by omega⟩) (hn _ ⟨by show 0 ≤ i + 1; omega, by show i + 1 ≤ _; omega, hy.1, hy.2.1, hy.2.2⟩ (by show J.length - (i + 1).toNat < J.length - i.toNat; omega))) fun k hk2 => ?_
  refine ok_chk ⟨i1, by omega⟩ (ok_brk (fun hq => ?_) (fun hq => ?_))
  ·have hq : ¬ ch.getD i.toNat false = true := by simpa using hq
   rw [if_neg hq] at st1
   refine hk2 _ ⟨by show n = _; omega, i4, fun q hqq => ?_⟩
   show air.getD q 0 = _
   rw [i5 q hqq, st2, if_neg (fun t => hq t.1)]; omega
  have hq : ch.getD i.toNat false = true := by simpa using hq
  rw [if_pos hq] at st1
  obtain ⟨j1, j2, j3, j4, j5⟩ := hR.ok.at hi
  have hfr := hR.fr i.toNat hi
  have hev := hR.ev i.toNat hi
  have hpl := hfb.p _ (getD_mem (d := f0) (show i.toNat < l.length by omega))
  have hat : l.getD i.toNat (Flight.mk (0 : Int) []) = l.getD i.toNat f0 := rfl
  rw [hat]
  have hvb := val_bound hR.ok ch i.toNat (by omega)
  rw [show (sumN i.toNat fun i => if ch.getD i false = true then (J.getD i j0).f_worth else 0) = n from i3.symm] at hvb
  generalize l.getD i.toNat f0 = x at hfr hev hpl ⊢
  have hw := refWorth1_eq hF hR.fo hR.fl (x := ⟨x.From, x.Path⟩) hpl
  have hev' : jobE f t ⟨x.From, x.Path⟩ = (J.getD i.toNat j0, 0) := hev
  rw [hev'] at hw
  have hon : ∀ q : Nat, on J i.toNat q ↔ ((J.getD i.toNat j0).f_from ≤ (q : Int) ∧ (q : Int) < (J.getD i.toNat j0).f_to) := fun q => Iff.rfl
  generalize J.getD i.toNat j0 = X at j1 j2 j3 j4 j5 hfr hw hon st1
  refine ok_chk ⟨i1, by omega⟩ (ok_bnde hw (ok_brkF (by simp) (ok_chk (show InR _ from ⟨by show _ ≤ n + X.f_worth; omega, by show n + X.f_worth ≤ _; omega⟩) (ok_chk ⟨i1, by omega⟩ ?_))))
  dsimp only
  rw [← hfr, show X.f_from + (X.f_to - X.f_from) = X.f_to by omega]
  refine ok_loop (fun y : Int × List Int => X.f_from ≤ y.1 ∧ y.1 ≤ X.f_to ∧ y.2.length = 48 ∧ ∀ q : Nat, q < 48 → y.2.getD q 0 = covP J ch i.toNat q + if X.f_from ≤ (q : Int) ∧ (q : Int) < y.1 then 1 else 0) (fun y => 48 - y.1.toNat)
   ⟨Int.le_refl _, by show X.f_from ≤ X.f_to; omega, i4, fun q hqq => by
    show air.getD q 0 = _ + if X.f_from ≤ (q : Int) ∧ (q : Int) < X.f_from then 1 else 0
    rw [i5 q hqq, if_neg (by omega)]; omega⟩ (by show 48 - X.f_from.toNat < F; omega) ?_
  rintro ⟨h, air2⟩ next2 ⟨d1, d2, d3, d4⟩ hn2
  simp only at d1 d2 d3 d4
  dsimp only
  refine ok_chk ⟨i1, by omega⟩ (ok_chk (show InR _ from ⟨by omega, by omega⟩) (ok_brk (fun hd => ?_) (fun hd => ?_)))
  ·have hd : h < X.f_to := of_decide_eq_true hd
   have hh : h.toNat < 48 := by omega
   have hcur := d4 h.toNat hh
   rw [if_neg (by omega)] at hcur
   have hcb := covP_bound (J := J) (ch := ch) (n := i.toNat) (q := h.toNat)
   have hnx := st2 h.toNat
   rw [if_pos ⟨hq, (hon h.toNat).2 ⟨by omega, by omega⟩⟩] at hnx
   have hle := covP_le (J := J) (ch := ch) (n := (i + 1).toNat) (q := h.toNat) (by omega)
   have hcc := hc h.toNat hh
   have hset : (air2.set h.toNat (air2.getD h.toNat 0 + 1)).getD h.toNat 0 = air2.getD h.toNat 0 + 1 := by rw [getD_set' (by omega), if_pos rfl]
   rw [hset, List.length_set, d3]
   refine ok_chk ⟨by omega, by omega⟩ (ok_chk (show InR _ from ⟨by omega, by omega⟩) (ok_chk ⟨by omega, by omega⟩ (ok_chk ⟨by omega, by omega⟩ (ok_brkF (decide_eq_false (by omega)) (ok_chk (show InR _ from ⟨by omega, by omega⟩) (hn2 _ ⟨by show X.f_from ≤ h + 1; omega, by show h + 1 ≤ X.f_to; omega, by show (air2.set _ _).length = 48; rw [List.length_set]; exact d3, fun q hqq => ?_⟩ (by show 48 - (h + 1).toNat < 48 - h.toNat; omega)))))))
   show (air2.set h.toNat _).getD q 0 = _ + if X.f_from ≤ (q : Int) ∧ (q : Int) < h + 1 then 1 else 0
   rw [getD_set' (by omega)]
   by_cases e : h.toNat = q
   ·rw [if_pos e, if_pos (by omega), ← e, hcur]; omega
   ·rw [if_neg e, d4 q hqq]
    by_cases e2 : X.f_from ≤ (q : Int) ∧ (q : Int) < h
    ·rw [if_pos e2, if_pos (by omega)]
    ·rw [if_neg e2, if_neg (by omega)]
  ·have hd : ¬ h < X.f_to := of_decide_eq_false hd
   refine hk2 _ ⟨by show n + X.f_worth = _; omega, d3, fun q hqq => ?_⟩
   show air2.getD q 0 = _
   rw [d4 q hqq, st2]
   by_cases e2 : X.f_from ≤ (q : Int) ∧ (q : Int) < h
   ·rw [if_pos e2, if_pos ⟨hq, (hon q).2 (by omega)⟩]
   ·rw [if_neg e2, if_neg (fun t => e2 (by have := (hon q).1 t.2; omega))]
 ·have hb : ¬ i < J.length := by
   simp only [Bool.and_eq_false_iff, decide_eq_false_iff_not] at hb
   omega
  rw [show i.toNat = J.length by omega] at i3
  rw [i3, show ((J.length : Int) == (J.length : Int)) = true by simp]; rfl
theorem refBest_eq {F : Nat} (hF : 100000 < F) {f : Field} {t : Fleet} {l : List Flight} {N : Int} (hl : f.Cells.length ≤ 100) (hfb : FlsB l) (hz : (jobsV f t l).2 = 0) (hO : Opt (jobsV f t l).1 t.Count N) : ref11_Best F f t l = some (N, 0) := by
 refine Ok.eq ?_
 have hR := jobsV_zero hfb hz
 unfold ref11_Best
 refine ok_bnde (asked_eq (by omega) hl hfb) ?_
 rw [hz]
 refine ok_brkF rfl ?_
 generalize (jobsV f t l).1 = J at hR hO
 have hk := hR.fl.2.2.2
 have hJl := hR.l12
 have hll := hR.len
 have hr48 : (List.replicate (Int.toNat 48) (0 : Int)).length = 48 := by rw [List.length_replicate]; rfl
 have hz48 : ∀ h, (List.replicate (Int.toNat 48) (0 : Int)).getD h 0 = 0 := fun h => by
  by_cases hi : h < (List.replicate (Int.toNat 48) (0 : Int)).length
  ·rw [getD_get hi, List.getElem_replicate]
  ·rw [List.getD_eq_getElem?_getD, List.getElem?_eq_none (Nat.le_of_not_lt hi)]; rfl
 rw [hll]
 -- worths and hours
 refine ok_loop (fun x : List Int × List Int × Int => 0 ≤ x.2.2 ∧ x.2.2 ≤ J.length ∧ (x.1.length : Int) = x.2.2 ∧ (x.2.1.length : Int) = x.2.2 ∧ ∀ i : Nat, (i : Int) < x.2.2 → x.1.getD i 0 = (J.getD i j0).f_to - (J.getD i j0).f_from ∧ x.2.1.getD i 0 = (J.getD i j0).f_worth) (fun x => J.length - x.2.2.toNat)
  ⟨by simp, by simp, by simp, by simp, fun i hi => by (have hi : (i : Int) < 0 := hi); omega⟩ (by simp; omega) ?_
 rintro ⟨hours, worths, i⟩ next ⟨i1, i2, i3, i4, i5⟩ hn
 simp only at i1 i2 i3 i4 i5
 dsimp only
 refine ok_brk (fun hc => ?_) (fun hc => ?_)
 ·have hc : i < J.length := of_decide_eq_true hc
  have hi : i.toNat < J.length := by omega
  have hev := hR.ev i.toNat hi
  have hpl := hfb.p _ (getD_mem (d := f0) (show i.toNat < l.length by omega))
  have hw := refWorth1_eq (by omega : 2000 < F) hR.fo hR.fl (x := ⟨(l.getD i.toNat f0).From, (l.getD i.toNat f0).Path⟩) hpl
  have hev' : jobE f t ⟨(l.getD i.toNat f0).From, (l.getD i.toNat f0).Path⟩ = (J.getD i.toNat j0, 0) := hev
  rw [hev'] at hw
  refine ok_chk ⟨i1, hc⟩ (ok_bnde hw (ok_chk (by simp; omega) (ok_chk (by simp; omega) (ok_chk (show InR _ from ⟨by omega, by omega⟩) (hn _ ⟨by show 0 ≤ i + 1; omega, by show i + 1 ≤ _; omega, by simp; omega, by simp; omega, fun q hq => ?_⟩ (by show J.length - (i + 1).toNat < J.length - i.toNat; omega))))))
  have hq : (q : Int) < i + 1 := hq
  show (hours ++ [_]).getD q 0 = _ ∧ (worths ++ [_]).getD q 0 = _
  by_cases e : (q : Int) < i
  ·rw [getD_append_left' (by omega), getD_append_left' (by omega)]
   exact i5 q e
  ·obtain rfl : q = hours.length := by omega
   have e2 : hours.length = worths.length := by omega
   rw [getD_append_here]
   rw [e2, getD_append_here, ← e2, show i.toNat = hours.length by omega]
   exact ⟨rfl, rfl⟩
 have hc : ¬ i < J.length := of_decide_eq_false hc
 obtain rfl : i = J.length := by omega
 have p12 := pow12 (n := J.length) hJl
 rw [show ((J.length : Nat) : Int).toNat = J.length by omega]
 have hPe : ∀ b, (encB J.length b : Int) < 2 ^ J.length := fun b => by exact_mod_cast enc_lt J.length b
 generalize (2 : Int) ^ J.length = P at p12 hPe ⊢
 clear hn
 -- the sets
 refine ok_loop (fun x : Int × Int => 0 ≤ x.1 ∧ x.1 ≤ P ∧ 0 ≤ x.2 ∧ x.2 ≤ N ∧ ∀ s : Int, 0 ≤ s → s < x.1 → (∀ q, q < 48 → cov J (chS J.length s) q ≤ t.Count) → val J (chS J.length s) ≤ x.2) (fun x => (P - x.1).toNat)
  ⟨by simp, by show 0 ≤ P; omega, by simp, ?_, fun s s0 s1 => by (have s1 : s < 0 := s1); omega⟩ (by show (P - 0).toNat < F; omega) ?_
 ·show 0 ≤ N
  obtain ⟨c, _, _, c3⟩ := hO.has
  rw [← c3]
  exact (val_bound hR.ok c J.length (Nat.le_refl _)).1
 rintro ⟨s, best⟩ next ⟨s0, s1, b0, b1, s2⟩ hn
 simp only at s0 s1 b0 b1 s2
 dsimp only
 have hNb : N ≤ 768000000 := by
  obtain ⟨c, _, _, c3⟩ := hO.has
  rw [← c3]
  exact (val_bound hR.ok c J.length (Nat.le_refl _)).2
 refine ok_chk ⟨by omega, show InR _ from ⟨by omega, by omega⟩⟩ (ok_brk (fun hc => ?_) (fun hc => ok_some ?_))
 ·have hc : s < 1 * P := of_decide_eq_true hc
  refine ok_join (by omega) (fun y : Int => 0 ≤ y ∧ y ≤ N ∧ best ≤ y ∧ ((∀ q, q < 48 → cov J (chS J.length s) q ≤ t.Count) → val J (chS J.length s) ≤ y)) (fun y hy => ok_chk (show InR _ from ⟨by omega, by omega⟩) (hn _ ⟨by show 0 ≤ s + 1; omega, by show s + 1 ≤ P; omega, hy.1, hy.2.1, fun u u0 u1 hu => ?_⟩ (by show (P - (s + 1)).toNat < (P - s).toNat; omega))) fun k hk2 => ?_
  ·have u1 : u < s + 1 := u1
   by_cases e : u < s
   ·have := s2 u u0 e hu
    have := hy.2.2.1
    show _ ≤ y
    omega
   ·obtain rfl : u = s := by omega
    exact hy.2.2.2 hu
  refine ok_chk ⟨by omega, by omega, by omega⟩ ?_
  obtain ⟨ch, hch⟩ : ∃ ch, chS J.length s = ch := ⟨_, rfl⟩
  have hchg : ∀ i : Nat, i < J.length → ch.getD i false = bitI s i := fun i hi => by rw [← hch]; exact chS_get hi
  rw [hch] at hk2
  refine ok_loop (fun x : Int × Int × Bool × List Int => 0 ≤ x.1 ∧ x.1 ≤ J.length ∧ x.2.1 = valP J ch x.1.toNat ∧ x.2.2.2.length = 48 ∧ (∀ q : Nat, q < 48 → x.2.2.2.getD q 0 = covP J ch x.1.toNat q) ∧ (x.2.2.1 = true ↔ ∀ q : Nat, q < 48 → covP J ch x.1.toNat q ≤ t.Count)) (fun x => J.length - x.1.toNat)
   ⟨by simp, by simp, rfl, hr48, fun q _ => hz48 q, ⟨fun _ q _ => by show (0 : Int) ≤ _; omega, fun _ => rfl⟩⟩ (by simp; omega) ?_
  rintro ⟨i, n, right, air⟩ next1 ⟨i1, i2, i3, i4, i6, i7⟩ hn1
  simp only at i1 i2 i3 i4 i6 i7
  dsimp only
  have hvb := val_bound hR.ok ch i.toNat (by omega)
  rw [show (sumN i.toNat fun i => if ch.getD i false = true then (J.getD i j0).f_worth else 0) = n from i3.symm] at hvb
  refine ok_brk (fun hb => ?_) (fun hb => ?_)
  ·simp only [Bool.and_eq_true, decide_eq_true_eq] at hb
   obtain ⟨hci, hrt⟩ := hb
   have hi : i.toNat < J.length := by omega
   have hright := i7.1 hrt
   have st1 := valP_succ J ch i.toNat
   rw [show i.toNat + 1 = (i + 1).toNat by omega] at st1
   have st2 : ∀ q, covP J ch (i + 1).toNat q = covP J ch i.toNat q + if ch.getD i.toNat false = true ∧ on J i.toNat q then 1 else 0 := fun q => by rw [show (i + 1).toNat = i.toNat + 1 by omega]; rfl
   refine ok_join (by omega) (fun y : Int × Bool × List Int => y.1 = valP J ch (i + 1).toNat ∧ y.2.2.length = 48 ∧ (∀ q : Nat, q < 48 → y.2.2.getD q 0 = covP J ch (i + 1).toNat q) ∧ (y.2.1 = true ↔ ∀ q : Nat, q < 48 → covP J ch (i + 1).toNat q ≤ t.Count)) (fun y hy => ok_chk (show InR _ from ⟨by omega, by omega⟩) (hn1 _ ⟨by show 0 ≤ i + 1; omega, by show i + 1 ≤ _; omega, hy.1, hy.2.1, hy.2.2.1, hy.2.2.2⟩ (by show J.length - (i + 1).toNat < J.length - i.toNat; omega))) fun k3 hk3 => ?_
   have hfd : s.fdiv (2 ^ i.toNat) = s / 2 ^ i.toNat := Int.fdiv_eq_ediv_of_nonneg _ (Int.pow_nonneg (by omega))
   have hd0 : 0 ≤ s / 2 ^ i.toNat := Int.ediv_nonneg s0 (Int.pow_nonneg (by omega))
   have hd1 : s / 2 ^ i.toNat ≤ s := Int.ediv_le_self _ s0
   rw [hfd]
   refine ok_chk ⟨i1, by show i ≤ (64 : Int); omega⟩ (ok_chk ⟨hd0, by omega⟩ (ok_brk (fun hq => ?_) (fun hq => ?_)))
   ·have hq : ¬ ch.getD i.toNat false = true := by
     rw [hchg i.toNat hi]
     unfold bitI
     have : s / 2 ^ i.toNat % 2 = 0 := by simpa using hq
     rw [this]; simp
    rw [if_neg hq] at st1
    have e : ∀ q, covP J ch (i + 1).toNat q = covP J ch i.toNat q := fun q => by rw [st2, if_neg (fun t => hq t.1)]; omega
    refine hk3 _ ⟨by show n = _; omega, i4, fun q hqq => ?_, ?_⟩
    ·show air.getD q 0 = _
     rw [e, i6 q hqq]
    ·show right = true ↔ _
     rw [i7]
     exact ⟨fun h q hqq => by rw [e]; exact h q hqq, fun h q hqq => by rw [← e]; exact h q hqq⟩
   have hq : ch.getD i.toNat false = true := by
    rw [hchg i.toNat hi]
    unfold bitI
    have h1 : s / 2 ^ i.toNat % 2 ≠ 0 := by simpa using hq
    rw [beq_iff_eq]; omega
   rw [if_pos hq] at st1
   obtain ⟨j1, j2, j3, j4, j5⟩ := hR.ok.at hi
   have hfr := hR.fr i.toNat hi
   obtain ⟨g1, g2⟩ := i5 i.toNat (by omega)
   have hon : ∀ q : Nat, on J i.toNat q ↔ ((J.getD i.toNat j0).f_from ≤ (q : Int) ∧ (q : Int) < (J.getD i.toNat j0).f_to) := fun q => Iff.rfl
   have hat : l.getD i.toNat (Flight.mk (0 : Int) []) = l.getD i.toNat f0 := rfl
   rw [hat, g1, g2, ← hfr]
   generalize J.getD i.toNat j0 = X at j1 j2 j3 j4 j5 hon st1 g1 g2 hfr ⊢
   rw [show X.f_from + (X.f_to - X.f_from) = X.f_to by omega]
   refine ok_chk ⟨i1, by omega⟩ (ok_chk (show InR _ from ⟨by omega, by omega⟩) (ok_chk ⟨i1, by omega⟩ ?_))
   refine ok_loop (fun y : Int × Bool × List Int => X.f_from ≤ y.1 ∧ y.1 ≤ X.f_to ∧ y.2.2.length = 48 ∧ (∀ q : Nat, q < 48 → y.2.2.getD q 0 = covP J ch i.toNat q + if X.f_from ≤ (q : Int) ∧ (q : Int) < y.1 then 1 else 0) ∧ (y.2.1 = true ↔ ∀ q : Nat, X.f_from ≤ (q : Int) → (q : Int) < y.1 → covP J ch i.toNat q + 1 ≤ t.Count)) (fun y => 48 - y.1.toNat)
    ⟨Int.le_refl _, by show X.f_from ≤ X.f_to; omega, i4, fun q hqq => by
     show air.getD q 0 = _ + if X.f_from ≤ (q : Int) ∧ (q : Int) < X.f_from then 1 else 0
     rw [i6 q hqq, if_neg (by omega)]; omega, ⟨fun _ q q1 q2 => by (have q2 : (q : Int) < X.f_from := q2); omega, fun _ => hrt⟩⟩ (by show 48 - X.f_from.toNat < F; omega) ?_
   rintro ⟨h, right2, air2⟩ next2 ⟨d1, d2, d3, d4, d5⟩ hn2
   simp only at d1 d2 d3 d4 d5
   dsimp only
   refine ok_chk ⟨i1, by omega⟩ (ok_chk ⟨i1, by omega⟩ (ok_chk (show InR _ from ⟨by omega, by omega⟩) (ok_brk (fun hd => ?_) (fun hd => ?_))))
   ·have hd : h < X.f_to := of_decide_eq_true hd
    have hh : h.toNat < 48 := by omega
    have hcur := d4 h.toNat hh
    rw [if_neg (by omega)] at hcur
    have hcb := covP_bound (J := J) (ch := ch) (n := i.toNat) (q := h.toNat)
    have hset : (air2.set h.toNat (air2.getD h.toNat 0 + 1)).getD h.toNat 0 = air2.getD h.toNat 0 + 1 := by rw [getD_set' (by omega), if_pos rfl]
    rw [hset, List.length_set, d3]
    refine ok_chk ⟨by omega, by omega⟩ (ok_chk (show InR _ from ⟨by omega, by omega⟩) (ok_chk ⟨by omega, by omega⟩ (ok_chk (fun _ => ⟨by omega, by omega⟩) (ok_chk (show InR _ from ⟨by omega, by omega⟩) (hn2 _ ⟨by show X.f_from ≤ h + 1; omega, by show h + 1 ≤ X.f_to; omega, by show (air2.set _ _).length = 48; rw [List.length_set]; exact d3, fun q hqq => ?_, ?_⟩ (by show 48 - (h + 1).toNat < 48 - h.toNat; omega))))))
    ·show (air2.set h.toNat _).getD q 0 = _ + if X.f_from ≤ (q : Int) ∧ (q : Int) < h + 1 then 1 else 0
     rw [getD_set' (by omega)]
     by_cases e : h.toNat = q
     ·rw [if_pos e, if_pos (by omega), ← e, hcur]; omega
     ·rw [if_neg e, d4 q hqq]
      by_cases e2 : X.f_from ≤ (q : Int) ∧ (q : Int) < h
      ·rw [if_pos e2, if_pos (by omega)]
      ·rw [if_neg e2, if_neg (by omega)]
    ·show (right2 && decide (air2.getD h.toNat 0 + 1 ≤ t.Count)) = true ↔ ∀ q : Nat, X.f_from ≤ (q : Int) → (q : Int) < h + 1 → _
     rw [Bool.and_eq_true, d5, decide_eq_true_eq]
     constructor
     ·rintro ⟨a, b⟩ q q1 q2
      by_cases e : (q : Int) < h
      ·exact a q q1 e
      ·obtain rfl : q = h.toNat := by omega
       omega
     ·intro a
      exact ⟨fun q q1 q2 => a q q1 (by omega), by have := a h.toNat (by omega) (by omega); omega⟩
   ·have hd : ¬ h < X.f_to := of_decide_eq_false hd
    obtain rfl : h = X.f_to := by omega
    refine hk3 _ ⟨by show n + X.f_worth = _; omega, d3, fun q hqq => ?_, ?_⟩
    ·show air2.getD q 0 = _
     rw [d4 q hqq, st2]
     by_cases e2 : X.f_from ≤ (q : Int) ∧ (q : Int) < X.f_to
     ·rw [if_pos e2, if_pos ⟨hq, (hon q).2 e2⟩]
     ·rw [if_neg e2, if_neg (fun t => e2 ((hon q).1 t.2))]
    ·show right2 = true ↔ _
     rw [d5]
     constructor
     ·intro a q hqq
      rw [st2]
      by_cases e2 : X.f_from ≤ (q : Int) ∧ (q : Int) < X.f_to
      ·rw [if_pos ⟨hq, (hon q).2 e2⟩]
       exact a q e2.1 e2.2
      ·rw [if_neg (fun t => e2 ((hon q).1 t.2))]
       have := hright q hqq
       omega
     ·intro a q q1 q2
      have := a q (by omega)
      rw [st2, if_pos ⟨hq, (hon q).2 ⟨q1, q2⟩⟩] at this
      exact this
  ·-- all were looked at
   have hne : right = true → i = J.length := fun hr => by
    rw [hr] at hb
    simp only [Bool.and_true, decide_eq_false_iff_not] at hb
    omega
   refine ok_brk (fun hr => ?_) (fun hr => ?_)
   ·obtain rfl := hne hr
    rw [Int.toNat_natCast] at i3 i7
    have hle : val J ch ≤ N := hO.le ch fun q hq => i7.1 hr q hq
    have e : val J ch = n := i3.symm
    refine hk2 _ ⟨?_, ?_, ?_, fun _ => ?_⟩
    ·show 0 ≤ if n > best then n else best
     split <;> omega
    ·show (if n > best then n else best) ≤ N
     split <;> omega
    ·show best ≤ if n > best then n else best
     split <;> omega
    ·show val J ch ≤ if n > best then n else best
     split <;> omega
   ·refine hk2 _ ⟨b0, b1, Int.le_refl _, fun hx => ?_⟩
    exfalso
    have : right = true := i7.2 fun q hq => Int.le_trans (covP_le (by omega)) (hx q hq)
    rw [this] at hr; cases hr
 ·have hc : ¬ s < 1 * P := of_decide_eq_false hc
  obtain ⟨c, c1, c2, c3⟩ := hO.has
  have hlt := hPe fun i => c.getD i false
  have hg : ∀ i, i < J.length → (chS J.length (encB J.length fun i => c.getD i false : Nat)).getD i false = c.getD i false := fun i hi => by
   rw [chS_get hi]
   exact enc_bit J.length (fun i => c.getD i false) i hi
  have := s2 (encB J.length fun i => c.getD i false : Nat) (by omega) (by omega) fun q hq => by rw [cov_congr hg]; exact c2 q hq
  rw [val_congr hg, c3] at this
  rw [show best = N by omega]
theorem refBound_eq {F : Nat} (hF : 100000 < F) {f : Field} {t : Fleet} {l : List Flight} {pr : List Int} (hl : f.Cells.length ≤ 100) (hfb : FlsB l) (hpl : pr.length ≤ 1000) : ref11_Bound F f t l pr = some (boundV f t l pr) := by
 refine Ok.eq ?_
 unfold ref11_Bound boundV
 refine ok_bnde (asked_eq (by omega) hl hfb) (ok_brk (fun h => ok_some (by rw [if_pos (by simpa using h)])) (fun h => ?_))
 have hz : (jobsV f t l).2 = 0 := by simpa using h
 have hR := jobsV_zero hfb hz
 rw [if_neg (fun q => q hz)]
 generalize hJv : (jobsV f t l).1 = J at hR ⊢
 have hk := hR.fl.2.2.2
 have hJl := hR.l12
 have hll := hR.len
 refine ok_brk (fun h => ok_some ?_) (fun h => ?_)
 ·have h : (pr.length : Int) ≠ 48 := by simpa using h
  rw [if_pos (by omega)]
 have h : (pr.length : Int) = 48 := by simpa using h
 have h48 : pr.length = 48 := by omega
 rw [if_neg (fun q => q h48), h48]
 refine ok_loop (fun x : Int × Int => 0 ≤ x.1 ∧ x.1 ≤ 48 ∧ (∀ j : Nat, (j : Int) < x.1 → 0 ≤ pr.getD j 0 ∧ pr.getD j 0 ≤ 1000000000) ∧ x.2 = t.Count * sumN x.1.toNat fun h => pr.getD h 0) (fun x => 48 - x.1.toNat) ⟨by simp, by simp, fun j hj => by (have hj : (j : Int) < 0 := hj); omega, by show 0 = t.Count * 0; rw [Int.mul_zero]⟩ (by simp; omega) ?_
 rintro ⟨i, s⟩ next ⟨i1, i2, i4, i3⟩ hn
 simp only at i1 i2 i3 i4
 dsimp only
 refine ok_brk (fun hc => ?_) (fun hc => ?_)
 ·have hc : i < 48 := of_decide_eq_true hc
  rw [refIn_eq, wd]
  refine ok_chk ⟨i1, by omega⟩ (ok_bnde rfl (ok_brk (fun hb => ok_some ?_) (fun hb => ?_)))
  ·rw [if_pos]
   intro q
   exact nd_true hb (q _ (getD_mem (d := 0) (show i.toNat < pr.length by omega)))
  have hb := nd_false hb
  have b0 : 0 ≤ (sumN i.toNat fun h => pr.getD h 0) ∧ (sumN i.toNat fun h => pr.getD h 0) ≤ 48000000000 := by
   have c1 := sumN_nonneg (f := fun h => pr.getD h 0) i.toNat fun q hq => (i4 q (by omega)).1
   have c2 := sumN_bound (f := fun h => pr.getD h 0) (B := 1000000000) i.toNat fun q hq => (i4 q (by omega)).2
   omega
  have b1 := mul_bd (k := t.Count) ⟨by omega, hk.2⟩ b0
  have b2 := mul_bd (k := t.Count) ⟨by omega, hk.2⟩ hb
  have hst : (t.Count * sumN (i + 1).toNat fun h => pr.getD h 0) = s + t.Count * pr.getD i.toNat 0 := by
   rw [show (i + 1).toNat = i.toNat + 1 by omega]
   simp only [sumN]
   rw [Int.mul_add, i3]
  rw [← i3] at b1
  refine ok_chk ⟨i1, by omega⟩ (ok_chk (show InR _ from ⟨by omega, by omega⟩) (ok_chk (show InR _ from ⟨by omega, by omega⟩) (ok_chk (show InR _ from ⟨by omega, by omega⟩) (hn _ ⟨by show 0 ≤ i + 1; omega, by show i + 1 ≤ 48; omega, fun j hj => ?_, hst.symm⟩ (by show 48 - (i + 1).toNat < 48 - i.toNat; omega)))))
  have hj : (j : Int) < i + 1 := hj
  by_cases e : (j : Int) < i
  ·exact i4 j e
  ·obtain rfl : j = i.toNat := by omega
   exact hb
 have hc : ¬ i < 48 := of_decide_eq_false hc
 have hp : PrB pr := fun c hc => by
  obtain ⟨j, hj, rfl⟩ := List.getElem_of_mem hc
  have := i4 j (by omega)
  rwa [getD_get hj] at this
 rw [if_neg (fun q => q hp)]
 have b0 := pr_bound hp 0 48
 simp only [Nat.zero_add] at b0
 have b1 := mul_bd (k := t.Count) (c := sumN 48 fun h => pr.getD h 0) (B := 48000000000) ⟨by omega, hk.2⟩ ⟨b0.1, by omega⟩
 rw [show i.toNat = 48 by omega] at i3
 clear hn
 rw [← i3] at b1
 rw [hll]
 refine ok_loop (fun x : Int × Int => 0 ≤ x.1 ∧ x.1 ≤ J.length ∧ x.2 = s + sumN x.1.toNat fun i => max0 ((J.getD i j0).f_worth - tot J (fun h => pr.getD h 0) i)) (fun x => J.length - x.1.toNat) ⟨by simp, by simp, by show s = s + 0; omega⟩ (by simp; omega) ?_
 rintro ⟨j, w⟩ next ⟨c1, c2, c3⟩ hn
 simp only at c1 c2 c3
 dsimp only
 refine ok_brk (fun hc => ?_) (fun hc => ok_some ?_)
 ·have hc : j < J.length := of_decide_eq_true hc
  have hj : j.toNat < J.length := by omega
  have hts := tot_seg hR.ok hj fun h => pr.getD h 0
  obtain ⟨j1, j2, j3, j4, j5⟩ := hR.ok.at hj
  have p1 := part_bound hR.ok hp j.toNat (by omega)
  have p2 := part_bound hR.ok hp (j + 1).toNat (by omega)
  have hst : (sumN (j + 1).toNat fun i => max0 ((J.getD i j0).f_worth - tot J (fun h => pr.getD h 0) i)) = (sumN j.toNat fun i => max0 ((J.getD i j0).f_worth - tot J (fun h => pr.getD h 0) i)) + max0 ((J.getD j.toNat j0).f_worth - tot J (fun h => pr.getD h 0) j.toNat) := by
   rw [show (j + 1).toNat = j.toNat + 1 by omega]; rfl
  have hm := max0_ge ((J.getD j.toNat j0).f_worth - tot J (fun h => pr.getD h 0) j.toNat)
  refine ok_join (by omega) (fun y : Int => y = s + sumN (j + 1).toNat fun i => max0 ((J.getD i j0).f_worth - tot J (fun h => pr.getD h 0) i)) (fun y hy => ok_chk (show InR _ from ⟨by omega, by omega⟩) (hn _ ⟨by show 0 ≤ j + 1; omega, by show j + 1 ≤ _; omega, hy⟩ (by show J.length - (j + 1).toNat < J.length - j.toNat; omega))) fun k hk2 => ?_
  have hev := hR.ev j.toNat hj
  have hfr := hR.fr j.toNat hj
  have hxl := hfb.p _ (getD_mem (d := f0) (show j.toNat < l.length by omega))
  have hat : l.getD j.toNat (Flight.mk (0 : Int) []) = l.getD j.toNat f0 := rfl
  rw [hat]
  generalize l.getD j.toNat f0 = x at hfr hev hxl ⊢
  have hw := refWorth1_eq (by omega : 2000 < F) hR.fo hR.fl (x := ⟨x.From, x.Path⟩) hxl
  have hev' : jobE f t ⟨x.From, x.Path⟩ = (J.getD j.toNat j0, 0) := hev
  rw [hev'] at hw
  refine ok_chk ⟨c1, by omega⟩ (ok_bnde hw (ok_chk ⟨c1, by omega⟩ ?_))
  have qb := fun n => pr_bound hp (J.getD j.toNat j0).f_from.toNat n
  dsimp only
  generalize J.getD j.toNat j0 = X at j1 j2 j3 j4 j5 hts hst qb hfr hm ⊢
  rw [← hfr, show X.f_from + (X.f_to - X.f_from) = X.f_to by omega]
  refine ok_loop (fun x : Int × Int => X.f_from ≤ x.2 ∧ x.2 ≤ X.f_to ∧ x.1 = X.f_worth - sumN (x.2 - X.f_from).toNat fun q => pr.getD (X.f_from.toNat + q) 0) (fun x => 48 - x.2.toNat) ⟨Int.le_refl _, by show X.f_from ≤ _; omega, by show X.f_worth = X.f_worth - sumN (X.f_from - X.f_from).toNat _; rw [Int.sub_self]; show _ = _ - (0 : Int); omega⟩ (by show 48 - X.f_from.toNat < F; omega) ?_
  rintro ⟨left, h⟩ next1 ⟨d1, d2, d3⟩ hn1
  simp only at d1 d2 d3
  dsimp only
  have q0 := qb (h - X.f_from).toNat
  refine ok_chk ⟨c1, by omega⟩ (ok_chk (show InR _ from ⟨by omega, by omega⟩) (ok_brk (fun hd => ?_) (fun hd => ?_)))
  ·have hd : h < X.f_to := of_decide_eq_true hd
   have gq := hp.get h.toNat
   refine ok_chk ⟨by omega, by omega⟩ (ok_chk (show InR _ from ⟨by omega, by omega⟩) (ok_chk (show InR _ from ⟨by omega, by omega⟩) (hn1 _ ⟨by show _ ≤ h + 1; omega, by show h + 1 ≤ _; omega, ?_⟩ (by show 48 - (h + 1).toNat < 48 - h.toNat; omega))))
   show left - _ = X.f_worth - sumN (h + 1 - X.f_from).toNat _
   rw [show (h + 1 - X.f_from).toNat = (h - X.f_from).toNat + 1 by omega]
   simp only [sumN]
   rw [show X.f_from.toNat + (h - X.f_from).toNat = h.toNat by omega]
   omega
  ·have hd : ¬ h < X.f_to := of_decide_eq_false hd
   have e : left = X.f_worth - tot J (fun h => pr.getD h 0) j.toNat := by
    rw [hts, d3, show (h - X.f_from).toNat = (X.f_to - X.f_from).toNat by omega]
   have em : (if left > 0 then left else 0) = max0 (X.f_worth - tot J (fun h => pr.getD h 0) j.toNat) := by rw [← e]; rfl
   refine ok_brk (fun hp => ?_) (fun hp => ?_)
   ·rw [if_pos (of_decide_eq_true hp)] at em
    exact ok_chk (show InR _ from ⟨by omega, by omega⟩) (hk2 _ (by omega))
   ·rw [if_neg (of_decide_eq_false hp)] at em
    exact hk2 _ (by omega)
 ·have hc : ¬ j < J.length := of_decide_eq_false hc
  rw [show j.toNat = J.length by omega] at c3
  rw [c3, i3]; rfl
end Go.Proofs.Ss
namespace Go.Proofs.Ss
open Go Go.KX
theorem copyI {F : Nat} {l : List Int} (h : l.length ≤ 1000000) : kit_CopyInts F l = some l := chk_pos (by omega)
theorem copyS {F : Nat} {l : List Span} (h : l.length ≤ 1000000) : kit_CopySpans F l = some l := chk_pos (by omega)
theorem copyF {F : Nat} {f : Field} (h : f.Cells.length ≤ 1000000) : law11_CopyField F f = some f := by
 unfold law11_CopyField
 rw [copyS h, bnd_so]
theorem sameI {F : Nat} {l : List Int} (hF : l.length < F) (hl : l.length ≤ 1000000) : kit_SameInts F l l = some true := by
 refine Ok.eq ?_
 unfold kit_SameInts
 refine ok_brkF (by simp) ?_
 refine ok_loop (fun x : Int => 0 ≤ x ∧ x ≤ l.length) (fun x : Int => l.length - x.toNat) ⟨by simp, by simp⟩ (by simp; omega) ?_
 rintro i next ⟨i1, i2⟩ hn
 refine ok_brk (fun hc => ?_) (fun hc => ok_some rfl)
 have hc : i < l.length := of_decide_eq_true hc
 exact ok_chk ⟨i1, hc⟩ (ok_chk ⟨i1, hc⟩ (ok_brkF (by simp) (ok_chk (show InR _ from ⟨by omega, by omega⟩) (hn _ ⟨by omega, by omega⟩ (by show l.length - (i + 1).toNat < l.length - i.toNat; omega)))))
theorem sameS {F : Nat} {l : List Span} (hF : l.length < F) (hl : l.length ≤ 1000000) : kit_SameSpans F l l = some true := by
 refine Ok.eq ?_
 unfold kit_SameSpans
 refine ok_brkF (by simp) ?_
 refine ok_loop (fun x : Int => 0 ≤ x ∧ x ≤ l.length) (fun x : Int => l.length - x.toNat) ⟨by simp, by simp⟩ (by simp; omega) ?_
 rintro i next ⟨i1, i2⟩ hn
 refine ok_brk (fun hc => ?_) (fun hc => ok_some rfl)
 have hc : i < l.length := of_decide_eq_true hc
 exact ok_chk ⟨i1, hc⟩ (ok_chk ⟨i1, hc⟩ (ok_brkF (by simp) (ok_chk (show InR _ from ⟨by omega, by omega⟩) (hn _ ⟨by omega, by omega⟩ (by show l.length - (i + 1).toNat < l.length - i.toNat; omega)))))
theorem same_F {F : Nat} {f : Field} (hF : f.Cells.length < F) (hl : f.Cells.length ≤ 1000000) : law11_same F f f = some true := by
 unfold law11_same
 rw [sameS hF hl, show (f.W == f.W && f.H == f.H) = true by simp]; rfl
theorem sameFl {F : Nat} {l : List Flight} (hF : 2000 < F) (hb : FlsB l) : law11_sameFlights F l l = some true := by
 refine Ok.eq ?_
 unfold law11_sameFlights
 have hlen := hb.len
 refine ok_join (by omega) (fun x : Bool => x = true) (fun x hx => ok_some hx) fun k hk => ?_
 refine ok_brkF (by simp) ?_
 refine ok_loop (fun x : Int => 0 ≤ x ∧ x ≤ l.length) (fun x : Int => l.length - x.toNat) ⟨by simp, by simp⟩ (by simp; omega) ?_
 rintro i next ⟨i1, i2⟩ hn
 refine ok_brk (fun hc => ?_) (fun hc => hk _ rfl)
 have hc : i < l.length := of_decide_eq_true hc
 have hp := hb.p _ (getD_mem (d := f0) (show i.toNat < l.length by omega))
 have hs : law11_sameFlights_1 F ⟨(l.getD i.toNat f0).From, (l.getD i.toNat f0).Path⟩ ⟨(l.getD i.toNat f0).From, (l.getD i.toNat f0).Path⟩ = some true := by
  unfold law11_sameFlights_1
  dsimp only
  rw [sameI (by omega) (by omega), show ((l.getD i.toNat f0).From == (l.getD i.toNat f0).From) = true by simp]; rfl
 exact ok_chk ⟨i1, hc⟩ (ok_chk ⟨i1, hc⟩ (ok_bnde hs (ok_brkF rfl (ok_chk (show InR _ from ⟨by omega, by omega⟩) (hn _ ⟨by omega, by omega⟩ (by show l.length - (i + 1).toNat < l.length - i.toNat; omega))))))
theorem copyFl {F : Nat} {l : List Flight} (hF : 2000 < F) (hb : FlsB l) : law11_copyFlights F l = some l := by
 refine Ok.eq ?_
 unfold law11_copyFlights
 have hlen := hb.len
 refine ok_bnde (b := l) (by unfold slices_Clone_spill_Flight; rw [chk_pos (by omega)]; rfl) ?_
 refine ok_loop (fun x : Int × List Flight => 0 ≤ x.1 ∧ x.1 ≤ l.length ∧ x.2 = l) (fun x => l.length - x.1.toNat) ⟨by simp, by simp, rfl⟩ (by simp; omega) ?_
 rintro ⟨i, c⟩ next ⟨i1, i2, i3⟩ hn
 simp only at i1 i2 i3
 subst i3
 dsimp only
 refine ok_brk (fun hc => ?_) (fun hc => ok_some rfl)
 have hc : i < c.length := of_decide_eq_true hc
 have hi : i.toNat < c.length := by omega
 have hp : (c.getD i.toNat (Flight.mk (0 : Int) [])).Path.length ≤ 1000 := hb.p _ (getD_mem hi)
 refine ok_chk ⟨i1, hc⟩ (ok_bnde (copyI (by omega)) (ok_chk ⟨i1, hc⟩ (ok_chk (show InR _ from ⟨by omega, by omega⟩) (hn _ ⟨by show 0 ≤ i + 1; omega, by show i + 1 ≤ _; omega, ?_⟩ (by show c.length - (i + 1).toNat < c.length - i.toNat; omega)))))
 show c.set i.toNat (c.getD i.toNat f0) = c
 rw [getD_get hi]; exact List.set_getElem_self hi
theorem refFl {F : Nat} {l : List Flight} (hF : 2000 < F) (hb : FlsB l) : law11_flights F l = some l := by
 refine Ok.eq ?_
 unfold law11_flights
 have hlen := hb.len
 refine ok_loop (fun x : Int × List Flight => 0 ≤ x.1 ∧ x.1 ≤ l.length ∧ x.2 = l.take x.1.toNat) (fun x => l.length - x.1.toNat) ⟨by simp, by simp, rfl⟩ (by simp; omega) ?_
 rintro ⟨i, c⟩ next ⟨i1, i2, i3⟩ hn
 simp only at i1 i2 i3
 subst i3
 dsimp only
 refine ok_brk (fun hc => ?_) (fun hc => ok_some ?_)
 ·have hc : i < l.length := of_decide_eq_true hc
  have hi : i.toNat < l.length := by omega
  have hp : (l.getD i.toNat (Flight.mk (0 : Int) [])).Path.length ≤ 1000 := hb.p _ (getD_mem hi)
  refine ok_chk ⟨i1, hc⟩ (ok_bnde (copyI (by omega)) (ok_chk (by simp; omega) (ok_chk (show InR _ from ⟨by omega, by omega⟩) (hn _ ⟨by show 0 ≤ i + 1; omega, by show i + 1 ≤ _; omega, ?_⟩ (by show l.length - (i + 1).toNat < l.length - i.toNat; omega)))))
  show l.take i.toNat ++ [l.getD i.toNat f0] = l.take (i + 1).toNat
  rw [show (i + 1).toNat = i.toNat + 1 by omega, take_succ' (d := f0) hi]
 ·have hc : ¬ i < l.length := of_decide_eq_false hc
  exact List.take_of_length_le (by omega)
noncomputable def worthE (f : Field) (t : Fleet) (x : Flight) : Int × Int × Int :=
 if checkV f ≠ 0 then (0, 0, checkV f) else if ¬ FleetOK f.Cells.length t then (0, 0, 120) else ((jobE f t x).1.f_worth, (jobE f t x).1.f_to - (jobE f t x).1.f_from, (jobE f t x).2)
theorem jobE_small {f : Field} {t : Fleet} {x : Flight} : (jobE f t x).2 ≠ 0 → (jobE f t x).1 = j0 := by
 intro h
 unfold jobE at h ⊢
 split
 ·rfl
 rename_i q1
 rw [if_neg q1] at h
 split
 ·rfl
 rename_i q2
 rw [if_neg q2] at h
 split
 ·rfl
 rename_i q3
 rw [if_neg q3] at h
 split
 ·rfl
 rename_i q4
 rw [if_neg q4] at h
 exact absurd rfl h
theorem Worth_eq {F : Nat} (hF : 2000 < F) {f : Field} {t : Fleet} {x : Flight} (hl : f.Cells.length ≤ 100) (hP : x.Path.length ≤ 1000) : spill_Worth F f t x = some (worthE f t x) := by
 refine Ok.eq ?_
 unfold spill_Worth worthE
 refine ok_bnde (Check_eq (by show f.Cells.length < F; omega)) (ok_brk (fun hc => ?_) (fun hc => ?_))
 ·rw [if_pos (show checkV f ≠ 0 by simpa using hc)]
  exact ok_brkT hc (ok_some rfl)
 have hc : checkV f = 0 := by simpa using hc
 have hf := checkV_ok hc
 rw [if_neg (by omega)]
 refine ok_bnde (right_eq hl) (ok_brk (fun ht => ok_some ?_) (fun ht => ?_))
 ·rw [if_pos (nd_true ht)]
 have ht := nd_false ht
 rw [if_neg (fun q => q ht)]
 refine ok_bnde (job_eq hF hf ht (x := ⟨x.From, x.Path⟩) hP) (ok_brk (fun hq => ok_some ?_) (fun hq => ?_))
 ·have hq : (jobE f t x).2 ≠ 0 := by simpa using hq
  have := jobE_small hq
  show _ = ((jobE f t x).1.f_worth, (jobE f t x).1.f_to - (jobE f t x).1.f_from, (jobE f t x).2)
  rw [this]; rfl
 ·have hq : (jobE f t x).2 = 0 := by simpa using hq
  obtain ⟨⟨j1, j2, j3, j4, j5⟩, -⟩ := jobE_ok hf ht hP hq
  have j1 : 0 ≤ (jobE f t x).1.f_from := j1
  have j2 : (jobE f t x).1.f_from < (jobE f t x).1.f_to := j2
  have j3 : (jobE f t x).1.f_to ≤ 48 := j3
  refine ok_chk (show InR ((jobE f t x).1.f_to - (jobE f t x).1.f_from) from ⟨by omega, by omega⟩) (ok_some ?_)
  show _ = ((jobE f t x).1.f_worth, (jobE f t x).1.f_to - (jobE f t x).1.f_from, (jobE f t x).2)
  rw [hq]
theorem refWorth_eq {F : Nat} (hF : 2000 < F) {f : Field} {t : Fleet} {x : Flight} (hl : f.Cells.length ≤ 100) (hP : x.Path.length ≤ 1000) : ref11_Worth F f t x = some (worthE f t x) := by
 refine Ok.eq ?_
 unfold ref11_Worth worthE
 refine ok_bnde (refCheck_eq (by show f.Cells.length < F; omega)) (ok_brk (fun hc => ok_some ?_) (fun hc => ?_))
 ·rw [if_pos (show checkV f ≠ 0 by simpa using hc)]
 have hc : checkV f = 0 := by simpa using hc
 have hf := checkV_ok hc
 rw [if_neg (by omega)]
 refine ok_bnde (refFleet_eq hl) (ok_brk (fun ht => ok_some ?_) (fun ht => ?_))
 ·rw [if_pos (nd_true ht)]
 have ht := nd_false ht
 rw [if_neg (fun q => q ht)]
 exact ok_bnde (refWorth1_eq hF hf ht (x := ⟨x.From, x.Path⟩) hP) (ok_some rfl)
set_option maxHeartbeats 1000000 in
theorem spillFlights_ok' {F : Nat} (hF : F = 1000000000000000) (f : Field) (t : Fleet) (l : List Flight) (pr : List Int) : law11_SpillFlights F f t l pr = some true := by
 have haw : law11_awake F = some true := by rw [hF]; exact awake_eq
 refine Ok.eq ?_
 unfold law11_SpillFlights
 rw [haw]
 have aw : Ok (fun x => x = true) (bnd (some true) fun x : Bool => some x) := ok_bnde rfl (ok_some rfl)
 refine ok_brk (fun _ => aw) (fun h1 => ok_brk (fun _ => aw) (fun h2 => ok_brk (fun _ => aw) (fun h3 => ?_)))
 have h2 := of_decide_eq_false h2
 have h3 := of_decide_eq_false h3
 have hl : f.Cells.length ≤ 100 := by
  simp only [Bool.or_eq_false_iff, decide_eq_false_iff_not] at h1
  omega
 refine ok_join (by omega) (fun x : Int => x ≥ 0 ∨ FlsB l) (fun x hx => ok_brk (fun _ => aw) (fun hx2 => ?_)) fun k hk => ?_
 ·have hx2 := of_decide_eq_false hx2
  have hb : FlsB l := by
   rcases hx with q | q
   ·exact absurd q hx2
   ·exact q
  clear hx
  refine ok_bnde (copyF (by show f.Cells.length ≤ _; omega)) (ok_bnde (copyFl (by omega) hb) (ok_bnde (copyI (by omega)) (ok_bnde (copyF (by show f.Cells.length ≤ _; omega)) (ok_bnde (refFl (by omega) hb) ?_))))
  have hlen := hb.len
  refine ok_loop (fun x : Int => 0 ≤ x ∧ x ≤ l.length) (fun x : Int => l.length - x.toNat) ⟨by simp, by simp⟩ (by simp; omega) ?_
  rintro i next ⟨i1, i2⟩ hn
  refine ok_brk (fun hc => ?_) (fun hc => ?_)
  ·have hc : i < l.length := of_decide_eq_true hc
   have hp := hb.p _ (getD_mem (d := f0) (show i.toNat < l.length by omega))
   refine ok_chk ⟨i1, hc⟩ (ok_bnde (Worth_eq (by omega) hl hp) (ok_chk ⟨i1, hc⟩ (ok_bnde (refWorth_eq (by omega) hl hp) (ok_brkF (by simp) (ok_chk (show InR _ from ⟨by omega, by omega⟩) (hn _ ⟨by omega, by omega⟩ (by show l.length - (i + 1).toNat < l.length - i.toNat; omega)))))))
  clear hn
  have hBd : ∀ n, Ok (fun x => x = true) (bnd (spill_Bound F f t l pr) fun x_13 => bnd (ref11_Bound F f t l pr) fun x_14 => bnd (brk (x_13.fst == x_14.fst && x_13.snd == x_14.snd) (law11_same F f f) (some false)) fun x_15 => bnd (brk (x_13.fst == x_14.fst && x_13.snd == x_14.snd && x_15) (law11_sameFlights F l l) (some false)) fun x_16 => bnd (brk (x_13.fst == x_14.fst && x_13.snd == x_14.snd && x_15 && x_16) (kit_SameInts F pr pr) (some false)) fun x_17 => bnd (brk (x_13.fst == x_14.fst && x_13.snd == x_14.snd && x_15 && x_16 && x_17) (some true) (some false)) fun x_18 => some (x_13.fst == x_14.fst && x_13.snd == x_14.snd && x_15 && x_16 && x_17 && x_18)) := fun _ : Nat => by
   refine ok_bnde (Bound_eq (by omega) hl hb (by omega)) (ok_bnde (refBound_eq (by omega) hl hb (by omega)) ?_)
   have e : ((boundV f t l pr).1 == (boundV f t l pr).1 && (boundV f t l pr).2 == (boundV f t l pr).2) = true := by simp
   rw [e]
   refine ok_bnde (show brk true _ _ = _ from same_F (by omega) (by omega)) (ok_bnde (show brk (true && true) _ _ = _ from sameFl (by omega) hb) (ok_bnde (show brk (true && true && true) _ _ = _ from sameI (by omega) (by omega)) (ok_bnde rfl (ok_some rfl))))
  refine ok_bnd _ (Best_ok (by omega) hl hb) ?_
  rintro ⟨ch, n, e⟩ hbest
  by_cases hz : (jobsV f t l).2 = 0
  ·rcases hbest with ⟨q, _⟩ | ⟨_, q1, q2, q3, q4, q5⟩
   ·exact absurd hz q
   simp only at q1 q2 q3 q4 q5
   subst q1
   refine ok_bnde (refBest_eq (by omega) hl hb hz q5) (ok_brkF (by simp) ?_)
   have hR := jobsV_zero hb hz
   refine ok_join (by omega) (fun _ : PUnit => True) (fun _ _ => ?_) fun k _hk => ?_
   ·refine ok_bnd _ (Prices_ok (by omega) hl hb) ?_
    rintro ⟨pp, e⟩ hpr
    rcases hpr with ⟨q, _⟩ | ⟨_, p1, p2⟩
    ·exact absurd hz q
    simp only at p1 p2
    subst p1
    refine ok_brkF (by simp) ?_
    refine ok_join (by omega) (fun _ : PUnit => True) (fun _ _ => hBd 0) fun k hk => ?_
    refine ok_brkT rfl ?_
    have hpl := p2.l
    refine ok_bnde (refBound_eq (by omega) hl hb (by show pp.length ≤ 1000; omega)) (ok_brkF ?_ (hk _ trivial))
    have hpb : PrB pp := fun c hc => by
     obtain ⟨j, hj, rfl⟩ := List.getElem_of_mem hc
     have := p2.b j (by omega)
     rwa [getD_get hj] at this
    have hv : boundV f t l pp = (n, 0) := by
     unfold boundV
     rw [if_neg (fun q => q hz), if_neg (fun q => q hpl), if_neg (fun q => q hpb), p2.o.one q5]
    show ((boundV f t l pp).1 != n || (boundV f t l pp).2 != 0) = false
    rw [hv]; simp
   ·refine ok_brkT rfl (ok_bnde (refRight_eq (by omega) hb hR q2 q3) (ok_brkF ?_ (_hk _ trivial)))
    rw [q4]; simp
  ·rcases hbest with ⟨_, q⟩ | ⟨q, _⟩
   ·simp only [Prod.mk.injEq] at q
    obtain ⟨rfl, rfl, rfl⟩ := q
    have hrb : ref11_Best F f t l = some (0, (jobsV f t l).2) := by
     refine Ok.eq ?_
     unfold ref11_Best
     exact ok_bnde (asked_eq (by omega) hl hb) (ok_brkT (by simpa using hz) (ok_some rfl))
    refine ok_bnde hrb (ok_brkF (by simp) ?_)
    have hne : ((jobsV f t l).2 == 0) = false := beq_eq_false_iff_ne.2 hz
    refine ok_join (by omega) (fun _ : PUnit => True) (fun _ _ => ?_) fun k hk => ?_
    ·refine ok_bnd _ (Prices_ok (by omega) hl hb) ?_
     rintro ⟨pp, e⟩ hpr
     rcases hpr with ⟨_, q⟩ | ⟨q, _⟩
     ·simp only [Prod.mk.injEq] at q
      obtain ⟨rfl, rfl⟩ := q
      refine ok_brkF (by simp) ?_
      refine ok_join (by omega) (fun _ : PUnit => True) (fun _ _ => hBd 0) fun k hk => ?_
      exact ok_brkF hne (ok_brkF (by simp) (hk _ trivial))
     ·exact absurd q hz
    ·exact ok_brkF hne (ok_brkF (by simp) (hk _ trivial))
   ·exact absurd q hz
 ·refine ok_find (d := f0) (p := fun x : Flight => decide ((x.Path.length : Int) > 120)) (g := fun x => law11_SpillFlights_1 F ⟨x.From, x.Path⟩) (by omega) (by omega) (fun c _ => rfl) (fun i _ _ => hk _ (.inl (by omega))) (fun hp => hk _ (.inr ⟨by omega, fun x hx => ?_⟩))
  have := of_decide_eq_false (hp x hx)
  omega
end Go.Proofs.Ss

namespace Go.Proofs.Ss
open Go Go.KX
abbrev BF : Nat := 1000000000000000
theorem nums_in (x : Int) : InR (numsV.getD x.toNat 0) := by
 have h : ∀ y ∈ numsV, InR y := by unfold numsV; decide
 rw [List.getD_eq_getElem?_getD]
 cases e : numsV[x.toNat]? with
 | none => exact ⟨by decide, by decide⟩
 | some y => exact h y (List.mem_of_getElem? e)
theorem in4 {a b c d : Int} (ha : InR a) (hb : InR b) (hc : InR c) (hd : InR d) : ∀ x ∈ [a, b, c, d], InR x := by
 intro x hx
 simp only [List.mem_cons, List.not_mem_nil, or_false] at hx
 rcases hx with rfl | rfl | rfl | rfl <;> assumption
theorem rep_in {n : Nat} {a : Int} (ha : InR a) : ∀ x ∈ List.replicate n a, InR x := fun x hx => by rw [List.eq_of_mem_replicate hx]; exact ha
theorem ten {x : Int} (h0 : 0 ≤ x) (h1 : x < 10) : x = 0 ∨ x = 1 ∨ x = 2 ∨ x = 3 ∨ x = 4 ∨ x = 5 ∨ x = 6 ∨ x = 7 ∨ x = 8 ∨ x = 9 := by omega
theorem area {x : Int} (h0 : 0 ≤ x) (h1 : x < 10) : 0 ≤ x * (9 - x) ∧ x * (9 - x) ≤ 20 := by
 rcases ten h0 h1 with rfl | rfl | rfl | rfl | rfl | rfl | rfl | rfl | rfl | rfl <;> decide
theorem repS {x : Int} (h0 : 0 ≤ x) (h1 : x < 10) (s : Span) : slices_Repeat_api_Span BF [s] (x * (9 - x)) = some (List.replicate (x * (9 - x)).toNat s) := by
 rcases ten h0 h1 with rfl | rfl | rfl | rfl | rfl | rfl | rfl | rfl | rfl | rfl <;> kernel_rfl
theorem repI {x : Int} (h0 : 0 ≤ x) (h1 : x < 10) (s : Int) : slices_Repeat_int BF [s] (x * (9 - x)) = some (List.replicate (x * (9 - x)).toNat s) := by
 rcases ten h0 h1 with rfl | rfl | rfl | rfl | rfl | rfl | rfl | rfl | rfl | rfl <;> kernel_rfl
theorem repF {x : Int} (h0 : 0 ≤ x) (h1 : x < 10) (s : Flight) : slices_Repeat_spill_Flight BF [s] (8 + x) = some (List.replicate (8 + x).toNat s) := by
 rcases ten h0 h1 with rfl | rfl | rfl | rfl | rfl | rfl | rfl | rfl | rfl | rfl <;> kernel_rfl
theorem blank_eq : ice_Blank BF 2 1 3 = some ((ice_Blank BF 2 1 3).getD (⟨0, 0, 0, []⟩, 0)) := by kernel_rfl
theorem blank_ok : ∃ y, ice_Blank BF 2 1 3 = some y ∧ y.2 = 0 ∧ y.1.Cells.length = 2 := ⟨_, blank_eq, by kernel_rfl, by kernel_rfl⟩
set_option maxHeartbeats 4000000 in
theorem small_ok : law11_SpillSmall BF = some true := by
 refine Ok.eq ?_
 unfold law11_SpillSmall
 obtain ⟨y, hy, e1, e2⟩ := blank_ok
 have hl : numsV.length = 29 := by decide
 refine ok_loop (fun x : Int => 0 ≤ x ∧ x ≤ 29) (fun x : Int => 29 - x.toNat) ⟨by decide, by decide⟩ (by decide) ?_
 rintro x next ⟨x0, x1⟩ hn
 refine ok_brk (fun hc => ?_) (fun hc => ?_)
 ·have hc : x < 29 := by rw [hl] at hc; simpa using hc
  have hv := nums_in x
  refine ok_chk ⟨x0, by rw [hl]; exact hc⟩ ?_
  generalize numsV.getD x.toNat 0 = v at hv ⊢
  iterate 13 refine ok_chk (by decide) (ok_chk (by decide) (ok_chk (by decide) (ok_chk (by decide) (ok_chk (by decide) (ok_chk (by decide) (ok_bnde (fields_ok (by first | exact in4 (by decide) (by decide) (by decide) (by decide) | exact in4 (by decide) (by decide) hv (by decide))) (ok_brkF rfl ?_)))))))
  iterate 8 refine ok_bnde hy (ok_brkF (by rw [e1, e2]; rfl) (ok_chk (by decide) (ok_chk (by decide) (ok_chk (by decide) (ok_chk (by rw [e2]; decide) (ok_bnde seen_ok (ok_brkF rfl ?_)))))))
  iterate 8 refine ok_chk (by decide) (ok_chk (by decide) (ok_chk (by decide) (ok_chk (by decide) (ok_chk (by decide) (ok_bnde (spillFlights_ok' rfl _ _ _ _) (ok_brkF rfl ?_))))))
  exact ok_chk (show InR (x + 1) from ⟨by omega, by omega⟩) (hn _ ⟨by omega, by omega⟩ (by show 29 - (x + 1).toNat < 29 - x.toNat; omega))
 ·refine ok_loop (fun x : Int => 0 ≤ x ∧ x ≤ 10) (fun x : Int => 10 - x.toNat) ⟨by decide, by decide⟩ (by decide) ?_
  rintro z next2 ⟨z0, z1⟩ hn2
  refine ok_brk (fun hc => ?_) (fun hc => ?_)
  ·have hc : z < 10 := by simpa using hc
   obtain ⟨a0, a1⟩ := area z0 hc
   have i1 : InR (9 - z) := ⟨by omega, by omega⟩
   have i2 : InR (z * (9 - z)) := ⟨by omega, by omega⟩
   refine ok_chk i1 (ok_chk i1 (ok_chk i2 (ok_bnde (repS z0 hc _) (ok_chk i1 (ok_chk i2 (ok_bnde (repS z0 hc _) (ok_chk i1 (ok_chk i2 (ok_bnde (repI z0 hc _) (ok_chk i1 (ok_chk i2 (ok_bnde (repI z0 hc _) ?_))))))))))))
   refine ok_chk i1 (ok_chk (show InR (40 + z) from ⟨by omega, by omega⟩) (ok_bnde (fields_ok (rep_in (by decide))) (ok_brkF rfl ?_)))
   refine ok_chk (show InR (95 + z) from ⟨by omega, by omega⟩) (ok_chk ⟨by omega, by omega, by omega⟩ (ok_bnde seen_ok (ok_brkF rfl ?_)))
   refine ok_chk i1 (ok_chk (show InR (8 + z) from ⟨by omega, by omega⟩) (ok_bnde (repF z0 hc _) (ok_chk (show InR (44 + z) from ⟨by omega, by omega⟩) (ok_chk ⟨by omega, by omega, by omega⟩ (ok_bnde (spillFlights_ok' rfl _ _ _ _) (ok_brkF rfl ?_))))))
   exact ok_chk (show InR (z + 1) from ⟨by omega, by omega⟩) (hn2 _ ⟨by omega, by omega⟩ (by show 10 - (z + 1).toNat < 10 - z.toNat; omega))
  ·refine ok_bnde (fields_ok (fun q hq => by obtain rfl := List.mem_singleton.1 hq; decide)) (ok_bnde (b := true) (by rw [brk_true]; exact awake_ok) (ok_some rfl))
end Go.Proofs.Ss

namespace Go.KX
open Go Go.ChangeShapes Go.WideShapes Go.RowKit
def goodT (P : Program) : Nat → TypeId → Bool
 | 0, _ => false
 | n + 1, t => match P.underlying t with
  | some (.int _) => true
  | some .bool => true
  | some (.struct fs) => fs.toList.all fun f => goodT P n f.type
  | some (.array _ e) => goodT P n e
  | some (.slice e) => goodT P n e && Nat.ble 1 (P.cellsOf e)
  | _ => false
theorem mapM_carry' {α β : Type} {f g : α → Option β} : ∀ {l : List α} {r : List β}, l.mapM f = some r → (∀ x y, x ∈ l → y ∈ r → f x = some y → g x = some y) → l.mapM g = some r := mapM_carry
section
variable {H : Type} {enc : TypeId × Value → H} {P : Program} {w : World} {base : Nat} {held : Bool}
theorem trod_spare {sp : Nat → Bool} : ∀ (m n : Nat) (t : TypeId) (cs : List Value) (x : DataW H × List MemPlace), goodT P m t = true →
  DataW.trod enc P w base (fun _ => true) held n t cs = some x → (∀ p ∈ x.2, sp p.block = true) → DataW.trod enc P w base sp held n t cs = some x := by
 intro m
 induction m with
 | zero => intro n t cs x h; cases h
 | succ m ih =>
  intro n t cs x hg h hs
  cases n with
  | zero => simp [DataW.trod] at h
  | succ n =>
   rw [DataW.trod_step] at h ⊢
   unfold goodT at hg
   unfold DataW.trodStep at h ⊢
   split at h
   case h_1 => exact h
   case h_2 => exact h
   case h_8 e a len cap hu =>
    rw [hu] at hg
    simp only [Bool.and_eq_true] at hg
    simp only at h ⊢
    split at h
    ·rename_i hc
     rw [if_pos hc]
     simp only [if_true, Option.map_eq_some_iff, Option.bind_eq_some_iff] at h ⊢
     obtain ⟨elems, he, rest, hr, rfl⟩ := h
     have hlen : elems.length = len := by simpa using mapM_some_length he
     have hrlen : rest.length = cap - len := by simpa using mapM_some_length hr
     have hk : 1 ≤ P.cellsOf e := Nat.le_of_ble_eq_true hg.2
     have one : ∀ i y, (w.cells? base (a.add (i * P.cellsOf e)) (P.cellsOf e)).bind (DataW.trod enc P w base (fun _ => true) held n e) = some y → (∀ p ∈ y.2, sp p.block = true) →
       (w.cells? base (a.add (i * P.cellsOf e)) (P.cellsOf e)).bind (DataW.trod enc P w base sp held n e) = some y := by
      intro i y hy hp
      rw [Option.bind_eq_some_iff] at hy ⊢
      obtain ⟨cs', h1, h2⟩ := hy
      exact ⟨cs', h1, ih n e cs' y hg.1 h2 hp⟩
     have hpl : ∀ y, y ∈ elems ++ rest → ∀ p ∈ y.2, sp p.block = true := fun y hy p hp => hs p (by
      simp only [List.mem_append]
      exact .inr (List.mem_flatMap.2 ⟨y, hy, hp⟩))
     refine ⟨elems, mapM_carry' he fun i y hi hy hiy => one i y hiy (hpl y (by simp [hy])), rest, ?_, rfl⟩
     by_cases hcap : cap = 0
     ·have : rest = [] := List.length_eq_zero_iff.1 (by omega)
      subst this
      split
      ·rw [show cap - len = 0 by omega]; rfl
      ·rfl
     ·have : sp a.block = true := by
       have := hs (.cell a.block (a.off + 0)) (by
        simp only [List.mem_append]
        refine .inl (MemPlace.mem_row.2 ⟨0, ?_, rfl⟩)
        rw [hlen, hrlen, show len + (cap - len) = cap by omega]
        exact Nat.mul_pos (by omega) hk)
       exact this
      rw [if_pos this]
      exact mapM_carry' hr fun j y hj hy hjy => one _ y hjy (hpl y (by simp [hy]))
    ·cases h
   case h_7 => exact h
   case h_9 fs cs' hu =>
    rw [hu] at hg
    simp only at hg
    split at h
    ·rename_i hl
     rw [if_pos hl]
     simp only [Option.map_eq_some_iff] at h ⊢
     obtain ⟨xs, hx, rfl⟩ := h
     refine ⟨xs, mapM_carry' hx fun f y hf hy hfy => ih n f.type _ y (List.all_eq_true.1 hg f hf) hfy fun p hp => hs p ?_, rfl⟩
     exact List.mem_flatMap.2 ⟨y, hy, hp⟩
    ·cases h
   case h_10 =>
    rename_i e hu
    rw [hu] at hg
    simp only at hg
    split at h
    ·rename_i hl
     rw [if_pos hl]
     simp only [Option.map_eq_some_iff] at h ⊢
     obtain ⟨xs, hx, rfl⟩ := h
     refine ⟨xs, mapM_carry' hx fun f y hf hy hfy => ih n e _ y hg hfy fun p hp => hs p ?_, rfl⟩
     exact List.mem_flatMap.2 ⟨y, hy, hp⟩
    ·cases h
   all_goals simp_all
theorem trod_move {w' : World} {sp : Nat → Bool} {t : TypeId} {v : Value} {d : DataW H} {ps : List MemPlace} (hg : goodT P 8 t = true) (h : DataW.Trod enc P w base (fun _ => true) held t v d ps)
  (hsame : ∀ p ∈ ps, w.sameAt w' p) (hs : ∀ p ∈ ps, sp p.block = true) : DataW.Trod enc P w' base sp held t v d ps := by
 obtain ⟨n, hn⟩ := h
 exact ⟨n, trod_spare 8 n t _ _ hg (DataW.trod_carry n t _ _ hn hsame) hs⟩
theorem trodAll_move {w' : World} {sp : Nat → Bool} : ∀ {ts : List TypeId} {vs : List Value} {ds : List (DataW H)} {ps : List MemPlace}, ts.all (goodT P 8) = true → DataW.TrodAll enc P w base (fun _ => true) held ts vs ds ps →
  (∀ p ∈ ps, w.sameAt w' p) → (∀ p ∈ ps, sp p.block = true) → DataW.TrodAll enc P w' base sp held ts vs ds ps := by
 intro ts
 induction ts with
 | nil =>
  intro vs ds ps _ h _ _
  obtain ⟨rfl, rfl, rfl⟩ := trodAll_nil h
  rfl
 | cons t ts ih =>
  intro vs ds ps hg h hsame hs
  obtain ⟨v, vs', d, ds', p, q, rfl, rfl, rfl, h1, h2⟩ := trodAll_cons h
  simp only [List.all_cons, Bool.and_eq_true] at hg
  exact ⟨p, q, trod_move hg.1 h1 (fun x hx => hsame x (by simp [hx])) (fun x hx => hs x (by simp [hx])), ih hg.2 h2 (fun x hx => hsame x (by simp [hx])) (fun x hx => hs x (by simp [hx])), rfl⟩
theorem post_law {f : Func} {s : ChangeSpec} {W W' : World} {args : Array Value} {ds gs : List (DataW H)} {before : List MemPlace} {tb : TypeId} (hW : DataW.Whole enc P f.params.toList s.vars false W args.toList ds gs before)
  (hv : s.vars = []) (hfn : s.fn H ds = { results := [.lit (.bool true)], args := ds }) (hrt : f.resultTypes = #[tb]) (htb : P.underlying tb = some .bool) (hgood : f.params.toList.all (goodT P 8) = true) (hb : Below W.heap.size W W') :
  s.post enc P f false true false false W args (.bool true) W' := by
 have hW0 := hW
 obtain ⟨p, q, hA, hV, rfl, _, _⟩ := hW
 rw [hv] at hV
 obtain ⟨rfl, rfl⟩ := trodVars_none hV
 have hlt : ∀ x ∈ p ++ [], x.block < W.heap.size := fun x hx => hW0.lt x hx
 have hsame : ∀ x ∈ p, W.sameAt W' x := fun x hx => hb.same (hlt x (by simpa using hx))
 refine ⟨ds, [], p ++ [], [], p, [], hW0, ?_, ?_, ?_, hb.frame _, fun h => by cases h⟩
 ·simp only [List.append_nil, hfn, hrt]
  exact trodAll_mk1 (shut_bool htb _)
 ·simp only [List.append_nil, hfn]
  exact trodAll_move hgood hA hsame fun x hx => by simpa using hlt x (by simpa using hx)
 ·simp only [List.append_nil, hfn, hv]
  rfl
end
def HReads (E : Env) (t : TypeId) (c : Nat) (In : E.G.car c → Prop) : Prop :=
 E.P.cellsOf t = E.G.sz c ∧ ∀ (H : Type) (e : TypeId × Value → H) (w : World) (base : Nat) (sp : Nat → Bool) (held : Bool) (fuel : Nat) (cs : List Value) (x : DataW H × List MemPlace),
  DataW.trod e E.P w base sp held fuel t cs = some x → ∃ a : E.G.car c, HdL E.G (IsCells w) w (E.G.enc c a) cs ∧ In a
section
variable {E : Env} {H : Type} {e : TypeId × Value → H} {w : World} {base : Nat} {sp : Nat → Bool} {held : Bool}
theorem HReads.at {t : TypeId} {c off : Nat} {In : E.G.car c → Prop} {cs : List Value} (hR : HReads E t c In)
  (hx : ∃ fuel y, DataW.trod e E.P w base sp held fuel t ((cs.drop off).take (E.P.cellsOf t)) = some y) : ∃ a, HdL E.G (IsCells w) w (E.G.enc c a) ((cs.drop off).take (E.G.sz c)) ∧ In a := by
 obtain ⟨fuel, y, h⟩ := hx
 rw [hR.1] at h
 exact hR.2 _ _ _ _ _ _ _ _ _ h
theorem law_calls {k : Nat} {ps : List PK} {t : Nat} {es : List Nat} {f : AT E.G.car ps → Option (E.G.car t)} (hc : CSok E [] ⟨k, ps, [.v t false es], f⟩) (hglo : E.glo = []) (b : E.G.car t) (hb : E.G.enc t b = [.v (.bool true)])
  {vs : List Value} {xs : AT E.G.car ps} (ha : ArgsAre E (IsCells w) w ps xs vs) (hm : f xs = some b) :
  Calls E.P k vs.toArray w fun e w' => e = .returned (.bool true) ∧ Below w.heap.size w w' := by
 have h := hc.ok (IsCells w) w vs xs ⟨fun _ => { b := 0, p := none, n := 0, c := 0 }, by rw [hglo]; exact And.intro (fun p hp => nomatch hp) (fun q hq => nomatch hq)⟩ (fun _ h => h) ha b hm
 refine h.mono fun e' w' ⟨us, ms, A', h1, h2, _, _, _, h3, _⟩ => ⟨?_, h2.below⟩
 obtain ⟨v, rfl, us', h4, h5⟩ := h3
 simp only [Bool.false_eq_true, if_false] at h5
 subst h5
 have h4 : ResCells E.G A' w.heap.size w' (E.G.enc t b) es [v] ms := h4
 rw [hb] at h4
 obtain ⟨us2, h6, _⟩ := h4
 cases h6
 exact h1
end
end Go.KX
