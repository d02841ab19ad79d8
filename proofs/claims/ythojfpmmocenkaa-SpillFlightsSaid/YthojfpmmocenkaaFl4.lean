/- Texts PWG, PWH, PWI, AwB, PWJ, KFR: own work; each part says what it is. -/
import Derived.Test.YthojfpmmocenkaaFl3
import Derived.Handed
import Derived.OpenShut
import Derived.ChangeSlices
import Derived.JoinedOf
namespace Go.Proofs.Sp
open Go Go.KX

noncomputable def firstE : List (Job × Int) → Int
  | [] => 0
  | x :: l => if x.2 ≠ 0 then x.2 else firstE l
open Classical in
noncomputable def jobsV (f : Field) (t : Fleet) (l : List Flight) : List Job × Int :=
  if checkV f ≠ 0 then ([], checkV f) else if ¬ FleetOK f.Cells.length t then ([], 120) else if 12 < l.length then ([], 2)
  else if firstE (l.map (jobE f t)) ≠ 0 then ([], firstE (l.map (jobE f t))) else (l.map fun x => (jobE f t x).1, 0)

structure FlsB (l : List Flight) : Prop where
  len : l.length ≤ 1000
  p : ∀ x ∈ l, x.Path.length ≤ 1000

theorem jobs_eq {F : Nat} (hF : 2000 < F) {f : Field} {t : Fleet} {l : List Flight} (hl : f.Cells.length ≤ 100) (hb : FlsB l) : spill_jobs F f t l = some (jobsV f t l) := by
  refine Ok.eq ?_
  unfold spill_jobs jobsV
  refine ok_bnde (Check_eq (by show f.Cells.length < F; omega)) (ok_brk (fun hc => ?_) (fun hc => ?_))
  · have hc : checkV f ≠ 0 := by simpa using hc
    rw [if_pos hc]
    refine ok_join (by omega) (fun e : Int => e = checkV f) (fun e he => ?_) fun k hk => ?_
    · subst he
      exact ok_brkT (by simpa using hc) (ok_some rfl)
    · refine ok_brkF ?_ (hk _ rfl)
      rw [show (checkV f == 0) = false from beq_eq_false_iff_ne.2 hc]; rfl
  have hc : checkV f = 0 := by simpa using hc
  have hf := checkV_ok hc
  rw [if_neg (by omega)]
  refine ok_bnde (right_eq hl) (ok_brk (fun ht => ok_some ?_) (fun ht => ?_))
  · rw [if_pos (nd_true ht)]
  have ht := nd_false ht
  rw [if_neg (fun q => q ht)]
  refine ok_join (by omega) (fun e : Int => (e = 2 ∧ 12 < l.length) ∨ (e = 0 ∧ ¬ 12 < l.length)) (fun e he => ?_) fun k hk => ?_
  · rcases he with ⟨rfl, h12⟩ | ⟨rfl, h12⟩
    · exact ok_brkT rfl (ok_some (by rw [if_pos h12]))
    · rw [if_neg h12]
      refine ok_brkF rfl ?_
      refine ok_rest (d := f0) (fun x : List Job × Int => x.2) (fun x rest => firstE (l.map (jobE f t)) = firstE (rest.map (jobE f t)) ∧ x.1 ++ (rest.map fun x => (jobE f t x).1) = l.map fun x => (jobE f t x).1) (by have := hb.len; omega) rfl ⟨rfl, rfl⟩ ?_ ?_
      · rintro ⟨out, i⟩ next i1 i2 ⟨i3, i4⟩ hm hn
        simp only at i1 i2 i3 i4 hm hn
        dsimp only
        have hlen := hb.len
        have hol : out.length ≤ 1000 := by
          have := congrArg List.length i4
          simp only [List.length_append, List.length_map, List.map_cons, List.length_cons] at this
          omega
        refine ok_brkT (decide_eq_true (by omega)) (ok_chk ⟨i1, i2⟩ ?_)
        generalize hx : l.getD i.toNat f0 = x at i3 i4 hm
        refine ok_bnde (b := jobE f t x) (job_eq hF hf ht (x := ⟨x.From, x.Path⟩) (hb.p x hm)) (ok_brk (fun hq => ok_some ?_) (fun hq => ?_))
        · have hq : (jobE f t x).2 ≠ 0 := by simpa using hq
          have e : firstE ((x :: l.drop (i.toNat + 1)).map (jobE f t)) = (jobE f t x).2 := by rw [List.map_cons, firstE, if_pos hq]
          rw [i3, e, if_pos hq]
        · have hq : (jobE f t x).2 = 0 := by simpa using hq
          have e : firstE ((x :: l.drop (i.toNat + 1)).map (jobE f t)) = firstE ((l.drop (i.toNat + 1)).map (jobE f t)) := by rw [List.map_cons, firstE, if_neg (fun t => t hq)]
          refine ok_chk (by simp; omega) (ok_chk (show InR _ from ⟨by omega, by omega⟩) (hn _ rfl ⟨by rw [i3, e], ?_⟩))
          rw [← i4, List.map_cons]
          show (out ++ [(jobE f t x).1]) ++ _ = out ++ _
          rw [List.append_assoc]; rfl
      · rintro ⟨out, i⟩ next i1 ⟨i3, i4⟩
        simp only at i1 i3 i4
        dsimp only
        refine ok_brkF (decide_eq_false (by omega)) (ok_some ?_)
        rw [if_neg (by rw [i3]; simp [firstE])]
        simp only [List.map_nil, List.append_nil] at i4
        rw [i4]
  · refine ok_brk (fun h => hk _ (.inl ⟨rfl, by have := of_decide_eq_true h; omega⟩)) (fun h => hk _ (.inr ⟨rfl, by have := of_decide_eq_false h; omega⟩))

theorem asked_eq {F : Nat} (hF : 2000 < F) {f : Field} {t : Fleet} {l : List Flight} (hl : f.Cells.length ≤ 100) (hb : FlsB l) : ref11_asked F f t l = some (jobsV f t l).2 := by
  refine Ok.eq ?_
  unfold ref11_asked jobsV
  refine ok_bnde (refCheck_eq (by show f.Cells.length < F; omega)) (ok_brk (fun hc => ok_some ?_) (fun hc => ?_))
  · have hc : checkV f ≠ 0 := by simpa using hc
    rw [if_pos hc]
  have hc : checkV f = 0 := by simpa using hc
  have hf := checkV_ok hc
  rw [if_neg (by omega)]
  refine ok_bnde (refFleet_eq hl) (ok_brk (fun ht => ok_some ?_) (fun ht => ?_))
  · rw [if_pos (nd_true ht)]
  have ht := nd_false ht
  rw [if_neg (fun q => q ht)]
  refine ok_brk (fun h => ok_some (by rw [if_pos (by have := of_decide_eq_true h; omega)])) (fun h => ?_)
  rw [if_neg (by have := of_decide_eq_false h; omega)]
  refine ok_rest (d := f0) (fun x : Int => x) (fun x rest => firstE (l.map (jobE f t)) = firstE (rest.map (jobE f t))) (by have := hb.len; omega) rfl rfl ?_ ?_
  · rintro i next i1 i2 i3 hm hn
    have hlen := hb.len
    refine ok_brkT (decide_eq_true (by omega)) (ok_chk ⟨i1, i2⟩ ?_)
    generalize hx : l.getD i.toNat f0 = x at i3 hm
    refine ok_bnde (refWorth1_eq hF hf ht (x := ⟨x.From, x.Path⟩) (hb.p x hm)) (ok_brk (fun hq => ok_some ?_) (fun hq => ?_))
    · have hq : (jobE f t x).2 ≠ 0 := by simpa using hq
      have e : firstE ((x :: l.drop (i.toNat + 1)).map (jobE f t)) = (jobE f t x).2 := by rw [List.map_cons, firstE, if_pos hq]
      rw [i3, e, if_pos hq]
    · have hq : (jobE f t x).2 = 0 := by simpa using hq
      have e : firstE ((x :: l.drop (i.toNat + 1)).map (jobE f t)) = firstE ((l.drop (i.toNat + 1)).map (jobE f t)) := by rw [List.map_cons, firstE, if_neg (fun t => t hq)]
      exact ok_chk (show InR _ from ⟨by omega, by omega⟩) (hn _ rfl (by rw [i3, e]))
  · rintro i next i1 i3
    refine ok_brkF (decide_eq_false (by omega)) (ok_some ?_)
    rw [if_neg (by rw [i3]; simp [firstE])]

/-- What flights that are right are. -/
structure JobsR (f : Field) (t : Fleet) (l : List Flight) (J : List Job) : Prop where
  fo : FieldOK f
  fl : FleetOK f.Cells.length t
  ok : JobsOK J
  len : l.length = J.length
  l12 : J.length ≤ 12
  ev : ∀ i, i < J.length → jobE f t (l.getD i f0) = (J.getD i j0, 0)
  fr : ∀ i, i < J.length → (J.getD i j0).f_from = (l.getD i f0).From

theorem firstE_zero : ∀ {l : List (Job × Int)}, firstE l = 0 → ∀ x ∈ l, x.2 = 0
  | x :: l, h, y, hy => by
    unfold firstE at h
    by_cases q : x.2 ≠ 0
    · rw [if_pos q] at h; exact absurd h q
    · rw [if_neg q] at h
      rcases List.mem_cons.1 hy with rfl | hy
      · exact Classical.not_not.1 q
      · exact firstE_zero h y hy

theorem jobE_ok {f : Field} {t : Fleet} {x : Flight} (hf : FieldOK f) (ht : FleetOK f.Cells.length t) (hP : x.Path.length ≤ 1000) (h : (jobE f t x).2 = 0) : JobOK (jobE f t x).1 ∧ (jobE f t x).1.f_from = x.From ∧ PathOK f t.Base x.Path ∧ (jobE f t x).1.f_worth = worthV f x.Path := by
  obtain ⟨h1, h2, -, -⟩ := hours_spec ht.2.2.1 hP
  have hw := worth_bound hf x.Path
  unfold jobE at h ⊢
  split at h
  · cases h
  rename_i q1
  rw [if_neg q1]
  split at h
  · cases h
  rename_i q2
  rw [if_neg q2]
  split at h
  · cases h
  rename_i q3
  rw [if_neg q3]
  split at h
  · cases h
  rename_i q4
  rw [if_neg q4]
  have q1 := Classical.not_not.1 q1
  have q2 := Classical.not_not.1 q2
  exact ⟨⟨by show 0 ≤ x.From; omega, by show x.From < x.From + hoursV t x.Path; omega, by show x.From + hoursV t x.Path ≤ 48; omega, hw.1, hw.2⟩, rfl, q2, rfl⟩

theorem jobsV_zero {f : Field} {t : Fleet} {l : List Flight} (hb : FlsB l) (h : (jobsV f t l).2 = 0) : JobsR f t l (jobsV f t l).1 := by
  unfold jobsV at h ⊢
  split at h
  · rename_i q; exact absurd h q
  rename_i q1
  rw [if_neg q1]
  split at h
  · cases h
  rename_i q2
  rw [if_neg q2]
  split at h
  · cases h
  rename_i q3
  rw [if_neg q3]
  split at h
  · rename_i q; exact absurd h q
  rename_i q4
  rw [if_neg q4]
  have hf := checkV_ok (Classical.not_not.1 q1)
  have ht := Classical.not_not.1 q2
  have h0 : ∀ x ∈ l, (jobE f t x).2 = 0 := fun x hx => firstE_zero (Classical.not_not.1 q4) _ (List.mem_map_of_mem hx)
  have hat : ∀ i, i < l.length → (l.map fun x => (jobE f t x).1).getD i j0 = (jobE f t (l.getD i f0)).1 := fun i hi => by
    rw [getD_get (by simpa using hi), List.getElem_map, getD_get hi]
  refine ⟨hf, ht, ⟨by rw [List.length_map]; omega, fun j hj => ?_⟩, by rw [List.length_map], by rw [List.length_map]; omega, fun i hi => ?_, fun i hi => ?_⟩
  · obtain ⟨x, hx, rfl⟩ := List.mem_map.1 hj
    exact (jobE_ok hf ht (hb.p x hx) (h0 x hx)).1
  · rw [List.length_map] at hi
    show _ = ((l.map fun x => (jobE f t x).1).getD i j0, 0)
    rw [hat i hi]
    exact Prod.ext rfl (h0 _ (getD_mem hi))
  · rw [List.length_map] at hi
    show ((l.map fun x => (jobE f t x).1).getD i j0).f_from = _
    rw [hat i hi]
    exact (jobE_ok hf ht (hb.p _ (getD_mem hi)) (h0 _ (getD_mem hi))).2.1
end Go.Proofs.Sp

namespace Go.Proofs.Sp
open Go Go.KX

/-- The greatest worth of a right choice. -/
structure Opt (J : List Job) (k n : Int) : Prop where
  has : ∃ ch, ch.length = J.length ∧ (∀ h, h < 48 → cov J ch h ≤ k) ∧ val J ch = n
  le : ∀ ch, (∀ h, h < 48 → cov J ch h ≤ k) → val J ch ≤ n
theorem Opt.one {J : List Job} {k n m : Int} (h : Opt J k n) (h' : Opt J k m) : n = m := by
  obtain ⟨c, _, c1, c2⟩ := h.has
  obtain ⟨d, _, d1, d2⟩ := h'.has
  have := h.le d d1
  have := h'.le c c1
  omega

theorem ChOK.cov {J : List Job} {k : Int} {ch : List Bool} {idle : List Int} {p : Nat → Int} (h : ChOK J k ch idle p) : ∀ q, q < 48 → Sp.cov J ch q ≤ k := fun q hq => by
  have := h.ct q hq
  have := h.i0 q hq
  omega

theorem ChOK.opt {J : List Job} (hJ : JobsOK J) {k : Int} {ch : List Bool} {idle : List Int} {p : Nat → Int} (h : ChOK J k ch idle p) : Opt J k (val J ch) := by
  refine ⟨⟨ch, h.lc, h.cov, rfl⟩, fun ch' hc' => ?_⟩
  obtain ⟨r, _, hr⟩ := costs_ok (F := 1000000000000) (by omega) hJ h.lc h.li h.fs h.p0 h.pb
  obtain ⟨s1, s2⟩ := strong hJ h.lc h.i0 h.ct hr.fs
  rw [← s2]
  exact weak s1 hc'

theorem val_bound {J : List Job} (hJ : JobsOK J) (ch : List Bool) (n : Nat) (hn : n ≤ J.length) : 0 ≤ (sumN n fun i => if ch.getD i false = true then (J.getD i j0).f_worth else 0) ∧ (sumN n fun i => if ch.getD i false = true then (J.getD i j0).f_worth else 0) ≤ 768000000 := by
  have b1 := sumN_nonneg (f := fun i => if ch.getD i false = true then (J.getD i j0).f_worth else 0) n fun i hi => by
    have := hJ.at (show i < J.length by omega)
    obtain ⟨_, _, _, w0, w1⟩ := this
    split <;> omega
  have b2 := sumN_bound (f := fun i => if ch.getD i false = true then (J.getD i j0).f_worth else 0) (B := 64000000) n fun i hi => by
    have := hJ.at (show i < J.length by omega)
    obtain ⟨_, _, _, w0, w1⟩ := this
    split <;> omega
  have := hJ.len
  omega

theorem Best_ok {F : Nat} (hF : 100000000000 < F) {f : Field} {t : Fleet} {l : List Flight} (hl : f.Cells.length ≤ 100) (hb : FlsB l) :
    Ok (fun r : List Bool × Int × Int => ((jobsV f t l).2 ≠ 0 ∧ r = ([], 0, (jobsV f t l).2)) ∨ ((jobsV f t l).2 = 0 ∧ r.2.2 = 0 ∧ r.1.length = (jobsV f t l).1.length ∧ (∀ h, h < 48 → cov (jobsV f t l).1 r.1 h ≤ t.Count) ∧ val (jobsV f t l).1 r.1 = r.2.1 ∧ Opt (jobsV f t l).1 t.Count r.2.1)) (spill_Best F f t l) := by
  unfold spill_Best
  refine ok_bnde (jobs_eq (by omega) hl hb) (ok_brk (fun h => ok_some (.inl ⟨by simpa using h, rfl⟩)) (fun h => ?_))
  have hz : (jobsV f t l).2 = 0 := by simpa using h
  have hR := jobsV_zero hb hz
  generalize hJv : (jobsV f t l).1 = J at hR ⊢
  have hk := hR.fl.2.2.2
  refine ok_bnd _ (choose_ok hF hR.ok (by omega)) ?_
  rintro ⟨ch, idle⟩ ⟨p, hC⟩
  simp only at hC
  dsimp only
  have hJl := hR.l12
  have hlc := hC.lc
  refine ok_loop (fun x : Int × Int => 0 ≤ x.2 ∧ x.2 ≤ J.length ∧ x.1 = sumN x.2.toNat fun i => if ch.getD i false = true then (J.getD i j0).f_worth else 0) (fun x => J.length - x.2.toNat) ⟨by simp, by simp, rfl⟩ (by simp; omega) ?_
  rintro ⟨n, i⟩ next ⟨i1, i2, i3⟩ hn
  simp only at i1 i2 i3
  dsimp only
  refine ok_brk (fun hc => ?_) (fun hc => ok_some ?_)
  · have hc : i < J.length := of_decide_eq_true hc
    have hst : (sumN (i + 1).toNat fun i => if ch.getD i false = true then (J.getD i j0).f_worth else 0) = n + if ch.getD i.toNat false = true then (J.getD i.toNat j0).f_worth else 0 := by
      rw [show (i + 1).toNat = i.toNat + 1 by omega]
      simp only [sumN]
      rw [← i3]
    have b1 := val_bound hR.ok ch i.toNat (by omega)
    have b2 := val_bound hR.ok ch (i + 1).toNat (by omega)
    refine ok_join (by omega) (fun y : Int => y = sumN (i + 1).toNat fun i => if ch.getD i false = true then (J.getD i j0).f_worth else 0) (fun y hy => ok_chk (show InR _ from ⟨by omega, by omega⟩) (hn _ ⟨by show 0 ≤ i + 1; omega, by show i + 1 ≤ _; omega, hy⟩ (by show J.length - (i + 1).toNat < J.length - i.toNat; omega))) fun k hk => ?_
    refine ok_chk ⟨i1, hc⟩ (ok_chk ⟨i1, by omega⟩ (ok_brk (fun hb => ?_) (fun hb => ?_)))
    · rw [if_pos hb] at hst
      exact ok_chk (show InR _ from ⟨by show -9223372036854775808 ≤ n + (J.getD i.toNat j0).f_worth; omega, by show n + (J.getD i.toNat j0).f_worth ≤ _; omega⟩) (hk _ hst.symm)
    · rw [if_neg (by rw [hb]; exact Bool.false_ne_true)] at hst
      exact hk _ (by omega)
  · have hc : ¬ i < J.length := of_decide_eq_false hc
    rw [show i.toNat = J.length by omega] at i3
    have e : val J ch = n := i3.symm
    refine .inr ⟨hz, rfl, hlc, hC.cov, e, ?_⟩
    show Opt J t.Count n
    rw [← e]; exact hC.opt hR.ok

structure PrR (J : List Job) (k : Int) (pr : List Int) : Prop where
  l : pr.length = 48
  b : ∀ h, h < 48 → 0 ≤ pr.getD h 0 ∧ pr.getD h 0 ≤ 1000000000
  o : Opt J k (bnd' J k fun h => pr.getD h 0)

theorem tot_congr {J : List Job} {p q : Nat → Int} (h : ∀ i, i < 48 → p i = q i) (i : Nat) : tot J p i = tot J q i := by
  unfold tot
  apply sumN_congr
  intro x hx
  rw [h x hx]
theorem bnd_congr {J : List Job} {k : Int} {p q : Nat → Int} (h : ∀ i, i < 48 → p i = q i) : bnd' J k p = bnd' J k q := by
  unfold bnd'
  rw [sumN_congr 48 h]
  congr 1
  apply sumN_congr
  intro i _
  rw [tot_congr h]

theorem Prices_ok {F : Nat} (hF : 100000000000 < F) {f : Field} {t : Fleet} {l : List Flight} (hl : f.Cells.length ≤ 100) (hb : FlsB l) :
    Ok (fun r : List Int × Int => ((jobsV f t l).2 ≠ 0 ∧ r = ([], (jobsV f t l).2)) ∨ ((jobsV f t l).2 = 0 ∧ r.2 = 0 ∧ PrR (jobsV f t l).1 t.Count r.1)) (spill_Prices F f t l) := by
  unfold spill_Prices
  refine ok_bnde (jobs_eq (by omega) hl hb) (ok_brk (fun h => ok_some (.inl ⟨by simpa using h, rfl⟩)) (fun h => ?_))
  have hz : (jobsV f t l).2 = 0 := by simpa using h
  have hR := jobsV_zero hb hz
  generalize hJv : (jobsV f t l).1 = J at hR ⊢
  have hk := hR.fl.2.2.2
  refine ok_bnd _ (choose_ok hF hR.ok (by omega)) ?_
  rintro ⟨ch, idle⟩ ⟨p, hC⟩
  simp only at hC
  dsimp only
  refine ok_bnd _ (costs_ok hF hR.ok hC.lc hC.li hC.fs hC.p0 hC.pb) ?_
  rintro ⟨cost, bys⟩ ⟨hci, hfs⟩
  simp only at hci hfs
  dsimp only
  obtain ⟨s1, s2⟩ := strong hR.ok hC.lc hC.i0 hC.ct hfs
  have hlc := hci.lc
  have hcb : ∀ v, v < 49 → -1000000000 ≤ cost.getD v 0 ∧ cost.getD v 0 ≤ 0 := fun v hv => ⟨by have := hci.lo v hv; have := hC.pb v hv; omega, hci.hi v hv⟩
  have hr48 : (List.replicate (Int.toNat 48) (0 : Int)).length = 48 := by rw [List.length_replicate]; rfl
  rw [hr48]
  refine ok_chk ⟨by omega, by omega, by omega⟩ ?_
  refine ok_loop (fun x : Int × List Int => 0 ≤ x.1 ∧ x.1 ≤ 48 ∧ x.2.length = 48 ∧ ∀ h : Nat, (h : Int) < x.1 → x.2.getD h 0 = prc cost h) (fun x => 48 - x.1.toNat) ⟨by simp, by simp, hr48, fun h hh => by (have hh : (h : Int) < 0 := hh); omega⟩ (by simp; omega) ?_
  rintro ⟨i, pr⟩ next ⟨i1, i2, i3, i4⟩ hn
  simp only at i1 i2 i3 i4
  dsimp only
  refine ok_brk (fun hc => ?_) (fun hc => ok_some ?_)
  · have hc : i < ((48 : Nat) : Int) := of_decide_eq_true hc
    have b1 := hcb i.toNat (by omega)
    have b2 := hcb (i + 1).toNat (by omega)
    refine ok_chk ⟨i1, by omega⟩ (ok_chk (show InR _ from ⟨by omega, by omega⟩) (ok_chk ⟨by omega, by omega⟩ (ok_chk (show InR _ from ⟨by omega, by omega⟩) (ok_chk ⟨i1, by omega⟩ (ok_chk (show InR _ from ⟨by omega, by omega⟩) (hn _ ⟨by show 0 ≤ i + 1; omega, by show i + 1 ≤ 48; omega, by show (pr.set _ _).length = 48; rw [List.length_set]; exact i3, fun h hh => ?_⟩ (by show 48 - (i + 1).toNat < 48 - i.toNat; omega)))))))
    have hh : (h : Int) < i + 1 := hh
    show (pr.set i.toNat (cost.getD i.toNat 0 - cost.getD (i + 1).toNat 0)).getD h 0 = prc cost h
    rw [getD_set' (by omega)]
    by_cases e : i.toNat = h
    · rw [if_pos e, ← e]
      unfold prc
      rw [show (i + 1).toNat = i.toNat + 1 by omega]
    · rw [if_neg e]; exact i4 h (by omega)
  · have hc : ¬ i < ((48 : Nat) : Int) := of_decide_eq_false hc
    have e : ∀ h, h < 48 → pr.getD h 0 = prc cost h := fun h hh => i4 h (by omega)
    refine .inr ⟨hz, rfl, i3, fun h hh => ?_, ?_⟩
    · show 0 ≤ pr.getD h 0 ∧ pr.getD h 0 ≤ 1000000000
      rw [e h hh]
      have := s1 h hh
      have := hcb h (by omega)
      have := hcb (h + 1) (by omega)
      unfold prc at *
      omega
    · show Opt J t.Count (bnd' J t.Count fun h => pr.getD h 0)
      rw [bnd_congr (q := prc cost) e, s2]
      exact hC.opt hR.ok

/-! ### Bounds -/

theorem seg {g : Nat → Int} {a b : Nat} (hab : a ≤ b) : ∀ n : Nat, (sumN n fun h => if (a : Int) ≤ h ∧ (h : Int) < b then g h else 0) = sumN (min n b - a) fun q => g (a + q)
  | 0 => by rw [show min 0 b - a = 0 by omega]; rfl
  | n + 1 => by
    have ih := seg (g := g) hab n
    simp only [sumN]
    rw [ih]
    by_cases q : a ≤ n ∧ n < b
    · rw [if_pos (⟨by omega, by omega⟩ : (a : Int) ≤ n ∧ (n : Int) < b), show min (n + 1) b - a = (min n b - a) + 1 by omega]
      simp only [sumN]
      rw [show a + (min n b - a) = n by omega]
    · rw [if_neg (fun t : (a : Int) ≤ n ∧ (n : Int) < b => q ⟨by omega, by omega⟩)]
      by_cases q2 : n < b
      · rw [show min (n + 1) b - a = 0 by omega, show min n b - a = 0 by omega]; rfl
      · rw [show min (n + 1) b = b by omega, show min n b = b by omega]; omega

theorem tot_seg {J : List Job} (hJ : JobsOK J) {i : Nat} (hi : i < J.length) (pr : Nat → Int) : tot J pr i = sumN ((J.getD i j0).f_to - (J.getD i j0).f_from).toNat fun q => pr ((J.getD i j0).f_from.toNat + q) := by
  obtain ⟨j1, j2, j3, j4, j5⟩ := hJ.at hi
  have := seg (g := pr) (a := (J.getD i j0).f_from.toNat) (b := (J.getD i j0).f_to.toNat) (by omega) 48
  rw [show min 48 (J.getD i j0).f_to.toNat - (J.getD i j0).f_from.toNat = ((J.getD i j0).f_to - (J.getD i j0).f_from).toNat by omega, show (((J.getD i j0).f_from.toNat : Nat) : Int) = (J.getD i j0).f_from by omega, show (((J.getD i j0).f_to.toNat : Nat) : Int) = (J.getD i j0).f_to by omega] at this
  exact this

abbrev PrB (pr : List Int) : Prop := ∀ n ∈ pr, 0 ≤ n ∧ n ≤ 1000000000
theorem PrB.get {pr : List Int} (h : PrB pr) (i : Nat) : 0 ≤ pr.getD i 0 ∧ pr.getD i 0 ≤ 1000000000 := by
  by_cases hi : i < pr.length
  · exact h _ (getD_mem hi)
  · rw [List.getD_eq_getElem?_getD, List.getElem?_eq_none (Nat.le_of_not_lt hi)]; exact ⟨by show (0 : Int) ≤ 0; omega, by show (0 : Int) ≤ _; omega⟩

open Classical in
noncomputable def boundV (f : Field) (t : Fleet) (l : List Flight) (pr : List Int) : Int × Int :=
  if (jobsV f t l).2 ≠ 0 then (0, (jobsV f t l).2) else if pr.length ≠ 48 then (0, 1) else if ¬ PrB pr then (0, 6) else (bnd' (jobsV f t l).1 t.Count fun h => pr.getD h 0, 0)

/-- Sums of prices are small. -/
theorem pr_bound {pr : List Int} (h : PrB pr) (a n : Nat) : 0 ≤ (sumN n fun q => pr.getD (a + q) 0) ∧ (sumN n fun q => pr.getD (a + q) 0) ≤ 1000000000 * n :=
  ⟨sumN_nonneg _ fun q _ => (h.get _).1, sumN_bound _ fun q _ => (h.get _).2⟩

theorem part_bound {J : List Job} (hJ : JobsOK J) {pr : List Int} (h : PrB pr) (n : Nat) (hn : n ≤ J.length) : 0 ≤ (sumN n fun i => max0 ((J.getD i j0).f_worth - tot J (fun h => pr.getD h 0) i)) ∧ (sumN n fun i => max0 ((J.getD i j0).f_worth - tot J (fun h => pr.getD h 0) i)) ≤ 768000000 := by
  have b1 := sumN_nonneg (f := fun i => max0 ((J.getD i j0).f_worth - tot J (fun h => pr.getD h 0) i)) n fun i _ => (max0_ge _).2
  have b2 := sumN_bound (f := fun i => max0 ((J.getD i j0).f_worth - tot J (fun h => pr.getD h 0) i)) (B := 64000000) n fun i hi => by
    obtain ⟨_, _, _, w0, w1⟩ := hJ.at (show i < J.length by omega)
    have : 0 ≤ tot J (fun h => pr.getD h 0) i := sumN_nonneg _ fun q _ => by
      have := (h.get q).1
      split <;> omega
    unfold max0
    split <;> omega
  have := hJ.len
  omega

theorem mul_bd {k c B : Int} (hk : 0 ≤ k ∧ k ≤ 6) (hc : 0 ≤ c ∧ c ≤ B) : 0 ≤ k * c ∧ k * c ≤ 6 * B :=
  ⟨Int.mul_nonneg hk.1 hc.1, Int.le_trans (Int.mul_le_mul_of_nonneg_right hk.2 hc.1) (Int.mul_le_mul_of_nonneg_left hc.2 (by omega))⟩

theorem bound1_eq (F : Nat) (c : Int) : spill_Bound_1 F c = some (!decide (0 ≤ c ∧ c ≤ 1000000000)) := by
  show some (!(decide (c ≥ 0) && decide (c ≤ 1000000000))) = _
  rw [wd]

theorem Bound_eq {F : Nat} (hF : 100000000000 < F) {f : Field} {t : Fleet} {l : List Flight} {pr : List Int} (hl : f.Cells.length ≤ 100) (hb : FlsB l) (hpl : pr.length ≤ 1000) : spill_Bound F f t l pr = some (boundV f t l pr) := by
  refine Ok.eq ?_
  unfold spill_Bound boundV
  refine ok_bnde (jobs_eq (by omega) hl hb) (ok_brk (fun h => ok_some (by rw [if_pos (by simpa using h)])) (fun h => ?_))
  have hz : (jobsV f t l).2 = 0 := by simpa using h
  have hR := jobsV_zero hb hz
  rw [if_neg (fun q => q hz)]
  generalize hJv : (jobsV f t l).1 = J at hR ⊢
  have hk := hR.fl.2.2.2
  have hJl := hR.l12
  refine ok_brk (fun h => ok_some ?_) (fun h => ?_)
  · have h : (pr.length : Int) ≠ 48 := by simpa using h
    rw [if_pos (by omega)]
  have h : (pr.length : Int) = 48 := by simpa using h
  have h48 : pr.length = 48 := by omega
  rw [if_neg (fun q => q h48)]
  refine ok_join (by omega) (fun i : Int => (i = -1 ∧ PrB pr) ∨ (0 ≤ i ∧ ¬ PrB pr)) (fun i hi => ok_brk (fun hb => ok_some ?_) (fun hb => ?_)) fun k hk => ?_
  · have hb : i ≥ 0 := of_decide_eq_true hb
    rcases hi with ⟨rfl, _⟩ | ⟨_, q⟩
    · omega
    · rw [if_pos q]
  · have hb : ¬ i ≥ 0 := of_decide_eq_false hb
    have hp : PrB pr := by
      rcases hi with ⟨_, q⟩ | ⟨q, _⟩
      · exact q
      · omega
    rw [if_neg (fun q => q hp)]
    rw [h48]
    have sb := fun n => pr_bound hp 0 n
    simp only [Nat.zero_add] at sb
    refine ok_loop (fun x : Int × Int => 0 ≤ x.1 ∧ x.1 ≤ 48 ∧ x.2 = t.Count * sumN x.1.toNat fun h => pr.getD h 0) (fun x => 48 - x.1.toNat) ⟨by simp, by simp, by show 0 = t.Count * 0; rw [Int.mul_zero]⟩ (by simp; omega) ?_
    rintro ⟨i, s⟩ next ⟨i1, i2, i3⟩ hn
    simp only at i1 i2 i3
    dsimp only
    refine ok_brk (fun hc => ?_) (fun hc => ?_)
    · have hc : i < ((48 : Nat) : Int) := of_decide_eq_true hc
      have b0 := sb i.toNat
      have b1 := mul_bd (k := t.Count) (c := sumN i.toNat fun h => pr.getD h 0) (B := 48000000000) ⟨by omega, hk.2⟩ ⟨b0.1, by omega⟩
      have b2 := mul_bd ⟨by omega, hk.2⟩ (hp.get i.toNat)
      have hst : (t.Count * sumN (i + 1).toNat fun h => pr.getD h 0) = s + t.Count * pr.getD i.toNat 0 := by
        rw [show (i + 1).toNat = i.toNat + 1 by omega]
        simp only [sumN]
        rw [Int.mul_add, i3]
      rw [← i3] at b1
      exact ok_chk ⟨i1, hc⟩ (ok_chk (show InR _ from ⟨by omega, by omega⟩) (ok_chk (show InR _ from ⟨by omega, by omega⟩) (ok_chk (show InR _ from ⟨by omega, by omega⟩) (hn _ ⟨by show 0 ≤ i + 1; omega, by show i + 1 ≤ 48; omega, hst.symm⟩ (by show 48 - (i + 1).toNat < 48 - i.toNat; omega)))))
    have hc : ¬ i < ((48 : Nat) : Int) := of_decide_eq_false hc
    have b0 := sb 48
    have b1 := mul_bd (k := t.Count) (c := sumN 48 fun h => pr.getD h 0) (B := 48000000000) ⟨by omega, hk.2⟩ ⟨b0.1, by omega⟩
    rw [show i.toNat = 48 by omega] at i3
    clear hn
    rw [← i3] at b1
    refine ok_loop (fun x : Int × Int => 0 ≤ x.2 ∧ x.2 ≤ J.length ∧ x.1 = s + sumN x.2.toNat fun i => max0 ((J.getD i j0).f_worth - tot J (fun h => pr.getD h 0) i)) (fun x => J.length - x.2.toNat) ⟨by simp, by simp, by show s = s + 0; omega⟩ (by simp; omega) ?_
    rintro ⟨w, j⟩ next ⟨c1, c2, c3⟩ hn
    simp only at c1 c2 c3
    dsimp only
    refine ok_brk (fun hc => ?_) (fun hc => ok_some ?_)
    · have hc : j < J.length := of_decide_eq_true hc
      have hj : j.toNat < J.length := by omega
      have hts := tot_seg hR.ok hj fun h => pr.getD h 0
      obtain ⟨j1, j2, j3, j4, j5⟩ := hR.ok.at hj
      have p1 := part_bound hR.ok hp j.toNat (by omega)
      have p2 := part_bound hR.ok hp (j + 1).toNat (by omega)
      have hst : (sumN (j + 1).toNat fun i => max0 ((J.getD i j0).f_worth - tot J (fun h => pr.getD h 0) i)) = (sumN j.toNat fun i => max0 ((J.getD i j0).f_worth - tot J (fun h => pr.getD h 0) i)) + max0 ((J.getD j.toNat j0).f_worth - tot J (fun h => pr.getD h 0) j.toNat) := by
        rw [show (j + 1).toNat = j.toNat + 1 by omega]; rfl
      have hat : (J.getD j.toNat (Job.mk (0 : Int) (0 : Int) (0 : Int))) = J.getD j.toNat j0 := rfl
      rw [hat]
      have qb := fun n => pr_bound hp (J.getD j.toNat j0).f_from.toNat n
      generalize J.getD j.toNat j0 = X at j1 j2 j3 j4 j5 hts hst qb ⊢
      refine ok_chk ⟨c1, hc⟩ (ok_chk ⟨j1, by omega, by omega⟩ ?_)
      refine ok_loop (fun x : Int × Int => 0 ≤ x.1 ∧ x.1 ≤ X.f_to - X.f_from ∧ x.2 = X.f_worth - sumN x.1.toNat fun q => pr.getD (X.f_from.toNat + q) 0) (fun x => 48 - x.1.toNat) ⟨by simp, by show (0 : Int) ≤ _; omega, by show X.f_worth = X.f_worth - 0; omega⟩ (by simp; omega) ?_
      rintro ⟨q, left⟩ next1 ⟨d1, d2, d3⟩ hn1
      simp only at d1 d2 d3
      dsimp only
      have q0 := qb q.toNat
      refine ok_brk (fun hd => ?_) (fun hd => ?_)
      · have hd : q < X.f_to - X.f_from := of_decide_eq_true hd
        rw [show (X.f_from + q).toNat = X.f_from.toNat + q.toNat by omega]
        have gq := hp.get (X.f_from.toNat + q.toNat)
        refine ok_chk ⟨d1, hd⟩ (ok_chk (show InR _ from ⟨by omega, by omega⟩) (ok_chk (show InR _ from ⟨by omega, by omega⟩) (hn1 _ ⟨by show 0 ≤ q + 1; omega, by show q + 1 ≤ _; omega, ?_⟩ (by show 48 - (q + 1).toNat < 48 - q.toNat; omega))))
        show left - _ = X.f_worth - sumN (q + 1).toNat _
        rw [show (q + 1).toNat = q.toNat + 1 by omega]
        simp only [sumN]
        omega
      · have hd : ¬ q < X.f_to - X.f_from := of_decide_eq_false hd
        have e : left = X.f_worth - tot J (fun h => pr.getD h 0) j.toNat := by
          rw [hts, d3, show q.toNat = (X.f_to - X.f_from).toNat by omega]
        have em : (if left > 0 then left else 0) = max0 (X.f_worth - tot J (fun h => pr.getD h 0) j.toNat) := by rw [← e]; rfl
        rw [em]
        have hm := max0_ge (X.f_worth - tot J (fun h => pr.getD h 0) j.toNat)
        exact ok_chk (show InR _ from ⟨by omega, by omega⟩) (ok_chk (show InR _ from ⟨by omega, by omega⟩) (hn _ ⟨by show 0 ≤ j + 1; omega, by show j + 1 ≤ _; omega, by show w + _ = s + sumN (j + 1).toNat _; omega⟩ (by show J.length - (j + 1).toNat < J.length - j.toNat; omega)))
    · have hc : ¬ j < J.length := of_decide_eq_false hc
      rw [show j.toNat = J.length by omega] at c3
      rw [c3, i3]; rfl
  · refine ok_find (p := fun c => !decide (0 ≤ c ∧ c ≤ 1000000000)) (by omega) (by omega) (fun c _ => bound1_eq F c) (fun i hi hp => hk _ (.inr ⟨by omega, fun q => nd_true hp (q _ (getD_mem hi))⟩)) (fun hp => hk _ (.inl ⟨rfl, fun c hc => nd_false (hp c hc)⟩))
end Go.Proofs.Sp

namespace Go.Proofs.Sp
open Go Go.KX

/-! ### Choices as numbers -/

def bitI (s : Int) (i : Nat) : Bool := s / 2 ^ i % 2 == 1
theorem bitI_zero (s : Int) : bitI s 0 = (s % 2 == 1) := by unfold bitI; rw [Int.pow_zero, Int.ediv_one]
theorem ediv_pow_succ (s : Int) (i : Nat) : s / 2 ^ (i + 1) = s / 2 / 2 ^ i := by
  rw [Int.pow_succ, Int.mul_comm, Int.ediv_ediv_of_nonneg (by omega)]
theorem bitI_succ (s : Int) (i : Nat) : bitI s (i + 1) = bitI (s / 2) i := by unfold bitI; rw [ediv_pow_succ]

def encB : Nat → (Nat → Bool) → Nat
  | 0, _ => 0
  | n + 1, b => (if b 0 = true then 1 else 0) + 2 * encB n fun i => b (i + 1)
theorem enc_lt : ∀ (n : Nat) (b : Nat → Bool), encB n b < 2 ^ n
  | 0, _ => by simp [encB]
  | n + 1, b => by
    have := enc_lt n fun i => b (i + 1)
    simp only [encB]
    rw [Nat.pow_succ]
    split <;> omega
theorem enc_bit : ∀ (n : Nat) (b : Nat → Bool) (i : Nat), i < n → bitI (encB n b : Int) i = b i
  | n + 1, b, 0, _ => by
    rw [bitI_zero]
    simp only [encB]
    push_cast
    by_cases q : b 0 = true
    · rw [if_pos q, q]; simp
    · rw [if_neg q]
      have : b 0 = false := by simpa using q
      rw [this]; simp
  | n + 1, b, i + 1, hi => by
    have ih := enc_bit n (fun i => b (i + 1)) i (by omega)
    rw [bitI_succ]
    rw [show ((encB (n + 1) b : Nat) : Int) / 2 = (encB n fun i => b (i + 1) : Int) by
      simp only [encB]; push_cast; split <;> omega]
    exact ih

theorem pow12 {n : Nat} (h : n ≤ 12) : (1 : Int) ≤ 2 ^ n ∧ (2 : Int) ^ n ≤ 4096 := by
  have : n = 0 ∨ n = 1 ∨ n = 2 ∨ n = 3 ∨ n = 4 ∨ n = 5 ∨ n = 6 ∨ n = 7 ∨ n = 8 ∨ n = 9 ∨ n = 10 ∨ n = 11 ∨ n = 12 := by omega
  rcases this with rfl | rfl | rfl | rfl | rfl | rfl | rfl | rfl | rfl | rfl | rfl | rfl | rfl <;> decide

/-- The choice that a number is. -/
def chS (n : Nat) (s : Int) : List Bool := (List.range n).map (bitI s)
theorem chS_get {n : Nat} {s : Int} {i : Nat} (hi : i < n) : (chS n s).getD i false = bitI s i := by
  unfold chS
  rw [getD_get (by simpa using hi), List.getElem_map, List.getElem_range]

theorem val_congr {J : List Job} {c d : List Bool} (h : ∀ i, i < J.length → c.getD i false = d.getD i false) : val J c = val J d := by
  unfold val
  apply sumN_congr
  intro i hi
  rw [h i hi]
theorem cov_congr {J : List Job} {c d : List Bool} (h : ∀ i, i < J.length → c.getD i false = d.getD i false) (q : Nat) : cov J c q = cov J d q := by
  unfold cov
  apply sumN_congr
  intro i hi
  rw [h i hi]

/-! ### Parts of a choice -/

def covP (J : List Job) (ch : List Bool) (n q : Nat) : Int := sumN n fun i => if ch.getD i false = true ∧ on J i q then 1 else 0
def valP (J : List Job) (ch : List Bool) (n : Nat) : Int := sumN n fun i => if ch.getD i false = true then (J.getD i j0).f_worth else 0

theorem sumN_mono {f : Nat → Int} {m n : Nat} (h : m ≤ n) (hf : ∀ i, i < n → 0 ≤ f i) : sumN m f ≤ sumN n f := by
  induction n with
  | zero =>
    obtain rfl : m = 0 := by omega
    exact Int.le_refl _
  | succ n ih =>
    by_cases e : m = n + 1
    · subst e; exact Int.le_refl _
    · have := ih (by omega) fun i hi => hf i (by omega)
      have := hf n (by omega)
      simp only [sumN]; omega
theorem covP_le {J : List Job} {ch : List Bool} {n q : Nat} (h : n ≤ J.length) : covP J ch n q ≤ cov J ch q := sumN_mono h fun i _ => by split <;> omega
theorem covP_bound {J : List Job} {ch : List Bool} {n q : Nat} : 0 ≤ covP J ch n q ∧ covP J ch n q ≤ n := by
  have b1 := sumN_nonneg (f := fun i => if ch.getD i false = true ∧ on J i q then (1 : Int) else 0) n fun i _ => by split <;> omega
  have b2 := sumN_bound (f := fun i => if ch.getD i false = true ∧ on J i q then (1 : Int) else 0) (B := 1) n fun i _ => by split <;> omega
  unfold covP
  omega
theorem covP_succ (J : List Job) (ch : List Bool) (n q : Nat) : covP J ch (n + 1) q = covP J ch n q + if ch.getD n false = true ∧ on J n q then 1 else 0 := rfl
theorem valP_succ (J : List Job) (ch : List Bool) (n : Nat) : valP J ch (n + 1) = valP J ch n + if ch.getD n false = true then (J.getD n j0).f_worth else 0 := rfl

theorem refRight_eq {F : Nat} (hF : 2000 < F) {f : Field} {t : Fleet} {l : List Flight} {J : List Job} (hfb : FlsB l) (hR : JobsR f t l J) {ch : List Bool} (hl : ch.length = J.length) (hc : ∀ h, h < 48 → cov J ch h ≤ t.Count) :
    ref11_Right F f t l ch = some (true, val J ch) := by
  refine Ok.eq ?_
  have hk := hR.fl.2.2.2
  have hJl := hR.l12
  have hll := hR.len
  have hr48 : (List.replicate (Int.toNat 48) (0 : Int)).length = 48 := by rw [List.length_replicate]; rfl
  have hz : ∀ h, (List.replicate (Int.toNat 48) (0 : Int)).getD h 0 = 0 := fun h => by
    by_cases hi : h < (List.replicate (Int.toNat 48) (0 : Int)).length
    · rw [getD_get hi, List.getElem_replicate]
    · rw [List.getD_eq_getElem?_getD, List.getElem?_eq_none (Nat.le_of_not_lt hi)]; rfl
  unfold ref11_Right
  refine ok_chk ⟨by omega, by omega, by omega⟩ ?_
  refine ok_loop (fun x : Int × Int × List Int => 0 ≤ x.1 ∧ x.1 ≤ J.length ∧ x.2.1 = valP J ch x.1.toNat ∧ x.2.2.length = 48 ∧ ∀ q : Nat, q < 48 → x.2.2.getD q 0 = covP J ch x.1.toNat q) (fun x => J.length - x.1.toNat)
    ⟨by simp, by simp, rfl, hr48, fun q _ => hz q⟩ (by simp; omega) ?_
  rintro ⟨i, n, air⟩ next ⟨i1, i2, i3, i4, i5⟩ hn
  simp only at i1 i2 i3 i4 i5
  dsimp only
  rw [hl, hll]
  refine ok_brk (fun hb => ?_) (fun hb => ok_some ?_)
  · simp only [Bool.and_eq_true, decide_eq_true_eq] at hb
    have hi : i.toNat < J.length := by omega
    have st1 := valP_succ J ch i.toNat
    rw [show i.toNat + 1 = (i + 1).toNat by omega] at st1
    have st2 : ∀ q, covP J ch (i + 1).toNat q = covP J ch i.toNat q + if ch.getD i.toNat false = true ∧ on J i.toNat q then 1 else 0 := fun q => by rw [show (i + 1).toNat = i.toNat + 1 by omega]; rfl
    refine ok_join (by omega) (fun y : Int × List Int => y.1 = valP J ch (i + 1).toNat ∧ y.2.length = 48 ∧ ∀ q : Nat, q < 48 → y.2.getD q 0 = covP J ch (i + 1).toNat q) (fun y hy => ok_chk (show InR _ from ⟨by omega, by omega⟩) (hn _ ⟨by show 0 ≤ i + 1; omega, by show i + 1 ≤ _; omega, hy.1, hy.2.1, hy.2.2⟩ (by show J.length - (i + 1).toNat < J.length - i.toNat; omega))) fun k hk2 => ?_
    refine ok_chk ⟨i1, by omega⟩ (ok_brk (fun hq => ?_) (fun hq => ?_))
    · have hq : ¬ ch.getD i.toNat false = true := by simpa using hq
      rw [if_neg hq] at st1
      refine hk2 _ ⟨by show n = _; omega, i4, fun q hqq => ?_⟩
      show air.getD q 0 = _
      rw [i5 q hqq, st2, if_neg (fun t => hq t.1)]; omega
    have hq : ch.getD i.toNat false = true := by simpa using hq
    rw [if_pos hq] at st1
    obtain ⟨j1, j2, j3, j4, j5⟩ := hR.ok.at hi
    have hfr := hR.fr i.toNat hi
    have hev := hR.ev i.toNat hi
    have hpl := hfb.p _ (getD_mem (d := f0) (show i.toNat < l.length by omega))
    have hat : l.getD i.toNat (Flight.mk (0 : Int) []) = l.getD i.toNat f0 := rfl
    rw [hat]
    have hvb := val_bound hR.ok ch i.toNat (by omega)
    rw [show (sumN i.toNat fun i => if ch.getD i false = true then (J.getD i j0).f_worth else 0) = n from i3.symm] at hvb
    generalize l.getD i.toNat f0 = x at hfr hev hpl ⊢
    have hw := refWorth1_eq hF hR.fo hR.fl (x := ⟨x.From, x.Path⟩) hpl
    have hev' : jobE f t ⟨x.From, x.Path⟩ = (J.getD i.toNat j0, 0) := hev
    rw [hev'] at hw
    have hon : ∀ q : Nat, on J i.toNat q ↔ ((J.getD i.toNat j0).f_from ≤ (q : Int) ∧ (q : Int) < (J.getD i.toNat j0).f_to) := fun q => Iff.rfl
    generalize J.getD i.toNat j0 = X at j1 j2 j3 j4 j5 hfr hw hon st1
    refine ok_chk ⟨i1, by omega⟩ (ok_bnde hw (ok_brkF (by simp) (ok_chk (show InR _ from ⟨by show _ ≤ n + X.f_worth; omega, by show n + X.f_worth ≤ _; omega⟩) (ok_chk ⟨i1, by omega⟩ ?_))))
    dsimp only
    rw [← hfr, show X.f_from + (X.f_to - X.f_from) = X.f_to by omega]
    refine ok_loop (fun y : Int × List Int => X.f_from ≤ y.1 ∧ y.1 ≤ X.f_to ∧ y.2.length = 48 ∧ ∀ q : Nat, q < 48 → y.2.getD q 0 = covP J ch i.toNat q + if X.f_from ≤ (q : Int) ∧ (q : Int) < y.1 then 1 else 0) (fun y => 48 - y.1.toNat)
      ⟨Int.le_refl _, by show X.f_from ≤ X.f_to; omega, i4, fun q hqq => by
        show air.getD q 0 = _ + if X.f_from ≤ (q : Int) ∧ (q : Int) < X.f_from then 1 else 0
        rw [i5 q hqq, if_neg (by omega)]; omega⟩ (by show 48 - X.f_from.toNat < F; omega) ?_
    rintro ⟨h, air2⟩ next2 ⟨d1, d2, d3, d4⟩ hn2
    simp only at d1 d2 d3 d4
    dsimp only
    refine ok_chk ⟨i1, by omega⟩ (ok_chk (show InR _ from ⟨by omega, by omega⟩) (ok_brk (fun hd => ?_) (fun hd => ?_)))
    · have hd : h < X.f_to := of_decide_eq_true hd
      have hh : h.toNat < 48 := by omega
      have hcur := d4 h.toNat hh
      rw [if_neg (by omega)] at hcur
      have hcb := covP_bound (J := J) (ch := ch) (n := i.toNat) (q := h.toNat)
      have hnx := st2 h.toNat
      rw [if_pos ⟨hq, (hon h.toNat).2 ⟨by omega, by omega⟩⟩] at hnx
      have hle := covP_le (J := J) (ch := ch) (n := (i + 1).toNat) (q := h.toNat) (by omega)
      have hcc := hc h.toNat hh
      have hset : (air2.set h.toNat (air2.getD h.toNat 0 + 1)).getD h.toNat 0 = air2.getD h.toNat 0 + 1 := by rw [getD_set' (by omega), if_pos rfl]
      rw [hset, List.length_set, d3]
      refine ok_chk ⟨by omega, by omega⟩ (ok_chk (show InR _ from ⟨by omega, by omega⟩) (ok_chk ⟨by omega, by omega⟩ (ok_chk ⟨by omega, by omega⟩ (ok_brkF (decide_eq_false (by omega)) (ok_chk (show InR _ from ⟨by omega, by omega⟩) (hn2 _ ⟨by show X.f_from ≤ h + 1; omega, by show h + 1 ≤ X.f_to; omega, by show (air2.set _ _).length = 48; rw [List.length_set]; exact d3, fun q hqq => ?_⟩ (by show 48 - (h + 1).toNat < 48 - h.toNat; omega)))))))
      show (air2.set h.toNat _).getD q 0 = _ + if X.f_from ≤ (q : Int) ∧ (q : Int) < h + 1 then 1 else 0
      rw [getD_set' (by omega)]
      by_cases e : h.toNat = q
      · rw [if_pos e, if_pos (by omega), ← e, hcur]; omega
      · rw [if_neg e, d4 q hqq]
        by_cases e2 : X.f_from ≤ (q : Int) ∧ (q : Int) < h
        · rw [if_pos e2, if_pos (by omega)]
        · rw [if_neg e2, if_neg (by omega)]
    · have hd : ¬ h < X.f_to := of_decide_eq_false hd
      refine hk2 _ ⟨by show n + X.f_worth = _; omega, d3, fun q hqq => ?_⟩
      show air2.getD q 0 = _
      rw [d4 q hqq, st2]
      by_cases e2 : X.f_from ≤ (q : Int) ∧ (q : Int) < h
      · rw [if_pos e2, if_pos ⟨hq, (hon q).2 (by omega)⟩]
      · rw [if_neg e2, if_neg (fun t => e2 (by have := (hon q).1 t.2; omega))]
  · have hb : ¬ i < J.length := by
      simp only [Bool.and_eq_false_iff, decide_eq_false_iff_not] at hb
      omega
    rw [show i.toNat = J.length by omega] at i3
    rw [i3, show ((J.length : Int) == (J.length : Int)) = true by simp]; rfl

theorem refBest_eq {F : Nat} (hF : 100000 < F) {f : Field} {t : Fleet} {l : List Flight} {N : Int} (hl : f.Cells.length ≤ 100) (hfb : FlsB l) (hz : (jobsV f t l).2 = 0) (hO : Opt (jobsV f t l).1 t.Count N) : ref11_Best F f t l = some (N, 0) := by
  refine Ok.eq ?_
  have hR := jobsV_zero hfb hz
  unfold ref11_Best
  refine ok_bnde (asked_eq (by omega) hl hfb) ?_
  rw [hz]
  refine ok_brkF rfl ?_
  generalize (jobsV f t l).1 = J at hR hO
  have hk := hR.fl.2.2.2
  have hJl := hR.l12
  have hll := hR.len
  have hr48 : (List.replicate (Int.toNat 48) (0 : Int)).length = 48 := by rw [List.length_replicate]; rfl
  have hz48 : ∀ h, (List.replicate (Int.toNat 48) (0 : Int)).getD h 0 = 0 := fun h => by
    by_cases hi : h < (List.replicate (Int.toNat 48) (0 : Int)).length
    · rw [getD_get hi, List.getElem_replicate]
    · rw [List.getD_eq_getElem?_getD, List.getElem?_eq_none (Nat.le_of_not_lt hi)]; rfl
  rw [hll]
  -- worths and hours
  refine ok_loop (fun x : List Int × List Int × Int => 0 ≤ x.2.2 ∧ x.2.2 ≤ J.length ∧ (x.1.length : Int) = x.2.2 ∧ (x.2.1.length : Int) = x.2.2 ∧ ∀ i : Nat, (i : Int) < x.2.2 → x.1.getD i 0 = (J.getD i j0).f_to - (J.getD i j0).f_from ∧ x.2.1.getD i 0 = (J.getD i j0).f_worth) (fun x => J.length - x.2.2.toNat)
    ⟨by simp, by simp, by simp, by simp, fun i hi => by (have hi : (i : Int) < 0 := hi); omega⟩ (by simp; omega) ?_
  rintro ⟨hours, worths, i⟩ next ⟨i1, i2, i3, i4, i5⟩ hn
  simp only at i1 i2 i3 i4 i5
  dsimp only
  refine ok_brk (fun hc => ?_) (fun hc => ?_)
  · have hc : i < J.length := of_decide_eq_true hc
    have hi : i.toNat < J.length := by omega
    have hev := hR.ev i.toNat hi
    have hpl := hfb.p _ (getD_mem (d := f0) (show i.toNat < l.length by omega))
    have hw := refWorth1_eq (by omega : 2000 < F) hR.fo hR.fl (x := ⟨(l.getD i.toNat f0).From, (l.getD i.toNat f0).Path⟩) hpl
    have hev' : jobE f t ⟨(l.getD i.toNat f0).From, (l.getD i.toNat f0).Path⟩ = (J.getD i.toNat j0, 0) := hev
    rw [hev'] at hw
    refine ok_chk ⟨i1, hc⟩ (ok_bnde hw (ok_chk (by simp; omega) (ok_chk (by simp; omega) (ok_chk (show InR _ from ⟨by omega, by omega⟩) (hn _ ⟨by show 0 ≤ i + 1; omega, by show i + 1 ≤ _; omega, by simp; omega, by simp; omega, fun q hq => ?_⟩ (by show J.length - (i + 1).toNat < J.length - i.toNat; omega))))))
    have hq : (q : Int) < i + 1 := hq
    show (hours ++ [_]).getD q 0 = _ ∧ (worths ++ [_]).getD q 0 = _
    by_cases e : (q : Int) < i
    · rw [getD_append_left' (by omega), getD_append_left' (by omega)]
      exact i5 q e
    · obtain rfl : q = hours.length := by omega
      have e2 : hours.length = worths.length := by omega
      rw [getD_append_here]
      rw [e2, getD_append_here, ← e2, show i.toNat = hours.length by omega]
      exact ⟨rfl, rfl⟩
  have hc : ¬ i < J.length := of_decide_eq_false hc
  obtain rfl : i = J.length := by omega
  have p12 := pow12 (n := J.length) hJl
  rw [show ((J.length : Nat) : Int).toNat = J.length by omega]
  have hPe : ∀ b, (encB J.length b : Int) < 2 ^ J.length := fun b => by exact_mod_cast enc_lt J.length b
  generalize (2 : Int) ^ J.length = P at p12 hPe ⊢
  clear hn
  -- the sets
  refine ok_loop (fun x : Int × Int => 0 ≤ x.1 ∧ x.1 ≤ P ∧ 0 ≤ x.2 ∧ x.2 ≤ N ∧ ∀ s : Int, 0 ≤ s → s < x.1 → (∀ q, q < 48 → cov J (chS J.length s) q ≤ t.Count) → val J (chS J.length s) ≤ x.2) (fun x => (P - x.1).toNat)
    ⟨by simp, by show 0 ≤ P; omega, by simp, ?_, fun s s0 s1 => by (have s1 : s < 0 := s1); omega⟩ (by show (P - 0).toNat < F; omega) ?_
  · show 0 ≤ N
    obtain ⟨c, _, _, c3⟩ := hO.has
    rw [← c3]
    exact (val_bound hR.ok c J.length (Nat.le_refl _)).1
  rintro ⟨s, best⟩ next ⟨s0, s1, b0, b1, s2⟩ hn
  simp only at s0 s1 b0 b1 s2
  dsimp only
  have hNb : N ≤ 768000000 := by
    obtain ⟨c, _, _, c3⟩ := hO.has
    rw [← c3]
    exact (val_bound hR.ok c J.length (Nat.le_refl _)).2
  refine ok_chk ⟨by omega, show InR _ from ⟨by omega, by omega⟩⟩ (ok_brk (fun hc => ?_) (fun hc => ok_some ?_))
  · have hc : s < 1 * P := of_decide_eq_true hc
    refine ok_join (by omega) (fun y : Int => 0 ≤ y ∧ y ≤ N ∧ best ≤ y ∧ ((∀ q, q < 48 → cov J (chS J.length s) q ≤ t.Count) → val J (chS J.length s) ≤ y)) (fun y hy => ok_chk (show InR _ from ⟨by omega, by omega⟩) (hn _ ⟨by show 0 ≤ s + 1; omega, by show s + 1 ≤ P; omega, hy.1, hy.2.1, fun u u0 u1 hu => ?_⟩ (by show (P - (s + 1)).toNat < (P - s).toNat; omega))) fun k hk2 => ?_
    · have u1 : u < s + 1 := u1
      by_cases e : u < s
      · have := s2 u u0 e hu
        have := hy.2.2.1
        show _ ≤ y
        omega
      · obtain rfl : u = s := by omega
        exact hy.2.2.2 hu
    refine ok_chk ⟨by omega, by omega, by omega⟩ ?_
    obtain ⟨ch, hch⟩ : ∃ ch, chS J.length s = ch := ⟨_, rfl⟩
    have hchg : ∀ i : Nat, i < J.length → ch.getD i false = bitI s i := fun i hi => by rw [← hch]; exact chS_get hi
    rw [hch] at hk2
    refine ok_loop (fun x : Int × Int × Bool × List Int => 0 ≤ x.1 ∧ x.1 ≤ J.length ∧ x.2.1 = valP J ch x.1.toNat ∧ x.2.2.2.length = 48 ∧ (∀ q : Nat, q < 48 → x.2.2.2.getD q 0 = covP J ch x.1.toNat q) ∧ (x.2.2.1 = true ↔ ∀ q : Nat, q < 48 → covP J ch x.1.toNat q ≤ t.Count)) (fun x => J.length - x.1.toNat)
      ⟨by simp, by simp, rfl, hr48, fun q _ => hz48 q, ⟨fun _ q _ => by show (0 : Int) ≤ _; omega, fun _ => rfl⟩⟩ (by simp; omega) ?_
    rintro ⟨i, n, right, air⟩ next1 ⟨i1, i2, i3, i4, i6, i7⟩ hn1
    simp only at i1 i2 i3 i4 i6 i7
    dsimp only
    have hvb := val_bound hR.ok ch i.toNat (by omega)
    rw [show (sumN i.toNat fun i => if ch.getD i false = true then (J.getD i j0).f_worth else 0) = n from i3.symm] at hvb
    refine ok_brk (fun hb => ?_) (fun hb => ?_)
    · simp only [Bool.and_eq_true, decide_eq_true_eq] at hb
      obtain ⟨hci, hrt⟩ := hb
      have hi : i.toNat < J.length := by omega
      have hright := i7.1 hrt
      have st1 := valP_succ J ch i.toNat
      rw [show i.toNat + 1 = (i + 1).toNat by omega] at st1
      have st2 : ∀ q, covP J ch (i + 1).toNat q = covP J ch i.toNat q + if ch.getD i.toNat false = true ∧ on J i.toNat q then 1 else 0 := fun q => by rw [show (i + 1).toNat = i.toNat + 1 by omega]; rfl
      refine ok_join (by omega) (fun y : Int × Bool × List Int => y.1 = valP J ch (i + 1).toNat ∧ y.2.2.length = 48 ∧ (∀ q : Nat, q < 48 → y.2.2.getD q 0 = covP J ch (i + 1).toNat q) ∧ (y.2.1 = true ↔ ∀ q : Nat, q < 48 → covP J ch (i + 1).toNat q ≤ t.Count)) (fun y hy => ok_chk (show InR _ from ⟨by omega, by omega⟩) (hn1 _ ⟨by show 0 ≤ i + 1; omega, by show i + 1 ≤ _; omega, hy.1, hy.2.1, hy.2.2.1, hy.2.2.2⟩ (by show J.length - (i + 1).toNat < J.length - i.toNat; omega))) fun k3 hk3 => ?_
      have hfd : s.fdiv (2 ^ i.toNat) = s / 2 ^ i.toNat := Int.fdiv_eq_ediv_of_nonneg _ (Int.pow_nonneg (by omega))
      have hd0 : 0 ≤ s / 2 ^ i.toNat := Int.ediv_nonneg s0 (Int.pow_nonneg (by omega))
      have hd1 : s / 2 ^ i.toNat ≤ s := Int.ediv_le_self _ s0
      rw [hfd]
      refine ok_chk ⟨i1, by show i ≤ (64 : Int); omega⟩ (ok_chk ⟨hd0, by omega⟩ (ok_brk (fun hq => ?_) (fun hq => ?_)))
      · have hq : ¬ ch.getD i.toNat false = true := by
          rw [hchg i.toNat hi]
          unfold bitI
          have : s / 2 ^ i.toNat % 2 = 0 := by simpa using hq
          rw [this]; simp
        rw [if_neg hq] at st1
        have e : ∀ q, covP J ch (i + 1).toNat q = covP J ch i.toNat q := fun q => by rw [st2, if_neg (fun t => hq t.1)]; omega
        refine hk3 _ ⟨by show n = _; omega, i4, fun q hqq => ?_, ?_⟩
        · show air.getD q 0 = _
          rw [e, i6 q hqq]
        · show right = true ↔ _
          rw [i7]
          exact ⟨fun h q hqq => by rw [e]; exact h q hqq, fun h q hqq => by rw [← e]; exact h q hqq⟩
      have hq : ch.getD i.toNat false = true := by
        rw [hchg i.toNat hi]
        unfold bitI
        have h1 : s / 2 ^ i.toNat % 2 ≠ 0 := by simpa using hq
        rw [beq_iff_eq]; omega
      rw [if_pos hq] at st1
      obtain ⟨j1, j2, j3, j4, j5⟩ := hR.ok.at hi
      have hfr := hR.fr i.toNat hi
      obtain ⟨g1, g2⟩ := i5 i.toNat (by omega)
      have hon : ∀ q : Nat, on J i.toNat q ↔ ((J.getD i.toNat j0).f_from ≤ (q : Int) ∧ (q : Int) < (J.getD i.toNat j0).f_to) := fun q => Iff.rfl
      have hat : l.getD i.toNat (Flight.mk (0 : Int) []) = l.getD i.toNat f0 := rfl
      rw [hat, g1, g2, ← hfr]
      generalize J.getD i.toNat j0 = X at j1 j2 j3 j4 j5 hon st1 g1 g2 hfr ⊢
      rw [show X.f_from + (X.f_to - X.f_from) = X.f_to by omega]
      refine ok_chk ⟨i1, by omega⟩ (ok_chk (show InR _ from ⟨by omega, by omega⟩) (ok_chk ⟨i1, by omega⟩ ?_))
      refine ok_loop (fun y : Int × Bool × List Int => X.f_from ≤ y.1 ∧ y.1 ≤ X.f_to ∧ y.2.2.length = 48 ∧ (∀ q : Nat, q < 48 → y.2.2.getD q 0 = covP J ch i.toNat q + if X.f_from ≤ (q : Int) ∧ (q : Int) < y.1 then 1 else 0) ∧ (y.2.1 = true ↔ ∀ q : Nat, X.f_from ≤ (q : Int) → (q : Int) < y.1 → covP J ch i.toNat q + 1 ≤ t.Count)) (fun y => 48 - y.1.toNat)
        ⟨Int.le_refl _, by show X.f_from ≤ X.f_to; omega, i4, fun q hqq => by
          show air.getD q 0 = _ + if X.f_from ≤ (q : Int) ∧ (q : Int) < X.f_from then 1 else 0
          rw [i6 q hqq, if_neg (by omega)]; omega, ⟨fun _ q q1 q2 => by (have q2 : (q : Int) < X.f_from := q2); omega, fun _ => hrt⟩⟩ (by show 48 - X.f_from.toNat < F; omega) ?_
      rintro ⟨h, right2, air2⟩ next2 ⟨d1, d2, d3, d4, d5⟩ hn2
      simp only at d1 d2 d3 d4 d5
      dsimp only
      refine ok_chk ⟨i1, by omega⟩ (ok_chk ⟨i1, by omega⟩ (ok_chk (show InR _ from ⟨by omega, by omega⟩) (ok_brk (fun hd => ?_) (fun hd => ?_))))
      · have hd : h < X.f_to := of_decide_eq_true hd
        have hh : h.toNat < 48 := by omega
        have hcur := d4 h.toNat hh
        rw [if_neg (by omega)] at hcur
        have hcb := covP_bound (J := J) (ch := ch) (n := i.toNat) (q := h.toNat)
        have hset : (air2.set h.toNat (air2.getD h.toNat 0 + 1)).getD h.toNat 0 = air2.getD h.toNat 0 + 1 := by rw [getD_set' (by omega), if_pos rfl]
        rw [hset, List.length_set, d3]
        refine ok_chk ⟨by omega, by omega⟩ (ok_chk (show InR _ from ⟨by omega, by omega⟩) (ok_chk ⟨by omega, by omega⟩ (ok_chk (fun _ => ⟨by omega, by omega⟩) (ok_chk (show InR _ from ⟨by omega, by omega⟩) (hn2 _ ⟨by show X.f_from ≤ h + 1; omega, by show h + 1 ≤ X.f_to; omega, by show (air2.set _ _).length = 48; rw [List.length_set]; exact d3, fun q hqq => ?_, ?_⟩ (by show 48 - (h + 1).toNat < 48 - h.toNat; omega))))))
        · show (air2.set h.toNat _).getD q 0 = _ + if X.f_from ≤ (q : Int) ∧ (q : Int) < h + 1 then 1 else 0
          rw [getD_set' (by omega)]
          by_cases e : h.toNat = q
          · rw [if_pos e, if_pos (by omega), ← e, hcur]; omega
          · rw [if_neg e, d4 q hqq]
            by_cases e2 : X.f_from ≤ (q : Int) ∧ (q : Int) < h
            · rw [if_pos e2, if_pos (by omega)]
            · rw [if_neg e2, if_neg (by omega)]
        · show (right2 && decide (air2.getD h.toNat 0 + 1 ≤ t.Count)) = true ↔ ∀ q : Nat, X.f_from ≤ (q : Int) → (q : Int) < h + 1 → _
          rw [Bool.and_eq_true, d5, decide_eq_true_eq]
          constructor
          · rintro ⟨a, b⟩ q q1 q2
            by_cases e : (q : Int) < h
            · exact a q q1 e
            · obtain rfl : q = h.toNat := by omega
              omega
          · intro a
            exact ⟨fun q q1 q2 => a q q1 (by omega), by have := a h.toNat (by omega) (by omega); omega⟩
      · have hd : ¬ h < X.f_to := of_decide_eq_false hd
        obtain rfl : h = X.f_to := by omega
        refine hk3 _ ⟨by show n + X.f_worth = _; omega, d3, fun q hqq => ?_, ?_⟩
        · show air2.getD q 0 = _
          rw [d4 q hqq, st2]
          by_cases e2 : X.f_from ≤ (q : Int) ∧ (q : Int) < X.f_to
          · rw [if_pos e2, if_pos ⟨hq, (hon q).2 e2⟩]
          · rw [if_neg e2, if_neg (fun t => e2 ((hon q).1 t.2))]
        · show right2 = true ↔ _
          rw [d5]
          constructor
          · intro a q hqq
            rw [st2]
            by_cases e2 : X.f_from ≤ (q : Int) ∧ (q : Int) < X.f_to
            · rw [if_pos ⟨hq, (hon q).2 e2⟩]
              exact a q e2.1 e2.2
            · rw [if_neg (fun t => e2 ((hon q).1 t.2))]
              have := hright q hqq
              omega
          · intro a q q1 q2
            have := a q (by omega)
            rw [st2, if_pos ⟨hq, (hon q).2 ⟨q1, q2⟩⟩] at this
            exact this
    · -- all were looked at
      have hne : right = true → i = J.length := fun hr => by
        rw [hr] at hb
        simp only [Bool.and_true, decide_eq_false_iff_not] at hb
        omega
      refine ok_brk (fun hr => ?_) (fun hr => ?_)
      · obtain rfl := hne hr
        rw [Int.toNat_natCast] at i3 i7
        have hle : val J ch ≤ N := hO.le ch fun q hq => i7.1 hr q hq
        have e : val J ch = n := i3.symm
        refine hk2 _ ⟨?_, ?_, ?_, fun _ => ?_⟩
        · show 0 ≤ if n > best then n else best
          split <;> omega
        · show (if n > best then n else best) ≤ N
          split <;> omega
        · show best ≤ if n > best then n else best
          split <;> omega
        · show val J ch ≤ if n > best then n else best
          split <;> omega
      · refine hk2 _ ⟨b0, b1, Int.le_refl _, fun hx => ?_⟩
        exfalso
        have : right = true := i7.2 fun q hq => Int.le_trans (covP_le (by omega)) (hx q hq)
        rw [this] at hr; cases hr
  · have hc : ¬ s < 1 * P := of_decide_eq_false hc
    obtain ⟨c, c1, c2, c3⟩ := hO.has
    have hlt := hPe fun i => c.getD i false
    have hg : ∀ i, i < J.length → (chS J.length (encB J.length fun i => c.getD i false : Nat)).getD i false = c.getD i false := fun i hi => by
      rw [chS_get hi]
      exact enc_bit J.length (fun i => c.getD i false) i hi
    have := s2 (encB J.length fun i => c.getD i false : Nat) (by omega) (by omega) fun q hq => by rw [cov_congr hg]; exact c2 q hq
    rw [val_congr hg, c3] at this
    rw [show best = N by omega]

theorem refBound_eq {F : Nat} (hF : 100000 < F) {f : Field} {t : Fleet} {l : List Flight} {pr : List Int} (hl : f.Cells.length ≤ 100) (hfb : FlsB l) (hpl : pr.length ≤ 1000) : ref11_Bound F f t l pr = some (boundV f t l pr) := by
  refine Ok.eq ?_
  unfold ref11_Bound boundV
  refine ok_bnde (asked_eq (by omega) hl hfb) (ok_brk (fun h => ok_some (by rw [if_pos (by simpa using h)])) (fun h => ?_))
  have hz : (jobsV f t l).2 = 0 := by simpa using h
  have hR := jobsV_zero hfb hz
  rw [if_neg (fun q => q hz)]
  generalize hJv : (jobsV f t l).1 = J at hR ⊢
  have hk := hR.fl.2.2.2
  have hJl := hR.l12
  have hll := hR.len
  refine ok_brk (fun h => ok_some ?_) (fun h => ?_)
  · have h : (pr.length : Int) ≠ 48 := by simpa using h
    rw [if_pos (by omega)]
  have h : (pr.length : Int) = 48 := by simpa using h
  have h48 : pr.length = 48 := by omega
  rw [if_neg (fun q => q h48), h48]
  refine ok_loop (fun x : Int × Int => 0 ≤ x.1 ∧ x.1 ≤ 48 ∧ (∀ j : Nat, (j : Int) < x.1 → 0 ≤ pr.getD j 0 ∧ pr.getD j 0 ≤ 1000000000) ∧ x.2 = t.Count * sumN x.1.toNat fun h => pr.getD h 0) (fun x => 48 - x.1.toNat) ⟨by simp, by simp, fun j hj => by (have hj : (j : Int) < 0 := hj); omega, by show 0 = t.Count * 0; rw [Int.mul_zero]⟩ (by simp; omega) ?_
  rintro ⟨i, s⟩ next ⟨i1, i2, i4, i3⟩ hn
  simp only at i1 i2 i3 i4
  dsimp only
  refine ok_brk (fun hc => ?_) (fun hc => ?_)
  · have hc : i < 48 := of_decide_eq_true hc
    rw [refIn_eq, wd]
    refine ok_chk ⟨i1, by omega⟩ (ok_bnde rfl (ok_brk (fun hb => ok_some ?_) (fun hb => ?_)))
    · rw [if_pos]
      intro q
      exact nd_true hb (q _ (getD_mem (d := 0) (show i.toNat < pr.length by omega)))
    have hb := nd_false hb
    have b0 : 0 ≤ (sumN i.toNat fun h => pr.getD h 0) ∧ (sumN i.toNat fun h => pr.getD h 0) ≤ 48000000000 := by
      have c1 := sumN_nonneg (f := fun h => pr.getD h 0) i.toNat fun q hq => (i4 q (by omega)).1
      have c2 := sumN_bound (f := fun h => pr.getD h 0) (B := 1000000000) i.toNat fun q hq => (i4 q (by omega)).2
      omega
    have b1 := mul_bd (k := t.Count) ⟨by omega, hk.2⟩ b0
    have b2 := mul_bd (k := t.Count) ⟨by omega, hk.2⟩ hb
    have hst : (t.Count * sumN (i + 1).toNat fun h => pr.getD h 0) = s + t.Count * pr.getD i.toNat 0 := by
      rw [show (i + 1).toNat = i.toNat + 1 by omega]
      simp only [sumN]
      rw [Int.mul_add, i3]
    rw [← i3] at b1
    refine ok_chk ⟨i1, by omega⟩ (ok_chk (show InR _ from ⟨by omega, by omega⟩) (ok_chk (show InR _ from ⟨by omega, by omega⟩) (ok_chk (show InR _ from ⟨by omega, by omega⟩) (hn _ ⟨by show 0 ≤ i + 1; omega, by show i + 1 ≤ 48; omega, fun j hj => ?_, hst.symm⟩ (by show 48 - (i + 1).toNat < 48 - i.toNat; omega)))))
    have hj : (j : Int) < i + 1 := hj
    by_cases e : (j : Int) < i
    · exact i4 j e
    · obtain rfl : j = i.toNat := by omega
      exact hb
  have hc : ¬ i < 48 := of_decide_eq_false hc
  have hp : PrB pr := fun c hc => by
    obtain ⟨j, hj, rfl⟩ := List.getElem_of_mem hc
    have := i4 j (by omega)
    rwa [getD_get hj] at this
  rw [if_neg (fun q => q hp)]
  have b0 := pr_bound hp 0 48
  simp only [Nat.zero_add] at b0
  have b1 := mul_bd (k := t.Count) (c := sumN 48 fun h => pr.getD h 0) (B := 48000000000) ⟨by omega, hk.2⟩ ⟨b0.1, by omega⟩
  rw [show i.toNat = 48 by omega] at i3
  clear hn
  rw [← i3] at b1
  rw [hll]
  refine ok_loop (fun x : Int × Int => 0 ≤ x.1 ∧ x.1 ≤ J.length ∧ x.2 = s + sumN x.1.toNat fun i => max0 ((J.getD i j0).f_worth - tot J (fun h => pr.getD h 0) i)) (fun x => J.length - x.1.toNat) ⟨by simp, by simp, by show s = s + 0; omega⟩ (by simp; omega) ?_
  rintro ⟨j, w⟩ next ⟨c1, c2, c3⟩ hn
  simp only at c1 c2 c3
  dsimp only
  refine ok_brk (fun hc => ?_) (fun hc => ok_some ?_)
  · have hc : j < J.length := of_decide_eq_true hc
    have hj : j.toNat < J.length := by omega
    have hts := tot_seg hR.ok hj fun h => pr.getD h 0
    obtain ⟨j1, j2, j3, j4, j5⟩ := hR.ok.at hj
    have p1 := part_bound hR.ok hp j.toNat (by omega)
    have p2 := part_bound hR.ok hp (j + 1).toNat (by omega)
    have hst : (sumN (j + 1).toNat fun i => max0 ((J.getD i j0).f_worth - tot J (fun h => pr.getD h 0) i)) = (sumN j.toNat fun i => max0 ((J.getD i j0).f_worth - tot J (fun h => pr.getD h 0) i)) + max0 ((J.getD j.toNat j0).f_worth - tot J (fun h => pr.getD h 0) j.toNat) := by
      rw [show (j + 1).toNat = j.toNat + 1 by omega]; rfl
    have hm := max0_ge ((J.getD j.toNat j0).f_worth - tot J (fun h => pr.getD h 0) j.toNat)
    refine ok_join (by omega) (fun y : Int => y = s + sumN (j + 1).toNat fun i => max0 ((J.getD i j0).f_worth - tot J (fun h => pr.getD h 0) i)) (fun y hy => ok_chk (show InR _ from ⟨by omega, by omega⟩) (hn _ ⟨by show 0 ≤ j + 1; omega, by show j + 1 ≤ _; omega, hy⟩ (by show J.length - (j + 1).toNat < J.length - j.toNat; omega))) fun k hk2 => ?_
    have hev := hR.ev j.toNat hj
    have hfr := hR.fr j.toNat hj
    have hxl := hfb.p _ (getD_mem (d := f0) (show j.toNat < l.length by omega))
    have hat : l.getD j.toNat (Flight.mk (0 : Int) []) = l.getD j.toNat f0 := rfl
    rw [hat]
    generalize l.getD j.toNat f0 = x at hfr hev hxl ⊢
    have hw := refWorth1_eq (by omega : 2000 < F) hR.fo hR.fl (x := ⟨x.From, x.Path⟩) hxl
    have hev' : jobE f t ⟨x.From, x.Path⟩ = (J.getD j.toNat j0, 0) := hev
    rw [hev'] at hw
    refine ok_chk ⟨c1, by omega⟩ (ok_bnde hw (ok_chk ⟨c1, by omega⟩ ?_))
    have qb := fun n => pr_bound hp (J.getD j.toNat j0).f_from.toNat n
    dsimp only
    generalize J.getD j.toNat j0 = X at j1 j2 j3 j4 j5 hts hst qb hfr hm ⊢
    rw [← hfr, show X.f_from + (X.f_to - X.f_from) = X.f_to by omega]
    refine ok_loop (fun x : Int × Int => X.f_from ≤ x.2 ∧ x.2 ≤ X.f_to ∧ x.1 = X.f_worth - sumN (x.2 - X.f_from).toNat fun q => pr.getD (X.f_from.toNat + q) 0) (fun x => 48 - x.2.toNat) ⟨Int.le_refl _, by show X.f_from ≤ _; omega, by show X.f_worth = X.f_worth - sumN (X.f_from - X.f_from).toNat _; rw [Int.sub_self]; show _ = _ - (0 : Int); omega⟩ (by show 48 - X.f_from.toNat < F; omega) ?_
    rintro ⟨left, h⟩ next1 ⟨d1, d2, d3⟩ hn1
    simp only at d1 d2 d3
    dsimp only
    have q0 := qb (h - X.f_from).toNat
    refine ok_chk ⟨c1, by omega⟩ (ok_chk (show InR _ from ⟨by omega, by omega⟩) (ok_brk (fun hd => ?_) (fun hd => ?_)))
    · have hd : h < X.f_to := of_decide_eq_true hd
      have gq := hp.get h.toNat
      refine ok_chk ⟨by omega, by omega⟩ (ok_chk (show InR _ from ⟨by omega, by omega⟩) (ok_chk (show InR _ from ⟨by omega, by omega⟩) (hn1 _ ⟨by show _ ≤ h + 1; omega, by show h + 1 ≤ _; omega, ?_⟩ (by show 48 - (h + 1).toNat < 48 - h.toNat; omega))))
      show left - _ = X.f_worth - sumN (h + 1 - X.f_from).toNat _
      rw [show (h + 1 - X.f_from).toNat = (h - X.f_from).toNat + 1 by omega]
      simp only [sumN]
      rw [show X.f_from.toNat + (h - X.f_from).toNat = h.toNat by omega]
      omega
    · have hd : ¬ h < X.f_to := of_decide_eq_false hd
      have e : left = X.f_worth - tot J (fun h => pr.getD h 0) j.toNat := by
        rw [hts, d3, show (h - X.f_from).toNat = (X.f_to - X.f_from).toNat by omega]
      have em : (if left > 0 then left else 0) = max0 (X.f_worth - tot J (fun h => pr.getD h 0) j.toNat) := by rw [← e]; rfl
      refine ok_brk (fun hp => ?_) (fun hp => ?_)
      · rw [if_pos (of_decide_eq_true hp)] at em
        exact ok_chk (show InR _ from ⟨by omega, by omega⟩) (hk2 _ (by omega))
      · rw [if_neg (of_decide_eq_false hp)] at em
        exact hk2 _ (by omega)
  · have hc : ¬ j < J.length := of_decide_eq_false hc
    rw [show j.toNat = J.length by omega] at c3
    rw [c3, i3]; rfl
end Go.Proofs.Sp

namespace Go.Proofs.Sp
open Go Go.KX
theorem awake_eq : law11_awake 1000000000000000 = some true := by kernel_rfl
end Go.Proofs.Sp

namespace Go.Proofs.Sp
open Go Go.KX

theorem copyI {F : Nat} {l : List Int} (h : l.length ≤ 1000000) : kit_CopyInts F l = some l := chk_pos h
theorem copyS {F : Nat} {l : List Span} (h : l.length ≤ 1000000) : kit_CopySpans F l = some l := chk_pos h
theorem copyF {F : Nat} {f : Field} (h : f.Cells.length ≤ 1000000) : law11_CopyField F f = some f := by
  unfold law11_CopyField
  rw [copyS h, bnd_so]
theorem sameI {F : Nat} {l : List Int} (hF : l.length < F) (hl : l.length ≤ 1000000) : kit_SameInts F l l = some true := by
  refine Ok.eq ?_
  unfold kit_SameInts
  refine ok_brkF (by simp) ?_
  refine ok_loop (fun x : Int => 0 ≤ x ∧ x ≤ l.length) (fun x : Int => l.length - x.toNat) ⟨by simp, by simp⟩ (by simp; omega) ?_
  rintro i next ⟨i1, i2⟩ hn
  refine ok_brk (fun hc => ?_) (fun hc => ok_some rfl)
  have hc : i < l.length := of_decide_eq_true hc
  exact ok_chk ⟨i1, hc⟩ (ok_chk ⟨i1, hc⟩ (ok_brkF (by simp) (ok_chk (show InR _ from ⟨by omega, by omega⟩) (hn _ ⟨by omega, by omega⟩ (by show l.length - (i + 1).toNat < l.length - i.toNat; omega)))))
theorem sameS {F : Nat} {l : List Span} (hF : l.length < F) (hl : l.length ≤ 1000000) : kit_SameSpans F l l = some true := by
  refine Ok.eq ?_
  unfold kit_SameSpans
  refine ok_brkF (by simp) ?_
  refine ok_loop (fun x : Int => 0 ≤ x ∧ x ≤ l.length) (fun x : Int => l.length - x.toNat) ⟨by simp, by simp⟩ (by simp; omega) ?_
  rintro i next ⟨i1, i2⟩ hn
  refine ok_brk (fun hc => ?_) (fun hc => ok_some rfl)
  have hc : i < l.length := of_decide_eq_true hc
  exact ok_chk ⟨i1, hc⟩ (ok_chk ⟨i1, hc⟩ (ok_brkF (by simp) (ok_chk (show InR _ from ⟨by omega, by omega⟩) (hn _ ⟨by omega, by omega⟩ (by show l.length - (i + 1).toNat < l.length - i.toNat; omega)))))
theorem same_F {F : Nat} {f : Field} (hF : f.Cells.length < F) (hl : f.Cells.length ≤ 1000000) : law11_same F f f = some true := by
  unfold law11_same
  rw [sameS hF hl, show (f.W == f.W && f.H == f.H) = true by simp]; rfl
theorem sameFl {F : Nat} {l : List Flight} (hF : 2000 < F) (hb : FlsB l) : law11_sameFlights F l l = some true := by
  refine Ok.eq ?_
  unfold law11_sameFlights
  have hlen := hb.len
  refine ok_join (by omega) (fun x : Bool => x = true) (fun x hx => ok_some hx) fun k hk => ?_
  refine ok_brkF (by simp) ?_
  refine ok_loop (fun x : Int => 0 ≤ x ∧ x ≤ l.length) (fun x : Int => l.length - x.toNat) ⟨by simp, by simp⟩ (by simp; omega) ?_
  rintro i next ⟨i1, i2⟩ hn
  refine ok_brk (fun hc => ?_) (fun hc => hk _ rfl)
  have hc : i < l.length := of_decide_eq_true hc
  have hp := hb.p _ (getD_mem (d := f0) (show i.toNat < l.length by omega))
  have hs : law11_sameFlights_1 F ⟨(l.getD i.toNat f0).From, (l.getD i.toNat f0).Path⟩ ⟨(l.getD i.toNat f0).From, (l.getD i.toNat f0).Path⟩ = some true := by
    unfold law11_sameFlights_1
    dsimp only
    rw [sameI (by omega) (by omega), show ((l.getD i.toNat f0).From == (l.getD i.toNat f0).From) = true by simp]; rfl
  exact ok_chk ⟨i1, hc⟩ (ok_chk ⟨i1, hc⟩ (ok_bnde hs (ok_brkF rfl (ok_chk (show InR _ from ⟨by omega, by omega⟩) (hn _ ⟨by omega, by omega⟩ (by show l.length - (i + 1).toNat < l.length - i.toNat; omega))))))

theorem copyFl {F : Nat} {l : List Flight} (hF : 2000 < F) (hb : FlsB l) : law11_copyFlights F l = some l := by
  refine Ok.eq ?_
  unfold law11_copyFlights
  have hlen := hb.len
  refine ok_bnde (b := l) (by unfold slices_Clone_spill_Flight; rw [chk_pos (by omega)]; rfl) ?_
  refine ok_loop (fun x : Int × List Flight => 0 ≤ x.1 ∧ x.1 ≤ l.length ∧ x.2 = l) (fun x => l.length - x.1.toNat) ⟨by simp, by simp, rfl⟩ (by simp; omega) ?_
  rintro ⟨i, c⟩ next ⟨i1, i2, i3⟩ hn
  simp only at i1 i2 i3
  subst i3
  dsimp only
  refine ok_brk (fun hc => ?_) (fun hc => ok_some rfl)
  have hc : i < c.length := of_decide_eq_true hc
  have hi : i.toNat < c.length := by omega
  have hp : (c.getD i.toNat (Flight.mk (0 : Int) [])).Path.length ≤ 1000 := hb.p _ (getD_mem hi)
  refine ok_chk ⟨i1, hc⟩ (ok_bnde (copyI (by omega)) (ok_chk ⟨i1, hc⟩ (ok_chk (show InR _ from ⟨by omega, by omega⟩) (hn _ ⟨by show 0 ≤ i + 1; omega, by show i + 1 ≤ _; omega, ?_⟩ (by show c.length - (i + 1).toNat < c.length - i.toNat; omega)))))
  show c.set i.toNat (c.getD i.toNat f0) = c
  rw [getD_get hi]; exact List.set_getElem_self hi

theorem refFl {F : Nat} {l : List Flight} (hF : 2000 < F) (hb : FlsB l) : law11_flights F l = some l := by
  refine Ok.eq ?_
  unfold law11_flights
  have hlen := hb.len
  refine ok_loop (fun x : Int × List Flight => 0 ≤ x.1 ∧ x.1 ≤ l.length ∧ x.2 = l.take x.1.toNat) (fun x => l.length - x.1.toNat) ⟨by simp, by simp, rfl⟩ (by simp; omega) ?_
  rintro ⟨i, c⟩ next ⟨i1, i2, i3⟩ hn
  simp only at i1 i2 i3
  subst i3
  dsimp only
  refine ok_brk (fun hc => ?_) (fun hc => ok_some ?_)
  · have hc : i < l.length := of_decide_eq_true hc
    have hi : i.toNat < l.length := by omega
    have hp : (l.getD i.toNat (Flight.mk (0 : Int) [])).Path.length ≤ 1000 := hb.p _ (getD_mem hi)
    refine ok_chk ⟨i1, hc⟩ (ok_bnde (copyI (by omega)) (ok_chk (by simp; omega) (ok_chk (show InR _ from ⟨by omega, by omega⟩) (hn _ ⟨by show 0 ≤ i + 1; omega, by show i + 1 ≤ _; omega, ?_⟩ (by show l.length - (i + 1).toNat < l.length - i.toNat; omega)))))
    show l.take i.toNat ++ [l.getD i.toNat f0] = l.take (i + 1).toNat
    rw [show (i + 1).toNat = i.toNat + 1 by omega, take_succ' (d := f0) hi]
  · have hc : ¬ i < l.length := of_decide_eq_false hc
    exact List.take_of_length_le (by omega)

/-- What a flight is worth, or the error. -/
noncomputable def worthE (f : Field) (t : Fleet) (x : Flight) : Int × Int × Int :=
  if checkV f ≠ 0 then (0, 0, checkV f) else if ¬ FleetOK f.Cells.length t then (0, 0, 120) else ((jobE f t x).1.f_worth, (jobE f t x).1.f_to - (jobE f t x).1.f_from, (jobE f t x).2)

theorem jobE_small {f : Field} {t : Fleet} {x : Flight} : (jobE f t x).2 ≠ 0 → (jobE f t x).1 = j0 := by
  intro h
  unfold jobE at h ⊢
  split
  · rfl
  rename_i q1
  rw [if_neg q1] at h
  split
  · rfl
  rename_i q2
  rw [if_neg q2] at h
  split
  · rfl
  rename_i q3
  rw [if_neg q3] at h
  split
  · rfl
  rename_i q4
  rw [if_neg q4] at h
  exact absurd rfl h

theorem Worth_eq {F : Nat} (hF : 2000 < F) {f : Field} {t : Fleet} {x : Flight} (hl : f.Cells.length ≤ 100) (hP : x.Path.length ≤ 1000) : spill_Worth F f t x = some (worthE f t x) := by
  refine Ok.eq ?_
  unfold spill_Worth worthE
  refine ok_bnde (Check_eq (by show f.Cells.length < F; omega)) (ok_brk (fun hc => ?_) (fun hc => ?_))
  · rw [if_pos (show checkV f ≠ 0 by simpa using hc)]
    exact ok_brkT hc (ok_some rfl)
  have hc : checkV f = 0 := by simpa using hc
  have hf := checkV_ok hc
  rw [if_neg (by omega)]
  refine ok_bnde (right_eq hl) (ok_brk (fun ht => ok_some ?_) (fun ht => ?_))
  · rw [if_pos (nd_true ht)]
  have ht := nd_false ht
  rw [if_neg (fun q => q ht)]
  refine ok_bnde (job_eq hF hf ht (x := ⟨x.From, x.Path⟩) hP) (ok_brk (fun hq => ok_some ?_) (fun hq => ?_))
  · have hq : (jobE f t x).2 ≠ 0 := by simpa using hq
    have := jobE_small hq
    show _ = ((jobE f t x).1.f_worth, (jobE f t x).1.f_to - (jobE f t x).1.f_from, (jobE f t x).2)
    rw [this]; rfl
  · have hq : (jobE f t x).2 = 0 := by simpa using hq
    obtain ⟨⟨j1, j2, j3, j4, j5⟩, -⟩ := jobE_ok hf ht hP hq
    have j1 : 0 ≤ (jobE f t x).1.f_from := j1
    have j2 : (jobE f t x).1.f_from < (jobE f t x).1.f_to := j2
    have j3 : (jobE f t x).1.f_to ≤ 48 := j3
    refine ok_chk (show InR ((jobE f t x).1.f_to - (jobE f t x).1.f_from) from ⟨by omega, by omega⟩) (ok_some ?_)
    show _ = ((jobE f t x).1.f_worth, (jobE f t x).1.f_to - (jobE f t x).1.f_from, (jobE f t x).2)
    rw [hq]

theorem refWorth_eq {F : Nat} (hF : 2000 < F) {f : Field} {t : Fleet} {x : Flight} (hl : f.Cells.length ≤ 100) (hP : x.Path.length ≤ 1000) : ref11_Worth F f t x = some (worthE f t x) := by
  refine Ok.eq ?_
  unfold ref11_Worth worthE
  refine ok_bnde (refCheck_eq (by show f.Cells.length < F; omega)) (ok_brk (fun hc => ok_some ?_) (fun hc => ?_))
  · rw [if_pos (show checkV f ≠ 0 by simpa using hc)]
  have hc : checkV f = 0 := by simpa using hc
  have hf := checkV_ok hc
  rw [if_neg (by omega)]
  refine ok_bnde (refFleet_eq hl) (ok_brk (fun ht => ok_some ?_) (fun ht => ?_))
  · rw [if_pos (nd_true ht)]
  have ht := nd_false ht
  rw [if_neg (fun q => q ht)]
  exact ok_bnde (refWorth1_eq hF hf ht (x := ⟨x.From, x.Path⟩) hP) (ok_some rfl)

set_option maxHeartbeats 1000000 in
theorem spillFlights_ok' {F : Nat} (hF : F = 1000000000000000) (f : Field) (t : Fleet) (l : List Flight) (pr : List Int) : law11_SpillFlights F f t l pr = some true := by
  have haw : law11_awake F = some true := by rw [hF]; exact awake_eq
  refine Ok.eq ?_
  unfold law11_SpillFlights
  rw [haw]
  have aw : Ok (fun x => x = true) (bnd (some true) fun x : Bool => some x) := ok_bnde rfl (ok_some rfl)
  refine ok_brk (fun _ => aw) (fun h1 => ok_brk (fun _ => aw) (fun h2 => ok_brk (fun _ => aw) (fun h3 => ?_)))
  have h2 := of_decide_eq_false h2
  have h3 := of_decide_eq_false h3
  have hl : f.Cells.length ≤ 100 := by
    simp only [Bool.or_eq_false_iff, decide_eq_false_iff_not] at h1
    omega
  refine ok_join (by omega) (fun x : Int => x ≥ 0 ∨ FlsB l) (fun x hx => ok_brk (fun _ => aw) (fun hx2 => ?_)) fun k hk => ?_
  · have hx2 := of_decide_eq_false hx2
    have hb : FlsB l := by
      rcases hx with q | q
      · exact absurd q hx2
      · exact q
    clear hx
    refine ok_bnde (copyF (by show f.Cells.length ≤ _; omega)) (ok_bnde (copyFl (by omega) hb) (ok_bnde (copyI (by omega)) (ok_bnde (copyF (by show f.Cells.length ≤ _; omega)) (ok_bnde (refFl (by omega) hb) ?_))))
    dsimp only
    have hlen := hb.len
    refine ok_loop (fun x : Int => 0 ≤ x ∧ x ≤ l.length) (fun x : Int => l.length - x.toNat) ⟨by simp, by simp⟩ (by simp; omega) ?_
    rintro i next ⟨i1, i2⟩ hn
    refine ok_brk (fun hc => ?_) (fun hc => ?_)
    · have hc : i < l.length := of_decide_eq_true hc
      have hp := hb.p _ (getD_mem (d := f0) (show i.toNat < l.length by omega))
      refine ok_chk ⟨i1, hc⟩ (ok_bnde (Worth_eq (by omega) hl hp) (ok_chk ⟨i1, hc⟩ (ok_bnde (refWorth_eq (by omega) hl hp) (ok_brkF (by simp) (ok_chk (show InR _ from ⟨by omega, by omega⟩) (hn _ ⟨by omega, by omega⟩ (by show l.length - (i + 1).toNat < l.length - i.toNat; omega)))))))
    clear hn
    have hBd : ∀ n, Ok (fun x => x = true) (bnd (spill_Bound F f t l pr) fun x_13 => bnd (ref11_Bound F f t l pr) fun x_14 => bnd (brk (x_13.fst == x_14.fst && x_13.snd == x_14.snd) (law11_same F f f) (some false)) fun x_15 => bnd (brk (x_13.fst == x_14.fst && x_13.snd == x_14.snd && x_15) (law11_sameFlights F l l) (some false)) fun x_16 => bnd (brk (x_13.fst == x_14.fst && x_13.snd == x_14.snd && x_15 && x_16) (kit_SameInts F pr pr) (some false)) fun x_17 => bnd (brk (x_13.fst == x_14.fst && x_13.snd == x_14.snd && x_15 && x_16 && x_17) (some true) (some false)) fun x_18 => some (x_13.fst == x_14.fst && x_13.snd == x_14.snd && x_15 && x_16 && x_17 && x_18)) := fun _ : Nat => by
      refine ok_bnde (Bound_eq (by omega) hl hb (by omega)) (ok_bnde (refBound_eq (by omega) hl hb (by omega)) ?_)
      have e : ((boundV f t l pr).1 == (boundV f t l pr).1 && (boundV f t l pr).2 == (boundV f t l pr).2) = true := by simp
      rw [e]
      refine ok_bnde (show brk true _ _ = _ from same_F (by omega) (by omega)) (ok_bnde (show brk (true && true) _ _ = _ from sameFl (by omega) hb) (ok_bnde (show brk (true && true && true) _ _ = _ from sameI (by omega) (by omega)) (ok_bnde rfl (ok_some rfl))))
    refine ok_bnd _ (Best_ok (by omega) hl hb) ?_
    rintro ⟨ch, n, e⟩ hbest
    by_cases hz : (jobsV f t l).2 = 0
    · rcases hbest with ⟨q, _⟩ | ⟨_, q1, q2, q3, q4, q5⟩
      · exact absurd hz q
      simp only at q1 q2 q3 q4 q5
      subst q1
      refine ok_bnde (refBest_eq (by omega) hl hb hz q5) (ok_brkF (by simp) ?_)
      have hR := jobsV_zero hb hz
      refine ok_join (by omega) (fun _ : PUnit => True) (fun _ _ => ?_) fun k _hk => ?_
      · refine ok_bnd _ (Prices_ok (by omega) hl hb) ?_
        rintro ⟨pp, e⟩ hpr
        rcases hpr with ⟨q, _⟩ | ⟨_, p1, p2⟩
        · exact absurd hz q
        simp only at p1 p2
        subst p1
        refine ok_brkF (by simp) ?_
        refine ok_join (by omega) (fun _ : PUnit => True) (fun _ _ => hBd 0) fun k hk => ?_
        refine ok_brkT rfl ?_
        have hpl := p2.l
        refine ok_bnde (refBound_eq (by omega) hl hb (by show pp.length ≤ 1000; omega)) (ok_brkF ?_ (hk _ trivial))
        have hpb : PrB pp := fun c hc => by
          obtain ⟨j, hj, rfl⟩ := List.getElem_of_mem hc
          have := p2.b j (by omega)
          rwa [getD_get hj] at this
        have hv : boundV f t l pp = (n, 0) := by
          unfold boundV
          rw [if_neg (fun q => q hz), if_neg (fun q => q hpl), if_neg (fun q => q hpb), p2.o.one q5]
        show ((boundV f t l pp).1 != n || (boundV f t l pp).2 != 0) = false
        rw [hv]; simp
      · refine ok_brkT rfl (ok_bnde (refRight_eq (by omega) hb hR q2 q3) (ok_brkF ?_ (_hk _ trivial)))
        rw [q4]; simp
    · rcases hbest with ⟨_, q⟩ | ⟨q, _⟩
      · simp only [Prod.mk.injEq] at q
        obtain ⟨rfl, rfl, rfl⟩ := q
        have hrb : ref11_Best F f t l = some (0, (jobsV f t l).2) := by
          refine Ok.eq ?_
          unfold ref11_Best
          exact ok_bnde (asked_eq (by omega) hl hb) (ok_brkT (by simpa using hz) (ok_some rfl))
        refine ok_bnde hrb (ok_brkF (by simp) ?_)
        have hne : ((jobsV f t l).2 == 0) = false := beq_eq_false_iff_ne.2 hz
        refine ok_join (by omega) (fun _ : PUnit => True) (fun _ _ => ?_) fun k hk => ?_
        · refine ok_bnd _ (Prices_ok (by omega) hl hb) ?_
          rintro ⟨pp, e⟩ hpr
          rcases hpr with ⟨_, q⟩ | ⟨q, _⟩
          · simp only [Prod.mk.injEq] at q
            obtain ⟨rfl, rfl⟩ := q
            refine ok_brkF (by simp) ?_
            refine ok_join (by omega) (fun _ : PUnit => True) (fun _ _ => hBd 0) fun k hk => ?_
            exact ok_brkF hne (ok_brkF (by simp) (hk _ trivial))
          · exact absurd q hz
        · exact ok_brkF hne (ok_brkF (by simp) (hk _ trivial))
      · exact absurd q hz
  · refine ok_find (d := f0) (p := fun x : Flight => decide ((x.Path.length : Int) > 120)) (g := fun x => law11_SpillFlights_1 F ⟨x.From, x.Path⟩) (by omega) (by omega) (fun c _ => rfl) (fun i _ _ => hk _ (.inl (by omega))) (fun hp => hk _ (.inr ⟨by omega, fun x hx => ?_⟩))
    have := of_decide_eq_false (hp x hx)
    omega
theorem spillFlights_ok {f : Field} {t : Fleet} {l : List Flight} {pr : List Int} {P Q R S : Prop} (_ : P) (_ : Q) (_ : R) (_ : S) : law11_SpillFlights 1000000000000000 f t l pr = some true := spillFlights_ok' rfl f t l pr
end Go.Proofs.Sp

namespace Go.KX
open Go Go.ChangeShapes Go.WideShapes Go.RowKit

/-- Types whose reading asks only for cells: numbers, Booleans, and structs, arrays and slices of such. -/
def goodT (P : Program) : Nat → TypeId → Bool
  | 0, _ => false
  | n + 1, t => match P.underlying t with
    | some (.int _) => true
    | some .bool => true
    | some (.struct fs) => fs.toList.all fun f => goodT P n f.type
    | some (.array _ e) => goodT P n e
    | some (.slice e) => goodT P n e && Nat.ble 1 (P.cellsOf e)
    | _ => false

theorem mapM_carry' {α β : Type} {f g : α → Option β} : ∀ {l : List α} {r : List β}, l.mapM f = some r → (∀ x y, x ∈ l → y ∈ r → f x = some y → g x = some y) → l.mapM g = some r := mapM_carry

section
variable {H : Type} {enc : TypeId × Value → H} {P : Program} {w : World} {base : Nat} {held : Bool}

theorem trod_spare {sp : Nat → Bool} : ∀ (m n : Nat) (t : TypeId) (cs : List Value) (x : DataW H × List MemPlace), goodT P m t = true →
    DataW.trod enc P w base (fun _ => true) held n t cs = some x → (∀ p ∈ x.2, sp p.block = true) → DataW.trod enc P w base sp held n t cs = some x := by
  intro m
  induction m with
  | zero => intro n t cs x h; cases h
  | succ m ih =>
    intro n t cs x hg h hs
    cases n with
    | zero => simp [DataW.trod] at h
    | succ n =>
      rw [DataW.trod_step] at h ⊢
      unfold goodT at hg
      unfold DataW.trodStep at h ⊢
      split at h
      case h_1 => exact h
      case h_2 => exact h
      case h_8 e a len cap hu =>
        rw [hu] at hg
        simp only [Bool.and_eq_true] at hg
        simp only at h ⊢
        split at h
        · rename_i hc
          rw [if_pos hc]
          simp only [if_true, Option.map_eq_some_iff, Option.bind_eq_some_iff] at h ⊢
          obtain ⟨elems, he, rest, hr, rfl⟩ := h
          have hlen : elems.length = len := by simpa using mapM_some_length he
          have hrlen : rest.length = cap - len := by simpa using mapM_some_length hr
          have hk : 1 ≤ P.cellsOf e := Nat.le_of_ble_eq_true hg.2
          have one : ∀ i y, (w.cells? base (a.add (i * P.cellsOf e)) (P.cellsOf e)).bind (DataW.trod enc P w base (fun _ => true) held n e) = some y → (∀ p ∈ y.2, sp p.block = true) →
              (w.cells? base (a.add (i * P.cellsOf e)) (P.cellsOf e)).bind (DataW.trod enc P w base sp held n e) = some y := by
            intro i y hy hp
            rw [Option.bind_eq_some_iff] at hy ⊢
            obtain ⟨cs', h1, h2⟩ := hy
            exact ⟨cs', h1, ih n e cs' y hg.1 h2 hp⟩
          have hpl : ∀ y, y ∈ elems ++ rest → ∀ p ∈ y.2, sp p.block = true := fun y hy p hp => hs p (by
            simp only [List.mem_append]
            exact .inr (List.mem_flatMap.2 ⟨y, hy, hp⟩))
          refine ⟨elems, mapM_carry' he fun i y hi hy hiy => one i y hiy (hpl y (by simp [hy])), rest, ?_, rfl⟩
          by_cases hcap : cap = 0
          · have : rest = [] := List.length_eq_zero_iff.1 (by omega)
            subst this
            split
            · rw [show cap - len = 0 by omega]; rfl
            · rfl
          · have : sp a.block = true := by
              have := hs (.cell a.block (a.off + 0)) (by
                simp only [List.mem_append]
                refine .inl (MemPlace.mem_row.2 ⟨0, ?_, rfl⟩)
                rw [hlen, hrlen, show len + (cap - len) = cap by omega]
                exact Nat.mul_pos (by omega) hk)
              exact this
            rw [if_pos this]
            exact mapM_carry' hr fun j y hj hy hjy => one _ y hjy (hpl y (by simp [hy]))
        · cases h
      case h_7 => exact h
      case h_9 fs cs' hu =>
        rw [hu] at hg
        simp only at hg
        split at h
        · rename_i hl
          rw [if_pos hl]
          simp only [Option.map_eq_some_iff] at h ⊢
          obtain ⟨xs, hx, rfl⟩ := h
          refine ⟨xs, mapM_carry' hx fun f y hf hy hfy => ih n f.type _ y (List.all_eq_true.1 hg f hf) hfy fun p hp => hs p ?_, rfl⟩
          exact List.mem_flatMap.2 ⟨y, hy, hp⟩
        · cases h
      case h_10 =>
        rename_i e hu
        rw [hu] at hg
        simp only at hg
        split at h
        · rename_i hl
          rw [if_pos hl]
          simp only [Option.map_eq_some_iff] at h ⊢
          obtain ⟨xs, hx, rfl⟩ := h
          refine ⟨xs, mapM_carry' hx fun f y hf hy hfy => ih n e _ y hg hfy fun p hp => hs p ?_, rfl⟩
          exact List.mem_flatMap.2 ⟨y, hy, hp⟩
        · cases h
      all_goals simp_all

theorem trod_move {w' : World} {sp : Nat → Bool} {t : TypeId} {v : Value} {d : DataW H} {ps : List MemPlace} (hg : goodT P 8 t = true) (h : DataW.Trod enc P w base (fun _ => true) held t v d ps)
    (hsame : ∀ p ∈ ps, w.sameAt w' p) (hs : ∀ p ∈ ps, sp p.block = true) : DataW.Trod enc P w' base sp held t v d ps := by
  obtain ⟨n, hn⟩ := h
  exact ⟨n, trod_spare 8 n t _ _ hg (DataW.trod_carry n t _ _ hn hsame) hs⟩

theorem trodAll_move {w' : World} {sp : Nat → Bool} : ∀ {ts : List TypeId} {vs : List Value} {ds : List (DataW H)} {ps : List MemPlace}, ts.all (goodT P 8) = true → DataW.TrodAll enc P w base (fun _ => true) held ts vs ds ps →
    (∀ p ∈ ps, w.sameAt w' p) → (∀ p ∈ ps, sp p.block = true) → DataW.TrodAll enc P w' base sp held ts vs ds ps := by
  intro ts
  induction ts with
  | nil =>
    intro vs ds ps _ h _ _
    obtain ⟨rfl, rfl, rfl⟩ := trodAll_nil h
    rfl
  | cons t ts ih =>
    intro vs ds ps hg h hsame hs
    obtain ⟨v, vs', d, ds', p, q, rfl, rfl, rfl, h1, h2⟩ := trodAll_cons h
    simp only [List.all_cons, Bool.and_eq_true] at hg
    exact ⟨p, q, trod_move hg.1 h1 (fun x hx => hsame x (by simp [hx])) (fun x hx => hs x (by simp [hx])), ih hg.2 h2 (fun x hx => hsame x (by simp [hx])) (fun x hx => hs x (by simp [hx])), rfl⟩

/-- A law that returns true and leaves what was there alone. -/
theorem post_law {f : Func} {s : ChangeSpec} {W W' : World} {args : Array Value} {ds gs : List (DataW H)} {before : List MemPlace} {tb : TypeId} (hW : DataW.Whole enc P f.params.toList s.vars false W args.toList ds gs before)
    (hv : s.vars = []) (hfn : s.fn H ds = { results := [.lit (.bool true)], args := ds }) (hrt : f.resultTypes = #[tb]) (htb : P.underlying tb = some .bool) (hgood : f.params.toList.all (goodT P 8) = true) (hb : Below W.heap.size W W') :
    s.post enc P f false true false false W args (.bool true) W' := by
  have hW0 := hW
  obtain ⟨p, q, hA, hV, rfl, _, _⟩ := hW
  rw [hv] at hV
  obtain ⟨rfl, rfl⟩ := trodVars_none hV
  have hlt : ∀ x ∈ p ++ [], x.block < W.heap.size := fun x hx => hW0.lt x hx
  have hsame : ∀ x ∈ p, W.sameAt W' x := fun x hx => hb.same (hlt x (by simpa using hx))
  refine ⟨ds, [], p ++ [], [], p, [], hW0, ?_, ?_, ?_, hb.frame _, fun h => by cases h⟩
  · simp only [List.append_nil, hfn, hrt]
    exact trodAll_mk1 (shut_bool htb _)
  · simp only [List.append_nil, hfn]
    exact trodAll_move hgood hA hsame fun x hx => by simpa using hlt x (by simpa using hx)
  · simp only [List.append_nil, hfn, hv]
    rfl
end

theorem wf_u8 {n : Int} (h : (Lit.int .u8 n).wf = true) : 0 ≤ n ∧ n ≤ 255 := by
  simp [Lit.wf, IntKind.min, IntKind.max, IntKind.signed, IntKind.bits] at h
  omega
theorem wf_u16 {n : Int} (h : (Lit.int .u16 n).wf = true) : 0 ≤ n ∧ n ≤ 65535 := by
  simp [Lit.wf, IntKind.min, IntKind.max, IntKind.signed, IntKind.bits] at h
  omega
theorem wf_u32 {n : Int} (h : (Lit.int .u32 n).wf = true) : 0 ≤ n ∧ n ≤ 4294967295 := by
  simp [Lit.wf, IntKind.min, IntKind.max, IntKind.signed, IntKind.bits] at h
  omega
theorem wf_i64 {n : Int} (h : (Lit.int .i64 n).wf = true) : -9223372036854775808 ≤ n ∧ n ≤ 9223372036854775807 := by
  simp [Lit.wf, IntKind.min, IntKind.max, IntKind.signed, IntKind.bits] at h
  omega

/-- Values of the type t read as something of the registered type c, of which In is so. -/
def HReads (E : Env) (t : TypeId) (c : Nat) (In : E.G.car c → Prop) : Prop :=
  E.P.cellsOf t = E.G.sz c ∧ ∀ (H : Type) (e : TypeId × Value → H) (w : World) (base : Nat) (sp : Nat → Bool) (held : Bool) (fuel : Nat) (cs : List Value) (x : DataW H × List MemPlace),
    DataW.trod e E.P w base sp held fuel t cs = some x → ∃ a : E.G.car c, HdL E.G (IsCells w) w (E.G.enc c a) cs ∧ In a

theorem isCells_of {w : World} {a : Addr} {u : Value} (h : w.cell? a = some u) : IsCells w a.block ∧ a.spot = none := by
  unfold World.cell? at h
  split at h
  · rename_i c e s hb
    refine ⟨⟨_, hb, rfl⟩, ?_⟩
    split at h
    · cases h
    · rename_i hs
      simpa using hs
  · cases h

section
variable {E : Env} {H : Type} {e : TypeId × Value → H} {w : World} {base : Nat} {sp : Nat → Bool} {held : Bool}

theorem hdL_one {x : Value} {cv : CV E.G.car} (h : Hd E.G (IsCells w) w cv x) : HdL E.G (IsCells w) w [cv] [x] := ⟨_, _, rfl, h, rfl⟩

theorem hdL_append : ∀ {a b : List (CV E.G.car)} {u v : List Value}, HdL E.G (IsCells w) w a u → HdL E.G (IsCells w) w b v → HdL E.G (IsCells w) w (a ++ b) (u ++ v)
  | [], _, _, _, h, h' => by cases h; exact h'
  | _ :: _, _, _, _, ⟨x, us, rfl, h1, h2⟩, h' => ⟨x, us ++ _, rfl, h1, hdL_append h2 h'⟩

theorem hreads_int {t : TypeId} {c : Nat} {k : IntKind} {In : E.G.car c → Prop} (f : Int → E.G.car c) (hf : ∀ n, E.G.enc c (f n) = [.v (.int k n)]) (hu : E.P.underlying t = some (.int k)) (hc : E.P.cellsOf t = E.G.sz c)
    (hIn : ∀ n, (Lit.int k n).wf = true → In (f n)) : HReads E t c In :=
  ⟨hc, fun _ _ _ _ _ _ _ _ _ h => by
    obtain ⟨n, h1, _, h2⟩ := DataW.trod_int hu h
    subst h1
    exact ⟨f n, by rw [hf]; exact hdL_one (.v _), hIn n h2⟩⟩

theorem hreads_bool {t : TypeId} {c : Nat} {In : E.G.car c → Prop} (f : Bool → E.G.car c) (hf : ∀ n, E.G.enc c (f n) = [.v (.bool n)]) (hu : E.P.underlying t = some .bool) (hc : E.P.cellsOf t = E.G.sz c) (hIn : ∀ b, In (f b)) : HReads E t c In :=
  ⟨hc, fun _ _ _ _ _ _ _ _ _ h => by
    obtain ⟨n, h1, _⟩ := DataW.trod_bool hu h
    subst h1
    exact ⟨f n, by rw [hf]; exact hdL_one (.v _), hIn n⟩⟩

theorem fields_of {t : TypeId} {fs : Array Field} {fuel : Nat} {cs : List Value} {x : DataW H × List MemPlace} (hu : E.P.underlying t = some (.struct fs)) (h : DataW.trod e E.P w base sp held fuel t cs = some x) :
    cs.length = E.P.cellsOf t ∧ ∀ (j : Nat) (fd : Field), fs[j]? = some fd → ∃ fuel y, DataW.trod e E.P w base sp held fuel fd.type ((cs.drop fd.offset).take (E.P.cellsOf fd.type)) = some y := by
  obtain ⟨xs, n, rfl, rfl, hl, hlen, hf⟩ := DataW.trod_struct hu h
  refine ⟨hl, fun j fd hj => ?_⟩
  have hlt : j < xs.length := by have := (Array.getElem?_eq_some_iff.1 hj).1; omega
  exact ⟨n, xs[j], by rw [hf j fd hj, List.getElem?_eq_getElem hlt]⟩

theorem elems_of {t el : TypeId} {n s : Nat} {fuel : Nat} {cs : List Value} {x : DataW H × List MemPlace} (hu : E.P.underlying t = some (.array n el)) (hs : E.P.cellsOf el = s) (h : DataW.trod e E.P w base sp held fuel t cs = some x) :
    cs.length = E.P.cellsOf t ∧ ∀ (j : Nat), j < n → ∃ fuel y, DataW.trod e E.P w base sp held fuel el ((cs.drop (j * s)).take (E.P.cellsOf el)) = some y := by
  obtain ⟨xs, m, rfl, rfl, hl, hlen, hf⟩ := DataW.trod_array hu h
  subst hs
  refine ⟨hl, fun j hj => ?_⟩
  have hlt : j < xs.length := by omega
  exact ⟨m, xs[j], by rw [hf j hj, List.getElem?_eq_getElem hlt]⟩

theorem HReads.at {t : TypeId} {c off : Nat} {In : E.G.car c → Prop} {cs : List Value} (hR : HReads E t c In)
    (hx : ∃ fuel y, DataW.trod e E.P w base sp held fuel t ((cs.drop off).take (E.P.cellsOf t)) = some y) : ∃ a, HdL E.G (IsCells w) w (E.G.enc c a) ((cs.drop off).take (E.G.sz c)) ∧ In a := by
  obtain ⟨fuel, y, h⟩ := hx
  rw [hR.1] at h
  exact hR.2 _ _ _ _ _ _ _ _ _ h

theorem hcut_cons {a r : List (CV E.G.car)} {cs : List Value} {o n : Nat} (h : HdL E.G (IsCells w) w a ((cs.drop o).take n)) (hr : HdL E.G (IsCells w) w r (cs.drop (o + n))) : HdL E.G (IsCells w) w (a ++ r) (cs.drop o) := by
  have := hdL_append h hr
  rwa [← List.drop_drop, List.take_append_drop] at this

theorem hcut_nil {cs : List Value} {o : Nat} (h : cs.length ≤ o) : HdL E.G (IsCells w) w [] (cs.drop o) := List.drop_eq_nil_of_le h

/-- A slice's elements. -/
theorem hslice_of {t el : TypeId} {c fuel : Nat} {In : E.G.car c → Prop} {cs : List Value} {x : DataW H × List MemPlace} (hu : E.P.underlying t = some (.slice el)) (hR : HReads E el c In) (hn : 0 < E.G.sz c)
    (h : DataW.trod e E.P w base sp held fuel t cs = some x) :
    ∃ (p : Option Addr) (n cap : Nat) (l : List (E.G.car c)), cs = [.slice p n cap] ∧ Hd E.G (IsCells w) w (.sl c l) (.slice p n cap) ∧ (∀ x ∈ l, In x) ∧ l.length ≤ 9223372036854775807 := by
  rcases DataW.trod_slice hu h with ⟨rfl, _⟩ | ⟨a, len, cap, elems, rest, m, _, rfl, _, hb, hl, hm, hel, hi, _, _⟩
  · exact ⟨none, 0, 0, [], rfl, Hd.mk (b := 0) (o := 0) rfl (Nat.le_refl _) (fun h => absurd rfl h) (fun i x hx => by simp at hx), by simp, by simp⟩
  have build : ∀ k, k ≤ len → ∃ l : List (E.G.car c), l.length = k ∧ ∀ i x, l[i]? = some x → In x ∧ ∃ us, w.cells? base (a.add (i * E.G.sz c)) (E.G.sz c) = some us ∧ HdL E.G (IsCells w) w (E.G.enc c x) us := by
    intro k
    induction k with
    | zero => intro _; exact ⟨[], rfl, fun i x hx => by simp at hx⟩
    | succ k ih =>
      intro hk
      obtain ⟨l, h1, h2⟩ := ih (by omega)
      have h3 := hi k (by omega)
      rw [List.getElem?_eq_getElem (by omega), hR.1, Option.bind_eq_some_iff] at h3
      obtain ⟨cs', h4, h5⟩ := h3
      obtain ⟨y, hy1, hy⟩ := hR.2 _ _ _ _ _ _ _ _ _ h5
      refine ⟨l ++ [y], by simp [h1], fun i x hx => ?_⟩
      rcases Nat.lt_or_ge i k with h6 | h6
      · rw [List.getElem?_append_left (by omega)] at hx; exact h2 i x hx
      · rw [List.getElem?_append_right (by omega)] at hx
        have : i - l.length = 0 := by
          have := (List.getElem?_eq_some_iff.1 hx).1
          simpa using this
        rw [this] at hx
        simp only [List.getElem?_cons_zero, Option.some.injEq] at hx
        subst hx
        obtain rfl : i = k := by omega
        exact ⟨hy, _, h4, hy1⟩
  obtain ⟨l, h1, h2⟩ := build len (Nat.le_refl _)
  have hcell : ∀ (i : Nat) x, l[i]? = some x → ∀ (j : Nat) (cv : CV E.G.car), (E.G.enc c x)[j]? = some cv → ∃ u, w.cell? ((a.add (i * E.G.sz c)).add j) = some u ∧ Hd E.G (IsCells w) w cv u := by
    intro i x hx j cv hcv
    obtain ⟨_, us, h3, h4⟩ := h2 i x hx
    obtain ⟨u, h5, h6⟩ := h4.get j cv hcv
    obtain ⟨_, h7, h8⟩ := World.cells?_some h3
    refine ⟨u, ?_, h6⟩
    rw [h8 j (by rw [← h7]; exact (List.getElem?_eq_some_iff.1 h5).1), h5]
  refine ⟨some a, len, cap, l, rfl, ?_, fun x hx => ?_, by unfold maxLen at hm; omega⟩
  · rcases Nat.eq_zero_or_pos len with h0 | h0
    · have : l = [] := List.length_eq_zero_iff.1 (by omega)
      subst this
      exact Hd.mk (b := 0) (o := 0) h1.symm hl (fun h => absurd rfl h) (fun i x hx => by simp at hx)
    · have hpos : 0 < l.length := by omega
      have hz : 0 < (E.G.enc c l[0]).length := by rw [E.G.hsz]; exact hn
      obtain ⟨u, h3, _⟩ := hcell 0 l[0] (List.getElem?_eq_getElem hpos) 0 _ (List.getElem?_eq_getElem hz)
      rw [Nat.zero_mul, show (a.add 0).add 0 = a by simp [Addr.add]] at h3
      obtain ⟨h4, h5⟩ := isCells_of h3
      obtain ⟨b, o, s⟩ := a
      simp only at h4 h5
      subst h5
      refine Hd.mk (b := b) (o := o) h1.symm hl (fun _ => ⟨rfl, h4⟩) (fun i x hx j cv hcv => ?_)
      have := hcell i x hx j cv hcv
      rwa [addr_add, addr_add] at this
  · obtain ⟨i, hi⟩ := List.getElem?_of_mem hx
    exact (h2 i x hi).1

theorem hreads_slice {t el : TypeId} {c d : Nat} {In : E.G.car c → Prop} {In' : E.G.car d → Prop} (f : List (E.G.car c) → E.G.car d) (hf : ∀ l, E.G.enc d (f l) = [.sl c l]) (hu : E.P.underlying t = some (.slice el)) (hR : HReads E el c In)
    (hn : 0 < E.G.sz c) (hc : E.P.cellsOf t = E.G.sz d) (hIn : ∀ l, (∀ x ∈ l, In x) → l.length ≤ 9223372036854775807 → In' (f l)) : HReads E t d In' :=
  ⟨hc, fun _ _ _ _ _ _ _ _ _ h => by
    obtain ⟨p, n, cap, l, rfl, h1, h2, h3⟩ := hslice_of hu hR hn h
    exact ⟨f l, by rw [hf]; exact hdL_one h1, hIn l h2 h3⟩⟩

/-! ### Arguments -/

theorem harg_int {r : Reach} {b0 : Nat} {t : TypeId} {c : Nat} {k : IntKind} {In : E.G.car c → Prop} {v : Value} {d : DataW H} {ps : List MemPlace} (hR : HReads E t c In) (hu : E.P.underlying t = some (.int k))
    (hval : Value.okWide E.P w r b0 t v) (h : DataW.Trod e E.P w base sp held t v d ps) : ∃ a : E.G.car c, ArgIs E (IsCells w) w (.v c false) a v ∧ In a := by
  obtain ⟨n, rfl⟩ := okWide_int hu hval
  obtain ⟨fuel, hf⟩ := h
  obtain ⟨a, h1, h2⟩ := hR.2 _ _ _ _ _ _ _ _ _ hf
  exact ⟨a, ⟨_, h1, rfl⟩, h2⟩

theorem harg_bool {r : Reach} {b0 : Nat} {t : TypeId} {c : Nat} {In : E.G.car c → Prop} {v : Value} {d : DataW H} {ps : List MemPlace} (hR : HReads E t c In) (hu : E.P.underlying t = some .bool)
    (hval : Value.okWide E.P w r b0 t v) (h : DataW.Trod e E.P w base sp held t v d ps) : ∃ a : E.G.car c, ArgIs E (IsCells w) w (.v c false) a v ∧ In a := by
  obtain ⟨n, rfl⟩ := okWide_bool hu hval
  obtain ⟨fuel, hf⟩ := h
  obtain ⟨a, h1, h2⟩ := hR.2 _ _ _ _ _ _ _ _ _ hf
  exact ⟨a, ⟨_, h1, rfl⟩, h2⟩

theorem harg_agg {r : Reach} {b0 : Nat} {t : TypeId} {c : Nat} {fs : Array Field} {In : E.G.car c → Prop} {v : Value} {d : DataW H} {ps : List MemPlace} (hR : HReads E t c In) (hu : E.P.underlying t = some (.struct fs))
    (hval : Value.okWide E.P w r b0 t v) (h : DataW.Trod e E.P w base sp held t v d ps) : ∃ a : E.G.car c, ArgIs E (IsCells w) w (.v c true) a v ∧ In a := by
  obtain ⟨cs, rfl, _⟩ := okWide_struct hu hval
  obtain ⟨fuel, hf⟩ := h
  obtain ⟨a, h1, h2⟩ := hR.2 _ _ _ _ _ _ _ _ _ hf
  exact ⟨a, ⟨_, h1, rfl⟩, h2⟩

theorem harg_sl {r : Reach} {b0 : Nat} {t el : TypeId} {c : Nat} {In : E.G.car c → Prop} {v : Value} {d : DataW H} {ps : List MemPlace} (hu : E.P.underlying t = some (.slice el)) (hR : HReads E el c In) (hn : 0 < E.G.sz c)
    (hval : Value.okWide E.P w r b0 t v) (h : DataW.Trod e E.P w base sp held t v d ps) : ∃ a : List (E.G.car c), ArgIs E (IsCells w) w (.sl c) a v ∧ (∀ x ∈ a, In x) ∧ a.length ≤ 9223372036854775807 := by
  obtain ⟨p, n, cap, rfl⟩ := okWide_slice hu hval
  obtain ⟨fuel, hf⟩ := h
  obtain ⟨p', n', cap', l, h1, h2, h3, h4⟩ := hslice_of hu hR hn hf
  have h1 : [Value.slice p n cap] = [.slice p' n' cap'] := h1
  simp only [List.cons.injEq, and_true, Value.slice.injEq] at h1
  obtain ⟨rfl, rfl, rfl⟩ := h1
  exact ⟨l, h2, h3, h4⟩

/-- A law whose mirror answers true returns true, and leaves what was there. -/
theorem law_calls {k : Nat} {ps : List PK} {t : Nat} {es : List Nat} {f : AT E.G.car ps → Option (E.G.car t)} (hc : CSok E [] ⟨k, ps, [.v t false es], f⟩) (hglo : E.glo = []) (b : E.G.car t) (hb : E.G.enc t b = [.v (.bool true)])
    {vs : List Value} {xs : AT E.G.car ps} (ha : ArgsAre E (IsCells w) w ps xs vs) (hm : f xs = some b) :
    Calls E.P k vs.toArray w fun e w' => e = .returned (.bool true) ∧ Below w.heap.size w w' := by
  have h := hc.ok (IsCells w) w vs xs ⟨fun _ => ⟨0, none, 0, 0⟩, by rw [hglo]; exact And.intro (fun p hp => nomatch hp) (fun q hq => nomatch hq)⟩ (fun _ h => h) ha b hm
  refine h.mono fun e' w' ⟨us, ms, A', h1, h2, _, _, _, h3, _⟩ => ⟨?_, h2⟩
  obtain ⟨v, rfl, us', h4, h5⟩ := h3
  simp only [Bool.false_eq_true, if_false] at h5
  subst h5
  have h4 : ResCells E.G A' w.heap.size w' (E.G.enc t b) es [v] ms := h4
  rw [hb] at h4
  obtain ⟨us2, h6, _⟩ := h4
  cases h6
  exact h1
end
end Go.KX
