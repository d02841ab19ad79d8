/- Texts PSP, PSJ, PSQ, PSR, PSS, PST, PSU, PSV, KFR: own work; each part says what it is. -/
import Derived.Test.YthojfpmmocenkaaFi3
import Derived.Handed
import Derived.OpenShut
import Derived.ChangeSlices
import Derived.JoinedOf
namespace Go.Proofs.Sp
open Go Go.KX

/-! ### Neighbours -/

def nbR (W H c : Int) : List Int := (((if c / W > 0 then [c - W] else []) ++ (if c % W < W - 1 then [c + 1] else [])) ++ (if c / W < H - 1 then [c + W] else [])) ++ (if c % W > 0 then [c - 1] else [])

theorem nbR_eq {W H c : Int} (hW : 1 ≤ W ∧ W ≤ 8) (hH : 1 ≤ H ∧ H ≤ 8) (hc : 0 ≤ c ∧ c < W * H) : nb W H c = nbR W H c := by
  obtain ⟨p1, p2, p3, p4⟩ := pos_bound hW hH hc
  have e := Int.emod_add_mul_ediv c W
  have e2 : c / W * W = W * (c / W) := Int.mul_comm _ _
  have o1 : okD W H c ⟨0, -1⟩ = decide (c / W > 0) := by
    simp only [okD]
    by_cases h : c / W > 0
    · rw [decide_eq_true h, decide_eq_true (by omega), decide_eq_true (by omega), decide_eq_true (by omega), decide_eq_true (by omega)]; rfl
    · rw [decide_eq_false h, decide_eq_false (show ¬ (c / W + -1 ≥ 0) by omega)]; simp
  have o2 : okD W H c ⟨1, 0⟩ = decide (c % W < W - 1) := by
    simp only [okD]
    by_cases h : c % W < W - 1
    · rw [decide_eq_true h, decide_eq_true (by omega), decide_eq_true (by omega), decide_eq_true (by omega), decide_eq_true (by omega)]; rfl
    · rw [decide_eq_false h, decide_eq_false (show ¬ (c % W + 1 ≤ W - 1) by omega)]; simp
  have o3 : okD W H c ⟨0, 1⟩ = decide (c / W < H - 1) := by
    simp only [okD]
    by_cases h : c / W < H - 1
    · rw [decide_eq_true h, decide_eq_true (by omega), decide_eq_true (by omega), decide_eq_true (by omega), decide_eq_true (by omega)]; rfl
    · rw [decide_eq_false h, decide_eq_false (show ¬ (c / W + 1 ≤ H - 1) by omega)]; simp
  have o4 : okD W H c ⟨-1, 0⟩ = decide (c % W > 0) := by
    simp only [okD]
    by_cases h : c % W > 0
    · rw [decide_eq_true h, decide_eq_true (by omega), decide_eq_true (by omega), decide_eq_true (by omega), decide_eq_true (by omega)]; rfl
    · rw [decide_eq_false h, decide_eq_false (show ¬ (c % W + -1 ≥ 0) by omega)]; simp
  have t1 : toD W c ⟨0, -1⟩ = c - W := by simp only [toD, Int.add_mul]; omega
  have t2 : toD W c ⟨1, 0⟩ = c + 1 := by simp only [toD, Int.add_mul]; omega
  have t3 : toD W c ⟨0, 1⟩ = c + W := by simp only [toD, Int.add_mul]; omega
  have t4 : toD W c ⟨-1, 0⟩ = c - 1 := by simp only [toD, Int.add_mul]; omega
  unfold nb nbl nbR
  have f1 : dirs.filter (okD W H c) = (((if c / W > 0 then [⟨0, -1⟩] else []) ++ (if c % W < W - 1 then [⟨1, 0⟩] else [])) ++ (if c / W < H - 1 then [⟨0, 1⟩] else [])) ++ (if c % W > 0 then [⟨-1, 0⟩] else []) := by
    simp only [List.filter, o1, o2, o3, o4]
    by_cases h1 : c / W > 0 <;> by_cases h2 : c % W < W - 1 <;> by_cases h3 : c / W < H - 1 <;> by_cases h4 : c % W > 0 <;> simp [h1, h2, h3, h4]
  rw [f1]
  simp only [List.map_append]
  congr 1
  · congr 1
    · congr 1
      · split <;> simp [t1]
      · split <;> simp [t2]
    · split <;> simp [t3]
  · split <;> simp [t4]

theorem refNb_eq {F : Nat} {W H c : Int} (hW : 1 ≤ W ∧ W ≤ 8) (hH : 1 ≤ H ∧ H ≤ 8) (hc : 0 ≤ c ∧ c < W * H) : ref11_Neighbours F W H c = some (nb W H c) := by
  rw [nbR_eq hW hH hc]
  obtain ⟨p1, p2, p3, p4⟩ := pos_bound hW hH hc
  have hb := mul_bound hW.1 hW.2 hH.1 hH.2
  refine Ok.eq ?_
  unfold ref11_Neighbours
  refine ok_chk ⟨⟨by omega, by omega⟩, by omega⟩ (ok_chk ⟨⟨by omega, by omega⟩, by omega⟩ ?_)
  refine ok_join (fun x : List Int => x = (if c / W > 0 then [c - W] else [])) (fun x hx => ?_) fun k hk => ?_
  rotate_left
  · refine ok_brk (fun h => ?_) (fun h => hk _ ?_)
    · have h : c / W > 0 := of_decide_eq_true h
      exact ok_chk ⟨by omega, by omega⟩ (ok_chk (by simp) (hk _ (by rw [if_pos h])))
    · rw [if_neg (of_decide_eq_false h)]
  have lx : x.length ≤ 1 := by rw [hx]; split <;> simp
  refine ok_join (fun y : List Int => y = x ++ (if c % W < W - 1 then [c + 1] else [])) (fun y hy => ?_) fun k hk => ?_
  rotate_left
  · refine ok_chk ⟨by omega, by omega⟩ (ok_brk (fun h => ?_) (fun h => hk _ ?_))
    · have h : c % W < W - 1 := of_decide_eq_true h
      exact ok_chk ⟨by omega, by omega⟩ (ok_chk (by simp; omega) (hk _ (by rw [if_pos h])))
    · rw [if_neg (of_decide_eq_false h)]; simp
  have ly : y.length ≤ 2 := by rw [hy, List.length_append]; split <;> simp <;> omega
  refine ok_join (fun z : List Int => z = y ++ (if c / W < H - 1 then [c + W] else [])) (fun z hz => ?_) fun k hk => ?_
  rotate_left
  · refine ok_chk ⟨by omega, by omega⟩ (ok_brk (fun h => ?_) (fun h => hk _ ?_))
    · have h : c / W < H - 1 := of_decide_eq_true h
      exact ok_chk ⟨by omega, by omega⟩ (ok_chk (by simp; omega) (hk _ (by rw [if_pos h])))
    · rw [if_neg (of_decide_eq_false h)]; simp
  have lz : z.length ≤ 3 := by rw [hz, List.length_append]; split <;> simp <;> omega
  refine ok_join (fun u : List Int => u = nbR W H c) (fun u hu => ok_some hu) fun k hk => ?_
  refine ok_brk (fun h => ?_) (fun h => hk _ ?_)
  · have h : c % W > 0 := of_decide_eq_true h
    refine ok_chk ⟨by omega, by omega⟩ (ok_chk (by simp; omega) (hk _ ?_))
    rw [hz, hy, hx, nbR, if_pos h]
  · rw [hz, hy, hx, nbR, if_neg (of_decide_eq_false h)]; simp

/-- Facts of all grids: neighbours are there both ways, once, and are others. -/
def gridOK (W H : Int) : Bool := (List.range (W * H).toNat).all fun c => decide ((nbR W H c).Nodup) && !(nbR W H c).contains (c : Int) && (List.range (W * H).toNat).all fun k => (nbR W H c).contains (k : Int) == (nbR W H k).contains (c : Int)
theorem grids_ok : ((List.range 9).all fun W => (List.range 9).all fun H => gridOK W H) = true := by decide +kernel

theorem grid_of {W H : Int} (hW : 1 ≤ W ∧ W ≤ 8) (hH : 1 ≤ H ∧ H ≤ 8) {c : Int} (hc : 0 ≤ c ∧ c < W * H) : (nb W H c).Nodup ∧ c ∉ nb W H c ∧ ∀ k, 0 ≤ k → k < W * H → (k ∈ nb W H c ↔ c ∈ nb W H k) := by
  have h := grids_ok
  rw [List.all_eq_true] at h
  have h1 := h W.toNat (List.mem_range.2 (by omega))
  rw [List.all_eq_true] at h1
  have h2 := h1 H.toNat (List.mem_range.2 (by omega))
  rw [show ((W.toNat : Nat) : Int) = W by omega, show ((H.toNat : Nat) : Int) = H by omega, gridOK, List.all_eq_true] at h2
  have h3 := h2 c.toNat (List.mem_range.2 (by omega))
  rw [show ((c.toNat : Nat) : Int) = c by omega] at h3
  simp only [Bool.and_eq_true, decide_eq_true_eq, Bool.not_eq_true', List.all_eq_true] at h3
  rw [nbR_eq hW hH hc]
  refine ⟨h3.1.1, fun hm => ?_, fun k k1 k2 => ?_⟩
  · have := h3.1.2
    rw [List.contains_iff_mem.2 hm] at this; cases this
  · have h4 := h3.2 k.toNat (List.mem_range.2 (by omega))
    rw [show ((k.toNat : Nat) : Int) = k by omega] at h4
    rw [nbR_eq hW hH ⟨k1, k2⟩]
    have h5 : (nbR W H c).contains k = (nbR W H k).contains c := by simpa using h4
    constructor
    · intro hm; exact List.contains_iff_mem.1 (by rw [← h5]; exact List.contains_iff_mem.2 hm)
    · intro hm; exact List.contains_iff_mem.1 (by rw [h5]; exact List.contains_iff_mem.2 hm)

/-! ### What a cell gets -/

def sumAt (k : Int) : List (Int × Int) → Int
  | [] => 0
  | p :: r => (if p.1 = k then p.2 else 0) + sumAt k r
theorem sumAt_append (k : Int) : ∀ l r : List (Int × Int), sumAt k (l ++ r) = sumAt k l + sumAt k r
  | [], r => by simp [sumAt]
  | x :: l, r => by simp only [List.cons_append, sumAt, sumAt_append k l r]; omega

theorem adds_get {k : Int} (hk : 0 ≤ k) : ∀ (cs : List (Int × Int)) (l : List Int), k < l.length → (∀ p ∈ cs, 0 ≤ p.1 ∧ p.1 < l.length) → (adds l cs).getD k.toNat 0 = l.getD k.toNat 0 + sumAt k cs
  | [], l, _, _ => by simp [adds, sumAt]
  | p :: cs, l, hl, h => by
    have hp := h p (by simp)
    rw [adds, adds_get hk cs _ (by rw [addAt_len]; exact hl) (fun q hq => by rw [addAt_len]; exact h q (by simp [hq])), addAt, getD_set' (by omega), sumAt]
    by_cases e : p.1 = k
    · rw [if_pos (by rw [e]), if_pos e, e]; omega
    · rw [if_neg (by omega), if_neg e]; omega

def giveAt (f m : Int) : Int → List Int → Int → Int
  | _, [], _ => 0
  | i, q :: ks, k => if q = k then (f + i) / m else giveAt f m (i + 1) ks k

theorem giveAt_none {f m k : Int} : ∀ (ks : List Int) (i : Int), k ∉ ks → giveAt f m i ks k = 0 ∧ sumAt k (give f m i ks) = 0
  | [], _, _ => ⟨rfl, rfl⟩
  | q :: ks, i, h => by
    have h1 : q ≠ k := fun e => h (by simp [e])
    obtain ⟨h2, h3⟩ := giveAt_none ks (i + 1) fun hm : k ∈ ks => h (List.mem_cons_of_mem _ hm)
    exact ⟨by rw [giveAt, if_neg h1, h2], by rw [give, sumAt, if_neg h1, h3]; rfl⟩
theorem sumAt_give {f m k : Int} : ∀ (ks : List Int) (i : Int), ks.Nodup → sumAt k (give f m i ks) = giveAt f m i ks k
  | [], _, _ => rfl
  | q :: ks, i, h => by
    rw [List.nodup_cons] at h
    rw [give, sumAt, giveAt]
    by_cases e : q = k
    · subst e
      rw [if_pos rfl, if_pos rfl, (giveAt_none ks (i + 1) h.1).2]; simp
    · rw [if_neg e, if_neg e, sumAt_give ks (i + 1) h.2]; simp

def sumR (G : Int → Int) : Nat → Int
  | 0 => 0
  | n + 1 => sumR G n + G n
theorem sumR_congr {G G' : Int → Int} : ∀ n : Nat, (∀ c : Nat, c < n → G c = G' c) → sumR G n = sumR G' n
  | 0, _ => rfl
  | n + 1, h => by rw [sumR, sumR, sumR_congr n fun c hc => h c (by omega), h n (by omega)]
theorem sumR_zero (n : Nat) : sumR (fun _ => 0) n = 0 := by
  induction n with
  | zero => rfl
  | succ n ih => rw [sumR, ih]; rfl
theorem sumR_pick {G : Int → Int} {q : Int} (hq : 0 ≤ q) : ∀ n : Nat, q < n → sumR G n = G q + sumR (fun c => if c = q then 0 else G c) n
  | 0, h => by omega
  | n + 1, h => by
    rw [sumR, sumR]
    by_cases e : q = n
    · subst e
      rw [if_pos rfl, sumR_congr (G' := fun c => if c = (n : Int) then 0 else G c) n fun c hc => by rw [if_neg (by omega)]]
      omega
    · rw [sumR_pick hq n (by omega), if_neg (fun h => e h.symm)]; omega
def sumO (G : Int → Int) : List Int → Int
  | [] => 0
  | q :: ks => G q + sumO G ks
theorem sumO_congr {G G' : Int → Int} : ∀ ks : List Int, (∀ c ∈ ks, G c = G' c) → sumO G ks = sumO G' ks
  | [], _ => rfl
  | q :: ks, h => by rw [sumO, sumO, h q (by simp), sumO_congr ks fun c hc => h c (by simp [hc])]
theorem sumR_over {n : Nat} : ∀ (ks : List Int) (G : Int → Int), ks.Nodup → (∀ q ∈ ks, 0 ≤ q ∧ q < n) → (∀ c : Nat, c < n → (c : Int) ∉ ks → G c = 0) → sumR G n = sumO G ks
  | [], G, _, _, h => by rw [sumR_congr (G' := fun _ => 0) n fun c hc => h c hc (by simp), sumR_zero]; rfl
  | q :: ks, G, hn, hr, h => by
    rw [List.nodup_cons] at hn
    have hq := hr q (by simp)
    rw [sumR_pick hq.1 n hq.2, sumR_over ks (fun c => if c = q then 0 else G c) hn.2 (fun x hx => hr x (by simp [hx])) (fun c hc hm => ?_), sumO]
    · congr 1
      exact sumO_congr ks fun c hc => if_neg (fun e : c = q => hn.1 (e ▸ hc))
    · by_cases e : (c : Int) = q
      · rw [if_pos e]
      · rw [if_neg e]; exact h c hc (by simp [e, hm])

/-- What the cell k has after an hour. -/
def afterV (W H : Int) (am st gi : List Int) (k : Int) : Int :=
  if (nb W H k).length = 0 then am.getD k.toNat 0 else am.getD k.toNat 0 - offV (am.getD k.toNat 0) (st.getD k.toNat 0) + sumO (fun l => giveAt (offV (am.getD l.toNat 0) (gi.getD l.toNat 0)) (nb W H l).length 0 (nb W H l) k) (nb W H k)

theorem hour_get {W H : Int} {am st gi : List Int} (hW : 1 ≤ W ∧ W ≤ 8) (hH : 1 ≤ H ∧ H ≤ 8) (hl : (am.length : Int) = W * H) {k : Int} (hk : 0 ≤ k ∧ k < W * H) : (hourV W H am st gi).getD k.toNat 0 = afterV W H am st gi k := by
  unfold hourV
  rw [adds_get hk.1 _ _ (by rw [List.length_replicate]; omega) (fun p hp => by rw [List.length_replicate, hl]; exact contrs_keys hW hH _ (by omega) p hp)]
  have e0 : (List.replicate am.length (0 : Int)).getD k.toNat 0 = 0 := by rw [getD_get (by simp; omega)]; simp
  rw [e0, Int.zero_add]
  have step : ∀ n : Nat, (n : Int) ≤ W * H → sumAt k (contrs W H am st gi n) = sumR (fun c => sumAt k (contr W H c (am.getD c.toNat 0) (st.getD c.toNat 0) (gi.getD c.toNat 0))) n := by
    intro n
    induction n with
    | zero => intro _; rfl
    | succ n ih =>
      intro hn
      rw [contrs, sumAt_append, ih (by omega), sumR]
      simp
  rw [step _ (by omega)]
  obtain ⟨g1, g2, g3⟩ := grid_of hW hH hk
  have one : ∀ c : Nat, (c : Int) < W * H → (c : Int) ≠ k → sumAt k (contr W H c (am.getD (c : Int).toNat 0) (st.getD (c : Int).toNat 0) (gi.getD (c : Int).toNat 0)) = giveAt (offV (am.getD (c : Int).toNat 0) (gi.getD (c : Int).toNat 0)) (nb W H c).length 0 (nb W H c) k := by
    intro c hc hne
    obtain ⟨n1, _, _⟩ := grid_of hW hH (c := c) ⟨by omega, hc⟩
    unfold contr
    split
    · rename_i h0
      rw [List.length_eq_zero_iff.1 h0]
      simp only [sumAt, giveAt]
      rw [if_neg hne]; rfl
    · rw [sumAt, sumAt_give _ _ n1]
      simp only
      rw [if_neg hne]; simp
  rw [sumR_pick hk.1 _ (by omega)]
  have two : sumR (fun c => if c = k then 0 else sumAt k (contr W H c (am.getD c.toNat 0) (st.getD c.toNat 0) (gi.getD c.toNat 0))) am.length = sumO (fun l => giveAt (offV (am.getD l.toNat 0) (gi.getD l.toNat 0)) (nb W H l).length 0 (nb W H l) k) (nb W H k) := by
    rw [sumR_over (nb W H k) _ g1 (fun q hq => by rw [hl]; exact nbl_mem hW hH q hq) (fun c hc hm => ?_)]
    · refine sumO_congr _ fun c hc => ?_
      have hcr := nbl_mem hW hH c hc
      have hne : c ≠ k := fun e => g2 (e ▸ hc)
      have := one c.toNat (by omega) (by omega)
      rw [show ((c.toNat : Nat) : Int) = c by omega] at this
      rw [if_neg hne, this]
    · split
      · rfl
      · rename_i hne
        rw [one c (by omega) hne]
        exact (giveAt_none _ _ (fun h => hm ((g3 c (by omega) (by omega)).2 h))).1
  rw [two]
  unfold afterV
  by_cases h0 : (nb W H k).length = 0
  · rw [if_pos h0, contr, if_pos h0, List.length_eq_zero_iff.1 h0]
    simp [sumAt, sumO]
  · rw [if_neg h0, contr, if_neg h0, sumAt, sumAt_give _ _ g1, (giveAt_none _ _ g2).1]
    simp
end Go.Proofs.Sp

namespace Go.Proofs.Sp
open Go Go.KX

/-- The bounds of the cell c after h hours. -/
def atV (f : Field) (caps : List Span) (c : Int) (h : Nat) : Span := (spreadN f.W f.H caps h f.Cells).getD c.toNat ⟨0, 0⟩

/-- What When returns. -/
def WhenV (f : Field) (caps : List Span) (c : Int) (w : Span) (e : Int) : Prop :=
  (e = 0 ∧ 0 ≤ w.Lo ∧ w.Lo ≤ w.Hi ∧ w.Hi ≤ 48 ∧ 0 < (atV f caps c w.Lo.toNat).Hi ∧ 0 < (atV f caps c w.Hi.toNat).Lo ∧ (∀ h : Nat, (h : Int) < w.Lo → (atV f caps c h).Hi ≤ 0) ∧ ∀ h : Nat, (h : Int) < w.Hi → (atV f caps c h).Lo ≤ 0) ∨
  (w = ⟨0, 0⟩ ∧ e = 4 ∧ ∀ h : Nat, h ≤ 48 → (atV f caps c h).Lo ≤ 0)
def WhenOK (f : Field) (caps : List Span) (c : Int) (x : Span × Int) : Prop := WhenV f caps c x.1 x.2

theorem at_ok {F : Nat} {f : Field} {caps : List Span} {c : Int} (hF : 100 < F) (hf : FieldOK f) (hcp : CapsOK f.Cells.length caps) (h1 : 0 ≤ c) (h2 : c < f.Cells.length) (h : Nat) : SpanOK 1000000 (atV f caps c h) := by
  obtain ⟨g1, g2⟩ := spreadN_ok hF hf hcp h
  exact g1.cells _ (getD_mem (l := spreadN f.W f.H caps h f.Cells) (i := c.toNat) (d := (⟨0, 0⟩ : Span)) (by show c.toNat < (spreadN f.W f.H caps h f.Cells).length; omega))

theorem When_ok {F : Nat} {f : Field} {caps : List Span} {c : Int} (hF : 100 < F) (hf : FieldOK f) (hcp : CapsOK f.Cells.length caps) (h1 : 0 ≤ c) (h2 : c < f.Cells.length) : Ok (WhenOK f caps c) (spill_When F f caps c) := by
  have hs := hf.small
  have hcl := hcp.len
  unfold spill_When
  refine ok_bnde (Check_eq (by show f.Cells.length < F; omega)) ?_
  rw [show checkV (Field.mk f.W f.H f.Cells) = 0 from hf.check]
  refine ok_brkF (by simp) (ok_brkF (by simp [hcl]) ?_)
  refine ok_join (fun i : Int => 0 ≤ i ↔ ¬ ∀ s ∈ caps, SpanOK 10000 s) (fun i hi => ?_) fun k hk => find_ok (g := spill_begin_1) (m := 10000) (fun s => by unfold spill_begin_1; rw [span_eq, bnd_so]) k (by omega) (by omega) hk
  refine ok_brkF ?_ ?_
  · rw [decide_eq_false_iff_not]
    exact fun h => (hi.1 h) hcp.ok
  refine ok_bnde (clone_eq (by omega)) (ok_chk ⟨by omega, by omega⟩ (ok_bnde (b := true) (congrArg some (wb h1 (by omega))) (ok_brkF rfl ?_)))
  refine ok_loop (fun x : Int × Int × List Span => 0 ≤ x.1 ∧ x.1 ≤ 49 ∧ x.2.2 = spreadN f.W f.H caps x.1.toNat f.Cells ∧ (∀ h : Nat, (h : Int) < x.1 → (atV f caps c h).Lo ≤ 0) ∧
      ((x.2.1 = -1 ∧ ∀ h : Nat, (h : Int) < x.1 → (atV f caps c h).Hi ≤ 0) ∨ (0 ≤ x.2.1 ∧ x.2.1 < x.1 ∧ 0 < (atV f caps c x.2.1.toNat).Hi ∧ ∀ h : Nat, (h : Int) < x.2.1 → (atV f caps c h).Hi ≤ 0))) (fun x : Int × Int × List Span => 49 - x.1.toNat)
    ⟨by simp, by simp, rfl, fun h hh => by simp at hh; omega, .inl ⟨rfl, fun h hh => by simp at hh; omega⟩⟩ (by simp; omega) ?_
  rintro ⟨hour, lo, cells⟩ next ⟨i1, i2, i3, i4, i5⟩ hn
  simp only at i1 i2 i3 i4 i5
  obtain ⟨g1, g2⟩ := spreadN_ok (F := F) hF hf hcp hour.toNat
  rw [← i3] at g1 g2
  have hat : cells.getD c.toNat ⟨0, 0⟩ = atV f caps c hour.toNat := by rw [i3]; rfl
  have hao := at_ok hF hf hcp h1 h2 hour.toNat
  refine ok_brk (fun hc => ?_) (fun hc => ok_some (.inr ⟨rfl, rfl, fun h hh => i4 h (by have := of_decide_eq_false hc; omega)⟩))
  have hc : hour ≤ 48 := by simpa using hc
  have hidx : 0 ≤ c ∧ c < (cells.length : Int) := ⟨h1, by omega⟩
  refine ok_join (fun l : Int => (l = -1 ∧ ∀ h : Nat, (h : Int) ≤ hour → (atV f caps c h).Hi ≤ 0) ∨ (0 ≤ l ∧ l ≤ hour ∧ 0 < (atV f caps c l.toNat).Hi ∧ ∀ h : Nat, (h : Int) < l → (atV f caps c h).Hi ≤ 0)) (fun l hl => ?_) fun k hk => ?_
  · refine ok_chk hidx ?_
    show Ok _ (brk (decide ((cells.getD c.toNat ⟨0, 0⟩).Lo > 0)) _ _)
    rw [hat]
    refine ok_brk (fun hb => ok_some ?_) (fun hb => ?_)
    · have hb : 0 < (atV f caps c hour.toNat).Lo := by simpa using hb
      rcases hl with ⟨_, q2⟩ | ⟨q1, q2, q3, q4⟩
      · have := q2 hour.toNat (by omega)
        omega
      · exact .inl ⟨rfl, q1, q2, hc, q3, hb, q4, i4⟩
    · have hb : (atV f caps c hour.toNat).Lo ≤ 0 := by have := of_decide_eq_false hb; omega
      refine ok_bnde (spread_eq (f := ⟨f.W, f.H, cells⟩) hF g1 (by show CapsOK cells.length caps; rw [g2]; exact hcp)).1 (ok_chk ⟨by omega, by omega⟩ (hn _ ⟨by show 0 ≤ hour + 1; omega, by show hour + 1 ≤ 49; omega, ?_, fun h hh => ?_, ?_⟩ (by show 49 - (hour + 1).toNat < 49 - hour.toNat; omega)))
      · show spreadV f.W f.H cells caps = spreadN f.W f.H caps (hour + 1).toNat f.Cells
        rw [show (hour + 1).toNat = hour.toNat + 1 by omega, spreadN, i3]
      · have hh : (h : Int) < hour + 1 := hh
        by_cases e : (h : Int) < hour
        · exact i4 h e
        · obtain rfl : h = hour.toNat := by omega
          exact hb
      · rcases hl with ⟨q1, q2⟩ | ⟨q1, q2, q3, q4⟩
        · exact .inl ⟨q1, fun h hh => q2 h (by have hh : (h : Int) < hour + 1 := hh; omega)⟩
        · exact .inr ⟨q1, by show l < hour + 1; omega, q3, q4⟩
  · refine ok_chk (fun _ => hidx) ?_
    show Ok _ (brk (decide (lo < 0) && decide ((cells.getD c.toNat ⟨0, 0⟩).Hi > 0)) _ _)
    rw [hat]
    refine ok_brk (fun hb => hk _ ?_) (fun hb => hk _ ?_)
    · simp only [Bool.and_eq_true, decide_eq_true_eq] at hb
      rcases i5 with ⟨q1, q2⟩ | ⟨q1, _⟩
      · exact .inr ⟨i1, Int.le_refl _, hb.2, q2⟩
      · omega
    · simp only [Bool.and_eq_false_iff, decide_eq_false_iff_not] at hb
      rcases i5 with ⟨q1, q2⟩ | ⟨q1, q2, q3, q4⟩
      · refine .inl ⟨q1, fun h hh => ?_⟩
        by_cases e : (h : Int) < hour
        · exact q2 h e
        · obtain rfl : h = hour.toNat := by omega
          omega
      · exact .inr ⟨q1, by show lo ≤ hour; omega, q3, q4⟩

end Go.Proofs.Sp

namespace Go.Proofs.Sp
open Go Go.KX

theorem refOff_eq {F : Nat} {a c : Int} (ha : 0 ≤ a ∧ a ≤ 1000000) (hc : 0 ≤ c ∧ c ≤ 1000000) : ref11_off F a c = some (offV a c) := by
  unfold ref11_off offV
  by_cases h : a ≤ c
  · rw [decide_eq_true h, brk_true, if_neg (by omega)]; rfl
  · rw [decide_eq_false h, brk_false, chk_pos ⟨by omega, by omega⟩, chk_pos ⟨by omega, by omega⟩, if_pos (by omega)]

theorem refGiven_eq {F : Nat} {W H fr to a c : Int} (hF : 100 < F) (hW : 1 ≤ W ∧ W ≤ 8) (hH : 1 ≤ H ∧ H ≤ 8) (hf : 0 ≤ fr ∧ fr < W * H) (ha : 0 ≤ a ∧ a ≤ 1000000) (hc : 0 ≤ c ∧ c ≤ 1000000) :
    ref11_Given F W H fr to a c = some (giveAt (offV a c) (nb W H fr).length 0 (nb W H fr) to) := by
  refine Ok.eq ?_
  unfold ref11_Given
  refine ok_bnde (refNb_eq hW hH hf) ?_
  have h4 : (nb W H fr).length ≤ 4 := nbl_le4 W H fr 4
  have hob := offV_bound ha hc.1
  generalize nb W H fr = ks at h4
  refine ok_loop (fun i : Int => 0 ≤ i ∧ i ≤ ks.length ∧ giveAt (offV a c) ks.length i (ks.drop i.toNat) to = giveAt (offV a c) ks.length 0 ks to) (fun i : Int => ks.length - i.toNat) ⟨by omega, by omega, rfl⟩ (by simp; omega) ?_
  intro i next ⟨h1, h2, h3⟩ hn
  rw [← h3]
  refine ok_brk (fun hcc => ?_) (fun hcc => ok_some ?_)
  · have hcc : i < ks.length := by simpa using hcc
    have hi : i.toNat < ks.length := by omega
    have hd := drop_cons' (d := 0) hi
    rw [hd, giveAt]
    refine ok_chk ⟨h1, hcc⟩ (ok_brk (fun hb => ?_) (fun hb => ?_))
    · have hb : ks.getD i.toNat 0 = to := by simpa using hb
      rw [if_pos hb]
      exact ok_bnde (refOff_eq ha hc) (ok_chk ⟨by omega, by omega⟩ (ok_chk ⟨⟨by omega, by omega⟩, by omega⟩ (ok_some rfl)))
    · have hb : ¬ ks.getD i.toNat 0 = to := by simpa using hb
      rw [if_neg hb]
      have h3' := h3
      rw [hd, giveAt, if_neg hb] at h3'
      rw [h3']
      refine ok_chk ⟨by omega, by omega⟩ (hn _ ⟨by omega, by omega, ?_⟩ (by omega))
      rw [show (i + 1).toNat = i.toNat + 1 by omega]; exact h3'
  · have hcc : ¬ i < ks.length := by simpa using hcc
    rw [List.drop_eq_nil_of_le (by omega)]; rfl

theorem sumO_append (G : Int → Int) : ∀ l r : List Int, sumO G (l ++ r) = sumO G l + sumO G r
  | [], r => by simp [sumO]
  | x :: l, r => by simp only [List.cons_append, sumO, sumO_append G l r]; omega

theorem giveAt_bound {f : Int} (hf : 0 ≤ f ∧ f ≤ 1000000) {m : Int} (hm : 1 ≤ m) : ∀ (ks : List Int) (i k : Int), 0 ≤ i → i + ks.length ≤ 8 → 0 ≤ giveAt f m i ks k ∧ giveAt f m i ks k ≤ 1000008
  | [], _, _, _, _ => by simp [giveAt]
  | q :: ks, i, k, h1, h2 => by
    rw [giveAt]
    split
    · have := Int.ediv_nonneg (show 0 ≤ f + i by omega) (show 0 ≤ m by omega)
      have := Int.ediv_le_self m (show 0 ≤ f + i by omega)
      simp only [List.length_cons] at h2
      omega
    · exact giveAt_bound hf hm ks (i + 1) k (by omega) (by simp only [List.length_cons] at h2; omega)

theorem refAfter_eq {F : Nat} {W H k own : Int} {am st gi : List Int} (hF : 100 < F) (hW : 1 ≤ W ∧ W ≤ 8) (hH : 1 ≤ H ∧ H ≤ 8) (hl : (am.length : Int) = W * H) (hg : gi.length = am.length) (hk : 0 ≤ k ∧ k < W * H)
    (ho : own = st.getD k.toNat 0) (hown : 0 ≤ own ∧ own ≤ 10000) (ha : ∀ a ∈ am, 0 ≤ a ∧ a ≤ 1000000) (hgi : ∀ a ∈ gi, 0 ≤ a ∧ a ≤ 10000) : ref11_after F W H k am own gi = some (afterV W H am st gi k) := by
  refine Ok.eq ?_
  unfold ref11_after afterV
  refine ok_bnde (refNb_eq hW hH hk) ?_
  have hkn : k.toNat < am.length := by omega
  have hak := ha _ (getD_mem (d := 0) hkn)
  have ix : 0 ≤ k ∧ k < (am.length : Int) := ⟨hk.1, by omega⟩
  have h4 : (nb W H k).length ≤ 4 := nbl_le4 W H k 4
  have hr := nbl_mem hW hH (l := dirs) (c := k)
  have hr : ∀ q ∈ nb W H k, 0 ≤ q ∧ q < W * H := hr
  generalize nb W H k = ks at h4 hr
  refine ok_brk (fun h => ?_) (fun h => ?_)
  · have h : (ks.length : Int) = 0 := by simpa using h
    rw [if_pos (by omega)]
    exact ok_chk ix (ok_some rfl)
  have h : ¬ (ks.length : Int) = 0 := by simpa using h
  rw [if_neg (by omega)]
  have hob := offV_bound (a := am.getD k.toNat 0) (c := own) hak hown.1
  subst ho
  refine ok_chk ix (ok_chk ix (ok_bnde (refOff_eq hak ⟨hown.1, by omega⟩) (ok_chk ⟨by omega, by omega⟩ ?_)))
  have Gb : ∀ q ∈ ks, 0 ≤ giveAt (offV (am.getD q.toNat 0) (gi.getD q.toNat 0)) (nb W H q).length 0 (nb W H q) k ∧ giveAt (offV (am.getD q.toNat 0) (gi.getD q.toNat 0)) (nb W H q).length 0 (nb W H q) k ≤ 1000008 := fun q hq => by
    have hq' := hr q hq
    have h1 := ha _ (getD_mem (i := q.toNat) (d := 0) (by omega : q.toNat < am.length))
    have h2 := hgi _ (getD_mem (i := q.toNat) (d := 0) (by omega : q.toNat < gi.length))
    have h3 := offV_bound h1 h2.1
    have h5 : (nb W H q).length ≤ 4 := nbl_le4 W H q 4
    by_cases h6 : (nb W H q).length = 0
    · rw [List.length_eq_zero_iff.1 h6]; simp [giveAt]
    · exact giveAt_bound ⟨h3.1, h3.2.2⟩ (by omega) _ 0 k (by omega) (by omega)
  have sb : ∀ n, 0 ≤ sumO (fun l => giveAt (offV (am.getD l.toNat 0) (gi.getD l.toNat 0)) (nb W H l).length 0 (nb W H l) k) (ks.take n) ∧ sumO (fun l => giveAt (offV (am.getD l.toNat 0) (gi.getD l.toNat 0)) (nb W H l).length 0 (nb W H l) k) (ks.take n) ≤ 1000008 * n := fun n => by
    induction n with
    | zero => simp [sumO]
    | succ n ih =>
      by_cases hn : n < ks.length
      · rw [take_succ' (d := 0) hn, sumO_append]
        have := Gb _ (getD_mem (d := 0) hn)
        simp only [sumO]
        omega
      · rw [List.take_of_length_le (by omega)] at ih ⊢
        omega
  refine ok_loop (fun x : Int × Int => 0 ≤ x.2 ∧ x.2 ≤ ks.length ∧ x.1 = am.getD k.toNat 0 - offV (am.getD k.toNat 0) (st.getD k.toNat 0) + sumO (fun l => giveAt (offV (am.getD l.toNat 0) (gi.getD l.toNat 0)) (nb W H l).length 0 (nb W H l) k) (ks.take x.2.toNat)) (fun x : Int × Int => ks.length - x.2.toNat) ⟨by simp, by simp, by simp [sumO]⟩ (by simp; omega) ?_
  rintro ⟨n, i⟩ next ⟨i1, i2, i3⟩ hn
  simp only at i1 i2 i3
  have sbi := sb i.toNat
  refine ok_brk (fun hcc => ?_) (fun hcc => ok_some ?_)
  · have hcc : i < ks.length := by simpa using hcc
    have hi : i.toNat < ks.length := by omega
    have hq := hr _ (getD_mem (d := 0) hi)
    have hG := Gb _ (getD_mem (d := 0) hi)
    have hts := take_succ' (d := 0) hi
    refine ok_chk ⟨i1, hcc⟩ (ok_chk ⟨i1, hcc⟩ ?_)
    show Ok _ (chk (0 ≤ ks.getD i.toNat 0 ∧ ks.getD i.toNat 0 < (am.length : Int)) _)
    dsimp only
    generalize ks.getD i.toNat 0 = q at hq hG hts
    have h1 := ha _ (getD_mem (i := q.toNat) (d := 0) (by omega : q.toNat < am.length))
    have h2 := hgi _ (getD_mem (i := q.toNat) (d := 0) (by omega : q.toNat < gi.length))
    refine ok_chk ⟨hq.1, by omega⟩ (ok_chk ⟨i1, hcc⟩ (ok_chk ⟨hq.1, by omega⟩ (ok_bnde (refGiven_eq hF hW hH hq h1 ⟨h2.1, by omega⟩) ?_)))
    refine ok_chk (show InR (n + _) from ⟨by omega, by omega⟩) (ok_chk (show InR (i + 1) from ⟨by omega, by omega⟩) (hn _ ⟨by show 0 ≤ i + 1; omega, by show i + 1 ≤ _; omega, ?_⟩ (by show ks.length - (i + 1).toNat < ks.length - i.toNat; omega)))
    show n + _ = _ + sumO _ (ks.take (i + 1).toNat)
    rw [show (i + 1).toNat = i.toNat + 1 by omega, hts, sumO_append, i3]
    simp only [sumO]
    omega
  · have hcc : ¬ i < ks.length := by simpa using hcc
    show n = _
    rw [i3, List.take_of_length_le (by omega)]
end Go.Proofs.Sp

namespace Go.Proofs.Sp
open Go Go.KX

theorem ne_of_bne {a b : Nat} (h : ((a : Int) != (b : Int)) = true) : a ≠ b := by
  have : ¬ (a : Int) = b := by simpa using h
  omega
theorem eq_of_bne {a b : Nat} (h : ((a : Int) != (b : Int)) = false) : a = b := by
  have : (a : Int) = b := by simpa using h
  omega
theorem nwb {x lo hi : Int} (h : (!(decide (x ≥ lo) && decide (x ≤ hi))) = true) : ¬ (lo ≤ x ∧ x ≤ hi) := fun ⟨h1, h2⟩ => by rw [wb h1 h2] at h; cases h

abbrev s00 : Span := Span.mk (0 : Int) (0 : Int)
abbrev nilF : Field := Field.mk (0 : Int) (0 : Int) []

theorem refHour_eq {F : Nat} {f : Field} {caps : List Span} (hF : 100 < F) (hf : FieldOK f) (hc : CapsOK f.Cells.length caps) : ref11_hour F f caps = some ⟨f.W, f.H, spreadV f.W f.H f.Cells caps⟩ := by
  have hs := hf.small
  have hcl := hc.len
  have hln := hf.len
  refine Ok.eq ?_
  unfold ref11_hour
  refine ok_loop (fun x : List Int × List Int × List Int × Int × List Int => 0 ≤ x.2.2.2.1 ∧ x.2.2.2.1 ≤ f.Cells.length ∧ x.1 = (caps.map (·.Hi)).take x.2.2.2.1.toNat ∧ x.2.1 = (f.Cells.map (·.Hi)).take x.2.2.2.1.toNat ∧ x.2.2.1 = (f.Cells.map (·.Lo)).take x.2.2.2.1.toNat ∧ x.2.2.2.2 = (caps.map (·.Lo)).take x.2.2.2.1.toNat)
    (fun x : List Int × List Int × List Int × Int × List Int => f.Cells.length - x.2.2.2.1.toNat) ⟨by simp, by simp, rfl, rfl, rfl, rfl⟩ (by simp; omega) ?_
  rintro ⟨most, hi, lo, i, least⟩ next ⟨i1, i2, i3, i4, i5, i6⟩ hn
  simp only at i1 i2 i3 i4 i5 i6
  have b1 : most.length ≤ 64 := by rw [i3, List.length_take, List.length_map]; omega
  have b2 : hi.length ≤ 64 := by rw [i4, List.length_take, List.length_map]; omega
  have b3 : lo.length ≤ 64 := by rw [i5, List.length_take, List.length_map]; omega
  have b4 : least.length ≤ 64 := by rw [i6, List.length_take, List.length_map]; omega
  refine ok_brk (fun hcc => ?_) (fun hcc => ?_)
  · have hcc : i < f.Cells.length := by simpa using hcc
    have hin : i.toNat < f.Cells.length := by omega
    have ix : 0 ≤ i ∧ i < (f.Cells.length : Int) := ⟨i1, hcc⟩
    have ix2 : 0 ≤ i ∧ i < (caps.length : Int) := ⟨i1, by omega⟩
    refine ok_chk ix (ok_chk (show lo.length + 1 ≤ 1000000 by omega) (ok_chk ix (ok_chk (show hi.length + 1 ≤ 1000000 by omega) (ok_chk ix2 (ok_chk (show least.length + 1 ≤ 1000000 by omega) (ok_chk ix2 (ok_chk (show most.length + 1 ≤ 1000000 by omega) (ok_chk (show InR (i + 1) from ⟨by omega, by omega⟩) (hn _ ⟨by show 0 ≤ i + 1; omega, by show i + 1 ≤ _; omega, ?_, ?_, ?_, ?_⟩ (by show f.Cells.length - (i + 1).toNat < f.Cells.length - i.toNat; omega))))))))))
    · show most ++ [(caps.getD i.toNat s00).Hi] = (caps.map (·.Hi)).take (i + 1).toNat
      rw [show (i + 1).toNat = i.toNat + 1 by omega, take_succ' (d := 0) (by rw [List.length_map]; omega), i3, getD_map _ _ _ s00 _ (by omega)]
    · show hi ++ [(f.Cells.getD i.toNat s00).Hi] = (f.Cells.map (·.Hi)).take (i + 1).toNat
      rw [show (i + 1).toNat = i.toNat + 1 by omega, take_succ' (d := 0) (by rw [List.length_map]; omega), i4, getD_map _ _ _ s00 _ (by omega)]
    · show lo ++ [(f.Cells.getD i.toNat s00).Lo] = (f.Cells.map (·.Lo)).take (i + 1).toNat
      rw [show (i + 1).toNat = i.toNat + 1 by omega, take_succ' (d := 0) (by rw [List.length_map]; omega), i5, getD_map _ _ _ s00 _ (by omega)]
    · show least ++ [(caps.getD i.toNat s00).Lo] = (caps.map (·.Lo)).take (i + 1).toNat
      rw [show (i + 1).toNat = i.toNat + 1 by omega, take_succ' (d := 0) (by rw [List.length_map]; omega), i6, getD_map _ _ _ s00 _ (by omega)]
  have hcc : ¬ i < f.Cells.length := by simpa using hcc
  obtain rfl : i = f.Cells.length := by omega
  obtain rfl : most = caps.map (·.Hi) := by rw [i3, List.take_of_length_le (by rw [List.length_map]; omega)]
  obtain rfl : hi = f.Cells.map (·.Hi) := by rw [i4, List.take_of_length_le (by simp)]
  obtain rfl : lo = f.Cells.map (·.Lo) := by rw [i5, List.take_of_length_le (by simp)]
  obtain rfl : least = caps.map (·.Lo) := by rw [i6, List.take_of_length_le (by rw [List.length_map]; omega)]
  have mc : ∀ (l : List Span) (m : Int), (∀ s ∈ l, SpanOK m s) → (∀ a ∈ l.map (·.Lo), 0 ≤ a ∧ a ≤ m) ∧ ∀ a ∈ l.map (·.Hi), 0 ≤ a ∧ a ≤ m := by
    intro l m h
    refine ⟨fun a ha => ?_, fun a ha => ?_⟩ <;> obtain ⟨s, hs, rfl⟩ := List.mem_map.1 ha <;> have := h s hs
    · exact ⟨this.1, by have h1 := this.2.1; have h2 := this.2.2; omega⟩
    · exact ⟨by have h1 := this.1; have h2 := this.2.1; omega, this.2.2⟩
  obtain ⟨c1, c2⟩ := mc _ _ hf.cells
  obtain ⟨k1, k2⟩ := mc _ _ hc.ok
  have lv := spreadV_len hF hf hc
  refine ok_loop (fun x : Int × List Span => 0 ≤ x.1 ∧ x.1 ≤ f.Cells.length ∧ x.2 = (spreadV f.W f.H f.Cells caps).take x.1.toNat) (fun x : Int × List Span => f.Cells.length - x.1.toNat) ⟨by simp, by simp, rfl⟩ (by simp; omega) ?_
  rintro ⟨i, o⟩ next2 ⟨j1, j2, j3⟩ hn2
  simp only at j1 j2 j3
  have bo : o.length ≤ 64 := by rw [j3, List.length_take, lv]; omega
  refine ok_brk (fun hcc => ?_) (fun hcc => ok_some ?_)
  · have hcc : i < f.Cells.length := by simpa using hcc
    have hin : i.toNat < f.Cells.length := by omega
    have hk : 0 ≤ i ∧ i < f.W * f.H := ⟨j1, by omega⟩
    have l1 : ((f.Cells.map (·.Lo)).length : Int) = f.W * f.H := by simpa using hln
    have l2 : ((f.Cells.map (·.Hi)).length : Int) = f.W * f.H := by simpa using hln
    have m1 : ∀ j, j < caps.length → (caps.map (·.Lo)).getD j 0 = (caps.getD j s00).Lo := fun j hj => getD_map _ _ _ s00 _ hj
    have m2 : ∀ j, j < caps.length → (caps.map (·.Hi)).getD j 0 = (caps.getD j s00).Hi := fun j hj => getD_map _ _ _ s00 _ hj
    have hci := hc.ok _ (getD_mem (i := i.toNat) (d := s00) (by omega : i.toNat < caps.length))
    have r1 := refAfter_eq (F := F) (own := (caps.map (·.Lo)).getD i.toNat 0) (st := caps.map (·.Lo)) (gi := caps.map (·.Hi)) hF hf.w hf.h l1 (by simp; omega) hk rfl (by rw [m1 _ (by omega)]; exact ⟨hci.1, by have h1 := hci.2.1; have h2 := hci.2.2; omega⟩) c1 k2
    have r2 := refAfter_eq (F := F) (own := (caps.map (·.Hi)).getD i.toNat 0) (st := caps.map (·.Hi)) (gi := caps.map (·.Lo)) hF hf.w hf.h l2 (by simp; omega) hk rfl (by rw [m2 _ (by omega)]; exact ⟨by have h1 := hci.1; have h2 := hci.2.1; omega, hci.2.2⟩) c2 k1
    rw [← hour_get hf.w hf.h l1 hk] at r1
    rw [← hour_get hf.w hf.h l2 hk] at r2
    refine ok_chk ⟨j1, by show i < ((caps.map (·.Lo)).length : Int); rw [List.length_map]; omega⟩ (ok_bnde r1 (ok_chk ⟨j1, by show i < ((caps.map (·.Hi)).length : Int); rw [List.length_map]; omega⟩ (ok_bnde r2 (ok_chk (show o.length + 1 ≤ 1000000 by omega) (ok_chk (show InR (i + 1) from ⟨by omega, by omega⟩) (hn2 _ ⟨by show 0 ≤ i + 1; omega, by show i + 1 ≤ _; omega, ?_⟩ (by show f.Cells.length - (i + 1).toNat < f.Cells.length - i.toNat; omega)))))))
    show o ++ [_] = (spreadV f.W f.H f.Cells caps).take (i + 1).toNat
    rw [show (i + 1).toNat = i.toNat + 1 by omega, take_succ' (d := s00) (by rw [lv]; exact hin), j3, spreadV_get hF hf hc hin]
    rfl
  · have hcc : ¬ i < f.Cells.length := by simpa using hcc
    show Field.mk f.W f.H o = _
    rw [j3, List.take_of_length_le (by rw [lv]; omega)]

/-! ### Errors of a field and capacities -/

def begunV (f : Field) (caps : List Span) : Int := if checkV f ≠ 0 then checkV f else if caps.length ≠ f.Cells.length then 1 else if ∀ s ∈ caps, SpanOK 10000 s then 0 else 120

theorem begunV_ok {f : Field} {caps : List Span} (h : begunV f caps = 0) : FieldOK f ∧ CapsOK f.Cells.length caps := by
  unfold begunV at h
  split at h
  · rename_i h1; exact absurd h h1
  · rename_i h1
    split at h
    · cases h
    · rename_i h2
      split at h
      · rename_i h3; exact ⟨checkV_ok (Classical.not_not.1 h1), ⟨Classical.not_not.1 h2, h3⟩⟩
      · cases h

theorem refBegun_eq {F : Nat} {f : Field} {caps : List Span} (hF : 200 < F) (hl : f.Cells.length ≤ 80) (hcl : caps.length ≤ 80) : ref11_begun F f caps = some (begunV f caps) := by
  refine Ok.eq ?_
  unfold ref11_begun begunV
  refine ok_bnde (refCheck_eq (by show f.Cells.length < F; omega)) ?_
  show Ok _ (brk (checkV f != 0) _ _)
  refine ok_brk (fun h => ok_some ?_) (fun h => ?_)
  · rw [if_pos (by simpa using h)]
  have h : checkV f = 0 := by simpa using h
  rw [if_neg (by simp [h])]
  refine ok_brk (fun h2 => ok_some ?_) (fun h2 => ?_)
  · rw [if_pos (ne_of_bne h2)]
  have h2 : caps.length = f.Cells.length := eq_of_bne h2
  rw [if_neg (by simp [h2])]
  refine ok_loop (fun i : Int => 0 ≤ i ∧ i ≤ caps.length ∧ ∀ j : Nat, (j : Int) < i → SpanOK 10000 (caps.getD j s00)) (fun i : Int => caps.length - i.toNat) ⟨by omega, by omega, fun j hj => by omega⟩ (by simp; omega) fun i next ⟨h3, h4, h5⟩ hn => ?_
  refine ok_brk (fun hc => ?_) (fun hc => ok_some ?_)
  · have hc : i < caps.length := by simpa using hc
    have hi : i.toNat < caps.length := by omega
    refine ok_chk ⟨h3, hc⟩ (ok_bnde (refSpan_eq F (Span.mk (caps.getD i.toNat s00).Lo (caps.getD i.toNat s00).Hi) 10000) (ok_brk (fun hb => ok_some ?_) (fun hb => ok_chk ⟨by omega, by omega⟩ (hn _ ⟨by omega, by omega, fun j hj => ?_⟩ (by omega)))))
    · have hb : ¬ SpanOK 10000 (caps.getD i.toNat s00) := nd_true hb
      rw [if_neg (fun h => hb (h _ (getD_mem hi)))]
    · by_cases e : (j : Int) < i
      · exact h5 j e
      · obtain rfl : j = i.toNat := by omega
        exact nd_false hb
  · have hc : ¬ i < caps.length := by simpa using hc
    rw [if_pos]
    intro s hs
    obtain ⟨j, hj, rfl⟩ := List.getElem_of_mem hs
    have := h5 j (by omega)
    rwa [getD_get hj] at this

/-! ### Spread -/

def spreadE (f : Field) (caps : List Span) (hours : Int) : Field × Int := if begunV f caps ≠ 0 then (nilF, begunV f caps) else if ¬ (0 ≤ hours ∧ hours ≤ 48) then (nilF, 6) else (⟨f.W, f.H, spreadN f.W f.H caps hours.toNat f.Cells⟩, 0)

theorem refSpread_eq {F : Nat} {f : Field} {caps : List Span} {hours : Int} (hF : 200 < F) (hl : f.Cells.length ≤ 80) (hcl : caps.length ≤ 80) : ref11_Spread F f caps hours = some (spreadE f caps hours) := by
  refine Ok.eq ?_
  unfold ref11_Spread spreadE
  refine ok_bnde (refBegun_eq (f := f) hF hl hcl) (ok_brk (fun h => ok_some ?_) (fun h => ?_))
  · rw [if_pos (by simpa using h)]
  have h : begunV f caps = 0 := by simpa using h
  obtain ⟨hf, hc⟩ := begunV_ok h
  rw [if_neg (by simp [h]), refIn_eq, bnd_so]
  refine ok_brk (fun h2 => ok_some ?_) (fun h2 => ?_)
  · rw [if_pos (nwb h2)]
  have h2 : 0 ≤ hours ∧ hours ≤ 48 := by simpa using h2
  rw [if_neg (fun h => h h2)]
  refine ok_loop (fun x : Int × List Span × Int × Int => 0 ≤ x.1 ∧ x.1 ≤ hours ∧ x.2.1 = spreadN f.W f.H caps x.1.toNat f.Cells ∧ x.2.2.1 = f.H ∧ x.2.2.2 = f.W) (fun x : Int × List Span × Int × Int => hours.toNat - x.1.toNat) ⟨by simp, by simp; omega, rfl, rfl, rfl⟩ (by simp; omega) ?_
  rintro ⟨i, o, oh, ow⟩ next ⟨i1, i2, i3, i4, i5⟩ hn
  simp only at i1 i2 i3 i4 i5
  subst i4 i5
  refine ok_brk (fun hcc => ?_) (fun hcc => ok_some ?_)
  · have hcc : i < hours := by simpa using hcc
    obtain ⟨h4, h5⟩ := spreadN_ok (F := F) (by omega) hf hc i.toNat
    rw [← i3] at h4 h5
    refine ok_bnde (refHour_eq (f := ⟨f.W, f.H, o⟩) (by omega) h4 (by show CapsOK o.length caps; rw [h5]; exact hc)) (ok_chk (show InR (i + 1) from ⟨by omega, by omega⟩) (hn _ ⟨by show 0 ≤ i + 1; omega, by show i + 1 ≤ hours; omega, ?_, rfl, rfl⟩ (by show hours.toNat - (i + 1).toNat < hours.toNat - i.toNat; omega)))
    show spreadV f.W f.H o caps = spreadN f.W f.H caps (i + 1).toNat f.Cells
    rw [show (i + 1).toNat = i.toNat + 1 by omega, spreadN, i3]
  · have hcc : ¬ i < hours := by simpa using hcc
    obtain rfl : i = hours := by omega
    rw [i3]

theorem SpreadE_eq {F : Nat} {f : Field} {caps : List Span} {hours : Int} (hF : 200 < F) (hl : f.Cells.length ≤ 80) (hcl : caps.length ≤ 80) : spill_Spread F f caps hours = some (spreadE f caps hours) := by
  by_cases h0 : begunV f caps = 0
  · obtain ⟨hf, hc⟩ := begunV_ok h0
    by_cases hh : 0 ≤ hours ∧ hours ≤ 48
    · rw [Spread_eq (by omega) hf hc hh, spreadE, if_neg (by simp [h0]), if_neg (fun h => h hh)]
    · refine Ok.eq ?_
      unfold spill_Spread spreadE
      rw [if_neg (by simp [h0]), if_pos hh]
      refine ok_bnde (Check_eq (by show f.Cells.length < F; omega)) ?_
      rw [show checkV (Field.mk f.W f.H f.Cells) = 0 from hf.check]
      refine ok_brkF (by simp) (ok_brkF (by simp [hc.len]) ?_)
      refine ok_join (fun i : Int => 0 ≤ i ↔ ¬ ∀ s ∈ caps, SpanOK 10000 s) (fun i hi => ?_) fun k hk => find_ok (g := spill_begin_1) (m := 10000) (fun s => by unfold spill_begin_1; rw [span_eq, bnd_so]) k (by omega) (by omega) hk
      refine ok_brkF ?_ ?_
      · rw [decide_eq_false_iff_not]
        exact fun h => (hi.1 h) hc.ok
      refine ok_bnde (clone_eq (by omega)) ?_
      rw [within_eq, bnd_so]
      refine ok_brkT ?_ (ok_some rfl)
      by_cases q : hours ≥ 0
      · rw [decide_eq_true q, decide_eq_false (show ¬ hours ≤ 48 by omega)]; rfl
      · rw [decide_eq_false q]; rfl
  · refine Ok.eq ?_
    unfold spill_Spread spreadE
    rw [if_pos h0]
    refine ok_bnde (Check_eq (by show f.Cells.length < F; omega)) ?_
    show Ok _ (brk (checkV f != 0) _ _)
    refine ok_brk (fun h => ok_brkT h (ok_some ?_)) (fun h => ?_)
    · show (nilF, checkV f) = _
      rw [begunV, if_pos (by simpa using h)]
    have h : checkV f = 0 := by simpa using h
    refine ok_brk (fun h2 => ok_some ?_) (fun h2 => ?_)
    · rw [begunV, if_neg (by simp [h]), if_pos (ne_of_bne h2)]
    have h2 : caps.length = f.Cells.length := eq_of_bne h2
    refine ok_join (fun i : Int => 0 ≤ i ↔ ¬ ∀ s ∈ caps, SpanOK 10000 s) (fun i hi => ?_) fun k hk => find_ok (g := spill_begin_1) (m := 10000) (fun s => by unfold spill_begin_1; rw [span_eq, bnd_so]) k (by omega) (by omega) hk
    have hbad : ¬ ∀ s ∈ caps, SpanOK 10000 s := fun hok => h0 (by rw [begunV, if_neg (by simp [h]), if_neg (by simp [h2]), if_pos hok])
    refine ok_brkT (by rw [decide_eq_true_eq]; exact hi.2 hbad) (ok_some ?_)
    rw [begunV, if_neg (by simp [h]), if_neg (by simp [h2]), if_neg hbad]
end Go.Proofs.Sp

namespace Go.Proofs.Sp
open Go Go.KX

/-! ### Flow -/

theorem refFlow_ok {F : Nat} {W H : Int} {am caps : List Int} (hF : 200 < F) (h : FlowOK W H am caps) : ref11_Flow F W H am caps = some (hourV W H am caps caps, 0) := by
  have hb := mul_bound h.w.1 h.w.2 h.h.1 h.h.2
  have hla := h.la
  have hlc := h.lc
  have hs := h.sum
  have ha1 : ∀ a ∈ am, 0 ≤ a ∧ a ≤ 1000000 := fun a ha => ⟨h.nn a ha, Int.le_trans (mem_le_sumL am h.nn a ha) h.sum⟩
  refine Ok.eq ?_
  unfold ref11_Flow
  rw [refIn_eq, bnd_so, wb h.w.1 h.w.2]
  refine ok_bnde (b := true) (congrArg some (wb h.h.1 h.h.2)) (ok_brkF rfl (ok_chk ⟨by omega, by omega⟩ (ok_chk (fun _ => ⟨by omega, by omega⟩) (ok_brkF (by simp [hla, hlc]) ?_))))
  refine ok_loop (fun x : Int × Int => 0 ≤ x.2 ∧ x.2 ≤ am.length ∧ x.1 = sumL (am.take x.2.toNat)) (fun x : Int × Int => am.length - x.2.toNat) ⟨by simp, by simp, rfl⟩ (by simp; omega) ?_
  rintro ⟨sum, i⟩ next ⟨h1, h2, h3⟩ hn
  simp only at h1 h2 h3
  have hs0 := sumL_nonneg (am.take i.toNat) fun x hx => h.nn x (List.mem_of_mem_take hx)
  have hs1 := sumL_take_le h.nn i.toNat
  refine ok_chk ⟨by omega, by omega⟩ (ok_brk (fun hcc => ?_) (fun hcc => ?_))
  · have hcc : i < W * H := by simpa using hcc
    have hi : i.toNat < am.length := by omega
    have hsn := sumL_take_succ hi
    have hsl := sumL_take_le h.nn (i.toNat + 1)
    have hai := ha1 _ (getD_mem (d := 0) hi)
    have hci := h.caps _ (getD_mem (i := i.toNat) (d := 0) (by omega))
    have ix : 0 ≤ i ∧ i < (am.length : Int) := ⟨h1, by omega⟩
    refine ok_chk ix (ok_bnde (b := true) (congrArg some (wb hai.1 hai.2)) (ok_chk (fun _ => ⟨h1, by omega⟩) (ok_bnde (b := true) (congrArg some (wb hci.1 hci.2)) (ok_brkF rfl (ok_chk ix (ok_chk (show InR (sum + am.getD i.toNat 0) from ⟨by omega, by omega⟩) (ok_chk (show InR (i + 1) from ⟨by omega, by omega⟩) (hn _ ⟨by show 0 ≤ i + 1; omega, by show i + 1 ≤ _; omega, ?_⟩ (by show am.length - (i + 1).toNat < am.length - i.toNat; omega)))))))))
    show sum + am.getD i.toNat 0 = sumL (am.take (i + 1).toNat)
    rw [show (i + 1).toNat = i.toNat + 1 by omega, hsn, h3]
  have hcc : ¬ i < W * H := by simpa using hcc
  obtain rfl : i = am.length := by omega
  rw [show ((am.length : Nat) : Int).toNat = am.length by omega, List.take_length] at h3
  refine ok_brkF (by rw [decide_eq_false_iff_not]; show ¬ sum > 1000000; omega) ?_
  obtain ⟨_, g, _⟩ := Flow_eq (F := F) (by omega) h
  refine ok_loop (fun x : List Int × Int => 0 ≤ x.2 ∧ x.2 ≤ am.length ∧ x.1 = (hourV W H am caps caps).take x.2.toNat) (fun x : List Int × Int => am.length - x.2.toNat) ⟨by simp, by simp, rfl⟩ (by simp; omega) ?_
  rintro ⟨o, i⟩ next2 ⟨j1, j2, j3⟩ hn2
  simp only at j1 j2 j3
  have bo : o.length ≤ 64 := by rw [j3, List.length_take, g.len]; omega
  refine ok_chk ⟨by omega, by omega⟩ (ok_brk (fun hcc => ?_) (fun hcc => ok_some ?_))
  · have hcc : i < W * H := by simpa using hcc
    have hi : i.toNat < am.length := by omega
    have hci := h.caps _ (getD_mem (i := i.toNat) (d := 0) (by omega))
    have r := refAfter_eq (F := F) (k := i) (own := caps.getD i.toNat 0) (st := caps) (gi := caps) (by omega) h.w h.h h.la (by omega) ⟨j1, hcc⟩ rfl hci ha1 h.caps
    rw [← hour_get h.w h.h h.la ⟨j1, hcc⟩] at r
    refine ok_chk ⟨j1, by show i < (caps.length : Int); omega⟩ (ok_bnde r (ok_chk (show o.length + 1 ≤ 1000000 by omega) (ok_chk (show InR (i + 1) from ⟨by omega, by omega⟩) (hn2 _ ⟨by show 0 ≤ i + 1; omega, by show i + 1 ≤ _; omega, ?_⟩ (by show am.length - (i + 1).toNat < am.length - i.toNat; omega)))))
    show o ++ [_] = (hourV W H am caps caps).take (i + 1).toNat
    rw [show (i + 1).toNat = i.toNat + 1 by omega, take_succ' (d := 0) (by rw [g.len]; exact hi), j3]
  · have hcc : ¬ i < W * H := by simpa using hcc
    show (o, (0 : Int)) = _
    rw [j3, List.take_of_length_le (by rw [g.len]; omega)]

/-- Amounts that cannot flow: no loop comes to its end. -/
theorem flow_bad {W H : Int} {am caps : List Int} (hw : 1 ≤ W ∧ W ≤ 8) (hh : 1 ≤ H ∧ H ≤ 8) (la : (am.length : Int) = W * H) (lc : (caps.length : Int) = W * H) (hbad : ¬ FlowOK W H am caps) (h : ∀ j : Nat, j < am.length → 0 ≤ am.getD j 0 ∧ 0 ≤ caps.getD j 0 ∧ caps.getD j 0 ≤ 10000) : ¬ sumL am ≤ 1000000 := fun hs =>
  hbad ⟨hw, hh, la, lc, fun a ha => by obtain ⟨j, hj, rfl⟩ := List.getElem_of_mem ha; have := h j hj; rw [getD_get hj] at this; exact this.1, hs,
    fun a ha => by obtain ⟨j, hj, rfl⟩ := List.getElem_of_mem ha; have := h j (by omega); rw [getD_get (l := caps) hj] at this; exact this.2⟩

theorem bne_or {a b c : Int} (h : (a != c || b != c) = true) : ¬ (a = c ∧ b = c) := fun ⟨h1, h2⟩ => by subst h1; subst h2; simp at h

theorem Flow_same {F : Nat} {W H : Int} {am caps : List Int} (hF : 200 < F) (h1 : am.length ≤ 80) (h2 : caps.length ≤ 80) (hm : ∀ a ∈ am, InR a) : ∃ r, spill_Flow F W H am caps = some r ∧ ref11_Flow F W H am caps = some r ∧ r.1.length ≤ 80 := by
  by_cases hok : FlowOK W H am caps
  · obtain ⟨e1, g, _⟩ := Flow_eq (F := F) (by omega) hok
    exact ⟨_, e1, refFlow_ok hF hok, by show (hourV W H am caps caps).length ≤ 80; rw [g.len]; exact h1⟩
  -- both give the same error
  by_cases hw : 1 ≤ W ∧ W ≤ 8
  · by_cases hh : 1 ≤ H ∧ H ≤ 8
    · have hb := mul_bound hw.1 hw.2 hh.1 hh.2
      by_cases hl : (am.length : Int) = W * H ∧ (caps.length : Int) = W * H
      · refine ⟨([], 120), Ok.eq ?_, Ok.eq ?_, by simp⟩
        · unfold spill_Flow
          rw [within_eq, bnd_so, wb hw.1 hw.2]
          refine ok_bnde (b := true) (congrArg some (wb hh.1 hh.2)) (ok_brkF rfl (ok_chk ⟨by omega, by omega⟩ (ok_chk (fun _ => ⟨by omega, by omega⟩) (ok_brkF (by simp [hl.1, hl.2]) ?_))))
          refine ok_loop (fun x : Int × Int => 0 ≤ x.2 ∧ x.2 ≤ am.length ∧ x.1 = 1000000 - sumL (am.take x.2.toNat) ∧ 0 ≤ x.1 ∧ x.1 ≤ 1000000 ∧ ∀ j : Nat, (j : Int) < x.2 → 0 ≤ am.getD j 0 ∧ 0 ≤ caps.getD j 0 ∧ caps.getD j 0 ≤ 10000) (fun x : Int × Int => am.length - x.2.toNat) ⟨by simp, by simp, rfl, by simp, by simp, fun j hj => by simp at hj; omega⟩ (by simp; omega) ?_
          rintro ⟨left, i⟩ next ⟨i1, i2, i3, i4, i5, i6⟩ hn
          simp only at i1 i2 i3 i4 i5 i6
          refine ok_brk (fun hcc => ?_) (fun hcc => ?_)
          · have hcc : i < am.length := by simpa using hcc
            have hi : i.toNat < am.length := by omega
            refine ok_chk ⟨i1, hcc⟩ ?_
            rw [within_eq, bnd_so]
            cases q1 : (decide (am.getD i.toNat 0 ≥ 0) && decide (am.getD i.toNat 0 ≤ left)) with
            | false =>
              have q1' : (decide (List.getD am (Int.toNat i) (0 : Int) ≥ (0 : Int)) && decide (List.getD am (Int.toNat i) (0 : Int) ≤ left)) = false := q1
              exact ok_chk (fun h => by cases h) (ok_bnde (b := false) rfl (ok_brkT rfl (ok_some rfl)))
            | true =>
              have q1' : 0 ≤ am.getD i.toNat 0 ∧ am.getD i.toNat 0 ≤ left := by simpa using q1
              refine ok_chk (fun _ => ⟨i1, by show i < _; omega⟩) ?_
              refine ok_bnde (b := (decide (caps.getD i.toNat 0 ≥ 0) && decide (caps.getD i.toNat 0 ≤ 10000))) rfl (ok_brk (fun _ => ok_some rfl) (fun q2 => ?_))
              have q2' : 0 ≤ caps.getD i.toNat 0 ∧ caps.getD i.toNat 0 ≤ 10000 := by simpa using q2
              refine ok_chk (show InR (left - am.getD i.toNat 0) from ⟨by omega, by omega⟩) (ok_chk (show InR (i + 1) from ⟨by omega, by omega⟩) (hn _ ⟨by show 0 ≤ i + 1; omega, by show i + 1 ≤ _; omega, ?_, by show 0 ≤ left - am.getD i.toNat 0; omega, by show left - am.getD i.toNat 0 ≤ _; omega, fun j hj => ?_⟩ (by show am.length - (i + 1).toNat < am.length - i.toNat; omega)))
              · show left - am.getD i.toNat 0 = 1000000 - sumL (am.take (i + 1).toNat)
                rw [show (i + 1).toNat = i.toNat + 1 by omega, sumL_take_succ hi]; omega
              · have hj : (j : Int) < i + 1 := hj
                by_cases e : (j : Int) < i
                · exact i6 j e
                · obtain rfl : j = i.toNat := by omega
                  exact ⟨q1'.1, q2'⟩
          · have hcc : ¬ i < am.length := by simpa using hcc
            obtain rfl : i = am.length := by omega
            rw [show ((am.length : Nat) : Int).toNat = am.length by omega, List.take_length] at i3
            exact absurd (show sumL am ≤ 1000000 by omega) (flow_bad hw hh hl.1 hl.2 hok fun j hj => i6 j (by omega))
        · unfold ref11_Flow
          rw [refIn_eq, bnd_so, wb hw.1 hw.2]
          refine ok_bnde (b := true) (congrArg some (wb hh.1 hh.2)) (ok_brkF rfl (ok_chk ⟨by omega, by omega⟩ (ok_chk (fun _ => ⟨by omega, by omega⟩) (ok_brkF (by simp [hl.1, hl.2]) ?_))))
          refine ok_loop (fun x : Int × Int => 0 ≤ x.2 ∧ x.2 ≤ am.length ∧ x.1 = sumL (am.take x.2.toNat) ∧ 0 ≤ x.1 ∧ x.1 ≤ 1000000 * x.2 ∧ ∀ j : Nat, (j : Int) < x.2 → 0 ≤ am.getD j 0 ∧ 0 ≤ caps.getD j 0 ∧ caps.getD j 0 ≤ 10000) (fun x : Int × Int => am.length - x.2.toNat) ⟨by simp, by simp, rfl, by simp, by simp, fun j hj => by simp at hj; omega⟩ (by simp; omega) ?_
          rintro ⟨sum, i⟩ next ⟨i1, i2, i3, i4, i5, i6⟩ hn
          simp only at i1 i2 i3 i4 i5 i6
          refine ok_chk ⟨by omega, by omega⟩ (ok_brk (fun hcc => ?_) (fun hcc => ?_))
          · have hcc : i < W * H := by simpa using hcc
            have hi : i.toNat < am.length := by omega
            have ix : 0 ≤ i ∧ i < (am.length : Int) := ⟨i1, by omega⟩
            refine ok_chk ix ?_
            rw [refIn_eq, bnd_so]
            cases q1 : (decide (am.getD i.toNat 0 ≥ 0) && decide (am.getD i.toNat 0 ≤ 1000000)) with
            | false => exact ok_chk (fun h => by cases h) (ok_bnde (b := false) rfl (ok_brkT rfl (ok_some rfl)))
            | true =>
              have q1' : 0 ≤ am.getD i.toNat 0 ∧ am.getD i.toNat 0 ≤ 1000000 := by simpa using q1
              refine ok_chk (fun _ => ⟨i1, by show i < _; omega⟩) ?_
              refine ok_bnde (b := (decide (caps.getD i.toNat 0 ≥ 0) && decide (caps.getD i.toNat 0 ≤ 10000))) rfl (ok_brk (fun _ => ok_some rfl) (fun q2 => ?_))
              have q2' : 0 ≤ caps.getD i.toNat 0 ∧ caps.getD i.toNat 0 ≤ 10000 := by simpa using q2
              refine ok_chk ix (ok_chk (show InR (sum + am.getD i.toNat 0) from ⟨by omega, by omega⟩) (ok_chk (show InR (i + 1) from ⟨by omega, by omega⟩) (hn _ ⟨by show 0 ≤ i + 1; omega, by show i + 1 ≤ _; omega, ?_, by show 0 ≤ sum + am.getD i.toNat 0; omega, by show sum + am.getD i.toNat 0 ≤ 1000000 * (i + 1); omega, fun j hj => ?_⟩ (by show am.length - (i + 1).toNat < am.length - i.toNat; omega))))
              · show sum + am.getD i.toNat 0 = sumL (am.take (i + 1).toNat)
                rw [show (i + 1).toNat = i.toNat + 1 by omega, sumL_take_succ hi]; omega
              · have hj : (j : Int) < i + 1 := hj
                by_cases e : (j : Int) < i
                · exact i6 j e
                · obtain rfl : j = i.toNat := by omega
                  exact ⟨q1'.1, q2'⟩
          · have hcc : ¬ i < W * H := by simpa using hcc
            obtain rfl : i = am.length := by omega
            rw [show ((am.length : Nat) : Int).toNat = am.length by omega, List.take_length] at i3
            have := flow_bad hw hh hl.1 hl.2 hok fun j hj => i6 j (by omega)
            exact ok_brkT (by rw [decide_eq_true_eq]; show sum > 1000000; omega) (ok_some rfl)
      · refine ⟨([], 1), Ok.eq ?_, Ok.eq ?_, by simp⟩
        · unfold spill_Flow
          rw [within_eq, bnd_so, wb hw.1 hw.2]
          exact ok_bnde (b := true) (congrArg some (wb hh.1 hh.2)) (ok_brkF rfl (ok_chk ⟨by omega, by omega⟩ (ok_chk (fun _ => ⟨by omega, by omega⟩) (ok_brkT (by simp only [Bool.or_eq_true, bne_iff_ne]; omega) (ok_some rfl)))))
        · unfold ref11_Flow
          rw [refIn_eq, bnd_so, wb hw.1 hw.2]
          exact ok_bnde (b := true) (congrArg some (wb hh.1 hh.2)) (ok_brkF rfl (ok_chk ⟨by omega, by omega⟩ (ok_chk (fun _ => ⟨by omega, by omega⟩) (ok_brkT (by simp only [Bool.or_eq_true, bne_iff_ne]; omega) (ok_some rfl)))))
    · have q : (decide (H ≥ 1) && decide (H ≤ 8)) = false := by
        cases e : (decide (H ≥ 1) && decide (H ≤ 8)) with
        | false => rfl
        | true => exact absurd (by simpa using e) hh
      refine ⟨([], 6), Ok.eq ?_, Ok.eq ?_, by simp⟩
      · unfold spill_Flow
        rw [within_eq, bnd_so, wb hw.1 hw.2]
        exact ok_bnde (b := false) (congrArg some q) (ok_brkT rfl (ok_some rfl))
      · unfold ref11_Flow
        rw [refIn_eq, bnd_so, wb hw.1 hw.2]
        exact ok_bnde (b := false) (congrArg some q) (ok_brkT rfl (ok_some rfl))
  · have q : (decide (W ≥ 1) && decide (W ≤ 8)) = false := by
      cases e : (decide (W ≥ 1) && decide (W ≤ 8)) with
      | false => rfl
      | true => exact absurd (by simpa using e) hw
    refine ⟨([], 6), Ok.eq ?_, Ok.eq ?_, by simp⟩
    · unfold spill_Flow
      rw [within_eq, bnd_so, q]
      exact ok_bnde (b := false) rfl (ok_brkT rfl (ok_some rfl))
    · unfold ref11_Flow
      rw [refIn_eq, bnd_so, q]
      exact ok_bnde (b := false) rfl (ok_brkT rfl (ok_some rfl))
end Go.Proofs.Sp

namespace Go.Proofs.Sp
open Go Go.KX

theorem ck_ne {F : Nat} {f : Field} {α : Type} {post : α → Prop} {x y : Option α} (h1 : checkV f ≠ 0 → Ok post x) (h2 : FieldOK f → Ok post y) : Ok post (brk (checkV f != 0) x y) :=
  ok_brk (fun h => h1 (by simpa using h)) (fun h => h2 (checkV_ok (by simpa using h)))

/-! ### Holds -/

def holdsE (f : Field) (am : List Int) : Bool × Int := if checkV f ≠ 0 then (false, checkV f) else if am.length ≠ f.Cells.length then (false, 1) else (decide (∀ i, i < am.length → (f.Cells.getD i ⟨0, 0⟩).Lo ≤ am.getD i 0 ∧ am.getD i 0 ≤ (f.Cells.getD i ⟨0, 0⟩).Hi), 0)

theorem HoldsE_eq {F : Nat} {f : Field} {am : List Int} (hF : 200 < F) (hl : f.Cells.length ≤ 80) : spill_Holds F f am = some (holdsE f am) := by
  by_cases h : checkV f = 0
  · by_cases h2 : am.length = f.Cells.length
    · rw [Holds_eq (by omega) (checkV_ok h) h2, holdsE, if_neg (by simp [h]), if_neg (by simp [h2])]
    · refine Ok.eq ?_
      unfold spill_Holds holdsE
      refine ok_bnde (Check_eq (by show f.Cells.length < F; omega)) ?_
      show Ok _ (brk (checkV f != 0) _ _)
      exact ok_brkF (by simp [h]) (ok_brkT (by simp; omega) (ok_some (by rw [if_neg (by simp [h]), if_pos h2])))
  · refine Ok.eq ?_
    unfold spill_Holds holdsE
    refine ok_bnde (Check_eq (by show f.Cells.length < F; omega)) ?_
    show Ok _ (brk (checkV f != 0) _ _)
    exact ok_brkT (by simp [h]) (ok_some (by rw [if_pos h]))

theorem refHolds_eq {F : Nat} {f : Field} {am : List Int} (hF : 200 < F) (hl : f.Cells.length ≤ 80) : ref11_Holds F f am = some (holdsE f am) := by
  refine Ok.eq ?_
  unfold ref11_Holds holdsE
  refine ok_bnde (refCheck_eq (by show f.Cells.length < F; omega)) ?_
  show Ok _ (brk (checkV f != 0) _ _)
  refine ck_ne (F := F) (fun h => ok_some (by rw [if_pos h])) (fun hf => ?_)
  rw [if_neg (by simp [hf.check])]
  refine ok_brk (fun h2 => ok_some (by rw [if_pos (ne_of_bne h2)])) (fun h2 => ?_)
  have h2 : am.length = f.Cells.length := eq_of_bne h2
  rw [if_neg (by simp [h2])]
  refine ok_loop (fun x : Int => 0 ≤ x ∧ x ≤ am.length ∧ ∀ j : Nat, (j : Int) < x → (f.Cells.getD j ⟨0, 0⟩).Lo ≤ am.getD j 0 ∧ am.getD j 0 ≤ (f.Cells.getD j ⟨0, 0⟩).Hi) (fun x : Int => am.length - x.toNat) ⟨by omega, by omega, fun j hj => by omega⟩ (by simp; omega) ?_
  intro i next ⟨h1, h3, h4⟩ hn
  refine ok_brk (fun hcc => ?_) (fun hcc => ok_some ?_)
  · have hcc : i < am.length := by simpa using hcc
    have hi : i.toNat < am.length := by omega
    have ix1 : 0 ≤ i ∧ i < (am.length : Int) := ⟨h1, hcc⟩
    have ix2 : 0 ≤ i ∧ i < (f.Cells.length : Int) := ⟨h1, by omega⟩
    refine ok_chk ix1 (ok_chk ix2 (ok_chk (fun _ => ix1) (ok_chk (fun _ => ix2) (ok_brk (fun hb => ok_some ?_) (fun hb => ok_chk ⟨by omega, by omega⟩ (hn _ ⟨by omega, by omega, fun j hj => ?_⟩ (by omega)))))))
    · simp only [Bool.or_eq_true, decide_eq_true_eq] at hb
      congr 1
      symm
      rw [decide_eq_false_iff_not]
      intro h
      obtain ⟨a1, a2⟩ := h _ hi
      omega
    · simp only [Bool.or_eq_false_iff, decide_eq_false_iff_not] at hb
      by_cases e : (j : Int) < i
      · exact h4 j e
      · obtain rfl : j = i.toNat := by omega
        omega
  · have hcc : ¬ i < am.length := by simpa using hcc
    congr 1
    symm
    rw [decide_eq_true_eq]
    exact fun j hj => h4 j (by omega)

/-! ### Total -/

def totalE (f : Field) : Span × Int := if checkV f ≠ 0 then (⟨0, 0⟩, checkV f) else (totV f.Cells, 0)

theorem TotalE_eq {F : Nat} {f : Field} (hF : 200 < F) (hl : f.Cells.length ≤ 80) : spill_Total F f = some (totalE f) := by
  by_cases h : checkV f = 0
  · rw [Total_eq (by omega) (checkV_ok h), totalE, if_neg (by simp [h])]
  · refine Ok.eq ?_
    unfold spill_Total totalE
    refine ok_bnde (Check_eq (by show f.Cells.length < F; omega)) ?_
    show Ok _ (brk (checkV f != 0) _ _)
    exact ok_brkT (by simp [h]) (ok_some (by rw [if_pos h]))

theorem refTotal_eq {F : Nat} {f : Field} (hF : 200 < F) (hl : f.Cells.length ≤ 80) : ref11_Total F f = some (totalE f) := by
  refine Ok.eq ?_
  unfold ref11_Total totalE
  refine ok_bnde (refCheck_eq (by show f.Cells.length < F; omega)) ?_
  show Ok _ (brk (checkV f != 0) _ _)
  refine ck_ne (F := F) (fun h => ok_some (by rw [if_pos h])) (fun hf => ?_)
  have hs := hf.small
  rw [if_neg (by simp [hf.check])]
  refine ok_loop (fun x : Int × Int × Int => 0 ≤ x.1 ∧ x.1 ≤ f.Cells.length ∧ x.2.2 = (totV (f.Cells.take x.1.toNat)).Lo ∧ x.2.1 = (totV (f.Cells.take x.1.toNat)).Hi) (fun x : Int × Int × Int => f.Cells.length - x.1.toNat) ⟨by simp, by simp, rfl, rfl⟩ (by simp; omega) ?_
  rintro ⟨i, hi', lo'⟩ next ⟨h1, h2, h3, h4⟩ hn
  simp only at h1 h2 h3 h4
  refine ok_brk (fun hcc => ?_) (fun hcc => ok_some ?_)
  · have hcc : i < f.Cells.length := by simpa using hcc
    have hi : i.toNat < f.Cells.length := by omega
    have hb := tot_bound (cells := f.Cells.take i.toNat) (n := 64) (fun s hs => hf.cells s (List.mem_of_mem_take hs)) (by rw [List.length_take]; omega)
    have hc := hf.cells _ (getD_mem (d := ⟨0, 0⟩) hi)
    have ht := tot_take hi
    refine ok_chk ⟨h1, hcc⟩ (ok_chk (show InR (lo' + (f.Cells.getD i.toNat ⟨0, 0⟩).Lo) from ⟨by omega, by omega⟩) (ok_chk ⟨h1, hcc⟩ (ok_chk (show InR (hi' + (f.Cells.getD i.toNat ⟨0, 0⟩).Hi) from ⟨by omega, by omega⟩) (ok_chk (show InR (i + 1) from ⟨by omega, by omega⟩) (hn _ ⟨by show 0 ≤ i + 1; omega, by show i + 1 ≤ _; omega, ?_, ?_⟩ (by show f.Cells.length - (i + 1).toNat < f.Cells.length - i.toNat; omega))))))
    · show lo' + _ = (totV (f.Cells.take (i + 1).toNat)).Lo
      rw [show (i + 1).toNat = i.toNat + 1 by omega, ht, h3]
    · show hi' + _ = (totV (f.Cells.take (i + 1).toNat)).Hi
      rw [show (i + 1).toNat = i.toNat + 1 by omega, ht, h4]
  · have hcc : ¬ i < f.Cells.length := by simpa using hcc
    obtain rfl : i = f.Cells.length := by omega
    show (Span.mk lo' hi', (0 : Int)) = _
    rw [h3, h4]
    simp [List.take_of_length_le]

/-! ### Tighten -/

def tightenE (f : Field) (t : Span) : Field × Int := if checkV f ≠ 0 then (nilF, checkV f) else if ¬ SpanOK 1000000 t then (nilF, 6) else if (totV f.Cells).Lo > t.Hi ∨ (totV f.Cells).Hi < t.Lo then (nilF, 21) else (⟨f.W, f.H, f.Cells.map (cutV t (totV f.Cells))⟩, 0)

theorem TightenE_eq {F : Nat} {f : Field} {t : Span} (hF : 200 < F) (hl : f.Cells.length ≤ 80) : spill_Tighten F f t = some (tightenE f t) := by
  by_cases h : checkV f = 0
  · have hf := checkV_ok h
    by_cases h2 : SpanOK 1000000 t
    · by_cases h3 : (totV f.Cells).Lo > t.Hi ∨ (totV f.Cells).Hi < t.Lo
      · refine Ok.eq ?_
        unfold spill_Tighten tightenE
        refine ok_bnde (Check_eq (by show f.Cells.length < F; omega)) ?_
        show Ok _ (brk (checkV f != 0) _ _)
        refine ok_brkF (by simp [h]) (ok_bnde (span_eq F ⟨t.Lo, t.Hi⟩ 1000000) ?_)
        rw [decide_eq_true (show SpanOK 1000000 ⟨t.Lo, t.Hi⟩ from h2)]
        refine ok_brkF rfl (ok_bnde (total_eq (f := f) (by omega) hf) (ok_brkT ?_ (ok_some ?_)))
        · show (decide ((totV f.Cells).Lo > t.Hi) || decide ((totV f.Cells).Hi < t.Lo)) = true
          simpa using h3
        · rw [if_neg (by simp [h]), if_neg (fun q => q h2), if_pos h3]
      · rw [Tighten_eq (by omega) hf h2 (by omega) (by omega), tightenE, if_neg (by simp [h]), if_neg (fun q => q h2), if_neg h3]
    · refine Ok.eq ?_
      unfold spill_Tighten tightenE
      refine ok_bnde (Check_eq (by show f.Cells.length < F; omega)) ?_
      show Ok _ (brk (checkV f != 0) _ _)
      refine ok_brkF (by simp [h]) (ok_bnde (span_eq F ⟨t.Lo, t.Hi⟩ 1000000) ?_)
      rw [decide_eq_false (show ¬ SpanOK 1000000 ⟨t.Lo, t.Hi⟩ from h2)]
      exact ok_brkT rfl (ok_some (by rw [if_neg (by simp [h]), if_pos h2]))
  · refine Ok.eq ?_
    unfold spill_Tighten tightenE
    refine ok_bnde (Check_eq (by show f.Cells.length < F; omega)) ?_
    show Ok _ (brk (checkV f != 0) _ _)
    exact ok_brkT (by simp [h]) (ok_some (by rw [if_pos h]))

theorem exL {f : Field} (hf : FieldOK f) (p : Span → Int) (hp : ∀ s ∈ f.Cells, 0 ≤ p s ∧ p s ≤ 1000000) (q : Nat) (hq : q < f.Cells.length) : (∀ i, 0 ≤ sumL (((f.Cells.map p).set q 0).take i) ∧ sumL (((f.Cells.map p).set q 0).take i) ≤ 100000000) ∧
    (∀ i, i < f.Cells.length → sumL (((f.Cells.map p).set q 0).take (i + 1)) = sumL (((f.Cells.map p).set q 0).take i) + (if q = i then 0 else p (f.Cells.getD i ⟨0, 0⟩))) ∧
    sumL ((f.Cells.map p).set q 0) = sumL (f.Cells.map p) - p (f.Cells.getD q ⟨0, 0⟩) := by
  have hs := hf.small
  have m : ∀ i, i < f.Cells.length → (f.Cells.map p).getD i 0 = p (f.Cells.getD i ⟨0, 0⟩) := fun i hi => getD_map _ _ _ ⟨0, 0⟩ _ hi
  refine ⟨fun i => ?_, fun i hi => ?_, ?_⟩
  · have hb1 : ∀ x ∈ ((f.Cells.map p).set q 0).take i, 0 ≤ x ∧ x ≤ 1000000 := fun x hx => by
      rcases List.mem_or_eq_of_mem_set (List.mem_of_mem_take hx) with hx | rfl
      · obtain ⟨s, hs, rfl⟩ := List.mem_map.1 hx
        exact hp s hs
      · omega
    have h2 := sumL_le (B := 1000000) _ fun x hx => (hb1 x hx).2
    have h3 : (((f.Cells.map p).set q 0).take i).length ≤ 64 := by simp; omega
    exact ⟨sumL_nonneg _ fun x hx => (hb1 x hx).1, by omega⟩
  · rw [sumL_take_succ (by simpa using hi), getD_set' (by simpa using hq)]
    split
    · rfl
    · rw [m i hi]
  · rw [sumL_set _ _ _ (by simpa using hq), m q hq]; omega

theorem refTighten_eq {F : Nat} {f : Field} {t : Span} (hF : 200 < F) (hl : f.Cells.length ≤ 80) : ref11_Tighten F f t = some (tightenE f t) := by
  refine Ok.eq ?_
  unfold ref11_Tighten tightenE
  refine ok_bnde (refCheck_eq (by show f.Cells.length < F; omega)) ?_
  show Ok _ (brk (checkV f != 0) _ _)
  refine ck_ne (F := F) (fun h => ok_some (by rw [if_pos h])) (fun hf => ?_)
  have hs := hf.small
  have hbt := tot_bound hf.cells hs.2
  rw [if_neg (by simp [hf.check])]
  refine ok_bnde (refSpan_eq F ⟨t.Lo, t.Hi⟩ 1000000) (ok_brk (fun h2 => ok_some (by rw [if_pos (show ¬ SpanOK 1000000 t from nd_true h2)])) (fun h2 => ?_))
  have h2 : SpanOK 1000000 t := nd_false h2
  rw [if_neg (fun q => q h2)]
  refine ok_bnde (refTotal_eq (f := f) hF hl) ?_
  rw [show totalE f = (totV f.Cells, 0) by rw [totalE, if_neg (by simp [hf.check])]]
  refine ok_brk (fun h3 => ok_some ?_) (fun h3 => ?_)
  · have h3 : (totV f.Cells).Hi < t.Lo ∨ (totV f.Cells).Lo > t.Hi := by simpa using h3
    rw [if_pos (by omega)]
  have h3 : ¬ ((totV f.Cells).Hi < t.Lo) ∧ ¬ ((totV f.Cells).Lo > t.Hi) := by
    simp only [Bool.or_eq_false_iff, decide_eq_false_iff_not] at h3; exact h3
  rw [if_neg (by omega)]
  refine ok_loop (fun x : Int × List Span => 0 ≤ x.1 ∧ x.1 ≤ f.Cells.length ∧ x.2 = (f.Cells.map (cutV t (totV f.Cells))).take x.1.toNat) (fun x : Int × List Span => f.Cells.length - x.1.toNat) ⟨by simp, by simp, rfl⟩ (by simp; omega) ?_
  rintro ⟨q, o⟩ next ⟨g1, g2, g3⟩ hn
  simp only at g1 g2 g3
  have bo : o.length ≤ 64 := by rw [g3, List.length_take, List.length_map]; omega
  refine ok_brk (fun hcc => ?_) (fun hcc => ok_some ?_)
  · have hcc : q < f.Cells.length := by simpa using hcc
    have hqi : q.toNat < f.Cells.length := by omega
    have hcq := hf.cells _ (getD_mem (d := (⟨0, 0⟩ : Span)) hqi)
    obtain ⟨bL, sL, eL⟩ := exL hf (·.Lo) (fun s hs => by have h := hf.cells s hs; exact ⟨h.1, by have h1 := h.2.1; have h2 := h.2.2; omega⟩) q.toNat hqi
    obtain ⟨bH, sH, eH⟩ := exL hf (·.Hi) (fun s hs => by have h := hf.cells s hs; exact ⟨by have h1 := h.1; have h2 := h.2.1; omega, h.2.2⟩) q.toNat hqi
    refine ok_chk ⟨g1, hcc⟩ ?_
    refine ok_loop (fun y : Int × Int × Int => 0 ≤ y.2.1 ∧ y.2.1 ≤ f.Cells.length ∧ y.1 = sumL (((f.Cells.map (·.Lo)).set q.toNat 0).take y.2.1.toNat) ∧ y.2.2 = sumL (((f.Cells.map (·.Hi)).set q.toNat 0).take y.2.1.toNat)) (fun y : Int × Int × Int => f.Cells.length - y.2.1.toNat)
      ⟨by simp, by simp, by simp [sumL], by simp [sumL]⟩ (by simp; omega) ?_
    rintro ⟨ls, i', ms⟩ next7 ⟨y1, y2, y3, y4⟩ hn7
    simp only at y1 y2 y3 y4
    have hbl := bL i'.toNat
    have hbh := bH i'.toNat
    refine ok_brk (fun hc7 => ?_) (fun hc7 => ?_)
    · have hc7 : i' < f.Cells.length := by simpa using hc7
      have hi7 : i'.toNat < f.Cells.length := by omega
      have sl := sL _ hi7
      have sh := sH _ hi7
      have hcc7 := hf.cells _ (getD_mem (d := (⟨0, 0⟩ : Span)) hi7)
      refine ok_join (fun y : Int × Int => y.1 = sumL (((f.Cells.map (·.Lo)).set q.toNat 0).take (i'.toNat + 1)) ∧ y.2 = sumL (((f.Cells.map (·.Hi)).set q.toNat 0).take (i'.toNat + 1))) (fun y hy => ok_chk (show InR (i' + 1) from ⟨by omega, by omega⟩) (hn7 _ ⟨by show 0 ≤ i' + 1; omega, by show i' + 1 ≤ _; omega, by show y.1 = sumL (((f.Cells.map (·.Lo)).set q.toNat 0).take (i' + 1).toNat); rw [show (i' + 1).toNat = i'.toNat + 1 by omega]; exact hy.1, by show y.2 = sumL (((f.Cells.map (·.Hi)).set q.toNat 0).take (i' + 1).toNat); rw [show (i' + 1).toNat = i'.toNat + 1 by omega]; exact hy.2⟩ (by show f.Cells.length - (i' + 1).toNat < f.Cells.length - i'.toNat; omega))) fun k hk => ?_
      refine ok_brk (fun hb7 => ?_) (fun hb7 => ?_)
      · have hb7 : i' ≠ q := by simpa using hb7
        rw [if_neg (by omega)] at sl sh
        have ix : 0 ≤ i' ∧ i' < (f.Cells.length : Int) := ⟨y1, hc7⟩
        refine ok_chk ix (ok_chk (show InR (ls + (f.Cells.getD i'.toNat ⟨0, 0⟩).Lo) from ⟨by omega, by omega⟩) (ok_chk ix (ok_chk (show InR (ms + (f.Cells.getD i'.toNat ⟨0, 0⟩).Hi) from ⟨by omega, by omega⟩) (hk _ ⟨?_, ?_⟩))))
        · show ls + (f.Cells.getD i'.toNat ⟨0, 0⟩).Lo = _; omega
        · show ms + (f.Cells.getD i'.toNat ⟨0, 0⟩).Hi = _; omega
      · have hb7 : i' = q := by simpa using hb7
        rw [if_pos (by omega)] at sl sh
        exact hk _ ⟨by show ls = _; omega, by show ms = _; omega⟩
    · have hc7 : ¬ i' < f.Cells.length := by simpa using hc7
      have e1 : ((f.Cells.map (·.Lo)).set q.toNat 0).take i'.toNat = (f.Cells.map (·.Lo)).set q.toNat 0 := List.take_of_length_le (by simp; omega)
      have e2 : ((f.Cells.map (·.Hi)).set q.toNat 0).take i'.toNat = (f.Cells.map (·.Hi)).set q.toNat 0 := List.take_of_length_le (by simp; omega)
      rw [e1, eL] at y3
      rw [e2, eH] at y4
      have tL : (totV f.Cells).Lo = sumL (f.Cells.map (·.Lo)) := rfl
      have tH : (totV f.Cells).Hi = sumL (f.Cells.map (·.Hi)) := rfl
      refine ok_chk (show InR (t.Lo - ms) from ⟨by omega, by omega⟩) (ok_chk (show InR (t.Hi - ls) from ⟨by omega, by omega⟩) (ok_chk (show o.length + 1 ≤ 1000000 by omega) (ok_chk (show InR (q + 1) from ⟨by omega, by omega⟩) (hn _ ⟨by show 0 ≤ q + 1; omega, by show q + 1 ≤ _; omega, ?_⟩ (by show f.Cells.length - (q + 1).toNat < f.Cells.length - q.toNat; omega)))))
      show o ++ [Span.mk (if t.Lo - ms > (f.Cells.getD q.toNat ⟨0, 0⟩).Lo then t.Lo - ms else (f.Cells.getD q.toNat ⟨0, 0⟩).Lo) (if t.Hi - ls < (f.Cells.getD q.toNat ⟨0, 0⟩).Hi then t.Hi - ls else (f.Cells.getD q.toNat ⟨0, 0⟩).Hi)] = (f.Cells.map (cutV t (totV f.Cells))).take (q + 1).toNat
      rw [show (q + 1).toNat = q.toNat + 1 by omega, take_succ' (d := ⟨0, 0⟩) (by simpa using hqi), g3, getD_map _ _ _ ⟨0, 0⟩ _ hqi]
      congr 2
      simp only [cutV]
      congr 1
      · split <;> split <;> omega
      · split <;> split <;> omega
  · have hcc : ¬ q < f.Cells.length := by simpa using hcc
    show (Field.mk f.W f.H o, (0 : Int)) = _
    rw [g3, List.take_of_length_le (by simp; omega)]

/-! ### Dirty -/

def dl (p : Nat → Bool) : Nat → List Int
  | 0 => []
  | n + 1 => bif p n then dl p n ++ [(n : Int)] else dl p n
theorem dl_len (p : Nat → Bool) : ∀ n, (dl p n).length ≤ n
  | 0 => Nat.le_refl _
  | n + 1 => by
    have := dl_len p n
    rw [dl]
    cases p n
    · simp only [cond_false]; omega
    · simp only [cond_true, List.length_append, List.length_singleton]; omega
def dirtyE (f : Field) : List Int × List Int × Int := if checkV f ≠ 0 then ([], [], checkV f) else (dl (fun i => decide ((f.Cells.getD i ⟨0, 0⟩).Lo > 0)) f.Cells.length, dl (fun i => decide ((f.Cells.getD i ⟨0, 0⟩).Hi > 0)) f.Cells.length, 0)

theorem DirtyE_eq {F : Nat} {f : Field} (hF : 200 < F) (hl : f.Cells.length ≤ 80) : spill_Dirty F f = some (dirtyE f) := by
  refine Ok.eq ?_
  unfold spill_Dirty dirtyE
  refine ok_bnde (Check_eq (by show f.Cells.length < F; omega)) ?_
  show Ok _ (brk (checkV f != 0) _ _)
  refine ck_ne (F := F) (fun h => ok_some (by rw [if_pos h])) (fun hf => ?_)
  have hs := hf.small
  rw [if_neg (by simp [hf.check])]
  generalize hp : (fun i => decide ((f.Cells.getD i (⟨0, 0⟩ : Span)).Lo > 0)) = p
  generalize hq : (fun i => decide ((f.Cells.getD i (⟨0, 0⟩ : Span)).Hi > 0)) = q
  refine ok_loop (fun x : List Int × Int × List Int => 0 ≤ x.2.1 ∧ x.2.1 ≤ f.Cells.length ∧ x.1 = dl p x.2.1.toNat ∧ x.2.2 = dl q x.2.1.toNat) (fun x : List Int × Int × List Int => f.Cells.length - x.2.1.toNat) ⟨by simp, by simp, rfl, rfl⟩ (by simp; omega) ?_
  rintro ⟨sure, i, may⟩ next ⟨i1, i2, i3, i4⟩ hn
  simp only at i1 i2 i3 i4
  have b1 := dl_len p i.toNat
  have b2 := dl_len q i.toNat
  rw [← i3] at b1
  rw [← i4] at b2
  refine ok_brk (fun hc => ?_) (fun hc => ok_some ?_)
  · have hc : i < f.Cells.length := by simpa using hc
    refine ok_join (fun x : List Int × List Int => x.1 = dl p (i.toNat + 1) ∧ x.2 = dl q (i.toNat + 1)) (fun x hx => ok_chk (show InR (i + 1) from ⟨by omega, by omega⟩) (hn _ ⟨by show 0 ≤ i + 1; omega, by show i + 1 ≤ _; omega, by show x.1 = dl p (i + 1).toNat; rw [show (i + 1).toNat = i.toNat + 1 by omega]; exact hx.1, by show x.2 = dl q (i + 1).toNat; rw [show (i + 1).toNat = i.toNat + 1 by omega]; exact hx.2⟩ (by show f.Cells.length - (i + 1).toNat < f.Cells.length - i.toNat; omega))) fun k hk => ?_
    have ei : ((i.toNat : Nat) : Int) = i := by omega
    refine ok_chk ⟨i1, hc⟩ ?_
    refine ok_join (fun x : List Int => x = dl p (i.toNat + 1)) (fun x hx => ?_) fun k2 hk2 => ?_
    · refine ok_brk (fun hb => ok_chk (show may.length + 1 ≤ 1000000 by omega) (hk _ ⟨hx, ?_⟩)) (fun hb => hk _ ⟨hx, ?_⟩)
      · have hb : q i.toNat = true := by rw [← hq]; exact hb
        show may ++ [i] = _
        rw [dl, hb, cond_true, i4, ei]
      · have hb : q i.toNat = false := by rw [← hq]; exact hb
        show may = _
        rw [dl, hb, cond_false, i4]
    · refine ok_brk (fun hb => ok_chk (show sure.length + 1 ≤ 1000000 by omega) (hk2 _ ?_)) (fun hb => hk2 _ ?_)
      · have hb : p i.toNat = true := by rw [← hp]; exact hb
        rw [dl, hb, cond_true, ei, ← i3]
      · have hb : p i.toNat = false := by rw [← hp]; exact hb
        rw [dl, hb, cond_false, ← i3]
  · have hc : ¬ i < f.Cells.length := by simpa using hc
    obtain rfl : i = f.Cells.length := by omega
    show (sure, may, (0 : Int)) = _
    rw [i3, i4]; rfl

theorem refDirty_eq {F : Nat} {f : Field} (hF : 200 < F) (hl : f.Cells.length ≤ 80) : ref11_Dirty F f = some (dirtyE f) := by
  refine Ok.eq ?_
  unfold ref11_Dirty dirtyE
  refine ok_bnde (refCheck_eq (by show f.Cells.length < F; omega)) ?_
  show Ok _ (brk (checkV f != 0) _ _)
  refine ck_ne (F := F) (fun h => ok_some (by rw [if_pos h])) (fun hf => ?_)
  have hs := hf.small
  rw [if_neg (by simp [hf.check])]
  generalize hp : (fun i => decide ((f.Cells.getD i (⟨0, 0⟩ : Span)).Lo > 0)) = p
  generalize hq : (fun i => decide ((f.Cells.getD i (⟨0, 0⟩ : Span)).Hi > 0)) = q
  refine ok_loop (fun x : Int × List Int × List Int => 0 ≤ x.1 ∧ x.1 ≤ f.Cells.length ∧ x.2.1 = dl p x.1.toNat ∧ x.2.2 = dl q x.1.toNat) (fun x : Int × List Int × List Int => f.Cells.length - x.1.toNat) ⟨by simp, by simp, rfl, rfl⟩ (by simp; omega) ?_
  rintro ⟨i, sure, may⟩ next ⟨i1, i2, i3, i4⟩ hn
  simp only at i1 i2 i3 i4
  have b1 := dl_len p i.toNat
  have b2 := dl_len q i.toNat
  rw [← i3] at b1
  rw [← i4] at b2
  refine ok_brk (fun hc => ?_) (fun hc => ok_some ?_)
  · have hc : i < f.Cells.length := by simpa using hc
    refine ok_join (fun x : List Int × List Int => x.1 = dl p (i.toNat + 1) ∧ x.2 = dl q (i.toNat + 1)) (fun x hx => ok_chk (show InR (i + 1) from ⟨by omega, by omega⟩) (hn _ ⟨by show 0 ≤ i + 1; omega, by show i + 1 ≤ _; omega, by show x.1 = dl p (i + 1).toNat; rw [show (i + 1).toNat = i.toNat + 1 by omega]; exact hx.1, by show x.2 = dl q (i + 1).toNat; rw [show (i + 1).toNat = i.toNat + 1 by omega]; exact hx.2⟩ (by show f.Cells.length - (i + 1).toNat < f.Cells.length - i.toNat; omega))) fun k hk => ?_
    have ei : ((i.toNat : Nat) : Int) = i := by omega
    refine ok_join (fun x : List Int => x = dl p (i.toNat + 1)) (fun x hx => ?_) fun k2 hk2 => ?_
    · refine ok_chk ⟨i1, hc⟩ (ok_brk (fun hb => ok_chk (show may.length + 1 ≤ 1000000 by omega) (hk _ ⟨hx, ?_⟩)) (fun hb => hk _ ⟨hx, ?_⟩))
      · have hb : q i.toNat = true := by rw [← hq]; exact hb
        show may ++ [i] = _
        rw [dl, hb, cond_true, i4, ei]
      · have hb : q i.toNat = false := by rw [← hq]; exact hb
        show may = _
        rw [dl, hb, cond_false, i4]
    · refine ok_chk ⟨i1, hc⟩ (ok_brk (fun hb => ok_chk (show sure.length + 1 ≤ 1000000 by omega) (hk2 _ ?_)) (fun hb => hk2 _ ?_))
      · have hb : p i.toNat = true := by rw [← hp]; exact hb
        rw [dl, hb, cond_true, ei, ← i3]
      · have hb : p i.toNat = false := by rw [← hp]; exact hb
        rw [dl, hb, cond_false, ← i3]
  · have hc : ¬ i < f.Cells.length := by simpa using hc
    obtain rfl : i = f.Cells.length := by omega
    show (sure, may, (0 : Int)) = _
    rw [i3, i4]; rfl
end Go.Proofs.Sp

namespace Go.Proofs.Sp
open Go Go.KX

theorem whenV_one {f : Field} {caps : List Span} {c : Int} {w w' : Span} {e e' : Int} (h : WhenV f caps c w e) (h' : WhenV f caps c w' e') : w = w' ∧ e = e' := by
  rcases h with ⟨r1, r2, r3, r4, r5, r6, r7, r8⟩ | ⟨r0, r1, r2⟩ <;> rcases h' with ⟨s1, s2, s3, s4, s5, s6, s7, s8⟩ | ⟨s0, s1, s2⟩
  · have e1 : w.Lo = w'.Lo := by
      rcases Int.lt_trichotomy w.Lo w'.Lo with q | q | q
      · have := s7 w.Lo.toNat (by omega); omega
      · exact q
      · have := r7 w'.Lo.toNat (by omega); omega
    have e2 : w.Hi = w'.Hi := by
      rcases Int.lt_trichotomy w.Hi w'.Hi with q | q | q
      · have := s8 w.Hi.toNat (by omega); omega
      · exact q
      · have := r8 w'.Hi.toNat (by omega); omega
    obtain ⟨wl, wh⟩ := w
    obtain ⟨vl, vh⟩ := w'
    simp only at e1 e2
    exact ⟨by rw [e1, e2], by rw [r1, s1]⟩
  · have := s2 w.Hi.toNat (by omega); omega
  · have := r2 w'.Hi.toNat (by omega); omega
  · exact ⟨by rw [r0, s0], by rw [r1, s1]⟩

/-- What When answers, errors too. -/
def WhenE (f : Field) (caps : List Span) (c : Int) (x : Span × Int) : Prop :=
  (begunV f caps ≠ 0 ∧ x = (⟨0, 0⟩, begunV f caps)) ∨ (begunV f caps = 0 ∧ ¬ (0 ≤ c ∧ c < f.Cells.length) ∧ x = (⟨0, 0⟩, 1)) ∨ (begunV f caps = 0 ∧ (0 ≤ c ∧ c < f.Cells.length) ∧ WhenV f caps c x.1 x.2)

theorem whenE_one {f : Field} {caps : List Span} {c : Int} {x y : Span × Int} (h : WhenE f caps c x) (h' : WhenE f caps c y) : x = y := by
  rcases h with ⟨r1, r2⟩ | ⟨r1, r2, r3⟩ | ⟨r1, r2, r3⟩ <;> rcases h' with ⟨s1, s2⟩ | ⟨s1, s2, s3⟩ | ⟨s1, s2, s3⟩ <;> first | contradiction | skip
  · rw [r2, s2]
  · rw [r3, s3]
  · obtain ⟨q1, q2⟩ := whenV_one r3 s3
    exact Prod.ext q1 q2

theorem WhenE_ok {F : Nat} {f : Field} {caps : List Span} {c : Int} (hF : 200 < F) (hl : f.Cells.length ≤ 80) (hcl : caps.length ≤ 80) : Ok (WhenE f caps c) (spill_When F f caps c) := by
  by_cases h0 : begunV f caps = 0
  · obtain ⟨hf, hc⟩ := begunV_ok h0
    by_cases hh : 0 ≤ c ∧ c < f.Cells.length
    · obtain ⟨r, hr, hw⟩ := When_ok (F := F) (by omega) hf hc hh.1 hh.2
      exact ⟨r, hr, .inr (.inr ⟨h0, hh, hw⟩)⟩
    · unfold spill_When
      refine ok_bnde (Check_eq (by show f.Cells.length < F; omega)) ?_
      rw [show checkV (Field.mk f.W f.H f.Cells) = 0 from hf.check]
      refine ok_brkF (by simp) (ok_brkF (by simp [hc.len]) ?_)
      refine ok_join (fun i : Int => 0 ≤ i ↔ ¬ ∀ s ∈ caps, SpanOK 10000 s) (fun i hi => ?_) fun k hk => find_ok (g := spill_begin_1) (m := 10000) (fun s => by unfold spill_begin_1; rw [span_eq, bnd_so]) k (by omega) (by omega) hk
      refine ok_brkF ?_ ?_
      · rw [decide_eq_false_iff_not]
        exact fun h => (hi.1 h) hc.ok
      refine ok_bnde (clone_eq (by omega)) (ok_chk ⟨by omega, by omega⟩ ?_)
      rw [within_eq, bnd_so]
      refine ok_brkT ?_ (ok_some (.inr (.inl ⟨h0, hh, rfl⟩)))
      by_cases q : c ≥ 0
      · rw [decide_eq_true q, decide_eq_false (show ¬ c ≤ (f.Cells.length : Int) - 1 by omega)]; rfl
      · rw [decide_eq_false q]; rfl
  · unfold spill_When
    refine ok_bnde (Check_eq (by show f.Cells.length < F; omega)) ?_
    show Ok _ (brk (checkV f != 0) _ _)
    refine ok_brk (fun h => ok_brkT h (ok_some (.inl ⟨h0, ?_⟩))) (fun h => ?_)
    · show (_, checkV f) = _
      rw [begunV, if_pos (by simpa using h)]
    have h : checkV f = 0 := by simpa using h
    refine ok_brk (fun h2 => ok_some (.inl ⟨h0, ?_⟩)) (fun h2 => ?_)
    · rw [begunV, if_neg (by simp [h]), if_pos (ne_of_bne h2)]
    have h2 : caps.length = f.Cells.length := eq_of_bne h2
    have hbad : ¬ ∀ s ∈ caps, SpanOK 10000 s := fun hok => h0 (by rw [begunV, if_neg (by simp [h]), if_neg (by simp [h2]), if_pos hok])
    refine ok_join (fun i : Int => 0 ≤ i ↔ ¬ ∀ s ∈ caps, SpanOK 10000 s) (fun i hi => ?_) fun k hk => find_ok (g := spill_begin_1) (m := 10000) (fun s => by unfold spill_begin_1; rw [span_eq, bnd_so]) k (by omega) (by omega) hk
    refine ok_brkT (by simpa using hi.2 hbad) (ok_some (.inl ⟨h0, ?_⟩))
    rw [begunV, if_neg (by simp [h]), if_neg (by simp [h2]), if_neg hbad]

theorem refWhen_ok {F : Nat} {f : Field} {caps : List Span} {c : Int} (hF : 200 < F) (hl : f.Cells.length ≤ 80) (hcl : caps.length ≤ 80) : Ok (WhenE f caps c) (ref11_When F f caps c) := by
  unfold ref11_When
  refine ok_bnde (refBegun_eq (f := f) hF hl hcl) (ok_brk (fun h => ok_some (.inl ⟨by simpa using h, rfl⟩)) (fun h => ?_))
  have h : begunV f caps = 0 := by simpa using h
  obtain ⟨hf, hc⟩ := begunV_ok h
  refine ok_chk ⟨by omega, by omega⟩ ?_
  rw [refIn_eq, bnd_so]
  refine ok_brk (fun h2 => ok_some (.inr (.inl ⟨h, fun hh => ?_, rfl⟩))) (fun h2 => ?_)
  · exact (nwb h2) ⟨hh.1, by omega⟩
  have h2 : 0 ≤ c ∧ c ≤ (f.Cells.length : Int) - 1 := by simpa using h2
  have h1 : 0 ≤ c := h2.1
  have h2 : c < f.Cells.length := by omega
  refine Ok.mono (post := WhenOK f caps c) ?_ (fun x hx => .inr (.inr ⟨h, ⟨h1, h2⟩, hx⟩))
  refine ok_loop (fun x : Int × Int × Int × List Span × Int × Int => 0 ≤ x.2.2.1 ∧ x.2.2.1 ≤ 49 ∧ x.2.2.2.1 = spreadN f.W f.H caps x.2.2.1.toNat f.Cells ∧ x.2.2.2.2.1 = f.H ∧ x.2.2.2.2.2 = f.W ∧
      ((x.1 = -1 ∧ ∀ h : Nat, (h : Int) < x.2.2.1 → (atV f caps c h).Lo ≤ 0) ∨ (0 ≤ x.1 ∧ x.1 < x.2.2.1 ∧ 0 < (atV f caps c x.1.toNat).Lo ∧ ∀ h : Nat, (h : Int) < x.1 → (atV f caps c h).Lo ≤ 0)) ∧
      ((x.2.1 = -1 ∧ ∀ h : Nat, (h : Int) < x.2.2.1 → (atV f caps c h).Hi ≤ 0) ∨ (0 ≤ x.2.1 ∧ x.2.1 < x.2.2.1 ∧ 0 < (atV f caps c x.2.1.toNat).Hi ∧ ∀ h : Nat, (h : Int) < x.2.1 → (atV f caps c h).Hi ≤ 0))) (fun x : Int × Int × Int × List Span × Int × Int => 49 - x.2.2.1.toNat)
    ⟨by simp, by simp, rfl, rfl, rfl, .inl ⟨rfl, fun h hh => by simp at hh; omega⟩, .inl ⟨rfl, fun h hh => by simp at hh; omega⟩⟩ (by simp; omega) ?_
  rintro ⟨su, ma, hour, cells, oh, ow⟩ next ⟨i1, i2, i3, i4, i5, i6, i7⟩ hn
  simp only at i1 i2 i3 i4 i5 i6 i7
  subst i4 i5
  obtain ⟨g1, g2⟩ := spreadN_ok (F := F) (by omega) hf hc hour.toNat
  rw [← i3] at g1 g2
  have hat : cells.getD c.toNat ⟨0, 0⟩ = atV f caps c hour.toNat := by rw [i3]; rfl
  have hao := at_ok (F := F) (by omega) hf hc h1 h2 hour.toNat
  refine ok_brk (fun hcc => ?_) (fun hcc => ?_)
  · have hcc : hour ≤ 48 := by simpa using hcc
    have hidx : 0 ≤ c ∧ c < (cells.length : Int) := ⟨h1, by omega⟩
    refine ok_join (fun l : Int => (l = -1 ∧ ∀ h : Nat, (h : Int) ≤ hour → (atV f caps c h).Hi ≤ 0) ∨ (0 ≤ l ∧ l ≤ hour ∧ 0 < (atV f caps c l.toNat).Hi ∧ ∀ h : Nat, (h : Int) < l → (atV f caps c h).Hi ≤ 0)) (fun l hl => ?_) fun k hk => ?_
    · refine ok_join (fun l : Int => (l = -1 ∧ ∀ h : Nat, (h : Int) ≤ hour → (atV f caps c h).Lo ≤ 0) ∨ (0 ≤ l ∧ l ≤ hour ∧ 0 < (atV f caps c l.toNat).Lo ∧ ∀ h : Nat, (h : Int) < l → (atV f caps c h).Lo ≤ 0)) (fun m hm => ?_) fun k hk => ?_
      · refine ok_bnde (refHour_eq (f := ⟨f.W, f.H, cells⟩) (by omega) g1 (by show CapsOK cells.length caps; rw [g2]; exact hc)) (ok_chk (show InR (hour + 1) from ⟨by omega, by omega⟩) (hn _ ⟨by show 0 ≤ hour + 1; omega, by show hour + 1 ≤ 49; omega, ?_, rfl, rfl, ?_, ?_⟩ (by show 49 - (hour + 1).toNat < 49 - hour.toNat; omega)))
        · show spreadV f.W f.H cells caps = spreadN f.W f.H caps (hour + 1).toNat f.Cells
          rw [show (hour + 1).toNat = hour.toNat + 1 by omega, spreadN, i3]
        · rcases hm with ⟨q1, q2⟩ | ⟨q1, q2, q3, q4⟩
          · exact .inl ⟨q1, fun h hh => q2 h (by have hh : (h : Int) < hour + 1 := hh; omega)⟩
          · exact .inr ⟨q1, by show m < hour + 1; omega, q3, q4⟩
        · rcases hl with ⟨q1, q2⟩ | ⟨q1, q2, q3, q4⟩
          · exact .inl ⟨q1, fun h hh => q2 h (by have hh : (h : Int) < hour + 1 := hh; omega)⟩
          · exact .inr ⟨q1, by show l < hour + 1; omega, q3, q4⟩
      · refine ok_chk (fun _ => hidx) ?_
        show Ok _ (brk (decide (su < 0) && decide ((cells.getD c.toNat ⟨0, 0⟩).Lo > 0)) _ _)
        rw [hat]
        refine ok_brk (fun hb => hk _ ?_) (fun hb => hk _ ?_)
        · simp only [Bool.and_eq_true, decide_eq_true_eq] at hb
          rcases i6 with ⟨q1, q2⟩ | ⟨q1, _⟩
          · exact .inr ⟨i1, Int.le_refl _, hb.2, q2⟩
          · omega
        · simp only [Bool.and_eq_false_iff, decide_eq_false_iff_not] at hb
          rcases i6 with ⟨q1, q2⟩ | ⟨q1, q2, q3, q4⟩
          · refine .inl ⟨q1, fun h hh => ?_⟩
            by_cases e : (h : Int) < hour
            · exact q2 h e
            · obtain rfl : h = hour.toNat := by omega
              omega
          · exact .inr ⟨q1, by show su ≤ hour; omega, q3, q4⟩
    · refine ok_chk (fun _ => hidx) ?_
      show Ok _ (brk (decide (ma < 0) && decide ((cells.getD c.toNat ⟨0, 0⟩).Hi > 0)) _ _)
      rw [hat]
      refine ok_brk (fun hb => hk _ ?_) (fun hb => hk _ ?_)
      · simp only [Bool.and_eq_true, decide_eq_true_eq] at hb
        rcases i7 with ⟨q1, q2⟩ | ⟨q1, _⟩
        · exact .inr ⟨i1, Int.le_refl _, hb.2, q2⟩
        · omega
      · simp only [Bool.and_eq_false_iff, decide_eq_false_iff_not] at hb
        rcases i7 with ⟨q1, q2⟩ | ⟨q1, q2, q3, q4⟩
        · refine .inl ⟨q1, fun h hh => ?_⟩
          by_cases e : (h : Int) < hour
          · exact q2 h e
          · obtain rfl : h = hour.toNat := by omega
            omega
        · exact .inr ⟨q1, by show ma ≤ hour; omega, q3, q4⟩
  · have hcc : ¬ hour ≤ 48 := by simpa using hcc
    refine ok_brk (fun hb => ok_some (.inr ⟨rfl, rfl, fun h hh => ?_⟩)) (fun hb => ok_some ?_)
    · have hb : su < 0 := by simpa using hb
      rcases i6 with ⟨_, q2⟩ | ⟨q1, _⟩
      · exact q2 h (by omega)
      · omega
    · have hb : ¬ su < 0 := by simpa using hb
      rcases i6 with ⟨q1, _⟩ | ⟨q1, q2, q3, q4⟩
      · omega
      have hso := at_ok (F := F) (by omega) hf hc h1 h2 su.toNat
      rcases i7 with ⟨_, p2⟩ | ⟨p1, p2, p3, p4⟩
      · have := p2 su.toNat (by omega)
        have hs2 : (atV f caps c su.toNat).Lo ≤ (atV f caps c su.toNat).Hi := hso.2.1
        omega
      · refine .inl ⟨rfl, p1, ?_, by show su ≤ 48; omega, p3, q3, p4, q4⟩
        show ma ≤ su
        rcases Int.lt_or_le su ma with q | q
        · have := p4 su.toNat (by omega)
          have hs2 : (atV f caps c su.toNat).Lo ≤ (atV f caps c su.toNat).Hi := hso.2.1
          omega
        · exact q

theorem When_same {F : Nat} {f : Field} {caps : List Span} {c : Int} (hF : 200 < F) (hl : f.Cells.length ≤ 80) (hcl : caps.length ≤ 80) : ∃ r, spill_When F f caps c = some r ∧ ref11_When F f caps c = some r := by
  obtain ⟨r, h1, h2⟩ := WhenE_ok (F := F) (f := f) (caps := caps) (c := c) hF hl hcl
  obtain ⟨s, h3, h4⟩ := refWhen_ok (F := F) (f := f) (caps := caps) (c := c) hF hl hcl
  obtain rfl := whenE_one h2 h4
  exact ⟨r, h1, h3⟩

end Go.Proofs.Sp

namespace Go.Proofs.Sp
open Go Go.KX

theorem copyF_eq {F : Nat} {f : Field} (h : f.Cells.length ≤ 1000000) : law11_CopyField F f = some f := by
  unfold law11_CopyField kit_CopySpans
  rw [chk_pos h]; rfl

theorem sameSp {F : Nat} {l : List Span} (hF : l.length < F) (hl : l.length ≤ 1000000) : kit_SameSpans F l l = some true := by
  refine Ok.eq ?_
  unfold kit_SameSpans
  refine ok_brkF (by simp) ?_
  refine ok_loop (fun x : Int => 0 ≤ x) (fun x : Int => l.length - x.toNat) (by omega) (by simp; omega) ?_
  intro x next h0 hn
  refine ok_brk (fun hc => ?_) (fun _ => ok_some rfl)
  have hc : x < l.length := by simpa using hc
  exact ok_chk ⟨h0, hc⟩ (ok_chk ⟨h0, hc⟩ (ok_brkF (by simp) (ok_chk ⟨by omega, by omega⟩ (hn _ (by omega) (by omega)))))

theorem sameInt {F : Nat} {l : List Int} (hF : l.length < F) (hl : l.length ≤ 1000000) : kit_SameInts F l l = some true := by
  refine Ok.eq ?_
  unfold kit_SameInts
  refine ok_brkF (by simp) ?_
  refine ok_loop (fun x : Int => 0 ≤ x) (fun x : Int => l.length - x.toNat) (by omega) (by simp; omega) ?_
  intro x next h0 hn
  refine ok_brk (fun hc => ?_) (fun _ => ok_some rfl)
  have hc : x < l.length := by simpa using hc
  exact ok_chk ⟨h0, hc⟩ (ok_chk ⟨h0, hc⟩ (ok_brkF (by simp) (ok_chk ⟨by omega, by omega⟩ (hn _ (by omega) (by omega)))))

theorem cInts {F : Nat} {l : List Int} (hl : l.length ≤ 1000000) : kit_CopyInts F l = some l := by unfold kit_CopyInts; rw [chk_pos hl]
theorem cSpans {F : Nat} {l : List Span} (hl : l.length ≤ 1000000) : kit_CopySpans F l = some l := by unfold kit_CopySpans; rw [chk_pos hl]

theorem spreadE_len {f : Field} {caps : List Span} {h : Int} (hl : f.Cells.length ≤ 80) : (spreadE f caps h).1.Cells.length ≤ 80 := by
  unfold spreadE
  split
  · simp
  · split
    · simp
    · rename_i h1 _
      obtain ⟨hf, hc⟩ := begunV_ok (f := f) (caps := caps) (by simpa using h1)
      have := (spreadN_ok (F := 1000) (by omega) hf hc h.toNat).2
      show (spreadN f.W f.H caps h.toNat f.Cells).length ≤ 80
      omega

theorem tightE_len {f : Field} {t : Span} (hl : f.Cells.length ≤ 80) : (tightenE f t).1.Cells.length ≤ 80 := by
  unfold tightenE
  split
  · simp
  · split
    · simp
    · split
      · simp
      · simpa using hl

theorem dirtyE_len {f : Field} (hl : f.Cells.length ≤ 80) : (dirtyE f).1.length ≤ 80 ∧ (dirtyE f).2.1.length ≤ 80 := by
  unfold dirtyE
  split
  · simp
  · exact ⟨Nat.le_trans (dl_len _ _) hl, Nat.le_trans (dl_len _ _) hl⟩

theorem fields_ok {f : Field} {caps : List Span} {am ca : List Int} {W H h c : Int} {t : Span} (hm : ∀ a ∈ am, InR a) : law11_SpillFields 1000 f caps am ca W H h c t = some true := by
  refine Ok.eq ?_
  unfold law11_SpillFields
  refine ok_brk (fun _ => ok_bnde awake_ok (ok_some rfl)) (fun hb => ?_)
  simp only [Bool.or_eq_false_iff, decide_eq_false_iff_not] at hb
  obtain ⟨⟨⟨l1, l2⟩, l3⟩, l4⟩ := hb
  have l1 : f.Cells.length ≤ 80 := by omega
  have l2 : caps.length ≤ 80 := by omega
  have l3 : am.length ≤ 80 := by omega
  have l4 : ca.length ≤ 80 := by omega
  refine ok_bnde (copyF_eq (f := f) (by omega)) (ok_bnde (cSpans (by omega)) (ok_bnde (cInts (by omega)) (ok_bnde (cInts (by omega)) (ok_bnde (copyF_eq (f := f) (by omega)) ?_))))
  refine ok_bnde (Check_eq (f := f) (by omega)) (ok_bnde (refCheck_eq (f := f) (by omega)) (ok_brkF (by simp) ?_))
  obtain ⟨r, e1, e2, e3⟩ := Flow_same (F := 1000) (W := W) (H := H) (am := am) (caps := ca) (by omega) l3 l4 hm
  refine ok_bnde e1 (ok_bnde e2 (ok_bnde (b := true) ?_ (ok_brkF (by simp) ?_)))
  · rw [show (!r.2 != r.2) = true by simp, brk_true]
    exact sameInt (by omega) (by omega)
  clear e1 e2 e3 r
  refine ok_bnde (SpreadE_eq (f := f) (by omega) l1 l2) (ok_bnde (refSpread_eq (f := f) (by omega) l1 l2) ?_)
  have hp := spreadE_len (caps := caps) (h := h) l1
  generalize spreadE f caps h = p at hp
  refine ok_bnde (b := true) ?_ (ok_brkF (by simp) ?_)
  · rw [show (!p.2 != p.2) = true by simp, brk_true]
    exact same_refl (f := p.1) (by omega) (by omega)
  refine ok_loop (fun x : Int × List Span => 0 ≤ x.1 ∧ x.2.length = p.1.Cells.length) (fun x : Int × List Span => p.1.Cells.length - x.1.toNat) ⟨by simp, rfl⟩ (by simp; omega) ?_
  rintro ⟨i, cs⟩ next ⟨i1, i2⟩ hn
  simp only at i1 i2
  refine ok_brk (fun hc => ?_) (fun hc => ?_)
  · have hc : i < p.1.Cells.length := by simpa using hc
    refine ok_chk ⟨i1, by show i < (cs.length : Int); omega⟩ (ok_chk (show InR (i + 1) from ⟨by omega, by omega⟩) (hn _ ⟨by show 0 ≤ i + 1; omega, by rw [List.length_set]; exact i2⟩ (by show p.1.Cells.length - (i + 1).toNat < p.1.Cells.length - i.toNat; omega)))
  clear hn hc i2 i1 cs i next hp p
  refine ok_bnde (HoldsE_eq (f := f) (by omega) l1) (ok_bnde (refHolds_eq (f := f) (by omega) l1) (ok_brkF (by simp) ?_))
  refine ok_bnde (TotalE_eq (f := f) (by omega) l1) (ok_bnde (refTotal_eq (f := f) (by omega) l1) (ok_brkF (by simp) ?_))
  refine ok_bnde (TightenE_eq (f := f) (t := t) (by omega) l1) (ok_bnde (refTighten_eq (f := f) (t := t) (by omega) l1) ?_)
  have hp := tightE_len (t := t) l1
  generalize tightenE f t = p at hp
  refine ok_bnde (b := true) ?_ (ok_brkF (by simp) ?_)
  · rw [show (!p.2 != p.2) = true by simp, brk_true]
    exact same_refl (f := p.1) (by omega) (by omega)
  clear hp p
  refine ok_bnde (DirtyE_eq (f := f) (by omega) l1) (ok_bnde (refDirty_eq (f := f) (by omega) l1) ?_)
  have hp := dirtyE_len l1
  generalize dirtyE f = p at hp
  refine ok_bnde (b := true) ?_ (ok_bnde (b := true) ?_ (ok_brkF (by simp) ?_))
  · rw [show (!p.2.2 != p.2.2) = true by simp, brk_true]
    exact sameInt (by omega) (by omega)
  · rw [show (!(p.2.2 != p.2.2 || !true)) = true by simp, brk_true]
    exact sameInt (by omega) (by omega)
  clear hp p
  obtain ⟨r, e1, e2⟩ := When_same (F := 1000) (f := f) (caps := caps) (c := c) (by omega) l1 l2
  refine ok_bnde e1 (ok_bnde e2 ?_)
  have hA : (r.1.Lo == r.1.Lo && (r.1.Hi == r.1.Hi && true) && r.2 == r.2) = true := by simp
  rw [hA]
  refine ok_bnde (b := true) (same_refl (f := f) (by omega) (by omega)) ?_
  refine ok_bnde (b := true) (sameSp (by omega) (by omega)) ?_
  refine ok_bnde (b := true) (sameInt (by omega) (by omega)) ?_
  refine ok_bnde (b := true) (sameInt (by omega) (by omega)) ?_
  refine ok_bnde (b := true) (by show brk true (law11_awake 1000) _ = _; rw [brk_true]; exact awake_ok) ?_
  show Ok _ (some true)
  exact ok_some rfl

theorem fields_plain {f : Field} {caps : List Span} {am ca : List Int} {W H h c : Int} {t : Span} {P1 P2 P3 P4 P5 P6 P7 P8 Q : Prop} (_ : P1) (_ : P2) (hm : (∀ a ∈ am, InR a) ∧ Q) (_ : P3) (_ : P4) (_ : P5) (_ : P6) (_ : P7) (_ : P8) : law11_SpillFields 1000 f caps am ca W H h c t = some true := fields_ok hm.1
end Go.Proofs.Sp

namespace Go.KX
open Go Go.ChangeShapes Go.WideShapes Go.RowKit

/-- Types whose reading asks only for cells: numbers, Booleans, and structs, arrays and slices of such. -/
def goodT (P : Program) : Nat → TypeId → Bool
  | 0, _ => false
  | n + 1, t => match P.underlying t with
    | some (.int _) => true
    | some .bool => true
    | some (.struct fs) => fs.toList.all fun f => goodT P n f.type
    | some (.array _ e) => goodT P n e
    | some (.slice e) => goodT P n e && Nat.ble 1 (P.cellsOf e)
    | _ => false

theorem mapM_carry' {α β : Type} {f g : α → Option β} : ∀ {l : List α} {r : List β}, l.mapM f = some r → (∀ x y, x ∈ l → y ∈ r → f x = some y → g x = some y) → l.mapM g = some r := mapM_carry

section
variable {H : Type} {enc : TypeId × Value → H} {P : Program} {w : World} {base : Nat} {held : Bool}

theorem trod_spare {sp : Nat → Bool} : ∀ (m n : Nat) (t : TypeId) (cs : List Value) (x : DataW H × List MemPlace), goodT P m t = true →
    DataW.trod enc P w base (fun _ => true) held n t cs = some x → (∀ p ∈ x.2, sp p.block = true) → DataW.trod enc P w base sp held n t cs = some x := by
  intro m
  induction m with
  | zero => intro n t cs x h; cases h
  | succ m ih =>
    intro n t cs x hg h hs
    cases n with
    | zero => simp [DataW.trod] at h
    | succ n =>
      rw [DataW.trod_step] at h ⊢
      unfold goodT at hg
      unfold DataW.trodStep at h ⊢
      split at h
      case h_1 => exact h
      case h_2 => exact h
      case h_8 e a len cap hu =>
        rw [hu] at hg
        simp only [Bool.and_eq_true] at hg
        simp only at h ⊢
        split at h
        · rename_i hc
          rw [if_pos hc]
          simp only [if_true, Option.map_eq_some_iff, Option.bind_eq_some_iff] at h ⊢
          obtain ⟨elems, he, rest, hr, rfl⟩ := h
          have hlen : elems.length = len := by simpa using mapM_some_length he
          have hrlen : rest.length = cap - len := by simpa using mapM_some_length hr
          have hk : 1 ≤ P.cellsOf e := Nat.le_of_ble_eq_true hg.2
          have one : ∀ i y, (w.cells? base (a.add (i * P.cellsOf e)) (P.cellsOf e)).bind (DataW.trod enc P w base (fun _ => true) held n e) = some y → (∀ p ∈ y.2, sp p.block = true) →
              (w.cells? base (a.add (i * P.cellsOf e)) (P.cellsOf e)).bind (DataW.trod enc P w base sp held n e) = some y := by
            intro i y hy hp
            rw [Option.bind_eq_some_iff] at hy ⊢
            obtain ⟨cs', h1, h2⟩ := hy
            exact ⟨cs', h1, ih n e cs' y hg.1 h2 hp⟩
          have hpl : ∀ y, y ∈ elems ++ rest → ∀ p ∈ y.2, sp p.block = true := fun y hy p hp => hs p (by
            simp only [List.mem_append]
            exact .inr (List.mem_flatMap.2 ⟨y, hy, hp⟩))
          refine ⟨elems, mapM_carry' he fun i y hi hy hiy => one i y hiy (hpl y (by simp [hy])), rest, ?_, rfl⟩
          by_cases hcap : cap = 0
          · have : rest = [] := List.length_eq_zero_iff.1 (by omega)
            subst this
            split
            · rw [show cap - len = 0 by omega]; rfl
            · rfl
          · have : sp a.block = true := by
              have := hs (.cell a.block (a.off + 0)) (by
                simp only [List.mem_append]
                refine .inl (MemPlace.mem_row.2 ⟨0, ?_, rfl⟩)
                rw [hlen, hrlen, show len + (cap - len) = cap by omega]
                exact Nat.mul_pos (by omega) hk)
              exact this
            rw [if_pos this]
            exact mapM_carry' hr fun j y hj hy hjy => one _ y hjy (hpl y (by simp [hy]))
        · cases h
      case h_7 => exact h
      case h_9 fs cs' hu =>
        rw [hu] at hg
        simp only at hg
        split at h
        · rename_i hl
          rw [if_pos hl]
          simp only [Option.map_eq_some_iff] at h ⊢
          obtain ⟨xs, hx, rfl⟩ := h
          refine ⟨xs, mapM_carry' hx fun f y hf hy hfy => ih n f.type _ y (List.all_eq_true.1 hg f hf) hfy fun p hp => hs p ?_, rfl⟩
          exact List.mem_flatMap.2 ⟨y, hy, hp⟩
        · cases h
      case h_10 =>
        rename_i e hu
        rw [hu] at hg
        simp only at hg
        split at h
        · rename_i hl
          rw [if_pos hl]
          simp only [Option.map_eq_some_iff] at h ⊢
          obtain ⟨xs, hx, rfl⟩ := h
          refine ⟨xs, mapM_carry' hx fun f y hf hy hfy => ih n e _ y hg hfy fun p hp => hs p ?_, rfl⟩
          exact List.mem_flatMap.2 ⟨y, hy, hp⟩
        · cases h
      all_goals simp_all

theorem trod_move {w' : World} {sp : Nat → Bool} {t : TypeId} {v : Value} {d : DataW H} {ps : List MemPlace} (hg : goodT P 8 t = true) (h : DataW.Trod enc P w base (fun _ => true) held t v d ps)
    (hsame : ∀ p ∈ ps, w.sameAt w' p) (hs : ∀ p ∈ ps, sp p.block = true) : DataW.Trod enc P w' base sp held t v d ps := by
  obtain ⟨n, hn⟩ := h
  exact ⟨n, trod_spare 8 n t _ _ hg (DataW.trod_carry n t _ _ hn hsame) hs⟩

theorem trodAll_move {w' : World} {sp : Nat → Bool} : ∀ {ts : List TypeId} {vs : List Value} {ds : List (DataW H)} {ps : List MemPlace}, ts.all (goodT P 8) = true → DataW.TrodAll enc P w base (fun _ => true) held ts vs ds ps →
    (∀ p ∈ ps, w.sameAt w' p) → (∀ p ∈ ps, sp p.block = true) → DataW.TrodAll enc P w' base sp held ts vs ds ps := by
  intro ts
  induction ts with
  | nil =>
    intro vs ds ps _ h _ _
    obtain ⟨rfl, rfl, rfl⟩ := trodAll_nil h
    rfl
  | cons t ts ih =>
    intro vs ds ps hg h hsame hs
    obtain ⟨v, vs', d, ds', p, q, rfl, rfl, rfl, h1, h2⟩ := trodAll_cons h
    simp only [List.all_cons, Bool.and_eq_true] at hg
    exact ⟨p, q, trod_move hg.1 h1 (fun x hx => hsame x (by simp [hx])) (fun x hx => hs x (by simp [hx])), ih hg.2 h2 (fun x hx => hsame x (by simp [hx])) (fun x hx => hs x (by simp [hx])), rfl⟩

/-- A law that returns true and leaves what was there alone. -/
theorem post_law {f : Func} {s : ChangeSpec} {W W' : World} {args : Array Value} {ds gs : List (DataW H)} {before : List MemPlace} {tb : TypeId} (hW : DataW.Whole enc P f.params.toList s.vars false W args.toList ds gs before)
    (hv : s.vars = []) (hfn : s.fn H ds = { results := [.lit (.bool true)], args := ds }) (hrt : f.resultTypes = #[tb]) (htb : P.underlying tb = some .bool) (hgood : f.params.toList.all (goodT P 8) = true) (hb : Below W.heap.size W W') :
    s.post enc P f false true false false W args (.bool true) W' := by
  have hW0 := hW
  obtain ⟨p, q, hA, hV, rfl, _, _⟩ := hW
  rw [hv] at hV
  obtain ⟨rfl, rfl⟩ := trodVars_none hV
  have hlt : ∀ x ∈ p ++ [], x.block < W.heap.size := fun x hx => hW0.lt x hx
  have hsame : ∀ x ∈ p, W.sameAt W' x := fun x hx => hb.same (hlt x (by simpa using hx))
  refine ⟨ds, [], p ++ [], [], p, [], hW0, ?_, ?_, ?_, hb.frame _, fun h => by cases h⟩
  · simp only [List.append_nil, hfn, hrt]
    exact trodAll_mk1 (shut_bool htb _)
  · simp only [List.append_nil, hfn]
    exact trodAll_move hgood hA hsame fun x hx => by simpa using hlt x (by simpa using hx)
  · simp only [List.append_nil, hfn, hv]
    rfl
end

theorem wf_u8 {n : Int} (h : (Lit.int .u8 n).wf = true) : 0 ≤ n ∧ n ≤ 255 := by
  simp [Lit.wf, IntKind.min, IntKind.max, IntKind.signed, IntKind.bits] at h
  omega
theorem wf_u16 {n : Int} (h : (Lit.int .u16 n).wf = true) : 0 ≤ n ∧ n ≤ 65535 := by
  simp [Lit.wf, IntKind.min, IntKind.max, IntKind.signed, IntKind.bits] at h
  omega
theorem wf_u32 {n : Int} (h : (Lit.int .u32 n).wf = true) : 0 ≤ n ∧ n ≤ 4294967295 := by
  simp [Lit.wf, IntKind.min, IntKind.max, IntKind.signed, IntKind.bits] at h
  omega
theorem wf_i64 {n : Int} (h : (Lit.int .i64 n).wf = true) : -9223372036854775808 ≤ n ∧ n ≤ 9223372036854775807 := by
  simp [Lit.wf, IntKind.min, IntKind.max, IntKind.signed, IntKind.bits] at h
  omega

/-- Values of the type t read as something of the registered type c, of which In is so. -/
def HReads (E : Env) (t : TypeId) (c : Nat) (In : E.G.car c → Prop) : Prop :=
  E.P.cellsOf t = E.G.sz c ∧ ∀ (H : Type) (e : TypeId × Value → H) (w : World) (base : Nat) (sp : Nat → Bool) (held : Bool) (fuel : Nat) (cs : List Value) (x : DataW H × List MemPlace),
    DataW.trod e E.P w base sp held fuel t cs = some x → ∃ a : E.G.car c, HdL E.G (IsCells w) w (E.G.enc c a) cs ∧ In a

theorem isCells_of {w : World} {a : Addr} {u : Value} (h : w.cell? a = some u) : IsCells w a.block ∧ a.spot = none := by
  unfold World.cell? at h
  split at h
  · rename_i c e s hb
    refine ⟨⟨_, hb, rfl⟩, ?_⟩
    split at h
    · cases h
    · rename_i hs
      simpa using hs
  · cases h

section
variable {E : Env} {H : Type} {e : TypeId × Value → H} {w : World} {base : Nat} {sp : Nat → Bool} {held : Bool}

theorem hdL_one {x : Value} {cv : CV E.G.car} (h : Hd E.G (IsCells w) w cv x) : HdL E.G (IsCells w) w [cv] [x] := ⟨_, _, rfl, h, rfl⟩

theorem hdL_append : ∀ {a b : List (CV E.G.car)} {u v : List Value}, HdL E.G (IsCells w) w a u → HdL E.G (IsCells w) w b v → HdL E.G (IsCells w) w (a ++ b) (u ++ v)
  | [], _, _, _, h, h' => by cases h; exact h'
  | _ :: _, _, _, _, ⟨x, us, rfl, h1, h2⟩, h' => ⟨x, us ++ _, rfl, h1, hdL_append h2 h'⟩

theorem hreads_int {t : TypeId} {c : Nat} {k : IntKind} {In : E.G.car c → Prop} (f : Int → E.G.car c) (hf : ∀ n, E.G.enc c (f n) = [.v (.int k n)]) (hu : E.P.underlying t = some (.int k)) (hc : E.P.cellsOf t = E.G.sz c)
    (hIn : ∀ n, (Lit.int k n).wf = true → In (f n)) : HReads E t c In :=
  ⟨hc, fun _ _ _ _ _ _ _ _ _ h => by
    obtain ⟨n, h1, _, h2⟩ := DataW.trod_int hu h
    subst h1
    exact ⟨f n, by rw [hf]; exact hdL_one (.v _), hIn n h2⟩⟩

theorem hreads_bool {t : TypeId} {c : Nat} {In : E.G.car c → Prop} (f : Bool → E.G.car c) (hf : ∀ n, E.G.enc c (f n) = [.v (.bool n)]) (hu : E.P.underlying t = some .bool) (hc : E.P.cellsOf t = E.G.sz c) (hIn : ∀ b, In (f b)) : HReads E t c In :=
  ⟨hc, fun _ _ _ _ _ _ _ _ _ h => by
    obtain ⟨n, h1, _⟩ := DataW.trod_bool hu h
    subst h1
    exact ⟨f n, by rw [hf]; exact hdL_one (.v _), hIn n⟩⟩

theorem fields_of {t : TypeId} {fs : Array Field} {fuel : Nat} {cs : List Value} {x : DataW H × List MemPlace} (hu : E.P.underlying t = some (.struct fs)) (h : DataW.trod e E.P w base sp held fuel t cs = some x) :
    cs.length = E.P.cellsOf t ∧ ∀ (j : Nat) (fd : Field), fs[j]? = some fd → ∃ fuel y, DataW.trod e E.P w base sp held fuel fd.type ((cs.drop fd.offset).take (E.P.cellsOf fd.type)) = some y := by
  obtain ⟨xs, n, rfl, rfl, hl, hlen, hf⟩ := DataW.trod_struct hu h
  refine ⟨hl, fun j fd hj => ?_⟩
  have hlt : j < xs.length := by have := (Array.getElem?_eq_some_iff.1 hj).1; omega
  exact ⟨n, xs[j], by rw [hf j fd hj, List.getElem?_eq_getElem hlt]⟩

theorem HReads.at {t : TypeId} {c off : Nat} {In : E.G.car c → Prop} {cs : List Value} (hR : HReads E t c In)
    (hx : ∃ fuel y, DataW.trod e E.P w base sp held fuel t ((cs.drop off).take (E.P.cellsOf t)) = some y) : ∃ a, HdL E.G (IsCells w) w (E.G.enc c a) ((cs.drop off).take (E.G.sz c)) ∧ In a := by
  obtain ⟨fuel, y, h⟩ := hx
  rw [hR.1] at h
  exact hR.2 _ _ _ _ _ _ _ _ _ h

theorem hcut_cons {a r : List (CV E.G.car)} {cs : List Value} {o n : Nat} (h : HdL E.G (IsCells w) w a ((cs.drop o).take n)) (hr : HdL E.G (IsCells w) w r (cs.drop (o + n))) : HdL E.G (IsCells w) w (a ++ r) (cs.drop o) := by
  have := hdL_append h hr
  rwa [← List.drop_drop, List.take_append_drop] at this

theorem hcut_nil {cs : List Value} {o : Nat} (h : cs.length ≤ o) : HdL E.G (IsCells w) w [] (cs.drop o) := List.drop_eq_nil_of_le h

/-- A slice's elements. -/
theorem hslice_of {t el : TypeId} {c fuel : Nat} {In : E.G.car c → Prop} {cs : List Value} {x : DataW H × List MemPlace} (hu : E.P.underlying t = some (.slice el)) (hR : HReads E el c In) (hn : 0 < E.G.sz c)
    (h : DataW.trod e E.P w base sp held fuel t cs = some x) :
    ∃ (p : Option Addr) (n cap : Nat) (l : List (E.G.car c)), cs = [.slice p n cap] ∧ Hd E.G (IsCells w) w (.sl c l) (.slice p n cap) ∧ (∀ x ∈ l, In x) ∧ l.length ≤ 9223372036854775807 := by
  rcases DataW.trod_slice hu h with ⟨rfl, _⟩ | ⟨a, len, cap, elems, rest, m, _, rfl, _, hb, hl, hm, hel, hi, _, _⟩
  · exact ⟨none, 0, 0, [], rfl, Hd.mk (b := 0) (o := 0) rfl (Nat.le_refl _) (fun h => absurd rfl h) (fun i x hx => by simp at hx), by simp, by simp⟩
  have build : ∀ k, k ≤ len → ∃ l : List (E.G.car c), l.length = k ∧ ∀ i x, l[i]? = some x → In x ∧ ∃ us, w.cells? base (a.add (i * E.G.sz c)) (E.G.sz c) = some us ∧ HdL E.G (IsCells w) w (E.G.enc c x) us := by
    intro k
    induction k with
    | zero => intro _; exact ⟨[], rfl, fun i x hx => by simp at hx⟩
    | succ k ih =>
      intro hk
      obtain ⟨l, h1, h2⟩ := ih (by omega)
      have h3 := hi k (by omega)
      rw [List.getElem?_eq_getElem (by omega), hR.1, Option.bind_eq_some_iff] at h3
      obtain ⟨cs', h4, h5⟩ := h3
      obtain ⟨y, hy1, hy⟩ := hR.2 _ _ _ _ _ _ _ _ _ h5
      refine ⟨l ++ [y], by simp [h1], fun i x hx => ?_⟩
      rcases Nat.lt_or_ge i k with h6 | h6
      · rw [List.getElem?_append_left (by omega)] at hx; exact h2 i x hx
      · rw [List.getElem?_append_right (by omega)] at hx
        have : i - l.length = 0 := by
          have := (List.getElem?_eq_some_iff.1 hx).1
          simpa using this
        rw [this] at hx
        simp only [List.getElem?_cons_zero, Option.some.injEq] at hx
        subst hx
        obtain rfl : i = k := by omega
        exact ⟨hy, _, h4, hy1⟩
  obtain ⟨l, h1, h2⟩ := build len (Nat.le_refl _)
  have hcell : ∀ (i : Nat) x, l[i]? = some x → ∀ (j : Nat) (cv : CV E.G.car), (E.G.enc c x)[j]? = some cv → ∃ u, w.cell? ((a.add (i * E.G.sz c)).add j) = some u ∧ Hd E.G (IsCells w) w cv u := by
    intro i x hx j cv hcv
    obtain ⟨_, us, h3, h4⟩ := h2 i x hx
    obtain ⟨u, h5, h6⟩ := h4.get j cv hcv
    obtain ⟨_, h7, h8⟩ := World.cells?_some h3
    refine ⟨u, ?_, h6⟩
    rw [h8 j (by rw [← h7]; exact (List.getElem?_eq_some_iff.1 h5).1), h5]
  refine ⟨some a, len, cap, l, rfl, ?_, fun x hx => ?_, by unfold maxLen at hm; omega⟩
  · rcases Nat.eq_zero_or_pos len with h0 | h0
    · have : l = [] := List.length_eq_zero_iff.1 (by omega)
      subst this
      exact Hd.mk (b := 0) (o := 0) h1.symm hl (fun h => absurd rfl h) (fun i x hx => by simp at hx)
    · have hpos : 0 < l.length := by omega
      have hz : 0 < (E.G.enc c l[0]).length := by rw [E.G.hsz]; exact hn
      obtain ⟨u, h3, _⟩ := hcell 0 l[0] (List.getElem?_eq_getElem hpos) 0 _ (List.getElem?_eq_getElem hz)
      rw [Nat.zero_mul, show (a.add 0).add 0 = a by simp [Addr.add]] at h3
      obtain ⟨h4, h5⟩ := isCells_of h3
      obtain ⟨b, o, s⟩ := a
      simp only at h4 h5
      subst h5
      refine Hd.mk (b := b) (o := o) h1.symm hl (fun _ => ⟨rfl, h4⟩) (fun i x hx j cv hcv => ?_)
      have := hcell i x hx j cv hcv
      rwa [addr_add, addr_add] at this
  · obtain ⟨i, hi⟩ := List.getElem?_of_mem hx
    exact (h2 i x hi).1

theorem hreads_slice {t el : TypeId} {c d : Nat} {In : E.G.car c → Prop} {In' : E.G.car d → Prop} (f : List (E.G.car c) → E.G.car d) (hf : ∀ l, E.G.enc d (f l) = [.sl c l]) (hu : E.P.underlying t = some (.slice el)) (hR : HReads E el c In)
    (hn : 0 < E.G.sz c) (hc : E.P.cellsOf t = E.G.sz d) (hIn : ∀ l, (∀ x ∈ l, In x) → l.length ≤ 9223372036854775807 → In' (f l)) : HReads E t d In' :=
  ⟨hc, fun _ _ _ _ _ _ _ _ _ h => by
    obtain ⟨p, n, cap, l, rfl, h1, h2, h3⟩ := hslice_of hu hR hn h
    exact ⟨f l, by rw [hf]; exact hdL_one h1, hIn l h2 h3⟩⟩

/-! ### Arguments -/

theorem harg_int {r : Reach} {b0 : Nat} {t : TypeId} {c : Nat} {k : IntKind} {In : E.G.car c → Prop} {v : Value} {d : DataW H} {ps : List MemPlace} (hR : HReads E t c In) (hu : E.P.underlying t = some (.int k))
    (hval : Value.okWide E.P w r b0 t v) (h : DataW.Trod e E.P w base sp held t v d ps) : ∃ a : E.G.car c, ArgIs E (IsCells w) w (.v c false) a v ∧ In a := by
  obtain ⟨n, rfl⟩ := okWide_int hu hval
  obtain ⟨fuel, hf⟩ := h
  obtain ⟨a, h1, h2⟩ := hR.2 _ _ _ _ _ _ _ _ _ hf
  exact ⟨a, ⟨_, h1, rfl⟩, h2⟩

theorem harg_bool {r : Reach} {b0 : Nat} {t : TypeId} {c : Nat} {In : E.G.car c → Prop} {v : Value} {d : DataW H} {ps : List MemPlace} (hR : HReads E t c In) (hu : E.P.underlying t = some .bool)
    (hval : Value.okWide E.P w r b0 t v) (h : DataW.Trod e E.P w base sp held t v d ps) : ∃ a : E.G.car c, ArgIs E (IsCells w) w (.v c false) a v ∧ In a := by
  obtain ⟨n, rfl⟩ := okWide_bool hu hval
  obtain ⟨fuel, hf⟩ := h
  obtain ⟨a, h1, h2⟩ := hR.2 _ _ _ _ _ _ _ _ _ hf
  exact ⟨a, ⟨_, h1, rfl⟩, h2⟩

theorem harg_agg {r : Reach} {b0 : Nat} {t : TypeId} {c : Nat} {fs : Array Field} {In : E.G.car c → Prop} {v : Value} {d : DataW H} {ps : List MemPlace} (hR : HReads E t c In) (hu : E.P.underlying t = some (.struct fs))
    (hval : Value.okWide E.P w r b0 t v) (h : DataW.Trod e E.P w base sp held t v d ps) : ∃ a : E.G.car c, ArgIs E (IsCells w) w (.v c true) a v ∧ In a := by
  obtain ⟨cs, rfl, _⟩ := okWide_struct hu hval
  obtain ⟨fuel, hf⟩ := h
  obtain ⟨a, h1, h2⟩ := hR.2 _ _ _ _ _ _ _ _ _ hf
  exact ⟨a, ⟨_, h1, rfl⟩, h2⟩

theorem harg_sl {r : Reach} {b0 : Nat} {t el : TypeId} {c : Nat} {In : E.G.car c → Prop} {v : Value} {d : DataW H} {ps : List MemPlace} (hu : E.P.underlying t = some (.slice el)) (hR : HReads E el c In) (hn : 0 < E.G.sz c)
    (hval : Value.okWide E.P w r b0 t v) (h : DataW.Trod e E.P w base sp held t v d ps) : ∃ a : List (E.G.car c), ArgIs E (IsCells w) w (.sl c) a v ∧ (∀ x ∈ a, In x) ∧ a.length ≤ 9223372036854775807 := by
  obtain ⟨p, n, cap, rfl⟩ := okWide_slice hu hval
  obtain ⟨fuel, hf⟩ := h
  obtain ⟨p', n', cap', l, h1, h2, h3, h4⟩ := hslice_of hu hR hn hf
  have h1 : [Value.slice p n cap] = [.slice p' n' cap'] := h1
  simp only [List.cons.injEq, and_true, Value.slice.injEq] at h1
  obtain ⟨rfl, rfl, rfl⟩ := h1
  exact ⟨l, h2, h3, h4⟩

/-- A law whose mirror answers true returns true, and leaves what was there. -/
theorem law_calls {k : Nat} {ps : List PK} {t : Nat} {es : List Nat} {f : AT E.G.car ps → Option (E.G.car t)} (hc : CSok E [] ⟨k, ps, [.v t false es], f⟩) (hglo : E.glo = []) (b : E.G.car t) (hb : E.G.enc t b = [.v (.bool true)])
    {vs : List Value} {xs : AT E.G.car ps} (ha : ArgsAre E (IsCells w) w ps xs vs) (hm : f xs = some b) :
    Calls E.P k vs.toArray w fun e w' => e = .returned (.bool true) ∧ Below w.heap.size w w' := by
  have h := hc.ok (IsCells w) w vs xs ⟨fun _ => ⟨0, none, 0, 0⟩, by rw [hglo]; exact And.intro (fun p hp => nomatch hp) (fun q hq => nomatch hq)⟩ (fun _ h => h) ha b hm
  refine h.mono fun e' w' ⟨us, ms, A', h1, h2, _, _, _, h3, _⟩ => ⟨?_, h2⟩
  obtain ⟨v, rfl, us', h4, h5⟩ := h3
  simp only [Bool.false_eq_true, if_false] at h5
  subst h5
  have h4 : ResCells E.G A' w.heap.size w' (E.G.enc t b) es [v] ms := h4
  rw [hb] at h4
  obtain ⟨us2, h6, _⟩ := h4
  cases h6
  exact h1
end
end Go.KX
