/- Texts PSA, PSB, PSC, PSD, Aw, PSE, PSF, PSG, PSGx, KFR: own work; each part says what it is. -/
import Derived.Test.YthojfpmmocenkaaHo2
import Derived.Handed
import Derived.OpenShut
import Derived.ChangeSlices
import Derived.JoinedOf
namespace Go.Proofs.Sp
open Go Go.KX

theorem within_eq (F : Nat) (a b c : Int) : spill_within F a b c = some (decide (a ≥ b) && decide (a ≤ c)) := rfl

/-- A span that is allowed. -/
abbrev SpanOK (m : Int) (s : Span) : Prop := 0 ≤ s.Lo ∧ s.Lo ≤ s.Hi ∧ s.Hi ≤ m

theorem span_eq (F : Nat) (s : Span) (m : Int) : spill_span F s m = some (decide (SpanOK m s)) := by
  unfold spill_span
  rw [within_eq, bnd_so]
  cases h : (decide (s.Lo ≥ 0) && decide (s.Lo ≤ m)) with
  | true =>
    simp only [Bool.and_eq_true, decide_eq_true_eq] at h
    rw [brk_true, within_eq, bnd_so, Bool.true_and]
    congr 1
    rw [← Bool.decide_and]
    exact decide_eq_decide.2 ⟨fun h' => ⟨h.1, h'.1, h'.2⟩, fun h' => ⟨h'.2.1, h'.2.2⟩⟩
  | false =>
    simp only [Bool.and_eq_false_iff, decide_eq_false_iff_not] at h
    rw [brk_false, bnd_so, Bool.false_and]
    congr 1
    symm
    rw [decide_eq_false_iff_not]
    rintro ⟨h1, h2, h3⟩
    omega

/-- The error of a field. -/
def checkV (f : Field) : Int :=
  if ¬ (1 ≤ f.W ∧ f.W ≤ 8 ∧ 1 ≤ f.H ∧ f.H ≤ 8) then 6
  else if (f.Cells.length : Int) ≠ f.W * f.H then 1
  else if ∀ s ∈ f.Cells, SpanOK 1000000 s then 0 else 120

theorem mul_bound {w h : Int} (h1 : 1 ≤ w) (h2 : w ≤ 8) (h3 : 1 ≤ h) (h4 : h ≤ 8) : 1 ≤ w * h ∧ w * h ≤ 64 := by
  have : w = 1 ∨ w = 2 ∨ w = 3 ∨ w = 4 ∨ w = 5 ∨ w = 6 ∨ w = 7 ∨ w = 8 := by omega
  rcases this with rfl | rfl | rfl | rfl | rfl | rfl | rfl | rfl <;> omega

/-- The loop of ContainsFunc: the first index of which p is so; here p is that a span is not allowed. -/
theorem find_ok {F : Nat} {m : Int} {l : List Span} {g : Nat → Span → Option Bool} (hg : ∀ s, g F s = some (!decide (SpanOK m s))) {α : Type} {post : α → Prop} (k : Int → Option α) (hF : l.length < F) (hl : l.length ≤ 1000000)
    (hk : ∀ i : Int, (0 ≤ i ↔ ¬ ∀ s ∈ l, SpanOK m s) → Ok post (k i)) :
    Ok post (loopC (fun (x_3 : Int) => fun x_4 => brk (decide (x_3 < (↑l.length : Int))) (chk ((0 : Int) ≤ x_3 ∧ x_3 < (↑l.length : Int)) (bnd (g F (Span.mk (l.getD (Int.toNat x_3) (Span.mk (0 : Int) (0 : Int))).Lo (l.getD (Int.toNat x_3) (Span.mk (0 : Int) (0 : Int))).Hi)) (fun (x_5 : Bool) => brk (x_5) (k (x_3)) (chk (InR (x_3 + (1 : Int))) (x_4 (x_3 + (1 : Int))))))) (k ((-1 : Int)))) (F) ((0 : Int))) := by
  refine ok_loop (fun i : Int => 0 ≤ i ∧ i ≤ l.length ∧ ∀ j : Nat, (j : Int) < i → SpanOK m (l.getD j ⟨0, 0⟩)) (fun i : Int => l.length - i.toNat) ⟨by omega, by omega, fun j hj => by omega⟩ (by simp; omega) fun i next ⟨h1, h2, h3⟩ hn => ?_
  refine ok_brk (fun hc => ?_) (fun hc => ?_)
  · have hc : i < l.length := by simpa using hc
    have hi : i.toNat < l.length := by omega
    refine ok_chk ⟨h1, hc⟩ ?_
    rw [hg, bnd_so]
    refine ok_brk (fun hb => ?_) (fun hb => ?_)
    · simp only [Bool.not_eq_true', decide_eq_false_iff_not] at hb
      exact hk i ⟨fun _ h => hb (h _ (getD_mem hi)), fun _ => h1⟩
    · simp only [Bool.not_eq_false', decide_eq_true_eq] at hb
      refine ok_chk (by constructor <;> omega) (hn _ ⟨by omega, by omega, fun j hj => ?_⟩ (by omega))
      by_cases e : (j : Int) < i
      · exact h3 j e
      · obtain rfl : j = i.toNat := by omega
        exact hb
  · have hc : ¬ i < l.length := by simpa using hc
    refine hk (-1) ⟨fun h => by omega, fun h => absurd (fun s hs => ?_) h⟩
    obtain ⟨j, hj, rfl⟩ := List.getElem_of_mem hs
    have := h3 j (by omega)
    rwa [getD_get hj] at this

theorem Check_eq {F : Nat} {f : Field} (hF : f.Cells.length < F) : spill_Check F f = some (checkV f) := by
  refine Ok.eq ?_
  unfold spill_Check
  rw [within_eq, bnd_so]
  have key : Ok (fun x => x = checkV f) (brk (!decide (1 ≤ f.W ∧ f.W ≤ 8) || !decide (1 ≤ f.H ∧ f.H ≤ 8)) (some ((6 : Int))) (chk (InR (f.W * f.H)) (brk ((↑f.Cells.length : Int) != f.W * f.H) (some ((1 : Int))) (join (fun (x_2 : Int) => brk (decide (x_2 ≥ (0 : Int))) (some ((120 : Int))) (some ((0 : Int)))) (fun x_2 => loopC (fun (x_3 : Int) => fun x_4 => brk (decide (x_3 < (↑f.Cells.length : Int))) (chk ((0 : Int) ≤ x_3 ∧ x_3 < (↑f.Cells.length : Int)) (bnd (spill_Check_1 F (Span.mk (f.Cells.getD (Int.toNat x_3) (Span.mk (0 : Int) (0 : Int))).Lo (f.Cells.getD (Int.toNat x_3) (Span.mk (0 : Int) (0 : Int))).Hi)) (fun (x_5 : Bool) => brk (x_5) (x_2 (x_3)) (chk (InR (x_3 + (1 : Int))) (x_4 (x_3 + (1 : Int))))))) (x_2 ((-1 : Int)))) (F) ((0 : Int))))))) := by
    refine ok_brk (fun h => ok_some ?_) (fun h => ?_)
    · rw [checkV, if_pos]
      simp only [Bool.or_eq_true, Bool.not_eq_true', decide_eq_false_iff_not] at h
      omega
    · simp only [Bool.or_eq_false_iff, Bool.not_eq_false', decide_eq_true_eq] at h
      obtain ⟨hb1, hb2⟩ := mul_bound h.1.1 h.1.2 h.2.1 h.2.2
      have e1 : ¬ ¬ (1 ≤ f.W ∧ f.W ≤ 8 ∧ 1 ≤ f.H ∧ f.H ≤ 8) := by omega
      refine ok_chk (by constructor <;> omega) (ok_brk (fun h2 => ok_some ?_) (fun h2 => ?_))
      · rw [checkV, if_neg e1, if_pos (by simpa using h2)]
      · have h2 : (f.Cells.length : Int) = f.W * f.H := by simpa using h2
        refine ok_join (fun i : Int => 0 ≤ i ↔ ¬ ∀ s ∈ f.Cells, SpanOK 1000000 s) (fun i hi => ?_) fun k hk => find_ok (g := spill_Check_1) (fun s => by unfold spill_Check_1; rw [span_eq, bnd_so]) k hF (by omega) hk
        refine ok_brk (fun h3 => ok_some ?_) (fun h3 => ok_some ?_)
        · rw [checkV, if_neg e1, if_neg (fun h => h h2), if_neg (hi.1 (by simpa using h3))]
        · rw [checkV, if_neg e1, if_neg (fun h => h h2), if_pos]
          exact Classical.not_not.1 fun h => absurd (hi.2 h) (by simpa using h3)
  have e : ∀ a b c : Int, (decide (a ≥ b) && decide (a ≤ c)) = decide (b ≤ a ∧ a ≤ c) := fun a b c => by rw [← Bool.decide_and]
  rw [e]
  by_cases h : 1 ≤ f.W ∧ f.W ≤ 8
  · rw [decide_eq_true h] at key ⊢
    simp only [Bool.not_true, Bool.not_false, brk_true, within_eq, bnd_so, e]
    exact key
  · rw [decide_eq_false h] at key ⊢
    simp only [Bool.not_false, Bool.not_true, brk_false, bnd_so] at key ⊢
    simpa only [Bool.true_or, brk_true] using key

/-- A field that is right. -/
structure FieldOK (f : Field) : Prop where
  w : 1 ≤ f.W ∧ f.W ≤ 8
  h : 1 ≤ f.H ∧ f.H ≤ 8
  len : (f.Cells.length : Int) = f.W * f.H
  cells : ∀ s ∈ f.Cells, SpanOK 1000000 s

theorem FieldOK.check {f : Field} (h : FieldOK f) : checkV f = 0 := by
  rw [checkV, if_neg (by have := h.w; have := h.h; omega), if_neg (fun e => e h.len), if_pos h.cells]
theorem FieldOK.small {f : Field} (h : FieldOK f) : 1 ≤ f.Cells.length ∧ f.Cells.length ≤ 64 := by
  have h1 := mul_bound h.w.1 h.w.2 h.h.1 h.h.2
  have := h.len
  omega
theorem checkV_ok {f : Field} (h : checkV f = 0) : FieldOK f := by
  unfold checkV at h
  split at h
  · cases h
  · rename_i h1
    split at h
    · cases h
    · rename_i h2
      split at h
      · rename_i h3; exact ⟨by omega, by omega, by omega, h3⟩
      · cases h
end Go.Proofs.Sp

namespace Go.Proofs.Sp
open Go Go.KX

abbrev d0 : A2ofInt := A2ofInt.mk (0 : Int) (0 : Int)
abbrev dirs : List A2ofInt := [A2ofInt.mk (0 : Int) (-1 : Int), A2ofInt.mk (1 : Int) (0 : Int), A2ofInt.mk (0 : Int) (1 : Int), A2ofInt.mk (-1 : Int) (0 : Int)]

def okD (W H c : Int) (d : A2ofInt) : Bool := (decide (c % W + d.a0 ≥ 0) && decide (c % W + d.a0 ≤ W - 1)) && (decide (c / W + d.a1 ≥ 0) && decide (c / W + d.a1 ≤ H - 1))
def toD (W c : Int) (d : A2ofInt) : Int := (c / W + d.a1) * W + (c % W + d.a0)
def nbl (W H c : Int) (l : List A2ofInt) : List Int := (l.filter (okD W H c)).map (toD W c)
/-- The neighbours of a cell. -/
def nb (W H c : Int) : List Int := nbl W H c dirs

def addAt (l : List Int) (k : Int) (v : Int) : List Int := l.set k.toNat (l.getD k.toNat 0 + v)
def adds : List Int → List (Int × Int) → List Int
  | l, [] => l
  | l, p :: cs => adds (addAt l p.1 p.2) cs
theorem adds_append : ∀ (cs ds : List (Int × Int)) (l : List Int), adds l (cs ++ ds) = adds (adds l cs) ds
  | [], _, _ => rfl
  | _ :: cs, ds, l => adds_append cs ds _

def give (f m : Int) : Int → List Int → List (Int × Int)
  | _, [] => []
  | i, k :: ks => (k, (f + i) / m) :: give f m (i + 1) ks
theorem give_append (f m : Int) : ∀ (ks : List Int) (i k : Int), give f m i (ks ++ [k]) = give f m i ks ++ [(k, (f + (i + ks.length)) / m)]
  | [], i, k => by simp [give]
  | q :: ks, i, k => by
    simp only [List.cons_append, give, give_append f m ks, List.length_cons]
    rw [show i + 1 + (ks.length : Int) = i + ((ks.length + 1 : Nat) : Int) by omega]

def offV (a c : Int) : Int := (if a - c > 0 then a - c else 0) / 2
def contr (W H c n s g : Int) : List (Int × Int) := if (nb W H c).length = 0 then [(c, n)] else (c, n - offV n s) :: give (offV n g) (nb W H c).length 0 (nb W H c)
def contrs (W H : Int) (am st gi : List Int) : Nat → List (Int × Int)
  | 0 => []
  | k + 1 => contrs W H am st gi k ++ contr W H k (am.getD k 0) (st.getD k 0) (gi.getD k 0)
/-- The amounts after an hour. -/
def hourV (W H : Int) (am st gi : List Int) : List Int := adds (List.replicate am.length 0) (contrs W H am st gi am.length)

theorem off_eq {F : Nat} {a c : Int} (ha : 0 ≤ a ∧ a ≤ 1000000) (hc : 0 ≤ c ∧ c ≤ 1000000) : spill_off F a c = some (offV a c) := by
  unfold spill_off
  rw [chk_pos (by constructor <;> (first | omega | (dsimp only; omega))), chk_pos (by split <;> constructor <;> omega)]
  rfl
theorem offV_bound {a c : Int} (ha : 0 ≤ a ∧ a ≤ 1000000) (hc : 0 ≤ c) : 0 ≤ offV a c ∧ offV a c ≤ a ∧ offV a c ≤ 1000000 := by
  unfold offV
  split <;> refine ⟨by omega, by omega, by omega⟩

structure Good (L : Nat) (B : Int) (out : List Int) : Prop where
  len : out.length = L
  nn : ∀ x ∈ out, 0 ≤ x
  sum : sumL out ≤ B

theorem Good.get {L : Nat} {B : Int} {out : List Int} (h : Good L B out) (i : Nat) : 0 ≤ out.getD i 0 ∧ out.getD i 0 ≤ B :=
  ⟨getD_nonneg h.nn i, Int.le_trans (getD_le_sum h.nn i) h.sum⟩
theorem Good.mono {L : Nat} {B B' : Int} {out : List Int} (h : Good L B out) (hB : B ≤ B') : Good L B' out := ⟨h.len, h.nn, Int.le_trans h.sum hB⟩
theorem Good.addAt {L : Nat} {B V : Int} {out : List Int} {k v : Int} (h : Good L B out) (h1 : 0 ≤ k) (h2 : k < L) (h3 : 0 ≤ v) (h4 : v ≤ V) : Good L (B + V) (Sp.addAt out k v) := by
  have hk : k.toNat < out.length := by rw [h.len]; omega
  refine ⟨by rw [Sp.addAt, List.length_set, h.len], fun x hx => ?_, ?_⟩
  · have := (h.get k.toNat).1
    rcases List.mem_or_eq_of_mem_set hx with hx | rfl
    · exact h.nn x hx
    · omega
  · have := h.sum
    rw [Sp.addAt, sumL_set _ _ _ hk]; omega

theorem dirs_small : ∀ d ∈ dirs, -1 ≤ d.a0 ∧ d.a0 ≤ 1 ∧ -1 ≤ d.a1 ∧ d.a1 ≤ 1 := by decide

theorem pos_bound {W H c : Int} (hW : 1 ≤ W ∧ W ≤ 8) (hH : 1 ≤ H ∧ H ≤ 8) (hc : 0 ≤ c ∧ c < W * H) : 0 ≤ c % W ∧ c % W ≤ W - 1 ∧ 0 ≤ c / W ∧ c / W ≤ H - 1 := by
  have h1 := Int.emod_nonneg c (by omega : W ≠ 0)
  have h2 := Int.emod_lt_of_pos c (by omega : 0 < W)
  have h3 := Int.ediv_nonneg hc.1 (by omega : 0 ≤ W)
  have h4 := Int.ediv_lt_of_lt_mul (by omega : 0 < W) (show c < H * W by rw [Int.mul_comm]; exact hc.2)
  omega

theorem toD_bound {W H c : Int} {d : A2ofInt} (hW : 1 ≤ W ∧ W ≤ 8) (hH : 1 ≤ H ∧ H ≤ 8) (h : okD W H c d = true) : 0 ≤ (c / W + d.a1) * W ∧ (c / W + d.a1) * W ≤ 64 ∧ 0 ≤ toD W c d ∧ toD W c d < W * H := by
  simp only [okD, Bool.and_eq_true, decide_eq_true_eq] at h
  obtain ⟨⟨h1, h2⟩, h3, h4⟩ := h
  have h5 : 0 ≤ (c / W + d.a1) * W := Int.mul_nonneg h3 (by omega)
  have h6 : (c / W + d.a1) * W ≤ (H - 1) * W := Int.mul_le_mul_of_nonneg_right h4 (by omega)
  have h7 : (H - 1) * W = W * H - W := by rw [Int.sub_mul, Int.one_mul, Int.mul_comm]
  have h8 := mul_bound hW.1 hW.2 hH.1 hH.2
  refine ⟨h5, by omega, ?_, ?_⟩ <;> unfold toD <;> omega

theorem nbl_snoc (W H c : Int) (l : List A2ofInt) (d : A2ofInt) : nbl W H c (l ++ [d]) = bif okD W H c d then nbl W H c l ++ [toD W c d] else nbl W H c l := by
  unfold nbl
  rw [List.filter_append, List.map_append]
  cases h : okD W H c d <;> simp [h]

theorem nbl_mem {W H c : Int} (hW : 1 ≤ W ∧ W ≤ 8) (hH : 1 ≤ H ∧ H ≤ 8) {l : List A2ofInt} : ∀ k ∈ nbl W H c l, 0 ≤ k ∧ k < W * H := by
  intro k hk
  unfold nbl at hk
  simp only [List.mem_map, List.mem_filter] at hk
  obtain ⟨d, ⟨_, hd⟩, rfl⟩ := hk
  have := toD_bound hW hH hd
  exact ⟨this.2.2.1, this.2.2.2⟩

theorem brk_and {F : Nat} {b : Bool} {x m : Int} : brk b (spill_within F x 0 m) (some false) = some (b && (decide (x ≥ 0) && decide (x ≤ m))) := by
  cases b <;> rfl

theorem nbl_le4 (W H c : Int) (j : Nat) : (nbl W H c (dirs.take j)).length ≤ 4 := by
  unfold nbl
  rw [List.length_map]
  refine Nat.le_trans (List.length_filter_le _ _) ?_
  rw [List.length_take]; exact Nat.min_le_right _ _

theorem hour_eq {F : Nat} {f : Field} {am st gi : List Int} (hF : 100 < F) (hW : 1 ≤ f.W ∧ f.W ≤ 8) (hH : 1 ≤ f.H ∧ f.H ≤ 8) (hl : (am.length : Int) = f.W * f.H) (hs : st.length = am.length) (hg : gi.length = am.length)
    (ha : ∀ a ∈ am, 0 ≤ a ∧ a ≤ 1000000) (hst : ∀ a ∈ st, 0 ≤ a ∧ a ≤ 10000) (hgi : ∀ a ∈ gi, 0 ≤ a ∧ a ≤ 10000) :
    spill_grid_hour F f am st gi = some (hourV f.W f.H am st gi) ∧ Good am.length 1000000000 (hourV f.W f.H am st gi) := by
  have hL := mul_bound hW.1 hW.2 hH.1 hH.2
  suffices h : Ok (fun r => r = hourV f.W f.H am st gi ∧ Good am.length 1000000000 r) (spill_grid_hour F f am st gi) by
    obtain ⟨r, h1, rfl, h2⟩ := h
    exact ⟨h1, h2⟩
  unfold spill_grid_hour
  refine ok_chk (by omega) ?_
  refine ok_loop (fun x : Int × List Int => 0 ≤ x.1 ∧ x.1 ≤ am.length ∧ x.2 = adds (List.replicate am.length 0) (contrs f.W f.H am st gi x.1.toNat) ∧ Good am.length (x.1 * 10000000) x.2) (fun x : Int × List Int => am.length - x.1.toNat) ?_ (by simp; omega) ?_
  · refine ⟨Int.le_refl _, by simp, rfl, by simp, fun x hx => ?_, ?_⟩
    · have := List.eq_of_mem_replicate hx; omega
    · rw [sumL_replicate0]; exact Int.le_refl _
  rintro ⟨c, out⟩ next ⟨h1, h2, h3, h4⟩ hn
  simp only at h1 h2 h3 h4
  refine ok_brk (fun hc => ?_) (fun hc => ok_some ?_)
  rotate_left
  · have hc : ¬ c < am.length := by simpa using hc
    obtain rfl : c = am.length := by omega
    exact ⟨h3, h4.mono (by omega)⟩
  have hc : c < am.length := by simpa using hc
  have hcn : c.toNat < am.length := by omega
  obtain ⟨p1, p2, p3, p4⟩ := pos_bound hW hH ⟨h1, by omega⟩
  have hn1 := ha _ (getD_mem (d := 0) hcn)
  have hs1 := hst _ (getD_mem (i := c.toNat) (d := 0) (by omega))
  have hg1 := hgi _ (getD_mem (i := c.toNat) (d := 0) (by omega))
  have hcontr : contrs f.W f.H am st gi (c + 1).toNat = contrs f.W f.H am st gi c.toNat ++ contr f.W f.H c (am.getD c.toNat 0) (st.getD c.toNat 0) (gi.getD c.toNat 0) := by
    rw [show (c + 1).toNat = c.toNat + 1 by omega, contrs, show ((c.toNat : Nat) : Int) = c by omega]
  refine ok_join (fun o : List Int => o = adds out (contr f.W f.H c (am.getD c.toNat 0) (st.getD c.toNat 0) (gi.getD c.toNat 0)) ∧ Good am.length ((c + 1) * 10000000) o) (fun o ho => ?_) fun k hk => ?_
  · refine ok_chk (by constructor <;> (first | omega | (dsimp only; omega))) (hn _ ⟨by show 0 ≤ c + 1; omega, by show c + 1 ≤ _; omega, ?_, ho.2⟩ (by show am.length - (c + 1).toNat < am.length - c.toNat; omega))
    show o = _
    rw [hcontr, adds_append, ← h3]; exact ho.1
  refine ok_chk ⟨h1, hc⟩ (ok_chk (by constructor <;> (first | omega | (dsimp only; omega))) (ok_chk (by constructor <;> (first | omega | (dsimp only; omega))) ?_))
  have dsm : ∀ j : Nat, j < 4 → -1 ≤ (dirs.getD j d0).a0 ∧ (dirs.getD j d0).a0 ≤ 1 ∧ -1 ≤ (dirs.getD j d0).a1 ∧ (dirs.getD j d0).a1 ≤ 1 := fun j hj => dirs_small _ (getD_mem (l := dirs) hj)
  refine ok_loop (fun x : Int × Int × Int => 0 ≤ x.2.1 ∧ x.2.1 ≤ 4 ∧ x.1 = (nbl f.W f.H c (dirs.take x.2.1.toNat)).length ∧ x.2.2 = x.1) (fun x : Int × Int × Int => 4 - x.2.1.toNat) ⟨by simp, by simp, rfl, rfl⟩ (by simp; omega) ?_
  rintro ⟨q, j, i⟩ next1 ⟨g1, g2, g3, g4⟩ hn1'
  simp only at g1 g2 g3 g4
  subst g4
  have l4 := nbl_le4 f.W f.H c j.toNat
  refine ok_brk (fun hj => ?_) (fun hj => ?_)
  · have hj : j < 4 := by simpa using hj
    have ht : dirs.take (j + 1).toNat = dirs.take j.toNat ++ [dirs.getD j.toNat d0] := by
      rw [show (j + 1).toNat = j.toNat + 1 by omega]; exact take_succ' (l := dirs) (by show j.toNat < 4; omega)
    obtain ⟨q1, q2, q3, q4⟩ := dsm j.toNat (by omega)
    refine ok_join (fun y : Int × Int => y.1 = (nbl f.W f.H c (dirs.take (j + 1).toNat)).length ∧ y.2 = y.1) (fun y hy => ?_) fun k1 hk1 => ?_
    · exact ok_chk (by constructor <;> (first | omega | (dsimp only; omega))) (hn1' _ ⟨by show 0 ≤ j + 1; omega, by show j + 1 ≤ 4; omega, hy.1, hy.2⟩ (by show 4 - (j + 1).toNat < 4 - j.toNat; omega))
    have i5 : InR (c % f.W + (dirs.getD j.toNat d0).a0) := ⟨by omega, by omega⟩
    have i6 : InR (c / f.W + (dirs.getD j.toNat d0).a1) := ⟨by omega, by omega⟩
    refine ok_chk ⟨g1, hj⟩ (ok_chk i5 (ok_chk i6 (ok_chk (by constructor <;> (first | omega | (dsimp only; omega))) ?_)))
    rw [within_eq, bnd_so]
    refine ok_chk (fun _ => by constructor <;> omega) ?_
    rw [brk_and, bnd_so, Bool.and_self_left]
    rw [ht, nbl_snoc] at hk1
    refine ok_brk (fun hb => ?_) (fun hb => ?_)
    · have hb : okD f.W f.H c (dirs.getD j.toNat d0) = true := hb
      obtain ⟨b1, b2, b3, b4⟩ := toD_bound hW hH hb
      rw [hb, cond_true] at hk1
      unfold toD at b3 b4
      have i1 : InR ((c / f.W + (dirs.getD j.toNat d0).a1) * f.W) := ⟨by omega, by omega⟩
      have i2 : InR ((c / f.W + (dirs.getD j.toNat d0).a1) * f.W + (c % f.W + (dirs.getD j.toNat d0).a0)) := ⟨by omega, by omega⟩
      refine ok_chk i1 (ok_chk i2 (ok_chk (by constructor <;> (first | omega | (dsimp only; omega))) (ok_chk (by constructor <;> (first | omega | (dsimp only; omega))) (hk1 _ ⟨?_, rfl⟩))))
      simp only [List.length_append, List.length_singleton]; omega
    · have hb : okD f.W f.H c (dirs.getD j.toNat d0) = false := hb
      rw [hb, cond_false] at hk1
      exact hk1 _ ⟨g3, rfl⟩
  have hj : ¬ j < 4 := by simpa using hj
  obtain rfl : j = 4 := by omega
  have g3 : i = (nb f.W f.H c).length := g3
  have hcb := h4.get c.toNat
  have hmem : ∀ k ∈ nb f.W f.H c, 0 ≤ k ∧ k < f.W * f.H := nbl_mem hW hH
  refine ok_brk (fun hz => ?_) (fun hz => ?_)
  · have hz : i = 0 := by simpa using hz
    have e : contr f.W f.H c (am.getD c.toNat 0) (st.getD c.toNat 0) (gi.getD c.toNat 0) = [(c, am.getD c.toNat 0)] := by rw [contr, if_pos (by omega)]
    refine ok_chk ⟨h1, by rw [h4.len]; exact hc⟩ (ok_chk (by constructor <;> (first | omega | (dsimp only; omega))) (ok_chk ⟨h1, by rw [h4.len]; exact hc⟩ (hk _ ?_)))
    rw [e]
    exact ⟨rfl, (h4.addAt h1 hc hn1.1 hn1.2).mono (by omega)⟩
  have hz : ¬ i = 0 := by simpa using hz
  have hob := offV_bound hn1 hs1.1
  have hog := offV_bound hn1 hg1.1
  have e : contr f.W f.H c (am.getD c.toNat 0) (st.getD c.toNat 0) (gi.getD c.toNat 0) = (c, am.getD c.toNat 0 - offV (am.getD c.toNat 0) (st.getD c.toNat 0)) :: give (offV (am.getD c.toNat 0) (gi.getD c.toNat 0)) i 0 (nb f.W f.H c) := by
    rw [contr, if_neg (by omega), g3]
  have hbase := h4.addAt (k := c) (v := am.getD c.toNat 0 - offV (am.getD c.toNat 0) (st.getD c.toNat 0)) (V := 1000000) h1 hc (by omega) (by omega)
  refine ok_chk ⟨h1, by rw [h4.len]; exact hc⟩ (ok_chk ⟨h1, by rw [hs]; exact hc⟩ ?_)
  have hs2 : 0 ≤ st.getD c.toNat 0 ∧ st.getD c.toNat 0 ≤ 1000000 := ⟨hs1.1, by omega⟩
  have hg2 : 0 ≤ gi.getD c.toNat 0 ∧ gi.getD c.toNat 0 ≤ 1000000 := ⟨hg1.1, by omega⟩
  refine ok_bnde (off_eq hn1 hs2) ?_
  have i7 : InR (am.getD c.toNat 0 - offV (am.getD c.toNat 0) (st.getD c.toNat 0)) := ⟨by omega, by omega⟩
  have i8 : InR (out.getD c.toNat 0 + (am.getD c.toNat 0 - offV (am.getD c.toNat 0) (st.getD c.toNat 0))) := ⟨by omega, by omega⟩
  refine ok_chk i7 (ok_chk i8 (ok_chk ⟨h1, by rw [h4.len]; exact hc⟩ (ok_chk ⟨h1, by rw [hg]; exact hc⟩ ?_)))
  refine ok_bnde (off_eq hn1 hg2) ?_
  refine ok_chk (by constructor <;> (first | omega | (dsimp only; omega))) (ok_chk (by constructor <;> (first | omega | (dsimp only; omega))) ?_)
  refine ok_loop (fun x : Int × Int × List Int => 0 ≤ x.2.1 ∧ x.2.1 ≤ 4 ∧ x.1 = (nbl f.W f.H c (dirs.take x.2.1.toNat)).length ∧
    x.2.2 = adds (addAt out c (am.getD c.toNat 0 - offV (am.getD c.toNat 0) (st.getD c.toNat 0))) (give (offV (am.getD c.toNat 0) (gi.getD c.toNat 0)) i 0 (nbl f.W f.H c (dirs.take x.2.1.toNat))) ∧
    Good am.length (c * 10000000 + 1000000 + x.2.1 * 2000000) x.2.2) (fun x : Int × Int × List Int => 4 - x.2.1.toNat) ⟨by simp, by simp, rfl, rfl, hbase.mono (by simp)⟩ (by simp; omega) ?_
  rintro ⟨p, j, o⟩ next2 ⟨k1, k2, k3, k4, k5⟩ hn2
  simp only at k1 k2 k3 k4 k5
  have l4' := nbl_le4 f.W f.H c j.toNat
  refine ok_brk (fun hj => ?_) (fun hj => ?_)
  · have hj : j < 4 := by simpa using hj
    have ht : dirs.take (j + 1).toNat = dirs.take j.toNat ++ [dirs.getD j.toNat d0] := by
      rw [show (j + 1).toNat = j.toNat + 1 by omega]; exact take_succ' (l := dirs) (by show j.toNat < 4; omega)
    obtain ⟨q1, q2, q3, q4⟩ := dsm j.toNat (by omega)
    refine ok_join (fun y : Int × List Int => y.1 = (nbl f.W f.H c (dirs.take (j + 1).toNat)).length ∧
      y.2 = adds (addAt out c (am.getD c.toNat 0 - offV (am.getD c.toNat 0) (st.getD c.toNat 0))) (give (offV (am.getD c.toNat 0) (gi.getD c.toNat 0)) i 0 (nbl f.W f.H c (dirs.take (j + 1).toNat))) ∧
      Good am.length (c * 10000000 + 1000000 + (j + 1) * 2000000) y.2) (fun y hy => ?_) fun k6 hk6 => ?_
    · exact ok_chk (by constructor <;> (first | omega | (dsimp only; omega))) (hn2 _ ⟨by show 0 ≤ j + 1; omega, by show j + 1 ≤ 4; omega, hy.1, hy.2⟩ (by show 4 - (j + 1).toNat < 4 - j.toNat; omega))
    have i5 : InR (c % f.W + (dirs.getD j.toNat d0).a0) := ⟨by omega, by omega⟩
    have i6 : InR (c / f.W + (dirs.getD j.toNat d0).a1) := ⟨by omega, by omega⟩
    refine ok_chk ⟨k1, hj⟩ (ok_chk i5 (ok_chk i6 (ok_chk (by constructor <;> (first | omega | (dsimp only; omega))) ?_)))
    rw [within_eq, bnd_so]
    refine ok_chk (fun _ => by constructor <;> omega) ?_
    rw [brk_and, bnd_so, Bool.and_self_left]
    rw [ht, nbl_snoc] at hk6
    refine ok_brk (fun hb => ?_) (fun hb => ?_)
    · have hb : okD f.W f.H c (dirs.getD j.toNat d0) = true := hb
      obtain ⟨b1, b2, b3, b4⟩ := toD_bound hW hH hb
      rw [hb, cond_true] at hk6
      have b3' := b3
      have b4' := b4
      unfold toD at b3 b4
      have hgo := k5.get (toD f.W c (dirs.getD j.toNat d0)).toNat
      unfold toD at hgo
      have hdiv0 : 0 ≤ (offV (am.getD c.toNat 0) (gi.getD c.toNat 0) + p) / i := Int.ediv_nonneg (by omega) (by omega)
      have hdiv1 : (offV (am.getD c.toNat 0) (gi.getD c.toNat 0) + p) / i ≤ offV (am.getD c.toNat 0) (gi.getD c.toNat 0) + p := Int.ediv_le_self _ (by omega)
      have i1 : InR ((c / f.W + (dirs.getD j.toNat d0).a1) * f.W) := ⟨by omega, by omega⟩
      have i2 : InR ((c / f.W + (dirs.getD j.toNat d0).a1) * f.W + (c % f.W + (dirs.getD j.toNat d0).a0)) := ⟨by omega, by omega⟩
      have i3 : 0 ≤ (c / f.W + (dirs.getD j.toNat d0).a1) * f.W + (c % f.W + (dirs.getD j.toNat d0).a0) ∧ (c / f.W + (dirs.getD j.toNat d0).a1) * f.W + (c % f.W + (dirs.getD j.toNat d0).a0) < (o.length : Int) := ⟨b3, by rw [k5.len]; omega⟩
      have i4 : InR (o.getD ((c / f.W + (dirs.getD j.toNat d0).a1) * f.W + (c % f.W + (dirs.getD j.toNat d0).a0)).toNat 0 + (offV (am.getD c.toNat 0) (gi.getD c.toNat 0) + p) / i) := ⟨by omega, by omega⟩
      refine ok_chk i1 (ok_chk i2 (ok_chk i3 (ok_chk (by constructor <;> (first | omega | (dsimp only; omega))) (ok_chk (by constructor <;> (first | omega | (dsimp only; omega))) (ok_chk i4 (ok_chk i3 (ok_chk (by constructor <;> (first | omega | (dsimp only; omega))) (hk6 _ ⟨?_, ?_, ?_⟩))))))))
      · simp only [List.length_append, List.length_singleton]; omega
      · rw [give_append, adds_append, ← k4, Int.zero_add, ← k3]
        rfl
      · exact (k5.addAt (k := toD f.W c (dirs.getD j.toNat d0)) (V := 2000000) b3' (by omega) hdiv0 (by omega)).mono (by omega)
    · have hb : okD f.W f.H c (dirs.getD j.toNat d0) = false := hb
      rw [hb, cond_false] at hk6
      exact hk6 _ ⟨k3, k4, k5.mono (by omega)⟩
  have hj : ¬ j < 4 := by simpa using hj
  obtain rfl : j = 4 := by omega
  refine hk _ ⟨?_, k5.mono (by omega)⟩
  rw [e]
  exact k4
end Go.Proofs.Sp

namespace Go.Proofs.Sp
open Go Go.KX

/-! ### Order and sums of contributions -/

/-- Numbers that are nowhere greater. -/
def LeL (l r : List Int) : Prop := l.length = r.length ∧ ∀ i, l.getD i 0 ≤ r.getD i 0
inductive LeC : List (Int × Int) → List (Int × Int) → Prop
  | nil : LeC [] []
  | cons {k v v' : Int} {l r : List (Int × Int)} (h : v ≤ v') (t : LeC l r) : LeC ((k, v) :: l) ((k, v') :: r)
theorem LeC.append {a b c d : List (Int × Int)} (h : LeC a b) (h' : LeC c d) : LeC (a ++ c) (b ++ d) := by
  induction h with
  | nil => exact h'
  | cons h t ih => exact .cons h ih
theorem LeL.addAt {l r : List Int} {k v v' : Int} (h : LeL l r) (hv : v ≤ v') : LeL (addAt l k v) (addAt r k v') := by
  refine ⟨by simp only [Sp.addAt, List.length_set]; exact h.1, fun i => ?_⟩
  unfold Sp.addAt
  by_cases hk : k.toNat < l.length
  · rw [getD_set' hk, getD_set' (by rw [← h.1]; exact hk)]
    have := h.2 i
    have := h.2 k.toNat
    split <;> omega
  · rw [List.set_eq_of_length_le (by omega), List.set_eq_of_length_le (by rw [← h.1]; omega)]
    exact h.2 i
theorem LeL.adds {c d : List (Int × Int)} (hc : LeC c d) : ∀ {l r : List Int}, LeL l r → LeL (adds l c) (adds r d) := by
  induction hc with
  | nil => intro l r h; exact h
  | cons h t ih => intro l r hl; exact ih (hl.addAt h)
theorem LeL.refl (l : List Int) : LeL l l := ⟨rfl, fun _ => Int.le_refl _⟩

theorem give_le {f f' m : Int} (hm : 0 ≤ m) (h : f ≤ f') : ∀ (ks : List Int) (i : Int), LeC (give f m i ks) (give f' m i ks)
  | [], _ => .nil
  | k :: ks, i => .cons (by
      rcases Int.eq_ofNat_of_zero_le hm with ⟨n, rfl⟩
      rcases Nat.eq_zero_or_pos n with h0 | h0
      · subst h0; simp
      · exact Int.ediv_le_ediv (by omega) (by omega)) (give_le hm h ks (i + 1))

theorem contr_le {W H c n s g n' s' g' : Int} (hn : n ≤ n') (hs : s ≤ s') (hg : g' ≤ g) : LeC (contr W H c n s g) (contr W H c n' s' g') := by
  unfold contr
  split
  · exact .cons hn .nil
  · refine .cons ?_ (give_le (by omega) ?_ _ _)
    · unfold offV; split <;> split <;> omega
    · unfold offV; split <;> split <;> omega

theorem contrs_le {W H : Int} {am st gi am' st' gi' : List Int} (ha : LeL am am') (hs : LeL st st') (hg : LeL gi' gi) : ∀ k, LeC (contrs W H am st gi k) (contrs W H am' st' gi' k)
  | 0 => .nil
  | k + 1 => (contrs_le ha hs hg k).append (contr_le (ha.2 k) (hs.2 k) (hg.2 k))

theorem hour_le {W H : Int} {am st gi am' st' gi' : List Int} (ha : LeL am am') (hs : LeL st st') (hg : LeL gi' gi) : LeL (hourV W H am st gi) (hourV W H am' st' gi') := by
  unfold hourV
  rw [ha.1]
  exact (LeL.refl _).adds (contrs_le ha hs hg _)

def sumC : List (Int × Int) → Int
  | [] => 0
  | p :: r => p.2 + sumC r
theorem sumC_append : ∀ l r : List (Int × Int), sumC (l ++ r) = sumC l + sumC r
  | [], r => by simp [sumC]
  | x :: l, r => by simp only [List.cons_append, sumC, sumC_append l r]; omega
theorem addAt_len (l : List Int) (k v : Int) : (addAt l k v).length = l.length := by simp [addAt]
theorem adds_len : ∀ (cs : List (Int × Int)) (l : List Int), (adds l cs).length = l.length
  | [], _ => rfl
  | _ :: cs, l => by rw [adds, adds_len cs, addAt_len]
theorem sum_adds : ∀ (cs : List (Int × Int)) (l : List Int), (∀ p ∈ cs, 0 ≤ p.1 ∧ p.1 < l.length) → sumL (adds l cs) = sumL l + sumC cs
  | [], l, _ => by simp [adds, sumC]
  | p :: cs, l, h => by
    have h1 := h p (by simp)
    rw [adds, sum_adds cs _ (fun q hq => by rw [addAt_len]; exact h q (by simp [hq])), addAt, sumL_set _ _ _ (by omega), sumC]
    omega

theorem sum_give {f : Int} (hf : 0 ≤ f) : ∀ (ks : List Int), ks.length ≤ 4 → ks.length ≠ 0 → sumC (give f ks.length 0 ks) = f
  | [], _, h => absurd rfl h
  | [_], _, _ => by simp [give, sumC]
  | [_, _], _, _ => by simp only [give, sumC, List.length_cons, List.length_nil]; omega
  | [_, _, _], _, _ => by simp only [give, sumC, List.length_cons, List.length_nil]; omega
  | [_, _, _, _], _, _ => by simp only [give, sumC, List.length_cons, List.length_nil]; omega
  | _ :: _ :: _ :: _ :: _ :: _, h, _ => by simp only [List.length_cons] at h; omega

theorem sum_contr {W H c n s : Int} : sumC (contr W H c n s s) = n := by
  unfold contr
  split
  · simp [sumC]
  · rename_i h
    have h4 : (nb W H c).length ≤ 4 := nbl_le4 W H c 4
    have hf : 0 ≤ offV n s := by unfold offV; split <;> omega
    rw [sumC, sum_give hf _ h4 h]; simp only; omega

theorem give_keys {f m : Int} : ∀ (ks : List Int) (i : Int) (p : Int × Int), p ∈ give f m i ks → p.1 ∈ ks
  | [], _, _, h => by simp [give] at h
  | k :: ks, i, p, h => by
    rcases List.mem_cons.1 h with rfl | h
    · simp
    · exact List.mem_cons_of_mem _ (give_keys ks _ p h)

theorem contr_keys {W H c n s g : Int} (hW : 1 ≤ W ∧ W ≤ 8) (hH : 1 ≤ H ∧ H ≤ 8) (hc : 0 ≤ c ∧ c < W * H) : ∀ p ∈ contr W H c n s g, 0 ≤ p.1 ∧ p.1 < W * H := by
  intro p hp
  unfold contr at hp
  split at hp
  · rcases List.mem_singleton.1 hp with rfl; exact hc
  · rcases List.mem_cons.1 hp with rfl | hp
    · exact hc
    · exact nbl_mem hW hH _ (give_keys _ _ _ hp)

theorem contrs_keys {W H : Int} {am st gi : List Int} (hW : 1 ≤ W ∧ W ≤ 8) (hH : 1 ≤ H ∧ H ≤ 8) : ∀ k : Nat, (k : Int) ≤ W * H → ∀ p ∈ contrs W H am st gi k, 0 ≤ p.1 ∧ p.1 < W * H
  | 0, _, p, hp => by simp [contrs] at hp
  | k + 1, hk, p, hp => by
    rcases List.mem_append.1 hp with hp | hp
    · exact contrs_keys hW hH k (by omega) p hp
    · exact contr_keys hW hH ⟨by omega, by omega⟩ p hp

theorem sumL_take_succ {l : List Int} {i : Nat} (h : i < l.length) : sumL (l.take (i + 1)) = sumL (l.take i) + l.getD i 0 := by
  rw [take_succ' (d := 0) h, sumL_append]; simp [sumL]

theorem sum_hour {W H : Int} {am st : List Int} (hW : 1 ≤ W ∧ W ≤ 8) (hH : 1 ≤ H ∧ H ≤ 8) (hl : (am.length : Int) = W * H) : sumL (hourV W H am st st) = sumL am := by
  unfold hourV
  rw [sum_adds _ _ (fun p hp => by rw [List.length_replicate, hl]; exact contrs_keys hW hH _ (by omega) p hp), sumL_replicate0, Int.zero_add]
  have : ∀ k, k ≤ am.length → sumC (contrs W H am st st k) = sumL (am.take k) := by
    intro k
    induction k with
    | zero => intro _; simp [contrs, sumC, sumL]
    | succ k ih =>
      intro hk
      rw [contrs, sumC_append, ih (by omega), sum_contr, sumL_take_succ (by omega)]
  rw [this _ (Nat.le_refl _), List.take_length]

/-! ### The functions -/

theorem ends_eq {F : Nat} {l : List Span} (hF : l.length < F) (hl : l.length ≤ 1000) : spill_ends F l = some (l.map (·.Lo), l.map (·.Hi)) := by
  refine Ok.eq ?_
  unfold spill_ends
  refine ok_loop (fun x : List Int × Int × List Int => 0 ≤ x.2.1 ∧ x.2.1 ≤ l.length ∧ x.1 = (l.map (·.Lo)).take x.2.1.toNat ∧ x.2.2 = (l.map (·.Hi)).take x.2.1.toNat) (fun x : List Int × Int × List Int => l.length - x.2.1.toNat) ⟨by simp, by simp, rfl, rfl⟩ (by simp; omega) ?_
  rintro ⟨a, i, b⟩ next ⟨h1, h2, h3, h4⟩ hn
  simp only at h1 h2 h3 h4
  have la : a.length ≤ 1000 := by rw [h3, List.length_take, List.length_map]; omega
  have lb : b.length ≤ 1000 := by rw [h4, List.length_take, List.length_map]; omega
  refine ok_brk (fun hc => ?_) (fun hc => ok_some ?_)
  · have hc : i < l.length := by simpa using hc
    have hi : i.toNat < l.length := by omega
    refine ok_chk ⟨h1, hc⟩ (ok_chk (by simp only [List.length_singleton]; omega) (ok_chk (by simp only [List.length_singleton]; omega) (ok_chk (by constructor <;> (first | omega | (dsimp only; omega))) (hn _ ⟨by show 0 ≤ i + 1; omega, by show i + 1 ≤ _; omega, ?_, ?_⟩ (by show l.length - (i + 1).toNat < l.length - i.toNat; omega)))))
    · show a ++ [_] = (l.map (·.Lo)).take (i + 1).toNat
      rw [show (i + 1).toNat = i.toNat + 1 by omega, take_succ' (d := 0) (by simpa using hi), h3]
      congr 2
      rw [getD_get hi, getD_get (by simpa using hi)]; simp
    · show b ++ [_] = (l.map (·.Hi)).take (i + 1).toNat
      rw [show (i + 1).toNat = i.toNat + 1 by omega, take_succ' (d := 0) (by simpa using hi), h4]
      congr 2
      rw [getD_get hi, getD_get (by simpa using hi)]; simp
  · have hc : ¬ i < l.length := by simpa using hc
    obtain rfl : i = l.length := by omega
    show (a, b) = _
    rw [h3, h4]
    simp [List.take_of_length_le]

def minO (n : Int) : Int := if 1000000 < n then 1000000 else n
theorem minO_le (n : Int) : minO n ≤ 1000000 := by unfold minO; split <;> omega
theorem minO_mono {a b : Int} (h : a ≤ b) : minO a ≤ minO b := by unfold minO; split <;> split <;> omega
theorem minO_nn {a : Int} (h : 0 ≤ a) : 0 ≤ minO a := by unfold minO; split <;> omega
theorem minO_self (n : Int) : minO n ≤ n := by unfold minO; split <;> omega
theorem minO_ge {n m : Int} (h : n ≤ m) (h' : n ≤ 1000000) : n ≤ minO m := by unfold minO; split <;> omega

/-- The bounds after an hour. -/
def loV (W H : Int) (cells caps : List Span) : List Int := hourV W H (cells.map (·.Lo)) (caps.map (·.Lo)) (caps.map (·.Hi))
def hiV (W H : Int) (cells caps : List Span) : List Int := hourV W H (cells.map (·.Hi)) (caps.map (·.Hi)) (caps.map (·.Lo))
def spreadV (W H : Int) (cells caps : List Span) : List Span := List.zipWith (fun a b => Span.mk (minO a) (minO b)) (loV W H cells caps) (hiV W H cells caps)
def spreadN (W H : Int) (caps : List Span) : Nat → List Span → List Span
  | 0, cells => cells
  | n + 1, cells => spreadV W H (spreadN W H caps n cells) caps

/-- Capacities for a field. -/
structure CapsOK (n : Nat) (caps : List Span) : Prop where
  len : caps.length = n
  ok : ∀ s ∈ caps, SpanOK 10000 s

theorem getD_map {α β : Type} (f : α → β) (l : List α) (i : Nat) (d : α) (e : β) (h : i < l.length) : (l.map f).getD i e = f (l.getD i d) := by
  rw [getD_get (by simpa using h), getD_get h]; simp
theorem leL_map {l : List Span} {m : Int} (h : ∀ s ∈ l, SpanOK m s) : LeL (l.map (·.Lo)) (l.map (·.Hi)) := by
  refine ⟨by simp, fun i => ?_⟩
  by_cases hi : i < l.length
  · rw [getD_map _ _ _ ⟨0, 0⟩ _ hi, getD_map _ _ _ ⟨0, 0⟩ _ hi]
    exact (h _ (getD_mem hi)).2.1
  · simp [List.getD_eq_getElem?_getD, List.getElem?_eq_none (show (l.map (·.Lo)).length ≤ i by simpa using hi), List.getElem?_eq_none (show (l.map (·.Hi)).length ≤ i by simpa using hi)]

theorem spread_eq {F : Nat} {f : Field} {caps : List Span} (hF : 100 < F) (hf : FieldOK f) (hc : CapsOK f.Cells.length caps) :
    spill_grid_spread F f caps = some (spreadV f.W f.H f.Cells caps) ∧ FieldOK ⟨f.W, f.H, spreadV f.W f.H f.Cells caps⟩ ∧ (loV f.W f.H f.Cells caps).length = f.Cells.length ∧ (hiV f.W f.H f.Cells caps).length = f.Cells.length ∧
      (∀ i, 0 ≤ (loV f.W f.H f.Cells caps).getD i 0) := by
  have hs := hf.small
  have hcl := hc.len
  have m1 : ∀ (l : List Span) (m : Int), (∀ s ∈ l, SpanOK m s) → ∀ a ∈ l.map (·.Lo), 0 ≤ a ∧ a ≤ m := by
    intro l m h a ha
    obtain ⟨s, hs, rfl⟩ := List.mem_map.1 ha
    have := h s hs
    exact ⟨this.1, by omega⟩
  have m2 : ∀ (l : List Span) (m : Int), (∀ s ∈ l, SpanOK m s) → ∀ a ∈ l.map (·.Hi), 0 ≤ a ∧ a ≤ m := by
    intro l m h a ha
    obtain ⟨s, hs, rfl⟩ := List.mem_map.1 ha
    have := h s hs
    exact ⟨by omega, this.2.2⟩
  obtain ⟨e1, g1⟩ := hour_eq (F := F) (f := f) (am := f.Cells.map (·.Lo)) (st := caps.map (·.Lo)) (gi := caps.map (·.Hi)) hF hf.w hf.h (by simpa using hf.len) (by simpa using hcl) (by simpa using hcl) (m1 _ _ hf.cells) (m1 _ _ hc.ok) (m2 _ _ hc.ok)
  obtain ⟨e2, g2⟩ := hour_eq (F := F) (f := f) (am := f.Cells.map (·.Hi)) (st := caps.map (·.Hi)) (gi := caps.map (·.Lo)) hF hf.w hf.h (by simpa using hf.len) (by simpa using hcl) (by simpa using hcl) (m2 _ _ hf.cells) (m2 _ _ hc.ok) (m1 _ _ hc.ok)
  have hle := hour_le (W := f.W) (H := f.H) (leL_map hf.cells) (leL_map hc.ok) (leL_map hc.ok)
  have l1 : (loV f.W f.H f.Cells caps).length = f.Cells.length := by have := g1.len; simpa [loV] using this
  have l2 : (hiV f.W f.H f.Cells caps).length = f.Cells.length := by have := g2.len; simpa [hiV] using this
  have lv : (spreadV f.W f.H f.Cells caps).length = f.Cells.length := by rw [spreadV, List.length_zipWith, l1, l2, Nat.min_self]
  have gv : ∀ i, i < f.Cells.length → (spreadV f.W f.H f.Cells caps).getD i ⟨0, 0⟩ = ⟨minO ((loV f.W f.H f.Cells caps).getD i 0), minO ((hiV f.W f.H f.Cells caps).getD i 0)⟩ := by
    intro i hi
    rw [getD_get (by rw [lv]; exact hi), getD_get (by rw [l1]; exact hi), getD_get (by rw [l2]; exact hi)]
    simp [spreadV]
  refine ⟨Ok.eq ?_, ⟨hf.w, hf.h, by rw [lv]; exact hf.len, fun s hs => ?_⟩, l1, l2, fun i => (g1.get i).1⟩
  · unfold spill_grid_spread
    refine ok_bnde (ends_eq (by omega) (by omega)) (ok_bnde (ends_eq (by omega) (by omega)) (ok_bnde e1 (ok_bnde e2 ?_)))
    show Ok (fun x => x = spreadV f.W f.H f.Cells caps) (loopC _ F _)
    refine ok_loop (fun x : Int × List Span => 0 ≤ x.1 ∧ x.1 ≤ f.Cells.length ∧ x.2 = (spreadV f.W f.H f.Cells caps).take x.1.toNat) (fun x : Int × List Span => f.Cells.length - x.1.toNat) ⟨by simp, by simp, rfl⟩ (by simp; omega) ?_
    rintro ⟨i, o⟩ next ⟨h1, h2, h3⟩ hn
    simp only at h1 h2 h3
    have lo : o.length ≤ 64 := by rw [h3, List.length_take, lv]; omega
    have l1' : (hourV f.W f.H (f.Cells.map (·.Lo)) (caps.map (·.Lo)) (caps.map (·.Hi))).length = f.Cells.length := l1
    have l2' : (hourV f.W f.H (f.Cells.map (·.Hi)) (caps.map (·.Hi)) (caps.map (·.Lo))).length = f.Cells.length := l2
    refine ok_brk (fun hcc => ?_) (fun hcc => ok_some ?_)
    · have hcc : i < f.Cells.length := by simpa [l1'] using hcc
      have hi : i.toNat < f.Cells.length := by omega
      refine ok_chk ⟨h1, by rw [l1']; exact hcc⟩ (ok_chk ⟨h1, by rw [l2']; exact hcc⟩ (ok_chk (by simp only [List.length_singleton]; omega) (ok_chk (by constructor <;> (first | omega | (dsimp only; omega))) (hn _ ⟨by show 0 ≤ i + 1; omega, by show i + 1 ≤ _; omega, ?_⟩ (by show f.Cells.length - (i + 1).toNat < f.Cells.length - i.toNat; omega)))))
      show o ++ [_] = (spreadV f.W f.H f.Cells caps).take (i + 1).toNat
      rw [show (i + 1).toNat = i.toNat + 1 by omega, take_succ' (d := ⟨0, 0⟩) (by rw [lv]; exact hi), h3, gv _ hi]
      rfl
    · have hcc : ¬ i < f.Cells.length := by simpa [l1'] using hcc
      obtain rfl : i = f.Cells.length := by omega
      show o = _
      rw [h3, List.take_of_length_le (by rw [lv]; simp)]
  · obtain ⟨i, hi, rfl⟩ := List.getElem_of_mem hs
    have hi' : i < f.Cells.length := by
      have : i < (spreadV f.W f.H f.Cells caps).length := hi
      omega
    have := gv i hi'
    rw [getD_get (by rw [lv]; exact hi')] at this
    show SpanOK 1000000 ((spreadV f.W f.H f.Cells caps)[i])
    rw [this]
    exact ⟨minO_nn (g1.get i).1, minO_mono (hle.2 i), minO_le _⟩
end Go.Proofs.Sp

namespace Go.Proofs.Sp
open Go Go.KX

theorem wb {x lo hi : Int} (h1 : lo ≤ x) (h2 : x ≤ hi) : (decide (x ≥ lo) && decide (x ≤ hi)) = true := by rw [decide_eq_true (show x ≥ lo from h1), decide_eq_true h2]; rfl

theorem clone_eq {F : Nat} {l : List Span} (h : l.length ≤ 1000000) : slices_Clone_api_Span F l = some l := by
  unfold slices_Clone_api_Span
  rw [chk_pos (by simpa using h)]; rfl

theorem spreadN_ok {F : Nat} {f : Field} {caps : List Span} (hF : 100 < F) (hf : FieldOK f) (hc : CapsOK f.Cells.length caps) : ∀ n, FieldOK ⟨f.W, f.H, spreadN f.W f.H caps n f.Cells⟩ ∧ (spreadN f.W f.H caps n f.Cells).length = f.Cells.length
  | 0 => ⟨hf, rfl⟩
  | n + 1 => by
    obtain ⟨h1, h2⟩ := spreadN_ok hF hf hc n
    obtain ⟨_, h3, _⟩ := spread_eq (F := F) (f := ⟨f.W, f.H, spreadN f.W f.H caps n f.Cells⟩) hF h1 (by rw [h2]; exact hc)
    refine ⟨h3, ?_⟩
    have e1 := h3.len
    have e2 := hf.len
    simp only at e1
    show (spreadV f.W f.H (spreadN f.W f.H caps n f.Cells) caps).length = _
    omega

theorem Spread_eq {F : Nat} {f : Field} {caps : List Span} {hours : Int} (hF : 100 < F) (hf : FieldOK f) (hc : CapsOK f.Cells.length caps) (hh : 0 ≤ hours ∧ hours ≤ 48) :
    spill_Spread F f caps hours = some (⟨f.W, f.H, spreadN f.W f.H caps hours.toNat f.Cells⟩, 0) := by
  have hs := hf.small
  have hcl := hc.len
  refine Ok.eq ?_
  unfold spill_Spread
  refine ok_bnde (Check_eq (by show f.Cells.length < F; omega)) ?_
  rw [show checkV (Field.mk f.W f.H f.Cells) = 0 from hf.check]
  refine ok_brkF (by simp) (ok_brkF (by simp [hcl]) ?_)
  refine ok_join (fun i : Int => 0 ≤ i ↔ ¬ ∀ s ∈ caps, SpanOK 10000 s) (fun i hi => ?_) fun k hk => find_ok (g := spill_begin_1) (m := 10000) (fun s => by unfold spill_begin_1; rw [span_eq, bnd_so]) k (by omega) (by omega) hk
  refine ok_brkF ?_ ?_
  · rw [decide_eq_false_iff_not]
    exact fun h => (hi.1 h) hc.ok
  refine ok_bnde (clone_eq (by omega)) ?_
  rw [within_eq, bnd_so]
  refine ok_brkF (by simp; omega) ?_
  refine ok_loop (fun x : Int × List Span => 0 ≤ x.1 ∧ x.1 ≤ hours ∧ x.2 = spreadN f.W f.H caps x.1.toNat f.Cells) (fun x : Int × List Span => hours.toNat - x.1.toNat) ⟨by simp, by simp; omega, rfl⟩ (by simp; omega) ?_
  rintro ⟨i, o⟩ next ⟨h1, h2, h3⟩ hn
  simp only at h1 h2 h3
  refine ok_brk (fun hcc => ?_) (fun hcc => ok_some ?_)
  · have hcc : i < hours := by simpa using hcc
    obtain ⟨h4, h5⟩ := spreadN_ok hF hf hc i.toNat
    rw [← h3] at h4 h5
    refine ok_bnde (spread_eq (f := ⟨f.W, f.H, o⟩) hF h4 (by rw [h5]; exact hc)).1 (ok_chk (by constructor <;> (first | omega | (dsimp only; omega))) (hn _ ⟨by show 0 ≤ i + 1; omega, by show i + 1 ≤ hours; omega, ?_⟩ (by show hours.toNat - (i + 1).toNat < hours.toNat - i.toNat; omega)))
    show spreadV f.W f.H o caps = spreadN f.W f.H caps (i + 1).toNat f.Cells
    rw [show (i + 1).toNat = i.toNat + 1 by omega, spreadN, h3]
  · have hcc : ¬ i < hours := by simpa using hcc
    obtain rfl : i = hours := by omega
    rw [h3]

/-- Amounts that can flow. -/
structure FlowOK (W H : Int) (am caps : List Int) : Prop where
  w : 1 ≤ W ∧ W ≤ 8
  h : 1 ≤ H ∧ H ≤ 8
  la : (am.length : Int) = W * H
  lc : (caps.length : Int) = W * H
  nn : ∀ a ∈ am, 0 ≤ a
  sum : sumL am ≤ 1000000
  caps : ∀ a ∈ caps, 0 ≤ a ∧ a ≤ 10000

theorem sumL_take_le {l : List Int} (h : ∀ x ∈ l, 0 ≤ x) (k : Nat) : sumL (l.take k) ≤ sumL l := by
  have e : sumL l = sumL (l.take k) + sumL (l.drop k) := by rw [← sumL_append, List.take_append_drop]
  have := sumL_nonneg (l.drop k) fun x hx => h x (List.mem_of_mem_drop hx)
  omega

theorem within_brk {F : Nat} {b : Bool} {x lo m : Int} : brk b (spill_within F x lo m) (some false) = some (b && (decide (x ≥ lo) && decide (x ≤ m))) := by
  cases b <;> rfl

theorem Flow_eq {F : Nat} {W H : Int} {am caps : List Int} (hF : 100 < F) (h : FlowOK W H am caps) :
    spill_Flow F W H am caps = some (hourV W H am caps caps, 0) ∧ Good am.length 1000000 (hourV W H am caps caps) ∧ sumL (hourV W H am caps caps) = sumL am := by
  have hb := mul_bound h.w.1 h.w.2 h.h.1 h.h.2
  have hla := h.la
  have hlc := h.lc
  have ha1 : ∀ a ∈ am, 0 ≤ a ∧ a ≤ 1000000 := fun a ha => ⟨h.nn a ha, Int.le_trans (mem_le_sumL am h.nn a ha) h.sum⟩
  obtain ⟨e1, g1⟩ := hour_eq (F := F) (f := ⟨W, H, []⟩) (am := am) (st := caps) (gi := caps) hF h.w h.h h.la (by omega) (by omega) ha1 h.caps h.caps
  have hsum := sum_hour (st := caps) h.w h.h h.la
  refine ⟨Ok.eq ?_, ⟨g1.len, g1.nn, by rw [hsum]; exact h.sum⟩, hsum⟩
  unfold spill_Flow
  rw [within_eq, bnd_so]
  have ew : (decide (W ≥ 1) && decide (W ≤ 8)) = true := wb h.w.1 h.w.2
  have eh : (decide (H ≥ 1) && decide (H ≤ 8)) = true := wb h.h.1 h.h.2
  rw [ew, within_brk, bnd_so, eh]
  refine ok_brkF rfl (ok_chk (by constructor <;> omega) (ok_chk (fun _ => by constructor <;> omega) (ok_brkF (by simp [hla, hlc]) ?_)))
  refine ok_loop (fun x : Int × Int => 0 ≤ x.2 ∧ x.2 ≤ am.length ∧ x.1 = 1000000 - sumL (am.take x.2.toNat)) (fun x : Int × Int => am.length - x.2.toNat) ⟨by simp, by simp, rfl⟩ (by simp; omega) ?_
  rintro ⟨left, i⟩ next ⟨h1, h2, h3⟩ hn
  simp only at h1 h2 h3
  have hs0 := sumL_nonneg (am.take i.toNat) fun x hx => h.nn x (List.mem_of_mem_take hx)
  have hs1 := sumL_take_le h.nn i.toNat
  have hs := h.sum
  refine ok_brk (fun hcc => ?_) (fun hcc => ?_)
  · have hcc : i < am.length := by simpa using hcc
    have hi : i.toNat < am.length := by omega
    have hsn := sumL_take_succ hi
    have hsl := sumL_take_le h.nn (i.toNat + 1)
    have hai := ha1 _ (getD_mem (d := 0) hi)
    have hci := h.caps _ (getD_mem (i := i.toNat) (d := 0) (by omega))
    refine ok_chk ⟨h1, hcc⟩ ?_
    have eb : (decide (am.getD i.toNat 0 ≥ 0) && decide (am.getD i.toNat 0 ≤ left)) = true := wb hai.1 (by omega)
    have ec : (decide (caps.getD i.toNat 0 ≥ 0) && decide (caps.getD i.toNat 0 ≤ 10000)) = true := wb hci.1 hci.2
    refine ok_bnde (b := true) (show spill_within F (am.getD i.toNat 0) 0 left = some true from congrArg some eb) (ok_chk (fun _ => ⟨h1, by show i < _; omega⟩) ?_)
    refine ok_bnde (b := true) (show brk (!!true) (spill_within F (caps.getD i.toNat 0) 0 10000) (some false) = some true from congrArg some ec) ?_
    refine ok_brkF rfl (ok_chk (show InR (left - am.getD i.toNat 0) from ⟨by omega, by omega⟩) (ok_chk (by constructor <;> (first | omega | (dsimp only; omega))) (hn _ ⟨by show 0 ≤ i + 1; omega, by show i + 1 ≤ _; omega, ?_⟩ (by show am.length - (i + 1).toNat < am.length - i.toNat; omega))))
    show left - am.getD i.toNat 0 = 1000000 - sumL (am.take (i + 1).toNat)
    rw [show (i + 1).toNat = i.toNat + 1 by omega, hsn]; omega
  · exact ok_bnde e1 (ok_some rfl)

theorem Holds_eq {F : Nat} {f : Field} {am : List Int} (hF : 100 < F) (hf : FieldOK f) (hl : am.length = f.Cells.length) :
    spill_Holds F f am = some (decide (∀ i, i < am.length → (f.Cells.getD i ⟨0, 0⟩).Lo ≤ am.getD i 0 ∧ am.getD i 0 ≤ (f.Cells.getD i ⟨0, 0⟩).Hi), 0) := by
  have hs := hf.small
  refine Ok.eq ?_
  unfold spill_Holds
  refine ok_bnde (Check_eq (by show f.Cells.length < F; omega)) ?_
  rw [show checkV (Field.mk f.W f.H f.Cells) = 0 from hf.check]
  refine ok_brkF (by simp) (ok_brkF (by simp [hl]) ?_)
  refine ok_loop (fun x : Int => 0 ≤ x ∧ x ≤ am.length ∧ ∀ j : Nat, (j : Int) < x → (f.Cells.getD j ⟨0, 0⟩).Lo ≤ am.getD j 0 ∧ am.getD j 0 ≤ (f.Cells.getD j ⟨0, 0⟩).Hi) (fun x : Int => am.length - x.toNat) ⟨by omega, by omega, fun j hj => by omega⟩ (by simp; omega) ?_
  intro i next ⟨h1, h2, h3⟩ hn
  refine ok_brk (fun hcc => ?_) (fun hcc => ok_some ?_)
  · have hcc : i < am.length := by simpa using hcc
    have hi : i.toNat < am.length := by omega
    refine ok_chk ⟨h1, hcc⟩ (ok_chk ⟨h1, by omega⟩ (ok_chk ⟨h1, by omega⟩ ?_))
    rw [within_eq, bnd_so]
    refine ok_brk (fun hb => ok_some ?_) (fun hb => ok_chk (by constructor <;> omega) (hn _ ⟨by omega, by omega, fun j hj => ?_⟩ (by omega)))
    · congr 1
      symm
      rw [decide_eq_false_iff_not]
      intro h
      obtain ⟨a1, a2⟩ := h _ hi
      rw [wb a1 a2] at hb; cases hb
    · by_cases e : (j : Int) < i
      · exact h3 j e
      · obtain rfl : j = i.toNat := by omega
        simp only [Bool.not_eq_false', Bool.and_eq_true, decide_eq_true_eq] at hb
        exact hb
  · have hcc : ¬ i < am.length := by simpa using hcc
    congr 1
    symm
    rw [decide_eq_true_eq]
    exact fun j hj => h3 j (by omega)

/-- The sums of a field. -/
def totV (cells : List Span) : Span := ⟨sumL (cells.map (·.Lo)), sumL (cells.map (·.Hi))⟩

theorem tot_bound {cells : List Span} {n : Nat} (h : ∀ s ∈ cells, SpanOK 1000000 s) (hn : cells.length ≤ n) : 0 ≤ (totV cells).Lo ∧ (totV cells).Lo ≤ (totV cells).Hi ∧ (totV cells).Hi ≤ 1000000 * n := by
  induction cells generalizing n with
  | nil => simp [totV, sumL]; omega
  | cons s r ih =>
    have h1 := h s (by simp)
    cases n with
    | zero => simp at hn
    | succ n =>
      have h2 := ih (n := n) (fun x hx => h x (by simp [hx])) (by simpa using hn)
      simp only [totV, List.map_cons, sumL] at h2 ⊢
      omega

theorem tot_take {cells : List Span} {i : Nat} (h : i < cells.length) : totV (cells.take (i + 1)) = ⟨(totV (cells.take i)).Lo + (cells.getD i ⟨0, 0⟩).Lo, (totV (cells.take i)).Hi + (cells.getD i ⟨0, 0⟩).Hi⟩ := by
  rw [take_succ' (d := ⟨0, 0⟩) h]
  simp [totV, sumL_append, sumL]

theorem total_eq {F : Nat} {f : Field} (hF : 100 < F) (hf : FieldOK f) : spill_grid_total F f = some (totV f.Cells) := by
  have hs := hf.small
  refine Ok.eq ?_
  unfold spill_grid_total
  refine ok_loop (fun x : Int × Int × Int => 0 ≤ x.1 ∧ x.1 ≤ f.Cells.length ∧ x.2.2 = (totV (f.Cells.take x.1.toNat)).Lo ∧ x.2.1 = (totV (f.Cells.take x.1.toNat)).Hi) (fun x : Int × Int × Int => f.Cells.length - x.1.toNat) ⟨by simp, by simp, rfl, rfl⟩ (by simp; omega) ?_
  rintro ⟨i, hi', lo'⟩ next ⟨h1, h2, h3, h4⟩ hn
  simp only at h1 h2 h3 h4
  refine ok_brk (fun hcc => ?_) (fun hcc => ok_some ?_)
  · have hcc : i < f.Cells.length := by simpa using hcc
    have hi : i.toNat < f.Cells.length := by omega
    have hb := tot_bound (cells := f.Cells.take i.toNat) (n := 64) (fun s hs => hf.cells s (List.mem_of_mem_take hs)) (by rw [List.length_take]; omega)
    have hc := hf.cells _ (getD_mem (d := ⟨0, 0⟩) hi)
    have ht := tot_take hi
    refine ok_chk ⟨h1, hcc⟩ (ok_chk (show InR (lo' + (f.Cells.getD i.toNat ⟨0, 0⟩).Lo) from ⟨by omega, by omega⟩) (ok_chk (show InR (hi' + (f.Cells.getD i.toNat ⟨0, 0⟩).Hi) from ⟨by omega, by omega⟩) (ok_chk (by constructor <;> (first | omega | (dsimp only; omega))) (hn _ ⟨by show 0 ≤ i + 1; omega, by show i + 1 ≤ _; omega, ?_, ?_⟩ (by show f.Cells.length - (i + 1).toNat < f.Cells.length - i.toNat; omega)))))
    · show lo' + _ = (totV (f.Cells.take (i + 1).toNat)).Lo
      rw [show (i + 1).toNat = i.toNat + 1 by omega, ht, h3]
    · show hi' + _ = (totV (f.Cells.take (i + 1).toNat)).Hi
      rw [show (i + 1).toNat = i.toNat + 1 by omega, ht, h4]
  · have hcc : ¬ i < f.Cells.length := by simpa using hcc
    obtain rfl : i = f.Cells.length := by omega
    show Span.mk lo' hi' = _
    rw [h3, h4]
    simp [List.take_of_length_le]

theorem Total_eq {F : Nat} {f : Field} (hF : 100 < F) (hf : FieldOK f) : spill_Total F f = some (totV f.Cells, 0) := by
  have hs := hf.small
  refine Ok.eq ?_
  unfold spill_Total
  refine ok_bnde (Check_eq (by show f.Cells.length < F; omega)) ?_
  rw [show checkV (Field.mk f.W f.H f.Cells) = 0 from hf.check]
  exact ok_brkF (by simp) (ok_bnde (total_eq hF hf) (ok_some rfl))

theorem sum_eq {F : Nat} {l : List Int} (hF : l.length < F) (hl : l.length ≤ 1000) (h : ∀ x ∈ l, 0 ≤ x ∧ x ≤ 1000000) : law11_sum F l = some (sumL l) := by
  refine Ok.eq ?_
  unfold law11_sum
  refine ok_loop (fun x : Int × Int => 0 ≤ x.1 ∧ x.1 ≤ l.length ∧ x.2 = sumL (l.take x.1.toNat)) (fun x : Int × Int => l.length - x.1.toNat) ⟨by simp, by simp, rfl⟩ (by simp; omega) ?_
  rintro ⟨i, s⟩ next ⟨h1, h2, h3⟩ hn
  simp only at h1 h2 h3
  refine ok_brk (fun hcc => ?_) (fun hcc => ok_some ?_)
  · have hcc : i < l.length := by simpa using hcc
    have hi : i.toNat < l.length := by omega
    have e := h _ (getD_mem (d := 0) hi)
    have s0 := sumL_nonneg (l.take i.toNat) fun x hx => (h x (List.mem_of_mem_take hx)).1
    have s1 := sumL_le (B := 1000000) (l.take i.toNat) fun x hx => (h x (List.mem_of_mem_take hx)).2
    rw [List.length_take] at s1
    refine ok_chk ⟨h1, hcc⟩ (ok_chk (show InR (s + l.getD i.toNat 0) from ⟨by omega, by omega⟩) (ok_chk (by constructor <;> (first | omega | (dsimp only; omega))) (hn _ ⟨by show 0 ≤ i + 1; omega, by show i + 1 ≤ _; omega, ?_⟩ (by show l.length - (i + 1).toNat < l.length - i.toNat; omega))))
    show s + _ = sumL (l.take (i + 1).toNat)
    rw [show (i + 1).toNat = i.toNat + 1 by omega, sumL_take_succ hi, h3]
  · have hcc : ¬ i < l.length := by simpa using hcc
    obtain rfl : i = l.length := by omega
    show s = _
    rw [h3]; simp [List.take_of_length_le]

/-- What is left of a span, if all amounts together are in the span t. -/
def cutV (t sum s : Span) : Span := ⟨if s.Lo > t.Lo - (sum.Hi - s.Hi) then s.Lo else t.Lo - (sum.Hi - s.Hi), if s.Hi < t.Hi - (sum.Lo - s.Lo) then s.Hi else t.Hi - (sum.Lo - s.Lo)⟩

theorem Tighten_eq {F : Nat} {f : Field} {t : Span} (hF : 100 < F) (hf : FieldOK f) (ht : SpanOK 1000000 t) (h1 : (totV f.Cells).Lo ≤ t.Hi) (h2 : t.Lo ≤ (totV f.Cells).Hi) :
    spill_Tighten F f t = some (⟨f.W, f.H, f.Cells.map (cutV t (totV f.Cells))⟩, 0) := by
  have hs := hf.small
  have hb := tot_bound hf.cells hs.2
  refine Ok.eq ?_
  unfold spill_Tighten
  refine ok_bnde (Check_eq (by show f.Cells.length < F; omega)) ?_
  rw [show checkV (Field.mk f.W f.H f.Cells) = 0 from hf.check]
  refine ok_brkF (by simp) (ok_bnde (span_eq F ⟨t.Lo, t.Hi⟩ 1000000) ?_)
  rw [decide_eq_true (show SpanOK 1000000 ⟨t.Lo, t.Hi⟩ from ht)]
  refine ok_brkF rfl (ok_bnde (total_eq (f := ⟨f.W, f.H, f.Cells⟩) hF hf) (ok_brkF ?_ ?_))
  · rw [Bool.or_eq_false_iff, decide_eq_false_iff_not, decide_eq_false_iff_not]
    exact ⟨by show ¬ (totV f.Cells).Lo > t.Hi; omega, by show ¬ (totV f.Cells).Hi < t.Lo; omega⟩
  refine ok_loop (fun x : Int × List Span => 0 ≤ x.1 ∧ x.1 ≤ f.Cells.length ∧ x.2 = (f.Cells.map (cutV t (totV f.Cells))).take x.1.toNat) (fun x : Int × List Span => f.Cells.length - x.1.toNat) ⟨by simp, by simp, rfl⟩ (by simp; omega) ?_
  rintro ⟨i, o⟩ next ⟨g1, g2, g3⟩ hn
  simp only at g1 g2 g3
  have lo : o.length ≤ 64 := by rw [g3, List.length_take, List.length_map]; omega
  refine ok_brk (fun hcc => ?_) (fun hcc => ok_some ?_)
  · have hcc : i < f.Cells.length := by simpa using hcc
    have hi : i.toNat < f.Cells.length := by omega
    have hc := hf.cells _ (getD_mem (d := ⟨0, 0⟩) hi)
    refine ok_chk ⟨g1, hcc⟩ ?_
    refine ok_chk (show InR ((totV f.Cells).Hi - (f.Cells.getD i.toNat ⟨0, 0⟩).Hi) from ⟨by omega, by omega⟩) (ok_chk (show InR (t.Lo - ((totV f.Cells).Hi - (f.Cells.getD i.toNat ⟨0, 0⟩).Hi)) from ⟨by omega, by omega⟩) ?_)
    refine ok_chk (show InR ((totV f.Cells).Lo - (f.Cells.getD i.toNat ⟨0, 0⟩).Lo) from ⟨by omega, by omega⟩) (ok_chk (show InR (t.Hi - ((totV f.Cells).Lo - (f.Cells.getD i.toNat ⟨0, 0⟩).Lo)) from ⟨by omega, by omega⟩) ?_)
    refine ok_bnde (b := cutV t (totV f.Cells) (f.Cells.getD i.toNat ⟨0, 0⟩)) rfl (ok_chk (by simp only [List.length_singleton]; omega) (ok_chk (by constructor <;> (first | omega | (dsimp only; omega))) (hn _ ⟨by show 0 ≤ i + 1; omega, by show i + 1 ≤ _; omega, ?_⟩ (by show f.Cells.length - (i + 1).toNat < f.Cells.length - i.toNat; omega))))
    show o ++ [cutV t (totV f.Cells) (f.Cells.getD i.toNat ⟨0, 0⟩)] = (f.Cells.map (cutV t (totV f.Cells))).take (i + 1).toNat
    rw [show (i + 1).toNat = i.toNat + 1 by omega, take_succ' (d := ⟨0, 0⟩) (by simpa using hi), g3, getD_map _ _ _ ⟨0, 0⟩ _ hi]
  · have hcc : ¬ i < f.Cells.length := by simpa using hcc
    obtain rfl : i = f.Cells.length := by omega
    rw [g3]; simp [List.take_of_length_le]
end Go.Proofs.Sp

namespace Go.Proofs.Sp
open Go Go.KX
set_option maxRecDepth 100000
theorem awake_ok : law11_awake 1000 = some true := by kernel_rfl
end Go.Proofs.Sp

namespace Go.Proofs.Sp
open Go Go.KX

/-- Numbers of one byte. -/
structure Bytes (l : List Int) : Prop where
  b : ∀ x ∈ l, 0 ≤ x ∧ x ≤ 255
  len : l.length ≤ 9223372036854775807

section
variable {α : Type} {post : α → Prop} {l : List Int} {pos n : Int}

theorem next_gen (hl : Bytes l) (h0 : 0 ≤ pos) (hp : pos < l.length) (hn : 0 < n) :
    0 ≤ l.getD pos.toNat 0 ∧ l.getD pos.toNat 0 ≤ 255 ∧ 0 ≤ l.getD pos.toNat 0 % n ∧ l.getD pos.toNat 0 % n < n ∧ l.getD pos.toNat 0 % n ≤ 255 := by
  have h := hl.b _ (getD_mem (i := pos.toNat) (d := 0) (by omega))
  have h1 := Int.emod_nonneg (l.getD pos.toNat 0) (by omega : n ≠ 0)
  have h2 := Int.emod_lt_of_pos (l.getD pos.toNat 0) hn
  have h3 : l.getD pos.toNat 0 % n ≤ l.getD pos.toNat 0 := by
    have e := Int.emod_add_mul_ediv (l.getD pos.toNat 0) n
    have e2 := Int.mul_nonneg (by omega : 0 ≤ n) (Int.ediv_nonneg h.1 (by omega : 0 ≤ n))
    omega
  exact ⟨h.1, h.2, h1, h2, by omega⟩

theorem next_ok (hl : Bytes l) (h0 : 0 ≤ pos) (hp : pos ≤ l.length) (hn : 0 < n) (k : Int × Int → Option α) (hk : ∀ v p : Int, 0 ≤ v → v < n → v ≤ 255 → 0 ≤ p → p ≤ l.length → Ok post (k (v, p))) :
    Ok post (brk (decide (pos ≥ (l.length : Int))) (k (0, pos)) (chk (InR (pos + 1)) (chk (InR (pos + 1 - 1)) (chk (0 ≤ pos + 1 - 1 ∧ pos + 1 - 1 < (l.length : Int)) (chk (InR (l.getD (pos + 1 - 1).toNat 0)) (chk (0 ≤ l.getD (pos + 1 - 1).toNat 0 ∧ l.getD (pos + 1 - 1).toNat 0 ≤ 9223372036854775807) (k (l.getD (pos + 1 - 1).toNat 0 % n, pos + 1)))))))) := by
  have hlen := hl.len
  refine ok_brk (fun _ => hk 0 pos (by omega) hn (by omega) h0 hp) (fun hc => ?_)
  have hc : pos < l.length := by simpa using hc
  rw [show pos + 1 - 1 = pos by omega]
  obtain ⟨h1, h2, h3, h4, h5⟩ := next_gen hl h0 hc hn
  exact ok_chk ⟨by omega, by omega⟩ (ok_chk ⟨by omega, by omega⟩ (ok_chk ⟨h0, hc⟩ (ok_chk ⟨by omega, by omega⟩ (ok_chk ⟨h1, by omega⟩ (hk _ _ h3 h4 h5 (by omega) (by omega))))))

theorem next_okS (hl : Bytes l) (h0 : 0 ≤ pos) (hp : pos ≤ l.length) (hn : 0 < n) (k : Int × Int → Option α) (hk : ∀ v p : Int, 0 ≤ v → v < n → v ≤ 255 → 0 ≤ p → p ≤ l.length → Ok post (k (v, p))) :
    Ok post (brk (decide (pos ≥ (l.length : Int))) (k (0, pos)) (chk (InR (pos + 1)) (chk (InR (pos + 1 - 1)) (chk (0 ≤ pos + 1 - 1 ∧ pos + 1 - 1 < (l.length : Int)) (chk (InR (l.getD (pos + 1 - 1).toNat 0)) (chk ((0 ≤ l.getD (pos + 1 - 1).toNat 0 ∧ l.getD (pos + 1 - 1).toNat 0 ≤ 9223372036854775807) ∧ 0 < n) (k (l.getD (pos + 1 - 1).toNat 0 % n, pos + 1)))))))) := by
  have hlen := hl.len
  refine ok_brk (fun _ => hk 0 pos (by omega) hn (by omega) h0 hp) (fun hc => ?_)
  have hc : pos < l.length := by simpa using hc
  rw [show pos + 1 - 1 = pos by omega]
  obtain ⟨h1, h2, h3, h4, h5⟩ := next_gen hl h0 hc hn
  exact ok_chk ⟨by omega, by omega⟩ (ok_chk ⟨by omega, by omega⟩ (ok_chk ⟨h0, hc⟩ (ok_chk ⟨by omega, by omega⟩ (ok_chk ⟨⟨h1, by omega⟩, hn⟩ (hk _ _ h3 h4 h5 (by omega) (by omega))))))

theorem next_ok0 {w0 w1 : Int} (e0 : w0 = 0) (e1 : w1 = 1) (hl : Bytes l) (hn : 0 < n) (k : Int × Int → Option α) (hk : ∀ v p : Int, 0 ≤ v → v < n → v ≤ 255 → 0 ≤ p → p ≤ l.length → Ok post (k (v, p))) :
    Ok post (brk (decide (0 ≥ (l.length : Int))) (k (0, 0)) (chk (0 ≤ w0 ∧ w0 < (l.length : Int)) (chk (InR (l.getD w0.toNat 0)) (chk (0 ≤ l.getD w0.toNat 0 ∧ l.getD w0.toNat 0 ≤ 9223372036854775807) (k (l.getD w0.toNat 0 % n, w1)))))) := by
  subst e0; subst e1
  refine ok_brk (fun _ => hk 0 0 (by omega) hn (by omega) (by omega) (by omega)) (fun hc => ?_)
  have hc : (0 : Int) < l.length := by have := of_decide_eq_false hc; omega
  obtain ⟨h1, h2, h3, h4, h5⟩ := next_gen hl (Int.le_refl 0) hc hn
  exact ok_chk ⟨by omega, hc⟩ (ok_chk ⟨by omega, by omega⟩ (ok_chk ⟨h1, by omega⟩ (hk _ _ h3 h4 h5 (by omega) (by omega))))
end

/-- Amounts in a field's bounds. -/
def Inside (cells : List Span) (am : List Int) : Prop := ∀ i, i < am.length → (cells.getD i ⟨0, 0⟩).Lo ≤ am.getD i 0 ∧ am.getD i 0 ≤ (cells.getD i ⟨0, 0⟩).Hi

structure MadeOK (x : Field × List Span × List Int) : Prop where
  f : FieldOK x.1
  small : x.1.W ≤ 4 ∧ x.1.H ≤ 4
  caps : CapsOK x.1.Cells.length x.2.1
  len : x.2.2.length = x.1.Cells.length
  inside : Inside x.1.Cells x.2.2
  nn : ∀ a ∈ x.2.2, 0 ≤ a ∧ a ≤ 600
  hi : ∀ s ∈ x.1.Cells, s.Hi ≤ 600
  chi : ∀ s ∈ x.2.1, s.Hi ≤ 200

theorem inside_snoc {cells : List Span} {am : List Int} {s : Span} {a : Int} (hl : am.length = cells.length) (h : Inside cells am) (h1 : s.Lo ≤ a) (h2 : a ≤ s.Hi) : Inside (cells ++ [s]) (am ++ [a]) := by
  intro i hi
  rw [List.length_append, List.length_singleton] at hi
  by_cases e : i < am.length
  · rw [getD_append_left' e, getD_append_left' (by omega)]; exact h i e
  · obtain rfl : i = am.length := by omega
    rw [getD_append_here, hl, getD_append_here]; exact ⟨h1, h2⟩

theorem mem_snoc {α : Type} {p : α → Prop} {l : List α} {x : α} (h : ∀ y ∈ l, p y) (hx : p x) : ∀ y ∈ l ++ [x], p y := by
  intro y hy
  rcases List.mem_append.1 hy with hy | hy
  · exact h y hy
  · rcases List.mem_singleton.1 hy with rfl; exact hx

theorem Made_ok {F : Nat} {l : List Int} (hF : 100 < F) (hl : Bytes l) : Ok MadeOK (law11_Made F l) := by
  unfold law11_Made
  refine ok_join (fun x : Int × Int => 0 ≤ x.1 ∧ x.1 < 4 ∧ 0 ≤ x.2 ∧ x.2 ≤ l.length) ?_ fun k hk => next_ok0 (by decide) (by decide) hl (by decide) k fun v p h1 h2 _ h3 h4 => hk _ ⟨h1, h2, h3, h4⟩
  rintro ⟨w, p0⟩ ⟨w1, w2, w3, w4⟩
  simp only at w1 w2 w3 w4
  refine ok_chk (by constructor <;> (first | omega | (dsimp only; omega))) ?_
  refine ok_join (fun x : Int × Int => 0 ≤ x.1 ∧ x.1 < 4 ∧ 0 ≤ x.2 ∧ x.2 ≤ l.length) ?_ fun k hk => next_ok hl w3 w4 (by decide) k fun v p h1 h2 _ h3 h4 => hk _ ⟨h1, h2, h3, h4⟩
  rintro ⟨h, p1⟩ ⟨v1, v2, v3, v4⟩
  simp only at v1 v2 v3 v4
  have hb := mul_bound (w := 1 + w) (h := 1 + h) (by omega) (by omega) (by omega) (by omega)
  refine ok_chk (by constructor <;> (first | omega | (dsimp only; omega))) (ok_chk (show InR ((1 + w) * (1 + h)) from ⟨by omega, by omega⟩) ?_)
  refine ok_loop (fun x : List Int × Int × List Span × List Span × Int => 0 ≤ x.2.1 ∧ x.2.1 ≤ (1 + w) * (1 + h) ∧ (x.1.length : Int) = x.2.1 ∧ (x.2.2.1.length : Int) = x.2.1 ∧ (x.2.2.2.1.length : Int) = x.2.1 ∧ 0 ≤ x.2.2.2.2 ∧ x.2.2.2.2 ≤ l.length ∧
    Inside x.2.2.2.1 x.1 ∧ (∀ a ∈ x.1, 0 ≤ a ∧ a ≤ 600) ∧ (∀ s ∈ x.2.2.1, SpanOK 200 s) ∧ (∀ s ∈ x.2.2.2.1, SpanOK 600 s)) (fun x : List Int × Int × List Span × List Span × Int => ((1 + w) * (1 + h)).toNat - x.2.1.toNat)
    ⟨by simp, by simp; omega, rfl, rfl, rfl, v3, v4, fun i hi => absurd hi (Nat.not_lt_zero _), by simp, by simp, by simp⟩ (by simp; omega) ?_
  rintro ⟨am, i, caps, cells, pos⟩ next ⟨i1, i2, i3, i4, i5, i6, i7, i8, i9, i10, i11⟩ hn
  simp only at i1 i2 i3 i4 i5 i6 i7 i8 i9 i10 i11
  refine ok_brk (fun hc => ?_) (fun hc => ok_some ?_)
  · have hc : i < (1 + w) * (1 + h) := by simpa using hc
    refine ok_join (fun x : Int × Int => 0 ≤ x.1 ∧ x.1 < 256 ∧ 0 ≤ x.2 ∧ x.2 ≤ l.length) ?_ fun k hk => next_ok hl i6 i7 (by decide) k fun v p h1 h2 _ h3 h4 => hk _ ⟨h1, h2, h3, h4⟩
    rintro ⟨a, p2⟩ ⟨a1, a2, a3, a4⟩
    simp only at a1 a2 a3 a4
    have hlo : 0 ≤ (if 4 * a - 500 > 0 then 4 * a - 500 else 0) ∧ (if 4 * a - 500 > 0 then 4 * a - 500 else 0) ≤ 520 := by split <;> omega
    refine ok_chk (by constructor <;> (first | omega | (dsimp only; omega))) (ok_chk (by constructor <;> (first | omega | (dsimp only; omega))) ?_)
    refine ok_join (fun x : Int × Int => 0 ≤ x.1 ∧ x.1 < 60 ∧ 0 ≤ x.2 ∧ x.2 ≤ l.length) ?_ fun k hk => next_ok hl a3 a4 (by decide) k fun v p h1 h2 _ h3 h4 => hk _ ⟨h1, h2, h3, h4⟩
    rintro ⟨b, p3⟩ ⟨b1, b2, b3, b4⟩
    simp only at b1 b2 b3 b4
    show Ok MadeOK (chk (InR ((if 4 * a - 500 > 0 then 4 * a - 500 else 0) + b)) _)
    generalize (if 4 * a - 500 > 0 then 4 * a - 500 else 0) = lo at hlo ⊢
    refine ok_chk ⟨by omega, by omega⟩ (ok_chk (show cells.length + 1 ≤ 1000000 by omega) (ok_chk (show InR (lo + b - lo) from ⟨by omega, by omega⟩) (ok_chk (show InR (lo + b - lo + 1) from ⟨by omega, by omega⟩) ?_)))
    refine ok_join (fun x : Int × Int => 0 ≤ x.1 ∧ x.1 < lo + b - lo + 1 ∧ 0 ≤ x.2 ∧ x.2 ≤ l.length) ?_ fun k hk => next_okS (n := lo + b - lo + 1) hl b3 b4 (by omega) k fun v p h1 h2 _ h3 h4 => hk _ ⟨h1, h2, h3, h4⟩
    rintro ⟨c, p4⟩ ⟨c1, c2, c3, c4⟩
    simp only at c1 c2 c3 c4
    refine ok_chk (show InR (lo + c) from ⟨by omega, by omega⟩) (ok_chk (show am.length + 1 ≤ 1000000 by omega) ?_)
    refine ok_join (fun x : Int × Int => 0 ≤ x.1 ∧ x.1 < 100 ∧ 0 ≤ x.2 ∧ x.2 ≤ l.length) ?_ fun k hk => next_ok hl c3 c4 (by decide) k fun v p h1 h2 _ h3 h4 => hk _ ⟨h1, h2, h3, h4⟩
    rintro ⟨d, p5⟩ ⟨d1, d2, d3, d4⟩
    simp only at d1 d2 d3 d4
    refine ok_join (fun x : Int × Int => 0 ≤ x.1 ∧ x.1 < 40 ∧ 0 ≤ x.2 ∧ x.2 ≤ l.length) ?_ fun k hk => next_ok hl d3 d4 (by decide) k fun v p h1 h2 _ h3 h4 => hk _ ⟨h1, h2, h3, h4⟩
    rintro ⟨e, p6⟩ ⟨e1, e2, e3, e4⟩
    simp only at e1 e2 e3 e4
    refine ok_chk (show InR (d + e) from ⟨by omega, by omega⟩) (ok_chk (show caps.length + 1 ≤ 1000000 by omega) (ok_chk (show InR (i + 1) from ⟨by omega, by omega⟩) (hn _ ?_ ?_)))
    · refine ⟨by show 0 ≤ i + 1; omega, by show i + 1 ≤ _; omega, ?_, ?_, ?_, e3, e4, inside_snoc (show am.length = cells.length by omega) i8 ?_ ?_, mem_snoc i9 ⟨by omega, by omega⟩, mem_snoc i10 ⟨by show 0 ≤ d; omega, by show d ≤ d + e; omega, by show d + e ≤ 200; omega⟩, mem_snoc i11 ⟨by show 0 ≤ lo; omega, by show lo ≤ lo + b; omega, by show lo + b ≤ 600; omega⟩⟩
      · show ((am ++ [_]).length : Int) = i + 1
        rw [List.length_append, List.length_singleton]; omega
      · show ((caps ++ [_]).length : Int) = i + 1
        rw [List.length_append, List.length_singleton]; omega
      · show ((cells ++ [_]).length : Int) = i + 1
        rw [List.length_append, List.length_singleton]; omega
      · show lo ≤ lo + c; omega
      · show lo + c ≤ lo + b; omega
    · show ((1 + w) * (1 + h)).toNat - (i + 1).toNat < ((1 + w) * (1 + h)).toNat - i.toNat
      omega
  · have hc : ¬ i < (1 + w) * (1 + h) := by simpa using hc
    have hi : i = (1 + w) * (1 + h) := by omega
    exact ⟨⟨⟨by show 1 ≤ 1 + w; omega, by show 1 + w ≤ 8; omega⟩, ⟨by show 1 ≤ 1 + h; omega, by show 1 + h ≤ 8; omega⟩, by show (cells.length : Int) = (1 + w) * (1 + h); omega, fun s hs => by have := i11 s hs; exact ⟨this.1, this.2.1, by have := this.2.2; omega⟩⟩,
      ⟨by show 1 + w ≤ 4; omega, by show 1 + h ≤ 4; omega⟩, ⟨by show caps.length = cells.length; omega, fun s hs => by have := i10 s hs; exact ⟨this.1, this.2.1, by have := this.2.2; omega⟩⟩, by show am.length = cells.length; omega, i8, i9, fun s hs => (i11 s hs).2.2, fun s hs => (i10 s hs).2.2⟩
end Go.Proofs.Sp

namespace Go.Proofs.Sp
open Go Go.KX

theorem inside_le {cells : List Span} {am : List Int} (hl : am.length = cells.length) (h : Inside cells am) : LeL (cells.map (·.Lo)) am ∧ LeL am (cells.map (·.Hi)) := by
  refine ⟨⟨by simp [hl], fun i => ?_⟩, ⟨by simp [hl], fun i => ?_⟩⟩
  · by_cases hi : i < am.length
    · rw [getD_map _ _ _ ⟨0, 0⟩ _ (by omega)]; exact (h i hi).1
    · simp [List.getD_eq_getElem?_getD, List.getElem?_eq_none (show (cells.map (·.Lo)).length ≤ i by simp; omega), List.getElem?_eq_none (show am.length ≤ i by omega)]
  · by_cases hi : i < am.length
    · rw [getD_map _ _ _ ⟨0, 0⟩ _ (by omega)]; exact (h i hi).2
    · simp [List.getD_eq_getElem?_getD, List.getElem?_eq_none (show (cells.map (·.Hi)).length ≤ i by simp; omega), List.getElem?_eq_none (show am.length ≤ i by omega)]

theorem leL_tail {a b : Int} {l r : List Int} (h : LeL (a :: l) (b :: r)) : a ≤ b ∧ LeL l r :=
  ⟨by simpa using h.2 0, by simpa using h.1, fun i => by simpa using h.2 (i + 1)⟩
theorem sumL_mono : ∀ {l r : List Int}, LeL l r → sumL l ≤ sumL r
  | [], [], _ => Int.le_refl _
  | [], _ :: _, h => by have := h.1; simp at this
  | _ :: _, [], h => by have := h.1; simp at this
  | a :: l, b :: r, h => by
    obtain ⟨h1, h2⟩ := leL_tail h
    have := sumL_mono h2
    simp only [sumL]; omega
theorem sumL_rest {l r : List Int} (h : LeL l r) {i : Nat} (hi : i < l.length) : sumL l - l.getD i 0 ≤ sumL r - r.getD i 0 := by
  have h1 : LeL (l.set i 0) (r.set i 0) := by
    refine ⟨by simp [h.1], fun j => ?_⟩
    rw [getD_set' hi, getD_set' (by rw [← h.1]; exact hi)]
    split
    · exact Int.le_refl _
    · exact h.2 j
  have := sumL_mono h1
  rw [sumL_set _ _ _ hi, sumL_set _ _ _ (by rw [← h.1]; exact hi)] at this
  omega

/-- Capacities in spans. -/
structure OwnIn (caps : List Span) (own : List Int) : Prop where
  len : own.length = caps.length
  ok : Inside caps own

theorem flow_inside {F : Nat} {f : Field} {caps : List Span} {am own : List Int} (hF : 100 < F) (hf : FieldOK f) (hc : CapsOK f.Cells.length caps) (ho : OwnIn caps own) (hl : am.length = f.Cells.length)
    (h : Inside f.Cells am) (hfl : FlowOK f.W f.H am own) : Inside (spreadV f.W f.H f.Cells caps) (hourV f.W f.H am own own) := by
  obtain ⟨_, _, l1, l2, _⟩ := spread_eq hF hf hc
  obtain ⟨_, g, hs⟩ := Flow_eq hF hfl
  obtain ⟨a1, a2⟩ := inside_le hl h
  obtain ⟨b1, b2⟩ := inside_le ho.len ho.ok
  have c1 := hour_le (W := f.W) (H := f.H) a1 b1 b2
  have c2 := hour_le (W := f.W) (H := f.H) a2 b2 b1
  intro i hi
  rw [g.len] at hi
  have e : (spreadV f.W f.H f.Cells caps).getD i ⟨0, 0⟩ = ⟨minO ((loV f.W f.H f.Cells caps).getD i 0), minO ((hiV f.W f.H f.Cells caps).getD i 0)⟩ := by
    rw [getD_get (by rw [spreadV, List.length_zipWith, l1, l2]; omega), getD_get (by omega), getD_get (by omega)]
    simp [spreadV]
  rw [e]
  exact ⟨Int.le_trans (minO_self _) (c1.2 i), minO_ge (c2.2 i) (g.get i).2⟩

theorem tot_inside {cells : List Span} {am : List Int} (hl : am.length = cells.length) (h : Inside cells am) : (totV cells).Lo ≤ sumL am ∧ sumL am ≤ (totV cells).Hi := by
  obtain ⟨a1, a2⟩ := inside_le hl h
  exact ⟨sumL_mono a1, sumL_mono a2⟩

theorem cut_inside {cells : List Span} {am : List Int} {t : Span} (hl : am.length = cells.length) (h : Inside cells am) (h1 : t.Lo ≤ sumL am) (h2 : sumL am ≤ t.Hi) : Inside (cells.map (cutV t (totV cells))) am := by
  obtain ⟨a1, a2⟩ := inside_le hl h
  intro i hi
  have hi' : i < cells.length := by omega
  rw [getD_map _ _ _ ⟨0, 0⟩ _ hi']
  have r1 := sumL_rest a1 (i := i) (by simpa using hi')
  have r2 := sumL_rest a2 (i := i) hi
  rw [getD_map _ _ _ ⟨0, 0⟩ _ hi'] at r1 r2
  have h3 := h i hi
  have e1 : (totV cells).Lo = sumL (cells.map (·.Lo)) := rfl
  have e2 : (totV cells).Hi = sumL (cells.map (·.Hi)) := rfl
  constructor
  · simp only [cutV]
    split <;> omega
  · simp only [cutV]
    split <;> omega

theorem cut_field {f : Field} {am : List Int} {t : Span} (hf : FieldOK f) (hl : am.length = f.Cells.length) (h : Inside (f.Cells.map (cutV t (totV f.Cells))) am) : FieldOK ⟨f.W, f.H, f.Cells.map (cutV t (totV f.Cells))⟩ := by
  refine ⟨hf.w, hf.h, by simpa using hf.len, fun s hs => ?_⟩
  obtain ⟨i, hi, rfl⟩ := List.getElem_of_mem hs
  have hi' : i < f.Cells.length := by simpa using hi
  have h1 := h i (by omega)
  have h2 := hf.cells _ (List.getElem_mem hi')
  rw [getD_get hi] at h1
  refine ⟨?_, by omega, ?_⟩
  · simp only [List.getElem_map, cutV]; split <;> omega
  · simp only [List.getElem_map, cutV]; split <;> omega

theorem own_step {caps : List Span} {own : List Int} {i v : Int} (h1 : 0 ≤ i) (h2 : i < caps.length) (hl : (own.length : Int) = i) (h : ∀ j, j < own.length → (caps.getD j ⟨0, 0⟩).Lo ≤ own.getD j 0 ∧ own.getD j 0 ≤ (caps.getD j ⟨0, 0⟩).Hi)
    (hv : 0 ≤ v) (hv2 : (caps.getD i.toNat ⟨0, 0⟩).Lo + v ≤ (caps.getD i.toNat ⟨0, 0⟩).Hi) :
    Inside caps (own ++ [(caps.getD i.toNat ⟨0, 0⟩).Lo + v]) := by
  intro j hj
  rw [List.length_append, List.length_singleton] at hj
  by_cases e : j < own.length
  · rw [getD_append_left' e]; exact h j e
  · obtain rfl : j = own.length := by omega
    rw [getD_append_here, show own.length = i.toNat by omega]
    exact ⟨by omega, hv2⟩
end Go.Proofs.Sp

namespace Go.Proofs.Sp
open Go Go.KX

theorem holds_ok {a0 a1 : List Int} {a2 : Int} (h0 : Bytes a0) (h1 : Bytes a1) (h2 : 0 ≤ a2 ∧ a2 ≤ 255) : law11_SpillHolds 1000 a0 a1 a2 = some true := by
  refine Ok.eq ?_
  unfold law11_SpillHolds
  refine ok_bnd MadeOK (Made_ok (by omega) h0) ?_
  rintro ⟨f, caps, am0⟩ hm
  have hf : FieldOK f := hm.f
  have hs := hf.small
  have hlen : am0.length = f.Cells.length := hm.len
  have hnn : ∀ a ∈ am0, 0 ≤ a ∧ a ≤ 1000000 := fun a ha => by have := hm.nn a ha; omega
  have hall0 := sumL_nonneg am0 fun a ha => (hnn a ha).1
  have hall1 := sumL_le (B := 600) am0 fun a ha => (hm.nn a ha).2
  have hcp : CapsOK f.Cells.length caps := hm.caps
  refine ok_bnde (sum_eq (by show am0.length < 1000; omega) (by show am0.length ≤ 1000; omega) hnn) ?_
  refine ok_chk ⟨by omega, by omega⟩ (ok_chk ⟨by omega, by omega⟩ (ok_chk ⟨by omega, by omega⟩ ?_))
  show Ok (fun x => x = true) (loopC _ _ _)
  generalize hall : sumL am0 = all at hall0 hall1
  have hallB : all ≤ 40000 := by omega
  refine ok_loop (fun x : Int × List Int × Int => 0 ≤ x.1 ∧ x.1 ≤ 1 + a2 % 12 ∧ x.2.1.length = f.Cells.length ∧ (∀ a ∈ x.2.1, 0 ≤ a) ∧ sumL x.2.1 = all ∧ Inside (spreadN f.W f.H caps x.1.toNat f.Cells) x.2.1 ∧ 0 ≤ x.2.2 ∧ x.2.2 ≤ a1.length) (fun x : Int × List Int × Int => 100 - x.1.toNat)
    ⟨by simp, by simp; omega, hlen, fun a ha => (hnn a ha).1, hall, hm.inside, by simp, by simp⟩ (by simp) ?_
  rintro ⟨hour, am, pos⟩ next ⟨i1, i2, i3, i4, i5, i6, i7, i8⟩ hn
  simp only at i1 i2 i3 i4 i5 i6 i7 i8
  obtain ⟨g1, g2⟩ := spreadN_ok (F := 1000) (by omega) hf hcp hour.toNat
  refine ok_brk (fun hc => ?_) (fun hc => ok_bnde awake_ok (ok_some rfl))
  have hc : hour < 1 + a2 % 12 := by simpa using hc
  refine ok_bnde (Spread_eq (f := f) (by omega) hf hcp ⟨i1, by omega⟩) ?_
  refine ok_bnde (Holds_eq (f := ⟨f.W, f.H, spreadN f.W f.H caps hour.toNat f.Cells⟩) (by omega) g1 (by rw [i3]; exact g2.symm)) ?_
  refine ok_bnde (Total_eq (f := ⟨f.W, f.H, spreadN f.W f.H caps hour.toNat f.Cells⟩) (by omega) g1) ?_
  obtain ⟨t1, t2⟩ := tot_inside (by omega) i6
  rw [i5] at t1 t2
  rw [decide_eq_true (show ∀ i, i < am.length → ((Field.mk f.W f.H (spreadN f.W f.H caps hour.toNat f.Cells)).Cells.getD i ⟨0, 0⟩).Lo ≤ am.getD i 0 ∧ am.getD i 0 ≤ ((Field.mk f.W f.H (spreadN f.W f.H caps hour.toNat f.Cells)).Cells.getD i ⟨0, 0⟩).Hi from i6)]
  refine ok_brkF ?_ ?_
  · show (false || false || false || false || decide ((totV (spreadN f.W f.H caps hour.toNat f.Cells)).Lo > all) || decide ((totV (spreadN f.W f.H caps hour.toNat f.Cells)).Hi < all)) = false
    rw [decide_eq_false (by omega), decide_eq_false (by omega)]; rfl
  refine ok_join (fun x : Int × Int => 0 ≤ x.1 ∧ x.1 < 9 ∧ 0 ≤ x.2 ∧ x.2 ≤ a1.length) ?_ fun k hk => next_ok h1 i7 i8 (by decide) k fun v p e1 e2 _ e3 e4 => hk _ ⟨e1, e2, e3, e4⟩
  rintro ⟨v7, p7⟩ ⟨b1, b2, b3, b4⟩
  simp only at b1 b2 b3 b4
  refine ok_chk (show InR (all - v7) from ⟨by omega, by omega⟩) ?_
  refine ok_join (fun x : Int × Int => 0 ≤ x.1 ∧ x.1 < 9 ∧ 0 ≤ x.2 ∧ x.2 ≤ a1.length) ?_ fun k hk => next_ok h1 b3 b4 (by decide) k fun v p e1 e2 _ e3 e4 => hk _ ⟨e1, e2, e3, e4⟩
  rintro ⟨v8, p8⟩ ⟨c1, c2, c3, c4⟩
  simp only at c1 c2 c3 c4
  refine ok_chk (show InR (all + v8) from ⟨by omega, by omega⟩) ?_
  have hsp : SpanOK 1000000 ⟨if all - v7 > 0 then all - v7 else 0, all + v8⟩ := ⟨by simp only; split <;> omega, by simp only; split <;> omega, by simp only; omega⟩
  have hlo : (if all - v7 > 0 then all - v7 else 0) ≤ all := by split <;> omega
  refine ok_bnde (Tighten_eq (f := ⟨f.W, f.H, spreadN f.W f.H caps hour.toNat f.Cells⟩) (t := ⟨if all - v7 > 0 then all - v7 else 0, all + v8⟩) (by omega) g1 hsp (by show _ ≤ all + v8; simp only; omega) (by show (if all - v7 > 0 then all - v7 else 0) ≤ _; simp only; omega)) ?_
  have hci := cut_inside (t := ⟨if all - v7 > 0 then all - v7 else 0, all + v8⟩) (by omega) i6 (by rw [i5]; exact hlo) (by rw [i5]; show all ≤ all + v8; omega)
  have hcf := cut_field (f := ⟨f.W, f.H, spreadN f.W f.H caps hour.toNat f.Cells⟩) g1 (by rw [i3]; exact g2.symm) hci
  refine ok_bnde (Holds_eq (by omega) hcf (by show am.length = (List.map _ _).length; rw [List.length_map, i3]; exact g2.symm)) ?_
  rw [decide_eq_true (show ∀ i, i < am.length → _ from hci)]
  refine ok_brkF rfl ?_
  have hcl : caps.length = f.Cells.length := hcp.len
  refine ok_loop (fun x : Int × List Int × Int => 0 ≤ x.1 ∧ x.1 ≤ caps.length ∧ (x.2.1.length : Int) = x.1 ∧ Inside caps x.2.1 ∧ 0 ≤ x.2.2 ∧ x.2.2 ≤ a1.length) (fun x : Int × List Int × Int => caps.length - x.1.toNat) ⟨by simp, by simp, rfl, fun j hj => absurd hj (Nat.not_lt_zero _), c3, c4⟩ (by simp; omega) ?_
  rintro ⟨i, own, p9⟩ next2 ⟨j1, j2, j3, j4, j5, j6⟩ hn2
  simp only at j1 j2 j3 j4 j5 j6
  refine ok_brk (fun hcc => ?_) (fun hcc => ?_)
  · have hcc : i < caps.length := by simpa using hcc
    have hs1 := hcp.ok _ (getD_mem (i := i.toNat) (d := ⟨0, 0⟩) (by omega : i.toNat < caps.length))
    refine ok_chk ⟨j1, hcc⟩ (ok_chk (show InR ((caps.getD i.toNat ⟨0, 0⟩).Hi - (caps.getD i.toNat ⟨0, 0⟩).Lo) from ⟨by omega, by omega⟩) (ok_chk (show InR ((caps.getD i.toNat ⟨0, 0⟩).Hi - (caps.getD i.toNat ⟨0, 0⟩).Lo + 1) from ⟨by omega, by omega⟩) ?_))
    have hmn : 0 < (if (caps.getD i.toNat ⟨0, 0⟩).Hi - (caps.getD i.toNat ⟨0, 0⟩).Lo + 1 < 256 then (caps.getD i.toNat ⟨0, 0⟩).Hi - (caps.getD i.toNat ⟨0, 0⟩).Lo + 1 else 256) ∧ (if (caps.getD i.toNat ⟨0, 0⟩).Hi - (caps.getD i.toNat ⟨0, 0⟩).Lo + 1 < 256 then (caps.getD i.toNat ⟨0, 0⟩).Hi - (caps.getD i.toNat ⟨0, 0⟩).Lo + 1 else 256) ≤ (caps.getD i.toNat ⟨0, 0⟩).Hi - (caps.getD i.toNat ⟨0, 0⟩).Lo + 1 := by split <;> omega
    refine ok_join (fun x : Int × Int => 0 ≤ x.1 ∧ (caps.getD i.toNat ⟨0, 0⟩).Lo + x.1 ≤ (caps.getD i.toNat ⟨0, 0⟩).Hi ∧ 0 ≤ x.2 ∧ x.2 ≤ a1.length) ?_ fun k hk => next_okS (n := if (caps.getD i.toNat ⟨0, 0⟩).Hi - (caps.getD i.toNat ⟨0, 0⟩).Lo + 1 < 256 then (caps.getD i.toNat ⟨0, 0⟩).Hi - (caps.getD i.toNat ⟨0, 0⟩).Lo + 1 else 256) h1 j5 j6 hmn.1 k fun v p e1 e2 _ e3 e4 => hk _ ⟨e1, by show _ + v ≤ _; omega, e3, e4⟩
    rintro ⟨v, p⟩ ⟨d1, d2, d3, d4⟩
    simp only at d1 d2 d3 d4
    refine ok_chk (show InR ((caps.getD i.toNat ⟨0, 0⟩).Lo + v) from ⟨by omega, by omega⟩) (ok_chk (show own.length + 1 ≤ 1000000 by omega) (ok_chk (show InR (i + 1) from ⟨by omega, by omega⟩) (hn2 _ ⟨by show 0 ≤ i + 1; omega, by show i + 1 ≤ _; omega, ?_, own_step j1 hcc j3 j4 d1 d2, d3, d4⟩ (by show caps.length - (i + 1).toNat < caps.length - i.toNat; omega))))
    show ((own ++ [_]).length : Int) = i + 1
    rw [List.length_append, List.length_singleton]; omega
  have hcc : ¬ i < caps.length := by simpa using hcc
  have hown : OwnIn caps own := ⟨by omega, j4⟩
  have hl0 := hf.len
  have hfl : FlowOK f.W f.H am own := ⟨hf.w, hf.h, by omega, by omega, i4, by omega, fun a ha => by
    obtain ⟨j, hj, rfl⟩ := List.getElem_of_mem ha
    have e1 := j4 j hj
    have e2 := hcp.ok _ (getD_mem (i := j) (d := ⟨0, 0⟩) (by omega : j < caps.length))
    rw [getD_get hj] at e1
    omega⟩
  obtain ⟨r1, r2, r3⟩ := Flow_eq (F := 1000) (by omega) hfl
  refine ok_bnde r1 (ok_brkF rfl (ok_brkF ?_ (ok_bnde (sum_eq (by show (hourV f.W f.H am own own).length < 1000; rw [r2.len]; omega) (by show (hourV f.W f.H am own own).length ≤ 1000; rw [r2.len]; omega) fun x hx => ⟨r2.nn x hx, Int.le_trans (mem_le_sumL _ r2.nn x hx) r2.sum⟩) (ok_brkF ?_ ?_))))
  · show (((hourV f.W f.H am own own).length : Int) != (f.Cells.length : Int)) = false
    rw [r2.len, i3]; simp
  · show (sumL (hourV f.W f.H am own own) != all) = false
    rw [r3, i5]; simp
  refine ok_join (fun x : Int => x = -1) ?_ fun k hk => ?_
  · rintro x rfl
    refine ok_brkF (by decide) (ok_chk (show InR (hour + 1) from ⟨by omega, by omega⟩) (hn _ ⟨by show 0 ≤ hour + 1; omega, by show hour + 1 ≤ _; omega, by show (hourV f.W f.H am own own).length = _; rw [r2.len, i3], r2.nn, by show sumL (hourV f.W f.H am own own) = all; rw [r3, i5], ?_, j5, j6⟩ (by show 100 - (hour + 1).toNat < 100 - hour.toNat; omega)))
    show Inside (spreadN f.W f.H caps (hour + 1).toNat f.Cells) (hourV f.W f.H am own own)
    rw [show (hour + 1).toNat = hour.toNat + 1 by omega, spreadN]
    exact flow_inside (F := 1000) (f := ⟨f.W, f.H, spreadN f.W f.H caps hour.toNat f.Cells⟩) (by omega) g1 (by show CapsOK (spreadN f.W f.H caps hour.toNat f.Cells).length caps; rw [g2]; exact hcp) hown (by rw [i3]; exact g2.symm) i6 hfl
  · refine ok_loop (fun x : Int => 0 ≤ x) (fun x : Int => (hourV f.W f.H am own own).length - x.toNat) (by omega) (by rw [r2.len]; omega) ?_
    intro x next3 q1 hn3
    refine ok_brk (fun hx => ?_) (fun _ => hk _ rfl)
    have hx : x < (hourV f.W f.H am own own).length := by simpa using hx
    refine ok_chk ⟨q1, hx⟩ (ok_bnde (b := decide ((hourV f.W f.H am own own).getD x.toNat 0 < 0)) rfl (ok_brkF ?_ (ok_chk (show InR (x + 1) from ⟨by omega, by have := r2.len; omega⟩) (hn3 _ (by omega) (by omega)))))
    have := (r2.get x.toNat).1
    rw [decide_eq_false_iff_not]; omega
end Go.Proofs.Sp

namespace Go.Proofs.Sp
open Go Go.KX
theorem holds_plain {a0 a1 : List Int} {a2 : Int} (h0 : (∀ y ∈ a0, 0 ≤ y ∧ y ≤ 255) ∧ a0.length ≤ 9223372036854775807) (h1 : (∀ y ∈ a1, 0 ≤ y ∧ y ≤ 255) ∧ a1.length ≤ 9223372036854775807) (h2 : 0 ≤ a2 ∧ a2 ≤ 255) :
    law11_SpillHolds 1000 a0 a1 a2 = some true := holds_ok ⟨h0.1, h0.2⟩ ⟨h1.1, h1.2⟩ h2
end Go.Proofs.Sp

namespace Go.KX
open Go Go.ChangeShapes Go.WideShapes Go.RowKit

/-- Types whose reading asks only for cells: numbers, Booleans, and structs, arrays and slices of such. -/
def goodT (P : Program) : Nat → TypeId → Bool
  | 0, _ => false
  | n + 1, t => match P.underlying t with
    | some (.int _) => true
    | some .bool => true
    | some (.struct fs) => fs.toList.all fun f => goodT P n f.type
    | some (.array _ e) => goodT P n e
    | some (.slice e) => goodT P n e && Nat.ble 1 (P.cellsOf e)
    | _ => false

theorem mapM_carry' {α β : Type} {f g : α → Option β} : ∀ {l : List α} {r : List β}, l.mapM f = some r → (∀ x y, x ∈ l → y ∈ r → f x = some y → g x = some y) → l.mapM g = some r := mapM_carry

section
variable {H : Type} {enc : TypeId × Value → H} {P : Program} {w : World} {base : Nat} {held : Bool}

theorem trod_spare {sp : Nat → Bool} : ∀ (m n : Nat) (t : TypeId) (cs : List Value) (x : DataW H × List MemPlace), goodT P m t = true →
    DataW.trod enc P w base (fun _ => true) held n t cs = some x → (∀ p ∈ x.2, sp p.block = true) → DataW.trod enc P w base sp held n t cs = some x := by
  intro m
  induction m with
  | zero => intro n t cs x h; cases h
  | succ m ih =>
    intro n t cs x hg h hs
    cases n with
    | zero => simp [DataW.trod] at h
    | succ n =>
      rw [DataW.trod_step] at h ⊢
      unfold goodT at hg
      unfold DataW.trodStep at h ⊢
      split at h
      case h_1 => exact h
      case h_2 => exact h
      case h_8 e a len cap hu =>
        rw [hu] at hg
        simp only [Bool.and_eq_true] at hg
        simp only at h ⊢
        split at h
        · rename_i hc
          rw [if_pos hc]
          simp only [if_true, Option.map_eq_some_iff, Option.bind_eq_some_iff] at h ⊢
          obtain ⟨elems, he, rest, hr, rfl⟩ := h
          have hlen : elems.length = len := by simpa using mapM_some_length he
          have hrlen : rest.length = cap - len := by simpa using mapM_some_length hr
          have hk : 1 ≤ P.cellsOf e := Nat.le_of_ble_eq_true hg.2
          have one : ∀ i y, (w.cells? base (a.add (i * P.cellsOf e)) (P.cellsOf e)).bind (DataW.trod enc P w base (fun _ => true) held n e) = some y → (∀ p ∈ y.2, sp p.block = true) →
              (w.cells? base (a.add (i * P.cellsOf e)) (P.cellsOf e)).bind (DataW.trod enc P w base sp held n e) = some y := by
            intro i y hy hp
            rw [Option.bind_eq_some_iff] at hy ⊢
            obtain ⟨cs', h1, h2⟩ := hy
            exact ⟨cs', h1, ih n e cs' y hg.1 h2 hp⟩
          have hpl : ∀ y, y ∈ elems ++ rest → ∀ p ∈ y.2, sp p.block = true := fun y hy p hp => hs p (by
            simp only [List.mem_append]
            exact .inr (List.mem_flatMap.2 ⟨y, hy, hp⟩))
          refine ⟨elems, mapM_carry' he fun i y hi hy hiy => one i y hiy (hpl y (by simp [hy])), rest, ?_, rfl⟩
          by_cases hcap : cap = 0
          · have : rest = [] := List.length_eq_zero_iff.1 (by omega)
            subst this
            split
            · rw [show cap - len = 0 by omega]; rfl
            · rfl
          · have : sp a.block = true := by
              have := hs (.cell a.block (a.off + 0)) (by
                simp only [List.mem_append]
                refine .inl (MemPlace.mem_row.2 ⟨0, ?_, rfl⟩)
                rw [hlen, hrlen, show len + (cap - len) = cap by omega]
                exact Nat.mul_pos (by omega) hk)
              exact this
            rw [if_pos this]
            exact mapM_carry' hr fun j y hj hy hjy => one _ y hjy (hpl y (by simp [hy]))
        · cases h
      case h_7 => exact h
      case h_9 fs cs' hu =>
        rw [hu] at hg
        simp only at hg
        split at h
        · rename_i hl
          rw [if_pos hl]
          simp only [Option.map_eq_some_iff] at h ⊢
          obtain ⟨xs, hx, rfl⟩ := h
          refine ⟨xs, mapM_carry' hx fun f y hf hy hfy => ih n f.type _ y (List.all_eq_true.1 hg f hf) hfy fun p hp => hs p ?_, rfl⟩
          exact List.mem_flatMap.2 ⟨y, hy, hp⟩
        · cases h
      case h_10 =>
        rename_i e hu
        rw [hu] at hg
        simp only at hg
        split at h
        · rename_i hl
          rw [if_pos hl]
          simp only [Option.map_eq_some_iff] at h ⊢
          obtain ⟨xs, hx, rfl⟩ := h
          refine ⟨xs, mapM_carry' hx fun f y hf hy hfy => ih n e _ y hg hfy fun p hp => hs p ?_, rfl⟩
          exact List.mem_flatMap.2 ⟨y, hy, hp⟩
        · cases h
      all_goals simp_all

theorem trod_move {w' : World} {sp : Nat → Bool} {t : TypeId} {v : Value} {d : DataW H} {ps : List MemPlace} (hg : goodT P 8 t = true) (h : DataW.Trod enc P w base (fun _ => true) held t v d ps)
    (hsame : ∀ p ∈ ps, w.sameAt w' p) (hs : ∀ p ∈ ps, sp p.block = true) : DataW.Trod enc P w' base sp held t v d ps := by
  obtain ⟨n, hn⟩ := h
  exact ⟨n, trod_spare 8 n t _ _ hg (DataW.trod_carry n t _ _ hn hsame) hs⟩

theorem trodAll_move {w' : World} {sp : Nat → Bool} : ∀ {ts : List TypeId} {vs : List Value} {ds : List (DataW H)} {ps : List MemPlace}, ts.all (goodT P 8) = true → DataW.TrodAll enc P w base (fun _ => true) held ts vs ds ps →
    (∀ p ∈ ps, w.sameAt w' p) → (∀ p ∈ ps, sp p.block = true) → DataW.TrodAll enc P w' base sp held ts vs ds ps := by
  intro ts
  induction ts with
  | nil =>
    intro vs ds ps _ h _ _
    obtain ⟨rfl, rfl, rfl⟩ := trodAll_nil h
    rfl
  | cons t ts ih =>
    intro vs ds ps hg h hsame hs
    obtain ⟨v, vs', d, ds', p, q, rfl, rfl, rfl, h1, h2⟩ := trodAll_cons h
    simp only [List.all_cons, Bool.and_eq_true] at hg
    exact ⟨p, q, trod_move hg.1 h1 (fun x hx => hsame x (by simp [hx])) (fun x hx => hs x (by simp [hx])), ih hg.2 h2 (fun x hx => hsame x (by simp [hx])) (fun x hx => hs x (by simp [hx])), rfl⟩

/-- A law that returns true and leaves what was there alone. -/
theorem post_law {f : Func} {s : ChangeSpec} {W W' : World} {args : Array Value} {ds gs : List (DataW H)} {before : List MemPlace} {tb : TypeId} (hW : DataW.Whole enc P f.params.toList s.vars false W args.toList ds gs before)
    (hv : s.vars = []) (hfn : s.fn H ds = { results := [.lit (.bool true)], args := ds }) (hrt : f.resultTypes = #[tb]) (htb : P.underlying tb = some .bool) (hgood : f.params.toList.all (goodT P 8) = true) (hb : Below W.heap.size W W') :
    s.post enc P f false true false false W args (.bool true) W' := by
  have hW0 := hW
  obtain ⟨p, q, hA, hV, rfl, _, _⟩ := hW
  rw [hv] at hV
  obtain ⟨rfl, rfl⟩ := trodVars_none hV
  have hlt : ∀ x ∈ p ++ [], x.block < W.heap.size := fun x hx => hW0.lt x hx
  have hsame : ∀ x ∈ p, W.sameAt W' x := fun x hx => hb.same (hlt x (by simpa using hx))
  refine ⟨ds, [], p ++ [], [], p, [], hW0, ?_, ?_, ?_, hb.frame _, fun h => by cases h⟩
  · simp only [List.append_nil, hfn, hrt]
    exact trodAll_mk1 (shut_bool htb _)
  · simp only [List.append_nil, hfn]
    exact trodAll_move hgood hA hsame fun x hx => by simpa using hlt x (by simpa using hx)
  · simp only [List.append_nil, hfn, hv]
    rfl
end

theorem wf_u8 {n : Int} (h : (Lit.int .u8 n).wf = true) : 0 ≤ n ∧ n ≤ 255 := by
  simp [Lit.wf, IntKind.min, IntKind.max, IntKind.signed, IntKind.bits] at h
  omega
theorem wf_u16 {n : Int} (h : (Lit.int .u16 n).wf = true) : 0 ≤ n ∧ n ≤ 65535 := by
  simp [Lit.wf, IntKind.min, IntKind.max, IntKind.signed, IntKind.bits] at h
  omega
theorem wf_u32 {n : Int} (h : (Lit.int .u32 n).wf = true) : 0 ≤ n ∧ n ≤ 4294967295 := by
  simp [Lit.wf, IntKind.min, IntKind.max, IntKind.signed, IntKind.bits] at h
  omega
theorem wf_i64 {n : Int} (h : (Lit.int .i64 n).wf = true) : -9223372036854775808 ≤ n ∧ n ≤ 9223372036854775807 := by
  simp [Lit.wf, IntKind.min, IntKind.max, IntKind.signed, IntKind.bits] at h
  omega

/-- Values of the type t read as something of the registered type c, of which In is so. -/
def HReads (E : Env) (t : TypeId) (c : Nat) (In : E.G.car c → Prop) : Prop :=
  E.P.cellsOf t = E.G.sz c ∧ ∀ (H : Type) (e : TypeId × Value → H) (w : World) (base : Nat) (sp : Nat → Bool) (held : Bool) (fuel : Nat) (cs : List Value) (x : DataW H × List MemPlace),
    DataW.trod e E.P w base sp held fuel t cs = some x → ∃ a : E.G.car c, HdL E.G (IsCells w) w (E.G.enc c a) cs ∧ In a

theorem isCells_of {w : World} {a : Addr} {u : Value} (h : w.cell? a = some u) : IsCells w a.block ∧ a.spot = none := by
  unfold World.cell? at h
  split at h
  · rename_i c e s hb
    refine ⟨⟨_, hb, rfl⟩, ?_⟩
    split at h
    · cases h
    · rename_i hs
      simpa using hs
  · cases h

section
variable {E : Env} {H : Type} {e : TypeId × Value → H} {w : World} {base : Nat} {sp : Nat → Bool} {held : Bool}

theorem hdL_one {x : Value} {cv : CV E.G.car} (h : Hd E.G (IsCells w) w cv x) : HdL E.G (IsCells w) w [cv] [x] := ⟨_, _, rfl, h, rfl⟩

theorem hdL_append : ∀ {a b : List (CV E.G.car)} {u v : List Value}, HdL E.G (IsCells w) w a u → HdL E.G (IsCells w) w b v → HdL E.G (IsCells w) w (a ++ b) (u ++ v)
  | [], _, _, _, h, h' => by cases h; exact h'
  | _ :: _, _, _, _, ⟨x, us, rfl, h1, h2⟩, h' => ⟨x, us ++ _, rfl, h1, hdL_append h2 h'⟩

theorem hreads_int {t : TypeId} {c : Nat} {k : IntKind} {In : E.G.car c → Prop} (f : Int → E.G.car c) (hf : ∀ n, E.G.enc c (f n) = [.v (.int k n)]) (hu : E.P.underlying t = some (.int k)) (hc : E.P.cellsOf t = E.G.sz c)
    (hIn : ∀ n, (Lit.int k n).wf = true → In (f n)) : HReads E t c In :=
  ⟨hc, fun _ _ _ _ _ _ _ _ _ h => by
    obtain ⟨n, h1, _, h2⟩ := DataW.trod_int hu h
    subst h1
    exact ⟨f n, by rw [hf]; exact hdL_one (.v _), hIn n h2⟩⟩

theorem hreads_bool {t : TypeId} {c : Nat} {In : E.G.car c → Prop} (f : Bool → E.G.car c) (hf : ∀ n, E.G.enc c (f n) = [.v (.bool n)]) (hu : E.P.underlying t = some .bool) (hc : E.P.cellsOf t = E.G.sz c) (hIn : ∀ b, In (f b)) : HReads E t c In :=
  ⟨hc, fun _ _ _ _ _ _ _ _ _ h => by
    obtain ⟨n, h1, _⟩ := DataW.trod_bool hu h
    subst h1
    exact ⟨f n, by rw [hf]; exact hdL_one (.v _), hIn n⟩⟩

theorem fields_of {t : TypeId} {fs : Array Field} {fuel : Nat} {cs : List Value} {x : DataW H × List MemPlace} (hu : E.P.underlying t = some (.struct fs)) (h : DataW.trod e E.P w base sp held fuel t cs = some x) :
    cs.length = E.P.cellsOf t ∧ ∀ (j : Nat) (fd : Field), fs[j]? = some fd → ∃ fuel y, DataW.trod e E.P w base sp held fuel fd.type ((cs.drop fd.offset).take (E.P.cellsOf fd.type)) = some y := by
  obtain ⟨xs, n, rfl, rfl, hl, hlen, hf⟩ := DataW.trod_struct hu h
  refine ⟨hl, fun j fd hj => ?_⟩
  have hlt : j < xs.length := by have := (Array.getElem?_eq_some_iff.1 hj).1; omega
  exact ⟨n, xs[j], by rw [hf j fd hj, List.getElem?_eq_getElem hlt]⟩

theorem HReads.at {t : TypeId} {c off : Nat} {In : E.G.car c → Prop} {cs : List Value} (hR : HReads E t c In)
    (hx : ∃ fuel y, DataW.trod e E.P w base sp held fuel t ((cs.drop off).take (E.P.cellsOf t)) = some y) : ∃ a, HdL E.G (IsCells w) w (E.G.enc c a) ((cs.drop off).take (E.G.sz c)) ∧ In a := by
  obtain ⟨fuel, y, h⟩ := hx
  rw [hR.1] at h
  exact hR.2 _ _ _ _ _ _ _ _ _ h

theorem hcut_cons {a r : List (CV E.G.car)} {cs : List Value} {o n : Nat} (h : HdL E.G (IsCells w) w a ((cs.drop o).take n)) (hr : HdL E.G (IsCells w) w r (cs.drop (o + n))) : HdL E.G (IsCells w) w (a ++ r) (cs.drop o) := by
  have := hdL_append h hr
  rwa [← List.drop_drop, List.take_append_drop] at this

theorem hcut_nil {cs : List Value} {o : Nat} (h : cs.length ≤ o) : HdL E.G (IsCells w) w [] (cs.drop o) := List.drop_eq_nil_of_le h

/-- A slice's elements. -/
theorem hslice_of {t el : TypeId} {c fuel : Nat} {In : E.G.car c → Prop} {cs : List Value} {x : DataW H × List MemPlace} (hu : E.P.underlying t = some (.slice el)) (hR : HReads E el c In) (hn : 0 < E.G.sz c)
    (h : DataW.trod e E.P w base sp held fuel t cs = some x) :
    ∃ (p : Option Addr) (n cap : Nat) (l : List (E.G.car c)), cs = [.slice p n cap] ∧ Hd E.G (IsCells w) w (.sl c l) (.slice p n cap) ∧ (∀ x ∈ l, In x) ∧ l.length ≤ 9223372036854775807 := by
  rcases DataW.trod_slice hu h with ⟨rfl, _⟩ | ⟨a, len, cap, elems, rest, m, _, rfl, _, hb, hl, hm, hel, hi, _, _⟩
  · exact ⟨none, 0, 0, [], rfl, Hd.mk (b := 0) (o := 0) rfl (Nat.le_refl _) (fun h => absurd rfl h) (fun i x hx => by simp at hx), by simp, by simp⟩
  have build : ∀ k, k ≤ len → ∃ l : List (E.G.car c), l.length = k ∧ ∀ i x, l[i]? = some x → In x ∧ ∃ us, w.cells? base (a.add (i * E.G.sz c)) (E.G.sz c) = some us ∧ HdL E.G (IsCells w) w (E.G.enc c x) us := by
    intro k
    induction k with
    | zero => intro _; exact ⟨[], rfl, fun i x hx => by simp at hx⟩
    | succ k ih =>
      intro hk
      obtain ⟨l, h1, h2⟩ := ih (by omega)
      have h3 := hi k (by omega)
      rw [List.getElem?_eq_getElem (by omega), hR.1, Option.bind_eq_some_iff] at h3
      obtain ⟨cs', h4, h5⟩ := h3
      obtain ⟨y, hy1, hy⟩ := hR.2 _ _ _ _ _ _ _ _ _ h5
      refine ⟨l ++ [y], by simp [h1], fun i x hx => ?_⟩
      rcases Nat.lt_or_ge i k with h6 | h6
      · rw [List.getElem?_append_left (by omega)] at hx; exact h2 i x hx
      · rw [List.getElem?_append_right (by omega)] at hx
        have : i - l.length = 0 := by
          have := (List.getElem?_eq_some_iff.1 hx).1
          simpa using this
        rw [this] at hx
        simp only [List.getElem?_cons_zero, Option.some.injEq] at hx
        subst hx
        obtain rfl : i = k := by omega
        exact ⟨hy, _, h4, hy1⟩
  obtain ⟨l, h1, h2⟩ := build len (Nat.le_refl _)
  have hcell : ∀ (i : Nat) x, l[i]? = some x → ∀ (j : Nat) (cv : CV E.G.car), (E.G.enc c x)[j]? = some cv → ∃ u, w.cell? ((a.add (i * E.G.sz c)).add j) = some u ∧ Hd E.G (IsCells w) w cv u := by
    intro i x hx j cv hcv
    obtain ⟨_, us, h3, h4⟩ := h2 i x hx
    obtain ⟨u, h5, h6⟩ := h4.get j cv hcv
    obtain ⟨_, h7, h8⟩ := World.cells?_some h3
    refine ⟨u, ?_, h6⟩
    rw [h8 j (by rw [← h7]; exact (List.getElem?_eq_some_iff.1 h5).1), h5]
  refine ⟨some a, len, cap, l, rfl, ?_, fun x hx => ?_, by unfold maxLen at hm; omega⟩
  · rcases Nat.eq_zero_or_pos len with h0 | h0
    · have : l = [] := List.length_eq_zero_iff.1 (by omega)
      subst this
      exact Hd.mk (b := 0) (o := 0) h1.symm hl (fun h => absurd rfl h) (fun i x hx => by simp at hx)
    · have hpos : 0 < l.length := by omega
      have hz : 0 < (E.G.enc c l[0]).length := by rw [E.G.hsz]; exact hn
      obtain ⟨u, h3, _⟩ := hcell 0 l[0] (List.getElem?_eq_getElem hpos) 0 _ (List.getElem?_eq_getElem hz)
      rw [Nat.zero_mul, show (a.add 0).add 0 = a by simp [Addr.add]] at h3
      obtain ⟨h4, h5⟩ := isCells_of h3
      obtain ⟨b, o, s⟩ := a
      simp only at h4 h5
      subst h5
      refine Hd.mk (b := b) (o := o) h1.symm hl (fun _ => ⟨rfl, h4⟩) (fun i x hx j cv hcv => ?_)
      have := hcell i x hx j cv hcv
      rwa [addr_add, addr_add] at this
  · obtain ⟨i, hi⟩ := List.getElem?_of_mem hx
    exact (h2 i x hi).1

theorem hreads_slice {t el : TypeId} {c d : Nat} {In : E.G.car c → Prop} {In' : E.G.car d → Prop} (f : List (E.G.car c) → E.G.car d) (hf : ∀ l, E.G.enc d (f l) = [.sl c l]) (hu : E.P.underlying t = some (.slice el)) (hR : HReads E el c In)
    (hn : 0 < E.G.sz c) (hc : E.P.cellsOf t = E.G.sz d) (hIn : ∀ l, (∀ x ∈ l, In x) → l.length ≤ 9223372036854775807 → In' (f l)) : HReads E t d In' :=
  ⟨hc, fun _ _ _ _ _ _ _ _ _ h => by
    obtain ⟨p, n, cap, l, rfl, h1, h2, h3⟩ := hslice_of hu hR hn h
    exact ⟨f l, by rw [hf]; exact hdL_one h1, hIn l h2 h3⟩⟩

/-! ### Arguments -/

theorem harg_int {r : Reach} {b0 : Nat} {t : TypeId} {c : Nat} {k : IntKind} {In : E.G.car c → Prop} {v : Value} {d : DataW H} {ps : List MemPlace} (hR : HReads E t c In) (hu : E.P.underlying t = some (.int k))
    (hval : Value.okWide E.P w r b0 t v) (h : DataW.Trod e E.P w base sp held t v d ps) : ∃ a : E.G.car c, ArgIs E (IsCells w) w (.v c false) a v ∧ In a := by
  obtain ⟨n, rfl⟩ := okWide_int hu hval
  obtain ⟨fuel, hf⟩ := h
  obtain ⟨a, h1, h2⟩ := hR.2 _ _ _ _ _ _ _ _ _ hf
  exact ⟨a, ⟨_, h1, rfl⟩, h2⟩

theorem harg_bool {r : Reach} {b0 : Nat} {t : TypeId} {c : Nat} {In : E.G.car c → Prop} {v : Value} {d : DataW H} {ps : List MemPlace} (hR : HReads E t c In) (hu : E.P.underlying t = some .bool)
    (hval : Value.okWide E.P w r b0 t v) (h : DataW.Trod e E.P w base sp held t v d ps) : ∃ a : E.G.car c, ArgIs E (IsCells w) w (.v c false) a v ∧ In a := by
  obtain ⟨n, rfl⟩ := okWide_bool hu hval
  obtain ⟨fuel, hf⟩ := h
  obtain ⟨a, h1, h2⟩ := hR.2 _ _ _ _ _ _ _ _ _ hf
  exact ⟨a, ⟨_, h1, rfl⟩, h2⟩

theorem harg_agg {r : Reach} {b0 : Nat} {t : TypeId} {c : Nat} {fs : Array Field} {In : E.G.car c → Prop} {v : Value} {d : DataW H} {ps : List MemPlace} (hR : HReads E t c In) (hu : E.P.underlying t = some (.struct fs))
    (hval : Value.okWide E.P w r b0 t v) (h : DataW.Trod e E.P w base sp held t v d ps) : ∃ a : E.G.car c, ArgIs E (IsCells w) w (.v c true) a v ∧ In a := by
  obtain ⟨cs, rfl, _⟩ := okWide_struct hu hval
  obtain ⟨fuel, hf⟩ := h
  obtain ⟨a, h1, h2⟩ := hR.2 _ _ _ _ _ _ _ _ _ hf
  exact ⟨a, ⟨_, h1, rfl⟩, h2⟩

theorem harg_sl {r : Reach} {b0 : Nat} {t el : TypeId} {c : Nat} {In : E.G.car c → Prop} {v : Value} {d : DataW H} {ps : List MemPlace} (hu : E.P.underlying t = some (.slice el)) (hR : HReads E el c In) (hn : 0 < E.G.sz c)
    (hval : Value.okWide E.P w r b0 t v) (h : DataW.Trod e E.P w base sp held t v d ps) : ∃ a : List (E.G.car c), ArgIs E (IsCells w) w (.sl c) a v ∧ (∀ x ∈ a, In x) ∧ a.length ≤ 9223372036854775807 := by
  obtain ⟨p, n, cap, rfl⟩ := okWide_slice hu hval
  obtain ⟨fuel, hf⟩ := h
  obtain ⟨p', n', cap', l, h1, h2, h3, h4⟩ := hslice_of hu hR hn hf
  have h1 : [Value.slice p n cap] = [.slice p' n' cap'] := h1
  simp only [List.cons.injEq, and_true, Value.slice.injEq] at h1
  obtain ⟨rfl, rfl, rfl⟩ := h1
  exact ⟨l, h2, h3, h4⟩

/-- A law whose mirror answers true returns true, and leaves what was there. -/
theorem law_calls {k : Nat} {ps : List PK} {t : Nat} {es : List Nat} {f : AT E.G.car ps → Option (E.G.car t)} (hc : CSok E [] ⟨k, ps, [.v t false es], f⟩) (hglo : E.glo = []) (b : E.G.car t) (hb : E.G.enc t b = [.v (.bool true)])
    {vs : List Value} {xs : AT E.G.car ps} (ha : ArgsAre E (IsCells w) w ps xs vs) (hm : f xs = some b) :
    Calls E.P k vs.toArray w fun e w' => e = .returned (.bool true) ∧ Below w.heap.size w w' := by
  have h := hc.ok (IsCells w) w vs xs ⟨fun _ => ⟨0, none, 0, 0⟩, by rw [hglo]; exact And.intro (fun p hp => nomatch hp) (fun q hq => nomatch hq)⟩ (fun _ h => h) ha b hm
  refine h.mono fun e' w' ⟨us, ms, A', h1, h2, _, _, _, h3, _⟩ => ⟨?_, h2⟩
  obtain ⟨v, rfl, us', h4, h5⟩ := h3
  simp only [Bool.false_eq_true, if_false] at h5
  subst h5
  have h4 : ResCells E.G A' w.heap.size w' (E.G.enc t b) es [v] ms := h4
  rw [hb] at h4
  obtain ⟨us2, h6, _⟩ := h4
  cases h6
  exact h1
end
end Go.KX
