/- Texts SsP: own work; each part says what it is. -/
import Derived.Test.YtehbbnlfnleeiaaGreatSm3
namespace Go.Proofs.Ss
open Go Go.KX
theorem within_eq (F : Nat) (a b c : Int) : spill_within F a b c = some (decide (a ≥ b) && decide (a ≤ c)) := rfl
abbrev SpanOK (m : Int) (s : Span) : Prop := 0 ≤ s.Lo ∧ s.Lo ≤ s.Hi ∧ s.Hi ≤ m
theorem span_eq (F : Nat) (s : Span) (m : Int) : spill_span F s m = some (decide (SpanOK m s)) := by
 unfold spill_span
 rw [within_eq, bnd_so]
 cases h : (decide (s.Lo ≥ 0) && decide (s.Lo ≤ m)) with
 | true =>
  simp only [Bool.and_eq_true, decide_eq_true_eq] at h
  rw [brk_true, within_eq, bnd_so, Bool.true_and]
  congr 1
  rw [← Bool.decide_and]
  exact decide_eq_decide.2 ⟨fun h' => ⟨h.1, h'.1, h'.2⟩, fun h' => ⟨h'.2.1, h'.2.2⟩⟩
 | false =>
  simp only [Bool.and_eq_false_iff, decide_eq_false_iff_not] at h
  rw [brk_false, bnd_so, Bool.false_and]
  congr 1
  symm
  rw [decide_eq_false_iff_not]
  rintro ⟨h1, h2, h3⟩
  omega
def checkV (f : Field) : Int :=
 if ¬ (1 ≤ f.W ∧ f.W ≤ 8 ∧ 1 ≤ f.H ∧ f.H ≤ 8) then 6
 else if (f.Cells.length : Int) ≠ f.W * f.H then 1
 else if ∀ s ∈ f.Cells, SpanOK 1000000 s then 0 else 120
theorem mul_bound {w h : Int} (h1 : 1 ≤ w) (h2 : w ≤ 8) (h3 : 1 ≤ h) (h4 : h ≤ 8) : 1 ≤ w * h ∧ w * h ≤ 64 := by
 have : w = 1 ∨ w = 2 ∨ w = 3 ∨ w = 4 ∨ w = 5 ∨ w = 6 ∨ w = 7 ∨ w = 8 := by omega
 rcases this with rfl | rfl | rfl | rfl | rfl | rfl | rfl | rfl <;> omega
theorem find_ok {F : Nat} {m : Int} {l : List Span} {g : Nat → Span → Option Bool} (hg : ∀ s, g F s = some (!decide (SpanOK m s))) {α : Type} {post : α → Prop} (k : Int → Option α) (hF : l.length < F) (hl : l.length ≤ 1000000)
  (hk : ∀ i : Int, (0 ≤ i ↔ ¬ ∀ s ∈ l, SpanOK m s) → Ok post (k i)) :
  Ok post (loopC (fun (x_3 : Int) => fun x_4 => brk (decide (x_3 < (↑l.length : Int))) (chk ((0 : Int) ≤ x_3 ∧ x_3 < (↑l.length : Int)) (bnd (g F (Span.mk (l.getD (Int.toNat x_3) (Span.mk (0 : Int) (0 : Int))).Lo (l.getD (Int.toNat x_3) (Span.mk (0 : Int) (0 : Int))).Hi)) (fun (x_5 : Bool) => brk (x_5) (k (x_3)) (chk (InR (x_3 + (1 : Int))) (x_4 (x_3 + (1 : Int))))))) (k ((-1 : Int)))) (F) ((0 : Int))) := by
 refine ok_loop (fun i : Int => 0 ≤ i ∧ i ≤ l.length ∧ ∀ j : Nat, (j : Int) < i → SpanOK m (l.getD j ⟨0, 0⟩)) (fun i : Int => l.length - i.toNat) ⟨by omega, by omega, fun j hj => by omega⟩ (by simp; omega) fun i next ⟨h1, h2, h3⟩ hn => ?_
 refine ok_brk (fun hc => ?_) (fun hc => ?_)
 ·have hc : i < l.length := by simpa using hc
  have hi : i.toNat < l.length := by omega
  refine ok_chk ⟨h1, hc⟩ ?_
  rw [hg, bnd_so]
  refine ok_brk (fun hb => ?_) (fun hb => ?_)
  ·simp only [Bool.not_eq_true', decide_eq_false_iff_not] at hb
   exact hk i ⟨fun _ h => hb (h _ (getD_mem hi)), fun _ => h1⟩
  ·simp only [Bool.not_eq_false', decide_eq_true_eq] at hb
   refine ok_chk (by constructor <;> omega) (hn _ ⟨by omega, by omega, fun j hj => ?_⟩ (by omega))
   by_cases e : (j : Int) < i
   ·exact h3 j e
   ·obtain rfl : j = i.toNat := by omega
    exact hb
 ·have hc : ¬ i < l.length := by simpa using hc
  refine hk (-1) ⟨fun h => by omega, fun h => absurd (fun s hs => ?_) h⟩
  obtain ⟨j, hj, rfl⟩ := List.getElem_of_mem hs
  have := h3 j (by omega)
  rwa [getD_get hj] at this
theorem Check_eq {F : Nat} {f : Field} (hF : f.Cells.length < F) : spill_Check F f = some (checkV f) := by
 refine Ok.eq ?_
 unfold spill_Check
 rw [within_eq, bnd_so]
 have key : Ok (fun x => x = checkV f) (brk (!decide (1 ≤ f.W ∧ f.W ≤ 8) || !decide (1 ≤ f.H ∧ f.H ≤ 8)) (some ((6 : Int))) (chk (InR (f.W * f.H)) (brk ((↑f.Cells.length : Int) != f.W * f.H) (some ((1 : Int))) (join F (fun (x_2 : Int) => brk (decide (x_2 ≥ (0 : Int))) (some ((120 : Int))) (some ((0 : Int)))) (fun x_2 => loopC (fun (x_3 : Int) => fun x_4 => brk (decide (x_3 < (↑f.Cells.length : Int))) (chk ((0 : Int) ≤ x_3 ∧ x_3 < (↑f.Cells.length : Int)) (bnd (spill_Check_1 F (Span.mk (f.Cells.getD (Int.toNat x_3) (Span.mk (0 : Int) (0 : Int))).Lo (f.Cells.getD (Int.toNat x_3) (Span.mk (0 : Int) (0 : Int))).Hi)) (fun (x_5 : Bool) => brk (x_5) (x_2 (x_3)) (chk (InR (x_3 + (1 : Int))) (x_4 (x_3 + (1 : Int))))))) (x_2 ((-1 : Int)))) (F) ((0 : Int))))))) := by
  refine ok_brk (fun h => ok_some ?_) (fun h => ?_)
  ·rw [checkV, if_pos]
   simp only [Bool.or_eq_true, Bool.not_eq_true', decide_eq_false_iff_not] at h
   omega
  ·simp only [Bool.or_eq_false_iff, Bool.not_eq_false', decide_eq_true_eq] at h
   obtain ⟨hb1, hb2⟩ := mul_bound h.1.1 h.1.2 h.2.1 h.2.2
   have e1 : ¬ ¬ (1 ≤ f.W ∧ f.W ≤ 8 ∧ 1 ≤ f.H ∧ f.H ≤ 8) := by omega
   refine ok_chk (by constructor <;> omega) (ok_brk (fun h2 => ok_some ?_) (fun h2 => ?_))
   ·rw [checkV, if_neg e1, if_pos (by simpa using h2)]
   ·have h2 : (f.Cells.length : Int) = f.W * f.H := by simpa using h2
    refine ok_join (by omega) (fun i : Int => 0 ≤ i ↔ ¬ ∀ s ∈ f.Cells, SpanOK 1000000 s) (fun i hi => ?_) fun k hk => find_ok (g := spill_Check_1) (fun s => by unfold spill_Check_1; rw [span_eq, bnd_so]) k hF (by omega) hk
    refine ok_brk (fun h3 => ok_some ?_) (fun h3 => ok_some ?_)
    ·rw [checkV, if_neg e1, if_neg (fun h => h h2), if_neg (hi.1 (by simpa using h3))]
    ·rw [checkV, if_neg e1, if_neg (fun h => h h2), if_pos]
     exact Classical.not_not.1 fun h => absurd (hi.2 h) (by simpa using h3)
 have e : ∀ a b c : Int, (decide (a ≥ b) && decide (a ≤ c)) = decide (b ≤ a ∧ a ≤ c) := fun a b c => by rw [← Bool.decide_and]
 rw [e]
 by_cases h : 1 ≤ f.W ∧ f.W ≤ 8
 ·rw [decide_eq_true h] at key ⊢
  simp only [Bool.not_true, Bool.not_false, brk_true, within_eq, bnd_so, e]
  exact key
 ·rw [decide_eq_false h] at key ⊢
  simp only [Bool.not_false, Bool.not_true, brk_false, bnd_so] at key ⊢
  simpa only [Bool.true_or, brk_true] using key
structure FieldOK (f : Field) : Prop where
 w : 1 ≤ f.W ∧ f.W ≤ 8
 h : 1 ≤ f.H ∧ f.H ≤ 8
 len : (f.Cells.length : Int) = f.W * f.H
 cells : ∀ s ∈ f.Cells, SpanOK 1000000 s
theorem FieldOK.check {f : Field} (h : FieldOK f) : checkV f = 0 := by
 rw [checkV, if_neg (by have := h.w; have := h.h; omega), if_neg (fun e => e h.len), if_pos h.cells]
theorem FieldOK.small {f : Field} (h : FieldOK f) : 1 ≤ f.Cells.length ∧ f.Cells.length ≤ 64 := by
 have h1 := mul_bound h.w.1 h.w.2 h.h.1 h.h.2
 have := h.len
 omega
theorem checkV_ok {f : Field} (h : checkV f = 0) : FieldOK f := by
 unfold checkV at h
 split at h
 ·cases h
 ·rename_i h1
  split at h
  ·cases h
  ·rename_i h2
   split at h
   ·rename_i h3; exact ⟨by omega, by omega, by omega, h3⟩
   ·cases h
end Go.Proofs.Ss
namespace Go.Proofs.Ss
open Go Go.KX
abbrev d0 : A2ofInt := A2ofInt.mk (0 : Int) (0 : Int)
abbrev dirs : List A2ofInt := [A2ofInt.mk (0 : Int) (-1 : Int), A2ofInt.mk (1 : Int) (0 : Int), A2ofInt.mk (0 : Int) (1 : Int), A2ofInt.mk (-1 : Int) (0 : Int)]
def okD (W H c : Int) (d : A2ofInt) : Bool := (decide (c % W + d.a0 ≥ 0) && decide (c % W + d.a0 ≤ W - 1)) && (decide (c / W + d.a1 ≥ 0) && decide (c / W + d.a1 ≤ H - 1))
def toD (W c : Int) (d : A2ofInt) : Int := (c / W + d.a1) * W + (c % W + d.a0)
def nbl (W H c : Int) (l : List A2ofInt) : List Int := (l.filter (okD W H c)).map (toD W c)
def nb (W H c : Int) : List Int := nbl W H c dirs
def addAt (l : List Int) (k : Int) (v : Int) : List Int := l.set k.toNat (l.getD k.toNat 0 + v)
def adds : List Int → List (Int × Int) → List Int
 | l, [] => l
 | l, p :: cs => adds (addAt l p.1 p.2) cs
theorem adds_append : ∀ (cs ds : List (Int × Int)) (l : List Int), adds l (cs ++ ds) = adds (adds l cs) ds
 | [], _, _ => rfl
 | _ :: cs, ds, l => adds_append cs ds _
def give (f m : Int) : Int → List Int → List (Int × Int)
 | _, [] => []
 | i, k :: ks => (k, (f + i) / m) :: give f m (i + 1) ks
theorem give_append (f m : Int) : ∀ (ks : List Int) (i k : Int), give f m i (ks ++ [k]) = give f m i ks ++ [(k, (f + (i + ks.length)) / m)]
 | [], i, k => by simp [give]
 | q :: ks, i, k => by
  simp only [List.cons_append, give, give_append f m ks, List.length_cons]
  rw [show i + 1 + (ks.length : Int) = i + ((ks.length + 1 : Nat) : Int) by omega]
def offV (a c : Int) : Int := (if a - c > 0 then a - c else 0) / 2
def contr (W H c n s g : Int) : List (Int × Int) := if (nb W H c).length = 0 then [(c, n)] else (c, n - offV n s) :: give (offV n g) (nb W H c).length 0 (nb W H c)
def contrs (W H : Int) (am st gi : List Int) : Nat → List (Int × Int)
 | 0 => []
 | k + 1 => contrs W H am st gi k ++ contr W H k (am.getD k 0) (st.getD k 0) (gi.getD k 0)
def hourV (W H : Int) (am st gi : List Int) : List Int := adds (List.replicate am.length 0) (contrs W H am st gi am.length)
theorem off_eq {F : Nat} {a c : Int} (ha : 0 ≤ a ∧ a ≤ 1000000) (hc : 0 ≤ c ∧ c ≤ 1000000) : spill_off F a c = some (offV a c) := by
 unfold spill_off
 rw [chk_pos (by constructor <;> (first | omega | (dsimp only; omega))), chk_pos (by split <;> constructor <;> omega)]
 rfl
theorem offV_bound {a c : Int} (ha : 0 ≤ a ∧ a ≤ 1000000) (hc : 0 ≤ c) : 0 ≤ offV a c ∧ offV a c ≤ a ∧ offV a c ≤ 1000000 := by
 unfold offV
 split <;> refine ⟨by omega, by omega, by omega⟩
structure Good (L : Nat) (B : Int) (out : List Int) : Prop where
 len : out.length = L
 nn : ∀ x ∈ out, 0 ≤ x
 sum : sumL out ≤ B
theorem Good.get {L : Nat} {B : Int} {out : List Int} (h : Good L B out) (i : Nat) : 0 ≤ out.getD i 0 ∧ out.getD i 0 ≤ B :=
 ⟨getD_nonneg h.nn i, Int.le_trans (getD_le_sum h.nn i) h.sum⟩
theorem Good.mono {L : Nat} {B B' : Int} {out : List Int} (h : Good L B out) (hB : B ≤ B') : Good L B' out := ⟨h.len, h.nn, Int.le_trans h.sum hB⟩
theorem Good.addAt {L : Nat} {B V : Int} {out : List Int} {k v : Int} (h : Good L B out) (h1 : 0 ≤ k) (h2 : k < L) (h3 : 0 ≤ v) (h4 : v ≤ V) : Good L (B + V) (Ss.addAt out k v) := by
 have hk : k.toNat < out.length := by rw [h.len]; omega
 refine ⟨by rw [Ss.addAt, List.length_set, h.len], fun x hx => ?_, ?_⟩
 ·have := (h.get k.toNat).1
  rcases List.mem_or_eq_of_mem_set hx with hx | rfl
  ·exact h.nn x hx
  ·omega
 ·have := h.sum
  rw [Ss.addAt, sumL_set _ _ _ hk]; omega
theorem dirs_small : ∀ d ∈ dirs, -1 ≤ d.a0 ∧ d.a0 ≤ 1 ∧ -1 ≤ d.a1 ∧ d.a1 ≤ 1 := by decide
theorem pos_bound {W H c : Int} (hW : 1 ≤ W ∧ W ≤ 8) (hH : 1 ≤ H ∧ H ≤ 8) (hc : 0 ≤ c ∧ c < W * H) : 0 ≤ c % W ∧ c % W ≤ W - 1 ∧ 0 ≤ c / W ∧ c / W ≤ H - 1 := by
 have h1 := Int.emod_nonneg c (by omega : W ≠ 0)
 have h2 := Int.emod_lt_of_pos c (by omega : 0 < W)
 have h3 := Int.ediv_nonneg hc.1 (by omega : 0 ≤ W)
 have h4 := Int.ediv_lt_of_lt_mul (by omega : 0 < W) (show c < H * W by rw [Int.mul_comm]; exact hc.2)
 omega
theorem toD_bound {W H c : Int} {d : A2ofInt} (hW : 1 ≤ W ∧ W ≤ 8) (hH : 1 ≤ H ∧ H ≤ 8) (h : okD W H c d = true) : 0 ≤ (c / W + d.a1) * W ∧ (c / W + d.a1) * W ≤ 64 ∧ 0 ≤ toD W c d ∧ toD W c d < W * H := by
 simp only [okD, Bool.and_eq_true, decide_eq_true_eq] at h
 obtain ⟨⟨h1, h2⟩, h3, h4⟩ := h
 have h5 : 0 ≤ (c / W + d.a1) * W := Int.mul_nonneg h3 (by omega)
 have h6 : (c / W + d.a1) * W ≤ (H - 1) * W := Int.mul_le_mul_of_nonneg_right h4 (by omega)
 have h7 : (H - 1) * W = W * H - W := by rw [Int.sub_mul, Int.one_mul, Int.mul_comm]
 have h8 := mul_bound hW.1 hW.2 hH.1 hH.2
 refine ⟨h5, by omega, ?_, ?_⟩ <;> unfold toD <;> omega
theorem nbl_snoc (W H c : Int) (l : List A2ofInt) (d : A2ofInt) : nbl W H c (l ++ [d]) = bif okD W H c d then nbl W H c l ++ [toD W c d] else nbl W H c l := by
 unfold nbl
 rw [List.filter_append, List.map_append]
 cases h : okD W H c d <;> simp [h]
theorem nbl_mem {W H c : Int} (hW : 1 ≤ W ∧ W ≤ 8) (hH : 1 ≤ H ∧ H ≤ 8) {l : List A2ofInt} : ∀ k ∈ nbl W H c l, 0 ≤ k ∧ k < W * H := by
 intro k hk
 unfold nbl at hk
 simp only [List.mem_map, List.mem_filter] at hk
 obtain ⟨d, ⟨_, hd⟩, rfl⟩ := hk
 have := toD_bound hW hH hd
 exact ⟨this.2.2.1, this.2.2.2⟩
theorem brk_and {F : Nat} {b : Bool} {x m : Int} : brk b (spill_within F x 0 m) (some false) = some (b && (decide (x ≥ 0) && decide (x ≤ m))) := by
 cases b <;> rfl
theorem nbl_le4 (W H c : Int) (j : Nat) : (nbl W H c (dirs.take j)).length ≤ 4 := by
 unfold nbl
 rw [List.length_map]
 refine Nat.le_trans (List.length_filter_le _ _) ?_
 rw [List.length_take]; exact Nat.min_le_right _ _
theorem hour_eq {F : Nat} {f : Field} {am st gi : List Int} (hF : 100 < F) (hW : 1 ≤ f.W ∧ f.W ≤ 8) (hH : 1 ≤ f.H ∧ f.H ≤ 8) (hl : (am.length : Int) = f.W * f.H) (hs : st.length = am.length) (hg : gi.length = am.length)
  (ha : ∀ a ∈ am, 0 ≤ a ∧ a ≤ 1000000) (hst : ∀ a ∈ st, 0 ≤ a ∧ a ≤ 10000) (hgi : ∀ a ∈ gi, 0 ≤ a ∧ a ≤ 10000) :
  spill_grid_hour F f am st gi = some (hourV f.W f.H am st gi) ∧ Good am.length 1000000000 (hourV f.W f.H am st gi) := by
 have hL := mul_bound hW.1 hW.2 hH.1 hH.2
 suffices h : Ok (fun r => r = hourV f.W f.H am st gi ∧ Good am.length 1000000000 r) (spill_grid_hour F f am st gi) by
  obtain ⟨r, h1, rfl, h2⟩ := h
  exact ⟨h1, h2⟩
 unfold spill_grid_hour
 refine ok_chk (by omega) ?_
 refine ok_loop (fun x : Int × List Int => 0 ≤ x.1 ∧ x.1 ≤ am.length ∧ x.2 = adds (List.replicate am.length 0) (contrs f.W f.H am st gi x.1.toNat) ∧ Good am.length (x.1 * 10000000) x.2) (fun x : Int × List Int => am.length - x.1.toNat) ?_ (by simp; omega) ?_
 ·refine ⟨Int.le_refl _, by simp, rfl, by simp, fun x hx => ?_, ?_⟩
  ·have := List.eq_of_mem_replicate hx; omega
  ·rw [sumL_replicate0]; exact Int.le_refl _
 rintro ⟨c, out⟩ next ⟨h1, h2, h3, h4⟩ hn
 simp only at h1 h2 h3 h4
 refine ok_brk (fun hc => ?_) (fun hc => ok_some ?_)
 rotate_left
 ·have hc : ¬ c < am.length := by simpa using hc
  obtain rfl : c = am.length := by omega
  exact ⟨h3, h4.mono (by omega)⟩
 have hc : c < am.length := by simpa using hc
 have hcn : c.toNat < am.length := by omega
 obtain ⟨p1, p2, p3, p4⟩ := pos_bound hW hH ⟨h1, by omega⟩
 have hn1 := ha _ (getD_mem (d := 0) hcn)
 have hs1 := hst _ (getD_mem (i := c.toNat) (d := 0) (by omega))
 have hg1 := hgi _ (getD_mem (i := c.toNat) (d := 0) (by omega))
 have hcontr : contrs f.W f.H am st gi (c + 1).toNat = contrs f.W f.H am st gi c.toNat ++ contr f.W f.H c (am.getD c.toNat 0) (st.getD c.toNat 0) (gi.getD c.toNat 0) := by
  rw [show (c + 1).toNat = c.toNat + 1 by omega, contrs, show ((c.toNat : Nat) : Int) = c by omega]
 refine ok_join (by omega) (fun o : List Int => o = adds out (contr f.W f.H c (am.getD c.toNat 0) (st.getD c.toNat 0) (gi.getD c.toNat 0)) ∧ Good am.length ((c + 1) * 10000000) o) (fun o ho => ?_) fun k hk => ?_
 ·refine ok_chk (by constructor <;> (first | omega | (dsimp only; omega))) (hn _ ⟨by show 0 ≤ c + 1; omega, by show c + 1 ≤ _; omega, ?_, ho.2⟩ (by show am.length - (c + 1).toNat < am.length - c.toNat; omega))
  show o = _
  rw [hcontr, adds_append, ← h3]; exact ho.1
 refine ok_chk ⟨h1, hc⟩ (ok_chk (by constructor <;> (first | omega | (dsimp only; omega))) (ok_chk (by constructor <;> (first | omega | (dsimp only; omega))) ?_))
 have dsm : ∀ j : Nat, j < 4 → -1 ≤ (dirs.getD j d0).a0 ∧ (dirs.getD j d0).a0 ≤ 1 ∧ -1 ≤ (dirs.getD j d0).a1 ∧ (dirs.getD j d0).a1 ≤ 1 := fun j hj => dirs_small _ (getD_mem (l := dirs) hj)
 refine ok_loop (fun x : Int × Int × Int => 0 ≤ x.2.1 ∧ x.2.1 ≤ 4 ∧ x.1 = (nbl f.W f.H c (dirs.take x.2.1.toNat)).length ∧ x.2.2 = x.1) (fun x : Int × Int × Int => 4 - x.2.1.toNat) ⟨by simp, by simp, rfl, rfl⟩ (by simp; omega) ?_
 rintro ⟨q, j, i⟩ next1 ⟨g1, g2, g3, g4⟩ hn1'
 simp only at g1 g2 g3 g4
 subst g4
 have l4 := nbl_le4 f.W f.H c j.toNat
 refine ok_brk (fun hj => ?_) (fun hj => ?_)
 ·have hj : j < 4 := by simpa using hj
  have ht : dirs.take (j + 1).toNat = dirs.take j.toNat ++ [dirs.getD j.toNat d0] := by
   rw [show (j + 1).toNat = j.toNat + 1 by omega]; exact take_succ' (l := dirs) (by show j.toNat < 4; omega)
  obtain ⟨q1, q2, q3, q4⟩ := dsm j.toNat (by omega)
  refine ok_join (by omega) (fun y : Int × Int => y.1 = (nbl f.W f.H c (dirs.take (j + 1).toNat)).length ∧ y.2 = y.1) (fun y hy => ?_) fun k1 hk1 => ?_
  ·exact ok_chk (by constructor <;> (first | omega | (dsimp only; omega))) (hn1' _ ⟨by show 0 ≤ j + 1; omega, by show j + 1 ≤ 4; omega, hy.1, hy.2⟩ (by show 4 - (j + 1).toNat < 4 - j.toNat; omega))
  have i5 : InR (c % f.W + (dirs.getD j.toNat d0).a0) := ⟨by omega, by omega⟩
  have i6 : InR (c / f.W + (dirs.getD j.toNat d0).a1) := ⟨by omega, by omega⟩
  refine ok_chk ⟨g1, hj⟩ (ok_chk i5 (ok_chk i6 (ok_chk (by constructor <;> (first | omega | (dsimp only; omega))) ?_)))
  rw [within_eq, bnd_so]
  refine ok_chk (fun _ => by constructor <;> omega) ?_
  rw [brk_and, bnd_so, Bool.and_self_left]
  rw [ht, nbl_snoc] at hk1
  refine ok_brk (fun hb => ?_) (fun hb => ?_)
  ·have hb : okD f.W f.H c (dirs.getD j.toNat d0) = true := hb
   obtain ⟨b1, b2, b3, b4⟩ := toD_bound hW hH hb
   rw [hb, cond_true] at hk1
   unfold toD at b3 b4
   have i1 : InR ((c / f.W + (dirs.getD j.toNat d0).a1) * f.W) := ⟨by omega, by omega⟩
   have i2 : InR ((c / f.W + (dirs.getD j.toNat d0).a1) * f.W + (c % f.W + (dirs.getD j.toNat d0).a0)) := ⟨by omega, by omega⟩
   refine ok_chk i1 (ok_chk i2 (ok_chk (by constructor <;> (first | omega | (dsimp only; omega))) (ok_chk (by constructor <;> (first | omega | (dsimp only; omega))) (hk1 _ ⟨?_, rfl⟩))))
   simp only [List.length_append, List.length_singleton]; omega
  ·have hb : okD f.W f.H c (dirs.getD j.toNat d0) = false := hb
   rw [hb, cond_false] at hk1
   exact hk1 _ ⟨g3, rfl⟩
 have hj : ¬ j < 4 := by simpa using hj
 obtain rfl : j = 4 := by omega
 have g3 : i = (nb f.W f.H c).length := g3
 have hcb := h4.get c.toNat
 have hmem : ∀ k ∈ nb f.W f.H c, 0 ≤ k ∧ k < f.W * f.H := nbl_mem hW hH
 refine ok_brk (fun hz => ?_) (fun hz => ?_)
 ·have hz : i = 0 := by simpa using hz
  have e : contr f.W f.H c (am.getD c.toNat 0) (st.getD c.toNat 0) (gi.getD c.toNat 0) = [(c, am.getD c.toNat 0)] := by rw [contr, if_pos (by omega)]
  refine ok_chk ⟨h1, by rw [h4.len]; exact hc⟩ (ok_chk (by constructor <;> (first | omega | (dsimp only; omega))) (ok_chk ⟨h1, by rw [h4.len]; exact hc⟩ (hk _ ?_)))
  rw [e]
  exact ⟨rfl, (h4.addAt h1 hc hn1.1 hn1.2).mono (by omega)⟩
 have hz : ¬ i = 0 := by simpa using hz
 have hob := offV_bound hn1 hs1.1
 have hog := offV_bound hn1 hg1.1
 have e : contr f.W f.H c (am.getD c.toNat 0) (st.getD c.toNat 0) (gi.getD c.toNat 0) = (c, am.getD c.toNat 0 - offV (am.getD c.toNat 0) (st.getD c.toNat 0)) :: give (offV (am.getD c.toNat 0) (gi.getD c.toNat 0)) i 0 (nb f.W f.H c) := by
  rw [contr, if_neg (by omega), g3]
 have hbase := h4.addAt (k := c) (v := am.getD c.toNat 0 - offV (am.getD c.toNat 0) (st.getD c.toNat 0)) (V := 1000000) h1 hc (by omega) (by omega)
 refine ok_chk ⟨h1, by rw [h4.len]; exact hc⟩ (ok_chk ⟨h1, by rw [hs]; exact hc⟩ ?_)
 have hs2 : 0 ≤ st.getD c.toNat 0 ∧ st.getD c.toNat 0 ≤ 1000000 := ⟨hs1.1, by omega⟩
 have hg2 : 0 ≤ gi.getD c.toNat 0 ∧ gi.getD c.toNat 0 ≤ 1000000 := ⟨hg1.1, by omega⟩
 refine ok_bnde (off_eq hn1 hs2) ?_
 have i7 : InR (am.getD c.toNat 0 - offV (am.getD c.toNat 0) (st.getD c.toNat 0)) := ⟨by omega, by omega⟩
 have i8 : InR (out.getD c.toNat 0 + (am.getD c.toNat 0 - offV (am.getD c.toNat 0) (st.getD c.toNat 0))) := ⟨by omega, by omega⟩
 refine ok_chk i7 (ok_chk i8 (ok_chk ⟨h1, by rw [h4.len]; exact hc⟩ (ok_chk ⟨h1, by rw [hg]; exact hc⟩ ?_)))
 refine ok_bnde (off_eq hn1 hg2) ?_
 refine ok_chk (by constructor <;> (first | omega | (dsimp only; omega))) (ok_chk (by constructor <;> (first | omega | (dsimp only; omega))) ?_)
 refine ok_loop (fun x : Int × Int × List Int => 0 ≤ x.2.1 ∧ x.2.1 ≤ 4 ∧ x.1 = (nbl f.W f.H c (dirs.take x.2.1.toNat)).length ∧
  x.2.2 = adds (addAt out c (am.getD c.toNat 0 - offV (am.getD c.toNat 0) (st.getD c.toNat 0))) (give (offV (am.getD c.toNat 0) (gi.getD c.toNat 0)) i 0 (nbl f.W f.H c (dirs.take x.2.1.toNat))) ∧
  Good am.length (c * 10000000 + 1000000 + x.2.1 * 2000000) x.2.2) (fun x : Int × Int × List Int => 4 - x.2.1.toNat) ⟨by simp, by simp, rfl, rfl, hbase.mono (by simp)⟩ (by simp; omega) ?_
 rintro ⟨p, j, o⟩ next2 ⟨k1, k2, k3, k4, k5⟩ hn2
 simp only at k1 k2 k3 k4 k5
 have l4' := nbl_le4 f.W f.H c j.toNat
 refine ok_brk (fun hj => ?_) (fun hj => ?_)
 ·have hj : j < 4 := by simpa using hj
  have ht : dirs.take (j + 1).toNat = dirs.take j.toNat ++ [dirs.getD j.toNat d0] := by
   rw [show (j + 1).toNat = j.toNat + 1 by omega]; exact take_succ' (l := dirs) (by show j.toNat < 4; omega)
  obtain ⟨q1, q2, q3, q4⟩ := dsm j.toNat (by omega)
  refine ok_join (by omega) (fun y : Int × List Int => y.1 = (nbl f.W f.H c (dirs.take (j + 1).toNat)).length ∧
   y.2 = adds (addAt out c (am.getD c.toNat 0 - offV (am.getD c.toNat 0) (st.getD c.toNat 0))) (give (offV (am.getD c.toNat 0) (gi.getD c.toNat 0)) i 0 (nbl f.W f.H c (dirs.take (j + 1).toNat))) ∧
   Good am.length (c * 10000000 + 1000000 + (j + 1) * 2000000) y.2) (fun y hy => ?_) fun k6 hk6 => ?_
  ·exact ok_chk (by constructor <;> (first | omega | (dsimp only; omega))) (hn2 _ ⟨by show 0 ≤ j + 1; omega, by show j + 1 ≤ 4; omega, hy.1, hy.2⟩ (by show 4 - (j + 1).toNat < 4 - j.toNat; omega))
  have i5 : InR (c % f.W + (dirs.getD j.toNat d0).a0) := ⟨by omega, by omega⟩
  have i6 : InR (c / f.W + (dirs.getD j.toNat d0).a1) := ⟨by omega, by omega⟩
  refine ok_chk ⟨k1, hj⟩ (ok_chk i5 (ok_chk i6 (ok_chk (by constructor <;> (first | omega | (dsimp only; omega))) ?_)))
  rw [within_eq, bnd_so]
  refine ok_chk (fun _ => by constructor <;> omega) ?_
  rw [brk_and, bnd_so, Bool.and_self_left]
  rw [ht, nbl_snoc] at hk6
  refine ok_brk (fun hb => ?_) (fun hb => ?_)
  ·have hb : okD f.W f.H c (dirs.getD j.toNat d0) = true := hb
   obtain ⟨b1, b2, b3, b4⟩ := toD_bound hW hH hb
   rw [hb, cond_true] at hk6
   have b3' := b3
   have b4' := b4
   unfold toD at b3 b4
   have hgo := k5.get (toD f.W c (dirs.getD j.toNat d0)).toNat
   unfold toD at hgo
   have hdiv0 : 0 ≤ (offV (am.getD c.toNat 0) (gi.getD c.toNat 0) + p) / i := Int.ediv_nonneg (by omega) (by omega)
   have hdiv1 : (offV (am.getD c.toNat 0) (gi.getD c.toNat 0) + p) / i ≤ offV (am.getD c.toNat 0) (gi.getD c.toNat 0) + p := Int.ediv_le_self _ (by omega)
   have i1 : InR ((c / f.W + (dirs.getD j.toNat d0).a1) * f.W) := ⟨by omega, by omega⟩
   have i2 : InR ((c / f.W + (dirs.getD j.toNat d0).a1) * f.W + (c % f.W + (dirs.getD j.toNat d0).a0)) := ⟨by omega, by omega⟩
   have i3 : 0 ≤ (c / f.W + (dirs.getD j.toNat d0).a1) * f.W + (c % f.W + (dirs.getD j.toNat d0).a0) ∧ (c / f.W + (dirs.getD j.toNat d0).a1) * f.W + (c % f.W + (dirs.getD j.toNat d0).a0) < (o.length : Int) := ⟨b3, by rw [k5.len]; omega⟩
   have i4 : InR (o.getD ((c / f.W + (dirs.getD j.toNat d0).a1) * f.W + (c % f.W + (dirs.getD j.toNat d0).a0)).toNat 0 + (offV (am.getD c.toNat 0) (gi.getD c.toNat 0) + p) / i) := ⟨by omega, by omega⟩
   refine ok_chk i1 (ok_chk i2 (ok_chk i3 (ok_chk (by constructor <;> (first | omega | (dsimp only; omega))) (ok_chk (by constructor <;> (first | omega | (dsimp only; omega))) (ok_chk i4 (ok_chk i3 (ok_chk (by constructor <;> (first | omega | (dsimp only; omega))) (hk6 _ ⟨?_, ?_, ?_⟩))))))))
   ·simp only [List.length_append, List.length_singleton]; omega
   ·rw [give_append, adds_append, ← k4, Int.zero_add, ← k3]
    rfl
   ·exact (k5.addAt (k := toD f.W c (dirs.getD j.toNat d0)) (V := 2000000) b3' (by omega) hdiv0 (by omega)).mono (by omega)
  ·have hb : okD f.W f.H c (dirs.getD j.toNat d0) = false := hb
   rw [hb, cond_false] at hk6
   exact hk6 _ ⟨k3, k4, k5.mono (by omega)⟩
 have hj : ¬ j < 4 := by simpa using hj
 obtain rfl : j = 4 := by omega
 refine hk _ ⟨?_, k5.mono (by omega)⟩
 rw [e]
 exact k4
end Go.Proofs.Ss
namespace Go.Proofs.Ss
open Go Go.KX
def LeL (l r : List Int) : Prop := l.length = r.length ∧ ∀ i, l.getD i 0 ≤ r.getD i 0
inductive LeC : List (Int × Int) → List (Int × Int) → Prop
 | nil : LeC [] []
 | cons {k v v' : Int} {l r : List (Int × Int)} (h : v ≤ v') (t : LeC l r) : LeC ((k, v) :: l) ((k, v') :: r)
theorem LeC.append {a b c d : List (Int × Int)} (h : LeC a b) (h' : LeC c d) : LeC (a ++ c) (b ++ d) := by
 induction h with
 | nil => exact h'
 | cons h t ih => exact .cons h ih
theorem LeL.addAt {l r : List Int} {k v v' : Int} (h : LeL l r) (hv : v ≤ v') : LeL (addAt l k v) (addAt r k v') := by
 refine ⟨by simp only [Ss.addAt, List.length_set]; exact h.1, fun i => ?_⟩
 unfold Ss.addAt
 by_cases hk : k.toNat < l.length
 ·rw [getD_set' hk, getD_set' (by rw [← h.1]; exact hk)]
  have := h.2 i
  have := h.2 k.toNat
  split <;> omega
 ·rw [List.set_eq_of_length_le (by omega), List.set_eq_of_length_le (by rw [← h.1]; omega)]
  exact h.2 i
theorem LeL.adds {c d : List (Int × Int)} (hc : LeC c d) : ∀ {l r : List Int}, LeL l r → LeL (adds l c) (adds r d) := by
 induction hc with
 | nil => intro l r h; exact h
 | cons h t ih => intro l r hl; exact ih (hl.addAt h)
theorem LeL.refl (l : List Int) : LeL l l := ⟨rfl, fun _ => Int.le_refl _⟩
theorem give_le {f f' m : Int} (hm : 0 ≤ m) (h : f ≤ f') : ∀ (ks : List Int) (i : Int), LeC (give f m i ks) (give f' m i ks)
 | [], _ => .nil
 | k :: ks, i => .cons (by
   rcases Int.eq_ofNat_of_zero_le hm with ⟨n, rfl⟩
   rcases Nat.eq_zero_or_pos n with h0 | h0
   ·subst h0; simp
   ·exact Int.ediv_le_ediv (by omega) (by omega)) (give_le hm h ks (i + 1))
theorem contr_le {W H c n s g n' s' g' : Int} (hn : n ≤ n') (hs : s ≤ s') (hg : g' ≤ g) : LeC (contr W H c n s g) (contr W H c n' s' g') := by
 unfold contr
 split
 ·exact .cons hn .nil
 ·refine .cons ?_ (give_le (by omega) ?_ _ _)
  ·unfold offV; split <;> split <;> omega
  ·unfold offV; split <;> split <;> omega
theorem contrs_le {W H : Int} {am st gi am' st' gi' : List Int} (ha : LeL am am') (hs : LeL st st') (hg : LeL gi' gi) : ∀ k, LeC (contrs W H am st gi k) (contrs W H am' st' gi' k)
 | 0 => .nil
 | k + 1 => (contrs_le ha hs hg k).append (contr_le (ha.2 k) (hs.2 k) (hg.2 k))
theorem hour_le {W H : Int} {am st gi am' st' gi' : List Int} (ha : LeL am am') (hs : LeL st st') (hg : LeL gi' gi) : LeL (hourV W H am st gi) (hourV W H am' st' gi') := by
 unfold hourV
 rw [ha.1]
 exact (LeL.refl _).adds (contrs_le ha hs hg _)
def sumC : List (Int × Int) → Int
 | [] => 0
 | p :: r => p.2 + sumC r
theorem sumC_append : ∀ l r : List (Int × Int), sumC (l ++ r) = sumC l + sumC r
 | [], r => by simp [sumC]
 | x :: l, r => by simp only [List.cons_append, sumC, sumC_append l r]; omega
theorem addAt_len (l : List Int) (k v : Int) : (addAt l k v).length = l.length := by simp [addAt]
theorem sum_adds : ∀ (cs : List (Int × Int)) (l : List Int), (∀ p ∈ cs, 0 ≤ p.1 ∧ p.1 < l.length) → sumL (adds l cs) = sumL l + sumC cs
 | [], l, _ => by simp [adds, sumC]
 | p :: cs, l, h => by
  have h1 := h p (by simp)
  rw [adds, sum_adds cs _ (fun q hq => by rw [addAt_len]; exact h q (by simp [hq])), addAt, sumL_set _ _ _ (by omega), sumC]
  omega
theorem sum_give {f : Int} (hf : 0 ≤ f) : ∀ (ks : List Int), ks.length ≤ 4 → ks.length ≠ 0 → sumC (give f ks.length 0 ks) = f
 | [], _, h => absurd rfl h
 | [_], _, _ => by simp [give, sumC]
 | [_, _], _, _ => by simp only [give, sumC, List.length_cons, List.length_nil]; omega
 | [_, _, _], _, _ => by simp only [give, sumC, List.length_cons, List.length_nil]; omega
 | [_, _, _, _], _, _ => by simp only [give, sumC, List.length_cons, List.length_nil]; omega
 | _ :: _ :: _ :: _ :: _ :: _, h, _ => by simp only [List.length_cons] at h; omega
theorem sum_contr {W H c n s : Int} : sumC (contr W H c n s s) = n := by
 unfold contr
 split
 ·simp [sumC]
 ·rename_i h
  have h4 : (nb W H c).length ≤ 4 := nbl_le4 W H c 4
  have hf : 0 ≤ offV n s := by unfold offV; split <;> omega
  rw [sumC, sum_give hf _ h4 h]; simp only; omega
theorem give_keys {f m : Int} : ∀ (ks : List Int) (i : Int) (p : Int × Int), p ∈ give f m i ks → p.1 ∈ ks
 | [], _, _, h => by simp [give] at h
 | k :: ks, i, p, h => by
  rcases List.mem_cons.1 h with rfl | h
  ·simp
  ·exact List.mem_cons_of_mem _ (give_keys ks _ p h)
theorem contr_keys {W H c n s g : Int} (hW : 1 ≤ W ∧ W ≤ 8) (hH : 1 ≤ H ∧ H ≤ 8) (hc : 0 ≤ c ∧ c < W * H) : ∀ p ∈ contr W H c n s g, 0 ≤ p.1 ∧ p.1 < W * H := by
 intro p hp
 unfold contr at hp
 split at hp
 ·rcases List.mem_singleton.1 hp with rfl; exact hc
 ·rcases List.mem_cons.1 hp with rfl | hp
  ·exact hc
  ·exact nbl_mem hW hH _ (give_keys _ _ _ hp)
theorem contrs_keys {W H : Int} {am st gi : List Int} (hW : 1 ≤ W ∧ W ≤ 8) (hH : 1 ≤ H ∧ H ≤ 8) : ∀ k : Nat, (k : Int) ≤ W * H → ∀ p ∈ contrs W H am st gi k, 0 ≤ p.1 ∧ p.1 < W * H
 | 0, _, p, hp => by simp [contrs] at hp
 | k + 1, hk, p, hp => by
  rcases List.mem_append.1 hp with hp | hp
  ·exact contrs_keys hW hH k (by omega) p hp
  ·exact contr_keys hW hH ⟨by omega, by omega⟩ p hp
theorem sumL_take_succ {l : List Int} {i : Nat} (h : i < l.length) : sumL (l.take (i + 1)) = sumL (l.take i) + l.getD i 0 := by
 rw [take_succ' (d := 0) h, sumL_append]; simp [sumL]
theorem sum_hour {W H : Int} {am st : List Int} (hW : 1 ≤ W ∧ W ≤ 8) (hH : 1 ≤ H ∧ H ≤ 8) (hl : (am.length : Int) = W * H) : sumL (hourV W H am st st) = sumL am := by
 unfold hourV
 rw [sum_adds _ _ (fun p hp => by rw [List.length_replicate, hl]; exact contrs_keys hW hH _ (by omega) p hp), sumL_replicate0, Int.zero_add]
 have : ∀ k, k ≤ am.length → sumC (contrs W H am st st k) = sumL (am.take k) := by
  intro k
  induction k with
  | zero => intro _; simp [contrs, sumC, sumL]
  | succ k ih =>
   intro hk
   rw [contrs, sumC_append, ih (by omega), sum_contr, sumL_take_succ (by omega)]
 rw [this _ (Nat.le_refl _), List.take_length]
theorem ends_eq {F : Nat} {l : List Span} (hF : l.length < F) (hl : l.length ≤ 1000) : spill_ends F l = some (l.map (·.Lo), l.map (·.Hi)) := by
 refine Ok.eq ?_
 unfold spill_ends
 refine ok_loop (fun x : List Int × Int × List Int => 0 ≤ x.2.1 ∧ x.2.1 ≤ l.length ∧ x.1 = (l.map (·.Lo)).take x.2.1.toNat ∧ x.2.2 = (l.map (·.Hi)).take x.2.1.toNat) (fun x : List Int × Int × List Int => l.length - x.2.1.toNat) ⟨by simp, by simp, rfl, rfl⟩ (by simp; omega) ?_
 rintro ⟨a, i, b⟩ next ⟨h1, h2, h3, h4⟩ hn
 simp only at h1 h2 h3 h4
 have la : a.length ≤ 1000 := by rw [h3, List.length_take, List.length_map]; omega
 have lb : b.length ≤ 1000 := by rw [h4, List.length_take, List.length_map]; omega
 refine ok_brk (fun hc => ?_) (fun hc => ok_some ?_)
 ·have hc : i < l.length := by simpa using hc
  have hi : i.toNat < l.length := by omega
  refine ok_chk ⟨h1, hc⟩ (ok_chk (by simp only [List.length_singleton]; omega) (ok_chk (by simp only [List.length_singleton]; omega) (ok_chk (by constructor <;> (first | omega | (dsimp only; omega))) (hn _ ⟨by show 0 ≤ i + 1; omega, by show i + 1 ≤ _; omega, ?_, ?_⟩ (by show l.length - (i + 1).toNat < l.length - i.toNat; omega)))))
  ·show a ++ [_] = (l.map (·.Lo)).take (i + 1).toNat
   rw [show (i + 1).toNat = i.toNat + 1 by omega, take_succ' (d := 0) (by simpa using hi), h3]
   congr 2
   rw [getD_get hi, getD_get (by simpa using hi)]; simp
  ·show b ++ [_] = (l.map (·.Hi)).take (i + 1).toNat
   rw [show (i + 1).toNat = i.toNat + 1 by omega, take_succ' (d := 0) (by simpa using hi), h4]
   congr 2
   rw [getD_get hi, getD_get (by simpa using hi)]; simp
 ·have hc : ¬ i < l.length := by simpa using hc
  obtain rfl : i = l.length := by omega
  show (a, b) = _
  rw [h3, h4]
  simp [List.take_of_length_le]
def minO (n : Int) : Int := if 1000000 < n then 1000000 else n
theorem minO_le (n : Int) : minO n ≤ 1000000 := by unfold minO; split <;> omega
theorem minO_mono {a b : Int} (h : a ≤ b) : minO a ≤ minO b := by unfold minO; split <;> split <;> omega
theorem minO_nn {a : Int} (h : 0 ≤ a) : 0 ≤ minO a := by unfold minO; split <;> omega
def loV (W H : Int) (cells caps : List Span) : List Int := hourV W H (cells.map (·.Lo)) (caps.map (·.Lo)) (caps.map (·.Hi))
def hiV (W H : Int) (cells caps : List Span) : List Int := hourV W H (cells.map (·.Hi)) (caps.map (·.Hi)) (caps.map (·.Lo))
def spreadV (W H : Int) (cells caps : List Span) : List Span := List.zipWith (fun a b => Span.mk (minO a) (minO b)) (loV W H cells caps) (hiV W H cells caps)
def spreadN (W H : Int) (caps : List Span) : Nat → List Span → List Span
 | 0, cells => cells
 | n + 1, cells => spreadV W H (spreadN W H caps n cells) caps
structure CapsOK (n : Nat) (caps : List Span) : Prop where
 len : caps.length = n
 ok : ∀ s ∈ caps, SpanOK 10000 s
theorem getD_map {α β : Type} (f : α → β) (l : List α) (i : Nat) (d : α) (e : β) (h : i < l.length) : (l.map f).getD i e = f (l.getD i d) := by
 rw [getD_get (by simpa using h), getD_get h]; simp
theorem leL_map {l : List Span} {m : Int} (h : ∀ s ∈ l, SpanOK m s) : LeL (l.map (·.Lo)) (l.map (·.Hi)) := by
 refine ⟨by simp, fun i => ?_⟩
 by_cases hi : i < l.length
 ·rw [getD_map _ _ _ ⟨0, 0⟩ _ hi, getD_map _ _ _ ⟨0, 0⟩ _ hi]
  exact (h _ (getD_mem hi)).2.1
 ·simp [List.getD_eq_getElem?_getD, List.getElem?_eq_none (show (l.map (·.Lo)).length ≤ i by simpa using hi), List.getElem?_eq_none (show (l.map (·.Hi)).length ≤ i by simpa using hi)]
theorem spread_eq {F : Nat} {f : Field} {caps : List Span} (hF : 100 < F) (hf : FieldOK f) (hc : CapsOK f.Cells.length caps) :
  spill_grid_spread F f caps = some (spreadV f.W f.H f.Cells caps) ∧ FieldOK ⟨f.W, f.H, spreadV f.W f.H f.Cells caps⟩ ∧ (loV f.W f.H f.Cells caps).length = f.Cells.length ∧ (hiV f.W f.H f.Cells caps).length = f.Cells.length ∧
   (∀ i, 0 ≤ (loV f.W f.H f.Cells caps).getD i 0) := by
 have hs := hf.small
 have hcl := hc.len
 have m1 : ∀ (l : List Span) (m : Int), (∀ s ∈ l, SpanOK m s) → ∀ a ∈ l.map (·.Lo), 0 ≤ a ∧ a ≤ m := by
  intro l m h a ha
  obtain ⟨s, hs, rfl⟩ := List.mem_map.1 ha
  have := h s hs
  exact ⟨this.1, by omega⟩
 have m2 : ∀ (l : List Span) (m : Int), (∀ s ∈ l, SpanOK m s) → ∀ a ∈ l.map (·.Hi), 0 ≤ a ∧ a ≤ m := by
  intro l m h a ha
  obtain ⟨s, hs, rfl⟩ := List.mem_map.1 ha
  have := h s hs
  exact ⟨by omega, this.2.2⟩
 obtain ⟨e1, g1⟩ := hour_eq (F := F) (f := f) (am := f.Cells.map (·.Lo)) (st := caps.map (·.Lo)) (gi := caps.map (·.Hi)) hF hf.w hf.h (by simpa using hf.len) (by simpa using hcl) (by simpa using hcl) (m1 _ _ hf.cells) (m1 _ _ hc.ok) (m2 _ _ hc.ok)
 obtain ⟨e2, g2⟩ := hour_eq (F := F) (f := f) (am := f.Cells.map (·.Hi)) (st := caps.map (·.Hi)) (gi := caps.map (·.Lo)) hF hf.w hf.h (by simpa using hf.len) (by simpa using hcl) (by simpa using hcl) (m2 _ _ hf.cells) (m2 _ _ hc.ok) (m1 _ _ hc.ok)
 have hle := hour_le (W := f.W) (H := f.H) (leL_map hf.cells) (leL_map hc.ok) (leL_map hc.ok)
 have l1 : (loV f.W f.H f.Cells caps).length = f.Cells.length := by have := g1.len; simpa [loV] using this
 have l2 : (hiV f.W f.H f.Cells caps).length = f.Cells.length := by have := g2.len; simpa [hiV] using this
 have lv : (spreadV f.W f.H f.Cells caps).length = f.Cells.length := by rw [spreadV, List.length_zipWith, l1, l2, Nat.min_self]
 have gv : ∀ i, i < f.Cells.length → (spreadV f.W f.H f.Cells caps).getD i ⟨0, 0⟩ = ⟨minO ((loV f.W f.H f.Cells caps).getD i 0), minO ((hiV f.W f.H f.Cells caps).getD i 0)⟩ := by
  intro i hi
  rw [getD_get (by rw [lv]; exact hi), getD_get (by rw [l1]; exact hi), getD_get (by rw [l2]; exact hi)]
  simp [spreadV]
 refine ⟨Ok.eq ?_, ⟨hf.w, hf.h, by rw [lv]; exact hf.len, fun s hs => ?_⟩, l1, l2, fun i => (g1.get i).1⟩
 ·unfold spill_grid_spread
  refine ok_bnde (ends_eq (by omega) (by omega)) (ok_bnde (ends_eq (by omega) (by omega)) (ok_bnde e1 (ok_bnde e2 ?_)))
  show Ok (fun x => x = spreadV f.W f.H f.Cells caps) (loopC _ F _)
  refine ok_loop (fun x : Int × List Span => 0 ≤ x.1 ∧ x.1 ≤ f.Cells.length ∧ x.2 = (spreadV f.W f.H f.Cells caps).take x.1.toNat) (fun x : Int × List Span => f.Cells.length - x.1.toNat) ⟨by simp, by simp, rfl⟩ (by simp; omega) ?_
  rintro ⟨i, o⟩ next ⟨h1, h2, h3⟩ hn
  simp only at h1 h2 h3
  have lo : o.length ≤ 64 := by rw [h3, List.length_take, lv]; omega
  have l1' : (hourV f.W f.H (f.Cells.map (·.Lo)) (caps.map (·.Lo)) (caps.map (·.Hi))).length = f.Cells.length := l1
  have l2' : (hourV f.W f.H (f.Cells.map (·.Hi)) (caps.map (·.Hi)) (caps.map (·.Lo))).length = f.Cells.length := l2
  refine ok_brk (fun hcc => ?_) (fun hcc => ok_some ?_)
  ·have hcc : i < f.Cells.length := by simpa [l1'] using hcc
   have hi : i.toNat < f.Cells.length := by omega
   refine ok_chk ⟨h1, by rw [l1']; exact hcc⟩ (ok_chk ⟨h1, by rw [l2']; exact hcc⟩ (ok_chk (by simp only [List.length_singleton]; omega) (ok_chk (by constructor <;> (first | omega | (dsimp only; omega))) (hn _ ⟨by show 0 ≤ i + 1; omega, by show i + 1 ≤ _; omega, ?_⟩ (by show f.Cells.length - (i + 1).toNat < f.Cells.length - i.toNat; omega)))))
   show o ++ [_] = (spreadV f.W f.H f.Cells caps).take (i + 1).toNat
   rw [show (i + 1).toNat = i.toNat + 1 by omega, take_succ' (d := ⟨0, 0⟩) (by rw [lv]; exact hi), h3, gv _ hi]
   rfl
  ·have hcc : ¬ i < f.Cells.length := by simpa [l1'] using hcc
   obtain rfl : i = f.Cells.length := by omega
   show o = _
   rw [h3, List.take_of_length_le (by rw [lv]; simp)]
 ·obtain ⟨i, hi, rfl⟩ := List.getElem_of_mem hs
  have hi' : i < f.Cells.length := by
   have : i < (spreadV f.W f.H f.Cells caps).length := hi
   omega
  have := gv i hi'
  rw [getD_get (by rw [lv]; exact hi')] at this
  show SpanOK 1000000 ((spreadV f.W f.H f.Cells caps)[i])
  rw [this]
  exact ⟨minO_nn (g1.get i).1, minO_mono (hle.2 i), minO_le _⟩
end Go.Proofs.Ss
namespace Go.Proofs.Ss
open Go Go.KX
theorem wb {x lo hi : Int} (h1 : lo ≤ x) (h2 : x ≤ hi) : (decide (x ≥ lo) && decide (x ≤ hi)) = true := by rw [decide_eq_true (show x ≥ lo from h1), decide_eq_true h2]; rfl
theorem clone_eq {F : Nat} {l : List Span} (h : l.length ≤ 1000000) : slices_Clone_api_Span F l = some l := by
 unfold slices_Clone_api_Span
 rw [chk_pos (by simp; omega)]; rfl
theorem spreadN_ok {F : Nat} {f : Field} {caps : List Span} (hF : 100 < F) (hf : FieldOK f) (hc : CapsOK f.Cells.length caps) : ∀ n, FieldOK ⟨f.W, f.H, spreadN f.W f.H caps n f.Cells⟩ ∧ (spreadN f.W f.H caps n f.Cells).length = f.Cells.length
 | 0 => ⟨hf, rfl⟩
 | n + 1 => by
  obtain ⟨h1, h2⟩ := spreadN_ok hF hf hc n
  obtain ⟨_, h3, _⟩ := spread_eq (F := F) (f := ⟨f.W, f.H, spreadN f.W f.H caps n f.Cells⟩) hF h1 (by rw [h2]; exact hc)
  refine ⟨h3, ?_⟩
  have e1 := h3.len
  have e2 := hf.len
  simp only at e1
  show (spreadV f.W f.H (spreadN f.W f.H caps n f.Cells) caps).length = _
  omega
theorem Spread_eq {F : Nat} {f : Field} {caps : List Span} {hours : Int} (hF : 100 < F) (hf : FieldOK f) (hc : CapsOK f.Cells.length caps) (hh : 0 ≤ hours ∧ hours ≤ 48) :
  spill_Spread F f caps hours = some (⟨f.W, f.H, spreadN f.W f.H caps hours.toNat f.Cells⟩, 0) := by
 have hs := hf.small
 have hcl := hc.len
 refine Ok.eq ?_
 unfold spill_Spread
 refine ok_bnde (Check_eq (by show f.Cells.length < F; omega)) ?_
 rw [show checkV (Field.mk f.W f.H f.Cells) = 0 from hf.check]
 refine ok_brkF (by simp) (ok_brkF (by simp [hcl]) ?_)
 refine ok_join (by omega) (fun i : Int => 0 ≤ i ↔ ¬ ∀ s ∈ caps, SpanOK 10000 s) (fun i hi => ?_) fun k hk => find_ok (g := spill_begin_1) (m := 10000) (fun s => by unfold spill_begin_1; rw [span_eq, bnd_so]) k (by omega) (by omega) hk
 refine ok_brkF ?_ ?_
 ·rw [decide_eq_false_iff_not]
  exact fun h => (hi.1 h) hc.ok
 refine ok_bnde (clone_eq (by omega)) ?_
 rw [within_eq, bnd_so]
 refine ok_brkF (by simp; omega) ?_
 refine ok_loop (fun x : Int × List Span => 0 ≤ x.1 ∧ x.1 ≤ hours ∧ x.2 = spreadN f.W f.H caps x.1.toNat f.Cells) (fun x : Int × List Span => hours.toNat - x.1.toNat) ⟨by simp, by simp; omega, rfl⟩ (by simp; omega) ?_
 rintro ⟨i, o⟩ next ⟨h1, h2, h3⟩ hn
 simp only at h1 h2 h3
 refine ok_brk (fun hcc => ?_) (fun hcc => ok_some ?_)
 ·have hcc : i < hours := by simpa using hcc
  obtain ⟨h4, h5⟩ := spreadN_ok hF hf hc i.toNat
  rw [← h3] at h4 h5
  refine ok_bnde (spread_eq (f := ⟨f.W, f.H, o⟩) hF h4 (by rw [h5]; exact hc)).1 (ok_chk (by constructor <;> (first | omega | (dsimp only; omega))) (hn _ ⟨by show 0 ≤ i + 1; omega, by show i + 1 ≤ hours; omega, ?_⟩ (by show hours.toNat - (i + 1).toNat < hours.toNat - i.toNat; omega)))
  show spreadV f.W f.H o caps = spreadN f.W f.H caps (i + 1).toNat f.Cells
  rw [show (i + 1).toNat = i.toNat + 1 by omega, spreadN, h3]
 ·have hcc : ¬ i < hours := by simpa using hcc
  obtain rfl : i = hours := by omega
  rw [h3]
structure FlowOK (W H : Int) (am caps : List Int) : Prop where
 w : 1 ≤ W ∧ W ≤ 8
 h : 1 ≤ H ∧ H ≤ 8
 la : (am.length : Int) = W * H
 lc : (caps.length : Int) = W * H
 nn : ∀ a ∈ am, 0 ≤ a
 sum : sumL am ≤ 1000000
 caps : ∀ a ∈ caps, 0 ≤ a ∧ a ≤ 10000
theorem sumL_take_le {l : List Int} (h : ∀ x ∈ l, 0 ≤ x) (k : Nat) : sumL (l.take k) ≤ sumL l := by
 have e : sumL l = sumL (l.take k) + sumL (l.drop k) := by rw [← sumL_append, List.take_append_drop]
 have := sumL_nonneg (l.drop k) fun x hx => h x (List.mem_of_mem_drop hx)
 omega
theorem within_brk {F : Nat} {b : Bool} {x lo m : Int} : brk b (spill_within F x lo m) (some false) = some (b && (decide (x ≥ lo) && decide (x ≤ m))) := by
 cases b <;> rfl
theorem Flow_eq {F : Nat} {W H : Int} {am caps : List Int} (hF : 100 < F) (h : FlowOK W H am caps) :
  spill_Flow F W H am caps = some (hourV W H am caps caps, 0) ∧ Good am.length 1000000 (hourV W H am caps caps) ∧ sumL (hourV W H am caps caps) = sumL am := by
 have hb := mul_bound h.w.1 h.w.2 h.h.1 h.h.2
 have hla := h.la
 have hlc := h.lc
 have ha1 : ∀ a ∈ am, 0 ≤ a ∧ a ≤ 1000000 := fun a ha => ⟨h.nn a ha, Int.le_trans (mem_le_sumL am h.nn a ha) h.sum⟩
 obtain ⟨e1, g1⟩ := hour_eq (F := F) (f := ⟨W, H, []⟩) (am := am) (st := caps) (gi := caps) hF h.w h.h h.la (by omega) (by omega) ha1 h.caps h.caps
 have hsum := sum_hour (st := caps) h.w h.h h.la
 refine ⟨Ok.eq ?_, ⟨g1.len, g1.nn, by rw [hsum]; exact h.sum⟩, hsum⟩
 unfold spill_Flow
 rw [within_eq, bnd_so]
 have ew : (decide (W ≥ 1) && decide (W ≤ 8)) = true := wb h.w.1 h.w.2
 have eh : (decide (H ≥ 1) && decide (H ≤ 8)) = true := wb h.h.1 h.h.2
 rw [ew, within_brk, bnd_so, eh]
 refine ok_brkF rfl (ok_chk (by constructor <;> omega) (ok_chk (fun _ => by constructor <;> omega) (ok_brkF (by simp [hla, hlc]) ?_)))
 refine ok_loop (fun x : Int × Int => 0 ≤ x.2 ∧ x.2 ≤ am.length ∧ x.1 = 1000000 - sumL (am.take x.2.toNat)) (fun x : Int × Int => am.length - x.2.toNat) ⟨by simp, by simp, rfl⟩ (by simp; omega) ?_
 rintro ⟨left, i⟩ next ⟨h1, h2, h3⟩ hn
 simp only at h1 h2 h3
 have hs0 := sumL_nonneg (am.take i.toNat) fun x hx => h.nn x (List.mem_of_mem_take hx)
 have hs1 := sumL_take_le h.nn i.toNat
 have hs := h.sum
 refine ok_brk (fun hcc => ?_) (fun hcc => ?_)
 ·have hcc : i < am.length := by simpa using hcc
  have hi : i.toNat < am.length := by omega
  have hsn := sumL_take_succ hi
  have hsl := sumL_take_le h.nn (i.toNat + 1)
  have hai := ha1 _ (getD_mem (d := 0) hi)
  have hci := h.caps _ (getD_mem (i := i.toNat) (d := 0) (by omega))
  refine ok_chk ⟨h1, hcc⟩ ?_
  have eb : (decide (am.getD i.toNat 0 ≥ 0) && decide (am.getD i.toNat 0 ≤ left)) = true := wb hai.1 (by omega)
  have ec : (decide (caps.getD i.toNat 0 ≥ 0) && decide (caps.getD i.toNat 0 ≤ 10000)) = true := wb hci.1 hci.2
  refine ok_bnde (b := true) (show spill_within F (am.getD i.toNat 0) 0 left = some true from congrArg some eb) (ok_chk (fun _ => ⟨h1, by show i < _; omega⟩) ?_)
  refine ok_bnde (b := true) (show brk (!!true) (spill_within F (caps.getD i.toNat 0) 0 10000) (some false) = some true from congrArg some ec) ?_
  refine ok_brkF rfl (ok_chk (show InR (left - am.getD i.toNat 0) from ⟨by omega, by omega⟩) (ok_chk (by constructor <;> (first | omega | (dsimp only; omega))) (hn _ ⟨by show 0 ≤ i + 1; omega, by show i + 1 ≤ _; omega, ?_⟩ (by show am.length - (i + 1).toNat < am.length - i.toNat; omega))))
  show left - am.getD i.toNat 0 = 1000000 - sumL (am.take (i + 1).toNat)
  rw [show (i + 1).toNat = i.toNat + 1 by omega, hsn]; omega
 ·exact ok_bnde e1 (ok_some rfl)
theorem Holds_eq {F : Nat} {f : Field} {am : List Int} (hF : 100 < F) (hf : FieldOK f) (hl : am.length = f.Cells.length) :
  spill_Holds F f am = some (decide (∀ i, i < am.length → (f.Cells.getD i ⟨0, 0⟩).Lo ≤ am.getD i 0 ∧ am.getD i 0 ≤ (f.Cells.getD i ⟨0, 0⟩).Hi), 0) := by
 have hs := hf.small
 refine Ok.eq ?_
 unfold spill_Holds
 refine ok_bnde (Check_eq (by show f.Cells.length < F; omega)) ?_
 rw [show checkV (Field.mk f.W f.H f.Cells) = 0 from hf.check]
 refine ok_brkF (by simp) (ok_brkF (by simp [hl]) ?_)
 refine ok_loop (fun x : Int => 0 ≤ x ∧ x ≤ am.length ∧ ∀ j : Nat, (j : Int) < x → (f.Cells.getD j ⟨0, 0⟩).Lo ≤ am.getD j 0 ∧ am.getD j 0 ≤ (f.Cells.getD j ⟨0, 0⟩).Hi) (fun x : Int => am.length - x.toNat) ⟨by omega, by omega, fun j hj => by omega⟩ (by simp; omega) ?_
 intro i next ⟨h1, h2, h3⟩ hn
 refine ok_brk (fun hcc => ?_) (fun hcc => ok_some ?_)
 ·have hcc : i < am.length := by simpa using hcc
  have hi : i.toNat < am.length := by omega
  refine ok_chk ⟨h1, hcc⟩ (ok_chk ⟨h1, by omega⟩ (ok_chk ⟨h1, by omega⟩ ?_))
  rw [within_eq, bnd_so]
  refine ok_brk (fun hb => ok_some ?_) (fun hb => ok_chk (by constructor <;> omega) (hn _ ⟨by omega, by omega, fun j hj => ?_⟩ (by omega)))
  ·congr 1
   symm
   rw [decide_eq_false_iff_not]
   intro h
   obtain ⟨a1, a2⟩ := h _ hi
   rw [wb a1 a2] at hb; cases hb
  ·by_cases e : (j : Int) < i
   ·exact h3 j e
   ·obtain rfl : j = i.toNat := by omega
    simp only [Bool.not_eq_false', Bool.and_eq_true, decide_eq_true_eq] at hb
    exact hb
 ·have hcc : ¬ i < am.length := by simpa using hcc
  congr 1
  symm
  rw [decide_eq_true_eq]
  exact fun j hj => h3 j (by omega)
def totV (cells : List Span) : Span := ⟨sumL (cells.map (·.Lo)), sumL (cells.map (·.Hi))⟩
theorem tot_bound {cells : List Span} {n : Nat} (h : ∀ s ∈ cells, SpanOK 1000000 s) (hn : cells.length ≤ n) : 0 ≤ (totV cells).Lo ∧ (totV cells).Lo ≤ (totV cells).Hi ∧ (totV cells).Hi ≤ 1000000 * n := by
 induction cells generalizing n with
 | nil => simp [totV, sumL]; omega
 | cons s r ih =>
  have h1 := h s (by simp)
  cases n with
  | zero => simp at hn
  | succ n =>
   have h2 := ih (n := n) (fun x hx => h x (by simp [hx])) (by simpa using hn)
   simp only [totV, List.map_cons, sumL] at h2 ⊢
   omega
theorem tot_take {cells : List Span} {i : Nat} (h : i < cells.length) : totV (cells.take (i + 1)) = ⟨(totV (cells.take i)).Lo + (cells.getD i ⟨0, 0⟩).Lo, (totV (cells.take i)).Hi + (cells.getD i ⟨0, 0⟩).Hi⟩ := by
 rw [take_succ' (d := ⟨0, 0⟩) h]
 simp [totV, sumL_append, sumL]
theorem total_eq {F : Nat} {f : Field} (hF : 100 < F) (hf : FieldOK f) : spill_grid_total F f = some (totV f.Cells) := by
 have hs := hf.small
 refine Ok.eq ?_
 unfold spill_grid_total
 refine ok_loop (fun x : Int × Int × Int => 0 ≤ x.1 ∧ x.1 ≤ f.Cells.length ∧ x.2.2 = (totV (f.Cells.take x.1.toNat)).Lo ∧ x.2.1 = (totV (f.Cells.take x.1.toNat)).Hi) (fun x : Int × Int × Int => f.Cells.length - x.1.toNat) ⟨by simp, by simp, rfl, rfl⟩ (by simp; omega) ?_
 rintro ⟨i, hi', lo'⟩ next ⟨h1, h2, h3, h4⟩ hn
 simp only at h1 h2 h3 h4
 refine ok_brk (fun hcc => ?_) (fun hcc => ok_some ?_)
 ·have hcc : i < f.Cells.length := by simpa using hcc
  have hi : i.toNat < f.Cells.length := by omega
  have hb := tot_bound (cells := f.Cells.take i.toNat) (n := 64) (fun s hs => hf.cells s (List.mem_of_mem_take hs)) (by rw [List.length_take]; omega)
  have hc := hf.cells _ (getD_mem (d := ⟨0, 0⟩) hi)
  have ht := tot_take hi
  refine ok_chk ⟨h1, hcc⟩ (ok_chk (show InR (lo' + (f.Cells.getD i.toNat ⟨0, 0⟩).Lo) from ⟨by omega, by omega⟩) (ok_chk (show InR (hi' + (f.Cells.getD i.toNat ⟨0, 0⟩).Hi) from ⟨by omega, by omega⟩) (ok_chk (by constructor <;> (first | omega | (dsimp only; omega))) (hn _ ⟨by show 0 ≤ i + 1; omega, by show i + 1 ≤ _; omega, ?_, ?_⟩ (by show f.Cells.length - (i + 1).toNat < f.Cells.length - i.toNat; omega)))))
  ·show lo' + _ = (totV (f.Cells.take (i + 1).toNat)).Lo
   rw [show (i + 1).toNat = i.toNat + 1 by omega, ht, h3]
  ·show hi' + _ = (totV (f.Cells.take (i + 1).toNat)).Hi
   rw [show (i + 1).toNat = i.toNat + 1 by omega, ht, h4]
 ·have hcc : ¬ i < f.Cells.length := by simpa using hcc
  obtain rfl : i = f.Cells.length := by omega
  show Span.mk lo' hi' = _
  rw [h3, h4]
  simp [List.take_of_length_le]
theorem Total_eq {F : Nat} {f : Field} (hF : 100 < F) (hf : FieldOK f) : spill_Total F f = some (totV f.Cells, 0) := by
 have hs := hf.small
 refine Ok.eq ?_
 unfold spill_Total
 refine ok_bnde (Check_eq (by show f.Cells.length < F; omega)) ?_
 rw [show checkV (Field.mk f.W f.H f.Cells) = 0 from hf.check]
 exact ok_brkF (by simp) (ok_bnde (total_eq hF hf) (ok_some rfl))
def cutV (t sum s : Span) : Span := ⟨if s.Lo > t.Lo - (sum.Hi - s.Hi) then s.Lo else t.Lo - (sum.Hi - s.Hi), if s.Hi < t.Hi - (sum.Lo - s.Lo) then s.Hi else t.Hi - (sum.Lo - s.Lo)⟩
theorem Tighten_eq {F : Nat} {f : Field} {t : Span} (hF : 100 < F) (hf : FieldOK f) (ht : SpanOK 1000000 t) (h1 : (totV f.Cells).Lo ≤ t.Hi) (h2 : t.Lo ≤ (totV f.Cells).Hi) :
  spill_Tighten F f t = some (⟨f.W, f.H, f.Cells.map (cutV t (totV f.Cells))⟩, 0) := by
 have hs := hf.small
 have hb := tot_bound hf.cells hs.2
 refine Ok.eq ?_
 unfold spill_Tighten
 refine ok_bnde (Check_eq (by show f.Cells.length < F; omega)) ?_
 rw [show checkV (Field.mk f.W f.H f.Cells) = 0 from hf.check]
 refine ok_brkF (by simp) (ok_bnde (span_eq F ⟨t.Lo, t.Hi⟩ 1000000) ?_)
 rw [decide_eq_true (show SpanOK 1000000 ⟨t.Lo, t.Hi⟩ from ht)]
 refine ok_brkF rfl (ok_bnde (total_eq (f := ⟨f.W, f.H, f.Cells⟩) hF hf) (ok_brkF ?_ ?_))
 ·rw [Bool.or_eq_false_iff, decide_eq_false_iff_not, decide_eq_false_iff_not]
  exact ⟨by show ¬ (totV f.Cells).Lo > t.Hi; omega, by show ¬ (totV f.Cells).Hi < t.Lo; omega⟩
 refine ok_loop (fun x : Int × List Span => 0 ≤ x.1 ∧ x.1 ≤ f.Cells.length ∧ x.2 = (f.Cells.map (cutV t (totV f.Cells))).take x.1.toNat) (fun x : Int × List Span => f.Cells.length - x.1.toNat) ⟨by simp, by simp, rfl⟩ (by simp; omega) ?_
 rintro ⟨i, o⟩ next ⟨g1, g2, g3⟩ hn
 simp only at g1 g2 g3
 have lo : o.length ≤ 64 := by rw [g3, List.length_take, List.length_map]; omega
 refine ok_brk (fun hcc => ?_) (fun hcc => ok_some ?_)
 ·have hcc : i < f.Cells.length := by simpa using hcc
  have hi : i.toNat < f.Cells.length := by omega
  have hc := hf.cells _ (getD_mem (d := ⟨0, 0⟩) hi)
  refine ok_chk ⟨g1, hcc⟩ ?_
  refine ok_chk (show InR ((totV f.Cells).Hi - (f.Cells.getD i.toNat ⟨0, 0⟩).Hi) from ⟨by omega, by omega⟩) (ok_chk (show InR (t.Lo - ((totV f.Cells).Hi - (f.Cells.getD i.toNat ⟨0, 0⟩).Hi)) from ⟨by omega, by omega⟩) ?_)
  refine ok_chk (show InR ((totV f.Cells).Lo - (f.Cells.getD i.toNat ⟨0, 0⟩).Lo) from ⟨by omega, by omega⟩) (ok_chk (show InR (t.Hi - ((totV f.Cells).Lo - (f.Cells.getD i.toNat ⟨0, 0⟩).Lo)) from ⟨by omega, by omega⟩) ?_)
  refine ok_bnde (b := cutV t (totV f.Cells) (f.Cells.getD i.toNat ⟨0, 0⟩)) rfl (ok_chk (by simp only [List.length_singleton]; omega) (ok_chk (by constructor <;> (first | omega | (dsimp only; omega))) (hn _ ⟨by show 0 ≤ i + 1; omega, by show i + 1 ≤ _; omega, ?_⟩ (by show f.Cells.length - (i + 1).toNat < f.Cells.length - i.toNat; omega))))
  show o ++ [cutV t (totV f.Cells) (f.Cells.getD i.toNat ⟨0, 0⟩)] = (f.Cells.map (cutV t (totV f.Cells))).take (i + 1).toNat
  rw [show (i + 1).toNat = i.toNat + 1 by omega, take_succ' (d := ⟨0, 0⟩) (by simpa using hi), g3, getD_map _ _ _ ⟨0, 0⟩ _ hi]
 ·have hcc : ¬ i < f.Cells.length := by simpa using hcc
  obtain rfl : i = f.Cells.length := by omega
  rw [g3]; simp [List.take_of_length_le]
end Go.Proofs.Ss
namespace Go.Proofs.Ss
open Go Go.KX
structure Bytes (l : List Int) : Prop where
 b : ∀ x ∈ l, 0 ≤ x ∧ x ≤ 255
 len : l.length ≤ 9223372036854775807
section
variable {α : Type} {post : α → Prop} {l : List Int} {pos n : Int}
end
def Inside (cells : List Span) (am : List Int) : Prop := ∀ i, i < am.length → (cells.getD i ⟨0, 0⟩).Lo ≤ am.getD i 0 ∧ am.getD i 0 ≤ (cells.getD i ⟨0, 0⟩).Hi
structure MadeOK (x : Field × List Span × List Int) : Prop where
 f : FieldOK x.1
 small : x.1.W ≤ 4 ∧ x.1.H ≤ 4
 caps : CapsOK x.1.Cells.length x.2.1
 len : x.2.2.length = x.1.Cells.length
 inside : Inside x.1.Cells x.2.2
 nn : ∀ a ∈ x.2.2, 0 ≤ a ∧ a ≤ 600
 hi : ∀ s ∈ x.1.Cells, s.Hi ≤ 600
 chi : ∀ s ∈ x.2.1, s.Hi ≤ 200
end Go.Proofs.Ss
namespace Go.Proofs.Ss
open Go Go.KX
structure OwnIn (caps : List Span) (own : List Int) : Prop where
 len : own.length = caps.length
 ok : Inside caps own
end Go.Proofs.Ss
namespace Go.Proofs.Ss
open Go Go.KX
theorem getD_set_here {l : List Span} {i : Nat} {s d : Span} (h : i < l.length) : (l.set i s).getD i d = s := by rw [getD_set' h, if_pos rfl]
theorem spreadV_get {F : Nat} {f : Field} {caps : List Span} (hF : 100 < F) (hf : FieldOK f) (hc : CapsOK f.Cells.length caps) {i : Nat} (hi : i < f.Cells.length) :
  (spreadV f.W f.H f.Cells caps).getD i ⟨0, 0⟩ = ⟨minO ((loV f.W f.H f.Cells caps).getD i 0), minO ((hiV f.W f.H f.Cells caps).getD i 0)⟩ := by
 obtain ⟨_, _, l1, l2, _⟩ := spread_eq hF hf hc
 rw [getD_get (by rw [spreadV, List.length_zipWith, l1, l2]; omega), getD_get (by omega), getD_get (by omega)]
 simp [spreadV]
theorem spreadV_len {F : Nat} {f : Field} {caps : List Span} (hF : 100 < F) (hf : FieldOK f) (hc : CapsOK f.Cells.length caps) : (spreadV f.W f.H f.Cells caps).length = f.Cells.length := by
 obtain ⟨_, _, l1, l2, _⟩ := spread_eq hF hf hc
 rw [spreadV, List.length_zipWith, l1, l2, Nat.min_self]
theorem same_refl {F : Nat} {f : Field} (hF : f.Cells.length < F) (hl : f.Cells.length ≤ 1000000) : law11_same F f f = some true := by
 have h : kit_SameSpans F f.Cells f.Cells = some true := by
  refine Ok.eq ?_
  unfold kit_SameSpans
  refine ok_brkF (by simp) ?_
  refine ok_loop (fun x : Int => 0 ≤ x) (fun x : Int => f.Cells.length - x.toNat) (by omega) (by simp; omega) ?_
  intro x next h0 hn
  refine ok_brk (fun hc => ?_) (fun _ => ok_some rfl)
  have hc : x < f.Cells.length := by simpa using hc
  exact ok_chk ⟨h0, hc⟩ (ok_chk ⟨h0, hc⟩ (ok_brkF (by simp) (ok_chk ⟨by omega, by omega⟩ (hn _ (by omega) (by omega)))))
 unfold law11_same
 simp [h, brk_true, bnd_so]
end Go.Proofs.Ss
namespace Go.Proofs.Ss
open Go Go.KX
abbrev g0 : Sight := Sight.mk (0 : Int) (Span.mk (0 : Int) (0 : Int))
def cutS (t : Sight) (s : Span) : Span := ⟨if s.Lo > t.Oil.Lo then s.Lo else t.Oil.Lo, if s.Hi < t.Oil.Hi then s.Hi else t.Oil.Hi⟩
def seeGo : List Sight → List Span → List Span × Int
 | [], c => (c, 0)
 | t :: r, c => if ¬ (0 ≤ t.Cell ∧ t.Cell ≤ (c.length : Int) - 1) then ([], 1) else if ¬ SpanOK 1000000 t.Oil then ([], 120) else
   if (cutS t (c.getD t.Cell.toNat ⟨0, 0⟩)).Lo > (cutS t (c.getD t.Cell.toNat ⟨0, 0⟩)).Hi then ([], 21) else seeGo r (c.set t.Cell.toNat (cutS t (c.getD t.Cell.toNat ⟨0, 0⟩)))
def seeRes (f : Field) (x : List Span × Int) : Field × Int := if x.2 = 0 then (⟨f.W, f.H, x.1⟩, 0) else (⟨0, 0, []⟩, x.2)
def seeV (f : Field) (S : List Sight) : Field × Int := if checkV f ≠ 0 then (⟨0, 0, []⟩, checkV f) else if S.length > 100 then (⟨0, 0, []⟩, 2) else seeRes f (seeGo S f.Cells)
theorem nd_true {p : Prop} [Decidable p] (h : (!decide p) = true) : ¬ p := by simpa using h
theorem nd_false {p : Prop} [Decidable p] (h : (!decide p) = false) : p := by simpa using h
theorem drop_cons' {α : Type} {l : List α} {i : Nat} {d : α} (h : i < l.length) : l.drop i = l.getD i d :: l.drop (i + 1) := by
 rw [getD_get h]; exact List.drop_eq_getElem_cons h
theorem See_eq {F : Nat} {f : Field} {S : List Sight} (hF : 200 < F) (hl : f.Cells.length ≤ 80) (hS : S.length ≤ 120) : spill_See F f S = some (seeV f S) := by
 refine Ok.eq ?_
 unfold spill_See seeV
 refine ok_bnde (Check_eq (by show f.Cells.length < F; omega)) ?_
 show Ok _ (brk (checkV f != 0) _ _)
 refine ok_brk (fun h => ok_some ?_) (fun h => ?_)
 ·rw [if_pos (by simpa using h)]
 have h : checkV f = 0 := by simpa using h
 have hf := checkV_ok h
 have hs := hf.small
 rw [if_neg (by simp [h])]
 refine ok_brk (fun h2 => ok_some ?_) (fun h2 => ?_)
 ·rw [if_pos (by have := of_decide_eq_true h2; omega)]
 have h2 : S.length ≤ 100 := by have := of_decide_eq_false h2; omega
 rw [if_neg (by omega)]
 refine ok_bnde (clone_eq (by omega)) ?_
 refine ok_loop (fun x : Int × List Span => 0 ≤ x.1 ∧ x.1 ≤ S.length ∧ x.2.length = f.Cells.length ∧ seeGo (S.drop x.1.toNat) x.2 = seeGo S f.Cells) (fun x : Int × List Span => S.length - x.1.toNat) ⟨by simp, by simp, rfl, rfl⟩ (by simp; omega) ?_
 rintro ⟨i, c⟩ next ⟨i1, i2, i3, i4⟩ hn
 simp only at i1 i2 i3 i4
 rw [← i4]
 refine ok_brk (fun hc => ?_) (fun hc => ok_some ?_)
 ·have hc : i < S.length := by simpa using hc
  have hi : i.toNat < S.length := by omega
  have hd := drop_cons' (d := g0) hi
  rw [hd, seeGo]
  refine ok_chk ⟨i1, hc⟩ (ok_chk (show InR ((c.length : Int) - 1) from ⟨by omega, by omega⟩) ?_)
  dsimp only
  show Ok _ (bnd (spill_within F (S.getD i.toNat g0).Cell 0 ((c.length : Int) - 1)) _)
  generalize hteq : S.getD i.toNat g0 = t at hd
  rw [within_eq, bnd_so]
  refine ok_brk (fun hb => ok_some ?_) (fun hb => ?_)
  ·rw [if_pos]
   ·rfl
   ·intro h3
    rw [wb h3.1 h3.2] at hb; cases hb
  ·have hb : 0 ≤ t.Cell ∧ t.Cell ≤ (c.length : Int) - 1 := by simpa using hb
   rw [if_neg (fun h => h hb)]
   have htn : t.Cell.toNat < c.length := by omega
   have hidx : 0 ≤ t.Cell ∧ t.Cell < (c.length : Int) := by omega
   refine ok_bnde (span_eq F ⟨t.Oil.Lo, t.Oil.Hi⟩ 1000000) (ok_brk (fun hb2 => ok_some ?_) (fun hb2 => ?_))
   ·have hb2 : ¬ SpanOK 1000000 t.Oil := nd_true hb2
    rw [if_pos hb2]; rfl
   ·have hb2 : SpanOK 1000000 t.Oil := nd_false hb2
    rw [if_neg (fun h => h hb2)]
    refine ok_chk hidx (ok_bnde rfl (ok_chk hidx (ok_chk ⟨hb.1, by show t.Cell < ((List.set _ _ _).length : Int); rw [List.length_set]; omega⟩ (ok_chk ⟨hb.1, by show t.Cell < ((List.set _ _ _).length : Int); rw [List.length_set]; omega⟩ ?_))))
    simp only [getD_set_here htn]
    show Ok _ (brk (decide ((cutS t (c.getD t.Cell.toNat ⟨0, 0⟩)).Lo > (cutS t (c.getD t.Cell.toNat ⟨0, 0⟩)).Hi)) _ _)
    refine ok_brk (fun hb3 => ok_some ?_) (fun hb3 => ?_)
    ·rw [if_pos (of_decide_eq_true hb3)]; rfl
    ·rw [if_neg (of_decide_eq_false hb3)]
     have i4' := i4
     rw [hd, seeGo, if_neg (fun h => h hb), if_neg (fun h => h hb2), if_neg (of_decide_eq_false hb3)] at i4'
     rw [i4']
     refine ok_chk (show InR (i + 1) from ⟨by omega, by omega⟩) (hn _ ⟨by show 0 ≤ i + 1; omega, by show i + 1 ≤ _; omega, by show (c.set _ _).length = _; rw [List.length_set]; exact i3, ?_⟩ (by show S.length - (i + 1).toNat < S.length - i.toNat; omega))
     show seeGo (S.drop (i + 1).toNat) (c.set t.Cell.toNat (cutS t (c.getD t.Cell.toNat ⟨0, 0⟩))) = _
     rw [show (i + 1).toNat = i.toNat + 1 by omega]; exact i4'
 ·have hc : ¬ i < S.length := by simpa using hc
  rw [List.drop_eq_nil_of_le (by omega)]; rfl
theorem refSpan_eq (F : Nat) (s : Span) (m : Int) : ref11_span F s m = some (decide (SpanOK m s)) := by
 unfold ref11_span
 congr 1
 by_cases h : SpanOK m s
 ·rw [decide_eq_true h, decide_eq_true (show s.Lo ≥ 0 from h.1), decide_eq_true h.2.2, decide_eq_true h.2.1]; rfl
 ·rw [decide_eq_false h]
  by_cases h1 : s.Lo ≥ 0
  ·by_cases h2 : s.Hi ≤ m
   ·rw [decide_eq_true h1, decide_eq_true h2, decide_eq_false (fun h3 => h ⟨h1, h3, h2⟩)]; rfl
   ·rw [decide_eq_false h2]; simp
  ·rw [decide_eq_false h1]; simp
theorem refIn_eq (F : Nat) (a b c : Int) : ref11_in F a b c = some (decide (a ≥ b) && decide (a ≤ c)) := rfl
theorem refCheck_eq {F : Nat} {f : Field} (hF : f.Cells.length < F) : ref11_Check F f = some (checkV f) := by
 refine Ok.eq ?_
 unfold ref11_Check
 rw [refIn_eq, bnd_so]
 have e : ∀ a b c : Int, (decide (a ≥ b) && decide (a ≤ c)) = decide (b ≤ a ∧ a ≤ c) := fun a b c => by rw [← Bool.decide_and]
 rw [e]
 refine ok_bnde (b := decide (1 ≤ f.W ∧ f.W ≤ 8) && decide (1 ≤ f.H ∧ f.H ≤ 8)) ?_ ?_
 ·cases decide (1 ≤ f.W ∧ f.W ≤ 8)
  ·rfl
  ·rw [refIn_eq, e]; rfl
 have e2 : (!decide (1 ≤ f.W ∧ f.W ≤ 8) || !(decide (1 ≤ f.W ∧ f.W ≤ 8) && decide (1 ≤ f.H ∧ f.H ≤ 8))) = (!decide (1 ≤ f.W ∧ f.W ≤ 8) || !decide (1 ≤ f.H ∧ f.H ≤ 8)) := by
  cases decide (1 ≤ f.W ∧ f.W ≤ 8) <;> rfl
 rw [e2]
 refine ok_brk (fun h => ok_some ?_) (fun h => ?_)
 ·rw [checkV, if_pos]
  simp only [Bool.or_eq_true, Bool.not_eq_true', decide_eq_false_iff_not] at h
  omega
 ·simp only [Bool.or_eq_false_iff, Bool.not_eq_false', decide_eq_true_eq] at h
  obtain ⟨hb1, hb2⟩ := mul_bound h.1.1 h.1.2 h.2.1 h.2.2
  have e1 : ¬ ¬ (1 ≤ f.W ∧ f.W ≤ 8 ∧ 1 ≤ f.H ∧ f.H ≤ 8) := by omega
  refine ok_chk (by constructor <;> omega) (ok_brk (fun h2 => ok_some ?_) (fun h2 => ?_))
  ·rw [checkV, if_neg e1, if_pos (by simpa using h2)]
  ·have h2 : (f.Cells.length : Int) = f.W * f.H := by simpa using h2
   refine ok_loop (fun i : Int => 0 ≤ i ∧ i ≤ f.Cells.length ∧ ∀ j : Nat, (j : Int) < i → SpanOK 1000000 (f.Cells.getD j ⟨0, 0⟩)) (fun i : Int => f.Cells.length - i.toNat) ⟨by omega, by omega, fun j hj => by omega⟩ (by simp; omega) fun i next ⟨h3, h4, h5⟩ hn => ?_
   refine ok_brk (fun hc => ?_) (fun hc => ok_some ?_)
   ·have hc : i < f.Cells.length := by simpa using hc
    have hi : i.toNat < f.Cells.length := by omega
    refine ok_chk ⟨h3, hc⟩ (ok_bnde (refSpan_eq F (Span.mk (f.Cells.getD i.toNat ⟨0, 0⟩).Lo (f.Cells.getD i.toNat ⟨0, 0⟩).Hi) 1000000) (ok_brk (fun hb => ok_some ?_) (fun hb => ok_chk ⟨by omega, by omega⟩ (hn _ ⟨by omega, by omega, fun j hj => ?_⟩ (by omega)))))
    ·have hb : ¬ SpanOK 1000000 (f.Cells.getD i.toNat ⟨0, 0⟩) := nd_true hb
     rw [checkV, if_neg e1, if_neg (fun h => h h2), if_neg (fun h => hb (h _ (getD_mem hi)))]
    ·by_cases e : (j : Int) < i
     ·exact h5 j e
     ·obtain rfl : j = i.toNat := by omega
      exact nd_false hb
   ·have hc : ¬ i < f.Cells.length := by simpa using hc
    rw [checkV, if_neg e1, if_neg (fun h => h h2), if_pos]
    intro s hs
    obtain ⟨j, hj, rfl⟩ := List.getElem_of_mem hs
    have := h5 j (by omega)
    rwa [getD_get hj] at this
theorem set_self {l : List Span} {k : Nat} (h : k < l.length) : l.set k (l.getD k ⟨0, 0⟩) = l := by
 rw [getD_get h]; exact List.set_getElem_self h
theorem refSee_eq {F : Nat} {f : Field} {S : List Sight} (hF : 200 < F) (hl : f.Cells.length ≤ 80) (hS : S.length ≤ 120) : ref11_See F f S = some (seeV f S) := by
 refine Ok.eq ?_
 unfold ref11_See seeV
 refine ok_bnde (refCheck_eq (by show f.Cells.length < F; omega)) ?_
 show Ok _ (brk (checkV f != 0) _ _)
 refine ok_brk (fun h => ok_some ?_) (fun h => ?_)
 ·rw [if_pos (by simpa using h)]
 have h : checkV f = 0 := by simpa using h
 have hf := checkV_ok h
 have hs := hf.small
 rw [if_neg (by simp [h])]
 refine ok_brk (fun h2 => ok_some ?_) (fun h2 => ?_)
 ·rw [if_pos (by have := of_decide_eq_true h2; omega)]
 have h2 : S.length ≤ 100 := by have := of_decide_eq_false h2; omega
 rw [if_neg (by omega)]
 refine ok_chk (by show 0 + f.Cells.length ≤ 1000000000; omega) ?_
 show Ok _ (loopC _ F (0, f.Cells))
 refine ok_loop (fun x : Int × List Span => 0 ≤ x.1 ∧ x.1 ≤ S.length ∧ x.2.length = f.Cells.length ∧ seeGo (S.drop x.1.toNat) x.2 = seeGo S f.Cells) (fun x : Int × List Span => S.length - x.1.toNat) ⟨by simp, by simp, rfl, rfl⟩ (by simp; omega) ?_
 rintro ⟨i, c⟩ next ⟨i1, i2, i3, i4⟩ hn
 simp only at i1 i2 i3 i4
 rw [← i4]
 refine ok_brk (fun hc => ?_) (fun hc => ok_some ?_)
 ·have hc : i < S.length := by simpa using hc
  have hi : i.toNat < S.length := by omega
  have hd := drop_cons' (d := g0) hi
  rw [hd, seeGo]
  refine ok_chk ⟨i1, hc⟩ (ok_chk (show InR ((c.length : Int) - 1) from ⟨by omega, by omega⟩) ?_)
  have ix : 0 ≤ i ∧ i < (S.length : Int) := ⟨i1, hc⟩
  dsimp only
  show Ok _ (bnd (ref11_in F (S.getD i.toNat g0).Cell 0 ((c.length : Int) - 1)) _)
  generalize hteq : S.getD i.toNat g0 = t at hd
  rw [refIn_eq, bnd_so]
  refine ok_brk (fun hb => ok_some ?_) (fun hb => ?_)
  ·rw [if_pos]
   ·rfl
   ·intro h3
    rw [wb h3.1 h3.2] at hb; cases hb
  ·have hb : 0 ≤ t.Cell ∧ t.Cell ≤ (c.length : Int) - 1 := by simpa using hb
   rw [if_neg (fun h => h hb)]
   have htn : t.Cell.toNat < c.length := by omega
   have hidx : 0 ≤ t.Cell ∧ t.Cell < (c.length : Int) := by omega
   refine ok_chk ix (ok_bnde (refSpan_eq F ⟨t.Oil.Lo, t.Oil.Hi⟩ 1000000) (ok_brk (fun hb2 => ok_some ?_) (fun hb2 => ?_)))
   ·have hb2 : ¬ SpanOK 1000000 t.Oil := nd_true hb2
    rw [if_pos hb2]; rfl
   ·have hb2 : SpanOK 1000000 t.Oil := nd_false hb2
    rw [if_neg (fun h => h hb2)]
    have q1 : ∀ a b : Int, (if b > a then b else a) = (if a > b then a else b) := fun a b => by split <;> split <;> omega
    have q2 : ∀ a b : Int, (if b < a then b else a) = (if a < b then a else b) := fun a b => by split <;> split <;> omega
    refine ok_join (by omega) (fun c1 : List Span => c1 = c.set t.Cell.toNat ⟨if (c.getD t.Cell.toNat ⟨0, 0⟩).Lo > t.Oil.Lo then (c.getD t.Cell.toNat ⟨0, 0⟩).Lo else t.Oil.Lo, (c.getD t.Cell.toNat ⟨0, 0⟩).Hi⟩) (fun c1 hc1 => ?_) fun k hk => ?_
    ·subst hc1
     refine ok_join (by omega) (fun c2 : List Span => c2 = c.set t.Cell.toNat (cutS t (c.getD t.Cell.toNat ⟨0, 0⟩))) (fun c2 hc2 => ?_) fun k hk => ?_
     ·subst hc2
      have hidx2 : 0 ≤ t.Cell ∧ t.Cell < ((c.set t.Cell.toNat (cutS t (c.getD t.Cell.toNat ⟨0, 0⟩))).length : Int) := ⟨hb.1, by rw [List.length_set]; omega⟩
      refine ok_chk hidx2 (ok_chk hidx2 ?_)
      simp only [getD_set_here htn]
      refine ok_brk (fun hb3 => ok_some ?_) (fun hb3 => ?_)
      ·rw [if_pos (of_decide_eq_true hb3)]; rfl
      ·rw [if_neg (of_decide_eq_false hb3)]
       have i4' := i4
       rw [hd, seeGo, if_neg (fun h => h hb), if_neg (fun h => h hb2), if_neg (of_decide_eq_false hb3)] at i4'
       rw [i4']
       refine ok_chk (show InR (i + 1) from ⟨by omega, by omega⟩) (hn _ ⟨by show 0 ≤ i + 1; omega, by show i + 1 ≤ _; omega, by show (c.set _ _).length = _; rw [List.length_set]; exact i3, ?_⟩ (by show S.length - (i + 1).toNat < S.length - i.toNat; omega))
       show seeGo (S.drop (i + 1).toNat) (c.set t.Cell.toNat (cutS t (c.getD t.Cell.toNat ⟨0, 0⟩))) = _
       rw [show (i + 1).toNat = i.toNat + 1 by omega]; exact i4'
     ·have hidx2 : ∀ s : Span, 0 ≤ t.Cell ∧ t.Cell < ((c.set t.Cell.toNat s).length : Int) := fun s => ⟨hb.1, by rw [List.length_set]; omega⟩
      refine ok_chk ix (ok_chk (hidx2 _) ?_)
      simp only [getD_set_here htn, List.set_set]
      refine ok_brk (fun hb3 => ok_chk ix (ok_chk (hidx2 _) (hk _ ?_))) (fun hb3 => hk _ ?_)
      ·have hb3 : t.Oil.Hi < (c.getD t.Cell.toNat ⟨0, 0⟩).Hi := of_decide_eq_true hb3
       simp only [cutS]
       rw [if_neg (show ¬ (c.getD t.Cell.toNat ⟨0, 0⟩).Hi < t.Oil.Hi by omega)]
      ·have hb3 : ¬ t.Oil.Hi < (c.getD t.Cell.toNat ⟨0, 0⟩).Hi := of_decide_eq_false hb3
       simp only [cutS]
       congr 2
       split <;> omega
    ·refine ok_chk ix (ok_chk hidx (ok_brk (fun hb3 => ok_chk ix (ok_chk hidx (hk _ ?_))) (fun hb3 => hk _ ?_)))
     ·have hb3 : t.Oil.Lo > (c.getD t.Cell.toNat ⟨0, 0⟩).Lo := of_decide_eq_true hb3
      rw [if_neg (show ¬ (c.getD t.Cell.toNat ⟨0, 0⟩).Lo > t.Oil.Lo by omega)]
     ·have hb3 : ¬ t.Oil.Lo > (c.getD t.Cell.toNat ⟨0, 0⟩).Lo := of_decide_eq_false hb3
      have : (if (c.getD t.Cell.toNat ⟨0, 0⟩).Lo > t.Oil.Lo then (c.getD t.Cell.toNat ⟨0, 0⟩).Lo else t.Oil.Lo) = (c.getD t.Cell.toNat ⟨0, 0⟩).Lo := by split <;> omega
      rw [this]
      exact (set_self htn).symm
 ·have hc : ¬ i < S.length := by simpa using hc
  rw [List.drop_eq_nil_of_le (by omega)]; rfl
theorem seeGo_ok : ∀ (S : List Sight) (c : List Span), (∀ s ∈ c, SpanOK 1000000 s) → (∀ s ∈ (seeGo S c).1, SpanOK 1000000 s) ∧ (seeGo S c).1.length ≤ c.length
 | [], c, h => ⟨h, Nat.le_refl _⟩
 | t :: r, c, h => by
  rw [seeGo]
  split
  ·exact ⟨fun s hs => by simp at hs, by simp⟩
  ·rename_i h1
   split
   ·exact ⟨fun s hs => by simp at hs, by simp⟩
   ·rename_i h2
    split
    ·exact ⟨fun s hs => by simp at hs, by simp⟩
    ·rename_i h3
     have h1 := Classical.not_not.1 h1
     have h2 := Classical.not_not.1 h2
     have hk := h _ (getD_mem (i := t.Cell.toNat) (d := (⟨0, 0⟩ : Span)) (by omega : t.Cell.toNat < c.length))
     obtain ⟨g1, g2⟩ := seeGo_ok r (c.set t.Cell.toNat (cutS t (c.getD t.Cell.toNat ⟨0, 0⟩))) (fun s hs => by
      rcases List.mem_or_eq_of_mem_set hs with hs | rfl
      ·exact h s hs
      ·refine ⟨?_, by omega, ?_⟩
       ·simp only [cutS]; split <;> omega
       ·simp only [cutS]; split <;> omega)
     exact ⟨g1, by rw [List.length_set] at g2; exact g2⟩
theorem seeV_ok (f : Field) (S : List Sight) : (∀ s ∈ (seeV f S).1.Cells, SpanOK 1000000 s) ∧ (seeV f S).1.Cells.length ≤ f.Cells.length := by
 unfold seeV
 split
 ·exact ⟨fun s hs => by simp at hs, by simp⟩
 ·rename_i h
  split
  ·exact ⟨fun s hs => by simp at hs, by simp⟩
  ·have hf := checkV_ok (Classical.not_not.1 h)
   have := seeGo_ok S f.Cells hf.cells
   unfold seeRes
   split
   ·exact this
   ·exact ⟨fun s hs => by simp at hs, by simp⟩
end Go.Proofs.Ss
namespace Go.Proofs.Ss
open Go Go.KX
def nbR (W H c : Int) : List Int := (((if c / W > 0 then [c - W] else []) ++ (if c % W < W - 1 then [c + 1] else [])) ++ (if c / W < H - 1 then [c + W] else [])) ++ (if c % W > 0 then [c - 1] else [])
theorem nbR_eq {W H c : Int} (hW : 1 ≤ W ∧ W ≤ 8) (hH : 1 ≤ H ∧ H ≤ 8) (hc : 0 ≤ c ∧ c < W * H) : nb W H c = nbR W H c := by
 obtain ⟨p1, p2, p3, p4⟩ := pos_bound hW hH hc
 have e := Int.emod_add_mul_ediv c W
 have e2 : c / W * W = W * (c / W) := Int.mul_comm _ _
 have o1 : okD W H c ⟨0, -1⟩ = decide (c / W > 0) := by
  simp only [okD]
  by_cases h : c / W > 0
  ·rw [decide_eq_true h, decide_eq_true (by omega), decide_eq_true (by omega), decide_eq_true (by omega), decide_eq_true (by omega)]; rfl
  ·rw [decide_eq_false h, decide_eq_false (show ¬ (c / W + -1 ≥ 0) by omega)]; simp
 have o2 : okD W H c ⟨1, 0⟩ = decide (c % W < W - 1) := by
  simp only [okD]
  by_cases h : c % W < W - 1
  ·rw [decide_eq_true h, decide_eq_true (by omega), decide_eq_true (by omega), decide_eq_true (by omega), decide_eq_true (by omega)]; rfl
  ·rw [decide_eq_false h, decide_eq_false (show ¬ (c % W + 1 ≤ W - 1) by omega)]; simp
 have o3 : okD W H c ⟨0, 1⟩ = decide (c / W < H - 1) := by
  simp only [okD]
  by_cases h : c / W < H - 1
  ·rw [decide_eq_true h, decide_eq_true (by omega), decide_eq_true (by omega), decide_eq_true (by omega), decide_eq_true (by omega)]; rfl
  ·rw [decide_eq_false h, decide_eq_false (show ¬ (c / W + 1 ≤ H - 1) by omega)]; simp
 have o4 : okD W H c ⟨-1, 0⟩ = decide (c % W > 0) := by
  simp only [okD]
  by_cases h : c % W > 0
  ·rw [decide_eq_true h, decide_eq_true (by omega), decide_eq_true (by omega), decide_eq_true (by omega), decide_eq_true (by omega)]; rfl
  ·rw [decide_eq_false h, decide_eq_false (show ¬ (c % W + -1 ≥ 0) by omega)]; simp
 have t1 : toD W c ⟨0, -1⟩ = c - W := by simp only [toD, Int.add_mul]; omega
 have t2 : toD W c ⟨1, 0⟩ = c + 1 := by simp only [toD, Int.add_mul]; omega
 have t3 : toD W c ⟨0, 1⟩ = c + W := by simp only [toD, Int.add_mul]; omega
 have t4 : toD W c ⟨-1, 0⟩ = c - 1 := by simp only [toD, Int.add_mul]; omega
 unfold nb nbl nbR
 have f1 : dirs.filter (okD W H c) = (((if c / W > 0 then [⟨0, -1⟩] else []) ++ (if c % W < W - 1 then [⟨1, 0⟩] else [])) ++ (if c / W < H - 1 then [⟨0, 1⟩] else [])) ++ (if c % W > 0 then [⟨-1, 0⟩] else []) := by
  simp only [List.filter, o1, o2, o3, o4]
  by_cases h1 : c / W > 0 <;> by_cases h2 : c % W < W - 1 <;> by_cases h3 : c / W < H - 1 <;> by_cases h4 : c % W > 0 <;> simp [h1, h2, h3, h4]
 rw [f1]
 simp only [List.map_append]
 congr 1
 ·congr 1
  ·congr 1
   ·split <;> simp [t1]
   ·split <;> simp [t2]
  ·split <;> simp [t3]
 ·split <;> simp [t4]
theorem refNb_eq {F : Nat} {W H c : Int} (hF0 : 0 < F) (hW : 1 ≤ W ∧ W ≤ 8) (hH : 1 ≤ H ∧ H ≤ 8) (hc : 0 ≤ c ∧ c < W * H) : ref11_Neighbours F W H c = some (nb W H c) := by
 rw [nbR_eq hW hH hc]
 obtain ⟨p1, p2, p3, p4⟩ := pos_bound hW hH hc
 have hb := mul_bound hW.1 hW.2 hH.1 hH.2
 refine Ok.eq ?_
 unfold ref11_Neighbours
 refine ok_chk ⟨⟨by omega, by omega⟩, by omega⟩ (ok_chk ⟨⟨by omega, by omega⟩, by omega⟩ ?_)
 refine ok_join (by omega) (fun x : List Int => x = (if c / W > 0 then [c - W] else [])) (fun x hx => ?_) fun k hk => ?_
 rotate_left
 ·refine ok_brk (fun h => ?_) (fun h => hk _ ?_)
  ·have h : c / W > 0 := of_decide_eq_true h
   exact ok_chk ⟨by omega, by omega⟩ (ok_chk (by simp) (hk _ (by rw [if_pos h])))
  ·rw [if_neg (of_decide_eq_false h)]
 have lx : x.length ≤ 1 := by rw [hx]; split <;> simp
 refine ok_join (by omega) (fun y : List Int => y = x ++ (if c % W < W - 1 then [c + 1] else [])) (fun y hy => ?_) fun k hk => ?_
 rotate_left
 ·refine ok_chk ⟨by omega, by omega⟩ (ok_brk (fun h => ?_) (fun h => hk _ ?_))
  ·have h : c % W < W - 1 := of_decide_eq_true h
   exact ok_chk ⟨by omega, by omega⟩ (ok_chk (by simp; omega) (hk _ (by rw [if_pos h])))
  ·rw [if_neg (of_decide_eq_false h)]; simp
 have ly : y.length ≤ 2 := by rw [hy, List.length_append]; split <;> simp <;> omega
 refine ok_join (by omega) (fun z : List Int => z = y ++ (if c / W < H - 1 then [c + W] else [])) (fun z hz => ?_) fun k hk => ?_
 rotate_left
 ·refine ok_chk ⟨by omega, by omega⟩ (ok_brk (fun h => ?_) (fun h => hk _ ?_))
  ·have h : c / W < H - 1 := of_decide_eq_true h
   exact ok_chk ⟨by omega, by omega⟩ (ok_chk (by simp; omega) (hk _ (by rw [if_pos h])))
  ·rw [if_neg (of_decide_eq_false h)]; simp
 have lz : z.length ≤ 3 := by rw [hz, List.length_append]; split <;> simp <;> omega
 refine ok_join (by omega) (fun u : List Int => u = nbR W H c) (fun u hu => ok_some hu) fun k hk => ?_
 refine ok_brk (fun h => ?_) (fun h => hk _ ?_)
 ·have h : c % W > 0 := of_decide_eq_true h
  refine ok_chk ⟨by omega, by omega⟩ (ok_chk (by simp; omega) (hk _ ?_))
  rw [hz, hy, hx, nbR, if_pos h]
 ·rw [hz, hy, hx, nbR, if_neg (of_decide_eq_false h)]; simp
def gridOK (W H : Int) : Bool := (List.range (W * H).toNat).all fun c => decide ((nbR W H c).Nodup) && !(nbR W H c).contains (c : Int) && (List.range (W * H).toNat).all fun k => (nbR W H c).contains (k : Int) == (nbR W H k).contains (c : Int)
theorem grids_ok : ((List.range 9).all fun W => (List.range 9).all fun H => gridOK W H) = true := by decide +kernel
theorem grid_of {W H : Int} (hW : 1 ≤ W ∧ W ≤ 8) (hH : 1 ≤ H ∧ H ≤ 8) {c : Int} (hc : 0 ≤ c ∧ c < W * H) : (nb W H c).Nodup ∧ c ∉ nb W H c ∧ ∀ k, 0 ≤ k → k < W * H → (k ∈ nb W H c ↔ c ∈ nb W H k) := by
 have h := grids_ok
 rw [List.all_eq_true] at h
 have h1 := h W.toNat (List.mem_range.2 (by omega))
 rw [List.all_eq_true] at h1
 have h2 := h1 H.toNat (List.mem_range.2 (by omega))
 rw [show ((W.toNat : Nat) : Int) = W by omega, show ((H.toNat : Nat) : Int) = H by omega, gridOK, List.all_eq_true] at h2
 have h3 := h2 c.toNat (List.mem_range.2 (by omega))
 rw [show ((c.toNat : Nat) : Int) = c by omega] at h3
 simp only [Bool.and_eq_true, decide_eq_true_eq, Bool.not_eq_true', List.all_eq_true] at h3
 rw [nbR_eq hW hH hc]
 refine ⟨h3.1.1, fun hm => ?_, fun k k1 k2 => ?_⟩
 ·have := h3.1.2
  rw [List.contains_iff_mem.2 hm] at this; cases this
 ·have h4 := h3.2 k.toNat (List.mem_range.2 (by omega))
  rw [show ((k.toNat : Nat) : Int) = k by omega] at h4
  rw [nbR_eq hW hH ⟨k1, k2⟩]
  have h5 : (nbR W H c).contains k = (nbR W H k).contains c := by simpa using h4
  constructor
  ·intro hm; exact List.contains_iff_mem.1 (by rw [← h5]; exact List.contains_iff_mem.2 hm)
  ·intro hm; exact List.contains_iff_mem.1 (by rw [h5]; exact List.contains_iff_mem.2 hm)
def sumAt (k : Int) : List (Int × Int) → Int
 | [] => 0
 | p :: r => (if p.1 = k then p.2 else 0) + sumAt k r
theorem sumAt_append (k : Int) : ∀ l r : List (Int × Int), sumAt k (l ++ r) = sumAt k l + sumAt k r
 | [], r => by simp [sumAt]
 | x :: l, r => by simp only [List.cons_append, sumAt, sumAt_append k l r]; omega
theorem adds_get {k : Int} (hk : 0 ≤ k) : ∀ (cs : List (Int × Int)) (l : List Int), k < l.length → (∀ p ∈ cs, 0 ≤ p.1 ∧ p.1 < l.length) → (adds l cs).getD k.toNat 0 = l.getD k.toNat 0 + sumAt k cs
 | [], l, _, _ => by simp [adds, sumAt]
 | p :: cs, l, hl, h => by
  have hp := h p (by simp)
  rw [adds, adds_get hk cs _ (by rw [addAt_len]; exact hl) (fun q hq => by rw [addAt_len]; exact h q (by simp [hq])), addAt, getD_set' (by omega), sumAt]
  by_cases e : p.1 = k
  ·rw [if_pos (by rw [e]), if_pos e, e]; omega
  ·rw [if_neg (by omega), if_neg e]; omega
def giveAt (f m : Int) : Int → List Int → Int → Int
 | _, [], _ => 0
 | i, q :: ks, k => if q = k then (f + i) / m else giveAt f m (i + 1) ks k
theorem giveAt_none {f m k : Int} : ∀ (ks : List Int) (i : Int), k ∉ ks → giveAt f m i ks k = 0 ∧ sumAt k (give f m i ks) = 0
 | [], _, _ => ⟨rfl, rfl⟩
 | q :: ks, i, h => by
  have h1 : q ≠ k := fun e => h (by simp [e])
  obtain ⟨h2, h3⟩ := giveAt_none ks (i + 1) fun hm : k ∈ ks => h (List.mem_cons_of_mem _ hm)
  exact ⟨by rw [giveAt, if_neg h1, h2], by rw [give, sumAt, if_neg h1, h3]; rfl⟩
theorem sumAt_give {f m k : Int} : ∀ (ks : List Int) (i : Int), ks.Nodup → sumAt k (give f m i ks) = giveAt f m i ks k
 | [], _, _ => rfl
 | q :: ks, i, h => by
  rw [List.nodup_cons] at h
  rw [give, sumAt, giveAt]
  by_cases e : q = k
  ·subst e
   rw [if_pos rfl, if_pos rfl, (giveAt_none ks (i + 1) h.1).2]; simp
  ·rw [if_neg e, if_neg e, sumAt_give ks (i + 1) h.2]; simp
def sumR (G : Int → Int) : Nat → Int
 | 0 => 0
 | n + 1 => sumR G n + G n
theorem sumR_congr {G G' : Int → Int} : ∀ n : Nat, (∀ c : Nat, c < n → G c = G' c) → sumR G n = sumR G' n
 | 0, _ => rfl
 | n + 1, h => by rw [sumR, sumR, sumR_congr n fun c hc => h c (by omega), h n (by omega)]
theorem sumR_zero (n : Nat) : sumR (fun _ => 0) n = 0 := by
 induction n with
 | zero => rfl
 | succ n ih => rw [sumR, ih]; rfl
theorem sumR_pick {G : Int → Int} {q : Int} (hq : 0 ≤ q) : ∀ n : Nat, q < n → sumR G n = G q + sumR (fun c => if c = q then 0 else G c) n
 | 0, h => by omega
 | n + 1, h => by
  rw [sumR, sumR]
  by_cases e : q = n
  ·subst e
   rw [if_pos rfl, sumR_congr (G' := fun c => if c = (n : Int) then 0 else G c) n fun c hc => by rw [if_neg (by omega)]]
   omega
  ·rw [sumR_pick hq n (by omega), if_neg (fun h => e h.symm)]; omega
def sumO (G : Int → Int) : List Int → Int
 | [] => 0
 | q :: ks => G q + sumO G ks
theorem sumO_congr {G G' : Int → Int} : ∀ ks : List Int, (∀ c ∈ ks, G c = G' c) → sumO G ks = sumO G' ks
 | [], _ => rfl
 | q :: ks, h => by rw [sumO, sumO, h q (by simp), sumO_congr ks fun c hc => h c (by simp [hc])]
theorem sumR_over {n : Nat} : ∀ (ks : List Int) (G : Int → Int), ks.Nodup → (∀ q ∈ ks, 0 ≤ q ∧ q < n) → (∀ c : Nat, c < n → (c : Int) ∉ ks → G c = 0) → sumR G n = sumO G ks
 | [], G, _, _, h => by rw [sumR_congr (G' := fun _ => 0) n fun c hc => h c hc (by simp), sumR_zero]; rfl
 | q :: ks, G, hn, hr, h => by
  rw [List.nodup_cons] at hn
  have hq := hr q (by simp)
  rw [sumR_pick hq.1 n hq.2, sumR_over ks (fun c => if c = q then 0 else G c) hn.2 (fun x hx => hr x (by simp [hx])) (fun c hc hm => ?_), sumO]
  ·congr 1
   exact sumO_congr ks fun c hc => if_neg (fun e : c = q => hn.1 (e ▸ hc))
  ·by_cases e : (c : Int) = q
   ·rw [if_pos e]
   ·rw [if_neg e]; exact h c hc (by simp [e, hm])
def afterV (W H : Int) (am st gi : List Int) (k : Int) : Int :=
 if (nb W H k).length = 0 then am.getD k.toNat 0 else am.getD k.toNat 0 - offV (am.getD k.toNat 0) (st.getD k.toNat 0) + sumO (fun l => giveAt (offV (am.getD l.toNat 0) (gi.getD l.toNat 0)) (nb W H l).length 0 (nb W H l) k) (nb W H k)
theorem hour_get {W H : Int} {am st gi : List Int} (hW : 1 ≤ W ∧ W ≤ 8) (hH : 1 ≤ H ∧ H ≤ 8) (hl : (am.length : Int) = W * H) {k : Int} (hk : 0 ≤ k ∧ k < W * H) : (hourV W H am st gi).getD k.toNat 0 = afterV W H am st gi k := by
 unfold hourV
 rw [adds_get hk.1 _ _ (by rw [List.length_replicate]; omega) (fun p hp => by rw [List.length_replicate, hl]; exact contrs_keys hW hH _ (by omega) p hp)]
 have e0 : (List.replicate am.length (0 : Int)).getD k.toNat 0 = 0 := by rw [getD_get (by simp; omega)]; simp
 rw [e0, Int.zero_add]
 have step : ∀ n : Nat, (n : Int) ≤ W * H → sumAt k (contrs W H am st gi n) = sumR (fun c => sumAt k (contr W H c (am.getD c.toNat 0) (st.getD c.toNat 0) (gi.getD c.toNat 0))) n := by
  intro n
  induction n with
  | zero => intro _; rfl
  | succ n ih =>
   intro hn
   rw [contrs, sumAt_append, ih (by omega), sumR]
   simp
 rw [step _ (by omega)]
 obtain ⟨g1, g2, g3⟩ := grid_of hW hH hk
 have one : ∀ c : Nat, (c : Int) < W * H → (c : Int) ≠ k → sumAt k (contr W H c (am.getD (c : Int).toNat 0) (st.getD (c : Int).toNat 0) (gi.getD (c : Int).toNat 0)) = giveAt (offV (am.getD (c : Int).toNat 0) (gi.getD (c : Int).toNat 0)) (nb W H c).length 0 (nb W H c) k := by
  intro c hc hne
  obtain ⟨n1, _, _⟩ := grid_of hW hH (c := c) ⟨by omega, hc⟩
  unfold contr
  split
  ·rename_i h0
   rw [List.length_eq_zero_iff.1 h0]
   simp only [sumAt, giveAt]
   rw [if_neg hne]; rfl
  ·rw [sumAt, sumAt_give _ _ n1]
   simp only
   rw [if_neg hne]; simp
 rw [sumR_pick hk.1 _ (by omega)]
 have two : sumR (fun c => if c = k then 0 else sumAt k (contr W H c (am.getD c.toNat 0) (st.getD c.toNat 0) (gi.getD c.toNat 0))) am.length = sumO (fun l => giveAt (offV (am.getD l.toNat 0) (gi.getD l.toNat 0)) (nb W H l).length 0 (nb W H l) k) (nb W H k) := by
  rw [sumR_over (nb W H k) _ g1 (fun q hq => by rw [hl]; exact nbl_mem hW hH q hq) (fun c hc hm => ?_)]
  ·refine sumO_congr _ fun c hc => ?_
   have hcr := nbl_mem hW hH c hc
   have hne : c ≠ k := fun e => g2 (e ▸ hc)
   have := one c.toNat (by omega) (by omega)
   rw [show ((c.toNat : Nat) : Int) = c by omega] at this
   rw [if_neg hne, this]
  ·split
   ·rfl
   ·rename_i hne
    rw [one c (by omega) hne]
    exact (giveAt_none _ _ (fun h => hm ((g3 c (by omega) (by omega)).2 h))).1
 rw [two]
 unfold afterV
 by_cases h0 : (nb W H k).length = 0
 ·rw [if_pos h0, contr, if_pos h0, List.length_eq_zero_iff.1 h0]
  simp [sumAt, sumO]
 ·rw [if_neg h0, contr, if_neg h0, sumAt, sumAt_give _ _ g1, (giveAt_none _ _ g2).1]
  simp
end Go.Proofs.Ss
namespace Go.Proofs.Ss
open Go Go.KX
def atV (f : Field) (caps : List Span) (c : Int) (h : Nat) : Span := (spreadN f.W f.H caps h f.Cells).getD c.toNat ⟨0, 0⟩
def WhenV (f : Field) (caps : List Span) (c : Int) (w : Span) (e : Int) : Prop :=
 (e = 0 ∧ 0 ≤ w.Lo ∧ w.Lo ≤ w.Hi ∧ w.Hi ≤ 48 ∧ 0 < (atV f caps c w.Lo.toNat).Hi ∧ 0 < (atV f caps c w.Hi.toNat).Lo ∧ (∀ h : Nat, (h : Int) < w.Lo → (atV f caps c h).Hi ≤ 0) ∧ ∀ h : Nat, (h : Int) < w.Hi → (atV f caps c h).Lo ≤ 0) ∨
 (w = ⟨0, 0⟩ ∧ e = 4 ∧ ∀ h : Nat, h ≤ 48 → (atV f caps c h).Lo ≤ 0)
def WhenOK (f : Field) (caps : List Span) (c : Int) (x : Span × Int) : Prop := WhenV f caps c x.1 x.2
theorem at_ok {F : Nat} {f : Field} {caps : List Span} {c : Int} (hF : 100 < F) (hf : FieldOK f) (hcp : CapsOK f.Cells.length caps) (h1 : 0 ≤ c) (h2 : c < f.Cells.length) (h : Nat) : SpanOK 1000000 (atV f caps c h) := by
 obtain ⟨g1, g2⟩ := spreadN_ok hF hf hcp h
 exact g1.cells _ (getD_mem (l := spreadN f.W f.H caps h f.Cells) (i := c.toNat) (d := (⟨0, 0⟩ : Span)) (by show c.toNat < (spreadN f.W f.H caps h f.Cells).length; omega))
theorem When_ok {F : Nat} {f : Field} {caps : List Span} {c : Int} (hF : 100 < F) (hf : FieldOK f) (hcp : CapsOK f.Cells.length caps) (h1 : 0 ≤ c) (h2 : c < f.Cells.length) : Ok (WhenOK f caps c) (spill_When F f caps c) := by
 have hs := hf.small
 have hcl := hcp.len
 unfold spill_When
 refine ok_bnde (Check_eq (by show f.Cells.length < F; omega)) ?_
 rw [show checkV (Field.mk f.W f.H f.Cells) = 0 from hf.check]
 refine ok_brkF (by simp) (ok_brkF (by simp [hcl]) ?_)
 refine ok_join (by omega) (fun i : Int => 0 ≤ i ↔ ¬ ∀ s ∈ caps, SpanOK 10000 s) (fun i hi => ?_) fun k hk => find_ok (g := spill_begin_1) (m := 10000) (fun s => by unfold spill_begin_1; rw [span_eq, bnd_so]) k (by omega) (by omega) hk
 refine ok_brkF ?_ ?_
 ·rw [decide_eq_false_iff_not]
  exact fun h => (hi.1 h) hcp.ok
 refine ok_bnde (clone_eq (by omega)) (ok_chk ⟨by omega, by omega⟩ (ok_bnde (b := true) (congrArg some (wb h1 (by omega))) (ok_brkF rfl ?_)))
 refine ok_loop (fun x : Int × Int × List Span => 0 ≤ x.1 ∧ x.1 ≤ 49 ∧ x.2.2 = spreadN f.W f.H caps x.1.toNat f.Cells ∧ (∀ h : Nat, (h : Int) < x.1 → (atV f caps c h).Lo ≤ 0) ∧
   ((x.2.1 = -1 ∧ ∀ h : Nat, (h : Int) < x.1 → (atV f caps c h).Hi ≤ 0) ∨ (0 ≤ x.2.1 ∧ x.2.1 < x.1 ∧ 0 < (atV f caps c x.2.1.toNat).Hi ∧ ∀ h : Nat, (h : Int) < x.2.1 → (atV f caps c h).Hi ≤ 0))) (fun x : Int × Int × List Span => 49 - x.1.toNat)
  ⟨by simp, by simp, rfl, fun h hh => by simp at hh; omega, .inl ⟨rfl, fun h hh => by simp at hh; omega⟩⟩ (by simp; omega) ?_
 rintro ⟨hour, lo, cells⟩ next ⟨i1, i2, i3, i4, i5⟩ hn
 simp only at i1 i2 i3 i4 i5
 obtain ⟨g1, g2⟩ := spreadN_ok (F := F) hF hf hcp hour.toNat
 rw [← i3] at g1 g2
 have hat : cells.getD c.toNat ⟨0, 0⟩ = atV f caps c hour.toNat := by rw [i3]; rfl
 have hao := at_ok hF hf hcp h1 h2 hour.toNat
 refine ok_brk (fun hc => ?_) (fun hc => ok_some (.inr ⟨rfl, rfl, fun h hh => i4 h (by have := of_decide_eq_false hc; omega)⟩))
 have hc : hour ≤ 48 := by simpa using hc
 have hidx : 0 ≤ c ∧ c < (cells.length : Int) := ⟨h1, by omega⟩
 refine ok_join (by omega) (fun l : Int => (l = -1 ∧ ∀ h : Nat, (h : Int) ≤ hour → (atV f caps c h).Hi ≤ 0) ∨ (0 ≤ l ∧ l ≤ hour ∧ 0 < (atV f caps c l.toNat).Hi ∧ ∀ h : Nat, (h : Int) < l → (atV f caps c h).Hi ≤ 0)) (fun l hl => ?_) fun k hk => ?_
 ·refine ok_chk hidx ?_
  show Ok _ (brk (decide ((cells.getD c.toNat ⟨0, 0⟩).Lo > 0)) _ _)
  rw [hat]
  refine ok_brk (fun hb => ok_some ?_) (fun hb => ?_)
  ·have hb : 0 < (atV f caps c hour.toNat).Lo := by simpa using hb
   rcases hl with ⟨_, q2⟩ | ⟨q1, q2, q3, q4⟩
   ·have := q2 hour.toNat (by omega)
    omega
   ·exact .inl ⟨rfl, q1, q2, hc, q3, hb, q4, i4⟩
  ·have hb : (atV f caps c hour.toNat).Lo ≤ 0 := by have := of_decide_eq_false hb; omega
   refine ok_bnde (spread_eq (f := ⟨f.W, f.H, cells⟩) hF g1 (by show CapsOK cells.length caps; rw [g2]; exact hcp)).1 (ok_chk ⟨by omega, by omega⟩ (hn _ ⟨by show 0 ≤ hour + 1; omega, by show hour + 1 ≤ 49; omega, ?_, fun h hh => ?_, ?_⟩ (by show 49 - (hour + 1).toNat < 49 - hour.toNat; omega)))
   ·show spreadV f.W f.H cells caps = spreadN f.W f.H caps (hour + 1).toNat f.Cells
    rw [show (hour + 1).toNat = hour.toNat + 1 by omega, spreadN, i3]
   ·have hh : (h : Int) < hour + 1 := hh
    by_cases e : (h : Int) < hour
    ·exact i4 h e
    ·obtain rfl : h = hour.toNat := by omega
     exact hb
   ·rcases hl with ⟨q1, q2⟩ | ⟨q1, q2, q3, q4⟩
    ·exact .inl ⟨q1, fun h hh => q2 h (by have hh : (h : Int) < hour + 1 := hh; omega)⟩
    ·exact .inr ⟨q1, by show l < hour + 1; omega, q3, q4⟩
 ·refine ok_chk (fun _ => hidx) ?_
  show Ok _ (brk (decide (lo < 0) && decide ((cells.getD c.toNat ⟨0, 0⟩).Hi > 0)) _ _)
  rw [hat]
  refine ok_brk (fun hb => hk _ ?_) (fun hb => hk _ ?_)
  ·simp only [Bool.and_eq_true, decide_eq_true_eq] at hb
   rcases i5 with ⟨q1, q2⟩ | ⟨q1, _⟩
   ·exact .inr ⟨i1, Int.le_refl _, hb.2, q2⟩
   ·omega
  ·simp only [Bool.and_eq_false_iff, decide_eq_false_iff_not] at hb
   rcases i5 with ⟨q1, q2⟩ | ⟨q1, q2, q3, q4⟩
   ·refine .inl ⟨q1, fun h hh => ?_⟩
    by_cases e : (h : Int) < hour
    ·exact q2 h e
    ·obtain rfl : h = hour.toNat := by omega
     omega
   ·exact .inr ⟨q1, by show lo ≤ hour; omega, q3, q4⟩
end Go.Proofs.Ss
namespace Go.Proofs.Ss
open Go Go.KX
abbrev c0 : Cell := Cell.mk (Span.mk (0 : Int) (0 : Int)) (Span.mk (0 : Int) (0 : Int)) (Span.mk (0 : Int) (0 : Int)) (Span.mk (0 : Int) (0 : Int))
structure IceIn (a b c : Int) : Prop where
 a : 0 ≤ a ∧ a ≤ 100
 b : 0 ≤ b ∧ b ≤ 400
 c : 0 ≤ c ∧ c ≤ 100
theorem iceIn_eq (F : Nat) (a b c : Int) : ice_in F a b c = some (decide (a ≥ b) && decide (a ≤ c)) := rfl
theorem wb_of {a b c : Int} (h : (!(decide (a ≥ b) && decide (a ≤ c))) = false) : b ≤ a ∧ a ≤ c := by
 simpa using h
theorem CheckIce_ok {F : Nat} (hF0 : 0 < F) (i : Ice) : Ok (fun e => e = 0 → IceIn i.Conc i.Thick i.Ridge) (ice_CheckIce F i) := by
 unfold ice_CheckIce
 refine ok_bnde (b := Numbers.mk i.Conc i.Thick i.Ridge i.Press) rfl ?_
 refine ok_join (by omega) (fun x : Bool => x = true → IceIn i.Conc i.Thick i.Ridge) (fun x hx => ok_brk (fun h => ok_some (fun h2 => by cases h2)) (fun h => ok_some (fun _ => hx (by simpa using h)))) fun k hk => ?_
 refine ok_bnde (b := Numbers.mk 100 400 100 3) rfl (ok_bnde (b := Numbers.mk 100 400 100 3) rfl (ok_bnde (iceIn_eq _ _ _ _) (ok_brk (fun h => hk _ (fun h => by cases h)) (fun q1 => ?_))))
 refine ok_bnde (b := Numbers.mk 100 400 100 3) rfl (ok_bnde (iceIn_eq _ _ _ _) (ok_brk (fun h => hk _ (fun h => by cases h)) (fun q2 => ?_)))
 refine ok_bnde (b := Numbers.mk 100 400 100 3) rfl (ok_bnde (iceIn_eq _ _ _ _) (ok_brk (fun h => hk _ (fun h => by cases h)) (fun q3 => ?_)))
 refine ok_bnde (b := Numbers.mk 100 400 100 3) rfl (ok_bnde (iceIn_eq _ _ _ _) (ok_brk (fun h => hk _ (fun h => by cases h)) (fun q4 => ?_)))
 exact hk _ fun _ => ⟨wb_of q1, wb_of q2, wb_of q3⟩
theorem mul_b {a b A B : Int} (h1 : 0 ≤ a ∧ a ≤ A) (h2 : 0 ≤ b ∧ b ≤ B) : 0 ≤ a * b ∧ a * b ≤ A * B :=
 ⟨Int.mul_nonneg h1.1 h2.1, Int.mul_le_mul h1.2 h2.2 h2.1 (by omega)⟩
theorem cap_eq {F : Nat} {i : Ice} (h : IceIn i.Conc i.Thick i.Ridge) : spill_capacity F i = some (i.Conc * (i.Thick + 5 * i.Ridge) / 100) := by
 unfold spill_capacity
 obtain ⟨a, b, c⟩ := h
 have hm := mul_b a (show 0 ≤ i.Thick + 5 * i.Ridge ∧ i.Thick + 5 * i.Ridge ≤ 900 by omega)
 rw [chk_pos ⟨by omega, by omega⟩, chk_pos ⟨by omega, by omega⟩, chk_pos ⟨by omega, by omega⟩, chk_pos ⟨by omega, by omega⟩]
theorem refCap_eq {F : Nat} {a b c : Int} (hF : 200 < F) (h : IceIn a b c) : ref11_Capacity F a b c = some (a * (b + 5 * c) / 100) := by
 refine Ok.eq ?_
 unfold ref11_Capacity
 obtain ⟨ha, hb, hc⟩ := h
 refine ok_loop (fun x : Int × Int => 0 ≤ x.1 ∧ x.1 ≤ c ∧ x.2 = b + 5 * x.1) (fun x : Int × Int => c.toNat - x.1.toNat) ⟨by simp, hc.1, by simp⟩ (by simp; omega) ?_
 rintro ⟨i, n⟩ next ⟨i1, i2, i3⟩ hn
 simp only at i1 i2 i3
 refine ok_brk (fun h => ?_) (fun h => ?_)
 ·have h : i < c := by simpa using h
  refine ok_chk (show InR (n + 5) from ⟨by omega, by omega⟩) (ok_chk (show InR (i + 1) from ⟨by omega, by omega⟩) (hn _ ⟨by show 0 ≤ i + 1; omega, by show i + 1 ≤ c; omega, by show n + 5 = b + 5 * (i + 1); omega⟩ (by show c.toNat - (i + 1).toNat < c.toNat - i.toNat; omega)))
 ·have h : ¬ i < c := by simpa using h
  obtain rfl : i = c := by omega
  have hm := mul_b ha (show 0 ≤ n ∧ n ≤ 900 by omega)
  refine ok_chk (show InR (a * n) from ⟨by omega, by omega⟩) (ok_chk (show 0 ≤ a * n ∧ a * n ≤ 9223372036854775807 from ⟨by omega, by omega⟩) (ok_some ?_))
  show a * n / 100 = _
  rw [i3]
def CellIn (c : Cell) : Prop := IceIn c.Conc.Lo c.Thick.Lo c.Ridge.Lo ∧ IceIn c.Conc.Hi c.Thick.Hi c.Ridge.Hi
theorem right_ok {F : Nat} {s : Span} {k : Int} (h0 : 0 ≤ k) (h1 : k < 4) : Ok (fun b => b = true → 0 ≤ s.Lo ∧ s.Lo ≤ s.Hi ∧ s.Hi ≤ [(100 : Int), 400, 100, 3].getD k.toNat 0) (ice_right F s k) := by
 unfold ice_right
 refine ok_bnde (b := Numbers.mk 100 400 100 3) rfl (ok_chk ⟨h0, by show k < 4; exact h1⟩ ?_)
 rw [iceIn_eq, bnd_so]
 cases hb : (decide (s.Lo ≥ 0) && decide (s.Lo ≤ [(Numbers.mk 100 400 100 3).a0, (Numbers.mk 100 400 100 3).a1, (Numbers.mk 100 400 100 3).a2, (Numbers.mk 100 400 100 3).a3].getD k.toNat 0)) with
 | false => exact ok_bnde (b := Numbers.mk 0 0 0 0) rfl (ok_chk (fun h => by cases h) (ok_bnde (b := false) rfl (ok_some (fun h => by cases h))))
 | true =>
  refine ok_bnde (b := Numbers.mk 100 400 100 3) rfl (ok_chk (fun _ => ⟨h0, h1⟩) (ok_bnde (iceIn_eq F _ _ _) (ok_some fun h => ?_)))
  have h : (decide (s.Hi ≥ s.Lo) && decide (s.Hi ≤ [(100 : Int), 400, 100, 3].getD k.toNat 0)) = true := h
  simp only [Bool.and_eq_true, decide_eq_true_eq] at hb h
  exact ⟨hb.1, h.1, h.2⟩
theorem CheckCell_ok {F : Nat} (hF0 : 0 < F) (c : Cell) : Ok (fun e => e = 0 → CellIn c) (ice_CheckCell F c) := by
 unfold ice_CheckCell
 refine ok_bnde (b := Spans.mk c.Conc c.Thick c.Ridge c.Press) rfl ?_
 refine ok_join (by omega) (fun x : Bool => x = true → CellIn c) (fun x hx => ok_brk (fun h => ok_some (fun h2 => by cases h2)) (fun h => ok_some (fun _ => hx (by simpa using h)))) fun k hk => ?_
 refine ok_bnde (b := Numbers.mk 100 400 100 3) rfl (ok_bnd _ (right_ok (s := c.Conc) (k := 0) (by decide) (by decide)) fun b1 h1 => ok_brk (fun h => hk _ (fun h => by cases h)) (fun q1 => ?_))
 refine ok_bnd _ (right_ok (s := c.Thick) (k := IntKind.i64.wrap (0 + 1)) (by decide) (by decide)) fun b2 h2 => ok_brk (fun h => hk _ (fun h => by cases h)) (fun q2 => ?_)
 refine ok_bnd _ (right_ok (s := c.Ridge) (k := IntKind.i64.wrap (IntKind.i64.wrap (0 + 1) + 1)) (by decide) (by decide)) fun b3 h3 => ok_brk (fun h => hk _ (fun h => by cases h)) (fun q3 => ?_)
 refine ok_bnd _ (right_ok (s := c.Press) (k := IntKind.i64.wrap (IntKind.i64.wrap (IntKind.i64.wrap (0 + 1) + 1) + 1)) (by decide) (by decide)) fun b4 h4 => ok_brk (fun h => hk _ (fun h => by cases h)) (fun q4 => ?_)
 have r1 : 0 ≤ c.Conc.Lo ∧ c.Conc.Lo ≤ c.Conc.Hi ∧ c.Conc.Hi ≤ 100 := h1 (by simpa using q1)
 have r2 : 0 ≤ c.Thick.Lo ∧ c.Thick.Lo ≤ c.Thick.Hi ∧ c.Thick.Hi ≤ 400 := h2 (by simpa using q2)
 have r3 : 0 ≤ c.Ridge.Lo ∧ c.Ridge.Lo ≤ c.Ridge.Hi ∧ c.Ridge.Hi ≤ 100 := h3 (by simpa using q3)
 exact hk _ fun _ => ⟨⟨by omega, by omega, by omega⟩, ⟨by omega, by omega, by omega⟩⟩
theorem mul_small {w h : Int} (h1 : 1 ≤ w ∧ w ≤ 64) (h2 : 1 ≤ h ∧ h ≤ 64) : 0 ≤ w * h ∧ w * h ≤ 4096 := mul_b (a := w) (b := h) (A := 64) (B := 64) ⟨by omega, h1.2⟩ ⟨by omega, h2.2⟩
theorem size_ok (F : Nat) (w h t : Int) : Ok (fun e => e = 0 → (1 ≤ w ∧ w ≤ 64) ∧ (1 ≤ h ∧ h ≤ 64)) (ice_size F w h t) := by
 unfold ice_size
 rw [iceIn_eq, bnd_so]
 cases hb : (decide (w ≥ 1) && decide (w ≤ 64)) with
 | false =>
  refine ok_bnde (b := false) rfl (ok_chk (fun h => by cases h) (ok_bnde (b := false) rfl (ok_brkT rfl (ok_some fun h => by cases h))))
 | true =>
  have hw : 1 ≤ w ∧ w ≤ 64 := by simpa using hb
  refine ok_bnde (iceIn_eq F h 1 64) ?_
  cases hb2 : (decide (h ≥ 1) && decide (h ≤ 64)) with
  | false => exact ok_chk (fun h => by cases h) (ok_bnde (b := false) rfl (ok_brkT rfl (ok_some fun h => by cases h)))
  | true =>
   have hh : 1 ≤ h ∧ h ≤ 64 := by simpa using hb2
   have hm := mul_small hw hh
   refine ok_chk (fun _ => ⟨by omega, by omega⟩) ?_
   refine ok_bnd (fun _ => True) ?_ fun b _ => ok_brk (fun _ => ok_some fun h => by cases h) (fun _ => ok_some fun _ => ⟨hw, hh⟩)
   refine ok_brk (fun _ => ?_) (fun _ => ok_some trivial)
   rw [iceIn_eq]; exact ok_some trivial
theorem CheckChart_ok {F : Nat} {c : Chart} (hF : c.Cells.length < F) (hl : c.Cells.length ≤ 1000000) : Ok (fun e => e = 0 → ∀ x ∈ c.Cells, CellIn x) (ice_CheckChart F c) := by
 unfold ice_CheckChart
 refine ok_bnd _ (size_ok F c.W c.H c.Hour) fun e he => ok_brk (fun h => ok_some fun h2 => ?_) (fun h => ?_)
 ·rw [h2] at h; simp at h
 have hm := mul_small (he (by simpa using h)).1 (he (by simpa using h)).2
 refine ok_chk ⟨by omega, by omega⟩ (ok_brk (fun _ => ok_some fun h => by cases h) (fun _ => ?_))
 refine ok_join (by omega) (fun e : Int => e = 0 → ∀ x ∈ c.Cells, CellIn x) (fun e he => ok_some he) fun k hk => ?_
 refine ok_loop (fun i : Int => 0 ≤ i ∧ i ≤ c.Cells.length ∧ ∀ j : Nat, (j : Int) < i → CellIn (c.Cells.getD j c0)) (fun i : Int => c.Cells.length - i.toNat) ⟨by omega, by omega, fun j hj => by omega⟩ (by simp; omega) fun i next ⟨h3, h4, h5⟩ hn => ?_
 refine ok_brk (fun hc => ?_) (fun hc => hk _ fun _ x hx => ?_)
 ·have hc : i < c.Cells.length := by simpa using hc
  refine ok_chk ⟨h3, hc⟩ (ok_bnd _ (CheckCell_ok (by omega) (c.Cells.getD i.toNat c0)) fun e he => ok_brk (fun hb => hk _ fun h => ?_) (fun hb => ok_chk ⟨by omega, by omega⟩ (hn _ ⟨by omega, by omega, fun j hj => ?_⟩ (by omega))))
  ·rw [h] at hb; cases hb
  ·by_cases e : (j : Int) < i
   ·exact h5 j e
   ·obtain rfl : j = i.toNat := by omega
    exact he (by simpa using hb)
 ·have hc : ¬ i < c.Cells.length := by simpa using hc
  obtain ⟨j, hj, rfl⟩ := List.getElem_of_mem hx
  have := h5 j (by omega)
  rwa [getD_get hj] at this
def capV (c : Cell) : Span := ⟨c.Conc.Lo * (c.Thick.Lo + 5 * c.Ridge.Lo) / 100, c.Conc.Hi * (c.Thick.Hi + 5 * c.Ridge.Hi) / 100⟩
theorem eqS {F : Nat} {l : List Sight} (hF : l.length < F) (hl : l.length ≤ 1000000) : slices_Equal_spill_Sight F l l = some true := by
 refine Ok.eq ?_
 unfold slices_Equal_spill_Sight
 refine ok_brkF (by simp) ?_
 refine ok_loop (fun x : Int => 0 ≤ x) (fun x : Int => l.length - x.toNat) (by omega) (by simp; omega) ?_
 intro x next h0 hn
 refine ok_brk (fun hc => ?_) (fun _ => ok_some rfl)
 have hc : x < l.length := by simpa using hc
 exact ok_chk ⟨h0, hc⟩ (ok_chk ⟨h0, hc⟩ (ok_brkF (by simp) (ok_chk ⟨by omega, by omega⟩ (hn _ (by omega) (by omega)))))
theorem eqC {F : Nat} {l : List Cell} (hF : l.length < F) (hl : l.length ≤ 1000000) : slices_Equal_ice_Cell F l l = some true := by
 refine Ok.eq ?_
 unfold slices_Equal_ice_Cell
 refine ok_brkF (by simp) ?_
 refine ok_loop (fun x : Int => 0 ≤ x) (fun x : Int => l.length - x.toNat) (by omega) (by simp; omega) ?_
 intro x next h0 hn
 refine ok_brk (fun hc => ?_) (fun _ => ok_some rfl)
 have hc : x < l.length := by simpa using hc
 exact ok_chk ⟨h0, hc⟩ (ok_chk ⟨h0, hc⟩ (ok_brkF (by simp) (ok_chk ⟨by omega, by omega⟩ (hn _ (by omega) (by omega)))))
theorem copy_eq {F : Nat} {f : Field} (h : f.Cells.length ≤ 1000000) : law11_CopyField F f = some f := by
 unfold law11_CopyField kit_CopySpans
 rw [chk_pos (by omega)]; rfl
theorem seen_ok {f : Field} {S : List Sight} {i : Ice} {c : Chart} : law11_SpillSeen 1000000000000000 f S i c = some true := by
 refine Ok.eq ?_
 unfold law11_SpillSeen
 refine ok_brk (fun _ => ok_bnde awake_ok (ok_some rfl)) (fun hg => ?_)
 simp only [Bool.or_eq_false_iff, Bool.and_eq_false_iff, decide_eq_false_iff_not] at hg
 obtain ⟨⟨⟨hg1, hg2⟩, hg3⟩, hg4⟩ := hg
 have g1 : f.Cells.length ≤ 80 := by omega
 have g2 : S.length ≤ 120 := by omega
 have g4 : c.Cells.length ≤ 100 := by omega
 refine ok_bnde (copy_eq (f := f) (by omega)) (ok_bnde (b := S) (by unfold slices_Clone_spill_Sight; rw [chk_pos (by simp; omega)]; rfl) ?_)
 refine ok_loop (fun x : List Sight × Int => 0 ≤ x.2 ∧ x.2 ≤ S.length ∧ x.1 = S.take x.2.toNat) (fun x : List Sight × Int => S.length - x.2.toNat) ⟨by simp, by simp, rfl⟩ (by simp; omega) ?_
 rintro ⟨R, j⟩ next ⟨j1, j2, j3⟩ hn
 simp only at j1 j2 j3
 have lr : R.length ≤ 120 := by rw [j3, List.length_take]; omega
 refine ok_brk (fun hc => ?_) (fun hc => ?_)
 ·have hc : j < S.length := by simpa using hc
  have hj : j.toNat < S.length := by omega
  refine ok_chk ⟨j1, hc⟩ (ok_chk (show R.length + 1 ≤ 1000000000 by omega) (ok_chk (show InR (j + 1) from ⟨by omega, by omega⟩) (hn _ ⟨by show 0 ≤ j + 1; omega, by show j + 1 ≤ _; omega, ?_⟩ (by show S.length - (j + 1).toNat < S.length - j.toNat; omega))))
  show R ++ [S.getD j.toNat g0] = S.take (j + 1).toNat
  rw [show (j + 1).toNat = j.toNat + 1 by omega, take_succ' (d := g0) hj, j3]
 have hc : ¬ j < S.length := by simpa using hc
 obtain rfl : R = S := by rw [j3, List.take_of_length_le (by omega)]
 obtain ⟨v1, v2⟩ := seeV_ok f R
 refine ok_bnde (See_eq (f := f) (by omega) g1 g2) (ok_bnde (copy_eq (f := f) (by omega)) (ok_bnde (refSee_eq (f := f) (by omega) g1 g2) ?_))
 generalize hv : seeV f R = v at v1 v2
 obtain ⟨vf, ve⟩ := v
 have v1 : ∀ s ∈ vf.Cells, SpanOK 1000000 s := v1
 have v2 : vf.Cells.length ≤ f.Cells.length := v2
 refine ok_bnde (b := true) ?_ (ok_brkF (by simp) ?_)
 ·rw [show (!((vf, ve).2 != (vf, ve).2)) = true by simp, brk_true]
  exact same_refl (f := vf) (by omega) (by omega)
 refine ok_loop (fun x : Int × List Span => 0 ≤ x.1 ∧ x.2.length = vf.Cells.length ∧ ∀ k : Nat, x.1 ≤ k → x.2.getD k ⟨0, 0⟩ = vf.Cells.getD k ⟨0, 0⟩) (fun x : Int × List Span => vf.Cells.length - x.1.toNat) ⟨by simp, rfl, fun k _ => rfl⟩ (by simp; omega) ?_
 rintro ⟨k, cells⟩ next2 ⟨k1, k2, k3⟩ hn2
 simp only at k1 k2 k3
 refine ok_brk (fun hc2 => ?_) (fun hc2 => ?_)
 ·have hc2 : k < vf.Cells.length := by simpa using hc2
  have hk := k3 k.toNat (by omega)
  have hs := v1 _ (getD_mem (i := k.toNat) (d := (⟨0, 0⟩ : Span)) (by omega : k.toNat < vf.Cells.length))
  rw [← hk] at hs
  have ix : 0 ≤ k ∧ k < (cells.length : Int) := ⟨k1, by omega⟩
  refine ok_chk ix (ok_chk (show InR ((cells.getD k.toNat ⟨0, 0⟩).Hi + 1) from ⟨by omega, by omega⟩) (ok_chk ix (ok_chk (show InR (k + 1) from ⟨by omega, by omega⟩) (hn2 _ ⟨by show 0 ≤ k + 1; omega, by show (cells.set _ _).length = _; rw [List.length_set]; exact k2, fun q hq => ?_⟩ (by show vf.Cells.length - (k + 1).toNat < vf.Cells.length - k.toNat; omega)))))
  have hq : k + 1 ≤ q := hq
  show (cells.set k.toNat _).getD q ⟨0, 0⟩ = _
  rw [getD_set' (by omega), if_neg (by omega)]
  exact k3 q (by omega)
 -- the capacity of an ice
 refine ok_bnd (fun x : Int × Int => ∃ e, ice_CheckIce 1000000000000000 i = some e ∧ x.2 = e ∧ (e = 0 → IceIn i.Conc i.Thick i.Ridge) ∧ (e = 0 → x.1 = i.Conc * (i.Thick + 5 * i.Ridge) / 100) ∧ (e ≠ 0 → x.1 = 0)) ?_ ?_
 ·unfold spill_Capacity
  obtain ⟨e, h1, h2⟩ := CheckIce_ok (F := 1000000000000000) (by omega) i
  refine ok_bnde (b := e) h1 (ok_brk (fun hb => ok_some ⟨e, h1, rfl, h2, fun h => ?_, fun _ => rfl⟩) (fun hb => ?_))
  ·rw [h] at hb; simp at hb
  ·have he : e = 0 := by simpa using hb
   exact ok_bnde (cap_eq (i := i) (h2 he)) (ok_some ⟨e, h1, he.symm, h2, fun _ => rfl, fun h => absurd he h⟩)
 rintro ⟨cap, ec⟩ ⟨e, h1, h2, h3, h4, h5⟩
 have h2 : ec = e := h2
 have h4 : e = 0 → cap = i.Conc * (i.Thick + 5 * i.Ridge) / 100 := h4
 have h5 : e ≠ 0 → cap = 0 := h5
 subst h2
 refine ok_bnde (b := ec) h1 ?_
 refine ok_bnde (b := cap) ?_ (ok_brkF ?_ ?_)
 ·by_cases he : ec = 0
  ·rw [show (!(cap, ec).2 != ec && ec == 0) = true by simp [he], brk_true, refCap_eq (by omega) (h3 he), h4 he]
  ·rw [show (!(cap, ec).2 != ec && ec == 0) = false by simp [he], brk_false, h5 he]
 ·by_cases he : ec = 0
  ·simp [he]
  ·simp [he, h5 he]
 -- capacities of a chart
 refine ok_bnde (b := c.Cells) (by unfold slices_Clone_ice_Cell; rw [chk_pos (by simp; omega)]; rfl) ?_
 refine ok_bnd (fun x : List Span × Int => ∃ e, ice_CheckChart 1000000000000000 c = some e ∧ x.2 = e ∧ (e = 0 → ∀ y ∈ c.Cells, CellIn y) ∧ (e = 0 → x.1 = c.Cells.map capV) ∧ (e ≠ 0 → x.1 = [])) ?_ ?_
 ·unfold spill_Capacities
  obtain ⟨e, h1, h2⟩ := CheckChart_ok (F := 1000000000000000) (c := c) (by omega) (by omega)
  refine ok_bnde (b := e) h1 (ok_brk (fun hb => ok_some ⟨e, h1, rfl, h2, fun h => ?_, fun _ => rfl⟩) (fun hb => ?_))
  ·rw [h] at hb; simp at hb
  ·have he : e = 0 := by simpa using hb
   refine ok_loop (fun x : Int × List Span => 0 ≤ x.1 ∧ x.1 ≤ c.Cells.length ∧ x.2 = (c.Cells.map capV).take x.1.toNat) (fun x : Int × List Span => c.Cells.length - x.1.toNat) ⟨by simp, by simp, rfl⟩ (by simp; omega) ?_
   rintro ⟨q, o⟩ next3 ⟨q1, q2, q3⟩ hn3
   simp only at q1 q2 q3
   have lo : o.length ≤ 100 := by rw [q3, List.length_take, List.length_map]; omega
   refine ok_brk (fun hc3 => ?_) (fun hc3 => ok_some ⟨e, h1, he.symm, h2, fun _ => ?_, fun h => absurd he h⟩)
   ·have hc3 : q < c.Cells.length := by simpa using hc3
    have hq : q.toNat < c.Cells.length := by omega
    obtain ⟨b1, b2⟩ := h2 he _ (getD_mem (d := c0) hq)
    refine ok_chk ⟨q1, hc3⟩ (ok_bnde (cap_eq (i := ⟨(c.Cells.getD q.toNat c0).Conc.Lo, (c.Cells.getD q.toNat c0).Thick.Lo, (c.Cells.getD q.toNat c0).Ridge.Lo, 0⟩) b1) (ok_bnde (cap_eq (i := ⟨(c.Cells.getD q.toNat c0).Conc.Hi, (c.Cells.getD q.toNat c0).Thick.Hi, (c.Cells.getD q.toNat c0).Ridge.Hi, 0⟩) b2) (ok_chk (show o.length + 1 ≤ 1000000000 by omega) (ok_chk (show InR (q + 1) from ⟨by omega, by omega⟩) (hn3 _ ⟨by show 0 ≤ q + 1; omega, by show q + 1 ≤ _; omega, ?_⟩ (by show c.Cells.length - (q + 1).toNat < c.Cells.length - q.toNat; omega))))))
    show o ++ [_] = (c.Cells.map capV).take (q + 1).toNat
    rw [show (q + 1).toNat = q.toNat + 1 by omega, take_succ' (d := ⟨0, 0⟩) (by simpa using hq), q3, getD_map _ _ _ c0 _ hq]
    rfl
   ·have hc3 : ¬ q < c.Cells.length := by simpa using hc3
    show o = _
    rw [q3, List.take_of_length_le (by rw [List.length_map]; omega)]
 rintro ⟨caps, eh⟩ ⟨e, h1', h2', h3', h4', h5'⟩
 have h2' : eh = e := h2'
 have h4' : e = 0 → caps = c.Cells.map capV := h4'
 have h5' : e ≠ 0 → caps = [] := h5'
 subst h2'
 refine ok_bnde (b := eh) h1' (ok_brkF ?_ ?_)
 ·by_cases he : eh = 0
  ·simp [he, h4' he]
  ·simp [he, h5' he]
 have lc : caps.length ≤ 100 := by
  by_cases he : eh = 0
  ·rw [h4' he, List.length_map]; exact g4
  ·rw [h5' he]; simp
 refine ok_loop (fun x : Int => 0 ≤ x) (fun x : Int => caps.length - x.toNat) (by omega) (by simp; omega) ?_
 intro q next4 q0 hn4
 refine ok_brk (fun hc4 => ?_) (fun _ => ?_)
 ·have hc4 : q < caps.length := by simpa using hc4
  have he : eh = 0 := Classical.byContradiction fun he => by rw [h5' he] at hc4; simp at hc4; omega
  have hcap := h4' he
  have hql : q < (c.Cells.length : Int) := by rw [hcap, List.length_map] at hc4; exact hc4
  have hq : q.toNat < c.Cells.length := by omega
  obtain ⟨b1, b2⟩ := h3' he _ (getD_mem (d := c0) hq)
  have hg : caps.getD q.toNat ⟨0, 0⟩ = capV (c.Cells.getD q.toNat c0) := by rw [hcap, getD_map _ _ _ c0 _ hq]
  refine ok_chk ⟨q0, hc4⟩ (ok_chk ⟨q0, hql⟩ (ok_bnde (refCap_eq (by omega) b1) ?_))
  refine ok_bnde (b := (capV (c.Cells.getD q.toNat c0)).Hi) ?_ (ok_brkF ?_ (ok_chk ⟨by omega, by omega⟩ (hn4 _ (by omega) (by omega))))
  ·show brk (!((caps.getD q.toNat ⟨0, 0⟩).Lo != (capV (c.Cells.getD q.toNat c0)).Lo)) _ _ = _
   rw [hg, show (!((capV (c.Cells.getD q.toNat c0)).Lo != (capV (c.Cells.getD q.toNat c0)).Lo)) = true by simp, brk_true]
   exact refCap_eq (by omega) b2
  ·show ((caps.getD q.toNat ⟨0, 0⟩).Lo != (capV (c.Cells.getD q.toNat c0)).Lo || (caps.getD q.toNat ⟨0, 0⟩).Hi != (capV (c.Cells.getD q.toNat c0)).Hi) = false
   rw [hg]; simp
 refine ok_bnde (same_refl (f := f) (by omega) (by omega)) (ok_bnde (b := true) ?_ (ok_bnde (b := true) ?_ (ok_bnde (b := true) ?_ (ok_some rfl))))
 ·exact eqS (by omega) (by omega)
 ·exact eqC (by omega) (by omega)
 ·show brk true (law11_awake 1000000000000000) (some false) = some true
  rw [brk_true]; exact awake_ok
end Go.Proofs.Ss
namespace Go.Proofs.Ss
open Go Go.KX
theorem refOff_eq {F : Nat} {a c : Int} (ha : 0 ≤ a ∧ a ≤ 1000000) (hc : 0 ≤ c ∧ c ≤ 1000000) : ref11_off F a c = some (offV a c) := by
 unfold ref11_off offV
 by_cases h : a ≤ c
 ·rw [decide_eq_true h, brk_true, if_neg (by omega)]; rfl
 ·rw [decide_eq_false h, brk_false, chk_pos ⟨by omega, by omega⟩, chk_pos ⟨by omega, by omega⟩, if_pos (by omega)]
theorem refGiven_eq {F : Nat} {W H fr to a c : Int} (hF : 100 < F) (hW : 1 ≤ W ∧ W ≤ 8) (hH : 1 ≤ H ∧ H ≤ 8) (hf : 0 ≤ fr ∧ fr < W * H) (ha : 0 ≤ a ∧ a ≤ 1000000) (hc : 0 ≤ c ∧ c ≤ 1000000) :
  ref11_Given F W H fr to a c = some (giveAt (offV a c) (nb W H fr).length 0 (nb W H fr) to) := by
 refine Ok.eq ?_
 unfold ref11_Given
 refine ok_bnde (refNb_eq (by omega) hW hH hf) ?_
 have h4 : (nb W H fr).length ≤ 4 := nbl_le4 W H fr 4
 have hob := offV_bound ha hc.1
 generalize nb W H fr = ks at h4
 refine ok_loop (fun i : Int => 0 ≤ i ∧ i ≤ ks.length ∧ giveAt (offV a c) ks.length i (ks.drop i.toNat) to = giveAt (offV a c) ks.length 0 ks to) (fun i : Int => ks.length - i.toNat) ⟨by omega, by omega, rfl⟩ (by simp; omega) ?_
 intro i next ⟨h1, h2, h3⟩ hn
 rw [← h3]
 refine ok_brk (fun hcc => ?_) (fun hcc => ok_some ?_)
 ·have hcc : i < ks.length := by simpa using hcc
  have hi : i.toNat < ks.length := by omega
  have hd := drop_cons' (d := 0) hi
  rw [hd, giveAt]
  refine ok_chk ⟨h1, hcc⟩ (ok_brk (fun hb => ?_) (fun hb => ?_))
  ·have hb : ks.getD i.toNat 0 = to := by simpa using hb
   rw [if_pos hb]
   exact ok_bnde (refOff_eq ha hc) (ok_chk ⟨by omega, by omega⟩ (ok_chk ⟨⟨by omega, by omega⟩, by omega⟩ (ok_some rfl)))
  ·have hb : ¬ ks.getD i.toNat 0 = to := by simpa using hb
   rw [if_neg hb]
   have h3' := h3
   rw [hd, giveAt, if_neg hb] at h3'
   rw [h3']
   refine ok_chk ⟨by omega, by omega⟩ (hn _ ⟨by omega, by omega, ?_⟩ (by omega))
   rw [show (i + 1).toNat = i.toNat + 1 by omega]; exact h3'
 ·have hcc : ¬ i < ks.length := by simpa using hcc
  rw [List.drop_eq_nil_of_le (by omega)]; rfl
theorem sumO_append (G : Int → Int) : ∀ l r : List Int, sumO G (l ++ r) = sumO G l + sumO G r
 | [], r => by simp [sumO]
 | x :: l, r => by simp only [List.cons_append, sumO, sumO_append G l r]; omega
theorem giveAt_bound {f : Int} (hf : 0 ≤ f ∧ f ≤ 1000000) {m : Int} (hm : 1 ≤ m) : ∀ (ks : List Int) (i k : Int), 0 ≤ i → i + ks.length ≤ 8 → 0 ≤ giveAt f m i ks k ∧ giveAt f m i ks k ≤ 1000008
 | [], _, _, _, _ => by simp [giveAt]
 | q :: ks, i, k, h1, h2 => by
  rw [giveAt]
  split
  ·have := Int.ediv_nonneg (show 0 ≤ f + i by omega) (show 0 ≤ m by omega)
   have := Int.ediv_le_self m (show 0 ≤ f + i by omega)
   simp only [List.length_cons] at h2
   omega
  ·exact giveAt_bound hf hm ks (i + 1) k (by omega) (by simp only [List.length_cons] at h2; omega)
theorem refAfter_eq {F : Nat} {W H k own : Int} {am st gi : List Int} (hF : 100 < F) (hW : 1 ≤ W ∧ W ≤ 8) (hH : 1 ≤ H ∧ H ≤ 8) (hl : (am.length : Int) = W * H) (hg : gi.length = am.length) (hk : 0 ≤ k ∧ k < W * H)
  (ho : own = st.getD k.toNat 0) (hown : 0 ≤ own ∧ own ≤ 10000) (ha : ∀ a ∈ am, 0 ≤ a ∧ a ≤ 1000000) (hgi : ∀ a ∈ gi, 0 ≤ a ∧ a ≤ 10000) : ref11_after F W H k am own gi = some (afterV W H am st gi k) := by
 refine Ok.eq ?_
 unfold ref11_after afterV
 refine ok_bnde (refNb_eq (by omega) hW hH hk) ?_
 have hkn : k.toNat < am.length := by omega
 have hak := ha _ (getD_mem (d := 0) hkn)
 have ix : 0 ≤ k ∧ k < (am.length : Int) := ⟨hk.1, by omega⟩
 have h4 : (nb W H k).length ≤ 4 := nbl_le4 W H k 4
 have hr := nbl_mem hW hH (l := dirs) (c := k)
 have hr : ∀ q ∈ nb W H k, 0 ≤ q ∧ q < W * H := hr
 generalize nb W H k = ks at h4 hr
 refine ok_brk (fun h => ?_) (fun h => ?_)
 ·have h : (ks.length : Int) = 0 := by simpa using h
  rw [if_pos (by omega)]
  exact ok_chk ix (ok_some rfl)
 have h : ¬ (ks.length : Int) = 0 := by simpa using h
 rw [if_neg (by omega)]
 have hob := offV_bound (a := am.getD k.toNat 0) (c := own) hak hown.1
 subst ho
 refine ok_chk ix (ok_chk ix (ok_bnde (refOff_eq hak ⟨hown.1, by omega⟩) (ok_chk ⟨by omega, by omega⟩ ?_)))
 have Gb : ∀ q ∈ ks, 0 ≤ giveAt (offV (am.getD q.toNat 0) (gi.getD q.toNat 0)) (nb W H q).length 0 (nb W H q) k ∧ giveAt (offV (am.getD q.toNat 0) (gi.getD q.toNat 0)) (nb W H q).length 0 (nb W H q) k ≤ 1000008 := fun q hq => by
  have hq' := hr q hq
  have h1 := ha _ (getD_mem (i := q.toNat) (d := 0) (by omega : q.toNat < am.length))
  have h2 := hgi _ (getD_mem (i := q.toNat) (d := 0) (by omega : q.toNat < gi.length))
  have h3 := offV_bound h1 h2.1
  have h5 : (nb W H q).length ≤ 4 := nbl_le4 W H q 4
  by_cases h6 : (nb W H q).length = 0
  ·rw [List.length_eq_zero_iff.1 h6]; simp [giveAt]
  ·exact giveAt_bound ⟨h3.1, h3.2.2⟩ (by omega) _ 0 k (by omega) (by omega)
 have sb : ∀ n, 0 ≤ sumO (fun l => giveAt (offV (am.getD l.toNat 0) (gi.getD l.toNat 0)) (nb W H l).length 0 (nb W H l) k) (ks.take n) ∧ sumO (fun l => giveAt (offV (am.getD l.toNat 0) (gi.getD l.toNat 0)) (nb W H l).length 0 (nb W H l) k) (ks.take n) ≤ 1000008 * n := fun n => by
  induction n with
  | zero => simp [sumO]
  | succ n ih =>
   by_cases hn : n < ks.length
   ·rw [take_succ' (d := 0) hn, sumO_append]
    have := Gb _ (getD_mem (d := 0) hn)
    simp only [sumO]
    omega
   ·rw [List.take_of_length_le (by omega)] at ih ⊢
    omega
 refine ok_loop (fun x : Int × Int => 0 ≤ x.2 ∧ x.2 ≤ ks.length ∧ x.1 = am.getD k.toNat 0 - offV (am.getD k.toNat 0) (st.getD k.toNat 0) + sumO (fun l => giveAt (offV (am.getD l.toNat 0) (gi.getD l.toNat 0)) (nb W H l).length 0 (nb W H l) k) (ks.take x.2.toNat)) (fun x : Int × Int => ks.length - x.2.toNat) ⟨by simp, by simp, by simp [sumO]⟩ (by simp; omega) ?_
 rintro ⟨n, i⟩ next ⟨i1, i2, i3⟩ hn
 simp only at i1 i2 i3
 have sbi := sb i.toNat
 refine ok_brk (fun hcc => ?_) (fun hcc => ok_some ?_)
 ·have hcc : i < ks.length := by simpa using hcc
  have hi : i.toNat < ks.length := by omega
  have hq := hr _ (getD_mem (d := 0) hi)
  have hG := Gb _ (getD_mem (d := 0) hi)
  have hts := take_succ' (d := 0) hi
  refine ok_chk ⟨i1, hcc⟩ (ok_chk ⟨i1, hcc⟩ ?_)
  show Ok _ (chk (0 ≤ ks.getD i.toNat 0 ∧ ks.getD i.toNat 0 < (am.length : Int)) _)
  dsimp only
  generalize ks.getD i.toNat 0 = q at hq hG hts
  have h1 := ha _ (getD_mem (i := q.toNat) (d := 0) (by omega : q.toNat < am.length))
  have h2 := hgi _ (getD_mem (i := q.toNat) (d := 0) (by omega : q.toNat < gi.length))
  refine ok_chk ⟨hq.1, by omega⟩ (ok_chk ⟨i1, hcc⟩ (ok_chk ⟨hq.1, by omega⟩ (ok_bnde (refGiven_eq hF hW hH hq h1 ⟨h2.1, by omega⟩) ?_)))
  refine ok_chk (show InR (n + _) from ⟨by omega, by omega⟩) (ok_chk (show InR (i + 1) from ⟨by omega, by omega⟩) (hn _ ⟨by show 0 ≤ i + 1; omega, by show i + 1 ≤ _; omega, ?_⟩ (by show ks.length - (i + 1).toNat < ks.length - i.toNat; omega)))
  show n + _ = _ + sumO _ (ks.take (i + 1).toNat)
  rw [show (i + 1).toNat = i.toNat + 1 by omega, hts, sumO_append, i3]
  simp only [sumO]
  omega
 ·have hcc : ¬ i < ks.length := by simpa using hcc
  show n = _
  rw [i3, List.take_of_length_le (by omega)]
end Go.Proofs.Ss
namespace Go.Proofs.Ss
open Go Go.KX
theorem ne_of_bne {a b : Nat} (h : ((a : Int) != (b : Int)) = true) : a ≠ b := by
 have : ¬ (a : Int) = b := by simpa using h
 omega
theorem eq_of_bne {a b : Nat} (h : ((a : Int) != (b : Int)) = false) : a = b := by
 have : (a : Int) = b := by simpa using h
 omega
theorem nwb {x lo hi : Int} (h : (!(decide (x ≥ lo) && decide (x ≤ hi))) = true) : ¬ (lo ≤ x ∧ x ≤ hi) := fun ⟨h1, h2⟩ => by rw [wb h1 h2] at h; cases h
abbrev s00 : Span := Span.mk (0 : Int) (0 : Int)
abbrev nilF : Field := Field.mk (0 : Int) (0 : Int) []
theorem refHour_eq {F : Nat} {f : Field} {caps : List Span} (hF : 100 < F) (hf : FieldOK f) (hc : CapsOK f.Cells.length caps) : ref11_hour F f caps = some ⟨f.W, f.H, spreadV f.W f.H f.Cells caps⟩ := by
 have hs := hf.small
 have hcl := hc.len
 have hln := hf.len
 refine Ok.eq ?_
 unfold ref11_hour
 refine ok_loop (fun x : List Int × List Int × List Int × Int × List Int => 0 ≤ x.2.2.2.1 ∧ x.2.2.2.1 ≤ f.Cells.length ∧ x.1 = (caps.map (·.Hi)).take x.2.2.2.1.toNat ∧ x.2.1 = (f.Cells.map (·.Hi)).take x.2.2.2.1.toNat ∧ x.2.2.1 = (f.Cells.map (·.Lo)).take x.2.2.2.1.toNat ∧ x.2.2.2.2 = (caps.map (·.Lo)).take x.2.2.2.1.toNat)
  (fun x : List Int × List Int × List Int × Int × List Int => f.Cells.length - x.2.2.2.1.toNat) ⟨by simp, by simp, rfl, rfl, rfl, rfl⟩ (by simp; omega) ?_
 rintro ⟨most, hi, lo, i, least⟩ next ⟨i1, i2, i3, i4, i5, i6⟩ hn
 simp only at i1 i2 i3 i4 i5 i6
 have b1 : most.length ≤ 64 := by rw [i3, List.length_take, List.length_map]; omega
 have b2 : hi.length ≤ 64 := by rw [i4, List.length_take, List.length_map]; omega
 have b3 : lo.length ≤ 64 := by rw [i5, List.length_take, List.length_map]; omega
 have b4 : least.length ≤ 64 := by rw [i6, List.length_take, List.length_map]; omega
 refine ok_brk (fun hcc => ?_) (fun hcc => ?_)
 ·have hcc : i < f.Cells.length := by simpa using hcc
  have hin : i.toNat < f.Cells.length := by omega
  have ix : 0 ≤ i ∧ i < (f.Cells.length : Int) := ⟨i1, hcc⟩
  have ix2 : 0 ≤ i ∧ i < (caps.length : Int) := ⟨i1, by omega⟩
  refine ok_chk ix (ok_chk (show lo.length + 1 ≤ 1000000000 by omega) (ok_chk ix (ok_chk (show hi.length + 1 ≤ 1000000000 by omega) (ok_chk ix2 (ok_chk (show least.length + 1 ≤ 1000000000 by omega) (ok_chk ix2 (ok_chk (show most.length + 1 ≤ 1000000000 by omega) (ok_chk (show InR (i + 1) from ⟨by omega, by omega⟩) (hn _ ⟨by show 0 ≤ i + 1; omega, by show i + 1 ≤ _; omega, ?_, ?_, ?_, ?_⟩ (by show f.Cells.length - (i + 1).toNat < f.Cells.length - i.toNat; omega))))))))))
  ·show most ++ [(caps.getD i.toNat s00).Hi] = (caps.map (·.Hi)).take (i + 1).toNat
   rw [show (i + 1).toNat = i.toNat + 1 by omega, take_succ' (d := 0) (by rw [List.length_map]; omega), i3, getD_map _ _ _ s00 _ (by omega)]
  ·show hi ++ [(f.Cells.getD i.toNat s00).Hi] = (f.Cells.map (·.Hi)).take (i + 1).toNat
   rw [show (i + 1).toNat = i.toNat + 1 by omega, take_succ' (d := 0) (by rw [List.length_map]; omega), i4, getD_map _ _ _ s00 _ (by omega)]
  ·show lo ++ [(f.Cells.getD i.toNat s00).Lo] = (f.Cells.map (·.Lo)).take (i + 1).toNat
   rw [show (i + 1).toNat = i.toNat + 1 by omega, take_succ' (d := 0) (by rw [List.length_map]; omega), i5, getD_map _ _ _ s00 _ (by omega)]
  ·show least ++ [(caps.getD i.toNat s00).Lo] = (caps.map (·.Lo)).take (i + 1).toNat
   rw [show (i + 1).toNat = i.toNat + 1 by omega, take_succ' (d := 0) (by rw [List.length_map]; omega), i6, getD_map _ _ _ s00 _ (by omega)]
 have hcc : ¬ i < f.Cells.length := by simpa using hcc
 obtain rfl : i = f.Cells.length := by omega
 obtain rfl : most = caps.map (·.Hi) := by rw [i3, List.take_of_length_le (by rw [List.length_map]; omega)]
 obtain rfl : hi = f.Cells.map (·.Hi) := by rw [i4, List.take_of_length_le (by simp)]
 obtain rfl : lo = f.Cells.map (·.Lo) := by rw [i5, List.take_of_length_le (by simp)]
 obtain rfl : least = caps.map (·.Lo) := by rw [i6, List.take_of_length_le (by rw [List.length_map]; omega)]
 have mc : ∀ (l : List Span) (m : Int), (∀ s ∈ l, SpanOK m s) → (∀ a ∈ l.map (·.Lo), 0 ≤ a ∧ a ≤ m) ∧ ∀ a ∈ l.map (·.Hi), 0 ≤ a ∧ a ≤ m := by
  intro l m h
  refine ⟨fun a ha => ?_, fun a ha => ?_⟩ <;> obtain ⟨s, hs, rfl⟩ := List.mem_map.1 ha <;> have := h s hs
  ·exact ⟨this.1, by have h1 := this.2.1; have h2 := this.2.2; omega⟩
  ·exact ⟨by have h1 := this.1; have h2 := this.2.1; omega, this.2.2⟩
 obtain ⟨c1, c2⟩ := mc _ _ hf.cells
 obtain ⟨k1, k2⟩ := mc _ _ hc.ok
 have lv := spreadV_len hF hf hc
 refine ok_loop (fun x : Int × List Span => 0 ≤ x.1 ∧ x.1 ≤ f.Cells.length ∧ x.2 = (spreadV f.W f.H f.Cells caps).take x.1.toNat) (fun x : Int × List Span => f.Cells.length - x.1.toNat) ⟨by simp, by simp, rfl⟩ (by simp; omega) ?_
 rintro ⟨i, o⟩ next2 ⟨j1, j2, j3⟩ hn2
 simp only at j1 j2 j3
 have bo : o.length ≤ 64 := by rw [j3, List.length_take, lv]; omega
 refine ok_brk (fun hcc => ?_) (fun hcc => ok_some ?_)
 ·have hcc : i < f.Cells.length := by simpa using hcc
  have hin : i.toNat < f.Cells.length := by omega
  have hk : 0 ≤ i ∧ i < f.W * f.H := ⟨j1, by omega⟩
  have l1 : ((f.Cells.map (·.Lo)).length : Int) = f.W * f.H := by simpa using hln
  have l2 : ((f.Cells.map (·.Hi)).length : Int) = f.W * f.H := by simpa using hln
  have m1 : ∀ j, j < caps.length → (caps.map (·.Lo)).getD j 0 = (caps.getD j s00).Lo := fun j hj => getD_map _ _ _ s00 _ hj
  have m2 : ∀ j, j < caps.length → (caps.map (·.Hi)).getD j 0 = (caps.getD j s00).Hi := fun j hj => getD_map _ _ _ s00 _ hj
  have hci := hc.ok _ (getD_mem (i := i.toNat) (d := s00) (by omega : i.toNat < caps.length))
  have r1 := refAfter_eq (F := F) (own := (caps.map (·.Lo)).getD i.toNat 0) (st := caps.map (·.Lo)) (gi := caps.map (·.Hi)) hF hf.w hf.h l1 (by simp; omega) hk rfl (by rw [m1 _ (by omega)]; exact ⟨hci.1, by have h1 := hci.2.1; have h2 := hci.2.2; omega⟩) c1 k2
  have r2 := refAfter_eq (F := F) (own := (caps.map (·.Hi)).getD i.toNat 0) (st := caps.map (·.Hi)) (gi := caps.map (·.Lo)) hF hf.w hf.h l2 (by simp; omega) hk rfl (by rw [m2 _ (by omega)]; exact ⟨by have h1 := hci.1; have h2 := hci.2.1; omega, hci.2.2⟩) c2 k1
  rw [← hour_get hf.w hf.h l1 hk] at r1
  rw [← hour_get hf.w hf.h l2 hk] at r2
  refine ok_chk ⟨j1, by show i < ((caps.map (·.Lo)).length : Int); rw [List.length_map]; omega⟩ (ok_bnde r1 (ok_chk ⟨j1, by show i < ((caps.map (·.Hi)).length : Int); rw [List.length_map]; omega⟩ (ok_bnde r2 (ok_chk (show o.length + 1 ≤ 1000000000 by omega) (ok_chk (show InR (i + 1) from ⟨by omega, by omega⟩) (hn2 _ ⟨by show 0 ≤ i + 1; omega, by show i + 1 ≤ _; omega, ?_⟩ (by show f.Cells.length - (i + 1).toNat < f.Cells.length - i.toNat; omega)))))))
  show o ++ [_] = (spreadV f.W f.H f.Cells caps).take (i + 1).toNat
  rw [show (i + 1).toNat = i.toNat + 1 by omega, take_succ' (d := s00) (by rw [lv]; exact hin), j3, spreadV_get hF hf hc hin]
  rfl
 ·have hcc : ¬ i < f.Cells.length := by simpa using hcc
  show Field.mk f.W f.H o = _
  rw [j3, List.take_of_length_le (by rw [lv]; omega)]
def begunV (f : Field) (caps : List Span) : Int := if checkV f ≠ 0 then checkV f else if caps.length ≠ f.Cells.length then 1 else if ∀ s ∈ caps, SpanOK 10000 s then 0 else 120
theorem begunV_ok {f : Field} {caps : List Span} (h : begunV f caps = 0) : FieldOK f ∧ CapsOK f.Cells.length caps := by
 unfold begunV at h
 split at h
 ·rename_i h1; exact absurd h h1
 ·rename_i h1
  split at h
  ·cases h
  ·rename_i h2
   split at h
   ·rename_i h3; exact ⟨checkV_ok (Classical.not_not.1 h1), ⟨Classical.not_not.1 h2, h3⟩⟩
   ·cases h
theorem refBegun_eq {F : Nat} {f : Field} {caps : List Span} (hF : 200 < F) (hl : f.Cells.length ≤ 80) (hcl : caps.length ≤ 80) : ref11_begun F f caps = some (begunV f caps) := by
 refine Ok.eq ?_
 unfold ref11_begun begunV
 refine ok_bnde (refCheck_eq (by show f.Cells.length < F; omega)) ?_
 show Ok _ (brk (checkV f != 0) _ _)
 refine ok_brk (fun h => ok_some ?_) (fun h => ?_)
 ·rw [if_pos (by simpa using h)]
 have h : checkV f = 0 := by simpa using h
 rw [if_neg (by simp [h])]
 refine ok_brk (fun h2 => ok_some ?_) (fun h2 => ?_)
 ·rw [if_pos (ne_of_bne h2)]
 have h2 : caps.length = f.Cells.length := eq_of_bne h2
 rw [if_neg (by simp [h2])]
 refine ok_loop (fun i : Int => 0 ≤ i ∧ i ≤ caps.length ∧ ∀ j : Nat, (j : Int) < i → SpanOK 10000 (caps.getD j s00)) (fun i : Int => caps.length - i.toNat) ⟨by omega, by omega, fun j hj => by omega⟩ (by simp; omega) fun i next ⟨h3, h4, h5⟩ hn => ?_
 refine ok_brk (fun hc => ?_) (fun hc => ok_some ?_)
 ·have hc : i < caps.length := by simpa using hc
  have hi : i.toNat < caps.length := by omega
  refine ok_chk ⟨h3, hc⟩ (ok_bnde (refSpan_eq F (Span.mk (caps.getD i.toNat s00).Lo (caps.getD i.toNat s00).Hi) 10000) (ok_brk (fun hb => ok_some ?_) (fun hb => ok_chk ⟨by omega, by omega⟩ (hn _ ⟨by omega, by omega, fun j hj => ?_⟩ (by omega)))))
  ·have hb : ¬ SpanOK 10000 (caps.getD i.toNat s00) := nd_true hb
   rw [if_neg (fun h => hb (h _ (getD_mem hi)))]
  ·by_cases e : (j : Int) < i
   ·exact h5 j e
   ·obtain rfl : j = i.toNat := by omega
    exact nd_false hb
 ·have hc : ¬ i < caps.length := by simpa using hc
  rw [if_pos]
  intro s hs
  obtain ⟨j, hj, rfl⟩ := List.getElem_of_mem hs
  have := h5 j (by omega)
  rwa [getD_get hj] at this
def spreadE (f : Field) (caps : List Span) (hours : Int) : Field × Int := if begunV f caps ≠ 0 then (nilF, begunV f caps) else if ¬ (0 ≤ hours ∧ hours ≤ 48) then (nilF, 6) else (⟨f.W, f.H, spreadN f.W f.H caps hours.toNat f.Cells⟩, 0)
theorem refSpread_eq {F : Nat} {f : Field} {caps : List Span} {hours : Int} (hF : 200 < F) (hl : f.Cells.length ≤ 80) (hcl : caps.length ≤ 80) : ref11_Spread F f caps hours = some (spreadE f caps hours) := by
 refine Ok.eq ?_
 unfold ref11_Spread spreadE
 refine ok_bnde (refBegun_eq (f := f) hF hl hcl) (ok_brk (fun h => ok_some ?_) (fun h => ?_))
 ·rw [if_pos (by simpa using h)]
 have h : begunV f caps = 0 := by simpa using h
 obtain ⟨hf, hc⟩ := begunV_ok h
 rw [if_neg (by simp [h]), refIn_eq, bnd_so]
 refine ok_brk (fun h2 => ok_some ?_) (fun h2 => ?_)
 ·rw [if_pos (nwb h2)]
 have h2 : 0 ≤ hours ∧ hours ≤ 48 := by simpa using h2
 rw [if_neg (fun h => h h2)]
 refine ok_loop (fun x : Int × List Span × Int × Int => 0 ≤ x.1 ∧ x.1 ≤ hours ∧ x.2.1 = spreadN f.W f.H caps x.1.toNat f.Cells ∧ x.2.2.1 = f.H ∧ x.2.2.2 = f.W) (fun x : Int × List Span × Int × Int => hours.toNat - x.1.toNat) ⟨by simp, by simp; omega, rfl, rfl, rfl⟩ (by simp; omega) ?_
 rintro ⟨i, o, oh, ow⟩ next ⟨i1, i2, i3, i4, i5⟩ hn
 simp only at i1 i2 i3 i4 i5
 subst i4 i5
 refine ok_brk (fun hcc => ?_) (fun hcc => ok_some ?_)
 ·have hcc : i < hours := by simpa using hcc
  obtain ⟨h4, h5⟩ := spreadN_ok (F := F) (by omega) hf hc i.toNat
  rw [← i3] at h4 h5
  refine ok_bnde (refHour_eq (f := ⟨f.W, f.H, o⟩) (by omega) h4 (by show CapsOK o.length caps; rw [h5]; exact hc)) (ok_chk (show InR (i + 1) from ⟨by omega, by omega⟩) (hn _ ⟨by show 0 ≤ i + 1; omega, by show i + 1 ≤ hours; omega, ?_, rfl, rfl⟩ (by show hours.toNat - (i + 1).toNat < hours.toNat - i.toNat; omega)))
  show spreadV f.W f.H o caps = spreadN f.W f.H caps (i + 1).toNat f.Cells
  rw [show (i + 1).toNat = i.toNat + 1 by omega, spreadN, i3]
 ·have hcc : ¬ i < hours := by simpa using hcc
  obtain rfl : i = hours := by omega
  rw [i3]
theorem SpreadE_eq {F : Nat} {f : Field} {caps : List Span} {hours : Int} (hF : 200 < F) (hl : f.Cells.length ≤ 80) (hcl : caps.length ≤ 80) : spill_Spread F f caps hours = some (spreadE f caps hours) := by
 by_cases h0 : begunV f caps = 0
 ·obtain ⟨hf, hc⟩ := begunV_ok h0
  by_cases hh : 0 ≤ hours ∧ hours ≤ 48
  ·rw [Spread_eq (by omega) hf hc hh, spreadE, if_neg (by simp [h0]), if_neg (fun h => h hh)]
  ·refine Ok.eq ?_
   unfold spill_Spread spreadE
   rw [if_neg (by simp [h0]), if_pos hh]
   refine ok_bnde (Check_eq (by show f.Cells.length < F; omega)) ?_
   rw [show checkV (Field.mk f.W f.H f.Cells) = 0 from hf.check]
   refine ok_brkF (by simp) (ok_brkF (by simp [hc.len]) ?_)
   refine ok_join (by omega) (fun i : Int => 0 ≤ i ↔ ¬ ∀ s ∈ caps, SpanOK 10000 s) (fun i hi => ?_) fun k hk => find_ok (g := spill_begin_1) (m := 10000) (fun s => by unfold spill_begin_1; rw [span_eq, bnd_so]) k (by omega) (by omega) hk
   refine ok_brkF ?_ ?_
   ·rw [decide_eq_false_iff_not]
    exact fun h => (hi.1 h) hc.ok
   refine ok_bnde (clone_eq (by omega)) ?_
   rw [within_eq, bnd_so]
   refine ok_brkT ?_ (ok_some rfl)
   by_cases q : hours ≥ 0
   ·rw [decide_eq_true q, decide_eq_false (show ¬ hours ≤ 48 by omega)]; rfl
   ·rw [decide_eq_false q]; rfl
 ·refine Ok.eq ?_
  unfold spill_Spread spreadE
  rw [if_pos h0]
  refine ok_bnde (Check_eq (by show f.Cells.length < F; omega)) ?_
  show Ok _ (brk (checkV f != 0) _ _)
  refine ok_brk (fun h => ok_brkT h (ok_some ?_)) (fun h => ?_)
  ·show (nilF, checkV f) = _
   rw [begunV, if_pos (by simpa using h)]
  have h : checkV f = 0 := by simpa using h
  refine ok_brk (fun h2 => ok_some ?_) (fun h2 => ?_)
  ·rw [begunV, if_neg (by simp [h]), if_pos (ne_of_bne h2)]
  have h2 : caps.length = f.Cells.length := eq_of_bne h2
  refine ok_join (by omega) (fun i : Int => 0 ≤ i ↔ ¬ ∀ s ∈ caps, SpanOK 10000 s) (fun i hi => ?_) fun k hk => find_ok (g := spill_begin_1) (m := 10000) (fun s => by unfold spill_begin_1; rw [span_eq, bnd_so]) k (by omega) (by omega) hk
  have hbad : ¬ ∀ s ∈ caps, SpanOK 10000 s := fun hok => h0 (by rw [begunV, if_neg (by simp [h]), if_neg (by simp [h2]), if_pos hok])
  refine ok_brkT (by rw [decide_eq_true_eq]; exact hi.2 hbad) (ok_some ?_)
  rw [begunV, if_neg (by simp [h]), if_neg (by simp [h2]), if_neg hbad]
end Go.Proofs.Ss
namespace Go.Proofs.Ss
open Go Go.KX
theorem refFlow_ok {F : Nat} {W H : Int} {am caps : List Int} (hF : 200 < F) (h : FlowOK W H am caps) : ref11_Flow F W H am caps = some (hourV W H am caps caps, 0) := by
 have hb := mul_bound h.w.1 h.w.2 h.h.1 h.h.2
 have hla := h.la
 have hlc := h.lc
 have hs := h.sum
 have ha1 : ∀ a ∈ am, 0 ≤ a ∧ a ≤ 1000000 := fun a ha => ⟨h.nn a ha, Int.le_trans (mem_le_sumL am h.nn a ha) h.sum⟩
 refine Ok.eq ?_
 unfold ref11_Flow
 rw [refIn_eq, bnd_so, wb h.w.1 h.w.2]
 refine ok_bnde (b := true) (congrArg some (wb h.h.1 h.h.2)) (ok_brkF rfl (ok_chk ⟨by omega, by omega⟩ (ok_chk (fun _ => ⟨by omega, by omega⟩) (ok_brkF (by simp [hla, hlc]) ?_))))
 refine ok_loop (fun x : Int × Int => 0 ≤ x.2 ∧ x.2 ≤ am.length ∧ x.1 = sumL (am.take x.2.toNat)) (fun x : Int × Int => am.length - x.2.toNat) ⟨by simp, by simp, rfl⟩ (by simp; omega) ?_
 rintro ⟨sum, i⟩ next ⟨h1, h2, h3⟩ hn
 simp only at h1 h2 h3
 have hs0 := sumL_nonneg (am.take i.toNat) fun x hx => h.nn x (List.mem_of_mem_take hx)
 have hs1 := sumL_take_le h.nn i.toNat
 refine ok_chk ⟨by omega, by omega⟩ (ok_brk (fun hcc => ?_) (fun hcc => ?_))
 ·have hcc : i < W * H := by simpa using hcc
  have hi : i.toNat < am.length := by omega
  have hsn := sumL_take_succ hi
  have hsl := sumL_take_le h.nn (i.toNat + 1)
  have hai := ha1 _ (getD_mem (d := 0) hi)
  have hci := h.caps _ (getD_mem (i := i.toNat) (d := 0) (by omega))
  have ix : 0 ≤ i ∧ i < (am.length : Int) := ⟨h1, by omega⟩
  refine ok_chk ix (ok_bnde (b := true) (congrArg some (wb hai.1 hai.2)) (ok_chk (fun _ => ⟨h1, by omega⟩) (ok_bnde (b := true) (congrArg some (wb hci.1 hci.2)) (ok_brkF rfl (ok_chk ix (ok_chk (show InR (sum + am.getD i.toNat 0) from ⟨by omega, by omega⟩) (ok_chk (show InR (i + 1) from ⟨by omega, by omega⟩) (hn _ ⟨by show 0 ≤ i + 1; omega, by show i + 1 ≤ _; omega, ?_⟩ (by show am.length - (i + 1).toNat < am.length - i.toNat; omega)))))))))
  show sum + am.getD i.toNat 0 = sumL (am.take (i + 1).toNat)
  rw [show (i + 1).toNat = i.toNat + 1 by omega, hsn, h3]
 have hcc : ¬ i < W * H := by simpa using hcc
 obtain rfl : i = am.length := by omega
 rw [show ((am.length : Nat) : Int).toNat = am.length by omega, List.take_length] at h3
 refine ok_brkF (by rw [decide_eq_false_iff_not]; show ¬ sum > 1000000; omega) ?_
 obtain ⟨_, g, _⟩ := Flow_eq (F := F) (by omega) h
 refine ok_loop (fun x : List Int × Int => 0 ≤ x.2 ∧ x.2 ≤ am.length ∧ x.1 = (hourV W H am caps caps).take x.2.toNat) (fun x : List Int × Int => am.length - x.2.toNat) ⟨by simp, by simp, rfl⟩ (by simp; omega) ?_
 rintro ⟨o, i⟩ next2 ⟨j1, j2, j3⟩ hn2
 simp only at j1 j2 j3
 have bo : o.length ≤ 64 := by rw [j3, List.length_take, g.len]; omega
 refine ok_chk ⟨by omega, by omega⟩ (ok_brk (fun hcc => ?_) (fun hcc => ok_some ?_))
 ·have hcc : i < W * H := by simpa using hcc
  have hi : i.toNat < am.length := by omega
  have hci := h.caps _ (getD_mem (i := i.toNat) (d := 0) (by omega))
  have r := refAfter_eq (F := F) (k := i) (own := caps.getD i.toNat 0) (st := caps) (gi := caps) (by omega) h.w h.h h.la (by omega) ⟨j1, hcc⟩ rfl hci ha1 h.caps
  rw [← hour_get h.w h.h h.la ⟨j1, hcc⟩] at r
  refine ok_chk ⟨j1, by show i < (caps.length : Int); omega⟩ (ok_bnde r (ok_chk (show o.length + 1 ≤ 1000000000 by omega) (ok_chk (show InR (i + 1) from ⟨by omega, by omega⟩) (hn2 _ ⟨by show 0 ≤ i + 1; omega, by show i + 1 ≤ _; omega, ?_⟩ (by show am.length - (i + 1).toNat < am.length - i.toNat; omega)))))
  show o ++ [_] = (hourV W H am caps caps).take (i + 1).toNat
  rw [show (i + 1).toNat = i.toNat + 1 by omega, take_succ' (d := 0) (by rw [g.len]; exact hi), j3]
 ·have hcc : ¬ i < W * H := by simpa using hcc
  show (o, (0 : Int)) = _
  rw [j3, List.take_of_length_le (by rw [g.len]; omega)]
theorem flow_bad {W H : Int} {am caps : List Int} (hw : 1 ≤ W ∧ W ≤ 8) (hh : 1 ≤ H ∧ H ≤ 8) (la : (am.length : Int) = W * H) (lc : (caps.length : Int) = W * H) (hbad : ¬ FlowOK W H am caps) (h : ∀ j : Nat, j < am.length → 0 ≤ am.getD j 0 ∧ 0 ≤ caps.getD j 0 ∧ caps.getD j 0 ≤ 10000) : ¬ sumL am ≤ 1000000 := fun hs =>
 hbad ⟨hw, hh, la, lc, fun a ha => by obtain ⟨j, hj, rfl⟩ := List.getElem_of_mem ha; have := h j hj; rw [getD_get hj] at this; exact this.1, hs,
  fun a ha => by obtain ⟨j, hj, rfl⟩ := List.getElem_of_mem ha; have := h j (by omega); rw [getD_get (l := caps) hj] at this; exact this.2⟩
theorem Flow_same {F : Nat} {W H : Int} {am caps : List Int} (hF : 200 < F) (h1 : am.length ≤ 80) (h2 : caps.length ≤ 80) (hm : ∀ a ∈ am, InR a) : ∃ r, spill_Flow F W H am caps = some r ∧ ref11_Flow F W H am caps = some r ∧ r.1.length ≤ 80 := by
 by_cases hok : FlowOK W H am caps
 ·obtain ⟨e1, g, _⟩ := Flow_eq (F := F) (by omega) hok
  exact ⟨_, e1, refFlow_ok hF hok, by show (hourV W H am caps caps).length ≤ 80; rw [g.len]; exact h1⟩
 -- both give the same error
 by_cases hw : 1 ≤ W ∧ W ≤ 8
 ·by_cases hh : 1 ≤ H ∧ H ≤ 8
  ·have hb := mul_bound hw.1 hw.2 hh.1 hh.2
   by_cases hl : (am.length : Int) = W * H ∧ (caps.length : Int) = W * H
   ·refine ⟨([], 120), Ok.eq ?_, Ok.eq ?_, by simp⟩
    ·unfold spill_Flow
     rw [within_eq, bnd_so, wb hw.1 hw.2]
     refine ok_bnde (b := true) (congrArg some (wb hh.1 hh.2)) (ok_brkF rfl (ok_chk ⟨by omega, by omega⟩ (ok_chk (fun _ => ⟨by omega, by omega⟩) (ok_brkF (by simp [hl.1, hl.2]) ?_))))
     refine ok_loop (fun x : Int × Int => 0 ≤ x.2 ∧ x.2 ≤ am.length ∧ x.1 = 1000000 - sumL (am.take x.2.toNat) ∧ 0 ≤ x.1 ∧ x.1 ≤ 1000000 ∧ ∀ j : Nat, (j : Int) < x.2 → 0 ≤ am.getD j 0 ∧ 0 ≤ caps.getD j 0 ∧ caps.getD j 0 ≤ 10000) (fun x : Int × Int => am.length - x.2.toNat) ⟨by simp, by simp, rfl, by simp, by simp, fun j hj => by simp at hj; omega⟩ (by simp; omega) ?_
     rintro ⟨left, i⟩ next ⟨i1, i2, i3, i4, i5, i6⟩ hn
     simp only at i1 i2 i3 i4 i5 i6
     refine ok_brk (fun hcc => ?_) (fun hcc => ?_)
     ·have hcc : i < am.length := by simpa using hcc
      have hi : i.toNat < am.length := by omega
      refine ok_chk ⟨i1, hcc⟩ ?_
      rw [within_eq, bnd_so]
      cases q1 : (decide (am.getD i.toNat 0 ≥ 0) && decide (am.getD i.toNat 0 ≤ left)) with
      | false =>
       have q1' : (decide (List.getD am (Int.toNat i) (0 : Int) ≥ (0 : Int)) && decide (List.getD am (Int.toNat i) (0 : Int) ≤ left)) = false := q1
       exact ok_chk (fun h => by cases h) (ok_bnde (b := false) rfl (ok_brkT rfl (ok_some rfl)))
      | true =>
       have q1' : 0 ≤ am.getD i.toNat 0 ∧ am.getD i.toNat 0 ≤ left := by simpa using q1
       refine ok_chk (fun _ => ⟨i1, by show i < _; omega⟩) ?_
       refine ok_bnde (b := (decide (caps.getD i.toNat 0 ≥ 0) && decide (caps.getD i.toNat 0 ≤ 10000))) rfl (ok_brk (fun _ => ok_some rfl) (fun q2 => ?_))
       have q2' : 0 ≤ caps.getD i.toNat 0 ∧ caps.getD i.toNat 0 ≤ 10000 := by simpa using q2
       refine ok_chk (show InR (left - am.getD i.toNat 0) from ⟨by omega, by omega⟩) (ok_chk (show InR (i + 1) from ⟨by omega, by omega⟩) (hn _ ⟨by show 0 ≤ i + 1; omega, by show i + 1 ≤ _; omega, ?_, by show 0 ≤ left - am.getD i.toNat 0; omega, by show left - am.getD i.toNat 0 ≤ _; omega, fun j hj => ?_⟩ (by show am.length - (i + 1).toNat < am.length - i.toNat; omega)))
       ·show left - am.getD i.toNat 0 = 1000000 - sumL (am.take (i + 1).toNat)
        rw [show (i + 1).toNat = i.toNat + 1 by omega, sumL_take_succ hi]; omega
       ·have hj : (j : Int) < i + 1 := hj
        by_cases e : (j : Int) < i
        ·exact i6 j e
        ·obtain rfl : j = i.toNat := by omega
         exact ⟨q1'.1, q2'⟩
     ·have hcc : ¬ i < am.length := by simpa using hcc
      obtain rfl : i = am.length := by omega
      rw [show ((am.length : Nat) : Int).toNat = am.length by omega, List.take_length] at i3
      exact absurd (show sumL am ≤ 1000000 by omega) (flow_bad hw hh hl.1 hl.2 hok fun j hj => i6 j (by omega))
    ·unfold ref11_Flow
     rw [refIn_eq, bnd_so, wb hw.1 hw.2]
     refine ok_bnde (b := true) (congrArg some (wb hh.1 hh.2)) (ok_brkF rfl (ok_chk ⟨by omega, by omega⟩ (ok_chk (fun _ => ⟨by omega, by omega⟩) (ok_brkF (by simp [hl.1, hl.2]) ?_))))
     refine ok_loop (fun x : Int × Int => 0 ≤ x.2 ∧ x.2 ≤ am.length ∧ x.1 = sumL (am.take x.2.toNat) ∧ 0 ≤ x.1 ∧ x.1 ≤ 1000000 * x.2 ∧ ∀ j : Nat, (j : Int) < x.2 → 0 ≤ am.getD j 0 ∧ 0 ≤ caps.getD j 0 ∧ caps.getD j 0 ≤ 10000) (fun x : Int × Int => am.length - x.2.toNat) ⟨by simp, by simp, rfl, by simp, by simp, fun j hj => by simp at hj; omega⟩ (by simp; omega) ?_
     rintro ⟨sum, i⟩ next ⟨i1, i2, i3, i4, i5, i6⟩ hn
     simp only at i1 i2 i3 i4 i5 i6
     refine ok_chk ⟨by omega, by omega⟩ (ok_brk (fun hcc => ?_) (fun hcc => ?_))
     ·have hcc : i < W * H := by simpa using hcc
      have hi : i.toNat < am.length := by omega
      have ix : 0 ≤ i ∧ i < (am.length : Int) := ⟨i1, by omega⟩
      refine ok_chk ix ?_
      rw [refIn_eq, bnd_so]
      cases q1 : (decide (am.getD i.toNat 0 ≥ 0) && decide (am.getD i.toNat 0 ≤ 1000000)) with
      | false => exact ok_chk (fun h => by cases h) (ok_bnde (b := false) rfl (ok_brkT rfl (ok_some rfl)))
      | true =>
       have q1' : 0 ≤ am.getD i.toNat 0 ∧ am.getD i.toNat 0 ≤ 1000000 := by simpa using q1
       refine ok_chk (fun _ => ⟨i1, by show i < _; omega⟩) ?_
       refine ok_bnde (b := (decide (caps.getD i.toNat 0 ≥ 0) && decide (caps.getD i.toNat 0 ≤ 10000))) rfl (ok_brk (fun _ => ok_some rfl) (fun q2 => ?_))
       have q2' : 0 ≤ caps.getD i.toNat 0 ∧ caps.getD i.toNat 0 ≤ 10000 := by simpa using q2
       refine ok_chk ix (ok_chk (show InR (sum + am.getD i.toNat 0) from ⟨by omega, by omega⟩) (ok_chk (show InR (i + 1) from ⟨by omega, by omega⟩) (hn _ ⟨by show 0 ≤ i + 1; omega, by show i + 1 ≤ _; omega, ?_, by show 0 ≤ sum + am.getD i.toNat 0; omega, by show sum + am.getD i.toNat 0 ≤ 1000000 * (i + 1); omega, fun j hj => ?_⟩ (by show am.length - (i + 1).toNat < am.length - i.toNat; omega))))
       ·show sum + am.getD i.toNat 0 = sumL (am.take (i + 1).toNat)
        rw [show (i + 1).toNat = i.toNat + 1 by omega, sumL_take_succ hi]; omega
       ·have hj : (j : Int) < i + 1 := hj
        by_cases e : (j : Int) < i
        ·exact i6 j e
        ·obtain rfl : j = i.toNat := by omega
         exact ⟨q1'.1, q2'⟩
     ·have hcc : ¬ i < W * H := by simpa using hcc
      obtain rfl : i = am.length := by omega
      rw [show ((am.length : Nat) : Int).toNat = am.length by omega, List.take_length] at i3
      have := flow_bad hw hh hl.1 hl.2 hok fun j hj => i6 j (by omega)
      exact ok_brkT (by rw [decide_eq_true_eq]; show sum > 1000000; omega) (ok_some rfl)
   ·refine ⟨([], 1), Ok.eq ?_, Ok.eq ?_, by simp⟩
    ·unfold spill_Flow
     rw [within_eq, bnd_so, wb hw.1 hw.2]
     exact ok_bnde (b := true) (congrArg some (wb hh.1 hh.2)) (ok_brkF rfl (ok_chk ⟨by omega, by omega⟩ (ok_chk (fun _ => ⟨by omega, by omega⟩) (ok_brkT (by simp only [Bool.or_eq_true, bne_iff_ne]; omega) (ok_some rfl)))))
    ·unfold ref11_Flow
     rw [refIn_eq, bnd_so, wb hw.1 hw.2]
     exact ok_bnde (b := true) (congrArg some (wb hh.1 hh.2)) (ok_brkF rfl (ok_chk ⟨by omega, by omega⟩ (ok_chk (fun _ => ⟨by omega, by omega⟩) (ok_brkT (by simp only [Bool.or_eq_true, bne_iff_ne]; omega) (ok_some rfl)))))
  ·have q : (decide (H ≥ 1) && decide (H ≤ 8)) = false := by
    cases e : (decide (H ≥ 1) && decide (H ≤ 8)) with
    | false => rfl
    | true => exact absurd (by simpa using e) hh
   refine ⟨([], 6), Ok.eq ?_, Ok.eq ?_, by simp⟩
   ·unfold spill_Flow
    rw [within_eq, bnd_so, wb hw.1 hw.2]
    exact ok_bnde (b := false) (congrArg some q) (ok_brkT rfl (ok_some rfl))
   ·unfold ref11_Flow
    rw [refIn_eq, bnd_so, wb hw.1 hw.2]
    exact ok_bnde (b := false) (congrArg some q) (ok_brkT rfl (ok_some rfl))
 ·have q : (decide (W ≥ 1) && decide (W ≤ 8)) = false := by
   cases e : (decide (W ≥ 1) && decide (W ≤ 8)) with
   | false => rfl
   | true => exact absurd (by simpa using e) hw
  refine ⟨([], 6), Ok.eq ?_, Ok.eq ?_, by simp⟩
  ·unfold spill_Flow
   rw [within_eq, bnd_so, q]
   exact ok_bnde (b := false) rfl (ok_brkT rfl (ok_some rfl))
  ·unfold ref11_Flow
   rw [refIn_eq, bnd_so, q]
   exact ok_bnde (b := false) rfl (ok_brkT rfl (ok_some rfl))
end Go.Proofs.Ss
namespace Go.Proofs.Ss
open Go Go.KX
theorem ck_ne {F : Nat} {f : Field} {α : Type} {post : α → Prop} {x y : Option α} (h1 : checkV f ≠ 0 → Ok post x) (h2 : FieldOK f → Ok post y) : Ok post (brk (checkV f != 0) x y) :=
 ok_brk (fun h => h1 (by simpa using h)) (fun h => h2 (checkV_ok (by simpa using h)))
def holdsE (f : Field) (am : List Int) : Bool × Int := if checkV f ≠ 0 then (false, checkV f) else if am.length ≠ f.Cells.length then (false, 1) else (decide (∀ i, i < am.length → (f.Cells.getD i ⟨0, 0⟩).Lo ≤ am.getD i 0 ∧ am.getD i 0 ≤ (f.Cells.getD i ⟨0, 0⟩).Hi), 0)
theorem HoldsE_eq {F : Nat} {f : Field} {am : List Int} (hF : 200 < F) (hl : f.Cells.length ≤ 80) : spill_Holds F f am = some (holdsE f am) := by
 by_cases h : checkV f = 0
 ·by_cases h2 : am.length = f.Cells.length
  ·rw [Holds_eq (by omega) (checkV_ok h) h2, holdsE, if_neg (by simp [h]), if_neg (by simp [h2])]
  ·refine Ok.eq ?_
   unfold spill_Holds holdsE
   refine ok_bnde (Check_eq (by show f.Cells.length < F; omega)) ?_
   show Ok _ (brk (checkV f != 0) _ _)
   exact ok_brkF (by simp [h]) (ok_brkT (by simp; omega) (ok_some (by rw [if_neg (by simp [h]), if_pos h2])))
 ·refine Ok.eq ?_
  unfold spill_Holds holdsE
  refine ok_bnde (Check_eq (by show f.Cells.length < F; omega)) ?_
  show Ok _ (brk (checkV f != 0) _ _)
  exact ok_brkT (by simp [h]) (ok_some (by rw [if_pos h]))
theorem refHolds_eq {F : Nat} {f : Field} {am : List Int} (hF : 200 < F) (hl : f.Cells.length ≤ 80) : ref11_Holds F f am = some (holdsE f am) := by
 refine Ok.eq ?_
 unfold ref11_Holds holdsE
 refine ok_bnde (refCheck_eq (by show f.Cells.length < F; omega)) ?_
 show Ok _ (brk (checkV f != 0) _ _)
 refine ck_ne (F := F) (fun h => ok_some (by rw [if_pos h])) (fun hf => ?_)
 rw [if_neg (by simp [hf.check])]
 refine ok_brk (fun h2 => ok_some (by rw [if_pos (ne_of_bne h2)])) (fun h2 => ?_)
 have h2 : am.length = f.Cells.length := eq_of_bne h2
 rw [if_neg (by simp [h2])]
 refine ok_loop (fun x : Int => 0 ≤ x ∧ x ≤ am.length ∧ ∀ j : Nat, (j : Int) < x → (f.Cells.getD j ⟨0, 0⟩).Lo ≤ am.getD j 0 ∧ am.getD j 0 ≤ (f.Cells.getD j ⟨0, 0⟩).Hi) (fun x : Int => am.length - x.toNat) ⟨by omega, by omega, fun j hj => by omega⟩ (by simp; omega) ?_
 intro i next ⟨h1, h3, h4⟩ hn
 refine ok_brk (fun hcc => ?_) (fun hcc => ok_some ?_)
 ·have hcc : i < am.length := by simpa using hcc
  have hi : i.toNat < am.length := by omega
  have ix1 : 0 ≤ i ∧ i < (am.length : Int) := ⟨h1, hcc⟩
  have ix2 : 0 ≤ i ∧ i < (f.Cells.length : Int) := ⟨h1, by omega⟩
  refine ok_chk ix1 (ok_chk ix2 (ok_chk (fun _ => ix1) (ok_chk (fun _ => ix2) (ok_brk (fun hb => ok_some ?_) (fun hb => ok_chk ⟨by omega, by omega⟩ (hn _ ⟨by omega, by omega, fun j hj => ?_⟩ (by omega)))))))
  ·simp only [Bool.or_eq_true, decide_eq_true_eq] at hb
   congr 1
   symm
   rw [decide_eq_false_iff_not]
   intro h
   obtain ⟨a1, a2⟩ := h _ hi
   omega
  ·simp only [Bool.or_eq_false_iff, decide_eq_false_iff_not] at hb
   by_cases e : (j : Int) < i
   ·exact h4 j e
   ·obtain rfl : j = i.toNat := by omega
    omega
 ·have hcc : ¬ i < am.length := by simpa using hcc
  congr 1
  symm
  rw [decide_eq_true_eq]
  exact fun j hj => h4 j (by omega)
def totalE (f : Field) : Span × Int := if checkV f ≠ 0 then (⟨0, 0⟩, checkV f) else (totV f.Cells, 0)
theorem TotalE_eq {F : Nat} {f : Field} (hF : 200 < F) (hl : f.Cells.length ≤ 80) : spill_Total F f = some (totalE f) := by
 by_cases h : checkV f = 0
 ·rw [Total_eq (by omega) (checkV_ok h), totalE, if_neg (by simp [h])]
 ·refine Ok.eq ?_
  unfold spill_Total totalE
  refine ok_bnde (Check_eq (by show f.Cells.length < F; omega)) ?_
  show Ok _ (brk (checkV f != 0) _ _)
  exact ok_brkT (by simp [h]) (ok_some (by rw [if_pos h]))
theorem refTotal_eq {F : Nat} {f : Field} (hF : 200 < F) (hl : f.Cells.length ≤ 80) : ref11_Total F f = some (totalE f) := by
 refine Ok.eq ?_
 unfold ref11_Total totalE
 refine ok_bnde (refCheck_eq (by show f.Cells.length < F; omega)) ?_
 show Ok _ (brk (checkV f != 0) _ _)
 refine ck_ne (F := F) (fun h => ok_some (by rw [if_pos h])) (fun hf => ?_)
 have hs := hf.small
 rw [if_neg (by simp [hf.check])]
 refine ok_loop (fun x : Int × Int × Int => 0 ≤ x.1 ∧ x.1 ≤ f.Cells.length ∧ x.2.2 = (totV (f.Cells.take x.1.toNat)).Lo ∧ x.2.1 = (totV (f.Cells.take x.1.toNat)).Hi) (fun x : Int × Int × Int => f.Cells.length - x.1.toNat) ⟨by simp, by simp, rfl, rfl⟩ (by simp; omega) ?_
 rintro ⟨i, hi', lo'⟩ next ⟨h1, h2, h3, h4⟩ hn
 simp only at h1 h2 h3 h4
 refine ok_brk (fun hcc => ?_) (fun hcc => ok_some ?_)
 ·have hcc : i < f.Cells.length := by simpa using hcc
  have hi : i.toNat < f.Cells.length := by omega
  have hb := tot_bound (cells := f.Cells.take i.toNat) (n := 64) (fun s hs => hf.cells s (List.mem_of_mem_take hs)) (by rw [List.length_take]; omega)
  have hc := hf.cells _ (getD_mem (d := ⟨0, 0⟩) hi)
  have ht := tot_take hi
  refine ok_chk ⟨h1, hcc⟩ (ok_chk (show InR (lo' + (f.Cells.getD i.toNat ⟨0, 0⟩).Lo) from ⟨by omega, by omega⟩) (ok_chk ⟨h1, hcc⟩ (ok_chk (show InR (hi' + (f.Cells.getD i.toNat ⟨0, 0⟩).Hi) from ⟨by omega, by omega⟩) (ok_chk (show InR (i + 1) from ⟨by omega, by omega⟩) (hn _ ⟨by show 0 ≤ i + 1; omega, by show i + 1 ≤ _; omega, ?_, ?_⟩ (by show f.Cells.length - (i + 1).toNat < f.Cells.length - i.toNat; omega))))))
  ·show lo' + _ = (totV (f.Cells.take (i + 1).toNat)).Lo
   rw [show (i + 1).toNat = i.toNat + 1 by omega, ht, h3]
  ·show hi' + _ = (totV (f.Cells.take (i + 1).toNat)).Hi
   rw [show (i + 1).toNat = i.toNat + 1 by omega, ht, h4]
 ·have hcc : ¬ i < f.Cells.length := by simpa using hcc
  obtain rfl : i = f.Cells.length := by omega
  show (Span.mk lo' hi', (0 : Int)) = _
  rw [h3, h4]
  simp [List.take_of_length_le]
def tightenE (f : Field) (t : Span) : Field × Int := if checkV f ≠ 0 then (nilF, checkV f) else if ¬ SpanOK 1000000 t then (nilF, 6) else if (totV f.Cells).Lo > t.Hi ∨ (totV f.Cells).Hi < t.Lo then (nilF, 21) else (⟨f.W, f.H, f.Cells.map (cutV t (totV f.Cells))⟩, 0)
theorem TightenE_eq {F : Nat} {f : Field} {t : Span} (hF : 200 < F) (hl : f.Cells.length ≤ 80) : spill_Tighten F f t = some (tightenE f t) := by
 by_cases h : checkV f = 0
 ·have hf := checkV_ok h
  by_cases h2 : SpanOK 1000000 t
  ·by_cases h3 : (totV f.Cells).Lo > t.Hi ∨ (totV f.Cells).Hi < t.Lo
   ·refine Ok.eq ?_
    unfold spill_Tighten tightenE
    refine ok_bnde (Check_eq (by show f.Cells.length < F; omega)) ?_
    show Ok _ (brk (checkV f != 0) _ _)
    refine ok_brkF (by simp [h]) (ok_bnde (span_eq F ⟨t.Lo, t.Hi⟩ 1000000) ?_)
    rw [decide_eq_true (show SpanOK 1000000 ⟨t.Lo, t.Hi⟩ from h2)]
    refine ok_brkF rfl (ok_bnde (total_eq (f := f) (by omega) hf) (ok_brkT ?_ (ok_some ?_)))
    ·show (decide ((totV f.Cells).Lo > t.Hi) || decide ((totV f.Cells).Hi < t.Lo)) = true
     simpa using h3
    ·rw [if_neg (by simp [h]), if_neg (fun q => q h2), if_pos h3]
   ·rw [Tighten_eq (by omega) hf h2 (by omega) (by omega), tightenE, if_neg (by simp [h]), if_neg (fun q => q h2), if_neg h3]
  ·refine Ok.eq ?_
   unfold spill_Tighten tightenE
   refine ok_bnde (Check_eq (by show f.Cells.length < F; omega)) ?_
   show Ok _ (brk (checkV f != 0) _ _)
   refine ok_brkF (by simp [h]) (ok_bnde (span_eq F ⟨t.Lo, t.Hi⟩ 1000000) ?_)
   rw [decide_eq_false (show ¬ SpanOK 1000000 ⟨t.Lo, t.Hi⟩ from h2)]
   exact ok_brkT rfl (ok_some (by rw [if_neg (by simp [h]), if_pos h2]))
 ·refine Ok.eq ?_
  unfold spill_Tighten tightenE
  refine ok_bnde (Check_eq (by show f.Cells.length < F; omega)) ?_
  show Ok _ (brk (checkV f != 0) _ _)
  exact ok_brkT (by simp [h]) (ok_some (by rw [if_pos h]))
theorem exL {f : Field} (hf : FieldOK f) (p : Span → Int) (hp : ∀ s ∈ f.Cells, 0 ≤ p s ∧ p s ≤ 1000000) (q : Nat) (hq : q < f.Cells.length) : (∀ i, 0 ≤ sumL (((f.Cells.map p).set q 0).take i) ∧ sumL (((f.Cells.map p).set q 0).take i) ≤ 100000000) ∧
  (∀ i, i < f.Cells.length → sumL (((f.Cells.map p).set q 0).take (i + 1)) = sumL (((f.Cells.map p).set q 0).take i) + (if q = i then 0 else p (f.Cells.getD i ⟨0, 0⟩))) ∧
  sumL ((f.Cells.map p).set q 0) = sumL (f.Cells.map p) - p (f.Cells.getD q ⟨0, 0⟩) := by
 have hs := hf.small
 have m : ∀ i, i < f.Cells.length → (f.Cells.map p).getD i 0 = p (f.Cells.getD i ⟨0, 0⟩) := fun i hi => getD_map _ _ _ ⟨0, 0⟩ _ hi
 refine ⟨fun i => ?_, fun i hi => ?_, ?_⟩
 ·have hb1 : ∀ x ∈ ((f.Cells.map p).set q 0).take i, 0 ≤ x ∧ x ≤ 1000000 := fun x hx => by
   rcases List.mem_or_eq_of_mem_set (List.mem_of_mem_take hx) with hx | rfl
   ·obtain ⟨s, hs, rfl⟩ := List.mem_map.1 hx
    exact hp s hs
   ·omega
  have h2 := sumL_le (B := 1000000) _ fun x hx => (hb1 x hx).2
  have h3 : (((f.Cells.map p).set q 0).take i).length ≤ 64 := by simp; omega
  exact ⟨sumL_nonneg _ fun x hx => (hb1 x hx).1, by omega⟩
 ·rw [sumL_take_succ (by simpa using hi), getD_set' (by simpa using hq)]
  split
  ·rfl
  ·rw [m i hi]
 ·rw [sumL_set _ _ _ (by simpa using hq), m q hq]; omega
theorem refTighten_eq {F : Nat} {f : Field} {t : Span} (hF : 200 < F) (hl : f.Cells.length ≤ 80) : ref11_Tighten F f t = some (tightenE f t) := by
 refine Ok.eq ?_
 unfold ref11_Tighten tightenE
 refine ok_bnde (refCheck_eq (by show f.Cells.length < F; omega)) ?_
 show Ok _ (brk (checkV f != 0) _ _)
 refine ck_ne (F := F) (fun h => ok_some (by rw [if_pos h])) (fun hf => ?_)
 have hs := hf.small
 have hbt := tot_bound hf.cells hs.2
 rw [if_neg (by simp [hf.check])]
 refine ok_bnde (refSpan_eq F ⟨t.Lo, t.Hi⟩ 1000000) (ok_brk (fun h2 => ok_some (by rw [if_pos (show ¬ SpanOK 1000000 t from nd_true h2)])) (fun h2 => ?_))
 have h2 : SpanOK 1000000 t := nd_false h2
 rw [if_neg (fun q => q h2)]
 refine ok_bnde (refTotal_eq (f := f) hF hl) ?_
 rw [show totalE f = (totV f.Cells, 0) by rw [totalE, if_neg (by simp [hf.check])]]
 refine ok_brk (fun h3 => ok_some ?_) (fun h3 => ?_)
 ·have h3 : (totV f.Cells).Hi < t.Lo ∨ (totV f.Cells).Lo > t.Hi := by simpa using h3
  rw [if_pos (by omega)]
 have h3 : ¬ ((totV f.Cells).Hi < t.Lo) ∧ ¬ ((totV f.Cells).Lo > t.Hi) := by
  simp only [Bool.or_eq_false_iff, decide_eq_false_iff_not] at h3; exact h3
 rw [if_neg (by omega)]
 refine ok_loop (fun x : Int × List Span => 0 ≤ x.1 ∧ x.1 ≤ f.Cells.length ∧ x.2 = (f.Cells.map (cutV t (totV f.Cells))).take x.1.toNat) (fun x : Int × List Span => f.Cells.length - x.1.toNat) ⟨by simp, by simp, rfl⟩ (by simp; omega) ?_
 rintro ⟨q, o⟩ next ⟨g1, g2, g3⟩ hn
 simp only at g1 g2 g3
 have bo : o.length ≤ 64 := by rw [g3, List.length_take, List.length_map]; omega
 refine ok_brk (fun hcc => ?_) (fun hcc => ok_some ?_)
 ·have hcc : q < f.Cells.length := by simpa using hcc
  have hqi : q.toNat < f.Cells.length := by omega
  have hcq := hf.cells _ (getD_mem (d := (⟨0, 0⟩ : Span)) hqi)
  obtain ⟨bL, sL, eL⟩ := exL hf (·.Lo) (fun s hs => by have h := hf.cells s hs; exact ⟨h.1, by have h1 := h.2.1; have h2 := h.2.2; omega⟩) q.toNat hqi
  obtain ⟨bH, sH, eH⟩ := exL hf (·.Hi) (fun s hs => by have h := hf.cells s hs; exact ⟨by have h1 := h.1; have h2 := h.2.1; omega, h.2.2⟩) q.toNat hqi
  refine ok_chk ⟨g1, hcc⟩ ?_
  refine ok_loop (fun y : Int × Int × Int => 0 ≤ y.2.1 ∧ y.2.1 ≤ f.Cells.length ∧ y.1 = sumL (((f.Cells.map (·.Lo)).set q.toNat 0).take y.2.1.toNat) ∧ y.2.2 = sumL (((f.Cells.map (·.Hi)).set q.toNat 0).take y.2.1.toNat)) (fun y : Int × Int × Int => f.Cells.length - y.2.1.toNat)
   ⟨by simp, by simp, by simp [sumL], by simp [sumL]⟩ (by simp; omega) ?_
  rintro ⟨ls, i', ms⟩ next7 ⟨y1, y2, y3, y4⟩ hn7
  simp only at y1 y2 y3 y4
  have hbl := bL i'.toNat
  have hbh := bH i'.toNat
  refine ok_brk (fun hc7 => ?_) (fun hc7 => ?_)
  ·have hc7 : i' < f.Cells.length := by simpa using hc7
   have hi7 : i'.toNat < f.Cells.length := by omega
   have sl := sL _ hi7
   have sh := sH _ hi7
   have hcc7 := hf.cells _ (getD_mem (d := (⟨0, 0⟩ : Span)) hi7)
   refine ok_join (by omega) (fun y : Int × Int => y.1 = sumL (((f.Cells.map (·.Lo)).set q.toNat 0).take (i'.toNat + 1)) ∧ y.2 = sumL (((f.Cells.map (·.Hi)).set q.toNat 0).take (i'.toNat + 1))) (fun y hy => ok_chk (show InR (i' + 1) from ⟨by omega, by omega⟩) (hn7 _ ⟨by show 0 ≤ i' + 1; omega, by show i' + 1 ≤ _; omega, by show y.1 = sumL (((f.Cells.map (·.Lo)).set q.toNat 0).take (i' + 1).toNat); rw [show (i' + 1).toNat = i'.toNat + 1 by omega]; exact hy.1, by show y.2 = sumL (((f.Cells.map (·.Hi)).set q.toNat 0).take (i' + 1).toNat); rw [show (i' + 1).toNat = i'.toNat + 1 by omega]; exact hy.2⟩ (by show f.Cells.length - (i' + 1).toNat < f.Cells.length - i'.toNat; omega))) fun k hk => ?_
   refine ok_brk (fun hb7 => ?_) (fun hb7 => ?_)
   ·have hb7 : i' ≠ q := by simpa using hb7
    rw [if_neg (by omega)] at sl sh
    have ix : 0 ≤ i' ∧ i' < (f.Cells.length : Int) := ⟨y1, hc7⟩
    refine ok_chk ix (ok_chk (show InR (ls + (f.Cells.getD i'.toNat ⟨0, 0⟩).Lo) from ⟨by omega, by omega⟩) (ok_chk ix (ok_chk (show InR (ms + (f.Cells.getD i'.toNat ⟨0, 0⟩).Hi) from ⟨by omega, by omega⟩) (hk _ ⟨?_, ?_⟩))))
    ·show ls + (f.Cells.getD i'.toNat ⟨0, 0⟩).Lo = _; omega
    ·show ms + (f.Cells.getD i'.toNat ⟨0, 0⟩).Hi = _; omega
   ·have hb7 : i' = q := by simpa using hb7
    rw [if_pos (by omega)] at sl sh
    exact hk _ ⟨by show ls = _; omega, by show ms = _; omega⟩
  ·have hc7 : ¬ i' < f.Cells.length := by simpa using hc7
   have e1 : ((f.Cells.map (·.Lo)).set q.toNat 0).take i'.toNat = (f.Cells.map (·.Lo)).set q.toNat 0 := List.take_of_length_le (by simp; omega)
   have e2 : ((f.Cells.map (·.Hi)).set q.toNat 0).take i'.toNat = (f.Cells.map (·.Hi)).set q.toNat 0 := List.take_of_length_le (by simp; omega)
   rw [e1, eL] at y3
   rw [e2, eH] at y4
   have tL : (totV f.Cells).Lo = sumL (f.Cells.map (·.Lo)) := rfl
   have tH : (totV f.Cells).Hi = sumL (f.Cells.map (·.Hi)) := rfl
   refine ok_chk (show InR (t.Lo - ms) from ⟨by omega, by omega⟩) (ok_chk (show InR (t.Hi - ls) from ⟨by omega, by omega⟩) (ok_chk (show o.length + 1 ≤ 1000000000 by omega) (ok_chk (show InR (q + 1) from ⟨by omega, by omega⟩) (hn _ ⟨by show 0 ≤ q + 1; omega, by show q + 1 ≤ _; omega, ?_⟩ (by show f.Cells.length - (q + 1).toNat < f.Cells.length - q.toNat; omega)))))
   show o ++ [Span.mk (if t.Lo - ms > (f.Cells.getD q.toNat ⟨0, 0⟩).Lo then t.Lo - ms else (f.Cells.getD q.toNat ⟨0, 0⟩).Lo) (if t.Hi - ls < (f.Cells.getD q.toNat ⟨0, 0⟩).Hi then t.Hi - ls else (f.Cells.getD q.toNat ⟨0, 0⟩).Hi)] = (f.Cells.map (cutV t (totV f.Cells))).take (q + 1).toNat
   rw [show (q + 1).toNat = q.toNat + 1 by omega, take_succ' (d := ⟨0, 0⟩) (by simpa using hqi), g3, getD_map _ _ _ ⟨0, 0⟩ _ hqi]
   congr 2
   simp only [cutV]
   congr 1
   ·split <;> split <;> omega
   ·split <;> split <;> omega
 ·have hcc : ¬ q < f.Cells.length := by simpa using hcc
  show (Field.mk f.W f.H o, (0 : Int)) = _
  rw [g3, List.take_of_length_le (by simp; omega)]
def dl (p : Nat → Bool) : Nat → List Int
 | 0 => []
 | n + 1 => bif p n then dl p n ++ [(n : Int)] else dl p n
theorem dl_len (p : Nat → Bool) : ∀ n, (dl p n).length ≤ n
 | 0 => Nat.le_refl _
 | n + 1 => by
  have := dl_len p n
  rw [dl]
  cases p n
  ·simp only [cond_false]; omega
  ·simp only [cond_true, List.length_append, List.length_singleton]; omega
def dirtyE (f : Field) : List Int × List Int × Int := if checkV f ≠ 0 then ([], [], checkV f) else (dl (fun i => decide ((f.Cells.getD i ⟨0, 0⟩).Lo > 0)) f.Cells.length, dl (fun i => decide ((f.Cells.getD i ⟨0, 0⟩).Hi > 0)) f.Cells.length, 0)
theorem DirtyE_eq {F : Nat} {f : Field} (hF : 200 < F) (hl : f.Cells.length ≤ 80) : spill_Dirty F f = some (dirtyE f) := by
 refine Ok.eq ?_
 unfold spill_Dirty dirtyE
 refine ok_bnde (Check_eq (by show f.Cells.length < F; omega)) ?_
 show Ok _ (brk (checkV f != 0) _ _)
 refine ck_ne (F := F) (fun h => ok_some (by rw [if_pos h])) (fun hf => ?_)
 have hs := hf.small
 rw [if_neg (by simp [hf.check])]
 generalize hp : (fun i => decide ((f.Cells.getD i (⟨0, 0⟩ : Span)).Lo > 0)) = p
 generalize hq : (fun i => decide ((f.Cells.getD i (⟨0, 0⟩ : Span)).Hi > 0)) = q
 refine ok_loop (fun x : List Int × Int × List Int => 0 ≤ x.2.1 ∧ x.2.1 ≤ f.Cells.length ∧ x.1 = dl p x.2.1.toNat ∧ x.2.2 = dl q x.2.1.toNat) (fun x : List Int × Int × List Int => f.Cells.length - x.2.1.toNat) ⟨by simp, by simp, rfl, rfl⟩ (by simp; omega) ?_
 rintro ⟨sure, i, may⟩ next ⟨i1, i2, i3, i4⟩ hn
 simp only at i1 i2 i3 i4
 have b1 := dl_len p i.toNat
 have b2 := dl_len q i.toNat
 rw [← i3] at b1
 rw [← i4] at b2
 refine ok_brk (fun hc => ?_) (fun hc => ok_some ?_)
 ·have hc : i < f.Cells.length := by simpa using hc
  refine ok_join (by omega) (fun x : List Int × List Int => x.1 = dl p (i.toNat + 1) ∧ x.2 = dl q (i.toNat + 1)) (fun x hx => ok_chk (show InR (i + 1) from ⟨by omega, by omega⟩) (hn _ ⟨by show 0 ≤ i + 1; omega, by show i + 1 ≤ _; omega, by show x.1 = dl p (i + 1).toNat; rw [show (i + 1).toNat = i.toNat + 1 by omega]; exact hx.1, by show x.2 = dl q (i + 1).toNat; rw [show (i + 1).toNat = i.toNat + 1 by omega]; exact hx.2⟩ (by show f.Cells.length - (i + 1).toNat < f.Cells.length - i.toNat; omega))) fun k hk => ?_
  have ei : ((i.toNat : Nat) : Int) = i := by omega
  refine ok_chk ⟨i1, hc⟩ ?_
  refine ok_join (by omega) (fun x : List Int => x = dl p (i.toNat + 1)) (fun x hx => ?_) fun k2 hk2 => ?_
  ·refine ok_brk (fun hb => ok_chk (show may.length + 1 ≤ 1000000000 by omega) (hk _ ⟨hx, ?_⟩)) (fun hb => hk _ ⟨hx, ?_⟩)
   ·have hb : q i.toNat = true := by rw [← hq]; exact hb
    show may ++ [i] = _
    rw [dl, hb, cond_true, i4, ei]
   ·have hb : q i.toNat = false := by rw [← hq]; exact hb
    show may = _
    rw [dl, hb, cond_false, i4]
  ·refine ok_brk (fun hb => ok_chk (show sure.length + 1 ≤ 1000000000 by omega) (hk2 _ ?_)) (fun hb => hk2 _ ?_)
   ·have hb : p i.toNat = true := by rw [← hp]; exact hb
    rw [dl, hb, cond_true, ei, ← i3]
   ·have hb : p i.toNat = false := by rw [← hp]; exact hb
    rw [dl, hb, cond_false, ← i3]
 ·have hc : ¬ i < f.Cells.length := by simpa using hc
  obtain rfl : i = f.Cells.length := by omega
  show (sure, may, (0 : Int)) = _
  rw [i3, i4]; rfl
theorem refDirty_eq {F : Nat} {f : Field} (hF : 200 < F) (hl : f.Cells.length ≤ 80) : ref11_Dirty F f = some (dirtyE f) := by
 refine Ok.eq ?_
 unfold ref11_Dirty dirtyE
 refine ok_bnde (refCheck_eq (by show f.Cells.length < F; omega)) ?_
 show Ok _ (brk (checkV f != 0) _ _)
 refine ck_ne (F := F) (fun h => ok_some (by rw [if_pos h])) (fun hf => ?_)
 have hs := hf.small
 rw [if_neg (by simp [hf.check])]
 generalize hp : (fun i => decide ((f.Cells.getD i (⟨0, 0⟩ : Span)).Lo > 0)) = p
 generalize hq : (fun i => decide ((f.Cells.getD i (⟨0, 0⟩ : Span)).Hi > 0)) = q
 refine ok_loop (fun x : Int × List Int × List Int => 0 ≤ x.1 ∧ x.1 ≤ f.Cells.length ∧ x.2.1 = dl p x.1.toNat ∧ x.2.2 = dl q x.1.toNat) (fun x : Int × List Int × List Int => f.Cells.length - x.1.toNat) ⟨by simp, by simp, rfl, rfl⟩ (by simp; omega) ?_
 rintro ⟨i, sure, may⟩ next ⟨i1, i2, i3, i4⟩ hn
 simp only at i1 i2 i3 i4
 have b1 := dl_len p i.toNat
 have b2 := dl_len q i.toNat
 rw [← i3] at b1
 rw [← i4] at b2
 refine ok_brk (fun hc => ?_) (fun hc => ok_some ?_)
 ·have hc : i < f.Cells.length := by simpa using hc
  refine ok_join (by omega) (fun x : List Int × List Int => x.1 = dl p (i.toNat + 1) ∧ x.2 = dl q (i.toNat + 1)) (fun x hx => ok_chk (show InR (i + 1) from ⟨by omega, by omega⟩) (hn _ ⟨by show 0 ≤ i + 1; omega, by show i + 1 ≤ _; omega, by show x.1 = dl p (i + 1).toNat; rw [show (i + 1).toNat = i.toNat + 1 by omega]; exact hx.1, by show x.2 = dl q (i + 1).toNat; rw [show (i + 1).toNat = i.toNat + 1 by omega]; exact hx.2⟩ (by show f.Cells.length - (i + 1).toNat < f.Cells.length - i.toNat; omega))) fun k hk => ?_
  have ei : ((i.toNat : Nat) : Int) = i := by omega
  refine ok_join (by omega) (fun x : List Int => x = dl p (i.toNat + 1)) (fun x hx => ?_) fun k2 hk2 => ?_
  ·refine ok_chk ⟨i1, hc⟩ (ok_brk (fun hb => ok_chk (show may.length + 1 ≤ 1000000000 by omega) (hk _ ⟨hx, ?_⟩)) (fun hb => hk _ ⟨hx, ?_⟩))
   ·have hb : q i.toNat = true := by rw [← hq]; exact hb
    show may ++ [i] = _
    rw [dl, hb, cond_true, i4, ei]
   ·have hb : q i.toNat = false := by rw [← hq]; exact hb
    show may = _
    rw [dl, hb, cond_false, i4]
  ·refine ok_chk ⟨i1, hc⟩ (ok_brk (fun hb => ok_chk (show sure.length + 1 ≤ 1000000000 by omega) (hk2 _ ?_)) (fun hb => hk2 _ ?_))
   ·have hb : p i.toNat = true := by rw [← hp]; exact hb
    rw [dl, hb, cond_true, ei, ← i3]
   ·have hb : p i.toNat = false := by rw [← hp]; exact hb
    rw [dl, hb, cond_false, ← i3]
 ·have hc : ¬ i < f.Cells.length := by simpa using hc
  obtain rfl : i = f.Cells.length := by omega
  show (sure, may, (0 : Int)) = _
  rw [i3, i4]; rfl
end Go.Proofs.Ss
namespace Go.Proofs.Ss
open Go Go.KX
theorem whenV_one {f : Field} {caps : List Span} {c : Int} {w w' : Span} {e e' : Int} (h : WhenV f caps c w e) (h' : WhenV f caps c w' e') : w = w' ∧ e = e' := by
 rcases h with ⟨r1, r2, r3, r4, r5, r6, r7, r8⟩ | ⟨r0, r1, r2⟩ <;> rcases h' with ⟨s1, s2, s3, s4, s5, s6, s7, s8⟩ | ⟨s0, s1, s2⟩
 ·have e1 : w.Lo = w'.Lo := by
   rcases Int.lt_trichotomy w.Lo w'.Lo with q | q | q
   ·have := s7 w.Lo.toNat (by omega); omega
   ·exact q
   ·have := r7 w'.Lo.toNat (by omega); omega
  have e2 : w.Hi = w'.Hi := by
   rcases Int.lt_trichotomy w.Hi w'.Hi with q | q | q
   ·have := s8 w.Hi.toNat (by omega); omega
   ·exact q
   ·have := r8 w'.Hi.toNat (by omega); omega
  obtain ⟨wl, wh⟩ := w
  obtain ⟨vl, vh⟩ := w'
  simp only at e1 e2
  exact ⟨by rw [e1, e2], by rw [r1, s1]⟩
 ·have := s2 w.Hi.toNat (by omega); omega
 ·have := r2 w'.Hi.toNat (by omega); omega
 ·exact ⟨by rw [r0, s0], by rw [r1, s1]⟩
def WhenE (f : Field) (caps : List Span) (c : Int) (x : Span × Int) : Prop :=
 (begunV f caps ≠ 0 ∧ x = (⟨0, 0⟩, begunV f caps)) ∨ (begunV f caps = 0 ∧ ¬ (0 ≤ c ∧ c < f.Cells.length) ∧ x = (⟨0, 0⟩, 1)) ∨ (begunV f caps = 0 ∧ (0 ≤ c ∧ c < f.Cells.length) ∧ WhenV f caps c x.1 x.2)
theorem whenE_one {f : Field} {caps : List Span} {c : Int} {x y : Span × Int} (h : WhenE f caps c x) (h' : WhenE f caps c y) : x = y := by
 rcases h with ⟨r1, r2⟩ | ⟨r1, r2, r3⟩ | ⟨r1, r2, r3⟩ <;> rcases h' with ⟨s1, s2⟩ | ⟨s1, s2, s3⟩ | ⟨s1, s2, s3⟩ <;> first | contradiction | skip
 ·rw [r2, s2]
 ·rw [r3, s3]
 ·obtain ⟨q1, q2⟩ := whenV_one r3 s3
  exact Prod.ext q1 q2
theorem WhenE_ok {F : Nat} {f : Field} {caps : List Span} {c : Int} (hF : 200 < F) (hl : f.Cells.length ≤ 80) (hcl : caps.length ≤ 80) : Ok (WhenE f caps c) (spill_When F f caps c) := by
 by_cases h0 : begunV f caps = 0
 ·obtain ⟨hf, hc⟩ := begunV_ok h0
  by_cases hh : 0 ≤ c ∧ c < f.Cells.length
  ·obtain ⟨r, hr, hw⟩ := When_ok (F := F) (by omega) hf hc hh.1 hh.2
   exact ⟨r, hr, .inr (.inr ⟨h0, hh, hw⟩)⟩
  ·unfold spill_When
   refine ok_bnde (Check_eq (by show f.Cells.length < F; omega)) ?_
   rw [show checkV (Field.mk f.W f.H f.Cells) = 0 from hf.check]
   refine ok_brkF (by simp) (ok_brkF (by simp [hc.len]) ?_)
   refine ok_join (by omega) (fun i : Int => 0 ≤ i ↔ ¬ ∀ s ∈ caps, SpanOK 10000 s) (fun i hi => ?_) fun k hk => find_ok (g := spill_begin_1) (m := 10000) (fun s => by unfold spill_begin_1; rw [span_eq, bnd_so]) k (by omega) (by omega) hk
   refine ok_brkF ?_ ?_
   ·rw [decide_eq_false_iff_not]
    exact fun h => (hi.1 h) hc.ok
   refine ok_bnde (clone_eq (by omega)) (ok_chk ⟨by omega, by omega⟩ ?_)
   rw [within_eq, bnd_so]
   refine ok_brkT ?_ (ok_some (.inr (.inl ⟨h0, hh, rfl⟩)))
   by_cases q : c ≥ 0
   ·rw [decide_eq_true q, decide_eq_false (show ¬ c ≤ (f.Cells.length : Int) - 1 by omega)]; rfl
   ·rw [decide_eq_false q]; rfl
 ·unfold spill_When
  refine ok_bnde (Check_eq (by show f.Cells.length < F; omega)) ?_
  show Ok _ (brk (checkV f != 0) _ _)
  refine ok_brk (fun h => ok_brkT h (ok_some (.inl ⟨h0, ?_⟩))) (fun h => ?_)
  ·show (_, checkV f) = _
   rw [begunV, if_pos (by simpa using h)]
  have h : checkV f = 0 := by simpa using h
  refine ok_brk (fun h2 => ok_some (.inl ⟨h0, ?_⟩)) (fun h2 => ?_)
  ·rw [begunV, if_neg (by simp [h]), if_pos (ne_of_bne h2)]
  have h2 : caps.length = f.Cells.length := eq_of_bne h2
  have hbad : ¬ ∀ s ∈ caps, SpanOK 10000 s := fun hok => h0 (by rw [begunV, if_neg (by simp [h]), if_neg (by simp [h2]), if_pos hok])
  refine ok_join (by omega) (fun i : Int => 0 ≤ i ↔ ¬ ∀ s ∈ caps, SpanOK 10000 s) (fun i hi => ?_) fun k hk => find_ok (g := spill_begin_1) (m := 10000) (fun s => by unfold spill_begin_1; rw [span_eq, bnd_so]) k (by omega) (by omega) hk
  refine ok_brkT (by simpa using hi.2 hbad) (ok_some (.inl ⟨h0, ?_⟩))
  rw [begunV, if_neg (by simp [h]), if_neg (by simp [h2]), if_neg hbad]
theorem refWhen_ok {F : Nat} {f : Field} {caps : List Span} {c : Int} (hF : 200 < F) (hl : f.Cells.length ≤ 80) (hcl : caps.length ≤ 80) : Ok (WhenE f caps c) (ref11_When F f caps c) := by
 unfold ref11_When
 refine ok_bnde (refBegun_eq (f := f) hF hl hcl) (ok_brk (fun h => ok_some (.inl ⟨by simpa using h, rfl⟩)) (fun h => ?_))
 have h : begunV f caps = 0 := by simpa using h
 obtain ⟨hf, hc⟩ := begunV_ok h
 refine ok_chk ⟨by omega, by omega⟩ ?_
 rw [refIn_eq, bnd_so]
 refine ok_brk (fun h2 => ok_some (.inr (.inl ⟨h, fun hh => ?_, rfl⟩))) (fun h2 => ?_)
 ·exact (nwb h2) ⟨hh.1, by omega⟩
 have h2 : 0 ≤ c ∧ c ≤ (f.Cells.length : Int) - 1 := by simpa using h2
 have h1 : 0 ≤ c := h2.1
 have h2 : c < f.Cells.length := by omega
 refine Ok.mono (post := WhenOK f caps c) ?_ (fun x hx => .inr (.inr ⟨h, ⟨h1, h2⟩, hx⟩))
 refine ok_loop (fun x : Int × Int × Int × List Span × Int × Int => 0 ≤ x.2.2.1 ∧ x.2.2.1 ≤ 49 ∧ x.2.2.2.1 = spreadN f.W f.H caps x.2.2.1.toNat f.Cells ∧ x.2.2.2.2.1 = f.H ∧ x.2.2.2.2.2 = f.W ∧
   ((x.1 = -1 ∧ ∀ h : Nat, (h : Int) < x.2.2.1 → (atV f caps c h).Lo ≤ 0) ∨ (0 ≤ x.1 ∧ x.1 < x.2.2.1 ∧ 0 < (atV f caps c x.1.toNat).Lo ∧ ∀ h : Nat, (h : Int) < x.1 → (atV f caps c h).Lo ≤ 0)) ∧
   ((x.2.1 = -1 ∧ ∀ h : Nat, (h : Int) < x.2.2.1 → (atV f caps c h).Hi ≤ 0) ∨ (0 ≤ x.2.1 ∧ x.2.1 < x.2.2.1 ∧ 0 < (atV f caps c x.2.1.toNat).Hi ∧ ∀ h : Nat, (h : Int) < x.2.1 → (atV f caps c h).Hi ≤ 0))) (fun x : Int × Int × Int × List Span × Int × Int => 49 - x.2.2.1.toNat)
  ⟨by simp, by simp, rfl, rfl, rfl, .inl ⟨rfl, fun h hh => by simp at hh; omega⟩, .inl ⟨rfl, fun h hh => by simp at hh; omega⟩⟩ (by simp; omega) ?_
 rintro ⟨su, ma, hour, cells, oh, ow⟩ next ⟨i1, i2, i3, i4, i5, i6, i7⟩ hn
 simp only at i1 i2 i3 i4 i5 i6 i7
 subst i4 i5
 obtain ⟨g1, g2⟩ := spreadN_ok (F := F) (by omega) hf hc hour.toNat
 rw [← i3] at g1 g2
 have hat : cells.getD c.toNat ⟨0, 0⟩ = atV f caps c hour.toNat := by rw [i3]; rfl
 have hao := at_ok (F := F) (by omega) hf hc h1 h2 hour.toNat
 refine ok_brk (fun hcc => ?_) (fun hcc => ?_)
 ·have hcc : hour ≤ 48 := by simpa using hcc
  have hidx : 0 ≤ c ∧ c < (cells.length : Int) := ⟨h1, by omega⟩
  refine ok_join (by omega) (fun l : Int => (l = -1 ∧ ∀ h : Nat, (h : Int) ≤ hour → (atV f caps c h).Hi ≤ 0) ∨ (0 ≤ l ∧ l ≤ hour ∧ 0 < (atV f caps c l.toNat).Hi ∧ ∀ h : Nat, (h : Int) < l → (atV f caps c h).Hi ≤ 0)) (fun l hl => ?_) fun k hk => ?_
  ·refine ok_join (by omega) (fun l : Int => (l = -1 ∧ ∀ h : Nat, (h : Int) ≤ hour → (atV f caps c h).Lo ≤ 0) ∨ (0 ≤ l ∧ l ≤ hour ∧ 0 < (atV f caps c l.toNat).Lo ∧ ∀ h : Nat, (h : Int) < l → (atV f caps c h).Lo ≤ 0)) (fun m hm => ?_) fun k hk => ?_
   ·refine ok_bnde (refHour_eq (f := ⟨f.W, f.H, cells⟩) (by omega) g1 (by show CapsOK cells.length caps; rw [g2]; exact hc)) (ok_chk (show InR (hour + 1) from ⟨by omega, by omega⟩) (hn _ ⟨by show 0 ≤ hour + 1; omega, by show hour + 1 ≤ 49; omega, ?_, rfl, rfl, ?_, ?_⟩ (by show 49 - (hour + 1).toNat < 49 - hour.toNat; omega)))
    ·show spreadV f.W f.H cells caps = spreadN f.W f.H caps (hour + 1).toNat f.Cells
     rw [show (hour + 1).toNat = hour.toNat + 1 by omega, spreadN, i3]
    ·rcases hm with ⟨q1, q2⟩ | ⟨q1, q2, q3, q4⟩
     ·exact .inl ⟨q1, fun h hh => q2 h (by have hh : (h : Int) < hour + 1 := hh; omega)⟩
     ·exact .inr ⟨q1, by show m < hour + 1; omega, q3, q4⟩
    ·rcases hl with ⟨q1, q2⟩ | ⟨q1, q2, q3, q4⟩
     ·exact .inl ⟨q1, fun h hh => q2 h (by have hh : (h : Int) < hour + 1 := hh; omega)⟩
     ·exact .inr ⟨q1, by show l < hour + 1; omega, q3, q4⟩
   ·refine ok_chk (fun _ => hidx) ?_
    show Ok _ (brk (decide (su < 0) && decide ((cells.getD c.toNat ⟨0, 0⟩).Lo > 0)) _ _)
    rw [hat]
    refine ok_brk (fun hb => hk _ ?_) (fun hb => hk _ ?_)
    ·simp only [Bool.and_eq_true, decide_eq_true_eq] at hb
     rcases i6 with ⟨q1, q2⟩ | ⟨q1, _⟩
     ·exact .inr ⟨i1, Int.le_refl _, hb.2, q2⟩
     ·omega
    ·simp only [Bool.and_eq_false_iff, decide_eq_false_iff_not] at hb
     rcases i6 with ⟨q1, q2⟩ | ⟨q1, q2, q3, q4⟩
     ·refine .inl ⟨q1, fun h hh => ?_⟩
      by_cases e : (h : Int) < hour
      ·exact q2 h e
      ·obtain rfl : h = hour.toNat := by omega
       omega
     ·exact .inr ⟨q1, by show su ≤ hour; omega, q3, q4⟩
  ·refine ok_chk (fun _ => hidx) ?_
   show Ok _ (brk (decide (ma < 0) && decide ((cells.getD c.toNat ⟨0, 0⟩).Hi > 0)) _ _)
   rw [hat]
   refine ok_brk (fun hb => hk _ ?_) (fun hb => hk _ ?_)
   ·simp only [Bool.and_eq_true, decide_eq_true_eq] at hb
    rcases i7 with ⟨q1, q2⟩ | ⟨q1, _⟩
    ·exact .inr ⟨i1, Int.le_refl _, hb.2, q2⟩
    ·omega
   ·simp only [Bool.and_eq_false_iff, decide_eq_false_iff_not] at hb
    rcases i7 with ⟨q1, q2⟩ | ⟨q1, q2, q3, q4⟩
    ·refine .inl ⟨q1, fun h hh => ?_⟩
     by_cases e : (h : Int) < hour
     ·exact q2 h e
     ·obtain rfl : h = hour.toNat := by omega
      omega
    ·exact .inr ⟨q1, by show ma ≤ hour; omega, q3, q4⟩
 ·have hcc : ¬ hour ≤ 48 := by simpa using hcc
  refine ok_brk (fun hb => ok_some (.inr ⟨rfl, rfl, fun h hh => ?_⟩)) (fun hb => ok_some ?_)
  ·have hb : su < 0 := by simpa using hb
   rcases i6 with ⟨_, q2⟩ | ⟨q1, _⟩
   ·exact q2 h (by omega)
   ·omega
  ·have hb : ¬ su < 0 := by simpa using hb
   rcases i6 with ⟨q1, _⟩ | ⟨q1, q2, q3, q4⟩
   ·omega
   have hso := at_ok (F := F) (by omega) hf hc h1 h2 su.toNat
   rcases i7 with ⟨_, p2⟩ | ⟨p1, p2, p3, p4⟩
   ·have := p2 su.toNat (by omega)
    have hs2 : (atV f caps c su.toNat).Lo ≤ (atV f caps c su.toNat).Hi := hso.2.1
    omega
   ·refine .inl ⟨rfl, p1, ?_, by show su ≤ 48; omega, p3, q3, p4, q4⟩
    show ma ≤ su
    rcases Int.lt_or_le su ma with q | q
    ·have := p4 su.toNat (by omega)
     have hs2 : (atV f caps c su.toNat).Lo ≤ (atV f caps c su.toNat).Hi := hso.2.1
     omega
    ·exact q
theorem When_same {F : Nat} {f : Field} {caps : List Span} {c : Int} (hF : 200 < F) (hl : f.Cells.length ≤ 80) (hcl : caps.length ≤ 80) : ∃ r, spill_When F f caps c = some r ∧ ref11_When F f caps c = some r := by
 obtain ⟨r, h1, h2⟩ := WhenE_ok (F := F) (f := f) (caps := caps) (c := c) hF hl hcl
 obtain ⟨s, h3, h4⟩ := refWhen_ok (F := F) (f := f) (caps := caps) (c := c) hF hl hcl
 obtain rfl := whenE_one h2 h4
 exact ⟨r, h1, h3⟩
end Go.Proofs.Ss
namespace Go.Proofs.Ss
open Go Go.KX
theorem copyF_eq {F : Nat} {f : Field} (h : f.Cells.length ≤ 1000000) : law11_CopyField F f = some f := by
 unfold law11_CopyField kit_CopySpans
 rw [chk_pos (by omega)]; rfl
theorem sameSp {F : Nat} {l : List Span} (hF : l.length < F) (hl : l.length ≤ 1000000) : kit_SameSpans F l l = some true := by
 refine Ok.eq ?_
 unfold kit_SameSpans
 refine ok_brkF (by simp) ?_
 refine ok_loop (fun x : Int => 0 ≤ x) (fun x : Int => l.length - x.toNat) (by omega) (by simp; omega) ?_
 intro x next h0 hn
 refine ok_brk (fun hc => ?_) (fun _ => ok_some rfl)
 have hc : x < l.length := by simpa using hc
 exact ok_chk ⟨h0, hc⟩ (ok_chk ⟨h0, hc⟩ (ok_brkF (by simp) (ok_chk ⟨by omega, by omega⟩ (hn _ (by omega) (by omega)))))
theorem sameInt {F : Nat} {l : List Int} (hF : l.length < F) (hl : l.length ≤ 1000000) : kit_SameInts F l l = some true := by
 refine Ok.eq ?_
 unfold kit_SameInts
 refine ok_brkF (by simp) ?_
 refine ok_loop (fun x : Int => 0 ≤ x) (fun x : Int => l.length - x.toNat) (by omega) (by simp; omega) ?_
 intro x next h0 hn
 refine ok_brk (fun hc => ?_) (fun _ => ok_some rfl)
 have hc : x < l.length := by simpa using hc
 exact ok_chk ⟨h0, hc⟩ (ok_chk ⟨h0, hc⟩ (ok_brkF (by simp) (ok_chk ⟨by omega, by omega⟩ (hn _ (by omega) (by omega)))))
theorem cInts {F : Nat} {l : List Int} (hl : l.length ≤ 1000000) : kit_CopyInts F l = some l := by unfold kit_CopyInts; rw [chk_pos (by omega)]
theorem cSpans {F : Nat} {l : List Span} (hl : l.length ≤ 1000000) : kit_CopySpans F l = some l := by unfold kit_CopySpans; rw [chk_pos (by omega)]
theorem spreadE_len {f : Field} {caps : List Span} {h : Int} (hl : f.Cells.length ≤ 80) : (spreadE f caps h).1.Cells.length ≤ 80 := by
 unfold spreadE
 split
 ·simp
 ·split
  ·simp
  ·rename_i h1 _
   obtain ⟨hf, hc⟩ := begunV_ok (f := f) (caps := caps) (by simpa using h1)
   have := (spreadN_ok (F := 1000000000000000) (by omega) hf hc h.toNat).2
   show (spreadN f.W f.H caps h.toNat f.Cells).length ≤ 80
   omega
theorem tightE_len {f : Field} {t : Span} (hl : f.Cells.length ≤ 80) : (tightenE f t).1.Cells.length ≤ 80 := by
 unfold tightenE
 split
 ·simp
 ·split
  ·simp
  ·split
   ·simp
   ·simpa using hl
theorem dirtyE_len {f : Field} (hl : f.Cells.length ≤ 80) : (dirtyE f).1.length ≤ 80 ∧ (dirtyE f).2.1.length ≤ 80 := by
 unfold dirtyE
 split
 ·simp
 ·exact ⟨Nat.le_trans (dl_len _ _) hl, Nat.le_trans (dl_len _ _) hl⟩
theorem fields_ok {f : Field} {caps : List Span} {am ca : List Int} {W H h c : Int} {t : Span} (hm : ∀ a ∈ am, InR a) : law11_SpillFields 1000000000000000 f caps am ca W H h c t = some true := by
 refine Ok.eq ?_
 unfold law11_SpillFields
 refine ok_brk (fun _ => ok_bnde awake_ok (ok_some rfl)) (fun hb => ?_)
 simp only [Bool.or_eq_false_iff, decide_eq_false_iff_not] at hb
 obtain ⟨⟨⟨l1, l2⟩, l3⟩, l4⟩ := hb
 have l1 : f.Cells.length ≤ 80 := by omega
 have l2 : caps.length ≤ 80 := by omega
 have l3 : am.length ≤ 80 := by omega
 have l4 : ca.length ≤ 80 := by omega
 refine ok_bnde (copyF_eq (f := f) (by omega)) (ok_bnde (cSpans (by omega)) (ok_bnde (cInts (by omega)) (ok_bnde (cInts (by omega)) (ok_bnde (copyF_eq (f := f) (by omega)) ?_))))
 refine ok_bnde (Check_eq (f := f) (by omega)) (ok_bnde (refCheck_eq (f := f) (by omega)) (ok_brkF (by simp) ?_))
 obtain ⟨r, e1, e2, e3⟩ := Flow_same (F := 1000000000000000) (W := W) (H := H) (am := am) (caps := ca) (by omega) l3 l4 hm
 refine ok_bnde e1 (ok_bnde e2 (ok_bnde (b := true) ?_ (ok_brkF (by simp) ?_)))
 ·rw [show (!r.2 != r.2) = true by simp, brk_true]
  exact sameInt (by omega) (by omega)
 clear e1 e2 e3 r
 refine ok_bnde (SpreadE_eq (f := f) (by omega) l1 l2) (ok_bnde (refSpread_eq (f := f) (by omega) l1 l2) ?_)
 have hp := spreadE_len (caps := caps) (h := h) l1
 generalize spreadE f caps h = p at hp
 refine ok_bnde (b := true) ?_ (ok_brkF (by simp) ?_)
 ·rw [show (!p.2 != p.2) = true by simp, brk_true]
  exact same_refl (f := p.1) (by omega) (by omega)
 refine ok_loop (fun x : Int × List Span => 0 ≤ x.1 ∧ x.2.length = p.1.Cells.length) (fun x : Int × List Span => p.1.Cells.length - x.1.toNat) ⟨by simp, rfl⟩ (by simp; omega) ?_
 rintro ⟨i, cs⟩ next ⟨i1, i2⟩ hn
 simp only at i1 i2
 refine ok_brk (fun hc => ?_) (fun hc => ?_)
 ·have hc : i < p.1.Cells.length := by simpa using hc
  refine ok_chk ⟨i1, by show i < (cs.length : Int); omega⟩ (ok_chk (show InR (i + 1) from ⟨by omega, by omega⟩) (hn _ ⟨by show 0 ≤ i + 1; omega, by rw [List.length_set]; exact i2⟩ (by show p.1.Cells.length - (i + 1).toNat < p.1.Cells.length - i.toNat; omega)))
 clear hn hc i2 i1 cs i next hp p
 refine ok_bnde (HoldsE_eq (f := f) (by omega) l1) (ok_bnde (refHolds_eq (f := f) (by omega) l1) (ok_brkF (by simp) ?_))
 refine ok_bnde (TotalE_eq (f := f) (by omega) l1) (ok_bnde (refTotal_eq (f := f) (by omega) l1) (ok_brkF (by simp) ?_))
 refine ok_bnde (TightenE_eq (f := f) (t := t) (by omega) l1) (ok_bnde (refTighten_eq (f := f) (t := t) (by omega) l1) ?_)
 have hp := tightE_len (t := t) l1
 generalize tightenE f t = p at hp
 refine ok_bnde (b := true) ?_ (ok_brkF (by simp) ?_)
 ·rw [show (!p.2 != p.2) = true by simp, brk_true]
  exact same_refl (f := p.1) (by omega) (by omega)
 clear hp p
 refine ok_bnde (DirtyE_eq (f := f) (by omega) l1) (ok_bnde (refDirty_eq (f := f) (by omega) l1) ?_)
 have hp := dirtyE_len l1
 generalize dirtyE f = p at hp
 refine ok_bnde (b := true) ?_ (ok_bnde (b := true) ?_ (ok_brkF (by simp) ?_))
 ·rw [show (!p.2.2 != p.2.2) = true by simp, brk_true]
  exact sameInt (by omega) (by omega)
 ·rw [show (!(p.2.2 != p.2.2 || !true)) = true by simp, brk_true]
  exact sameInt (by omega) (by omega)
 clear hp p
 obtain ⟨r, e1, e2⟩ := When_same (F := 1000000000000000) (f := f) (caps := caps) (c := c) (by omega) l1 l2
 refine ok_bnde e1 (ok_bnde e2 ?_)
 have hA : (r.1.Lo == r.1.Lo && (r.1.Hi == r.1.Hi && true) && r.2 == r.2) = true := by simp
 rw [hA]
 refine ok_bnde (b := true) (same_refl (f := f) (by omega) (by omega)) ?_
 refine ok_bnde (b := true) (sameSp (by omega) (by omega)) ?_
 refine ok_bnde (b := true) (sameInt (by omega) (by omega)) ?_
 refine ok_bnde (b := true) (sameInt (by omega) (by omega)) ?_
 refine ok_bnde (b := true) (by show brk true (law11_awake 1000000000000000) _ = _; rw [brk_true]; exact awake_ok) ?_
 show Ok _ (some true)
 exact ok_some rfl
end Go.Proofs.Ss
