/- Plain laws of the hull layer: legs and waits. -/
import Derived.Test.YtgpcfckbcldokaaDoorHP2
namespace Hull

def goesP (s : Ship) (i : Ice) (ch : Bool) (v : Int) : Bool := makes s i ch v && bears s i ch v

theorem goesP_mono {s : Ship} (hc : check s = 0) {i j : Ice} (hi : goodIce i) (hj : goodIce j) (hij : LeI i j) {u v : Int} (hu : 0 ≤ u) (huv : u ≤ v) {ch : Bool} (h : goesP s j ch v = true) : goesP s i ch u = true := by
  simp only [goesP, Bool.and_eq_true] at h ⊢
  exact ⟨makes_mono hc hi hj hij hu huv h.1, bears_mono hi hj hij hu huv h.2⟩

theorem goes_eq (s : Ship) (i : Ice) (ch : Bool) : goes s i ch = if goesP s i ch 10 = true then (great (goesP s i ch) 10 250, true) else (0, false) := rfl

theorem goes_down {s : Ship} (hc : check s = 0) {i : Ice} (hi : goodIce i) (ch : Bool) : ∀ u v, (10 : Int) ≤ u → u ≤ v → v ≤ 250 → goesP s i ch v = true → goesP s i ch u = true :=
  fun u v h1 h2 _ h => goesP_mono hc hi hi .rfl (by omega) h2 h

theorem goes_ok {s : Ship} {i : Ice} {ch : Bool} : (goes s i ch).2 = goesP s i ch 10 := by
  rw [goes_eq]
  cases h : goesP s i ch 10 <;> simp

theorem goes_bd {s : Ship} (hc : check s = 0) {i : Ice} (hi : goodIce i) {ch : Bool} (h : (goes s i ch).2 = true) : 10 ≤ (goes s i ch).1 ∧ (goes s i ch).1 ≤ 250 := by
  rw [goes_ok] at h
  rw [goes_eq, if_pos h]
  have := great_is (by decide) h (goes_down hc hi ch)
  exact ⟨this.1, this.2.1⟩

theorem first_le_last {c : Cell} (h : goodCell c) : LeI (firstI c) (lastI c) := ⟨h.1.2.1, h.2.1.2.1, h.2.2.1.2.1, h.2.2.2.2.1⟩

theorem safe_goes {s : Ship} (hc : check s = 0) {c : Cell} (hg : goodCell c) {ch : Bool} (h : (safe s c ch).2 = 0) :
    (safe s c ch).1 = (goes s (lastI c) ch).1 ∧ (10 ≤ (safe s c ch).1 ∧ (safe s c ch).1 ≤ 250) ∧ (10 ≤ (goes s (firstI c) ch).1 ∧ (goes s (firstI c) ch).1 ≤ 250) := by
  have hl := goodCell_last hg
  have hf := goodCell_first hg
  unfold safe at h ⊢
  by_cases h1 : speed s (lastI c) ch < 10
  · rw [if_pos h1] at h; cases h
  · rw [if_neg h1] at h ⊢
    cases h2 : (goes s (lastI c) ch).2 with
    | false => rw [h2, if_pos rfl] at h; cases h
    | true =>
      rw [if_neg (by simp)]
      refine ⟨rfl, goes_bd hc hl h2, goes_bd hc hf ?_⟩
      rw [goes_ok] at h2 ⊢
      exact goesP_mono hc hf hl (first_le_last hg) (by decide) (Int.le_refl _) h2

def prt (l : List Part) (i : Int) : Part := l.getD i.toNat default
def sp (l : List Span) (i : Int) : Span := l.getD i.toNat ⟨0, 0⟩

theorem drop_getD {α : Type} {l : List α} {k : Nat} (d : α) (h : k < l.length) : l.drop k = l.getD k d :: l.drop (k + 1) := by
  rw [List.drop_eq_getElem_cons h]
  simp [List.getD, h]

theorem drop_prt {l : List Part} {k : Nat} (h : k < l.length) : l.drop k = prt l (k : Int) :: l.drop (k + 1) := by
  simpa [prt] using drop_getD default h
theorem drop_sp {l : List Span} {k : Nat} (h : k < l.length) : l.drop k = sp l (k : Int) :: l.drop (k + 1) := by
  simpa [sp] using drop_getD ⟨0, 0⟩ h

def partErr (p : Part) : Int := if within p.Length 1 10000 = false then 6 else checkCell p.Cell

def partsErr : List Part → Int
  | [] => 0
  | p :: r => if partErr p ≠ 0 then partErr p else partsErr r

def goodPart (p : Part) : Prop := (1 ≤ p.Length ∧ p.Length ≤ 10000) ∧ goodCell p.Cell

theorem partErr_ok {p : Part} : partErr p = 0 ↔ goodPart p := by
  unfold partErr goodPart
  cases h : within p.Length 1 10000 with
  | false => have := within_f h; simp only [if_true]; exact ⟨fun h => (by cases h), fun h => absurd h.1 this⟩
  | true =>
    have := within_t h
    simp only [Bool.true_eq_false, if_false]
    rw [checkCell_ok]
    exact ⟨fun h => ⟨this, h⟩, fun h => h.2⟩

def legFrom (s : Ship) : List Part → Int → List Int → Int → Int → List Int × Span × Int
  | [], _, v, lo, hi => (v, ⟨lo, hi⟩, 0)
  | p :: r, i, v, lo, hi =>
    if (safe s p.Cell p.Channel).2 ≠ 0 then ([], ⟨i, 0⟩, (safe s p.Cell p.Channel).2)
    else legFrom s r (i + 1) (v ++ [(safe s p.Cell p.Channel).1]) (lo + takes p (goes s (firstI p.Cell) p.Channel).1) (hi + takes p (safe s p.Cell p.Channel).1)

def leg (s : Ship) (l : List Part) : List Int × Span × Int :=
  if check s ≠ 0 then ([], ⟨0, 0⟩, check s) else if within (l.length : Int) 1 100 = false then ([], ⟨0, 0⟩, 2) else if partsErr l ≠ 0 then ([], ⟨0, 0⟩, partsErr l) else legFrom s l 0 [] 0 0

theorem takes_bd {p : Part} (hp : 1 ≤ p.Length ∧ p.Length ≤ 10000) {v : Int} (hv : 10 ≤ v ∧ v ≤ 250) : 0 ≤ takes p v ∧ takes p v ≤ 60025 := by
  unfold takes
  constructor
  · exact Int.ediv_nonneg (by omega) (by omega)
  · have : (60 * p.Length + v - 1) / v < 60026 := Int.ediv_lt_of_lt_mul (by omega) (by omega)
    omega

def pressOK (p : Span) : Bool := !(decide (p.Lo < 0) || decide (p.Hi > 3) || decide (p.Lo > p.Hi))

def freeFrom (s : Ship) (c : Cell) : List Span → Int → Int → Span × Int
  | [], _, _ => (⟨0, 0⟩, 4)
  | p :: r, h, lo =>
    if speed s (lastI ⟨c.Conc, c.Thick, c.Ridge, p⟩) false ≥ 10 then (⟨if (decide (lo < 0) && decide (speed s (firstI ⟨c.Conc, c.Thick, c.Ridge, p⟩) false ≥ 10)) = true then h else lo, h⟩, 0)
    else freeFrom s c r (h + 1) (if (decide (lo < 0) && decide (speed s (firstI ⟨c.Conc, c.Thick, c.Ridge, p⟩) false ≥ 10)) = true then h else lo)

def free (s : Ship) (c : Cell) (l : List Span) : Span × Int :=
  if met s c ≠ 0 then (⟨0, 0⟩, met s c) else if (l.length : Int) > 240 then (⟨0, 0⟩, 2) else if l.all pressOK = false then (⟨0, 0⟩, 6) else freeFrom s c l 0 (-1)

theorem all_sp_no {l : List Span} {f : Span → Bool} {k : Nat} (hk : k < l.length) (h : f (sp l (k : Int)) = false) : l.all f = false := by
  cases e : l.all f with
  | false => rfl
  | true =>
    have := List.all_eq_true.1 e l[k] (List.getElem_mem hk)
    rw [show sp l (k : Int) = l[k] by simp [sp, List.getD, hk]] at h
    rw [h] at this; cases this

theorem all_sp {l : List Span} {f : Span → Bool} {k : Nat} (hk : l.length ≤ k) (h : ∀ j < k, f (sp l (j : Int)) = true) : l.all f = true := by
  rw [List.all_eq_true]
  intro x hx
  obtain ⟨j, hj, rfl⟩ := List.getElem_of_mem hx
  have := h j (by omega)
  rwa [show sp l (j : Int) = l[j] by simp [sp, List.getD, hj]] at this

theorem pressOK_good {c : Cell} (hg : goodCell c) {p : Span} (h : pressOK p = true) : goodCell ⟨c.Conc, c.Thick, c.Ridge, p⟩ := by
  simp only [pressOK, Bool.not_eq_true', Bool.or_eq_false_iff, decide_eq_false_iff_not] at h
  exact ⟨hg.1, hg.2.1, hg.2.2.1, by unfold goodSpan; simp only []; omega⟩


def level (lo hi : Int) : Cell := ⟨⟨100, 100⟩, ⟨lo, hi⟩, ⟨0, 0⟩, ⟨0, 0⟩⟩

def exampleShip : Ship := ⟨3, 6000, 800, 9000, [⟨0, 1000⟩, ⟨100, 800⟩, ⟨200, 0⟩], [⟨0, 0⟩, ⟨200, 400⟩], [⟨0, 0⟩, ⟨400, 2000⟩], 0, 20, 10, 100⟩

theorem eqInts_no1 {a b : List Int} (h : (a.length : Int) ≠ b.length) : decide (a = b) = false := by
  rw [decide_eq_false_iff_not]; intro e; subst e; exact h rfl

theorem eqInts_no2 {a b : List Int} {i : Nat} (h : a.getD i 0 ≠ b.getD i 0) : decide (a = b) = false := by
  rw [decide_eq_false_iff_not]; intro e; subst e; exact h rfl

theorem eqInts_yes {a b : List Int} {k : Nat} (hl : (a.length : Int) = b.length) (hk : a.length ≤ k) (h : ∀ j < k, a.getD ((j : Int)).toNat 0 = b.getD ((j : Int)).toNat 0) : decide (a = b) = true := by
  rw [decide_eq_true_eq]
  refine List.ext_getElem (by omega) fun i h1 h2 => ?_
  have := h i (by omega)
  simpa [List.getD, h1, h2] using this

/-- One number drawn: what is drawn, and how many have been drawn then. -/
def draw (l : List Int) (i n : Int) : Int × Int := if i ≥ (l.length : Int) then (0, i) else (l.getD (i + 1 - 1).toNat 0 % n, i + 1)

theorem draw_end {l : List Int} {i n : Int} (h : i ≥ (l.length : Int)) : draw l i n = (0, i) := by rw [draw, if_pos h]
theorem draw_go {l : List Int} {i n : Int} (h : ¬ i ≥ (l.length : Int)) : draw l i n = (l.getD (i + 1 - 1).toNat 0 % n, i + 1) := by rw [draw, if_neg h]

theorem getD_mem {l : List Int} {i : Nat} (h : i < l.length) : l.getD i 0 ∈ l := by
  simp [List.getD, h]

/-- Where the drawing stands after k numbers, and the k-th number drawn below n. -/
def idx (l : List Int) (k : Nat) : Int := ((min k l.length : Nat) : Int)
def dv (l : List Int) (k : Nat) (n : Int) : Int := if k < l.length then l.getD k 0 % n else 0

theorem draw_idx (l : List Int) (k : Nat) (n : Int) : draw l (idx l k) n = (dv l k n, idx l (k + 1)) := by
  unfold idx dv
  by_cases h : k < l.length
  · rw [draw_go (by omega), if_pos h, show (((min k l.length : Nat) : Int) + 1 - 1).toNat = k by omega, show (((min (k + 1) l.length : Nat)) : Int) = ((min k l.length : Nat) : Int) + 1 by omega]
  · rw [draw_end (by omega), if_neg h, show (((min (k + 1) l.length : Nat)) : Int) = ((min k l.length : Nat) : Int) by omega]

theorem idx_bd (l : List Int) (k : Nat) : 0 ≤ idx l k ∧ idx l k ≤ (l.length : Int) := by unfold idx; omega

theorem dv_bd {l : List Int} {k : Nat} {n : Int} (h8 : ∀ x ∈ l, 0 ≤ x ∧ x ≤ 255) (hn : 1 ≤ n) : 0 ≤ dv l k n ∧ dv l k n ≤ n - 1 ∧ dv l k n ≤ 255 := by
  unfold dv
  by_cases h : k < l.length
  · rw [if_pos h]
    have h1 := h8 _ (getD_mem h)
    have h2 := Int.emod_nonneg (l.getD k 0) (b := n) (by omega)
    have h3 := Int.emod_lt_of_pos (l.getD k 0) (b := n) (by omega)
    have h4 : l.getD k 0 % n ≤ l.getD k 0 := by
      by_cases h5 : l.getD k 0 < n
      · rw [Int.emod_eq_of_lt h1.1 h5]; exact Int.le_refl _
      · omega
    omega
  · rw [if_neg h]; omega
end Hull
