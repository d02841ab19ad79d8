/- Texts BzI, BkAw, BzCalm, KFR: own work; each part says what it is. -/
import Derived.Test.YtmfbcbbefepnpaaGreatCa4
import Derived.Handed
import Derived.OpenShut
import Derived.ChangeSlices
import Derived.JoinedOf
namespace Go.Proofs.Bk
open Go Go.KX
abbrev Pt := Point
def pt (l : List Pt) (i : Int) : Pt := l.getD i.toNat ⟨0, 0⟩
def within (n a b : Int) : Bool := decide (n ≥ a) && decide (n ≤ b)
def curveAt (l : List Pt) (i : Int) : Bool :=
  within (pt l i).X 0 400 && within (pt l i).Y 0 20000 && !(decide (i > 0) && decide ((pt l i).X ≤ (pt l (i - 1)).X))
def curve (l : List Pt) : Bool := within (l.length : Int) 2 8 && ((pt l 0).X == 0) && (List.range l.length).all fun i => curveAt l (i : Int)
def steadyAt (l : List Pt) (way : Int) (i : Int) : Bool := !decide (((pt l i).Y - (pt l (i - 1)).Y) * way < 0)
def steady (l : List Pt) (way : Int) : Bool := curve l && (List.range (l.length - 1)).all fun i => steadyAt l way ((i + 1 : Nat) : Int)
def endX (l : List Pt) : Int := (pt l ((l.length : Int) - 1)).X
def valFrom (l : List Pt) (x : Int) : Nat → Nat → Int × Int
  | 0, _ => ((pt l ((l.length : Int) - 1)).Y, 1)
  | f + 1, i =>
    if x ≤ (pt l (i : Int)).X then
      ((pt l ((i : Int) - 1)).Y * ((pt l (i : Int)).X - (pt l ((i : Int) - 1)).X) + ((pt l (i : Int)).Y - (pt l ((i : Int) - 1)).Y) * (x - (pt l ((i : Int) - 1)).X), (pt l (i : Int)).X - (pt l ((i : Int) - 1)).X)
    else valFrom l x f (i + 1)
def value (l : List Pt) (x : Int) : Int × Int := valFrom l x (l.length - 1) 1
def Bd (l : List Pt) : Prop := ∀ i : Int, 0 ≤ i → i < l.length → 0 ≤ (pt l i).X ∧ (pt l i).X ≤ 400 ∧ 0 ≤ (pt l i).Y ∧ (pt l i).Y ≤ 20000
theorem mul_bd {x y A B : Int} (hx : -A ≤ x ∧ x ≤ A) (hy : -B ≤ y ∧ y ≤ B) : -(A * B) ≤ x * y ∧ x * y ≤ A * B := by
  have h1 : 0 ≤ (A - x) * (B + y) := Int.mul_nonneg (by omega) (by omega)
  have h2 : 0 ≤ (A + x) * (B - y) := Int.mul_nonneg (by omega) (by omega)
  have h3 : 0 ≤ (A - x) * (B - y) := Int.mul_nonneg (by omega) (by omega)
  have h4 : 0 ≤ (A + x) * (B + y) := Int.mul_nonneg (by omega) (by omega)
  simp only [Int.sub_mul, Int.mul_sub, Int.add_mul, Int.mul_add] at h1 h2 h3 h4
  constructor <;> omega
theorem curve_lt {l : List Pt} (h : curve l = true) : l ≠ [] ∧ 2 ≤ l.length ∧ l.length ≤ 8 := by
  simp only [curve, within, Bool.and_eq_true, decide_eq_true_eq] at h
  obtain ⟨⟨⟨h1, h2⟩, _⟩, _⟩ := h
  refine ⟨fun e => by subst e; simp at h1, by omega, by omega⟩
theorem curve_at {l : List Pt} (h : curve l = true) {i : Int} (h0 : 0 ≤ i) (h1 : i < l.length) : curveAt l i = true := by
  simp only [curve, Bool.and_eq_true, List.all_eq_true, List.mem_range] at h
  have := h.2 i.toNat (by omega)
  rwa [Int.toNat_of_nonneg h0] at this
theorem curve_bd {l : List Pt} (h : curve l = true) : Bd l := by
  intro i h0 h1
  have := curve_at h h0 h1
  simp only [curveAt, within, Bool.and_eq_true, decide_eq_true_eq] at this
  omega
def rule1 (s : Ship) : Bool := within s.Class 1 6
def rule2 (s : Ship) : Bool := within s.Power 100 100000 && within s.Draught 10 2000 && within s.Tonnes 10 500000
def rule3 (s : Ship) : Bool := within s.Slow 0 20 && within s.Brash 0 100 && within s.Ridge 0 500 && within s.Press 0 5000
def rule4 (s : Ship) : Bool := steady s.Thrust (-1) && within (endX s.Thrust) 10 250
def rule5 (s : Ship) : Bool := steady s.Water 1 && decide (endX s.Water ≤ 250)
def rule6 (s : Ship) : Bool := steady s.Ice 1 && ((pt s.Ice 0).Y == 0) && (endX s.Ice == 400)
def check (s : Ship) : Int :=
  if rule1 s = false then 41 else if rule2 s = false then 40 else if rule3 s = false then 40 else if rule4 s = false then 40 else if rule5 s = false then 40 else if rule6 s = false then 40 else 0
theorem steady_curve {l : List Pt} {w : Int} (h : steady l w = true) : curve l = true := by
  simp only [steady, Bool.and_eq_true] at h; exact h.1
theorem b1 {a b c : Bool} : (!a || !b || c) = true → (a && b && !c) = false := by cases a <;> cases b <;> cases c <;> simp
theorem b3 {a b c : Bool} : (!a || !b || c) = false → (a && b && !c) = true := by cases a <;> cases b <;> cases c <;> simp
theorem b4 {a : Bool} : a = false → (!a) = true := by cases a <;> simp
theorem b2 {a : Bool} : a = true → (!a) = false := by cases a <;> simp
theorem steady_len {l : List Pt} {w : Int} (h : steady l w = true) : 2 ≤ l.length ∧ l.length ≤ 8 := (curve_lt (steady_curve h)).2
theorem curve_no1 {l : List Pt} (h : (!within (l.length : Int) 2 8 || (pt l 0).X != 0) = true) : curve l = false := by
  cases h1 : within (l.length : Int) 2 8 <;> simp_all [curve]
theorem curve_no2 {l : List Pt} {k : Nat} (hk : k < l.length) (h : curveAt l (k : Int) = false) : curve l = false := by
  cases hc : curve l with
  | false => rfl
  | true => have := curve_at hc (i := (k : Int)) (by omega) (by omega); rw [h] at this; cases this
theorem curve_yes {l : List Pt} {k : Nat} (h1 : within (l.length : Int) 2 8 = true) (h2 : (pt l 0).X = 0) (h : ∀ j < k, curveAt l (j : Int) = true) (hk : l.length ≤ k) : curve l = true := by
  simp only [curve, h1, h2, beq_self_eq_true, Bool.and_self, Bool.true_and, List.all_eq_true, List.mem_range]
  exact fun i hi => h i (by omega)
theorem steady_no {l : List Pt} {w : Int} {k : Nat} (h1 : 1 ≤ k) (hk : k < l.length) (h : steadyAt l w (k : Int) = false) : steady l w = false := by
  cases hs : steady l w with
  | false => rfl
  | true =>
    simp only [steady, Bool.and_eq_true, List.all_eq_true, List.mem_range] at hs
    have := hs.2 (k - 1) (by omega)
    rw [show k - 1 + 1 = k by omega, h] at this
    cases this
theorem steady_yes {l : List Pt} {w : Int} {k : Nat} (hc : curve l = true) (h : ∀ j < k, 1 ≤ j → steadyAt l w (j : Int) = true) (hk : l.length ≤ k) : steady l w = true := by
  simp only [steady, hc, Bool.true_and, List.all_eq_true, List.mem_range]
  exact fun i hi => h (i + 1) (by omega) (by omega)
theorem mul_nn {x y a A b B : Int} (hx : a ≤ x ∧ x ≤ A) (hy : b ≤ y ∧ y ≤ B) (ha : 0 ≤ a) (hb : 0 ≤ b) : a * b ≤ x * y ∧ x * y ≤ A * B := by
  constructor
  · exact Int.mul_le_mul hx.1 hy.1 hb (by omega)
  · exact Int.mul_le_mul hx.2 hy.2 (by omega) (by omega)
theorem valFrom_bd {l : List Pt} (hc : curve l = true) {x : Int} (_hx : 0 ≤ x) : ∀ (f i : Nat), 1 ≤ i → i + f = l.length → (pt l ((i : Int) - 1)).X ≤ x →
    1 ≤ (valFrom l x f i).2 ∧ (valFrom l x f i).2 ≤ 400 ∧ 0 ≤ (valFrom l x f i).1 ∧ (valFrom l x f i).1 ≤ 20000 * (valFrom l x f i).2 := by
  have hB := curve_bd hc
  have hlen := (curve_lt hc).2
  intro f
  induction f with
  | zero =>
    intro i h1 h2 h3
    have := hB ((l.length : Int) - 1) (by omega) (by omega)
    simp only [valFrom]
    omega
  | succ f ih =>
    intro i h1 h2 h3
    have ha := hB ((i : Int) - 1) (by omega) (by omega)
    have hb := hB (i : Int) (by omega) (by omega)
    have hat := curve_at hc (i := (i : Int)) (by omega) (by omega)
    simp only [valFrom]
    by_cases hle : x ≤ (pt l (i : Int)).X
    · rw [if_pos hle]
      have hlt : (pt l ((i : Int) - 1)).X < (pt l (i : Int)).X := by
        simp only [curveAt, Bool.and_eq_true, Bool.not_eq_true', Bool.and_eq_false_iff, decide_eq_false_iff_not] at hat
        rcases hat.2 with h | h <;> omega
      refine ⟨by omega, by omega, ?_, ?_⟩
      all_goals
        have e1 : (pt l ((i : Int) - 1)).Y * ((pt l (i : Int)).X - (pt l ((i : Int) - 1)).X) + ((pt l (i : Int)).Y - (pt l ((i : Int) - 1)).Y) * (x - (pt l ((i : Int) - 1)).X) =
          (pt l ((i : Int) - 1)).Y * ((pt l (i : Int)).X - x) + (pt l (i : Int)).Y * (x - (pt l ((i : Int) - 1)).X) := by
          simp only [Int.sub_mul, Int.mul_sub]; omega
        have p1 := Int.mul_nonneg (a := (pt l ((i : Int) - 1)).Y) (b := (pt l (i : Int)).X - x) (by omega) (by omega)
        have p2 := Int.mul_nonneg (a := (pt l (i : Int)).Y) (b := x - (pt l ((i : Int) - 1)).X) (by omega) (by omega)
        have p3 := Int.mul_le_mul_of_nonneg_right (a := (pt l ((i : Int) - 1)).Y) (b := 20000) (c := (pt l (i : Int)).X - x) (by omega) (by omega)
        have p4 := Int.mul_le_mul_of_nonneg_right (a := (pt l (i : Int)).Y) (b := 20000) (c := x - (pt l ((i : Int) - 1)).X) (by omega) (by omega)
        rw [e1]
        simp only []
        omega
    · rw [if_neg hle]
      exact ih (i + 1) (by omega) (by omega) (by rw [show ((i + 1 : Nat) : Int) - 1 = (i : Int) by omega]; omega)
theorem curve_x0 {l : List Pt} (hc : curve l = true) : (pt l 0).X = 0 := by
  simp only [curve, Bool.and_eq_true, beq_iff_eq] at hc
  exact hc.1.2
theorem value_bd {l : List Pt} (hc : curve l = true) {x : Int} (hx : 0 ≤ x) : 1 ≤ (value l x).2 ∧ (value l x).2 ≤ 400 ∧ 0 ≤ (value l x).1 ∧ (value l x).1 ≤ 20000 * (value l x).2 := by
  have hlen := (curve_lt hc).2
  exact valFrom_bd hc hx _ 1 (Nat.le_refl 1) (by omega) (by have := curve_x0 hc; simp; omega)
def firstI (c : Cell) : Ice := ⟨c.Conc.Lo, c.Thick.Lo, c.Ridge.Lo, c.Press.Lo⟩
def lastI (c : Cell) : Ice := ⟨c.Conc.Hi, c.Thick.Hi, c.Ridge.Hi, c.Press.Hi⟩
def inI (a b c : Int) : Bool := decide (a ≥ b) && decide (a ≤ c)
def goodIce (i : Ice) : Prop := (0 ≤ i.Conc ∧ i.Conc ≤ 100) ∧ (0 ≤ i.Thick ∧ i.Thick ≤ 400) ∧ (0 ≤ i.Ridge ∧ i.Ridge ≤ 100) ∧ (0 ≤ i.Press ∧ i.Press ≤ 3)
theorem goodIce_bd {i : Ice} (h : goodIce i) : (0 ≤ i.Conc ∧ i.Conc ≤ 100) ∧ (0 ≤ i.Thick ∧ i.Thick ≤ 400) ∧ (0 ≤ i.Ridge ∧ i.Ridge ≤ 100) ∧ (0 ≤ i.Press ∧ i.Press ≤ 3) := h
theorem check_rules {s : Ship} (h : check s = 0) : rule1 s = true ∧ rule2 s = true ∧ rule3 s = true ∧ rule4 s = true ∧ rule5 s = true ∧ rule6 s = true := by
  unfold check at h
  refine ⟨?_, ?_, ?_, ?_, ?_, ?_⟩
  · cases e : rule1 s <;> simp_all
  · cases e : rule2 s <;> cases e1 : rule1 s <;> simp_all
  · cases e : rule3 s <;> cases e1 : rule1 s <;> cases e2 : rule2 s <;> simp_all
  · cases e : rule4 s <;> cases e1 : rule1 s <;> cases e2 : rule2 s <;> cases e3 : rule3 s <;> simp_all
  · cases e : rule5 s <;> cases e1 : rule1 s <;> cases e2 : rule2 s <;> cases e3 : rule3 s <;> cases e4 : rule4 s <;> simp_all
  · cases e : rule6 s <;> cases e1 : rule1 s <;> cases e2 : rule2 s <;> cases e3 : rule3 s <;> cases e4 : rule4 s <;> cases e5 : rule5 s <;> simp_all
theorem check_steadyThrust {s : Ship} (h : check s = 0) : steady s.Thrust (-1) = true := by
  have := (check_rules h).2.2.2.1; simp only [rule4, Bool.and_eq_true] at this; exact this.1
theorem check_steadyWater {s : Ship} (h : check s = 0) : steady s.Water 1 = true := by
  have := (check_rules h).2.2.2.2.1; simp only [rule5, Bool.and_eq_true] at this; exact this.1
theorem check_steadyIce {s : Ship} (h : check s = 0) : steady s.Ice 1 = true := by
  have := (check_rules h).2.2.2.2.2; simp only [rule6, Bool.and_eq_true] at this; exact this.1.1
theorem check_curveThrust {s : Ship} (h : check s = 0) : curve s.Thrust = true := steady_curve (check_steadyThrust h)
theorem check_curveWater {s : Ship} (h : check s = 0) : curve s.Water = true := steady_curve (check_steadyWater h)
theorem check_curveIce {s : Ship} (h : check s = 0) : curve s.Ice = true := steady_curve (check_steadyIce h)
theorem check_bd {s : Ship} (h : check s = 0) : (1 ≤ s.Class ∧ s.Class ≤ 6) ∧ (100 ≤ s.Power ∧ s.Power ≤ 100000) ∧ (0 ≤ s.Slow ∧ s.Slow ≤ 20) ∧ (0 ≤ s.Brash ∧ s.Brash ≤ 100) ∧ (0 ≤ s.Ridge ∧ s.Ridge ≤ 500) ∧ (0 ≤ s.Press ∧ s.Press ≤ 5000) := by
  obtain ⟨h1, h2, h3, _⟩ := check_rules h
  simp only [rule1, rule2, rule3, within, Bool.and_eq_true, decide_eq_true_eq] at h1 h2 h3
  omega
def thrust (s : Ship) (v : Int) : Int := (value s.Thrust v).1 / (value s.Thrust v).2
def resN (s : Ship) (i : Ice) (ch : Bool) (v : Int) : Int :=
  i.Conc * ((value s.Ice i.Thick).1 * (1000 + s.Slow * v) * (if ch = true then s.Brash else 100) + s.Ridge * (if ch = true then 0 else i.Ridge) * (value s.Ice i.Thick).2 * 100000)
def resistance (s : Ship) (i : Ice) (ch : Bool) (v : Int) : Int :=
  ((value s.Water v).1 * ((value s.Ice i.Thick).2 * 10000000) + resN s i ch v * (value s.Water v).2 + s.Press * i.Press * (value s.Water v).2 * ((value s.Ice i.Thick).2 * 10000000)
    + (value s.Water v).2 * ((value s.Ice i.Thick).2 * 10000000) - 1) / ((value s.Water v).2 * ((value s.Ice i.Thick).2 * 10000000))
def makes (s : Ship) (i : Ice) (ch : Bool) (v : Int) : Bool := decide (v ≤ endX s.Thrust) && decide (thrust s v ≥ resistance s i ch v)
def greatFrom (so : Int → Bool) : Nat → Int → Int → Int
  | 0, lo, _ => lo
  | f + 1, lo, hi => if lo < hi then (if so (lo + (hi - lo + 1) / 2) = true then greatFrom so f (lo + (hi - lo + 1) / 2) hi else greatFrom so f lo (lo + (hi - lo + 1) / 2 - 1)) else lo
def great (so : Int → Bool) (lo hi : Int) : Int := greatFrom so (hi - lo).toNat lo hi
theorem greatFrom_fuel {so : Int → Bool} : ∀ {f g : Nat} {lo hi : Int}, (hi - lo).toNat ≤ f → (hi - lo).toNat ≤ g → greatFrom so f lo hi = greatFrom so g lo hi := by
  intro f
  induction f with
  | zero =>
    intro g lo hi h1 _
    cases g with
    | zero => rfl
    | succ g => simp only [greatFrom]; rw [if_neg (by omega)]
  | succ f ih =>
    intro g lo hi h1 h2
    cases g with
    | zero => simp only [greatFrom]; rw [if_neg (by omega)]
    | succ g =>
      simp only [greatFrom]
      by_cases h : lo < hi
      · rw [if_pos h, if_pos h]
        rw [ih (g := g) (lo := lo + (hi - lo + 1) / 2) (hi := hi) (by omega) (by omega), ih (g := g) (lo := lo) (hi := lo + (hi - lo + 1) / 2 - 1) (by omega) (by omega)]
      · rw [if_neg h, if_neg h]
theorem great_step {so : Int → Bool} {lo hi : Int} (h : lo < hi) : great so lo hi = if so (lo + (hi - lo + 1) / 2) = true then great so (lo + (hi - lo + 1) / 2) hi else great so lo (lo + (hi - lo + 1) / 2 - 1) := by
  unfold great
  rw [show (hi - lo).toNat = ((hi - lo).toNat - 1) + 1 by omega, greatFrom, if_pos h]
  rw [greatFrom_fuel (f := (hi - lo).toNat - 1) (g := (hi - (lo + (hi - lo + 1) / 2)).toNat) (lo := lo + (hi - lo + 1) / 2) (by omega) (by omega),
    greatFrom_fuel (f := (hi - lo).toNat - 1) (g := ((lo + (hi - lo + 1) / 2 - 1) - lo).toNat) (lo := lo) (hi := lo + (hi - lo + 1) / 2 - 1) (by omega) (by omega)]
theorem great_done {so : Int → Bool} {lo hi : Int} (h : ¬ lo < hi) : great so lo hi = lo := by
  unfold great
  rw [show (hi - lo).toNat = 0 by omega, greatFrom]
def greatest (so : Int → Bool) (lo hi : Int) : Int × Bool := if so lo = true then (great so lo hi, true) else (0, false)
def speed (s : Ship) (i : Ice) (ch : Bool) : Int := (greatest (fun v => makes s i ch v) 0 250).1
def all4 (so : Int → Bool) : Bool := so 0 && so 1 && so 2 && so 3
def rightS (s : Span) (n : Int) : Bool := inI s.Lo 0 (([100, 400, 100, 3] : List Int).getD n.toNat 0) && inI s.Hi s.Lo (([100, 400, 100, 3] : List Int).getD n.toNat 0)
def checkCell (c : Cell) : Int :=
  if all4 (fun n => rightS (([c.Conc, c.Thick, c.Ridge, c.Press] : List Span).getD n.toNat ⟨0, 0⟩) n) = false then 20 else 0
theorem ite_err {c : Bool} {e : Int} (he : e ≠ 0) : (if c = false then e else 0) = 0 ↔ c = true := by cases c <;> simp [he]
def goodSpan (s : Span) (n : Int) : Prop := 0 ≤ s.Lo ∧ s.Lo ≤ s.Hi ∧ s.Hi ≤ n
def goodCell (c : Cell) : Prop := goodSpan c.Conc 100 ∧ goodSpan c.Thick 400 ∧ goodSpan c.Ridge 100 ∧ goodSpan c.Press 3
theorem checkCell_ok {c : Cell} : checkCell c = 0 ↔ goodCell c := by
  unfold checkCell
  rw [ite_err (by decide)]
  simp only [all4, rightS, inI, Bool.and_eq_true, decide_eq_true_eq, goodCell, goodSpan]
  constructor
  · rintro ⟨⟨⟨⟨⟨_, _⟩, _, _⟩, ⟨_, _⟩, _, _⟩, ⟨_, _⟩, _, _⟩, ⟨_, _⟩, _, _⟩
    exact ⟨⟨by assumption, by assumption, by assumption⟩, ⟨by assumption, by assumption, by assumption⟩, ⟨by assumption, by assumption, by assumption⟩, ⟨by assumption, by assumption, by assumption⟩⟩
  · rintro ⟨⟨h1, h2, h3⟩, ⟨h4, h5, h6⟩, ⟨h7, h8, h9⟩, ⟨h10, h11, h12⟩⟩
    exact ⟨⟨⟨⟨⟨h1, Int.le_trans h2 h3⟩, h2, h3⟩, ⟨h4, Int.le_trans h5 h6⟩, h5, h6⟩, ⟨h7, Int.le_trans h8 h9⟩, h8, h9⟩, ⟨h10, Int.le_trans h11 h12⟩, h11, h12⟩
theorem goodCell_last {c : Cell} (h : goodCell c) : goodIce (lastI c) := by
  obtain ⟨⟨_, _, _⟩, ⟨_, _, _⟩, ⟨_, _, _⟩, ⟨_, _, _⟩⟩ := h
  simp only [goodIce, lastI]; omega
theorem goodCell_first {c : Cell} (h : goodCell c) : goodIce (firstI c) := by
  obtain ⟨⟨_, _, _⟩, ⟨_, _, _⟩, ⟨_, _, _⟩, ⟨_, _, _⟩⟩ := h
  simp only [goodIce, firstI]; omega
def met (s : Ship) (c : Cell) : Int := if check s ≠ 0 then check s else checkCell c
theorem mulL {a b c : Int} (h : a ≤ b) (hc : 0 ≤ c) : c * a ≤ c * b := Int.mul_le_mul_of_nonneg_left h hc
theorem mulR {a b c : Int} (h : a ≤ b) (hc : 0 ≤ c) : a * c ≤ b * c := Int.mul_le_mul_of_nonneg_right h hc
theorem ceil_mono {a b c d : Int} (hb : 0 < b) (hd : 0 < d) (h : a * d ≤ c * b) : (a + b - 1) / b ≤ (c + d - 1) / d := by
  have h1 := Int.lt_mul_ediv_self_add (x := c + d - 1) hd
  have h2 : c ≤ d * ((c + d - 1) / d) := by omega
  have h3 : c * b ≤ d * ((c + d - 1) / d) * b := mulR h2 (by omega)
  have h4 : a * d ≤ ((c + d - 1) / d * b) * d := by
    have e : d * ((c + d - 1) / d) * b = ((c + d - 1) / d * b) * d := by ac_rfl
    omega
  have h5 : a ≤ (c + d - 1) / d * b := Int.le_of_mul_le_mul_right h4 hd
  have h6 : (a + b - 1) / b < (c + d - 1) / d + 1 := Int.ediv_lt_of_lt_mul hb (by rw [Int.add_mul]; omega)
  omega
theorem floor_mono {a b c d : Int} (hb : 0 < b) (hd : 0 < d) (h : a * d ≤ c * b) : a / b ≤ c / d := by
  have h1 : a / b * b ≤ a := Int.ediv_mul_le a (by omega)
  refine Int.le_ediv_of_mul_le hd ?_
  have h2 : a / b * b * d ≤ a * d := mulR h1 (by omega)
  have h3 : (a / b * d) * b ≤ c * b := by
    have e : a / b * b * d = (a / b * d) * b := by ac_rfl
    omega
  exact Int.le_of_mul_le_mul_right h3 hb
def vf (X Z : Nat → Int) (n : Nat) (x : Int) : Nat → Nat → Int × Int
  | 0, _ => (Z (n - 1), 1)
  | f + 1, i => if x ≤ X i then (Z (i - 1) * (X i - X (i - 1)) + (Z i - Z (i - 1)) * (x - X (i - 1)), X i - X (i - 1)) else vf X Z n x f (i + 1)
theorem vf_ge {X Z : Nat → Int} {n : Nat} (hX : ∀ i, 1 ≤ i → i < n → X (i - 1) < X i) (hZ : ∀ i, 1 ≤ i → i < n → Z (i - 1) ≤ Z i) {x : Int} : ∀ (f i : Nat), 1 ≤ i → i + f = n → X (i - 1) ≤ x →
    1 ≤ (vf X Z n x f i).2 ∧ Z (i - 1) * (vf X Z n x f i).2 ≤ (vf X Z n x f i).1 := by
  intro f
  induction f with
  | zero => intro i h1 h2 h3; simp only [vf]; rw [show n - 1 = i - 1 by omega]; omega
  | succ f ih =>
    intro i h1 h2 h3
    simp only [vf]
    have hx := hX i h1 (by omega)
    have hz := hZ i h1 (by omega)
    by_cases h : x ≤ X i
    · rw [if_pos h]
      have := Int.mul_nonneg (a := Z i - Z (i - 1)) (b := x - X (i - 1)) (by omega) (by omega)
      simp only []
      omega
    · rw [if_neg h]
      obtain ⟨h4, h5⟩ := ih (i + 1) (by omega) (by omega) (by rw [show i + 1 - 1 = i by omega]; omega)
      rw [show i + 1 - 1 = i by omega] at h5
      have := mulR hz (c := (vf X Z n x f (i + 1)).2) (by omega)
      exact ⟨h4, by omega⟩
theorem vf_mono {X Z : Nat → Int} {n : Nat} (hX : ∀ i, 1 ≤ i → i < n → X (i - 1) < X i) (hZ : ∀ i, 1 ≤ i → i < n → Z (i - 1) ≤ Z i) {x y : Int} (hxy : x ≤ y) : ∀ (f i : Nat), 1 ≤ i → i + f = n → X (i - 1) ≤ x →
    (vf X Z n x f i).1 * (vf X Z n y f i).2 ≤ (vf X Z n y f i).1 * (vf X Z n x f i).2 := by
  intro f
  induction f with
  | zero => intro i _ _ _; simp only [vf]; omega
  | succ f ih =>
    intro i h1 h2 h3
    simp only [vf]
    have hx := hX i h1 (by omega)
    have hz := hZ i h1 (by omega)
    by_cases h : x ≤ X i
    · rw [if_pos h]
      by_cases hy : y ≤ X i
      · rw [if_pos hy]
        simp only []
        refine mulR ?_ (by omega)
        have := mulL (a := x - X (i - 1)) (b := y - X (i - 1)) (c := Z i - Z (i - 1)) (by omega) (by omega)
        omega
      · rw [if_neg hy]
        obtain ⟨h4, h5⟩ := vf_ge hX hZ (x := y) f (i + 1) (by omega) (by omega) (by rw [show i + 1 - 1 = i by omega]; omega)
        rw [show i + 1 - 1 = i by omega] at h5
        simp only []
        have h6 : Z (i - 1) * (X i - X (i - 1)) + (Z i - Z (i - 1)) * (x - X (i - 1)) ≤ Z i * (X i - X (i - 1)) := by
          have := mulL (a := x - X (i - 1)) (b := X i - X (i - 1)) (c := Z i - Z (i - 1)) (by omega) (by omega)
          rw [Int.sub_mul (Z i) (Z (i - 1)) (X i - X (i - 1))] at this
          omega
        have h7 := mulR h6 (c := (vf X Z n y f (i + 1)).2) (by omega)
        have h8 := mulR h5 (c := X i - X (i - 1)) (by omega)
        have e : Z i * (X i - X (i - 1)) * (vf X Z n y f (i + 1)).2 = Z i * (vf X Z n y f (i + 1)).2 * (X i - X (i - 1)) := by ac_rfl
        omega
    · rw [if_neg h, if_neg (by omega)]
      exact ih (i + 1) (by omega) (by omega) (by rw [show i + 1 - 1 = i by omega]; omega)
theorem valFrom_vf {l : List Pt} {x : Int} : ∀ (f i : Nat), 1 ≤ i → i + f = l.length → valFrom l x f i = vf (fun i => (pt l (i : Int)).X) (fun i => (pt l (i : Int)).Y) l.length x f i := by
  intro f
  induction f with
  | zero => intro i h1 h2; simp only [valFrom, vf]; rw [show ((l.length - 1 : Nat) : Int) = (l.length : Int) - 1 by omega]
  | succ f ih =>
    intro i h1 h2
    simp only [valFrom, vf]
    rw [show ((i - 1 : Nat) : Int) = (i : Int) - 1 by omega, ih (i + 1) (by omega) (by omega)]
theorem vf_neg {X Z : Nat → Int} {n : Nat} {x : Int} : ∀ (f i : Nat), vf X (fun i => -Z i) n x f i = (-(vf X Z n x f i).1, (vf X Z n x f i).2) := by
  intro f
  induction f with
  | zero => intro i; rfl
  | succ f ih =>
    intro i
    simp only [vf]
    by_cases h : x ≤ X i
    · rw [if_pos h, if_pos h]
      simp only [Prod.mk.injEq, and_true]
      rw [show -Z i - -Z (i - 1) = -(Z i - Z (i - 1)) by omega, Int.neg_mul, Int.neg_mul, Int.neg_add]
    · rw [if_neg h, if_neg h]; exact ih (i + 1)
theorem steady_at {l : List Pt} {w : Int} (h : steady l w = true) {i : Nat} (h1 : 1 ≤ i) (h2 : i < l.length) : 0 ≤ ((pt l (i : Int)).Y - (pt l ((i : Int) - 1)).Y) * w := by
  simp only [steady, Bool.and_eq_true, List.all_eq_true, List.mem_range] at h
  have := h.2 (i - 1) (by omega)
  rw [show i - 1 + 1 = i by omega] at this
  simp only [steadyAt, Bool.not_eq_true', decide_eq_false_iff_not] at this
  omega
theorem curve_up {l : List Pt} (hc : curve l = true) {i : Nat} (h1 : 1 ≤ i) (h2 : i < l.length) : (pt l ((i - 1 : Nat) : Int)).X < (pt l (i : Int)).X := by
  have hat := curve_at hc (i := (i : Int)) (by omega) (by omega)
  simp only [curveAt, Bool.and_eq_true, Bool.not_eq_true', Bool.and_eq_false_iff, decide_eq_false_iff_not] at hat
  rw [show ((i - 1 : Nat) : Int) = (i : Int) - 1 by omega]
  rcases hat.2 with h | h <;> omega
theorem value_up {l : List Pt} (h : steady l 1 = true) {x y : Int} (hx : 0 ≤ x) (hxy : x ≤ y) : (value l x).1 * (value l y).2 ≤ (value l y).1 * (value l x).2 := by
  have hc := steady_curve h
  have hlen := (curve_lt hc).2
  have h0 := curve_x0 hc
  unfold value
  rw [valFrom_vf _ 1 (Nat.le_refl 1) (by omega), valFrom_vf _ 1 (Nat.le_refl 1) (by omega)]
  refine vf_mono (fun i h1 h2 => curve_up hc h1 h2) (fun i h1 h2 => ?_) hxy _ 1 (Nat.le_refl 1) (by omega) (by simp; omega)
  have := steady_at h h1 h2
  rw [show ((i - 1 : Nat) : Int) = (i : Int) - 1 by omega]
  omega
theorem value_down {l : List Pt} (h : steady l (-1) = true) {x y : Int} (hx : 0 ≤ x) (hxy : x ≤ y) : (value l y).1 * (value l x).2 ≤ (value l x).1 * (value l y).2 := by
  have hc := steady_curve h
  have hlen := (curve_lt hc).2
  have h0 := curve_x0 hc
  unfold value
  rw [valFrom_vf _ 1 (Nat.le_refl 1) (by omega), valFrom_vf _ 1 (Nat.le_refl 1) (by omega)]
  have := vf_mono (X := fun i => (pt l (i : Int)).X) (Z := fun i => -(pt l (i : Int)).Y) (n := l.length) (fun i h1 h2 => curve_up hc h1 h2) (fun i h1 h2 => by
    have := steady_at h h1 h2
    rw [show ((i - 1 : Nat) : Int) = (i : Int) - 1 by omega]
    omega) hxy (l.length - 1) 1 (Nat.le_refl 1) (by omega) (by simp; omega)
  rw [vf_neg, vf_neg] at this
  simp only [Int.neg_mul] at this
  omega
def resG (w wd n d c A sh R rd P : Int) : Int :=
  (w * (d * 10000000) + c * (n * A * sh + R * rd * d * 100000) * wd + P * wd * (d * 10000000) + wd * (d * 10000000) - 1) / (wd * (d * 10000000))
theorem resG_mono {w wd n d c A sh R rd P w' wd' n' d' c' A' sh' rd' P' : Int} (hwd : 0 < wd) (hd : 0 < d) (hwd' : 0 < wd') (hd' : 0 < d') (hn : 0 ≤ n) (hn' : 0 ≤ n') (hc : 0 ≤ c) (hA : 0 ≤ A) (hsh : 0 ≤ sh) (hR : 0 ≤ R) (hrd : 0 ≤ rd)
    (h1 : w * wd' ≤ w' * wd) (h2 : n * d' ≤ n' * d) (h3 : c ≤ c') (h4 : A ≤ A') (h5 : sh ≤ sh') (h6 : rd ≤ rd') (h7 : P ≤ P') :
    resG w wd n d c A sh R rd P ≤ resG w' wd' n' d' c' A' sh' R rd' P' := by
  unfold resG
  have pd : 0 < d * 10000000 := by omega
  have pd' : 0 < d' * 10000000 := by omega
  refine ceil_mono (Int.mul_pos hwd pd) (Int.mul_pos hwd' pd') ?_
  have t1 : w * (d * 10000000) * (wd' * (d' * 10000000)) ≤ w' * (d' * 10000000) * (wd * (d * 10000000)) := by
    have := mulR h1 (c := (d * 10000000) * (d' * 10000000)) (Int.le_of_lt (Int.mul_pos pd pd'))
    have e1 : w * (d * 10000000) * (wd' * (d' * 10000000)) = w * wd' * ((d * 10000000) * (d' * 10000000)) := by ac_rfl
    have e2 : w' * (d' * 10000000) * (wd * (d * 10000000)) = w' * wd * ((d * 10000000) * (d' * 10000000)) := by ac_rfl
    omega
  have t3 : P * wd * (d * 10000000) * (wd' * (d' * 10000000)) ≤ P' * wd' * (d' * 10000000) * (wd * (d * 10000000)) := by
    have := mulR h7 (c := wd * (d * 10000000) * (wd' * (d' * 10000000))) (Int.le_of_lt (Int.mul_pos (Int.mul_pos hwd pd) (Int.mul_pos hwd' pd')))
    have e1 : P * wd * (d * 10000000) * (wd' * (d' * 10000000)) = P * (wd * (d * 10000000) * (wd' * (d' * 10000000))) := by ac_rfl
    have e2 : P' * wd' * (d' * 10000000) * (wd * (d * 10000000)) = P' * (wd * (d * 10000000) * (wd' * (d' * 10000000))) := by ac_rfl
    omega
  have a1 : n * A * sh * d' ≤ n' * A' * sh' * d := by
    have hA' : A * sh ≤ A' * sh' := Int.mul_le_mul h4 h5 hsh (by omega)
    have := Int.mul_le_mul h2 hA' (Int.mul_nonneg hA hsh) (Int.mul_nonneg hn' (by omega))
    have e1 : n * A * sh * d' = n * d' * (A * sh) := by ac_rfl
    have e2 : n' * A' * sh' * d = n' * d * (A' * sh') := by ac_rfl
    omega
  have a2 : R * rd * d * 100000 * d' ≤ R * rd' * d' * 100000 * d := by
    have := mulR (mulL h6 hR) (c := d * 100000 * d') (Int.mul_nonneg (by omega) (by omega))
    have e1 : R * rd * d * 100000 * d' = R * rd * (d * 100000 * d') := by ac_rfl
    have e2 : R * rd' * d' * 100000 * d = R * rd' * (d * 100000 * d') := by ac_rfl
    omega
  have hin : (n * A * sh + R * rd * d * 100000) * d' ≤ (n' * A' * sh' + R * rd' * d' * 100000) * d := by rw [Int.add_mul, Int.add_mul]; omega
  have pin : 0 ≤ (n * A * sh + R * rd * d * 100000) * d' :=
    Int.mul_nonneg (Int.add_nonneg (Int.mul_nonneg (Int.mul_nonneg hn hA) hsh) (Int.mul_nonneg (Int.mul_nonneg (Int.mul_nonneg hR hrd) (by omega)) (by omega))) (by omega)
  have hcin := Int.mul_le_mul h3 hin pin (by omega : 0 ≤ c')
  have t2 : c * (n * A * sh + R * rd * d * 100000) * wd * (wd' * (d' * 10000000)) ≤ c' * (n' * A' * sh' + R * rd' * d' * 100000) * wd' * (wd * (d * 10000000)) := by
    have := mulR hcin (c := wd * wd' * 10000000) (Int.mul_nonneg (Int.mul_nonneg (by omega) (by omega)) (by omega))
    have e1 : c * (n * A * sh + R * rd * d * 100000) * wd * (wd' * (d' * 10000000)) = c * ((n * A * sh + R * rd * d * 100000) * d') * (wd * wd' * 10000000) := by ac_rfl
    have e2 : c' * (n' * A' * sh' + R * rd' * d' * 100000) * wd' * (wd * (d * 10000000)) = c' * ((n' * A' * sh' + R * rd' * d' * 100000) * d) * (wd * wd' * 10000000) := by ac_rfl
    omega
  rw [Int.add_mul, Int.add_mul, Int.add_mul, Int.add_mul]
  omega
theorem resistance_G (s : Ship) (i : Ice) (ch : Bool) (v : Int) : resistance s i ch v =
    resG (value s.Water v).1 (value s.Water v).2 (value s.Ice i.Thick).1 (value s.Ice i.Thick).2 i.Conc (1000 + s.Slow * v) (if ch = true then s.Brash else 100) s.Ridge (if ch = true then 0 else i.Ridge) (s.Press * i.Press) := rfl
structure LeI (i j : Ice) : Prop where
  conc : i.Conc ≤ j.Conc
  thick : i.Thick ≤ j.Thick
  ridge : i.Ridge ≤ j.Ridge
  press : i.Press ≤ j.Press
theorem LeI.rfl {i : Ice} : LeI i i := ⟨Int.le_refl _, Int.le_refl _, Int.le_refl _, Int.le_refl _⟩
theorem resistance_mono {s : Ship} (hc : check s = 0) {i j : Ice} (hi : goodIce i) (hj : goodIce j) (hij : LeI i j) {u v : Int} (hu : 0 ≤ u) (huv : u ≤ v) (ch : Bool) : resistance s i ch u ≤ resistance s j ch v := by
  rw [resistance_G, resistance_G]
  obtain ⟨hcl, hpo, hsl, hbr, hri, hpr⟩ := check_bd hc
  obtain ⟨i1, i2, i3, i4⟩ := goodIce_bd hi
  obtain ⟨j1, j2, j3, j4⟩ := goodIce_bd hj
  have w1 := value_bd (check_curveWater hc) hu
  have w2 := value_bd (check_curveWater hc) (x := v) (by omega)
  have n1 := value_bd (check_curveIce hc) i2.1
  have n2 := value_bd (check_curveIce hc) j2.1
  have hsu := Int.mul_nonneg hsl.1 hu
  refine resG_mono (by omega) (by omega) (by omega) (by omega) (by omega) (by omega) i1.1 (by omega) (by split <;> omega) hri.1 (by split <;> omega)
    (value_up (check_steadyWater hc) hu huv) (value_up (check_steadyIce hc) i2.1 hij.thick) hij.conc (by have := mulL huv hsl.1; omega) (Int.le_refl _) (by split; exact Int.le_refl _; exact hij.ridge) (mulL hij.press hpr.1)
theorem thrust_mono {s : Ship} (hc : check s = 0) {u v : Int} (hu : 0 ≤ u) (huv : u ≤ v) : thrust s v ≤ thrust s u := by
  have t1 := value_bd (check_curveThrust hc) hu
  have t2 := value_bd (check_curveThrust hc) (x := v) (by omega)
  exact floor_mono (by omega) (by omega) (value_down (check_steadyThrust hc) hu huv)
theorem makes_mono {s : Ship} (hc : check s = 0) {i j : Ice} (hi : goodIce i) (hj : goodIce j) (hij : LeI i j) {u v : Int} (hu : 0 ≤ u) (huv : u ≤ v) {ch : Bool} (h : makes s j ch v = true) : makes s i ch u = true := by
  simp only [makes, Bool.and_eq_true, decide_eq_true_eq] at h ⊢
  have h1 := resistance_mono hc hi hj hij hu huv ch
  have h2 := thrust_mono hc hu huv
  exact ⟨by omega, by omega⟩
theorem great_spec {so : Int → Bool} : ∀ (f : Nat) {lo hi : Int}, (hi - lo).toNat ≤ f → lo ≤ hi → so lo = true → (∀ u v, lo ≤ u → u ≤ v → v ≤ hi → so v = true → so u = true) →
    lo ≤ great so lo hi ∧ great so lo hi ≤ hi ∧ so (great so lo hi) = true ∧ ∀ v, great so lo hi < v → v ≤ hi → so v = false := by
  intro f
  induction f with
  | zero =>
    intro lo hi hf hle h1 hd
    rw [great_done (by omega)]
    exact ⟨Int.le_refl _, hle, h1, fun v h2 h3 => absurd h3 (by omega)⟩
  | succ f ih =>
    intro lo hi hf hle h1 hd
    by_cases h : lo < hi
    · rw [great_step h]
      by_cases hm : so (lo + (hi - lo + 1) / 2) = true
      · rw [if_pos hm]
        obtain ⟨a, b, c, d⟩ := ih (lo := lo + (hi - lo + 1) / 2) (hi := hi) (by omega) (by omega) hm (fun u v h2 h3 h4 h5 => hd u v (by omega) h3 h4 h5)
        exact ⟨by omega, b, c, d⟩
      · rw [if_neg hm]
        obtain ⟨a, b, c, d⟩ := ih (lo := lo) (hi := lo + (hi - lo + 1) / 2 - 1) (by omega) (by omega) h1 (fun u v h2 h3 h4 h5 => hd u v h2 h3 (by omega) h5)
        refine ⟨a, by omega, c, fun v h2 h3 => ?_⟩
        by_cases h4 : v ≤ lo + (hi - lo + 1) / 2 - 1
        · exact d v h2 h4
        · cases hv : so v with
          | false => rfl
          | true => exact absurd (hd (lo + (hi - lo + 1) / 2) v (by omega) (by omega) h3 hv) hm
    · rw [great_done h]
      exact ⟨Int.le_refl _, hle, h1, fun v h2 h3 => absurd h3 (by omega)⟩
theorem great_is {so : Int → Bool} {lo hi : Int} (hle : lo ≤ hi) (h1 : so lo = true) (hd : ∀ u v, lo ≤ u → u ≤ v → v ≤ hi → so v = true → so u = true) :
    lo ≤ great so lo hi ∧ great so lo hi ≤ hi ∧ ∀ v, lo ≤ v → v ≤ hi → (so v = true ↔ v ≤ great so lo hi) := by
  obtain ⟨a, b, c, d⟩ := great_spec _ (Nat.le_refl _) hle h1 hd
  refine ⟨a, b, fun v h2 h3 => ⟨fun h => ?_, fun h => hd v _ h2 h b c⟩⟩
  rcases Int.lt_or_le (great so lo hi) v with h4 | h4
  · rw [d v h4 h3] at h; cases h
  · exact h4
theorem great_le {so so' : Int → Bool} {lo hi : Int} (hle : lo ≤ hi) (h1 : so lo = true) (hd : ∀ u v, lo ≤ u → u ≤ v → v ≤ hi → so v = true → so u = true) (hd' : ∀ u v, lo ≤ u → u ≤ v → v ≤ hi → so' v = true → so' u = true)
    (h : ∀ v, lo ≤ v → v ≤ hi → so v = true → so' v = true) : great so lo hi ≤ great so' lo hi := by
  obtain ⟨a, b, c⟩ := great_is hle h1 hd
  obtain ⟨a', b', c'⟩ := great_is hle (h lo (Int.le_refl _) hle h1) hd'
  exact (c' _ a b).1 (h _ a b ((c _ a b).2 (Int.le_refl _)))
theorem speed_mono {s : Ship} (hc : check s = 0) {i j : Ice} (hi : goodIce i) (hj : goodIce j) (hij : LeI i j) (ch : Bool) : speed s j ch ≤ speed s i ch := by
  have down : ∀ k, goodIce k → ∀ u v, (0 : Int) ≤ u → u ≤ v → v ≤ 250 → makes s k ch v = true → makes s k ch u = true := fun k hk u v h1 h2 _ h => makes_mono hc hk hk .rfl h1 h2 h
  unfold speed greatest
  by_cases h0 : makes s j ch 0 = true
  · have h1 := makes_mono hc hi hj hij (Int.le_refl 0) (Int.le_refl 0) h0
    rw [if_pos h0, if_pos h1]
    exact great_le (by decide) h0 (down j hj) (down i hi) fun v h2 h3 h => makes_mono hc hi hj hij h2 (Int.le_refl v) h
  · rw [if_neg h0]
    by_cases h1 : makes s i ch 0 = true
    · rw [if_pos h1]; exact (great_is (by decide) h1 (down i hi)).1
    · rw [if_neg h1]; exact Int.le_refl _
end Go.Proofs.Bk
namespace Go.Proofs.Bk
open Go Go.KX
theorem first_le_last {c : Cell} (h : goodCell c) : LeI (firstI c) (lastI c) := ⟨h.1.2.1, h.2.1.2.1, h.2.2.1.2.1, h.2.2.2.2.1⟩
end Go.Proofs.Bk
namespace Go.Proofs.Bk
open Go Go.KX
structure Pre (w : Int) (l : List Pt) (x y : Int) : Prop where
  len : 1 ≤ l.length
  x0 : (pt l 0).X = 0
  bd : ∀ i : Nat, i < l.length → 0 ≤ (pt l i).X ∧ (pt l i).X ≤ 400 ∧ 0 ≤ (pt l i).Y ∧ (pt l i).Y ≤ 20000
  st : ∀ i : Nat, 1 ≤ i → i < l.length → (pt l ((i : Int) - 1)).X < (pt l i).X ∧ 0 ≤ ((pt l i).Y - (pt l ((i : Int) - 1)).Y) * w
  last : pt l ((l.length : Int) - 1) = ⟨x, y⟩
theorem pt_old {l : List Pt} {p : Pt} {i : Int} (h0 : 0 ≤ i) (h : i < l.length) : pt (l ++ [p]) i = pt l i := by
  unfold pt
  have h : i.toNat < l.length := by omega
  simp [List.getD, List.getElem?_append_left h]
theorem pt_new {l : List Pt} {p : Pt} : pt (l ++ [p]) (l.length : Int) = p := by
  unfold pt
  simp [List.getD]
theorem Pre.one {w y : Int} (hy : 0 ≤ y ∧ y ≤ 20000) : Pre w [⟨0, y⟩] 0 y := by
  refine ⟨by simp, rfl, fun i hi => ?_, fun i h1 hi => ?_, rfl⟩
  · have : i = 0 := by simpa using hi
    subst this
    simp [pt]; omega
  · simp at hi; omega
theorem Pre.snoc {w x y x' y' : Int} {l : List Pt} (h : Pre w l x y) (hx : x < x' ∧ x' ≤ 400) (hy : 0 ≤ y' ∧ y' ≤ 20000) (hw : 0 ≤ (y' - y) * w) : Pre w (l ++ [⟨x', y'⟩]) x' y' := by
  have hl := h.len
  have hlast := h.last
  have hx0 := (h.bd (l.length - 1) (by omega)).1
  rw [show (((l.length - 1 : Nat)) : Int) = (l.length : Int) - 1 by omega, hlast] at hx0
  simp only [] at hx0
  refine ⟨by simp, by rw [pt_old (by omega) (by omega)]; exact h.x0, fun i hi => ?_, fun i h1 hi => ?_, ?_⟩
  · by_cases e : i < l.length
    · rw [pt_old (by omega) (by omega)]; exact h.bd i e
    · have : i = l.length := by simp at hi; omega
      subst this
      rw [pt_new]; simp only []; omega
  · by_cases e : i < l.length
    · rw [pt_old (by omega) (by omega), pt_old (by omega) (by omega)]; exact h.st i h1 e
    · have : i = l.length := by simp at hi; omega
      subst this
      rw [pt_new, pt_old (by omega) (by omega), hlast]
      exact ⟨hx.1, hw⟩
  · rw [show (((l ++ [(⟨x', y'⟩ : Pt)]).length : Int) - 1) = (l.length : Int) by simp, pt_new]
theorem Pre.steady {w x y : Int} {l : List Pt} (h : Pre w l x y) (hl : 2 ≤ l.length ∧ l.length ≤ 8) : steady l w = true ∧ endX l = x := by
  have hc : curve l = true := by
    refine curve_yes (k := l.length) ?_ h.x0 (fun j hj => ?_) (Nat.le_refl _)
    · simp [within]; omega
    · have h1 := h.bd j hj
      simp only [curveAt, within]
      by_cases e : j = 0
      · subst e
        have h0 := h.x0
        have h1' : 0 ≤ (pt l 0).X ∧ (pt l 0).X ≤ 400 ∧ 0 ≤ (pt l 0).Y ∧ (pt l 0).Y ≤ 20000 := h1
        simp; omega
      · have h2 := (h.st j (by omega) hj).1
        have h3 : ¬ (pt l (j : Int)).X ≤ (pt l ((j : Int) - 1)).X := by omega
        simp [h3]; omega
  refine ⟨steady_yes (k := l.length) hc (fun j hj h1 => ?_) (Nat.le_refl _), by rw [endX, h.last]⟩
  have h2 := (h.st j h1 hj).2
  simp only [steadyAt]
  simp; omega
structure Light (s : Ship) : Prop where
  t : s.Thrust.length ≤ 20
  w : s.Water.length ≤ 20
  i : s.Ice.length ≤ 20
instance (s : Ship) : Decidable (Light s) := decidable_of_iff (s.Thrust.length ≤ 20 ∧ s.Water.length ≤ 20 ∧ s.Ice.length ≤ 20) ⟨fun ⟨a, b, c⟩ => ⟨a, b, c⟩, fun h => ⟨h.t, h.w, h.i⟩⟩
theorem great_eq {so : Int → Bool} {lo hi r : Int} (hd : ∀ u v, lo ≤ u → u ≤ v → v ≤ hi → so v = true → so u = true) (h1 : lo ≤ r) (h2 : r ≤ hi) (hr : so r = true) (hn : ∀ u, r < u → u ≤ hi → so u = false) : so lo = true ∧ great so lo hi = r := by
  have h0 := hd lo r (Int.le_refl _) h1 h2 hr
  obtain ⟨a, b, c⟩ := great_is (by omega) h0 hd
  refine ⟨h0, ?_⟩
  have c1 := (c r h1 h2).1 hr
  rcases Int.lt_or_le r (great so lo hi) with h | h
  · have := (c _ a b).2 (Int.le_refl _)
    rw [hn _ h b] at this; cases this
  · omega
structure Last (so : Int → Bool) (lo d out n : Int) : Prop where
  it : (out = d ∧ ∀ u, lo ≤ u → u < n → so u = false) ∨ (lo ≤ out ∧ out < n ∧ so out = true ∧ ∀ u, out < u → u < n → so u = false)
theorem Last.greatest {so : Int → Bool} {lo hi d out : Int} (hl : Last so lo d out (hi + 1)) (hle : lo ≤ hi) (hd : ∀ u v, lo ≤ u → u ≤ v → v ≤ hi → so v = true → so u = true) :
    (out = d ∧ Go.Proofs.Bk.greatest so lo hi = (0, false) ∧ ∀ u, lo ≤ u → u ≤ hi → so u = false) ∨ (Go.Proofs.Bk.greatest so lo hi = (out, true) ∧ lo ≤ out ∧ out ≤ hi) := by
  unfold Go.Proofs.Bk.greatest
  rcases hl.it with ⟨h1, h2⟩ | ⟨h1, h2, h3, h4⟩
  · rw [h2 lo (Int.le_refl _) (by omega)]; exact .inl ⟨h1, by simp, fun u h3 h4 => h2 u h3 (by omega)⟩
  · obtain ⟨a, b⟩ := great_eq hd h1 (by omega) h3 (fun u h5 h6 => h4 u h5 (by omega))
    rw [if_pos a, b]; exact .inr ⟨rfl, h1, by omega⟩
theorem checkCell_20 {c : Cell} (h : ¬ goodCell c) : checkCell c = 20 := by
  have := mt checkCell_ok.1 h
  unfold checkCell at this ⊢
  split
  · rfl
  · rename_i h2; rw [if_neg h2] at this; exact absurd rfl this
structure Waits (l m : List Span) : Prop where
  len : l.length = m.length
  most : l.length ≤ 20
  each : ∀ j < l.length, goodSpan (l.getD j ⟨0, 0⟩) 3 ∧ goodSpan (m.getD j ⟨0, 0⟩) 3 ∧ (m.getD j ⟨0, 0⟩).Lo ≤ (l.getD j ⟨0, 0⟩).Lo ∧ (m.getD j ⟨0, 0⟩).Hi ≤ (l.getD j ⟨0, 0⟩).Hi
theorem Waits.snoc {l m : List Span} (h : Waits l m) (hl : l.length < 20) {p q : Span} (hp : goodSpan p 3) (hq : goodSpan q 3) (h1 : q.Lo ≤ p.Lo) (h2 : q.Hi ≤ p.Hi) : Waits (l ++ [p]) (m ++ [q]) := by
  refine ⟨by simp [h.len], by simp; omega, fun j hj => ?_⟩
  by_cases e : j < l.length
  · have e' : j < m.length := by rw [← h.len]; exact e
    have := h.each j e
    simpa [List.getD, List.getElem?_append_left e, List.getElem?_append_left e'] using this
  · have : j = l.length := by simp at hj; omega
    subst this
    have e1 : (l ++ [p]).getD l.length ⟨0, 0⟩ = p := by simp [List.getD]
    have e2 : (m ++ [q]).getD l.length ⟨0, 0⟩ = q := by rw [h.len]; simp [List.getD]
    rw [e1, e2]
    exact ⟨hp, hq, h1, h2⟩
def InS (s t : Span) : Prop := t.Lo ≤ s.Lo ∧ s.Hi ≤ t.Hi
structure InC (c d : Cell) : Prop where
  conc : InS c.Conc d.Conc
  thick : InS c.Thick d.Thick
  ridge : InS c.Ridge d.Ridge
  press : InS c.Press d.Press
theorem InC.first {c d : Cell} (h : InC c d) : LeI (firstI d) (firstI c) := ⟨h.conc.1, h.thick.1, h.ridge.1, h.press.1⟩
theorem InC.last {c d : Cell} (h : InC c d) : LeI (lastI c) (lastI d) := ⟨h.conc.2, h.thick.2, h.ridge.2, h.press.2⟩
def cellOfS (t : Spans) : Cell := ⟨t.a0, t.a1, t.a2, t.a3⟩
end Go.Proofs.Bk
namespace Go.Proofs.Bk
open Go Go.KX
section
variable {α β : Type} {post : α → Prop}
theorem ok_bbrk {c : Bool} {x y : Option β} {f : β → Option α} (ht : c = true → Ok post (bnd x f)) (hf : c = false → Ok post (bnd y f)) : Ok post (bnd (brk c x y) f) := by
  cases c with
  | true => exact ht rfl
  | false => exact hf rfl
theorem ok_band {b y : Bool} {x : Option Bool} {f : Bool → Option α} (hx : b = true → x = some y) (h : Ok post (f (b && y))) : Ok post (bnd (brk b x (some false)) f) := by
  cases b with
  | false => exact h
  | true => rw [hx rfl]; exact h
end
theorem within_eq (F : Nat) (n a b : Int) : hull_within F n a b = some (within n a b) := rfl
theorem curve_eq {F : Nat} {l : List Pt} (hn : l.length ≤ 1000000) (hF : l.length < F) : hull_curve F l = some (curve l) := by
  refine Ok.eq ?_
  unfold hull_curve
  refine ok_bnde (within_eq ..) ?_
  have hlen : within (l.length : Int) 2 8 = true → 2 ≤ l.length := fun h => by simp only [within, Bool.and_eq_true, decide_eq_true_eq] at h; omega
  refine ok_chk (fun h => ?_) ?_
  · have : within (l.length : Int) 2 8 = true := by simpa using h
    have := hlen this
    exact ⟨by decide, by omega⟩
  refine ok_brk (fun h => ok_some (curve_no1 h).symm) (fun h => ?_)
  simp only [Bool.or_eq_false_iff, Bool.not_eq_false', bne_eq_false_iff_eq] at h
  refine ok_loop (fun q : Int => 0 ≤ q ∧ q ≤ l.length ∧ ∀ j : Nat, (j : Int) < q → curveAt l (j : Int) = true) (fun q => (l.length - q).toNat) ⟨by omega, by omega, fun j h => by omega⟩ (by omega) fun q next hI hn' => ?_
  obtain ⟨h0, h1, h2⟩ := hI
  refine ok_brk (fun hc => ?_) (fun hc => ok_some (curve_yes h.1 h.2 (k := l.length) (fun j hj => h2 j (by have := of_decide_eq_false hc; omega)) (Nat.le_refl _)).symm)
  have hc := of_decide_eq_true hc
  refine ok_chk ⟨h0, hc⟩ (ok_bnde (within_eq ..) (ok_band (fun _ => within_eq ..) ?_))
  have hg : (decide (q > 0)) = true → InR (q - 1) ∧ (0 ≤ q - 1 ∧ q - 1 < (l.length : Int)) := fun h => by have := of_decide_eq_true h; exact ⟨⟨by omega, by omega⟩, by omega, by omega⟩
  refine ok_chk (fun h => (hg (by simp only [Bool.and_eq_true] at h; exact h.2)).1) (ok_chk (fun h => (hg (by simp only [Bool.and_eq_true] at h; exact h.2)).2) ?_)
  have hcond : (!within (pt l q).X 0 400 || !(!!within (pt l q).X 0 400 && within (pt l q).Y 0 20000) || decide (q > 0) && decide ((pt l q).X ≤ (pt l (q - 1)).X)) = !curveAt l q := by
    unfold curveAt
    cases within (pt l q).X 0 400 <;> cases within (pt l q).Y 0 20000 <;> simp
  refine ok_brk (fun h => ok_some ?_) (fun h => ok_chk ⟨by omega, by omega⟩ (hn' _ ⟨by omega, by omega, fun j hj => ?_⟩ (by omega)))
  · have h : (!curveAt l q) = true := hcond ▸ h
    exact (curve_no2 (k := q.toNat) (by omega) (by rw [Int.toNat_of_nonneg h0]; simpa using h)).symm
  · have h : (!curveAt l q) = false := hcond ▸ h
    by_cases e : (j : Int) = q
    · rw [e]; simpa using h
    · exact h2 j (by omega)
theorem steady_eq {F : Nat} {l : List Pt} (hn : l.length ≤ 1000000) (hF : l.length < F) {w : Int} (hw : w = 1 ∨ w = -1) : hull_steady F l w = some (steady l w) := by
  refine Ok.eq ?_
  unfold hull_steady
  refine ok_bnde (curve_eq hn hF) ?_
  refine ok_brk (fun h => ok_some ?_) (fun h => ?_)
  · have h : curve l = false := by simpa using h
    simp [steady, h]
  have hc : curve l = true := by simpa using h
  have hb := curve_bd hc
  refine ok_loop (fun q : Int => 1 ≤ q ∧ q ≤ l.length ∧ ∀ j : Nat, 1 ≤ j → (j : Int) < q → steadyAt l w (j : Int) = true) (fun q => (l.length - q).toNat) ⟨by omega, by have := (curve_lt hc).2; omega, fun j h1 h2 => by omega⟩ (by omega) fun q next hI hn' => ?_
  obtain ⟨h0, h1, h2⟩ := hI
  refine ok_brk (fun hq => ?_) (fun hq => ok_some (steady_yes hc (k := l.length) (fun j hj h3 => h2 j h3 (by have := of_decide_eq_false hq; omega)) (Nat.le_refl _)).symm)
  have hq := of_decide_eq_true hq
  have b1 := hb q (by omega) hq
  have b2 := hb (q - 1) (by omega) (by omega)
  have hp : InR ((pt l q).Y - (pt l (q - 1)).Y) ∧ InR (((pt l q).Y - (pt l (q - 1)).Y) * w) := by rcases hw with rfl | rfl <;> constructor <;> constructor <;> omega
  refine ok_chk ⟨by omega, hq⟩ (ok_chk ⟨by omega, by omega⟩ (ok_chk ⟨by omega, by omega⟩ (ok_chk hp.1 (ok_chk hp.2 ?_))))
  have hs : steadyAt l w q = !decide (((pt l q).Y - (pt l (q - 1)).Y) * w < 0) := rfl
  refine ok_brk (fun h => ok_some ?_) (fun h => ok_chk ⟨by omega, by omega⟩ (hn' _ ⟨by omega, by omega, fun j h3 hj => ?_⟩ (by omega)))
  · have h : decide (((pt l q).Y - (pt l (q - 1)).Y) * w < 0) = true := h
    exact (steady_no (k := q.toNat) (by omega) (by omega) (by rw [Int.toNat_of_nonneg (by omega), hs, h]; rfl)).symm
  · have h : decide (((pt l q).Y - (pt l (q - 1)).Y) * w < 0) = false := h
    by_cases e : (j : Int) = q
    · rw [e, hs, h]; rfl
    · exact h2 j h3 (by omega)
theorem end_eq {F : Nat} {l : List Pt} (h1 : 1 ≤ l.length) (hn : l.length ≤ 1000000) : hull_end F l = some (endX l) := by
  refine Ok.eq ?_
  unfold hull_end
  exact ok_chk ⟨by omega, by omega⟩ (ok_chk ⟨by omega, by omega⟩ (ok_some rfl))
theorem val_prod {a b x y : Int} (hx : -400 ≤ x ∧ x ≤ 400) (hy : -1000 ≤ y ∧ y ≤ 1000) (ha : 0 ≤ a ∧ a ≤ 20000) (hb : -20000 ≤ b ∧ b ≤ 20000) : (-8000000 ≤ a * x ∧ a * x ≤ 8000000) ∧ -20000000 ≤ b * y ∧ b * y ≤ 20000000 := by
  have h1 := mul_bd (x := a) (y := x) (A := 20000) (B := 400) (by omega) (by omega)
  have h2 := mul_bd (x := b) (y := y) (A := 20000) (B := 1000) (by omega) (by omega)
  omega
theorem value_eq {F : Nat} (hF : 100 ≤ F) {l : List Pt} (hc : curve l = true) {x : Int} (hx : 0 ≤ x ∧ x ≤ 1000) : hull_value F l x = some (value l x) := by
  refine Ok.eq ?_
  unfold hull_value
  have hb := curve_bd hc
  have hlen := (curve_lt hc).2
  refine ok_loop (fun q : Int => 1 ≤ q ∧ q ≤ l.length ∧ value l x = valFrom l x (l.length - q.toNat) q.toNat) (fun q => (l.length - q).toNat) ⟨by omega, by omega, rfl⟩ (by omega) fun q next hI hn' => ?_
  obtain ⟨h0, h1, h2⟩ := hI
  refine ok_brk (fun hq => ?_) (fun hq => ?_)
  · have hq := of_decide_eq_true hq
    have b1 := hb q (by omega) hq
    have b2 := hb (q - 1) (by omega) (by omega)
    obtain ⟨p1, p2⟩ := val_prod (a := (pt l (q - 1)).Y) (x := (pt l q).X - (pt l (q - 1)).X) (b := (pt l q).Y - (pt l (q - 1)).Y) (y := x - (pt l (q - 1)).X) (by omega) (by omega) (by omega) (by omega)
    have e : l.length - q.toNat = (l.length - (q + 1).toNat) + 1 := by omega
    have e2 : ((q.toNat : Nat) : Int) = q := Int.toNat_of_nonneg (by omega)
    have e3 : q.toNat + 1 = (q + 1).toNat := by omega
    rw [e, valFrom, e2, e3] at h2
    refine ok_chk ⟨by omega, by omega⟩ (ok_chk ⟨by omega, by omega⟩ (ok_chk ⟨by omega, hq⟩ (ok_brk (fun h => ?_) (fun h => ?_))))
    · have h : x ≤ (pt l q).X := of_decide_eq_true h
      rw [if_pos h] at h2
      refine ok_chk (show InR ((pt l q).X - (pt l (q - 1)).X) from ⟨by omega, by omega⟩) (ok_chk (show InR ((pt l (q - 1)).Y * ((pt l q).X - (pt l (q - 1)).X)) from ⟨by omega, by omega⟩) (ok_chk (show InR ((pt l q).Y - (pt l (q - 1)).Y) from ⟨by omega, by omega⟩) (ok_chk (show InR (x - (pt l (q - 1)).X) from ⟨by omega, by omega⟩)
        (ok_chk (show InR (((pt l q).Y - (pt l (q - 1)).Y) * (x - (pt l (q - 1)).X)) from ⟨by omega, by omega⟩) (ok_chk (show InR ((pt l (q - 1)).Y * ((pt l q).X - (pt l (q - 1)).X) + ((pt l q).Y - (pt l (q - 1)).Y) * (x - (pt l (q - 1)).X)) from ⟨by omega, by omega⟩) (ok_chk (show InR ((pt l q).X - (pt l (q - 1)).X) from ⟨by omega, by omega⟩) (ok_some h2.symm)))))))
    · have h : ¬ x ≤ (pt l q).X := of_decide_eq_false h
      rw [if_neg h] at h2
      exact ok_chk ⟨by omega, by omega⟩ (hn' _ ⟨by omega, by omega, h2⟩ (by omega))
  · have hq := of_decide_eq_false hq
    have e : l.length - q.toNat = 0 := by omega
    rw [e, valFrom] at h2
    exact ok_chk ⟨by omega, by omega⟩ (ok_chk ⟨by omega, by omega⟩ (ok_some h2.symm))
theorem check_eq {F : Nat} (hF : 1000 ≤ F) {s : Ship} (h1 : s.Thrust.length ≤ 900) (h2 : s.Water.length ≤ 900) (h3 : s.Ice.length ≤ 900) : hull_Check F s = some (check s) := by
  have r1 : hull_rules_1 F s = some (rule1 s) := rfl
  have r2 : hull_rules_2 F s = some (rule2 s) := by
    refine Ok.eq ?_
    unfold hull_rules_2 rule2
    refine ok_bnde (within_eq ..) (ok_band (fun _ => within_eq ..) (ok_band (fun _ => within_eq ..) (ok_some ?_)))
    cases within s.Power 100 100000 <;> cases within s.Draught 10 2000 <;> simp
  have r3 : hull_rules_3 F s = some (rule3 s) := by
    refine Ok.eq ?_
    unfold hull_rules_3 rule3
    refine ok_bnde (within_eq ..) (ok_band (fun _ => within_eq ..) (ok_band (fun _ => within_eq ..) (ok_band (fun _ => within_eq ..) (ok_some ?_))))
    cases within s.Slow 0 20 <;> cases within s.Brash 0 100 <;> cases within s.Ridge 0 500 <;> simp
  have r4 : hull_rules_4 F s = some (rule4 s) := by
    refine Ok.eq ?_
    unfold hull_rules_4 rule4
    refine ok_bnde (steady_eq (by omega) (by omega) (.inr rfl)) (ok_bbrk (fun h => ?_) (fun h => ?_))
    · have := (steady_len h).1
      rw [h]
      exact ok_bnde (end_eq (by omega) (by omega)) (ok_bnde (within_eq F ..) (ok_some rfl))
    · rw [h]; exact ok_some rfl
  have r5 : hull_rules_5 F s = some (rule5 s) := by
    refine Ok.eq ?_
    unfold hull_rules_5 rule5
    refine ok_bnde (steady_eq (by omega) (by omega) (.inl rfl)) (ok_bbrk (fun h => ?_) (fun h => ?_))
    · have := (steady_len h).1
      rw [h]
      exact ok_bnde (end_eq (by omega) (by omega)) (ok_some rfl)
    · rw [h]; exact ok_some rfl
  have r6 : hull_rules_6 F s = some (rule6 s) := by
    refine Ok.eq ?_
    unfold hull_rules_6 rule6
    refine ok_bnde (steady_eq (by omega) (by omega) (.inl rfl)) (ok_chk (fun h => ⟨by decide, ?_⟩) (ok_bbrk (fun h => ?_) (fun h => ?_)))
    · have := (steady_len h).1; omega
    · have h' : steady s.Ice 1 = true ∧ ((pt s.Ice 0).Y == 0) = true := by
        have h : (steady s.Ice 1 && ((pt s.Ice 0).Y == 0)) = true := h
        simpa only [Bool.and_eq_true] using h
      have := (steady_len h'.1).1
      exact ok_bnde (end_eq (by omega) (by omega)) (ok_some rfl)
    · refine ok_bnde rfl (ok_some ?_)
      have h : (steady s.Ice 1 && ((pt s.Ice 0).Y == 0)) = false := h
      show (steady s.Ice 1 && ((pt s.Ice 0).Y == 0) && _) = (steady s.Ice 1 && ((pt s.Ice 0).Y == 0) && _)
      rw [h]; rfl
  refine Ok.eq ?_
  unfold hull_Check check
  refine ok_bnde r1 (ok_brk (fun h => ok_some ?_) (fun h => ok_bnde r2 (ok_brk (fun h' => ok_some ?_) (fun h' => ok_bnde r3 (ok_brk (fun h2' => ok_some ?_) (fun h2' => ok_bnde r4 (ok_brk (fun h3' => ok_some ?_) (fun h3' => ok_bnde r5 (ok_brk (fun h4 => ok_some ?_) (fun h4 => ok_bnde r6 (ok_brk (fun h5 => ok_some ?_) (fun h5 => ok_some ?_))))))))))))
  all_goals (simp only [Bool.not_eq_true', Bool.not_eq_false'] at *; simp_all)
theorem thrust_eq {F : Nat} (hF : 1000 ≤ F) {s : Ship} (hc : check s = 0) {v : Int} (hv : 0 ≤ v ∧ v ≤ 1000) : hull_Ship_thrust F s v = some (thrust s v) := by
  refine Ok.eq ?_
  unfold hull_Ship_thrust
  obtain ⟨v1, v2, v3, v4⟩ := value_bd (check_curveThrust hc) hv.1
  exact ok_bnde (value_eq (by omega) (check_curveThrust hc) hv) (ok_chk ⟨⟨v3, by omega⟩, by omega⟩ (ok_some rfl))
noncomputable def resM {α : Type} (F : Nat) (s : Ship) (i : Ice) (v : Int) (ch : Bool) (K : Int → Option α) : Option α :=
  bnd (hull_value F s.Water v) (fun (w : (Int) × (Int)) => bnd (hull_value F s.Ice i.Thick) (fun (n : (Int) × (Int)) => join (F) (fun (y : (Int) × (Int)) => chk (InR (s.Slow * v)) (chk (InR ((1000 : Int) + s.Slow * v)) (chk (InR (n.fst * ((1000 : Int) + s.Slow * v))) (chk (InR (n.fst * ((1000 : Int) + s.Slow * v) * y.snd)) (chk (InR (s.Ridge * y.fst)) (chk (InR (s.Ridge * y.fst * n.snd)) (chk (InR (s.Ridge * y.fst * n.snd * (100000 : Int))) (chk (InR (n.fst * ((1000 : Int) + s.Slow * v) * y.snd + s.Ridge * y.fst * n.snd * (100000 : Int))) (chk (InR (i.Conc * (n.fst * ((1000 : Int) + s.Slow * v) * y.snd + s.Ridge * y.fst * n.snd * (100000 : Int)))) (chk (InR (n.snd * (10000000 : Int))) (chk (InR (w.fst * (n.snd * (10000000 : Int)))) (chk (InR (i.Conc * (n.fst * ((1000 : Int) + s.Slow * v) * y.snd + s.Ridge * y.fst * n.snd * (100000 : Int)) * w.snd)) (chk (InR (w.fst * (n.snd * (10000000 : Int)) + i.Conc * (n.fst * ((1000 : Int) + s.Slow * v) * y.snd + s.Ridge * y.fst * n.snd * (100000 : Int)) * w.snd)) (chk (InR (s.Press * i.Press)) (chk (InR (s.Press * i.Press * w.snd)) (chk (InR (s.Press * i.Press * w.snd * (n.snd * (10000000 : Int)))) (chk (InR (w.fst * (n.snd * (10000000 : Int)) + i.Conc * (n.fst * ((1000 : Int) + s.Slow * v) * y.snd + s.Ridge * y.fst * n.snd * (100000 : Int)) * w.snd + s.Press * i.Press * w.snd * (n.snd * (10000000 : Int)))) (chk (InR (w.snd * (n.snd * (10000000 : Int)))) (chk (InR (w.fst * (n.snd * (10000000 : Int)) + i.Conc * (n.fst * ((1000 : Int) + s.Slow * v) * y.snd + s.Ridge * y.fst * n.snd * (100000 : Int)) * w.snd + s.Press * i.Press * w.snd * (n.snd * (10000000 : Int)) + w.snd * (n.snd * (10000000 : Int)))) (chk (InR (w.fst * (n.snd * (10000000 : Int)) + i.Conc * (n.fst * ((1000 : Int) + s.Slow * v) * y.snd + s.Ridge * y.fst * n.snd * (100000 : Int)) * w.snd + s.Press * i.Press * w.snd * (n.snd * (10000000 : Int)) + w.snd * (n.snd * (10000000 : Int)) - (1 : Int))) (chk (InR (w.snd * (n.snd * (10000000 : Int)))) (chk (((0 : Int) ≤ w.fst * (n.snd * (10000000 : Int)) + i.Conc * (n.fst * ((1000 : Int) + s.Slow * v) * y.snd + s.Ridge * y.fst * n.snd * (100000 : Int)) * w.snd + s.Press * i.Press * w.snd * (n.snd * (10000000 : Int)) + w.snd * (n.snd * (10000000 : Int)) - (1 : Int) ∧ w.fst * (n.snd * (10000000 : Int)) + i.Conc * (n.fst * ((1000 : Int) + s.Slow * v) * y.snd + s.Ridge * y.fst * n.snd * (100000 : Int)) * w.snd + s.Press * i.Press * w.snd * (n.snd * (10000000 : Int)) + w.snd * (n.snd * (10000000 : Int)) - (1 : Int) ≤ (9223372036854775807 : Int)) ∧ (0 : Int) < w.snd * (n.snd * (10000000 : Int))) (K ((w.fst * (n.snd * (10000000 : Int)) + i.Conc * (n.fst * ((1000 : Int) + s.Slow * v) * y.snd + s.Ridge * y.fst * n.snd * (100000 : Int)) * w.snd + s.Press * i.Press * w.snd * (n.snd * (10000000 : Int)) + w.snd * (n.snd * (10000000 : Int)) - (1 : Int)) / (w.snd * (n.snd * (10000000 : Int))))))))))))))))))))))))))) (fun y => brk (ch) (y (((0 : Int), s.Brash))) (y ((i.Ridge, (100 : Int)))))))
theorem res_ok {α : Type} {post : α → Prop} {F : Nat} (hF : 1000 ≤ F) {s : Ship} (hc : check s = 0) {i : Ice} (hi : goodIce i) {v : Int} (hv : 0 ≤ v ∧ v ≤ 250) (ch : Bool) {K : Int → Option α} (h : Ok post (K (resistance s i ch v))) : Ok post (resM F s i v ch K) := by
  unfold resM
  obtain ⟨i1, i2, i3, i4⟩ := goodIce_bd hi
  obtain ⟨_, _, hsl, hbr, hri, hpr⟩ := check_bd hc
  have w1 := value_bd (check_curveWater hc) hv.1
  have n1 := value_bd (check_curveIce hc) i2.1
  have hres : resistance s i ch v = (((value s.Water v).1 * ((value s.Ice i.Thick).2 * 10000000) + i.Conc * ((value s.Ice i.Thick).1 * (1000 + s.Slow * v) * (if ch = true then s.Brash else 100) + s.Ridge * (if ch = true then 0 else i.Ridge) * (value s.Ice i.Thick).2 * 100000) * (value s.Water v).2 + s.Press * i.Press * (value s.Water v).2 * ((value s.Ice i.Thick).2 * 10000000))
      + (value s.Water v).2 * ((value s.Ice i.Thick).2 * 10000000) - 1) / ((value s.Water v).2 * ((value s.Ice i.Thick).2 * 10000000)) := rfl
  rw [hres] at h
  refine ok_bnde (value_eq (by omega) (check_curveWater hc) (by omega)) (ok_bnde (value_eq (by omega) (check_curveIce hc) (by omega)) ?_)
  have hsh : 0 ≤ (if ch = true then s.Brash else 100) ∧ (if ch = true then s.Brash else 100) ≤ 100 := by split <;> omega
  have hrd : 0 ≤ (if ch = true then 0 else i.Ridge) ∧ (if ch = true then 0 else i.Ridge) ≤ 100 := by split <;> omega
  refine ok_join (by omega) (fun y : Int × Int => y = (if ch = true then 0 else i.Ridge, if ch = true then s.Brash else 100)) (fun y hy => ?_) fun k hk => ok_brk (fun e => hk _ (by rw [e]; rfl)) (fun e => hk _ (by rw [e]; rfl))
  subst hy
  dsimp only
  clear hres
  generalize (if ch = true then s.Brash else 100) = sh at *
  generalize (if ch = true then 0 else i.Ridge) = rd at *
  obtain ⟨w1, w2, w3, w4⟩ := w1
  obtain ⟨n1, n2, n3, n4⟩ := n1
  have hw5 : (value s.Water v).1 ≤ 8000000 := by omega
  have hn5 : (value s.Ice i.Thick).1 ≤ 8000000 := by omega
  generalize (value s.Water v).1 = wn at *
  generalize (value s.Water v).2 = wd at *
  generalize (value s.Ice i.Thick).1 = ln at *
  generalize (value s.Ice i.Thick).2 = ld at *
  have m1 := mul_nn (x := s.Slow) (y := v) (a := 0) (A := 20) (b := 0) (B := 250) (by omega) (by omega) (by decide) (by decide)
  have m2 := mul_nn (x := ln) (y := 1000 + s.Slow * v) (a := 0) (A := 8000000) (b := 0) (B := 6000) (by omega) (by omega) (by decide) (by decide)
  have m3 := mul_nn (x := ln * (1000 + s.Slow * v)) (y := sh) (a := 0) (A := 48000000000) (b := 0) (B := 100) (by omega) (by omega) (by decide) (by decide)
  have m4 := mul_nn (x := s.Ridge) (y := rd) (a := 0) (A := 500) (b := 0) (B := 100) (by omega) (by omega) (by decide) (by decide)
  have m5 := mul_nn (x := s.Ridge * rd) (y := ld) (a := 0) (A := 50000) (b := 0) (B := 400) (by omega) (by omega) (by decide) (by decide)
  have m6 := mul_nn (x := i.Conc) (y := ln * (1000 + s.Slow * v) * sh + s.Ridge * rd * ld * 100000) (a := 0) (A := 100) (b := 0) (B := 6800000000000) (by omega) (by omega) (by decide) (by decide)
  have m7 := mul_nn (x := i.Conc * (ln * (1000 + s.Slow * v) * sh + s.Ridge * rd * ld * 100000)) (y := wd) (a := 0) (A := 680000000000000) (b := 0) (B := 400) (by omega) (by omega) (by decide) (by decide)
  have m8 := mul_nn (x := wn) (y := ld * 10000000) (a := 0) (A := 8000000) (b := 0) (B := 4000000000) (by omega) (by omega) (by decide) (by decide)
  have m9 := mul_nn (x := s.Press) (y := i.Press) (a := 0) (A := 5000) (b := 0) (B := 3) (by omega) (by omega) (by decide) (by decide)
  have m10 := mul_nn (x := s.Press * i.Press) (y := wd) (a := 0) (A := 15000) (b := 0) (B := 400) (by omega) (by omega) (by decide) (by decide)
  have m11 := mul_nn (x := s.Press * i.Press * wd) (y := ld * 10000000) (a := 0) (A := 6000000) (b := 0) (B := 4000000000) (by omega) (by omega) (by decide) (by decide)
  have m12 := mul_nn (x := wd) (y := ld * 10000000) (a := 1) (A := 400) (b := 10000000) (B := 4000000000) (by omega) (by omega) (by decide) (by decide)
  generalize i.Conc * (ln * (1000 + s.Slow * v) * sh + s.Ridge * rd * ld * 100000) * wd = x7 at *
  generalize i.Conc * (ln * (1000 + s.Slow * v) * sh + s.Ridge * rd * ld * 100000) = x6 at *
  generalize s.Ridge * rd * ld = x5 at *
  generalize s.Ridge * rd = x4 at *
  generalize ln * (1000 + s.Slow * v) * sh = x3 at *
  generalize ln * (1000 + s.Slow * v) = x2 at *
  generalize s.Slow * v = x1 at *
  generalize wn * (ld * 10000000) = x8 at *
  generalize s.Press * i.Press * wd * (ld * 10000000) = x11 at *
  generalize s.Press * i.Press * wd = x10 at *
  generalize s.Press * i.Press = x9 at *
  generalize wd * (ld * 10000000) = D at *
  repeat' (with_reducible refine ok_chk ?_ ?_)
  all_goals (first | exact h | (constructor <;> omega) | omega | skip)
noncomputable def makesM {α : Type} (F : Nat) (s : Ship) (i : Ice) (v : Int) (ch : Bool) (K : Bool → Option α) : Option α :=
  bnd (hull_end F s.Thrust) (fun x : Int => brk (decide (v ≤ x)) (bnd (hull_Ship_thrust F s v) (fun t : Int => resM F s i v ch (fun q => K (decide (t ≥ q))))) (K false))
theorem makes_ok {α : Type} {post : α → Prop} {F : Nat} (hF : 1000 ≤ F) {s : Ship} (hc : check s = 0) {i : Ice} (hi : goodIce i) {v : Int} (hv : 0 ≤ v ∧ v ≤ 250) (ch : Bool) {K : Bool → Option α} (h : Ok post (K (makes s i ch v))) : Ok post (makesM F s i v ch K) := by
  unfold makesM
  have h2 := (steady_len (check_steadyThrust hc))
  refine ok_bnde (end_eq (by omega) (by omega)) (ok_brk (fun e => ok_bnde (thrust_eq hF hc (by omega)) (res_ok hF hc hi hv ch ?_)) (fun e => ?_))
  · have : makes s i ch v = decide (thrust s v ≥ resistance s i ch v) := by unfold makes; rw [e, Bool.true_and]
    rwa [this] at h
  · have : makes s i ch v = false := by unfold makes; rw [e, Bool.false_and]
    rwa [this] at h
end Go.Proofs.Bk
namespace Go.Proofs.Bk
open Go Go.KX
theorem frozen_ok {F : Nat} (hF : 1000 ≤ F) {l : List Int} (hl : Bytes l) : Ok goodCell (law03_Frozen F l) := by
  have F0 : 0 < F := by omega
  unfold law03_Frozen
  refine ok_next0 F0 hl (by decide) fun x p a1 a2 a3 a4 a5 => ?_
  have e1 : x ≤ 100 := by have : x < 101 := a2; omega
  refine ok_chk (show InR _ from ⟨by omega, by omega⟩) (ok_chk (show InR _ from ⟨by omega, by omega⟩) (ok_next F0 hl a4 a5 (by decide) fun x1 p1 b1 b2 b3 b4 b5 => ok_chk (show InR _ from ⟨by dsimp only; omega, by dsimp only; omega⟩) ?_))
  refine ok_next F0 hl b4 b5 (by decide) fun x2 p2 c1 c2 c3 c4 c5 => ?_
  have e2 : x2 ≤ 200 := by have : x2 < 201 := c2; omega
  refine ok_chk (show InR _ from ⟨by dsimp only; omega, by dsimp only; omega⟩) (ok_chk (show InR _ from ⟨by dsimp only; omega, by dsimp only; omega⟩) (ok_next F0 hl c4 c5 (by decide) fun x3 p3 d1 d2 d3 d4 d5 => ok_chk (show InR _ from ⟨by dsimp only; omega, by dsimp only; omega⟩) ?_))
  refine ok_next F0 hl d4 d5 (by decide) fun x4 p4 f1 f2 f3 f4 f5 => ?_
  have e3 : x4 ≤ 100 := by have : x4 < 101 := f2; omega
  refine ok_chk (show InR _ from ⟨by dsimp only; omega, by dsimp only; omega⟩) (ok_chk (show InR _ from ⟨by dsimp only; omega, by dsimp only; omega⟩) (ok_next F0 hl f4 f5 (by decide) fun x5 p5 g1 g2 g3 g4 g5 => ok_chk (show InR _ from ⟨by dsimp only; omega, by dsimp only; omega⟩) ?_))
  refine ok_next F0 hl g4 g5 (by decide) fun x6 p6 h1 h2 h3 h4 h5 => ?_
  have e4 : x6 ≤ 3 := by have : x6 < 4 := h2; omega
  refine ok_chk (show InR _ from ⟨by dsimp only; omega, by dsimp only; omega⟩) (ok_chk (show InR _ from ⟨by dsimp only; omega, by dsimp only; omega⟩) (ok_next F0 hl h4 h5 (by decide) fun x7 p7 i1 i2 i3 i4 i5 => ok_chk (show InR _ from ⟨by dsimp only; omega, by dsimp only; omega⟩) (ok_some ?_)))
  dsimp only
  refine ⟨⟨?_, ?_, ?_⟩, ⟨?_, ?_, ?_⟩, ⟨?_, ?_, ?_⟩, ?_, ?_, ?_⟩ <;> dsimp only <;> (try split) <;> omega
theorem snoc_len {α : Type} {l : List α} {x : α} : (l ++ [x]).length = l.length + 1 := by simp
abbrev Pos (l : List Int) (p : Int) : Prop := 0 ≤ p ∧ p ≤ (l.length : Int)
theorem shipMade_ok {F : Nat} (hF : 1000 ≤ F) {l : List Int} (hl : Bytes l) : Ok (fun s => check s = 0) (law03_Made F l) := by
  have F0 : 0 < F := by omega
  unfold law03_Made
  refine ok_next0 F0 hl (by decide) fun c p0 a1 a2 a3 a4 a5 => ?_
  refine ok_chk (show InR _ from ⟨by dsimp only; omega, by dsimp only; omega⟩) ?_
  refine ok_next F0 hl a4 a5 (by decide) fun x1 p1 b1 b2 b3 b4 b5 => ?_
  refine ok_chk (show InR _ from ⟨by dsimp only; omega, by dsimp only; omega⟩) (ok_chk (show InR _ from ⟨by dsimp only; omega, by dsimp only; omega⟩) ?_)
  refine ok_next F0 hl b4 b5 (by decide) fun x2 p2 c1 c2 c3 c4 c5 => ?_
  refine ok_chk (show InR _ from ⟨by dsimp only; omega, by dsimp only; omega⟩) (ok_chk (show InR _ from ⟨by dsimp only; omega, by dsimp only; omega⟩) ?_)
  refine ok_next F0 hl c4 c5 (by decide) fun x3 p3 d1 d2 d3 d4 d5 => ?_
  refine ok_chk (show InR _ from ⟨by dsimp only; omega, by dsimp only; omega⟩) (ok_chk (show InR _ from ⟨by dsimp only; omega, by dsimp only; omega⟩) ?_)
  refine ok_next F0 hl d4 d5 (by decide) fun x4 p4 e1 e2 e3 e4 e5 => ?_
  refine ok_next F0 hl e4 e5 (by decide) fun x5 p5 f1 f2 f3 f4 f5 => ?_
  refine ok_next F0 hl f4 f5 (by decide) fun x6 p6 g1 g2 g3 g4 g5 => ?_
  refine ok_chk (show InR _ from ⟨by dsimp only; omega, by dsimp only; omega⟩) ?_
  refine ok_next F0 hl g4 g5 (by decide) fun x7 p7 h1 h2 h3 h4 h5 => ?_
  refine ok_chk (show InR _ from ⟨by dsimp only; omega, by dsimp only; omega⟩) ?_
  refine ok_next F0 hl h4 h5 (by decide) fun x8 p8 i1 i2 i3 i4 i5 => ?_
  refine ok_chk (show InR _ from ⟨by dsimp only; omega, by dsimp only; omega⟩) (ok_chk (show InR _ from ⟨by dsimp only; omega, by dsimp only; omega⟩) ?_)
  refine ok_next F0 hl i4 i5 (by decide) fun x9 p9 j1 j2 j3 j4 j5 => ?_
  refine ok_chk (show InR _ from ⟨by dsimp only; omega, by dsimp only; omega⟩) ?_
  dsimp only
  refine ok_loop (fun q : Int × (Int × (Int × ((List Point) × Int))) => Pre (-1) q.2.2.2.1 q.2.2.1 q.1 ∧ 0 ≤ q.2.1 ∧ q.2.1 ≤ 1 + x9 ∧ (q.2.2.2.1.length : Int) = q.2.1 + 1 ∧ q.2.2.1 ≤ 49 * q.2.1 ∧ 10 * q.2.1 ≤ q.2.2.1 ∧ 0 ≤ q.1 ∧ q.1 ≤ 5300 ∧ Pos l q.2.2.2.2) (fun q => (4 - q.2.1).toNat)
    ⟨Pre.one (by omega), by simp, by dsimp only; omega, rfl, by simp, by simp, by dsimp only; omega, by dsimp only; omega, j4, j5⟩ (by show (4 - (0 : Int)).toNat < F; omega) fun q next hI hn => ?_
  obtain ⟨y, i, x, lst, pos⟩ := q
  obtain ⟨k1, k2, k3, k4, k5, k6, k7, k8, k9, k10⟩ := hI
  dsimp only at k1 k2 k3 k4 k5 k6 k7 k8 k9 k10 ⊢
  refine ok_brk (fun hc => ?_) (fun hc => ?_)
  · have hc := of_decide_eq_true hc
    refine ok_chk (show InR _ from ⟨by omega, by omega⟩) (ok_next F0 hl k9 k10 (by decide) fun z p q1 q2 q3 q4 q5 => ok_chk (show InR _ from ⟨by dsimp only; omega, by dsimp only; omega⟩) (ok_next F0 hl q4 q5 (by decide) fun z2 p2 r1 r2 r3 r4 r5 => ?_))
    dsimp only
    have hm := mul_nn (x := y) (y := z2) (a := 0) (A := 5300) (b := 0) (B := 100) (by omega) (by omega) (by decide) (by decide)
    have hm2 : y * z2 ≤ y * 100 := Int.mul_le_mul_of_nonneg_left (by omega) (by omega)
    generalize y * z2 = pr at hm hm2 ⊢
    refine ok_chk (show InR _ from ⟨by omega, by omega⟩) (ok_chk ⟨by omega, by omega⟩ (ok_chk (by simp; omega) (ok_chk (show InR _ from ⟨by omega, by omega⟩) (hn _ ⟨k1.snoc (by omega) (by omega) (by omega), by dsimp only; omega, by dsimp only; omega, by dsimp only; rw [snoc_len]; omega, by dsimp only; omega, by dsimp only; omega, by dsimp only; omega, by dsimp only; omega, r4, r5⟩ (by dsimp only; omega)))))
  · have hc := of_decide_eq_false hc
    have s1 := k1.steady ⟨by omega, by omega⟩
    refine ok_next F0 hl k9 k10 (by decide) fun w pw l1 l2 l3 l4 l5 => ok_next F0 hl l4 l5 (by decide) fun w2 pw2 m1 m2 m3 m4 m5 => ok_chk (show InR _ from ⟨by dsimp only; omega, by dsimp only; omega⟩) ?_
    dsimp only
    refine ok_loop (fun q : Int × (Int × (Int × ((List Point) × Int))) => Pre 1 q.2.2.2.1 q.2.2.1 q.2.1 ∧ 0 ≤ q.1 ∧ q.1 ≤ 1 + w2 ∧ (q.2.2.2.1.length : Int) = q.1 + 1 ∧ q.2.2.1 ≤ 80 * q.1 ∧ 0 ≤ q.2.2.1 ∧ 0 ≤ q.2.1 ∧ q.2.1 ≤ 50 + 765 * q.1 ∧ Pos l q.2.2.2.2) (fun q => (3 - q.1).toNat)
      ⟨Pre.one (by omega), by simp, by dsimp only; omega, rfl, by simp, by simp, by dsimp only; omega, by dsimp only; omega, m4, m5⟩ (by show (3 - (0 : Int)).toNat < F; omega) fun q next hI hn => ?_
    obtain ⟨i', y', x', lst', pos'⟩ := q
    obtain ⟨n1, n2, n3, n4, n5, n6, n7, n8, n9, n10⟩ := hI
    dsimp only at n1 n2 n3 n4 n5 n6 n7 n8 n9 n10 ⊢
    refine ok_brk (fun hc' => ?_) (fun hc' => ?_)
    · have hc' := of_decide_eq_true hc'
      refine ok_chk (show InR _ from ⟨by omega, by omega⟩) (ok_next F0 hl n9 n10 (by decide) fun z p q1 q2 q3 q4 q5 => ok_chk (show InR _ from ⟨by dsimp only; omega, by dsimp only; omega⟩) (ok_next F0 hl q4 q5 (by decide) fun z2 p2 r1 r2 r3 r4 r5 => ?_))
      dsimp only
      refine ok_chk (show InR _ from ⟨by omega, by omega⟩) (ok_chk (show InR _ from ⟨by omega, by omega⟩) (ok_chk (by simp; omega) (ok_chk (show InR _ from ⟨by omega, by omega⟩) (hn _ ⟨n1.snoc (by omega) (by omega) (by omega), by dsimp only; omega, by dsimp only; omega, by dsimp only; rw [snoc_len]; omega, by dsimp only; omega, by dsimp only; omega, by dsimp only; omega, by dsimp only; omega, r4, r5⟩ (by dsimp only; omega)))))
    · have hc' := of_decide_eq_false hc'
      have s2 := n1.steady ⟨by omega, by omega⟩
      refine ok_next F0 hl n9 n10 (by decide) fun v pv o1 o2 o3 o4 o5 => ?_
      dsimp only
      refine ok_loop (fun q : Int × (Int × (Int × ((List Point) × Int))) => Pre 1 q.2.2.2.1 q.2.2.1 q.1 ∧ (pt q.2.2.2.1 0).Y = 0 ∧ 0 ≤ q.2.1 ∧ q.2.1 ≤ v ∧ (q.2.2.2.1.length : Int) = q.2.1 + 1 ∧ q.2.2.1 ≤ 90 * q.2.1 ∧ 0 ≤ q.2.2.1 ∧ 0 ≤ q.1 ∧ q.1 ≤ 765 * q.2.1 ∧ Pos l q.2.2.2.2) (fun q => (3 - q.2.1).toNat)
        ⟨Pre.one (by omega), rfl, by simp, by dsimp only; omega, rfl, by simp, by simp, by simp, by simp, o4, o5⟩ (by show (3 - (0 : Int)).toNat < F; omega) fun q next hI hn => ?_
      obtain ⟨y3, i3, x3', lst3, pos3⟩ := q
      obtain ⟨t1, t0, t2, t3, t4, t5, t6, t7, t8, t9, t10⟩ := hI
      dsimp only at t1 t0 t2 t3 t4 t5 t6 t7 t8 t9 t10 ⊢
      refine ok_brk (fun hc3 => ?_) (fun hc3 => ?_)
      · have hc3 := of_decide_eq_true hc3
        refine ok_chk (show InR _ from ⟨by omega, by omega⟩) (ok_next F0 hl t9 t10 (by decide) fun z p q1 q2 q3 q4 q5 => ok_chk (show InR _ from ⟨by dsimp only; omega, by dsimp only; omega⟩) (ok_next F0 hl q4 q5 (by decide) fun z2 p2 r1 r2 r3 r4 r5 => ?_))
        dsimp only
        refine ok_chk (show InR _ from ⟨by omega, by omega⟩) (ok_chk (show InR _ from ⟨by omega, by omega⟩) (ok_chk (by simp; omega) (ok_chk (show InR _ from ⟨by omega, by omega⟩) (hn _ ⟨t1.snoc (by omega) (by omega) (by omega), by dsimp only; rw [pt_old (by omega) (by omega)]; exact t0, by dsimp only; omega, by dsimp only; omega, by dsimp only; rw [snoc_len]; omega, by dsimp only; omega, by dsimp only; omega, by dsimp only; omega, by dsimp only; omega, r4, r5⟩ (by dsimp only; omega)))))
      · have hc3 := of_decide_eq_false hc3
        refine ok_next F0 hl t9 t10 (by decide) fun u pu u1 u2 u3 u4 u5 => ?_
        dsimp only
        refine ok_chk (show InR _ from ⟨by omega, by omega⟩) (ok_chk (show InR _ from ⟨by omega, by omega⟩) (ok_chk (by simp; omega) (ok_some ?_)))
        have hq := (t1.snoc (x' := 400) (y' := y3 + 4 * u) (by omega) (by omega) (by omega)).steady (by rw [snoc_len]; omega)
        unfold check
        have r1 : ∀ {a b c d e f g h i j k}, 1 ≤ a → a ≤ 6 → rule1 ⟨a, b, c, d, e, f, g, h, i, j, k⟩ = true := fun h1 h2 => by simp only [rule1, within, Bool.and_eq_true, decide_eq_true_eq]; omega
        rw [if_neg, if_neg, if_neg, if_neg, if_neg, if_neg]
        · simp only [rule6, hq.1, hq.2]; rw [pt_old (by omega) (by omega), t0]; simp
        · simp only [rule5, s2.1, s2.2]; simp; omega
        · simp only [rule4, s1.1, s1.2, within]; simp; omega
        · simp only [rule3, within]; simp; omega
        · simp only [rule2, within]; simp; omega
        · simp only [rule1, within]; simp; omega
end Go.Proofs.Bk
namespace Go.Proofs.Bk
open Go Go.KX
theorem iright_eq {F : Nat} (s : Span) {n : Int} (hn : 0 ≤ n ∧ n ≤ 3) : ice_right F s n = some (rightS s n) := by
  refine Ok.eq ?_
  unfold ice_right rightS
  refine ok_bnde (b := Numbers.mk 100 400 100 3) rfl (ok_chk ⟨hn.1, by omega⟩ (ok_bnde rfl (ok_bbrk (fun h => ?_) (fun h => ?_))))
  · refine ok_bnde (b := Numbers.mk 100 400 100 3) rfl (ok_chk (fun _ => ⟨hn.1, by omega⟩) ?_)
    have h' : inI s.Lo 0 (([100, 400, 100, 3] : List Int).getD n.toNat 0) = true := h
    rw [h]
    refine ok_bnde rfl (ok_some ?_)
    rw [h']; rfl
  · refine ok_bnde rfl (ok_chk (fun h2 => by rw [h] at h2; cases h2) ?_)
    have h' : inI s.Lo 0 (([100, 400, 100, 3] : List Int).getD n.toNat 0) = false := h
    rw [h]
    refine ok_bnde rfl (ok_some ?_)
    rw [h']; rfl
theorem cell_eq {F : Nat} (hF : 1000 ≤ F) (c : Cell) : ice_CheckCell F c = some (checkCell c) := by
  refine Ok.eq ?_
  unfold ice_CheckCell
  have F0 : 0 < F := by omega
  refine ok_bnde (b := Spans.mk c.Conc c.Thick c.Ridge c.Press) rfl ?_
  have fin : ∀ b : Bool, b = (rightS c.Conc 0 && rightS c.Thick 1 && rightS c.Ridge 2 && rightS c.Press 3) → Ok (fun r => r = checkCell c) (brk (!b) (some (20 : Int)) (some 0)) := fun b hb => by
    refine ok_brk (fun h => ok_some ?_) (fun h => ok_some ?_)
    · have h : b = false := by simpa using h
      rw [hb] at h
      by_cases g : goodCell c
      · have := checkCell_ok.2 g
        unfold checkCell at this
        unfold checkCell
        simp only [all4] at this ⊢
        first
          | (rw [h] at this ⊢; simp_all)
          | simp_all
      · exact (checkCell_20 g).symm
    · have h : b = true := by simpa using h
      rw [hb] at h
      unfold checkCell
      simp only [all4]
      simp_all
  refine ok_join F0 (fun b : Bool => b = (rightS c.Conc 0 && rightS c.Thick 1 && rightS c.Ridge 2 && rightS c.Press 3)) (fun b hb => fin b hb) fun k hk => ?_
  refine ok_bnde (b := Numbers.mk 100 400 100 3) rfl ?_
  obtain ⟨n, hn⟩ : ∃ n, F = n + 5 := ⟨F - 5, by omega⟩
  subst hn
  simp only [loopC_succ]
  refine ok_brkT rfl (ok_chk (by decide) (ok_bnde (iright_eq _ (by decide)) (ok_brk (fun g => hk _ ?_) (fun g => ok_chk (by decide) ?_))))
  · have g : rightS c.Conc 0 = false := by simpa using g
    rw [g]; rfl
  have g0 : rightS c.Conc 0 = true := by simpa using g
  refine ok_brkT rfl (ok_chk (by decide) (ok_bnde (iright_eq _ (by decide)) (ok_brk (fun g => hk _ ?_) (fun g => ok_chk (by decide) ?_))))
  · have g : rightS c.Thick 1 = false := by simpa using g
    rw [g]; simp
  have g1 : rightS c.Thick 1 = true := by simpa using g
  refine ok_brkT rfl (ok_chk (by decide) (ok_bnde (iright_eq _ (by decide)) (ok_brk (fun g => hk _ ?_) (fun g => ok_chk (by decide) ?_))))
  · have g : rightS c.Ridge 2 = false := by simpa using g
    rw [g]; simp
  have g2 : rightS c.Ridge 2 = true := by simpa using g
  refine ok_brkT rfl (ok_chk (by decide) (ok_bnde (iright_eq _ (by decide)) (ok_brk (fun g => hk _ ?_) (fun g => ok_chk (by decide) ?_))))
  · have g : rightS c.Press 3 = false := by simpa using g
    rw [g]; simp
  have g3 : rightS c.Press 3 = true := by simpa using g
  refine ok_brkF rfl (hk _ ?_)
  rw [g0, g1, g2, g3]; rfl
theorem ok_great {α : Type} {post : α → Prop} {F : Nat} (hF : 1000 ≤ F) {so : Int → Bool} {lo0 hi0 : Int} (h0 : 0 ≤ lo0) (hle : lo0 ≤ hi0) (hhi : hi0 ≤ 900) {test : Int → (Bool → Option α) → Option α} (ht : ∀ v (K : Bool → Option α), lo0 ≤ v → v ≤ hi0 → Ok post (K (so v)) → Ok post (test v K))
    {K : Int × Bool → Option α} (hK : Ok post (K (great so lo0 hi0, true))) :
    Ok post (loopC (fun (x : Int × Int) => fun next => brk (decide (x.1 < x.2)) (chk (InR (x.2 - x.1)) (chk (InR (x.2 - x.1 + 1)) (chk (0 ≤ x.2 - x.1 + 1 ∧ x.2 - x.1 + 1 ≤ 9223372036854775807) (chk (InR (x.1 + (x.2 - x.1 + 1) / 2)) (join F (fun b : Bool => brk b (next ((x.1 + (x.2 - x.1 + 1) / 2, x.2))) (chk (InR (x.1 + (x.2 - x.1 + 1) / 2 - 1)) (next ((x.1, x.1 + (x.2 - x.1 + 1) / 2 - 1))))) (fun k => test (x.1 + (x.2 - x.1 + 1) / 2) k)))))) (K ((x.1, true)))) F ((lo0, hi0))) := by
  refine ok_loop (fun q : Int × Int => lo0 ≤ q.1 ∧ q.1 ≤ q.2 ∧ q.2 ≤ hi0 ∧ great so q.1 q.2 = great so lo0 hi0) (fun q => (q.2 - q.1).toNat) ⟨Int.le_refl _, hle, Int.le_refl _, rfl⟩ (by dsimp only; omega) fun q next hI hn => ?_
  obtain ⟨lo, hi⟩ := q
  obtain ⟨q1, q2, q3, q4⟩ := hI
  dsimp only at q1 q2 q3 q4 ⊢
  refine ok_brk (fun h => ?_) (fun h => ?_)
  · have h : lo < hi := of_decide_eq_true h
    refine ok_chk (show InR _ from ⟨by omega, by omega⟩) (ok_chk (show InR _ from ⟨by omega, by omega⟩) (ok_chk ⟨by omega, by omega⟩ (ok_chk (show InR _ from ⟨by omega, by omega⟩) (ok_join (by omega) (fun b => b = so (lo + (hi - lo + 1) / 2)) (fun b hb => ?_) fun k hk => ht _ _ (by omega) (by omega) (hk _ rfl)))))
    rw [great_step h] at q4
    refine ok_brk (fun g => hn _ ⟨by dsimp only; omega, by dsimp only; omega, by dsimp only; omega, ?_⟩ (by dsimp only; omega)) (fun g => ok_chk (show InR _ from ⟨by omega, by omega⟩) (hn _ ⟨by dsimp only; omega, by dsimp only; omega, by dsimp only; omega, ?_⟩ (by dsimp only; omega)))
    · rw [if_pos (by rw [← hb]; exact g)] at q4; exact q4
    · rw [if_neg (by rw [← hb, g]; simp)] at q4; exact q4
  · have h : ¬ lo < hi := of_decide_eq_false h
    rw [great_done h] at q4
    rw [← q4] at hK
    exact hK
theorem hmet_eq {F : Nat} (hF : 1000 ≤ F) {s : Ship} (h1 : s.Thrust.length ≤ 900) (h2 : s.Water.length ≤ 900) (h3 : s.Ice.length ≤ 900) (c : Cell) : hull_met F s c = some (met s c) := by
  refine Ok.eq ?_
  unfold hull_met met
  refine ok_bnde (check_eq hF h1 h2 h3) (ok_brk (fun h => ok_some ?_) (fun h => ok_bnde (cell_eq hF c) (ok_some ?_)))
  · have h : check s ≠ 0 := by simpa using h
    rw [if_pos h]
  · have h : check s = 0 := by simpa using h
    rw [if_neg (by simp [h])]
end Go.Proofs.Bk
namespace Go.Proofs.Bk
open Go Go.KX
noncomputable def speedM {α : Type} (F : Nat) (s : Ship) (i : Ice) (ch : Bool) (K : Int × Bool → Option α) : Option α :=
  join F (fun b : Bool => brk (!b) (K ((0, false))) (loopC (fun (x : Int × Int) => fun next => brk (decide (x.1 < x.2)) (chk (InR (x.2 - x.1)) (chk (InR (x.2 - x.1 + 1)) (chk (0 ≤ x.2 - x.1 + 1 ∧ x.2 - x.1 + 1 ≤ 9223372036854775807) (chk (InR (x.1 + (x.2 - x.1 + 1) / 2)) (join F (fun b : Bool => brk b (next ((x.1 + (x.2 - x.1 + 1) / 2, x.2))) (chk (InR (x.1 + (x.2 - x.1 + 1) / 2 - 1)) (next ((x.1, x.1 + (x.2 - x.1 + 1) / 2 - 1))))) (fun k => makesM F s i (x.1 + (x.2 - x.1 + 1) / 2) ch k)))))) (K ((x.1, true)))) F ((0, 250)))) (fun k => makesM F s i 0 ch k)
theorem speedM_ok {α : Type} {post : α → Prop} {F : Nat} (hF : 1000 ≤ F) {s : Ship} (hc : check s = 0) {i : Ice} (hi : goodIce i) (ch : Bool) {K : Int × Bool → Option α} (h : ∀ x : Int × Bool, x.1 = speed s i ch → Ok post (K x)) : Ok post (speedM F s i ch K) := by
  unfold speedM
  refine ok_join (by omega) (fun b : Bool => b = makes s i ch 0) (fun b hb => ?_) fun k2 hk2 => makes_ok hF hc hi (v := 0) (by decide) ch (hk2 _ rfl)
  refine ok_brk (fun g => h _ ?_) (fun g => ?_)
  · have g : b = false := by simpa using g
    unfold speed greatest
    rw [if_neg (by show ¬ makes s i ch 0 = true; rw [← hb, g]; simp)]
  · have g : b = true := by simpa using g
    refine ok_great hF (so := fun v => makes s i ch v) (by decide) (by decide) (by decide) (test := fun v K => makesM F s i v ch K) (fun v K h1 h2 h3 => makes_ok hF hc hi (by omega) ch h3) (K := K) (h _ ?_)
    unfold speed greatest
    rw [if_pos (show makes s i ch 0 = true by rw [← hb, g])]
structure SpansOf (P : Int → Bool) (n : Nat) (l : List Span) : Prop where
  le : l.length ≤ n
  at' : ∀ i : Nat, i < l.length → 10 ≤ (l.getD i ⟨0, 0⟩).Lo ∧ (l.getD i ⟨0, 0⟩).Lo ≤ (l.getD i ⟨0, 0⟩).Hi ∧ (l.getD i ⟨0, 0⟩).Hi < 10 + n ∧ ∀ v, (l.getD i ⟨0, 0⟩).Lo ≤ v → v ≤ (l.getD i ⟨0, 0⟩).Hi → P v = true
  none : l.length = 0 → ∀ v : Int, 10 ≤ v → v < 10 + n → P v = false
end Go.Proofs.Bk
namespace Go.Proofs.Bk
open Go Go.KX
theorem one_bd {s : Span} {m x : Int} (hs : goodSpan s m) (hx : 0 ≤ x) : 0 ≤ x % (s.Hi - s.Lo + 1) ∧ x % (s.Hi - s.Lo + 1) ≤ s.Hi - s.Lo := by
  unfold goodSpan at hs
  have h1 := Int.emod_nonneg x (show s.Hi - s.Lo + 1 ≠ 0 by omega)
  have h2 := Int.emod_lt_of_pos x (show 0 < s.Hi - s.Lo + 1 by omega)
  omega
theorem some_ok {F : Nat} (hF : 1000 ≤ F) {c : Cell} (hg : goodCell c) {l : List Int} (hl : Bytes l) : Ok (fun i => goodIce i ∧ LeI i (lastI c)) (law03_Some F c l) := by
  have F0 : 0 < F := by omega
  unfold law03_Some
  obtain ⟨g1, g2, g3, g4⟩ := hg
  have b1 := g1; have b2 := g2; have b3 := g3; have b4 := g4
  unfold goodSpan at b1 b2 b3 b4
  refine ok_next0 F0 hl (by decide) fun x1 p1 a1 a2 a3 a4 a5 => ok_next F0 hl a4 a5 (by decide) fun y1 q1 c1 c2 c3 c4 c5 => ?_
  have r1 := one_bd (x := x1 + 256 * y1) g1 (by omega)
  dsimp only
  refine ok_chk (show InR _ from ⟨by omega, by omega⟩) (ok_chk (show InR _ from ⟨by omega, by omega⟩) (ok_chk (show InR _ from ⟨by omega, by omega⟩) (ok_chk (show InR _ from ⟨by omega, by omega⟩) (ok_chk ⟨⟨by omega, by omega⟩, by omega⟩ (ok_chk (show InR _ from ⟨by omega, by omega⟩) ?_)))))
  refine ok_next F0 hl c4 c5 (by decide) fun x2 p2 d1 d2 d3 d4 d5 => ok_next F0 hl d4 d5 (by decide) fun y2 q2 e1 e2 e3 e4 e5 => ?_
  have r2 := one_bd (x := x2 + 256 * y2) g2 (by omega)
  dsimp only
  refine ok_chk (show InR _ from ⟨by omega, by omega⟩) (ok_chk (show InR _ from ⟨by omega, by omega⟩) (ok_chk (show InR _ from ⟨by omega, by omega⟩) (ok_chk (show InR _ from ⟨by omega, by omega⟩) (ok_chk ⟨⟨by omega, by omega⟩, by omega⟩ (ok_chk (show InR _ from ⟨by omega, by omega⟩) ?_)))))
  refine ok_next F0 hl e4 e5 (by decide) fun x3 p3 f1 f2 f3 f4 f5 => ok_next F0 hl f4 f5 (by decide) fun y3 q3 h1 h2 h3 h4 h5 => ?_
  have r3 := one_bd (x := x3 + 256 * y3) g3 (by omega)
  dsimp only
  refine ok_chk (show InR _ from ⟨by omega, by omega⟩) (ok_chk (show InR _ from ⟨by omega, by omega⟩) (ok_chk (show InR _ from ⟨by omega, by omega⟩) (ok_chk (show InR _ from ⟨by omega, by omega⟩) (ok_chk ⟨⟨by omega, by omega⟩, by omega⟩ (ok_chk (show InR _ from ⟨by omega, by omega⟩) ?_)))))
  refine ok_next F0 hl h4 h5 (by decide) fun x4 p4 i1 i2 i3 i4 i5 => ok_next F0 hl i4 i5 (by decide) fun y4 q4 j1 j2 j3 j4 j5 => ?_
  have r4 := one_bd (x := x4 + 256 * y4) g4 (by omega)
  dsimp only
  refine ok_chk (show InR _ from ⟨by omega, by omega⟩) (ok_chk (show InR _ from ⟨by omega, by omega⟩) (ok_chk (show InR _ from ⟨by omega, by omega⟩) (ok_chk (show InR _ from ⟨by omega, by omega⟩) (ok_chk ⟨⟨by omega, by omega⟩, by omega⟩ (ok_chk (show InR _ from ⟨by omega, by omega⟩) (ok_some ?_))))))
  refine ⟨⟨⟨by dsimp only; omega, by dsimp only; omega⟩, ⟨by dsimp only; omega, by dsimp only; omega⟩, ⟨by dsimp only; omega, by dsimp only; omega⟩, by dsimp only; omega, by dsimp only; omega⟩, ?_⟩
  exact ⟨by show _ ≤ c.Conc.Hi; dsimp only; omega, by show _ ≤ c.Thick.Hi; dsimp only; omega, by show _ ≤ c.Ridge.Hi; dsimp only; omega, by show _ ≤ c.Press.Hi; dsimp only; omega⟩
end Go.Proofs.Bk
namespace Go.Proofs.Bk
open Go Go.KX
theorem first_two {F : Nat} (hF : 1000 ≤ F) : ice_first F [0, 0] = some 0 := by
  obtain ⟨n, hn⟩ : ∃ n, F = n + 5 := ⟨F - 5, by omega⟩
  subst hn
  refine Ok.eq ?_
  unfold ice_first
  simp only [loopC_succ]
  exact ok_brkT rfl (ok_chk (by decide) (ok_brkF rfl (ok_chk (by decide) (ok_brkT rfl (ok_chk (by decide) (ok_brkF rfl (ok_chk (by decide) (ok_brkF rfl (ok_some rfl)))))))))
def mxK (x y : Int) : Int := if y > x then y else x
def mnK (x y : Int) : Int := if y < x then y else x
def meetK (s t : Span) : Span := ⟨mxK s.Lo t.Lo, mnK s.Hi t.Hi⟩
theorem meetK_in {s t : Span} {m : Int} (hs : goodSpan s m) (h : (meetK s t).Lo ≤ (meetK s t).Hi) : goodSpan (meetK s t) m ∧ InS (meetK s t) s ∧ InS (meetK s t) t := by
  unfold goodSpan InS meetK mxK mnK at *
  dsimp only at *
  split at h <;> split at h <;> refine ⟨⟨?_, ?_, ?_⟩, ⟨?_, ?_⟩, ?_, ?_⟩ <;> (try split) <;> (try split) <;> omega
theorem cell_good {F : Nat} (hF : 1000 ≤ F) {c : Cell} (hg : goodCell c) : ice_CheckCell F c = some 0 := by rw [cell_eq hF c, checkCell_ok.2 hg]
theorem iMeet_ok {F : Nat} (hF : 1000 ≤ F) {a b : Cell} (ha : goodCell a) (hb : goodCell b) : Ok (fun q => (q.2 = 0 ∧ goodCell q.1 ∧ InC q.1 a ∧ InC q.1 b) ∨ q.2 = 21) (ice_Meet F a b) := by
  have F0 : 0 < F := by omega
  unfold ice_Meet
  refine ok_bnde (cell_good hF ha) (ok_bnde (cell_good hF hb) (ok_bnde (first_two hF) (ok_brkF rfl (ok_bnde (b := Spans.mk a.Conc a.Thick a.Ridge a.Press) rfl (ok_bnde (b := Spans.mk b.Conc b.Thick b.Ridge b.Press) rfl ?_)))))
  refine ok_bnd (fun q => q.2 = true → goodCell (cellOfS q.1) ∧ InC (cellOfS q.1) a ∧ InC (cellOfS q.1) b) ?_ fun q hq => ok_brk (fun h => ok_some (.inr rfl)) (fun h => ok_bnde (b := cellOfS q.1) rfl (ok_some (.inl ⟨rfl, hq (by simpa using h)⟩)))
  unfold ice_spans_meet
  let M : Spans := ⟨meetK a.Conc b.Conc, meetK a.Thick b.Thick, meetK a.Ridge b.Ridge, meetK a.Press b.Press⟩
  have fin : (meetK a.Conc b.Conc).Lo ≤ (meetK a.Conc b.Conc).Hi → (meetK a.Thick b.Thick).Lo ≤ (meetK a.Thick b.Thick).Hi → (meetK a.Ridge b.Ridge).Lo ≤ (meetK a.Ridge b.Ridge).Hi → (meetK a.Press b.Press).Lo ≤ (meetK a.Press b.Press).Hi → goodCell (cellOfS M) ∧ InC (cellOfS M) a ∧ InC (cellOfS M) b := fun h1 h2 h3 h4 => by
    obtain ⟨a1, a2, a3⟩ := meetK_in ha.1 h1
    obtain ⟨b1, b2, b3⟩ := meetK_in ha.2.1 h2
    obtain ⟨c1, c2, c3⟩ := meetK_in ha.2.2.1 h3
    obtain ⟨d1, d2, d3⟩ := meetK_in ha.2.2.2 h4
    exact ⟨⟨a1, b1, c1, d1⟩, ⟨a2, b2, c2, d2⟩, ⟨a3, b3, c3, d3⟩⟩
  refine ok_join F0 (fun x : Bool => x = true → goodCell (cellOfS M) ∧ InC (cellOfS M) a ∧ InC (cellOfS M) b) (fun x hx => ok_some hx) fun k hk => ok_bnde (b := Numbers.mk 100 400 100 3) rfl ?_
  obtain ⟨n, hn⟩ : ∃ n, F = n + 5 := ⟨F - 5, by omega⟩
  subst hn
  simp only [loopC_succ]
  refine ok_brkT rfl (ok_chk (by decide) (ok_chk (by decide) (ok_brk (fun _ => hk _ (fun h => nomatch h)) (fun g1 => ok_chk (by decide) ?_))))
  refine ok_brkT rfl (ok_chk (by decide) (ok_chk (by decide) (ok_brk (fun _ => hk _ (fun h => nomatch h)) (fun g2 => ok_chk (by decide) ?_))))
  refine ok_brkT rfl (ok_chk (by decide) (ok_chk (by decide) (ok_brk (fun _ => hk _ (fun h => nomatch h)) (fun g3 => ok_chk (by decide) ?_))))
  refine ok_brkT rfl (ok_chk (by decide) (ok_chk (by decide) (ok_brk (fun _ => hk _ (fun h => nomatch h)) (fun g4 => ok_chk (by decide) ?_))))
  have g1 : (!decide ((meetK a.Conc b.Conc).Lo ≤ (meetK a.Conc b.Conc).Hi)) = false := g1
  have g2 : (!decide ((meetK a.Thick b.Thick).Lo ≤ (meetK a.Thick b.Thick).Hi)) = false := g2
  have g3 : (!decide ((meetK a.Ridge b.Ridge).Lo ≤ (meetK a.Ridge b.Ridge).Hi)) = false := g3
  have g4 : (!decide ((meetK a.Press b.Press).Lo ≤ (meetK a.Press b.Press).Hi)) = false := g4
  refine ok_brkF rfl (hk _ fun _ => fin ?_ ?_ ?_ ?_)
  · simpa using g1
  · simpa using g2
  · simpa using g3
  · simpa using g4
structure Pairs (w n : List Cell) : Prop where
  len : w.length = n.length
  le : w.length ≤ 10
  at' : ∀ i : Nat, i < w.length → goodCell (w.getD i ⟨⟨0, 0⟩, ⟨0, 0⟩, ⟨0, 0⟩, ⟨0, 0⟩⟩) ∧ goodCell (n.getD i ⟨⟨0, 0⟩, ⟨0, 0⟩, ⟨0, 0⟩, ⟨0, 0⟩⟩) ∧ InC (n.getD i ⟨⟨0, 0⟩, ⟨0, 0⟩, ⟨0, 0⟩, ⟨0, 0⟩⟩) (w.getD i ⟨⟨0, 0⟩, ⟨0, 0⟩, ⟨0, 0⟩, ⟨0, 0⟩⟩)
end Go.Proofs.Bk

namespace Go.Proofs.Bk
open Go Go.KX
theorem awake_eq : law06_awake 1000000000000000 = some true := by kernel_rfl
end Go.Proofs.Bk

namespace Go.Proofs.Bk
open Go Go.KX
theorem check_good {F : Nat} (hF : 1000 ≤ F) {s : Ship} (hc : check s = 0) : hull_Check F s = some 0 := by
  have h1 := (steady_len (check_steadyThrust hc)).2
  have h2 := (steady_len (check_steadyWater hc)).2
  have h3 := (steady_len (check_steadyIce hc)).2
  rw [check_eq hF (by omega) (by omega) (by omega), hc]
theorem met_good {F : Nat} (hF : 1000 ≤ F) {s : Ship} (hc : check s = 0) {c : Cell} (hg : goodCell c) : hull_met F s c = some 0 := by
  have h1 := (steady_len (check_steadyThrust hc)).2
  have h2 := (steady_len (check_steadyWater hc)).2
  have h3 := (steady_len (check_steadyIce hc)).2
  rw [hmet_eq hF (by omega) (by omega) (by omega)]
  unfold met
  rw [if_neg (by simp [hc]), checkCell_ok.2 hg]
theorem speeds_ok {F : Nat} (hF : 1000 ≤ F) {s : Ship} (hc : check s = 0) {c : Cell} (hg : goodCell c) (ch : Bool) : Ok (fun r => r.2 = 0 ∧ (r.1.Lo < 10 ↔ speed s (lastI c) ch < 10)) (hull_Speeds F s c ch) := by
  have F0 : 0 < F := by omega
  have hsf := speed_mono hc (goodCell_first hg) (goodCell_last hg) (first_le_last hg) ch
  unfold hull_Speeds
  refine ok_bnde (met_good hF hc hg) (ok_brkF rfl (ok_join F0 (fun x : Int × Int => x.2 < 10 ↔ speed s (lastI c) ch < 10) (fun x hx => ok_some ⟨rfl, hx⟩) fun k hk => ok_bnde (b := firstI c) rfl ?_))
  refine ok_join F0 (fun x : Int × Bool => x.1 = speed s (firstI c) ch) (fun x hx => ok_bnde (b := firstI c) rfl (ok_bnde (b := lastI c) rfl (ok_brk (fun g => ok_bnde (b := lastI c) rfl ?_) (fun g => hk _ ?_)))) fun k2 hk2 => speedM_ok hF hc (goodCell_first hg) ch (K := k2) hk2
  · refine ok_join F0 (fun y : Int × Bool => y.1 = speed s (lastI c) ch) (fun y hy => hk _ ?_) fun k2 hk2 => speedM_ok hF hc (goodCell_last hg) ch (K := k2) hk2
    dsimp only
    rw [hx, hy]
    split <;> (try split) <;> (try split at *) <;> omega
  · have e : firstI c = lastI c := by
      simp only [Bool.not_eq_false', Bool.and_eq_true, beq_iff_eq, and_true] at g
      obtain ⟨e1, e2, e3, e4⟩ := g
      show Ice.mk _ _ _ _ = Ice.mk _ _ _ _
      rw [show c.Conc.Lo = c.Conc.Hi from e1, show c.Thick.Lo = c.Thick.Hi from e2, show c.Ridge.Lo = c.Ridge.Hi from e3, show c.Press.Lo = c.Press.Hi from e4]
    dsimp only
    rw [hx, e]
    split <;> omega
theorem beset_ok {F : Nat} (hF : 1000 ≤ F) {s : Ship} (hc : check s = 0) {c : Cell} (hg : goodCell c) (ch : Bool) : Ok (fun r => r.2.2 = 0 ∧ (r.1 = true ↔ speed s (lastI c) ch < 10)) (hull_Beset F s c ch) := by
  unfold hull_Beset
  refine ok_bnd _ (speeds_ok hF hc hg ch) fun r ⟨h1, h2⟩ => ?_
  rw [h1]
  exact ok_brkF rfl (ok_some ⟨rfl, by dsimp only; rw [decide_eq_true_iff]; exact h2⟩)
def iceP (c : Cell) (p : Int) : Ice := ⟨c.Conc.Hi, c.Thick.Hi, c.Ridge.Hi, p⟩
def okP (s : Ship) (c : Cell) (p : Int) : Prop := 10 ≤ speed s (iceP c p) true
def atP (c : Cell) (p : Int) : Cell := ⟨c.Conc, c.Thick, c.Ridge, ⟨p, p⟩⟩
theorem atP_good {c : Cell} (hg : goodCell c) {p : Int} (hp : 0 ≤ p ∧ p ≤ 3) : goodCell (atP c p) := ⟨hg.1, hg.2.1, hg.2.2.1, ⟨hp.1, Int.le_refl _, hp.2⟩⟩
theorem iceP_good {c : Cell} (hg : goodCell c) {p : Int} (hp : 0 ≤ p ∧ p ≤ 3) : goodIce (iceP c p) := goodCell_last (atP_good hg hp)
theorem okP_le {s : Ship} (hc : check s = 0) {i : Ice} (hi : goodIce i) {c : Cell} (hg : goodCell c) {q : Int} (hq : 0 ≤ q ∧ q ≤ 3) (hle : LeI i (iceP c q)) (h : okP s c q) : 10 ≤ speed s i true :=
  Int.le_trans h (speed_mono hc hi (iceP_good hg hq) hle true)
theorem okP_down {s : Ship} (hc : check s = 0) {c : Cell} (hg : goodCell c) {p q : Int} (hp : 0 ≤ p) (hpq : p ≤ q) (hq : q ≤ 3) (h : okP s c q) : okP s c p :=
  okP_le hc (iceP_good hg ⟨hp, by omega⟩) hg ⟨by omega, hq⟩ ⟨Int.le_refl _, Int.le_refl _, Int.le_refl _, hpq⟩ h
def CalmR (s : Ship) (c : Cell) (r : Int × Int) : Prop := (r.2 = 4 ∧ ¬ okP s c 0) ∨ (r.2 = 0 ∧ 0 ≤ r.1 ∧ r.1 ≤ 3 ∧ okP s c r.1 ∧ (r.1 < 3 → ¬ okP s c (r.1 + 1)))
theorem calm_ok {F : Nat} (hF : 1000 ≤ F) {s : Ship} (hc : check s = 0) {c : Cell} (hg : goodCell c) : Ok (CalmR s c) (breaker_Calm F s c) := by
  unfold breaker_Calm
  refine ok_bnde (check_good hF hc) (ok_brkF rfl (ok_bnde (cell_good hF hg) (ok_brkF rfl ?_)))
  refine ok_loop (fun q : Int × Int × Int => -1 ≤ q.1 ∧ q.1 ≤ 3 ∧ (q.1 < 3 → ¬ okP s c (q.1 + 1))) (fun q => (q.1 + 1).toNat) ⟨by dsimp only; omega, by dsimp only; omega, fun h => by dsimp only at h; omega⟩ (by show (4 : Int).toNat < F; omega) fun q next hI hn => ?_
  obtain ⟨h0, h1, h2⟩ := hI
  refine ok_brk (fun g => ?_) (fun g => ok_some (.inl ⟨rfl, ?_⟩))
  · have g : 0 ≤ q.1 := of_decide_eq_true g
    refine ok_bnd _ (beset_ok hF hc (c := atP c q.1) (atP_good hg ⟨g, h1⟩) true) fun r ⟨r1, r2⟩ => ?_
    have hl : speed s (lastI (atP c q.1)) true = speed s (iceP c q.1) true := rfl
    rw [hl] at r2
    refine ok_brk (fun k => ok_some (.inr ⟨rfl, g, h1, ?_, h2⟩)) (fun k => ok_chk (show InR _ from ⟨by omega, by omega⟩) (hn _ ⟨by dsimp only; omega, by dsimp only; omega, fun _ => ?_⟩ (by dsimp only; omega)))
    · rw [r1] at k
      have k : r.1 = false := by simpa using k
      show (10 : Int) ≤ speed s (iceP c q.1) true
      have : ¬ speed s (iceP c q.1) true < 10 := fun h => by rw [r2.2 h] at k; cases k
      omega
    · rw [r1] at k
      have k : r.1 = true := by simpa using k
      have := r2.1 k
      show ¬ (10 : Int) ≤ speed s (iceP c (q.1 - 1 + 1)) true
      rw [show q.1 - 1 + 1 = q.1 by omega]
      have e : speed s (iceP c q.1) true < 10 := this
      omega
  · have g : ¬ 0 ≤ q.1 := of_decide_eq_false g
    have e : q.1 = -1 := by omega
    have := h2 (by omega)
    rw [e] at this
    exact this
theorem breakerCalm_ok' {F : Nat} (hF : F = 1000000000000000) {l c d k : List Int} {press : Int} (hl : Bytes l) (hc : Bytes c) (hd : Bytes d) (hk : Bytes k) (hp : 0 ≤ press ∧ press ≤ 255) : Ok (fun b => b = true) (law06_BreakerCalm F l c d k press) := by
  have hF1 : 1000 ≤ F := by omega
  have F0 : 0 < F := by omega
  unfold law06_BreakerCalm
  refine ok_bnd _ (shipMade_ok hF1 hl) fun s hs => ok_bnd _ (frozen_ok hF1 hc) fun c1 g1 => ok_bnd _ (frozen_ok hF1 hd) fun c2 g2 => ok_bnd _ (calm_ok hF1 hs g1) fun r hr => ok_bnd _ (some_ok hF1 g1 hk) fun i ⟨hi, hil⟩ => ?_
  refine ok_chk (show InR _ from ⟨by omega, by omega⟩) (ok_chk ⟨by omega, by omega⟩ (ok_bnde (b := Cell.mk ⟨i.Conc, i.Conc⟩ ⟨i.Thick, i.Thick⟩ ⟨i.Ridge, i.Ridge⟩ ⟨press % 4, press % 4⟩) rfl ?_))
  have hpm : 0 ≤ press % 4 ∧ press % 4 ≤ 3 := by omega
  have hj : goodIce ⟨i.Conc, i.Thick, i.Ridge, press % 4⟩ := ⟨hi.1, hi.2.1, hi.2.2.1, hpm⟩
  refine ok_bnd _ (beset_ok hF1 hs (c := Cell.mk ⟨i.Conc, i.Conc⟩ ⟨i.Thick, i.Thick⟩ ⟨i.Ridge, i.Ridge⟩ ⟨press % 4, press % 4⟩) ⟨⟨hi.1.1, Int.le_refl _, hi.1.2⟩, ⟨hi.2.1.1, Int.le_refl _, hi.2.1.2⟩, ⟨hi.2.2.1.1, Int.le_refl _, hi.2.2.1.2⟩, ⟨hpm.1, Int.le_refl _, hpm.2⟩⟩ true) fun b ⟨b1, b2⟩ => ?_
  have hb2 : b.1 = true ↔ speed s ⟨i.Conc, i.Thick, i.Ridge, press % 4⟩ true < 10 := b2
  refine ok_brkF ?_ ?_
  · rw [b1]
    rcases hr with ⟨r1, _⟩ | ⟨r1, r2, r3, r4, _⟩
    · rw [r1]; rfl
    · rw [r1]
      by_cases hq : press % 4 ≤ r.1
      · have := okP_le hs hj g1 ⟨r2, r3⟩ ⟨hil.1, hil.2, hil.3, hq⟩ r4
        have : b.1 = false := by
          cases e : b.1 with
          | false => rfl
          | true => have := hb2.1 e; omega
        rw [this]
        simp
      · rw [decide_eq_false hq]
        rfl
  refine ok_join F0 (fun x : Int => -1 ≤ x ∧ x ≤ 3 ∧ (0 ≤ x → okP s c1 x) ∧ (x < 3 → ¬ okP s c1 (x + 1))) (fun x hx => ?_) fun kk hkk => ok_brk (fun h => hkk _ ?_) (fun h => hkk _ ?_)
  · obtain ⟨x0, x1, x2, x3⟩ := hx
    refine ok_join F0 (fun _ : Int × Int => True) (fun y _ => ?_) fun kk hkk => ok_brk (fun h => ?_) (fun h => hkk _ trivial)
    · refine ok_bnd _ (iMeet_ok hF1 (a := atP c1 0) (b := atP c2 0) (atP_good g1 (by decide)) (atP_good g2 (by decide))) fun q hq => ?_
      refine ok_join F0 (fun _ : PUnit => True) (fun _ _ => ok_bnde (by rw [hF]; exact awake_eq) (ok_some rfl)) fun kk hkk => ok_brk (fun h => ?_) (fun h => hkk _ trivial)
      have hq2 : q.2 = 0 := by simpa using h
      rcases hq with ⟨_, gq, iq, _⟩ | hq
      · refine ok_bnd _ (calm_ok hF1 hs gq) fun n hn => ok_brkF ?_ (hkk _ trivial)
        by_cases hx : 0 ≤ x
        · have hok : okP s q.1 x := by
            have h1 := iq.conc.2
            have h2 := iq.thick.2
            have h3 := iq.ridge.2
            exact okP_le hs (iceP_good gq ⟨hx, x1⟩) g1 ⟨hx, x1⟩ ⟨h1, h2, h3, Int.le_refl _⟩ (x2 hx)
          rcases hn with ⟨_, n2⟩ | ⟨n1, n2, n3, n4, n5⟩
          · exact absurd (okP_down hs gq (by decide) hx x1 hok) n2
          · have : ¬ n.1 < x := fun hlt => n5 (by omega) (okP_down hs gq (by omega) (by omega) x1 hok)
            rw [n1, decide_eq_false this]
            simp
        · rw [decide_eq_false (by omega)]
          rfl
      · rw [hq] at hq2; cases hq2
    · have h : x < 3 := of_decide_eq_true h
      refine ok_chk (show InR _ from ⟨by omega, by omega⟩) (ok_chk (show InR _ from ⟨by omega, by omega⟩) (ok_bnd _ (beset_ok hF1 hs (c := atP c1 (x + 1)) (atP_good g1 ⟨by omega, by omega⟩) true) fun r ⟨r1, r2⟩ => ok_brkF ?_ (hkk _ trivial)))
      have : r.1 = true := r2.2 (by
        have := x3 h
        show speed s (iceP c1 (x + 1)) true < 10
        unfold okP at this
        omega)
      rw [r1, this]
      rfl
  · have h : r.2 = 4 := by simpa using h
    rcases hr with ⟨_, r2⟩ | ⟨r1, _⟩
    · exact ⟨by decide, by decide, fun h => absurd h (by decide), fun _ => r2⟩
    · rw [h] at r1; cases r1
  · have h : r.2 ≠ 4 := by simpa using h
    rcases hr with ⟨r1, _⟩ | ⟨_, r2, r3, r4, r5⟩
    · exact absurd r1 h
    · exact ⟨by omega, r3, fun _ => r4, r5⟩
theorem calm_law {l c d k : List Int} {press : Int} (h1 : (∀ x ∈ l, 0 ≤ x ∧ x ≤ 255) ∧ l.length ≤ 9223372036854775807) (h2 : (∀ x ∈ c, 0 ≤ x ∧ x ≤ 255) ∧ c.length ≤ 9223372036854775807) (h3 : (∀ x ∈ d, 0 ≤ x ∧ x ≤ 255) ∧ d.length ≤ 9223372036854775807) (h4 : (∀ x ∈ k, 0 ≤ x ∧ x ≤ 255) ∧ k.length ≤ 9223372036854775807) (h5 : 0 ≤ press ∧ press ≤ 255) : law06_BreakerCalm 1000000000000000 l c d k press = some true :=
  (breakerCalm_ok' rfl ⟨h1.1, h1.2⟩ ⟨h2.1, h2.2⟩ ⟨h3.1, h3.2⟩ ⟨h4.1, h4.2⟩ h5).eq
end Go.Proofs.Bk

namespace Go.KX
open Go Go.ChangeShapes Go.WideShapes Go.RowKit
def goodT (P : Program) : Nat → TypeId → Bool
  | 0, _ => false
  | n + 1, t => match P.underlying t with
    | some (.int _) => true
    | some .bool => true
    | some (.struct fs) => fs.toList.all fun f => goodT P n f.type
    | some (.array _ e) => goodT P n e
    | some (.slice e) => goodT P n e && Nat.ble 1 (P.cellsOf e)
    | _ => false
theorem mapM_carry' {α β : Type} {f g : α → Option β} : ∀ {l : List α} {r : List β}, l.mapM f = some r → (∀ x y, x ∈ l → y ∈ r → f x = some y → g x = some y) → l.mapM g = some r := mapM_carry
section
variable {H : Type} {enc : TypeId × Value → H} {P : Program} {w : World} {base : Nat} {held : Bool}
theorem trod_spare {sp : Nat → Bool} : ∀ (m n : Nat) (t : TypeId) (cs : List Value) (x : DataW H × List MemPlace), goodT P m t = true →
    DataW.trod enc P w base (fun _ => true) held n t cs = some x → (∀ p ∈ x.2, sp p.block = true) → DataW.trod enc P w base sp held n t cs = some x := by
  intro m
  induction m with
  | zero => intro n t cs x h; cases h
  | succ m ih =>
    intro n t cs x hg h hs
    cases n with
    | zero => simp [DataW.trod] at h
    | succ n =>
      rw [DataW.trod_step] at h ⊢
      unfold goodT at hg
      unfold DataW.trodStep at h ⊢
      split at h
      case h_1 => exact h
      case h_2 => exact h
      case h_8 e a len cap hu =>
        rw [hu] at hg
        simp only [Bool.and_eq_true] at hg
        simp only at h ⊢
        split at h
        · rename_i hc
          rw [if_pos hc]
          simp only [if_true, Option.map_eq_some_iff, Option.bind_eq_some_iff] at h ⊢
          obtain ⟨elems, he, rest, hr, rfl⟩ := h
          have hlen : elems.length = len := by simpa using mapM_some_length he
          have hrlen : rest.length = cap - len := by simpa using mapM_some_length hr
          have hk : 1 ≤ P.cellsOf e := Nat.le_of_ble_eq_true hg.2
          have one : ∀ i y, (w.cells? base (a.add (i * P.cellsOf e)) (P.cellsOf e)).bind (DataW.trod enc P w base (fun _ => true) held n e) = some y → (∀ p ∈ y.2, sp p.block = true) →
              (w.cells? base (a.add (i * P.cellsOf e)) (P.cellsOf e)).bind (DataW.trod enc P w base sp held n e) = some y := by
            intro i y hy hp
            rw [Option.bind_eq_some_iff] at hy ⊢
            obtain ⟨cs', h1, h2⟩ := hy
            exact ⟨cs', h1, ih n e cs' y hg.1 h2 hp⟩
          have hpl : ∀ y, y ∈ elems ++ rest → ∀ p ∈ y.2, sp p.block = true := fun y hy p hp => hs p (by
            simp only [List.mem_append]
            exact .inr (List.mem_flatMap.2 ⟨y, hy, hp⟩))
          refine ⟨elems, mapM_carry' he fun i y hi hy hiy => one i y hiy (hpl y (by simp [hy])), rest, ?_, rfl⟩
          by_cases hcap : cap = 0
          · have : rest = [] := List.length_eq_zero_iff.1 (by omega)
            subst this
            split
            · rw [show cap - len = 0 by omega]; rfl
            · rfl
          · have : sp a.block = true := by
              have := hs (.cell a.block (a.off + 0)) (by
                simp only [List.mem_append]
                refine .inl (MemPlace.mem_row.2 ⟨0, ?_, rfl⟩)
                rw [hlen, hrlen, show len + (cap - len) = cap by omega]
                exact Nat.mul_pos (by omega) hk)
              exact this
            rw [if_pos this]
            exact mapM_carry' hr fun j y hj hy hjy => one _ y hjy (hpl y (by simp [hy]))
        · cases h
      case h_7 => exact h
      case h_9 fs cs' hu =>
        rw [hu] at hg
        simp only at hg
        split at h
        · rename_i hl
          rw [if_pos hl]
          simp only [Option.map_eq_some_iff] at h ⊢
          obtain ⟨xs, hx, rfl⟩ := h
          refine ⟨xs, mapM_carry' hx fun f y hf hy hfy => ih n f.type _ y (List.all_eq_true.1 hg f hf) hfy fun p hp => hs p ?_, rfl⟩
          exact List.mem_flatMap.2 ⟨y, hy, hp⟩
        · cases h
      case h_10 =>
        rename_i e hu
        rw [hu] at hg
        simp only at hg
        split at h
        · rename_i hl
          rw [if_pos hl]
          simp only [Option.map_eq_some_iff] at h ⊢
          obtain ⟨xs, hx, rfl⟩ := h
          refine ⟨xs, mapM_carry' hx fun f y hf hy hfy => ih n e _ y hg hfy fun p hp => hs p ?_, rfl⟩
          exact List.mem_flatMap.2 ⟨y, hy, hp⟩
        · cases h
      all_goals simp_all
theorem trod_move {w' : World} {sp : Nat → Bool} {t : TypeId} {v : Value} {d : DataW H} {ps : List MemPlace} (hg : goodT P 8 t = true) (h : DataW.Trod enc P w base (fun _ => true) held t v d ps)
    (hsame : ∀ p ∈ ps, w.sameAt w' p) (hs : ∀ p ∈ ps, sp p.block = true) : DataW.Trod enc P w' base sp held t v d ps := by
  obtain ⟨n, hn⟩ := h
  exact ⟨n, trod_spare 8 n t _ _ hg (DataW.trod_carry n t _ _ hn hsame) hs⟩
theorem trodAll_move {w' : World} {sp : Nat → Bool} : ∀ {ts : List TypeId} {vs : List Value} {ds : List (DataW H)} {ps : List MemPlace}, ts.all (goodT P 8) = true → DataW.TrodAll enc P w base (fun _ => true) held ts vs ds ps →
    (∀ p ∈ ps, w.sameAt w' p) → (∀ p ∈ ps, sp p.block = true) → DataW.TrodAll enc P w' base sp held ts vs ds ps := by
  intro ts
  induction ts with
  | nil =>
    intro vs ds ps _ h _ _
    obtain ⟨rfl, rfl, rfl⟩ := trodAll_nil h
    rfl
  | cons t ts ih =>
    intro vs ds ps hg h hsame hs
    obtain ⟨v, vs', d, ds', p, q, rfl, rfl, rfl, h1, h2⟩ := trodAll_cons h
    simp only [List.all_cons, Bool.and_eq_true] at hg
    exact ⟨p, q, trod_move hg.1 h1 (fun x hx => hsame x (by simp [hx])) (fun x hx => hs x (by simp [hx])), ih hg.2 h2 (fun x hx => hsame x (by simp [hx])) (fun x hx => hs x (by simp [hx])), rfl⟩
theorem post_law {f : Func} {s : ChangeSpec} {W W' : World} {args : Array Value} {ds gs : List (DataW H)} {before : List MemPlace} {tb : TypeId} (hW : DataW.Whole enc P f.params.toList s.vars false W args.toList ds gs before)
    (hv : s.vars = []) (hfn : s.fn H ds = { results := [.lit (.bool true)], args := ds }) (hrt : f.resultTypes = #[tb]) (htb : P.underlying tb = some .bool) (hgood : f.params.toList.all (goodT P 8) = true) (hb : Below W.heap.size W W') :
    s.post enc P f false true false false W args (.bool true) W' := by
  have hW0 := hW
  obtain ⟨p, q, hA, hV, rfl, _, _⟩ := hW
  rw [hv] at hV
  obtain ⟨rfl, rfl⟩ := trodVars_none hV
  have hlt : ∀ x ∈ p ++ [], x.block < W.heap.size := fun x hx => hW0.lt x hx
  have hsame : ∀ x ∈ p, W.sameAt W' x := fun x hx => hb.same (hlt x (by simpa using hx))
  refine ⟨ds, [], p ++ [], [], p, [], hW0, ?_, ?_, ?_, hb.frame _, fun h => by cases h⟩
  · simp only [List.append_nil, hfn, hrt]
    exact trodAll_mk1 (shut_bool htb _)
  · simp only [List.append_nil, hfn]
    exact trodAll_move hgood hA hsame fun x hx => by simpa using hlt x (by simpa using hx)
  · simp only [List.append_nil, hfn, hv]
    rfl
end
theorem wf_u8 {n : Int} (h : (Lit.int .u8 n).wf = true) : 0 ≤ n ∧ n ≤ 255 := by
  simp [Lit.wf, IntKind.min, IntKind.max, IntKind.signed, IntKind.bits] at h
  omega
def HReads (E : Env) (t : TypeId) (c : Nat) (In : E.G.car c → Prop) : Prop :=
  E.P.cellsOf t = E.G.sz c ∧ ∀ (H : Type) (e : TypeId × Value → H) (w : World) (base : Nat) (sp : Nat → Bool) (held : Bool) (fuel : Nat) (cs : List Value) (x : DataW H × List MemPlace),
    DataW.trod e E.P w base sp held fuel t cs = some x → ∃ a : E.G.car c, HdL E.G (IsCells w) w (E.G.enc c a) cs ∧ In a
theorem isCells_of {w : World} {a : Addr} {u : Value} (h : w.cell? a = some u) : IsCells w a.block ∧ a.spot = none := by
  unfold World.cell? at h
  split at h
  · rename_i c e s hb
    refine ⟨⟨_, hb, rfl⟩, ?_⟩
    split at h
    · cases h
    · rename_i hs
      simpa using hs
  · cases h
section
variable {E : Env} {H : Type} {e : TypeId × Value → H} {w : World} {base : Nat} {sp : Nat → Bool} {held : Bool}
theorem hdL_one {x : Value} {cv : CV E.G.car} (h : Hd E.G (IsCells w) w cv x) : HdL E.G (IsCells w) w [cv] [x] := ⟨_, _, rfl, h, rfl⟩
theorem hreads_int {t : TypeId} {c : Nat} {k : IntKind} {In : E.G.car c → Prop} (f : Int → E.G.car c) (hf : ∀ n, E.G.enc c (f n) = [.v (.int k n)]) (hu : E.P.underlying t = some (.int k)) (hc : E.P.cellsOf t = E.G.sz c)
    (hIn : ∀ n, (Lit.int k n).wf = true → In (f n)) : HReads E t c In :=
  ⟨hc, fun _ _ _ _ _ _ _ _ _ h => by
    obtain ⟨n, h1, _, h2⟩ := DataW.trod_int hu h
    subst h1
    exact ⟨f n, by rw [hf]; exact hdL_one (.v _), hIn n h2⟩⟩
theorem HReads.at {t : TypeId} {c off : Nat} {In : E.G.car c → Prop} {cs : List Value} (hR : HReads E t c In)
    (hx : ∃ fuel y, DataW.trod e E.P w base sp held fuel t ((cs.drop off).take (E.P.cellsOf t)) = some y) : ∃ a, HdL E.G (IsCells w) w (E.G.enc c a) ((cs.drop off).take (E.G.sz c)) ∧ In a := by
  obtain ⟨fuel, y, h⟩ := hx
  rw [hR.1] at h
  exact hR.2 _ _ _ _ _ _ _ _ _ h
theorem hslice_of {t el : TypeId} {c fuel : Nat} {In : E.G.car c → Prop} {cs : List Value} {x : DataW H × List MemPlace} (hu : E.P.underlying t = some (.slice el)) (hR : HReads E el c In) (hn : 0 < E.G.sz c)
    (h : DataW.trod e E.P w base sp held fuel t cs = some x) :
    ∃ (p : Option Addr) (n cap : Nat) (l : List (E.G.car c)), cs = [.slice p n cap] ∧ Hd E.G (IsCells w) w (.sl c l) (.slice p n cap) ∧ (∀ x ∈ l, In x) ∧ l.length ≤ 9223372036854775807 := by
  rcases DataW.trod_slice hu h with ⟨rfl, _⟩ | ⟨a, len, cap, elems, rest, m, _, rfl, _, hb, hl, hm, hel, hi, _, _⟩
  · exact ⟨none, 0, 0, [], rfl, Hd.mk (b := 0) (o := 0) rfl (Nat.le_refl _) (fun h => absurd rfl h) (fun i x hx => by simp at hx), by simp, by simp⟩
  have build : ∀ k, k ≤ len → ∃ l : List (E.G.car c), l.length = k ∧ ∀ i x, l[i]? = some x → In x ∧ ∃ us, w.cells? base (a.add (i * E.G.sz c)) (E.G.sz c) = some us ∧ HdL E.G (IsCells w) w (E.G.enc c x) us := by
    intro k
    induction k with
    | zero => intro _; exact ⟨[], rfl, fun i x hx => by simp at hx⟩
    | succ k ih =>
      intro hk
      obtain ⟨l, h1, h2⟩ := ih (by omega)
      have h3 := hi k (by omega)
      rw [List.getElem?_eq_getElem (by omega), hR.1, Option.bind_eq_some_iff] at h3
      obtain ⟨cs', h4, h5⟩ := h3
      obtain ⟨y, hy1, hy⟩ := hR.2 _ _ _ _ _ _ _ _ _ h5
      refine ⟨l ++ [y], by simp [h1], fun i x hx => ?_⟩
      rcases Nat.lt_or_ge i k with h6 | h6
      · rw [List.getElem?_append_left (by omega)] at hx; exact h2 i x hx
      · rw [List.getElem?_append_right (by omega)] at hx
        have : i - l.length = 0 := by
          have := (List.getElem?_eq_some_iff.1 hx).1
          simpa using this
        rw [this] at hx
        simp only [List.getElem?_cons_zero, Option.some.injEq] at hx
        subst hx
        obtain rfl : i = k := by omega
        exact ⟨hy, _, h4, hy1⟩
  obtain ⟨l, h1, h2⟩ := build len (Nat.le_refl _)
  have hcell : ∀ (i : Nat) x, l[i]? = some x → ∀ (j : Nat) (cv : CV E.G.car), (E.G.enc c x)[j]? = some cv → ∃ u, w.cell? ((a.add (i * E.G.sz c)).add j) = some u ∧ Hd E.G (IsCells w) w cv u := by
    intro i x hx j cv hcv
    obtain ⟨_, us, h3, h4⟩ := h2 i x hx
    obtain ⟨u, h5, h6⟩ := h4.get j cv hcv
    obtain ⟨_, h7, h8⟩ := World.cells?_some h3
    refine ⟨u, ?_, h6⟩
    rw [h8 j (by rw [← h7]; exact (List.getElem?_eq_some_iff.1 h5).1), h5]
  refine ⟨some a, len, cap, l, rfl, ?_, fun x hx => ?_, by unfold maxLen at hm; omega⟩
  · rcases Nat.eq_zero_or_pos len with h0 | h0
    · have : l = [] := List.length_eq_zero_iff.1 (by omega)
      subst this
      exact Hd.mk (b := 0) (o := 0) h1.symm hl (fun h => absurd rfl h) (fun i x hx => by simp at hx)
    · have hpos : 0 < l.length := by omega
      have hz : 0 < (E.G.enc c l[0]).length := by rw [E.G.hsz]; exact hn
      obtain ⟨u, h3, _⟩ := hcell 0 l[0] (List.getElem?_eq_getElem hpos) 0 _ (List.getElem?_eq_getElem hz)
      rw [Nat.zero_mul, show (a.add 0).add 0 = a by simp [Addr.add]] at h3
      obtain ⟨h4, h5⟩ := isCells_of h3
      obtain ⟨b, o, s⟩ := a
      simp only at h4 h5
      subst h5
      refine Hd.mk (b := b) (o := o) h1.symm hl (fun _ => ⟨rfl, h4⟩) (fun i x hx j cv hcv => ?_)
      have := hcell i x hx j cv hcv
      rwa [addr_add, addr_add] at this
  · obtain ⟨i, hi⟩ := List.getElem?_of_mem hx
    exact (h2 i x hi).1
theorem harg_int {r : Reach} {b0 : Nat} {t : TypeId} {c : Nat} {k : IntKind} {In : E.G.car c → Prop} {v : Value} {d : DataW H} {ps : List MemPlace} (hR : HReads E t c In) (hu : E.P.underlying t = some (.int k))
    (hval : Value.okWide E.P w r b0 t v) (h : DataW.Trod e E.P w base sp held t v d ps) : ∃ a : E.G.car c, ArgIs E (IsCells w) w (.v c false) a v ∧ In a := by
  obtain ⟨n, rfl⟩ := okWide_int hu hval
  obtain ⟨fuel, hf⟩ := h
  obtain ⟨a, h1, h2⟩ := hR.2 _ _ _ _ _ _ _ _ _ hf
  exact ⟨a, ⟨_, h1, rfl⟩, h2⟩
theorem harg_sl {r : Reach} {b0 : Nat} {t el : TypeId} {c : Nat} {In : E.G.car c → Prop} {v : Value} {d : DataW H} {ps : List MemPlace} (hu : E.P.underlying t = some (.slice el)) (hR : HReads E el c In) (hn : 0 < E.G.sz c)
    (hval : Value.okWide E.P w r b0 t v) (h : DataW.Trod e E.P w base sp held t v d ps) : ∃ a : List (E.G.car c), ArgIs E (IsCells w) w (.sl c) a v ∧ (∀ x ∈ a, In x) ∧ a.length ≤ 9223372036854775807 := by
  obtain ⟨p, n, cap, rfl⟩ := okWide_slice hu hval
  obtain ⟨fuel, hf⟩ := h
  obtain ⟨p', n', cap', l, h1, h2, h3, h4⟩ := hslice_of hu hR hn hf
  have h1 : [Value.slice p n cap] = [.slice p' n' cap'] := h1
  simp only [List.cons.injEq, and_true, Value.slice.injEq] at h1
  obtain ⟨rfl, rfl, rfl⟩ := h1
  exact ⟨l, h2, h3, h4⟩
theorem law_calls {k : Nat} {ps : List PK} {t : Nat} {es : List Nat} {f : AT E.G.car ps → Option (E.G.car t)} (hc : CSok E [] ⟨k, ps, [.v t false es], f⟩) (hglo : E.glo = []) (b : E.G.car t) (hb : E.G.enc t b = [.v (.bool true)])
    {vs : List Value} {xs : AT E.G.car ps} (ha : ArgsAre E (IsCells w) w ps xs vs) (hm : f xs = some b) :
    Calls E.P k vs.toArray w fun e w' => e = .returned (.bool true) ∧ Below w.heap.size w w' := by
  have h := hc.ok (IsCells w) w vs xs ⟨fun _ => { b := 0, p := none, n := 0, c := 0 }, by rw [hglo]; exact And.intro (fun p hp => nomatch hp) (fun q hq => nomatch hq)⟩ (fun _ h => h) ha b hm
  refine h.mono fun e' w' ⟨us, ms, A', h1, h2, _, _, _, h3, _⟩ => ⟨?_, h2⟩
  obtain ⟨v, rfl, us', h4, h5⟩ := h3
  simp only [Bool.false_eq_true, if_false] at h5
  subst h5
  have h4 : ResCells E.G A' w.heap.size w' (E.G.enc t b) es [v] ms := h4
  rw [hb] at h4
  obtain ⟨us2, h6, _⟩ := h4
  cases h6
  exact h1
end
end Go.KX
