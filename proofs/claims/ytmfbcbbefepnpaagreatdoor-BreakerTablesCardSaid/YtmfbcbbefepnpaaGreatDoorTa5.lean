/- Texts BdH, BdA, BdB, BdC, BdD, BkAw, BdTables, KFR, BkFrame: own work; each part says what it is. -/
import Derived.Test.YtmfbcbbefepnpaaGreatDoorTa4
import Derived.Handed
import Derived.OpenShut
import Derived.ChangeSlices
import Derived.JoinedOf
import Derived.Test.YtmfbcbbefepnpaaGreatDoorRows
import Derived.Test.YtmfbcbbefepnpaaGreatDoorTie
import Derived.Test.YtmfbcbbefepnpaaGreatDoorCards
import Derived.ProofKit
import Derived.LaidMore
import Derived.Stop.Joined
import Derived.SevenTiedAt
namespace Go.Proofs.Bk
open Go Go.KX
abbrev Pt := Point
def pt (l : List Pt) (i : Int) : Pt := l.getD i.toNat ⟨0, 0⟩
def within (n a b : Int) : Bool := decide (n ≥ a) && decide (n ≤ b)
def curveAt (l : List Pt) (i : Int) : Bool :=
  within (pt l i).X 0 400 && within (pt l i).Y 0 20000 && !(decide (i > 0) && decide ((pt l i).X ≤ (pt l (i - 1)).X))
def curve (l : List Pt) : Bool := within (l.length : Int) 2 8 && ((pt l 0).X == 0) && (List.range l.length).all fun i => curveAt l (i : Int)
def steadyAt (l : List Pt) (way : Int) (i : Int) : Bool := !decide (((pt l i).Y - (pt l (i - 1)).Y) * way < 0)
def steady (l : List Pt) (way : Int) : Bool := curve l && (List.range (l.length - 1)).all fun i => steadyAt l way ((i + 1 : Nat) : Int)
def endX (l : List Pt) : Int := (pt l ((l.length : Int) - 1)).X
def valFrom (l : List Pt) (x : Int) : Nat → Nat → Int × Int
  | 0, _ => ((pt l ((l.length : Int) - 1)).Y, 1)
  | f + 1, i =>
    if x ≤ (pt l (i : Int)).X then
      ((pt l ((i : Int) - 1)).Y * ((pt l (i : Int)).X - (pt l ((i : Int) - 1)).X) + ((pt l (i : Int)).Y - (pt l ((i : Int) - 1)).Y) * (x - (pt l ((i : Int) - 1)).X), (pt l (i : Int)).X - (pt l ((i : Int) - 1)).X)
    else valFrom l x f (i + 1)
def value (l : List Pt) (x : Int) : Int × Int := valFrom l x (l.length - 1) 1
def Bd (l : List Pt) : Prop := ∀ i : Int, 0 ≤ i → i < l.length → 0 ≤ (pt l i).X ∧ (pt l i).X ≤ 400 ∧ 0 ≤ (pt l i).Y ∧ (pt l i).Y ≤ 20000
theorem mul_bd {x y A B : Int} (hx : -A ≤ x ∧ x ≤ A) (hy : -B ≤ y ∧ y ≤ B) : -(A * B) ≤ x * y ∧ x * y ≤ A * B := by
  have h1 : 0 ≤ (A - x) * (B + y) := Int.mul_nonneg (by omega) (by omega)
  have h2 : 0 ≤ (A + x) * (B - y) := Int.mul_nonneg (by omega) (by omega)
  have h3 : 0 ≤ (A - x) * (B - y) := Int.mul_nonneg (by omega) (by omega)
  have h4 : 0 ≤ (A + x) * (B + y) := Int.mul_nonneg (by omega) (by omega)
  simp only [Int.sub_mul, Int.mul_sub, Int.add_mul, Int.mul_add] at h1 h2 h3 h4
  constructor <;> omega
theorem curve_lt {l : List Pt} (h : curve l = true) : l ≠ [] ∧ 2 ≤ l.length ∧ l.length ≤ 8 := by
  simp only [curve, within, Bool.and_eq_true, decide_eq_true_eq] at h
  obtain ⟨⟨⟨h1, h2⟩, _⟩, _⟩ := h
  refine ⟨fun e => by subst e; simp at h1, by omega, by omega⟩
theorem curve_at {l : List Pt} (h : curve l = true) {i : Int} (h0 : 0 ≤ i) (h1 : i < l.length) : curveAt l i = true := by
  simp only [curve, Bool.and_eq_true, List.all_eq_true, List.mem_range] at h
  have := h.2 i.toNat (by omega)
  rwa [Int.toNat_of_nonneg h0] at this
theorem curve_bd {l : List Pt} (h : curve l = true) : Bd l := by
  intro i h0 h1
  have := curve_at h h0 h1
  simp only [curveAt, within, Bool.and_eq_true, decide_eq_true_eq] at this
  omega
def rule1 (s : Ship) : Bool := within s.Class 1 6
def rule2 (s : Ship) : Bool := within s.Power 100 100000 && within s.Draught 10 2000 && within s.Tonnes 10 500000
def rule3 (s : Ship) : Bool := within s.Slow 0 20 && within s.Brash 0 100 && within s.Ridge 0 500 && within s.Press 0 5000
def rule4 (s : Ship) : Bool := steady s.Thrust (-1) && within (endX s.Thrust) 10 250
def rule5 (s : Ship) : Bool := steady s.Water 1 && decide (endX s.Water ≤ 250)
def rule6 (s : Ship) : Bool := steady s.Ice 1 && ((pt s.Ice 0).Y == 0) && (endX s.Ice == 400)
def check (s : Ship) : Int :=
  if rule1 s = false then 41 else if rule2 s = false then 40 else if rule3 s = false then 40 else if rule4 s = false then 40 else if rule5 s = false then 40 else if rule6 s = false then 40 else 0
theorem steady_curve {l : List Pt} {w : Int} (h : steady l w = true) : curve l = true := by
  simp only [steady, Bool.and_eq_true] at h; exact h.1
theorem within_t {n a b : Int} (h : within n a b = true) : a ≤ n ∧ n ≤ b := by
  simp only [within, Bool.and_eq_true, decide_eq_true_eq] at h; omega
theorem within_f {n a b : Int} (h : within n a b = false) : ¬ (a ≤ n ∧ n ≤ b) := by
  simp only [within, Bool.and_eq_false_iff, decide_eq_false_iff_not] at h; omega
theorem b1 {a b c : Bool} : (!a || !b || c) = true → (a && b && !c) = false := by cases a <;> cases b <;> cases c <;> simp
theorem b3 {a b c : Bool} : (!a || !b || c) = false → (a && b && !c) = true := by cases a <;> cases b <;> cases c <;> simp
theorem b4 {a : Bool} : a = false → (!a) = true := by cases a <;> simp
theorem b2 {a : Bool} : a = true → (!a) = false := by cases a <;> simp
theorem steady_len {l : List Pt} {w : Int} (h : steady l w = true) : 2 ≤ l.length ∧ l.length ≤ 8 := (curve_lt (steady_curve h)).2
theorem curve_no1 {l : List Pt} (h : (!within (l.length : Int) 2 8 || (pt l 0).X != 0) = true) : curve l = false := by
  cases h1 : within (l.length : Int) 2 8 <;> simp_all [curve]
theorem curve_no2 {l : List Pt} {k : Nat} (hk : k < l.length) (h : curveAt l (k : Int) = false) : curve l = false := by
  cases hc : curve l with
  | false => rfl
  | true => have := curve_at hc (i := (k : Int)) (by omega) (by omega); rw [h] at this; cases this
theorem curve_yes {l : List Pt} {k : Nat} (h1 : within (l.length : Int) 2 8 = true) (h2 : (pt l 0).X = 0) (h : ∀ j < k, curveAt l (j : Int) = true) (hk : l.length ≤ k) : curve l = true := by
  simp only [curve, h1, h2, beq_self_eq_true, Bool.and_self, Bool.true_and, List.all_eq_true, List.mem_range]
  exact fun i hi => h i (by omega)
theorem steady_no {l : List Pt} {w : Int} {k : Nat} (h1 : 1 ≤ k) (hk : k < l.length) (h : steadyAt l w (k : Int) = false) : steady l w = false := by
  cases hs : steady l w with
  | false => rfl
  | true =>
    simp only [steady, Bool.and_eq_true, List.all_eq_true, List.mem_range] at hs
    have := hs.2 (k - 1) (by omega)
    rw [show k - 1 + 1 = k by omega, h] at this
    cases this
theorem steady_yes {l : List Pt} {w : Int} {k : Nat} (hc : curve l = true) (h : ∀ j < k, 1 ≤ j → steadyAt l w (j : Int) = true) (hk : l.length ≤ k) : steady l w = true := by
  simp only [steady, hc, Bool.true_and, List.all_eq_true, List.mem_range]
  exact fun i hi => h (i + 1) (by omega) (by omega)
theorem mul_nn {x y a A b B : Int} (hx : a ≤ x ∧ x ≤ A) (hy : b ≤ y ∧ y ≤ B) (ha : 0 ≤ a) (hb : 0 ≤ b) : a * b ≤ x * y ∧ x * y ≤ A * B := by
  constructor
  · exact Int.mul_le_mul hx.1 hy.1 hb (by omega)
  · exact Int.mul_le_mul hx.2 hy.2 (by omega) (by omega)
theorem valFrom_bd {l : List Pt} (hc : curve l = true) {x : Int} (_hx : 0 ≤ x) : ∀ (f i : Nat), 1 ≤ i → i + f = l.length → (pt l ((i : Int) - 1)).X ≤ x →
    1 ≤ (valFrom l x f i).2 ∧ (valFrom l x f i).2 ≤ 400 ∧ 0 ≤ (valFrom l x f i).1 ∧ (valFrom l x f i).1 ≤ 20000 * (valFrom l x f i).2 := by
  have hB := curve_bd hc
  have hlen := (curve_lt hc).2
  intro f
  induction f with
  | zero =>
    intro i h1 h2 h3
    have := hB ((l.length : Int) - 1) (by omega) (by omega)
    simp only [valFrom]
    omega
  | succ f ih =>
    intro i h1 h2 h3
    have ha := hB ((i : Int) - 1) (by omega) (by omega)
    have hb := hB (i : Int) (by omega) (by omega)
    have hat := curve_at hc (i := (i : Int)) (by omega) (by omega)
    simp only [valFrom]
    by_cases hle : x ≤ (pt l (i : Int)).X
    · rw [if_pos hle]
      have hlt : (pt l ((i : Int) - 1)).X < (pt l (i : Int)).X := by
        simp only [curveAt, Bool.and_eq_true, Bool.not_eq_true', Bool.and_eq_false_iff, decide_eq_false_iff_not] at hat
        rcases hat.2 with h | h <;> omega
      refine ⟨by omega, by omega, ?_, ?_⟩
      all_goals
        have e1 : (pt l ((i : Int) - 1)).Y * ((pt l (i : Int)).X - (pt l ((i : Int) - 1)).X) + ((pt l (i : Int)).Y - (pt l ((i : Int) - 1)).Y) * (x - (pt l ((i : Int) - 1)).X) =
          (pt l ((i : Int) - 1)).Y * ((pt l (i : Int)).X - x) + (pt l (i : Int)).Y * (x - (pt l ((i : Int) - 1)).X) := by
          simp only [Int.sub_mul, Int.mul_sub]; omega
        have p1 := Int.mul_nonneg (a := (pt l ((i : Int) - 1)).Y) (b := (pt l (i : Int)).X - x) (by omega) (by omega)
        have p2 := Int.mul_nonneg (a := (pt l (i : Int)).Y) (b := x - (pt l ((i : Int) - 1)).X) (by omega) (by omega)
        have p3 := Int.mul_le_mul_of_nonneg_right (a := (pt l ((i : Int) - 1)).Y) (b := 20000) (c := (pt l (i : Int)).X - x) (by omega) (by omega)
        have p4 := Int.mul_le_mul_of_nonneg_right (a := (pt l (i : Int)).Y) (b := 20000) (c := x - (pt l ((i : Int) - 1)).X) (by omega) (by omega)
        rw [e1]
        simp only []
        omega
    · rw [if_neg hle]
      exact ih (i + 1) (by omega) (by omega) (by rw [show ((i + 1 : Nat) : Int) - 1 = (i : Int) by omega]; omega)
theorem curve_x0 {l : List Pt} (hc : curve l = true) : (pt l 0).X = 0 := by
  simp only [curve, Bool.and_eq_true, beq_iff_eq] at hc
  exact hc.1.2
theorem value_bd {l : List Pt} (hc : curve l = true) {x : Int} (hx : 0 ≤ x) : 1 ≤ (value l x).2 ∧ (value l x).2 ≤ 400 ∧ 0 ≤ (value l x).1 ∧ (value l x).1 ≤ 20000 * (value l x).2 := by
  have hlen := (curve_lt hc).2
  exact valFrom_bd hc hx _ 1 (Nat.le_refl 1) (by omega) (by have := curve_x0 hc; simp; omega)
def firstI (c : Cell) : Ice := ⟨c.Conc.Lo, c.Thick.Lo, c.Ridge.Lo, c.Press.Lo⟩
def lastI (c : Cell) : Ice := ⟨c.Conc.Hi, c.Thick.Hi, c.Ridge.Hi, c.Press.Hi⟩
def inI (a b c : Int) : Bool := decide (a ≥ b) && decide (a ≤ c)
def goodIce (i : Ice) : Prop := (0 ≤ i.Conc ∧ i.Conc ≤ 100) ∧ (0 ≤ i.Thick ∧ i.Thick ≤ 400) ∧ (0 ≤ i.Ridge ∧ i.Ridge ≤ 100) ∧ (0 ≤ i.Press ∧ i.Press ≤ 3)
theorem goodIce_bd {i : Ice} (h : goodIce i) : (0 ≤ i.Conc ∧ i.Conc ≤ 100) ∧ (0 ≤ i.Thick ∧ i.Thick ≤ 400) ∧ (0 ≤ i.Ridge ∧ i.Ridge ≤ 100) ∧ (0 ≤ i.Press ∧ i.Press ≤ 3) := h
def loadI (i : Ice) (v : Int) (ch : Bool) : Int :=
  if i.Conc = 0 then 0
  else (if ch then (i.Thick * (100 + v) + 1) / 2 else i.Thick * (100 + v)) + 300 * (if ch then 0 else i.Ridge) + 2000 * i.Press
def lowest (n d : Int) : Int × Int := (n / (Int.gcd n d : Int), d / (Int.gcd n d : Int))
def at_ (l : List Pt) (x : Int) : (Int × Int) × Int :=
  if curve l = false then ((0, 0), 40) else if within x 0 1000 = false then ((0, 0), 6) else (lowest (value l x).1 (value l x).2, 0)
theorem check_rules {s : Ship} (h : check s = 0) : rule1 s = true ∧ rule2 s = true ∧ rule3 s = true ∧ rule4 s = true ∧ rule5 s = true ∧ rule6 s = true := by
  unfold check at h
  refine ⟨?_, ?_, ?_, ?_, ?_, ?_⟩
  · cases e : rule1 s <;> simp_all
  · cases e : rule2 s <;> cases e1 : rule1 s <;> simp_all
  · cases e : rule3 s <;> cases e1 : rule1 s <;> cases e2 : rule2 s <;> simp_all
  · cases e : rule4 s <;> cases e1 : rule1 s <;> cases e2 : rule2 s <;> cases e3 : rule3 s <;> simp_all
  · cases e : rule5 s <;> cases e1 : rule1 s <;> cases e2 : rule2 s <;> cases e3 : rule3 s <;> cases e4 : rule4 s <;> simp_all
  · cases e : rule6 s <;> cases e1 : rule1 s <;> cases e2 : rule2 s <;> cases e3 : rule3 s <;> cases e4 : rule4 s <;> cases e5 : rule5 s <;> simp_all
theorem check_steadyThrust {s : Ship} (h : check s = 0) : steady s.Thrust (-1) = true := by
  have := (check_rules h).2.2.2.1; simp only [rule4, Bool.and_eq_true] at this; exact this.1
theorem check_steadyWater {s : Ship} (h : check s = 0) : steady s.Water 1 = true := by
  have := (check_rules h).2.2.2.2.1; simp only [rule5, Bool.and_eq_true] at this; exact this.1
theorem check_steadyIce {s : Ship} (h : check s = 0) : steady s.Ice 1 = true := by
  have := (check_rules h).2.2.2.2.2; simp only [rule6, Bool.and_eq_true] at this; exact this.1.1
theorem check_curveThrust {s : Ship} (h : check s = 0) : curve s.Thrust = true := steady_curve (check_steadyThrust h)
theorem check_curveWater {s : Ship} (h : check s = 0) : curve s.Water = true := steady_curve (check_steadyWater h)
theorem check_curveIce {s : Ship} (h : check s = 0) : curve s.Ice = true := steady_curve (check_steadyIce h)
theorem check_bd {s : Ship} (h : check s = 0) : (1 ≤ s.Class ∧ s.Class ≤ 6) ∧ (100 ≤ s.Power ∧ s.Power ≤ 100000) ∧ (0 ≤ s.Slow ∧ s.Slow ≤ 20) ∧ (0 ≤ s.Brash ∧ s.Brash ≤ 100) ∧ (0 ≤ s.Ridge ∧ s.Ridge ≤ 500) ∧ (0 ≤ s.Press ∧ s.Press ≤ 5000) := by
  obtain ⟨h1, h2, h3, _⟩ := check_rules h
  simp only [rule1, rule2, rule3, within, Bool.and_eq_true, decide_eq_true_eq] at h1 h2 h3
  omega
def thrust (s : Ship) (v : Int) : Int := (value s.Thrust v).1 / (value s.Thrust v).2
def resN (s : Ship) (i : Ice) (ch : Bool) (v : Int) : Int :=
  i.Conc * ((value s.Ice i.Thick).1 * (1000 + s.Slow * v) * (if ch = true then s.Brash else 100) + s.Ridge * (if ch = true then 0 else i.Ridge) * (value s.Ice i.Thick).2 * 100000)
def resistance (s : Ship) (i : Ice) (ch : Bool) (v : Int) : Int :=
  ((value s.Water v).1 * ((value s.Ice i.Thick).2 * 10000000) + resN s i ch v * (value s.Water v).2 + s.Press * i.Press * (value s.Water v).2 * ((value s.Ice i.Thick).2 * 10000000)
    + (value s.Water v).2 * ((value s.Ice i.Thick).2 * 10000000) - 1) / ((value s.Water v).2 * ((value s.Ice i.Thick).2 * 10000000))
def makes (s : Ship) (i : Ice) (ch : Bool) (v : Int) : Bool := decide (v ≤ endX s.Thrust) && decide (thrust s v ≥ resistance s i ch v)
def strengths : List Int := [4000, 8000, 14000, 24000, 40000, 90000]
def bears (s : Ship) (i : Ice) (ch : Bool) (v : Int) : Bool := decide (loadI i v ch ≤ strengths.getD (s.Class - 1).toNat 0)
def greatFrom (so : Int → Bool) : Nat → Int → Int → Int
  | 0, lo, _ => lo
  | f + 1, lo, hi => if lo < hi then (if so (lo + (hi - lo + 1) / 2) = true then greatFrom so f (lo + (hi - lo + 1) / 2) hi else greatFrom so f lo (lo + (hi - lo + 1) / 2 - 1)) else lo
def great (so : Int → Bool) (lo hi : Int) : Int := greatFrom so (hi - lo).toNat lo hi
theorem greatFrom_fuel {so : Int → Bool} : ∀ {f g : Nat} {lo hi : Int}, (hi - lo).toNat ≤ f → (hi - lo).toNat ≤ g → greatFrom so f lo hi = greatFrom so g lo hi := by
  intro f
  induction f with
  | zero =>
    intro g lo hi h1 _
    cases g with
    | zero => rfl
    | succ g => simp only [greatFrom]; rw [if_neg (by omega)]
  | succ f ih =>
    intro g lo hi h1 h2
    cases g with
    | zero => simp only [greatFrom]; rw [if_neg (by omega)]
    | succ g =>
      simp only [greatFrom]
      by_cases h : lo < hi
      · rw [if_pos h, if_pos h]
        rw [ih (g := g) (lo := lo + (hi - lo + 1) / 2) (hi := hi) (by omega) (by omega), ih (g := g) (lo := lo) (hi := lo + (hi - lo + 1) / 2 - 1) (by omega) (by omega)]
      · rw [if_neg h, if_neg h]
theorem great_step {so : Int → Bool} {lo hi : Int} (h : lo < hi) : great so lo hi = if so (lo + (hi - lo + 1) / 2) = true then great so (lo + (hi - lo + 1) / 2) hi else great so lo (lo + (hi - lo + 1) / 2 - 1) := by
  unfold great
  rw [show (hi - lo).toNat = ((hi - lo).toNat - 1) + 1 by omega, greatFrom, if_pos h]
  rw [greatFrom_fuel (f := (hi - lo).toNat - 1) (g := (hi - (lo + (hi - lo + 1) / 2)).toNat) (lo := lo + (hi - lo + 1) / 2) (by omega) (by omega),
    greatFrom_fuel (f := (hi - lo).toNat - 1) (g := ((lo + (hi - lo + 1) / 2 - 1) - lo).toNat) (lo := lo) (hi := lo + (hi - lo + 1) / 2 - 1) (by omega) (by omega)]
theorem great_done {so : Int → Bool} {lo hi : Int} (h : ¬ lo < hi) : great so lo hi = lo := by
  unfold great
  rw [show (hi - lo).toNat = 0 by omega, greatFrom]
def greatest (so : Int → Bool) (lo hi : Int) : Int × Bool := if so lo = true then (great so lo hi, true) else (0, false)
def speed (s : Ship) (i : Ice) (ch : Bool) : Int := (greatest (fun v => makes s i ch v) 0 250).1
def goes (s : Ship) (i : Ice) (ch : Bool) : Int × Bool := greatest (fun v => makes s i ch v && bears s i ch v) 10 250
def all4 (so : Int → Bool) : Bool := so 0 && so 1 && so 2 && so 3
def rightS (s : Span) (n : Int) : Bool := inI s.Lo 0 (([100, 400, 100, 3] : List Int).getD n.toNat 0) && inI s.Hi s.Lo (([100, 400, 100, 3] : List Int).getD n.toNat 0)
def checkCell (c : Cell) : Int :=
  if all4 (fun n => rightS (([c.Conc, c.Thick, c.Ridge, c.Press] : List Span).getD n.toNat ⟨0, 0⟩) n) = false then 20 else 0
theorem ite_err {c : Bool} {e : Int} (he : e ≠ 0) : (if c = false then e else 0) = 0 ↔ c = true := by cases c <;> simp [he]
def goodSpan (s : Span) (n : Int) : Prop := 0 ≤ s.Lo ∧ s.Lo ≤ s.Hi ∧ s.Hi ≤ n
def goodCell (c : Cell) : Prop := goodSpan c.Conc 100 ∧ goodSpan c.Thick 400 ∧ goodSpan c.Ridge 100 ∧ goodSpan c.Press 3
theorem checkCell_ok {c : Cell} : checkCell c = 0 ↔ goodCell c := by
  unfold checkCell
  rw [ite_err (by decide)]
  simp only [all4, rightS, inI, Bool.and_eq_true, decide_eq_true_eq, goodCell, goodSpan]
  constructor
  · rintro ⟨⟨⟨⟨⟨_, _⟩, _, _⟩, ⟨_, _⟩, _, _⟩, ⟨_, _⟩, _, _⟩, ⟨_, _⟩, _, _⟩
    exact ⟨⟨by assumption, by assumption, by assumption⟩, ⟨by assumption, by assumption, by assumption⟩, ⟨by assumption, by assumption, by assumption⟩, ⟨by assumption, by assumption, by assumption⟩⟩
  · rintro ⟨⟨h1, h2, h3⟩, ⟨h4, h5, h6⟩, ⟨h7, h8, h9⟩, ⟨h10, h11, h12⟩⟩
    exact ⟨⟨⟨⟨⟨h1, Int.le_trans h2 h3⟩, h2, h3⟩, ⟨h4, Int.le_trans h5 h6⟩, h5, h6⟩, ⟨h7, Int.le_trans h8 h9⟩, h8, h9⟩, ⟨h10, Int.le_trans h11 h12⟩, h11, h12⟩
theorem goodCell_last {c : Cell} (h : goodCell c) : goodIce (lastI c) := by
  obtain ⟨⟨_, _, _⟩, ⟨_, _, _⟩, ⟨_, _, _⟩, ⟨_, _, _⟩⟩ := h
  simp only [goodIce, lastI]; omega
theorem goodCell_first {c : Cell} (h : goodCell c) : goodIce (firstI c) := by
  obtain ⟨⟨_, _, _⟩, ⟨_, _, _⟩, ⟨_, _, _⟩, ⟨_, _, _⟩⟩ := h
  simp only [goodIce, firstI]; omega
def met (s : Ship) (c : Cell) : Int := if check s ≠ 0 then check s else checkCell c
def safe (s : Ship) (c : Cell) (ch : Bool) : Int × Int :=
  if speed s (lastI c) ch < 10 then (0, 4) else if (goes s (lastI c) ch).2 = false then (0, 41) else ((goes s (lastI c) ch).1, 0)
def takes (p : Part) (v : Int) : Int := (60 * p.Length + v - 1) / v
theorem mulL {a b c : Int} (h : a ≤ b) (hc : 0 ≤ c) : c * a ≤ c * b := Int.mul_le_mul_of_nonneg_left h hc
theorem mulR {a b c : Int} (h : a ≤ b) (hc : 0 ≤ c) : a * c ≤ b * c := Int.mul_le_mul_of_nonneg_right h hc
theorem ceil_mono {a b c d : Int} (hb : 0 < b) (hd : 0 < d) (h : a * d ≤ c * b) : (a + b - 1) / b ≤ (c + d - 1) / d := by
  have h1 := Int.lt_mul_ediv_self_add (x := c + d - 1) hd
  have h2 : c ≤ d * ((c + d - 1) / d) := by omega
  have h3 : c * b ≤ d * ((c + d - 1) / d) * b := mulR h2 (by omega)
  have h4 : a * d ≤ ((c + d - 1) / d * b) * d := by
    have e : d * ((c + d - 1) / d) * b = ((c + d - 1) / d * b) * d := by ac_rfl
    omega
  have h5 : a ≤ (c + d - 1) / d * b := Int.le_of_mul_le_mul_right h4 hd
  have h6 : (a + b - 1) / b < (c + d - 1) / d + 1 := Int.ediv_lt_of_lt_mul hb (by rw [Int.add_mul]; omega)
  omega
theorem floor_mono {a b c d : Int} (hb : 0 < b) (hd : 0 < d) (h : a * d ≤ c * b) : a / b ≤ c / d := by
  have h1 : a / b * b ≤ a := Int.ediv_mul_le a (by omega)
  refine Int.le_ediv_of_mul_le hd ?_
  have h2 : a / b * b * d ≤ a * d := mulR h1 (by omega)
  have h3 : (a / b * d) * b ≤ c * b := by
    have e : a / b * b * d = (a / b * d) * b := by ac_rfl
    omega
  exact Int.le_of_mul_le_mul_right h3 hb
def vf (X Z : Nat → Int) (n : Nat) (x : Int) : Nat → Nat → Int × Int
  | 0, _ => (Z (n - 1), 1)
  | f + 1, i => if x ≤ X i then (Z (i - 1) * (X i - X (i - 1)) + (Z i - Z (i - 1)) * (x - X (i - 1)), X i - X (i - 1)) else vf X Z n x f (i + 1)
theorem vf_ge {X Z : Nat → Int} {n : Nat} (hX : ∀ i, 1 ≤ i → i < n → X (i - 1) < X i) (hZ : ∀ i, 1 ≤ i → i < n → Z (i - 1) ≤ Z i) {x : Int} : ∀ (f i : Nat), 1 ≤ i → i + f = n → X (i - 1) ≤ x →
    1 ≤ (vf X Z n x f i).2 ∧ Z (i - 1) * (vf X Z n x f i).2 ≤ (vf X Z n x f i).1 := by
  intro f
  induction f with
  | zero => intro i h1 h2 h3; simp only [vf]; rw [show n - 1 = i - 1 by omega]; omega
  | succ f ih =>
    intro i h1 h2 h3
    simp only [vf]
    have hx := hX i h1 (by omega)
    have hz := hZ i h1 (by omega)
    by_cases h : x ≤ X i
    · rw [if_pos h]
      have := Int.mul_nonneg (a := Z i - Z (i - 1)) (b := x - X (i - 1)) (by omega) (by omega)
      simp only []
      omega
    · rw [if_neg h]
      obtain ⟨h4, h5⟩ := ih (i + 1) (by omega) (by omega) (by rw [show i + 1 - 1 = i by omega]; omega)
      rw [show i + 1 - 1 = i by omega] at h5
      have := mulR hz (c := (vf X Z n x f (i + 1)).2) (by omega)
      exact ⟨h4, by omega⟩
theorem vf_mono {X Z : Nat → Int} {n : Nat} (hX : ∀ i, 1 ≤ i → i < n → X (i - 1) < X i) (hZ : ∀ i, 1 ≤ i → i < n → Z (i - 1) ≤ Z i) {x y : Int} (hxy : x ≤ y) : ∀ (f i : Nat), 1 ≤ i → i + f = n → X (i - 1) ≤ x →
    (vf X Z n x f i).1 * (vf X Z n y f i).2 ≤ (vf X Z n y f i).1 * (vf X Z n x f i).2 := by
  intro f
  induction f with
  | zero => intro i _ _ _; simp only [vf]; omega
  | succ f ih =>
    intro i h1 h2 h3
    simp only [vf]
    have hx := hX i h1 (by omega)
    have hz := hZ i h1 (by omega)
    by_cases h : x ≤ X i
    · rw [if_pos h]
      by_cases hy : y ≤ X i
      · rw [if_pos hy]
        simp only []
        refine mulR ?_ (by omega)
        have := mulL (a := x - X (i - 1)) (b := y - X (i - 1)) (c := Z i - Z (i - 1)) (by omega) (by omega)
        omega
      · rw [if_neg hy]
        obtain ⟨h4, h5⟩ := vf_ge hX hZ (x := y) f (i + 1) (by omega) (by omega) (by rw [show i + 1 - 1 = i by omega]; omega)
        rw [show i + 1 - 1 = i by omega] at h5
        simp only []
        have h6 : Z (i - 1) * (X i - X (i - 1)) + (Z i - Z (i - 1)) * (x - X (i - 1)) ≤ Z i * (X i - X (i - 1)) := by
          have := mulL (a := x - X (i - 1)) (b := X i - X (i - 1)) (c := Z i - Z (i - 1)) (by omega) (by omega)
          rw [Int.sub_mul (Z i) (Z (i - 1)) (X i - X (i - 1))] at this
          omega
        have h7 := mulR h6 (c := (vf X Z n y f (i + 1)).2) (by omega)
        have h8 := mulR h5 (c := X i - X (i - 1)) (by omega)
        have e : Z i * (X i - X (i - 1)) * (vf X Z n y f (i + 1)).2 = Z i * (vf X Z n y f (i + 1)).2 * (X i - X (i - 1)) := by ac_rfl
        omega
    · rw [if_neg h, if_neg (by omega)]
      exact ih (i + 1) (by omega) (by omega) (by rw [show i + 1 - 1 = i by omega]; omega)
theorem valFrom_vf {l : List Pt} {x : Int} : ∀ (f i : Nat), 1 ≤ i → i + f = l.length → valFrom l x f i = vf (fun i => (pt l (i : Int)).X) (fun i => (pt l (i : Int)).Y) l.length x f i := by
  intro f
  induction f with
  | zero => intro i h1 h2; simp only [valFrom, vf]; rw [show ((l.length - 1 : Nat) : Int) = (l.length : Int) - 1 by omega]
  | succ f ih =>
    intro i h1 h2
    simp only [valFrom, vf]
    rw [show ((i - 1 : Nat) : Int) = (i : Int) - 1 by omega, ih (i + 1) (by omega) (by omega)]
theorem vf_neg {X Z : Nat → Int} {n : Nat} {x : Int} : ∀ (f i : Nat), vf X (fun i => -Z i) n x f i = (-(vf X Z n x f i).1, (vf X Z n x f i).2) := by
  intro f
  induction f with
  | zero => intro i; rfl
  | succ f ih =>
    intro i
    simp only [vf]
    by_cases h : x ≤ X i
    · rw [if_pos h, if_pos h]
      simp only [Prod.mk.injEq, and_true]
      rw [show -Z i - -Z (i - 1) = -(Z i - Z (i - 1)) by omega, Int.neg_mul, Int.neg_mul, Int.neg_add]
    · rw [if_neg h, if_neg h]; exact ih (i + 1)
theorem steady_at {l : List Pt} {w : Int} (h : steady l w = true) {i : Nat} (h1 : 1 ≤ i) (h2 : i < l.length) : 0 ≤ ((pt l (i : Int)).Y - (pt l ((i : Int) - 1)).Y) * w := by
  simp only [steady, Bool.and_eq_true, List.all_eq_true, List.mem_range] at h
  have := h.2 (i - 1) (by omega)
  rw [show i - 1 + 1 = i by omega] at this
  simp only [steadyAt, Bool.not_eq_true', decide_eq_false_iff_not] at this
  omega
theorem curve_up {l : List Pt} (hc : curve l = true) {i : Nat} (h1 : 1 ≤ i) (h2 : i < l.length) : (pt l ((i - 1 : Nat) : Int)).X < (pt l (i : Int)).X := by
  have hat := curve_at hc (i := (i : Int)) (by omega) (by omega)
  simp only [curveAt, Bool.and_eq_true, Bool.not_eq_true', Bool.and_eq_false_iff, decide_eq_false_iff_not] at hat
  rw [show ((i - 1 : Nat) : Int) = (i : Int) - 1 by omega]
  rcases hat.2 with h | h <;> omega
theorem value_up {l : List Pt} (h : steady l 1 = true) {x y : Int} (hx : 0 ≤ x) (hxy : x ≤ y) : (value l x).1 * (value l y).2 ≤ (value l y).1 * (value l x).2 := by
  have hc := steady_curve h
  have hlen := (curve_lt hc).2
  have h0 := curve_x0 hc
  unfold value
  rw [valFrom_vf _ 1 (Nat.le_refl 1) (by omega), valFrom_vf _ 1 (Nat.le_refl 1) (by omega)]
  refine vf_mono (fun i h1 h2 => curve_up hc h1 h2) (fun i h1 h2 => ?_) hxy _ 1 (Nat.le_refl 1) (by omega) (by simp; omega)
  have := steady_at h h1 h2
  rw [show ((i - 1 : Nat) : Int) = (i : Int) - 1 by omega]
  omega
theorem value_down {l : List Pt} (h : steady l (-1) = true) {x y : Int} (hx : 0 ≤ x) (hxy : x ≤ y) : (value l y).1 * (value l x).2 ≤ (value l x).1 * (value l y).2 := by
  have hc := steady_curve h
  have hlen := (curve_lt hc).2
  have h0 := curve_x0 hc
  unfold value
  rw [valFrom_vf _ 1 (Nat.le_refl 1) (by omega), valFrom_vf _ 1 (Nat.le_refl 1) (by omega)]
  have := vf_mono (X := fun i => (pt l (i : Int)).X) (Z := fun i => -(pt l (i : Int)).Y) (n := l.length) (fun i h1 h2 => curve_up hc h1 h2) (fun i h1 h2 => by
    have := steady_at h h1 h2
    rw [show ((i - 1 : Nat) : Int) = (i : Int) - 1 by omega]
    omega) hxy (l.length - 1) 1 (Nat.le_refl 1) (by omega) (by simp; omega)
  rw [vf_neg, vf_neg] at this
  simp only [Int.neg_mul] at this
  omega
def resG (w wd n d c A sh R rd P : Int) : Int :=
  (w * (d * 10000000) + c * (n * A * sh + R * rd * d * 100000) * wd + P * wd * (d * 10000000) + wd * (d * 10000000) - 1) / (wd * (d * 10000000))
theorem resG_mono {w wd n d c A sh R rd P w' wd' n' d' c' A' sh' rd' P' : Int} (hwd : 0 < wd) (hd : 0 < d) (hwd' : 0 < wd') (hd' : 0 < d') (hn : 0 ≤ n) (hn' : 0 ≤ n') (hc : 0 ≤ c) (hA : 0 ≤ A) (hsh : 0 ≤ sh) (hR : 0 ≤ R) (hrd : 0 ≤ rd)
    (h1 : w * wd' ≤ w' * wd) (h2 : n * d' ≤ n' * d) (h3 : c ≤ c') (h4 : A ≤ A') (h5 : sh ≤ sh') (h6 : rd ≤ rd') (h7 : P ≤ P') :
    resG w wd n d c A sh R rd P ≤ resG w' wd' n' d' c' A' sh' R rd' P' := by
  unfold resG
  have pd : 0 < d * 10000000 := by omega
  have pd' : 0 < d' * 10000000 := by omega
  refine ceil_mono (Int.mul_pos hwd pd) (Int.mul_pos hwd' pd') ?_
  have t1 : w * (d * 10000000) * (wd' * (d' * 10000000)) ≤ w' * (d' * 10000000) * (wd * (d * 10000000)) := by
    have := mulR h1 (c := (d * 10000000) * (d' * 10000000)) (Int.le_of_lt (Int.mul_pos pd pd'))
    have e1 : w * (d * 10000000) * (wd' * (d' * 10000000)) = w * wd' * ((d * 10000000) * (d' * 10000000)) := by ac_rfl
    have e2 : w' * (d' * 10000000) * (wd * (d * 10000000)) = w' * wd * ((d * 10000000) * (d' * 10000000)) := by ac_rfl
    omega
  have t3 : P * wd * (d * 10000000) * (wd' * (d' * 10000000)) ≤ P' * wd' * (d' * 10000000) * (wd * (d * 10000000)) := by
    have := mulR h7 (c := wd * (d * 10000000) * (wd' * (d' * 10000000))) (Int.le_of_lt (Int.mul_pos (Int.mul_pos hwd pd) (Int.mul_pos hwd' pd')))
    have e1 : P * wd * (d * 10000000) * (wd' * (d' * 10000000)) = P * (wd * (d * 10000000) * (wd' * (d' * 10000000))) := by ac_rfl
    have e2 : P' * wd' * (d' * 10000000) * (wd * (d * 10000000)) = P' * (wd * (d * 10000000) * (wd' * (d' * 10000000))) := by ac_rfl
    omega
  have a1 : n * A * sh * d' ≤ n' * A' * sh' * d := by
    have hA' : A * sh ≤ A' * sh' := Int.mul_le_mul h4 h5 hsh (by omega)
    have := Int.mul_le_mul h2 hA' (Int.mul_nonneg hA hsh) (Int.mul_nonneg hn' (by omega))
    have e1 : n * A * sh * d' = n * d' * (A * sh) := by ac_rfl
    have e2 : n' * A' * sh' * d = n' * d * (A' * sh') := by ac_rfl
    omega
  have a2 : R * rd * d * 100000 * d' ≤ R * rd' * d' * 100000 * d := by
    have := mulR (mulL h6 hR) (c := d * 100000 * d') (Int.mul_nonneg (by omega) (by omega))
    have e1 : R * rd * d * 100000 * d' = R * rd * (d * 100000 * d') := by ac_rfl
    have e2 : R * rd' * d' * 100000 * d = R * rd' * (d * 100000 * d') := by ac_rfl
    omega
  have hin : (n * A * sh + R * rd * d * 100000) * d' ≤ (n' * A' * sh' + R * rd' * d' * 100000) * d := by rw [Int.add_mul, Int.add_mul]; omega
  have pin : 0 ≤ (n * A * sh + R * rd * d * 100000) * d' :=
    Int.mul_nonneg (Int.add_nonneg (Int.mul_nonneg (Int.mul_nonneg hn hA) hsh) (Int.mul_nonneg (Int.mul_nonneg (Int.mul_nonneg hR hrd) (by omega)) (by omega))) (by omega)
  have hcin := Int.mul_le_mul h3 hin pin (by omega : 0 ≤ c')
  have t2 : c * (n * A * sh + R * rd * d * 100000) * wd * (wd' * (d' * 10000000)) ≤ c' * (n' * A' * sh' + R * rd' * d' * 100000) * wd' * (wd * (d * 10000000)) := by
    have := mulR hcin (c := wd * wd' * 10000000) (Int.mul_nonneg (Int.mul_nonneg (by omega) (by omega)) (by omega))
    have e1 : c * (n * A * sh + R * rd * d * 100000) * wd * (wd' * (d' * 10000000)) = c * ((n * A * sh + R * rd * d * 100000) * d') * (wd * wd' * 10000000) := by ac_rfl
    have e2 : c' * (n' * A' * sh' + R * rd' * d' * 100000) * wd' * (wd * (d * 10000000)) = c' * ((n' * A' * sh' + R * rd' * d' * 100000) * d) * (wd * wd' * 10000000) := by ac_rfl
    omega
  rw [Int.add_mul, Int.add_mul, Int.add_mul, Int.add_mul]
  omega
theorem resistance_G (s : Ship) (i : Ice) (ch : Bool) (v : Int) : resistance s i ch v =
    resG (value s.Water v).1 (value s.Water v).2 (value s.Ice i.Thick).1 (value s.Ice i.Thick).2 i.Conc (1000 + s.Slow * v) (if ch = true then s.Brash else 100) s.Ridge (if ch = true then 0 else i.Ridge) (s.Press * i.Press) := rfl
structure LeI (i j : Ice) : Prop where
  conc : i.Conc ≤ j.Conc
  thick : i.Thick ≤ j.Thick
  ridge : i.Ridge ≤ j.Ridge
  press : i.Press ≤ j.Press
theorem LeI.rfl {i : Ice} : LeI i i := ⟨Int.le_refl _, Int.le_refl _, Int.le_refl _, Int.le_refl _⟩
theorem resistance_mono {s : Ship} (hc : check s = 0) {i j : Ice} (hi : goodIce i) (hj : goodIce j) (hij : LeI i j) {u v : Int} (hu : 0 ≤ u) (huv : u ≤ v) (ch : Bool) : resistance s i ch u ≤ resistance s j ch v := by
  rw [resistance_G, resistance_G]
  obtain ⟨hcl, hpo, hsl, hbr, hri, hpr⟩ := check_bd hc
  obtain ⟨i1, i2, i3, i4⟩ := goodIce_bd hi
  obtain ⟨j1, j2, j3, j4⟩ := goodIce_bd hj
  have w1 := value_bd (check_curveWater hc) hu
  have w2 := value_bd (check_curveWater hc) (x := v) (by omega)
  have n1 := value_bd (check_curveIce hc) i2.1
  have n2 := value_bd (check_curveIce hc) j2.1
  have hsu := Int.mul_nonneg hsl.1 hu
  refine resG_mono (by omega) (by omega) (by omega) (by omega) (by omega) (by omega) i1.1 (by omega) (by split <;> omega) hri.1 (by split <;> omega)
    (value_up (check_steadyWater hc) hu huv) (value_up (check_steadyIce hc) i2.1 hij.thick) hij.conc (by have := mulL huv hsl.1; omega) (Int.le_refl _) (by split; exact Int.le_refl _; exact hij.ridge) (mulL hij.press hpr.1)
theorem thrust_mono {s : Ship} (hc : check s = 0) {u v : Int} (hu : 0 ≤ u) (huv : u ≤ v) : thrust s v ≤ thrust s u := by
  have t1 := value_bd (check_curveThrust hc) hu
  have t2 := value_bd (check_curveThrust hc) (x := v) (by omega)
  exact floor_mono (by omega) (by omega) (value_down (check_steadyThrust hc) hu huv)
theorem makes_mono {s : Ship} (hc : check s = 0) {i j : Ice} (hi : goodIce i) (hj : goodIce j) (hij : LeI i j) {u v : Int} (hu : 0 ≤ u) (huv : u ≤ v) {ch : Bool} (h : makes s j ch v = true) : makes s i ch u = true := by
  simp only [makes, Bool.and_eq_true, decide_eq_true_eq] at h ⊢
  have h1 := resistance_mono hc hi hj hij hu huv ch
  have h2 := thrust_mono hc hu huv
  exact ⟨by omega, by omega⟩
theorem load_mono {i j : Ice} (hi : goodIce i) (hj : goodIce j) (hij : LeI i j) {u v : Int} (hu : 0 ≤ u) (huv : u ≤ v) (ch : Bool) : loadI i u ch ≤ loadI j v ch := by
  obtain ⟨i1, i2, i3, i4⟩ := goodIce_bd hi
  obtain ⟨j1, j2, j3, j4⟩ := goodIce_bd hj
  have h1 := Int.mul_le_mul hij.thick (show 100 + u ≤ 100 + v by omega) (by omega) j2.1
  have h2 := Int.mul_nonneg i2.1 (show 0 ≤ 100 + u by omega)
  have a := hij.conc; have b := hij.ridge; have c := hij.press
  unfold loadI
  by_cases e : i.Conc = 0
  · rw [if_pos e]
    by_cases e2 : j.Conc = 0
    · rw [if_pos e2]; exact Int.le_refl _
    · rw [if_neg e2]; cases ch <;> simp only [if_true, if_false, Bool.false_eq_true] <;> omega
  · rw [if_neg e, if_neg (show ¬ j.Conc = 0 by omega)]
    cases ch <;> simp only [if_true, if_false, Bool.false_eq_true] <;> omega
theorem bears_mono {s : Ship} {i j : Ice} (hi : goodIce i) (hj : goodIce j) (hij : LeI i j) {u v : Int} (hu : 0 ≤ u) (huv : u ≤ v) {ch : Bool} (h : bears s j ch v = true) : bears s i ch u = true := by
  simp only [bears, decide_eq_true_eq] at h ⊢
  have := load_mono hi hj hij hu huv ch
  omega
theorem great_spec {so : Int → Bool} : ∀ (f : Nat) {lo hi : Int}, (hi - lo).toNat ≤ f → lo ≤ hi → so lo = true → (∀ u v, lo ≤ u → u ≤ v → v ≤ hi → so v = true → so u = true) →
    lo ≤ great so lo hi ∧ great so lo hi ≤ hi ∧ so (great so lo hi) = true ∧ ∀ v, great so lo hi < v → v ≤ hi → so v = false := by
  intro f
  induction f with
  | zero =>
    intro lo hi hf hle h1 hd
    rw [great_done (by omega)]
    exact ⟨Int.le_refl _, hle, h1, fun v h2 h3 => absurd h3 (by omega)⟩
  | succ f ih =>
    intro lo hi hf hle h1 hd
    by_cases h : lo < hi
    · rw [great_step h]
      by_cases hm : so (lo + (hi - lo + 1) / 2) = true
      · rw [if_pos hm]
        obtain ⟨a, b, c, d⟩ := ih (lo := lo + (hi - lo + 1) / 2) (hi := hi) (by omega) (by omega) hm (fun u v h2 h3 h4 h5 => hd u v (by omega) h3 h4 h5)
        exact ⟨by omega, b, c, d⟩
      · rw [if_neg hm]
        obtain ⟨a, b, c, d⟩ := ih (lo := lo) (hi := lo + (hi - lo + 1) / 2 - 1) (by omega) (by omega) h1 (fun u v h2 h3 h4 h5 => hd u v h2 h3 (by omega) h5)
        refine ⟨a, by omega, c, fun v h2 h3 => ?_⟩
        by_cases h4 : v ≤ lo + (hi - lo + 1) / 2 - 1
        · exact d v h2 h4
        · cases hv : so v with
          | false => rfl
          | true => exact absurd (hd (lo + (hi - lo + 1) / 2) v (by omega) (by omega) h3 hv) hm
    · rw [great_done h]
      exact ⟨Int.le_refl _, hle, h1, fun v h2 h3 => absurd h3 (by omega)⟩
theorem great_is {so : Int → Bool} {lo hi : Int} (hle : lo ≤ hi) (h1 : so lo = true) (hd : ∀ u v, lo ≤ u → u ≤ v → v ≤ hi → so v = true → so u = true) :
    lo ≤ great so lo hi ∧ great so lo hi ≤ hi ∧ ∀ v, lo ≤ v → v ≤ hi → (so v = true ↔ v ≤ great so lo hi) := by
  obtain ⟨a, b, c, d⟩ := great_spec _ (Nat.le_refl _) hle h1 hd
  refine ⟨a, b, fun v h2 h3 => ⟨fun h => ?_, fun h => hd v _ h2 h b c⟩⟩
  rcases Int.lt_or_le (great so lo hi) v with h4 | h4
  · rw [d v h4 h3] at h; cases h
  · exact h4
theorem great_le {so so' : Int → Bool} {lo hi : Int} (hle : lo ≤ hi) (h1 : so lo = true) (hd : ∀ u v, lo ≤ u → u ≤ v → v ≤ hi → so v = true → so u = true) (hd' : ∀ u v, lo ≤ u → u ≤ v → v ≤ hi → so' v = true → so' u = true)
    (h : ∀ v, lo ≤ v → v ≤ hi → so v = true → so' v = true) : great so lo hi ≤ great so' lo hi := by
  obtain ⟨a, b, c⟩ := great_is hle h1 hd
  obtain ⟨a', b', c'⟩ := great_is hle (h lo (Int.le_refl _) hle h1) hd'
  exact (c' _ a b).1 (h _ a b ((c _ a b).2 (Int.le_refl _)))
theorem speed_mono {s : Ship} (hc : check s = 0) {i j : Ice} (hi : goodIce i) (hj : goodIce j) (hij : LeI i j) (ch : Bool) : speed s j ch ≤ speed s i ch := by
  have down : ∀ k, goodIce k → ∀ u v, (0 : Int) ≤ u → u ≤ v → v ≤ 250 → makes s k ch v = true → makes s k ch u = true := fun k hk u v h1 h2 _ h => makes_mono hc hk hk .rfl h1 h2 h
  unfold speed greatest
  by_cases h0 : makes s j ch 0 = true
  · have h1 := makes_mono hc hi hj hij (Int.le_refl 0) (Int.le_refl 0) h0
    rw [if_pos h0, if_pos h1]
    exact great_le (by decide) h0 (down j hj) (down i hi) fun v h2 h3 h => makes_mono hc hi hj hij h2 (Int.le_refl v) h
  · rw [if_neg h0]
    by_cases h1 : makes s i ch 0 = true
    · rw [if_pos h1]; exact (great_is (by decide) h1 (down i hi)).1
    · rw [if_neg h1]; exact Int.le_refl _
end Go.Proofs.Bk
namespace Go.Proofs.Bk
open Go Go.KX
instance : Inhabited Part := ⟨⟨⟨⟨0,0⟩,⟨0,0⟩,⟨0,0⟩,⟨0,0⟩⟩,false,0⟩⟩
def goesP (s : Ship) (i : Ice) (ch : Bool) (v : Int) : Bool := makes s i ch v && bears s i ch v
theorem goesP_mono {s : Ship} (hc : check s = 0) {i j : Ice} (hi : goodIce i) (hj : goodIce j) (hij : LeI i j) {u v : Int} (hu : 0 ≤ u) (huv : u ≤ v) {ch : Bool} (h : goesP s j ch v = true) : goesP s i ch u = true := by
  simp only [goesP, Bool.and_eq_true] at h ⊢
  exact ⟨makes_mono hc hi hj hij hu huv h.1, bears_mono hi hj hij hu huv h.2⟩
theorem goes_eq (s : Ship) (i : Ice) (ch : Bool) : goes s i ch = if goesP s i ch 10 = true then (great (goesP s i ch) 10 250, true) else (0, false) := rfl
theorem goes_down {s : Ship} (hc : check s = 0) {i : Ice} (hi : goodIce i) (ch : Bool) : ∀ u v, (10 : Int) ≤ u → u ≤ v → v ≤ 250 → goesP s i ch v = true → goesP s i ch u = true :=
  fun u v h1 h2 _ h => goesP_mono hc hi hi .rfl (by omega) h2 h
theorem goes_ok {s : Ship} {i : Ice} {ch : Bool} : (goes s i ch).2 = goesP s i ch 10 := by
  rw [goes_eq]
  cases h : goesP s i ch 10 <;> simp
theorem goes_bd {s : Ship} (hc : check s = 0) {i : Ice} (hi : goodIce i) {ch : Bool} (h : (goes s i ch).2 = true) : 10 ≤ (goes s i ch).1 ∧ (goes s i ch).1 ≤ 250 := by
  rw [goes_ok] at h
  rw [goes_eq, if_pos h]
  have := great_is (by decide) h (goes_down hc hi ch)
  exact ⟨this.1, this.2.1⟩
theorem first_le_last {c : Cell} (h : goodCell c) : LeI (firstI c) (lastI c) := ⟨h.1.2.1, h.2.1.2.1, h.2.2.1.2.1, h.2.2.2.2.1⟩
theorem safe_goes {s : Ship} (hc : check s = 0) {c : Cell} (hg : goodCell c) {ch : Bool} (h : (safe s c ch).2 = 0) :
    (safe s c ch).1 = (goes s (lastI c) ch).1 ∧ (10 ≤ (safe s c ch).1 ∧ (safe s c ch).1 ≤ 250) ∧ (10 ≤ (goes s (firstI c) ch).1 ∧ (goes s (firstI c) ch).1 ≤ 250) := by
  have hl := goodCell_last hg
  have hf := goodCell_first hg
  unfold safe at h ⊢
  by_cases h1 : speed s (lastI c) ch < 10
  · rw [if_pos h1] at h; cases h
  · rw [if_neg h1] at h ⊢
    cases h2 : (goes s (lastI c) ch).2 with
    | false => rw [h2, if_pos rfl] at h; cases h
    | true =>
      rw [if_neg (by simp)]
      refine ⟨rfl, goes_bd hc hl h2, goes_bd hc hf ?_⟩
      rw [goes_ok] at h2 ⊢
      exact goesP_mono hc hf hl (first_le_last hg) (by decide) (Int.le_refl _) h2
def sp (l : List Span) (i : Int) : Span := l.getD i.toNat ⟨0, 0⟩
def partErr (p : Part) : Int := if within p.Length 1 10000 = false then 6 else checkCell p.Cell
def partsErr : List Part → Int
  | [] => 0
  | p :: r => if partErr p ≠ 0 then partErr p else partsErr r
def goodPart (p : Part) : Prop := (1 ≤ p.Length ∧ p.Length ≤ 10000) ∧ goodCell p.Cell
theorem partErr_ok {p : Part} : partErr p = 0 ↔ goodPart p := by
  unfold partErr goodPart
  cases h : within p.Length 1 10000 with
  | false => have := within_f h; simp only [if_true]; exact ⟨fun h => (by cases h), fun h => absurd h.1 this⟩
  | true =>
    have := within_t h
    simp only [Bool.true_eq_false, if_false]
    rw [checkCell_ok]
    exact ⟨fun h => ⟨this, h⟩, fun h => h.2⟩
def legFrom (s : Ship) : List Part → Int → List Int → Int → Int → List Int × Span × Int
  | [], _, v, lo, hi => (v, ⟨lo, hi⟩, 0)
  | p :: r, i, v, lo, hi =>
    if (safe s p.Cell p.Channel).2 ≠ 0 then ([], ⟨i, 0⟩, (safe s p.Cell p.Channel).2)
    else legFrom s r (i + 1) (v ++ [(safe s p.Cell p.Channel).1]) (lo + takes p (goes s (firstI p.Cell) p.Channel).1) (hi + takes p (safe s p.Cell p.Channel).1)
def leg (s : Ship) (l : List Part) : List Int × Span × Int :=
  if check s ≠ 0 then ([], ⟨0, 0⟩, check s) else if within (l.length : Int) 1 100 = false then ([], ⟨0, 0⟩, 2) else if partsErr l ≠ 0 then ([], ⟨0, 0⟩, partsErr l) else legFrom s l 0 [] 0 0
theorem takes_bd {p : Part} (hp : 1 ≤ p.Length ∧ p.Length ≤ 10000) {v : Int} (hv : 10 ≤ v ∧ v ≤ 250) : 0 ≤ takes p v ∧ takes p v ≤ 60025 := by
  unfold takes
  constructor
  · exact Int.ediv_nonneg (by omega) (by omega)
  · have : (60 * p.Length + v - 1) / v < 60026 := Int.ediv_lt_of_lt_mul (by omega) (by omega)
    omega
def pressOK (p : Span) : Bool := !(decide (p.Lo < 0) || decide (p.Hi > 3) || decide (p.Lo > p.Hi))
def freeFrom (s : Ship) (c : Cell) : List Span → Int → Int → Span × Int
  | [], _, _ => (⟨0, 0⟩, 4)
  | p :: r, h, lo =>
    if speed s (lastI ⟨c.Conc, c.Thick, c.Ridge, p⟩) false ≥ 10 then (⟨if (decide (lo < 0) && decide (speed s (firstI ⟨c.Conc, c.Thick, c.Ridge, p⟩) false ≥ 10)) = true then h else lo, h⟩, 0)
    else freeFrom s c r (h + 1) (if (decide (lo < 0) && decide (speed s (firstI ⟨c.Conc, c.Thick, c.Ridge, p⟩) false ≥ 10)) = true then h else lo)
def free (s : Ship) (c : Cell) (l : List Span) : Span × Int :=
  if met s c ≠ 0 then (⟨0, 0⟩, met s c) else if (l.length : Int) > 240 then (⟨0, 0⟩, 2) else if l.all pressOK = false then (⟨0, 0⟩, 6) else freeFrom s c l 0 (-1)
def draw (l : List Int) (i n : Int) : Int × Int := if i ≥ (l.length : Int) then (0, i) else (l.getD (i + 1 - 1).toNat 0 % n, i + 1)
def idx (l : List Int) (k : Nat) : Int := ((min k l.length : Nat) : Int)
end Go.Proofs.Bk
namespace Go.Proofs.Bk
open Go Go.KX
theorem getD_in {α : Type} {l : List α} {d : α} {i : Int} (h0 : 0 ≤ i) (h1 : i < l.length) : l.getD i.toNat d ∈ l := Go.KX.getD_mem (by omega)
structure Pre (w : Int) (l : List Pt) (x y : Int) : Prop where
  len : 1 ≤ l.length
  x0 : (pt l 0).X = 0
  bd : ∀ i : Nat, i < l.length → 0 ≤ (pt l i).X ∧ (pt l i).X ≤ 400 ∧ 0 ≤ (pt l i).Y ∧ (pt l i).Y ≤ 20000
  st : ∀ i : Nat, 1 ≤ i → i < l.length → (pt l ((i : Int) - 1)).X < (pt l i).X ∧ 0 ≤ ((pt l i).Y - (pt l ((i : Int) - 1)).Y) * w
  last : pt l ((l.length : Int) - 1) = ⟨x, y⟩
theorem pt_old {l : List Pt} {p : Pt} {i : Int} (h0 : 0 ≤ i) (h : i < l.length) : pt (l ++ [p]) i = pt l i := by
  unfold pt
  have h : i.toNat < l.length := by omega
  simp [List.getD, List.getElem?_append_left h]
theorem pt_new {l : List Pt} {p : Pt} : pt (l ++ [p]) (l.length : Int) = p := by
  unfold pt
  simp [List.getD]
theorem Pre.one {w y : Int} (hy : 0 ≤ y ∧ y ≤ 20000) : Pre w [⟨0, y⟩] 0 y := by
  refine ⟨by simp, rfl, fun i hi => ?_, fun i h1 hi => ?_, rfl⟩
  · have : i = 0 := by simpa using hi
    subst this
    simp [pt]; omega
  · simp at hi; omega
theorem Pre.snoc {w x y x' y' : Int} {l : List Pt} (h : Pre w l x y) (hx : x < x' ∧ x' ≤ 400) (hy : 0 ≤ y' ∧ y' ≤ 20000) (hw : 0 ≤ (y' - y) * w) : Pre w (l ++ [⟨x', y'⟩]) x' y' := by
  have hl := h.len
  have hlast := h.last
  have hx0 := (h.bd (l.length - 1) (by omega)).1
  rw [show (((l.length - 1 : Nat)) : Int) = (l.length : Int) - 1 by omega, hlast] at hx0
  simp only [] at hx0
  refine ⟨by simp, by rw [pt_old (by omega) (by omega)]; exact h.x0, fun i hi => ?_, fun i h1 hi => ?_, ?_⟩
  · by_cases e : i < l.length
    · rw [pt_old (by omega) (by omega)]; exact h.bd i e
    · have : i = l.length := by simp at hi; omega
      subst this
      rw [pt_new]; simp only []; omega
  · by_cases e : i < l.length
    · rw [pt_old (by omega) (by omega), pt_old (by omega) (by omega)]; exact h.st i h1 e
    · have : i = l.length := by simp at hi; omega
      subst this
      rw [pt_new, pt_old (by omega) (by omega), hlast]
      exact ⟨hx.1, hw⟩
  · rw [show (((l ++ [(⟨x', y'⟩ : Pt)]).length : Int) - 1) = (l.length : Int) by simp, pt_new]
theorem Pre.steady {w x y : Int} {l : List Pt} (h : Pre w l x y) (hl : 2 ≤ l.length ∧ l.length ≤ 8) : steady l w = true ∧ endX l = x := by
  have hc : curve l = true := by
    refine curve_yes (k := l.length) ?_ h.x0 (fun j hj => ?_) (Nat.le_refl _)
    · simp [within]; omega
    · have h1 := h.bd j hj
      simp only [curveAt, within]
      by_cases e : j = 0
      · subst e
        have h0 := h.x0
        have h1' : 0 ≤ (pt l 0).X ∧ (pt l 0).X ≤ 400 ∧ 0 ≤ (pt l 0).Y ∧ (pt l 0).Y ≤ 20000 := h1
        simp; omega
      · have h2 := (h.st j (by omega) hj).1
        have h3 : ¬ (pt l (j : Int)).X ≤ (pt l ((j : Int) - 1)).X := by omega
        simp [h3]; omega
  refine ⟨steady_yes (k := l.length) hc (fun j hj h1 => ?_) (Nat.le_refl _), by rw [endX, h.last]⟩
  have h2 := (h.st j h1 hj).2
  simp only [steadyAt]
  simp; omega
structure Light (s : Ship) : Prop where
  t : s.Thrust.length ≤ 20
  w : s.Water.length ≤ 20
  i : s.Ice.length ≤ 20
instance (s : Ship) : Decidable (Light s) := decidable_of_iff (s.Thrust.length ≤ 20 ∧ s.Water.length ≤ 20 ∧ s.Ice.length ≤ 20) ⟨fun ⟨a, b, c⟩ => ⟨a, b, c⟩, fun h => ⟨h.t, h.w, h.i⟩⟩
def segN (l : List Pt) (i x : Int) : Int := (pt l (i - 1)).Y * ((pt l i).X - (pt l (i - 1)).X) + ((pt l i).Y - (pt l (i - 1)).Y) * (x - (pt l (i - 1)).X)
def segD (l : List Pt) (i : Int) : Int := (pt l i).X - (pt l (i - 1)).X
theorem valFrom_seg {l : List Pt} {x : Int} : ∀ (f i : Nat), 1 ≤ i → i + f = l.length → (pt l ((i : Int) - 1)).X ≤ x →
    (endX l < x ∧ valFrom l x f i = ((pt l ((l.length : Int) - 1)).Y, 1)) ∨ ∃ j : Nat, i ≤ j ∧ j < l.length ∧ (pt l ((j : Int) - 1)).X ≤ x ∧ x ≤ (pt l (j : Int)).X ∧ valFrom l x f i = (segN l j x, segD l j) ∨ (f = 0 ∧ valFrom l x f i = ((pt l ((l.length : Int) - 1)).Y, 1) ∧ x = endX l) := by
  intro f
  induction f with
  | zero =>
    intro i h1 h2 h3
    have e : endX l = (pt l ((i : Int) - 1)).X := by rw [endX, show (l.length : Int) - 1 = (i : Int) - 1 by omega]
    rcases Int.lt_or_le (endX l) x with h | h
    · exact .inl ⟨h, rfl⟩
    · exact .inr ⟨i, .inr ⟨rfl, rfl, by omega⟩⟩
  | succ f ih =>
    intro i h1 h2 h3
    simp only [valFrom]
    by_cases h : x ≤ (pt l (i : Int)).X
    · rw [if_pos h]
      exact .inr ⟨i, .inl ⟨Nat.le_refl _, by omega, h3, h, rfl⟩⟩
    · rw [if_neg h]
      rcases ih (i + 1) (by omega) (by omega) (by rw [show ((i + 1 : Nat) : Int) - 1 = (i : Int) by omega]; omega) with h' | ⟨j, ⟨h4, h5⟩ | ⟨rfl, h5, h6⟩⟩
      · exact .inl h'
      · exact .inr ⟨j, .inl ⟨by omega, h5⟩⟩
      · exfalso
        rw [endX, show (l.length : Int) - 1 = (i : Int) by omega] at h6
        omega
theorem X_lt {l : List Pt} (hc : curve l = true) : ∀ {j i : Nat}, i < j → j < l.length → (pt l (i : Int)).X < (pt l (j : Int)).X := by
  intro j
  induction j with
  | zero => intro i h; omega
  | succ j ih =>
    intro i h1 h2
    have := curve_up hc (i := j + 1) (by omega) h2
    rw [show j + 1 - 1 = j by omega] at this
    by_cases e : i = j
    · subst e; exact this
    · have := ih (i := i) (by omega) (by omega)
      omega
theorem ratio_floor {a b c d : Int} (hb : 0 < b) (hd : 0 < d) (h : a * d = c * b) : a / b = c / d := by
  have h1 := floor_mono hb hd (Int.le_of_eq h)
  have h2 := floor_mono hd hb (Int.le_of_eq h.symm)
  omega
theorem check_40 {s : Ship} (h1 : rule1 s = true) (h : (rule2 s && rule3 s && rule4 s && rule5 s && rule6 s) = false) : check s = 40 := by
  unfold check
  rw [h1]
  cases e2 : rule2 s <;> cases e3 : rule3 s <;> cases e4 : rule4 s <;> cases e5 : rule5 s <;> cases e6 : rule6 s <;> simp_all
theorem ratio_ceil {a b c d : Int} (hb : 0 < b) (hd : 0 < d) (h : a * d = c * b) : (a + b - 1) / b = (c + d - 1) / d := by
  have h1 := ceil_mono hb hd (Int.le_of_eq h)
  have h2 := ceil_mono hd hb (Int.le_of_eq h.symm)
  omega
theorem ceil_if {a b : Int} (hb : 0 < b) : (a + b - 1) / b = if a / b * b < a then a / b + 1 else a / b := by
  have h1 := Int.ediv_mul_le a (b := b) (by omega)
  have h2 := Int.lt_mul_ediv_self_add (x := a) hb
  rw [Int.mul_comm] at h2
  generalize a / b = q at *
  split
  · refine Int.le_antisymm ?_ ?_
    · have : (a + b - 1) / b < q + 2 := Int.ediv_lt_of_lt_mul hb (by rw [Int.add_mul]; omega)
      omega
    · exact Int.le_ediv_of_mul_le hb (by rw [Int.add_mul]; omega)
  · refine Int.le_antisymm ?_ ?_
    · have : (a + b - 1) / b < q + 1 := Int.ediv_lt_of_lt_mul hb (by rw [Int.add_mul]; omega)
      omega
    · exact Int.le_ediv_of_mul_le hb (by omega)
theorem res_ratio {wn wd ln ld W1 W2 I1 I2 C A sh R rd P : Int} (h1 : wn * W2 = W1 * wd) (h2 : ln * I2 = I1 * ld) :
    (wn * (ld * 10000000) + C * ln * A * sh * wd + C * R * rd * (wd * ld * 100000) + P * (wd * ld * 10000000)) * (W2 * (I2 * 10000000)) =
    (W1 * (I2 * 10000000) + C * (I1 * A * sh + R * rd * I2 * 100000) * W2 + P * W2 * (I2 * 10000000)) * (wd * ld * 10000000) := by
  have t1 : wn * (ld * 10000000) * (W2 * (I2 * 10000000)) = W1 * (I2 * 10000000) * (wd * ld * 10000000) := by
    calc wn * (ld * 10000000) * (W2 * (I2 * 10000000)) = (wn * W2) * (ld * I2 * 10000000 * 10000000) := by ac_rfl
      _ = (W1 * wd) * (ld * I2 * 10000000 * 10000000) := by rw [h1]
      _ = _ := by ac_rfl
  have t2 : C * ln * A * sh * wd * (W2 * (I2 * 10000000)) = C * (I1 * A * sh) * W2 * (wd * ld * 10000000) := by
    calc C * ln * A * sh * wd * (W2 * (I2 * 10000000)) = (ln * I2) * (C * A * sh * wd * W2 * 10000000) := by ac_rfl
      _ = (I1 * ld) * (C * A * sh * wd * W2 * 10000000) := by rw [h2]
      _ = _ := by ac_rfl
  have t3 : C * R * rd * (wd * ld * 100000) * (W2 * (I2 * 10000000)) = C * (R * rd * I2 * 100000) * W2 * (wd * ld * 10000000) := by ac_rfl
  have t4 : P * (wd * ld * 10000000) * (W2 * (I2 * 10000000)) = P * W2 * (I2 * 10000000) * (wd * ld * 10000000) := by ac_rfl
  rw [Int.add_mul, Int.add_mul, Int.add_mul, Int.add_mul, Int.add_mul, Int.mul_add, Int.add_mul, Int.add_mul, t1, t2, t3, t4]
  omega
theorem check_endT {s : Ship} (h : check s = 0) : 10 ≤ endX s.Thrust ∧ endX s.Thrust ≤ 250 := by
  have := (check_rules h).2.2.2.1
  simp only [rule4, Bool.and_eq_true] at this
  exact within_t this.2
theorem makes_down {s : Ship} (hc : check s = 0) {i : Ice} (hi : goodIce i) (ch : Bool) : ∀ u v, (0 : Int) ≤ u → u ≤ v → v ≤ 250 → makes s i ch v = true → makes s i ch u = true :=
  fun _ _ h1 h2 _ h => makes_mono hc hi hi .rfl h1 h2 h
theorem great_eq {so : Int → Bool} {lo hi r : Int} (hd : ∀ u v, lo ≤ u → u ≤ v → v ≤ hi → so v = true → so u = true) (h1 : lo ≤ r) (h2 : r ≤ hi) (hr : so r = true) (hn : ∀ u, r < u → u ≤ hi → so u = false) : so lo = true ∧ great so lo hi = r := by
  have h0 := hd lo r (Int.le_refl _) h1 h2 hr
  obtain ⟨a, b, c⟩ := great_is (by omega) h0 hd
  refine ⟨h0, ?_⟩
  have c1 := (c r h1 h2).1 hr
  rcases Int.lt_or_le r (great so lo hi) with h | h
  · have := (c _ a b).2 (Int.le_refl _)
    rw [hn _ h b] at this; cases this
  · omega
structure Last (so : Int → Bool) (lo d out n : Int) : Prop where
  it : (out = d ∧ ∀ u, lo ≤ u → u < n → so u = false) ∨ (lo ≤ out ∧ out < n ∧ so out = true ∧ ∀ u, out < u → u < n → so u = false)
theorem Last.start {so : Int → Bool} {lo d : Int} : Last so lo d d lo := ⟨.inl ⟨rfl, fun u h1 h2 => by omega⟩⟩
theorem Last.yes {so : Int → Bool} {lo d n : Int} (hn : lo ≤ n) (h : so n = true) : Last so lo d n (n + 1) := ⟨.inr ⟨hn, by omega, h, fun u h1 h2 => by omega⟩⟩
theorem Last.no {so : Int → Bool} {lo d out n : Int} (hl : Last so lo d out n) (h : so n = false) : Last so lo d out (n + 1) := by
  refine ⟨?_⟩
  rcases hl.it with ⟨h1, h2⟩ | ⟨h1, h2, h3, h4⟩
  · exact .inl ⟨h1, fun u a b => by by_cases e : u = n; exact e ▸ h; exact h2 u a (by omega)⟩
  · exact .inr ⟨h1, by omega, h3, fun u a b => by by_cases e : u = n; exact e ▸ h; exact h4 u a (by omega)⟩
theorem Last.greatest {so : Int → Bool} {lo hi d out : Int} (hl : Last so lo d out (hi + 1)) (hle : lo ≤ hi) (hd : ∀ u v, lo ≤ u → u ≤ v → v ≤ hi → so v = true → so u = true) :
    (out = d ∧ Go.Proofs.Bk.greatest so lo hi = (0, false) ∧ ∀ u, lo ≤ u → u ≤ hi → so u = false) ∨ (Go.Proofs.Bk.greatest so lo hi = (out, true) ∧ lo ≤ out ∧ out ≤ hi) := by
  unfold Go.Proofs.Bk.greatest
  rcases hl.it with ⟨h1, h2⟩ | ⟨h1, h2, h3, h4⟩
  · rw [h2 lo (Int.le_refl _) (by omega)]; exact .inl ⟨h1, by simp, fun u h3 h4 => h2 u h3 (by omega)⟩
  · obtain ⟨a, b⟩ := great_eq hd h1 (by omega) h3 (fun u h5 h6 => h4 u h5 (by omega))
    rw [if_pos a, b]; exact .inr ⟨rfl, h1, by omega⟩
theorem checkCell_20 {c : Cell} (h : ¬ goodCell c) : checkCell c = 20 := by
  have := mt checkCell_ok.1 h
  unfold checkCell at this ⊢
  split
  · rfl
  · rename_i h2; rw [if_neg h2] at this; exact absurd rfl this
def corners (c : Cell) : List Ice :=
  [c.Press.Lo, c.Press.Hi].flatMap fun p => [c.Ridge.Lo, c.Ridge.Hi].flatMap fun r => [c.Thick.Lo, c.Thick.Hi].flatMap fun t => [c.Conc.Lo, c.Conc.Hi].map fun n => ⟨n, t, r, p⟩
theorem corners_len (c : Cell) : (corners c).length = 16 := rfl
theorem corners_mem {c : Cell} {x : Ice} : x ∈ corners c ↔ (x.Conc = c.Conc.Lo ∨ x.Conc = c.Conc.Hi) ∧ (x.Thick = c.Thick.Lo ∨ x.Thick = c.Thick.Hi) ∧ (x.Ridge = c.Ridge.Lo ∨ x.Ridge = c.Ridge.Hi) ∧ (x.Press = c.Press.Lo ∨ x.Press = c.Press.Hi) := by
  obtain ⟨n, t, r, p⟩ := x
  simp only [corners, List.mem_flatMap, List.mem_map, List.mem_cons, List.not_mem_nil, or_false, Ice.mk.injEq]
  constructor
  · rintro ⟨p', hp, r', hr, t', ht, n', hn, rfl, rfl, rfl, rfl⟩; exact ⟨hn, ht, hr, hp⟩
  · rintro ⟨hn, ht, hr, hp⟩; exact ⟨p, hp, r, hr, t, ht, n, hn, rfl, rfl, rfl, rfl⟩
theorem corners_first (c : Cell) : firstI c ∈ corners c := corners_mem.2 ⟨.inl rfl, .inl rfl, .inl rfl, .inl rfl⟩
theorem corners_last (c : Cell) : lastI c ∈ corners c := corners_mem.2 ⟨.inr rfl, .inr rfl, .inr rfl, .inr rfl⟩
theorem corners_in {c : Cell} (hg : goodCell c) {x : Ice} (h : x ∈ corners c) : goodIce x ∧ LeI (firstI c) x ∧ LeI x (lastI c) := by
  obtain ⟨h1, h2, h3, h4⟩ := corners_mem.1 h
  obtain ⟨⟨_, _, _⟩, ⟨_, _, _⟩, ⟨_, _, _⟩, ⟨_, _, _⟩⟩ := hg
  refine ⟨?_, ⟨?_, ?_, ?_, ?_⟩, ⟨?_, ?_, ?_, ?_⟩⟩
  · unfold goodIce; omega
  all_goals simp only [firstI, lastI]; omega
theorem speed_lt {s : Ship} (hc : check s = 0) {c : Cell} (hg : goodCell c) (ch : Bool) : (∃ x ∈ corners c, speed s x ch < 10) ↔ speed s (lastI c) ch < 10 := by
  constructor
  · rintro ⟨x, hx, h⟩
    obtain ⟨h1, _, h2⟩ := corners_in hg hx
    have := speed_mono hc h1 (goodCell_last hg) h2 ch
    omega
  · exact fun h => ⟨_, corners_last c, h⟩
theorem goesP_all {s : Ship} (hc : check s = 0) {c : Cell} (hg : goodCell c) (ch : Bool) {v : Int} (hv : 0 ≤ v) : (∀ x ∈ corners c, goesP s x ch v = true) ↔ goesP s (lastI c) ch v = true := by
  constructor
  · exact fun h => h _ (corners_last c)
  · intro h x hx
    obtain ⟨h1, _, h2⟩ := corners_in hg hx
    exact goesP_mono hc h1 (goodCell_last hg) h2 hv (Int.le_refl _) h
theorem goesP_any {s : Ship} (hc : check s = 0) {c : Cell} (hg : goodCell c) (ch : Bool) {v : Int} (hv : 0 ≤ v) : (∃ x ∈ corners c, goesP s x ch v = true) ↔ goesP s (firstI c) ch v = true := by
  constructor
  · rintro ⟨x, hx, h⟩
    obtain ⟨h1, h2, _⟩ := corners_in hg hx
    exact goesP_mono hc (goodCell_first hg) h1 h2 hv (Int.le_refl _) h
  · exact fun h => ⟨_, corners_first c, h⟩
theorem makes_of_speed {s : Ship} (hc : check s = 0) {i : Ice} (hi : goodIce i) {ch : Bool} {v : Int} (hv : 1 ≤ v ∧ v ≤ 250) (h : v ≤ speed s i ch) : makes s i ch v = true := by
  unfold speed greatest at h
  by_cases h0 : makes s i ch 0 = true
  · rw [if_pos h0] at h
    obtain ⟨a, b, c⟩ := great_is (so := fun v => makes s i ch v) (by decide) h0 (makes_down hc hi ch)
    exact (c v (by omega) (by omega)).2 h
  · rw [if_neg h0] at h
    simp only [] at h; omega
theorem most_eq {s : Ship} (hc : check s = 0) {c : Cell} (hg : goodCell c) {ch : Bool} (h : (safe s c ch).2 = 0) {x : Int} (hl : Last (goesP s (firstI c) ch) (safe s c ch).1 (safe s c ch).1 x (250 + 1)) : x = (goes s (firstI c) ch).1 := by
  obtain ⟨h1, h2, h3⟩ := safe_goes hc hg h
  have hf := goodCell_first hg
  have hla := goodCell_last hg
  have hgl : (goes s (lastI c) ch).2 = true := by
    unfold safe at h
    by_cases e1 : speed s (lastI c) ch < 10
    · rw [if_pos e1] at h; cases h
    · rw [if_neg e1] at h
      cases e2 : (goes s (lastI c) ch).2 with
      | false => rw [e2, if_pos rfl] at h; cases h
      | true => rfl
  have g10 := goes_ok (s := s) (i := lastI c) (ch := ch)
  rw [hgl] at g10
  have hv : goesP s (lastI c) ch (safe s c ch).1 = true := by
    rw [h1, goes_eq, if_pos g10.symm]
    have := great_is (by decide) g10.symm (goes_down hc hla ch)
    exact (this.2.2 _ this.1 this.2.1).2 (Int.le_refl _)
  have hvf : goesP s (firstI c) ch (safe s c ch).1 = true := goesP_mono hc hf hla (first_le_last hg) (by omega) (Int.le_refl _) hv
  have hf10 : goesP s (firstI c) ch 10 = true := goesP_mono hc hf hla (first_le_last hg) (by decide) (Int.le_refl _) g10.symm
  rw [goes_eq, if_pos hf10]
  rcases hl.it with ⟨a, b⟩ | ⟨a, b, c', d⟩
  · rw [b _ (Int.le_refl _) (by omega)] at hvf; cases hvf
  · exact (great_eq (goes_down hc hf ch) (by omega) (by omega) c' (fun u e f => d u e (by omega))).2.symm
theorem partsErr_good : ∀ {l : List Part}, partsErr l = 0 → ∀ p ∈ l, goodPart p := by
  intro l
  induction l with
  | nil => intro _ p hp; cases hp
  | cons q r ih =>
    intro h p hp
    unfold partsErr at h
    by_cases e : partErr q = 0
    · rw [if_neg (by simp [e])] at h
      rcases List.mem_cons.1 hp with rfl | hp
      · exact partErr_ok.1 e
      · exact ih h p hp
    · rw [if_pos e] at h; exact absurd h e
structure Waits (l m : List Span) : Prop where
  len : l.length = m.length
  most : l.length ≤ 20
  each : ∀ j < l.length, goodSpan (l.getD j ⟨0, 0⟩) 3 ∧ goodSpan (m.getD j ⟨0, 0⟩) 3 ∧ (m.getD j ⟨0, 0⟩).Lo ≤ (l.getD j ⟨0, 0⟩).Lo ∧ (m.getD j ⟨0, 0⟩).Hi ≤ (l.getD j ⟨0, 0⟩).Hi
theorem Waits.nil : Waits [] [] := ⟨rfl, by simp, fun j hj => by simp at hj⟩
theorem Waits.snoc {l m : List Span} (h : Waits l m) (hl : l.length < 20) {p q : Span} (hp : goodSpan p 3) (hq : goodSpan q 3) (h1 : q.Lo ≤ p.Lo) (h2 : q.Hi ≤ p.Hi) : Waits (l ++ [p]) (m ++ [q]) := by
  refine ⟨by simp [h.len], by simp; omega, fun j hj => ?_⟩
  by_cases e : j < l.length
  · have e' : j < m.length := by rw [← h.len]; exact e
    have := h.each j e
    simpa [List.getD, List.getElem?_append_left e, List.getElem?_append_left e'] using this
  · have : j = l.length := by simp at hj; omega
    subst this
    have e1 : (l ++ [p]).getD l.length ⟨0, 0⟩ = p := by simp [List.getD]
    have e2 : (m ++ [q]).getD l.length ⟨0, 0⟩ = q := by rw [h.len]; simp [List.getD]
    rw [e1, e2]
    exact ⟨hp, hq, h1, h2⟩
def sumP (f : Part → Int) : List Part → Int
  | [] => 0
  | p :: r => f p + sumP f r
theorem sumP_bd {f : Part → Int} : ∀ {l : List Part}, (∀ p ∈ l, 0 ≤ f p ∧ f p ≤ 60025) → 0 ≤ sumP f l ∧ sumP f l ≤ 60025 * l.length
  | [], _ => by simp [sumP]
  | p :: r, h => by
    have h1 := h p (List.mem_cons_self ..)
    have h2 := sumP_bd (l := r) fun q hq => h q (List.mem_cons_of_mem _ hq)
    simp only [sumP, List.length_cons]
    omega
def safeP (s : Ship) (p : Part) : Int × Int := safe s p.Cell p.Channel
def fastP (s : Ship) (p : Part) : Int := takes p (goes s (firstI p.Cell) p.Channel).1
def slowP (s : Ship) (p : Part) : Int := takes p (safe s p.Cell p.Channel).1
theorem legFrom_ok {s : Ship} : ∀ {l : List Part} {i : Int} {v : List Int} {lo hi : Int}, (∀ p ∈ l, (safeP s p).2 = 0) →
    legFrom s l i v lo hi = (v ++ l.map (fun p => (safeP s p).1), ⟨lo + sumP (fastP s) l, hi + sumP (slowP s) l⟩, 0) := by
  intro l
  induction l with
  | nil => intro i v lo hi _; simp [legFrom, sumP]
  | cons p r ih =>
    intro i v lo hi h
    have hp : (safe s p.Cell p.Channel).2 = 0 := h p (List.mem_cons_self ..)
    rw [legFrom, if_neg (by simp [hp]), ih fun q hq => h q (List.mem_cons_of_mem _ hq)]
    simp only [List.map_cons, sumP, fastP, slowP, safeP, List.append_assoc, List.cons_append, List.nil_append, Int.add_assoc]
theorem legFrom_bad {s : Ship} : ∀ {l : List Part} {i : Int} {v : List Int} {lo hi : Int} {j : Nat}, j < l.length → (∀ q < j, (safeP s (l.getD q default)).2 = 0) → (safeP s (l.getD j default)).2 ≠ 0 →
    legFrom s l i v lo hi = ([], ⟨i + j, 0⟩, (safeP s (l.getD j default)).2) := by
  intro l
  induction l with
  | nil => intro i v lo hi j hj; simp at hj
  | cons p r ih =>
    intro i v lo hi j hj h1 h2
    cases j with
    | zero =>
      have h2 : (safe s p.Cell p.Channel).2 ≠ 0 := by simpa [safeP] using h2
      rw [legFrom, if_pos h2]; simp [safeP]
    | succ j =>
      have hp : (safe s p.Cell p.Channel).2 = 0 := by simpa [safeP] using h1 0 (by omega)
      rw [legFrom, if_neg (by simp [hp]), ih (j := j) (by simpa using hj) (fun q hq => by simpa using h1 (q + 1) (by omega)) (by simpa using h2)]
      simp only [List.getD_cons_succ, Prod.mk.injEq, Span.mk.injEq, and_true, true_and]
      omega
theorem first_bad {s : Ship} : ∀ (l : List Part), (∀ p ∈ l, (safeP s p).2 = 0) ∨ ∃ j < l.length, (∀ q < j, (safeP s (l.getD q default)).2 = 0) ∧ (safeP s (l.getD j default)).2 ≠ 0
  | [] => .inl fun p hp => by cases hp
  | p :: r => by
    by_cases h : (safeP s p).2 = 0
    · rcases first_bad (s := s) r with h1 | ⟨j, h1, h2, h3⟩
      · refine .inl fun q hq => ?_
        rcases List.mem_cons.1 hq with rfl | hq
        · exact h
        · exact h1 q hq
      · refine .inr ⟨j + 1, by simpa using h1, fun q hq => ?_, by simpa using h3⟩
        cases q with
        | zero => simpa using h
        | succ q => simpa using h2 q (by omega)
    · exact .inr ⟨0, by simp, fun q hq => by omega, by simpa using h⟩
theorem partsErr_zero : ∀ {l : List Part}, (∀ p ∈ l, goodPart p) → partsErr l = 0
  | [], _ => rfl
  | p :: r, h => by
    rw [partsErr, if_neg (by simp [partErr_ok.2 (h p (List.mem_cons_self ..))])]
    exact partsErr_zero fun q hq => h q (List.mem_cons_of_mem _ hq)
theorem leg_from {s : Ship} (hc : check s = 0) {l : List Part} (h1 : 1 ≤ l.length) (h2 : l.length ≤ 100) (h : ∀ p ∈ l, goodPart p) : leg s l = legFrom s l 0 [] 0 0 := by
  have hw : within (l.length : Int) 1 100 = true := by simp [within]; omega
  rw [leg, if_neg (by simp [hc]), if_neg (by simp [hw]), if_neg (by simp [partsErr_zero h])]
theorem leg_ok {s : Ship} (hc : check s = 0) {l : List Part} (h1 : 1 ≤ l.length) (h2 : l.length ≤ 100) (h : ∀ p ∈ l, goodPart p) (hs : ∀ p ∈ l, (safeP s p).2 = 0) :
    leg s l = (l.map (fun p => (safeP s p).1), ⟨sumP (fastP s) l, sumP (slowP s) l⟩, 0) := by
  rw [leg_from hc h1 h2 h, legFrom_ok hs]; simp
theorem leg_bad {s : Ship} (hc : check s = 0) {l : List Part} (h2 : l.length ≤ 100) (h : ∀ p ∈ l, goodPart p) {j : Nat} (hj : j < l.length) (hq : ∀ q < j, (safeP s (l.getD q default)).2 = 0) (hb : (safeP s (l.getD j default)).2 ≠ 0) :
    leg s l = ([], ⟨j, 0⟩, (safeP s (l.getD j default)).2) := by
  rw [leg_from hc (by omega) h2 h, legFrom_bad hj hq hb]; simp
def InS (s t : Span) : Prop := t.Lo ≤ s.Lo ∧ s.Hi ≤ t.Hi
structure InC (c d : Cell) : Prop where
  conc : InS c.Conc d.Conc
  thick : InS c.Thick d.Thick
  ridge : InS c.Ridge d.Ridge
  press : InS c.Press d.Press
theorem InC.first {c d : Cell} (h : InC c d) : LeI (firstI d) (firstI c) := ⟨h.conc.1, h.thick.1, h.ridge.1, h.press.1⟩
theorem InC.last {c d : Cell} (h : InC c d) : LeI (lastI c) (lastI d) := ⟨h.conc.2, h.thick.2, h.ridge.2, h.press.2⟩
end Go.Proofs.Bk
namespace Go.Proofs.Bk
open Go Go.KX
def nearM (m : Member) (v : Int) : Int := min m.Short ((value m.Stop v).1 / (value m.Stop v).2)
def ceilV (l : List Pt) (v : Int) : Int := ((value l v).1 + (value l v).2 - 1) / (value l v).2
def farM (m : Member) (v : Int) : Int := (463 * v * m.Delay + 8999) / 9000 + ceilV m.Stop v
structure GoodM (m : Member) : Prop where
  ship : check m.Ship = 0
  len : 10 ≤ m.Length ∧ m.Length ≤ 500
  delay : 0 ≤ m.Delay ∧ m.Delay ≤ 600
  short : 0 ≤ m.Short ∧ m.Short ≤ 20000
  stop : steady m.Stop 1 = true
  stop0 : (pt m.Stop 0).Y = 0
  stopE : endX m.Ship.Thrust ≤ endX m.Stop
theorem GoodM.curve {m : Member} (h : GoodM m) : curve m.Stop = true := steady_curve h.stop
def gapM (clear v : Int) (p m : Member) : Int := clear + max 0 (farM m v - nearM p v)
def tailL (clear v : Int) : Member → List Member → Int
  | _, [] => 0
  | p, m :: r => gapM clear v p m + m.Length + tailL clear v m r
abbrev GoodL (l : List Member) : Prop := ∀ m ∈ l, GoodM m
def mostFrom (cell : Cell) : Bool → List Member → Int → Int
  | _, [], out => out
  | ch, m :: r, out => if (safe m.Ship cell ch).2 ≠ 0 then 0 else mostFrom cell true r (min out (safe m.Ship cell ch).1)
def mostC (c : Convoy) (cell : Cell) : Int := mostFrom cell false (c.Breaker :: c.Ships) 250
def okM (cell : Cell) (v : Int) : Bool → List Member → Prop
  | _, [] => True
  | ch, m :: r => (safe m.Ship cell ch).2 = 0 ∧ v ≤ (safe m.Ship cell ch).1 ∧ okM cell v true r
theorem most_iff {cell : Cell} {v : Int} (hv : 1 ≤ v) : ∀ {ch : Bool} {l : List Member} {out : Int}, v ≤ mostFrom cell ch l out ↔ v ≤ out ∧ okM cell v ch l
  | _, [], _ => by simp [mostFrom, okM]
  | ch, m :: r, out => by
    unfold mostFrom okM
    by_cases h : (safe m.Ship cell ch).2 = 0
    · rw [if_neg (by simp [h]), most_iff hv (l := r)]
      constructor
      · rintro ⟨a, b⟩; exact ⟨by omega, h, by omega, b⟩
      · rintro ⟨a, _, b, c⟩; exact ⟨by omega, c⟩
    · rw [if_pos h]
      constructor
      · intro h'; omega
      · rintro ⟨_, h', _⟩; exact absurd h' h
def closeOK (a : Numbers) : Bool := within a.a0 0 1440 && within a.a1 0 a.a0 && within a.a2 0 a.a1 && within a.a3 0 a.a2
def closeAt (a : Numbers) (p : Int) : Int := if p = 0 then a.a0 else if p = 1 then a.a1 else if p = 2 then a.a2 else a.a3
structure GoodC (c : Convoy) : Prop where
  len : c.Ships.length ≤ 6
  br : GoodM c.Breaker
  ships : GoodL c.Ships
  clear : 0 ≤ c.Clear ∧ c.Clear ≤ 2000
  close : closeOK c.Close = true
theorem GoodC.all {c : Convoy} (h : GoodC c) : GoodL (c.Breaker :: c.Ships) := by
  simp only [GoodL, List.mem_cons, forall_eq_or_imp]
  exact ⟨h.br, h.ships⟩
def openW (c : Convoy) (v press : Int) : Int := 463 * v * (60 * closeAt c.Close press) / 9000
def fitsC (c : Convoy) (v press : Int) : Prop := tailL c.Clear v c.Breaker c.Ships ≤ openW c v press
instance (c : Convoy) (v press : Int) : Decidable (fitsC c v press) := inferInstanceAs (Decidable (_ ≤ _))
def HoldsC (c : Convoy) (cell : Cell) (v : Int) : Prop := 10 ≤ v ∧ v ≤ mostC c cell ∧ fitsC c v cell.Press.Hi
instance (c : Convoy) (cell : Cell) (v : Int) : Decidable (HoldsC c cell v) := inferInstanceAs (Decidable (_ ∧ _ ∧ _))
theorem holds_iff {c : Convoy} {cell : Cell} {v : Int} : HoldsC c cell v ↔ 10 ≤ v ∧ v ≤ 250 ∧ okM cell v false (c.Breaker :: c.Ships) ∧ fitsC c v cell.Press.Hi := by
  unfold HoldsC mostC
  constructor
  · rintro ⟨a, b, d⟩
    have := (most_iff (by omega)).1 b
    exact ⟨a, this.1, this.2, d⟩
  · rintro ⟨a, b, d, e⟩
    exact ⟨a, (most_iff (by omega)).2 ⟨b, d⟩, e⟩
theorem holds_bd {c : Convoy} {cell : Cell} {v : Int} (h : HoldsC c cell v) : 10 ≤ v ∧ v ≤ 250 := by
  have := holds_iff.1 h
  exact ⟨this.1, this.2.1⟩
def FastC (c : Convoy) (cell : Cell) (r : Int) : Prop := (r = 0 ∧ ∀ u, ¬ HoldsC c cell u) ∨ (HoldsC c cell r ∧ ∀ u, r < u → ¬ HoldsC c cell u)
theorem FastC.one {c : Convoy} {cell : Cell} {r s : Int} (h : FastC c cell r) (h' : FastC c cell s) : r = s := by
  rcases h with ⟨h1, h2⟩ | ⟨h1, h2⟩ <;> rcases h' with ⟨h3, h4⟩ | ⟨h3, h4⟩
  · omega
  · exact absurd h3 (h2 s)
  · exact absurd h1 (h4 r)
  · by_cases a : r < s
    · exact absurd h3 (h2 s a)
    · by_cases b : s < r
      · exact absurd h1 (h4 r b)
      · omega
theorem FastC.bd {c : Convoy} {cell : Cell} {r : Int} (h : FastC c cell r) : 0 ≤ r ∧ r ≤ 250 := by
  rcases h with ⟨h1, _⟩ | ⟨h1, _⟩
  · omega
  · have := holds_bd h1; omega
theorem FastC.pos {c : Convoy} {cell : Cell} {r : Int} (h : FastC c cell r) : r = 0 ∨ HoldsC c cell r := by
  rcases h with ⟨h1, _⟩ | ⟨h1, _⟩
  · exact .inl h1
  · exact .inr h1
theorem FastC.mono {c d : Convoy} {x y : Cell} {r s : Int} (h : ∀ u, HoldsC c x u → HoldsC d y u) (hr : FastC c x r) (hs : FastC d y s) : r ≤ s := by
  rcases hr with ⟨h1, _⟩ | ⟨h1, _⟩
  · have := hs.bd; omega
  · rcases hs with ⟨_, h4⟩ | ⟨_, h4⟩
    · exact absurd (h r h1) (h4 r)
    · by_cases a : s < r
      · exact absurd (h r h1) (h4 r a)
      · omega
end Go.Proofs.Bk
namespace Go.Proofs.Bk
open Go Go.KX
def Gr (go : Int → Int → Bool) (n : Int) : Int → List Int → Prop
  | _, [] => True
  | a, k :: r => 1 ≤ k ∧ a + k ≤ n ∧ go a (a + k) = true ∧ (∀ j, k < j → a + j ≤ n → go a (a + j) = false) ∧ Gr go n (a + k) r
theorem Gr.snoc {go : Int → Int → Bool} {n : Int} : ∀ {l : List Int} {a k : Int}, Gr go n a l → 1 ≤ k → a + sumL l + k ≤ n → go (a + sumL l) (a + sumL l + k) = true → (∀ j, k < j → a + sumL l + j ≤ n → go (a + sumL l) (a + sumL l + j) = false) → Gr go n a (l ++ [k])
  | [], a, k, _, h1, h2, h3, h4 => by
    simp only [sumL, Int.add_zero] at h2 h3 h4
    exact ⟨h1, h2, h3, h4, trivial⟩
  | x :: r, a, k, h, h1, h2, h3, h4 => by
    obtain ⟨a1, a2, a3, a4, a5⟩ := h
    simp only [sumL] at h2 h3 h4
    rw [← Int.add_assoc] at h2 h3
    refine ⟨a1, a2, a3, a4, Gr.snoc a5 h1 h2 h3 fun j hj hn => ?_⟩
    have := h4 j hj (by omega)
    rwa [← Int.add_assoc] at this
theorem Gr.one {go : Int → Int → Bool} {n : Int} : ∀ {l : List Int} {a : Int}, Gr go n a l → ∀ x ∈ l, 1 ≤ x
  | [], _, _, x, hx => by cases hx
  | k :: r, a, h, x, hx => by
    obtain ⟨a1, a2, a3, a4, a5⟩ := h
    rcases List.mem_cons.1 hx with rfl | hx
    · exact a1
    · exact a5.one x hx
theorem Gr.at {go : Int → Int → Bool} {n : Int} : ∀ {l : List Int} {a : Int} {i : Nat}, Gr go n a l → i < l.length →
    1 ≤ l.getD i 0 ∧ a + sumL (l.take i) + l.getD i 0 ≤ n ∧ go (a + sumL (l.take i)) (a + sumL (l.take i) + l.getD i 0) = true ∧ ∀ j, l.getD i 0 < j → a + sumL (l.take i) + j ≤ n → go (a + sumL (l.take i)) (a + sumL (l.take i) + j) = false
  | [], _, _, _, h => by simp at h
  | k :: r, a, 0, h, _ => by
    obtain ⟨a1, a2, a3, a4, a5⟩ := h
    simp only [List.take_zero, sumL, Int.add_zero, List.getD_cons_zero]
    exact ⟨a1, a2, a3, a4⟩
  | k :: r, a, i + 1, h, hi => by
    obtain ⟨a1, a2, a3, a4, a5⟩ := h
    have := a5.at (i := i) (by simpa using hi)
    simpa only [List.take_succ_cons, sumL, List.getD_cons_succ, ← Int.add_assoc] using this
end Go.Proofs.Bk
namespace Go.Proofs.Bk
open Go Go.KX
section
variable {α β : Type} {post : α → Prop}
theorem ok_bbrk {c : Bool} {x y : Option β} {f : β → Option α} (ht : c = true → Ok post (bnd x f)) (hf : c = false → Ok post (bnd y f)) : Ok post (bnd (brk c x y) f) := by
  cases c with
  | true => exact ht rfl
  | false => exact hf rfl
theorem ok_band {b y : Bool} {x : Option Bool} {f : Bool → Option α} (hx : b = true → x = some y) (h : Ok post (f (b && y))) : Ok post (bnd (brk b x (some false)) f) := by
  cases b with
  | false => exact h
  | true => rw [hx rfl]; exact h
end
theorem within_eq (F : Nat) (n a b : Int) : hull_within F n a b = some (within n a b) := rfl
theorem curve_eq {F : Nat} {l : List Pt} (hn : l.length ≤ 1000000) (hF : l.length < F) : hull_curve F l = some (curve l) := by
  refine Ok.eq ?_
  unfold hull_curve
  refine ok_bnde (within_eq ..) ?_
  have hlen : within (l.length : Int) 2 8 = true → 2 ≤ l.length := fun h => by simp only [within, Bool.and_eq_true, decide_eq_true_eq] at h; omega
  refine ok_chk (fun h => ?_) ?_
  · have : within (l.length : Int) 2 8 = true := by simpa using h
    have := hlen this
    exact ⟨by decide, by omega⟩
  refine ok_brk (fun h => ok_some (curve_no1 h).symm) (fun h => ?_)
  simp only [Bool.or_eq_false_iff, Bool.not_eq_false', bne_eq_false_iff_eq] at h
  refine ok_loop (fun q : Int => 0 ≤ q ∧ q ≤ l.length ∧ ∀ j : Nat, (j : Int) < q → curveAt l (j : Int) = true) (fun q => (l.length - q).toNat) ⟨by omega, by omega, fun j h => by omega⟩ (by omega) fun q next hI hn' => ?_
  obtain ⟨h0, h1, h2⟩ := hI
  refine ok_brk (fun hc => ?_) (fun hc => ok_some (curve_yes h.1 h.2 (k := l.length) (fun j hj => h2 j (by have := of_decide_eq_false hc; omega)) (Nat.le_refl _)).symm)
  have hc := of_decide_eq_true hc
  refine ok_chk ⟨h0, hc⟩ (ok_bnde (within_eq ..) (ok_band (fun _ => within_eq ..) ?_))
  have hg : (decide (q > 0)) = true → InR (q - 1) ∧ (0 ≤ q - 1 ∧ q - 1 < (l.length : Int)) := fun h => by have := of_decide_eq_true h; exact ⟨⟨by omega, by omega⟩, by omega, by omega⟩
  refine ok_chk (fun h => (hg (by simp only [Bool.and_eq_true] at h; exact h.2)).1) (ok_chk (fun h => (hg (by simp only [Bool.and_eq_true] at h; exact h.2)).2) ?_)
  have hcond : (!within (pt l q).X 0 400 || !(!!within (pt l q).X 0 400 && within (pt l q).Y 0 20000) || decide (q > 0) && decide ((pt l q).X ≤ (pt l (q - 1)).X)) = !curveAt l q := by
    unfold curveAt
    cases within (pt l q).X 0 400 <;> cases within (pt l q).Y 0 20000 <;> simp
  refine ok_brk (fun h => ok_some ?_) (fun h => ok_chk ⟨by omega, by omega⟩ (hn' _ ⟨by omega, by omega, fun j hj => ?_⟩ (by omega)))
  · have h : (!curveAt l q) = true := hcond ▸ h
    exact (curve_no2 (k := q.toNat) (by omega) (by rw [Int.toNat_of_nonneg h0]; simpa using h)).symm
  · have h : (!curveAt l q) = false := hcond ▸ h
    by_cases e : (j : Int) = q
    · rw [e]; simpa using h
    · exact h2 j (by omega)
theorem steady_eq {F : Nat} {l : List Pt} (hn : l.length ≤ 1000000) (hF : l.length < F) {w : Int} (hw : w = 1 ∨ w = -1) : hull_steady F l w = some (steady l w) := by
  refine Ok.eq ?_
  unfold hull_steady
  refine ok_bnde (curve_eq hn hF) ?_
  refine ok_brk (fun h => ok_some ?_) (fun h => ?_)
  · have h : curve l = false := by simpa using h
    simp [steady, h]
  have hc : curve l = true := by simpa using h
  have hb := curve_bd hc
  refine ok_loop (fun q : Int => 1 ≤ q ∧ q ≤ l.length ∧ ∀ j : Nat, 1 ≤ j → (j : Int) < q → steadyAt l w (j : Int) = true) (fun q => (l.length - q).toNat) ⟨by omega, by have := (curve_lt hc).2; omega, fun j h1 h2 => by omega⟩ (by omega) fun q next hI hn' => ?_
  obtain ⟨h0, h1, h2⟩ := hI
  refine ok_brk (fun hq => ?_) (fun hq => ok_some (steady_yes hc (k := l.length) (fun j hj h3 => h2 j h3 (by have := of_decide_eq_false hq; omega)) (Nat.le_refl _)).symm)
  have hq := of_decide_eq_true hq
  have b1 := hb q (by omega) hq
  have b2 := hb (q - 1) (by omega) (by omega)
  have hp : InR ((pt l q).Y - (pt l (q - 1)).Y) ∧ InR (((pt l q).Y - (pt l (q - 1)).Y) * w) := by rcases hw with rfl | rfl <;> constructor <;> constructor <;> omega
  refine ok_chk ⟨by omega, hq⟩ (ok_chk ⟨by omega, by omega⟩ (ok_chk ⟨by omega, by omega⟩ (ok_chk hp.1 (ok_chk hp.2 ?_))))
  have hs : steadyAt l w q = !decide (((pt l q).Y - (pt l (q - 1)).Y) * w < 0) := rfl
  refine ok_brk (fun h => ok_some ?_) (fun h => ok_chk ⟨by omega, by omega⟩ (hn' _ ⟨by omega, by omega, fun j h3 hj => ?_⟩ (by omega)))
  · have h : decide (((pt l q).Y - (pt l (q - 1)).Y) * w < 0) = true := h
    exact (steady_no (k := q.toNat) (by omega) (by omega) (by rw [Int.toNat_of_nonneg (by omega), hs, h]; rfl)).symm
  · have h : decide (((pt l q).Y - (pt l (q - 1)).Y) * w < 0) = false := h
    by_cases e : (j : Int) = q
    · rw [e, hs, h]; rfl
    · exact h2 j h3 (by omega)
theorem end_eq {F : Nat} {l : List Pt} (h1 : 1 ≤ l.length) (hn : l.length ≤ 1000000) : hull_end F l = some (endX l) := by
  refine Ok.eq ?_
  unfold hull_end
  exact ok_chk ⟨by omega, by omega⟩ (ok_chk ⟨by omega, by omega⟩ (ok_some rfl))
theorem val_prod {a b x y : Int} (hx : -400 ≤ x ∧ x ≤ 400) (hy : -1000 ≤ y ∧ y ≤ 1000) (ha : 0 ≤ a ∧ a ≤ 20000) (hb : -20000 ≤ b ∧ b ≤ 20000) : (-8000000 ≤ a * x ∧ a * x ≤ 8000000) ∧ -20000000 ≤ b * y ∧ b * y ≤ 20000000 := by
  have h1 := mul_bd (x := a) (y := x) (A := 20000) (B := 400) (by omega) (by omega)
  have h2 := mul_bd (x := b) (y := y) (A := 20000) (B := 1000) (by omega) (by omega)
  omega
theorem value_eq {F : Nat} (hF : 100 ≤ F) {l : List Pt} (hc : curve l = true) {x : Int} (hx : 0 ≤ x ∧ x ≤ 1000) : hull_value F l x = some (value l x) := by
  refine Ok.eq ?_
  unfold hull_value
  have hb := curve_bd hc
  have hlen := (curve_lt hc).2
  refine ok_loop (fun q : Int => 1 ≤ q ∧ q ≤ l.length ∧ value l x = valFrom l x (l.length - q.toNat) q.toNat) (fun q => (l.length - q).toNat) ⟨by omega, by omega, rfl⟩ (by omega) fun q next hI hn' => ?_
  obtain ⟨h0, h1, h2⟩ := hI
  refine ok_brk (fun hq => ?_) (fun hq => ?_)
  · have hq := of_decide_eq_true hq
    have b1 := hb q (by omega) hq
    have b2 := hb (q - 1) (by omega) (by omega)
    obtain ⟨p1, p2⟩ := val_prod (a := (pt l (q - 1)).Y) (x := (pt l q).X - (pt l (q - 1)).X) (b := (pt l q).Y - (pt l (q - 1)).Y) (y := x - (pt l (q - 1)).X) (by omega) (by omega) (by omega) (by omega)
    have e : l.length - q.toNat = (l.length - (q + 1).toNat) + 1 := by omega
    have e2 : ((q.toNat : Nat) : Int) = q := Int.toNat_of_nonneg (by omega)
    have e3 : q.toNat + 1 = (q + 1).toNat := by omega
    rw [e, valFrom, e2, e3] at h2
    refine ok_chk ⟨by omega, by omega⟩ (ok_chk ⟨by omega, by omega⟩ (ok_chk ⟨by omega, hq⟩ (ok_brk (fun h => ?_) (fun h => ?_))))
    · have h : x ≤ (pt l q).X := of_decide_eq_true h
      rw [if_pos h] at h2
      refine ok_chk (show InR ((pt l q).X - (pt l (q - 1)).X) from ⟨by omega, by omega⟩) (ok_chk (show InR ((pt l (q - 1)).Y * ((pt l q).X - (pt l (q - 1)).X)) from ⟨by omega, by omega⟩) (ok_chk (show InR ((pt l q).Y - (pt l (q - 1)).Y) from ⟨by omega, by omega⟩) (ok_chk (show InR (x - (pt l (q - 1)).X) from ⟨by omega, by omega⟩)
        (ok_chk (show InR (((pt l q).Y - (pt l (q - 1)).Y) * (x - (pt l (q - 1)).X)) from ⟨by omega, by omega⟩) (ok_chk (show InR ((pt l (q - 1)).Y * ((pt l q).X - (pt l (q - 1)).X) + ((pt l q).Y - (pt l (q - 1)).Y) * (x - (pt l (q - 1)).X)) from ⟨by omega, by omega⟩) (ok_chk (show InR ((pt l q).X - (pt l (q - 1)).X) from ⟨by omega, by omega⟩) (ok_some h2.symm)))))))
    · have h : ¬ x ≤ (pt l q).X := of_decide_eq_false h
      rw [if_neg h] at h2
      exact ok_chk ⟨by omega, by omega⟩ (hn' _ ⟨by omega, by omega, h2⟩ (by omega))
  · have hq := of_decide_eq_false hq
    have e : l.length - q.toNat = 0 := by omega
    rw [e, valFrom] at h2
    exact ok_chk ⟨by omega, by omega⟩ (ok_chk ⟨by omega, by omega⟩ (ok_some h2.symm))
theorem check_eq {F : Nat} (hF : 1000 ≤ F) {s : Ship} (h1 : s.Thrust.length ≤ 900) (h2 : s.Water.length ≤ 900) (h3 : s.Ice.length ≤ 900) : hull_Check F s = some (check s) := by
  have r1 : hull_rules_1 F s = some (rule1 s) := rfl
  have r2 : hull_rules_2 F s = some (rule2 s) := by
    refine Ok.eq ?_
    unfold hull_rules_2 rule2
    refine ok_bnde (within_eq ..) (ok_band (fun _ => within_eq ..) (ok_band (fun _ => within_eq ..) (ok_some ?_)))
    cases within s.Power 100 100000 <;> cases within s.Draught 10 2000 <;> simp
  have r3 : hull_rules_3 F s = some (rule3 s) := by
    refine Ok.eq ?_
    unfold hull_rules_3 rule3
    refine ok_bnde (within_eq ..) (ok_band (fun _ => within_eq ..) (ok_band (fun _ => within_eq ..) (ok_band (fun _ => within_eq ..) (ok_some ?_))))
    cases within s.Slow 0 20 <;> cases within s.Brash 0 100 <;> cases within s.Ridge 0 500 <;> simp
  have r4 : hull_rules_4 F s = some (rule4 s) := by
    refine Ok.eq ?_
    unfold hull_rules_4 rule4
    refine ok_bnde (steady_eq (by omega) (by omega) (.inr rfl)) (ok_bbrk (fun h => ?_) (fun h => ?_))
    · have := (steady_len h).1
      rw [h]
      exact ok_bnde (end_eq (by omega) (by omega)) (ok_bnde (within_eq F ..) (ok_some rfl))
    · rw [h]; exact ok_some rfl
  have r5 : hull_rules_5 F s = some (rule5 s) := by
    refine Ok.eq ?_
    unfold hull_rules_5 rule5
    refine ok_bnde (steady_eq (by omega) (by omega) (.inl rfl)) (ok_bbrk (fun h => ?_) (fun h => ?_))
    · have := (steady_len h).1
      rw [h]
      exact ok_bnde (end_eq (by omega) (by omega)) (ok_some rfl)
    · rw [h]; exact ok_some rfl
  have r6 : hull_rules_6 F s = some (rule6 s) := by
    refine Ok.eq ?_
    unfold hull_rules_6 rule6
    refine ok_bnde (steady_eq (by omega) (by omega) (.inl rfl)) (ok_chk (fun h => ⟨by decide, ?_⟩) (ok_bbrk (fun h => ?_) (fun h => ?_)))
    · have := (steady_len h).1; omega
    · have h' : steady s.Ice 1 = true ∧ ((pt s.Ice 0).Y == 0) = true := by
        have h : (steady s.Ice 1 && ((pt s.Ice 0).Y == 0)) = true := h
        simpa only [Bool.and_eq_true] using h
      have := (steady_len h'.1).1
      exact ok_bnde (end_eq (by omega) (by omega)) (ok_some rfl)
    · refine ok_bnde rfl (ok_some ?_)
      have h : (steady s.Ice 1 && ((pt s.Ice 0).Y == 0)) = false := h
      show (steady s.Ice 1 && ((pt s.Ice 0).Y == 0) && _) = (steady s.Ice 1 && ((pt s.Ice 0).Y == 0) && _)
      rw [h]; rfl
  refine Ok.eq ?_
  unfold hull_Check check
  refine ok_bnde r1 (ok_brk (fun h => ok_some ?_) (fun h => ok_bnde r2 (ok_brk (fun h' => ok_some ?_) (fun h' => ok_bnde r3 (ok_brk (fun h2' => ok_some ?_) (fun h2' => ok_bnde r4 (ok_brk (fun h3' => ok_some ?_) (fun h3' => ok_bnde r5 (ok_brk (fun h4 => ok_some ?_) (fun h4 => ok_bnde r6 (ok_brk (fun h5 => ok_some ?_) (fun h5 => ok_some ?_))))))))))))
  all_goals (simp only [Bool.not_eq_true', Bool.not_eq_false'] at *; simp_all)
theorem thrust_eq {F : Nat} (hF : 1000 ≤ F) {s : Ship} (hc : check s = 0) {v : Int} (hv : 0 ≤ v ∧ v ≤ 1000) : hull_Ship_thrust F s v = some (thrust s v) := by
  refine Ok.eq ?_
  unfold hull_Ship_thrust
  obtain ⟨v1, v2, v3, v4⟩ := value_bd (check_curveThrust hc) hv.1
  exact ok_bnde (value_eq (by omega) (check_curveThrust hc) hv) (ok_chk ⟨⟨v3, by omega⟩, by omega⟩ (ok_some rfl))
theorem load_bd {i : Ice} (hi : goodIce i) {v : Int} (hv : 0 ≤ v ∧ v ≤ 250) : 0 ≤ i.Thick * (100 + v) ∧ i.Thick * (100 + v) ≤ 140000 := by
  obtain ⟨_, h, _⟩ := goodIce_bd hi
  exact mul_nn (x := i.Thick) (y := 100 + v) (a := 0) (A := 400) (b := 0) (B := 350) (by omega) (by omega) (by decide) (by decide)
theorem load_eq {F : Nat} (hF : 1000 ≤ F) {i : Ice} (hi : goodIce i) {v : Int} (hv : 0 ≤ v ∧ v ≤ 250) (ch : Bool) : hull_load F i v ch = some (loadI i v ch) := by
  refine Ok.eq ?_
  unfold hull_load
  obtain ⟨h1, h2, h3, h4⟩ := goodIce_bd hi
  have hb := load_bd hi hv
  have hz : i.Conc = 0 → loadI i v ch = 0 := fun e => by unfold loadI; rw [if_pos e]
  refine ok_chk ⟨by omega, by omega⟩ (ok_chk (show InR (i.Thick * (100 + v)) from ⟨by omega, by omega⟩) (ok_join (by omega) (fun x : Int × Int => x = (if ch = true then 0 else i.Ridge, if ch = true then (i.Thick * (100 + v) + 1) / 2 else i.Thick * (100 + v))) (fun x hx => ?_) fun k hk => ?_))
  · subst hx
    refine ok_brk (fun h => ok_some ?_) (fun h => ?_)
    · exact (hz (by simpa using h)).symm
    · have hne : ¬ i.Conc = 0 := by simpa using h
      have hl : loadI i v ch = (if ch = true then (i.Thick * (100 + v) + 1) / 2 else i.Thick * (100 + v)) + 300 * (if ch = true then 0 else i.Ridge) + 2000 * i.Press := by unfold loadI; rw [if_neg hne]
      rw [hl]
      have a1 : 0 ≤ (if ch = true then 0 else i.Ridge) ∧ (if ch = true then 0 else i.Ridge) ≤ 100 := by split <;> omega
      have a2 : 0 ≤ (if ch = true then (i.Thick * (100 + v) + 1) / 2 else i.Thick * (100 + v)) ∧ (if ch = true then (i.Thick * (100 + v) + 1) / 2 else i.Thick * (100 + v)) ≤ 140001 := by split <;> omega
      dsimp only
      generalize (if ch = true then 0 else i.Ridge) = rd at *
      generalize (if ch = true then (i.Thick * (100 + v) + 1) / 2 else i.Thick * (100 + v)) = lv at *
      exact ok_chk ⟨by omega, by omega⟩ (ok_chk ⟨by omega, by omega⟩ (ok_chk ⟨by omega, by omega⟩ (ok_chk ⟨by omega, by omega⟩ (ok_some rfl))))
  · refine ok_brk (fun h => ?_) (fun h => ?_)
    · exact ok_chk ⟨by omega, by omega⟩ (ok_chk ⟨by omega, by omega⟩ (hk _ (by rw [h]; rfl)))
    · exact hk _ (by rw [h]; rfl)
noncomputable def resM {α : Type} (F : Nat) (s : Ship) (i : Ice) (v : Int) (ch : Bool) (K : Int → Option α) : Option α :=
  bnd (hull_value F s.Water v) (fun (w : (Int) × (Int)) => bnd (hull_value F s.Ice i.Thick) (fun (n : (Int) × (Int)) => join (F) (fun (y : (Int) × (Int)) => chk (InR (s.Slow * v)) (chk (InR ((1000 : Int) + s.Slow * v)) (chk (InR (n.fst * ((1000 : Int) + s.Slow * v))) (chk (InR (n.fst * ((1000 : Int) + s.Slow * v) * y.snd)) (chk (InR (s.Ridge * y.fst)) (chk (InR (s.Ridge * y.fst * n.snd)) (chk (InR (s.Ridge * y.fst * n.snd * (100000 : Int))) (chk (InR (n.fst * ((1000 : Int) + s.Slow * v) * y.snd + s.Ridge * y.fst * n.snd * (100000 : Int))) (chk (InR (i.Conc * (n.fst * ((1000 : Int) + s.Slow * v) * y.snd + s.Ridge * y.fst * n.snd * (100000 : Int)))) (chk (InR (n.snd * (10000000 : Int))) (chk (InR (w.fst * (n.snd * (10000000 : Int)))) (chk (InR (i.Conc * (n.fst * ((1000 : Int) + s.Slow * v) * y.snd + s.Ridge * y.fst * n.snd * (100000 : Int)) * w.snd)) (chk (InR (w.fst * (n.snd * (10000000 : Int)) + i.Conc * (n.fst * ((1000 : Int) + s.Slow * v) * y.snd + s.Ridge * y.fst * n.snd * (100000 : Int)) * w.snd)) (chk (InR (s.Press * i.Press)) (chk (InR (s.Press * i.Press * w.snd)) (chk (InR (s.Press * i.Press * w.snd * (n.snd * (10000000 : Int)))) (chk (InR (w.fst * (n.snd * (10000000 : Int)) + i.Conc * (n.fst * ((1000 : Int) + s.Slow * v) * y.snd + s.Ridge * y.fst * n.snd * (100000 : Int)) * w.snd + s.Press * i.Press * w.snd * (n.snd * (10000000 : Int)))) (chk (InR (w.snd * (n.snd * (10000000 : Int)))) (chk (InR (w.fst * (n.snd * (10000000 : Int)) + i.Conc * (n.fst * ((1000 : Int) + s.Slow * v) * y.snd + s.Ridge * y.fst * n.snd * (100000 : Int)) * w.snd + s.Press * i.Press * w.snd * (n.snd * (10000000 : Int)) + w.snd * (n.snd * (10000000 : Int)))) (chk (InR (w.fst * (n.snd * (10000000 : Int)) + i.Conc * (n.fst * ((1000 : Int) + s.Slow * v) * y.snd + s.Ridge * y.fst * n.snd * (100000 : Int)) * w.snd + s.Press * i.Press * w.snd * (n.snd * (10000000 : Int)) + w.snd * (n.snd * (10000000 : Int)) - (1 : Int))) (chk (InR (w.snd * (n.snd * (10000000 : Int)))) (chk (((0 : Int) ≤ w.fst * (n.snd * (10000000 : Int)) + i.Conc * (n.fst * ((1000 : Int) + s.Slow * v) * y.snd + s.Ridge * y.fst * n.snd * (100000 : Int)) * w.snd + s.Press * i.Press * w.snd * (n.snd * (10000000 : Int)) + w.snd * (n.snd * (10000000 : Int)) - (1 : Int) ∧ w.fst * (n.snd * (10000000 : Int)) + i.Conc * (n.fst * ((1000 : Int) + s.Slow * v) * y.snd + s.Ridge * y.fst * n.snd * (100000 : Int)) * w.snd + s.Press * i.Press * w.snd * (n.snd * (10000000 : Int)) + w.snd * (n.snd * (10000000 : Int)) - (1 : Int) ≤ (9223372036854775807 : Int)) ∧ (0 : Int) < w.snd * (n.snd * (10000000 : Int))) (K ((w.fst * (n.snd * (10000000 : Int)) + i.Conc * (n.fst * ((1000 : Int) + s.Slow * v) * y.snd + s.Ridge * y.fst * n.snd * (100000 : Int)) * w.snd + s.Press * i.Press * w.snd * (n.snd * (10000000 : Int)) + w.snd * (n.snd * (10000000 : Int)) - (1 : Int)) / (w.snd * (n.snd * (10000000 : Int))))))))))))))))))))))))))) (fun y => brk (ch) (y (((0 : Int), s.Brash))) (y ((i.Ridge, (100 : Int)))))))
theorem res_ok {α : Type} {post : α → Prop} {F : Nat} (hF : 1000 ≤ F) {s : Ship} (hc : check s = 0) {i : Ice} (hi : goodIce i) {v : Int} (hv : 0 ≤ v ∧ v ≤ 250) (ch : Bool) {K : Int → Option α} (h : Ok post (K (resistance s i ch v))) : Ok post (resM F s i v ch K) := by
  unfold resM
  obtain ⟨i1, i2, i3, i4⟩ := goodIce_bd hi
  obtain ⟨_, _, hsl, hbr, hri, hpr⟩ := check_bd hc
  have w1 := value_bd (check_curveWater hc) hv.1
  have n1 := value_bd (check_curveIce hc) i2.1
  have hres : resistance s i ch v = (((value s.Water v).1 * ((value s.Ice i.Thick).2 * 10000000) + i.Conc * ((value s.Ice i.Thick).1 * (1000 + s.Slow * v) * (if ch = true then s.Brash else 100) + s.Ridge * (if ch = true then 0 else i.Ridge) * (value s.Ice i.Thick).2 * 100000) * (value s.Water v).2 + s.Press * i.Press * (value s.Water v).2 * ((value s.Ice i.Thick).2 * 10000000))
      + (value s.Water v).2 * ((value s.Ice i.Thick).2 * 10000000) - 1) / ((value s.Water v).2 * ((value s.Ice i.Thick).2 * 10000000)) := rfl
  rw [hres] at h
  refine ok_bnde (value_eq (by omega) (check_curveWater hc) (by omega)) (ok_bnde (value_eq (by omega) (check_curveIce hc) (by omega)) ?_)
  have hsh : 0 ≤ (if ch = true then s.Brash else 100) ∧ (if ch = true then s.Brash else 100) ≤ 100 := by split <;> omega
  have hrd : 0 ≤ (if ch = true then 0 else i.Ridge) ∧ (if ch = true then 0 else i.Ridge) ≤ 100 := by split <;> omega
  refine ok_join (by omega) (fun y : Int × Int => y = (if ch = true then 0 else i.Ridge, if ch = true then s.Brash else 100)) (fun y hy => ?_) fun k hk => ok_brk (fun e => hk _ (by rw [e]; rfl)) (fun e => hk _ (by rw [e]; rfl))
  subst hy
  dsimp only
  clear hres
  generalize (if ch = true then s.Brash else 100) = sh at *
  generalize (if ch = true then 0 else i.Ridge) = rd at *
  obtain ⟨w1, w2, w3, w4⟩ := w1
  obtain ⟨n1, n2, n3, n4⟩ := n1
  have hw5 : (value s.Water v).1 ≤ 8000000 := by omega
  have hn5 : (value s.Ice i.Thick).1 ≤ 8000000 := by omega
  generalize (value s.Water v).1 = wn at *
  generalize (value s.Water v).2 = wd at *
  generalize (value s.Ice i.Thick).1 = ln at *
  generalize (value s.Ice i.Thick).2 = ld at *
  have m1 := mul_nn (x := s.Slow) (y := v) (a := 0) (A := 20) (b := 0) (B := 250) (by omega) (by omega) (by decide) (by decide)
  have m2 := mul_nn (x := ln) (y := 1000 + s.Slow * v) (a := 0) (A := 8000000) (b := 0) (B := 6000) (by omega) (by omega) (by decide) (by decide)
  have m3 := mul_nn (x := ln * (1000 + s.Slow * v)) (y := sh) (a := 0) (A := 48000000000) (b := 0) (B := 100) (by omega) (by omega) (by decide) (by decide)
  have m4 := mul_nn (x := s.Ridge) (y := rd) (a := 0) (A := 500) (b := 0) (B := 100) (by omega) (by omega) (by decide) (by decide)
  have m5 := mul_nn (x := s.Ridge * rd) (y := ld) (a := 0) (A := 50000) (b := 0) (B := 400) (by omega) (by omega) (by decide) (by decide)
  have m6 := mul_nn (x := i.Conc) (y := ln * (1000 + s.Slow * v) * sh + s.Ridge * rd * ld * 100000) (a := 0) (A := 100) (b := 0) (B := 6800000000000) (by omega) (by omega) (by decide) (by decide)
  have m7 := mul_nn (x := i.Conc * (ln * (1000 + s.Slow * v) * sh + s.Ridge * rd * ld * 100000)) (y := wd) (a := 0) (A := 680000000000000) (b := 0) (B := 400) (by omega) (by omega) (by decide) (by decide)
  have m8 := mul_nn (x := wn) (y := ld * 10000000) (a := 0) (A := 8000000) (b := 0) (B := 4000000000) (by omega) (by omega) (by decide) (by decide)
  have m9 := mul_nn (x := s.Press) (y := i.Press) (a := 0) (A := 5000) (b := 0) (B := 3) (by omega) (by omega) (by decide) (by decide)
  have m10 := mul_nn (x := s.Press * i.Press) (y := wd) (a := 0) (A := 15000) (b := 0) (B := 400) (by omega) (by omega) (by decide) (by decide)
  have m11 := mul_nn (x := s.Press * i.Press * wd) (y := ld * 10000000) (a := 0) (A := 6000000) (b := 0) (B := 4000000000) (by omega) (by omega) (by decide) (by decide)
  have m12 := mul_nn (x := wd) (y := ld * 10000000) (a := 1) (A := 400) (b := 10000000) (B := 4000000000) (by omega) (by omega) (by decide) (by decide)
  generalize i.Conc * (ln * (1000 + s.Slow * v) * sh + s.Ridge * rd * ld * 100000) * wd = x7 at *
  generalize i.Conc * (ln * (1000 + s.Slow * v) * sh + s.Ridge * rd * ld * 100000) = x6 at *
  generalize s.Ridge * rd * ld = x5 at *
  generalize s.Ridge * rd = x4 at *
  generalize ln * (1000 + s.Slow * v) * sh = x3 at *
  generalize ln * (1000 + s.Slow * v) = x2 at *
  generalize s.Slow * v = x1 at *
  generalize wn * (ld * 10000000) = x8 at *
  generalize s.Press * i.Press * wd * (ld * 10000000) = x11 at *
  generalize s.Press * i.Press * wd = x10 at *
  generalize s.Press * i.Press = x9 at *
  generalize wd * (ld * 10000000) = D at *
  repeat' (with_reducible refine ok_chk ?_ ?_)
  all_goals (first | exact h | (constructor <;> omega) | omega | skip)
noncomputable def makesM {α : Type} (F : Nat) (s : Ship) (i : Ice) (v : Int) (ch : Bool) (K : Bool → Option α) : Option α :=
  bnd (hull_end F s.Thrust) (fun x : Int => brk (decide (v ≤ x)) (bnd (hull_Ship_thrust F s v) (fun t : Int => resM F s i v ch (fun q => K (decide (t ≥ q))))) (K false))
theorem makes_ok {α : Type} {post : α → Prop} {F : Nat} (hF : 1000 ≤ F) {s : Ship} (hc : check s = 0) {i : Ice} (hi : goodIce i) {v : Int} (hv : 0 ≤ v ∧ v ≤ 250) (ch : Bool) {K : Bool → Option α} (h : Ok post (K (makes s i ch v))) : Ok post (makesM F s i v ch K) := by
  unfold makesM
  have h2 := (steady_len (check_steadyThrust hc))
  refine ok_bnde (end_eq (by omega) (by omega)) (ok_brk (fun e => ok_bnde (thrust_eq hF hc (by omega)) (res_ok hF hc hi hv ch ?_)) (fun e => ?_))
  · have : makes s i ch v = decide (thrust s v ≥ resistance s i ch v) := by unfold makes; rw [e, Bool.true_and]
    rwa [this] at h
  · have : makes s i ch v = false := by unfold makes; rw [e, Bool.false_and]
    rwa [this] at h
noncomputable def bearsM {α : Type} (F : Nat) (s : Ship) (i : Ice) (v : Int) (ch : Bool) (K : Bool → Option α) : Option α :=
  bnd (hull_load F i v ch) (fun x : Int => chk (InR (s.Class - 1)) (chk (0 ≤ s.Class - 1 ∧ s.Class - 1 < ((6 : Nat) : Int)) (K (decide (x ≤ [4000, 8000, 14000, 24000, 40000, 90000].getD (s.Class - 1).toNat 0)))))
theorem bears_ok {α : Type} {post : α → Prop} {F : Nat} (hF : 1000 ≤ F) {s : Ship} (hc : check s = 0) {i : Ice} (hi : goodIce i) {v : Int} (hv : 0 ≤ v ∧ v ≤ 250) (ch : Bool) {K : Bool → Option α} (h : Ok post (K (bears s i ch v))) : Ok post (bearsM F s i v ch K) := by
  unfold bearsM
  obtain ⟨hcl, _⟩ := check_bd hc
  exact ok_bnde (load_eq hF hi hv ch) (ok_chk ⟨by omega, by omega⟩ (ok_chk ⟨by omega, by omega⟩ h))
end Go.Proofs.Bk
namespace Go.Proofs.Bk
open Go Go.KX
theorem snoc_len {α : Type} {l : List α} {x : α} : (l ++ [x]).length = l.length + 1 := by simp
end Go.Proofs.Bk
namespace Go.Proofs.Bk
open Go Go.KX
end Go.Proofs.Bk
namespace Go.Proofs.Bk
open Go Go.KX
structure Short (m : Member) : Prop where
  t : m.Ship.Thrust.length ≤ 900
  w : m.Ship.Water.length ≤ 900
  i : m.Ship.Ice.length ≤ 900
  s : m.Stop.length ≤ 900
theorem GoodM.short' {m : Member} (h : GoodM m) : Short m := by
  have h1 := steady_len (check_steadyThrust h.ship)
  have h2 := steady_len (check_steadyWater h.ship)
  have h3 := steady_len (check_steadyIce h.ship)
  have h4 := steady_len h.stop
  exact ⟨by omega, by omega, by omega, by omega⟩
structure ShortC (c : Convoy) : Prop where
  b : Short c.Breaker
  s : ∀ m ∈ c.Ships, Short m
theorem GoodC.short {c : Convoy} (h : GoodC c) : ShortC c := ⟨h.br.short', fun m hm => (h.ships m hm).short'⟩
end Go.Proofs.Bk
namespace Go.Proofs.Bk
open Go Go.KX
theorem iright_eq {F : Nat} (s : Span) {n : Int} (hn : 0 ≤ n ∧ n ≤ 3) : ice_right F s n = some (rightS s n) := by
  refine Ok.eq ?_
  unfold ice_right rightS
  refine ok_bnde (b := Numbers.mk 100 400 100 3) rfl (ok_chk ⟨hn.1, by omega⟩ (ok_bnde rfl (ok_bbrk (fun h => ?_) (fun h => ?_))))
  · refine ok_bnde (b := Numbers.mk 100 400 100 3) rfl (ok_chk (fun _ => ⟨hn.1, by omega⟩) ?_)
    have h' : inI s.Lo 0 (([100, 400, 100, 3] : List Int).getD n.toNat 0) = true := h
    rw [h]
    refine ok_bnde rfl (ok_some ?_)
    rw [h']; rfl
  · refine ok_bnde rfl (ok_chk (fun h2 => by rw [h] at h2; cases h2) ?_)
    have h' : inI s.Lo 0 (([100, 400, 100, 3] : List Int).getD n.toNat 0) = false := h
    rw [h]
    refine ok_bnde rfl (ok_some ?_)
    rw [h']; rfl
theorem cell_eq {F : Nat} (hF : 1000 ≤ F) (c : Cell) : ice_CheckCell F c = some (checkCell c) := by
  refine Ok.eq ?_
  unfold ice_CheckCell
  have F0 : 0 < F := by omega
  refine ok_bnde (b := Spans.mk c.Conc c.Thick c.Ridge c.Press) rfl ?_
  have fin : ∀ b : Bool, b = (rightS c.Conc 0 && rightS c.Thick 1 && rightS c.Ridge 2 && rightS c.Press 3) → Ok (fun r => r = checkCell c) (brk (!b) (some (20 : Int)) (some 0)) := fun b hb => by
    refine ok_brk (fun h => ok_some ?_) (fun h => ok_some ?_)
    · have h : b = false := by simpa using h
      rw [hb] at h
      by_cases g : goodCell c
      · have := checkCell_ok.2 g
        unfold checkCell at this
        unfold checkCell
        simp only [all4] at this ⊢
        first
          | (rw [h] at this ⊢; simp_all)
          | simp_all
      · exact (checkCell_20 g).symm
    · have h : b = true := by simpa using h
      rw [hb] at h
      unfold checkCell
      simp only [all4]
      simp_all
  refine ok_join F0 (fun b : Bool => b = (rightS c.Conc 0 && rightS c.Thick 1 && rightS c.Ridge 2 && rightS c.Press 3)) (fun b hb => fin b hb) fun k hk => ?_
  refine ok_bnde (b := Numbers.mk 100 400 100 3) rfl ?_
  obtain ⟨n, hn⟩ : ∃ n, F = n + 5 := ⟨F - 5, by omega⟩
  subst hn
  simp only [loopC_succ]
  refine ok_brkT rfl (ok_chk (by decide) (ok_bnde (iright_eq _ (by decide)) (ok_brk (fun g => hk _ ?_) (fun g => ok_chk (by decide) ?_))))
  · have g : rightS c.Conc 0 = false := by simpa using g
    rw [g]; rfl
  have g0 : rightS c.Conc 0 = true := by simpa using g
  refine ok_brkT rfl (ok_chk (by decide) (ok_bnde (iright_eq _ (by decide)) (ok_brk (fun g => hk _ ?_) (fun g => ok_chk (by decide) ?_))))
  · have g : rightS c.Thick 1 = false := by simpa using g
    rw [g]; simp
  have g1 : rightS c.Thick 1 = true := by simpa using g
  refine ok_brkT rfl (ok_chk (by decide) (ok_bnde (iright_eq _ (by decide)) (ok_brk (fun g => hk _ ?_) (fun g => ok_chk (by decide) ?_))))
  · have g : rightS c.Ridge 2 = false := by simpa using g
    rw [g]; simp
  have g2 : rightS c.Ridge 2 = true := by simpa using g
  refine ok_brkT rfl (ok_chk (by decide) (ok_bnde (iright_eq _ (by decide)) (ok_brk (fun g => hk _ ?_) (fun g => ok_chk (by decide) ?_))))
  · have g : rightS c.Press 3 = false := by simpa using g
    rw [g]; simp
  have g3 : rightS c.Press 3 = true := by simpa using g
  refine ok_brkF rfl (hk _ ?_)
  rw [g0, g1, g2, g3]; rfl
theorem ok_great {α : Type} {post : α → Prop} {F : Nat} (hF : 1000 ≤ F) {so : Int → Bool} {lo0 hi0 : Int} (h0 : 0 ≤ lo0) (hle : lo0 ≤ hi0) (hhi : hi0 ≤ 900) {test : Int → (Bool → Option α) → Option α} (ht : ∀ v (K : Bool → Option α), lo0 ≤ v → v ≤ hi0 → Ok post (K (so v)) → Ok post (test v K))
    {K : Int × Bool → Option α} (hK : Ok post (K (great so lo0 hi0, true))) :
    Ok post (loopC (fun (x : Int × Int) => fun next => brk (decide (x.1 < x.2)) (chk (InR (x.2 - x.1)) (chk (InR (x.2 - x.1 + 1)) (chk (0 ≤ x.2 - x.1 + 1 ∧ x.2 - x.1 + 1 ≤ 9223372036854775807) (chk (InR (x.1 + (x.2 - x.1 + 1) / 2)) (join F (fun b : Bool => brk b (next ((x.1 + (x.2 - x.1 + 1) / 2, x.2))) (chk (InR (x.1 + (x.2 - x.1 + 1) / 2 - 1)) (next ((x.1, x.1 + (x.2 - x.1 + 1) / 2 - 1))))) (fun k => test (x.1 + (x.2 - x.1 + 1) / 2) k)))))) (K ((x.1, true)))) F ((lo0, hi0))) := by
  refine ok_loop (fun q : Int × Int => lo0 ≤ q.1 ∧ q.1 ≤ q.2 ∧ q.2 ≤ hi0 ∧ great so q.1 q.2 = great so lo0 hi0) (fun q => (q.2 - q.1).toNat) ⟨Int.le_refl _, hle, Int.le_refl _, rfl⟩ (by dsimp only; omega) fun q next hI hn => ?_
  obtain ⟨lo, hi⟩ := q
  obtain ⟨q1, q2, q3, q4⟩ := hI
  dsimp only at q1 q2 q3 q4 ⊢
  refine ok_brk (fun h => ?_) (fun h => ?_)
  · have h : lo < hi := of_decide_eq_true h
    refine ok_chk (show InR _ from ⟨by omega, by omega⟩) (ok_chk (show InR _ from ⟨by omega, by omega⟩) (ok_chk ⟨by omega, by omega⟩ (ok_chk (show InR _ from ⟨by omega, by omega⟩) (ok_join (by omega) (fun b => b = so (lo + (hi - lo + 1) / 2)) (fun b hb => ?_) fun k hk => ht _ _ (by omega) (by omega) (hk _ rfl)))))
    rw [great_step h] at q4
    refine ok_brk (fun g => hn _ ⟨by dsimp only; omega, by dsimp only; omega, by dsimp only; omega, ?_⟩ (by dsimp only; omega)) (fun g => ok_chk (show InR _ from ⟨by omega, by omega⟩) (hn _ ⟨by dsimp only; omega, by dsimp only; omega, by dsimp only; omega, ?_⟩ (by dsimp only; omega)))
    · rw [if_pos (by rw [← hb]; exact g)] at q4; exact q4
    · rw [if_neg (by rw [← hb, g]; simp)] at q4; exact q4
  · have h : ¬ lo < hi := of_decide_eq_false h
    rw [great_done h] at q4
    rw [← q4] at hK
    exact hK
noncomputable def goesM {α : Type} (F : Nat) (s : Ship) (i : Ice) (v : Int) (ch : Bool) (K : Bool → Option α) : Option α :=
  join F (fun b : Bool => brk b (bearsM F s i v ch K) (K false)) (fun k => makesM F s i v ch k)
theorem goesM_ok {α : Type} {post : α → Prop} {F : Nat} (hF : 1000 ≤ F) {s : Ship} (hc : check s = 0) {i : Ice} (hi : goodIce i) {v : Int} (hv : 0 ≤ v ∧ v ≤ 250) (ch : Bool) {K : Bool → Option α} (h : Ok post (K (goesP s i ch v))) : Ok post (goesM F s i v ch K) := by
  unfold goesM
  refine ok_join (by omega) (fun b => b = makes s i ch v) (fun b hb => ?_) fun k hk => makes_ok hF hc hi hv ch (hk _ rfl)
  refine ok_brk (fun g => bears_ok hF hc hi hv ch ?_) (fun g => ?_)
  · have : goesP s i ch v = bears s i ch v := by unfold goesP; rw [← hb, g, Bool.true_and]
    rwa [this] at h
  · have : goesP s i ch v = false := by unfold goesP; rw [← hb, g, Bool.false_and]
    rwa [this] at h
theorem ssafe_eq {F : Nat} (hF : 1000 ≤ F) {s : Ship} (hc : check s = 0) {c : Cell} (hg : goodCell c) (ch : Bool) : hull_Ship_safe F s c ch = some (safe s c ch) := by
  have F0 : 0 < F := by omega
  have hl := goodCell_last hg
  refine Ok.eq ?_
  unfold hull_Ship_safe
  refine ok_bnde (b := lastI c) rfl ?_
  refine ok_join F0 (fun x : Int × Bool => x.1 = speed s (lastI c) ch) (fun x hx => ?_) fun k hk => ?_
  · refine ok_brk (fun h => ok_some ?_) (fun h => ?_)
    · have h := of_decide_eq_true h
      rw [hx] at h
      unfold safe; rw [if_pos h]
    · have h := of_decide_eq_false h
      rw [hx] at h
      refine ok_join F0 (fun x : Int × Bool => x = goes s (lastI c) ch) (fun x hx => ?_) fun k hk => ?_
      · subst hx
        refine ok_brk (fun g => ok_some ?_) (fun g => ok_some ?_)
        · have g : (goes s (lastI c) ch).2 = false := by simpa using g
          unfold safe; rw [if_neg h, if_pos g]
        · have g : (goes s (lastI c) ch).2 = true := by simpa using g
          unfold safe; rw [if_neg h, if_neg (by rw [g]; simp)]
      · refine ok_join F0 (fun b : Bool => b = goesP s (lastI c) ch 10) (fun b hb => ?_) fun k2 hk2 => goesM_ok hF hc hl (v := 10) (by decide) ch (hk2 _ rfl)
        refine ok_brk (fun g => hk _ ?_) (fun g => ?_)
        · have g : b = false := by simpa using g
          rw [goes_eq, if_neg (by rw [← hb, g]; simp)]
        · have g : b = true := by simpa using g
          refine ok_great hF (so := goesP s (lastI c) ch) (by decide) (by decide) (by decide) (test := fun v K => goesM F s (lastI c) v ch K) (fun v K h1 h2 h3 => goesM_ok hF hc hl (by omega) ch h3) (K := fun x => k x) (hk _ ?_)
          rw [goes_eq, if_pos (by rw [← hb, g])]
  · refine ok_join F0 (fun b : Bool => b = makes s (lastI c) ch 0) (fun b hb => ?_) fun k2 hk2 => makes_ok hF hc hl (v := 0) (by decide) ch (hk2 _ rfl)
    refine ok_brk (fun g => hk _ ?_) (fun g => ?_)
    · have g : b = false := by simpa using g
      unfold speed greatest
      rw [if_neg (by show ¬ makes s (lastI c) ch 0 = true; rw [← hb, g]; simp)]
    · have g : b = true := by simpa using g
      refine ok_great hF (so := fun v => makes s (lastI c) ch v) (by decide) (by decide) (by decide) (test := fun v K => makesM F s (lastI c) v ch K) (fun v K h1 h2 h3 => makes_ok hF hc hl (by omega) ch h3) (K := fun x => k x) (hk _ ?_)
      unfold speed greatest
      rw [if_pos (show makes s (lastI c) ch 0 = true by rw [← hb, g])]
theorem hmet_eq {F : Nat} (hF : 1000 ≤ F) {s : Ship} (h1 : s.Thrust.length ≤ 900) (h2 : s.Water.length ≤ 900) (h3 : s.Ice.length ≤ 900) (c : Cell) : hull_met F s c = some (met s c) := by
  refine Ok.eq ?_
  unfold hull_met met
  refine ok_bnde (check_eq hF h1 h2 h3) (ok_brk (fun h => ok_some ?_) (fun h => ok_bnde (cell_eq hF c) (ok_some ?_)))
  · have h : check s ≠ 0 := by simpa using h
    rw [if_pos h]
  · have h : check s = 0 := by simpa using h
    rw [if_neg (by simp [h])]
end Go.Proofs.Bk
namespace Go.Proofs.Bk
open Go Go.KX
noncomputable def speedM {α : Type} (F : Nat) (s : Ship) (i : Ice) (ch : Bool) (K : Int × Bool → Option α) : Option α :=
  join F (fun b : Bool => brk (!b) (K ((0, false))) (loopC (fun (x : Int × Int) => fun next => brk (decide (x.1 < x.2)) (chk (InR (x.2 - x.1)) (chk (InR (x.2 - x.1 + 1)) (chk (0 ≤ x.2 - x.1 + 1 ∧ x.2 - x.1 + 1 ≤ 9223372036854775807) (chk (InR (x.1 + (x.2 - x.1 + 1) / 2)) (join F (fun b : Bool => brk b (next ((x.1 + (x.2 - x.1 + 1) / 2, x.2))) (chk (InR (x.1 + (x.2 - x.1 + 1) / 2 - 1)) (next ((x.1, x.1 + (x.2 - x.1 + 1) / 2 - 1))))) (fun k => makesM F s i (x.1 + (x.2 - x.1 + 1) / 2) ch k)))))) (K ((x.1, true)))) F ((0, 250)))) (fun k => makesM F s i 0 ch k)
theorem speedM_ok {α : Type} {post : α → Prop} {F : Nat} (hF : 1000 ≤ F) {s : Ship} (hc : check s = 0) {i : Ice} (hi : goodIce i) (ch : Bool) {K : Int × Bool → Option α} (h : ∀ x : Int × Bool, x.1 = speed s i ch → Ok post (K x)) : Ok post (speedM F s i ch K) := by
  unfold speedM
  refine ok_join (by omega) (fun b : Bool => b = makes s i ch 0) (fun b hb => ?_) fun k2 hk2 => makes_ok hF hc hi (v := 0) (by decide) ch (hk2 _ rfl)
  refine ok_brk (fun g => h _ ?_) (fun g => ?_)
  · have g : b = false := by simpa using g
    unfold speed greatest
    rw [if_neg (by show ¬ makes s i ch 0 = true; rw [← hb, g]; simp)]
  · have g : b = true := by simpa using g
    refine ok_great hF (so := fun v => makes s i ch v) (by decide) (by decide) (by decide) (test := fun v K => makesM F s i v ch K) (fun v K h1 h2 h3 => makes_ok hF hc hi (by omega) ch h3) (K := K) (h _ ?_)
    unfold speed greatest
    rw [if_pos (show makes s i ch 0 = true by rw [← hb, g])]
noncomputable def goesR {α : Type} (F : Nat) (s : Ship) (i : Ice) (ch : Bool) (K : Int × Bool → Option α) : Option α :=
  join F (fun b : Bool => brk (!b) (K ((0, false))) (loopC (fun (x : Int × Int) => fun next => brk (decide (x.1 < x.2)) (chk (InR (x.2 - x.1)) (chk (InR (x.2 - x.1 + 1)) (chk (0 ≤ x.2 - x.1 + 1 ∧ x.2 - x.1 + 1 ≤ 9223372036854775807) (chk (InR (x.1 + (x.2 - x.1 + 1) / 2)) (join F (fun b : Bool => brk b (next ((x.1 + (x.2 - x.1 + 1) / 2, x.2))) (chk (InR (x.1 + (x.2 - x.1 + 1) / 2 - 1)) (next ((x.1, x.1 + (x.2 - x.1 + 1) / 2 - 1))))) (fun k => goesM F s i (x.1 + (x.2 - x.1 + 1) / 2) ch k)))))) (K ((x.1, true)))) F ((10, 250)))) (fun k => goesM F s i 10 ch k)
theorem goesR_ok {α : Type} {post : α → Prop} {F : Nat} (hF : 1000 ≤ F) {s : Ship} (hc : check s = 0) {i : Ice} (hi : goodIce i) (ch : Bool) {K : Int × Bool → Option α} (h : Ok post (K (goes s i ch))) : Ok post (goesR F s i ch K) := by
  unfold goesR
  refine ok_join (by omega) (fun b : Bool => b = goesP s i ch 10) (fun b hb => ?_) fun k2 hk2 => goesM_ok hF hc hi (v := 10) (by decide) ch (hk2 _ rfl)
  rw [goes_eq] at h
  refine ok_brk (fun g => ?_) (fun g => ?_)
  · have g : b = false := by simpa using g
    rwa [if_neg (by rw [← hb, g]; simp)] at h
  · have g : b = true := by simpa using g
    rw [if_pos (by rw [← hb, g])] at h
    exact ok_great hF (so := goesP s i ch) (by decide) (by decide) (by decide) (test := fun v K => goesM F s i v ch K) (fun v K h1 h2 h3 => goesM_ok hF hc hi (by omega) ch h3) (K := K) h
def fastN (P : Int → Bool) : Nat → Int
  | 0 => 0
  | n + 1 => if P (10 + n) = true then 10 + n else fastN P n
def fastV (c : Convoy) (cell : Cell) : Int := fastN (fun v => decide (HoldsC c cell v)) 241
structure SpansOf (P : Int → Bool) (n : Nat) (l : List Span) : Prop where
  le : l.length ≤ n
  at' : ∀ i : Nat, i < l.length → 10 ≤ (l.getD i ⟨0, 0⟩).Lo ∧ (l.getD i ⟨0, 0⟩).Lo ≤ (l.getD i ⟨0, 0⟩).Hi ∧ (l.getD i ⟨0, 0⟩).Hi < 10 + n ∧ ∀ v, (l.getD i ⟨0, 0⟩).Lo ≤ v → v ≤ (l.getD i ⟨0, 0⟩).Hi → P v = true
  none : l.length = 0 → ∀ v : Int, 10 ≤ v → v < 10 + n → P v = false
end Go.Proofs.Bk
namespace Go.Proofs.Bk
open Go Go.KX
section
variable {α : Type} {post : α → Prop}
theorem ok_and3 {a b c : Bool} {A B C : Option Bool} {X Y : Option α} (hA : A = some a) (hB : a = true → B = some b) (hC : b = true → C = some c)
    (hx : (a && b && c) = false → Ok post X) (hy : (a && b && c) = true → Ok post Y) :
    Ok post (bnd A fun x1 => bnd (brk (!!x1) B (some false)) fun x2 => bnd (brk (!(!x1 || !x2)) C (some false)) fun x3 => brk (!x1 || !x2 || !x3) X Y) := by
  refine ok_bnde hA ?_
  cases a with
  | false => exact hx rfl
  | true =>
    refine ok_bnde (b := b) (hB rfl) ?_
    cases b with
    | false => exact hx rfl
    | true =>
      refine ok_bnde (b := c) (hC rfl) ?_
      cases c with
      | false => exact hx rfl
      | true => exact hy rfl
theorem ok_and4 {a b c d : Bool} {A B C D : Option Bool} {X Y : Option α} (hA : A = some a) (hB : a = true → B = some b) (hC : b = true → C = some c) (hD : c = true → D = some d)
    (hx : (a && b && c && d) = false → Ok post X) (hy : (a && b && c && d) = true → Ok post Y) :
    Ok post (bnd A fun x1 => bnd (brk (!!x1) B (some false)) fun x2 => bnd (brk (!(!x1 || !x2)) C (some false)) fun x3 => bnd (brk (!(!x1 || !x2 || !x3)) D (some false)) fun x4 => brk (!x1 || !x2 || !x3 || !x4) X Y) := by
  refine ok_bnde hA ?_
  cases a with
  | false => exact hx rfl
  | true =>
    refine ok_bnde (b := b) (hB rfl) ?_
    cases b with
    | false => exact hx rfl
    | true =>
      refine ok_bnde (b := c) (hC rfl) ?_
      cases c with
      | false => exact hx rfl
      | true =>
        refine ok_bnde (b := d) (hD rfl) ?_
        cases d with
        | false => exact hx rfl
        | true => exact hy rfl
theorem ok_steady {F : Nat} {l : List Pt} {w : Int} (hc : curve l = true) (hF : 100 ≤ F) {P : Int → Bool} (hP : ∀ q : Int, 1 ≤ q → q < l.length → P q = !steadyAt l w q) {X Y : Option α}
    (hx : steady l w = false → Ok post X) (hy : steady l w = true → Ok post Y) :
    Ok post (loopC (fun (x : Int) => fun x_1 => brk (decide (x < (l.length : Int))) (chk (0 ≤ x ∧ x < (l.length : Int)) (chk (InR (x - 1)) (chk (0 ≤ x - 1 ∧ x - 1 < (l.length : Int)) (brk (P x) X (chk (InR (x + 1)) (x_1 (x + 1))))))) Y) F 1) := by
  have hlen := (curve_lt hc).2
  refine ok_loop (fun q : Int => 1 ≤ q ∧ q ≤ l.length ∧ ∀ j : Nat, 1 ≤ j → (j : Int) < q → steadyAt l w (j : Int) = true) (fun q => (l.length - q).toNat) ⟨by omega, by omega, fun j h1 h2 => by omega⟩ (by omega) fun q next hI hn' => ?_
  obtain ⟨h0, h1, h2⟩ := hI
  refine ok_brk (fun hq => ?_) (fun hq => hy (steady_yes hc (k := l.length) (fun j hj h3 => h2 j h3 (by have := of_decide_eq_false hq; omega)) (Nat.le_refl _)))
  have hq := of_decide_eq_true hq
  refine ok_chk ⟨by omega, hq⟩ (ok_chk (show InR _ from ⟨by omega, by omega⟩) (ok_chk ⟨by omega, by omega⟩ ?_))
  rw [hP q h0 hq]
  refine ok_brk (fun h => hx ?_) (fun h => ok_chk (show InR _ from ⟨by omega, by omega⟩) (hn' _ ⟨by omega, by omega, fun j h3 hj => ?_⟩ (by omega)))
  · exact steady_no (k := q.toNat) (by omega) (by omega) (by rw [Int.toNat_of_nonneg (by omega)]; simpa using h)
  · by_cases e : (j : Int) = q
    · rw [e]; simpa using h
    · exact h2 j h3 (by omega)
end
theorem rin3_eq (F : Nat) (n a b : Int) : ref03_in F n a b = some (within n a b) := rfl
theorem rcurve_eq {F : Nat} {l : List Pt} (hn : l.length ≤ 1000000) (hF : l.length < F) : ref03_Curve F l = some (curve l) := by
  refine Ok.eq ?_
  unfold ref03_Curve
  refine ok_chk (fun h => by simp at h; omega) (ok_brk (fun h => ok_some ?_) (fun h => ?_))
  · cases hc : curve l with
    | false => rfl
    | true =>
      exfalso
      have h1 := (curve_lt hc).2
      have h2 := curve_x0 hc
      have h : (decide ((l.length : Int) < 2) || decide ((l.length : Int) > 8) || ((pt l 0).X != 0)) = true := h
      rw [h2, decide_eq_false (by omega), decide_eq_false (by omega)] at h
      cases h
  have hw : within (l.length : Int) 2 8 = true ∧ (pt l 0).X = 0 := by
    have h : (decide ((l.length : Int) < 2) || decide ((l.length : Int) > 8) || ((pt l 0).X != 0)) = false := h
    simp only [Bool.or_eq_false_iff, decide_eq_false_iff_not, bne_eq_false_iff_eq] at h
    simp only [within, Bool.and_eq_true, decide_eq_true_eq]
    exact ⟨by omega, h.2⟩
  refine ok_loop (fun q : Int => 0 ≤ q ∧ q ≤ l.length ∧ ∀ j : Nat, (j : Int) < q → curveAt l (j : Int) = true) (fun q => (l.length - q).toNat) ⟨by omega, by omega, fun j h => by omega⟩ (by omega) fun q next hI hn' => ?_
  obtain ⟨h0, h1, h2⟩ := hI
  refine ok_brk (fun hc => ?_) (fun hc => ok_some (curve_yes hw.1 hw.2 (k := l.length) (fun j hj => h2 j (by have := of_decide_eq_false hc; omega)) (Nat.le_refl _)).symm)
  have hc := of_decide_eq_true hc
  have hno : curveAt l q = false → false = curve l := fun h => (curve_no2 (k := q.toNat) (by omega) (by rw [Int.toNat_of_nonneg h0]; exact h)).symm
  refine ok_chk ⟨h0, hc⟩ (ok_bnde (rin3_eq ..) (ok_chk (fun _ => ⟨h0, hc⟩) (ok_band (fun _ => rin3_eq ..) ?_)))
  have hcond : (!within (pt l q).X 0 400 || !(!!within (pt l q).X 0 400 && within (pt l q).Y 0 20000)) = !(within (pt l q).X 0 400 && within (pt l q).Y 0 20000) := by
    cases within (pt l q).X 0 400 <;> cases within (pt l q).Y 0 20000 <;> rfl
  refine ok_brk (fun h => ok_some (hno ?_)) (fun h => ?_)
  · have h : (!within (pt l q).X 0 400 || !(!!within (pt l q).X 0 400 && within (pt l q).Y 0 20000)) = true := h
    rw [hcond] at h
    unfold curveAt
    rw [show (within (pt l q).X 0 400 && within (pt l q).Y 0 20000) = false from by rwa [Bool.not_eq_true'] at h]; rfl
  · have h : (!within (pt l q).X 0 400 || !(!!within (pt l q).X 0 400 && within (pt l q).Y 0 20000)) = false := h
    rw [hcond] at h
    have h : (within (pt l q).X 0 400 && within (pt l q).Y 0 20000) = true := by simpa using h
    have hcu : curveAt l q = !(decide (q > 0) && decide ((pt l q).X ≤ (pt l (q - 1)).X)) := by unfold curveAt; rw [h, Bool.true_and]
    refine ok_chk (fun _ => ⟨h0, hc⟩) (ok_chk (fun h => ?_) (ok_chk (fun h => ?_) (ok_brk (fun h' => ok_some (hno ?_)) (fun h' => ok_chk (show InR _ from ⟨by omega, by omega⟩) (hn' _ ⟨by omega, by omega, fun j hj => ?_⟩ (by omega))))))
    · have h := of_decide_eq_true h; exact ⟨by omega, by omega⟩
    · have h := of_decide_eq_true h; exact ⟨by omega, by omega⟩
    · have h' : (decide (q > 0) && decide ((pt l q).X ≤ (pt l (q - 1)).X)) = true := h'
      rw [hcu, h']; rfl
    · have h' : (decide (q > 0) && decide ((pt l q).X ≤ (pt l (q - 1)).X)) = false := h'
      by_cases e : (j : Int) = q
      · rw [e, hcu, h']; rfl
      · exact h2 j (by omega)
def fwdS (s : Ship) : Ship2 := ⟨s.Class, s.Power, s.Draught, s.Tonnes, s.Thrust, s.Water, s.Ice, s.Slow, s.Brash, s.Ridge, s.Press⟩
theorem check_r {s : Ship} (h1 : rule1 s = true) (h2 : rule2 s = true) (h3 : rule3 s = true) (h : (rule4 s && rule5 s && rule6 s) = false) : check s = 40 := check_40 h1 (by rw [h2, h3]; simpa using h)
theorem rcheck_eq {F : Nat} (hF : 1000 ≤ F) {s : Ship} (l1 : s.Thrust.length ≤ 900) (l2 : s.Water.length ≤ 900) (l3 : s.Ice.length ≤ 900) : ref03_Check F (fwdS s) = some (check s) := by
  refine Ok.eq ?_
  unfold ref03_Check
  dsimp only [fwdS]
  refine ok_bnde (rin3_eq ..) (ok_brk (fun h => ok_some ?_) (fun h => ?_))
  · have h : rule1 s = false := by simpa [rule1] using h
    simp [check, h]
  have r1 : rule1 s = true := by simpa [rule1] using h
  refine ok_and3 (rin3_eq ..) (fun _ => rin3_eq ..) (fun _ => rin3_eq ..) (fun h => ok_some (check_40 r1 (by simp [rule2, h])).symm) fun r2 => ?_
  refine ok_and4 (rin3_eq ..) (fun _ => rin3_eq ..) (fun _ => rin3_eq ..) (fun _ => rin3_eq ..) (fun h => ok_some (check_40 r1 (by simp [rule3, h])).symm) fun r3 => ?_
  have r2 : rule2 s = true := r2
  have r3 : rule3 s = true := r3
  refine ok_and3 (rcurve_eq (by omega) (by omega)) (fun _ => rcurve_eq (by omega) (by omega)) (fun _ => rcurve_eq (by omega) (by omega)) (fun h => ok_some (check_r r1 r2 r3 ?_).symm) fun hc => ?_
  · simp only [rule4, rule5, rule6, steady]
    cases c1 : curve s.Thrust <;> cases c2 : curve s.Water <;> cases c3 : curve s.Ice <;> simp_all
  simp only [Bool.and_eq_true] at hc
  obtain ⟨⟨c1, c2⟩, c3⟩ := hc
  have n1 := (curve_lt c1).2
  have n2 := (curve_lt c2).2
  have n3 := (curve_lt c3).2
  refine ok_steady (w := -1) c1 (by omega) (fun q h1 h2 => ?_) (fun h => ok_some (check_r r1 r2 r3 (by simp [rule4, h])).symm) fun s1 => ?_
  · have e : (((pt s.Thrust q).Y - (pt s.Thrust (q - 1)).Y) * -1 < 0) ↔ (pt s.Thrust q).Y > (pt s.Thrust (q - 1)).Y := by omega
    unfold steadyAt
    rw [Bool.not_not]
    exact (decide_eq_decide.2 e).symm
  refine ok_steady (w := 1) c2 (by omega) (fun q h1 h2 => ?_) (fun h => ok_some (check_r r1 r2 r3 (by simp [rule5, h])).symm) fun s2 => ?_
  · have e : (((pt s.Water q).Y - (pt s.Water (q - 1)).Y) * 1 < 0) ↔ (pt s.Water q).Y < (pt s.Water (q - 1)).Y := by omega
    unfold steadyAt
    rw [Bool.not_not]
    exact (decide_eq_decide.2 e).symm
  refine ok_steady (w := 1) c3 (by omega) (fun q h1 h2 => ?_) (fun h => ok_some (check_r r1 r2 r3 (by simp [rule6, h])).symm) fun s3 => ?_
  · have e : (((pt s.Ice q).Y - (pt s.Ice (q - 1)).Y) * 1 < 0) ↔ (pt s.Ice q).Y < (pt s.Ice (q - 1)).Y := by omega
    unfold steadyAt
    rw [Bool.not_not]
    exact (decide_eq_decide.2 e).symm
  refine ok_chk (show InR _ from ⟨by omega, by omega⟩) (ok_chk ⟨by omega, by omega⟩ (ok_bnde (rin3_eq ..) ?_))
  refine ok_chk (fun _ => ⟨by omega, by omega⟩) (ok_chk (fun _ => ⟨by omega, by omega⟩) (ok_chk (fun _ => ⟨by omega, by omega⟩) (ok_chk (fun _ => ⟨by omega, by omega⟩) (ok_chk (fun _ => ⟨by omega, by omega⟩) ?_))))
  have hcond : ∀ b : Bool, (!within (endX s.Thrust) 10 250 || decide (endX s.Water > 250) || ((pt s.Ice 0).Y != 0) || (endX s.Ice != 400)) = b → (rule4 s && rule5 s && rule6 s) = !b := by
    intro b hb
    rw [← hb]
    simp only [rule4, rule5, rule6, s1, s2, s3, Bool.true_and]
    by_cases h5 : endX s.Water ≤ 250
    · rw [decide_eq_true h5, decide_eq_false (show ¬ endX s.Water > 250 by omega)]
      cases within (endX s.Thrust) 10 250 <;> simp [bne]
    · rw [decide_eq_false h5, decide_eq_true (show endX s.Water > 250 by omega)]
      simp
  refine ok_brk (fun h => ok_some ?_) (fun h => ok_some ?_)
  · exact (check_r r1 r2 r3 (hcond true h)).symm
  · have := hcond false h
    simp only [Bool.not_false, Bool.and_eq_true] at this
    obtain ⟨⟨q4, q5⟩, q6⟩ := this
    simp [check, r1, r2, r3, q4, q5, q6]
theorem rfraction_ok {F : Nat} {l : List Pt} (hc : curve l = true) (hF : 100 ≤ F) {x : Int} (hx : 0 ≤ x ∧ x ≤ 1000) :
    Ok (fun r => 1 ≤ r.2 ∧ r.2 ≤ 400 ∧ 0 ≤ r.1 ∧ r.1 ≤ 20000 * r.2 ∧ r.1 * (value l x).2 = (value l x).1 * r.2) (ref03_fraction F l x) := by
  have hlen := (curve_lt hc).2
  have hB := curve_bd hc
  have hx0 := curve_x0 hc
  have hv := valFrom_seg (l := l) (x := x) (l.length - 1) 1 (Nat.le_refl 1) (by omega) (by simp; omega)
  rw [show valFrom l x (l.length - 1) 1 = value l x from rfl] at hv
  unfold ref03_fraction
  refine ok_brk (fun h => by simp at h; subst h; simp at hlen) (fun _ => ?_)
  refine ok_chk (show InR _ from ⟨by omega, by omega⟩) (ok_chk ⟨by omega, by omega⟩ ?_)
  have hE : endX l = (pt l ((l.length : Int) - 1)).X := rfl
  have bE := hB ((l.length : Int) - 1) (by omega) (by omega)
  refine ok_brk (fun h => ok_some ?_) (fun h => ?_)
  · have h := of_decide_eq_true h
    have h : x ≥ endX l := h
    show 1 ≤ (1 : Int) ∧ (1 : Int) ≤ 400 ∧ 0 ≤ (pt l ((l.length : Int) - 1)).Y ∧ (pt l ((l.length : Int) - 1)).Y ≤ 20000 * 1 ∧ (pt l ((l.length : Int) - 1)).Y * (value l x).2 = (value l x).1 * 1
    refine ⟨by omega, by omega, by omega, by omega, ?_⟩
    rcases hv with ⟨_, e⟩ | ⟨j, ⟨h1, h2, h3, h4, e⟩ | ⟨_, e, _⟩⟩
    · rw [e]
    · rw [e]
      have hj : j = l.length - 1 := by
        rcases Nat.lt_or_ge j (l.length - 1) with h5 | h5
        · have := X_lt hc h5 (by omega)
          rw [show ((l.length - 1 : Nat) : Int) = (l.length : Int) - 1 by omega, ← hE] at this
          omega
        · omega
      have hxe : x = (pt l (j : Int)).X := by
        rw [hj, show ((l.length - 1 : Nat) : Int) = (l.length : Int) - 1 by omega, ← hE] at h4 ⊢
        omega
      rw [show (l.length : Int) - 1 = (j : Int) by omega]
      simp only [segN, segD]
      rw [← hxe]
      grind
    · rw [e]
  · have h := of_decide_eq_false h
    have h : ¬ x ≥ endX l := h
    refine ok_loop (fun q : Int => 0 ≤ q ∧ q + 1 < l.length ∧ (pt l q).X ≤ x) (fun q => (l.length - q).toNat) ⟨by omega, by omega, by omega⟩ (by omega) fun k next hI hn' => ?_
    obtain ⟨h0, h1, h2⟩ := hI
    refine ok_chk (show InR _ from ⟨by omega, by omega⟩) (ok_chk ⟨by omega, by omega⟩ (ok_brk (fun hc' => ?_) (fun hc' => ?_)))
    · have hc' := of_decide_eq_true hc'
      refine ok_chk (show InR _ from ⟨by omega, by omega⟩) (hn' _ ⟨by omega, ?_, hc'⟩ (by omega))
      rcases Int.lt_or_le (k + 1 + 1) l.length with h3 | h3
      · exact h3
      · exfalso
        have hc' : (pt l (k + 1)).X ≤ x := hc'
        rw [hE, show (l.length : Int) - 1 = k + 1 by omega] at h
        omega
    · have h3 := of_decide_eq_false hc'
      have h3 : ¬ (pt l (k + 1)).X ≤ x := h3
      have b1 := hB k (by omega) (by omega)
      have b2 := hB (k + 1) (by omega) (by omega)
      have p1 := mul_nn (x := (pt l k).Y) (y := (pt l (k + 1)).X - x) (a := 0) (A := 20000) (b := 0) (B := (pt l (k + 1)).X - x) (by omega) (by omega) (by decide) (by decide)
      have p2 := mul_nn (x := (pt l (k + 1)).Y) (y := x - (pt l k).X) (a := 0) (A := 20000) (b := 0) (B := x - (pt l k).X) (by omega) (by omega) (by decide) (by decide)
      refine ok_chk ⟨by omega, by omega⟩ (ok_chk (show InR _ from ⟨by omega, by omega⟩) (ok_chk ⟨by omega, by omega⟩ ?_))
      refine ok_chk (show InR ((pt l (k + 1)).X - x) from ⟨by omega, by omega⟩) (ok_chk (show InR ((pt l k).Y * ((pt l (k + 1)).X - x)) from ⟨by omega, by omega⟩) (ok_chk (show InR (x - (pt l k).X) from ⟨by omega, by omega⟩) (ok_chk (show InR ((pt l (k + 1)).Y * (x - (pt l k).X)) from ⟨by omega, by omega⟩) (ok_chk (show InR ((pt l k).Y * ((pt l (k + 1)).X - x) + (pt l (k + 1)).Y * (x - (pt l k).X)) from ⟨by omega, by omega⟩) (ok_chk (show InR ((pt l (k + 1)).X - (pt l k).X) from ⟨by omega, by omega⟩) (ok_some ?_))))))
      show 1 ≤ (pt l (k + 1)).X - (pt l k).X ∧ (pt l (k + 1)).X - (pt l k).X ≤ 400 ∧ 0 ≤ (pt l k).Y * ((pt l (k + 1)).X - x) + (pt l (k + 1)).Y * (x - (pt l k).X) ∧ (pt l k).Y * ((pt l (k + 1)).X - x) + (pt l (k + 1)).Y * (x - (pt l k).X) ≤ 20000 * ((pt l (k + 1)).X - (pt l k).X) ∧ ((pt l k).Y * ((pt l (k + 1)).X - x) + (pt l (k + 1)).Y * (x - (pt l k).X)) * (value l x).2 = (value l x).1 * ((pt l (k + 1)).X - (pt l k).X)
      refine ⟨by omega, by omega, by omega, by omega, ?_⟩
      rcases hv with ⟨h4, _⟩ | ⟨j, ⟨h4, h5, h6, h7, e⟩ | ⟨_, _, h4⟩⟩
      · omega
      · rw [e]
        simp only [segN, segD]
        have hk1 : k = ((k.toNat : Nat) : Int) := by omega
        by_cases c1 : (j : Int) = k + 1
        · rw [c1, show k + 1 - 1 = k by omega]
          grind
        · have c2 : (j : Int) = k := by
            rcases Int.lt_or_le (j : Int) k with c3 | c3
            · have := X_lt hc (i := j) (j := k.toNat) (by omega) (by omega)
              rw [← hk1] at this
              omega
            · rcases Int.lt_or_le k (j : Int) with c4 | c4
              · by_cases c5 : (j : Int) = k + 2
                · rw [c5, show k + 2 - 1 = k + 1 by omega] at h6; omega
                · have := X_lt hc (i := (k + 1).toNat) (j := j - 1) (by omega) (by omega)
                  rw [show (((k + 1).toNat : Nat) : Int) = k + 1 by omega, show ((j - 1 : Nat) : Int) = (j : Int) - 1 by omega] at this
                  omega
              · omega
          rw [c2] at h6 h7 ⊢
          have c5 : x = (pt l k).X := by omega
          rw [c5]
          grind
      · omega
end Go.Proofs.Bk
namespace Go.Proofs.Bk
open Go Go.KX
def bwd (s : Ship2) : Ship := ⟨s.Class, s.Power, s.Draught, s.Tonnes, s.Thrust, s.Water, s.Ice, s.Slow, s.Brash, s.Ridge, s.Press⟩
theorem bwd_fwd (s : Ship) : bwd (fwdS s) = s := rfl
theorem rthrust_eq {F : Nat} (hF : 1000 ≤ F) {s : Ship2} (hc : check (bwd s) = 0) {v : Int} (hv : 0 ≤ v ∧ v ≤ 1000) : ref03_thrust F s v = some (thrust (bwd s) v) := by
  refine Ok.eq ?_
  unfold ref03_thrust
  have hcu : curve s.Thrust = true := check_curveThrust hc
  refine ok_bnd _ (rfraction_ok hcu (by omega) hv) fun r ⟨h1, h2, h3, h4, h5⟩ => ?_
  have hb := value_bd hcu hv.1
  refine ok_chk ⟨⟨h3, by omega⟩, by omega⟩ (ok_some ?_)
  show r.1 / r.2 = (value s.Thrust v).1 / (value s.Thrust v).2
  exact ratio_floor (by omega) (by omega) h5
theorem rres_eq {F : Nat} (hF : 1000 ≤ F) {s : Ship2} (hc : check (bwd s) = 0) {i : Ice} (hi : goodIce i) {v : Int} (hv : 0 ≤ v ∧ v ≤ 250) (ch : Bool) : ref03_resistance F s i v ch = some (resistance (bwd s) i ch v) := by
  refine Ok.eq ?_
  unfold ref03_resistance
  obtain ⟨i1, i2, i3, i4⟩ := goodIce_bd hi
  obtain ⟨_, _, hsl, hbr, hri, hpr⟩ := check_bd hc
  dsimp only [bwd] at hsl hbr hri hpr
  have hcw : curve s.Water = true := check_curveWater hc
  have hci : curve s.Ice = true := check_curveIce hc
  have w1 := value_bd hcw hv.1
  have n1 := value_bd hci i2.1
  refine ok_bnd _ (rfraction_ok hcw (by omega) (by omega)) fun r1 hr1 => ?_
  refine ok_bnd _ (rfraction_ok hci (by omega) (by omega)) fun r2 hr2 => ?_
  obtain ⟨wn, wd⟩ := r1
  obtain ⟨ln, ld⟩ := r2
  dsimp only at hr1 hr2 ⊢
  obtain ⟨a1, a2, a3, a4, a5⟩ := hr1
  obtain ⟨b1, b2, b3, b4, b5⟩ := hr2
  refine ok_join (by omega) (fun q : Int × Int => q = ((if ch = true then 0 else i.Ridge), (if ch = true then s.Brash else 100))) (fun q hq => ?_) fun k hk => ?_
  · subst hq
    have key := res_ratio (C := i.Conc) (A := 1000 + s.Slow * v) (sh := if ch = true then s.Brash else 100) (R := s.Ridge) (rd := if ch = true then 0 else i.Ridge) (P := s.Press * i.Press) a5 b5
    have hres : resistance (bwd s) i ch v = (((value s.Water v).1 * ((value s.Ice i.Thick).2 * 10000000) + i.Conc * ((value s.Ice i.Thick).1 * (1000 + s.Slow * v) * (if ch = true then s.Brash else 100) + s.Ridge * (if ch = true then 0 else i.Ridge) * (value s.Ice i.Thick).2 * 100000) * (value s.Water v).2 + s.Press * i.Press * (value s.Water v).2 * ((value s.Ice i.Thick).2 * 10000000))
      + (value s.Water v).2 * ((value s.Ice i.Thick).2 * 10000000) - 1) / ((value s.Water v).2 * ((value s.Ice i.Thick).2 * 10000000)) := rfl
    have hsh : 0 ≤ (if ch = true then s.Brash else 100) ∧ (if ch = true then s.Brash else 100) ≤ 100 := by split <;> omega
    have hrd : 0 ≤ (if ch = true then 0 else i.Ridge) ∧ (if ch = true then 0 else i.Ridge) ≤ 100 := by split <;> omega
    have hD' : 0 < (value s.Water v).2 * ((value s.Ice i.Thick).2 * 10000000) := Int.mul_pos (by omega) (by omega)
    have hD : 0 < wd * ld * 10000000 := by have := Int.mul_pos (a := wd) (b := ld) (by omega) (by omega); omega
    rw [← ratio_ceil hD hD' key, ceil_if hD] at hres
    dsimp only
    generalize (if ch = true then s.Brash else 100) = sh at *
    generalize (if ch = true then 0 else i.Ridge) = rd at *
    have d1 : wd * ld * 10000000 / wd = ld * 10000000 := by rw [Int.mul_assoc]; exact Int.mul_ediv_cancel_left _ (by omega)
    rw [d1]
    have m1 := mul_nn (x := wd) (y := ld) (a := 1) (A := 400) (b := 1) (B := 400) (by omega) (by omega) (by decide) (by decide)
    have m2 := mul_nn (x := wn) (y := ld * 10000000) (a := 0) (A := 8000000) (b := 0) (B := 4000000000) (by omega) (by omega) (by decide) (by decide)
    have m3 := mul_nn (x := i.Conc) (y := ln) (a := 0) (A := 100) (b := 0) (B := 8000000) (by omega) (by omega) (by decide) (by decide)
    have m4 := mul_nn (x := s.Slow) (y := v) (a := 0) (A := 20) (b := 0) (B := 250) (by omega) (by omega) (by decide) (by decide)
    have m5 := mul_nn (x := i.Conc * ln) (y := 1000 + s.Slow * v) (a := 0) (A := 800000000) (b := 0) (B := 6000) (by omega) (by omega) (by decide) (by decide)
    have m6 := mul_nn (x := i.Conc * ln * (1000 + s.Slow * v)) (y := sh) (a := 0) (A := 4800000000000) (b := 0) (B := 100) (by omega) (by omega) (by decide) (by decide)
    have m7 := mul_nn (x := i.Conc * ln * (1000 + s.Slow * v) * sh) (y := wd) (a := 0) (A := 480000000000000) (b := 0) (B := 400) (by omega) (by omega) (by decide) (by decide)
    have m8 := mul_nn (x := i.Conc) (y := s.Ridge) (a := 0) (A := 100) (b := 0) (B := 500) (by omega) (by omega) (by decide) (by decide)
    have m9 := mul_nn (x := i.Conc * s.Ridge) (y := rd) (a := 0) (A := 50000) (b := 0) (B := 100) (by omega) (by omega) (by decide) (by decide)
    have d2 : wd * ld * 10000000 / 100 = wd * ld * 100000 := by omega
    rw [d2]
    have m10 := mul_nn (x := i.Conc * s.Ridge * rd) (y := wd * ld * 100000) (a := 0) (A := 5000000) (b := 0) (B := 16000000000) (by omega) (by omega) (by decide) (by decide)
    have m11 := mul_nn (x := s.Press) (y := i.Press) (a := 0) (A := 5000) (b := 0) (B := 3) (by omega) (by omega) (by decide) (by decide)
    have m12 := mul_nn (x := s.Press * i.Press) (y := wd * ld * 10000000) (a := 0) (A := 15000) (b := 0) (B := 1600000000000) (by omega) (by omega) (by decide) (by decide)
    clear key d1 d2
    generalize i.Conc * ln * (1000 + s.Slow * v) * sh * wd = x7 at *
    generalize i.Conc * ln * (1000 + s.Slow * v) * sh = x6 at *
    generalize i.Conc * ln * (1000 + s.Slow * v) = x5 at *
    generalize s.Slow * v = x4 at *
    generalize i.Conc * ln = x3 at *
    generalize wn * (ld * 10000000) = x2 at *
    generalize i.Conc * s.Ridge * rd * (wd * ld * 100000) = y3 at *
    generalize i.Conc * s.Ridge * rd = y2 at *
    generalize i.Conc * s.Ridge = y1 at *
    generalize s.Press * i.Press * (wd * ld * 10000000) = z2 at *
    generalize s.Press * i.Press = z1 at *
    have hDu : wd * ld * 10000000 ≤ 1600000000000 := by omega
    have hW : 1 ≤ wd * ld ∧ wd * ld ≤ 160000 := by omega
    refine ok_chk (show InR _ from ⟨by omega, by omega⟩) ?_
    generalize wd * ld * 10000000 = D at *
    have hN : ∃ N, N = x2 + x7 + y3 + z2 := ⟨_, rfl⟩
    obtain ⟨N, hN⟩ := hN
    rw [← hN] at hres ⊢
    have q1 := Int.ediv_mul_le N (b := D) (by omega)
    have q2 := Int.ediv_nonneg (a := N) (b := D) (by omega) (by omega)
    have q4 : N / D ≤ N := Int.ediv_le_self D (by omega)
    have q3 := Int.mul_nonneg q2 (Int.le_of_lt hD)
    generalize N / D = q at *
    generalize q * D = qd at *
    iterate 19 (refine ok_chk (by first | exact ⟨by omega, by omega⟩ | exact ⟨⟨by omega, by omega⟩, by omega⟩) ?_)
    refine ok_join (by omega) (fun x => x = resistance (bwd s) i ch v) (fun x h => ok_some h) fun k hk => ok_chk (show InR _ from ⟨by omega, by omega⟩) (ok_brk (fun h => ok_chk (show InR _ from ⟨by omega, by omega⟩) (hk _ ?_)) (fun h => hk _ ?_))
    · have h := of_decide_eq_true h
      rw [hres, if_pos h]
    · have h := of_decide_eq_false h
      rw [hres, if_neg h]
  · refine ok_brk (fun h => hk _ ?_) (fun h => hk _ ?_) <;> simp [h]
theorem rmakes_eq {F : Nat} (hF : 1000 ≤ F) {s : Ship2} (hc : check (bwd s) = 0) {i : Ice} (hi : goodIce i) {v : Int} (hv : 0 ≤ v ∧ v ≤ 1000) (ch : Bool) : ref03_makes F s i v ch = some (makes (bwd s) i ch v) := by
  refine Ok.eq ?_
  unfold ref03_makes
  have hl : 2 ≤ s.Thrust.length ∧ s.Thrust.length ≤ 8 := (curve_lt (check_curveThrust hc)).2
  have he : 10 ≤ endX s.Thrust ∧ endX s.Thrust ≤ 250 := check_endT hc
  refine ok_chk (show InR _ from ⟨by omega, by omega⟩) (ok_chk ⟨by omega, by omega⟩ ?_)
  have hmk : makes (bwd s) i ch v = (decide (v ≤ endX s.Thrust) && decide (thrust (bwd s) v ≥ resistance (bwd s) i ch v)) := rfl
  show Ok _ (bnd (brk (decide (v ≤ endX s.Thrust)) _ _) _)
  by_cases h : v ≤ endX s.Thrust
  · rw [decide_eq_true h] at hmk
    refine ok_bbrk (fun _ => ok_bnde (rthrust_eq hF hc (by omega)) ?_) (fun h2 => absurd h (of_decide_eq_false h2))
    refine ok_bbrk (fun _ => ok_bnde (rres_eq hF hc hi (by omega) ch) (ok_some ?_)) (fun h2 => absurd h (of_decide_eq_false h2))
    rw [hmk]
    exact congrArg (· && _) (decide_eq_true h)
  · rw [decide_eq_false h] at hmk
    refine ok_bbrk (fun h2 => absurd (of_decide_eq_true h2) h) (fun _ => ok_bnde rfl ?_)
    refine ok_bbrk (fun h2 => absurd (of_decide_eq_true h2) h) (fun _ => ok_bnde rfl (ok_some ?_))
    rw [hmk]
    exact congrArg (· && _) (decide_eq_false h)
theorem rspeed_eq {F : Nat} (hF : 1000 ≤ F) {s : Ship2} (hc : check (bwd s) = 0) {i : Ice} (hi : goodIce i) (ch : Bool) : ref03_speed F s i ch = some (speed (bwd s) i ch) := by
  refine Ok.eq ?_
  unfold ref03_speed
  refine ok_loop (fun q : Int × Int => 0 ≤ q.1 ∧ q.1 ≤ 251 ∧ Last (fun v => makes (bwd s) i ch v) 0 0 q.2 q.1) (fun q => (251 - q.1).toNat) ⟨by simp, by simp, Last.start⟩ (by show (251 - (0 : Int)).toNat < F; omega) fun q next hI hn => ?_
  obtain ⟨v, out⟩ := q
  obtain ⟨h0, h1, h2⟩ := hI
  dsimp only at h0 h1 h2 ⊢
  refine ok_brk (fun h => ?_) (fun h => ok_some ?_)
  · have h := of_decide_eq_true h
    refine ok_join (by omega) (fun x => Last (fun v => makes (bwd s) i ch v) 0 0 x (v + 1)) (fun x hx => ok_chk (show InR _ from ⟨by omega, by omega⟩) (hn _ ⟨by dsimp only; omega, by dsimp only; omega, hx⟩ (by dsimp only; omega))) fun k3 hk3 => ?_
    refine ok_bnde (rmakes_eq hF hc hi (by omega) ch) (ok_brk (fun h => hk3 _ (Last.yes h0 h)) (fun h => hk3 _ (h2.no h)))
  · have h := of_decide_eq_false h
    obtain rfl : v = 250 + 1 := by omega
    unfold speed
    rcases h2.greatest (by decide) (makes_down hc hi ch) with ⟨e, h, _⟩ | ⟨h, _⟩
    · rw [h, e]
    · rw [h]
theorem rstrength_eq {F : Nat} {s : Ship2} (hc : check (bwd s) = 0) : ref03_strength F s.Class = some (strengths.getD (s.Class - 1).toNat 0) := by
  obtain ⟨h, _⟩ := check_bd hc
  dsimp only [bwd] at h
  unfold ref03_strength
  have : s.Class = 1 ∨ s.Class = 2 ∨ s.Class = 3 ∨ s.Class = 4 ∨ s.Class = 5 ∨ s.Class = 6 := by omega
  rcases this with h | h | h | h | h | h <;> rw [h] <;> rfl
theorem rload_eq {F : Nat} {i : Ice} (hi : goodIce i) {v : Int} (hv : 0 ≤ v ∧ v ≤ 250) (ch : Bool) : ref03_load F i v ch = some (loadI i v ch) := by
  obtain ⟨i1, i2, i3, i4⟩ := goodIce_bd hi
  refine Ok.eq ?_
  unfold ref03_load loadI
  have hm := mul_nn (x := i.Thick) (y := 100 + v) (a := 0) (A := 400) (b := 0) (B := 350) (by omega) (by omega) (by decide) (by decide)
  refine ok_brk (fun h => ok_some ?_) (fun h => ?_)
  · have h : i.Conc = 0 := by simpa using h
    rw [if_pos h]
  · have h : i.Conc ≠ 0 := by simpa using h
    rw [if_neg h]
    generalize i.Thick * (100 + v) = n at *
    refine ok_chk (show InR _ from ⟨by omega, by omega⟩) (ok_chk (show InR _ from ⟨by omega, by omega⟩) (ok_brk (fun h => ?_) (fun h => ?_)))
    · subst h
      iterate 5 (refine ok_chk (by exact ⟨by omega, by omega⟩) ?_)
      refine ok_some ?_
      simp only [if_true]; omega
    · subst h
      iterate 4 (refine ok_chk (by exact ⟨by omega, by omega⟩) ?_)
      exact ok_some (by simp)
end Go.Proofs.Bk
namespace Go.Proofs.Bk
open Go Go.KX
instance (s : Span) (n : Int) : Decidable (goodSpan s n) := by unfold goodSpan; infer_instance
instance (c : Cell) : Decidable (goodCell c) := by unfold goodCell; infer_instance
theorem rspan_eq {F : Nat} (s : Span) (n : Int) : ref03_span F s n = some (decide (goodSpan s n)) := by
  unfold ref03_span
  refine congrArg some (Bool.eq_iff_iff.2 ⟨fun h => decide_eq_true ?_, fun h => ?_⟩)
  · simp only [Bool.and_eq_true, decide_eq_true_eq] at h
    unfold goodSpan; omega
  · have h := of_decide_eq_true h
    unfold goodSpan at h
    simp only [Bool.and_eq_true, decide_eq_true_eq]; omega
theorem rcell_eq {F : Nat} (c : Cell) : ref03_cell F c = some (decide (goodCell c)) := by
  refine Ok.eq ?_
  unfold ref03_cell
  refine ok_bnde (rspan_eq ..) (ok_band (fun _ => rspan_eq ..) (ok_band (fun _ => rspan_eq ..) (ok_band (fun _ => rspan_eq ..) (ok_some ?_))))
  refine Bool.eq_iff_iff.2 ⟨fun h => decide_eq_true ?_, fun h => ?_⟩
  · simp only [Bool.and_eq_true, decide_eq_true_eq] at h
    obtain ⟨⟨⟨h1, h2⟩, h3⟩, h4⟩ := h
    exact ⟨h1, by simp_all, by simp_all, by simp_all⟩
  · obtain ⟨h1, h2, h3, h4⟩ := of_decide_eq_true h
    simp [h1, h2, h3, h4]
theorem rcorners_eq {F : Nat} (hF : 1000 ≤ F) (c : Cell) : ref03_Corners F c = some (corners c) := by
  obtain ⟨G, rfl⟩ : ∃ G, F = G + 17 := ⟨F - 17, by omega⟩
  kernel_rfl
theorem rsafe_eq {F : Nat} (hF : 1000 ≤ F) {s : Ship2} (hc : check (bwd s) = 0) {c : Cell} (hg : goodCell c) (ch : Bool) : ref03_safe F s c ch = some (safe (bwd s) c ch) := by
  refine Ok.eq ?_
  have hl := goodCell_last hg
  unfold ref03_safe
  refine ok_bnde (rcorners_eq hF c) ?_
  have hlen : (corners c).length = 16 := rfl
  have hcor : ∀ i : Int, 0 ≤ i → i < 16 → goodIce ((corners c).getD i.toNat (Ice.mk 0 0 0 0)) ∧ LeI ((corners c).getD i.toNat (Ice.mk 0 0 0 0)) (lastI c) ∧ (corners c).getD i.toNat (Ice.mk 0 0 0 0) ∈ corners c := fun i h0 h1 => by
    have hm := getD_in (l := corners c) (d := Ice.mk 0 0 0 0) h0 (by rw [hlen]; exact h1)
    exact ⟨(corners_in hg hm).1, (corners_in hg hm).2.2, hm⟩
  have hget : ∀ x ∈ corners c, ∃ i : Int, 0 ≤ i ∧ i < 16 ∧ (corners c).getD i.toNat (Ice.mk 0 0 0 0) = x := fun x hx => by
    obtain ⟨i, hi, rfl⟩ := List.getElem_of_mem hx
    refine ⟨i, by omega, by omega, ?_⟩
    simp [List.getD, hi]
  generalize hcs : corners c = cs at *
  refine ok_loop (fun i : Int => 0 ≤ i ∧ i ≤ 16 ∧ ∀ j : Int, 0 ≤ j → j < i → 10 ≤ speed (bwd s) (cs.getD j.toNat (Ice.mk 0 0 0 0)) ch) (fun i => (16 - i).toNat) ⟨by simp, by simp, fun j a b => by omega⟩ (by show (16 - (0 : Int)).toNat < F; omega) fun i next hI hn => ?_
  obtain ⟨a0, a1, a2⟩ := hI
  refine ok_brk (fun h => ?_) (fun h => ?_)
  · have hi : i < 16 := by have := of_decide_eq_true h; omega
    obtain ⟨b1, b2, b3⟩ := hcor i a0 hi
    refine ok_chk ⟨a0, by omega⟩ (ok_bnde (rspeed_eq hF hc b1 ch) (ok_brk (fun h => ok_some ?_) (fun h => ok_chk (show InR _ from ⟨by omega, by omega⟩) (hn _ ⟨by omega, by omega, fun j c0 c1 => ?_⟩ (by omega)))))
    · have h := of_decide_eq_true h
      unfold safe
      rw [if_pos ((speed_lt hc hg ch).1 ⟨_, by rw [hcs]; exact b3, h⟩)]
    · by_cases e : j = i
      · rw [e]; have h := of_decide_eq_false h; omega
      · exact a2 j c0 (by omega)
  have h1 : 10 ≤ speed (bwd s) (lastI c) ch := by
    have h := of_decide_eq_false h
    obtain rfl : i = 16 := by omega
    obtain ⟨i, c0, c1, e⟩ := hget _ (by rw [← hcs]; exact corners_last c)
    rw [← e]; exact a2 i c0 c1
  clear h a0 a1 a2 hn next i
  have hmk : makes (bwd s) (lastI c) ch 10 = true := makes_of_speed hc hl (by decide) h1
  refine ok_loop (fun i : Int => 0 ≤ i ∧ i ≤ 16 ∧ ∀ j : Int, 0 ≤ j → j < i → bears (bwd s) (cs.getD j.toNat (Ice.mk 0 0 0 0)) ch 10 = true) (fun i => (16 - i).toNat) ⟨by simp, by simp, fun j a b => by omega⟩ (by show (16 - (0 : Int)).toNat < F; omega) fun i next hI hn => ?_
  obtain ⟨a0, a1, a2⟩ := hI
  refine ok_brk (fun h => ?_) (fun h => ?_)
  · have hi : i < 16 := by have := of_decide_eq_true h; omega
    obtain ⟨b1, b2, _⟩ := hcor i a0 hi
    refine ok_chk ⟨a0, by omega⟩ (ok_bnde (rload_eq b1 (by decide) ch) (ok_bnde (rstrength_eq hc) (ok_brk (fun h => ok_some ?_) (fun h => ok_chk (show InR _ from ⟨by omega, by omega⟩) (hn _ ⟨by omega, by omega, fun j c0 c1 => ?_⟩ (by omega))))))
    · have h := of_decide_eq_true h
      have hb : bears (bwd s) (lastI c) ch 10 = false := by
        cases hb : bears (bwd s) (lastI c) ch 10 with
        | false => rfl
        | true =>
          have := bears_mono b1 hl b2 (u := 10) (v := 10) (by decide) (Int.le_refl _) hb
          simp only [bears, decide_eq_true_eq] at this
          dsimp only [bwd] at this
          omega
      unfold safe
      rw [if_neg (by omega), goes_ok, goesP, hb, Bool.and_false, if_pos rfl]
    · by_cases e : j = i
      · rw [e]; have h := of_decide_eq_false h; exact decide_eq_true (show loadI _ 10 ch ≤ strengths.getD (s.Class - 1).toNat 0 by omega)
      · exact a2 j c0 (by omega)
  have h2 : bears (bwd s) (lastI c) ch 10 = true := by
    have h := of_decide_eq_false h
    obtain rfl : i = 16 := by omega
    obtain ⟨i, c0, c1, e⟩ := hget _ (by rw [← hcs]; exact corners_last c)
    rw [← e]; exact a2 i c0 c1
  clear h a0 a1 a2 hn next i
  have hgo : goesP (bwd s) (lastI c) ch 10 = true := by simp [goesP, hmk, h2]
  refine ok_loop (fun q : Int × Int => 0 ≤ q.1 ∧ q.1 ≤ 251 ∧ Last (goesP (bwd s) (lastI c) ch) 0 0 q.2 q.1) (fun q => (251 - q.1).toNat) ⟨by simp, by simp, Last.start⟩ (by show (251 - (0 : Int)).toNat < F; omega) fun q next hI hn => ?_
  obtain ⟨v, out⟩ := q
  obtain ⟨h0, h3, h4⟩ := hI
  dsimp only at h0 h3 h4 ⊢
  refine ok_brk (fun h => ?_) (fun h => ok_some ?_)
  · have h := of_decide_eq_true h
    refine ok_join (by omega) (fun x => Last (goesP (bwd s) (lastI c) ch) 0 0 x (v + 1)) (fun x hx => ok_chk (show InR _ from ⟨by omega, by omega⟩) (hn _ ⟨by dsimp only; omega, by dsimp only; omega, hx⟩ (by dsimp only; omega))) fun k7 hk7 => ?_
    refine ok_loop (fun q : Int × Bool => 0 ≤ q.1 ∧ q.1 ≤ 16 ∧ (q.2 = true ↔ ∀ i : Int, 0 ≤ i → i < q.1 → goesP (bwd s) (cs.getD i.toNat (Ice.mk 0 0 0 0)) ch v = true)) (fun q => (16 - q.1).toNat) ⟨by simp, by simp, by simp; intro i a b; omega⟩ (by show (16 - (0 : Int)).toNat < F; omega) fun q next hI hn => ?_
    obtain ⟨i, g⟩ := q
    obtain ⟨a0, a1, a2⟩ := hI
    dsimp only at a0 a1 a2 ⊢
    refine ok_brk (fun h => ?_) (fun h => ?_)
    · have hi : i < 16 := by have := of_decide_eq_true h; omega
      obtain ⟨b1, _, _⟩ := hcor i a0 hi
      refine ok_chk (fun _ => ⟨a0, by omega⟩) ?_
      have step : ∀ g', (g' = (g && goesP (bwd s) (cs.getD i.toNat (Ice.mk 0 0 0 0)) ch v)) → (g' = true ↔ ∀ j : Int, 0 ≤ j → j < i + 1 → goesP (bwd s) (cs.getD j.toNat (Ice.mk 0 0 0 0)) ch v = true) := by
        intro g' e
        rw [e, Bool.and_eq_true, a2]
        constructor
        · rintro ⟨c1, c2⟩ j d0 d1
          by_cases e : j = i
          · rw [e]; exact c2
          · exact c1 j d0 (by omega)
        · exact fun c1 => ⟨fun j d0 d1 => c1 j d0 (by omega), c1 i a0 (by omega)⟩
      cases g with
      | false =>
        exact ok_bnde rfl (ok_chk (fun h => by cases h) (ok_bnde rfl (ok_bnde rfl (ok_chk (show InR _ from ⟨by omega, by omega⟩) (hn _ ⟨by dsimp only; omega, by dsimp only; omega, step _ rfl⟩ (by dsimp only; omega))))))
      | true =>
        refine ok_bnde (b := makes (bwd s) (cs.getD i.toNat (Ice.mk 0 0 0 0)) ch v) (rmakes_eq (F := F) hF hc b1 (by omega) ch) (ok_chk (fun _ => ⟨a0, by omega⟩) ?_)
        cases hmb : makes (bwd s) (cs.getD i.toNat (Ice.mk 0 0 0 0)) ch v with
        | false =>
          refine ok_bnde rfl (ok_bnde rfl (ok_chk (show InR _ from ⟨by omega, by omega⟩) (hn _ ⟨by dsimp only; omega, by dsimp only; omega, step _ ?_⟩ (by dsimp only; omega))))
          rw [goesP, hmb]; rfl
        | true =>
          refine ok_bnde (b := loadI (cs.getD i.toNat (Ice.mk 0 0 0 0)) v ch) (rload_eq (F := F) b1 (by omega) ch) (ok_bnde (b := strengths.getD (s.Class - 1).toNat 0) (rstrength_eq (F := F) hc) (ok_chk (show InR _ from ⟨by omega, by omega⟩) (hn _ ⟨by dsimp only; omega, by dsimp only; omega, step _ ?_⟩ (by dsimp only; omega))))
          rw [goesP, hmb]; rfl
    · have h := of_decide_eq_false h
      obtain rfl : i = 16 := by omega
      have hgv : g = goesP (bwd s) (lastI c) ch v := by
        rw [Bool.eq_iff_iff, a2, ← goesP_all hc hg ch h0, hcs]
        constructor
        · intro e x hx
          obtain ⟨i, c0, c1, rfl⟩ := hget x hx
          exact e i c0 c1
        · exact fun e i c0 c1 => e _ (hcor i c0 c1).2.2
      subst hgv
      exact ok_brk (fun h => hk7 _ (Last.yes h0 h)) (fun h => hk7 _ (h4.no h))
  · have h := of_decide_eq_false h
    obtain rfl : v = 250 + 1 := by omega
    unfold safe
    rw [if_neg (by omega), goes_ok, hgo, if_neg (by simp), goes_eq, if_pos hgo]
    rcases h4.it with ⟨h3, h4⟩ | ⟨h3, h4, h5, h6⟩
    · rw [h4 10 (by omega) (by omega)] at hgo; cases hgo
    · have : 10 ≤ out := by
        rcases Int.lt_or_le out 10 with h7 | h7
        · rw [h6 10 h7 (by omega)] at hgo; cases hgo
        · exact h7
      rw [(great_eq (goes_down hc hl ch) this (by omega) h5 (fun u a b => h6 u a (by omega))).2]
end Go.Proofs.Bk
namespace Go.Proofs.Bk
open Go Go.KX
abbrev prtD : Part := Part.mk (Cell.mk (Span.mk 0 0) (Span.mk 0 0) (Span.mk 0 0) (Span.mk 0 0)) false 0
def timeC (c : Convoy) (p : Part) : Int := takes p (fastV c p.Cell)
structure LegR (c : Convoy) (l : List Part) (r : List Int × (Int × Int)) : Prop where
  ok : (∀ p ∈ l, fastV c p.Cell ≠ 0) → r = (l.map (fun p => fastV c p.Cell), sumP (timeC c) l, 0)
  bad : ∀ j : Nat, j < l.length → (∀ q : Nat, q < j → fastV c (l.getD q prtD).Cell ≠ 0) → fastV c (l.getD j prtD).Cell = 0 → r = ([], (j : Int), 4)
theorem takes_eq {F : Nat} {p : Part} (hp : 1 ≤ p.Length ∧ p.Length ≤ 10000) {v : Int} (hv : 1 ≤ v ∧ v ≤ 250) : hull_Leg_1 F p v = some (takes p v) := by
  refine Ok.eq ?_
  unfold hull_Leg_1
  exact ok_chk (show InR _ from ⟨by omega, by omega⟩) (ok_chk (show InR _ from ⟨by omega, by omega⟩) (ok_chk (show InR _ from ⟨by omega, by omega⟩) (ok_chk ⟨⟨by omega, by omega⟩, by omega⟩ (ok_some rfl))))
end Go.Proofs.Bk

namespace Go.Proofs.Bk
open Go Go.KX
theorem partErr_w {p : Part} (g : within p.Length 1 10000 = false) : partErr p = 6 := by unfold partErr; rw [if_pos g]
theorem partErr_c {p : Part} (g : within p.Length 1 10000 = true) : partErr p = checkCell p.Cell := by unfold partErr; rw [if_neg (by rw [g]; simp)]
theorem partsErr_e {p : Part} {r : List Part} {e : Int} (h : partErr p = e) (he : e ≠ 0) : partsErr (p :: r) = e := by unfold partsErr; rw [if_pos (by rw [h]; exact he), h]
theorem partsErr_0 {p : Part} {r : List Part} (h : partErr p = 0) : partsErr (p :: r) = partsErr r := by rw [partsErr, if_neg (by rw [h]; simp)]
theorem hleg_eq {F : Nat} (hF : 1000 ≤ F) {s : Ship} (l1 : s.Thrust.length ≤ 900) (l2 : s.Water.length ≤ 900) (l3 : s.Ice.length ≤ 900) {l : List Part} (hl : l.length ≤ 900) : hull_Leg F s l = some (leg s l) := by
  refine Ok.eq ?_
  unfold hull_Leg leg
  refine ok_bnde (check_eq hF l1 l2 l3) (ok_brk (fun h => ok_some ?_) (fun h => ?_))
  · have h : check s ≠ 0 := by simpa using h
    rw [if_pos h]
  have hc : check s = 0 := by simpa using h
  rw [if_neg (by simp [hc])]
  refine ok_bnde (within_eq ..) (ok_brk (fun h => ok_some ?_) (fun h => ?_))
  · have h : within (l.length : Int) 1 100 = false := by simpa using h
    rw [if_pos h]
  have hw : within (l.length : Int) 1 100 = true := by simpa using h
  rw [if_neg (by simp [hw])]
  have hlb := within_t hw
  refine ok_rest (l := l) (d := prtD) (fun x : Int => x) (fun _ r => partsErr r = partsErr l) (by omega) rfl rfl (fun x next y0 y1 hq hm hn => ?_) (fun x next y1 hq => ?_)
  · refine ok_brkT (decide_eq_true y1) (ok_chk ⟨y0, y1⟩ (ok_bnde (within_eq ..) (ok_brk (fun g => ok_some ?_) (fun g => ok_bnde (cell_eq hF _) (ok_brk (fun k => ok_some ?_) (fun k => ok_chk (show InR _ from ⟨by omega, by omega⟩) (hn _ rfl ?_)))))))
    · have g : within (l.getD x.toNat prtD).Length 1 10000 = false := by simpa using g
      have e : partsErr l = 6 := by rw [← hq]; exact partsErr_e (partErr_w g) (by decide)
      rw [if_pos (by rw [e]; decide), e]
    · have g : within (l.getD x.toNat prtD).Length 1 10000 = true := by simpa using g
      have k : checkCell (l.getD x.toNat prtD).Cell ≠ 0 := by simpa using k
      have e : partsErr l = checkCell (l.getD x.toNat prtD).Cell := by rw [← hq]; exact partsErr_e (partErr_c g) k
      rw [if_pos (by rw [e]; exact k), e]
    · have g : within (l.getD x.toNat prtD).Length 1 10000 = true := by simpa using g
      have k : checkCell (l.getD x.toNat prtD).Cell = 0 := by simpa using k
      rw [← hq]; exact (partsErr_0 (by rw [partErr_c g, k])).symm
  have e : partsErr l = 0 := hq.symm
  have hgood := partsErr_good e
  rw [if_neg (by simp [e])]
  refine ok_brkF (decide_eq_false (by omega)) ?_
  refine ok_rest (l := l) (d := prtD) (fun x : List Int × (Int × (Int × Int)) => x.2.1) (fun x r => legFrom s r x.2.1 x.1 x.2.2.2 x.2.2.1 = legFrom s l 0 [] 0 0 ∧ (x.1.length : Int) = x.2.1 ∧ (0 ≤ x.2.2.1 ∧ x.2.2.1 ≤ 60025 * x.2.1) ∧ 0 ≤ x.2.2.2 ∧ x.2.2.2 ≤ 60025 * x.2.1) (by omega) rfl ⟨rfl, rfl, by simp, by simp⟩ (fun x next y0 y1 hq hm hn => ?_) (fun x next y1 hq => ?_)
  · obtain ⟨out, i, hi, lo⟩ := x
    obtain ⟨q1, q2, q3, q4⟩ := hq
    dsimp only at y0 y1 q1 q2 q3 q4 hm hn ⊢
    have hp := hgood _ hm
    have hf := goodCell_first hp.2
    refine ok_brkT (decide_eq_true y1) (ok_chk ⟨y0, y1⟩ (ok_bnde (ssafe_eq hF hc hp.2 _) (ok_brk (fun g => ok_some ?_) (fun g => ok_bnde (b := firstI (l.getD i.toNat prtD).Cell) rfl ?_))))
    · have g : (safe s (l.getD i.toNat prtD).Cell (l.getD i.toNat prtD).Channel).2 ≠ 0 := by simpa using g
      rw [← q1, legFrom, if_pos g]
    · have g : (safe s (l.getD i.toNat prtD).Cell (l.getD i.toNat prtD).Channel).2 = 0 := by simpa using g
      rw [legFrom, if_neg (show ¬ (safe s (l.getD i.toNat prtD).Cell (l.getD i.toNat prtD).Channel).2 ≠ 0 from fun h => h g)] at q1
      have hsg := safe_goes hc hp.2 (ch := (l.getD i.toNat prtD).Channel) g
      have t1 := takes_bd hp.1 hsg.2.1
      have t2 := takes_bd hp.1 hsg.2.2
      refine ok_join (by omega) (fun x : Int × Bool => x = goes s (firstI (l.getD i.toNat prtD).Cell) (l.getD i.toNat prtD).Channel) (fun x hx => ?_) fun k hk => goesR_ok hF hc hf _ (K := k) (hk _ rfl)
      subst hx
      refine ok_chk (by simp; omega) (ok_bnde (takes_eq (v := (goes s (firstI (l.getD i.toNat prtD).Cell) (l.getD i.toNat prtD).Channel).1) hp.1 ⟨by omega, by omega⟩) (ok_chk (show InR (lo + takes (l.getD i.toNat prtD) (goes s (firstI (l.getD i.toNat prtD).Cell) (l.getD i.toNat prtD).Channel).1) from ⟨by omega, by omega⟩) (ok_bnde (takes_eq (v := (safe s (l.getD i.toNat prtD).Cell (l.getD i.toNat prtD).Channel).1) hp.1 ⟨by omega, by omega⟩) (ok_chk (show InR (hi + takes (l.getD i.toNat prtD) (safe s (l.getD i.toNat prtD).Cell (l.getD i.toNat prtD).Channel).1) from ⟨by omega, by omega⟩) (ok_chk (show InR _ from ⟨by omega, by omega⟩) (hn _ rfl ⟨q1, by dsimp only; rw [snoc_len]; omega, ⟨by dsimp only; omega, by dsimp only; omega⟩, by dsimp only; omega, by dsimp only; omega⟩))))))
  · obtain ⟨out, i, hi, lo⟩ := x
    obtain ⟨q1, _⟩ := hq
    dsimp only at y1 q1 ⊢
    refine ok_brkF (decide_eq_false (by omega)) (ok_some ?_)
    rw [← q1]; rfl
def prtF (p : Part) : Part2 := ⟨p.Cell, p.Channel, p.Length⟩
def prtB (p : Part2) : Part := ⟨p.Cell, p.Channel, p.Length⟩
abbrev prtD2 : Part2 := Part2.mk (Cell.mk (Span.mk 0 0) (Span.mk 0 0) (Span.mk 0 0) (Span.mk 0 0)) false 0
theorem rcell_bool {c : Cell} (h : decide (goodCell c) = true) : checkCell c = 0 := checkCell_ok.2 (of_decide_eq_true h)
theorem rcell_bool' {c : Cell} (h : decide (goodCell c) = false) : checkCell c = 20 := checkCell_20 (of_decide_eq_false h)
theorem rtakes_eq {F : Nat} (hF : 1000 ≤ F) {n v : Int} (hn : 1 ≤ n ∧ n ≤ 10000) (hv : 1 ≤ v ∧ v ≤ 250) (p : Part) (hp : p.Length = n) : ref03_takes F n v = some (takes p v) := by
  refine Ok.eq ?_
  unfold ref03_takes takes
  rw [hp]
  have h1 : 0 ≤ 60 * n / v := Int.ediv_nonneg (by omega) (by omega)
  have h2 := Int.mul_ediv_add_emod (60 * n) v
  have h3 := Int.emod_nonneg (60 * n) (show v ≠ 0 by omega)
  have h4 := Int.emod_lt_of_pos (60 * n) (show 0 < v by omega)
  have h5 : 60 * n / v ≤ 600000 := Int.ediv_le_of_le_mul (by omega) (by
    have : 600000 * 1 ≤ 600000 * v := Int.mul_le_mul_of_nonneg_left hv.1 (by decide)
    omega)
  have h6 : 60 * n / v * v = v * (60 * n / v) := Int.mul_comm _ _
  generalize hQ : 60 * n / v = Q at *
  have hR : (60 * n + v - 1) / v = if 60 * n % v = 0 then Q else Q + 1 := by
    have e : 60 * n + v - 1 = (60 * n % v + v - 1) + v * Q := by omega
    rw [e, Int.add_mul_ediv_left _ _ (show v ≠ 0 by omega)]
    split
    · rename_i h; rw [h, Int.ediv_eq_zero_of_lt (by omega) (by omega)]; omega
    · rename_i h
      have : (60 * n % v + v - 1) / v = 1 := by
        rw [show 60 * n % v + v - 1 = (60 * n % v - 1) + v * 1 by omega, Int.add_mul_ediv_left _ _ (show v ≠ 0 by omega), Int.ediv_eq_zero_of_lt (by omega) (by omega)]; rfl
      rw [this]; omega
  rw [hR]
  refine ok_chk (show InR _ from ⟨by omega, by omega⟩) (ok_chk ⟨⟨by omega, by omega⟩, by omega⟩ (ok_join (by omega) (fun x => x = if 60 * n % v = 0 then Q else Q + 1) (fun x hx => ok_some hx) fun k hk => ?_))
  refine ok_chk (show InR _ from ⟨by omega, by omega⟩) (ok_chk (show InR _ from ⟨by omega, by omega⟩) (ok_brk (fun g => ?_) (fun g => hk _ ?_)))
  · have g := of_decide_eq_true g
    refine ok_chk (show InR _ from ⟨by omega, by omega⟩) (hk _ ?_)
    rw [if_neg (by omega)]
  · have g := of_decide_eq_false g
    rw [if_pos (by omega)]
theorem rleg_eq {F : Nat} (hF : 1000 ≤ F) {s : Ship2} (l1 : s.Thrust.length ≤ 900) (l2 : s.Water.length ≤ 900) (l3 : s.Ice.length ≤ 900) {l : List Part2} (hl : l.length ≤ 900) : ref03_Leg F s l = some (leg (bwd s) (l.map prtB)) := by
  refine Ok.eq ?_
  unfold ref03_Leg leg
  refine ok_bnde (rcheck_eq (s := bwd s) hF l1 l2 l3) (ok_brk (fun h => ok_some ?_) (fun h => ?_))
  · have h : check (bwd s) ≠ 0 := by simpa using h
    rw [if_pos h]
  have hc : check (bwd s) = 0 := by simpa using h
  rw [if_neg (by simp [hc]), List.length_map]
  refine ok_bnde (rin3_eq ..) (ok_brk (fun h => ok_some ?_) (fun h => ?_))
  · have h : within (l.length : Int) 1 100 = false := by simpa using h
    rw [if_pos h]
  have hw : within (l.length : Int) 1 100 = true := by simpa using h
  rw [if_neg (by simp [hw])]
  have hlb := within_t hw
  refine ok_rest (l := l) (d := prtD2) (fun x : Int => x) (fun _ r => partsErr (r.map prtB) = partsErr (l.map prtB)) (by omega) rfl rfl (fun x next y0 y1 hq hm hn => ?_) (fun x next y1 hq => ?_)
  · rw [List.map_cons] at hq
    refine ok_brkT (decide_eq_true y1) (ok_chk ⟨y0, y1⟩ (ok_bnde (rin3_eq ..) (ok_brk (fun g => ok_some ?_) (fun g => ok_chk ⟨y0, y1⟩ (ok_bnde (rcell_eq _) (ok_brk (fun k => ok_some ?_) (fun k => ok_chk (show InR _ from ⟨by omega, by omega⟩) (hn _ rfl ?_))))))))
    · have g : within (prtB (l.getD x.toNat prtD2)).Length 1 10000 = false := by simpa [prtB] using g
      have e : partsErr (l.map prtB) = 6 := by rw [← hq]; exact partsErr_e (partErr_w g) (by decide)
      rw [if_pos (by rw [e]; decide), e]
    · have g : within (prtB (l.getD x.toNat prtD2)).Length 1 10000 = true := by simpa [prtB] using g
      have k : checkCell (prtB (l.getD x.toNat prtD2)).Cell = 20 := rcell_bool' (by simpa [prtB] using k)
      have e : partsErr (l.map prtB) = 20 := by rw [← hq]; exact partsErr_e (by rw [partErr_c g, k]) (by decide)
      rw [if_pos (by rw [e]; decide), e]
    · have g : within (prtB (l.getD x.toNat prtD2)).Length 1 10000 = true := by simpa [prtB] using g
      have k : checkCell (prtB (l.getD x.toNat prtD2)).Cell = 0 := rcell_bool (by simpa [prtB] using k)
      rw [← hq]; exact (partsErr_0 (by rw [partErr_c g, k])).symm
  have e : partsErr (l.map prtB) = 0 := hq.symm
  have hgood := partsErr_good e
  rw [if_neg (by simp [e])]
  refine ok_brkF (decide_eq_false (by omega)) ?_
  refine ok_rest (l := l) (d := prtD2) (fun x : List Int × (Int × (Int × Int)) => x.2.1) (fun x r => legFrom (bwd s) (r.map prtB) x.2.1 x.1 x.2.2.2 x.2.2.1 = legFrom (bwd s) (l.map prtB) 0 [] 0 0 ∧ (x.1.length : Int) = x.2.1 ∧ (0 ≤ x.2.2.1 ∧ x.2.2.1 ≤ 60025 * x.2.1) ∧ 0 ≤ x.2.2.2 ∧ x.2.2.2 ≤ 60025 * x.2.1) (by omega) rfl ⟨rfl, rfl, by simp, by simp⟩ (fun x next y0 y1 hq hm hn => ?_) (fun x next y1 hq => ?_)
  · obtain ⟨out, i, hi, lo⟩ := x
    obtain ⟨q1, q2, q3, q4⟩ := hq
    dsimp only at y0 y1 q1 q2 q3 q4 hm hn ⊢
    rw [List.map_cons] at q1
    have hp : goodPart (prtB (l.getD i.toNat prtD2)) := hgood _ (List.mem_map_of_mem hm)
    have hg : goodCell (l.getD i.toNat prtD2).Cell := hp.2
    have hlen : 1 ≤ (l.getD i.toNat prtD2).Length ∧ (l.getD i.toNat prtD2).Length ≤ 10000 := hp.1
    refine ok_brkT (decide_eq_true y1) (ok_chk ⟨y0, y1⟩ (ok_chk ⟨y0, y1⟩ (ok_bnde (rsafe_eq hF hc hg _) (ok_brk (fun g => ok_some ?_) (fun g => ok_chk ⟨y0, y1⟩ (ok_bnde (rcorners_eq hF _) ?_))))))
    · have g : (safe (bwd s) (l.getD i.toNat prtD2).Cell (l.getD i.toNat prtD2).Channel).2 ≠ 0 := by simpa using g
      rw [← q1, legFrom, if_pos (show (safe (bwd s) (prtB (l.getD i.toNat prtD2)).Cell (prtB (l.getD i.toNat prtD2)).Channel).2 ≠ 0 from g)]
      rfl
    have g : (safe (bwd s) (l.getD i.toNat prtD2).Cell (l.getD i.toNat prtD2).Channel).2 = 0 := by simpa using g
    rw [legFrom, if_neg (show ¬ (safe (bwd s) (prtB (l.getD i.toNat prtD2)).Cell (prtB (l.getD i.toNat prtD2)).Channel).2 ≠ 0 from fun h => h g)] at q1
    have hsg := safe_goes hc hg g
    have t1 := takes_bd hp.1 hsg.2.1
    have t2 := takes_bd hp.1 hsg.2.2
    have most := fun (x : Int) (hx : Last (goesP (bwd s) (firstI (l.getD i.toNat prtD2).Cell) (l.getD i.toNat prtD2).Channel) (safe (bwd s) (l.getD i.toNat prtD2).Cell (l.getD i.toNat prtD2).Channel).1 (safe (bwd s) (l.getD i.toNat prtD2).Cell (l.getD i.toNat prtD2).Channel).1 x (250 + 1)) => most_eq hc hg g hx
    have hany := fun (v : Int) (hv : 0 ≤ v) => goesP_any hc hg (l.getD i.toNat prtD2).Channel hv
    have hcor : ∀ j : Int, 0 ≤ j → j < 16 → goodIce ((corners (l.getD i.toNat prtD2).Cell).getD j.toNat (Ice.mk 0 0 0 0)) ∧ (corners (l.getD i.toNat prtD2).Cell).getD j.toNat (Ice.mk 0 0 0 0) ∈ corners (l.getD i.toNat prtD2).Cell := fun j h0 h1 => by
      have hm := getD_in (l := corners (l.getD i.toNat prtD2).Cell) (d := Ice.mk 0 0 0 0) h0 (by rw [corners_len]; exact h1)
      exact ⟨(corners_in hg hm).1, hm⟩
    have hget : ∀ x ∈ corners (l.getD i.toNat prtD2).Cell, ∃ j : Int, 0 ≤ j ∧ j < 16 ∧ (corners (l.getD i.toNat prtD2).Cell).getD j.toNat (Ice.mk 0 0 0 0) = x := fun x hx => by
      obtain ⟨j, hj, rfl⟩ := List.getElem_of_mem hx
      have hj' := hj
      rw [corners_len] at hj'
      refine ⟨(j : Int), by omega, by omega, ?_⟩
      rw [Int.toNat_natCast, getD_get hj]
    have hlc : (corners (l.getD i.toNat prtD2).Cell).length = 16 := corners_len _
    generalize hcs : corners (l.getD i.toNat prtD2).Cell = cs at *
    generalize hv0 : (safe (bwd s) (l.getD i.toNat prtD2).Cell (l.getD i.toNat prtD2).Channel).1 = v0 at *
    refine ok_loop (fun q : Int × Int => v0 ≤ q.1 ∧ q.1 ≤ 251 ∧ Last (goesP (bwd s) (firstI (l.getD i.toNat prtD2).Cell) (l.getD i.toNat prtD2).Channel) v0 v0 q.2 q.1) (fun q => (251 - q.1).toNat) ⟨Int.le_refl _, by dsimp only; omega, Last.start⟩ (by dsimp only; omega) fun q next3 hI hn3 => ?_
    obtain ⟨v, best⟩ := q
    obtain ⟨b0, b1, b2⟩ := hI
    dsimp only at b0 b1 b2 ⊢
    refine ok_brk (fun h => ?_) (fun h => ?_)
    · have h := of_decide_eq_true h
      refine ok_loop (fun q : Int × Int => 0 ≤ q.2 ∧ q.2 ≤ 16 ∧ ((q.1 = v ∧ ∃ j : Int, 0 ≤ j ∧ j < 16 ∧ goesP (bwd s) (cs.getD j.toNat (Ice.mk 0 0 0 0)) (l.getD i.toNat prtD2).Channel v = true) ∨ (q.1 = best ∧ ∀ j : Int, 0 ≤ j → j < q.2 → goesP (bwd s) (cs.getD j.toNat (Ice.mk 0 0 0 0)) (l.getD i.toNat prtD2).Channel v = false))) (fun q => (16 - q.2).toNat) ⟨by simp, by simp, .inr ⟨rfl, fun j a b => by dsimp only at b; omega⟩⟩ (by show (16 - (0 : Int)).toNat < F; omega) fun q next4 hI hn4 => ?_
      obtain ⟨w, j⟩ := q
      obtain ⟨a0, a1, a2⟩ := hI
      dsimp only at a0 a1 a2 ⊢
      refine ok_brk (fun h => ?_) (fun h => ?_)
      · have hj : j < 16 := by have := of_decide_eq_true h; omega
        obtain ⟨c1, c2⟩ := hcor j a0 hj
        refine ok_join (by omega) (fun w' => (w' = v ∧ ∃ j : Int, 0 ≤ j ∧ j < 16 ∧ goesP (bwd s) (cs.getD j.toNat (Ice.mk 0 0 0 0)) (l.getD i.toNat prtD2).Channel v = true) ∨ (w' = best ∧ ∀ k : Int, 0 ≤ k → k < j + 1 → goesP (bwd s) (cs.getD k.toNat (Ice.mk 0 0 0 0)) (l.getD i.toNat prtD2).Channel v = false)) (fun w' hw' => ok_chk (show InR _ from ⟨by omega, by omega⟩) (hn4 _ ⟨by dsimp only; omega, by dsimp only; omega, hw'⟩ (by dsimp only; omega))) fun k hk => ?_
        have stay : goesP (bwd s) (cs.getD j.toNat (Ice.mk 0 0 0 0)) (l.getD i.toNat prtD2).Channel v = false → (w = v ∧ ∃ j : Int, 0 ≤ j ∧ j < 16 ∧ goesP (bwd s) (cs.getD j.toNat (Ice.mk 0 0 0 0)) (l.getD i.toNat prtD2).Channel v = true) ∨ (w = best ∧ ∀ k : Int, 0 ≤ k → k < j + 1 → goesP (bwd s) (cs.getD k.toNat (Ice.mk 0 0 0 0)) (l.getD i.toNat prtD2).Channel v = false) := fun hno => by
          rcases a2 with a2 | ⟨a2, a3⟩
          · exact .inl a2
          · refine .inr ⟨a2, fun k k0 k1 => ?_⟩
            by_cases e : k = j
            · rw [e]; exact hno
            · exact a3 k k0 (by omega)
        refine ok_chk ⟨a0, by omega⟩ (ok_chk ⟨y0, y1⟩ (ok_bnde (rmakes_eq (F := F) hF hc c1 (v := v) (by omega) _) (ok_chk (fun _ => ⟨a0, by omega⟩) (ok_chk (fun _ => ⟨y0, y1⟩) ?_))))
        cases hmb : makes (bwd s) (cs.getD j.toNat (Ice.mk 0 0 0 0)) (l.getD i.toNat prtD2).Channel v with
        | false => exact ok_bnde rfl (ok_bnde rfl (ok_brkF rfl (hk _ (stay (by rw [goesP, hmb]; rfl)))))
        | true =>
          refine ok_bnde (b := loadI (cs.getD j.toNat (Ice.mk 0 0 0 0)) v (l.getD i.toNat prtD2).Channel) (rload_eq (F := F) c1 (by omega) _) (ok_bnde (b := strengths.getD (s.Class - 1).toNat 0) (rstrength_eq (F := F) hc) (ok_brk (fun g2 => hk _ (.inl ⟨rfl, j, a0, hj, ?_⟩)) (fun g2 => hk _ (stay ?_))))
          · rw [goesP, hmb]; exact g2
          · rw [goesP, hmb]; exact g2
      · have hj : j = 16 := by have := of_decide_eq_false h; omega
        refine ok_chk (show InR _ from ⟨by omega, by omega⟩) (hn3 _ ⟨by dsimp only; omega, by dsimp only; omega, ?_⟩ (by dsimp only; omega))
        dsimp only
        rcases a2 with ⟨e, k, k0, k1, k2⟩ | ⟨e, a3⟩
        · rw [e]
          exact Last.yes b0 ((hany v (by omega)).1 ⟨_, (hcor k k0 k1).2, k2⟩)
        · rw [e]
          refine b2.no ?_
          cases hgf : goesP (bwd s) (firstI (l.getD i.toNat prtD2).Cell) (l.getD i.toNat prtD2).Channel v with
          | false => rfl
          | true =>
            obtain ⟨x, hx, hx2⟩ := (hany v (by omega)).2 hgf
            obtain ⟨k, k0, k1, rfl⟩ := hget x hx
            rw [a3 k k0 (by omega)] at hx2; cases hx2
    · have h := of_decide_eq_false h
      obtain rfl : v = 250 + 1 := by omega
      have hbest := most _ b2
      subst hbest
      have e1 : takes (prtB (l.getD i.toNat prtD2)) (goes (bwd s) (firstI (l.getD i.toNat prtD2).Cell) (l.getD i.toNat prtD2).Channel).1 = takes (prtB (l.getD i.toNat prtD2)) (goes (bwd s) (firstI (prtB (l.getD i.toNat prtD2)).Cell) (prtB (l.getD i.toNat prtD2)).Channel).1 := rfl
      refine ok_chk (by simp; omega) (ok_chk ⟨y0, y1⟩ (ok_bnde (rtakes_eq hF hlen ⟨by omega, by omega⟩ (prtB (l.getD i.toNat prtD2)) rfl) (ok_chk (show InR (lo + _) from ⟨by omega, by omega⟩) (ok_chk ⟨y0, y1⟩ (ok_bnde (rtakes_eq hF hlen ⟨by omega, by omega⟩ (prtB (l.getD i.toNat prtD2)) rfl) (ok_chk (show InR (hi + _) from ⟨by omega, by omega⟩) (ok_chk (show InR _ from ⟨by omega, by omega⟩) (hn _ rfl ⟨?_, by dsimp only; rw [snoc_len]; omega, ⟨by dsimp only; omega, by dsimp only; omega⟩, by dsimp only; omega, by dsimp only; omega⟩))))))))
      rw [← q1, ← hv0]; rfl
  · obtain ⟨out, i, hi, lo⟩ := x
    obtain ⟨q1, _⟩ := hq
    dsimp only at y1 q1 ⊢
    refine ok_brkF (decide_eq_false (by omega)) (ok_some ?_)
    rw [← q1]; rfl
end Go.Proofs.Bk

namespace Go.Proofs.Bk
open Go Go.KX
def cellS (q : Nat → Int × Int) (i k : Nat) : Int × Int :=
  if i = k then (0, 0) else if (q k).2 ≠ 0 then (0, (q k).2) else if ((q k).1 + 59) / 60 > 24 then (0, 8) else (((q k).1 + 59) / 60, 0)
def firstE (f : Nat → Int) : Nat → Int
  | 0 => 0
  | n + 1 => if firstE f n ≠ 0 then firstE f n else f n
theorem firstE_zero {f : Nat → Int} : ∀ {n : Nat}, (∀ k, k < n → f k = 0) → firstE f n = 0
  | 0, _ => rfl
  | n + 1, h => by
    rw [firstE, if_neg (fun g => g (firstE_zero fun k hk => h k (by omega)))]
    exact h n (by omega)
theorem firstE_at {f : Nat → Int} {k : Nat} (h : ∀ j, j < k → f j = 0) (hk : f k ≠ 0) : ∀ {n : Nat}, k < n → firstE f n = f k
  | 0, hn => absurd hn (by omega)
  | n + 1, hn => by
    by_cases e : k = n
    · subst e
      rw [firstE, if_neg (fun g => g (firstE_zero h))]
    · rw [firstE, firstE_at h hk (n := n) (by omega), if_pos hk]
def rowE (q : Nat → Nat → Int × Int) (n i : Nat) : Int := firstE (fun k => (cellS (q i) i k).2) n
def rowL (q : Nat → Nat → Int × Int) (n i : Nat) : List Int := (List.range n).map fun k => (cellS (q i) i k).1
def tableV (q : Nat → Nat → Int × Int) (n : Nat) : List (List Int) × Int :=
  if firstE (rowE q n) n ≠ 0 then ([], firstE (rowE q n) n) else ((List.range n).map (rowL q n), 0)
theorem tableV_err {q : Nat → Nat → Int × Int} {n i k : Nat} (hi : i < n) (hk : k < n) (h1 : ∀ j, j < i → rowE q n j = 0) (h2 : ∀ j, j < k → (cellS (q i) i j).2 = 0) (he : (cellS (q i) i k).2 ≠ 0) : tableV q n = ([], (cellS (q i) i k).2) := by
  have e1 : rowE q n i = (cellS (q i) i k).2 := firstE_at (f := fun k => (cellS (q i) i k).2) h2 he hk
  have e2 : firstE (rowE q n) n = (cellS (q i) i k).2 := by rw [firstE_at h1 (by rw [e1]; exact he) hi, e1]
  unfold tableV
  rw [e2, if_pos he]
theorem tableV_ok {q : Nat → Nat → Int × Int} {n : Nat} (h1 : ∀ j, j < n → rowE q n j = 0) : tableV q n = ((List.range n).map (rowL q n), 0) := by
  unfold tableV
  rw [firstE_zero h1, if_neg (by decide)]
def legAt (legs : List (List (List Part))) (i k : Nat) : List Part := (legs.getD i []).getD k []
def qOf (s : Ship) (legs : List (List (List Part))) (i k : Nat) : Int × Int := ((leg s (legAt legs i k)).2.1.Hi, (leg s (legAt legs i k)).2.2)
def square (legs : List (List (List Part))) : Bool := legs.all fun r => r.length == legs.length
def tableS (s : Ship) (legs : List (List (List Part))) : List (List Int) × Int :=
  if check s ≠ 0 then ([], check s) else if within (legs.length : Int) 1 4 = false then ([], 2) else if square legs = false then ([], 2) else tableV (qOf s legs) legs.length
theorem leg_hi {s : Ship} {l : List Part} (h : (leg s l).2.2 = 0) : 0 ≤ (leg s l).2.1.Hi ∧ (leg s l).2.1.Hi ≤ 6002500 := by
  by_cases hc : check s = 0
  · by_cases hw : within (l.length : Int) 1 100 = true
    · have hb := within_t hw
      by_cases hp : partsErr l = 0
      · have hg := partsErr_good hp
        rcases first_bad (s := s) l with hall | ⟨j, j1, j2, j3⟩
        · rw [leg_ok hc (by omega) (by omega) hg hall]
          have := sumP_bd (f := slowP s) (l := l) fun p hp' => takes_bd (hg p hp').1 (safe_goes hc (hg p hp').2 (hall p hp')).2.1
          dsimp only
          omega
        · rw [leg_bad hc (by omega) hg j1 j2 j3] at h
          exact absurd h j3
      · unfold leg at h
        rw [if_neg (fun g => g hc), if_neg (by rw [hw]; simp), if_pos hp] at h
        exact absurd h hp
    · unfold leg at h
      rw [if_neg (fun g => g hc), if_pos (by simpa using hw)] at h
      exact absurd h (by decide)
  · unfold leg at h
    rw [if_pos hc] at h
    exact absurd h hc
theorem square_at {legs : List (List (List Part))} (h : square legs = true) {i : Nat} (hi : i < legs.length) : (legs.getD i []).length = legs.length := by
  have := List.all_eq_true.1 h _ (getD_mem (d := []) hi)
  simpa using this
theorem btable_eq {F : Nat} (hF : 1000 ≤ F) {s : Ship} (l1 : s.Thrust.length ≤ 900) (l2 : s.Water.length ≤ 900) (l3 : s.Ice.length ≤ 900) {legs : List (List (List Part))} (hn : legs.length ≤ 900) (hL : ∀ i k, (legAt legs i k).length ≤ 900) : breaker_Table F s legs = some (tableS s legs) := by
  have F0 : 0 < F := by omega
  refine Ok.eq ?_
  unfold breaker_Table tableS
  refine ok_bnde (check_eq hF l1 l2 l3) (ok_brk (fun h => ok_some ?_) (fun h => ?_))
  · have h : check s ≠ 0 := by simpa using h
    rw [if_pos h]
  have hc : check s = 0 := by simpa using h
  rw [if_neg (fun g => g hc)]
  refine ok_bnde (show breaker_within F (legs.length : Int) 1 4 = some (within (legs.length : Int) 1 4) from rfl) (ok_brk (fun h => ok_some ?_) (fun h => ?_))
  · have h : within (legs.length : Int) 1 4 = false := by simpa using h
    rw [if_pos h]
  have hw : within (legs.length : Int) 1 4 = true := by simpa using h
  rw [if_neg (by rw [hw]; simp)]
  have hlb := within_t hw
  refine ok_join F0 (fun x : Int => (x = -1 ∧ square legs = true) ∨ (0 ≤ x ∧ square legs = false)) (fun x hx => ?_) fun kk hkk => ?_
  · refine ok_brk (fun h => ok_some ?_) (fun h => ?_)
    · have h := of_decide_eq_true h
      rcases hx with ⟨hx, _⟩ | ⟨_, hx⟩
      · omega
      · rw [if_pos hx]
    have h := of_decide_eq_false h
    have hsq : square legs = true := by
      rcases hx with ⟨_, hx⟩ | ⟨hx, _⟩
      · exact hx
      · omega
    rw [if_neg (by rw [hsq]; simp)]
    generalize hq : qOf s legs = q
    have hqE : ∀ i k, q i k = ((leg s (legAt legs i k)).2.1.Hi, (leg s (legAt legs i k)).2.2) := fun i k => by rw [← hq]; rfl
    refine ok_loop (fun p : Int × List (List Int) => 0 ≤ p.1 ∧ p.1 ≤ legs.length ∧ p.2 = (List.range p.1.toNat).map (rowL q legs.length) ∧ ∀ j : Nat, (j : Int) < p.1 → rowE q legs.length j = 0) (fun p => (legs.length - p.1).toNat) ⟨by simp, by simp, rfl, fun j hj => by dsimp only at hj; omega⟩ (by dsimp only; omega) fun p next hI hn1 => ?_
    obtain ⟨i, out⟩ := p
    obtain ⟨i0, i1, i2, i3⟩ := hI
    dsimp only at i0 i1 i2 i3 ⊢
    refine ok_brk (fun h => ?_) (fun h => ok_some ?_)
    · have h := of_decide_eq_true h
      have hrow : (legs.getD i.toNat []).length = legs.length := square_at hsq (by omega)
      refine ok_chk ⟨i0, h⟩ (ok_chk ⟨by omega, Int.le_refl _, by omega⟩ ?_)
      refine ok_loop (fun p : Int × List Int => 0 ≤ p.1 ∧ p.1 ≤ legs.length ∧ p.2.length = legs.length ∧ (∀ j : Nat, (j : Int) < p.1 → p.2.getD j 0 = (cellS (q i.toNat) i.toNat j).1 ∧ (cellS (q i.toNat) i.toNat j).2 = 0) ∧ ∀ j : Nat, p.1 ≤ j → p.2.getD j 0 = 0) (fun p => (legs.length - p.1).toNat) ⟨by simp, by simp, by dsimp only; rw [List.length_replicate]; omega, fun j hj => by dsimp only at hj; omega, fun j _ => ?_⟩ (by dsimp only; omega) fun p next2 hI hn2 => ?_
      · dsimp only
        rw [List.getD_eq_getElem?_getD, List.getElem?_replicate]
        split <;> rfl
      obtain ⟨k, hours⟩ := p
      obtain ⟨k0, k1, k2, k3, k4⟩ := hI
      dsimp only at k0 k1 k2 k3 k4 ⊢
      refine ok_brk (fun g => ?_) (fun g => ?_)
      · have g := of_decide_eq_true g
        rw [hrow] at g
        refine ok_join F0 (fun x : List Int => x.length = legs.length ∧ (∀ j : Nat, (j : Int) < k + 1 → x.getD j 0 = (cellS (q i.toNat) i.toNat j).1 ∧ (cellS (q i.toNat) i.toNat j).2 = 0) ∧ ∀ j : Nat, k + 1 ≤ j → x.getD j 0 = 0) (fun x ⟨x1, x2, x3⟩ => ok_chk (show InR _ from ⟨by omega, by omega⟩) (hn2 _ ⟨by dsimp only; omega, by dsimp only; omega, x1, x2, x3⟩ (by dsimp only; omega))) fun k5 hk5 => ?_
        refine ok_chk ⟨k0, by rw [hrow]; exact g⟩ (ok_brk (fun e => hk5 _ ⟨k2, fun j hj => ?_, fun j hj => k4 j (by omega)⟩) (fun e => ?_))
        · have e : i = k := by simpa using e
          by_cases ej : (j : Int) = k
          · have ej' : i.toNat = j := by omega
            rw [k4 j (by omega), cellS, if_pos ej']
            exact ⟨rfl, rfl⟩
          · exact k3 j (by omega)
        have e : i ≠ k := by simpa using e
        have ene : i.toNat ≠ k.toNat := by omega
        have hle : hull_Leg F s (List.getD (legs.getD i.toNat []) k.toNat []) = some (leg s (legAt legs i.toNat k.toNat)) := hleg_eq hF l1 l2 l3 (hL i.toNat k.toNat)
        have hcs : cellS (q i.toNat) i.toNat k.toNat = if (leg s (legAt legs i.toNat k.toNat)).2.2 ≠ 0 then (0, (leg s (legAt legs i.toNat k.toNat)).2.2) else if ((leg s (legAt legs i.toNat k.toNat)).2.1.Hi + 59) / 60 > 24 then (0, 8) else (((leg s (legAt legs i.toNat k.toNat)).2.1.Hi + 59) / 60, 0) := by
          rw [cellS, if_neg ene, hqE]
        have err : (cellS (q i.toNat) i.toNat k.toNat).2 ≠ 0 → tableV q legs.length = ([], (cellS (q i.toNat) i.toNat k.toNat).2) := fun he => tableV_err (by omega) (by omega) (fun j hj => i3 j (by omega)) (fun j hj => (k3 j (by omega)).2) he
        have hhi := leg_hi (s := s) (l := legAt legs i.toNat k.toNat)
        generalize leg s (legAt legs i.toNat k.toNat) = r at *
        refine ok_bnde hle (ok_brk (fun b => ok_some ?_) (fun b => ?_))
        · have b : r.2.2 ≠ 0 := by simpa using b
          rw [if_pos b] at hcs
          rw [err (by rw [hcs]; exact b), hcs]
        have b : r.2.2 = 0 := by simpa using b
        rw [if_neg (fun h => h b)] at hcs
        have hb := hhi b
        refine ok_chk (show InR _ from ⟨by omega, by omega⟩) (ok_chk ⟨by omega, by omega⟩ (ok_chk ⟨k0, by omega⟩ (ok_chk ⟨k0, by rw [List.length_set]; omega⟩ ?_)))
        have hset : (List.set hours k.toNat ((r.2.1.Hi + 59) / 60)).getD k.toNat 0 = (r.2.1.Hi + 59) / 60 := by rw [getD_set' (by omega), if_pos rfl]
        refine ok_brk (fun c => ok_some ?_) (fun c => hk5 _ ⟨by rw [List.length_set]; exact k2, fun j hj => ?_, fun j hj => ?_⟩)
        · have c := of_decide_eq_true c
          change (List.set hours k.toNat ((r.2.1.Hi + 59) / 60)).getD k.toNat 0 > 24 at c
          rw [hset] at c
          rw [if_pos c] at hcs
          rw [err (by rw [hcs]; decide), hcs]
        · have c := of_decide_eq_false c
          change ¬ (List.set hours k.toNat ((r.2.1.Hi + 59) / 60)).getD k.toNat 0 > 24 at c
          rw [hset] at c
          rw [if_neg c] at hcs
          rw [getD_set' (by omega)]
          by_cases ej : k.toNat = j
          · subst ej
            rw [if_pos rfl, hcs]
            exact ⟨rfl, rfl⟩
          · rw [if_neg ej]; exact k3 j (by omega)
        · rw [getD_set' (by omega), if_neg (by omega)]
          exact k4 j (by omega)
      · have g := of_decide_eq_false g
        rw [hrow] at g
        have hk : k = legs.length := by omega
        have hrl : hours = rowL q legs.length i.toNat := by
          refine List.ext_getElem (by rw [rowL, List.length_map, List.length_range]; exact k2) fun j h1 h2 => ?_
          have := (k3 j (by omega)).1
          rw [getD_get h1] at this
          rw [this]
          simp [rowL]
        have hln : out.length = i.toNat := by rw [i2, List.length_map, List.length_range]
        refine ok_chk (by simp; omega) (ok_chk (show InR _ from ⟨by omega, by omega⟩) (hn1 _ ⟨by dsimp only; omega, by dsimp only; omega, ?_, fun j hj => ?_⟩ (by dsimp only; omega)))
        · dsimp only
          rw [show (i + 1).toNat = i.toNat + 1 by omega, List.range_succ, List.map_append, ← i2, hrl]; rfl
        · dsimp only at hj
          by_cases ej : (j : Int) = i
          · have : j = i.toNat := by omega
            subst this
            exact firstE_zero fun k' hk' => (k3 k' (by omega)).2
          · exact i3 j (by omega)
    · have h := of_decide_eq_false h
      have : i = legs.length := by omega
      subst this
      rw [tableV_ok fun j hj => i3 j (by omega), i2, Int.toNat_natCast]
  · refine ok_loop (fun x : Int => 0 ≤ x ∧ x ≤ legs.length ∧ ∀ j : Nat, (j : Int) < x → (legs.getD j []).length = legs.length) (fun x => (legs.length - x).toNat) ⟨by simp, by simp, fun j hj => by omega⟩ (by omega) fun x next hI hn1 => ?_
    obtain ⟨x0, x1, x2⟩ := hI
    refine ok_brk (fun h => ?_) (fun h => hkk _ (.inl ⟨rfl, ?_⟩))
    · have h := of_decide_eq_true h
      refine ok_chk ⟨x0, h⟩ (ok_brk (fun g => hkk _ (.inr ⟨x0, ?_⟩)) (fun g => ok_chk (show InR _ from ⟨by omega, by omega⟩) (hn1 _ ⟨by omega, by omega, fun j hj => ?_⟩ (by omega))))
      · have g : ((legs.getD x.toNat []).length : Int) ≠ legs.length := by simpa using g
        cases hs : square legs with
        | false => rfl
        | true => have := square_at hs (i := x.toNat) (by omega); omega
      · have g : ((legs.getD x.toNat []).length : Int) = legs.length := by simpa using g
        by_cases ej : (j : Int) = x
        · rw [show j = x.toNat by omega]; omega
        · exact x2 j (by omega)
    · have h := of_decide_eq_false h
      refine List.all_eq_true.2 fun r hr => ?_
      obtain ⟨j, hj, rfl⟩ := List.getElem_of_mem hr
      have := x2 j (by omega)
      rw [getD_get hj] at this
      simpa using this
end Go.Proofs.Bk

namespace Go.Proofs.Bk
open Go Go.KX
def partsB (x : List Part2) : List Part := x.map prtB
def rowB (r : List (List Part2)) : List (List Part) := r.map partsB
def legsB (l : List (List (List Part2))) : List (List (List Part)) := l.map rowB
theorem getD_mapN {α β : Type} (f : List α → List β) (h : f [] = []) (l : List (List α)) (i : Nat) : (l.map f).getD i [] = f (l.getD i []) := by
  rw [List.getD_eq_getElem?_getD, List.getD_eq_getElem?_getD, List.getElem?_map]
  cases l[i]? with
  | none => exact h.symm
  | some x => rfl
theorem legsB_len (l : List (List (List Part2))) : (legsB l).length = l.length := List.length_map _
theorem rowB_len (l : List (List Part2)) : (rowB l).length = l.length := List.length_map _
theorem legsB_row (l : List (List (List Part2))) (i : Nat) : (legsB l).getD i [] = rowB (l.getD i []) := getD_mapN rowB rfl l i
theorem legsB_at (l : List (List (List Part2))) (i k : Nat) : legAt (legsB l) i k = ((l.getD i []).getD k []).map prtB := by
  unfold legAt
  rw [legsB_row]
  exact getD_mapN partsB rfl _ _
theorem rtable_eq {F : Nat} (hF : 1000 ≤ F) {s : Ship2} (l1 : s.Thrust.length ≤ 900) (l2 : s.Water.length ≤ 900) (l3 : s.Ice.length ≤ 900) {legs : List (List (List Part2))} (hn : legs.length ≤ 900) (hL : ∀ i k, ((legs.getD i []).getD k []).length ≤ 900) : ref06_Table F s legs = some (tableS (bwd s) (legsB legs)) := by
  have F0 : 0 < F := by omega
  refine Ok.eq ?_
  unfold ref06_Table tableS
  refine ok_bnde (rcheck_eq (s := bwd s) hF l1 l2 l3) (ok_brk (fun h => ok_some ?_) (fun h => ?_))
  · have h : check (bwd s) ≠ 0 := by simpa using h
    rw [if_pos h]
  have hc : check (bwd s) = 0 := by simpa using h
  rw [if_neg (fun g => g hc), legsB_len]
  refine ok_bnde (show ref06_in F (legs.length : Int) 1 4 = some (within (legs.length : Int) 1 4) from rfl) (ok_brk (fun h => ok_some ?_) (fun h => ?_))
  · have h : within (legs.length : Int) 1 4 = false := by simpa using h
    rw [if_pos h]
  have hw : within (legs.length : Int) 1 4 = true := by simpa using h
  rw [if_neg (by rw [hw]; simp)]
  have hlb := within_t hw
  refine ok_loop (fun x : Int => 0 ≤ x ∧ x ≤ legs.length ∧ ∀ j : Nat, (j : Int) < x → (legs.getD j []).length = legs.length) (fun x => (legs.length - x).toNat) ⟨by simp, by simp, fun j hj => by omega⟩ (by omega) fun x next hI hn1 => ?_
  obtain ⟨x0, x1, x2⟩ := hI
  refine ok_brk (fun h => ?_) (fun h => ?_)
  · have h := of_decide_eq_true h
    refine ok_chk ⟨x0, h⟩ (ok_brk (fun g => ok_some ?_) (fun g => ok_chk (show InR _ from ⟨by omega, by omega⟩) (hn1 _ ⟨by omega, by omega, fun j hj => ?_⟩ (by omega))))
    · have g : ((legs.getD x.toNat []).length : Int) ≠ legs.length := by simpa using g
      rw [if_pos]
      cases hs : square (legsB legs) with
      | false => rfl
      | true =>
        have := square_at hs (i := x.toNat) (by rw [legsB_len]; omega)
        rw [legsB_row, rowB_len, legsB_len] at this
        omega
    · have g : ((legs.getD x.toNat []).length : Int) = legs.length := by simpa using g
      by_cases ej : (j : Int) = x
      · rw [show j = x.toNat by omega]; omega
      · exact x2 j (by omega)
  have h := of_decide_eq_false h
  have hrow : ∀ j : Nat, j < legs.length → (legs.getD j []).length = legs.length := fun j hj => x2 j (by omega)
  have hsq : square (legsB legs) = true := by
    refine List.all_eq_true.2 fun r hr => ?_
    obtain ⟨j, hj, rfl⟩ := List.getElem_of_mem hr
    rw [legsB_len] at hj
    have := hrow j hj
    rw [← getD_get (d := []), legsB_row, rowB_len, legsB_len]
    simpa using this
  clear x0 x1 x2 hn1 next
  rw [if_neg (by rw [hsq]; simp)]
  generalize hq : qOf (bwd s) (legsB legs) = q
  have hqE : ∀ i k, q i k = ((leg (bwd s) (((legs.getD i []).getD k []).map prtB)).2.1.Hi, (leg (bwd s) (((legs.getD i []).getD k []).map prtB)).2.2) := fun i k => by rw [← hq]; unfold qOf; rw [legsB_at]
  refine ok_loop (fun p : Int × List (List Int) => 0 ≤ p.1 ∧ p.1 ≤ legs.length ∧ p.2 = (List.range p.1.toNat).map (rowL q legs.length) ∧ ∀ j : Nat, (j : Int) < p.1 → rowE q legs.length j = 0) (fun p => (legs.length - p.1).toNat) ⟨by simp, by simp, rfl, fun j hj => by dsimp only at hj; omega⟩ (by dsimp only; omega) fun p next hI hn1 => ?_
  obtain ⟨i, out⟩ := p
  obtain ⟨i0, i1, i2, i3⟩ := hI
  dsimp only at i0 i1 i2 i3 ⊢
  refine ok_brk (fun h => ?_) (fun h => ok_some ?_)
  · have h := of_decide_eq_true h
    have hr := hrow i.toNat (by omega)
    refine ok_loop (fun p : Int × List Int => 0 ≤ p.1 ∧ p.1 ≤ legs.length ∧ p.2 = (List.range p.1.toNat).map (fun j => (cellS (q i.toNat) i.toNat j).1) ∧ ∀ j : Nat, (j : Int) < p.1 → (cellS (q i.toNat) i.toNat j).2 = 0) (fun p => (legs.length - p.1).toNat) ⟨by simp, by simp, rfl, fun j hj => by dsimp only at hj; omega⟩ (by dsimp only; omega) fun p next2 hI hn2 => ?_
    obtain ⟨k, row⟩ := p
    obtain ⟨k0, k1, k2, k3⟩ := hI
    dsimp only at k0 k1 k2 k3 ⊢
    have hrl : row.length = k.toNat := by rw [k2, List.length_map, List.length_range]
    refine ok_brk (fun g => ?_) (fun g => ?_)
    · have g := of_decide_eq_true g
      refine ok_join F0 (fun x : List Int => x = row ++ [(cellS (q i.toNat) i.toNat k.toNat).1] ∧ (cellS (q i.toNat) i.toNat k.toNat).2 = 0) (fun x ⟨x1, x2⟩ => ok_chk (show InR _ from ⟨by omega, by omega⟩) (hn2 _ ⟨by dsimp only; omega, by dsimp only; omega, ?_, fun j hj => ?_⟩ (by dsimp only; omega))) fun k5 hk5 => ?_
      · dsimp only
        rw [x1, k2, show (k + 1).toNat = k.toNat + 1 by omega, List.range_succ, List.map_append]; rfl
      · dsimp only at hj
        by_cases ej : (j : Int) = k
        · rw [show j = k.toNat by omega]; exact x2
        · exact k3 j (by omega)
      refine ok_brk (fun e => ok_chk (by simp; omega) (hk5 _ ?_)) (fun e => ?_)
      · have e : i = k := by simpa using e
        rw [cellS, if_pos (show i.toNat = k.toNat by omega)]
        exact ⟨rfl, rfl⟩
      have e : i ≠ k := by simpa using e
      have ene : i.toNat ≠ k.toNat := by omega
      have hle : ref03_Leg F s (List.getD (legs.getD i.toNat []) k.toNat []) = some (leg (bwd s) (((legs.getD i.toNat []).getD k.toNat []).map prtB)) := rleg_eq hF l1 l2 l3 (hL i.toNat k.toNat)
      have hcs : cellS (q i.toNat) i.toNat k.toNat = if (leg (bwd s) (((legs.getD i.toNat []).getD k.toNat []).map prtB)).2.2 ≠ 0 then (0, (leg (bwd s) (((legs.getD i.toNat []).getD k.toNat []).map prtB)).2.2) else if ((leg (bwd s) (((legs.getD i.toNat []).getD k.toNat []).map prtB)).2.1.Hi + 59) / 60 > 24 then (0, 8) else (((leg (bwd s) (((legs.getD i.toNat []).getD k.toNat []).map prtB)).2.1.Hi + 59) / 60, 0) := by
        rw [cellS, if_neg ene, hqE]
      have err : (cellS (q i.toNat) i.toNat k.toNat).2 ≠ 0 → tableV q legs.length = ([], (cellS (q i.toNat) i.toNat k.toNat).2) := fun he => tableV_err (by omega) (by omega) (fun j hj => i3 j (by omega)) (fun j hj => k3 j (by omega)) he
      have hhi := leg_hi (s := bwd s) (l := ((legs.getD i.toNat []).getD k.toNat []).map prtB)
      generalize leg (bwd s) (((legs.getD i.toNat []).getD k.toNat []).map prtB) = r at *
      refine ok_chk ⟨i0, h⟩ (ok_chk ⟨k0, by rw [hr]; exact g⟩ (ok_bnde hle (ok_brk (fun b => ok_some ?_) (fun b => ?_))))
      · have b : r.2.2 ≠ 0 := by simpa using b
        rw [if_pos b] at hcs
        rw [err (by rw [hcs]; exact b), hcs]
      have b : r.2.2 = 0 := by simpa using b
      rw [if_neg (fun h => h b)] at hcs
      have hb := hhi b
      refine ok_chk ⟨by omega, by omega⟩ (ok_join F0 (fun x => x = (r.2.1.Hi + 59) / 60) (fun x hx => ?_) fun k6 hk6 => ok_chk ⟨by omega, by omega⟩ (ok_brk (fun c => ok_chk (show InR _ from ⟨by omega, by omega⟩) (hk6 _ ?_)) (fun c => hk6 _ ?_)))
      · subst hx
        refine ok_brk (fun c => ok_some ?_) (fun c => ok_chk (by simp; omega) (hk5 _ ?_))
        · have c := of_decide_eq_true c
          rw [if_pos c] at hcs
          rw [err (by rw [hcs]; decide), hcs]
        · have c := of_decide_eq_false c
          rw [if_neg c] at hcs
          rw [hcs]
          exact ⟨rfl, rfl⟩
      · have c := of_decide_eq_true c
        omega
      · have c := of_decide_eq_false c
        omega
    · have g := of_decide_eq_false g
      have hk : k = legs.length := by omega
      have hrw : row = rowL q legs.length i.toNat := by rw [k2, hk, Int.toNat_natCast]; rfl
      have hln : out.length = i.toNat := by rw [i2, List.length_map, List.length_range]
      refine ok_chk (by simp; omega) (ok_chk (show InR _ from ⟨by omega, by omega⟩) (hn1 _ ⟨by dsimp only; omega, by dsimp only; omega, ?_, fun j hj => ?_⟩ (by dsimp only; omega)))
      · dsimp only
        rw [show (i + 1).toNat = i.toNat + 1 by omega, List.range_succ, List.map_append, ← i2, hrw]; rfl
      · dsimp only at hj
        by_cases ej : (j : Int) = i
        · have : j = i.toNat := by omega
          subst this
          exact firstE_zero fun k' hk' => k3 k' (by omega)
        · exact i3 j (by omega)
  · have h := of_decide_eq_false h
    have : i = legs.length := by omega
    subst this
    rw [tableV_ok fun j hj => i3 j (by omega), i2, Int.toNat_natCast]
end Go.Proofs.Bk

namespace Go.Proofs.Bk
open Go Go.KX
def iceP (c : Cell) (p : Int) : Ice := ⟨c.Conc.Hi, c.Thick.Hi, c.Ridge.Hi, p⟩
def atP (c : Cell) (p : Int) : Cell := ⟨c.Conc, c.Thick, c.Ridge, ⟨p, p⟩⟩
theorem atP_good {c : Cell} (hg : goodCell c) {p : Int} (hp : 0 ≤ p ∧ p ≤ 3) : goodCell (atP c p) := ⟨hg.1, hg.2.1, hg.2.2.1, ⟨hp.1, Int.le_refl _, hp.2⟩⟩
def okB (s : Ship) (c : Cell) (p : Int) : Bool := decide (10 ≤ speed s (iceP c p) true)
def calmD (s : Ship) (c : Cell) : Nat → Int × Int
  | 0 => (0, 4)
  | n + 1 => if okB s c n = true then ((n : Int), 0) else calmD s c n
def calmS (s : Ship) (c : Cell) : Int × Int := if check s ≠ 0 then (0, check s) else if checkCell c ≠ 0 then (0, checkCell c) else calmD s c 4
theorem met_good {F : Nat} (hF : 1000 ≤ F) {s : Ship} (hc : check s = 0) {c : Cell} (hg : goodCell c) : hull_met F s c = some 0 := by
  have h1 := (steady_len (check_steadyThrust hc)).2
  have h2 := (steady_len (check_steadyWater hc)).2
  have h3 := (steady_len (check_steadyIce hc)).2
  rw [hmet_eq hF (by omega) (by omega) (by omega)]
  unfold met
  rw [if_neg (by simp [hc]), checkCell_ok.2 hg]
theorem speeds_ok {F : Nat} (hF : 1000 ≤ F) {s : Ship} (hc : check s = 0) {c : Cell} (hg : goodCell c) (ch : Bool) : Ok (fun r => r.2 = 0 ∧ (r.1.Lo < 10 ↔ speed s (lastI c) ch < 10)) (hull_Speeds F s c ch) := by
  have F0 : 0 < F := by omega
  have hsf := speed_mono hc (goodCell_first hg) (goodCell_last hg) (first_le_last hg) ch
  unfold hull_Speeds
  refine ok_bnde (met_good hF hc hg) (ok_brkF rfl (ok_join F0 (fun x : Int × Int => x.2 < 10 ↔ speed s (lastI c) ch < 10) (fun x hx => ok_some ⟨rfl, hx⟩) fun k hk => ok_bnde (b := firstI c) rfl ?_))
  refine ok_join F0 (fun x : Int × Bool => x.1 = speed s (firstI c) ch) (fun x hx => ok_bnde (b := firstI c) rfl (ok_bnde (b := lastI c) rfl (ok_brk (fun g => ok_bnde (b := lastI c) rfl ?_) (fun g => hk _ ?_)))) fun k2 hk2 => speedM_ok hF hc (goodCell_first hg) ch (K := k2) hk2
  · refine ok_join F0 (fun y : Int × Bool => y.1 = speed s (lastI c) ch) (fun y hy => hk _ ?_) fun k2 hk2 => speedM_ok hF hc (goodCell_last hg) ch (K := k2) hk2
    dsimp only
    rw [hx, hy]
    split <;> (try split) <;> (try split at *) <;> omega
  · have e : firstI c = lastI c := by
      simp only [Bool.not_eq_false', Bool.and_eq_true, beq_iff_eq, and_true] at g
      obtain ⟨e1, e2, e3, e4⟩ := g
      show Ice.mk _ _ _ _ = Ice.mk _ _ _ _
      rw [show c.Conc.Lo = c.Conc.Hi from e1, show c.Thick.Lo = c.Thick.Hi from e2, show c.Ridge.Lo = c.Ridge.Hi from e3, show c.Press.Lo = c.Press.Hi from e4]
    dsimp only
    rw [hx, e]
    split <;> omega
theorem beset_ok {F : Nat} (hF : 1000 ≤ F) {s : Ship} (hc : check s = 0) {c : Cell} (hg : goodCell c) (ch : Bool) : Ok (fun r => r.2.2 = 0 ∧ (r.1 = true ↔ speed s (lastI c) ch < 10)) (hull_Beset F s c ch) := by
  unfold hull_Beset
  refine ok_bnd _ (speeds_ok hF hc hg ch) fun r ⟨h1, h2⟩ => ?_
  rw [h1]
  exact ok_brkF rfl (ok_some ⟨rfl, by dsimp only; rw [decide_eq_true_iff]; exact h2⟩)
theorem calm_eq {F : Nat} (hF : 1000 ≤ F) {s : Ship} (l1 : s.Thrust.length ≤ 900) (l2 : s.Water.length ≤ 900) (l3 : s.Ice.length ≤ 900) (c : Cell) : breaker_Calm F s c = some (calmS s c) := by
  refine Ok.eq ?_
  unfold breaker_Calm calmS
  refine ok_bnde (check_eq hF l1 l2 l3) (ok_brk (fun h => ok_some ?_) (fun h => ?_))
  · have h : check s ≠ 0 := by simpa using h
    rw [if_pos h]
  have hc : check s = 0 := by simpa using h
  rw [if_neg (fun g => g hc)]
  refine ok_bnde (cell_eq hF c) (ok_brk (fun h => ok_some ?_) (fun h => ?_))
  · have h : checkCell c ≠ 0 := by simpa using h
    rw [if_pos h]
  have h0 : checkCell c = 0 := by simpa using h
  have hg : goodCell c := checkCell_ok.1 h0
  rw [if_neg (fun g => g h0)]
  refine ok_loop (fun q : Int × Int × Int => -1 ≤ q.1 ∧ q.1 ≤ 3 ∧ calmD s c (q.1 + 1).toNat = calmD s c 4) (fun q => (q.1 + 1).toNat) ⟨by dsimp only; omega, by dsimp only; omega, rfl⟩ (by show (4 : Int).toNat < F; omega) fun q next hI hn => ?_
  obtain ⟨h0, h1, h2⟩ := hI
  refine ok_brk (fun g => ?_) (fun g => ok_some ?_)
  · have g : 0 ≤ q.1 := of_decide_eq_true g
    rw [show (q.1 + 1).toNat = q.1.toNat + 1 by omega, calmD, show ((q.1.toNat : Nat) : Int) = q.1 by omega] at h2
    refine ok_bnd _ (beset_ok hF hc (c := atP c q.1) (atP_good hg ⟨g, h1⟩) true) fun r ⟨r1, r2⟩ => ?_
    have hl : speed s (lastI (atP c q.1)) true = speed s (iceP c q.1) true := rfl
    rw [hl] at r2
    refine ok_brk (fun k => ok_some ?_) (fun k => ok_chk (show InR _ from ⟨by omega, by omega⟩) (hn _ ⟨by dsimp only; omega, by dsimp only; omega, ?_⟩ (by dsimp only; omega)))
    · rw [r1] at k
      have k : r.1 = false := by simpa using k
      have : okB s c q.1 = true := by
        refine decide_eq_true ?_
        have : ¬ speed s (iceP c q.1) true < 10 := fun h => by rw [r2.2 h] at k; cases k
        omega
      rw [if_pos this] at h2
      exact h2
    · rw [r1] at k
      have k : r.1 = true := by simpa using k
      have : ¬ okB s c q.1 = true := fun h => by
        have := r2.1 k
        have h := of_decide_eq_true h
        omega
      rw [if_neg this] at h2
      dsimp only
      rw [show q.1 - 1 + 1 = q.1 by omega]
      exact h2
  · have g : ¬ 0 ≤ q.1 := of_decide_eq_false g
    have e : q.1 = -1 := by omega
    rw [e] at h2
    exact h2
theorem rmet_eq {F : Nat} (hF : 1000 ≤ F) {s : Ship2} (l1 : s.Thrust.length ≤ 900) (l2 : s.Water.length ≤ 900) (l3 : s.Ice.length ≤ 900) (c : Cell) : ref03_met F s c = some (if check (bwd s) ≠ 0 then check (bwd s) else checkCell c) := by
  refine Ok.eq ?_
  unfold ref03_met
  refine ok_bnde (rcheck_eq (s := bwd s) hF l1 l2 l3) (ok_brk (fun h => ok_some ?_) (fun h => ?_))
  · have h : check (bwd s) ≠ 0 := by simpa using h
    rw [if_pos h]
  have hc : check (bwd s) = 0 := by simpa using h
  rw [if_neg (fun g => g hc)]
  refine ok_bnde (rcell_eq c) (ok_brk (fun h => ok_some ?_) (fun h => ok_some ?_))
  · exact (rcell_bool' (by simpa using h)).symm
  · exact (rcell_bool (by simpa using h)).symm
theorem rspeeds_ok {F : Nat} (hF : 1000 ≤ F) {s : Ship2} (l1 : s.Thrust.length ≤ 900) (l2 : s.Water.length ≤ 900) (l3 : s.Ice.length ≤ 900) (hc : check (bwd s) = 0) {c : Cell} (hg : goodCell c) (ch : Bool) : Ok (fun r => r.2 = 0 ∧ (r.1.Lo < 10 ↔ speed (bwd s) (lastI c) ch < 10)) (ref03_Speeds F s c ch) := by
  unfold ref03_Speeds
  refine ok_bnde (rmet_eq hF l1 l2 l3 c) ?_
  rw [if_neg (fun g => g hc), checkCell_ok.2 hg]
  refine ok_brkF rfl (ok_bnde (rcorners_eq hF c) ?_)
  have hlt := speed_lt hc hg ch
  have hlc : (corners c).length = 16 := corners_len c
  refine ok_loop (fun q : Int × Int × Int => 0 ≤ q.1 ∧ q.1 ≤ 16 ∧ (q.2.2 < 10 ↔ ∃ j : Nat, (j : Int) < q.1 ∧ speed (bwd s) ((corners c).getD j (Ice.mk 0 0 0 0)) ch < 10)) (fun q => (16 - q.1).toNat) ⟨by simp, by simp, ⟨fun h => absurd h (by decide), fun ⟨j, hj, _⟩ => absurd hj (by dsimp only; omega)⟩⟩ (by show (16 - (0 : Int)).toNat < F; omega) fun q next hI hn => ?_
  obtain ⟨i, hi, lo⟩ := q
  obtain ⟨h0, h1, h2⟩ := hI
  dsimp only at h0 h1 h2 ⊢
  refine ok_brk (fun g => ?_) (fun g => ok_some ⟨rfl, ?_⟩)
  · have g : i < 16 := by have := of_decide_eq_true g; omega
    have hm := getD_mem (l := corners c) (i := i.toNat) (d := Ice.mk 0 0 0 0) (by omega)
    refine ok_chk ⟨h0, by omega⟩ (ok_bnde (rspeed_eq hF hc (corners_in hg hm).1 ch) (ok_chk (show InR _ from ⟨by omega, by omega⟩) (hn _ ⟨by dsimp only; omega, by dsimp only; omega, ?_⟩ (by dsimp only; omega))))
    dsimp only
    constructor
    · intro h
      by_cases e : speed (bwd s) ((corners c).getD i.toNat (Ice.mk 0 0 0 0)) ch < 10
      · exact ⟨i.toNat, by omega, e⟩
      · have : lo < 10 := by split at h <;> omega
        obtain ⟨j, hj, e2⟩ := h2.1 this
        exact ⟨j, by omega, e2⟩
    · rintro ⟨j, hj, e2⟩
      by_cases e : (j : Int) < i
      · have := h2.2 ⟨j, e, e2⟩
        split <;> omega
      · rw [show j = i.toNat by omega] at e2
        split <;> omega
  · have g : i = 16 := by have := of_decide_eq_false g; omega
    subst g
    rw [h2, ← hlt]
    constructor
    · rintro ⟨j, hj, e⟩
      exact ⟨_, getD_mem (by omega), e⟩
    · rintro ⟨x, hx, e⟩
      obtain ⟨j, hj, rfl⟩ := List.getElem_of_mem hx
      exact ⟨j, by omega, by rw [getD_get hj]; exact e⟩
theorem rbeset_ok {F : Nat} (hF : 1000 ≤ F) {s : Ship2} (l1 : s.Thrust.length ≤ 900) (l2 : s.Water.length ≤ 900) (l3 : s.Ice.length ≤ 900) (hc : check (bwd s) = 0) {c : Cell} (hg : goodCell c) (ch : Bool) : Ok (fun r => r.1 = true ↔ speed (bwd s) (lastI c) ch < 10) (ref03_Beset F s c ch) := by
  unfold ref03_Beset
  refine ok_bnd _ (rspeeds_ok hF l1 l2 l3 hc hg ch) fun r ⟨h1, h2⟩ => ?_
  rw [h1]
  exact ok_brkF rfl (ok_some (by dsimp only; rw [decide_eq_true_iff]; exact h2))
theorem rcalm_eq {F : Nat} (hF : 1000 ≤ F) {s : Ship2} (l1 : s.Thrust.length ≤ 900) (l2 : s.Water.length ≤ 900) (l3 : s.Ice.length ≤ 900) (c : Cell) : ref06_Calm F s c = some (calmS (bwd s) c) := by
  have F0 : 0 < F := by omega
  refine Ok.eq ?_
  unfold ref06_Calm calmS
  by_cases hc : check (bwd s) = 0
  · rw [if_neg (fun g => g hc)]
    by_cases h0 : checkCell c = 0
    · have hg : goodCell c := checkCell_ok.1 h0
      rw [if_neg (fun g => g h0)]
      refine ok_bnd _ (rspeeds_ok hF l1 l2 l3 hc hg true) fun r ⟨h1, _⟩ => ?_
      rw [h1]
      refine ok_brkF rfl ?_
      refine ok_loop (fun q : Int × Int × Int × Int => 0 ≤ q.2.1 ∧ q.2.1 ≤ 4 ∧ -1 ≤ q.1 ∧ calmD (bwd s) c q.2.1.toNat = if q.1 < 0 then (0, 4) else (q.1, 0)) (fun q => (4 - q.2.1).toNat) ⟨by simp, by simp, by simp, rfl⟩ (by show (4 - (0 : Int)).toNat < F; omega) fun q next hI hn => ?_
      obtain ⟨out, p, p1, p2⟩ := q
      obtain ⟨q0, q1, q2, q3⟩ := hI
      dsimp only at q0 q1 q2 q3 ⊢
      refine ok_brk (fun g => ?_) (fun g => ?_)
      · have g := of_decide_eq_true g
        have hstep : calmD (bwd s) c (p + 1).toNat = if okB (bwd s) c p = true then (p, 0) else calmD (bwd s) c p.toNat := by
          rw [show (p + 1).toNat = p.toNat + 1 by omega, calmD, show ((p.toNat : Nat) : Int) = p by omega]
        refine ok_join F0 (fun x : Int × Int × Int => -1 ≤ x.1 ∧ calmD (bwd s) c (p + 1).toNat = if x.1 < 0 then (0, 4) else (x.1, 0)) (fun x ⟨x1, x2⟩ => ok_chk (show InR _ from ⟨by omega, by omega⟩) (hn _ ⟨by dsimp only; omega, by dsimp only; omega, x1, x2⟩ (by dsimp only; omega))) fun k hk => ?_
        refine ok_bnd _ (rbeset_ok hF l1 l2 l3 hc (c := atP c p) (atP_good hg ⟨by omega, by omega⟩) true) fun b hb => ?_
        have hl : speed (bwd s) (lastI (atP c p)) true = speed (bwd s) (iceP c p) true := rfl
        rw [hl] at hb
        refine ok_brk (fun e => hk _ ⟨by dsimp only; omega, ?_⟩) (fun e => hk _ ⟨q2, ?_⟩)
        · have e : b.1 = false := by simpa using e
          have : okB (bwd s) c p = true := by
            refine decide_eq_true ?_
            have : ¬ speed (bwd s) (iceP c p) true < 10 := fun h => by rw [hb.2 h] at e; cases e
            omega
          dsimp only
          rw [hstep, if_pos this, if_neg (by omega)]
        · have e : b.1 = true := by simpa using e
          have : ¬ okB (bwd s) c p = true := fun h => by
            have := hb.1 e
            have h := of_decide_eq_true h
            omega
          dsimp only
          rw [hstep, if_neg this, q3]
      · have g := of_decide_eq_false g
        have e : p = 4 := by omega
        subst e
        have q3 : calmD (bwd s) c 4 = if out < 0 then (0, 4) else (out, 0) := q3
        rw [q3]
        exact ok_brk (fun k => ok_some (by rw [if_pos (of_decide_eq_true k)])) (fun k => ok_some (by rw [if_neg (of_decide_eq_false k)]))
    · rw [if_pos h0]
      have : ref03_Speeds F s c true = some (Span.mk 0 0, checkCell c) := by
        refine Ok.eq ?_
        unfold ref03_Speeds
        refine ok_bnde (rmet_eq hF l1 l2 l3 c) ?_
        rw [if_neg (fun g => g hc)]
        exact ok_brkT (by simpa using h0) (ok_some rfl)
      exact ok_bnde this (ok_brkT (by simpa using h0) (ok_some rfl))
  · rw [if_pos hc]
    have : ref03_Speeds F s c true = some (Span.mk 0 0, check (bwd s)) := by
      refine Ok.eq ?_
      unfold ref03_Speeds
      refine ok_bnde (rmet_eq hF l1 l2 l3 c) ?_
      rw [if_pos hc]
      exact ok_brkT (by simpa using hc) (ok_some rfl)
    exact ok_bnde this (ok_brkT (by simpa using hc) (ok_some rfl))
end Go.Proofs.Bk

namespace Go.Proofs.Bk
open Go Go.KX
theorem awake_eq : law06_awake 1000000000000000 = some true := by kernel_rfl
end Go.Proofs.Bk

namespace Go.Proofs.Bk
open Go Go.KX
def partsF (l : List Part) : List Part2 := l.map prtF
def rowF (r : List (List Part)) : List (List Part2) := r.map partsF
theorem partsB_F (l : List Part) : partsB (partsF l) = l := by
  unfold partsB partsF
  rw [List.map_map]
  exact (List.map_congr_left fun p _ => rfl).trans (List.map_id l)
theorem rowB_F (r : List (List Part)) : rowB (rowF r) = r := by
  unfold rowB rowF
  rw [List.map_map]
  exact (List.map_congr_left fun p _ => partsB_F p).trans (List.map_id r)
theorem legsB_F (l : List (List (List Part))) : legsB (l.map rowF) = l := by
  unfold legsB
  rw [List.map_map]
  exact (List.map_congr_left fun p _ => rowB_F p).trans (List.map_id l)
theorem clonePart {F : Nat} {l : List Part} (h : l.length ≤ 900) : slices_Clone_hull_Part F l = some l := by
  refine Ok.eq ?_
  unfold slices_Clone_hull_Part
  exact ok_chk (by simp; omega) (ok_some rfl)
theorem clonePoint {F : Nat} {l : List Point} (h : l.length ≤ 900) : slices_Clone_hull_Point F l = some l := by
  refine Ok.eq ?_
  unfold slices_Clone_hull_Point
  exact ok_chk (by simp; omega) (ok_some rfl)
theorem points_eq {F : Nat} (hF : 1000 ≤ F) {l : List Point} (hl : l.length ≤ 900) : law03_points F l = some l := by
  refine Ok.eq ?_
  unfold law03_points
  refine ok_loop (fun q : Int × List Point => 0 ≤ q.1 ∧ q.1 ≤ l.length ∧ q.2 = l.take q.1.toNat) (fun q => (l.length - q.1).toNat) ⟨by simp, by simp, rfl⟩ (by dsimp only; omega) fun q next hI hn => ?_
  obtain ⟨i, out⟩ := q
  obtain ⟨h0, h1, h2⟩ := hI
  dsimp only at h0 h1 h2 ⊢
  refine ok_brk (fun h => ?_) (fun h => ok_some ?_)
  · have h := of_decide_eq_true h
    have hlen : out.length = i.toNat := by rw [h2, List.length_take]; omega
    refine ok_chk ⟨h0, h⟩ (ok_chk (by simp; omega) (ok_chk (show InR _ from ⟨by omega, by omega⟩) (hn _ ⟨by dsimp only; omega, by dsimp only; omega, ?_⟩ (by dsimp only; omega))))
    dsimp only
    rw [show (i + 1).toNat = i.toNat + 1 by omega, take_succ' (d := Point.mk 0 0) (by omega), h2]
  · have h := of_decide_eq_false h
    rw [h2]
    exact List.take_of_length_le (by omega)
theorem parts_eq {F : Nat} (hF : 1000 ≤ F) {l : List Part} (hl : l.length ≤ 900) : law03_Parts F l = some (partsF l) := by
  refine Ok.eq ?_
  unfold law03_Parts
  refine ok_loop (fun q : Int × List Part2 => 0 ≤ q.1 ∧ q.1 ≤ l.length ∧ q.2 = (l.take q.1.toNat).map prtF) (fun q => (l.length - q.1).toNat) ⟨by simp, by simp, rfl⟩ (by dsimp only; omega) fun q next hI hn => ?_
  obtain ⟨i, out⟩ := q
  obtain ⟨h0, h1, h2⟩ := hI
  dsimp only at h0 h1 h2 ⊢
  refine ok_brk (fun h => ?_) (fun h => ok_some ?_)
  · have h := of_decide_eq_true h
    have hlen : out.length = i.toNat := by rw [h2, List.length_map, List.length_take]; omega
    refine ok_chk ⟨h0, h⟩ (ok_chk (by simp; omega) (ok_chk (show InR _ from ⟨by omega, by omega⟩) (hn _ ⟨by dsimp only; omega, by dsimp only; omega, ?_⟩ (by dsimp only; omega))))
    dsimp only
    rw [show (i + 1).toNat = i.toNat + 1 by omega, take_succ' (d := prtD) (by omega), List.map_append, ← h2]; rfl
  · have h := of_decide_eq_false h
    rw [h2, List.take_of_length_le (by omega)]; rfl
theorem copyShip_eq {F : Nat} {s : Ship} (l1 : s.Thrust.length ≤ 900) (l2 : s.Water.length ≤ 900) (l3 : s.Ice.length ≤ 900) : law03_CopyShip F s = some s := by
  refine Ok.eq ?_
  unfold law03_CopyShip
  exact ok_bnde (clonePoint l1) (ok_bnde (clonePoint l2) (ok_bnde (clonePoint l3) (ok_some rfl)))
theorem ship_eq {F : Nat} (hF : 1000 ≤ F) {s : Ship} (l1 : s.Thrust.length ≤ 900) (l2 : s.Water.length ≤ 900) (l3 : s.Ice.length ≤ 900) : law03_Ship F s = some (fwdS s) := by
  refine Ok.eq ?_
  unfold law03_Ship
  exact ok_bnde (points_eq hF l1) (ok_bnde (points_eq hF l2) (ok_bnde (points_eq hF l3) (ok_some rfl)))
theorem sameInts {F : Nat} (hF : 1000 ≤ F) {l : List Int} (hl : l.length ≤ 900) : kit_SameInts F l l = some true := by
  refine Ok.eq ?_
  unfold kit_SameInts
  refine ok_brkF (by simp) ?_
  refine ok_loop (fun x : Int => 0 ≤ x ∧ x ≤ l.length) (fun x => (l.length - x).toNat) ⟨by simp, by simp⟩ (by omega) fun x next ⟨h0, h1⟩ hn => ?_
  refine ok_brk (fun h => ?_) (fun h => ok_some rfl)
  have h := of_decide_eq_true h
  exact ok_chk ⟨h0, h⟩ (ok_chk ⟨h0, h⟩ (ok_brkF (by simp) (ok_chk (show InR _ from ⟨by omega, by omega⟩) (hn _ ⟨by omega, by omega⟩ (by omega)))))
theorem sameLists {F : Nat} (hF : 1000 ≤ F) {l : List (List Int)} (hl : l.length ≤ 900) (hr : ∀ r ∈ l, r.length ≤ 900) : kit_SameLists F l l = some true := by
  refine Ok.eq ?_
  unfold kit_SameLists
  refine ok_brkF (by simp) ?_
  refine ok_loop (fun x : Int => 0 ≤ x ∧ x ≤ l.length) (fun x => (l.length - x).toNat) ⟨by simp, by simp⟩ (by omega) fun x next ⟨h0, h1⟩ hn => ?_
  refine ok_brk (fun h => ?_) (fun h => ok_some rfl)
  have h := of_decide_eq_true h
  refine ok_chk ⟨h0, h⟩ (ok_chk ⟨h0, h⟩ (ok_bnde (b := true) ?_ (ok_brkF rfl (ok_chk (show InR _ from ⟨by omega, by omega⟩) (hn _ ⟨by omega, by omega⟩ (by omega))))))
  refine Ok.eq ?_
  unfold kit_SameList
  exact ok_bnde (sameInts hF (hr _ (getD_mem (by omega)))) (ok_some rfl)
theorem equalPoints {F : Nat} (hF : 1000 ≤ F) {l : List Point} (hl : l.length ≤ 900) : slices_Equal_hull_Point F l l = some true := by
  refine Ok.eq ?_
  unfold slices_Equal_hull_Point
  refine ok_brkF (by simp) ?_
  refine ok_loop (fun x : Int => 0 ≤ x ∧ x ≤ l.length) (fun x => (l.length - x).toNat) ⟨by simp, by simp⟩ (by omega) fun x next ⟨h0, h1⟩ hn => ?_
  refine ok_brk (fun h => ?_) (fun h => ok_some rfl)
  have h := of_decide_eq_true h
  exact ok_chk ⟨h0, h⟩ (ok_chk ⟨h0, h⟩ (ok_brkF (by simp) (ok_chk (show InR _ from ⟨by omega, by omega⟩) (hn _ ⟨by omega, by omega⟩ (by omega)))))
theorem equalParts {F : Nat} (hF : 1000 ≤ F) {l : List Part} (hl : l.length ≤ 900) : slices_Equal_hull_Part F l l = some true := by
  refine Ok.eq ?_
  unfold slices_Equal_hull_Part
  refine ok_brkF (by simp) ?_
  refine ok_loop (fun x : Int => 0 ≤ x ∧ x ≤ l.length) (fun x => (l.length - x).toNat) ⟨by simp, by simp⟩ (by omega) fun x next ⟨h0, h1⟩ hn => ?_
  refine ok_brk (fun h => ?_) (fun h => ok_some rfl)
  have h := of_decide_eq_true h
  refine ok_chk ⟨h0, h⟩ (ok_chk ⟨h0, h⟩ (ok_brkF ?_ (ok_chk (show InR _ from ⟨by omega, by omega⟩) (hn _ ⟨by omega, by omega⟩ (by omega)))))
  simp only [beq_self_eq_true, Bool.and_self, Bool.not_true]
theorem tableS_len (s : Ship) (legs : List (List (List Part))) (hn : legs.length ≤ 900) : (tableS s legs).1.length ≤ 900 ∧ ∀ r ∈ (tableS s legs).1, r.length ≤ 900 := by
  unfold tableS
  split
  · exact ⟨by simp, by simp⟩
  split
  · exact ⟨by simp, by simp⟩
  split
  · exact ⟨by simp, by simp⟩
  unfold tableV
  split
  · exact ⟨by simp, by simp⟩
  · refine ⟨by dsimp only; rw [List.length_map, List.length_range]; exact hn, fun r hr => ?_⟩
    obtain ⟨i, _, rfl⟩ := List.mem_map.1 hr
    rw [rowL, List.length_map, List.length_range]; exact hn
theorem legAt_len {legs : List (List (List Part))} {n : Nat} (h : ∀ j : Nat, j < legs.length → ∀ k, ((legs.getD j []).getD k []).length ≤ n) (i k : Nat) : (legAt legs i k).length ≤ n := by
  unfold legAt
  by_cases hi : i < legs.length
  · exact h i hi k
  · rw [show legs.getD i [] = [] by rw [List.getD_eq_getElem?_getD, List.getElem?_eq_none (by omega)]; rfl]
    simp
theorem breakerTables_ok' {F : Nat} (hF : F = 1000000000000000) (s : Ship) (c : Cell) (legs : List (List (List Part))) : Ok (fun b => b = true) (law06_BreakerTables F s c legs) := by
  have hF1 : 1000 ≤ F := by omega
  have F0 : 0 < F := by omega
  have aw : law06_awake F = some true := by rw [hF]; exact awake_eq
  unfold law06_BreakerTables
  refine ok_brk (fun _ => ok_bnde aw (ok_some rfl)) (fun hsz => ?_)
  simp only [Bool.or_eq_false_iff, decide_eq_false_iff_not] at hsz
  obtain ⟨⟨⟨z1, z2⟩, z3⟩, z4⟩ := hsz
  refine ok_loop (fun x : List (List (List Part2)) × Int × List (List (List Part)) => 0 ≤ x.2.1 ∧ x.2.1 ≤ legs.length ∧ x.2.2 = legs.take x.2.1.toNat ∧ x.1 = (legs.take x.2.1.toNat).map rowF ∧ ∀ j : Nat, (j : Int) < x.2.1 → (legs.getD j []).length ≤ 5 ∧ ∀ k : Nat, ((legs.getD j []).getD k []).length ≤ 4) (fun x => (legs.length - x.2.1).toNat) ⟨by simp, by simp, rfl, rfl, fun j hj => by dsimp only at hj; omega⟩ (by dsimp only; omega) fun x next hI hn => ?_
  obtain ⟨oth, i, own⟩ := x
  obtain ⟨h0, h1, h2, h3, h4⟩ := hI
  dsimp only at h0 h1 h2 h3 h4 ⊢
  refine ok_brk (fun h => ?_) (fun h => ?_)
  · have h := of_decide_eq_true h
    refine ok_chk ⟨h0, h⟩ (ok_brk (fun _ => ok_bnde aw (ok_some rfl)) (fun g => ?_))
    have g := of_decide_eq_false g
    generalize hrw : legs.getD i.toNat [] = row at *
    refine ok_join F0 (fun x : Int => 0 ≤ x ∨ ∀ k : Nat, (row.getD k []).length ≤ 4) (fun x hx => ok_brk (fun _ => ok_bnde aw (ok_some rfl)) (fun b => ?_)) fun kk hkk => ?_
    · have b := of_decide_eq_false b
      have hk4 : ∀ k : Nat, (row.getD k []).length ≤ 4 := by
        rcases hx with hx | hx
        · omega
        · exact hx
      refine ok_loop (fun x : Int × List (List Part2) × List (List Part) => 0 ≤ x.1 ∧ x.1 ≤ row.length ∧ x.2.2 = row.take x.1.toNat ∧ x.2.1 = (row.take x.1.toNat).map partsF) (fun x => (row.length - x.1).toNat) ⟨by simp, by simp, rfl, rfl⟩ (by dsimp only; omega) fun x next2 hI hn2 => ?_
      obtain ⟨k, y, o⟩ := x
      obtain ⟨k0, k1, k2, k3⟩ := hI
      dsimp only at k0 k1 k2 k3 ⊢
      refine ok_brk (fun e => ?_) (fun e => ?_)
      · have e := of_decide_eq_true e
        have ol : o.length = k.toNat := by rw [k2, List.length_take]; omega
        have yl : y.length = k.toNat := by rw [k3, List.length_map, List.length_take]; omega
        have hl := hk4 k.toNat
        refine ok_chk ⟨k0, e⟩ (ok_bnde (clonePart (by omega)) (ok_chk (by simp; omega) (ok_bnde (parts_eq hF1 (by omega)) (ok_chk (by simp; omega) (ok_chk (show InR _ from ⟨by omega, by omega⟩) (hn2 _ ⟨by dsimp only; omega, by dsimp only; omega, ?_, ?_⟩ (by dsimp only; omega)))))))
        · dsimp only
          rw [show (k + 1).toNat = k.toNat + 1 by omega, take_succ' (d := []) (by omega), ← k2]
        · dsimp only
          rw [show (k + 1).toNat = k.toNat + 1 by omega, take_succ' (d := []) (by omega), List.map_append, ← k3]; rfl
      · have e := of_decide_eq_false e
        have hk : k = row.length := by omega
        have hrt : row.take k.toNat = row := List.take_of_length_le (by omega)
        rw [hrt] at k2 k3
        have ol : own.length = i.toNat := by rw [h2, List.length_take]; omega
        have tl : oth.length = i.toNat := by rw [h3, List.length_map, List.length_take]; omega
        refine ok_chk (by simp; omega) (ok_chk (by simp; omega) (ok_chk (show InR _ from ⟨by omega, by omega⟩) (hn _ ⟨by dsimp only; omega, by dsimp only; omega, ?_, ?_, fun j hj => ?_⟩ (by dsimp only; omega))))
        · dsimp only
          rw [show (i + 1).toNat = i.toNat + 1 by omega, take_succ' (d := []) (by omega), ← h2, k2, hrw]
        · dsimp only
          rw [show (i + 1).toNat = i.toNat + 1 by omega, take_succ' (d := []) (by omega), List.map_append, ← h3, k3, hrw]; rfl
        · dsimp only at hj
          by_cases ej : (j : Int) = i
          · rw [show j = i.toNat by omega, hrw]
            exact ⟨by omega, hk4⟩
          · exact h4 j (by omega)
    · refine ok_loop (fun x : Int => 0 ≤ x ∧ x ≤ row.length ∧ ∀ j : Nat, (j : Int) < x → (row.getD j []).length ≤ 4) (fun x => (row.length - x).toNat) ⟨by simp, by simp, fun j hj => by omega⟩ (by omega) fun x next2 hI hn2 => ?_
      obtain ⟨x0, x1, x2⟩ := hI
      refine ok_brk (fun e => ?_) (fun e => hkk _ (.inr fun k => ?_))
      · have e := of_decide_eq_true e
        refine ok_chk ⟨x0, e⟩ (ok_bnde (show law06_BreakerTables_1 F (row.getD x.toNat []) = some (decide (((row.getD x.toNat []).length : Int) > 4)) from rfl) (ok_brk (fun b => hkk _ (.inl x0)) (fun b => ok_chk (show InR _ from ⟨by omega, by omega⟩) (hn2 _ ⟨by omega, by omega, fun j hj => ?_⟩ (by omega)))))
        have b := of_decide_eq_false b
        by_cases ej : (j : Int) = x
        · rw [show j = x.toNat by omega]; omega
        · exact x2 j (by omega)
      · have e := of_decide_eq_false e
        by_cases hk : k < row.length
        · exact x2 k (by omega)
        · rw [show row.getD k [] = [] by rw [List.getD_eq_getElem?_getD, List.getElem?_eq_none (by omega)]; rfl]
          simp
  · have h := of_decide_eq_false h
    have hi : i = legs.length := by omega
    have ht : legs.take i.toNat = legs := List.take_of_length_le (by omega)
    rw [ht] at h2 h3
    subst h2 h3
    have hL := legAt_len (legs := own) (n := 4) fun j hj k => (h4 j (by omega)).2 k
    have hL2 : ∀ a b : Nat, (((own.map rowF).getD a []).getD b []).length ≤ 900 := fun a b => by
      rw [getD_mapN rowF rfl, show (rowF (own.getD a [])).getD b [] = partsF ((own.getD a []).getD b []) from getD_mapN partsF rfl _ _, partsF, List.length_map]
      have := hL a b
      unfold legAt at this
      omega
    have hln : (own.map rowF).length = own.length := List.length_map _
    refine ok_bnde (copyShip_eq (by omega) (by omega) (by omega)) (ok_bnde (calm_eq hF1 (by omega) (by omega) (by omega) c) (ok_bnde (ship_eq hF1 (by omega) (by omega) (by omega)) (ok_bnde (rcalm_eq (s := fwdS s) hF1 (by show s.Thrust.length ≤ 900; omega) (by show s.Water.length ≤ 900; omega) (by show s.Ice.length ≤ 900; omega) c) ?_)))
    rw [bwd_fwd]
    refine ok_brkF (by simp) ?_
    refine ok_bnde (btable_eq hF1 (by omega) (by omega) (by omega) (by omega) fun a b => by have := hL a b; omega) (ok_bnde (ship_eq hF1 (by omega) (by omega) (by omega)) (ok_bnde (rtable_eq (s := fwdS s) hF1 (by show s.Thrust.length ≤ 900; omega) (by show s.Water.length ≤ 900; omega) (by show s.Ice.length ≤ 900; omega) (by omega) hL2) ?_))
    rw [bwd_fwd, legsB_F]
    obtain ⟨t1, t2⟩ := tableS_len s own (by omega)
    refine ok_bnde (b := true) ?_ (ok_brkF (by simp) ?_)
    · rw [show (!(tableS s own).2 != (tableS s own).2) = true by simp, brk_true]
      exact sameLists hF1 t1 t2
    refine ok_loop (fun x : Int => 0 ≤ x ∧ x ≤ own.length) (fun x => (own.length - x).toNat) ⟨by simp, by simp⟩ (by omega) fun x next2 ⟨x0, x1⟩ hn2 => ?_
    refine ok_brk (fun e => ?_) (fun e => ?_)
    · have e := of_decide_eq_true e
      refine ok_chk ⟨x0, e⟩ ?_
      have hrl := (h4 x.toNat (by omega)).1
      generalize hrw : own.getD x.toNat [] = row at *
      refine ok_loop (fun y : Int => 0 ≤ y ∧ y ≤ row.length) (fun y => (row.length - y).toNat) ⟨by simp, by simp⟩ (by omega) fun y next3 ⟨y0, y1⟩ hn3 => ?_
      refine ok_brk (fun e2 => ?_) (fun e2 => ok_chk (show InR _ from ⟨by omega, by omega⟩) (hn2 _ ⟨by omega, by omega⟩ (by omega)))
      have e2 := of_decide_eq_true e2
      have hl4 : (row.getD y.toNat []).length ≤ 4 := by rw [← hrw]; exact (h4 x.toNat (by omega)).2 y.toNat
      exact ok_chk ⟨y0, e2⟩ (ok_chk ⟨x0, e⟩ (ok_chk ⟨y0, e2⟩ (ok_bnde (equalParts hF1 (by omega)) (ok_brkF rfl (ok_chk (show InR _ from ⟨by omega, by omega⟩) (hn3 _ ⟨by omega, by omega⟩ (by omega)))))))
    · refine ok_bnde (equalPoints hF1 (by omega)) (ok_bnde (b := true) ?_ (ok_bnde (b := true) ?_ (ok_some rfl)))
      · exact equalPoints hF1 (by omega)
      · exact aw
theorem tables_law {s : Ship} {c : Cell} {legs : List (List (List Part))} {P Q R : Prop} (_ : P) (_ : Q) (_ : R) : law06_BreakerTables 1000000000000000 s c legs = some true := (breakerTables_ok' rfl s c legs).eq
end Go.Proofs.Bk

namespace Go.KX
open Go Go.ChangeShapes Go.WideShapes Go.RowKit
def goodT (P : Program) : Nat → TypeId → Bool
  | 0, _ => false
  | n + 1, t => match P.underlying t with
    | some (.int _) => true
    | some .bool => true
    | some (.struct fs) => fs.toList.all fun f => goodT P n f.type
    | some (.array _ e) => goodT P n e
    | some (.slice e) => goodT P n e && Nat.ble 1 (P.cellsOf e)
    | _ => false
theorem mapM_carry' {α β : Type} {f g : α → Option β} : ∀ {l : List α} {r : List β}, l.mapM f = some r → (∀ x y, x ∈ l → y ∈ r → f x = some y → g x = some y) → l.mapM g = some r := mapM_carry
section
variable {H : Type} {enc : TypeId × Value → H} {P : Program} {w : World} {base : Nat} {held : Bool}
theorem trod_spare {sp : Nat → Bool} : ∀ (m n : Nat) (t : TypeId) (cs : List Value) (x : DataW H × List MemPlace), goodT P m t = true →
    DataW.trod enc P w base (fun _ => true) held n t cs = some x → (∀ p ∈ x.2, sp p.block = true) → DataW.trod enc P w base sp held n t cs = some x := by
  intro m
  induction m with
  | zero => intro n t cs x h; cases h
  | succ m ih =>
    intro n t cs x hg h hs
    cases n with
    | zero => simp [DataW.trod] at h
    | succ n =>
      rw [DataW.trod_step] at h ⊢
      unfold goodT at hg
      unfold DataW.trodStep at h ⊢
      split at h
      case h_1 => exact h
      case h_2 => exact h
      case h_8 e a len cap hu =>
        rw [hu] at hg
        simp only [Bool.and_eq_true] at hg
        simp only at h ⊢
        split at h
        · rename_i hc
          rw [if_pos hc]
          simp only [if_true, Option.map_eq_some_iff, Option.bind_eq_some_iff] at h ⊢
          obtain ⟨elems, he, rest, hr, rfl⟩ := h
          have hlen : elems.length = len := by simpa using mapM_some_length he
          have hrlen : rest.length = cap - len := by simpa using mapM_some_length hr
          have hk : 1 ≤ P.cellsOf e := Nat.le_of_ble_eq_true hg.2
          have one : ∀ i y, (w.cells? base (a.add (i * P.cellsOf e)) (P.cellsOf e)).bind (DataW.trod enc P w base (fun _ => true) held n e) = some y → (∀ p ∈ y.2, sp p.block = true) →
              (w.cells? base (a.add (i * P.cellsOf e)) (P.cellsOf e)).bind (DataW.trod enc P w base sp held n e) = some y := by
            intro i y hy hp
            rw [Option.bind_eq_some_iff] at hy ⊢
            obtain ⟨cs', h1, h2⟩ := hy
            exact ⟨cs', h1, ih n e cs' y hg.1 h2 hp⟩
          have hpl : ∀ y, y ∈ elems ++ rest → ∀ p ∈ y.2, sp p.block = true := fun y hy p hp => hs p (by
            simp only [List.mem_append]
            exact .inr (List.mem_flatMap.2 ⟨y, hy, hp⟩))
          refine ⟨elems, mapM_carry' he fun i y hi hy hiy => one i y hiy (hpl y (by simp [hy])), rest, ?_, rfl⟩
          by_cases hcap : cap = 0
          · have : rest = [] := List.length_eq_zero_iff.1 (by omega)
            subst this
            split
            · rw [show cap - len = 0 by omega]; rfl
            · rfl
          · have : sp a.block = true := by
              have := hs (.cell a.block (a.off + 0)) (by
                simp only [List.mem_append]
                refine .inl (MemPlace.mem_row.2 ⟨0, ?_, rfl⟩)
                rw [hlen, hrlen, show len + (cap - len) = cap by omega]
                exact Nat.mul_pos (by omega) hk)
              exact this
            rw [if_pos this]
            exact mapM_carry' hr fun j y hj hy hjy => one _ y hjy (hpl y (by simp [hy]))
        · cases h
      case h_7 => exact h
      case h_9 fs cs' hu =>
        rw [hu] at hg
        simp only at hg
        split at h
        · rename_i hl
          rw [if_pos hl]
          simp only [Option.map_eq_some_iff] at h ⊢
          obtain ⟨xs, hx, rfl⟩ := h
          refine ⟨xs, mapM_carry' hx fun f y hf hy hfy => ih n f.type _ y (List.all_eq_true.1 hg f hf) hfy fun p hp => hs p ?_, rfl⟩
          exact List.mem_flatMap.2 ⟨y, hy, hp⟩
        · cases h
      case h_10 =>
        rename_i e hu
        rw [hu] at hg
        simp only at hg
        split at h
        · rename_i hl
          rw [if_pos hl]
          simp only [Option.map_eq_some_iff] at h ⊢
          obtain ⟨xs, hx, rfl⟩ := h
          refine ⟨xs, mapM_carry' hx fun f y hf hy hfy => ih n e _ y hg hfy fun p hp => hs p ?_, rfl⟩
          exact List.mem_flatMap.2 ⟨y, hy, hp⟩
        · cases h
      all_goals simp_all
theorem trod_move {w' : World} {sp : Nat → Bool} {t : TypeId} {v : Value} {d : DataW H} {ps : List MemPlace} (hg : goodT P 8 t = true) (h : DataW.Trod enc P w base (fun _ => true) held t v d ps)
    (hsame : ∀ p ∈ ps, w.sameAt w' p) (hs : ∀ p ∈ ps, sp p.block = true) : DataW.Trod enc P w' base sp held t v d ps := by
  obtain ⟨n, hn⟩ := h
  exact ⟨n, trod_spare 8 n t _ _ hg (DataW.trod_carry n t _ _ hn hsame) hs⟩
theorem trodAll_move {w' : World} {sp : Nat → Bool} : ∀ {ts : List TypeId} {vs : List Value} {ds : List (DataW H)} {ps : List MemPlace}, ts.all (goodT P 8) = true → DataW.TrodAll enc P w base (fun _ => true) held ts vs ds ps →
    (∀ p ∈ ps, w.sameAt w' p) → (∀ p ∈ ps, sp p.block = true) → DataW.TrodAll enc P w' base sp held ts vs ds ps := by
  intro ts
  induction ts with
  | nil =>
    intro vs ds ps _ h _ _
    obtain ⟨rfl, rfl, rfl⟩ := trodAll_nil h
    rfl
  | cons t ts ih =>
    intro vs ds ps hg h hsame hs
    obtain ⟨v, vs', d, ds', p, q, rfl, rfl, rfl, h1, h2⟩ := trodAll_cons h
    simp only [List.all_cons, Bool.and_eq_true] at hg
    exact ⟨p, q, trod_move hg.1 h1 (fun x hx => hsame x (by simp [hx])) (fun x hx => hs x (by simp [hx])), ih hg.2 h2 (fun x hx => hsame x (by simp [hx])) (fun x hx => hs x (by simp [hx])), rfl⟩
theorem post_law {f : Func} {s : ChangeSpec} {W W' : World} {args : Array Value} {ds gs : List (DataW H)} {before : List MemPlace} {tb : TypeId} (hW : DataW.Whole enc P f.params.toList s.vars false W args.toList ds gs before)
    (hv : s.vars = []) (hfn : s.fn H ds = { results := [.lit (.bool true)], args := ds }) (hrt : f.resultTypes = #[tb]) (htb : P.underlying tb = some .bool) (hgood : f.params.toList.all (goodT P 8) = true) (hb : Below W.heap.size W W') :
    s.post enc P f false true false false W args (.bool true) W' := by
  have hW0 := hW
  obtain ⟨p, q, hA, hV, rfl, _, _⟩ := hW
  rw [hv] at hV
  obtain ⟨rfl, rfl⟩ := trodVars_none hV
  have hlt : ∀ x ∈ p ++ [], x.block < W.heap.size := fun x hx => hW0.lt x hx
  have hsame : ∀ x ∈ p, W.sameAt W' x := fun x hx => hb.same (hlt x (by simpa using hx))
  refine ⟨ds, [], p ++ [], [], p, [], hW0, ?_, ?_, ?_, hb.frame _, fun h => by cases h⟩
  · simp only [List.append_nil, hfn, hrt]
    exact trodAll_mk1 (shut_bool htb _)
  · simp only [List.append_nil, hfn]
    exact trodAll_move hgood hA hsame fun x hx => by simpa using hlt x (by simpa using hx)
  · simp only [List.append_nil, hfn, hv]
    rfl
end
theorem wf_i64 {n : Int} (h : (Lit.int .i64 n).wf = true) : -9223372036854775808 ≤ n ∧ n ≤ 9223372036854775807 := by
  simp [Lit.wf, IntKind.min, IntKind.max, IntKind.signed, IntKind.bits] at h
  omega
def HReads (E : Env) (t : TypeId) (c : Nat) (In : E.G.car c → Prop) : Prop :=
  E.P.cellsOf t = E.G.sz c ∧ ∀ (H : Type) (e : TypeId × Value → H) (w : World) (base : Nat) (sp : Nat → Bool) (held : Bool) (fuel : Nat) (cs : List Value) (x : DataW H × List MemPlace),
    DataW.trod e E.P w base sp held fuel t cs = some x → ∃ a : E.G.car c, HdL E.G (IsCells w) w (E.G.enc c a) cs ∧ In a
theorem isCells_of {w : World} {a : Addr} {u : Value} (h : w.cell? a = some u) : IsCells w a.block ∧ a.spot = none := by
  unfold World.cell? at h
  split at h
  · rename_i c e s hb
    refine ⟨⟨_, hb, rfl⟩, ?_⟩
    split at h
    · cases h
    · rename_i hs
      simpa using hs
  · cases h
section
variable {E : Env} {H : Type} {e : TypeId × Value → H} {w : World} {base : Nat} {sp : Nat → Bool} {held : Bool}
theorem hdL_one {x : Value} {cv : CV E.G.car} (h : Hd E.G (IsCells w) w cv x) : HdL E.G (IsCells w) w [cv] [x] := ⟨_, _, rfl, h, rfl⟩
theorem hdL_append : ∀ {a b : List (CV E.G.car)} {u v : List Value}, HdL E.G (IsCells w) w a u → HdL E.G (IsCells w) w b v → HdL E.G (IsCells w) w (a ++ b) (u ++ v)
  | [], _, _, _, h, h' => by cases h; exact h'
  | _ :: _, _, _, _, ⟨x, us, rfl, h1, h2⟩, h' => ⟨x, us ++ _, rfl, h1, hdL_append h2 h'⟩
theorem hreads_int {t : TypeId} {c : Nat} {k : IntKind} {In : E.G.car c → Prop} (f : Int → E.G.car c) (hf : ∀ n, E.G.enc c (f n) = [.v (.int k n)]) (hu : E.P.underlying t = some (.int k)) (hc : E.P.cellsOf t = E.G.sz c)
    (hIn : ∀ n, (Lit.int k n).wf = true → In (f n)) : HReads E t c In :=
  ⟨hc, fun _ _ _ _ _ _ _ _ _ h => by
    obtain ⟨n, h1, _, h2⟩ := DataW.trod_int hu h
    subst h1
    exact ⟨f n, by rw [hf]; exact hdL_one (.v _), hIn n h2⟩⟩
theorem hreads_bool {t : TypeId} {c : Nat} {In : E.G.car c → Prop} (f : Bool → E.G.car c) (hf : ∀ n, E.G.enc c (f n) = [.v (.bool n)]) (hu : E.P.underlying t = some .bool) (hc : E.P.cellsOf t = E.G.sz c) (hIn : ∀ b, In (f b)) : HReads E t c In :=
  ⟨hc, fun _ _ _ _ _ _ _ _ _ h => by
    obtain ⟨n, h1, _⟩ := DataW.trod_bool hu h
    subst h1
    exact ⟨f n, by rw [hf]; exact hdL_one (.v _), hIn n⟩⟩
theorem fields_of {t : TypeId} {fs : Array Field} {fuel : Nat} {cs : List Value} {x : DataW H × List MemPlace} (hu : E.P.underlying t = some (.struct fs)) (h : DataW.trod e E.P w base sp held fuel t cs = some x) :
    cs.length = E.P.cellsOf t ∧ ∀ (j : Nat) (fd : Field), fs[j]? = some fd → ∃ fuel y, DataW.trod e E.P w base sp held fuel fd.type ((cs.drop fd.offset).take (E.P.cellsOf fd.type)) = some y := by
  obtain ⟨xs, n, rfl, rfl, hl, hlen, hf⟩ := DataW.trod_struct hu h
  refine ⟨hl, fun j fd hj => ?_⟩
  have hlt : j < xs.length := by have := (Array.getElem?_eq_some_iff.1 hj).1; omega
  exact ⟨n, xs[j], by rw [hf j fd hj, List.getElem?_eq_getElem hlt]⟩
theorem HReads.at {t : TypeId} {c off : Nat} {In : E.G.car c → Prop} {cs : List Value} (hR : HReads E t c In)
    (hx : ∃ fuel y, DataW.trod e E.P w base sp held fuel t ((cs.drop off).take (E.P.cellsOf t)) = some y) : ∃ a, HdL E.G (IsCells w) w (E.G.enc c a) ((cs.drop off).take (E.G.sz c)) ∧ In a := by
  obtain ⟨fuel, y, h⟩ := hx
  rw [hR.1] at h
  exact hR.2 _ _ _ _ _ _ _ _ _ h
theorem hcut_cons {a r : List (CV E.G.car)} {cs : List Value} {o n : Nat} (h : HdL E.G (IsCells w) w a ((cs.drop o).take n)) (hr : HdL E.G (IsCells w) w r (cs.drop (o + n))) : HdL E.G (IsCells w) w (a ++ r) (cs.drop o) := by
  have := hdL_append h hr
  rwa [← List.drop_drop, List.take_append_drop] at this
theorem hcut_nil {cs : List Value} {o : Nat} (h : cs.length ≤ o) : HdL E.G (IsCells w) w [] (cs.drop o) := List.drop_eq_nil_of_le h
theorem hslice_of {t el : TypeId} {c fuel : Nat} {In : E.G.car c → Prop} {cs : List Value} {x : DataW H × List MemPlace} (hu : E.P.underlying t = some (.slice el)) (hR : HReads E el c In) (hn : 0 < E.G.sz c)
    (h : DataW.trod e E.P w base sp held fuel t cs = some x) :
    ∃ (p : Option Addr) (n cap : Nat) (l : List (E.G.car c)), cs = [.slice p n cap] ∧ Hd E.G (IsCells w) w (.sl c l) (.slice p n cap) ∧ (∀ x ∈ l, In x) ∧ l.length ≤ 9223372036854775807 := by
  rcases DataW.trod_slice hu h with ⟨rfl, _⟩ | ⟨a, len, cap, elems, rest, m, _, rfl, _, hb, hl, hm, hel, hi, _, _⟩
  · exact ⟨none, 0, 0, [], rfl, Hd.mk (b := 0) (o := 0) rfl (Nat.le_refl _) (fun h => absurd rfl h) (fun i x hx => by simp at hx), by simp, by simp⟩
  have build : ∀ k, k ≤ len → ∃ l : List (E.G.car c), l.length = k ∧ ∀ i x, l[i]? = some x → In x ∧ ∃ us, w.cells? base (a.add (i * E.G.sz c)) (E.G.sz c) = some us ∧ HdL E.G (IsCells w) w (E.G.enc c x) us := by
    intro k
    induction k with
    | zero => intro _; exact ⟨[], rfl, fun i x hx => by simp at hx⟩
    | succ k ih =>
      intro hk
      obtain ⟨l, h1, h2⟩ := ih (by omega)
      have h3 := hi k (by omega)
      rw [List.getElem?_eq_getElem (by omega), hR.1, Option.bind_eq_some_iff] at h3
      obtain ⟨cs', h4, h5⟩ := h3
      obtain ⟨y, hy1, hy⟩ := hR.2 _ _ _ _ _ _ _ _ _ h5
      refine ⟨l ++ [y], by simp [h1], fun i x hx => ?_⟩
      rcases Nat.lt_or_ge i k with h6 | h6
      · rw [List.getElem?_append_left (by omega)] at hx; exact h2 i x hx
      · rw [List.getElem?_append_right (by omega)] at hx
        have : i - l.length = 0 := by
          have := (List.getElem?_eq_some_iff.1 hx).1
          simpa using this
        rw [this] at hx
        simp only [List.getElem?_cons_zero, Option.some.injEq] at hx
        subst hx
        obtain rfl : i = k := by omega
        exact ⟨hy, _, h4, hy1⟩
  obtain ⟨l, h1, h2⟩ := build len (Nat.le_refl _)
  have hcell : ∀ (i : Nat) x, l[i]? = some x → ∀ (j : Nat) (cv : CV E.G.car), (E.G.enc c x)[j]? = some cv → ∃ u, w.cell? ((a.add (i * E.G.sz c)).add j) = some u ∧ Hd E.G (IsCells w) w cv u := by
    intro i x hx j cv hcv
    obtain ⟨_, us, h3, h4⟩ := h2 i x hx
    obtain ⟨u, h5, h6⟩ := h4.get j cv hcv
    obtain ⟨_, h7, h8⟩ := World.cells?_some h3
    refine ⟨u, ?_, h6⟩
    rw [h8 j (by rw [← h7]; exact (List.getElem?_eq_some_iff.1 h5).1), h5]
  refine ⟨some a, len, cap, l, rfl, ?_, fun x hx => ?_, by unfold maxLen at hm; omega⟩
  · rcases Nat.eq_zero_or_pos len with h0 | h0
    · have : l = [] := List.length_eq_zero_iff.1 (by omega)
      subst this
      exact Hd.mk (b := 0) (o := 0) h1.symm hl (fun h => absurd rfl h) (fun i x hx => by simp at hx)
    · have hpos : 0 < l.length := by omega
      have hz : 0 < (E.G.enc c l[0]).length := by rw [E.G.hsz]; exact hn
      obtain ⟨u, h3, _⟩ := hcell 0 l[0] (List.getElem?_eq_getElem hpos) 0 _ (List.getElem?_eq_getElem hz)
      rw [Nat.zero_mul, show (a.add 0).add 0 = a by simp [Addr.add]] at h3
      obtain ⟨h4, h5⟩ := isCells_of h3
      obtain ⟨b, o, s⟩ := a
      simp only at h4 h5
      subst h5
      refine Hd.mk (b := b) (o := o) h1.symm hl (fun _ => ⟨rfl, h4⟩) (fun i x hx j cv hcv => ?_)
      have := hcell i x hx j cv hcv
      rwa [addr_add, addr_add] at this
  · obtain ⟨i, hi⟩ := List.getElem?_of_mem hx
    exact (h2 i x hi).1
theorem hreads_slice {t el : TypeId} {c d : Nat} {In : E.G.car c → Prop} {In' : E.G.car d → Prop} (f : List (E.G.car c) → E.G.car d) (hf : ∀ l, E.G.enc d (f l) = [.sl c l]) (hu : E.P.underlying t = some (.slice el)) (hR : HReads E el c In)
    (hn : 0 < E.G.sz c) (hc : E.P.cellsOf t = E.G.sz d) (hIn : ∀ l, (∀ x ∈ l, In x) → l.length ≤ 9223372036854775807 → In' (f l)) : HReads E t d In' :=
  ⟨hc, fun _ _ _ _ _ _ _ _ _ h => by
    obtain ⟨p, n, cap, l, rfl, h1, h2, h3⟩ := hslice_of hu hR hn h
    exact ⟨f l, by rw [hf]; exact hdL_one h1, hIn l h2 h3⟩⟩
theorem harg_agg {r : Reach} {b0 : Nat} {t : TypeId} {c : Nat} {fs : Array Field} {In : E.G.car c → Prop} {v : Value} {d : DataW H} {ps : List MemPlace} (hR : HReads E t c In) (hu : E.P.underlying t = some (.struct fs))
    (hval : Value.okWide E.P w r b0 t v) (h : DataW.Trod e E.P w base sp held t v d ps) : ∃ a : E.G.car c, ArgIs E (IsCells w) w (.v c true) a v ∧ In a := by
  obtain ⟨cs, rfl, _⟩ := okWide_struct hu hval
  obtain ⟨fuel, hf⟩ := h
  obtain ⟨a, h1, h2⟩ := hR.2 _ _ _ _ _ _ _ _ _ hf
  exact ⟨a, ⟨_, h1, rfl⟩, h2⟩
theorem harg_sl {r : Reach} {b0 : Nat} {t el : TypeId} {c : Nat} {In : E.G.car c → Prop} {v : Value} {d : DataW H} {ps : List MemPlace} (hu : E.P.underlying t = some (.slice el)) (hR : HReads E el c In) (hn : 0 < E.G.sz c)
    (hval : Value.okWide E.P w r b0 t v) (h : DataW.Trod e E.P w base sp held t v d ps) : ∃ a : List (E.G.car c), ArgIs E (IsCells w) w (.sl c) a v ∧ (∀ x ∈ a, In x) ∧ a.length ≤ 9223372036854775807 := by
  obtain ⟨p, n, cap, rfl⟩ := okWide_slice hu hval
  obtain ⟨fuel, hf⟩ := h
  obtain ⟨p', n', cap', l, h1, h2, h3, h4⟩ := hslice_of hu hR hn hf
  have h1 : [Value.slice p n cap] = [.slice p' n' cap'] := h1
  simp only [List.cons.injEq, and_true, Value.slice.injEq] at h1
  obtain ⟨rfl, rfl, rfl⟩ := h1
  exact ⟨l, h2, h3, h4⟩
theorem law_callsG {gl : List (Nat × Val E.G.car)} {k : Nat} {ps : List PK} {t : Nat} {es : List Nat} {f : AT E.G.car ps → Option (E.G.car t)} (hc : CSok E gl ⟨k, ps, [.v t false es], f⟩) (hg : GW E gl (IsCells w) w) (b : E.G.car t) (hb : E.G.enc t b = [.v (.bool true)])
    {vs : List Value} {xs : AT E.G.car ps} (ha : ArgsAre E (IsCells w) w ps xs vs) (hm : f xs = some b) :
    Calls E.P k vs.toArray w fun e w' => e = .returned (.bool true) ∧ Below w.heap.size w w' := by
  have h := hc.ok (IsCells w) w vs xs hg (fun _ h => h) ha b hm
  refine h.mono fun e' w' ⟨us, ms, A', h1, h2, _, _, _, h3, _⟩ => ⟨?_, h2⟩
  obtain ⟨v, rfl, us', h4, h5⟩ := h3
  simp only [Bool.false_eq_true, if_false] at h5
  subst h5
  have h4 : ResCells E.G A' w.heap.size w' (E.G.enc t b) es [v] ms := h4
  rw [hb] at h4
  obtain ⟨us2, h6, _⟩ := h4
  cases h6
  exact h1
theorem gw_nums {l : List Int} (hglo : E.glo = [(0, 0)]) (h : ∀ (j : Nat) (n : Int), l[j]? = some n → w.cell? ⟨0, j, none⟩ = some (.int .i64 n)) (hl : l ≠ []) :
    GW E [(0, .ro (l.map fun n => .v (.int .i64 n)))] (IsCells w) w := by
  refine ⟨fun _ => { b := 0, p := none, n := 0, c := 0 }, by rw [hglo]; intro p hp; rw [List.mem_singleton.1 hp], fun q hq => ?_⟩
  rw [List.mem_singleton.1 hq]
  refine ⟨?_, fun j cv hj => ?_⟩
  · cases l with
    | nil => exact absurd rfl hl
    | cons n r =>
      have h0 := h 0 n rfl
      show IsCells w 0
      unfold World.cell? at h0
      dsimp only at h0
      split at h0
      · rename_i cs _ _ he; exact ⟨_, he, rfl⟩
      · cases h0
  · rw [List.getElem?_map] at hj
    cases e : l[j]? with
    | none => rw [e] at hj; cases hj
    | some n =>
      rw [e] at hj
      simp only [Option.map_some, Option.some.injEq] at hj
      subst hj
      exact ⟨_, h j n e, .v _⟩
end
end Go.KX

namespace Go.Proofs.YtmfbcbbefepnpaaGreatDoor
open Go Go.KX Go.ChangeShapes Go.WideShapes Go.ChangeAt Go.RowKit
def strengths : List Int := [4000, 8000, 14000, 24000, 40000, 90000]
theorem own : ownKnob Tryz.prog.godebug = none := by kernel_rfl
theorem gStr : Tryz.prog.globalNamed "polynya/hull.strengths" = some 0 := by kernel_rfl
theorem tStr : ∃ t e, (Tryz.prog.globals[0]?).map (·.type) = some t ∧ Tryz.prog.underlying t = some (.array 6 e) ∧ Tryz.prog.underlying e = some (.int .i64) ∧ Tryz.prog.cellsOf e = 1 ∧ Tryz.prog.cellsOf t = 6 :=
  ⟨217, 3, by kernel_rfl, by kernel_rfl, by kernel_rfl, by kernel_rfl, by kernel_rfl⟩
abbrev laid1 : List (String × DataW Unit) := [("polynya/hull.strengths", Rows.laid_polynya_hull_strengths)]
theorem door_met (os : Os) (args : Array Value) : laidMetH Tryz.prog laid1 ((World.doorLaid Tryz.prog 400 os).forCall (fun _ _ => 0) ⟨#[], args, []⟩).memory :=
  laidMetH_of_parts3 (fuel := 8) (laidMet_of_run' 8 (by kernel_rfl) (by kernel_rfl)) (by kernel_rfl) (by kernel_rfl)
theorem of_laid {W : World} (h : laidMetH Tryz.prog laid1 W) : GW Bk.E Bk.gl (IsCells W) W := by
  rw [MakeChecks.laidMetH_plain _ _ _ (by kernel_rfl)] at h
  obtain ⟨ps, ⟨g0, t0, cs0, f0, p0, q0, hg0, ht0, hv0, hd0, _, _⟩, _, _⟩ := h
  obtain rfl := Option.some.inj (gStr.symm.trans hg0)
  obtain ⟨t, e, h1, h2, h3, h4, h5⟩ := tStr
  obtain rfl := Option.some.inj (h1.symm.trans ht0)
  obtain ⟨xs, m1, rfl, hx, hlen, hn, hel⟩ := DataW.trod_array h2 hd0
  rw [h5] at hlen
  have cell : ∀ i, W.cell? ⟨0, i, none⟩ = cs0[i]? := World.var?_cell hg0 hv0
  have one : ∀ i, i < 6 → ∃ n, cs0.toList[i]? = some (.int .i64 n) ∧ xs[i]? = some (.lit (.int .i64 n), []) := by
    intro i hi
    have h6 := hel i hi
    rw [h4] at h6
    have hxi : xs[i]? = some xs[i] := List.getElem?_eq_getElem (by omega)
    rw [hxi] at h6
    obtain ⟨n, e1, e2, _⟩ := DataW.trod_int h3 h6
    refine ⟨n, ?_, by rw [hxi, e2]⟩
    have : (cs0.toList.drop (i * 1)).take 1 = [Value.int .i64 n] := e1
    rw [Nat.mul_one] at this
    have h7 : ((cs0.toList.drop i).take 1)[0]? = some (.int .i64 n) := by rw [this]; rfl
    simpa [List.getElem?_take, List.getElem?_drop] using h7
  have val : ∀ i n, xs[i]? = some (.lit (.int .i64 n), []) → i < 6 → strengths[i]? = some n := by
    intro i n hi hlt
    simp only [Prod.mk.injEq, Rows.laid_polynya_hull_strengths] at hx
    have hm : (xs.map (·.1))[i]? = some (.lit (.int .i64 n)) := by simp [hi]
    have he : (xs.map (·.1)) = [.lit (.int .i64 4000), .lit (.int .i64 8000), .lit (.int .i64 14000), .lit (.int .i64 24000), .lit (.int .i64 40000), .lit (.int .i64 90000)] := by
      have := hx.1
      simp only [DataW.agg.injEq] at this
      exact this.symm
    rw [he] at hm
    unfold strengths
    match i, hlt with
    | 0, _ => simp_all
    | 1, _ => simp_all
    | 2, _ => simp_all
    | 3, _ => simp_all
    | 4, _ => simp_all
    | 5, _ => simp_all
  refine gw_nums (l := strengths) rfl (fun j n hj => ?_) (by simp [strengths])
  have hlt : j < 6 := by
    have := (List.getElem?_eq_some_iff.1 hj).1
    simpa [strengths] using this
  obtain ⟨m, e1, e2⟩ := one j hlt
  have h8 := val j m e2 hlt
  rw [h8] at hj
  cases hj
  rw [cell j]
  simpa using e1
end Go.Proofs.YtmfbcbbefepnpaaGreatDoor
