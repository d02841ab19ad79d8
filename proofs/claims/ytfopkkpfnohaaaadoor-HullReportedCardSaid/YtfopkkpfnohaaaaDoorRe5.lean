/- Texts HrH, HrLaw, HrAw, HrL, KFR, HrFrame: own work; each part says what it is. -/
import Derived.Test.YtfopkkpfnohaaaaDoorRe4
import Derived.Handed
import Derived.OpenShut
import Derived.ChangeSlices
import Derived.JoinedOf
import Derived.Test.YtfopkkpfnohaaaaDoorRows
import Derived.Test.YtfopkkpfnohaaaaDoorTie
import Derived.Test.YtfopkkpfnohaaaaDoorCards
import Derived.ProofKit
import Derived.LaidMore
import Derived.Stop.Joined
import Derived.SevenTiedAt
namespace Go.Proofs.Hr.H
open Go Go.KX
structure Member where
 Ship : Ship
abbrev Pt := Point
def pt (l : List Pt) (i : Int) : Pt := l.getD i.toNat ⟨0, 0⟩
def within (n a b : Int) : Bool := decide (n ≥ a) && decide (n ≤ b)
def curveAt (l : List Pt) (i : Int) : Bool :=
 within (pt l i).X 0 400 && within (pt l i).Y 0 20000 && !(decide (i > 0) && decide ((pt l i).X ≤ (pt l (i - 1)).X))
def curve (l : List Pt) : Bool := within (l.length : Int) 2 8 && ((pt l 0).X == 0) && (List.range l.length).all fun i => curveAt l (i : Int)
def steadyAt (l : List Pt) (way : Int) (i : Int) : Bool := !decide (((pt l i).Y - (pt l (i - 1)).Y) * way < 0)
def steady (l : List Pt) (way : Int) : Bool := curve l && (List.range (l.length - 1)).all fun i => steadyAt l way ((i + 1 : Nat) : Int)
def endX (l : List Pt) : Int := (pt l ((l.length : Int) - 1)).X
def valFrom (l : List Pt) (x : Int) : Nat → Nat → Int × Int
 | 0, _ => ((pt l ((l.length : Int) - 1)).Y, 1)
 | f + 1, i =>
  if x ≤ (pt l (i : Int)).X then
   ((pt l ((i : Int) - 1)).Y * ((pt l (i : Int)).X - (pt l ((i : Int) - 1)).X) + ((pt l (i : Int)).Y - (pt l ((i : Int) - 1)).Y) * (x - (pt l ((i : Int) - 1)).X), (pt l (i : Int)).X - (pt l ((i : Int) - 1)).X)
  else valFrom l x f (i + 1)
def value (l : List Pt) (x : Int) : Int × Int := valFrom l x (l.length - 1) 1
def Bd (l : List Pt) : Prop := ∀ i : Int, 0 ≤ i → i < l.length → 0 ≤ (pt l i).X ∧ (pt l i).X ≤ 400 ∧ 0 ≤ (pt l i).Y ∧ (pt l i).Y ≤ 20000
theorem mul_bd {x y A B : Int} (hx : -A ≤ x ∧ x ≤ A) (hy : -B ≤ y ∧ y ≤ B) : -(A * B) ≤ x * y ∧ x * y ≤ A * B := by
 have h1 : 0 ≤ (A - x) * (B + y) := Int.mul_nonneg (by omega) (by omega)
 have h2 : 0 ≤ (A + x) * (B - y) := Int.mul_nonneg (by omega) (by omega)
 have h3 : 0 ≤ (A - x) * (B - y) := Int.mul_nonneg (by omega) (by omega)
 have h4 : 0 ≤ (A + x) * (B + y) := Int.mul_nonneg (by omega) (by omega)
 simp only [Int.sub_mul, Int.mul_sub, Int.add_mul, Int.mul_add] at h1 h2 h3 h4
 constructor <;> omega
theorem curve_lt {l : List Pt} (h : curve l = true) : l ≠ [] ∧ 2 ≤ l.length ∧ l.length ≤ 8 := by
 simp only [curve, within, Bool.and_eq_true, decide_eq_true_eq] at h
 obtain ⟨⟨⟨h1, h2⟩, _⟩, _⟩ := h
 refine ⟨fun e => by subst e; simp at h1, by omega, by omega⟩
theorem curve_at {l : List Pt} (h : curve l = true) {i : Int} (h0 : 0 ≤ i) (h1 : i < l.length) : curveAt l i = true := by
 simp only [curve, Bool.and_eq_true, List.all_eq_true, List.mem_range] at h
 have := h.2 i.toNat (by omega)
 rwa [Int.toNat_of_nonneg h0] at this
theorem curve_bd {l : List Pt} (h : curve l = true) : Bd l := by
 intro i h0 h1
 have := curve_at h h0 h1
 simp only [curveAt, within, Bool.and_eq_true, decide_eq_true_eq] at this
 omega
def rule1 (s : Ship) : Bool := within s.Class 1 6
def rule2 (s : Ship) : Bool := within s.Power 100 100000 && within s.Draught 10 2000 && within s.Tonnes 10 500000
def rule3 (s : Ship) : Bool := within s.Slow 0 20 && within s.Brash 0 100 && within s.Ridge 0 500 && within s.Press 0 5000
def rule4 (s : Ship) : Bool := steady s.Thrust (-1) && within (endX s.Thrust) 10 250
def rule5 (s : Ship) : Bool := steady s.Water 1 && decide (endX s.Water ≤ 250)
def rule6 (s : Ship) : Bool := steady s.Ice 1 && ((pt s.Ice 0).Y == 0) && (endX s.Ice == 400)
def check (s : Ship) : Int :=
 if rule1 s = false then 41 else if rule2 s = false then 40 else if rule3 s = false then 40 else if rule4 s = false then 40 else if rule5 s = false then 40 else if rule6 s = false then 40 else 0
structure GoodM (m : Member) : Prop where
 ship : check m.Ship = 0
theorem steady_curve {l : List Pt} {w : Int} (h : steady l w = true) : curve l = true := by
 simp only [steady, Bool.and_eq_true] at h; exact h.1
theorem b1 {a b c : Bool} : (!a || !b || c) = true → (a && b && !c) = false := by cases a <;> cases b <;> cases c <;> simp
theorem b3 {a b c : Bool} : (!a || !b || c) = false → (a && b && !c) = true := by cases a <;> cases b <;> cases c <;> simp
theorem b4 {a : Bool} : a = false → (!a) = true := by cases a <;> simp
theorem b2 {a : Bool} : a = true → (!a) = false := by cases a <;> simp
theorem steady_len {l : List Pt} {w : Int} (h : steady l w = true) : 2 ≤ l.length ∧ l.length ≤ 8 := (curve_lt (steady_curve h)).2
theorem curve_no1 {l : List Pt} (h : (!within (l.length : Int) 2 8 || (pt l 0).X != 0) = true) : curve l = false := by
 cases h1 : within (l.length : Int) 2 8 <;> simp_all [curve]
theorem curve_no2 {l : List Pt} {k : Nat} (hk : k < l.length) (h : curveAt l (k : Int) = false) : curve l = false := by
 cases hc : curve l with
 | false => rfl
 | true => have := curve_at hc (i := (k : Int)) (by omega) (by omega); rw [h] at this; cases this
theorem curve_yes {l : List Pt} {k : Nat} (h1 : within (l.length : Int) 2 8 = true) (h2 : (pt l 0).X = 0) (h : ∀ j < k, curveAt l (j : Int) = true) (hk : l.length ≤ k) : curve l = true := by
 simp only [curve, h1, h2, beq_self_eq_true, Bool.and_self, Bool.true_and, List.all_eq_true, List.mem_range]
 exact fun i hi => h i (by omega)
theorem steady_no {l : List Pt} {w : Int} {k : Nat} (h1 : 1 ≤ k) (hk : k < l.length) (h : steadyAt l w (k : Int) = false) : steady l w = false := by
 cases hs : steady l w with
 | false => rfl
 | true =>
  simp only [steady, Bool.and_eq_true, List.all_eq_true, List.mem_range] at hs
  have := hs.2 (k - 1) (by omega)
  rw [show k - 1 + 1 = k by omega, h] at this
  cases this
theorem steady_yes {l : List Pt} {w : Int} {k : Nat} (hc : curve l = true) (h : ∀ j < k, 1 ≤ j → steadyAt l w (j : Int) = true) (hk : l.length ≤ k) : steady l w = true := by
 simp only [steady, hc, Bool.true_and, List.all_eq_true, List.mem_range]
 exact fun i hi => h (i + 1) (by omega) (by omega)
theorem mul_nn {x y a A b B : Int} (hx : a ≤ x ∧ x ≤ A) (hy : b ≤ y ∧ y ≤ B) (ha : 0 ≤ a) (hb : 0 ≤ b) : a * b ≤ x * y ∧ x * y ≤ A * B := by
 constructor
 ·exact Int.mul_le_mul hx.1 hy.1 hb (by omega)
 ·exact Int.mul_le_mul hx.2 hy.2 (by omega) (by omega)
theorem valFrom_bd {l : List Pt} (hc : curve l = true) {x : Int} (_hx : 0 ≤ x) : ∀ (f i : Nat), 1 ≤ i → i + f = l.length → (pt l ((i : Int) - 1)).X ≤ x →
  1 ≤ (valFrom l x f i).2 ∧ (valFrom l x f i).2 ≤ 400 ∧ 0 ≤ (valFrom l x f i).1 ∧ (valFrom l x f i).1 ≤ 20000 * (valFrom l x f i).2 := by
 have hB := curve_bd hc
 have hlen := (curve_lt hc).2
 intro f
 induction f with
 | zero =>
  intro i h1 h2 h3
  have := hB ((l.length : Int) - 1) (by omega) (by omega)
  simp only [valFrom]
  omega
 | succ f ih =>
  intro i h1 h2 h3
  have ha := hB ((i : Int) - 1) (by omega) (by omega)
  have hb := hB (i : Int) (by omega) (by omega)
  have hat := curve_at hc (i := (i : Int)) (by omega) (by omega)
  simp only [valFrom]
  by_cases hle : x ≤ (pt l (i : Int)).X
  ·rw [if_pos hle]
   have hlt : (pt l ((i : Int) - 1)).X < (pt l (i : Int)).X := by
    simp only [curveAt, Bool.and_eq_true, Bool.not_eq_true', Bool.and_eq_false_iff, decide_eq_false_iff_not] at hat
    rcases hat.2 with h | h <;> omega
   refine ⟨by omega, by omega, ?_, ?_⟩
   all_goals
    have e1 : (pt l ((i : Int) - 1)).Y * ((pt l (i : Int)).X - (pt l ((i : Int) - 1)).X) + ((pt l (i : Int)).Y - (pt l ((i : Int) - 1)).Y) * (x - (pt l ((i : Int) - 1)).X) =
     (pt l ((i : Int) - 1)).Y * ((pt l (i : Int)).X - x) + (pt l (i : Int)).Y * (x - (pt l ((i : Int) - 1)).X) := by
     simp only [Int.sub_mul, Int.mul_sub]; omega
    have p1 := Int.mul_nonneg (a := (pt l ((i : Int) - 1)).Y) (b := (pt l (i : Int)).X - x) (by omega) (by omega)
    have p2 := Int.mul_nonneg (a := (pt l (i : Int)).Y) (b := x - (pt l ((i : Int) - 1)).X) (by omega) (by omega)
    have p3 := Int.mul_le_mul_of_nonneg_right (a := (pt l ((i : Int) - 1)).Y) (b := 20000) (c := (pt l (i : Int)).X - x) (by omega) (by omega)
    have p4 := Int.mul_le_mul_of_nonneg_right (a := (pt l (i : Int)).Y) (b := 20000) (c := x - (pt l ((i : Int) - 1)).X) (by omega) (by omega)
    rw [e1]
    simp only []
    omega
  ·rw [if_neg hle]
   exact ih (i + 1) (by omega) (by omega) (by rw [show ((i + 1 : Nat) : Int) - 1 = (i : Int) by omega]; omega)
theorem curve_x0 {l : List Pt} (hc : curve l = true) : (pt l 0).X = 0 := by
 simp only [curve, Bool.and_eq_true, beq_iff_eq] at hc
 exact hc.1.2
theorem value_bd {l : List Pt} (hc : curve l = true) {x : Int} (hx : 0 ≤ x) : 1 ≤ (value l x).2 ∧ (value l x).2 ≤ 400 ∧ 0 ≤ (value l x).1 ∧ (value l x).1 ≤ 20000 * (value l x).2 := by
 have hlen := (curve_lt hc).2
 exact valFrom_bd hc hx _ 1 (Nat.le_refl 1) (by omega) (by have := curve_x0 hc; simp; omega)
def firstI (c : Cell) : Ice := ⟨c.Conc.Lo, c.Thick.Lo, c.Ridge.Lo, c.Press.Lo⟩
def lastI (c : Cell) : Ice := ⟨c.Conc.Hi, c.Thick.Hi, c.Ridge.Hi, c.Press.Hi⟩
def inI (a b c : Int) : Bool := decide (a ≥ b) && decide (a ≤ c)
def goodIce (i : Ice) : Prop := (0 ≤ i.Conc ∧ i.Conc ≤ 100) ∧ (0 ≤ i.Thick ∧ i.Thick ≤ 400) ∧ (0 ≤ i.Ridge ∧ i.Ridge ≤ 100) ∧ (0 ≤ i.Press ∧ i.Press ≤ 3)
theorem goodIce_bd {i : Ice} (h : goodIce i) : (0 ≤ i.Conc ∧ i.Conc ≤ 100) ∧ (0 ≤ i.Thick ∧ i.Thick ≤ 400) ∧ (0 ≤ i.Ridge ∧ i.Ridge ≤ 100) ∧ (0 ≤ i.Press ∧ i.Press ≤ 3) := h
def loadI (i : Ice) (v : Int) (ch : Bool) : Int :=
 if i.Conc = 0 then 0
 else (if ch then (i.Thick * (100 + v) + 1) / 2 else i.Thick * (100 + v)) + 300 * (if ch then 0 else i.Ridge) + 2000 * i.Press
theorem check_rules {s : Ship} (h : check s = 0) : rule1 s = true ∧ rule2 s = true ∧ rule3 s = true ∧ rule4 s = true ∧ rule5 s = true ∧ rule6 s = true := by
 unfold check at h
 refine ⟨?_, ?_, ?_, ?_, ?_, ?_⟩
 ·cases e : rule1 s <;> simp_all
 ·cases e : rule2 s <;> cases e1 : rule1 s <;> simp_all
 ·cases e : rule3 s <;> cases e1 : rule1 s <;> cases e2 : rule2 s <;> simp_all
 ·cases e : rule4 s <;> cases e1 : rule1 s <;> cases e2 : rule2 s <;> cases e3 : rule3 s <;> simp_all
 ·cases e : rule5 s <;> cases e1 : rule1 s <;> cases e2 : rule2 s <;> cases e3 : rule3 s <;> cases e4 : rule4 s <;> simp_all
 ·cases e : rule6 s <;> cases e1 : rule1 s <;> cases e2 : rule2 s <;> cases e3 : rule3 s <;> cases e4 : rule4 s <;> cases e5 : rule5 s <;> simp_all
theorem check_steadyThrust {s : Ship} (h : check s = 0) : steady s.Thrust (-1) = true := by
 have := (check_rules h).2.2.2.1; simp only [rule4, Bool.and_eq_true] at this; exact this.1
theorem check_steadyWater {s : Ship} (h : check s = 0) : steady s.Water 1 = true := by
 have := (check_rules h).2.2.2.2.1; simp only [rule5, Bool.and_eq_true] at this; exact this.1
theorem check_steadyIce {s : Ship} (h : check s = 0) : steady s.Ice 1 = true := by
 have := (check_rules h).2.2.2.2.2; simp only [rule6, Bool.and_eq_true] at this; exact this.1.1
theorem check_curveThrust {s : Ship} (h : check s = 0) : curve s.Thrust = true := steady_curve (check_steadyThrust h)
theorem check_curveWater {s : Ship} (h : check s = 0) : curve s.Water = true := steady_curve (check_steadyWater h)
theorem check_curveIce {s : Ship} (h : check s = 0) : curve s.Ice = true := steady_curve (check_steadyIce h)
theorem check_bd {s : Ship} (h : check s = 0) : (1 ≤ s.Class ∧ s.Class ≤ 6) ∧ (100 ≤ s.Power ∧ s.Power ≤ 100000) ∧ (0 ≤ s.Slow ∧ s.Slow ≤ 20) ∧ (0 ≤ s.Brash ∧ s.Brash ≤ 100) ∧ (0 ≤ s.Ridge ∧ s.Ridge ≤ 500) ∧ (0 ≤ s.Press ∧ s.Press ≤ 5000) := by
 obtain ⟨h1, h2, h3, _⟩ := check_rules h
 simp only [rule1, rule2, rule3, within, Bool.and_eq_true, decide_eq_true_eq] at h1 h2 h3
 omega
def thrust (s : Ship) (v : Int) : Int := (value s.Thrust v).1 / (value s.Thrust v).2
def resN (s : Ship) (i : Ice) (ch : Bool) (v : Int) : Int :=
 i.Conc * ((value s.Ice i.Thick).1 * (1000 + s.Slow * v) * (if ch = true then s.Brash else 100) + s.Ridge * (if ch = true then 0 else i.Ridge) * (value s.Ice i.Thick).2 * 100000)
def resistance (s : Ship) (i : Ice) (ch : Bool) (v : Int) : Int :=
 ((value s.Water v).1 * ((value s.Ice i.Thick).2 * 10000000) + resN s i ch v * (value s.Water v).2 + s.Press * i.Press * (value s.Water v).2 * ((value s.Ice i.Thick).2 * 10000000)
  + (value s.Water v).2 * ((value s.Ice i.Thick).2 * 10000000) - 1) / ((value s.Water v).2 * ((value s.Ice i.Thick).2 * 10000000))
def makes (s : Ship) (i : Ice) (ch : Bool) (v : Int) : Bool := decide (v ≤ endX s.Thrust) && decide (thrust s v ≥ resistance s i ch v)
def strengths : List Int := [4000, 8000, 14000, 24000, 40000, 90000]
def bears (s : Ship) (i : Ice) (ch : Bool) (v : Int) : Bool := decide (loadI i v ch ≤ strengths.getD (s.Class - 1).toNat 0)
def greatFrom (so : Int → Bool) : Nat → Int → Int → Int
 | 0, lo, _ => lo
 | f + 1, lo, hi => if lo < hi then (if so (lo + (hi - lo + 1) / 2) = true then greatFrom so f (lo + (hi - lo + 1) / 2) hi else greatFrom so f lo (lo + (hi - lo + 1) / 2 - 1)) else lo
def great (so : Int → Bool) (lo hi : Int) : Int := greatFrom so (hi - lo).toNat lo hi
theorem greatFrom_fuel {so : Int → Bool} : ∀ {f g : Nat} {lo hi : Int}, (hi - lo).toNat ≤ f → (hi - lo).toNat ≤ g → greatFrom so f lo hi = greatFrom so g lo hi := by
 intro f
 induction f with
 | zero =>
  intro g lo hi h1 _
  cases g with
  | zero => rfl
  | succ g => simp only [greatFrom]; rw [if_neg (by omega)]
 | succ f ih =>
  intro g lo hi h1 h2
  cases g with
  | zero => simp only [greatFrom]; rw [if_neg (by omega)]
  | succ g =>
   simp only [greatFrom]
   by_cases h : lo < hi
   ·rw [if_pos h, if_pos h]
    rw [ih (g := g) (lo := lo + (hi - lo + 1) / 2) (hi := hi) (by omega) (by omega), ih (g := g) (lo := lo) (hi := lo + (hi - lo + 1) / 2 - 1) (by omega) (by omega)]
   ·rw [if_neg h, if_neg h]
theorem great_step {so : Int → Bool} {lo hi : Int} (h : lo < hi) : great so lo hi = if so (lo + (hi - lo + 1) / 2) = true then great so (lo + (hi - lo + 1) / 2) hi else great so lo (lo + (hi - lo + 1) / 2 - 1) := by
 unfold great
 rw [show (hi - lo).toNat = ((hi - lo).toNat - 1) + 1 by omega, greatFrom, if_pos h]
 rw [greatFrom_fuel (f := (hi - lo).toNat - 1) (g := (hi - (lo + (hi - lo + 1) / 2)).toNat) (lo := lo + (hi - lo + 1) / 2) (by omega) (by omega),
  greatFrom_fuel (f := (hi - lo).toNat - 1) (g := ((lo + (hi - lo + 1) / 2 - 1) - lo).toNat) (lo := lo) (hi := lo + (hi - lo + 1) / 2 - 1) (by omega) (by omega)]
theorem great_done {so : Int → Bool} {lo hi : Int} (h : ¬ lo < hi) : great so lo hi = lo := by
 unfold great
 rw [show (hi - lo).toNat = 0 by omega, greatFrom]
def greatest (so : Int → Bool) (lo hi : Int) : Int × Bool := if so lo = true then (great so lo hi, true) else (0, false)
def speed (s : Ship) (i : Ice) (ch : Bool) : Int := (greatest (fun v => makes s i ch v) 0 250).1
def goes (s : Ship) (i : Ice) (ch : Bool) : Int × Bool := greatest (fun v => makes s i ch v && bears s i ch v) 10 250
def all4 (so : Int → Bool) : Bool := so 0 && so 1 && so 2 && so 3
def rightS (s : Span) (n : Int) : Bool := inI s.Lo 0 (([100, 400, 100, 3] : List Int).getD n.toNat 0) && inI s.Hi s.Lo (([100, 400, 100, 3] : List Int).getD n.toNat 0)
def checkCell (c : Cell) : Int :=
 if all4 (fun n => rightS (([c.Conc, c.Thick, c.Ridge, c.Press] : List Span).getD n.toNat ⟨0, 0⟩) n) = false then 20 else 0
theorem ite_err {c : Bool} {e : Int} (he : e ≠ 0) : (if c = false then e else 0) = 0 ↔ c = true := by cases c <;> simp [he]
def goodSpan (s : Span) (n : Int) : Prop := 0 ≤ s.Lo ∧ s.Lo ≤ s.Hi ∧ s.Hi ≤ n
def goodCell (c : Cell) : Prop := goodSpan c.Conc 100 ∧ goodSpan c.Thick 400 ∧ goodSpan c.Ridge 100 ∧ goodSpan c.Press 3
theorem checkCell_ok {c : Cell} : checkCell c = 0 ↔ goodCell c := by
 unfold checkCell
 rw [ite_err (by decide)]
 simp only [all4, rightS, inI, Bool.and_eq_true, decide_eq_true_eq, goodCell, goodSpan]
 constructor
 ·rintro ⟨⟨⟨⟨⟨_, _⟩, _, _⟩, ⟨_, _⟩, _, _⟩, ⟨_, _⟩, _, _⟩, ⟨_, _⟩, _, _⟩
  exact ⟨⟨by assumption, by assumption, by assumption⟩, ⟨by assumption, by assumption, by assumption⟩, ⟨by assumption, by assumption, by assumption⟩, ⟨by assumption, by assumption, by assumption⟩⟩
 ·rintro ⟨⟨h1, h2, h3⟩, ⟨h4, h5, h6⟩, ⟨h7, h8, h9⟩, ⟨h10, h11, h12⟩⟩
  exact ⟨⟨⟨⟨⟨h1, Int.le_trans h2 h3⟩, h2, h3⟩, ⟨h4, Int.le_trans h5 h6⟩, h5, h6⟩, ⟨h7, Int.le_trans h8 h9⟩, h8, h9⟩, ⟨h10, Int.le_trans h11 h12⟩, h11, h12⟩
theorem goodCell_last {c : Cell} (h : goodCell c) : goodIce (lastI c) := by
 obtain ⟨⟨_, _, _⟩, ⟨_, _, _⟩, ⟨_, _, _⟩, ⟨_, _, _⟩⟩ := h
 simp only [goodIce, lastI]; omega
theorem goodCell_first {c : Cell} (h : goodCell c) : goodIce (firstI c) := by
 obtain ⟨⟨_, _, _⟩, ⟨_, _, _⟩, ⟨_, _, _⟩, ⟨_, _, _⟩⟩ := h
 simp only [goodIce, firstI]; omega
def met (s : Ship) (c : Cell) : Int := if check s ≠ 0 then check s else checkCell c
def safe (s : Ship) (c : Cell) (ch : Bool) : Int × Int :=
 if speed s (lastI c) ch < 10 then (0, 4) else if (goes s (lastI c) ch).2 = false then (0, 41) else ((goes s (lastI c) ch).1, 0)
theorem mulL {a b c : Int} (h : a ≤ b) (hc : 0 ≤ c) : c * a ≤ c * b := Int.mul_le_mul_of_nonneg_left h hc
theorem mulR {a b c : Int} (h : a ≤ b) (hc : 0 ≤ c) : a * c ≤ b * c := Int.mul_le_mul_of_nonneg_right h hc
theorem ceil_mono {a b c d : Int} (hb : 0 < b) (hd : 0 < d) (h : a * d ≤ c * b) : (a + b - 1) / b ≤ (c + d - 1) / d := by
 have h1 := Int.lt_mul_ediv_self_add (x := c + d - 1) hd
 have h2 : c ≤ d * ((c + d - 1) / d) := by omega
 have h3 : c * b ≤ d * ((c + d - 1) / d) * b := mulR h2 (by omega)
 have h4 : a * d ≤ ((c + d - 1) / d * b) * d := by
  have e : d * ((c + d - 1) / d) * b = ((c + d - 1) / d * b) * d := by ac_rfl
  omega
 have h5 : a ≤ (c + d - 1) / d * b := Int.le_of_mul_le_mul_right h4 hd
 have h6 : (a + b - 1) / b < (c + d - 1) / d + 1 := Int.ediv_lt_of_lt_mul hb (by rw [Int.add_mul]; omega)
 omega
theorem floor_mono {a b c d : Int} (hb : 0 < b) (hd : 0 < d) (h : a * d ≤ c * b) : a / b ≤ c / d := by
 have h1 : a / b * b ≤ a := Int.ediv_mul_le a (by omega)
 refine Int.le_ediv_of_mul_le hd ?_
 have h2 : a / b * b * d ≤ a * d := mulR h1 (by omega)
 have h3 : (a / b * d) * b ≤ c * b := by
  have e : a / b * b * d = (a / b * d) * b := by ac_rfl
  omega
 exact Int.le_of_mul_le_mul_right h3 hb
def vf (X Z : Nat → Int) (n : Nat) (x : Int) : Nat → Nat → Int × Int
 | 0, _ => (Z (n - 1), 1)
 | f + 1, i => if x ≤ X i then (Z (i - 1) * (X i - X (i - 1)) + (Z i - Z (i - 1)) * (x - X (i - 1)), X i - X (i - 1)) else vf X Z n x f (i + 1)
theorem vf_ge {X Z : Nat → Int} {n : Nat} (hX : ∀ i, 1 ≤ i → i < n → X (i - 1) < X i) (hZ : ∀ i, 1 ≤ i → i < n → Z (i - 1) ≤ Z i) {x : Int} : ∀ (f i : Nat), 1 ≤ i → i + f = n → X (i - 1) ≤ x →
  1 ≤ (vf X Z n x f i).2 ∧ Z (i - 1) * (vf X Z n x f i).2 ≤ (vf X Z n x f i).1 := by
 intro f
 induction f with
 | zero => intro i h1 h2 h3; simp only [vf]; rw [show n - 1 = i - 1 by omega]; omega
 | succ f ih =>
  intro i h1 h2 h3
  simp only [vf]
  have hx := hX i h1 (by omega)
  have hz := hZ i h1 (by omega)
  by_cases h : x ≤ X i
  ·rw [if_pos h]
   have := Int.mul_nonneg (a := Z i - Z (i - 1)) (b := x - X (i - 1)) (by omega) (by omega)
   simp only []
   omega
  ·rw [if_neg h]
   obtain ⟨h4, h5⟩ := ih (i + 1) (by omega) (by omega) (by rw [show i + 1 - 1 = i by omega]; omega)
   rw [show i + 1 - 1 = i by omega] at h5
   have := mulR hz (c := (vf X Z n x f (i + 1)).2) (by omega)
   exact ⟨h4, by omega⟩
theorem vf_mono {X Z : Nat → Int} {n : Nat} (hX : ∀ i, 1 ≤ i → i < n → X (i - 1) < X i) (hZ : ∀ i, 1 ≤ i → i < n → Z (i - 1) ≤ Z i) {x y : Int} (hxy : x ≤ y) : ∀ (f i : Nat), 1 ≤ i → i + f = n → X (i - 1) ≤ x →
  (vf X Z n x f i).1 * (vf X Z n y f i).2 ≤ (vf X Z n y f i).1 * (vf X Z n x f i).2 := by
 intro f
 induction f with
 | zero => intro i _ _ _; simp only [vf]; omega
 | succ f ih =>
  intro i h1 h2 h3
  simp only [vf]
  have hx := hX i h1 (by omega)
  have hz := hZ i h1 (by omega)
  by_cases h : x ≤ X i
  ·rw [if_pos h]
   by_cases hy : y ≤ X i
   ·rw [if_pos hy]
    simp only []
    refine mulR ?_ (by omega)
    have := mulL (a := x - X (i - 1)) (b := y - X (i - 1)) (c := Z i - Z (i - 1)) (by omega) (by omega)
    omega
   ·rw [if_neg hy]
    obtain ⟨h4, h5⟩ := vf_ge hX hZ (x := y) f (i + 1) (by omega) (by omega) (by rw [show i + 1 - 1 = i by omega]; omega)
    rw [show i + 1 - 1 = i by omega] at h5
    simp only []
    have h6 : Z (i - 1) * (X i - X (i - 1)) + (Z i - Z (i - 1)) * (x - X (i - 1)) ≤ Z i * (X i - X (i - 1)) := by
     have := mulL (a := x - X (i - 1)) (b := X i - X (i - 1)) (c := Z i - Z (i - 1)) (by omega) (by omega)
     rw [Int.sub_mul (Z i) (Z (i - 1)) (X i - X (i - 1))] at this
     omega
    have h7 := mulR h6 (c := (vf X Z n y f (i + 1)).2) (by omega)
    have h8 := mulR h5 (c := X i - X (i - 1)) (by omega)
    have e : Z i * (X i - X (i - 1)) * (vf X Z n y f (i + 1)).2 = Z i * (vf X Z n y f (i + 1)).2 * (X i - X (i - 1)) := by ac_rfl
    omega
  ·rw [if_neg h, if_neg (by omega)]
   exact ih (i + 1) (by omega) (by omega) (by rw [show i + 1 - 1 = i by omega]; omega)
theorem valFrom_vf {l : List Pt} {x : Int} : ∀ (f i : Nat), 1 ≤ i → i + f = l.length → valFrom l x f i = vf (fun i => (pt l (i : Int)).X) (fun i => (pt l (i : Int)).Y) l.length x f i := by
 intro f
 induction f with
 | zero => intro i h1 h2; simp only [valFrom, vf]; rw [show ((l.length - 1 : Nat) : Int) = (l.length : Int) - 1 by omega]
 | succ f ih =>
  intro i h1 h2
  simp only [valFrom, vf]
  rw [show ((i - 1 : Nat) : Int) = (i : Int) - 1 by omega, ih (i + 1) (by omega) (by omega)]
theorem vf_neg {X Z : Nat → Int} {n : Nat} {x : Int} : ∀ (f i : Nat), vf X (fun i => -Z i) n x f i = (-(vf X Z n x f i).1, (vf X Z n x f i).2) := by
 intro f
 induction f with
 | zero => intro i; rfl
 | succ f ih =>
  intro i
  simp only [vf]
  by_cases h : x ≤ X i
  ·rw [if_pos h, if_pos h]
   simp only [Prod.mk.injEq, and_true]
   rw [show -Z i - -Z (i - 1) = -(Z i - Z (i - 1)) by omega, Int.neg_mul, Int.neg_mul, Int.neg_add]
  ·rw [if_neg h, if_neg h]; exact ih (i + 1)
theorem steady_at {l : List Pt} {w : Int} (h : steady l w = true) {i : Nat} (h1 : 1 ≤ i) (h2 : i < l.length) : 0 ≤ ((pt l (i : Int)).Y - (pt l ((i : Int) - 1)).Y) * w := by
 simp only [steady, Bool.and_eq_true, List.all_eq_true, List.mem_range] at h
 have := h.2 (i - 1) (by omega)
 rw [show i - 1 + 1 = i by omega] at this
 simp only [steadyAt, Bool.not_eq_true', decide_eq_false_iff_not] at this
 omega
theorem curve_up {l : List Pt} (hc : curve l = true) {i : Nat} (h1 : 1 ≤ i) (h2 : i < l.length) : (pt l ((i - 1 : Nat) : Int)).X < (pt l (i : Int)).X := by
 have hat := curve_at hc (i := (i : Int)) (by omega) (by omega)
 simp only [curveAt, Bool.and_eq_true, Bool.not_eq_true', Bool.and_eq_false_iff, decide_eq_false_iff_not] at hat
 rw [show ((i - 1 : Nat) : Int) = (i : Int) - 1 by omega]
 rcases hat.2 with h | h <;> omega
theorem value_up {l : List Pt} (h : steady l 1 = true) {x y : Int} (hx : 0 ≤ x) (hxy : x ≤ y) : (value l x).1 * (value l y).2 ≤ (value l y).1 * (value l x).2 := by
 have hc := steady_curve h
 have hlen := (curve_lt hc).2
 have h0 := curve_x0 hc
 unfold value
 rw [valFrom_vf _ 1 (Nat.le_refl 1) (by omega), valFrom_vf _ 1 (Nat.le_refl 1) (by omega)]
 refine vf_mono (fun i h1 h2 => curve_up hc h1 h2) (fun i h1 h2 => ?_) hxy _ 1 (Nat.le_refl 1) (by omega) (by simp; omega)
 have := steady_at h h1 h2
 rw [show ((i - 1 : Nat) : Int) = (i : Int) - 1 by omega]
 omega
theorem value_down {l : List Pt} (h : steady l (-1) = true) {x y : Int} (hx : 0 ≤ x) (hxy : x ≤ y) : (value l y).1 * (value l x).2 ≤ (value l x).1 * (value l y).2 := by
 have hc := steady_curve h
 have hlen := (curve_lt hc).2
 have h0 := curve_x0 hc
 unfold value
 rw [valFrom_vf _ 1 (Nat.le_refl 1) (by omega), valFrom_vf _ 1 (Nat.le_refl 1) (by omega)]
 have := vf_mono (X := fun i => (pt l (i : Int)).X) (Z := fun i => -(pt l (i : Int)).Y) (n := l.length) (fun i h1 h2 => curve_up hc h1 h2) (fun i h1 h2 => by
  have := steady_at h h1 h2
  rw [show ((i - 1 : Nat) : Int) = (i : Int) - 1 by omega]
  omega) hxy (l.length - 1) 1 (Nat.le_refl 1) (by omega) (by simp; omega)
 rw [vf_neg, vf_neg] at this
 simp only [Int.neg_mul] at this
 omega
def resG (w wd n d c A sh R rd P : Int) : Int :=
 (w * (d * 10000000) + c * (n * A * sh + R * rd * d * 100000) * wd + P * wd * (d * 10000000) + wd * (d * 10000000) - 1) / (wd * (d * 10000000))
theorem resG_mono {w wd n d c A sh R rd P w' wd' n' d' c' A' sh' rd' P' : Int} (hwd : 0 < wd) (hd : 0 < d) (hwd' : 0 < wd') (hd' : 0 < d') (hn : 0 ≤ n) (hn' : 0 ≤ n') (hc : 0 ≤ c) (hA : 0 ≤ A) (hsh : 0 ≤ sh) (hR : 0 ≤ R) (hrd : 0 ≤ rd)
  (h1 : w * wd' ≤ w' * wd) (h2 : n * d' ≤ n' * d) (h3 : c ≤ c') (h4 : A ≤ A') (h5 : sh ≤ sh') (h6 : rd ≤ rd') (h7 : P ≤ P') :
  resG w wd n d c A sh R rd P ≤ resG w' wd' n' d' c' A' sh' R rd' P' := by
 unfold resG
 have pd : 0 < d * 10000000 := by omega
 have pd' : 0 < d' * 10000000 := by omega
 refine ceil_mono (Int.mul_pos hwd pd) (Int.mul_pos hwd' pd') ?_
 have t1 : w * (d * 10000000) * (wd' * (d' * 10000000)) ≤ w' * (d' * 10000000) * (wd * (d * 10000000)) := by
  have := mulR h1 (c := (d * 10000000) * (d' * 10000000)) (Int.le_of_lt (Int.mul_pos pd pd'))
  have e1 : w * (d * 10000000) * (wd' * (d' * 10000000)) = w * wd' * ((d * 10000000) * (d' * 10000000)) := by ac_rfl
  have e2 : w' * (d' * 10000000) * (wd * (d * 10000000)) = w' * wd * ((d * 10000000) * (d' * 10000000)) := by ac_rfl
  omega
 have t3 : P * wd * (d * 10000000) * (wd' * (d' * 10000000)) ≤ P' * wd' * (d' * 10000000) * (wd * (d * 10000000)) := by
  have := mulR h7 (c := wd * (d * 10000000) * (wd' * (d' * 10000000))) (Int.le_of_lt (Int.mul_pos (Int.mul_pos hwd pd) (Int.mul_pos hwd' pd')))
  have e1 : P * wd * (d * 10000000) * (wd' * (d' * 10000000)) = P * (wd * (d * 10000000) * (wd' * (d' * 10000000))) := by ac_rfl
  have e2 : P' * wd' * (d' * 10000000) * (wd * (d * 10000000)) = P' * (wd * (d * 10000000) * (wd' * (d' * 10000000))) := by ac_rfl
  omega
 have a1 : n * A * sh * d' ≤ n' * A' * sh' * d := by
  have hA' : A * sh ≤ A' * sh' := Int.mul_le_mul h4 h5 hsh (by omega)
  have := Int.mul_le_mul h2 hA' (Int.mul_nonneg hA hsh) (Int.mul_nonneg hn' (by omega))
  have e1 : n * A * sh * d' = n * d' * (A * sh) := by ac_rfl
  have e2 : n' * A' * sh' * d = n' * d * (A' * sh') := by ac_rfl
  omega
 have a2 : R * rd * d * 100000 * d' ≤ R * rd' * d' * 100000 * d := by
  have := mulR (mulL h6 hR) (c := d * 100000 * d') (Int.mul_nonneg (by omega) (by omega))
  have e1 : R * rd * d * 100000 * d' = R * rd * (d * 100000 * d') := by ac_rfl
  have e2 : R * rd' * d' * 100000 * d = R * rd' * (d * 100000 * d') := by ac_rfl
  omega
 have hin : (n * A * sh + R * rd * d * 100000) * d' ≤ (n' * A' * sh' + R * rd' * d' * 100000) * d := by rw [Int.add_mul, Int.add_mul]; omega
 have pin : 0 ≤ (n * A * sh + R * rd * d * 100000) * d' :=
  Int.mul_nonneg (Int.add_nonneg (Int.mul_nonneg (Int.mul_nonneg hn hA) hsh) (Int.mul_nonneg (Int.mul_nonneg (Int.mul_nonneg hR hrd) (by omega)) (by omega))) (by omega)
 have hcin := Int.mul_le_mul h3 hin pin (by omega : 0 ≤ c')
 have t2 : c * (n * A * sh + R * rd * d * 100000) * wd * (wd' * (d' * 10000000)) ≤ c' * (n' * A' * sh' + R * rd' * d' * 100000) * wd' * (wd * (d * 10000000)) := by
  have := mulR hcin (c := wd * wd' * 10000000) (Int.mul_nonneg (Int.mul_nonneg (by omega) (by omega)) (by omega))
  have e1 : c * (n * A * sh + R * rd * d * 100000) * wd * (wd' * (d' * 10000000)) = c * ((n * A * sh + R * rd * d * 100000) * d') * (wd * wd' * 10000000) := by ac_rfl
  have e2 : c' * (n' * A' * sh' + R * rd' * d' * 100000) * wd' * (wd * (d * 10000000)) = c' * ((n' * A' * sh' + R * rd' * d' * 100000) * d) * (wd * wd' * 10000000) := by ac_rfl
  omega
 rw [Int.add_mul, Int.add_mul, Int.add_mul, Int.add_mul]
 omega
theorem resistance_G (s : Ship) (i : Ice) (ch : Bool) (v : Int) : resistance s i ch v =
  resG (value s.Water v).1 (value s.Water v).2 (value s.Ice i.Thick).1 (value s.Ice i.Thick).2 i.Conc (1000 + s.Slow * v) (if ch = true then s.Brash else 100) s.Ridge (if ch = true then 0 else i.Ridge) (s.Press * i.Press) := rfl
structure LeI (i j : Ice) : Prop where
 conc : i.Conc ≤ j.Conc
 thick : i.Thick ≤ j.Thick
 ridge : i.Ridge ≤ j.Ridge
 press : i.Press ≤ j.Press
theorem LeI.rfl {i : Ice} : LeI i i := ⟨Int.le_refl _, Int.le_refl _, Int.le_refl _, Int.le_refl _⟩
theorem resistance_mono {s : Ship} (hc : check s = 0) {i j : Ice} (hi : goodIce i) (hj : goodIce j) (hij : LeI i j) {u v : Int} (hu : 0 ≤ u) (huv : u ≤ v) (ch : Bool) : resistance s i ch u ≤ resistance s j ch v := by
 rw [resistance_G, resistance_G]
 obtain ⟨hcl, hpo, hsl, hbr, hri, hpr⟩ := check_bd hc
 obtain ⟨i1, i2, i3, i4⟩ := goodIce_bd hi
 obtain ⟨j1, j2, j3, j4⟩ := goodIce_bd hj
 have w1 := value_bd (check_curveWater hc) hu
 have w2 := value_bd (check_curveWater hc) (x := v) (by omega)
 have n1 := value_bd (check_curveIce hc) i2.1
 have n2 := value_bd (check_curveIce hc) j2.1
 have hsu := Int.mul_nonneg hsl.1 hu
 refine resG_mono (by omega) (by omega) (by omega) (by omega) (by omega) (by omega) i1.1 (by omega) (by split <;> omega) hri.1 (by split <;> omega)
  (value_up (check_steadyWater hc) hu huv) (value_up (check_steadyIce hc) i2.1 hij.thick) hij.conc (by have := mulL huv hsl.1; omega) (Int.le_refl _) (by split; exact Int.le_refl _; exact hij.ridge) (mulL hij.press hpr.1)
theorem thrust_mono {s : Ship} (hc : check s = 0) {u v : Int} (hu : 0 ≤ u) (huv : u ≤ v) : thrust s v ≤ thrust s u := by
 have t1 := value_bd (check_curveThrust hc) hu
 have t2 := value_bd (check_curveThrust hc) (x := v) (by omega)
 exact floor_mono (by omega) (by omega) (value_down (check_steadyThrust hc) hu huv)
theorem makes_mono {s : Ship} (hc : check s = 0) {i j : Ice} (hi : goodIce i) (hj : goodIce j) (hij : LeI i j) {u v : Int} (hu : 0 ≤ u) (huv : u ≤ v) {ch : Bool} (h : makes s j ch v = true) : makes s i ch u = true := by
 simp only [makes, Bool.and_eq_true, decide_eq_true_eq] at h ⊢
 have h1 := resistance_mono hc hi hj hij hu huv ch
 have h2 := thrust_mono hc hu huv
 exact ⟨by omega, by omega⟩
theorem load_mono {i j : Ice} (hi : goodIce i) (hj : goodIce j) (hij : LeI i j) {u v : Int} (hu : 0 ≤ u) (huv : u ≤ v) (ch : Bool) : loadI i u ch ≤ loadI j v ch := by
 obtain ⟨i1, i2, i3, i4⟩ := goodIce_bd hi
 obtain ⟨j1, j2, j3, j4⟩ := goodIce_bd hj
 have h1 := Int.mul_le_mul hij.thick (show 100 + u ≤ 100 + v by omega) (by omega) j2.1
 have h2 := Int.mul_nonneg i2.1 (show 0 ≤ 100 + u by omega)
 have a := hij.conc; have b := hij.ridge; have c := hij.press
 unfold loadI
 by_cases e : i.Conc = 0
 ·rw [if_pos e]
  by_cases e2 : j.Conc = 0
  ·rw [if_pos e2]; exact Int.le_refl _
  ·rw [if_neg e2]; cases ch <;> simp only [if_true, if_false, Bool.false_eq_true] <;> omega
 ·rw [if_neg e, if_neg (show ¬ j.Conc = 0 by omega)]
  cases ch <;> simp only [if_true, if_false, Bool.false_eq_true] <;> omega
theorem bears_mono {s : Ship} {i j : Ice} (hi : goodIce i) (hj : goodIce j) (hij : LeI i j) {u v : Int} (hu : 0 ≤ u) (huv : u ≤ v) {ch : Bool} (h : bears s j ch v = true) : bears s i ch u = true := by
 simp only [bears, decide_eq_true_eq] at h ⊢
 have := load_mono hi hj hij hu huv ch
 omega
theorem great_spec {so : Int → Bool} : ∀ (f : Nat) {lo hi : Int}, (hi - lo).toNat ≤ f → lo ≤ hi → so lo = true → (∀ u v, lo ≤ u → u ≤ v → v ≤ hi → so v = true → so u = true) →
  lo ≤ great so lo hi ∧ great so lo hi ≤ hi ∧ so (great so lo hi) = true ∧ ∀ v, great so lo hi < v → v ≤ hi → so v = false := by
 intro f
 induction f with
 | zero =>
  intro lo hi hf hle h1 hd
  rw [great_done (by omega)]
  exact ⟨Int.le_refl _, hle, h1, fun v h2 h3 => absurd h3 (by omega)⟩
 | succ f ih =>
  intro lo hi hf hle h1 hd
  by_cases h : lo < hi
  ·rw [great_step h]
   by_cases hm : so (lo + (hi - lo + 1) / 2) = true
   ·rw [if_pos hm]
    obtain ⟨a, b, c, d⟩ := ih (lo := lo + (hi - lo + 1) / 2) (hi := hi) (by omega) (by omega) hm (fun u v h2 h3 h4 h5 => hd u v (by omega) h3 h4 h5)
    exact ⟨by omega, b, c, d⟩
   ·rw [if_neg hm]
    obtain ⟨a, b, c, d⟩ := ih (lo := lo) (hi := lo + (hi - lo + 1) / 2 - 1) (by omega) (by omega) h1 (fun u v h2 h3 h4 h5 => hd u v h2 h3 (by omega) h5)
    refine ⟨a, by omega, c, fun v h2 h3 => ?_⟩
    by_cases h4 : v ≤ lo + (hi - lo + 1) / 2 - 1
    ·exact d v h2 h4
    ·cases hv : so v with
     | false => rfl
     | true => exact absurd (hd (lo + (hi - lo + 1) / 2) v (by omega) (by omega) h3 hv) hm
  ·rw [great_done h]
   exact ⟨Int.le_refl _, hle, h1, fun v h2 h3 => absurd h3 (by omega)⟩
theorem great_is {so : Int → Bool} {lo hi : Int} (hle : lo ≤ hi) (h1 : so lo = true) (hd : ∀ u v, lo ≤ u → u ≤ v → v ≤ hi → so v = true → so u = true) :
  lo ≤ great so lo hi ∧ great so lo hi ≤ hi ∧ ∀ v, lo ≤ v → v ≤ hi → (so v = true ↔ v ≤ great so lo hi) := by
 obtain ⟨a, b, c, d⟩ := great_spec _ (Nat.le_refl _) hle h1 hd
 refine ⟨a, b, fun v h2 h3 => ⟨fun h => ?_, fun h => hd v _ h2 h b c⟩⟩
 rcases Int.lt_or_le (great so lo hi) v with h4 | h4
 ·rw [d v h4 h3] at h; cases h
 ·exact h4
theorem great_le {so so' : Int → Bool} {lo hi : Int} (hle : lo ≤ hi) (h1 : so lo = true) (hd : ∀ u v, lo ≤ u → u ≤ v → v ≤ hi → so v = true → so u = true) (hd' : ∀ u v, lo ≤ u → u ≤ v → v ≤ hi → so' v = true → so' u = true)
  (h : ∀ v, lo ≤ v → v ≤ hi → so v = true → so' v = true) : great so lo hi ≤ great so' lo hi := by
 obtain ⟨a, b, c⟩ := great_is hle h1 hd
 obtain ⟨a', b', c'⟩ := great_is hle (h lo (Int.le_refl _) hle h1) hd'
 exact (c' _ a b).1 (h _ a b ((c _ a b).2 (Int.le_refl _)))
theorem speed_mono {s : Ship} (hc : check s = 0) {i j : Ice} (hi : goodIce i) (hj : goodIce j) (hij : LeI i j) (ch : Bool) : speed s j ch ≤ speed s i ch := by
 have down : ∀ k, goodIce k → ∀ u v, (0 : Int) ≤ u → u ≤ v → v ≤ 250 → makes s k ch v = true → makes s k ch u = true := fun k hk u v h1 h2 _ h => makes_mono hc hk hk .rfl h1 h2 h
 unfold speed greatest
 by_cases h0 : makes s j ch 0 = true
 ·have h1 := makes_mono hc hi hj hij (Int.le_refl 0) (Int.le_refl 0) h0
  rw [if_pos h0, if_pos h1]
  exact great_le (by decide) h0 (down j hj) (down i hi) fun v h2 h3 h => makes_mono hc hi hj hij h2 (Int.le_refl v) h
 ·rw [if_neg h0]
  by_cases h1 : makes s i ch 0 = true
  ·rw [if_pos h1]; exact (great_is (by decide) h1 (down i hi)).1
  ·rw [if_neg h1]; exact Int.le_refl _
end Go.Proofs.Hr.H
namespace Go.Proofs.Hr.H
open Go Go.KX
instance : Inhabited Part := ⟨⟨⟨⟨0,0⟩,⟨0,0⟩,⟨0,0⟩,⟨0,0⟩⟩,false,0⟩⟩
def goesP (s : Ship) (i : Ice) (ch : Bool) (v : Int) : Bool := makes s i ch v && bears s i ch v
theorem goesP_mono {s : Ship} (hc : check s = 0) {i j : Ice} (hi : goodIce i) (hj : goodIce j) (hij : LeI i j) {u v : Int} (hu : 0 ≤ u) (huv : u ≤ v) {ch : Bool} (h : goesP s j ch v = true) : goesP s i ch u = true := by
 simp only [goesP, Bool.and_eq_true] at h ⊢
 exact ⟨makes_mono hc hi hj hij hu huv h.1, bears_mono hi hj hij hu huv h.2⟩
theorem goes_eq (s : Ship) (i : Ice) (ch : Bool) : goes s i ch = if goesP s i ch 10 = true then (great (goesP s i ch) 10 250, true) else (0, false) := rfl
theorem goes_down {s : Ship} (hc : check s = 0) {i : Ice} (hi : goodIce i) (ch : Bool) : ∀ u v, (10 : Int) ≤ u → u ≤ v → v ≤ 250 → goesP s i ch v = true → goesP s i ch u = true :=
 fun u v h1 h2 _ h => goesP_mono hc hi hi .rfl (by omega) h2 h
theorem goes_ok {s : Ship} {i : Ice} {ch : Bool} : (goes s i ch).2 = goesP s i ch 10 := by
 rw [goes_eq]
 cases h : goesP s i ch 10 <;> simp
theorem goes_bd {s : Ship} (hc : check s = 0) {i : Ice} (hi : goodIce i) {ch : Bool} (h : (goes s i ch).2 = true) : 10 ≤ (goes s i ch).1 ∧ (goes s i ch).1 ≤ 250 := by
 rw [goes_ok] at h
 rw [goes_eq, if_pos h]
 have := great_is (by decide) h (goes_down hc hi ch)
 exact ⟨this.1, this.2.1⟩
theorem first_le_last {c : Cell} (h : goodCell c) : LeI (firstI c) (lastI c) := ⟨h.1.2.1, h.2.1.2.1, h.2.2.1.2.1, h.2.2.2.2.1⟩
theorem safe_goes {s : Ship} (hc : check s = 0) {c : Cell} (hg : goodCell c) {ch : Bool} (h : (safe s c ch).2 = 0) :
  (safe s c ch).1 = (goes s (lastI c) ch).1 ∧ (10 ≤ (safe s c ch).1 ∧ (safe s c ch).1 ≤ 250) ∧ (10 ≤ (goes s (firstI c) ch).1 ∧ (goes s (firstI c) ch).1 ≤ 250) := by
 have hl := goodCell_last hg
 have hf := goodCell_first hg
 unfold safe at h ⊢
 by_cases h1 : speed s (lastI c) ch < 10
 ·rw [if_pos h1] at h; cases h
 ·rw [if_neg h1] at h ⊢
  cases h2 : (goes s (lastI c) ch).2 with
  | false => rw [h2, if_pos rfl] at h; cases h
  | true =>
   rw [if_neg (by simp)]
   refine ⟨rfl, goes_bd hc hl h2, goes_bd hc hf ?_⟩
   rw [goes_ok] at h2 ⊢
   exact goesP_mono hc hf hl (first_le_last hg) (by decide) (Int.le_refl _) h2
end Go.Proofs.Hr.H
namespace Go.Proofs.Hr.H
open Go Go.KX
structure Pre (w : Int) (l : List Pt) (x y : Int) : Prop where
 len : 1 ≤ l.length
 x0 : (pt l 0).X = 0
 bd : ∀ i : Nat, i < l.length → 0 ≤ (pt l i).X ∧ (pt l i).X ≤ 400 ∧ 0 ≤ (pt l i).Y ∧ (pt l i).Y ≤ 20000
 st : ∀ i : Nat, 1 ≤ i → i < l.length → (pt l ((i : Int) - 1)).X < (pt l i).X ∧ 0 ≤ ((pt l i).Y - (pt l ((i : Int) - 1)).Y) * w
 last : pt l ((l.length : Int) - 1) = ⟨x, y⟩
theorem pt_old {l : List Pt} {p : Pt} {i : Int} (h0 : 0 ≤ i) (h : i < l.length) : pt (l ++ [p]) i = pt l i := by
 unfold pt
 have h : i.toNat < l.length := by omega
 simp [List.getD, List.getElem?_append_left h]
theorem pt_new {l : List Pt} {p : Pt} : pt (l ++ [p]) (l.length : Int) = p := by
 unfold pt
 simp [List.getD]
theorem Pre.one {w y : Int} (hy : 0 ≤ y ∧ y ≤ 20000) : Pre w [⟨0, y⟩] 0 y := by
 refine ⟨by simp, rfl, fun i hi => ?_, fun i h1 hi => ?_, rfl⟩
 ·have : i = 0 := by simpa using hi
  subst this
  simp [pt]; omega
 ·simp at hi; omega
theorem Pre.snoc {w x y x' y' : Int} {l : List Pt} (h : Pre w l x y) (hx : x < x' ∧ x' ≤ 400) (hy : 0 ≤ y' ∧ y' ≤ 20000) (hw : 0 ≤ (y' - y) * w) : Pre w (l ++ [⟨x', y'⟩]) x' y' := by
 have hl := h.len
 have hlast := h.last
 have hx0 := (h.bd (l.length - 1) (by omega)).1
 rw [show (((l.length - 1 : Nat)) : Int) = (l.length : Int) - 1 by omega, hlast] at hx0
 simp only [] at hx0
 refine ⟨by simp, by rw [pt_old (by omega) (by omega)]; exact h.x0, fun i hi => ?_, fun i h1 hi => ?_, ?_⟩
 ·by_cases e : i < l.length
  ·rw [pt_old (by omega) (by omega)]; exact h.bd i e
  ·have : i = l.length := by simp at hi; omega
   subst this
   rw [pt_new]; simp only []; omega
 ·by_cases e : i < l.length
  ·rw [pt_old (by omega) (by omega), pt_old (by omega) (by omega)]; exact h.st i h1 e
  ·have : i = l.length := by simp at hi; omega
   subst this
   rw [pt_new, pt_old (by omega) (by omega), hlast]
   exact ⟨hx.1, hw⟩
 ·rw [show (((l ++ [(⟨x', y'⟩ : Pt)]).length : Int) - 1) = (l.length : Int) by simp, pt_new]
theorem Pre.steady {w x y : Int} {l : List Pt} (h : Pre w l x y) (hl : 2 ≤ l.length ∧ l.length ≤ 8) : steady l w = true ∧ endX l = x := by
 have hc : curve l = true := by
  refine curve_yes (k := l.length) ?_ h.x0 (fun j hj => ?_) (Nat.le_refl _)
  ·simp [within]; omega
  ·have h1 := h.bd j hj
   simp only [curveAt, within]
   by_cases e : j = 0
   ·subst e
    have h0 := h.x0
    have h1' : 0 ≤ (pt l 0).X ∧ (pt l 0).X ≤ 400 ∧ 0 ≤ (pt l 0).Y ∧ (pt l 0).Y ≤ 20000 := h1
    simp; omega
   ·have h2 := (h.st j (by omega) hj).1
    have h3 : ¬ (pt l (j : Int)).X ≤ (pt l ((j : Int) - 1)).X := by omega
    simp [h3]; omega
 refine ⟨steady_yes (k := l.length) hc (fun j hj h1 => ?_) (Nat.le_refl _), by rw [endX, h.last]⟩
 have h2 := (h.st j h1 hj).2
 simp only [steadyAt]
 simp; omega
structure Light (s : Ship) : Prop where
 t : s.Thrust.length ≤ 20
 w : s.Water.length ≤ 20
 i : s.Ice.length ≤ 20
instance (s : Ship) : Decidable (Light s) := decidable_of_iff (s.Thrust.length ≤ 20 ∧ s.Water.length ≤ 20 ∧ s.Ice.length ≤ 20) ⟨fun ⟨a, b, c⟩ => ⟨a, b, c⟩, fun h => ⟨h.t, h.w, h.i⟩⟩
theorem great_eq {so : Int → Bool} {lo hi r : Int} (hd : ∀ u v, lo ≤ u → u ≤ v → v ≤ hi → so v = true → so u = true) (h1 : lo ≤ r) (h2 : r ≤ hi) (hr : so r = true) (hn : ∀ u, r < u → u ≤ hi → so u = false) : so lo = true ∧ great so lo hi = r := by
 have h0 := hd lo r (Int.le_refl _) h1 h2 hr
 obtain ⟨a, b, c⟩ := great_is (by omega) h0 hd
 refine ⟨h0, ?_⟩
 have c1 := (c r h1 h2).1 hr
 rcases Int.lt_or_le r (great so lo hi) with h | h
 ·have := (c _ a b).2 (Int.le_refl _)
  rw [hn _ h b] at this; cases this
 ·omega
structure Last (so : Int → Bool) (lo d out n : Int) : Prop where
 it : (out = d ∧ ∀ u, lo ≤ u → u < n → so u = false) ∨ (lo ≤ out ∧ out < n ∧ so out = true ∧ ∀ u, out < u → u < n → so u = false)
theorem Last.greatest {so : Int → Bool} {lo hi d out : Int} (hl : Last so lo d out (hi + 1)) (hle : lo ≤ hi) (hd : ∀ u v, lo ≤ u → u ≤ v → v ≤ hi → so v = true → so u = true) :
  (out = d ∧ Go.Proofs.Hr.H.greatest so lo hi = (0, false) ∧ ∀ u, lo ≤ u → u ≤ hi → so u = false) ∨ (Go.Proofs.Hr.H.greatest so lo hi = (out, true) ∧ lo ≤ out ∧ out ≤ hi) := by
 unfold Go.Proofs.Hr.H.greatest
 rcases hl.it with ⟨h1, h2⟩ | ⟨h1, h2, h3, h4⟩
 ·rw [h2 lo (Int.le_refl _) (by omega)]; exact .inl ⟨h1, by simp, fun u h3 h4 => h2 u h3 (by omega)⟩
 ·obtain ⟨a, b⟩ := great_eq hd h1 (by omega) h3 (fun u h5 h6 => h4 u h5 (by omega))
  rw [if_pos a, b]; exact .inr ⟨rfl, h1, by omega⟩
theorem checkCell_20 {c : Cell} (h : ¬ goodCell c) : checkCell c = 20 := by
 have := mt checkCell_ok.1 h
 unfold checkCell at this ⊢
 split
 ·rfl
 ·rename_i h2; rw [if_neg h2] at this; exact absurd rfl this
theorem met_zero {s : Ship} (hc : check s = 0) {c : Cell} (hg : goodCell c) : met s c = 0 := by
 unfold met; rw [if_neg (by simp [hc])]; exact checkCell_ok.2 hg
def cellOf (i : Ice) : Cell := ⟨⟨i.Conc, i.Conc⟩, ⟨i.Thick, i.Thick⟩, ⟨i.Ridge, i.Ridge⟩, ⟨i.Press, i.Press⟩⟩
theorem cellOf_good {i : Ice} (h : goodIce i) : goodCell (cellOf i) := by
 simp only [goodIce, goodCell, goodSpan, cellOf] at *; omega
theorem goes_iff {s : Ship} (hc : check s = 0) {i : Ice} (hi : goodIce i) {ch : Bool} (h : goesP s i ch 10 = true) : 10 ≤ (goes s i ch).1 ∧ (goes s i ch).1 ≤ 250 ∧ ∀ v, 10 ≤ v → v ≤ 250 → (goesP s i ch v = true ↔ v ≤ (goes s i ch).1) := by
 rw [goes_eq, if_pos h]
 exact great_is (by decide) h (goes_down hc hi ch)
structure Waits (l m : List Span) : Prop where
 len : l.length = m.length
 most : l.length ≤ 20
 each : ∀ j < l.length, goodSpan (l.getD j ⟨0, 0⟩) 3 ∧ goodSpan (m.getD j ⟨0, 0⟩) 3 ∧ (m.getD j ⟨0, 0⟩).Lo ≤ (l.getD j ⟨0, 0⟩).Lo ∧ (m.getD j ⟨0, 0⟩).Hi ≤ (l.getD j ⟨0, 0⟩).Hi
theorem Waits.snoc {l m : List Span} (h : Waits l m) (hl : l.length < 20) {p q : Span} (hp : goodSpan p 3) (hq : goodSpan q 3) (h1 : q.Lo ≤ p.Lo) (h2 : q.Hi ≤ p.Hi) : Waits (l ++ [p]) (m ++ [q]) := by
 refine ⟨by simp [h.len], by simp; omega, fun j hj => ?_⟩
 by_cases e : j < l.length
 ·have e' : j < m.length := by rw [← h.len]; exact e
  have := h.each j e
  simpa [List.getD, List.getElem?_append_left e, List.getElem?_append_left e'] using this
 ·have : j = l.length := by simp at hj; omega
  subst this
  have e1 : (l ++ [p]).getD l.length ⟨0, 0⟩ = p := by simp [List.getD]
  have e2 : (m ++ [q]).getD l.length ⟨0, 0⟩ = q := by rw [h.len]; simp [List.getD]
  rw [e1, e2]
  exact ⟨hp, hq, h1, h2⟩
def InS (s t : Span) : Prop := t.Lo ≤ s.Lo ∧ s.Hi ≤ t.Hi
structure InC (c d : Cell) : Prop where
 conc : InS c.Conc d.Conc
 thick : InS c.Thick d.Thick
 ridge : InS c.Ridge d.Ridge
 press : InS c.Press d.Press
theorem InC.first {c d : Cell} (h : InC c d) : LeI (firstI d) (firstI c) := ⟨h.conc.1, h.thick.1, h.ridge.1, h.press.1⟩
theorem InC.last {c d : Cell} (h : InC c d) : LeI (lastI c) (lastI d) := ⟨h.conc.2, h.thick.2, h.ridge.2, h.press.2⟩
end Go.Proofs.Hr.H
namespace Go.Proofs.Hr.H
open Go Go.KX
section
variable {α β : Type} {post : α → Prop}
theorem ok_bbrk {c : Bool} {x y : Option β} {f : β → Option α} (ht : c = true → Ok post (bnd x f)) (hf : c = false → Ok post (bnd y f)) : Ok post (bnd (brk c x y) f) := by
 cases c with
 | true => exact ht rfl
 | false => exact hf rfl
theorem ok_band {b y : Bool} {x : Option Bool} {f : Bool → Option α} (hx : b = true → x = some y) (h : Ok post (f (b && y))) : Ok post (bnd (brk b x (some false)) f) := by
 cases b with
 | false => exact h
 | true => rw [hx rfl]; exact h
end
theorem within_eq (F : Nat) (n a b : Int) : hull_within F n a b = some (within n a b) := rfl
theorem curve_eq {F : Nat} {l : List Pt} (hn : l.length ≤ 1000000) (hF : l.length < F) : hull_curve F l = some (curve l) := by
 refine Ok.eq ?_
 unfold hull_curve
 refine ok_bnde (within_eq ..) ?_
 have hlen : within (l.length : Int) 2 8 = true → 2 ≤ l.length := fun h => by simp only [within, Bool.and_eq_true, decide_eq_true_eq] at h; omega
 refine ok_chk (fun h => ?_) ?_
 ·have : within (l.length : Int) 2 8 = true := by simpa using h
  have := hlen this
  exact ⟨by decide, by omega⟩
 refine ok_brk (fun h => ok_some (curve_no1 h).symm) (fun h => ?_)
 simp only [Bool.or_eq_false_iff, Bool.not_eq_false', bne_eq_false_iff_eq] at h
 refine ok_loop (fun q : Int => 0 ≤ q ∧ q ≤ l.length ∧ ∀ j : Nat, (j : Int) < q → curveAt l (j : Int) = true) (fun q => (l.length - q).toNat) ⟨by omega, by omega, fun j h => by omega⟩ (by omega) fun q next hI hn' => ?_
 obtain ⟨h0, h1, h2⟩ := hI
 refine ok_brk (fun hc => ?_) (fun hc => ok_some (curve_yes h.1 h.2 (k := l.length) (fun j hj => h2 j (by have := of_decide_eq_false hc; omega)) (Nat.le_refl _)).symm)
 have hc := of_decide_eq_true hc
 refine ok_chk ⟨h0, hc⟩ (ok_bnde (within_eq ..) (ok_band (fun _ => within_eq ..) ?_))
 have hg : (decide (q > 0)) = true → InR (q - 1) ∧ (0 ≤ q - 1 ∧ q - 1 < (l.length : Int)) := fun h => by have := of_decide_eq_true h; exact ⟨⟨by omega, by omega⟩, by omega, by omega⟩
 refine ok_chk (fun h => (hg (by simp only [Bool.and_eq_true] at h; exact h.2)).1) (ok_chk (fun h => (hg (by simp only [Bool.and_eq_true] at h; exact h.2)).2) ?_)
 have hcond : (!within (pt l q).X 0 400 || !(!!within (pt l q).X 0 400 && within (pt l q).Y 0 20000) || decide (q > 0) && decide ((pt l q).X ≤ (pt l (q - 1)).X)) = !curveAt l q := by
  unfold curveAt
  cases within (pt l q).X 0 400 <;> cases within (pt l q).Y 0 20000 <;> simp
 refine ok_brk (fun h => ok_some ?_) (fun h => ok_chk ⟨by omega, by omega⟩ (hn' _ ⟨by omega, by omega, fun j hj => ?_⟩ (by omega)))
 ·have h : (!curveAt l q) = true := hcond ▸ h
  exact (curve_no2 (k := q.toNat) (by omega) (by rw [Int.toNat_of_nonneg h0]; simpa using h)).symm
 ·have h : (!curveAt l q) = false := hcond ▸ h
  by_cases e : (j : Int) = q
  ·rw [e]; simpa using h
  ·exact h2 j (by omega)
theorem steady_eq {F : Nat} {l : List Pt} (hn : l.length ≤ 1000000) (hF : l.length < F) {w : Int} (hw : w = 1 ∨ w = -1) : hull_steady F l w = some (steady l w) := by
 refine Ok.eq ?_
 unfold hull_steady
 refine ok_bnde (curve_eq hn hF) ?_
 refine ok_brk (fun h => ok_some ?_) (fun h => ?_)
 ·have h : curve l = false := by simpa using h
  simp [steady, h]
 have hc : curve l = true := by simpa using h
 have hb := curve_bd hc
 refine ok_loop (fun q : Int => 1 ≤ q ∧ q ≤ l.length ∧ ∀ j : Nat, 1 ≤ j → (j : Int) < q → steadyAt l w (j : Int) = true) (fun q => (l.length - q).toNat) ⟨by omega, by have := (curve_lt hc).2; omega, fun j h1 h2 => by omega⟩ (by omega) fun q next hI hn' => ?_
 obtain ⟨h0, h1, h2⟩ := hI
 refine ok_brk (fun hq => ?_) (fun hq => ok_some (steady_yes hc (k := l.length) (fun j hj h3 => h2 j h3 (by have := of_decide_eq_false hq; omega)) (Nat.le_refl _)).symm)
 have hq := of_decide_eq_true hq
 have b1 := hb q (by omega) hq
 have b2 := hb (q - 1) (by omega) (by omega)
 have hp : InR ((pt l q).Y - (pt l (q - 1)).Y) ∧ InR (((pt l q).Y - (pt l (q - 1)).Y) * w) := by rcases hw with rfl | rfl <;> constructor <;> constructor <;> omega
 refine ok_chk ⟨by omega, hq⟩ (ok_chk ⟨by omega, by omega⟩ (ok_chk ⟨by omega, by omega⟩ (ok_chk hp.1 (ok_chk hp.2 ?_))))
 have hs : steadyAt l w q = !decide (((pt l q).Y - (pt l (q - 1)).Y) * w < 0) := rfl
 refine ok_brk (fun h => ok_some ?_) (fun h => ok_chk ⟨by omega, by omega⟩ (hn' _ ⟨by omega, by omega, fun j h3 hj => ?_⟩ (by omega)))
 ·have h : decide (((pt l q).Y - (pt l (q - 1)).Y) * w < 0) = true := h
  exact (steady_no (k := q.toNat) (by omega) (by omega) (by rw [Int.toNat_of_nonneg (by omega), hs, h]; rfl)).symm
 ·have h : decide (((pt l q).Y - (pt l (q - 1)).Y) * w < 0) = false := h
  by_cases e : (j : Int) = q
  ·rw [e, hs, h]; rfl
  ·exact h2 j h3 (by omega)
theorem end_eq {F : Nat} {l : List Pt} (h1 : 1 ≤ l.length) (hn : l.length ≤ 1000000) : hull_end F l = some (endX l) := by
 refine Ok.eq ?_
 unfold hull_end
 exact ok_chk ⟨by omega, by omega⟩ (ok_chk ⟨by omega, by omega⟩ (ok_some rfl))
theorem val_prod {a b x y : Int} (hx : -400 ≤ x ∧ x ≤ 400) (hy : -1000 ≤ y ∧ y ≤ 1000) (ha : 0 ≤ a ∧ a ≤ 20000) (hb : -20000 ≤ b ∧ b ≤ 20000) : (-8000000 ≤ a * x ∧ a * x ≤ 8000000) ∧ -20000000 ≤ b * y ∧ b * y ≤ 20000000 := by
 have h1 := mul_bd (x := a) (y := x) (A := 20000) (B := 400) (by omega) (by omega)
 have h2 := mul_bd (x := b) (y := y) (A := 20000) (B := 1000) (by omega) (by omega)
 omega
theorem value_eq {F : Nat} (hF : 100 ≤ F) {l : List Pt} (hc : curve l = true) {x : Int} (hx : 0 ≤ x ∧ x ≤ 1000) : hull_value F l x = some (value l x) := by
 refine Ok.eq ?_
 unfold hull_value
 have hb := curve_bd hc
 have hlen := (curve_lt hc).2
 refine ok_loop (fun q : Int => 1 ≤ q ∧ q ≤ l.length ∧ value l x = valFrom l x (l.length - q.toNat) q.toNat) (fun q => (l.length - q).toNat) ⟨by omega, by omega, rfl⟩ (by omega) fun q next hI hn' => ?_
 obtain ⟨h0, h1, h2⟩ := hI
 refine ok_brk (fun hq => ?_) (fun hq => ?_)
 ·have hq := of_decide_eq_true hq
  have b1 := hb q (by omega) hq
  have b2 := hb (q - 1) (by omega) (by omega)
  obtain ⟨p1, p2⟩ := val_prod (a := (pt l (q - 1)).Y) (x := (pt l q).X - (pt l (q - 1)).X) (b := (pt l q).Y - (pt l (q - 1)).Y) (y := x - (pt l (q - 1)).X) (by omega) (by omega) (by omega) (by omega)
  have e : l.length - q.toNat = (l.length - (q + 1).toNat) + 1 := by omega
  have e2 : ((q.toNat : Nat) : Int) = q := Int.toNat_of_nonneg (by omega)
  have e3 : q.toNat + 1 = (q + 1).toNat := by omega
  rw [e, valFrom, e2, e3] at h2
  refine ok_chk ⟨by omega, by omega⟩ (ok_chk ⟨by omega, by omega⟩ (ok_chk ⟨by omega, hq⟩ (ok_brk (fun h => ?_) (fun h => ?_))))
  ·have h : x ≤ (pt l q).X := of_decide_eq_true h
   rw [if_pos h] at h2
   refine ok_chk (show InR ((pt l q).X - (pt l (q - 1)).X) from ⟨by omega, by omega⟩) (ok_chk (show InR ((pt l (q - 1)).Y * ((pt l q).X - (pt l (q - 1)).X)) from ⟨by omega, by omega⟩) (ok_chk (show InR ((pt l q).Y - (pt l (q - 1)).Y) from ⟨by omega, by omega⟩) (ok_chk (show InR (x - (pt l (q - 1)).X) from ⟨by omega, by omega⟩)
    (ok_chk (show InR (((pt l q).Y - (pt l (q - 1)).Y) * (x - (pt l (q - 1)).X)) from ⟨by omega, by omega⟩) (ok_chk (show InR ((pt l (q - 1)).Y * ((pt l q).X - (pt l (q - 1)).X) + ((pt l q).Y - (pt l (q - 1)).Y) * (x - (pt l (q - 1)).X)) from ⟨by omega, by omega⟩) (ok_chk (show InR ((pt l q).X - (pt l (q - 1)).X) from ⟨by omega, by omega⟩) (ok_some h2.symm)))))))
  ·have h : ¬ x ≤ (pt l q).X := of_decide_eq_false h
   rw [if_neg h] at h2
   exact ok_chk ⟨by omega, by omega⟩ (hn' _ ⟨by omega, by omega, h2⟩ (by omega))
 ·have hq := of_decide_eq_false hq
  have e : l.length - q.toNat = 0 := by omega
  rw [e, valFrom] at h2
  exact ok_chk ⟨by omega, by omega⟩ (ok_chk ⟨by omega, by omega⟩ (ok_some h2.symm))
theorem check_eq {F : Nat} (hF : 1000 ≤ F) {s : Ship} (h1 : s.Thrust.length ≤ 900) (h2 : s.Water.length ≤ 900) (h3 : s.Ice.length ≤ 900) : hull_Check F s = some (check s) := by
 have r1 : hull_rules_1 F s = some (rule1 s) := rfl
 have r2 : hull_rules_2 F s = some (rule2 s) := by
  refine Ok.eq ?_
  unfold hull_rules_2 rule2
  refine ok_bnde (within_eq ..) (ok_band (fun _ => within_eq ..) (ok_band (fun _ => within_eq ..) (ok_some ?_)))
  cases within s.Power 100 100000 <;> cases within s.Draught 10 2000 <;> simp
 have r3 : hull_rules_3 F s = some (rule3 s) := by
  refine Ok.eq ?_
  unfold hull_rules_3 rule3
  refine ok_bnde (within_eq ..) (ok_band (fun _ => within_eq ..) (ok_band (fun _ => within_eq ..) (ok_band (fun _ => within_eq ..) (ok_some ?_))))
  cases within s.Slow 0 20 <;> cases within s.Brash 0 100 <;> cases within s.Ridge 0 500 <;> simp
 have r4 : hull_rules_4 F s = some (rule4 s) := by
  refine Ok.eq ?_
  unfold hull_rules_4 rule4
  refine ok_bnde (steady_eq (by omega) (by omega) (.inr rfl)) (ok_bbrk (fun h => ?_) (fun h => ?_))
  ·have := (steady_len h).1
   rw [h]
   exact ok_bnde (end_eq (by omega) (by omega)) (ok_bnde (within_eq F ..) (ok_some rfl))
  ·rw [h]; exact ok_some rfl
 have r5 : hull_rules_5 F s = some (rule5 s) := by
  refine Ok.eq ?_
  unfold hull_rules_5 rule5
  refine ok_bnde (steady_eq (by omega) (by omega) (.inl rfl)) (ok_bbrk (fun h => ?_) (fun h => ?_))
  ·have := (steady_len h).1
   rw [h]
   exact ok_bnde (end_eq (by omega) (by omega)) (ok_some rfl)
  ·rw [h]; exact ok_some rfl
 have r6 : hull_rules_6 F s = some (rule6 s) := by
  refine Ok.eq ?_
  unfold hull_rules_6 rule6
  refine ok_bnde (steady_eq (by omega) (by omega) (.inl rfl)) (ok_chk (fun h => ⟨by decide, ?_⟩) (ok_bbrk (fun h => ?_) (fun h => ?_)))
  ·have := (steady_len h).1; omega
  ·have h' : steady s.Ice 1 = true ∧ ((pt s.Ice 0).Y == 0) = true := by
    have h : (steady s.Ice 1 && ((pt s.Ice 0).Y == 0)) = true := h
    simpa only [Bool.and_eq_true] using h
   have := (steady_len h'.1).1
   exact ok_bnde (end_eq (by omega) (by omega)) (ok_some rfl)
  ·refine ok_bnde rfl (ok_some ?_)
   have h : (steady s.Ice 1 && ((pt s.Ice 0).Y == 0)) = false := h
   show (steady s.Ice 1 && ((pt s.Ice 0).Y == 0) && _) = (steady s.Ice 1 && ((pt s.Ice 0).Y == 0) && _)
   rw [h]; rfl
 refine Ok.eq ?_
 unfold hull_Check check
 refine ok_bnde r1 (ok_brk (fun h => ok_some ?_) (fun h => ok_bnde r2 (ok_brk (fun h' => ok_some ?_) (fun h' => ok_bnde r3 (ok_brk (fun h2' => ok_some ?_) (fun h2' => ok_bnde r4 (ok_brk (fun h3' => ok_some ?_) (fun h3' => ok_bnde r5 (ok_brk (fun h4 => ok_some ?_) (fun h4 => ok_bnde r6 (ok_brk (fun h5 => ok_some ?_) (fun h5 => ok_some ?_))))))))))))
 all_goals (simp only [Bool.not_eq_true', Bool.not_eq_false'] at *; simp_all)
theorem thrust_eq {F : Nat} (hF : 1000 ≤ F) {s : Ship} (hc : check s = 0) {v : Int} (hv : 0 ≤ v ∧ v ≤ 1000) : hull_Ship_thrust F s v = some (thrust s v) := by
 refine Ok.eq ?_
 unfold hull_Ship_thrust
 obtain ⟨v1, v2, v3, v4⟩ := value_bd (check_curveThrust hc) hv.1
 exact ok_bnde (value_eq (by omega) (check_curveThrust hc) hv) (ok_chk ⟨⟨v3, by omega⟩, by omega⟩ (ok_some rfl))
theorem load_bd {i : Ice} (hi : goodIce i) {v : Int} (hv : 0 ≤ v ∧ v ≤ 250) : 0 ≤ i.Thick * (100 + v) ∧ i.Thick * (100 + v) ≤ 140000 := by
 obtain ⟨_, h, _⟩ := goodIce_bd hi
 exact mul_nn (x := i.Thick) (y := 100 + v) (a := 0) (A := 400) (b := 0) (B := 350) (by omega) (by omega) (by decide) (by decide)
theorem load_eq {F : Nat} (hF : 1000 ≤ F) {i : Ice} (hi : goodIce i) {v : Int} (hv : 0 ≤ v ∧ v ≤ 250) (ch : Bool) : hull_load F i v ch = some (loadI i v ch) := by
 refine Ok.eq ?_
 unfold hull_load
 obtain ⟨h1, h2, h3, h4⟩ := goodIce_bd hi
 have hb := load_bd hi hv
 have hz : i.Conc = 0 → loadI i v ch = 0 := fun e => by unfold loadI; rw [if_pos e]
 refine ok_chk ⟨by omega, by omega⟩ (ok_chk (show InR (i.Thick * (100 + v)) from ⟨by omega, by omega⟩) (ok_join (by omega) (fun x : Int × Int => x = (if ch = true then 0 else i.Ridge, if ch = true then (i.Thick * (100 + v) + 1) / 2 else i.Thick * (100 + v))) (fun x hx => ?_) fun k hk => ?_))
 ·subst hx
  refine ok_brk (fun h => ok_some ?_) (fun h => ?_)
  ·exact (hz (by simpa using h)).symm
  ·have hne : ¬ i.Conc = 0 := by simpa using h
   have hl : loadI i v ch = (if ch = true then (i.Thick * (100 + v) + 1) / 2 else i.Thick * (100 + v)) + 300 * (if ch = true then 0 else i.Ridge) + 2000 * i.Press := by unfold loadI; rw [if_neg hne]
   rw [hl]
   have a1 : 0 ≤ (if ch = true then 0 else i.Ridge) ∧ (if ch = true then 0 else i.Ridge) ≤ 100 := by split <;> omega
   have a2 : 0 ≤ (if ch = true then (i.Thick * (100 + v) + 1) / 2 else i.Thick * (100 + v)) ∧ (if ch = true then (i.Thick * (100 + v) + 1) / 2 else i.Thick * (100 + v)) ≤ 140001 := by split <;> omega
   dsimp only
   generalize (if ch = true then 0 else i.Ridge) = rd at *
   generalize (if ch = true then (i.Thick * (100 + v) + 1) / 2 else i.Thick * (100 + v)) = lv at *
   exact ok_chk ⟨by omega, by omega⟩ (ok_chk ⟨by omega, by omega⟩ (ok_chk ⟨by omega, by omega⟩ (ok_chk ⟨by omega, by omega⟩ (ok_some rfl))))
 ·refine ok_brk (fun h => ?_) (fun h => ?_)
  ·exact ok_chk ⟨by omega, by omega⟩ (ok_chk ⟨by omega, by omega⟩ (hk _ (by rw [h]; rfl)))
  ·exact hk _ (by rw [h]; rfl)
noncomputable def resM {α : Type} (F : Nat) (s : Ship) (i : Ice) (v : Int) (ch : Bool) (K : Int → Option α) : Option α :=
 bnd (hull_value F s.Water v) (fun (w : (Int) × (Int)) => bnd (hull_value F s.Ice i.Thick) (fun (n : (Int) × (Int)) => join (F) (fun (y : (Int) × (Int)) => chk (InR (s.Slow * v)) (chk (InR ((1000 : Int) + s.Slow * v)) (chk (InR (n.fst * ((1000 : Int) + s.Slow * v))) (chk (InR (n.fst * ((1000 : Int) + s.Slow * v) * y.snd)) (chk (InR (s.Ridge * y.fst)) (chk (InR (s.Ridge * y.fst * n.snd)) (chk (InR (s.Ridge * y.fst * n.snd * (100000 : Int))) (chk (InR (n.fst * ((1000 : Int) + s.Slow * v) * y.snd + s.Ridge * y.fst * n.snd * (100000 : Int))) (chk (InR (i.Conc * (n.fst * ((1000 : Int) + s.Slow * v) * y.snd + s.Ridge * y.fst * n.snd * (100000 : Int)))) (chk (InR (n.snd * (10000000 : Int))) (chk (InR (w.fst * (n.snd * (10000000 : Int)))) (chk (InR (i.Conc * (n.fst * ((1000 : Int) + s.Slow * v) * y.snd + s.Ridge * y.fst * n.snd * (100000 : Int)) * w.snd)) (chk (InR (w.fst * (n.snd * (10000000 : Int)) + i.Conc * (n.fst * ((1000 : Int) + s.Slow * v) * y.snd + s.Ridge * y.fst * n.snd * (100000 : Int)) * w.snd)) (chk (InR (s.Press * i.Press)) (chk (InR (s.Press * i.Press * w.snd)) (chk (InR (s.Press * i.Press * w.snd * (n.snd * (10000000 : Int)))) (chk (InR (w.fst * (n.snd * (10000000 : Int)) + i.Conc * (n.fst * ((1000 : Int) + s.Slow * v) * y.snd + s.Ridge * y.fst * n.snd * (100000 : Int)) * w.snd + s.Press * i.Press * w.snd * (n.snd * (10000000 : Int)))) (chk (InR (w.snd * (n.snd * (10000000 : Int)))) (chk (InR (w.fst * (n.snd * (10000000 : Int)) + i.Conc * (n.fst * ((1000 : Int) + s.Slow * v) * y.snd + s.Ridge * y.fst * n.snd * (100000 : Int)) * w.snd + s.Press * i.Press * w.snd * (n.snd * (10000000 : Int)) + w.snd * (n.snd * (10000000 : Int)))) (chk (InR (w.fst * (n.snd * (10000000 : Int)) + i.Conc * (n.fst * ((1000 : Int) + s.Slow * v) * y.snd + s.Ridge * y.fst * n.snd * (100000 : Int)) * w.snd + s.Press * i.Press * w.snd * (n.snd * (10000000 : Int)) + w.snd * (n.snd * (10000000 : Int)) - (1 : Int))) (chk (InR (w.snd * (n.snd * (10000000 : Int)))) (chk (((0 : Int) ≤ w.fst * (n.snd * (10000000 : Int)) + i.Conc * (n.fst * ((1000 : Int) + s.Slow * v) * y.snd + s.Ridge * y.fst * n.snd * (100000 : Int)) * w.snd + s.Press * i.Press * w.snd * (n.snd * (10000000 : Int)) + w.snd * (n.snd * (10000000 : Int)) - (1 : Int) ∧ w.fst * (n.snd * (10000000 : Int)) + i.Conc * (n.fst * ((1000 : Int) + s.Slow * v) * y.snd + s.Ridge * y.fst * n.snd * (100000 : Int)) * w.snd + s.Press * i.Press * w.snd * (n.snd * (10000000 : Int)) + w.snd * (n.snd * (10000000 : Int)) - (1 : Int) ≤ (9223372036854775807 : Int)) ∧ (0 : Int) < w.snd * (n.snd * (10000000 : Int))) (K ((w.fst * (n.snd * (10000000 : Int)) + i.Conc * (n.fst * ((1000 : Int) + s.Slow * v) * y.snd + s.Ridge * y.fst * n.snd * (100000 : Int)) * w.snd + s.Press * i.Press * w.snd * (n.snd * (10000000 : Int)) + w.snd * (n.snd * (10000000 : Int)) - (1 : Int)) / (w.snd * (n.snd * (10000000 : Int))))))))))))))))))))))))))) (fun y => brk (ch) (y (((0 : Int), s.Brash))) (y ((i.Ridge, (100 : Int)))))))
theorem res_ok {α : Type} {post : α → Prop} {F : Nat} (hF : 1000 ≤ F) {s : Ship} (hc : check s = 0) {i : Ice} (hi : goodIce i) {v : Int} (hv : 0 ≤ v ∧ v ≤ 250) (ch : Bool) {K : Int → Option α} (h : Ok post (K (resistance s i ch v))) : Ok post (resM F s i v ch K) := by
 unfold resM
 obtain ⟨i1, i2, i3, i4⟩ := goodIce_bd hi
 obtain ⟨_, _, hsl, hbr, hri, hpr⟩ := check_bd hc
 have w1 := value_bd (check_curveWater hc) hv.1
 have n1 := value_bd (check_curveIce hc) i2.1
 have hres : resistance s i ch v = (((value s.Water v).1 * ((value s.Ice i.Thick).2 * 10000000) + i.Conc * ((value s.Ice i.Thick).1 * (1000 + s.Slow * v) * (if ch = true then s.Brash else 100) + s.Ridge * (if ch = true then 0 else i.Ridge) * (value s.Ice i.Thick).2 * 100000) * (value s.Water v).2 + s.Press * i.Press * (value s.Water v).2 * ((value s.Ice i.Thick).2 * 10000000))
   + (value s.Water v).2 * ((value s.Ice i.Thick).2 * 10000000) - 1) / ((value s.Water v).2 * ((value s.Ice i.Thick).2 * 10000000)) := rfl
 rw [hres] at h
 refine ok_bnde (value_eq (by omega) (check_curveWater hc) (by omega)) (ok_bnde (value_eq (by omega) (check_curveIce hc) (by omega)) ?_)
 have hsh : 0 ≤ (if ch = true then s.Brash else 100) ∧ (if ch = true then s.Brash else 100) ≤ 100 := by split <;> omega
 have hrd : 0 ≤ (if ch = true then 0 else i.Ridge) ∧ (if ch = true then 0 else i.Ridge) ≤ 100 := by split <;> omega
 refine ok_join (by omega) (fun y : Int × Int => y = (if ch = true then 0 else i.Ridge, if ch = true then s.Brash else 100)) (fun y hy => ?_) fun k hk => ok_brk (fun e => hk _ (by rw [e]; rfl)) (fun e => hk _ (by rw [e]; rfl))
 subst hy
 dsimp only
 clear hres
 generalize (if ch = true then s.Brash else 100) = sh at *
 generalize (if ch = true then 0 else i.Ridge) = rd at *
 obtain ⟨w1, w2, w3, w4⟩ := w1
 obtain ⟨n1, n2, n3, n4⟩ := n1
 have hw5 : (value s.Water v).1 ≤ 8000000 := by omega
 have hn5 : (value s.Ice i.Thick).1 ≤ 8000000 := by omega
 generalize (value s.Water v).1 = wn at *
 generalize (value s.Water v).2 = wd at *
 generalize (value s.Ice i.Thick).1 = ln at *
 generalize (value s.Ice i.Thick).2 = ld at *
 have m1 := mul_nn (x := s.Slow) (y := v) (a := 0) (A := 20) (b := 0) (B := 250) (by omega) (by omega) (by decide) (by decide)
 have m2 := mul_nn (x := ln) (y := 1000 + s.Slow * v) (a := 0) (A := 8000000) (b := 0) (B := 6000) (by omega) (by omega) (by decide) (by decide)
 have m3 := mul_nn (x := ln * (1000 + s.Slow * v)) (y := sh) (a := 0) (A := 48000000000) (b := 0) (B := 100) (by omega) (by omega) (by decide) (by decide)
 have m4 := mul_nn (x := s.Ridge) (y := rd) (a := 0) (A := 500) (b := 0) (B := 100) (by omega) (by omega) (by decide) (by decide)
 have m5 := mul_nn (x := s.Ridge * rd) (y := ld) (a := 0) (A := 50000) (b := 0) (B := 400) (by omega) (by omega) (by decide) (by decide)
 have m6 := mul_nn (x := i.Conc) (y := ln * (1000 + s.Slow * v) * sh + s.Ridge * rd * ld * 100000) (a := 0) (A := 100) (b := 0) (B := 6800000000000) (by omega) (by omega) (by decide) (by decide)
 have m7 := mul_nn (x := i.Conc * (ln * (1000 + s.Slow * v) * sh + s.Ridge * rd * ld * 100000)) (y := wd) (a := 0) (A := 680000000000000) (b := 0) (B := 400) (by omega) (by omega) (by decide) (by decide)
 have m8 := mul_nn (x := wn) (y := ld * 10000000) (a := 0) (A := 8000000) (b := 0) (B := 4000000000) (by omega) (by omega) (by decide) (by decide)
 have m9 := mul_nn (x := s.Press) (y := i.Press) (a := 0) (A := 5000) (b := 0) (B := 3) (by omega) (by omega) (by decide) (by decide)
 have m10 := mul_nn (x := s.Press * i.Press) (y := wd) (a := 0) (A := 15000) (b := 0) (B := 400) (by omega) (by omega) (by decide) (by decide)
 have m11 := mul_nn (x := s.Press * i.Press * wd) (y := ld * 10000000) (a := 0) (A := 6000000) (b := 0) (B := 4000000000) (by omega) (by omega) (by decide) (by decide)
 have m12 := mul_nn (x := wd) (y := ld * 10000000) (a := 1) (A := 400) (b := 10000000) (B := 4000000000) (by omega) (by omega) (by decide) (by decide)
 generalize i.Conc * (ln * (1000 + s.Slow * v) * sh + s.Ridge * rd * ld * 100000) * wd = x7 at *
 generalize i.Conc * (ln * (1000 + s.Slow * v) * sh + s.Ridge * rd * ld * 100000) = x6 at *
 generalize s.Ridge * rd * ld = x5 at *
 generalize s.Ridge * rd = x4 at *
 generalize ln * (1000 + s.Slow * v) * sh = x3 at *
 generalize ln * (1000 + s.Slow * v) = x2 at *
 generalize s.Slow * v = x1 at *
 generalize wn * (ld * 10000000) = x8 at *
 generalize s.Press * i.Press * wd * (ld * 10000000) = x11 at *
 generalize s.Press * i.Press * wd = x10 at *
 generalize s.Press * i.Press = x9 at *
 generalize wd * (ld * 10000000) = D at *
 repeat' (with_reducible refine ok_chk ?_ ?_)
 all_goals (first | exact h | (constructor <;> omega) | omega | skip)
noncomputable def makesM {α : Type} (F : Nat) (s : Ship) (i : Ice) (v : Int) (ch : Bool) (K : Bool → Option α) : Option α :=
 bnd (hull_end F s.Thrust) (fun x : Int => brk (decide (v ≤ x)) (bnd (hull_Ship_thrust F s v) (fun t : Int => resM F s i v ch (fun q => K (decide (t ≥ q))))) (K false))
theorem makes_ok {α : Type} {post : α → Prop} {F : Nat} (hF : 1000 ≤ F) {s : Ship} (hc : check s = 0) {i : Ice} (hi : goodIce i) {v : Int} (hv : 0 ≤ v ∧ v ≤ 250) (ch : Bool) {K : Bool → Option α} (h : Ok post (K (makes s i ch v))) : Ok post (makesM F s i v ch K) := by
 unfold makesM
 have h2 := (steady_len (check_steadyThrust hc))
 refine ok_bnde (end_eq (by omega) (by omega)) (ok_brk (fun e => ok_bnde (thrust_eq hF hc (by omega)) (res_ok hF hc hi hv ch ?_)) (fun e => ?_))
 ·have : makes s i ch v = decide (thrust s v ≥ resistance s i ch v) := by unfold makes; rw [e, Bool.true_and]
  rwa [this] at h
 ·have : makes s i ch v = false := by unfold makes; rw [e, Bool.false_and]
  rwa [this] at h
noncomputable def bearsM {α : Type} (F : Nat) (s : Ship) (i : Ice) (v : Int) (ch : Bool) (K : Bool → Option α) : Option α :=
 bnd (hull_load F i v ch) (fun x : Int => chk (InR (s.Class - 1)) (chk (0 ≤ s.Class - 1 ∧ s.Class - 1 < ((6 : Nat) : Int)) (K (decide (x ≤ [4000, 8000, 14000, 24000, 40000, 90000].getD (s.Class - 1).toNat 0)))))
theorem bears_ok {α : Type} {post : α → Prop} {F : Nat} (hF : 1000 ≤ F) {s : Ship} (hc : check s = 0) {i : Ice} (hi : goodIce i) {v : Int} (hv : 0 ≤ v ∧ v ≤ 250) (ch : Bool) {K : Bool → Option α} (h : Ok post (K (bears s i ch v))) : Ok post (bearsM F s i v ch K) := by
 unfold bearsM
 obtain ⟨hcl, _⟩ := check_bd hc
 exact ok_bnde (load_eq hF hi hv ch) (ok_chk ⟨by omega, by omega⟩ (ok_chk ⟨by omega, by omega⟩ h))
end Go.Proofs.Hr.H
namespace Go.Proofs.Hr.H
open Go Go.KX
theorem frozen_ok {F : Nat} (hF : 1000 ≤ F) {l : List Int} (hl : Bytes l) : Ok goodCell (law03_Frozen F l) := by
 have F0 : 0 < F := by omega
 unfold law03_Frozen
 refine ok_next0 F0 hl (by decide) fun x p a1 a2 a3 a4 a5 => ?_
 have e1 : x ≤ 100 := by have : x < 101 := a2; omega
 refine ok_chk (show InR _ from ⟨by omega, by omega⟩) (ok_chk (show InR _ from ⟨by omega, by omega⟩) (ok_next F0 hl a4 a5 (by decide) fun x1 p1 b1 b2 b3 b4 b5 => ok_chk (show InR _ from ⟨by dsimp only; omega, by dsimp only; omega⟩) ?_))
 refine ok_next F0 hl b4 b5 (by decide) fun x2 p2 c1 c2 c3 c4 c5 => ?_
 have e2 : x2 ≤ 200 := by have : x2 < 201 := c2; omega
 refine ok_chk (show InR _ from ⟨by dsimp only; omega, by dsimp only; omega⟩) (ok_chk (show InR _ from ⟨by dsimp only; omega, by dsimp only; omega⟩) (ok_next F0 hl c4 c5 (by decide) fun x3 p3 d1 d2 d3 d4 d5 => ok_chk (show InR _ from ⟨by dsimp only; omega, by dsimp only; omega⟩) ?_))
 refine ok_next F0 hl d4 d5 (by decide) fun x4 p4 f1 f2 f3 f4 f5 => ?_
 have e3 : x4 ≤ 100 := by have : x4 < 101 := f2; omega
 refine ok_chk (show InR _ from ⟨by dsimp only; omega, by dsimp only; omega⟩) (ok_chk (show InR _ from ⟨by dsimp only; omega, by dsimp only; omega⟩) (ok_next F0 hl f4 f5 (by decide) fun x5 p5 g1 g2 g3 g4 g5 => ok_chk (show InR _ from ⟨by dsimp only; omega, by dsimp only; omega⟩) ?_))
 refine ok_next F0 hl g4 g5 (by decide) fun x6 p6 h1 h2 h3 h4 h5 => ?_
 have e4 : x6 ≤ 3 := by have : x6 < 4 := h2; omega
 refine ok_chk (show InR _ from ⟨by dsimp only; omega, by dsimp only; omega⟩) (ok_chk (show InR _ from ⟨by dsimp only; omega, by dsimp only; omega⟩) (ok_next F0 hl h4 h5 (by decide) fun x7 p7 i1 i2 i3 i4 i5 => ok_chk (show InR _ from ⟨by dsimp only; omega, by dsimp only; omega⟩) (ok_some ?_)))
 dsimp only
 refine ⟨⟨?_, ?_, ?_⟩, ⟨?_, ?_, ?_⟩, ⟨?_, ?_, ?_⟩, ?_, ?_, ?_⟩ <;> dsimp only <;> (try split) <;> omega
theorem snoc_len {α : Type} {l : List α} {x : α} : (l ++ [x]).length = l.length + 1 := by simp
abbrev Pos (l : List Int) (p : Int) : Prop := 0 ≤ p ∧ p ≤ (l.length : Int)
theorem shipMade_ok {F : Nat} (hF : 1000 ≤ F) {l : List Int} (hl : Bytes l) : Ok (fun s => check s = 0) (law03_Made F l) := by
 have F0 : 0 < F := by omega
 unfold law03_Made
 refine ok_next0 F0 hl (by decide) fun c p0 a1 a2 a3 a4 a5 => ?_
 refine ok_chk (show InR _ from ⟨by dsimp only; omega, by dsimp only; omega⟩) ?_
 refine ok_next F0 hl a4 a5 (by decide) fun x1 p1 b1 b2 b3 b4 b5 => ?_
 refine ok_chk (show InR _ from ⟨by dsimp only; omega, by dsimp only; omega⟩) (ok_chk (show InR _ from ⟨by dsimp only; omega, by dsimp only; omega⟩) ?_)
 refine ok_next F0 hl b4 b5 (by decide) fun x2 p2 c1 c2 c3 c4 c5 => ?_
 refine ok_chk (show InR _ from ⟨by dsimp only; omega, by dsimp only; omega⟩) (ok_chk (show InR _ from ⟨by dsimp only; omega, by dsimp only; omega⟩) ?_)
 refine ok_next F0 hl c4 c5 (by decide) fun x3 p3 d1 d2 d3 d4 d5 => ?_
 refine ok_chk (show InR _ from ⟨by dsimp only; omega, by dsimp only; omega⟩) (ok_chk (show InR _ from ⟨by dsimp only; omega, by dsimp only; omega⟩) ?_)
 refine ok_next F0 hl d4 d5 (by decide) fun x4 p4 e1 e2 e3 e4 e5 => ?_
 refine ok_next F0 hl e4 e5 (by decide) fun x5 p5 f1 f2 f3 f4 f5 => ?_
 refine ok_next F0 hl f4 f5 (by decide) fun x6 p6 g1 g2 g3 g4 g5 => ?_
 refine ok_chk (show InR _ from ⟨by dsimp only; omega, by dsimp only; omega⟩) ?_
 refine ok_next F0 hl g4 g5 (by decide) fun x7 p7 h1 h2 h3 h4 h5 => ?_
 refine ok_chk (show InR _ from ⟨by dsimp only; omega, by dsimp only; omega⟩) ?_
 refine ok_next F0 hl h4 h5 (by decide) fun x8 p8 i1 i2 i3 i4 i5 => ?_
 refine ok_chk (show InR _ from ⟨by dsimp only; omega, by dsimp only; omega⟩) (ok_chk (show InR _ from ⟨by dsimp only; omega, by dsimp only; omega⟩) ?_)
 refine ok_next F0 hl i4 i5 (by decide) fun x9 p9 j1 j2 j3 j4 j5 => ?_
 refine ok_chk (show InR _ from ⟨by dsimp only; omega, by dsimp only; omega⟩) ?_
 dsimp only
 refine ok_loop (fun q : Int × (Int × (Int × ((List Point) × Int))) => Pre (-1) q.2.2.2.1 q.2.2.1 q.1 ∧ 0 ≤ q.2.1 ∧ q.2.1 ≤ 1 + x9 ∧ (q.2.2.2.1.length : Int) = q.2.1 + 1 ∧ q.2.2.1 ≤ 49 * q.2.1 ∧ 10 * q.2.1 ≤ q.2.2.1 ∧ 0 ≤ q.1 ∧ q.1 ≤ 5300 ∧ Pos l q.2.2.2.2) (fun q => (4 - q.2.1).toNat)
  ⟨Pre.one (by omega), by simp, by dsimp only; omega, rfl, by simp, by simp, by dsimp only; omega, by dsimp only; omega, j4, j5⟩ (by show (4 - (0 : Int)).toNat < F; omega) fun q next hI hn => ?_
 obtain ⟨y, i, x, lst, pos⟩ := q
 obtain ⟨k1, k2, k3, k4, k5, k6, k7, k8, k9, k10⟩ := hI
 dsimp only at k1 k2 k3 k4 k5 k6 k7 k8 k9 k10 ⊢
 refine ok_brk (fun hc => ?_) (fun hc => ?_)
 ·have hc := of_decide_eq_true hc
  refine ok_chk (show InR _ from ⟨by omega, by omega⟩) (ok_next F0 hl k9 k10 (by decide) fun z p q1 q2 q3 q4 q5 => ok_chk (show InR _ from ⟨by dsimp only; omega, by dsimp only; omega⟩) (ok_next F0 hl q4 q5 (by decide) fun z2 p2 r1 r2 r3 r4 r5 => ?_))
  dsimp only
  have hm := mul_nn (x := y) (y := z2) (a := 0) (A := 5300) (b := 0) (B := 100) (by omega) (by omega) (by decide) (by decide)
  have hm2 : y * z2 ≤ y * 100 := Int.mul_le_mul_of_nonneg_left (by omega) (by omega)
  generalize y * z2 = pr at hm hm2 ⊢
  refine ok_chk (show InR _ from ⟨by omega, by omega⟩) (ok_chk ⟨by omega, by omega⟩ (ok_chk (by simp; omega) (ok_chk (show InR _ from ⟨by omega, by omega⟩) (hn _ ⟨k1.snoc (by omega) (by omega) (by omega), by dsimp only; omega, by dsimp only; omega, by dsimp only; rw [snoc_len]; omega, by dsimp only; omega, by dsimp only; omega, by dsimp only; omega, by dsimp only; omega, r4, r5⟩ (by dsimp only; omega)))))
 ·have hc := of_decide_eq_false hc
  have s1 := k1.steady ⟨by omega, by omega⟩
  refine ok_next F0 hl k9 k10 (by decide) fun w pw l1 l2 l3 l4 l5 => ok_next F0 hl l4 l5 (by decide) fun w2 pw2 m1 m2 m3 m4 m5 => ok_chk (show InR _ from ⟨by dsimp only; omega, by dsimp only; omega⟩) ?_
  dsimp only
  refine ok_loop (fun q : Int × (Int × (Int × ((List Point) × Int))) => Pre 1 q.2.2.2.1 q.2.2.1 q.2.1 ∧ 0 ≤ q.1 ∧ q.1 ≤ 1 + w2 ∧ (q.2.2.2.1.length : Int) = q.1 + 1 ∧ q.2.2.1 ≤ 80 * q.1 ∧ 0 ≤ q.2.2.1 ∧ 0 ≤ q.2.1 ∧ q.2.1 ≤ 50 + 765 * q.1 ∧ Pos l q.2.2.2.2) (fun q => (3 - q.1).toNat)
   ⟨Pre.one (by omega), by simp, by dsimp only; omega, rfl, by simp, by simp, by dsimp only; omega, by dsimp only; omega, m4, m5⟩ (by show (3 - (0 : Int)).toNat < F; omega) fun q next hI hn => ?_
  obtain ⟨i', y', x', lst', pos'⟩ := q
  obtain ⟨n1, n2, n3, n4, n5, n6, n7, n8, n9, n10⟩ := hI
  dsimp only at n1 n2 n3 n4 n5 n6 n7 n8 n9 n10 ⊢
  refine ok_brk (fun hc' => ?_) (fun hc' => ?_)
  ·have hc' := of_decide_eq_true hc'
   refine ok_chk (show InR _ from ⟨by omega, by omega⟩) (ok_next F0 hl n9 n10 (by decide) fun z p q1 q2 q3 q4 q5 => ok_chk (show InR _ from ⟨by dsimp only; omega, by dsimp only; omega⟩) (ok_next F0 hl q4 q5 (by decide) fun z2 p2 r1 r2 r3 r4 r5 => ?_))
   dsimp only
   refine ok_chk (show InR _ from ⟨by omega, by omega⟩) (ok_chk (show InR _ from ⟨by omega, by omega⟩) (ok_chk (by simp; omega) (ok_chk (show InR _ from ⟨by omega, by omega⟩) (hn _ ⟨n1.snoc (by omega) (by omega) (by omega), by dsimp only; omega, by dsimp only; omega, by dsimp only; rw [snoc_len]; omega, by dsimp only; omega, by dsimp only; omega, by dsimp only; omega, by dsimp only; omega, r4, r5⟩ (by dsimp only; omega)))))
  ·have hc' := of_decide_eq_false hc'
   have s2 := n1.steady ⟨by omega, by omega⟩
   refine ok_next F0 hl n9 n10 (by decide) fun v pv o1 o2 o3 o4 o5 => ?_
   dsimp only
   refine ok_loop (fun q : Int × (Int × (Int × ((List Point) × Int))) => Pre 1 q.2.2.2.1 q.2.2.1 q.1 ∧ (pt q.2.2.2.1 0).Y = 0 ∧ 0 ≤ q.2.1 ∧ q.2.1 ≤ v ∧ (q.2.2.2.1.length : Int) = q.2.1 + 1 ∧ q.2.2.1 ≤ 90 * q.2.1 ∧ 0 ≤ q.2.2.1 ∧ 0 ≤ q.1 ∧ q.1 ≤ 765 * q.2.1 ∧ Pos l q.2.2.2.2) (fun q => (3 - q.2.1).toNat)
    ⟨Pre.one (by omega), rfl, by simp, by dsimp only; omega, rfl, by simp, by simp, by simp, by simp, o4, o5⟩ (by show (3 - (0 : Int)).toNat < F; omega) fun q next hI hn => ?_
   obtain ⟨y3, i3, x3', lst3, pos3⟩ := q
   obtain ⟨t1, t0, t2, t3, t4, t5, t6, t7, t8, t9, t10⟩ := hI
   dsimp only at t1 t0 t2 t3 t4 t5 t6 t7 t8 t9 t10 ⊢
   refine ok_brk (fun hc3 => ?_) (fun hc3 => ?_)
   ·have hc3 := of_decide_eq_true hc3
    refine ok_chk (show InR _ from ⟨by omega, by omega⟩) (ok_next F0 hl t9 t10 (by decide) fun z p q1 q2 q3 q4 q5 => ok_chk (show InR _ from ⟨by dsimp only; omega, by dsimp only; omega⟩) (ok_next F0 hl q4 q5 (by decide) fun z2 p2 r1 r2 r3 r4 r5 => ?_))
    dsimp only
    refine ok_chk (show InR _ from ⟨by omega, by omega⟩) (ok_chk (show InR _ from ⟨by omega, by omega⟩) (ok_chk (by simp; omega) (ok_chk (show InR _ from ⟨by omega, by omega⟩) (hn _ ⟨t1.snoc (by omega) (by omega) (by omega), by dsimp only; rw [pt_old (by omega) (by omega)]; exact t0, by dsimp only; omega, by dsimp only; omega, by dsimp only; rw [snoc_len]; omega, by dsimp only; omega, by dsimp only; omega, by dsimp only; omega, by dsimp only; omega, r4, r5⟩ (by dsimp only; omega)))))
   ·have hc3 := of_decide_eq_false hc3
    refine ok_next F0 hl t9 t10 (by decide) fun u pu u1 u2 u3 u4 u5 => ?_
    dsimp only
    refine ok_chk (show InR _ from ⟨by omega, by omega⟩) (ok_chk (show InR _ from ⟨by omega, by omega⟩) (ok_chk (by simp; omega) (ok_some ?_)))
    have hq := (t1.snoc (x' := 400) (y' := y3 + 4 * u) (by omega) (by omega) (by omega)).steady (by rw [snoc_len]; omega)
    unfold check
    have r1 : ∀ {a b c d e f g h i j k}, 1 ≤ a → a ≤ 6 → rule1 ⟨a, b, c, d, e, f, g, h, i, j, k⟩ = true := fun h1 h2 => by simp only [rule1, within, Bool.and_eq_true, decide_eq_true_eq]; omega
    rw [if_neg, if_neg, if_neg, if_neg, if_neg, if_neg]
    ·simp only [rule6, hq.1, hq.2]; rw [pt_old (by omega) (by omega), t0]; simp
    ·simp only [rule5, s2.1, s2.2]; simp; omega
    ·simp only [rule4, s1.1, s1.2, within]; simp; omega
    ·simp only [rule3, within]; simp; omega
    ·simp only [rule2, within]; simp; omega
    ·simp only [rule1, within]; simp; omega
end Go.Proofs.Hr.H
namespace Go.Proofs.Hr.H
open Go Go.KX
end Go.Proofs.Hr.H
namespace Go.Proofs.Hr.H
open Go Go.KX
structure Short (m : Member) : Prop where
 t : m.Ship.Thrust.length ≤ 900
 w : m.Ship.Water.length ≤ 900
 i : m.Ship.Ice.length ≤ 900
theorem GoodM.short' {m : Member} (h : GoodM m) : Short m := by
 have h1 := steady_len (check_steadyThrust h.ship)
 have h2 := steady_len (check_steadyWater h.ship)
 have h3 := steady_len (check_steadyIce h.ship)
 exact ⟨by omega, by omega, by omega⟩
end Go.Proofs.Hr.H
namespace Go.Proofs.Hr.H
open Go Go.KX
theorem iright_eq {F : Nat} (s : Span) {n : Int} (hn : 0 ≤ n ∧ n ≤ 3) : ice_right F s n = some (rightS s n) := by
 refine Ok.eq ?_
 unfold ice_right rightS
 refine ok_bnde (b := Numbers.mk 100 400 100 3) rfl (ok_chk ⟨hn.1, by omega⟩ (ok_bnde rfl (ok_bbrk (fun h => ?_) (fun h => ?_))))
 ·refine ok_bnde (b := Numbers.mk 100 400 100 3) rfl (ok_chk (fun _ => ⟨hn.1, by omega⟩) ?_)
  have h' : inI s.Lo 0 (([100, 400, 100, 3] : List Int).getD n.toNat 0) = true := h
  rw [h]
  refine ok_bnde rfl (ok_some ?_)
  rw [h']; rfl
 ·refine ok_bnde rfl (ok_chk (fun h2 => by rw [h] at h2; cases h2) ?_)
  have h' : inI s.Lo 0 (([100, 400, 100, 3] : List Int).getD n.toNat 0) = false := h
  rw [h]
  refine ok_bnde rfl (ok_some ?_)
  rw [h']; rfl
theorem cell_eq {F : Nat} (hF : 1000 ≤ F) (c : Cell) : ice_CheckCell F c = some (checkCell c) := by
 refine Ok.eq ?_
 unfold ice_CheckCell
 have F0 : 0 < F := by omega
 refine ok_bnde (b := Spans.mk c.Conc c.Thick c.Ridge c.Press) rfl ?_
 have fin : ∀ b : Bool, b = (rightS c.Conc 0 && rightS c.Thick 1 && rightS c.Ridge 2 && rightS c.Press 3) → Ok (fun r => r = checkCell c) (brk (!b) (some (20 : Int)) (some 0)) := fun b hb => by
  refine ok_brk (fun h => ok_some ?_) (fun h => ok_some ?_)
  ·have h : b = false := by simpa using h
   rw [hb] at h
   by_cases g : goodCell c
   ·have := checkCell_ok.2 g
    unfold checkCell at this
    unfold checkCell
    simp only [all4] at this ⊢
    first
     | (rw [h] at this ⊢; simp_all)
     | simp_all
   ·exact (checkCell_20 g).symm
  ·have h : b = true := by simpa using h
   rw [hb] at h
   unfold checkCell
   simp only [all4]
   simp_all
 refine ok_join F0 (fun b : Bool => b = (rightS c.Conc 0 && rightS c.Thick 1 && rightS c.Ridge 2 && rightS c.Press 3)) (fun b hb => fin b hb) fun k hk => ?_
 refine ok_bnde (b := Numbers.mk 100 400 100 3) rfl ?_
 obtain ⟨n, hn⟩ : ∃ n, F = n + 5 := ⟨F - 5, by omega⟩
 subst hn
 simp only [loopC_succ]
 refine ok_brkT rfl (ok_chk (by decide) (ok_bnde (iright_eq _ (by decide)) (ok_brk (fun g => hk _ ?_) (fun g => ok_chk (by decide) ?_))))
 ·have g : rightS c.Conc 0 = false := by simpa using g
  rw [g]; rfl
 have g0 : rightS c.Conc 0 = true := by simpa using g
 refine ok_brkT rfl (ok_chk (by decide) (ok_bnde (iright_eq _ (by decide)) (ok_brk (fun g => hk _ ?_) (fun g => ok_chk (by decide) ?_))))
 ·have g : rightS c.Thick 1 = false := by simpa using g
  rw [g]; simp
 have g1 : rightS c.Thick 1 = true := by simpa using g
 refine ok_brkT rfl (ok_chk (by decide) (ok_bnde (iright_eq _ (by decide)) (ok_brk (fun g => hk _ ?_) (fun g => ok_chk (by decide) ?_))))
 ·have g : rightS c.Ridge 2 = false := by simpa using g
  rw [g]; simp
 have g2 : rightS c.Ridge 2 = true := by simpa using g
 refine ok_brkT rfl (ok_chk (by decide) (ok_bnde (iright_eq _ (by decide)) (ok_brk (fun g => hk _ ?_) (fun g => ok_chk (by decide) ?_))))
 ·have g : rightS c.Press 3 = false := by simpa using g
  rw [g]; simp
 have g3 : rightS c.Press 3 = true := by simpa using g
 refine ok_brkF rfl (hk _ ?_)
 rw [g0, g1, g2, g3]; rfl
theorem ok_great {α : Type} {post : α → Prop} {F : Nat} (hF : 1000 ≤ F) {so : Int → Bool} {lo0 hi0 : Int} (h0 : 0 ≤ lo0) (hle : lo0 ≤ hi0) (hhi : hi0 ≤ 900) {test : Int → (Bool → Option α) → Option α} (ht : ∀ v (K : Bool → Option α), lo0 ≤ v → v ≤ hi0 → Ok post (K (so v)) → Ok post (test v K))
  {K : Int × Bool → Option α} (hK : Ok post (K (great so lo0 hi0, true))) :
  Ok post (loopC (fun (x : Int × Int) => fun next => brk (decide (x.1 < x.2)) (chk (InR (x.2 - x.1)) (chk (InR (x.2 - x.1 + 1)) (chk (0 ≤ x.2 - x.1 + 1 ∧ x.2 - x.1 + 1 ≤ 9223372036854775807) (chk (InR (x.1 + (x.2 - x.1 + 1) / 2)) (join F (fun b : Bool => brk b (next ((x.1 + (x.2 - x.1 + 1) / 2, x.2))) (chk (InR (x.1 + (x.2 - x.1 + 1) / 2 - 1)) (next ((x.1, x.1 + (x.2 - x.1 + 1) / 2 - 1))))) (fun k => test (x.1 + (x.2 - x.1 + 1) / 2) k)))))) (K ((x.1, true)))) F ((lo0, hi0))) := by
 refine ok_loop (fun q : Int × Int => lo0 ≤ q.1 ∧ q.1 ≤ q.2 ∧ q.2 ≤ hi0 ∧ great so q.1 q.2 = great so lo0 hi0) (fun q => (q.2 - q.1).toNat) ⟨Int.le_refl _, hle, Int.le_refl _, rfl⟩ (by dsimp only; omega) fun q next hI hn => ?_
 obtain ⟨lo, hi⟩ := q
 obtain ⟨q1, q2, q3, q4⟩ := hI
 dsimp only at q1 q2 q3 q4 ⊢
 refine ok_brk (fun h => ?_) (fun h => ?_)
 ·have h : lo < hi := of_decide_eq_true h
  refine ok_chk (show InR _ from ⟨by omega, by omega⟩) (ok_chk (show InR _ from ⟨by omega, by omega⟩) (ok_chk ⟨by omega, by omega⟩ (ok_chk (show InR _ from ⟨by omega, by omega⟩) (ok_join (by omega) (fun b => b = so (lo + (hi - lo + 1) / 2)) (fun b hb => ?_) fun k hk => ht _ _ (by omega) (by omega) (hk _ rfl)))))
  rw [great_step h] at q4
  refine ok_brk (fun g => hn _ ⟨by dsimp only; omega, by dsimp only; omega, by dsimp only; omega, ?_⟩ (by dsimp only; omega)) (fun g => ok_chk (show InR _ from ⟨by omega, by omega⟩) (hn _ ⟨by dsimp only; omega, by dsimp only; omega, by dsimp only; omega, ?_⟩ (by dsimp only; omega)))
  ·rw [if_pos (by rw [← hb]; exact g)] at q4; exact q4
  ·rw [if_neg (by rw [← hb, g]; simp)] at q4; exact q4
 ·have h : ¬ lo < hi := of_decide_eq_false h
  rw [great_done h] at q4
  rw [← q4] at hK
  exact hK
noncomputable def goesM {α : Type} (F : Nat) (s : Ship) (i : Ice) (v : Int) (ch : Bool) (K : Bool → Option α) : Option α :=
 join F (fun b : Bool => brk b (bearsM F s i v ch K) (K false)) (fun k => makesM F s i v ch k)
theorem goesM_ok {α : Type} {post : α → Prop} {F : Nat} (hF : 1000 ≤ F) {s : Ship} (hc : check s = 0) {i : Ice} (hi : goodIce i) {v : Int} (hv : 0 ≤ v ∧ v ≤ 250) (ch : Bool) {K : Bool → Option α} (h : Ok post (K (goesP s i ch v))) : Ok post (goesM F s i v ch K) := by
 unfold goesM
 refine ok_join (by omega) (fun b => b = makes s i ch v) (fun b hb => ?_) fun k hk => makes_ok hF hc hi hv ch (hk _ rfl)
 refine ok_brk (fun g => bears_ok hF hc hi hv ch ?_) (fun g => ?_)
 ·have : goesP s i ch v = bears s i ch v := by unfold goesP; rw [← hb, g, Bool.true_and]
  rwa [this] at h
 ·have : goesP s i ch v = false := by unfold goesP; rw [← hb, g, Bool.false_and]
  rwa [this] at h
theorem ssafe_eq {F : Nat} (hF : 1000 ≤ F) {s : Ship} (hc : check s = 0) {c : Cell} (hg : goodCell c) (ch : Bool) : hull_Ship_safe F s c ch = some (safe s c ch) := by
 have F0 : 0 < F := by omega
 have hl := goodCell_last hg
 refine Ok.eq ?_
 unfold hull_Ship_safe
 refine ok_bnde (b := lastI c) rfl ?_
 refine ok_join F0 (fun x : Int × Bool => x.1 = speed s (lastI c) ch) (fun x hx => ?_) fun k hk => ?_
 ·refine ok_brk (fun h => ok_some ?_) (fun h => ?_)
  ·have h := of_decide_eq_true h
   rw [hx] at h
   unfold safe; rw [if_pos h]
  ·have h := of_decide_eq_false h
   rw [hx] at h
   refine ok_join F0 (fun x : Int × Bool => x = goes s (lastI c) ch) (fun x hx => ?_) fun k hk => ?_
   ·subst hx
    refine ok_brk (fun g => ok_some ?_) (fun g => ok_some ?_)
    ·have g : (goes s (lastI c) ch).2 = false := by simpa using g
     unfold safe; rw [if_neg h, if_pos g]
    ·have g : (goes s (lastI c) ch).2 = true := by simpa using g
     unfold safe; rw [if_neg h, if_neg (by rw [g]; simp)]
   ·refine ok_join F0 (fun b : Bool => b = goesP s (lastI c) ch 10) (fun b hb => ?_) fun k2 hk2 => goesM_ok hF hc hl (v := 10) (by decide) ch (hk2 _ rfl)
    refine ok_brk (fun g => hk _ ?_) (fun g => ?_)
    ·have g : b = false := by simpa using g
     rw [goes_eq, if_neg (by rw [← hb, g]; simp)]
    ·have g : b = true := by simpa using g
     refine ok_great hF (so := goesP s (lastI c) ch) (by decide) (by decide) (by decide) (test := fun v K => goesM F s (lastI c) v ch K) (fun v K h1 h2 h3 => goesM_ok hF hc hl (by omega) ch h3) (K := fun x => k x) (hk _ ?_)
     rw [goes_eq, if_pos (by rw [← hb, g])]
 ·refine ok_join F0 (fun b : Bool => b = makes s (lastI c) ch 0) (fun b hb => ?_) fun k2 hk2 => makes_ok hF hc hl (v := 0) (by decide) ch (hk2 _ rfl)
  refine ok_brk (fun g => hk _ ?_) (fun g => ?_)
  ·have g : b = false := by simpa using g
   unfold speed greatest
   rw [if_neg (by show ¬ makes s (lastI c) ch 0 = true; rw [← hb, g]; simp)]
  ·have g : b = true := by simpa using g
   refine ok_great hF (so := fun v => makes s (lastI c) ch v) (by decide) (by decide) (by decide) (test := fun v K => makesM F s (lastI c) v ch K) (fun v K h1 h2 h3 => makes_ok hF hc hl (by omega) ch h3) (K := fun x => k x) (hk _ ?_)
   unfold speed greatest
   rw [if_pos (show makes s (lastI c) ch 0 = true by rw [← hb, g])]
theorem hmet_eq {F : Nat} (hF : 1000 ≤ F) {s : Ship} (h1 : s.Thrust.length ≤ 900) (h2 : s.Water.length ≤ 900) (h3 : s.Ice.length ≤ 900) (c : Cell) : hull_met F s c = some (met s c) := by
 refine Ok.eq ?_
 unfold hull_met met
 refine ok_bnde (check_eq hF h1 h2 h3) (ok_brk (fun h => ok_some ?_) (fun h => ok_bnde (cell_eq hF c) (ok_some ?_)))
 ·have h : check s ≠ 0 := by simpa using h
  rw [if_pos h]
 ·have h : check s = 0 := by simpa using h
  rw [if_neg (by simp [h])]
theorem safe_eq {F : Nat} (hF : 1000 ≤ F) {m : Member} (h : GoodM m) {c : Cell} (hg : goodCell c) (ch : Bool) : hull_Safe F m.Ship c ch = some (safe m.Ship c ch) := by
 refine Ok.eq ?_
 unfold hull_Safe
 refine ok_bnde (hmet_eq hF h.short'.t h.short'.w h.short'.i c) ?_
 rw [met_zero h.ship hg]
 exact ok_brkF rfl (ok_bnde (ssafe_eq hF h.ship hg ch) (ok_some rfl))
end Go.Proofs.Hr.H
namespace Go.Proofs.Hr.H
open Go Go.KX
noncomputable def speedM {α : Type} (F : Nat) (s : Ship) (i : Ice) (ch : Bool) (K : Int × Bool → Option α) : Option α :=
 join F (fun b : Bool => brk (!b) (K ((0, false))) (loopC (fun (x : Int × Int) => fun next => brk (decide (x.1 < x.2)) (chk (InR (x.2 - x.1)) (chk (InR (x.2 - x.1 + 1)) (chk (0 ≤ x.2 - x.1 + 1 ∧ x.2 - x.1 + 1 ≤ 9223372036854775807) (chk (InR (x.1 + (x.2 - x.1 + 1) / 2)) (join F (fun b : Bool => brk b (next ((x.1 + (x.2 - x.1 + 1) / 2, x.2))) (chk (InR (x.1 + (x.2 - x.1 + 1) / 2 - 1)) (next ((x.1, x.1 + (x.2 - x.1 + 1) / 2 - 1))))) (fun k => makesM F s i (x.1 + (x.2 - x.1 + 1) / 2) ch k)))))) (K ((x.1, true)))) F ((0, 250)))) (fun k => makesM F s i 0 ch k)
theorem speedM_ok {α : Type} {post : α → Prop} {F : Nat} (hF : 1000 ≤ F) {s : Ship} (hc : check s = 0) {i : Ice} (hi : goodIce i) (ch : Bool) {K : Int × Bool → Option α} (h : ∀ x : Int × Bool, x.1 = speed s i ch → Ok post (K x)) : Ok post (speedM F s i ch K) := by
 unfold speedM
 refine ok_join (by omega) (fun b : Bool => b = makes s i ch 0) (fun b hb => ?_) fun k2 hk2 => makes_ok hF hc hi (v := 0) (by decide) ch (hk2 _ rfl)
 refine ok_brk (fun g => h _ ?_) (fun g => ?_)
 ·have g : b = false := by simpa using g
  unfold speed greatest
  rw [if_neg (by show ¬ makes s i ch 0 = true; rw [← hb, g]; simp)]
 ·have g : b = true := by simpa using g
  refine ok_great hF (so := fun v => makes s i ch v) (by decide) (by decide) (by decide) (test := fun v K => makesM F s i v ch K) (fun v K h1 h2 h3 => makes_ok hF hc hi (by omega) ch h3) (K := K) (h _ ?_)
  unfold speed greatest
  rw [if_pos (show makes s i ch 0 = true by rw [← hb, g])]
theorem ice_good {F : Nat} (hF : 1000 ≤ F) {i : Ice} (h : goodIce i) : ice_CheckIce F i = some 0 := by
 refine Ok.eq ?_
 unfold ice_CheckIce
 obtain ⟨h1, h2, h3, h4⟩ := h
 have inr : ∀ x m : Int, 0 ≤ x ∧ x ≤ m → ice_in F x 0 m = some true := fun x m hx => by
  show some (decide (x ≥ 0) && decide (x ≤ m)) = _
  rw [decide_eq_true hx.1, decide_eq_true hx.2]; rfl
 refine ok_bnde (b := Numbers.mk i.Conc i.Thick i.Ridge i.Press) rfl (ok_join (by omega) (fun b => b = true) (fun b hb => by subst hb; exact ok_brkF rfl (ok_some rfl)) fun k hk => ok_bnde (b := Numbers.mk 100 400 100 3) rfl ?_)
 obtain ⟨n, hn⟩ : ∃ n, F = n + 5 := ⟨F - 5, by omega⟩
 subst hn
 simp only [loopC_succ]
 refine ok_brkT rfl (ok_chk (by decide) (ok_bnde (b := Numbers.mk 100 400 100 3) rfl (ok_chk (by decide) (ok_bnde (inr i.Conc 100 h1) (ok_brkF rfl (ok_chk (by decide) ?_))))))
 refine ok_brkT rfl (ok_chk (by decide) (ok_bnde (b := Numbers.mk 100 400 100 3) rfl (ok_chk (by decide) (ok_bnde (inr i.Thick 400 h2) (ok_brkF rfl (ok_chk (by decide) ?_))))))
 refine ok_brkT rfl (ok_chk (by decide) (ok_bnde (b := Numbers.mk 100 400 100 3) rfl (ok_chk (by decide) (ok_bnde (inr i.Ridge 100 h3) (ok_brkF rfl (ok_chk (by decide) ?_))))))
 refine ok_brkT rfl (ok_chk (by decide) (ok_bnde (b := Numbers.mk 100 400 100 3) rfl (ok_chk (by decide) (ok_bnde (inr i.Press 3 h4) (ok_brkF rfl (ok_chk (by decide) ?_))))))
 exact ok_brkF rfl (hk _ rfl)
theorem hcheck_good {F : Nat} (hF : 1000 ≤ F) {m : Member} (h : GoodM m) : hull_Check F m.Ship = some 0 := by
 rw [check_eq hF h.short'.t h.short'.w h.short'.i, h.ship]
theorem hasked_good {F : Nat} (hF : 1000 ≤ F) {m : Member} (h : GoodM m) {i : Ice} (hi : goodIce i) {v : Int} (hv : 0 ≤ v ∧ v ≤ 250) : hull_asked F m.Ship i v = some 0 := by
 refine Ok.eq ?_
 unfold hull_asked
 refine ok_bnde (hcheck_good hF h) (ok_brkF rfl (ok_bnde (b := 0) ?_ (ok_some rfl)))
 refine Ok.eq ?_
 unfold hull_loaded
 refine ok_bnde (ice_good hF hi) (ok_brkF rfl (ok_bnde (within_eq ..) (ok_brkF ?_ (ok_some rfl))))
 simp [within]; omega
theorem Makes_eq {F : Nat} (hF : 1000 ≤ F) {m : Member} (h : GoodM m) {i : Ice} (hi : goodIce i) {v : Int} (hv : 0 ≤ v ∧ v ≤ 250) (ch : Bool) : hull_Makes F m.Ship i v ch = some (makes m.Ship i ch v, 0) := by
 refine Ok.eq ?_
 unfold hull_Makes
 exact ok_bnde (hasked_good hF h hi hv) (ok_brkF rfl (ok_join (by omega) (fun b => b = makes m.Ship i ch v) (fun b hb => ok_some (by rw [hb])) fun k hk => makes_ok hF h.ship hi hv ch (hk _ rfl)))
theorem speedsJ_ok {F : Nat} (hF : 1000 ≤ F) {m : Member} (h : GoodM m) {i : Ice} (hi : goodIce i) (ch : Bool) : Ok (fun r => r.2 = 0 ∧ r.1.Lo = (if speed m.Ship i ch < 250 then speed m.Ship i ch else 250)) (hull_Speeds F m.Ship (cellOf i) ch) := by
 have F0 : 0 < F := by omega
 unfold hull_Speeds
 refine ok_bnde (hmet_eq hF h.short'.t h.short'.w h.short'.i _) ?_
 rw [met_zero h.ship (cellOf_good hi)]
 refine ok_brkF rfl (ok_join F0 (fun x : Int × Int => x.2 = (if speed m.Ship i ch < 250 then speed m.Ship i ch else 250)) (fun x hx => ok_some ⟨rfl, hx⟩) fun k hk => ok_bnde (b := i) rfl ?_)
 refine ok_join F0 (fun x : Int × Bool => x.1 = speed m.Ship i ch) (fun x hx => ok_bnde (b := i) rfl (ok_bnde (b := i) rfl (ok_brkF (by simp) (hk _ ?_)))) fun k2 hk2 => speedM_ok hF h.ship hi ch (K := k2) hk2
 dsimp only
 rw [hx]
theorem besetJ_ok {F : Nat} (hF : 1000 ≤ F) {m : Member} (h : GoodM m) {i : Ice} (hi : goodIce i) (ch : Bool) (hs : 10 ≤ speed m.Ship i ch) : Ok (fun r => r.1 = false ∧ r.2.2 = 0) (hull_Beset F m.Ship (cellOf i) ch) := by
 unfold hull_Beset
 refine ok_bnd _ (speedsJ_ok hF h hi ch) fun r ⟨h1, h2⟩ => ?_
 rw [h1]
 refine ok_brkF rfl (ok_some ⟨?_, rfl⟩)
 dsimp only
 rw [h2]
 exact decide_eq_false (by split <;> omega)
theorem beyondJ_ok {F : Nat} (hF : 1000 ≤ F) {m : Member} (h : GoodM m) {i : Ice} (hi : goodIce i) {v : Int} (hv : 0 ≤ v ∧ v ≤ 250) (ch : Bool) (hb : bears m.Ship i ch v = true) : Ok (fun r => r.1 = false ∧ r.2.2 = 0) (hull_Beyond F m.Ship (cellOf i) v ch) := by
 have F0 : 0 < F := by omega
 unfold hull_Beyond
 refine ok_bnde (hmet_eq hF h.short'.t h.short'.w h.short'.i _) ?_
 rw [met_zero h.ship (cellOf_good hi)]
 refine ok_brkF rfl (ok_bnde (within_eq ..) (ok_brkF (by simp [within]; omega) (ok_join F0 (fun x : Bool × Bool => x.1 = false) (fun x hx => ok_some ⟨hx, rfl⟩) fun k hk => ok_bnde (b := i) rfl ?_)))
 obtain ⟨hcl, _⟩ := check_bd h.ship
 refine ok_bnde (load_eq hF hi hv ch) (ok_chk (show InR _ from ⟨by omega, by omega⟩) (ok_chk ⟨by omega, by omega⟩ (ok_bnde (b := i) rfl (ok_bnde (b := i) rfl (ok_brkF (by simp) (hk _ ?_))))))
 show (!bears m.Ship i ch v) = false
 rw [hb]; rfl
end Go.Proofs.Hr.H

namespace Go.Proofs.Hr
open Go Go.KX
section
variable {F : Nat}
theorem around {t m u v : Int} (ht : 0 ≤ t ∧ t ≤ m) (hu : 0 ≤ u) (hv : 0 ≤ v) : SpHas ⟨if t - u > 0 then t - u else 0, if t + v < m then t + v else m⟩ t m := by
 constructor
 ·show 0 ≤ if t - u > 0 then t - u else 0
  split <;> omega
 ·show (if t - u > 0 then t - u else 0) ≤ t
  split <;> omega
 ·show t ≤ if t + v < m then t + v else m
  split <;> omega
 ·show (if t + v < m then t + v else m) ≤ m
  split <;> omega
theorem tail_ok (hF : 1000 ≤ F) (hw : law03_awake F = some true) {s : Ship} (hs : H.check s = 0) {t : Ice} (ht : H.goodIce t) {c : Cell} (hc : Has ⟨c.Conc, c.Thick, c.Ridge, c.Press⟩ t) (ch : Bool) {post : Bool → Prop} (hpost : post true) :
  Go.KX.Ok post (bnd (hull_Safe F s c ch) (fun (x_15 : (Int) × (Int)) => brk (x_15.2 != (0 : Int)) (bnd (brk (x_15.2 == (4 : Int) || x_15.2 == (41 : Int)) (law03_awake F) (some false)) (fun (x_16 : Bool) => some ((x_15.2 == (4 : Int) || x_15.2 == (41 : Int)) && x_16))) (bnd (hull_Makes F s t x_15.1 ch) (fun (x_16 : (Bool) × (Int)) => bnd (law03_Just F t) (fun (x_17 : Cell) => bnd (hull_Beset F s x_17 ch) (fun (x_18 : (Bool) × ((Bool) × (Int))) => bnd (law03_Just F t) (fun (x_19 : Cell) => bnd (hull_Beyond F s x_19 x_15.1 ch) (fun (x_20 : (Bool) × ((Bool) × (Int))) => bnd (brk (x_16.2 == (0 : Int) && x_18.2.2 == (0 : Int) && x_20.2.2 == (0 : Int) && x_16.1 && !x_18.1 && !x_20.1) (law03_awake F) (some false)) (fun (x_21 : Bool) => some (x_16.2 == (0 : Int) && x_18.2.2 == (0 : Int) && x_20.2.2 == (0 : Int) && x_16.1 && !x_18.1 && !x_20.1 && x_21)))))))))) := by
 have a := hc.a; have b := hc.b; have d := hc.c; have e := hc.d
 have hg : H.goodCell c := ⟨⟨a.lo, Int.le_trans a.le a.ge, a.hi⟩, ⟨b.lo, Int.le_trans b.le b.ge, b.hi⟩, ⟨d.lo, Int.le_trans d.le d.ge, d.hi⟩, ⟨e.lo, Int.le_trans e.le e.ge, e.hi⟩⟩
 have hle : H.LeI t (H.lastI c) := ⟨a.ge, b.ge, d.ge, e.ge⟩
 have hgl := H.goodCell_last hg
 have hm : H.GoodM ⟨s⟩ := ⟨hs⟩
 refine ok_bnde (H.safe_eq hF hm hg ch) ?_
 show Go.KX.Ok post (brk ((H.safe s c ch).2 != 0) _ _)
 by_cases h0 : (H.safe s c ch).2 = 0
 ·obtain ⟨g1, g2⟩ := H.safe_goes hs hg h0
  refine ok_brkF (by rw [h0]; rfl) ?_
  have hS : ¬ H.speed s (H.lastI c) ch < 10 ∧ (H.goes s (H.lastI c) ch).2 = true := by
   unfold H.safe at h0
   split at h0
   ·cases h0
   ·split at h0
    ·cases h0
    ·rename_i k1 k2
     exact ⟨k1, by simpa using k2⟩
  have hv : 10 ≤ (H.safe s c ch).1 ∧ (H.safe s c ch).1 ≤ 250 := g2.1
  obtain ⟨_, _, hiff⟩ := H.goes_iff hs hgl (ch := ch) (by rw [← H.goes_ok]; exact hS.2)
  have hP : H.goesP s (H.lastI c) ch (H.safe s c ch).1 = true := (hiff _ hv.1 hv.2).2 (by rw [g1]; exact Int.le_refl _)
  have hPt := H.goesP_mono hs ht hgl hle (by omega) (Int.le_refl _) hP
  have hPt2 := hPt
  simp only [H.goesP, Bool.and_eq_true] at hPt2
  have hsp : 10 ≤ H.speed s t ch := by
   have h1 := H.speed_mono hs ht hgl hle ch
   have h2 := hS.1
   omega
  refine ok_bnde (H.Makes_eq hF hm ht ⟨by omega, hv.2⟩ ch) (ok_bnde (b := H.cellOf t) rfl (ok_bnd _ (H.besetJ_ok hF hm ht ch hsp) ?_))
  rintro ⟨b1, b2, b3⟩ ⟨e1, e2⟩
  simp only at e1 e2
  subst e1; subst e2
  refine ok_bnde (b := H.cellOf t) rfl (ok_bnd _ (H.beyondJ_ok hF hm ht ⟨by omega, hv.2⟩ ch hPt2.2) ?_)
  rintro ⟨d1, d2, d3⟩ ⟨e1, e2⟩
  simp only at e1 e2
  subst e1; subst e2
  have hmk : H.makes s t ch (H.safe s c ch).1 = true := hPt2.1
  show Go.KX.Ok post (bnd (brk ((0 : Int) == 0 && (0 : Int) == 0 && (0 : Int) == 0 && H.makes s t ch (H.safe s c ch).1 && !false && !false) (law03_awake F) (some false)) _)
  rw [hmk]
  exact ok_bnde (b := true) hw (ok_some hpost)
 ·have h4 : (H.safe s c ch).2 = 4 ∨ (H.safe s c ch).2 = 41 := by
   unfold H.safe at h0 ⊢
   split
   ·exact .inl rfl
   ·split
    ·exact .inr rfl
    ·rename_i h1 h2
     exact absurd (by rw [if_neg h1, if_neg h2]) h0
  have hb : ((H.safe s c ch).2 == (4 : Int) || (H.safe s c ch).2 == (41 : Int)) = true := by
   rcases h4 with h | h <;> rw [h] <;> rfl
  refine ok_brkT (by simp [h0]) ?_
  rw [hb]
  exact ok_bnde (b := true) hw (ok_some hpost)
theorem reported_ok (hF : 1000 ≤ F) (hw : law03_awake F = some true) {l m rep rates : List Int} (hl : Bytes l) (hm : Bytes m) (hr : Bytes rep) (hq : Bytes rates) (ch : Bool) : law03_HullReported F l m rep rates ch = some true := by
 refine Go.KX.Ok.eq ?_
 have f0 : 0 < F := by omega
 unfold law03_HullReported
 refine ok_bnd _ (H.shipMade_ok hF hl) fun s hs => ?_
 refine ok_bnd _ (H.frozen_ok hF hm) fun cell hg => ?_
 obtain ⟨t, ht⟩ : ∃ t, t = H.firstI cell := ⟨_, rfl⟩
 have hgt : H.goodIce t := by rw [ht]; exact H.goodCell_first hg
 have gt : Good t := ⟨hgt.1, hgt.2.1, hgt.2.2.1, hgt.2.2.2⟩
 have g1 := gt.a; have g2 := gt.b; have g3 := gt.c; have g4 := gt.d
 refine ok_bnde (b := (t, H.lastI cell)) (by rw [ht]; rfl) ?_
 dsimp only
 refine ok_next0 f0 hq (n := 256) (by omega) fun v0 p0 a0 b0 _ d0 e0 => ?_
 dsimp only
 refine ok_next f0 hq d0 e0 (n := 256) (by omega) fun v1 p1 a1 b1 _ d1 e1 => ?_
 dsimp only
 refine ok_next f0 hq d1 e1 (n := 256) (by omega) fun v2 p2 a2 b2 _ d2 e2 => ?_
 dsimp only
 refine ok_next f0 hq d2 e2 (n := 30) (by omega) fun v3 p3 a3 b3 _ d3 e3 => ?_
 dsimp only
 refine ok_next f0 hq d3 e3 (n := 256) (by omega) fun v4 p4 a4 b4 _ d4 e4 => ?_
 dsimp only
 refine ok_next f0 hq d4 e4 (n := 256) (by omega) fun v5 p5 a5 b5 _ d5 e5 => ?_
 dsimp only
 refine ok_next f0 hq d5 e5 (n := 256) (by omega) fun v6 p6 a6 b6 _ d6 e6 => ?_
 dsimp only
 refine ok_next f0 hq d6 e6 (n := 30) (by omega) fun v7 p7 a7 b7 _ d7 e7 => ?_
 dsimp only
 have hrate : RatesOk (Rates.mk (Ice.mk v0 v1 v2 v3) (Ice.mk v4 v5 v6 v7)) := ⟨⟨⟨a0, by show v0 ≤ 1000; omega⟩, ⟨a1, by show v1 ≤ 1000; omega⟩, ⟨a2, by show v2 ≤ 1000; omega⟩, ⟨a3, by show v3 ≤ 1000; omega⟩⟩, ⟨⟨a4, by show v4 ≤ 1000; omega⟩, ⟨a5, by show v5 ≤ 1000; omega⟩, ⟨a6, by show v6 ≤ 1000; omega⟩, ⟨a7, by show v7 ≤ 1000; omega⟩⟩⟩
 refine ok_next0 f0 hr (n := 7) (by omega) fun n p8 n1 n2 _ n4 n5 => ?_
 dsimp only
 refine ok_loop (fun x : Int × List Report × Int => 0 ≤ x.1 ∧ x.1 ≤ n ∧ (x.2.1.length : Int) = x.1 ∧ (∀ j < x.2.1.length, RepOk (x.2.1.getD j R0) j t) ∧ 0 ≤ x.2.2 ∧ x.2.2 ≤ rep.length) (fun x => (n - x.1).toNat) ⟨by simp, n1, rfl, fun j hj => absurd hj (Nat.not_lt_zero _), n4, n5⟩ (by show (n - 0).toNat < F; omega) ?_
 rintro ⟨i, L, p⟩ next ⟨i1, i2, i3, i4, i5, i6⟩ hn
 simp only at i1 i2 i3 i4 i5 i6 hn
 dsimp only
 refine ok_brk (fun hc => ?_) (fun _ => ?_)
 ·have hc : i < n := of_decide_eq_true hc
  refine ok_next f0 hr i5 i6 (n := 3) (by omega) fun w0 q0 u0 x0 _ y0 z0 => ?_
  dsimp only
  refine ok_chk (show InR (1 + w0) from ⟨by omega, by omega⟩) ?_
  refine ok_next f0 hr y0 z0 (n := 256) (by omega) fun w1 q1 u1 x1 _ y1 z1 => ?_
  dsimp only
  refine ok_chk (show InR (300 - w1) from ⟨by omega, by omega⟩) ?_
  refine ok_next f0 hr y1 z1 (n := 15) (by omega) fun w2 q2 u2 x2 _ y2 z2 => ?_
  dsimp only
  refine ok_chk (show InR (1 + w2) from ⟨by omega, by omega⟩) ?_
  refine ok_next f0 hr y2 z2 (n := 30) (by omega) fun w3 q3 u3 x3 _ y3 z3 => ?_
  dsimp only
  refine ok_chk (show InR (t.Conc - w3) from ⟨by omega, by omega⟩) ?_
  refine ok_next f0 hr y3 z3 (n := 30) (by omega) fun w4 q4 u4 x4 _ y4 z4 => ?_
  dsimp only
  refine ok_chk (show InR (t.Conc + w4) from ⟨by omega, by omega⟩) ?_
  refine ok_next f0 hr y4 z4 (n := 30) (by omega) fun w5 q5 u5 x5 _ y5 z5 => ?_
  dsimp only
  refine ok_chk (show InR (t.Thick - w5) from ⟨by omega, by omega⟩) ?_
  refine ok_next f0 hr y5 z5 (n := 30) (by omega) fun w6 q6 u6 x6 _ y6 z6 => ?_
  dsimp only
  refine ok_chk (show InR (t.Thick + w6) from ⟨by omega, by omega⟩) ?_
  refine ok_next f0 hr y6 z6 (n := 30) (by omega) fun w7 q7 u7 x7 _ y7 z7 => ?_
  dsimp only
  refine ok_chk (show InR (t.Ridge - w7) from ⟨by omega, by omega⟩) ?_
  refine ok_next f0 hr y7 z7 (n := 30) (by omega) fun w8 q8 u8 x8 _ y8 z8 => ?_
  dsimp only
  refine ok_chk (show InR (t.Ridge + w8) from ⟨by omega, by omega⟩) ?_
  refine ok_next f0 hr y8 z8 (n := 30) (by omega) fun w9 q9 u9 x9 _ y9 z9 => ?_
  dsimp only
  refine ok_chk (show InR (t.Press - w9) from ⟨by omega, by omega⟩) ?_
  refine ok_next f0 hr y9 z9 (n := 30) (by omega) fun w10 q10 u10 x10 _ y10 z10 => ?_
  dsimp only
  refine ok_chk (show InR (t.Press + w10) from ⟨by omega, by omega⟩) ?_
  refine ok_chk (by simp only [List.length_cons, List.length_nil]; omega) (ok_chk (show InR (i + 1) from ⟨by omega, by omega⟩) (hn _ ⟨by show 0 ≤ i + 1; omega, by show i + 1 ≤ n; omega, ?_, fun j hj => ?_, y10, z10⟩ (by show (n - (i + 1)).toNat < (n - i).toNat; omega)))
  ·show ((L ++ [_]).length : Int) = i + 1
   rw [List.length_append, List.length_singleton]; omega
  ·have hj : j < (L ++ [_]).length := hj
   rw [List.length_append, List.length_singleton] at hj
   by_cases e : j < L.length
   ·show RepOk ((L ++ [_]).getD j R0) j t
    rw [getD_append_left' e]; exact i4 j e
   ·obtain rfl : j = L.length := by omega
    show RepOk ((L ++ [_]).getD L.length R0) L.length t
    rw [getD_append_here]
    exact ⟨i3.symm, ⟨by show 1 ≤ 1 + w0; omega, by show 1 + w0 ≤ 3; omega⟩, ⟨by show 0 ≤ 300 - w1; omega, by show 300 - w1 ≤ 300; omega⟩, rfl, rfl, ⟨by show 1 ≤ 1 + w2; omega, by show 1 + w2 ≤ 15; omega⟩, ⟨around g1 u3 u4, around g2 u5 u6, around g3 u7 u8, around g4 u9 u10⟩⟩
 ·refine ok_bnd _ (fuse_ok hF gt hrate (by omega) i4) ?_
  rintro ⟨c, e⟩ ⟨k1, k2⟩
  simp only at k1 k2
  subst k1
  exact ok_brkF rfl (tail_ok hF hw hs hgt k2 ch rfl)
end
end Go.Proofs.Hr

namespace Go.Proofs.Hr
open Go Go.KX
theorem awake_eq : law03_awake 1000000000000000 = some true := by kernel_rfl
end Go.Proofs.Hr

namespace Go.Proofs.Hr
open Go Go.KX
theorem reported_law {l m rep rates : List Int} {ch : Bool} (h1 : (∀ x ∈ l, 0 ≤ x ∧ x ≤ 255) ∧ l.length ≤ 9223372036854775807) (h2 : (∀ x ∈ m, 0 ≤ x ∧ x ≤ 255) ∧ m.length ≤ 9223372036854775807) (h3 : (∀ x ∈ rep, 0 ≤ x ∧ x ≤ 255) ∧ rep.length ≤ 9223372036854775807) (h4 : (∀ x ∈ rates, 0 ≤ x ∧ x ≤ 255) ∧ rates.length ≤ 9223372036854775807) (_h5 : True) : law03_HullReported 1000000000000000 l m rep rates ch = some true :=
 reported_ok (by decide) awake_eq ⟨h1.1, h1.2⟩ ⟨h2.1, h2.2⟩ ⟨h3.1, h3.2⟩ ⟨h4.1, h4.2⟩ ch
end Go.Proofs.Hr

namespace Go.KX
open Go Go.ChangeShapes Go.WideShapes Go.RowKit
def goodT (P : Program) : Nat → TypeId → Bool
 | 0, _ => false
 | n + 1, t => match P.underlying t with
  | some (.int _) => true
  | some .bool => true
  | some (.struct fs) => fs.toList.all fun f => goodT P n f.type
  | some (.array _ e) => goodT P n e
  | some (.slice e) => goodT P n e && Nat.ble 1 (P.cellsOf e)
  | _ => false
theorem mapM_carry' {α β : Type} {f g : α → Option β} : ∀ {l : List α} {r : List β}, l.mapM f = some r → (∀ x y, x ∈ l → y ∈ r → f x = some y → g x = some y) → l.mapM g = some r := mapM_carry
section
variable {H : Type} {enc : TypeId × Value → H} {P : Program} {w : World} {base : Nat} {held : Bool}
theorem trod_spare {sp : Nat → Bool} : ∀ (m n : Nat) (t : TypeId) (cs : List Value) (x : DataW H × List MemPlace), goodT P m t = true →
  DataW.trod enc P w base (fun _ => true) held n t cs = some x → (∀ p ∈ x.2, sp p.block = true) → DataW.trod enc P w base sp held n t cs = some x := by
 intro m
 induction m with
 | zero => intro n t cs x h; cases h
 | succ m ih =>
  intro n t cs x hg h hs
  cases n with
  | zero => simp [DataW.trod] at h
  | succ n =>
   rw [DataW.trod_step] at h ⊢
   unfold goodT at hg
   unfold DataW.trodStep at h ⊢
   split at h
   case h_1 => exact h
   case h_2 => exact h
   case h_8 e a len cap hu =>
    rw [hu] at hg
    simp only [Bool.and_eq_true] at hg
    simp only at h ⊢
    split at h
    ·rename_i hc
     rw [if_pos hc]
     simp only [if_true, Option.map_eq_some_iff, Option.bind_eq_some_iff] at h ⊢
     obtain ⟨elems, he, rest, hr, rfl⟩ := h
     have hlen : elems.length = len := by simpa using mapM_some_length he
     have hrlen : rest.length = cap - len := by simpa using mapM_some_length hr
     have hk : 1 ≤ P.cellsOf e := Nat.le_of_ble_eq_true hg.2
     have one : ∀ i y, (w.cells? base (a.add (i * P.cellsOf e)) (P.cellsOf e)).bind (DataW.trod enc P w base (fun _ => true) held n e) = some y → (∀ p ∈ y.2, sp p.block = true) →
       (w.cells? base (a.add (i * P.cellsOf e)) (P.cellsOf e)).bind (DataW.trod enc P w base sp held n e) = some y := by
      intro i y hy hp
      rw [Option.bind_eq_some_iff] at hy ⊢
      obtain ⟨cs', h1, h2⟩ := hy
      exact ⟨cs', h1, ih n e cs' y hg.1 h2 hp⟩
     have hpl : ∀ y, y ∈ elems ++ rest → ∀ p ∈ y.2, sp p.block = true := fun y hy p hp => hs p (by
      simp only [List.mem_append]
      exact .inr (List.mem_flatMap.2 ⟨y, hy, hp⟩))
     refine ⟨elems, mapM_carry' he fun i y hi hy hiy => one i y hiy (hpl y (by simp [hy])), rest, ?_, rfl⟩
     by_cases hcap : cap = 0
     ·have : rest = [] := List.length_eq_zero_iff.1 (by omega)
      subst this
      split
      ·rw [show cap - len = 0 by omega]; rfl
      ·rfl
     ·have : sp a.block = true := by
       have := hs (.cell a.block (a.off + 0)) (by
        simp only [List.mem_append]
        refine .inl (MemPlace.mem_row.2 ⟨0, ?_, rfl⟩)
        rw [hlen, hrlen, show len + (cap - len) = cap by omega]
        exact Nat.mul_pos (by omega) hk)
       exact this
      rw [if_pos this]
      exact mapM_carry' hr fun j y hj hy hjy => one _ y hjy (hpl y (by simp [hy]))
    ·cases h
   case h_7 => exact h
   case h_9 fs cs' hu =>
    rw [hu] at hg
    simp only at hg
    split at h
    ·rename_i hl
     rw [if_pos hl]
     simp only [Option.map_eq_some_iff] at h ⊢
     obtain ⟨xs, hx, rfl⟩ := h
     refine ⟨xs, mapM_carry' hx fun f y hf hy hfy => ih n f.type _ y (List.all_eq_true.1 hg f hf) hfy fun p hp => hs p ?_, rfl⟩
     exact List.mem_flatMap.2 ⟨y, hy, hp⟩
    ·cases h
   case h_10 =>
    rename_i e hu
    rw [hu] at hg
    simp only at hg
    split at h
    ·rename_i hl
     rw [if_pos hl]
     simp only [Option.map_eq_some_iff] at h ⊢
     obtain ⟨xs, hx, rfl⟩ := h
     refine ⟨xs, mapM_carry' hx fun f y hf hy hfy => ih n e _ y hg hfy fun p hp => hs p ?_, rfl⟩
     exact List.mem_flatMap.2 ⟨y, hy, hp⟩
    ·cases h
   all_goals simp_all
theorem trod_move {w' : World} {sp : Nat → Bool} {t : TypeId} {v : Value} {d : DataW H} {ps : List MemPlace} (hg : goodT P 8 t = true) (h : DataW.Trod enc P w base (fun _ => true) held t v d ps)
  (hsame : ∀ p ∈ ps, w.sameAt w' p) (hs : ∀ p ∈ ps, sp p.block = true) : DataW.Trod enc P w' base sp held t v d ps := by
 obtain ⟨n, hn⟩ := h
 exact ⟨n, trod_spare 8 n t _ _ hg (DataW.trod_carry n t _ _ hn hsame) hs⟩
theorem trodAll_move {w' : World} {sp : Nat → Bool} : ∀ {ts : List TypeId} {vs : List Value} {ds : List (DataW H)} {ps : List MemPlace}, ts.all (goodT P 8) = true → DataW.TrodAll enc P w base (fun _ => true) held ts vs ds ps →
  (∀ p ∈ ps, w.sameAt w' p) → (∀ p ∈ ps, sp p.block = true) → DataW.TrodAll enc P w' base sp held ts vs ds ps := by
 intro ts
 induction ts with
 | nil =>
  intro vs ds ps _ h _ _
  obtain ⟨rfl, rfl, rfl⟩ := trodAll_nil h
  rfl
 | cons t ts ih =>
  intro vs ds ps hg h hsame hs
  obtain ⟨v, vs', d, ds', p, q, rfl, rfl, rfl, h1, h2⟩ := trodAll_cons h
  simp only [List.all_cons, Bool.and_eq_true] at hg
  exact ⟨p, q, trod_move hg.1 h1 (fun x hx => hsame x (by simp [hx])) (fun x hx => hs x (by simp [hx])), ih hg.2 h2 (fun x hx => hsame x (by simp [hx])) (fun x hx => hs x (by simp [hx])), rfl⟩
theorem post_law {f : Func} {s : ChangeSpec} {W W' : World} {args : Array Value} {ds gs : List (DataW H)} {before : List MemPlace} {tb : TypeId} (hW : DataW.Whole enc P f.params.toList s.vars false W args.toList ds gs before)
  (hv : s.vars = []) (hfn : s.fn H ds = { results := [.lit (.bool true)], args := ds }) (hrt : f.resultTypes = #[tb]) (htb : P.underlying tb = some .bool) (hgood : f.params.toList.all (goodT P 8) = true) (hb : Below W.heap.size W W') :
  s.post enc P f false true false false W args (.bool true) W' := by
 have hW0 := hW
 obtain ⟨p, q, hA, hV, rfl, _, _⟩ := hW
 rw [hv] at hV
 obtain ⟨rfl, rfl⟩ := trodVars_none hV
 have hlt : ∀ x ∈ p ++ [], x.block < W.heap.size := fun x hx => hW0.lt x hx
 have hsame : ∀ x ∈ p, W.sameAt W' x := fun x hx => hb.same (hlt x (by simpa using hx))
 refine ⟨ds, [], p ++ [], [], p, [], hW0, ?_, ?_, ?_, hb.frame _, fun h => by cases h⟩
 ·simp only [List.append_nil, hfn, hrt]
  exact trodAll_mk1 (shut_bool htb _)
 ·simp only [List.append_nil, hfn]
  exact trodAll_move hgood hA hsame fun x hx => by simpa using hlt x (by simpa using hx)
 ·simp only [List.append_nil, hfn, hv]
  rfl
end
theorem wf_u8 {n : Int} (h : (Lit.int .u8 n).wf = true) : 0 ≤ n ∧ n ≤ 255 := by
 simp [Lit.wf, IntKind.min, IntKind.max, IntKind.signed, IntKind.bits] at h
 omega
def HReads (E : Env) (t : TypeId) (c : Nat) (In : E.G.car c → Prop) : Prop :=
 E.P.cellsOf t = E.G.sz c ∧ ∀ (H : Type) (e : TypeId × Value → H) (w : World) (base : Nat) (sp : Nat → Bool) (held : Bool) (fuel : Nat) (cs : List Value) (x : DataW H × List MemPlace),
  DataW.trod e E.P w base sp held fuel t cs = some x → ∃ a : E.G.car c, HdL E.G (IsCells w) w (E.G.enc c a) cs ∧ In a
theorem isCells_of {w : World} {a : Addr} {u : Value} (h : w.cell? a = some u) : IsCells w a.block ∧ a.spot = none := by
 unfold World.cell? at h
 split at h
 ·rename_i c e s hb
  refine ⟨⟨_, hb, rfl⟩, ?_⟩
  split at h
  ·cases h
  ·rename_i hs
   simpa using hs
 ·cases h
section
variable {E : Env} {H : Type} {e : TypeId × Value → H} {w : World} {base : Nat} {sp : Nat → Bool} {held : Bool}
theorem hdL_one {x : Value} {cv : CV E.G.car} (h : Hd E.G (IsCells w) w cv x) : HdL E.G (IsCells w) w [cv] [x] := ⟨_, _, rfl, h, rfl⟩
theorem hreads_int {t : TypeId} {c : Nat} {k : IntKind} {In : E.G.car c → Prop} (f : Int → E.G.car c) (hf : ∀ n, E.G.enc c (f n) = [.v (.int k n)]) (hu : E.P.underlying t = some (.int k)) (hc : E.P.cellsOf t = E.G.sz c)
  (hIn : ∀ n, (Lit.int k n).wf = true → In (f n)) : HReads E t c In :=
 ⟨hc, fun _ _ _ _ _ _ _ _ _ h => by
  obtain ⟨n, h1, _, h2⟩ := DataW.trod_int hu h
  subst h1
  exact ⟨f n, by rw [hf]; exact hdL_one (.v _), hIn n h2⟩⟩
theorem hreads_bool {t : TypeId} {c : Nat} {In : E.G.car c → Prop} (f : Bool → E.G.car c) (hf : ∀ n, E.G.enc c (f n) = [.v (.bool n)]) (hu : E.P.underlying t = some .bool) (hc : E.P.cellsOf t = E.G.sz c) (hIn : ∀ b, In (f b)) : HReads E t c In :=
 ⟨hc, fun _ _ _ _ _ _ _ _ _ h => by
  obtain ⟨n, h1, _⟩ := DataW.trod_bool hu h
  subst h1
  exact ⟨f n, by rw [hf]; exact hdL_one (.v _), hIn n⟩⟩
theorem HReads.at {t : TypeId} {c off : Nat} {In : E.G.car c → Prop} {cs : List Value} (hR : HReads E t c In)
  (hx : ∃ fuel y, DataW.trod e E.P w base sp held fuel t ((cs.drop off).take (E.P.cellsOf t)) = some y) : ∃ a, HdL E.G (IsCells w) w (E.G.enc c a) ((cs.drop off).take (E.G.sz c)) ∧ In a := by
 obtain ⟨fuel, y, h⟩ := hx
 rw [hR.1] at h
 exact hR.2 _ _ _ _ _ _ _ _ _ h
theorem hslice_of {t el : TypeId} {c fuel : Nat} {In : E.G.car c → Prop} {cs : List Value} {x : DataW H × List MemPlace} (hu : E.P.underlying t = some (.slice el)) (hR : HReads E el c In) (hn : 0 < E.G.sz c)
  (h : DataW.trod e E.P w base sp held fuel t cs = some x) :
  ∃ (p : Option Addr) (n cap : Nat) (l : List (E.G.car c)), cs = [.slice p n cap] ∧ Hd E.G (IsCells w) w (.sl c l) (.slice p n cap) ∧ (∀ x ∈ l, In x) ∧ l.length ≤ 9223372036854775807 := by
 rcases DataW.trod_slice hu h with ⟨rfl, _⟩ | ⟨a, len, cap, elems, rest, m, _, rfl, _, hb, hl, hm, hel, hi, _, _⟩
 ·exact ⟨none, 0, 0, [], rfl, Hd.mk (b := 0) (o := 0) rfl (Nat.le_refl _) (fun h => absurd rfl h) (fun i x hx => by simp at hx), by simp, by simp⟩
 have build : ∀ k, k ≤ len → ∃ l : List (E.G.car c), l.length = k ∧ ∀ i x, l[i]? = some x → In x ∧ ∃ us, w.cells? base (a.add (i * E.G.sz c)) (E.G.sz c) = some us ∧ HdL E.G (IsCells w) w (E.G.enc c x) us := by
  intro k
  induction k with
  | zero => intro _; exact ⟨[], rfl, fun i x hx => by simp at hx⟩
  | succ k ih =>
   intro hk
   obtain ⟨l, h1, h2⟩ := ih (by omega)
   have h3 := hi k (by omega)
   rw [List.getElem?_eq_getElem (by omega), hR.1, Option.bind_eq_some_iff] at h3
   obtain ⟨cs', h4, h5⟩ := h3
   obtain ⟨y, hy1, hy⟩ := hR.2 _ _ _ _ _ _ _ _ _ h5
   refine ⟨l ++ [y], by simp [h1], fun i x hx => ?_⟩
   rcases Nat.lt_or_ge i k with h6 | h6
   ·rw [List.getElem?_append_left (by omega)] at hx; exact h2 i x hx
   ·rw [List.getElem?_append_right (by omega)] at hx
    have : i - l.length = 0 := by
     have := (List.getElem?_eq_some_iff.1 hx).1
     simpa using this
    rw [this] at hx
    simp only [List.getElem?_cons_zero, Option.some.injEq] at hx
    subst hx
    obtain rfl : i = k := by omega
    exact ⟨hy, _, h4, hy1⟩
 obtain ⟨l, h1, h2⟩ := build len (Nat.le_refl _)
 have hcell : ∀ (i : Nat) x, l[i]? = some x → ∀ (j : Nat) (cv : CV E.G.car), (E.G.enc c x)[j]? = some cv → ∃ u, w.cell? ((a.add (i * E.G.sz c)).add j) = some u ∧ Hd E.G (IsCells w) w cv u := by
  intro i x hx j cv hcv
  obtain ⟨_, us, h3, h4⟩ := h2 i x hx
  obtain ⟨u, h5, h6⟩ := h4.get j cv hcv
  obtain ⟨_, h7, h8⟩ := World.cells?_some h3
  refine ⟨u, ?_, h6⟩
  rw [h8 j (by rw [← h7]; exact (List.getElem?_eq_some_iff.1 h5).1), h5]
 refine ⟨some a, len, cap, l, rfl, ?_, fun x hx => ?_, by unfold maxLen at hm; omega⟩
 ·rcases Nat.eq_zero_or_pos len with h0 | h0
  ·have : l = [] := List.length_eq_zero_iff.1 (by omega)
   subst this
   exact Hd.mk (b := 0) (o := 0) h1.symm hl (fun h => absurd rfl h) (fun i x hx => by simp at hx)
  ·have hpos : 0 < l.length := by omega
   have hz : 0 < (E.G.enc c l[0]).length := by rw [E.G.hsz]; exact hn
   obtain ⟨u, h3, _⟩ := hcell 0 l[0] (List.getElem?_eq_getElem hpos) 0 _ (List.getElem?_eq_getElem hz)
   rw [Nat.zero_mul, show (a.add 0).add 0 = a by simp [Addr.add]] at h3
   obtain ⟨h4, h5⟩ := isCells_of h3
   obtain ⟨b, o, s⟩ := a
   simp only at h4 h5
   subst h5
   refine Hd.mk (b := b) (o := o) h1.symm hl (fun _ => ⟨rfl, h4⟩) (fun i x hx j cv hcv => ?_)
   have := hcell i x hx j cv hcv
   rwa [addr_add, addr_add] at this
 ·obtain ⟨i, hi⟩ := List.getElem?_of_mem hx
  exact (h2 i x hi).1
theorem harg_bool {r : Reach} {b0 : Nat} {t : TypeId} {c : Nat} {In : E.G.car c → Prop} {v : Value} {d : DataW H} {ps : List MemPlace} (hR : HReads E t c In) (hu : E.P.underlying t = some .bool)
  (hval : Value.okWide E.P w r b0 t v) (h : DataW.Trod e E.P w base sp held t v d ps) : ∃ a : E.G.car c, ArgIs E (IsCells w) w (.v c false) a v ∧ In a := by
 obtain ⟨n, rfl⟩ := okWide_bool hu hval
 obtain ⟨fuel, hf⟩ := h
 obtain ⟨a, h1, h2⟩ := hR.2 _ _ _ _ _ _ _ _ _ hf
 exact ⟨a, ⟨_, h1, rfl⟩, h2⟩
theorem harg_sl {r : Reach} {b0 : Nat} {t el : TypeId} {c : Nat} {In : E.G.car c → Prop} {v : Value} {d : DataW H} {ps : List MemPlace} (hu : E.P.underlying t = some (.slice el)) (hR : HReads E el c In) (hn : 0 < E.G.sz c)
  (hval : Value.okWide E.P w r b0 t v) (h : DataW.Trod e E.P w base sp held t v d ps) : ∃ a : List (E.G.car c), ArgIs E (IsCells w) w (.sl c) a v ∧ (∀ x ∈ a, In x) ∧ a.length ≤ 9223372036854775807 := by
 obtain ⟨p, n, cap, rfl⟩ := okWide_slice hu hval
 obtain ⟨fuel, hf⟩ := h
 obtain ⟨p', n', cap', l, h1, h2, h3, h4⟩ := hslice_of hu hR hn hf
 have h1 : [Value.slice p n cap] = [.slice p' n' cap'] := h1
 simp only [List.cons.injEq, and_true, Value.slice.injEq] at h1
 obtain ⟨rfl, rfl, rfl⟩ := h1
 exact ⟨l, h2, h3, h4⟩
theorem law_callsG {gl : List (Nat × Val E.G.car)} {k : Nat} {ps : List PK} {t : Nat} {es : List Nat} {f : AT E.G.car ps → Option (E.G.car t)} (hc : CSok E gl ⟨k, ps, [.v t false es], f⟩) (hg : GW E gl (IsCells w) w) (b : E.G.car t) (hb : E.G.enc t b = [.v (.bool true)])
  {vs : List Value} {xs : AT E.G.car ps} (ha : ArgsAre E (IsCells w) w ps xs vs) (hm : f xs = some b) :
  Calls E.P k vs.toArray w fun e w' => e = .returned (.bool true) ∧ Below w.heap.size w w' := by
 have h := hc.ok (IsCells w) w vs xs hg (fun _ h => h) ha b hm
 refine h.mono fun e' w' ⟨us, ms, A', h1, h2, _, _, _, h3, _⟩ => ⟨?_, h2.below⟩
 obtain ⟨v, rfl, us', h4, h5⟩ := h3
 simp only [Bool.false_eq_true, if_false] at h5
 subst h5
 have h4 : ResCells E.G A' w.heap.size w' (E.G.enc t b) es [v] ms := h4
 rw [hb] at h4
 obtain ⟨us2, h6, _⟩ := h4
 cases h6
 exact h1
theorem gw_nums {l : List Int} (hglo : E.glo = [(0, 0)]) (h : ∀ (j : Nat) (n : Int), l[j]? = some n → w.cell? ⟨0, j, none⟩ = some (.int .i64 n)) (hl : l ≠ []) :
  GW E [(0, .ro (l.map fun n => .v (.int .i64 n)))] (IsCells w) w := by
 refine ⟨fun _ => { b := 0, p := none, n := 0, c := 0 }, by rw [hglo]; intro p hp; rw [List.mem_singleton.1 hp], fun q hq => ?_⟩
 rw [List.mem_singleton.1 hq]
 refine ⟨?_, fun j cv hj => ?_⟩
 ·cases l with
  | nil => exact absurd rfl hl
  | cons n r =>
   have h0 := h 0 n rfl
   show IsCells w 0
   unfold World.cell? at h0
   dsimp only at h0
   split at h0
   ·rename_i cs _ _ he; exact ⟨_, he, rfl⟩
   ·cases h0
 ·rw [List.getElem?_map] at hj
  cases e : l[j]? with
  | none => rw [e] at hj; cases hj
  | some n =>
   rw [e] at hj
   simp only [Option.map_some, Option.some.injEq] at hj
   subst hj
   exact ⟨_, h j n e, .v _⟩
end
end Go.KX

namespace Go.Proofs.YtfopkkpfnohaaaaDoor
open Go Go.KX Go.ChangeShapes Go.WideShapes Go.ChangeAt Go.RowKit
def strengths : List Int := [4000, 8000, 14000, 24000, 40000, 90000]
theorem own : ownKnob Tryd.prog.godebug = none := by kernel_rfl
theorem gStr : Tryd.prog.globalNamed "polynya/hull.strengths" = some 0 := by kernel_rfl
theorem tStr : ∃ t e, (Tryd.prog.globals[0]?).map (·.type) = some t ∧ Tryd.prog.underlying t = some (.array 6 e) ∧ Tryd.prog.underlying e = some (.int .i64) ∧ Tryd.prog.cellsOf e = 1 ∧ Tryd.prog.cellsOf t = 6 :=
 ⟨124, 3, by kernel_rfl, by kernel_rfl, by kernel_rfl, by kernel_rfl, by kernel_rfl⟩
abbrev laid1 : List (String × DataW Unit) := [("polynya/hull.strengths", Rows.laid_polynya_hull_strengths)]
theorem door_met (os : Os) (args : Array Value) : laidMetH Tryd.prog laid1 ((World.doorLaid Tryd.prog 400 os).forCall (fun _ _ => 0) ⟨#[], args, []⟩).memory :=
 laidMetH_of_parts3 (fuel := 8) (laidMet_of_run' 8 (by kernel_rfl) (by kernel_rfl)) (by kernel_rfl) (by kernel_rfl)
theorem of_laid {W : World} (h : laidMetH Tryd.prog laid1 W) : GW Hr.E Hr.gl (IsCells W) W := by
 rw [MakeChecks.laidMetH_plain _ _ _ (by kernel_rfl)] at h
 obtain ⟨ps, ⟨g0, t0, cs0, f0, p0, q0, hg0, ht0, hv0, hd0, _, _⟩, _, _⟩ := h
 obtain rfl := Option.some.inj (gStr.symm.trans hg0)
 obtain ⟨t, e, h1, h2, h3, h4, h5⟩ := tStr
 obtain rfl := Option.some.inj (h1.symm.trans ht0)
 obtain ⟨xs, m1, rfl, hx, hlen, hn, hel⟩ := DataW.trod_array h2 hd0
 rw [h5] at hlen
 have cell : ∀ i, W.cell? ⟨0, i, none⟩ = cs0[i]? := World.var?_cell hg0 hv0
 have one : ∀ i, i < 6 → ∃ n, cs0.toList[i]? = some (.int .i64 n) ∧ xs[i]? = some (.lit (.int .i64 n), []) := by
  intro i hi
  have h6 := hel i hi
  rw [h4] at h6
  have hxi : xs[i]? = some xs[i] := List.getElem?_eq_getElem (by omega)
  rw [hxi] at h6
  obtain ⟨n, e1, e2, _⟩ := DataW.trod_int h3 h6
  refine ⟨n, ?_, by rw [hxi, e2]⟩
  have : (cs0.toList.drop (i * 1)).take 1 = [Value.int .i64 n] := e1
  rw [Nat.mul_one] at this
  have h7 : ((cs0.toList.drop i).take 1)[0]? = some (.int .i64 n) := by rw [this]; rfl
  simpa [List.getElem?_take, List.getElem?_drop] using h7
 have val : ∀ i n, xs[i]? = some (.lit (.int .i64 n), []) → i < 6 → strengths[i]? = some n := by
  intro i n hi hlt
  simp only [Prod.mk.injEq, Rows.laid_polynya_hull_strengths] at hx
  have hm : (xs.map (·.1))[i]? = some (.lit (.int .i64 n)) := by simp [hi]
  have he : (xs.map (·.1)) = [.lit (.int .i64 4000), .lit (.int .i64 8000), .lit (.int .i64 14000), .lit (.int .i64 24000), .lit (.int .i64 40000), .lit (.int .i64 90000)] := by
   have := hx.1
   simp only [DataW.agg.injEq] at this
   exact this.symm
  rw [he] at hm
  unfold strengths
  match i, hlt with
  | 0, _ => simp_all
  | 1, _ => simp_all
  | 2, _ => simp_all
  | 3, _ => simp_all
  | 4, _ => simp_all
  | 5, _ => simp_all
 refine gw_nums (l := strengths) rfl (fun j n hj => ?_) (by simp [strengths])
 have hlt : j < 6 := by
  have := (List.getElem?_eq_some_iff.1 hj).1
  simpa [strengths] using this
 obtain ⟨m, e1, e2⟩ := one j hlt
 have h8 := val j m e2 hlt
 rw [h8] at hj
 cases hj
 rw [cell j]
 simpa using e1
end Go.Proofs.YtfopkkpfnohaaaaDoor
