/- Texts CbH, CbB, CbP, CbS, CbBest, CbAw, CbLaw, KFR, CbFrame: own work; each part says what it is. -/
import Derived.Test.YtopinlndbbikdaaGreatDoorCb4
import Derived.Handed
import Derived.OpenShut
import Derived.ChangeSlices
import Derived.JoinedOf
import Derived.Test.YtopinlndbbikdaaGreatDoorRows
import Derived.Test.YtopinlndbbikdaaGreatDoorTie
import Derived.Test.YtopinlndbbikdaaGreatDoorCards
import Derived.ProofKit
import Derived.LaidMore
import Derived.Stop.Joined
import Derived.SevenTiedAt
namespace Go.Proofs.Cb
open Go Go.KX
abbrev Pt := Point
def pt (l : List Pt) (i : Int) : Pt := l.getD i.toNat ⟨0, 0⟩
def within (n a b : Int) : Bool := decide (n ≥ a) && decide (n ≤ b)
def curveAt (l : List Pt) (i : Int) : Bool :=
 within (pt l i).X 0 400 && within (pt l i).Y 0 20000 && !(decide (i > 0) && decide ((pt l i).X ≤ (pt l (i - 1)).X))
def curve (l : List Pt) : Bool := within (l.length : Int) 2 8 && ((pt l 0).X == 0) && (List.range l.length).all fun i => curveAt l (i : Int)
def steadyAt (l : List Pt) (way : Int) (i : Int) : Bool := !decide (((pt l i).Y - (pt l (i - 1)).Y) * way < 0)
def steady (l : List Pt) (way : Int) : Bool := curve l && (List.range (l.length - 1)).all fun i => steadyAt l way ((i + 1 : Nat) : Int)
def endX (l : List Pt) : Int := (pt l ((l.length : Int) - 1)).X
def valFrom (l : List Pt) (x : Int) : Nat → Nat → Int × Int
 | 0, _ => ((pt l ((l.length : Int) - 1)).Y, 1)
 | f + 1, i =>
  if x ≤ (pt l (i : Int)).X then
   ((pt l ((i : Int) - 1)).Y * ((pt l (i : Int)).X - (pt l ((i : Int) - 1)).X) + ((pt l (i : Int)).Y - (pt l ((i : Int) - 1)).Y) * (x - (pt l ((i : Int) - 1)).X), (pt l (i : Int)).X - (pt l ((i : Int) - 1)).X)
  else valFrom l x f (i + 1)
def value (l : List Pt) (x : Int) : Int × Int := valFrom l x (l.length - 1) 1
def Bd (l : List Pt) : Prop := ∀ i : Int, 0 ≤ i → i < l.length → 0 ≤ (pt l i).X ∧ (pt l i).X ≤ 400 ∧ 0 ≤ (pt l i).Y ∧ (pt l i).Y ≤ 20000
theorem mul_bd {x y A B : Int} (hx : -A ≤ x ∧ x ≤ A) (hy : -B ≤ y ∧ y ≤ B) : -(A * B) ≤ x * y ∧ x * y ≤ A * B := by
 have h1 : 0 ≤ (A - x) * (B + y) := Int.mul_nonneg (by omega) (by omega)
 have h2 : 0 ≤ (A + x) * (B - y) := Int.mul_nonneg (by omega) (by omega)
 have h3 : 0 ≤ (A - x) * (B - y) := Int.mul_nonneg (by omega) (by omega)
 have h4 : 0 ≤ (A + x) * (B + y) := Int.mul_nonneg (by omega) (by omega)
 simp only [Int.sub_mul, Int.mul_sub, Int.add_mul, Int.mul_add] at h1 h2 h3 h4
 constructor <;> omega
theorem curve_lt {l : List Pt} (h : curve l = true) : l ≠ [] ∧ 2 ≤ l.length ∧ l.length ≤ 8 := by
 simp only [curve, within, Bool.and_eq_true, decide_eq_true_eq] at h
 obtain ⟨⟨⟨h1, h2⟩, _⟩, _⟩ := h
 refine ⟨fun e => by subst e; simp at h1, by omega, by omega⟩
theorem curve_at {l : List Pt} (h : curve l = true) {i : Int} (h0 : 0 ≤ i) (h1 : i < l.length) : curveAt l i = true := by
 simp only [curve, Bool.and_eq_true, List.all_eq_true, List.mem_range] at h
 have := h.2 i.toNat (by omega)
 rwa [Int.toNat_of_nonneg h0] at this
theorem curve_bd {l : List Pt} (h : curve l = true) : Bd l := by
 intro i h0 h1
 have := curve_at h h0 h1
 simp only [curveAt, within, Bool.and_eq_true, decide_eq_true_eq] at this
 omega
def rule1 (s : Ship) : Bool := within s.Class 1 6
def rule2 (s : Ship) : Bool := within s.Power 100 100000 && within s.Draught 10 2000 && within s.Tonnes 10 500000
def rule3 (s : Ship) : Bool := within s.Slow 0 20 && within s.Brash 0 100 && within s.Ridge 0 500 && within s.Press 0 5000
def rule4 (s : Ship) : Bool := steady s.Thrust (-1) && within (endX s.Thrust) 10 250
def rule5 (s : Ship) : Bool := steady s.Water 1 && decide (endX s.Water ≤ 250)
def rule6 (s : Ship) : Bool := steady s.Ice 1 && ((pt s.Ice 0).Y == 0) && (endX s.Ice == 400)
def check (s : Ship) : Int :=
 if rule1 s = false then 41 else if rule2 s = false then 40 else if rule3 s = false then 40 else if rule4 s = false then 40 else if rule5 s = false then 40 else if rule6 s = false then 40 else 0
theorem steady_curve {l : List Pt} {w : Int} (h : steady l w = true) : curve l = true := by
 simp only [steady, Bool.and_eq_true] at h; exact h.1
theorem within_t {n a b : Int} (h : within n a b = true) : a ≤ n ∧ n ≤ b := by
 simp only [within, Bool.and_eq_true, decide_eq_true_eq] at h; omega
theorem b1 {a b c : Bool} : (!a || !b || c) = true → (a && b && !c) = false := by cases a <;> cases b <;> cases c <;> simp
theorem b3 {a b c : Bool} : (!a || !b || c) = false → (a && b && !c) = true := by cases a <;> cases b <;> cases c <;> simp
theorem b4 {a : Bool} : a = false → (!a) = true := by cases a <;> simp
theorem b2 {a : Bool} : a = true → (!a) = false := by cases a <;> simp
theorem steady_len {l : List Pt} {w : Int} (h : steady l w = true) : 2 ≤ l.length ∧ l.length ≤ 8 := (curve_lt (steady_curve h)).2
theorem curve_no1 {l : List Pt} (h : (!within (l.length : Int) 2 8 || (pt l 0).X != 0) = true) : curve l = false := by
 cases h1 : within (l.length : Int) 2 8 <;> simp_all [curve]
theorem curve_no2 {l : List Pt} {k : Nat} (hk : k < l.length) (h : curveAt l (k : Int) = false) : curve l = false := by
 cases hc : curve l with
 | false => rfl
 | true => have := curve_at hc (i := (k : Int)) (by omega) (by omega); rw [h] at this; cases this
theorem curve_yes {l : List Pt} {k : Nat} (h1 : within (l.length : Int) 2 8 = true) (h2 : (pt l 0).X = 0) (h : ∀ j < k, curveAt l (j : Int) = true) (hk : l.length ≤ k) : curve l = true := by
 simp only [curve, h1, h2, beq_self_eq_true, Bool.and_self, Bool.true_and, List.all_eq_true, List.mem_range]
 exact fun i hi => h i (by omega)
theorem steady_no {l : List Pt} {w : Int} {k : Nat} (h1 : 1 ≤ k) (hk : k < l.length) (h : steadyAt l w (k : Int) = false) : steady l w = false := by
 cases hs : steady l w with
 | false => rfl
 | true =>
  simp only [steady, Bool.and_eq_true, List.all_eq_true, List.mem_range] at hs
  have := hs.2 (k - 1) (by omega)
  rw [show k - 1 + 1 = k by omega, h] at this
  cases this
theorem steady_yes {l : List Pt} {w : Int} {k : Nat} (hc : curve l = true) (h : ∀ j < k, 1 ≤ j → steadyAt l w (j : Int) = true) (hk : l.length ≤ k) : steady l w = true := by
 simp only [steady, hc, Bool.true_and, List.all_eq_true, List.mem_range]
 exact fun i hi => h (i + 1) (by omega) (by omega)
theorem mul_nn {x y a A b B : Int} (hx : a ≤ x ∧ x ≤ A) (hy : b ≤ y ∧ y ≤ B) (ha : 0 ≤ a) (hb : 0 ≤ b) : a * b ≤ x * y ∧ x * y ≤ A * B := by
 constructor
 ·exact Int.mul_le_mul hx.1 hy.1 hb (by omega)
 ·exact Int.mul_le_mul hx.2 hy.2 (by omega) (by omega)
theorem valFrom_bd {l : List Pt} (hc : curve l = true) {x : Int} (_hx : 0 ≤ x) : ∀ (f i : Nat), 1 ≤ i → i + f = l.length → (pt l ((i : Int) - 1)).X ≤ x →
  1 ≤ (valFrom l x f i).2 ∧ (valFrom l x f i).2 ≤ 400 ∧ 0 ≤ (valFrom l x f i).1 ∧ (valFrom l x f i).1 ≤ 20000 * (valFrom l x f i).2 := by
 have hB := curve_bd hc
 have hlen := (curve_lt hc).2
 intro f
 induction f with
 | zero =>
  intro i h1 h2 h3
  have := hB ((l.length : Int) - 1) (by omega) (by omega)
  simp only [valFrom]
  omega
 | succ f ih =>
  intro i h1 h2 h3
  have ha := hB ((i : Int) - 1) (by omega) (by omega)
  have hb := hB (i : Int) (by omega) (by omega)
  have hat := curve_at hc (i := (i : Int)) (by omega) (by omega)
  simp only [valFrom]
  by_cases hle : x ≤ (pt l (i : Int)).X
  ·rw [if_pos hle]
   have hlt : (pt l ((i : Int) - 1)).X < (pt l (i : Int)).X := by
    simp only [curveAt, Bool.and_eq_true, Bool.not_eq_true', Bool.and_eq_false_iff, decide_eq_false_iff_not] at hat
    rcases hat.2 with h | h <;> omega
   refine ⟨by omega, by omega, ?_, ?_⟩
   all_goals
    have e1 : (pt l ((i : Int) - 1)).Y * ((pt l (i : Int)).X - (pt l ((i : Int) - 1)).X) + ((pt l (i : Int)).Y - (pt l ((i : Int) - 1)).Y) * (x - (pt l ((i : Int) - 1)).X) =
     (pt l ((i : Int) - 1)).Y * ((pt l (i : Int)).X - x) + (pt l (i : Int)).Y * (x - (pt l ((i : Int) - 1)).X) := by
     simp only [Int.sub_mul, Int.mul_sub]; omega
    have p1 := Int.mul_nonneg (a := (pt l ((i : Int) - 1)).Y) (b := (pt l (i : Int)).X - x) (by omega) (by omega)
    have p2 := Int.mul_nonneg (a := (pt l (i : Int)).Y) (b := x - (pt l ((i : Int) - 1)).X) (by omega) (by omega)
    have p3 := Int.mul_le_mul_of_nonneg_right (a := (pt l ((i : Int) - 1)).Y) (b := 20000) (c := (pt l (i : Int)).X - x) (by omega) (by omega)
    have p4 := Int.mul_le_mul_of_nonneg_right (a := (pt l (i : Int)).Y) (b := 20000) (c := x - (pt l ((i : Int) - 1)).X) (by omega) (by omega)
    rw [e1]
    simp only []
    omega
  ·rw [if_neg hle]
   exact ih (i + 1) (by omega) (by omega) (by rw [show ((i + 1 : Nat) : Int) - 1 = (i : Int) by omega]; omega)
theorem curve_x0 {l : List Pt} (hc : curve l = true) : (pt l 0).X = 0 := by
 simp only [curve, Bool.and_eq_true, beq_iff_eq] at hc
 exact hc.1.2
theorem value_bd {l : List Pt} (hc : curve l = true) {x : Int} (hx : 0 ≤ x) : 1 ≤ (value l x).2 ∧ (value l x).2 ≤ 400 ∧ 0 ≤ (value l x).1 ∧ (value l x).1 ≤ 20000 * (value l x).2 := by
 have hlen := (curve_lt hc).2
 exact valFrom_bd hc hx _ 1 (Nat.le_refl 1) (by omega) (by have := curve_x0 hc; simp; omega)
def firstI (c : Cell) : Ice := ⟨c.Conc.Lo, c.Thick.Lo, c.Ridge.Lo, c.Press.Lo⟩
def lastI (c : Cell) : Ice := ⟨c.Conc.Hi, c.Thick.Hi, c.Ridge.Hi, c.Press.Hi⟩
def inI (a b c : Int) : Bool := decide (a ≥ b) && decide (a ≤ c)
def goodIce (i : Ice) : Prop := (0 ≤ i.Conc ∧ i.Conc ≤ 100) ∧ (0 ≤ i.Thick ∧ i.Thick ≤ 400) ∧ (0 ≤ i.Ridge ∧ i.Ridge ≤ 100) ∧ (0 ≤ i.Press ∧ i.Press ≤ 3)
theorem goodIce_bd {i : Ice} (h : goodIce i) : (0 ≤ i.Conc ∧ i.Conc ≤ 100) ∧ (0 ≤ i.Thick ∧ i.Thick ≤ 400) ∧ (0 ≤ i.Ridge ∧ i.Ridge ≤ 100) ∧ (0 ≤ i.Press ∧ i.Press ≤ 3) := h
def loadI (i : Ice) (v : Int) (ch : Bool) : Int :=
 if i.Conc = 0 then 0
 else (if ch then (i.Thick * (100 + v) + 1) / 2 else i.Thick * (100 + v)) + 300 * (if ch then 0 else i.Ridge) + 2000 * i.Press
def lowest (n d : Int) : Int × Int := (n / (Int.gcd n d : Int), d / (Int.gcd n d : Int))
theorem gcd_step {a b : Int} (ha : 0 ≤ a) (hb : 0 ≤ b) : Int.gcd b (a % b) = Int.gcd a b := by
 obtain ⟨x, rfl⟩ := Int.eq_ofNat_of_zero_le ha
 obtain ⟨y, rfl⟩ := Int.eq_ofNat_of_zero_le hb
 show Nat.gcd y (x % y) = Nat.gcd x y
 rw [Nat.gcd_comm x y, Nat.gcd_rec y x, Nat.gcd_comm]
def at_ (l : List Pt) (x : Int) : (Int × Int) × Int :=
 if curve l = false then ((0, 0), 40) else if within x 0 1000 = false then ((0, 0), 6) else (lowest (value l x).1 (value l x).2, 0)
theorem check_rules {s : Ship} (h : check s = 0) : rule1 s = true ∧ rule2 s = true ∧ rule3 s = true ∧ rule4 s = true ∧ rule5 s = true ∧ rule6 s = true := by
 unfold check at h
 refine ⟨?_, ?_, ?_, ?_, ?_, ?_⟩
 ·cases e : rule1 s <;> simp_all
 ·cases e : rule2 s <;> cases e1 : rule1 s <;> simp_all
 ·cases e : rule3 s <;> cases e1 : rule1 s <;> cases e2 : rule2 s <;> simp_all
 ·cases e : rule4 s <;> cases e1 : rule1 s <;> cases e2 : rule2 s <;> cases e3 : rule3 s <;> simp_all
 ·cases e : rule5 s <;> cases e1 : rule1 s <;> cases e2 : rule2 s <;> cases e3 : rule3 s <;> cases e4 : rule4 s <;> simp_all
 ·cases e : rule6 s <;> cases e1 : rule1 s <;> cases e2 : rule2 s <;> cases e3 : rule3 s <;> cases e4 : rule4 s <;> cases e5 : rule5 s <;> simp_all
theorem check_steadyThrust {s : Ship} (h : check s = 0) : steady s.Thrust (-1) = true := by
 have := (check_rules h).2.2.2.1; simp only [rule4, Bool.and_eq_true] at this; exact this.1
theorem check_steadyWater {s : Ship} (h : check s = 0) : steady s.Water 1 = true := by
 have := (check_rules h).2.2.2.2.1; simp only [rule5, Bool.and_eq_true] at this; exact this.1
theorem check_steadyIce {s : Ship} (h : check s = 0) : steady s.Ice 1 = true := by
 have := (check_rules h).2.2.2.2.2; simp only [rule6, Bool.and_eq_true] at this; exact this.1.1
theorem check_curveThrust {s : Ship} (h : check s = 0) : curve s.Thrust = true := steady_curve (check_steadyThrust h)
theorem check_curveWater {s : Ship} (h : check s = 0) : curve s.Water = true := steady_curve (check_steadyWater h)
theorem check_curveIce {s : Ship} (h : check s = 0) : curve s.Ice = true := steady_curve (check_steadyIce h)
theorem check_bd {s : Ship} (h : check s = 0) : (1 ≤ s.Class ∧ s.Class ≤ 6) ∧ (100 ≤ s.Power ∧ s.Power ≤ 100000) ∧ (0 ≤ s.Slow ∧ s.Slow ≤ 20) ∧ (0 ≤ s.Brash ∧ s.Brash ≤ 100) ∧ (0 ≤ s.Ridge ∧ s.Ridge ≤ 500) ∧ (0 ≤ s.Press ∧ s.Press ≤ 5000) := by
 obtain ⟨h1, h2, h3, _⟩ := check_rules h
 simp only [rule1, rule2, rule3, within, Bool.and_eq_true, decide_eq_true_eq] at h1 h2 h3
 omega
def thrust (s : Ship) (v : Int) : Int := (value s.Thrust v).1 / (value s.Thrust v).2
def resN (s : Ship) (i : Ice) (ch : Bool) (v : Int) : Int :=
 i.Conc * ((value s.Ice i.Thick).1 * (1000 + s.Slow * v) * (if ch = true then s.Brash else 100) + s.Ridge * (if ch = true then 0 else i.Ridge) * (value s.Ice i.Thick).2 * 100000)
def resistance (s : Ship) (i : Ice) (ch : Bool) (v : Int) : Int :=
 ((value s.Water v).1 * ((value s.Ice i.Thick).2 * 10000000) + resN s i ch v * (value s.Water v).2 + s.Press * i.Press * (value s.Water v).2 * ((value s.Ice i.Thick).2 * 10000000)
  + (value s.Water v).2 * ((value s.Ice i.Thick).2 * 10000000) - 1) / ((value s.Water v).2 * ((value s.Ice i.Thick).2 * 10000000))
def makes (s : Ship) (i : Ice) (ch : Bool) (v : Int) : Bool := decide (v ≤ endX s.Thrust) && decide (thrust s v ≥ resistance s i ch v)
def strengths : List Int := [4000, 8000, 14000, 24000, 40000, 90000]
def bears (s : Ship) (i : Ice) (ch : Bool) (v : Int) : Bool := decide (loadI i v ch ≤ strengths.getD (s.Class - 1).toNat 0)
def greatFrom (so : Int → Bool) : Nat → Int → Int → Int
 | 0, lo, _ => lo
 | f + 1, lo, hi => if lo < hi then (if so (lo + (hi - lo + 1) / 2) = true then greatFrom so f (lo + (hi - lo + 1) / 2) hi else greatFrom so f lo (lo + (hi - lo + 1) / 2 - 1)) else lo
def great (so : Int → Bool) (lo hi : Int) : Int := greatFrom so (hi - lo).toNat lo hi
theorem greatFrom_fuel {so : Int → Bool} : ∀ {f g : Nat} {lo hi : Int}, (hi - lo).toNat ≤ f → (hi - lo).toNat ≤ g → greatFrom so f lo hi = greatFrom so g lo hi := by
 intro f
 induction f with
 | zero =>
  intro g lo hi h1 _
  cases g with
  | zero => rfl
  | succ g => simp only [greatFrom]; rw [if_neg (by omega)]
 | succ f ih =>
  intro g lo hi h1 h2
  cases g with
  | zero => simp only [greatFrom]; rw [if_neg (by omega)]
  | succ g =>
   simp only [greatFrom]
   by_cases h : lo < hi
   ·rw [if_pos h, if_pos h]
    rw [ih (g := g) (lo := lo + (hi - lo + 1) / 2) (hi := hi) (by omega) (by omega), ih (g := g) (lo := lo) (hi := lo + (hi - lo + 1) / 2 - 1) (by omega) (by omega)]
   ·rw [if_neg h, if_neg h]
theorem great_step {so : Int → Bool} {lo hi : Int} (h : lo < hi) : great so lo hi = if so (lo + (hi - lo + 1) / 2) = true then great so (lo + (hi - lo + 1) / 2) hi else great so lo (lo + (hi - lo + 1) / 2 - 1) := by
 unfold great
 rw [show (hi - lo).toNat = ((hi - lo).toNat - 1) + 1 by omega, greatFrom, if_pos h]
 rw [greatFrom_fuel (f := (hi - lo).toNat - 1) (g := (hi - (lo + (hi - lo + 1) / 2)).toNat) (lo := lo + (hi - lo + 1) / 2) (by omega) (by omega),
  greatFrom_fuel (f := (hi - lo).toNat - 1) (g := ((lo + (hi - lo + 1) / 2 - 1) - lo).toNat) (lo := lo) (hi := lo + (hi - lo + 1) / 2 - 1) (by omega) (by omega)]
theorem great_done {so : Int → Bool} {lo hi : Int} (h : ¬ lo < hi) : great so lo hi = lo := by
 unfold great
 rw [show (hi - lo).toNat = 0 by omega, greatFrom]
def greatest (so : Int → Bool) (lo hi : Int) : Int × Bool := if so lo = true then (great so lo hi, true) else (0, false)
def speed (s : Ship) (i : Ice) (ch : Bool) : Int := (greatest (fun v => makes s i ch v) 0 250).1
def goes (s : Ship) (i : Ice) (ch : Bool) : Int × Bool := greatest (fun v => makes s i ch v && bears s i ch v) 10 250
def all4 (so : Int → Bool) : Bool := so 0 && so 1 && so 2 && so 3
def rightS (s : Span) (n : Int) : Bool := inI s.Lo 0 (([100, 400, 100, 3] : List Int).getD n.toNat 0) && inI s.Hi s.Lo (([100, 400, 100, 3] : List Int).getD n.toNat 0)
def checkCell (c : Cell) : Int :=
 if all4 (fun n => rightS (([c.Conc, c.Thick, c.Ridge, c.Press] : List Span).getD n.toNat ⟨0, 0⟩) n) = false then 20 else 0
theorem ite_err {c : Bool} {e : Int} (he : e ≠ 0) : (if c = false then e else 0) = 0 ↔ c = true := by cases c <;> simp [he]
def goodSpan (s : Span) (n : Int) : Prop := 0 ≤ s.Lo ∧ s.Lo ≤ s.Hi ∧ s.Hi ≤ n
def goodCell (c : Cell) : Prop := goodSpan c.Conc 100 ∧ goodSpan c.Thick 400 ∧ goodSpan c.Ridge 100 ∧ goodSpan c.Press 3
theorem checkCell_ok {c : Cell} : checkCell c = 0 ↔ goodCell c := by
 unfold checkCell
 rw [ite_err (by decide)]
 simp only [all4, rightS, inI, Bool.and_eq_true, decide_eq_true_eq, goodCell, goodSpan]
 constructor
 ·rintro ⟨⟨⟨⟨⟨_, _⟩, _, _⟩, ⟨_, _⟩, _, _⟩, ⟨_, _⟩, _, _⟩, ⟨_, _⟩, _, _⟩
  exact ⟨⟨by assumption, by assumption, by assumption⟩, ⟨by assumption, by assumption, by assumption⟩, ⟨by assumption, by assumption, by assumption⟩, ⟨by assumption, by assumption, by assumption⟩⟩
 ·rintro ⟨⟨h1, h2, h3⟩, ⟨h4, h5, h6⟩, ⟨h7, h8, h9⟩, ⟨h10, h11, h12⟩⟩
  exact ⟨⟨⟨⟨⟨h1, Int.le_trans h2 h3⟩, h2, h3⟩, ⟨h4, Int.le_trans h5 h6⟩, h5, h6⟩, ⟨h7, Int.le_trans h8 h9⟩, h8, h9⟩, ⟨h10, Int.le_trans h11 h12⟩, h11, h12⟩
theorem goodCell_last {c : Cell} (h : goodCell c) : goodIce (lastI c) := by
 obtain ⟨⟨_, _, _⟩, ⟨_, _, _⟩, ⟨_, _, _⟩, ⟨_, _, _⟩⟩ := h
 simp only [goodIce, lastI]; omega
theorem goodCell_first {c : Cell} (h : goodCell c) : goodIce (firstI c) := by
 obtain ⟨⟨_, _, _⟩, ⟨_, _, _⟩, ⟨_, _, _⟩, ⟨_, _, _⟩⟩ := h
 simp only [goodIce, firstI]; omega
def met (s : Ship) (c : Cell) : Int := if check s ≠ 0 then check s else checkCell c
def safe (s : Ship) (c : Cell) (ch : Bool) : Int × Int :=
 if speed s (lastI c) ch < 10 then (0, 4) else if (goes s (lastI c) ch).2 = false then (0, 41) else ((goes s (lastI c) ch).1, 0)
theorem mulL {a b c : Int} (h : a ≤ b) (hc : 0 ≤ c) : c * a ≤ c * b := Int.mul_le_mul_of_nonneg_left h hc
theorem mulR {a b c : Int} (h : a ≤ b) (hc : 0 ≤ c) : a * c ≤ b * c := Int.mul_le_mul_of_nonneg_right h hc
theorem ceil_mono {a b c d : Int} (hb : 0 < b) (hd : 0 < d) (h : a * d ≤ c * b) : (a + b - 1) / b ≤ (c + d - 1) / d := by
 have h1 := Int.lt_mul_ediv_self_add (x := c + d - 1) hd
 have h2 : c ≤ d * ((c + d - 1) / d) := by omega
 have h3 : c * b ≤ d * ((c + d - 1) / d) * b := mulR h2 (by omega)
 have h4 : a * d ≤ ((c + d - 1) / d * b) * d := by
  have e : d * ((c + d - 1) / d) * b = ((c + d - 1) / d * b) * d := by ac_rfl
  omega
 have h5 : a ≤ (c + d - 1) / d * b := Int.le_of_mul_le_mul_right h4 hd
 have h6 : (a + b - 1) / b < (c + d - 1) / d + 1 := Int.ediv_lt_of_lt_mul hb (by rw [Int.add_mul]; omega)
 omega
theorem floor_mono {a b c d : Int} (hb : 0 < b) (hd : 0 < d) (h : a * d ≤ c * b) : a / b ≤ c / d := by
 have h1 : a / b * b ≤ a := Int.ediv_mul_le a (by omega)
 refine Int.le_ediv_of_mul_le hd ?_
 have h2 : a / b * b * d ≤ a * d := mulR h1 (by omega)
 have h3 : (a / b * d) * b ≤ c * b := by
  have e : a / b * b * d = (a / b * d) * b := by ac_rfl
  omega
 exact Int.le_of_mul_le_mul_right h3 hb
def vf (X Z : Nat → Int) (n : Nat) (x : Int) : Nat → Nat → Int × Int
 | 0, _ => (Z (n - 1), 1)
 | f + 1, i => if x ≤ X i then (Z (i - 1) * (X i - X (i - 1)) + (Z i - Z (i - 1)) * (x - X (i - 1)), X i - X (i - 1)) else vf X Z n x f (i + 1)
theorem vf_ge {X Z : Nat → Int} {n : Nat} (hX : ∀ i, 1 ≤ i → i < n → X (i - 1) < X i) (hZ : ∀ i, 1 ≤ i → i < n → Z (i - 1) ≤ Z i) {x : Int} : ∀ (f i : Nat), 1 ≤ i → i + f = n → X (i - 1) ≤ x →
  1 ≤ (vf X Z n x f i).2 ∧ Z (i - 1) * (vf X Z n x f i).2 ≤ (vf X Z n x f i).1 := by
 intro f
 induction f with
 | zero => intro i h1 h2 h3; simp only [vf]; rw [show n - 1 = i - 1 by omega]; omega
 | succ f ih =>
  intro i h1 h2 h3
  simp only [vf]
  have hx := hX i h1 (by omega)
  have hz := hZ i h1 (by omega)
  by_cases h : x ≤ X i
  ·rw [if_pos h]
   have := Int.mul_nonneg (a := Z i - Z (i - 1)) (b := x - X (i - 1)) (by omega) (by omega)
   simp only []
   omega
  ·rw [if_neg h]
   obtain ⟨h4, h5⟩ := ih (i + 1) (by omega) (by omega) (by rw [show i + 1 - 1 = i by omega]; omega)
   rw [show i + 1 - 1 = i by omega] at h5
   have := mulR hz (c := (vf X Z n x f (i + 1)).2) (by omega)
   exact ⟨h4, by omega⟩
theorem vf_mono {X Z : Nat → Int} {n : Nat} (hX : ∀ i, 1 ≤ i → i < n → X (i - 1) < X i) (hZ : ∀ i, 1 ≤ i → i < n → Z (i - 1) ≤ Z i) {x y : Int} (hxy : x ≤ y) : ∀ (f i : Nat), 1 ≤ i → i + f = n → X (i - 1) ≤ x →
  (vf X Z n x f i).1 * (vf X Z n y f i).2 ≤ (vf X Z n y f i).1 * (vf X Z n x f i).2 := by
 intro f
 induction f with
 | zero => intro i _ _ _; simp only [vf]; omega
 | succ f ih =>
  intro i h1 h2 h3
  simp only [vf]
  have hx := hX i h1 (by omega)
  have hz := hZ i h1 (by omega)
  by_cases h : x ≤ X i
  ·rw [if_pos h]
   by_cases hy : y ≤ X i
   ·rw [if_pos hy]
    simp only []
    refine mulR ?_ (by omega)
    have := mulL (a := x - X (i - 1)) (b := y - X (i - 1)) (c := Z i - Z (i - 1)) (by omega) (by omega)
    omega
   ·rw [if_neg hy]
    obtain ⟨h4, h5⟩ := vf_ge hX hZ (x := y) f (i + 1) (by omega) (by omega) (by rw [show i + 1 - 1 = i by omega]; omega)
    rw [show i + 1 - 1 = i by omega] at h5
    simp only []
    have h6 : Z (i - 1) * (X i - X (i - 1)) + (Z i - Z (i - 1)) * (x - X (i - 1)) ≤ Z i * (X i - X (i - 1)) := by
     have := mulL (a := x - X (i - 1)) (b := X i - X (i - 1)) (c := Z i - Z (i - 1)) (by omega) (by omega)
     rw [Int.sub_mul (Z i) (Z (i - 1)) (X i - X (i - 1))] at this
     omega
    have h7 := mulR h6 (c := (vf X Z n y f (i + 1)).2) (by omega)
    have h8 := mulR h5 (c := X i - X (i - 1)) (by omega)
    have e : Z i * (X i - X (i - 1)) * (vf X Z n y f (i + 1)).2 = Z i * (vf X Z n y f (i + 1)).2 * (X i - X (i - 1)) := by ac_rfl
    omega
  ·rw [if_neg h, if_neg (by omega)]
   exact ih (i + 1) (by omega) (by omega) (by rw [show i + 1 - 1 = i by omega]; omega)
theorem valFrom_vf {l : List Pt} {x : Int} : ∀ (f i : Nat), 1 ≤ i → i + f = l.length → valFrom l x f i = vf (fun i => (pt l (i : Int)).X) (fun i => (pt l (i : Int)).Y) l.length x f i := by
 intro f
 induction f with
 | zero => intro i h1 h2; simp only [valFrom, vf]; rw [show ((l.length - 1 : Nat) : Int) = (l.length : Int) - 1 by omega]
 | succ f ih =>
  intro i h1 h2
  simp only [valFrom, vf]
  rw [show ((i - 1 : Nat) : Int) = (i : Int) - 1 by omega, ih (i + 1) (by omega) (by omega)]
theorem vf_neg {X Z : Nat → Int} {n : Nat} {x : Int} : ∀ (f i : Nat), vf X (fun i => -Z i) n x f i = (-(vf X Z n x f i).1, (vf X Z n x f i).2) := by
 intro f
 induction f with
 | zero => intro i; rfl
 | succ f ih =>
  intro i
  simp only [vf]
  by_cases h : x ≤ X i
  ·rw [if_pos h, if_pos h]
   simp only [Prod.mk.injEq, and_true]
   rw [show -Z i - -Z (i - 1) = -(Z i - Z (i - 1)) by omega, Int.neg_mul, Int.neg_mul, Int.neg_add]
  ·rw [if_neg h, if_neg h]; exact ih (i + 1)
theorem steady_at {l : List Pt} {w : Int} (h : steady l w = true) {i : Nat} (h1 : 1 ≤ i) (h2 : i < l.length) : 0 ≤ ((pt l (i : Int)).Y - (pt l ((i : Int) - 1)).Y) * w := by
 simp only [steady, Bool.and_eq_true, List.all_eq_true, List.mem_range] at h
 have := h.2 (i - 1) (by omega)
 rw [show i - 1 + 1 = i by omega] at this
 simp only [steadyAt, Bool.not_eq_true', decide_eq_false_iff_not] at this
 omega
theorem curve_up {l : List Pt} (hc : curve l = true) {i : Nat} (h1 : 1 ≤ i) (h2 : i < l.length) : (pt l ((i - 1 : Nat) : Int)).X < (pt l (i : Int)).X := by
 have hat := curve_at hc (i := (i : Int)) (by omega) (by omega)
 simp only [curveAt, Bool.and_eq_true, Bool.not_eq_true', Bool.and_eq_false_iff, decide_eq_false_iff_not] at hat
 rw [show ((i - 1 : Nat) : Int) = (i : Int) - 1 by omega]
 rcases hat.2 with h | h <;> omega
theorem value_up {l : List Pt} (h : steady l 1 = true) {x y : Int} (hx : 0 ≤ x) (hxy : x ≤ y) : (value l x).1 * (value l y).2 ≤ (value l y).1 * (value l x).2 := by
 have hc := steady_curve h
 have hlen := (curve_lt hc).2
 have h0 := curve_x0 hc
 unfold value
 rw [valFrom_vf _ 1 (Nat.le_refl 1) (by omega), valFrom_vf _ 1 (Nat.le_refl 1) (by omega)]
 refine vf_mono (fun i h1 h2 => curve_up hc h1 h2) (fun i h1 h2 => ?_) hxy _ 1 (Nat.le_refl 1) (by omega) (by simp; omega)
 have := steady_at h h1 h2
 rw [show ((i - 1 : Nat) : Int) = (i : Int) - 1 by omega]
 omega
theorem value_down {l : List Pt} (h : steady l (-1) = true) {x y : Int} (hx : 0 ≤ x) (hxy : x ≤ y) : (value l y).1 * (value l x).2 ≤ (value l x).1 * (value l y).2 := by
 have hc := steady_curve h
 have hlen := (curve_lt hc).2
 have h0 := curve_x0 hc
 unfold value
 rw [valFrom_vf _ 1 (Nat.le_refl 1) (by omega), valFrom_vf _ 1 (Nat.le_refl 1) (by omega)]
 have := vf_mono (X := fun i => (pt l (i : Int)).X) (Z := fun i => -(pt l (i : Int)).Y) (n := l.length) (fun i h1 h2 => curve_up hc h1 h2) (fun i h1 h2 => by
  have := steady_at h h1 h2
  rw [show ((i - 1 : Nat) : Int) = (i : Int) - 1 by omega]
  omega) hxy (l.length - 1) 1 (Nat.le_refl 1) (by omega) (by simp; omega)
 rw [vf_neg, vf_neg] at this
 simp only [Int.neg_mul] at this
 omega
def resG (w wd n d c A sh R rd P : Int) : Int :=
 (w * (d * 10000000) + c * (n * A * sh + R * rd * d * 100000) * wd + P * wd * (d * 10000000) + wd * (d * 10000000) - 1) / (wd * (d * 10000000))
theorem resG_mono {w wd n d c A sh R rd P w' wd' n' d' c' A' sh' rd' P' : Int} (hwd : 0 < wd) (hd : 0 < d) (hwd' : 0 < wd') (hd' : 0 < d') (hn : 0 ≤ n) (hn' : 0 ≤ n') (hc : 0 ≤ c) (hA : 0 ≤ A) (hsh : 0 ≤ sh) (hR : 0 ≤ R) (hrd : 0 ≤ rd)
  (h1 : w * wd' ≤ w' * wd) (h2 : n * d' ≤ n' * d) (h3 : c ≤ c') (h4 : A ≤ A') (h5 : sh ≤ sh') (h6 : rd ≤ rd') (h7 : P ≤ P') :
  resG w wd n d c A sh R rd P ≤ resG w' wd' n' d' c' A' sh' R rd' P' := by
 unfold resG
 have pd : 0 < d * 10000000 := by omega
 have pd' : 0 < d' * 10000000 := by omega
 refine ceil_mono (Int.mul_pos hwd pd) (Int.mul_pos hwd' pd') ?_
 have t1 : w * (d * 10000000) * (wd' * (d' * 10000000)) ≤ w' * (d' * 10000000) * (wd * (d * 10000000)) := by
  have := mulR h1 (c := (d * 10000000) * (d' * 10000000)) (Int.le_of_lt (Int.mul_pos pd pd'))
  have e1 : w * (d * 10000000) * (wd' * (d' * 10000000)) = w * wd' * ((d * 10000000) * (d' * 10000000)) := by ac_rfl
  have e2 : w' * (d' * 10000000) * (wd * (d * 10000000)) = w' * wd * ((d * 10000000) * (d' * 10000000)) := by ac_rfl
  omega
 have t3 : P * wd * (d * 10000000) * (wd' * (d' * 10000000)) ≤ P' * wd' * (d' * 10000000) * (wd * (d * 10000000)) := by
  have := mulR h7 (c := wd * (d * 10000000) * (wd' * (d' * 10000000))) (Int.le_of_lt (Int.mul_pos (Int.mul_pos hwd pd) (Int.mul_pos hwd' pd')))
  have e1 : P * wd * (d * 10000000) * (wd' * (d' * 10000000)) = P * (wd * (d * 10000000) * (wd' * (d' * 10000000))) := by ac_rfl
  have e2 : P' * wd' * (d' * 10000000) * (wd * (d * 10000000)) = P' * (wd * (d * 10000000) * (wd' * (d' * 10000000))) := by ac_rfl
  omega
 have a1 : n * A * sh * d' ≤ n' * A' * sh' * d := by
  have hA' : A * sh ≤ A' * sh' := Int.mul_le_mul h4 h5 hsh (by omega)
  have := Int.mul_le_mul h2 hA' (Int.mul_nonneg hA hsh) (Int.mul_nonneg hn' (by omega))
  have e1 : n * A * sh * d' = n * d' * (A * sh) := by ac_rfl
  have e2 : n' * A' * sh' * d = n' * d * (A' * sh') := by ac_rfl
  omega
 have a2 : R * rd * d * 100000 * d' ≤ R * rd' * d' * 100000 * d := by
  have := mulR (mulL h6 hR) (c := d * 100000 * d') (Int.mul_nonneg (by omega) (by omega))
  have e1 : R * rd * d * 100000 * d' = R * rd * (d * 100000 * d') := by ac_rfl
  have e2 : R * rd' * d' * 100000 * d = R * rd' * (d * 100000 * d') := by ac_rfl
  omega
 have hin : (n * A * sh + R * rd * d * 100000) * d' ≤ (n' * A' * sh' + R * rd' * d' * 100000) * d := by rw [Int.add_mul, Int.add_mul]; omega
 have pin : 0 ≤ (n * A * sh + R * rd * d * 100000) * d' :=
  Int.mul_nonneg (Int.add_nonneg (Int.mul_nonneg (Int.mul_nonneg hn hA) hsh) (Int.mul_nonneg (Int.mul_nonneg (Int.mul_nonneg hR hrd) (by omega)) (by omega))) (by omega)
 have hcin := Int.mul_le_mul h3 hin pin (by omega : 0 ≤ c')
 have t2 : c * (n * A * sh + R * rd * d * 100000) * wd * (wd' * (d' * 10000000)) ≤ c' * (n' * A' * sh' + R * rd' * d' * 100000) * wd' * (wd * (d * 10000000)) := by
  have := mulR hcin (c := wd * wd' * 10000000) (Int.mul_nonneg (Int.mul_nonneg (by omega) (by omega)) (by omega))
  have e1 : c * (n * A * sh + R * rd * d * 100000) * wd * (wd' * (d' * 10000000)) = c * ((n * A * sh + R * rd * d * 100000) * d') * (wd * wd' * 10000000) := by ac_rfl
  have e2 : c' * (n' * A' * sh' + R * rd' * d' * 100000) * wd' * (wd * (d * 10000000)) = c' * ((n' * A' * sh' + R * rd' * d' * 100000) * d) * (wd * wd' * 10000000) := by ac_rfl
  omega
 rw [Int.add_mul, Int.add_mul, Int.add_mul, Int.add_mul]
 omega
theorem resistance_G (s : Ship) (i : Ice) (ch : Bool) (v : Int) : resistance s i ch v =
  resG (value s.Water v).1 (value s.Water v).2 (value s.Ice i.Thick).1 (value s.Ice i.Thick).2 i.Conc (1000 + s.Slow * v) (if ch = true then s.Brash else 100) s.Ridge (if ch = true then 0 else i.Ridge) (s.Press * i.Press) := rfl
structure LeI (i j : Ice) : Prop where
 conc : i.Conc ≤ j.Conc
 thick : i.Thick ≤ j.Thick
 ridge : i.Ridge ≤ j.Ridge
 press : i.Press ≤ j.Press
theorem LeI.rfl {i : Ice} : LeI i i := ⟨Int.le_refl _, Int.le_refl _, Int.le_refl _, Int.le_refl _⟩
theorem resistance_mono {s : Ship} (hc : check s = 0) {i j : Ice} (hi : goodIce i) (hj : goodIce j) (hij : LeI i j) {u v : Int} (hu : 0 ≤ u) (huv : u ≤ v) (ch : Bool) : resistance s i ch u ≤ resistance s j ch v := by
 rw [resistance_G, resistance_G]
 obtain ⟨hcl, hpo, hsl, hbr, hri, hpr⟩ := check_bd hc
 obtain ⟨i1, i2, i3, i4⟩ := goodIce_bd hi
 obtain ⟨j1, j2, j3, j4⟩ := goodIce_bd hj
 have w1 := value_bd (check_curveWater hc) hu
 have w2 := value_bd (check_curveWater hc) (x := v) (by omega)
 have n1 := value_bd (check_curveIce hc) i2.1
 have n2 := value_bd (check_curveIce hc) j2.1
 have hsu := Int.mul_nonneg hsl.1 hu
 refine resG_mono (by omega) (by omega) (by omega) (by omega) (by omega) (by omega) i1.1 (by omega) (by split <;> omega) hri.1 (by split <;> omega)
  (value_up (check_steadyWater hc) hu huv) (value_up (check_steadyIce hc) i2.1 hij.thick) hij.conc (by have := mulL huv hsl.1; omega) (Int.le_refl _) (by split; exact Int.le_refl _; exact hij.ridge) (mulL hij.press hpr.1)
theorem thrust_mono {s : Ship} (hc : check s = 0) {u v : Int} (hu : 0 ≤ u) (huv : u ≤ v) : thrust s v ≤ thrust s u := by
 have t1 := value_bd (check_curveThrust hc) hu
 have t2 := value_bd (check_curveThrust hc) (x := v) (by omega)
 exact floor_mono (by omega) (by omega) (value_down (check_steadyThrust hc) hu huv)
theorem makes_mono {s : Ship} (hc : check s = 0) {i j : Ice} (hi : goodIce i) (hj : goodIce j) (hij : LeI i j) {u v : Int} (hu : 0 ≤ u) (huv : u ≤ v) {ch : Bool} (h : makes s j ch v = true) : makes s i ch u = true := by
 simp only [makes, Bool.and_eq_true, decide_eq_true_eq] at h ⊢
 have h1 := resistance_mono hc hi hj hij hu huv ch
 have h2 := thrust_mono hc hu huv
 exact ⟨by omega, by omega⟩
theorem load_mono {i j : Ice} (hi : goodIce i) (hj : goodIce j) (hij : LeI i j) {u v : Int} (hu : 0 ≤ u) (huv : u ≤ v) (ch : Bool) : loadI i u ch ≤ loadI j v ch := by
 obtain ⟨i1, i2, i3, i4⟩ := goodIce_bd hi
 obtain ⟨j1, j2, j3, j4⟩ := goodIce_bd hj
 have h1 := Int.mul_le_mul hij.thick (show 100 + u ≤ 100 + v by omega) (by omega) j2.1
 have h2 := Int.mul_nonneg i2.1 (show 0 ≤ 100 + u by omega)
 have a := hij.conc; have b := hij.ridge; have c := hij.press
 unfold loadI
 by_cases e : i.Conc = 0
 ·rw [if_pos e]
  by_cases e2 : j.Conc = 0
  ·rw [if_pos e2]; exact Int.le_refl _
  ·rw [if_neg e2]; cases ch <;> simp only [if_true, if_false, Bool.false_eq_true] <;> omega
 ·rw [if_neg e, if_neg (show ¬ j.Conc = 0 by omega)]
  cases ch <;> simp only [if_true, if_false, Bool.false_eq_true] <;> omega
theorem bears_mono {s : Ship} {i j : Ice} (hi : goodIce i) (hj : goodIce j) (hij : LeI i j) {u v : Int} (hu : 0 ≤ u) (huv : u ≤ v) {ch : Bool} (h : bears s j ch v = true) : bears s i ch u = true := by
 simp only [bears, decide_eq_true_eq] at h ⊢
 have := load_mono hi hj hij hu huv ch
 omega
theorem great_spec {so : Int → Bool} : ∀ (f : Nat) {lo hi : Int}, (hi - lo).toNat ≤ f → lo ≤ hi → so lo = true → (∀ u v, lo ≤ u → u ≤ v → v ≤ hi → so v = true → so u = true) →
  lo ≤ great so lo hi ∧ great so lo hi ≤ hi ∧ so (great so lo hi) = true ∧ ∀ v, great so lo hi < v → v ≤ hi → so v = false := by
 intro f
 induction f with
 | zero =>
  intro lo hi hf hle h1 hd
  rw [great_done (by omega)]
  exact ⟨Int.le_refl _, hle, h1, fun v h2 h3 => absurd h3 (by omega)⟩
 | succ f ih =>
  intro lo hi hf hle h1 hd
  by_cases h : lo < hi
  ·rw [great_step h]
   by_cases hm : so (lo + (hi - lo + 1) / 2) = true
   ·rw [if_pos hm]
    obtain ⟨a, b, c, d⟩ := ih (lo := lo + (hi - lo + 1) / 2) (hi := hi) (by omega) (by omega) hm (fun u v h2 h3 h4 h5 => hd u v (by omega) h3 h4 h5)
    exact ⟨by omega, b, c, d⟩
   ·rw [if_neg hm]
    obtain ⟨a, b, c, d⟩ := ih (lo := lo) (hi := lo + (hi - lo + 1) / 2 - 1) (by omega) (by omega) h1 (fun u v h2 h3 h4 h5 => hd u v h2 h3 (by omega) h5)
    refine ⟨a, by omega, c, fun v h2 h3 => ?_⟩
    by_cases h4 : v ≤ lo + (hi - lo + 1) / 2 - 1
    ·exact d v h2 h4
    ·cases hv : so v with
     | false => rfl
     | true => exact absurd (hd (lo + (hi - lo + 1) / 2) v (by omega) (by omega) h3 hv) hm
  ·rw [great_done h]
   exact ⟨Int.le_refl _, hle, h1, fun v h2 h3 => absurd h3 (by omega)⟩
theorem great_is {so : Int → Bool} {lo hi : Int} (hle : lo ≤ hi) (h1 : so lo = true) (hd : ∀ u v, lo ≤ u → u ≤ v → v ≤ hi → so v = true → so u = true) :
  lo ≤ great so lo hi ∧ great so lo hi ≤ hi ∧ ∀ v, lo ≤ v → v ≤ hi → (so v = true ↔ v ≤ great so lo hi) := by
 obtain ⟨a, b, c, d⟩ := great_spec _ (Nat.le_refl _) hle h1 hd
 refine ⟨a, b, fun v h2 h3 => ⟨fun h => ?_, fun h => hd v _ h2 h b c⟩⟩
 rcases Int.lt_or_le (great so lo hi) v with h4 | h4
 ·rw [d v h4 h3] at h; cases h
 ·exact h4
def goesP (s : Ship) (i : Ice) (ch : Bool) (v : Int) : Bool := makes s i ch v && bears s i ch v
theorem goesP_mono {s : Ship} (hc : check s = 0) {i j : Ice} (hi : goodIce i) (hj : goodIce j) (hij : LeI i j) {u v : Int} (hu : 0 ≤ u) (huv : u ≤ v) {ch : Bool} (h : goesP s j ch v = true) : goesP s i ch u = true := by
 simp only [goesP, Bool.and_eq_true] at h ⊢
 exact ⟨makes_mono hc hi hj hij hu huv h.1, bears_mono hi hj hij hu huv h.2⟩
theorem goes_eq (s : Ship) (i : Ice) (ch : Bool) : goes s i ch = if goesP s i ch 10 = true then (great (goesP s i ch) 10 250, true) else (0, false) := rfl
theorem goes_down {s : Ship} (hc : check s = 0) {i : Ice} (hi : goodIce i) (ch : Bool) : ∀ u v, (10 : Int) ≤ u → u ≤ v → v ≤ 250 → goesP s i ch v = true → goesP s i ch u = true :=
 fun u v h1 h2 _ h => goesP_mono hc hi hi .rfl (by omega) h2 h
theorem goes_ok {s : Ship} {i : Ice} {ch : Bool} : (goes s i ch).2 = goesP s i ch 10 := by
 rw [goes_eq]
 cases h : goesP s i ch 10 <;> simp
theorem goes_bd {s : Ship} (hc : check s = 0) {i : Ice} (hi : goodIce i) {ch : Bool} (h : (goes s i ch).2 = true) : 10 ≤ (goes s i ch).1 ∧ (goes s i ch).1 ≤ 250 := by
 rw [goes_ok] at h
 rw [goes_eq, if_pos h]
 have := great_is (by decide) h (goes_down hc hi ch)
 exact ⟨this.1, this.2.1⟩
theorem first_le_last {c : Cell} (h : goodCell c) : LeI (firstI c) (lastI c) := ⟨h.1.2.1, h.2.1.2.1, h.2.2.1.2.1, h.2.2.2.2.1⟩
theorem safe_goes {s : Ship} (hc : check s = 0) {c : Cell} (hg : goodCell c) {ch : Bool} (h : (safe s c ch).2 = 0) :
  (safe s c ch).1 = (goes s (lastI c) ch).1 ∧ (10 ≤ (safe s c ch).1 ∧ (safe s c ch).1 ≤ 250) ∧ (10 ≤ (goes s (firstI c) ch).1 ∧ (goes s (firstI c) ch).1 ≤ 250) := by
 have hl := goodCell_last hg
 have hf := goodCell_first hg
 unfold safe at h ⊢
 by_cases h1 : speed s (lastI c) ch < 10
 ·rw [if_pos h1] at h; cases h
 ·rw [if_neg h1] at h ⊢
  cases h2 : (goes s (lastI c) ch).2 with
  | false => rw [h2, if_pos rfl] at h; cases h
  | true =>
   rw [if_neg (by simp)]
   refine ⟨rfl, goes_bd hc hl h2, goes_bd hc hf ?_⟩
   rw [goes_ok] at h2 ⊢
   exact goesP_mono hc hf hl (first_le_last hg) (by decide) (Int.le_refl _) h2
theorem drop_getD {α : Type} {l : List α} {k : Nat} (d : α) (h : k < l.length) : l.drop k = l.getD k d :: l.drop (k + 1) := by
 rw [List.drop_eq_getElem_cons h]
 simp [List.getD, h]
def idx (l : List Int) (k : Nat) : Int := ((min k l.length : Nat) : Int)
structure Pre (w : Int) (l : List Pt) (x y : Int) : Prop where
 len : 1 ≤ l.length
 x0 : (pt l 0).X = 0
 bd : ∀ i : Nat, i < l.length → 0 ≤ (pt l i).X ∧ (pt l i).X ≤ 400 ∧ 0 ≤ (pt l i).Y ∧ (pt l i).Y ≤ 20000
 st : ∀ i : Nat, 1 ≤ i → i < l.length → (pt l ((i : Int) - 1)).X < (pt l i).X ∧ 0 ≤ ((pt l i).Y - (pt l ((i : Int) - 1)).Y) * w
 last : pt l ((l.length : Int) - 1) = ⟨x, y⟩
theorem pt_old {l : List Pt} {p : Pt} {i : Int} (h0 : 0 ≤ i) (h : i < l.length) : pt (l ++ [p]) i = pt l i := by
 unfold pt
 have h : i.toNat < l.length := by omega
 simp [List.getD, List.getElem?_append_left h]
theorem pt_new {l : List Pt} {p : Pt} : pt (l ++ [p]) (l.length : Int) = p := by
 unfold pt
 simp [List.getD]
theorem Pre.one {w y : Int} (hy : 0 ≤ y ∧ y ≤ 20000) : Pre w [⟨0, y⟩] 0 y := by
 refine ⟨by simp, rfl, fun i hi => ?_, fun i h1 hi => ?_, rfl⟩
 ·have : i = 0 := by simpa using hi
  subst this
  simp [pt]; omega
 ·simp at hi; omega
theorem Pre.snoc {w x y x' y' : Int} {l : List Pt} (h : Pre w l x y) (hx : x < x' ∧ x' ≤ 400) (hy : 0 ≤ y' ∧ y' ≤ 20000) (hw : 0 ≤ (y' - y) * w) : Pre w (l ++ [⟨x', y'⟩]) x' y' := by
 have hl := h.len
 have hlast := h.last
 have hx0 := (h.bd (l.length - 1) (by omega)).1
 rw [show (((l.length - 1 : Nat)) : Int) = (l.length : Int) - 1 by omega, hlast] at hx0
 simp only [] at hx0
 refine ⟨by simp, by rw [pt_old (by omega) (by omega)]; exact h.x0, fun i hi => ?_, fun i h1 hi => ?_, ?_⟩
 ·by_cases e : i < l.length
  ·rw [pt_old (by omega) (by omega)]; exact h.bd i e
  ·have : i = l.length := by simp at hi; omega
   subst this
   rw [pt_new]; simp only []; omega
 ·by_cases e : i < l.length
  ·rw [pt_old (by omega) (by omega), pt_old (by omega) (by omega)]; exact h.st i h1 e
  ·have : i = l.length := by simp at hi; omega
   subst this
   rw [pt_new, pt_old (by omega) (by omega), hlast]
   exact ⟨hx.1, hw⟩
 ·rw [show (((l ++ [(⟨x', y'⟩ : Pt)]).length : Int) - 1) = (l.length : Int) by simp, pt_new]
theorem Pre.steady {w x y : Int} {l : List Pt} (h : Pre w l x y) (hl : 2 ≤ l.length ∧ l.length ≤ 8) : steady l w = true ∧ endX l = x := by
 have hc : curve l = true := by
  refine curve_yes (k := l.length) ?_ h.x0 (fun j hj => ?_) (Nat.le_refl _)
  ·simp [within]; omega
  ·have h1 := h.bd j hj
   simp only [curveAt, within]
   by_cases e : j = 0
   ·subst e
    have h0 := h.x0
    have h1' : 0 ≤ (pt l 0).X ∧ (pt l 0).X ≤ 400 ∧ 0 ≤ (pt l 0).Y ∧ (pt l 0).Y ≤ 20000 := h1
    simp; omega
   ·have h2 := (h.st j (by omega) hj).1
    have h3 : ¬ (pt l (j : Int)).X ≤ (pt l ((j : Int) - 1)).X := by omega
    simp [h3]; omega
 refine ⟨steady_yes (k := l.length) hc (fun j hj h1 => ?_) (Nat.le_refl _), by rw [endX, h.last]⟩
 have h2 := (h.st j h1 hj).2
 simp only [steadyAt]
 simp; omega
structure Light (s : Ship) : Prop where
 t : s.Thrust.length ≤ 20
 w : s.Water.length ≤ 20
 i : s.Ice.length ≤ 20
instance (s : Ship) : Decidable (Light s) := decidable_of_iff (s.Thrust.length ≤ 20 ∧ s.Water.length ≤ 20 ∧ s.Ice.length ≤ 20) ⟨fun ⟨a, b, c⟩ => ⟨a, b, c⟩, fun h => ⟨h.t, h.w, h.i⟩⟩
theorem ratio_floor {a b c d : Int} (hb : 0 < b) (hd : 0 < d) (h : a * d = c * b) : a / b = c / d := by
 have h1 := floor_mono hb hd (Int.le_of_eq h)
 have h2 := floor_mono hd hb (Int.le_of_eq h.symm)
 omega
theorem ratio_ceil {a b c d : Int} (hb : 0 < b) (hd : 0 < d) (h : a * d = c * b) : (a + b - 1) / b = (c + d - 1) / d := by
 have h1 := ceil_mono hb hd (Int.le_of_eq h)
 have h2 := ceil_mono hd hb (Int.le_of_eq h.symm)
 omega
theorem check_endT {s : Ship} (h : check s = 0) : 10 ≤ endX s.Thrust ∧ endX s.Thrust ≤ 250 := by
 have := (check_rules h).2.2.2.1
 simp only [rule4, Bool.and_eq_true] at this
 exact within_t this.2
theorem great_eq {so : Int → Bool} {lo hi r : Int} (hd : ∀ u v, lo ≤ u → u ≤ v → v ≤ hi → so v = true → so u = true) (h1 : lo ≤ r) (h2 : r ≤ hi) (hr : so r = true) (hn : ∀ u, r < u → u ≤ hi → so u = false) : so lo = true ∧ great so lo hi = r := by
 have h0 := hd lo r (Int.le_refl _) h1 h2 hr
 obtain ⟨a, b, c⟩ := great_is (by omega) h0 hd
 refine ⟨h0, ?_⟩
 have c1 := (c r h1 h2).1 hr
 rcases Int.lt_or_le r (great so lo hi) with h | h
 ·have := (c _ a b).2 (Int.le_refl _)
  rw [hn _ h b] at this; cases this
 ·omega
structure Last (so : Int → Bool) (lo d out n : Int) : Prop where
 it : (out = d ∧ ∀ u, lo ≤ u → u < n → so u = false) ∨ (lo ≤ out ∧ out < n ∧ so out = true ∧ ∀ u, out < u → u < n → so u = false)
theorem Last.greatest {so : Int → Bool} {lo hi d out : Int} (hl : Last so lo d out (hi + 1)) (hle : lo ≤ hi) (hd : ∀ u v, lo ≤ u → u ≤ v → v ≤ hi → so v = true → so u = true) :
  (out = d ∧ Go.Proofs.Cb.greatest so lo hi = (0, false) ∧ ∀ u, lo ≤ u → u ≤ hi → so u = false) ∨ (Go.Proofs.Cb.greatest so lo hi = (out, true) ∧ lo ≤ out ∧ out ≤ hi) := by
 unfold Go.Proofs.Cb.greatest
 rcases hl.it with ⟨h1, h2⟩ | ⟨h1, h2, h3, h4⟩
 ·rw [h2 lo (Int.le_refl _) (by omega)]; exact .inl ⟨h1, by simp, fun u h3 h4 => h2 u h3 (by omega)⟩
 ·obtain ⟨a, b⟩ := great_eq hd h1 (by omega) h3 (fun u h5 h6 => h4 u h5 (by omega))
  rw [if_pos a, b]; exact .inr ⟨rfl, h1, by omega⟩
theorem checkCell_20 {c : Cell} (h : ¬ goodCell c) : checkCell c = 20 := by
 have := mt checkCell_ok.1 h
 unfold checkCell at this ⊢
 split
 ·rfl
 ·rename_i h2; rw [if_neg h2] at this; exact absurd rfl this
theorem met_zero {s : Ship} (hc : check s = 0) {c : Cell} (hg : goodCell c) : met s c = 0 := by
 unfold met; rw [if_neg (by simp [hc])]; exact checkCell_ok.2 hg
structure Waits (l m : List Span) : Prop where
 len : l.length = m.length
 most : l.length ≤ 20
 each : ∀ j < l.length, goodSpan (l.getD j ⟨0, 0⟩) 3 ∧ goodSpan (m.getD j ⟨0, 0⟩) 3 ∧ (m.getD j ⟨0, 0⟩).Lo ≤ (l.getD j ⟨0, 0⟩).Lo ∧ (m.getD j ⟨0, 0⟩).Hi ≤ (l.getD j ⟨0, 0⟩).Hi
theorem Waits.nil : Waits [] [] := ⟨rfl, by simp, fun j hj => by simp at hj⟩
theorem Waits.snoc {l m : List Span} (h : Waits l m) (hl : l.length < 20) {p q : Span} (hp : goodSpan p 3) (hq : goodSpan q 3) (h1 : q.Lo ≤ p.Lo) (h2 : q.Hi ≤ p.Hi) : Waits (l ++ [p]) (m ++ [q]) := by
 refine ⟨by simp [h.len], by simp; omega, fun j hj => ?_⟩
 by_cases e : j < l.length
 ·have e' : j < m.length := by rw [← h.len]; exact e
  have := h.each j e
  simpa [List.getD, List.getElem?_append_left e, List.getElem?_append_left e'] using this
 ·have : j = l.length := by simp at hj; omega
  subst this
  have e1 : (l ++ [p]).getD l.length ⟨0, 0⟩ = p := by simp [List.getD]
  have e2 : (m ++ [q]).getD l.length ⟨0, 0⟩ = q := by rw [h.len]; simp [List.getD]
  rw [e1, e2]
  exact ⟨hp, hq, h1, h2⟩
def InS (s t : Span) : Prop := t.Lo ≤ s.Lo ∧ s.Hi ≤ t.Hi
structure InC (c d : Cell) : Prop where
 conc : InS c.Conc d.Conc
 thick : InS c.Thick d.Thick
 ridge : InS c.Ridge d.Ridge
 press : InS c.Press d.Press
theorem InC.first {c d : Cell} (h : InC c d) : LeI (firstI d) (firstI c) := ⟨h.conc.1, h.thick.1, h.ridge.1, h.press.1⟩
theorem InC.last {c d : Cell} (h : InC c d) : LeI (lastI c) (lastI d) := ⟨h.conc.2, h.thick.2, h.ridge.2, h.press.2⟩
def nearM (m : Member) (v : Int) : Int := min m.Short ((value m.Stop v).1 / (value m.Stop v).2)
def ceilV (l : List Pt) (v : Int) : Int := ((value l v).1 + (value l v).2 - 1) / (value l v).2
def farM (m : Member) (v : Int) : Int := (463 * v * m.Delay + 8999) / 9000 + ceilV m.Stop v
def stopOK (m : Member) : Bool := steady m.Stop 1 && ((pt m.Stop 0).Y == 0) && decide (endX m.Ship.Thrust ≤ endX m.Stop)
def numOK (m : Member) : Bool := within m.Length 10 500 && within m.Delay 0 600 && within m.Short 0 20000
def memErr (m : Member) : Int := if check m.Ship ≠ 0 then check m.Ship else if (numOK m && stopOK m) = true then 0 else 60
structure GoodM (m : Member) : Prop where
 ship : check m.Ship = 0
 len : 10 ≤ m.Length ∧ m.Length ≤ 500
 delay : 0 ≤ m.Delay ∧ m.Delay ≤ 600
 short : 0 ≤ m.Short ∧ m.Short ≤ 20000
 stop : steady m.Stop 1 = true
 stop0 : (pt m.Stop 0).Y = 0
 stopE : endX m.Ship.Thrust ≤ endX m.Stop
theorem memErr_ok {m : Member} : memErr m = 0 ↔ GoodM m := by
 unfold memErr
 by_cases h : check m.Ship = 0
 ·rw [if_neg (by simp [h])]
  by_cases h2 : (numOK m && stopOK m) = true
  ·rw [if_pos h2]
   refine ⟨fun _ => ?_, fun _ => rfl⟩
   simp only [numOK, stopOK, within, Bool.and_eq_true, decide_eq_true_eq, beq_iff_eq] at h2
   obtain ⟨⟨⟨h3, h4⟩, h5⟩, ⟨h6, h7⟩, h8⟩ := h2
   exact ⟨h, by omega, by omega, by omega, h6, h7, h8⟩
  ·rw [if_neg h2]
   refine ⟨fun h => by simp at h, fun g => absurd ?_ h2⟩
   simp only [numOK, stopOK, within, Bool.and_eq_true, decide_eq_true_eq, beq_iff_eq]
   obtain ⟨g1, g2, g3, g4, g5, g6, g7⟩ := g
   exact ⟨⟨⟨by omega, by omega⟩, by omega⟩, ⟨g5, g6⟩, g7⟩
 ·rw [if_pos h]
  exact ⟨fun e => absurd e h, fun g => absurd g.ship h⟩
theorem GoodM.curve {m : Member} (h : GoodM m) : curve m.Stop = true := steady_curve h.stop
theorem val_bd {m : Member} (h : GoodM m) {v : Int} (hv : 0 ≤ v) : 1 ≤ (value m.Stop v).2 ∧ (value m.Stop v).2 ≤ 400 ∧ 0 ≤ (value m.Stop v).1 ∧ (value m.Stop v).1 ≤ 20000 * (value m.Stop v).2 := value_bd h.curve hv
theorem near_bd {m : Member} (h : GoodM m) {v : Int} (hv : 0 ≤ v) : 0 ≤ nearM m v ∧ nearM m v ≤ 20000 := by
 obtain ⟨h1, h2, h3, h4⟩ := val_bd h hv
 have h5 := h.short
 have h6 : 0 ≤ (value m.Stop v).1 / (value m.Stop v).2 := Int.ediv_nonneg h3 (by omega)
 unfold nearM
 omega
theorem ceil_bd {m : Member} (h : GoodM m) {v : Int} (hv : 0 ≤ v) : (value m.Stop v).1 / (value m.Stop v).2 ≤ ceilV m.Stop v ∧ 0 ≤ ceilV m.Stop v ∧ ceilV m.Stop v ≤ 20000 := by
 obtain ⟨h1, h2, h3, h4⟩ := val_bd h hv
 unfold ceilV
 have a : (value m.Stop v).1 / (value m.Stop v).2 ≤ ((value m.Stop v).1 + (value m.Stop v).2 - 1) / (value m.Stop v).2 := Int.ediv_le_ediv (by omega) (by omega)
 have b : 0 ≤ (value m.Stop v).1 / (value m.Stop v).2 := Int.ediv_nonneg h3 (by omega)
 have c : ((value m.Stop v).1 + (value m.Stop v).2 - 1) / (value m.Stop v).2 < 20001 := by
  refine Int.ediv_lt_of_lt_mul (by omega) ?_
  have : 20001 * (value m.Stop v).2 = 20000 * (value m.Stop v).2 + (value m.Stop v).2 := by omega
  omega
 omega
theorem delay_bd {v d : Int} (hv : 0 ≤ v ∧ v ≤ 250) (hd : 0 ≤ d ∧ d ≤ 600) : 0 ≤ 463 * v * d ∧ 463 * v * d ≤ 69450000 ∧ 0 ≤ (463 * v * d + 8999) / 9000 ∧ (463 * v * d + 8999) / 9000 ≤ 7717 := by
 have h1 := mul_nn (x := 463 * v) (y := d) (a := 0) (A := 115750) (b := 0) (B := 600) (by omega) (by omega) (by decide) (by decide)
 omega
theorem far_bd {m : Member} (h : GoodM m) {v : Int} (hv : 0 ≤ v ∧ v ≤ 250) : 0 ≤ farM m v ∧ farM m v ≤ 27717 := by
 have h1 := ceil_bd h hv.1
 have h2 := delay_bd hv h.delay
 unfold farM
 omega
def gapM (clear v : Int) (p m : Member) : Int := clear + max 0 (farM m v - nearM p v)
def gapsL (clear v : Int) : Member → List Member → List Int
 | _, [] => []
 | p, m :: r => gapM clear v p m :: gapsL clear v m r
def tailL (clear v : Int) : Member → List Member → Int
 | _, [] => 0
 | p, m :: r => gapM clear v p m + m.Length + tailL clear v m r
abbrev GoodL (l : List Member) : Prop := ∀ m ∈ l, GoodM m
theorem gap_bd {clear v : Int} {p m : Member} (hp : GoodM p) (hm : GoodM m) (hc : 0 ≤ clear ∧ clear ≤ 2000) (hv : 0 ≤ v ∧ v ≤ 250) : clear ≤ gapM clear v p m ∧ gapM clear v p m ≤ 30000 := by
 have h1 := far_bd hm hv
 have h2 := near_bd hp hv.1
 unfold gapM
 omega
theorem gapsL_len {clear v : Int} : ∀ {p : Member} {l : List Member}, (gapsL clear v p l).length = l.length
 | _, [] => rfl
 | _, _ :: r => by simp [gapsL, gapsL_len (l := r)]
def mostFrom (cell : Cell) : Bool → List Member → Int → Int
 | _, [], out => out
 | ch, m :: r, out => if (safe m.Ship cell ch).2 ≠ 0 then 0 else mostFrom cell true r (min out (safe m.Ship cell ch).1)
def mostC (c : Convoy) (cell : Cell) : Int := mostFrom cell false (c.Breaker :: c.Ships) 250
def okM (cell : Cell) (v : Int) : Bool → List Member → Prop
 | _, [] => True
 | ch, m :: r => (safe m.Ship cell ch).2 = 0 ∧ v ≤ (safe m.Ship cell ch).1 ∧ okM cell v true r
theorem most_iff {cell : Cell} {v : Int} (hv : 1 ≤ v) : ∀ {ch : Bool} {l : List Member} {out : Int}, v ≤ mostFrom cell ch l out ↔ v ≤ out ∧ okM cell v ch l
 | _, [], _ => by simp [mostFrom, okM]
 | ch, m :: r, out => by
  unfold mostFrom okM
  by_cases h : (safe m.Ship cell ch).2 = 0
  ·rw [if_neg (by simp [h]), most_iff hv (l := r)]
   constructor
   ·rintro ⟨a, b⟩; exact ⟨by omega, h, by omega, b⟩
   ·rintro ⟨a, _, b, c⟩; exact ⟨by omega, c⟩
  ·rw [if_pos h]
   constructor
   ·intro h'; omega
   ·rintro ⟨_, h', _⟩; exact absurd h' h
theorem okM_iff {cell : Cell} {v : Int} : ∀ {l : List Member}, okM cell v true l ↔ ∀ m ∈ l, (safe m.Ship cell true).2 = 0 ∧ v ≤ (safe m.Ship cell true).1
 | [] => by simp [okM]
 | m :: r => by
  simp only [okM, okM_iff (l := r), List.mem_cons, forall_eq_or_imp]
  exact ⟨fun ⟨a, b, c⟩ => ⟨⟨a, b⟩, c⟩, fun ⟨⟨a, b⟩, c⟩ => ⟨a, b, c⟩⟩
theorem most_bd {cell : Cell} (hg : goodCell cell) : ∀ {ch : Bool} {l : List Member} {out : Int}, GoodL l → 0 ≤ out → 0 ≤ mostFrom cell ch l out ∧ mostFrom cell ch l out ≤ out
 | _, [], _, _, h => ⟨h, Int.le_refl _⟩
 | ch, m :: r, out, hl, h => by
  unfold mostFrom
  by_cases h1 : (safe m.Ship cell ch).2 = 0
  ·rw [if_neg (by simp [h1])]
   have h2 := safe_goes (hl m (by simp)).ship hg h1
   have h3 := most_bd hg (ch := true) (l := r) (out := min out (safe m.Ship cell ch).1) (fun x hx => hl x (by simp [hx])) (by omega)
   omega
  ·rw [if_pos h1]; omega
def closeOK (a : Numbers) : Bool := within a.a0 0 1440 && within a.a1 0 a.a0 && within a.a2 0 a.a1 && within a.a3 0 a.a2
def closeAt (a : Numbers) (p : Int) : Int := if p = 0 then a.a0 else if p = 1 then a.a1 else if p = 2 then a.a2 else a.a3
def memsErr : List Member → Int
 | [] => 0
 | m :: r => if memErr m ≠ 0 then memErr m else memsErr r
def conErr (c : Convoy) : Int := if c.Ships.length > 6 then 2 else if memsErr (c.Breaker :: c.Ships) ≠ 0 then memsErr (c.Breaker :: c.Ships) else if (within c.Clear 0 2000 && closeOK c.Close) = true then 0 else 61
structure GoodC (c : Convoy) : Prop where
 len : c.Ships.length ≤ 6
 br : GoodM c.Breaker
 ships : GoodL c.Ships
 clear : 0 ≤ c.Clear ∧ c.Clear ≤ 2000
 close : closeOK c.Close = true
theorem memsErr_ok : ∀ {l : List Member}, memsErr l = 0 ↔ GoodL l
 | [] => ⟨fun _ m hm => (nomatch hm), fun _ => rfl⟩
 | m :: r => by
  unfold memsErr
  by_cases h : memErr m = 0
  ·rw [if_neg (by simp [h]), memsErr_ok (l := r)]
   simp only [GoodL, List.mem_cons, forall_eq_or_imp]
   exact ⟨fun h2 => ⟨memErr_ok.1 h, h2⟩, fun h2 => h2.2⟩
  ·rw [if_pos h]
   exact ⟨fun e => absurd e h, fun g => absurd (memErr_ok.2 (g m (by simp))) h⟩
theorem conErr_ok {c : Convoy} : conErr c = 0 ↔ GoodC c := by
 unfold conErr
 by_cases h1 : c.Ships.length > 6
 ·rw [if_pos h1]
  exact ⟨fun h => by simp at h, fun g => absurd g.len (by omega)⟩
 rw [if_neg h1]
 by_cases h2 : memsErr (c.Breaker :: c.Ships) = 0
 ·rw [if_neg (by simp [h2])]
  have g2 := memsErr_ok.1 h2
  by_cases h3 : (within c.Clear 0 2000 && closeOK c.Close) = true
  ·rw [if_pos h3]
   refine ⟨fun _ => ?_, fun _ => rfl⟩
   simp only [Bool.and_eq_true] at h3
   exact ⟨by omega, g2 _ (by simp), fun m hm => g2 m (by simp [hm]), within_t h3.1, h3.2⟩
  ·rw [if_neg h3]
   refine ⟨fun h => by simp at h, fun g => absurd ?_ h3⟩
   have := g.clear
   simp only [Bool.and_eq_true, within, decide_eq_true_eq]
   exact ⟨by omega, g.close⟩
 ·rw [if_pos h2]
  refine ⟨fun e => absurd e h2, fun g => absurd (memsErr_ok.2 ?_) h2⟩
  simp only [GoodL, List.mem_cons, forall_eq_or_imp]
  exact ⟨g.br, g.ships⟩
theorem GoodC.all {c : Convoy} (h : GoodC c) : GoodL (c.Breaker :: c.Ships) := by
 simp only [GoodL, List.mem_cons, forall_eq_or_imp]
 exact ⟨h.br, h.ships⟩
theorem GoodC.closes {c : Convoy} (h : GoodC c) : 0 ≤ c.Close.a3 ∧ c.Close.a3 ≤ c.Close.a2 ∧ c.Close.a2 ≤ c.Close.a1 ∧ c.Close.a1 ≤ c.Close.a0 ∧ c.Close.a0 ≤ 1440 := by
 have h1 := h.close
 simp only [closeOK, within, Bool.and_eq_true, decide_eq_true_eq] at h1
 omega
theorem close_bd {c : Convoy} (h : GoodC c) {p : Int} : 0 ≤ closeAt c.Close p ∧ closeAt c.Close p ≤ 1440 := by
 have h1 := h.closes
 unfold closeAt
 split
 ·omega
 ·split
  ·omega
  ·split <;> omega
def openW (c : Convoy) (v press : Int) : Int := 463 * v * (60 * closeAt c.Close press) / 9000
def fitsC (c : Convoy) (v press : Int) : Prop := tailL c.Clear v c.Breaker c.Ships ≤ openW c v press
instance (c : Convoy) (v press : Int) : Decidable (fitsC c v press) := inferInstanceAs (Decidable (_ ≤ _))
theorem way_bd {v s : Int} (hv : 0 ≤ v ∧ v ≤ 250) (hs : 0 ≤ s ∧ s ≤ 100000) : 0 ≤ 463 * v * s ∧ 463 * v * s ≤ 11575000000 :=
 mul_nn (x := 463 * v) (y := s) (a := 0) (A := 115750) (b := 0) (B := 100000) (by omega) (by omega) (by decide) (by decide)
def HoldsC (c : Convoy) (cell : Cell) (v : Int) : Prop := 10 ≤ v ∧ v ≤ mostC c cell ∧ fitsC c v cell.Press.Hi
instance (c : Convoy) (cell : Cell) (v : Int) : Decidable (HoldsC c cell v) := inferInstanceAs (Decidable (_ ∧ _ ∧ _))
theorem holds_iff {c : Convoy} {cell : Cell} {v : Int} : HoldsC c cell v ↔ 10 ≤ v ∧ v ≤ 250 ∧ okM cell v false (c.Breaker :: c.Ships) ∧ fitsC c v cell.Press.Hi := by
 unfold HoldsC mostC
 constructor
 ·rintro ⟨a, b, d⟩
  have := (most_iff (by omega)).1 b
  exact ⟨a, this.1, this.2, d⟩
 ·rintro ⟨a, b, d, e⟩
  exact ⟨a, (most_iff (by omega)).2 ⟨b, d⟩, e⟩
theorem holds_bd {c : Convoy} {cell : Cell} {v : Int} (h : HoldsC c cell v) : 10 ≤ v ∧ v ≤ 250 := by
 have := holds_iff.1 h
 exact ⟨this.1, this.2.1⟩
def FastC (c : Convoy) (cell : Cell) (r : Int) : Prop := (r = 0 ∧ ∀ u, ¬ HoldsC c cell u) ∨ (HoldsC c cell r ∧ ∀ u, r < u → ¬ HoldsC c cell u)
theorem FastC.one {c : Convoy} {cell : Cell} {r s : Int} (h : FastC c cell r) (h' : FastC c cell s) : r = s := by
 rcases h with ⟨h1, h2⟩ | ⟨h1, h2⟩ <;> rcases h' with ⟨h3, h4⟩ | ⟨h3, h4⟩
 ·omega
 ·exact absurd h3 (h2 s)
 ·exact absurd h1 (h4 r)
 ·by_cases a : r < s
  ·exact absurd h3 (h2 s a)
  ·by_cases b : s < r
   ·exact absurd h1 (h4 r b)
   ·omega
theorem FastC.bd {c : Convoy} {cell : Cell} {r : Int} (h : FastC c cell r) : 0 ≤ r ∧ r ≤ 250 := by
 rcases h with ⟨h1, _⟩ | ⟨h1, _⟩
 ·omega
 ·have := holds_bd h1; omega
theorem FastC.pos {c : Convoy} {cell : Cell} {r : Int} (h : FastC c cell r) : r = 0 ∨ HoldsC c cell r := by
 rcases h with ⟨h1, _⟩ | ⟨h1, _⟩
 ·exact .inl h1
 ·exact .inr h1
theorem FastC.mono {c d : Convoy} {x y : Cell} {r s : Int} (h : ∀ u, HoldsC c x u → HoldsC d y u) (hr : FastC c x r) (hs : FastC d y s) : r ≤ s := by
 rcases hr with ⟨h1, _⟩ | ⟨h1, _⟩
 ·have := hs.bd; omega
 ·rcases hs with ⟨_, h4⟩ | ⟨_, h4⟩
  ·exact absurd (h r h1) (h4 r)
  ·by_cases a : s < r
   ·exact absurd (h r h1) (h4 r a)
   ·omega
section
variable {α β : Type} {post : α → Prop}
theorem ok_bbrk {c : Bool} {x y : Option β} {f : β → Option α} (ht : c = true → Ok post (bnd x f)) (hf : c = false → Ok post (bnd y f)) : Ok post (bnd (brk c x y) f) := by
 cases c with
 | true => exact ht rfl
 | false => exact hf rfl
theorem ok_band {b y : Bool} {x : Option Bool} {f : Bool → Option α} (hx : b = true → x = some y) (h : Ok post (f (b && y))) : Ok post (bnd (brk b x (some false)) f) := by
 cases b with
 | false => exact h
 | true => rw [hx rfl]; exact h
end
theorem within_eq (F : Nat) (n a b : Int) : hull_within F n a b = some (within n a b) := rfl
theorem cwithin_eq (F : Nat) (n a b : Int) : convoy_within F n a b = some (within n a b) := rfl
theorem curve_eq {F : Nat} {l : List Pt} (hn : l.length ≤ 1000000) (hF : l.length < F) : hull_curve F l = some (curve l) := by
 refine Ok.eq ?_
 unfold hull_curve
 refine ok_bnde (within_eq ..) ?_
 have hlen : within (l.length : Int) 2 8 = true → 2 ≤ l.length := fun h => by simp only [within, Bool.and_eq_true, decide_eq_true_eq] at h; omega
 refine ok_chk (fun h => ?_) ?_
 ·have : within (l.length : Int) 2 8 = true := by simpa using h
  have := hlen this
  exact ⟨by decide, by omega⟩
 refine ok_brk (fun h => ok_some (curve_no1 h).symm) (fun h => ?_)
 simp only [Bool.or_eq_false_iff, Bool.not_eq_false', bne_eq_false_iff_eq] at h
 refine ok_loop (fun q : Int => 0 ≤ q ∧ q ≤ l.length ∧ ∀ j : Nat, (j : Int) < q → curveAt l (j : Int) = true) (fun q => (l.length - q).toNat) ⟨by omega, by omega, fun j h => by omega⟩ (by omega) fun q next hI hn' => ?_
 obtain ⟨h0, h1, h2⟩ := hI
 refine ok_brk (fun hc => ?_) (fun hc => ok_some (curve_yes h.1 h.2 (k := l.length) (fun j hj => h2 j (by have := of_decide_eq_false hc; omega)) (Nat.le_refl _)).symm)
 have hc := of_decide_eq_true hc
 refine ok_chk ⟨h0, hc⟩ (ok_bnde (within_eq ..) (ok_band (fun _ => within_eq ..) ?_))
 have hg : (decide (q > 0)) = true → InR (q - 1) ∧ (0 ≤ q - 1 ∧ q - 1 < (l.length : Int)) := fun h => by have := of_decide_eq_true h; exact ⟨⟨by omega, by omega⟩, by omega, by omega⟩
 refine ok_chk (fun h => (hg (by simp only [Bool.and_eq_true] at h; exact h.2)).1) (ok_chk (fun h => (hg (by simp only [Bool.and_eq_true] at h; exact h.2)).2) ?_)
 have hcond : (!within (pt l q).X 0 400 || !(!!within (pt l q).X 0 400 && within (pt l q).Y 0 20000) || decide (q > 0) && decide ((pt l q).X ≤ (pt l (q - 1)).X)) = !curveAt l q := by
  unfold curveAt
  cases within (pt l q).X 0 400 <;> cases within (pt l q).Y 0 20000 <;> simp
 refine ok_brk (fun h => ok_some ?_) (fun h => ok_chk ⟨by omega, by omega⟩ (hn' _ ⟨by omega, by omega, fun j hj => ?_⟩ (by omega)))
 ·have h : (!curveAt l q) = true := hcond ▸ h
  exact (curve_no2 (k := q.toNat) (by omega) (by rw [Int.toNat_of_nonneg h0]; simpa using h)).symm
 ·have h : (!curveAt l q) = false := hcond ▸ h
  by_cases e : (j : Int) = q
  ·rw [e]; simpa using h
  ·exact h2 j (by omega)
theorem steady_eq {F : Nat} {l : List Pt} (hn : l.length ≤ 1000000) (hF : l.length < F) {w : Int} (hw : w = 1 ∨ w = -1) : hull_steady F l w = some (steady l w) := by
 refine Ok.eq ?_
 unfold hull_steady
 refine ok_bnde (curve_eq hn hF) ?_
 refine ok_brk (fun h => ok_some ?_) (fun h => ?_)
 ·have h : curve l = false := by simpa using h
  simp [steady, h]
 have hc : curve l = true := by simpa using h
 have hb := curve_bd hc
 refine ok_loop (fun q : Int => 1 ≤ q ∧ q ≤ l.length ∧ ∀ j : Nat, 1 ≤ j → (j : Int) < q → steadyAt l w (j : Int) = true) (fun q => (l.length - q).toNat) ⟨by omega, by have := (curve_lt hc).2; omega, fun j h1 h2 => by omega⟩ (by omega) fun q next hI hn' => ?_
 obtain ⟨h0, h1, h2⟩ := hI
 refine ok_brk (fun hq => ?_) (fun hq => ok_some (steady_yes hc (k := l.length) (fun j hj h3 => h2 j h3 (by have := of_decide_eq_false hq; omega)) (Nat.le_refl _)).symm)
 have hq := of_decide_eq_true hq
 have b1 := hb q (by omega) hq
 have b2 := hb (q - 1) (by omega) (by omega)
 have hp : InR ((pt l q).Y - (pt l (q - 1)).Y) ∧ InR (((pt l q).Y - (pt l (q - 1)).Y) * w) := by rcases hw with rfl | rfl <;> constructor <;> constructor <;> omega
 refine ok_chk ⟨by omega, hq⟩ (ok_chk ⟨by omega, by omega⟩ (ok_chk ⟨by omega, by omega⟩ (ok_chk hp.1 (ok_chk hp.2 ?_))))
 have hs : steadyAt l w q = !decide (((pt l q).Y - (pt l (q - 1)).Y) * w < 0) := rfl
 refine ok_brk (fun h => ok_some ?_) (fun h => ok_chk ⟨by omega, by omega⟩ (hn' _ ⟨by omega, by omega, fun j h3 hj => ?_⟩ (by omega)))
 ·have h : decide (((pt l q).Y - (pt l (q - 1)).Y) * w < 0) = true := h
  exact (steady_no (k := q.toNat) (by omega) (by omega) (by rw [Int.toNat_of_nonneg (by omega), hs, h]; rfl)).symm
 ·have h : decide (((pt l q).Y - (pt l (q - 1)).Y) * w < 0) = false := h
  by_cases e : (j : Int) = q
  ·rw [e, hs, h]; rfl
  ·exact h2 j h3 (by omega)
theorem end_eq {F : Nat} {l : List Pt} (h1 : 1 ≤ l.length) (hn : l.length ≤ 1000000) : hull_end F l = some (endX l) := by
 refine Ok.eq ?_
 unfold hull_end
 exact ok_chk ⟨by omega, by omega⟩ (ok_chk ⟨by omega, by omega⟩ (ok_some rfl))
theorem top_eq {F : Nat} {l : List Pt} (h1 : 1 ≤ l.length) (hn : l.length ≤ 1000000) : convoy_top F l = some (endX l) := by
 refine Ok.eq ?_
 unfold convoy_top
 exact ok_chk ⟨by omega, by omega⟩ (ok_chk ⟨by omega, by omega⟩ (ok_some rfl))
theorem val_prod {a b x y : Int} (hx : -400 ≤ x ∧ x ≤ 400) (hy : -1000 ≤ y ∧ y ≤ 1000) (ha : 0 ≤ a ∧ a ≤ 20000) (hb : -20000 ≤ b ∧ b ≤ 20000) : (-8000000 ≤ a * x ∧ a * x ≤ 8000000) ∧ -20000000 ≤ b * y ∧ b * y ≤ 20000000 := by
 have h1 := mul_bd (x := a) (y := x) (A := 20000) (B := 400) (by omega) (by omega)
 have h2 := mul_bd (x := b) (y := y) (A := 20000) (B := 1000) (by omega) (by omega)
 omega
theorem value_eq {F : Nat} (hF : 100 ≤ F) {l : List Pt} (hc : curve l = true) {x : Int} (hx : 0 ≤ x ∧ x ≤ 1000) : hull_value F l x = some (value l x) := by
 refine Ok.eq ?_
 unfold hull_value
 have hb := curve_bd hc
 have hlen := (curve_lt hc).2
 refine ok_loop (fun q : Int => 1 ≤ q ∧ q ≤ l.length ∧ value l x = valFrom l x (l.length - q.toNat) q.toNat) (fun q => (l.length - q).toNat) ⟨by omega, by omega, rfl⟩ (by omega) fun q next hI hn' => ?_
 obtain ⟨h0, h1, h2⟩ := hI
 refine ok_brk (fun hq => ?_) (fun hq => ?_)
 ·have hq := of_decide_eq_true hq
  have b1 := hb q (by omega) hq
  have b2 := hb (q - 1) (by omega) (by omega)
  obtain ⟨p1, p2⟩ := val_prod (a := (pt l (q - 1)).Y) (x := (pt l q).X - (pt l (q - 1)).X) (b := (pt l q).Y - (pt l (q - 1)).Y) (y := x - (pt l (q - 1)).X) (by omega) (by omega) (by omega) (by omega)
  have e : l.length - q.toNat = (l.length - (q + 1).toNat) + 1 := by omega
  have e2 : ((q.toNat : Nat) : Int) = q := Int.toNat_of_nonneg (by omega)
  have e3 : q.toNat + 1 = (q + 1).toNat := by omega
  rw [e, valFrom, e2, e3] at h2
  refine ok_chk ⟨by omega, by omega⟩ (ok_chk ⟨by omega, by omega⟩ (ok_chk ⟨by omega, hq⟩ (ok_brk (fun h => ?_) (fun h => ?_))))
  ·have h : x ≤ (pt l q).X := of_decide_eq_true h
   rw [if_pos h] at h2
   refine ok_chk (show InR ((pt l q).X - (pt l (q - 1)).X) from ⟨by omega, by omega⟩) (ok_chk (show InR ((pt l (q - 1)).Y * ((pt l q).X - (pt l (q - 1)).X)) from ⟨by omega, by omega⟩) (ok_chk (show InR ((pt l q).Y - (pt l (q - 1)).Y) from ⟨by omega, by omega⟩) (ok_chk (show InR (x - (pt l (q - 1)).X) from ⟨by omega, by omega⟩)
    (ok_chk (show InR (((pt l q).Y - (pt l (q - 1)).Y) * (x - (pt l (q - 1)).X)) from ⟨by omega, by omega⟩) (ok_chk (show InR ((pt l (q - 1)).Y * ((pt l q).X - (pt l (q - 1)).X) + ((pt l q).Y - (pt l (q - 1)).Y) * (x - (pt l (q - 1)).X)) from ⟨by omega, by omega⟩) (ok_chk (show InR ((pt l q).X - (pt l (q - 1)).X) from ⟨by omega, by omega⟩) (ok_some h2.symm)))))))
  ·have h : ¬ x ≤ (pt l q).X := of_decide_eq_false h
   rw [if_neg h] at h2
   exact ok_chk ⟨by omega, by omega⟩ (hn' _ ⟨by omega, by omega, h2⟩ (by omega))
 ·have hq := of_decide_eq_false hq
  have e : l.length - q.toNat = 0 := by omega
  rw [e, valFrom] at h2
  exact ok_chk ⟨by omega, by omega⟩ (ok_chk ⟨by omega, by omega⟩ (ok_some h2.symm))
theorem lowest_eq {F : Nat} {n d : Int} (hn : 0 ≤ n ∧ n ≤ 9223372036854775807) (hd : 1 ≤ d ∧ d ≤ 400) (hF : 1000 ≤ F) : hull_lowest F n d = some ⟨(lowest n d).1, (lowest n d).2⟩ := by
 refine Ok.eq ?_
 unfold hull_lowest
 have hg : 0 < (Int.gcd n d : Int) := by have := Int.gcd_pos_of_ne_zero_right n (b := d) (by omega); omega
 refine ok_loop (fun q : Int × Int => 0 ≤ q.1 ∧ q.1 ≤ 400 ∧ 0 ≤ q.2 ∧ q.2 ≤ 9223372036854775807 ∧ Int.gcd q.2 q.1 = Int.gcd n d) (fun q => q.1.toNat) ⟨by omega, by omega, by omega, by omega, rfl⟩ (by show d.toNat < F; omega) fun q next hI hn' => ?_
 obtain ⟨a, b⟩ := q
 obtain ⟨h0, h1, h2, h3, h4⟩ := hI
 simp only at h0 h1 h2 h3 h4
 refine ok_brk (fun h => ?_) (fun h => ?_)
 ·have h : a ≠ 0 := by simpa using h
  have e1 := Int.emod_nonneg b (by omega : a ≠ 0)
  have e2 := Int.emod_lt_of_pos b (by omega : 0 < a)
  exact ok_chk ⟨⟨by omega, by omega⟩, by omega⟩ (hn' (b % a, a) ⟨e1, by show b % a ≤ 400; omega, h0, by show a ≤ _; omega, by show Int.gcd a (b % a) = _; rw [gcd_step h2 h0]; exact h4⟩ (by show (b % a).toNat < a.toNat; omega))
 ·have h : a = 0 := by simpa using h
  subst h
  have hb : b = (Int.gcd n d : Int) := by
   rw [← h4, Int.gcd_zero_right]
   omega
  have hb0 : 0 < b := by omega
  refine ok_chk ⟨⟨by omega, by omega⟩, hb0⟩ (ok_chk ⟨⟨by omega, by omega⟩, hb0⟩ (ok_some ?_))
  show (Ratio.mk (n / b) (d / b)) = _
  rw [hb]; rfl
theorem at_eq {F : Nat} (hF : 1000 ≤ F) {l : List Pt} (hn : l.length ≤ 900) (x : Int) : hull_At F l x = some (⟨(at_ l x).1.1, (at_ l x).1.2⟩, (at_ l x).2) := by
 refine Ok.eq ?_
 unfold hull_At
 refine ok_bnde (curve_eq (by omega) (by omega)) ?_
 unfold at_
 refine ok_brk (fun h => ok_some ?_) (fun h => ok_bnde (within_eq ..) (ok_brk (fun h2 => ok_some ?_) (fun h2 => ?_)))
 ·have h : curve l = false := by simpa using h
  rw [if_pos h]
 ·have h : curve l = true := by simpa using h
  have h2 : within x 0 1000 = false := by simpa using h2
  rw [if_neg (by simp [h]), if_pos h2]
 ·have h : curve l = true := by simpa using h
  have h2 : within x 0 1000 = true := by simpa using h2
  have hx := within_t h2
  obtain ⟨v1, v2, v3, v4⟩ := value_bd h hx.1
  rw [if_neg (by simp [h]), if_neg (by simp [h2])]
  exact ok_bnde (value_eq (by omega) h hx) (ok_bnde (lowest_eq ⟨v3, by omega⟩ ⟨v1, v2⟩ hF) (ok_some rfl))
theorem check_eq {F : Nat} (hF : 1000 ≤ F) {s : Ship} (h1 : s.Thrust.length ≤ 900) (h2 : s.Water.length ≤ 900) (h3 : s.Ice.length ≤ 900) : hull_Check F s = some (check s) := by
 have r1 : hull_rules_1 F s = some (rule1 s) := rfl
 have r2 : hull_rules_2 F s = some (rule2 s) := by
  refine Ok.eq ?_
  unfold hull_rules_2 rule2
  refine ok_bnde (within_eq ..) (ok_band (fun _ => within_eq ..) (ok_band (fun _ => within_eq ..) (ok_some ?_)))
  cases within s.Power 100 100000 <;> cases within s.Draught 10 2000 <;> simp
 have r3 : hull_rules_3 F s = some (rule3 s) := by
  refine Ok.eq ?_
  unfold hull_rules_3 rule3
  refine ok_bnde (within_eq ..) (ok_band (fun _ => within_eq ..) (ok_band (fun _ => within_eq ..) (ok_band (fun _ => within_eq ..) (ok_some ?_))))
  cases within s.Slow 0 20 <;> cases within s.Brash 0 100 <;> cases within s.Ridge 0 500 <;> simp
 have r4 : hull_rules_4 F s = some (rule4 s) := by
  refine Ok.eq ?_
  unfold hull_rules_4 rule4
  refine ok_bnde (steady_eq (by omega) (by omega) (.inr rfl)) (ok_bbrk (fun h => ?_) (fun h => ?_))
  ·have := (steady_len h).1
   rw [h]
   exact ok_bnde (end_eq (by omega) (by omega)) (ok_bnde (within_eq F ..) (ok_some rfl))
  ·rw [h]; exact ok_some rfl
 have r5 : hull_rules_5 F s = some (rule5 s) := by
  refine Ok.eq ?_
  unfold hull_rules_5 rule5
  refine ok_bnde (steady_eq (by omega) (by omega) (.inl rfl)) (ok_bbrk (fun h => ?_) (fun h => ?_))
  ·have := (steady_len h).1
   rw [h]
   exact ok_bnde (end_eq (by omega) (by omega)) (ok_some rfl)
  ·rw [h]; exact ok_some rfl
 have r6 : hull_rules_6 F s = some (rule6 s) := by
  refine Ok.eq ?_
  unfold hull_rules_6 rule6
  refine ok_bnde (steady_eq (by omega) (by omega) (.inl rfl)) (ok_chk (fun h => ⟨by decide, ?_⟩) (ok_bbrk (fun h => ?_) (fun h => ?_)))
  ·have := (steady_len h).1; omega
  ·have h' : steady s.Ice 1 = true ∧ ((pt s.Ice 0).Y == 0) = true := by
    have h : (steady s.Ice 1 && ((pt s.Ice 0).Y == 0)) = true := h
    simpa only [Bool.and_eq_true] using h
   have := (steady_len h'.1).1
   exact ok_bnde (end_eq (by omega) (by omega)) (ok_some rfl)
  ·refine ok_bnde rfl (ok_some ?_)
   have h : (steady s.Ice 1 && ((pt s.Ice 0).Y == 0)) = false := h
   show (steady s.Ice 1 && ((pt s.Ice 0).Y == 0) && _) = (steady s.Ice 1 && ((pt s.Ice 0).Y == 0) && _)
   rw [h]; rfl
 refine Ok.eq ?_
 unfold hull_Check check
 refine ok_bnde r1 (ok_brk (fun h => ok_some ?_) (fun h => ok_bnde r2 (ok_brk (fun h' => ok_some ?_) (fun h' => ok_bnde r3 (ok_brk (fun h2' => ok_some ?_) (fun h2' => ok_bnde r4 (ok_brk (fun h3' => ok_some ?_) (fun h3' => ok_bnde r5 (ok_brk (fun h4 => ok_some ?_) (fun h4 => ok_bnde r6 (ok_brk (fun h5 => ok_some ?_) (fun h5 => ok_some ?_))))))))))))
 all_goals (simp only [Bool.not_eq_true', Bool.not_eq_false'] at *; simp_all)
theorem thrust_eq {F : Nat} (hF : 1000 ≤ F) {s : Ship} (hc : check s = 0) {v : Int} (hv : 0 ≤ v ∧ v ≤ 1000) : hull_Ship_thrust F s v = some (thrust s v) := by
 refine Ok.eq ?_
 unfold hull_Ship_thrust
 obtain ⟨v1, v2, v3, v4⟩ := value_bd (check_curveThrust hc) hv.1
 exact ok_bnde (value_eq (by omega) (check_curveThrust hc) hv) (ok_chk ⟨⟨v3, by omega⟩, by omega⟩ (ok_some rfl))
theorem load_bd {i : Ice} (hi : goodIce i) {v : Int} (hv : 0 ≤ v ∧ v ≤ 250) : 0 ≤ i.Thick * (100 + v) ∧ i.Thick * (100 + v) ≤ 140000 := by
 obtain ⟨_, h, _⟩ := goodIce_bd hi
 exact mul_nn (x := i.Thick) (y := 100 + v) (a := 0) (A := 400) (b := 0) (B := 350) (by omega) (by omega) (by decide) (by decide)
theorem load_eq {F : Nat} (hF : 1000 ≤ F) {i : Ice} (hi : goodIce i) {v : Int} (hv : 0 ≤ v ∧ v ≤ 250) (ch : Bool) : hull_load F i v ch = some (loadI i v ch) := by
 refine Ok.eq ?_
 unfold hull_load
 obtain ⟨h1, h2, h3, h4⟩ := goodIce_bd hi
 have hb := load_bd hi hv
 have hz : i.Conc = 0 → loadI i v ch = 0 := fun e => by unfold loadI; rw [if_pos e]
 refine ok_chk ⟨by omega, by omega⟩ (ok_chk (show InR (i.Thick * (100 + v)) from ⟨by omega, by omega⟩) (ok_join (by omega) (fun x : Int × Int => x = (if ch = true then 0 else i.Ridge, if ch = true then (i.Thick * (100 + v) + 1) / 2 else i.Thick * (100 + v))) (fun x hx => ?_) fun k hk => ?_))
 ·subst hx
  refine ok_brk (fun h => ok_some ?_) (fun h => ?_)
  ·exact (hz (by simpa using h)).symm
  ·have hne : ¬ i.Conc = 0 := by simpa using h
   have hl : loadI i v ch = (if ch = true then (i.Thick * (100 + v) + 1) / 2 else i.Thick * (100 + v)) + 300 * (if ch = true then 0 else i.Ridge) + 2000 * i.Press := by unfold loadI; rw [if_neg hne]
   rw [hl]
   have a1 : 0 ≤ (if ch = true then 0 else i.Ridge) ∧ (if ch = true then 0 else i.Ridge) ≤ 100 := by split <;> omega
   have a2 : 0 ≤ (if ch = true then (i.Thick * (100 + v) + 1) / 2 else i.Thick * (100 + v)) ∧ (if ch = true then (i.Thick * (100 + v) + 1) / 2 else i.Thick * (100 + v)) ≤ 140001 := by split <;> omega
   dsimp only
   generalize (if ch = true then 0 else i.Ridge) = rd at *
   generalize (if ch = true then (i.Thick * (100 + v) + 1) / 2 else i.Thick * (100 + v)) = lv at *
   exact ok_chk ⟨by omega, by omega⟩ (ok_chk ⟨by omega, by omega⟩ (ok_chk ⟨by omega, by omega⟩ (ok_chk ⟨by omega, by omega⟩ (ok_some rfl))))
 ·refine ok_brk (fun h => ?_) (fun h => ?_)
  ·exact ok_chk ⟨by omega, by omega⟩ (ok_chk ⟨by omega, by omega⟩ (hk _ (by rw [h]; rfl)))
  ·exact hk _ (by rw [h]; rfl)
noncomputable def resM {α : Type} (F : Nat) (s : Ship) (i : Ice) (v : Int) (ch : Bool) (K : Int → Option α) : Option α :=
 bnd (hull_value F s.Water v) (fun (w : (Int) × (Int)) => bnd (hull_value F s.Ice i.Thick) (fun (n : (Int) × (Int)) => join (F) (fun (y : (Int) × (Int)) => chk (InR (s.Slow * v)) (chk (InR ((1000 : Int) + s.Slow * v)) (chk (InR (n.fst * ((1000 : Int) + s.Slow * v))) (chk (InR (n.fst * ((1000 : Int) + s.Slow * v) * y.snd)) (chk (InR (s.Ridge * y.fst)) (chk (InR (s.Ridge * y.fst * n.snd)) (chk (InR (s.Ridge * y.fst * n.snd * (100000 : Int))) (chk (InR (n.fst * ((1000 : Int) + s.Slow * v) * y.snd + s.Ridge * y.fst * n.snd * (100000 : Int))) (chk (InR (i.Conc * (n.fst * ((1000 : Int) + s.Slow * v) * y.snd + s.Ridge * y.fst * n.snd * (100000 : Int)))) (chk (InR (n.snd * (10000000 : Int))) (chk (InR (w.fst * (n.snd * (10000000 : Int)))) (chk (InR (i.Conc * (n.fst * ((1000 : Int) + s.Slow * v) * y.snd + s.Ridge * y.fst * n.snd * (100000 : Int)) * w.snd)) (chk (InR (w.fst * (n.snd * (10000000 : Int)) + i.Conc * (n.fst * ((1000 : Int) + s.Slow * v) * y.snd + s.Ridge * y.fst * n.snd * (100000 : Int)) * w.snd)) (chk (InR (s.Press * i.Press)) (chk (InR (s.Press * i.Press * w.snd)) (chk (InR (s.Press * i.Press * w.snd * (n.snd * (10000000 : Int)))) (chk (InR (w.fst * (n.snd * (10000000 : Int)) + i.Conc * (n.fst * ((1000 : Int) + s.Slow * v) * y.snd + s.Ridge * y.fst * n.snd * (100000 : Int)) * w.snd + s.Press * i.Press * w.snd * (n.snd * (10000000 : Int)))) (chk (InR (w.snd * (n.snd * (10000000 : Int)))) (chk (InR (w.fst * (n.snd * (10000000 : Int)) + i.Conc * (n.fst * ((1000 : Int) + s.Slow * v) * y.snd + s.Ridge * y.fst * n.snd * (100000 : Int)) * w.snd + s.Press * i.Press * w.snd * (n.snd * (10000000 : Int)) + w.snd * (n.snd * (10000000 : Int)))) (chk (InR (w.fst * (n.snd * (10000000 : Int)) + i.Conc * (n.fst * ((1000 : Int) + s.Slow * v) * y.snd + s.Ridge * y.fst * n.snd * (100000 : Int)) * w.snd + s.Press * i.Press * w.snd * (n.snd * (10000000 : Int)) + w.snd * (n.snd * (10000000 : Int)) - (1 : Int))) (chk (InR (w.snd * (n.snd * (10000000 : Int)))) (chk (((0 : Int) ≤ w.fst * (n.snd * (10000000 : Int)) + i.Conc * (n.fst * ((1000 : Int) + s.Slow * v) * y.snd + s.Ridge * y.fst * n.snd * (100000 : Int)) * w.snd + s.Press * i.Press * w.snd * (n.snd * (10000000 : Int)) + w.snd * (n.snd * (10000000 : Int)) - (1 : Int) ∧ w.fst * (n.snd * (10000000 : Int)) + i.Conc * (n.fst * ((1000 : Int) + s.Slow * v) * y.snd + s.Ridge * y.fst * n.snd * (100000 : Int)) * w.snd + s.Press * i.Press * w.snd * (n.snd * (10000000 : Int)) + w.snd * (n.snd * (10000000 : Int)) - (1 : Int) ≤ (9223372036854775807 : Int)) ∧ (0 : Int) < w.snd * (n.snd * (10000000 : Int))) (K ((w.fst * (n.snd * (10000000 : Int)) + i.Conc * (n.fst * ((1000 : Int) + s.Slow * v) * y.snd + s.Ridge * y.fst * n.snd * (100000 : Int)) * w.snd + s.Press * i.Press * w.snd * (n.snd * (10000000 : Int)) + w.snd * (n.snd * (10000000 : Int)) - (1 : Int)) / (w.snd * (n.snd * (10000000 : Int))))))))))))))))))))))))))) (fun y => brk (ch) (y (((0 : Int), s.Brash))) (y ((i.Ridge, (100 : Int)))))))
theorem res_ok {α : Type} {post : α → Prop} {F : Nat} (hF : 1000 ≤ F) {s : Ship} (hc : check s = 0) {i : Ice} (hi : goodIce i) {v : Int} (hv : 0 ≤ v ∧ v ≤ 250) (ch : Bool) {K : Int → Option α} (h : Ok post (K (resistance s i ch v))) : Ok post (resM F s i v ch K) := by
 unfold resM
 obtain ⟨i1, i2, i3, i4⟩ := goodIce_bd hi
 obtain ⟨_, _, hsl, hbr, hri, hpr⟩ := check_bd hc
 have w1 := value_bd (check_curveWater hc) hv.1
 have n1 := value_bd (check_curveIce hc) i2.1
 have hres : resistance s i ch v = (((value s.Water v).1 * ((value s.Ice i.Thick).2 * 10000000) + i.Conc * ((value s.Ice i.Thick).1 * (1000 + s.Slow * v) * (if ch = true then s.Brash else 100) + s.Ridge * (if ch = true then 0 else i.Ridge) * (value s.Ice i.Thick).2 * 100000) * (value s.Water v).2 + s.Press * i.Press * (value s.Water v).2 * ((value s.Ice i.Thick).2 * 10000000))
   + (value s.Water v).2 * ((value s.Ice i.Thick).2 * 10000000) - 1) / ((value s.Water v).2 * ((value s.Ice i.Thick).2 * 10000000)) := rfl
 rw [hres] at h
 refine ok_bnde (value_eq (by omega) (check_curveWater hc) (by omega)) (ok_bnde (value_eq (by omega) (check_curveIce hc) (by omega)) ?_)
 have hsh : 0 ≤ (if ch = true then s.Brash else 100) ∧ (if ch = true then s.Brash else 100) ≤ 100 := by split <;> omega
 have hrd : 0 ≤ (if ch = true then 0 else i.Ridge) ∧ (if ch = true then 0 else i.Ridge) ≤ 100 := by split <;> omega
 refine ok_join (by omega) (fun y : Int × Int => y = (if ch = true then 0 else i.Ridge, if ch = true then s.Brash else 100)) (fun y hy => ?_) fun k hk => ok_brk (fun e => hk _ (by rw [e]; rfl)) (fun e => hk _ (by rw [e]; rfl))
 subst hy
 dsimp only
 clear hres
 generalize (if ch = true then s.Brash else 100) = sh at *
 generalize (if ch = true then 0 else i.Ridge) = rd at *
 obtain ⟨w1, w2, w3, w4⟩ := w1
 obtain ⟨n1, n2, n3, n4⟩ := n1
 have hw5 : (value s.Water v).1 ≤ 8000000 := by omega
 have hn5 : (value s.Ice i.Thick).1 ≤ 8000000 := by omega
 generalize (value s.Water v).1 = wn at *
 generalize (value s.Water v).2 = wd at *
 generalize (value s.Ice i.Thick).1 = ln at *
 generalize (value s.Ice i.Thick).2 = ld at *
 have m1 := mul_nn (x := s.Slow) (y := v) (a := 0) (A := 20) (b := 0) (B := 250) (by omega) (by omega) (by decide) (by decide)
 have m2 := mul_nn (x := ln) (y := 1000 + s.Slow * v) (a := 0) (A := 8000000) (b := 0) (B := 6000) (by omega) (by omega) (by decide) (by decide)
 have m3 := mul_nn (x := ln * (1000 + s.Slow * v)) (y := sh) (a := 0) (A := 48000000000) (b := 0) (B := 100) (by omega) (by omega) (by decide) (by decide)
 have m4 := mul_nn (x := s.Ridge) (y := rd) (a := 0) (A := 500) (b := 0) (B := 100) (by omega) (by omega) (by decide) (by decide)
 have m5 := mul_nn (x := s.Ridge * rd) (y := ld) (a := 0) (A := 50000) (b := 0) (B := 400) (by omega) (by omega) (by decide) (by decide)
 have m6 := mul_nn (x := i.Conc) (y := ln * (1000 + s.Slow * v) * sh + s.Ridge * rd * ld * 100000) (a := 0) (A := 100) (b := 0) (B := 6800000000000) (by omega) (by omega) (by decide) (by decide)
 have m7 := mul_nn (x := i.Conc * (ln * (1000 + s.Slow * v) * sh + s.Ridge * rd * ld * 100000)) (y := wd) (a := 0) (A := 680000000000000) (b := 0) (B := 400) (by omega) (by omega) (by decide) (by decide)
 have m8 := mul_nn (x := wn) (y := ld * 10000000) (a := 0) (A := 8000000) (b := 0) (B := 4000000000) (by omega) (by omega) (by decide) (by decide)
 have m9 := mul_nn (x := s.Press) (y := i.Press) (a := 0) (A := 5000) (b := 0) (B := 3) (by omega) (by omega) (by decide) (by decide)
 have m10 := mul_nn (x := s.Press * i.Press) (y := wd) (a := 0) (A := 15000) (b := 0) (B := 400) (by omega) (by omega) (by decide) (by decide)
 have m11 := mul_nn (x := s.Press * i.Press * wd) (y := ld * 10000000) (a := 0) (A := 6000000) (b := 0) (B := 4000000000) (by omega) (by omega) (by decide) (by decide)
 have m12 := mul_nn (x := wd) (y := ld * 10000000) (a := 1) (A := 400) (b := 10000000) (B := 4000000000) (by omega) (by omega) (by decide) (by decide)
 generalize i.Conc * (ln * (1000 + s.Slow * v) * sh + s.Ridge * rd * ld * 100000) * wd = x7 at *
 generalize i.Conc * (ln * (1000 + s.Slow * v) * sh + s.Ridge * rd * ld * 100000) = x6 at *
 generalize s.Ridge * rd * ld = x5 at *
 generalize s.Ridge * rd = x4 at *
 generalize ln * (1000 + s.Slow * v) * sh = x3 at *
 generalize ln * (1000 + s.Slow * v) = x2 at *
 generalize s.Slow * v = x1 at *
 generalize wn * (ld * 10000000) = x8 at *
 generalize s.Press * i.Press * wd * (ld * 10000000) = x11 at *
 generalize s.Press * i.Press * wd = x10 at *
 generalize s.Press * i.Press = x9 at *
 generalize wd * (ld * 10000000) = D at *
 repeat' (with_reducible refine ok_chk ?_ ?_)
 all_goals (first | exact h | (constructor <;> omega) | omega | skip)
noncomputable def makesM {α : Type} (F : Nat) (s : Ship) (i : Ice) (v : Int) (ch : Bool) (K : Bool → Option α) : Option α :=
 bnd (hull_end F s.Thrust) (fun x : Int => brk (decide (v ≤ x)) (bnd (hull_Ship_thrust F s v) (fun t : Int => resM F s i v ch (fun q => K (decide (t ≥ q))))) (K false))
theorem makes_ok {α : Type} {post : α → Prop} {F : Nat} (hF : 1000 ≤ F) {s : Ship} (hc : check s = 0) {i : Ice} (hi : goodIce i) {v : Int} (hv : 0 ≤ v ∧ v ≤ 250) (ch : Bool) {K : Bool → Option α} (h : Ok post (K (makes s i ch v))) : Ok post (makesM F s i v ch K) := by
 unfold makesM
 have h2 := (steady_len (check_steadyThrust hc))
 refine ok_bnde (end_eq (by omega) (by omega)) (ok_brk (fun e => ok_bnde (thrust_eq hF hc (by omega)) (res_ok hF hc hi hv ch ?_)) (fun e => ?_))
 ·have : makes s i ch v = decide (thrust s v ≥ resistance s i ch v) := by unfold makes; rw [e, Bool.true_and]
  rwa [this] at h
 ·have : makes s i ch v = false := by unfold makes; rw [e, Bool.false_and]
  rwa [this] at h
noncomputable def bearsM {α : Type} (F : Nat) (s : Ship) (i : Ice) (v : Int) (ch : Bool) (K : Bool → Option α) : Option α :=
 bnd (hull_load F i v ch) (fun x : Int => chk (InR (s.Class - 1)) (chk (0 ≤ s.Class - 1 ∧ s.Class - 1 < ((6 : Nat) : Int)) (K (decide (x ≤ [4000, 8000, 14000, 24000, 40000, 90000].getD (s.Class - 1).toNat 0)))))
theorem bears_ok {α : Type} {post : α → Prop} {F : Nat} (hF : 1000 ≤ F) {s : Ship} (hc : check s = 0) {i : Ice} (hi : goodIce i) {v : Int} (hv : 0 ≤ v ∧ v ≤ 250) (ch : Bool) {K : Bool → Option α} (h : Ok post (K (bears s i ch v))) : Ok post (bearsM F s i v ch K) := by
 unfold bearsM
 obtain ⟨hcl, _⟩ := check_bd hc
 exact ok_bnde (load_eq hF hi hv ch) (ok_chk ⟨by omega, by omega⟩ (ok_chk ⟨by omega, by omega⟩ h))
theorem frozen_ok {F : Nat} (hF : 1000 ≤ F) {l : List Int} (hl : Bytes l) : Ok goodCell (law03_Frozen F l) := by
 have F0 : 0 < F := by omega
 unfold law03_Frozen
 refine ok_next0 F0 hl (by decide) fun x p a1 a2 a3 a4 a5 => ?_
 have e1 : x ≤ 100 := by have : x < 101 := a2; omega
 refine ok_chk (show InR _ from ⟨by omega, by omega⟩) (ok_chk (show InR _ from ⟨by omega, by omega⟩) (ok_next F0 hl a4 a5 (by decide) fun x1 p1 b1 b2 b3 b4 b5 => ok_chk (show InR _ from ⟨by dsimp only; omega, by dsimp only; omega⟩) ?_))
 refine ok_next F0 hl b4 b5 (by decide) fun x2 p2 c1 c2 c3 c4 c5 => ?_
 have e2 : x2 ≤ 200 := by have : x2 < 201 := c2; omega
 refine ok_chk (show InR _ from ⟨by dsimp only; omega, by dsimp only; omega⟩) (ok_chk (show InR _ from ⟨by dsimp only; omega, by dsimp only; omega⟩) (ok_next F0 hl c4 c5 (by decide) fun x3 p3 d1 d2 d3 d4 d5 => ok_chk (show InR _ from ⟨by dsimp only; omega, by dsimp only; omega⟩) ?_))
 refine ok_next F0 hl d4 d5 (by decide) fun x4 p4 f1 f2 f3 f4 f5 => ?_
 have e3 : x4 ≤ 100 := by have : x4 < 101 := f2; omega
 refine ok_chk (show InR _ from ⟨by dsimp only; omega, by dsimp only; omega⟩) (ok_chk (show InR _ from ⟨by dsimp only; omega, by dsimp only; omega⟩) (ok_next F0 hl f4 f5 (by decide) fun x5 p5 g1 g2 g3 g4 g5 => ok_chk (show InR _ from ⟨by dsimp only; omega, by dsimp only; omega⟩) ?_))
 refine ok_next F0 hl g4 g5 (by decide) fun x6 p6 h1 h2 h3 h4 h5 => ?_
 have e4 : x6 ≤ 3 := by have : x6 < 4 := h2; omega
 refine ok_chk (show InR _ from ⟨by dsimp only; omega, by dsimp only; omega⟩) (ok_chk (show InR _ from ⟨by dsimp only; omega, by dsimp only; omega⟩) (ok_next F0 hl h4 h5 (by decide) fun x7 p7 i1 i2 i3 i4 i5 => ok_chk (show InR _ from ⟨by dsimp only; omega, by dsimp only; omega⟩) (ok_some ?_)))
 dsimp only
 refine ⟨⟨?_, ?_, ?_⟩, ⟨?_, ?_, ?_⟩, ⟨?_, ?_, ?_⟩, ?_, ?_, ?_⟩ <;> dsimp only <;> (try split) <;> omega
theorem snoc_len {α : Type} {l : List α} {x : α} : (l ++ [x]).length = l.length + 1 := by simp
abbrev Pos (l : List Int) (p : Int) : Prop := 0 ≤ p ∧ p ≤ (l.length : Int)
theorem shipMade_ok {F : Nat} (hF : 1000 ≤ F) {l : List Int} (hl : Bytes l) : Ok (fun s => check s = 0) (law03_Made F l) := by
 have F0 : 0 < F := by omega
 unfold law03_Made
 refine ok_next0 F0 hl (by decide) fun c p0 a1 a2 a3 a4 a5 => ?_
 refine ok_chk (show InR _ from ⟨by dsimp only; omega, by dsimp only; omega⟩) ?_
 refine ok_next F0 hl a4 a5 (by decide) fun x1 p1 b1 b2 b3 b4 b5 => ?_
 refine ok_chk (show InR _ from ⟨by dsimp only; omega, by dsimp only; omega⟩) (ok_chk (show InR _ from ⟨by dsimp only; omega, by dsimp only; omega⟩) ?_)
 refine ok_next F0 hl b4 b5 (by decide) fun x2 p2 c1 c2 c3 c4 c5 => ?_
 refine ok_chk (show InR _ from ⟨by dsimp only; omega, by dsimp only; omega⟩) (ok_chk (show InR _ from ⟨by dsimp only; omega, by dsimp only; omega⟩) ?_)
 refine ok_next F0 hl c4 c5 (by decide) fun x3 p3 d1 d2 d3 d4 d5 => ?_
 refine ok_chk (show InR _ from ⟨by dsimp only; omega, by dsimp only; omega⟩) (ok_chk (show InR _ from ⟨by dsimp only; omega, by dsimp only; omega⟩) ?_)
 refine ok_next F0 hl d4 d5 (by decide) fun x4 p4 e1 e2 e3 e4 e5 => ?_
 refine ok_next F0 hl e4 e5 (by decide) fun x5 p5 f1 f2 f3 f4 f5 => ?_
 refine ok_next F0 hl f4 f5 (by decide) fun x6 p6 g1 g2 g3 g4 g5 => ?_
 refine ok_chk (show InR _ from ⟨by dsimp only; omega, by dsimp only; omega⟩) ?_
 refine ok_next F0 hl g4 g5 (by decide) fun x7 p7 h1 h2 h3 h4 h5 => ?_
 refine ok_chk (show InR _ from ⟨by dsimp only; omega, by dsimp only; omega⟩) ?_
 refine ok_next F0 hl h4 h5 (by decide) fun x8 p8 i1 i2 i3 i4 i5 => ?_
 refine ok_chk (show InR _ from ⟨by dsimp only; omega, by dsimp only; omega⟩) (ok_chk (show InR _ from ⟨by dsimp only; omega, by dsimp only; omega⟩) ?_)
 refine ok_next F0 hl i4 i5 (by decide) fun x9 p9 j1 j2 j3 j4 j5 => ?_
 refine ok_chk (show InR _ from ⟨by dsimp only; omega, by dsimp only; omega⟩) ?_
 dsimp only
 refine ok_loop (fun q : Int × (Int × (Int × ((List Point) × Int))) => Pre (-1) q.2.2.2.1 q.2.2.1 q.1 ∧ 0 ≤ q.2.1 ∧ q.2.1 ≤ 1 + x9 ∧ (q.2.2.2.1.length : Int) = q.2.1 + 1 ∧ q.2.2.1 ≤ 49 * q.2.1 ∧ 10 * q.2.1 ≤ q.2.2.1 ∧ 0 ≤ q.1 ∧ q.1 ≤ 5300 ∧ Pos l q.2.2.2.2) (fun q => (4 - q.2.1).toNat)
  ⟨Pre.one (by omega), by simp, by dsimp only; omega, rfl, by simp, by simp, by dsimp only; omega, by dsimp only; omega, j4, j5⟩ (by show (4 - (0 : Int)).toNat < F; omega) fun q next hI hn => ?_
 obtain ⟨y, i, x, lst, pos⟩ := q
 obtain ⟨k1, k2, k3, k4, k5, k6, k7, k8, k9, k10⟩ := hI
 dsimp only at k1 k2 k3 k4 k5 k6 k7 k8 k9 k10 ⊢
 refine ok_brk (fun hc => ?_) (fun hc => ?_)
 ·have hc := of_decide_eq_true hc
  refine ok_chk (show InR _ from ⟨by omega, by omega⟩) (ok_next F0 hl k9 k10 (by decide) fun z p q1 q2 q3 q4 q5 => ok_chk (show InR _ from ⟨by dsimp only; omega, by dsimp only; omega⟩) (ok_next F0 hl q4 q5 (by decide) fun z2 p2 r1 r2 r3 r4 r5 => ?_))
  dsimp only
  have hm := mul_nn (x := y) (y := z2) (a := 0) (A := 5300) (b := 0) (B := 100) (by omega) (by omega) (by decide) (by decide)
  have hm2 : y * z2 ≤ y * 100 := Int.mul_le_mul_of_nonneg_left (by omega) (by omega)
  generalize y * z2 = pr at hm hm2 ⊢
  refine ok_chk (show InR _ from ⟨by omega, by omega⟩) (ok_chk ⟨by omega, by omega⟩ (ok_chk (by simp; omega) (ok_chk (show InR _ from ⟨by omega, by omega⟩) (hn _ ⟨k1.snoc (by omega) (by omega) (by omega), by dsimp only; omega, by dsimp only; omega, by dsimp only; rw [snoc_len]; omega, by dsimp only; omega, by dsimp only; omega, by dsimp only; omega, by dsimp only; omega, r4, r5⟩ (by dsimp only; omega)))))
 ·have hc := of_decide_eq_false hc
  have s1 := k1.steady ⟨by omega, by omega⟩
  refine ok_next F0 hl k9 k10 (by decide) fun w pw l1 l2 l3 l4 l5 => ok_next F0 hl l4 l5 (by decide) fun w2 pw2 m1 m2 m3 m4 m5 => ok_chk (show InR _ from ⟨by dsimp only; omega, by dsimp only; omega⟩) ?_
  dsimp only
  refine ok_loop (fun q : Int × (Int × (Int × ((List Point) × Int))) => Pre 1 q.2.2.2.1 q.2.2.1 q.2.1 ∧ 0 ≤ q.1 ∧ q.1 ≤ 1 + w2 ∧ (q.2.2.2.1.length : Int) = q.1 + 1 ∧ q.2.2.1 ≤ 80 * q.1 ∧ 0 ≤ q.2.2.1 ∧ 0 ≤ q.2.1 ∧ q.2.1 ≤ 50 + 765 * q.1 ∧ Pos l q.2.2.2.2) (fun q => (3 - q.1).toNat)
   ⟨Pre.one (by omega), by simp, by dsimp only; omega, rfl, by simp, by simp, by dsimp only; omega, by dsimp only; omega, m4, m5⟩ (by show (3 - (0 : Int)).toNat < F; omega) fun q next hI hn => ?_
  obtain ⟨i', y', x', lst', pos'⟩ := q
  obtain ⟨n1, n2, n3, n4, n5, n6, n7, n8, n9, n10⟩ := hI
  dsimp only at n1 n2 n3 n4 n5 n6 n7 n8 n9 n10 ⊢
  refine ok_brk (fun hc' => ?_) (fun hc' => ?_)
  ·have hc' := of_decide_eq_true hc'
   refine ok_chk (show InR _ from ⟨by omega, by omega⟩) (ok_next F0 hl n9 n10 (by decide) fun z p q1 q2 q3 q4 q5 => ok_chk (show InR _ from ⟨by dsimp only; omega, by dsimp only; omega⟩) (ok_next F0 hl q4 q5 (by decide) fun z2 p2 r1 r2 r3 r4 r5 => ?_))
   dsimp only
   refine ok_chk (show InR _ from ⟨by omega, by omega⟩) (ok_chk (show InR _ from ⟨by omega, by omega⟩) (ok_chk (by simp; omega) (ok_chk (show InR _ from ⟨by omega, by omega⟩) (hn _ ⟨n1.snoc (by omega) (by omega) (by omega), by dsimp only; omega, by dsimp only; omega, by dsimp only; rw [snoc_len]; omega, by dsimp only; omega, by dsimp only; omega, by dsimp only; omega, by dsimp only; omega, r4, r5⟩ (by dsimp only; omega)))))
  ·have hc' := of_decide_eq_false hc'
   have s2 := n1.steady ⟨by omega, by omega⟩
   refine ok_next F0 hl n9 n10 (by decide) fun v pv o1 o2 o3 o4 o5 => ?_
   dsimp only
   refine ok_loop (fun q : Int × (Int × (Int × ((List Point) × Int))) => Pre 1 q.2.2.2.1 q.2.2.1 q.1 ∧ (pt q.2.2.2.1 0).Y = 0 ∧ 0 ≤ q.2.1 ∧ q.2.1 ≤ v ∧ (q.2.2.2.1.length : Int) = q.2.1 + 1 ∧ q.2.2.1 ≤ 90 * q.2.1 ∧ 0 ≤ q.2.2.1 ∧ 0 ≤ q.1 ∧ q.1 ≤ 765 * q.2.1 ∧ Pos l q.2.2.2.2) (fun q => (3 - q.2.1).toNat)
    ⟨Pre.one (by omega), rfl, by simp, by dsimp only; omega, rfl, by simp, by simp, by simp, by simp, o4, o5⟩ (by show (3 - (0 : Int)).toNat < F; omega) fun q next hI hn => ?_
   obtain ⟨y3, i3, x3', lst3, pos3⟩ := q
   obtain ⟨t1, t0, t2, t3, t4, t5, t6, t7, t8, t9, t10⟩ := hI
   dsimp only at t1 t0 t2 t3 t4 t5 t6 t7 t8 t9 t10 ⊢
   refine ok_brk (fun hc3 => ?_) (fun hc3 => ?_)
   ·have hc3 := of_decide_eq_true hc3
    refine ok_chk (show InR _ from ⟨by omega, by omega⟩) (ok_next F0 hl t9 t10 (by decide) fun z p q1 q2 q3 q4 q5 => ok_chk (show InR _ from ⟨by dsimp only; omega, by dsimp only; omega⟩) (ok_next F0 hl q4 q5 (by decide) fun z2 p2 r1 r2 r3 r4 r5 => ?_))
    dsimp only
    refine ok_chk (show InR _ from ⟨by omega, by omega⟩) (ok_chk (show InR _ from ⟨by omega, by omega⟩) (ok_chk (by simp; omega) (ok_chk (show InR _ from ⟨by omega, by omega⟩) (hn _ ⟨t1.snoc (by omega) (by omega) (by omega), by dsimp only; rw [pt_old (by omega) (by omega)]; exact t0, by dsimp only; omega, by dsimp only; omega, by dsimp only; rw [snoc_len]; omega, by dsimp only; omega, by dsimp only; omega, by dsimp only; omega, by dsimp only; omega, r4, r5⟩ (by dsimp only; omega)))))
   ·have hc3 := of_decide_eq_false hc3
    refine ok_next F0 hl t9 t10 (by decide) fun u pu u1 u2 u3 u4 u5 => ?_
    dsimp only
    refine ok_chk (show InR _ from ⟨by omega, by omega⟩) (ok_chk (show InR _ from ⟨by omega, by omega⟩) (ok_chk (by simp; omega) (ok_some ?_)))
    have hq := (t1.snoc (x' := 400) (y' := y3 + 4 * u) (by omega) (by omega) (by omega)).steady (by rw [snoc_len]; omega)
    unfold check
    have r1 : ∀ {a b c d e f g h i j k}, 1 ≤ a → a ≤ 6 → rule1 ⟨a, b, c, d, e, f, g, h, i, j, k⟩ = true := fun h1 h2 => by simp only [rule1, within, Bool.and_eq_true, decide_eq_true_eq]; omega
    rw [if_neg, if_neg, if_neg, if_neg, if_neg, if_neg]
    ·simp only [rule6, hq.1, hq.2]; rw [pt_old (by omega) (by omega), t0]; simp
    ·simp only [rule5, s2.1, s2.2]; simp; omega
    ·simp only [rule4, s1.1, s1.2, within]; simp; omega
    ·simp only [rule3, within]; simp; omega
    ·simp only [rule2, within]; simp; omega
    ·simp only [rule1, within]; simp; omega
theorem u8_bd (n : Int) : 0 ≤ IntKind.u8.wrap n ∧ IntKind.u8.wrap n ≤ 255 := by
 simp only [IntKind.wrap, IntKind.bits, IntKind.signed]
 have h1 := Int.emod_nonneg n (show (256 : Int) ≠ 0 by decide)
 have h2 := Int.emod_lt_of_pos n (show (0 : Int) < 256 by decide)
 simp
 omega
theorem bytes_snoc {l : List Int} {x : Int} (h : ∀ y ∈ l, 0 ≤ y ∧ y ≤ 255) (hx : 0 ≤ x ∧ x ≤ 255) : ∀ y ∈ l ++ [x], 0 ≤ y ∧ y ≤ 255 := fun y hy => by
 rcases List.mem_append.1 hy with hy | hy
 ·exact h y hy
 ·rw [List.mem_singleton.1 hy]; exact hx
theorem bytes_set {l : List Int} {i : Nat} {x : Int} (h : ∀ y ∈ l, 0 ≤ y ∧ y ≤ 255) (hx : 0 ≤ x ∧ x ≤ 255) : ∀ y ∈ l.set i x, 0 ≤ y ∧ y ≤ 255 := fun y hy => by
 rcases List.mem_or_eq_of_mem_set hy with hy | hy
 ·exact h y hy
 ·rw [hy]; exact hx
noncomputable def memM {α : Type} (F : Nat) (a0 : List Int) (pos0 : Int) (K : Member → Int → Option α) : Option α :=
 loopC (fun (x_18 : (List (Int)) × ((Int) × (Int))) => fun x_19 => brk (decide (x_18.snd.fst < (24 : Int))) (join (F) (fun (x_20 : (Int) × (Int)) => chk (List.length x_18.fst + [IntKind.u8.wrap x_20.fst].length ≤ (140737488355328 : Nat)) (chk (InR (x_18.snd.fst + (1 : Int))) (x_19 ((x_18.fst ++ [IntKind.u8.wrap x_20.fst], x_18.snd.fst + (1 : Int), x_20.snd))))) (fun x_20 => brk (decide (x_18.snd.snd ≥ (↑a0.length : Int))) (x_20 (((0 : Int), x_18.snd.snd))) (chk (InR (x_18.snd.snd + (1 : Int))) (chk (InR (x_18.snd.snd + (1 : Int) - (1 : Int))) (chk ((0 : Int) ≤ x_18.snd.snd + (1 : Int) - (1 : Int) ∧ x_18.snd.snd + (1 : Int) - (1 : Int) < (↑a0.length : Int)) (chk (InR (a0.getD (x_18.snd.snd + (1 : Int) - (1 : Int)).toNat (0 : Int))) (chk ((0 : Int) ≤ a0.getD (x_18.snd.snd + (1 : Int) - (1 : Int)).toNat (0 : Int) ∧ a0.getD (x_18.snd.snd + (1 : Int) - (1 : Int)).toNat (0 : Int) ≤ (9223372036854775807 : Int)) (x_20 ((a0.getD (x_18.snd.snd + (1 : Int) - (1 : Int)).toNat (0 : Int) % (256 : Int), x_18.snd.snd + (1 : Int))))))))))) (chk ((0 : Int) ≤ (7 : Int) ∧ (7 : Int) < (↑(List.length x_18.fst) : Int)) (chk ((0 : Int) ≤ (7 : Int) ∧ (7 : Int) < (↑(List.length x_18.fst) : Int)) (chk ((0 : Int) ≤ (8 : Int) ∧ (8 : Int) < (↑(List.set x_18.fst (Int.toNat (7 : Int)) (IntKind.u8.wrap (Int.tdiv (List.getD x_18.fst (Int.toNat (7 : Int)) (0 : Int)) (8 : Int)))).length : Int)) (chk ((0 : Int) ≤ (8 : Int) ∧ (8 : Int) < (↑(List.set x_18.fst (Int.toNat (7 : Int)) (IntKind.u8.wrap (Int.tdiv (List.getD x_18.fst (Int.toNat (7 : Int)) (0 : Int)) (8 : Int)))).length : Int)) (bnd (law03_Made F ((List.set x_18.fst (Int.toNat (7 : Int)) (IntKind.u8.wrap (Int.tdiv (List.getD x_18.fst (Int.toNat (7 : Int)) (0 : Int)) (8 : Int)))).set (Int.toNat (8 : Int)) ((128 : Int) + (List.set x_18.fst (Int.toNat (7 : Int)) (IntKind.u8.wrap (Int.tdiv (List.getD x_18.fst (Int.toNat (7 : Int)) (0 : Int)) (8 : Int)))).getD (Int.toNat (8 : Int)) (0 : Int) % (128 : Int)))) (fun (x_20 : Ship) => join (F) (fun (x_21 : (Int) × (Int)) => chk (InR ((2 : Int) * x_21.fst)) (chk (InR ((10 : Int) + (2 : Int) * x_21.fst)) (join (F) (fun (x_22 : (Int) × (Int)) => chk (InR ((3 : Int) * x_22.fst)) (join (F) (fun (x_23 : (Int) × (Int)) => chk (InR ((5 : Int) * x_23.fst)) (join (F) (fun (x_24 : (Int) × (Int)) => loopC (fun (x_25 : (Int) × ((Int) × ((Int) × ((Int) × (List (Point)))))) => fun x_26 => brk (decide (x_25.snd.snd.fst < x_24.fst)) (chk (InR (x_25.fst + (1 : Int))) (join (F) (fun (x_27 : (Int) × (Int)) => chk (InR (x_25.fst + (1 : Int) + x_27.fst)) (join (F) (fun (x_28 : (Int) × (Int)) => chk (InR ((2 : Int) * x_28.fst)) (chk (InR (x_25.snd.fst + (2 : Int) * x_28.fst)) (chk (List.length x_25.snd.snd.snd.snd + [Point.mk (x_25.fst + (1 : Int) + x_27.fst) (x_25.snd.fst + (2 : Int) * x_28.fst)].length ≤ (1000000000 : Nat)) (chk (InR (x_25.snd.snd.fst + (1 : Int))) (x_26 ((x_25.fst + (1 : Int) + x_27.fst, x_25.snd.fst + (2 : Int) * x_28.fst, x_25.snd.snd.fst + (1 : Int), x_28.snd, x_25.snd.snd.snd.snd ++ [Point.mk (x_25.fst + (1 : Int) + x_27.fst) (x_25.snd.fst + (2 : Int) * x_28.fst)]))))))) (fun x_28 => brk (decide (x_27.snd ≥ (↑a0.length : Int))) (x_28 (((0 : Int), x_27.snd))) (chk (InR (x_27.snd + (1 : Int))) (chk (InR (x_27.snd + (1 : Int) - (1 : Int))) (chk ((0 : Int) ≤ x_27.snd + (1 : Int) - (1 : Int) ∧ x_27.snd + (1 : Int) - (1 : Int) < (↑a0.length : Int)) (chk (InR (a0.getD (x_27.snd + (1 : Int) - (1 : Int)).toNat (0 : Int))) (chk ((0 : Int) ≤ a0.getD (x_27.snd + (1 : Int) - (1 : Int)).toNat (0 : Int) ∧ a0.getD (x_27.snd + (1 : Int) - (1 : Int)).toNat (0 : Int) ≤ (9223372036854775807 : Int)) (x_28 ((a0.getD (x_27.snd + (1 : Int) - (1 : Int)).toNat (0 : Int) % (256 : Int), x_27.snd + (1 : Int)))))))))))) (fun x_27 => brk (decide (x_25.snd.snd.snd.fst ≥ (↑a0.length : Int))) (x_27 (((0 : Int), x_25.snd.snd.snd.fst))) (chk (InR (x_25.snd.snd.snd.fst + (1 : Int))) (chk (InR (x_25.snd.snd.snd.fst + (1 : Int) - (1 : Int))) (chk ((0 : Int) ≤ x_25.snd.snd.snd.fst + (1 : Int) - (1 : Int) ∧ x_25.snd.snd.snd.fst + (1 : Int) - (1 : Int) < (↑a0.length : Int)) (chk (InR (a0.getD (x_25.snd.snd.snd.fst + (1 : Int) - (1 : Int)).toNat (0 : Int))) (chk ((0 : Int) ≤ a0.getD (x_25.snd.snd.snd.fst + (1 : Int) - (1 : Int)).toNat (0 : Int) ∧ a0.getD (x_25.snd.snd.snd.fst + (1 : Int) - (1 : Int)).toNat (0 : Int) ≤ (9223372036854775807 : Int)) (x_27 ((a0.getD (x_25.snd.snd.snd.fst + (1 : Int) - (1 : Int)).toNat (0 : Int) % (40 : Int), x_25.snd.snd.snd.fst + (1 : Int)))))))))))) (join (F) (fun (x_27 : (Int) × (Int)) => chk (InR ((4 : Int) * x_27.fst)) (chk (InR (x_25.snd.fst + (4 : Int) * x_27.fst)) (chk (List.length x_25.snd.snd.snd.snd + [Point.mk (260 : Int) (x_25.snd.fst + (4 : Int) * x_27.fst)].length ≤ (1000000000 : Nat)) (K (Member.mk x_20 (x_25.snd.snd.snd.snd ++ [Point.mk (260 : Int) (x_25.snd.fst + (4 : Int) * x_27.fst)]) ((10 : Int) + (2 : Int) * x_21.fst) ((3 : Int) * x_22.fst) ((5 : Int) * x_23.fst)) x_27.snd)))) (fun x_27 => brk (decide (x_25.snd.snd.snd.fst ≥ (↑a0.length : Int))) (x_27 (((0 : Int), x_25.snd.snd.snd.fst))) (chk (InR (x_25.snd.snd.snd.fst + (1 : Int))) (chk (InR (x_25.snd.snd.snd.fst + (1 : Int) - (1 : Int))) (chk ((0 : Int) ≤ x_25.snd.snd.snd.fst + (1 : Int) - (1 : Int) ∧ x_25.snd.snd.snd.fst + (1 : Int) - (1 : Int) < (↑a0.length : Int)) (chk (InR (a0.getD (x_25.snd.snd.snd.fst + (1 : Int) - (1 : Int)).toNat (0 : Int))) (chk ((0 : Int) ≤ a0.getD (x_25.snd.snd.snd.fst + (1 : Int) - (1 : Int)).toNat (0 : Int) ∧ a0.getD (x_25.snd.snd.snd.fst + (1 : Int) - (1 : Int)).toNat (0 : Int) ≤ (9223372036854775807 : Int)) (x_27 ((a0.getD (x_25.snd.snd.snd.fst + (1 : Int) - (1 : Int)).toNat (0 : Int) % (256 : Int), x_25.snd.snd.snd.fst + (1 : Int)))))))))))) (F) (((0 : Int), (0 : Int), (0 : Int), x_24.snd, [Point.mk (0 : Int) (0 : Int)]))) (fun x_24 => brk (decide (x_23.snd ≥ (↑a0.length : Int))) (x_24 (((0 : Int), x_23.snd))) (chk (InR (x_23.snd + (1 : Int))) (chk (InR (x_23.snd + (1 : Int) - (1 : Int))) (chk ((0 : Int) ≤ x_23.snd + (1 : Int) - (1 : Int) ∧ x_23.snd + (1 : Int) - (1 : Int) < (↑a0.length : Int)) (chk (InR (a0.getD (x_23.snd + (1 : Int) - (1 : Int)).toNat (0 : Int))) (chk ((0 : Int) ≤ a0.getD (x_23.snd + (1 : Int) - (1 : Int)).toNat (0 : Int) ∧ a0.getD (x_23.snd + (1 : Int) - (1 : Int)).toNat (0 : Int) ≤ (9223372036854775807 : Int)) (x_24 ((a0.getD (x_23.snd + (1 : Int) - (1 : Int)).toNat (0 : Int) % (4 : Int), x_23.snd + (1 : Int)))))))))))) (fun x_23 => brk (decide (x_22.snd ≥ (↑a0.length : Int))) (x_23 (((0 : Int), x_22.snd))) (chk (InR (x_22.snd + (1 : Int))) (chk (InR (x_22.snd + (1 : Int) - (1 : Int))) (chk ((0 : Int) ≤ x_22.snd + (1 : Int) - (1 : Int) ∧ x_22.snd + (1 : Int) - (1 : Int) < (↑a0.length : Int)) (chk (InR (a0.getD (x_22.snd + (1 : Int) - (1 : Int)).toNat (0 : Int))) (chk ((0 : Int) ≤ a0.getD (x_22.snd + (1 : Int) - (1 : Int)).toNat (0 : Int) ∧ a0.getD (x_22.snd + (1 : Int) - (1 : Int)).toNat (0 : Int) ≤ (9223372036854775807 : Int)) (x_23 ((a0.getD (x_22.snd + (1 : Int) - (1 : Int)).toNat (0 : Int) % (200 : Int), x_22.snd + (1 : Int)))))))))))) (fun x_22 => brk (decide (x_21.snd ≥ (↑a0.length : Int))) (x_22 (((0 : Int), x_21.snd))) (chk (InR (x_21.snd + (1 : Int))) (chk (InR (x_21.snd + (1 : Int) - (1 : Int))) (chk ((0 : Int) ≤ x_21.snd + (1 : Int) - (1 : Int) ∧ x_21.snd + (1 : Int) - (1 : Int) < (↑a0.length : Int)) (chk (InR (a0.getD (x_21.snd + (1 : Int) - (1 : Int)).toNat (0 : Int))) (chk ((0 : Int) ≤ a0.getD (x_21.snd + (1 : Int) - (1 : Int)).toNat (0 : Int) ∧ a0.getD (x_21.snd + (1 : Int) - (1 : Int)).toNat (0 : Int) ≤ (9223372036854775807 : Int)) (x_22 ((a0.getD (x_21.snd + (1 : Int) - (1 : Int)).toNat (0 : Int) % (60 : Int), x_21.snd + (1 : Int))))))))))))) (fun x_21 => brk (decide (x_18.snd.snd ≥ (↑a0.length : Int))) (x_21 (((0 : Int), x_18.snd.snd))) (chk (InR (x_18.snd.snd + (1 : Int))) (chk (InR (x_18.snd.snd + (1 : Int) - (1 : Int))) (chk ((0 : Int) ≤ x_18.snd.snd + (1 : Int) - (1 : Int) ∧ x_18.snd.snd + (1 : Int) - (1 : Int) < (↑a0.length : Int)) (chk (InR (a0.getD (x_18.snd.snd + (1 : Int) - (1 : Int)).toNat (0 : Int))) (chk ((0 : Int) ≤ a0.getD (x_18.snd.snd + (1 : Int) - (1 : Int)).toNat (0 : Int) ∧ a0.getD (x_18.snd.snd + (1 : Int) - (1 : Int)).toNat (0 : Int) ≤ (9223372036854775807 : Int)) (x_21 ((a0.getD (x_18.snd.snd + (1 : Int) - (1 : Int)).toNat (0 : Int) % (240 : Int), x_18.snd.snd + (1 : Int))))))))))))))))) (F) (([], (0 : Int), pos0))
theorem memM_ok {α : Type} {post : α → Prop} {F : Nat} (hF : 1000 ≤ F) {l : List Int} (hl : Bytes l) {pos0 : Int} (hp : Pos l pos0) {K : Member → Int → Option α} (hK : ∀ m p, GoodM m → Pos l p → Ok post (K m p)) : Ok post (memM F l pos0 K) := by
 have F0 : 0 < F := by omega
 unfold memM
 refine ok_loop (fun q : List Int × (Int × Int) => (q.1.length : Int) = q.2.1 ∧ q.2.1 ≤ 24 ∧ (∀ y ∈ q.1, 0 ≤ y ∧ y ≤ 255) ∧ Pos l q.2.2) (fun q => (24 - q.2.1).toNat) ⟨rfl, by simp, by simp, hp⟩ (by show (24 - (0 : Int)).toNat < F; omega) fun q next hI hn => ?_
 obtain ⟨own, i, pos⟩ := q
 obtain ⟨k1, k2, k3, k4, k5⟩ := hI
 dsimp only at k1 k2 k3 k4 k5 ⊢
 refine ok_brk (fun hc => ?_) (fun hc => ?_)
 ·have hc := of_decide_eq_true hc
  refine ok_next F0 hl k4 k5 (by decide) fun z p q1 q2 q3 q4 q5 => ?_
  dsimp only
  exact ok_chk (by simp; omega) (ok_chk (show InR _ from ⟨by omega, by omega⟩) (hn _ ⟨by dsimp only; rw [snoc_len]; omega, by dsimp only; omega, bytes_snoc k3 (u8_bd z), q4, q5⟩ (by dsimp only; omega)))
 ·have hc := of_decide_eq_false hc
  have hlen : own.length = 24 := by omega
  have hset : ∀ (x : Int), (own.set (7 : Int).toNat x).length = 24 := fun x => by rw [List.length_set, hlen]
  refine ok_chk ⟨by decide, by omega⟩ (ok_chk ⟨by decide, by omega⟩ (ok_chk ⟨by decide, by rw [hset]; decide⟩ (ok_chk ⟨by decide, by rw [hset]; decide⟩ ?_)))
  refine ok_bnd _ (shipMade_ok hF ⟨bytes_set (bytes_set k3 (u8_bd _)) ?_, by rw [List.length_set, hset]; decide⟩) fun s hs => ?_
  ·have h1 := Int.emod_nonneg (List.getD (List.set own (7 : Int).toNat (IntKind.u8.wrap (Int.tdiv (List.getD own (7 : Int).toNat 0) 8))) (8 : Int).toNat 0) (show (128 : Int) ≠ 0 by decide)
   have h2 := Int.emod_lt_of_pos (List.getD (List.set own (7 : Int).toNat (IntKind.u8.wrap (Int.tdiv (List.getD own (7 : Int).toNat 0) 8))) (8 : Int).toNat 0) (show (0 : Int) < 128 by decide)
   omega
  refine ok_next F0 hl k4 k5 (by decide) fun x1 p1 b1 b2 b3 b4 b5 => ok_chk (show InR _ from ⟨by dsimp only; omega, by dsimp only; omega⟩) (ok_chk (show InR _ from ⟨by dsimp only; omega, by dsimp only; omega⟩) ?_)
  refine ok_next F0 hl b4 b5 (by decide) fun x2 p2 c1 c2 c3 c4 c5 => ok_chk (show InR _ from ⟨by dsimp only; omega, by dsimp only; omega⟩) ?_
  refine ok_next F0 hl c4 c5 (by decide) fun x3 p3 d1 d2 d3 d4 d5 => ok_chk (show InR _ from ⟨by dsimp only; omega, by dsimp only; omega⟩) ?_
  refine ok_next F0 hl d4 d5 (by decide) fun x4 p4 e1 e2 e3 e4 e5 => ?_
  dsimp only
  refine ok_loop (fun q : Int × (Int × (Int × (Int × List Point))) => Pre 1 q.2.2.2.2 q.1 q.2.1 ∧ (pt q.2.2.2.2 0).Y = 0 ∧ 0 ≤ q.2.2.1 ∧ q.2.2.1 ≤ x4 ∧ (q.2.2.2.2.length : Int) = q.2.2.1 + 1 ∧ q.1 ≤ 40 * q.2.2.1 ∧ 0 ≤ q.1 ∧ 0 ≤ q.2.1 ∧ q.2.1 ≤ 510 * q.2.2.1 ∧ Pos l q.2.2.2.1) (fun q => (3 - q.2.2.1).toNat)
   ⟨Pre.one (by omega), rfl, by simp, by dsimp only; omega, rfl, by simp, by simp, by simp, by simp, e4, e5⟩ (by show (3 - (0 : Int)).toNat < F; omega) fun q next hI hn => ?_
  obtain ⟨x, y, i3, pos3, lst⟩ := q
  obtain ⟨t1, t0, t2, t3, t4, t5, t6, t7, t8, t9, t10⟩ := hI
  dsimp only at t1 t0 t2 t3 t4 t5 t6 t7 t8 t9 t10 ⊢
  refine ok_brk (fun hc3 => ?_) (fun hc3 => ?_)
  ·have hc3 := of_decide_eq_true hc3
   refine ok_chk (show InR _ from ⟨by omega, by omega⟩) (ok_next F0 hl t9 t10 (by decide) fun z p q1 q2 q3 q4 q5 => ok_chk (show InR _ from ⟨by dsimp only; omega, by dsimp only; omega⟩) (ok_next F0 hl q4 q5 (by decide) fun z2 p2 r1 r2 r3 r4 r5 => ?_))
   dsimp only
   exact ok_chk (show InR _ from ⟨by omega, by omega⟩) (ok_chk (show InR _ from ⟨by omega, by omega⟩) (ok_chk (by simp; omega) (ok_chk (show InR _ from ⟨by omega, by omega⟩) (hn _ ⟨t1.snoc (by omega) (by omega) (by omega), by dsimp only; rw [pt_old (by omega) (by omega)]; exact t0, by dsimp only; omega, by dsimp only; omega, by dsimp only; rw [snoc_len]; omega, by dsimp only; omega, by dsimp only; omega, by dsimp only; omega, by dsimp only; omega, r4, r5⟩ (by dsimp only; omega)))))
  ·have hc3 := of_decide_eq_false hc3
   refine ok_next F0 hl t9 t10 (by decide) fun u pu u1 u2 u3 u4 u5 => ?_
   dsimp only
   refine ok_chk (show InR _ from ⟨by omega, by omega⟩) (ok_chk (show InR _ from ⟨by omega, by omega⟩) (ok_chk (by simp; omega) (hK _ _ ?_ ⟨u4, u5⟩)))
   have hq := (t1.snoc (x' := 260) (y' := y + 4 * u) (by omega) (by omega) (by omega)).steady (by rw [snoc_len]; omega)
   have he := check_endT hs
   exact ⟨hs, by dsimp only; omega, by dsimp only; omega, by dsimp only; omega, hq.1, by dsimp only; rw [pt_old (by omega) (by omega)]; exact t0, by dsimp only; rw [hq.2]; omega⟩
def mnI (a b : Int) : Int := if a < b then a else b
theorem mnI_bd {a b : Int} (ha : 0 ≤ a) (hb : 0 ≤ b) : 0 ≤ mnI a b ∧ mnI a b ≤ b := by unfold mnI; split <;> omega
theorem closeOK_of {a b c d : Int} (ha : 0 ≤ a) (hb : 0 ≤ b) (hc : 0 ≤ c) (hd : 0 ≤ d) : closeOK ⟨mnI a 1440, mnI b (mnI a 1440), mnI c (mnI b (mnI a 1440)), mnI d (mnI c (mnI b (mnI a 1440)))⟩ = true := by
 have h1 := mnI_bd ha (show (0 : Int) ≤ 1440 by decide)
 have h2 := mnI_bd hb h1.1
 have h3 := mnI_bd hc h2.1
 have h4 := mnI_bd hd h3.1
 simp only [closeOK, within, Bool.and_eq_true, decide_eq_true_eq]
 omega
theorem made_ok {F : Nat} (hF : 1000 ≤ F) {l : List Int} (hl : Bytes l) {most : Int} (hm : 0 ≤ most ∧ most ≤ 6) : Ok (fun c => GoodC c ∧ (c.Ships.length : Int) ≤ most) (law05_Made F l most) := by
 have F0 : 0 < F := by omega
 unfold law05_Made
 refine ok_next0 F0 hl (by decide) fun x0 p0 a1 a2 a3 a4 a5 => ok_chk (show InR _ from ⟨by dsimp only; omega, by dsimp only; omega⟩) ?_
 refine ok_next F0 hl a4 a5 (by decide) fun x1 p1 b1 b2 b3 b4 b5 => ok_chk (show InR _ from ⟨by dsimp only; omega, by dsimp only; omega⟩) (ok_chk ⟨by dsimp only; omega, by dsimp only; omega⟩ ?_)
 refine ok_next F0 hl b4 b5 (by decide) fun x2 p2 c1 c2 c3 c4 c5 => ok_chk (show InR _ from ⟨by dsimp only; omega, by dsimp only; omega⟩) (ok_chk ⟨by dsimp only; omega, by dsimp only; omega⟩ ?_)
 refine ok_next F0 hl c4 c5 (by decide) fun x3 p3 d1 d2 d3 d4 d5 => ok_chk (show InR _ from ⟨by dsimp only; omega, by dsimp only; omega⟩) (ok_chk ⟨by dsimp only; omega, by dsimp only; omega⟩ ?_)
 refine ok_next F0 hl d4 d5 (by decide) fun x4 p4 e1 e2 e3 e4 e5 => ok_chk (show InR _ from ⟨by dsimp only; omega, by dsimp only; omega⟩) (ok_chk ⟨by dsimp only; omega, by dsimp only; omega⟩ (ok_chk (show InR _ from ⟨by omega, by omega⟩) ?_))
 refine ok_nextS F0 hl e4 e5 (by omega) fun x5 p5 f1 f2 f3 f4 f5 => ?_
 dsimp only
 refine memM_ok hF hl ⟨f4, f5⟩ (K := fun m p => loopC (fun (y : Int × ((List Member) × Int)) => fun next => brk (decide (y.1 < x5)) (memM F l y.2.2 (fun m2 p2 => chk (List.length y.2.1 + [m2].length ≤ (1000000000 : Nat)) (chk (InR (y.1 + 1)) (next ((y.1 + 1, y.2.1 ++ [m2], p2)))))) (some (Convoy.mk m y.2.1 (3 * x0) _))) F ((0, [], p))) fun m p hm1 hp => ?_
 refine ok_loop (fun q : Int × ((List Member) × Int) => 0 ≤ q.1 ∧ q.1 ≤ x5 ∧ (q.2.1.length : Int) = q.1 ∧ GoodL q.2.1 ∧ Pos l q.2.2) (fun q => (6 - q.1).toNat) ⟨by simp, by dsimp only; omega, rfl, (fun m hm => nomatch hm), hp⟩ (by show (6 - (0 : Int)).toNat < F; omega) fun q next hI hn => ?_
 obtain ⟨i, lst, pos⟩ := q
 obtain ⟨k1, k2, k3, k4, k5⟩ := hI
 dsimp only at k1 k2 k3 k4 k5 ⊢
 refine ok_brk (fun hc => ?_) (fun hc => ?_)
 ·have hc := of_decide_eq_true hc
  refine memM_ok hF hl k5 fun m2 p2 hm2 hp2 => ok_chk (by simp; omega) (ok_chk (show InR _ from ⟨by omega, by omega⟩) (hn _ ⟨by dsimp only; omega, by dsimp only; omega, by dsimp only; rw [snoc_len]; omega, fun x hx => ?_, hp2⟩ (by dsimp only; omega)))
  rcases List.mem_append.1 hx with hx | hx
  ·exact k4 x hx
  ·rw [List.mem_singleton.1 hx]; exact hm2
 ·refine ok_some ⟨⟨by dsimp only; omega, hm1, k4, by dsimp only; omega, ?_⟩, by dsimp only; omega⟩
  exact closeOK_of (a := 2 * x1 / 1) (b := 2 * x2 / 2) (c := 2 * x3 / 3) (d := 2 * x4 / 4) (by omega) (by omega) (by omega) (by omega)
structure Short (m : Member) : Prop where
 t : m.Ship.Thrust.length ≤ 900
 w : m.Ship.Water.length ≤ 900
 i : m.Ship.Ice.length ≤ 900
 s : m.Stop.length ≤ 900
theorem GoodM.short' {m : Member} (h : GoodM m) : Short m := by
 have h1 := steady_len (check_steadyThrust h.ship)
 have h2 := steady_len (check_steadyWater h.ship)
 have h3 := steady_len (check_steadyIce h.ship)
 have h4 := steady_len h.stop
 exact ⟨by omega, by omega, by omega, by omega⟩
theorem at_zero {l : List Pt} : (at_ l 0).2 = if curve l = false then 40 else 0 := by
 unfold at_
 by_cases h : curve l = false
 ·rw [if_pos h, if_pos h]
 ·rw [if_neg h, if_neg h, if_neg (by decide)]
theorem right_eq {F : Nat} (hF : 1000 ≤ F) {m : Member} (hs : Short m) : convoy_right F m = some (memErr m) := by
 have F0 : 0 < F := by omega
 obtain ⟨s1, s2, s3, s4⟩ := hs
 refine Ok.eq ?_
 unfold convoy_right memErr
 refine ok_bnde (check_eq hF s1 s2 s3) (ok_brk (fun h => ?_) (fun h => ?_))
 ·have h : check m.Ship ≠ 0 := by simpa using h
  rw [if_pos h]; exact ok_some rfl
 have h : check m.Ship = 0 := by simpa using h
 rw [if_neg (by simp [h])]
 refine ok_bnde (cwithin_eq ..) (ok_band (fun _ => cwithin_eq ..) (ok_band (fun _ => cwithin_eq ..) ?_))
 have hcond : (!within m.Length 10 500 || !(!!within m.Length 10 500 && within m.Delay 0 600) || !(!(!within m.Length 10 500 || !(!!within m.Length 10 500 && within m.Delay 0 600)) && within m.Short 0 20000)) = !numOK m := by
  unfold numOK
  cases within m.Length 10 500 <;> cases within m.Delay 0 600 <;> cases within m.Short 0 20000 <;> rfl
 refine ok_brk (fun h2 => ok_some ?_) (fun h2 => ?_)
 ·rw [hcond] at h2
  have h2 : numOK m = false := by simpa using h2
  rw [h2]; rfl
 rw [hcond] at h2
 have h2 : numOK m = true := by simpa using h2
 rw [h2, Bool.true_and]
 refine ok_bnde (at_eq hF s4 0) ?_
 dsimp only
 rw [at_zero]
 cases hc : curve m.Stop with
 | false =>
  have hst : stopOK m = false := by simp [stopOK, steady, hc]
  rw [hst]
  exact ok_chk (fun h => by simp at h) (ok_bnde rfl (ok_bnde rfl (ok_brkT rfl (ok_some rfl))))
 | true =>
  have hlen := (curve_lt hc).2
  rw [if_neg (show ¬ (true = false) by simp)]
  refine ok_chk (fun _ => ⟨by decide, by omega⟩) ?_
  by_cases hy : (pt m.Stop 0).Y = 0
  ·have hy' : (m.Stop.getD (0 : Int).toNat (Point.mk 0 0)).Y = 0 := hy
   have ht := steady_len (check_steadyThrust h)
   refine ok_bnde (b := endX m.Stop) (by rw [hy']; exact top_eq (F := F) (by omega) (by omega)) (ok_bnde (b := endX m.Ship.Thrust) (by rw [hy']; exact top_eq (F := F) (by omega) (by omega)) ?_)
   rw [hy']
   refine ok_brk (fun h3 => ok_some ?_) (fun h3 => ?_)
   ·have h3 : endX m.Stop < endX m.Ship.Thrust := by simpa using h3
    have : stopOK m = false := by simp only [stopOK, decide_eq_false (show ¬ endX m.Ship.Thrust ≤ endX m.Stop by omega), Bool.and_false]
    rw [this]; rfl
   ·have h3 : ¬ endX m.Stop < endX m.Ship.Thrust := by simpa using h3
    have hst : stopOK m = steady m.Stop 1 := by simp only [stopOK, hy, decide_eq_true (show endX m.Ship.Thrust ≤ endX m.Stop by omega)]; simp
    rw [hst]
    have hb := curve_bd hc
    refine ok_join F0 (fun b : Bool => b = steady m.Stop 1) (fun b hb' => ?_) fun k hk => ok_chk (show InR _ from ⟨by omega, by omega⟩) ?_
    ·subst hb'
     cases hq : steady m.Stop 1 with
     | true => exact ok_brkF rfl (ok_some rfl)
     | false => exact ok_brkT rfl (ok_some rfl)
    ·refine ok_loop (fun q : Int => 0 ≤ q ∧ q < m.Stop.length ∧ ∀ j : Nat, q < (j : Int) → j < m.Stop.length → steadyAt m.Stop 1 (j : Int) = true) (fun q => q.toNat) ⟨by omega, by omega, fun j h1 h2 => by omega⟩ (by omega) fun q next hI hn => ?_
     obtain ⟨q1, q2, q3⟩ := hI
     refine ok_brk (fun h4 => ?_) (fun h4 => ?_)
     ·have h4 : q > 0 := of_decide_eq_true h4
      have b1 := hb q (by omega) q2
      have b2 := hb (q - 1) (by omega) (by omega)
      refine ok_chk ⟨by omega, q2⟩ (ok_chk (show InR _ from ⟨by omega, by omega⟩) (ok_chk ⟨by omega, by omega⟩ ?_))
      refine ok_bnde (b := (pt m.Stop q).Y - (pt m.Stop (q - 1)).Y) (by unfold convoy_right_1; exact chk_pos (show InR ((pt m.Stop q).Y - (pt m.Stop (q - 1)).Y) from ⟨by omega, by omega⟩)) ?_
      refine ok_brk (fun h5 => hk _ ?_) (fun h5 => ok_chk (show InR _ from ⟨by omega, by omega⟩) (hn _ ⟨by omega, by omega, fun j h6 h7 => ?_⟩ (by omega)))
      ·have h5 := of_decide_eq_true h5
       exact (steady_no (k := q.toNat) (by omega) (by omega) (by rw [Int.toNat_of_nonneg (by omega)]; simp only [steadyAt, Int.mul_one, decide_eq_true h5]; rfl)).symm
      ·have h5 := of_decide_eq_false h5
       by_cases e : (j : Int) = q
       ·rw [e]; simp only [steadyAt, Int.mul_one, decide_eq_false h5]; rfl
       ·exact q3 j (by omega) h7
     ·have h4 := of_decide_eq_false h4
      exact hk _ (steady_yes hc (k := m.Stop.length) (fun j hj h1 => q3 j (by omega) hj) (Nat.le_refl _)).symm
  ·have hst : stopOK m = false := by simp [stopOK, hy]
   rw [hst]
   have hcc : ((0 : Int) != 0 || (m.Stop.getD (0 : Int).toNat (Point.mk 0 0)).Y != 0) = true := by
    simp only [Bool.or_eq_true, bne_iff_ne]; exact .inr hy
   rw [hcc]
   exact ok_bnde rfl (ok_bnde rfl (ok_brkT rfl (ok_some rfl)))
abbrev memD : Member := Member.mk (Ship.mk 0 0 0 0 [] [] [] 0 0 0 0) [] 0 0 0
structure ShortC (c : Convoy) : Prop where
 b : Short c.Breaker
 s : ∀ m ∈ c.Ships, Short m
theorem GoodC.short {c : Convoy} (h : GoodC c) : ShortC c := ⟨h.br.short', fun m hm => (h.ships m hm).short'⟩
theorem ccheck_eq {F : Nat} (hF : 1000 ≤ F) {c : Convoy} (hs : ShortC c) : convoy_Check F c = some (conErr c) := by
 refine Ok.eq ?_
 unfold convoy_Check conErr
 refine ok_brk (fun h => ok_some ?_) (fun h => ?_)
 ·have h := of_decide_eq_true h
  rw [if_pos (by omega)]
 have h := of_decide_eq_false h
 rw [if_neg (by omega)]
 refine ok_chk (by simp; omega) ?_
 have hall : ∀ m ∈ [c.Breaker] ++ c.Ships, Short m := fun m hm => by
  rcases List.mem_append.1 hm with hm | hm
  ·rw [List.mem_singleton.1 hm]; exact hs.b
  ·exact hs.s m hm
 have hlen : ([c.Breaker] ++ c.Ships).length ≤ 7 := by simp; omega
 refine ok_rest (l := [c.Breaker] ++ c.Ships) (d := memD) (fun x : Int => x) (fun _ r => memsErr (c.Breaker :: c.Ships) = memsErr r) (by omega) rfl rfl (fun x next h0 h1 hq hm hn => ?_) (fun x next h1 hq => ?_)
 ·refine ok_brkT (decide_eq_true h1) (ok_chk ⟨h0, h1⟩ (ok_bnde (right_eq hF (hall _ hm)) (ok_brk (fun h2 => ?_) (fun h2 => ok_chk (show InR _ from ⟨by omega, by omega⟩) (hn _ rfl ?_)))))
  ·have h2 : memErr (([c.Breaker] ++ c.Ships).getD x.toNat memD) ≠ 0 := by simpa using h2
   have e : memsErr (c.Breaker :: c.Ships) = memErr (([c.Breaker] ++ c.Ships).getD x.toNat memD) := by rw [hq, memsErr, if_pos h2]
   refine ok_some ?_
   rw [e, if_pos h2]
  ·have h2 : memErr (([c.Breaker] ++ c.Ships).getD x.toNat memD) = 0 := by simpa using h2
   rw [hq, memsErr, if_neg (fun e => e h2)]
 ·have e : memsErr (c.Breaker :: c.Ships) = 0 := hq
  rw [e, if_neg (by simp)]
  refine ok_brkF (decide_eq_false (by omega)) (ok_bnde (cwithin_eq ..) (ok_brk (fun h2 => ok_some ?_) (fun h2 => ?_)))
  ·have h2 : within c.Clear 0 2000 = false := by simpa using h2
   rw [h2]; rfl
  have h2 : within c.Clear 0 2000 = true := by simpa using h2
  rw [h2, Bool.true_and]
  have step : ∀ {i b : Int} {n : Nat}, i < 4 → i = n → True := fun _ _ => trivial
  obtain ⟨n, hn⟩ : ∃ n, F = n + 5 := ⟨F - 5, by omega⟩
  subst hn
  simp only [loopC_succ]
  have idx : ∀ (i : Int), 0 ≤ i → i < 4 → (0 ≤ i ∧ i < ((4 : Nat) : Int)) := fun i a b => ⟨a, b⟩
  unfold closeOK
  refine ok_brkT rfl (ok_chk (by decide) (ok_bnde (cwithin_eq ..) (ok_brk (fun g => ok_some ?_) (fun g => ok_chk (by decide) ?_))))
  ·have g : within c.Close.a0 0 1440 = false := by simpa using g
   rw [g]; rfl
  have g0 : within c.Close.a0 0 1440 = true := by simpa using g
  refine ok_brkT rfl (ok_chk (by decide) (ok_bnde (cwithin_eq ..) (ok_brk (fun g => ok_some ?_) (fun g => ok_chk (by decide) ?_))))
  ·have g : within c.Close.a1 0 c.Close.a0 = false := by simpa using g
   rw [g]; simp
  have g1 : within c.Close.a1 0 c.Close.a0 = true := by simpa using g
  refine ok_brkT rfl (ok_chk (by decide) (ok_bnde (cwithin_eq ..) (ok_brk (fun g => ok_some ?_) (fun g => ok_chk (by decide) ?_))))
  ·have g : within c.Close.a2 0 c.Close.a1 = false := by simpa using g
   rw [g]; simp
  have g2 : within c.Close.a2 0 c.Close.a1 = true := by simpa using g
  refine ok_brkT rfl (ok_chk (by decide) (ok_bnde (cwithin_eq ..) (ok_brk (fun g => ok_some ?_) (fun g => ok_chk (by decide) ?_))))
  ·have g : within c.Close.a3 0 c.Close.a2 = false := by simpa using g
   rw [g]; simp
  have g3 : within c.Close.a3 0 c.Close.a2 = true := by simpa using g
  refine ok_brkF rfl (ok_some ?_)
  rw [g0, g1, g2, g3]; rfl
def askErr (c : Convoy) (v : Int) : Int := if conErr c ≠ 0 then conErr c else if within v 0 250 = false then 6 else 0
theorem asked_good {c : Convoy} (h : GoodC c) {v : Int} (hv : 0 ≤ v ∧ v ≤ 250) : askErr c v = 0 := by
 unfold askErr
 rw [if_neg (by simp [conErr_ok.2 h]), if_neg (by simp [within]; omega)]
theorem way_eq {F : Nat} {v s : Int} (hv : 0 ≤ v ∧ v ≤ 250) (hs : 0 ≤ s ∧ s ≤ 100000) : convoy_way F v s = some (463 * v * s / 9000, (463 * v * s + 8999) / 9000) := by
 refine Ok.eq ?_
 unfold convoy_way
 have h := way_bd hv hs
 exact ok_chk (show InR _ from ⟨by omega, by omega⟩) (ok_chk (show InR _ from ⟨by omega, by omega⟩) (ok_chk ⟨by omega, by omega⟩ (ok_chk (show InR _ from ⟨by omega, by omega⟩) (ok_chk ⟨by omega, by omega⟩ (ok_some rfl)))))
theorem lowest_parts {n d : Int} (hn : 0 ≤ n) (hd : 1 ≤ d) : (lowest n d).1 * d = n * (lowest n d).2 ∧ 1 ≤ (lowest n d).2 ∧ 0 ≤ (lowest n d).1 ∧ (lowest n d).1 ≤ n ∧ (lowest n d).2 ≤ d := by
 have hg : 0 < (Int.gcd n d : Int) := by have := Int.gcd_pos_of_ne_zero_right n (b := d) (by omega); omega
 have h1 : (Int.gcd n d : Int) * (n / (Int.gcd n d : Int)) = n := Int.mul_ediv_cancel' (Int.gcd_dvd_left ..)
 have h2 : (Int.gcd n d : Int) * (d / (Int.gcd n d : Int)) = d := Int.mul_ediv_cancel' (Int.gcd_dvd_right ..)
 have h3 : 0 ≤ n / (Int.gcd n d : Int) := Int.ediv_nonneg hn (by omega)
 have h4 : 0 ≤ d / (Int.gcd n d : Int) := Int.ediv_nonneg (by omega) (by omega)
 have h5 : n / (Int.gcd n d : Int) ≤ n := Int.ediv_le_self _ hn
 have h6 : d / (Int.gcd n d : Int) ≤ d := Int.ediv_le_self _ (by omega)
 show n / (Int.gcd n d : Int) * d = n * (d / (Int.gcd n d : Int)) ∧ 1 ≤ d / (Int.gcd n d : Int) ∧ 0 ≤ n / (Int.gcd n d : Int) ∧ n / (Int.gcd n d : Int) ≤ n ∧ d / (Int.gcd n d : Int) ≤ d
 generalize (Int.gcd n d : Int) = g at *
 generalize n / g = N at *
 generalize d / g = D at *
 refine ⟨?_, ?_, h3, h5, h6⟩
 ·rw [← h1, ← h2]
  rw [← Int.mul_assoc, Int.mul_comm N g]
 ·rcases Int.lt_or_le D 1 with h7 | h7
  ·have : D = 0 := by omega
   subst this; simp at h2; omega
  ·exact h7
theorem at_good {l : List Pt} (hc : curve l = true) {x : Int} (hx : 0 ≤ x ∧ x ≤ 1000) : at_ l x = (lowest (value l x).1 (value l x).2, 0) := by
 unfold at_
 rw [if_neg (by simp [hc]), if_neg (by simp [within]; omega)]
theorem halt_eq {F : Nat} (hF : 1000 ≤ F) {m : Member} (h : GoodM m) {v : Int} (hv : 0 ≤ v ∧ v ≤ 250) : convoy_Member_halt F m v = some ⟨nearM m v, farM m v⟩ := by
 refine Ok.eq ?_
 unfold convoy_Member_halt
 have hd := delay_bd hv h.delay
 obtain ⟨v1, v2, v3, v4⟩ := val_bd h hv.1
 refine ok_bnde (at_eq hF h.short'.s v) (ok_bnde (way_eq hv ⟨h.delay.1, by have := h.delay.2; omega⟩) ?_)
 rw [at_good h.curve (by omega)]
 obtain ⟨p1, p2, p3, p4, p5⟩ := lowest_parts v3 v1
 dsimp only
 have hf : (lowest (value m.Stop v).1 (value m.Stop v).2).1 / (lowest (value m.Stop v).1 (value m.Stop v).2).2 = (value m.Stop v).1 / (value m.Stop v).2 := ratio_floor (by omega) (by omega) p1
 have hce : ((lowest (value m.Stop v).1 (value m.Stop v).2).1 + (lowest (value m.Stop v).1 (value m.Stop v).2).2 - 1) / (lowest (value m.Stop v).1 (value m.Stop v).2).2 = ceilV m.Stop v := ratio_ceil (by omega) (by omega) p1
 have hcb := ceil_bd h hv.1
 rw [hf, hce]
 refine ok_chk ⟨⟨p3, by omega⟩, by omega⟩ (ok_chk (show InR _ from ⟨by omega, by omega⟩) (ok_chk (show InR _ from ⟨by omega, by omega⟩) (ok_chk ⟨⟨by omega, by omega⟩, by omega⟩ (ok_chk (show InR _ from ⟨by omega, by omega⟩) (ok_some ?_)))))
 show Span.mk _ _ = Span.mk _ _
 congr 1
 unfold nearM
 split <;> omega
noncomputable def gapsM {α : Type} (F : Nat) (c : Convoy) (v : Int) (K : List Int → Option α) : Option α :=
 bnd (convoy_Member_halt F c.Breaker v) (fun (x_2 : Span) => loopC (fun (x_3 : Int × (List Int × (Int × Int))) => fun x_4 => brk (decide (x_3.1 < (c.Ships.length : Int))) (chk (0 ≤ x_3.1 ∧ x_3.1 < (c.Ships.length : Int)) (bnd (convoy_Member_halt F (c.Ships.getD (x_3.1.toNat) memD) v) (fun (x_5 : Span) => chk (InR (x_5.Hi - x_3.2.2.2)) (chk (InR (c.Clear + if x_5.Hi - x_3.2.2.2 > 0 then x_5.Hi - x_3.2.2.2 else 0)) (chk (List.length x_3.2.1 + [c.Clear + if x_5.Hi - x_3.2.2.2 > 0 then x_5.Hi - x_3.2.2.2 else 0].length ≤ (1000000000 : Nat)) (chk (InR (x_3.1 + 1)) (x_4 ((x_3.1 + 1, x_3.2.1 ++ [c.Clear + if x_5.Hi - x_3.2.2.2 > 0 then x_5.Hi - x_3.2.2.2 else 0], x_5.Hi, x_5.Lo))))))))) (K x_3.2.1)) F ((0, [], x_2.Hi, x_2.Lo)))
theorem gapsM_ok {α : Type} {post : α → Prop} {F : Nat} (hF : 1000 ≤ F) {c : Convoy} (hc : GoodC c) {v : Int} (hv : 0 ≤ v ∧ v ≤ 250) {K : List Int → Option α} (h : Ok post (K (gapsL c.Clear v c.Breaker c.Ships))) : Ok post (gapsM F c v K) := by
 unfold gapsM
 have hlen := hc.len
 refine ok_bnde (halt_eq hF hc.br hv) ?_
 refine ok_rest (l := c.Ships) (d := memD) (fun x : Int × (List Int × (Int × Int)) => x.1) (fun x r => ∃ p, GoodM p ∧ x.2.2.2 = nearM p v ∧ (x.2.1.length : Int) = x.1 ∧ gapsL c.Clear v c.Breaker c.Ships = x.2.1 ++ gapsL c.Clear v p r) (by omega) rfl ⟨c.Breaker, hc.br, rfl, rfl, rfl⟩ (fun x next h0 h1 hq hm hn => ?_) (fun x next h1 hq => ?_)
 ·obtain ⟨i, out, hi, lo⟩ := x
  obtain ⟨p, g1, g2, g3, g4⟩ := hq
  dsimp only at h0 h1 g2 g3 g4 hm hn ⊢
  have hm' := hc.ships _ hm
  have hb := gap_bd g1 hm' hc.clear hv
  have hgap : c.Clear + (if farM (c.Ships.getD i.toNat memD) v - lo > 0 then farM (c.Ships.getD i.toNat memD) v - lo else 0) = gapM c.Clear v p (c.Ships.getD i.toNat memD) := by
   rw [g2]; unfold gapM; congr 1; split <;> omega
  have f1 := far_bd hm' hv
  have f2 := near_bd g1 hv.1
  refine ok_brkT (decide_eq_true h1) (ok_chk ⟨h0, h1⟩ (ok_bnde (halt_eq hF hm' hv) ?_))
  dsimp only
  rw [hgap]
  refine ok_chk (show InR _ from ⟨by omega, by omega⟩) (ok_chk (show InR _ from ⟨by have := hc.clear; omega, by omega⟩) (ok_chk (by simp; omega) (ok_chk (show InR _ from ⟨by omega, by omega⟩) (hn _ rfl ⟨_, hm', rfl, by dsimp only; rw [snoc_len]; omega, ?_⟩))))
  dsimp only
  rw [g4, gapsL, List.append_assoc]; rfl
 ·obtain ⟨i, out, hi, lo⟩ := x
  obtain ⟨p, g1, g2, g3, g4⟩ := hq
  dsimp only at h1 g4 ⊢
  refine ok_brkF (decide_eq_false (by omega)) ?_
  rw [gapsL, List.append_nil] at g4
  rwa [← g4]
def sumGL : List Int → List Member → Int
 | g :: r, m :: s => g + m.Length + sumGL r s
 | _, _ => 0
theorem tail_sum {clear v : Int} : ∀ {p : Member} {l : List Member}, tailL clear v p l = sumGL (gapsL clear v p l) l
 | _, [] => rfl
 | p, m :: r => by simp only [tailL, gapsL, sumGL, tail_sum (l := r)]
noncomputable def tailM {α : Type} (F : Nat) (c : Convoy) (v : Int) (K : Int → Option α) : Option α :=
 gapsM F c v fun g => loopC (fun (x_5 : Int × Int) => fun x_6 => brk (decide (x_5.2 < (List.length g : Int))) (chk (0 ≤ x_5.2 ∧ x_5.2 < (List.length g : Int)) (chk (0 ≤ x_5.2 ∧ x_5.2 < (c.Ships.length : Int)) (chk (InR (g.getD (x_5.2.toNat) 0 + (c.Ships.getD (x_5.2.toNat) memD).Length)) (chk (InR (x_5.1 + (g.getD (x_5.2.toNat) 0 + (c.Ships.getD (x_5.2.toNat) memD).Length))) (chk (InR (x_5.2 + 1)) (x_6 ((x_5.1 + (g.getD (x_5.2.toNat) 0 + (c.Ships.getD (x_5.2.toNat) memD).Length), x_5.2 + 1)))))))) (K x_5.1)) F ((0, 0))
theorem gaps_mem {clear v : Int} (hc : 0 ≤ clear ∧ clear ≤ 2000) (hv : 0 ≤ v ∧ v ≤ 250) : ∀ {p : Member} {l : List Member}, GoodM p → GoodL l → ∀ g ∈ gapsL clear v p l, clear ≤ g ∧ g ≤ 30000
 | _, [], _, _, g, hg => by cases hg
 | p, m :: r, hp, hl, g, hg => by
  have hm := hl m (by simp)
  rcases List.mem_cons.1 hg with rfl | hg
  ·exact gap_bd hp hm hc hv
  ·exact gaps_mem hc hv hm (fun x hx => hl x (by simp [hx])) g hg
theorem tailM_ok {α : Type} {post : α → Prop} {F : Nat} (hF : 1000 ≤ F) {c : Convoy} (hc : GoodC c) {v : Int} (hv : 0 ≤ v ∧ v ≤ 250) {K : Int → Option α} (h : Ok post (K (tailL c.Clear v c.Breaker c.Ships))) : Ok post (tailM F c v K) := by
 unfold tailM
 refine gapsM_ok hF hc hv ?_
 have hlen := hc.len
 have hgl : (gapsL c.Clear v c.Breaker c.Ships).length = c.Ships.length := gapsL_len
 have hg := gaps_mem hc.clear hv hc.br hc.ships
 rw [tail_sum] at h
 generalize gapsL c.Clear v c.Breaker c.Ships = g at *
 refine ok_rest (l := g) (d := 0) (fun x : Int × Int => x.2) (fun x r => 0 ≤ x.1 ∧ x.1 ≤ 30500 * x.2 ∧ sumGL g c.Ships = x.1 + sumGL r (c.Ships.drop x.2.toNat)) (by omega) rfl ⟨Int.le_refl _, by simp, by simp⟩ (fun x next h0 h1 hq hm hn => ?_) (fun x next h1 hq => ?_)
 ·obtain ⟨n, i⟩ := x
  obtain ⟨q1, q2, q3⟩ := hq
  dsimp only at h0 h1 q1 q2 q3 hm hn ⊢
  have hi : i.toNat < c.Ships.length := by omega
  have hmem : c.Ships.getD i.toNat memD ∈ c.Ships := getD_mem hi
  have hl := (hc.ships _ hmem).len
  have hgb := hg _ hm
  have hcl := hc.clear
  refine ok_brkT (decide_eq_true h1) (ok_chk ⟨h0, h1⟩ (ok_chk ⟨h0, by omega⟩ (ok_chk (show InR _ from ⟨by omega, by omega⟩) (ok_chk (show InR _ from ⟨by omega, by omega⟩) (ok_chk (show InR _ from ⟨by omega, by omega⟩) (hn _ rfl ⟨by dsimp only; omega, by dsimp only; omega, ?_⟩))))))
  dsimp only
  rw [q3, drop_getD memD hi, sumGL, show (i + 1).toNat = i.toNat + 1 by omega]
  omega
 ·obtain ⟨n, i⟩ := x
  obtain ⟨q1, q2, q3⟩ := hq
  dsimp only at h1 q1 q2 q3 ⊢
  refine ok_brkF (decide_eq_false (by omega)) ?_
  have e : sumGL [] (List.drop i.toNat c.Ships) = 0 := by cases List.drop i.toNat c.Ships <;> rfl
  rw [e, Int.add_zero] at q3
  rwa [← q3]
theorem close_get {c : Convoy} {p : Int} (hp : 0 ≤ p ∧ p ≤ 3) : [c.Close.a0, c.Close.a1, c.Close.a2, c.Close.a3].getD p.toNat 0 = closeAt c.Close p := by
 have : p = 0 ∨ p = 1 ∨ p = 2 ∨ p = 3 := by omega
 rcases this with rfl | rfl | rfl | rfl <;> rfl
noncomputable def fitsM {α : Type} (F : Nat) (c : Convoy) (v p : Int) (K : Bool → Option α) : Option α :=
 tailM F c v fun n => chk (0 ≤ p ∧ p < ((4 : Nat) : Int)) (chk (InR (60 * [c.Close.a0, c.Close.a1, c.Close.a2, c.Close.a3].getD p.toNat 0)) (bnd (convoy_way F v (60 * [c.Close.a0, c.Close.a1, c.Close.a2, c.Close.a3].getD p.toNat 0)) (fun (x_7 : Int × Int) => K (decide (n ≤ x_7.1)))))
theorem fitsM_ok {α : Type} {post : α → Prop} {F : Nat} (hF : 1000 ≤ F) {c : Convoy} (hc : GoodC c) {v : Int} (hv : 0 ≤ v ∧ v ≤ 250) {p : Int} (hp : 0 ≤ p ∧ p ≤ 3) {K : Bool → Option α} (h : Ok post (K (decide (fitsC c v p)))) : Ok post (fitsM F c v p K) := by
 unfold fitsM
 refine tailM_ok hF hc hv ?_
 rw [close_get hp]
 have hb := close_bd hc (p := p)
 exact ok_chk ⟨hp.1, by omega⟩ (ok_chk (show InR _ from ⟨by omega, by omega⟩) (ok_bnde (way_eq hv ⟨by omega, by omega⟩) h))
theorem iright_eq {F : Nat} (s : Span) {n : Int} (hn : 0 ≤ n ∧ n ≤ 3) : ice_right F s n = some (rightS s n) := by
 refine Ok.eq ?_
 unfold ice_right rightS
 refine ok_bnde (b := Numbers.mk 100 400 100 3) rfl (ok_chk ⟨hn.1, by omega⟩ (ok_bnde rfl (ok_bbrk (fun h => ?_) (fun h => ?_))))
 ·refine ok_bnde (b := Numbers.mk 100 400 100 3) rfl (ok_chk (fun _ => ⟨hn.1, by omega⟩) ?_)
  have h' : inI s.Lo 0 (([100, 400, 100, 3] : List Int).getD n.toNat 0) = true := h
  rw [h]
  refine ok_bnde rfl (ok_some ?_)
  rw [h']; rfl
 ·refine ok_bnde rfl (ok_chk (fun h2 => by rw [h] at h2; cases h2) ?_)
  have h' : inI s.Lo 0 (([100, 400, 100, 3] : List Int).getD n.toNat 0) = false := h
  rw [h]
  refine ok_bnde rfl (ok_some ?_)
  rw [h']; rfl
theorem cell_eq {F : Nat} (hF : 1000 ≤ F) (c : Cell) : ice_CheckCell F c = some (checkCell c) := by
 refine Ok.eq ?_
 unfold ice_CheckCell
 have F0 : 0 < F := by omega
 refine ok_bnde (b := Spans.mk c.Conc c.Thick c.Ridge c.Press) rfl ?_
 have fin : ∀ b : Bool, b = (rightS c.Conc 0 && rightS c.Thick 1 && rightS c.Ridge 2 && rightS c.Press 3) → Ok (fun r => r = checkCell c) (brk (!b) (some (20 : Int)) (some 0)) := fun b hb => by
  refine ok_brk (fun h => ok_some ?_) (fun h => ok_some ?_)
  ·have h : b = false := by simpa using h
   rw [hb] at h
   by_cases g : goodCell c
   ·have := checkCell_ok.2 g
    unfold checkCell at this
    unfold checkCell
    simp only [all4] at this ⊢
    first
     | (rw [h] at this ⊢; simp_all)
     | simp_all
   ·exact (checkCell_20 g).symm
  ·have h : b = true := by simpa using h
   rw [hb] at h
   unfold checkCell
   simp only [all4]
   simp_all
 refine ok_join F0 (fun b : Bool => b = (rightS c.Conc 0 && rightS c.Thick 1 && rightS c.Ridge 2 && rightS c.Press 3)) (fun b hb => fin b hb) fun k hk => ?_
 refine ok_bnde (b := Numbers.mk 100 400 100 3) rfl ?_
 obtain ⟨n, hn⟩ : ∃ n, F = n + 5 := ⟨F - 5, by omega⟩
 subst hn
 simp only [loopC_succ]
 refine ok_brkT rfl (ok_chk (by decide) (ok_bnde (iright_eq _ (by decide)) (ok_brk (fun g => hk _ ?_) (fun g => ok_chk (by decide) ?_))))
 ·have g : rightS c.Conc 0 = false := by simpa using g
  rw [g]; rfl
 have g0 : rightS c.Conc 0 = true := by simpa using g
 refine ok_brkT rfl (ok_chk (by decide) (ok_bnde (iright_eq _ (by decide)) (ok_brk (fun g => hk _ ?_) (fun g => ok_chk (by decide) ?_))))
 ·have g : rightS c.Thick 1 = false := by simpa using g
  rw [g]; simp
 have g1 : rightS c.Thick 1 = true := by simpa using g
 refine ok_brkT rfl (ok_chk (by decide) (ok_bnde (iright_eq _ (by decide)) (ok_brk (fun g => hk _ ?_) (fun g => ok_chk (by decide) ?_))))
 ·have g : rightS c.Ridge 2 = false := by simpa using g
  rw [g]; simp
 have g2 : rightS c.Ridge 2 = true := by simpa using g
 refine ok_brkT rfl (ok_chk (by decide) (ok_bnde (iright_eq _ (by decide)) (ok_brk (fun g => hk _ ?_) (fun g => ok_chk (by decide) ?_))))
 ·have g : rightS c.Press 3 = false := by simpa using g
  rw [g]; simp
 have g3 : rightS c.Press 3 = true := by simpa using g
 refine ok_brkF rfl (hk _ ?_)
 rw [g0, g1, g2, g3]; rfl
theorem ok_great {α : Type} {post : α → Prop} {F : Nat} (hF : 1000 ≤ F) {so : Int → Bool} {lo0 hi0 : Int} (h0 : 0 ≤ lo0) (hle : lo0 ≤ hi0) (hhi : hi0 ≤ 900) {test : Int → (Bool → Option α) → Option α} (ht : ∀ v (K : Bool → Option α), lo0 ≤ v → v ≤ hi0 → Ok post (K (so v)) → Ok post (test v K))
  {K : Int × Bool → Option α} (hK : Ok post (K (great so lo0 hi0, true))) :
  Ok post (loopC (fun (x : Int × Int) => fun next => brk (decide (x.1 < x.2)) (chk (InR (x.2 - x.1)) (chk (InR (x.2 - x.1 + 1)) (chk (0 ≤ x.2 - x.1 + 1 ∧ x.2 - x.1 + 1 ≤ 9223372036854775807) (chk (InR (x.1 + (x.2 - x.1 + 1) / 2)) (join F (fun b : Bool => brk b (next ((x.1 + (x.2 - x.1 + 1) / 2, x.2))) (chk (InR (x.1 + (x.2 - x.1 + 1) / 2 - 1)) (next ((x.1, x.1 + (x.2 - x.1 + 1) / 2 - 1))))) (fun k => test (x.1 + (x.2 - x.1 + 1) / 2) k)))))) (K ((x.1, true)))) F ((lo0, hi0))) := by
 refine ok_loop (fun q : Int × Int => lo0 ≤ q.1 ∧ q.1 ≤ q.2 ∧ q.2 ≤ hi0 ∧ great so q.1 q.2 = great so lo0 hi0) (fun q => (q.2 - q.1).toNat) ⟨Int.le_refl _, hle, Int.le_refl _, rfl⟩ (by dsimp only; omega) fun q next hI hn => ?_
 obtain ⟨lo, hi⟩ := q
 obtain ⟨q1, q2, q3, q4⟩ := hI
 dsimp only at q1 q2 q3 q4 ⊢
 refine ok_brk (fun h => ?_) (fun h => ?_)
 ·have h : lo < hi := of_decide_eq_true h
  refine ok_chk (show InR _ from ⟨by omega, by omega⟩) (ok_chk (show InR _ from ⟨by omega, by omega⟩) (ok_chk ⟨by omega, by omega⟩ (ok_chk (show InR _ from ⟨by omega, by omega⟩) (ok_join (by omega) (fun b => b = so (lo + (hi - lo + 1) / 2)) (fun b hb => ?_) fun k hk => ht _ _ (by omega) (by omega) (hk _ rfl)))))
  rw [great_step h] at q4
  refine ok_brk (fun g => hn _ ⟨by dsimp only; omega, by dsimp only; omega, by dsimp only; omega, ?_⟩ (by dsimp only; omega)) (fun g => ok_chk (show InR _ from ⟨by omega, by omega⟩) (hn _ ⟨by dsimp only; omega, by dsimp only; omega, by dsimp only; omega, ?_⟩ (by dsimp only; omega)))
  ·rw [if_pos (by rw [← hb]; exact g)] at q4; exact q4
  ·rw [if_neg (by rw [← hb, g]; simp)] at q4; exact q4
 ·have h : ¬ lo < hi := of_decide_eq_false h
  rw [great_done h] at q4
  rw [← q4] at hK
  exact hK
noncomputable def goesM {α : Type} (F : Nat) (s : Ship) (i : Ice) (v : Int) (ch : Bool) (K : Bool → Option α) : Option α :=
 join F (fun b : Bool => brk b (bearsM F s i v ch K) (K false)) (fun k => makesM F s i v ch k)
theorem goesM_ok {α : Type} {post : α → Prop} {F : Nat} (hF : 1000 ≤ F) {s : Ship} (hc : check s = 0) {i : Ice} (hi : goodIce i) {v : Int} (hv : 0 ≤ v ∧ v ≤ 250) (ch : Bool) {K : Bool → Option α} (h : Ok post (K (goesP s i ch v))) : Ok post (goesM F s i v ch K) := by
 unfold goesM
 refine ok_join (by omega) (fun b => b = makes s i ch v) (fun b hb => ?_) fun k hk => makes_ok hF hc hi hv ch (hk _ rfl)
 refine ok_brk (fun g => bears_ok hF hc hi hv ch ?_) (fun g => ?_)
 ·have : goesP s i ch v = bears s i ch v := by unfold goesP; rw [← hb, g, Bool.true_and]
  rwa [this] at h
 ·have : goesP s i ch v = false := by unfold goesP; rw [← hb, g, Bool.false_and]
  rwa [this] at h
theorem ssafe_eq {F : Nat} (hF : 1000 ≤ F) {s : Ship} (hc : check s = 0) {c : Cell} (hg : goodCell c) (ch : Bool) : hull_Ship_safe F s c ch = some (safe s c ch) := by
 have F0 : 0 < F := by omega
 have hl := goodCell_last hg
 refine Ok.eq ?_
 unfold hull_Ship_safe
 refine ok_bnde (b := lastI c) rfl ?_
 refine ok_join F0 (fun x : Int × Bool => x.1 = speed s (lastI c) ch) (fun x hx => ?_) fun k hk => ?_
 ·refine ok_brk (fun h => ok_some ?_) (fun h => ?_)
  ·have h := of_decide_eq_true h
   rw [hx] at h
   unfold safe; rw [if_pos h]
  ·have h := of_decide_eq_false h
   rw [hx] at h
   refine ok_join F0 (fun x : Int × Bool => x = goes s (lastI c) ch) (fun x hx => ?_) fun k hk => ?_
   ·subst hx
    refine ok_brk (fun g => ok_some ?_) (fun g => ok_some ?_)
    ·have g : (goes s (lastI c) ch).2 = false := by simpa using g
     unfold safe; rw [if_neg h, if_pos g]
    ·have g : (goes s (lastI c) ch).2 = true := by simpa using g
     unfold safe; rw [if_neg h, if_neg (by rw [g]; simp)]
   ·refine ok_join F0 (fun b : Bool => b = goesP s (lastI c) ch 10) (fun b hb => ?_) fun k2 hk2 => goesM_ok hF hc hl (v := 10) (by decide) ch (hk2 _ rfl)
    refine ok_brk (fun g => hk _ ?_) (fun g => ?_)
    ·have g : b = false := by simpa using g
     rw [goes_eq, if_neg (by rw [← hb, g]; simp)]
    ·have g : b = true := by simpa using g
     refine ok_great hF (so := goesP s (lastI c) ch) (by decide) (by decide) (by decide) (test := fun v K => goesM F s (lastI c) v ch K) (fun v K h1 h2 h3 => goesM_ok hF hc hl (by omega) ch h3) (K := fun x => k x) (hk _ ?_)
     rw [goes_eq, if_pos (by rw [← hb, g])]
 ·refine ok_join F0 (fun b : Bool => b = makes s (lastI c) ch 0) (fun b hb => ?_) fun k2 hk2 => makes_ok hF hc hl (v := 0) (by decide) ch (hk2 _ rfl)
  refine ok_brk (fun g => hk _ ?_) (fun g => ?_)
  ·have g : b = false := by simpa using g
   unfold speed greatest
   rw [if_neg (by show ¬ makes s (lastI c) ch 0 = true; rw [← hb, g]; simp)]
  ·have g : b = true := by simpa using g
   refine ok_great hF (so := fun v => makes s (lastI c) ch v) (by decide) (by decide) (by decide) (test := fun v K => makesM F s (lastI c) v ch K) (fun v K h1 h2 h3 => makes_ok hF hc hl (by omega) ch h3) (K := fun x => k x) (hk _ ?_)
   unfold speed greatest
   rw [if_pos (show makes s (lastI c) ch 0 = true by rw [← hb, g])]
theorem hmet_eq {F : Nat} (hF : 1000 ≤ F) {s : Ship} (h1 : s.Thrust.length ≤ 900) (h2 : s.Water.length ≤ 900) (h3 : s.Ice.length ≤ 900) (c : Cell) : hull_met F s c = some (met s c) := by
 refine Ok.eq ?_
 unfold hull_met met
 refine ok_bnde (check_eq hF h1 h2 h3) (ok_brk (fun h => ok_some ?_) (fun h => ok_bnde (cell_eq hF c) (ok_some ?_)))
 ·have h : check s ≠ 0 := by simpa using h
  rw [if_pos h]
 ·have h : check s = 0 := by simpa using h
  rw [if_neg (by simp [h])]
theorem safe_eq {F : Nat} (hF : 1000 ≤ F) {m : Member} (h : GoodM m) {c : Cell} (hg : goodCell c) (ch : Bool) : hull_Safe F m.Ship c ch = some (safe m.Ship c ch) := by
 refine Ok.eq ?_
 unfold hull_Safe
 refine ok_bnde (hmet_eq hF h.short'.t h.short'.w h.short'.i c) ?_
 rw [met_zero h.ship hg]
 exact ok_brkF rfl (ok_bnde (ssafe_eq hF h.ship hg ch) (ok_some rfl))
theorem most_eq' {F : Nat} (hF : 1000 ≤ F) {c : Convoy} (hc : GoodC c) {cell : Cell} (hg : goodCell cell) : convoy_Convoy_most F c cell = some (mostC c cell) := by
 refine Ok.eq ?_
 unfold convoy_Convoy_most
 have hlen := hc.len
 have hall : GoodL ([c.Breaker] ++ c.Ships) := hc.all
 refine ok_chk (by simp; omega) ?_
 have hal : (([c.Breaker] ++ c.Ships).length) ≤ 7 := by simp; omega
 refine ok_rest (l := [c.Breaker] ++ c.Ships) (d := memD) (fun x : Int × Int => x.2) (fun x r => mostC c cell = mostFrom cell (decide (x.2 > 0)) r x.1) (by omega) rfl rfl (fun x next h0 h1 hq hm hn => ?_) (fun x next h1 hq => ?_)
 ·obtain ⟨out, i⟩ := x
  dsimp only at h0 h1 hq hm hn ⊢
  have hm' := hall _ hm
  refine ok_brkT (decide_eq_true h1) (ok_chk ⟨h0, h1⟩ (ok_bnde (safe_eq hF hm' hg _) (ok_brk (fun h => ok_some ?_) (fun h => ok_chk (show InR _ from ⟨by omega, by omega⟩) (hn _ rfl ?_)))))
  ·have h : (safe (([c.Breaker] ++ c.Ships).getD i.toNat memD).Ship cell (decide (i > 0))).2 ≠ 0 := by simpa using h
   rw [hq, mostFrom, if_pos h]
  ·have h : (safe (([c.Breaker] ++ c.Ships).getD i.toNat memD).Ship cell (decide (i > 0))).2 = 0 := by simpa using h
   dsimp only
   rw [hq, mostFrom, if_neg (fun e => e h), decide_eq_true (show i + 1 > 0 by omega)]
   congr 1
   split <;> omega
 ·obtain ⟨out, i⟩ := x
  dsimp only at h1 hq ⊢
  exact ok_brkF (decide_eq_false (by omega)) (ok_some hq.symm)
theorem press_bd {cell : Cell} (hg : goodCell cell) : 0 ≤ cell.Press.Hi ∧ cell.Press.Hi ≤ 3 := by
 have h := hg.2.2.2
 unfold goodSpan at h
 omega
theorem fastest_ok {F : Nat} (hF : 1000 ≤ F) {c : Convoy} (hc : GoodC c) {cell : Cell} (hg : goodCell cell) : Ok (FastC c cell) (convoy_Convoy_fastest F c (mostC c cell) cell.Press.Hi) := by
 unfold convoy_Convoy_fastest
 have hb := most_bd hg (ch := false) (l := c.Breaker :: c.Ships) (out := 250) hc.all (by decide)
 change 0 ≤ mostC c cell ∧ mostC c cell ≤ 250 at hb
 refine ok_loop (fun v : Int => v ≤ mostC c cell ∧ 0 ≤ v ∧ ∀ u, v < u → ¬ HoldsC c cell u) (fun v => v.toNat) ⟨Int.le_refl _, hb.1, fun u hu h => by have := h.2.1; omega⟩ (by omega) fun v next hI hn => ?_
 obtain ⟨h1, h2, h3⟩ := hI
 refine ok_brk (fun h => ?_) (fun h => ok_some (.inl ⟨rfl, fun u hu => ?_⟩))
 ·have h : v ≥ 10 := of_decide_eq_true h
  refine fitsM_ok hF hc (v := v) (by omega) (press_bd hg) (K := fun b => brk b (some v) (chk (InR (v - 1)) (next (v - 1)))) (ok_brk (fun g => ok_some (.inr ⟨⟨h, h1, of_decide_eq_true g⟩, h3⟩)) (fun g => ok_chk (show InR _ from ⟨by omega, by omega⟩) (hn _ ⟨by omega, by omega, fun u hu hh => ?_⟩ (by omega))))
  have g := of_decide_eq_false g
  by_cases e : u = v
  ·subst e; exact g hh.2.2
  ·exact h3 u (by omega) hh
 ·have h : ¬ v ≥ 10 := of_decide_eq_false h
  have := hu.1
  exact h3 u (by omega) hu
def FastR (c : Convoy) (cell : Cell) (r : Int × Int) : Prop := ∃ v, FastC c cell v ∧ r = if v = 0 then (0, 4) else (v, 0)
section
variable {α : Type} {post : α → Prop}
end
section
variable {F : Nat} {c : Convoy} {v f : Int} {s w : List Int}
end
structure Thin (m : Member) : Prop where
 t : m.Ship.Thrust.length ≤ 12
 w : m.Ship.Water.length ≤ 12
 i : m.Ship.Ice.length ≤ 12
 s : m.Stop.length ≤ 12
structure ThinC (c : Convoy) : Prop where
 b : Thin c.Breaker
 s : ∀ m ∈ c.Ships, Thin m
 n : c.Ships.length ≤ 8
theorem Thin.short {m : Member} (h : Thin m) : Short m := ⟨by have := h.t; omega, by have := h.w; omega, by have := h.i; omega, by have := h.s; omega⟩
theorem ThinC.short {c : Convoy} (h : ThinC c) : ShortC c := ⟨h.b.short, fun m hm => (h.s m hm).short⟩
instance (s : Span) (n : Int) : Decidable (goodSpan s n) := by unfold goodSpan; infer_instance
instance (c : Cell) : Decidable (goodCell c) := by unfold goodCell; infer_instance
end Go.Proofs.Cb

namespace Go.Proofs.Cb
open Go Go.KX
set_option linter.unusedVariables false
theorem casked_eq {F : Nat} (hF : 1000 ≤ F) {c : Convoy} (hs : ShortC c) (v : Int) : convoy_asked F c v = some (askErr c v) := by
 refine Ok.eq ?_
 unfold convoy_asked askErr
 refine ok_bnde (ccheck_eq hF hs) (ok_brk (fun h => ok_some ?_) (fun h => ok_bnde (cwithin_eq ..) (ok_brk (fun h2 => ok_some ?_) (fun h2 => ok_some ?_))))
 ·have h : conErr c ≠ 0 := by simpa using h
  rw [if_pos h]
 ·have h : conErr c = 0 := by simpa using h
  have h2 : within v 0 250 = false := by simpa using h2
  rw [if_neg (by simp [h]), if_pos h2]
 ·have h : conErr c = 0 := by simpa using h
  have h2 : within v 0 250 = true := by simpa using h2
  rw [if_neg (by simp [h]), if_neg (by simp [h2])]
theorem tail_eq {F : Nat} (hF : 1000 ≤ F) {c : Convoy} (hc : GoodC c) {v : Int} (hv : 0 ≤ v ∧ v ≤ 250) : convoy_Tail F c v = some (tailL c.Clear v c.Breaker c.Ships, 0) := by
 refine Ok.eq ?_
 unfold convoy_Tail
 refine ok_bnde (casked_eq hF hc.short v) ?_
 rw [asked_good hc hv]
 exact ok_brkF rfl (tailM_ok hF hc hv (K := fun n => some (n, 0)) (ok_some rfl))
theorem cmet_good {F : Nat} (hF : 1000 ≤ F) {c : Convoy} (hc : GoodC c) {cell : Cell} (hg : goodCell cell) : convoy_met F c cell = some 0 := by
 refine Ok.eq ?_
 unfold convoy_met
 refine ok_bnde (ccheck_eq hF hc.short) ?_
 rw [conErr_ok.2 hc]
 refine ok_brkF rfl (ok_bnde (cell_eq hF cell) (ok_some ?_))
 exact checkCell_ok.2 hg
theorem Fastest_ok {F : Nat} (hF : 1000 ≤ F) {c : Convoy} (hc : GoodC c) {cell : Cell} (hg : goodCell cell) : Ok (FastR c cell) (convoy_Fastest F c cell) := by
 unfold convoy_Fastest
 refine ok_bnde (cmet_good hF hc hg) (ok_brkF rfl (ok_bnde (most_eq' hF hc hg) (ok_bnd _ (fastest_ok hF hc hg) fun v hv => ok_brk (fun h => ok_some ⟨v, hv, ?_⟩) (fun h => ok_some ⟨v, hv, ?_⟩))))
 ·rw [if_pos (by simpa using h)]
 ·rw [if_neg (by simpa using h)]
theorem cloneP_eq {F : Nat} {l : List Pt} (h : l.length ≤ 1000000) : slices_Clone_hull_Point F l = some l := by
 refine Ok.eq ?_
 unfold slices_Clone_hull_Point
 exact ok_chk (by omega) (ok_some rfl)
theorem own_eq {F : Nat} {m : Member} (h : Short m) : convoy_Member_own F m = some m := by
 obtain ⟨h1, h2, h3, h4⟩ := h
 refine Ok.eq ?_
 unfold convoy_Member_own
 exact ok_bnde (cloneP_eq (by omega)) (ok_bnde (cloneP_eq (by omega)) (ok_bnde (cloneP_eq (by omega)) (ok_bnde (cloneP_eq (by omega)) (ok_some rfl))))
end Go.Proofs.Cb

namespace Go.Proofs.Cb
open Go Go.KX
def ext (n : Nat) : Nat → List Int → List (List Int)
 | 0, s => [s]
 | k + 1, s => (List.range n).flatMap fun i => if ((i : Nat) : Int) ∈ s then [] else ext n k (s ++ [((i : Nat) : Int)])
abbrev allN (n : Nat) : List (List Int) := ext n n []
structure Ord (n : Nat) (l : List Int) : Prop where
 len : l.length = n
 dup : l.Nodup
 rng : ∀ x ∈ l, 0 ≤ x ∧ x < n
theorem mem_ext {n : Nat} : ∀ (k : Nat) (s r : List Int), r.length = k → (s ++ r).Nodup → (∀ x ∈ r, 0 ≤ x ∧ x < (n : Int)) → s ++ r ∈ ext n k s
 | 0, s, r, h, _, _ => by
  obtain rfl : r = [] := List.eq_nil_of_length_eq_zero h
  simp [ext]
 | k + 1, s, [], h, _, _ => by simp at h
 | k + 1, s, x :: r, h, hd, hr => by
  have hx := hr x List.mem_cons_self
  have ih := mem_ext k (s ++ [x]) r (by simpa using h) (by rw [List.append_assoc]; exact hd) fun y hy => hr y (List.mem_cons_of_mem _ hy)
  rw [List.append_assoc] at ih
  refine List.mem_flatMap.2 ⟨x.toNat, List.mem_range.2 (by omega), ?_⟩
  have e : ((x.toNat : Nat) : Int) = x := by omega
  rw [e, if_neg]
  ·exact ih
  ·intro hs
   have := (List.nodup_append.1 hd).2.2 x hs x List.mem_cons_self
   exact this rfl
theorem Ord.mem {n : Nat} {l : List Int} (h : Ord n l) : l ∈ allN n := mem_ext n [] l h.len h.dup h.rng
def cmpL : List Int → List Int → Int
 | [], [] => 0
 | [], _ :: _ => -1
 | _ :: _, [] => 1
 | a :: l, b :: r => if a < b then -1 else if b < a then 1 else cmpL l r
def isOrd (n : Nat) (l : List Int) : Bool := l.length == n && (decide l.Nodup && l.all fun x => decide (0 ≤ x ∧ x < (n : Int)))
theorem isOrd_ok {n : Nat} {l : List Int} (h : isOrd n l = true) : Ord n l := by
 simp only [isOrd, Bool.and_eq_true, beq_iff_eq, decide_eq_true_eq, List.all_eq_true] at h
 exact ⟨h.1, h.2.1, h.2.2⟩
def upL : List (List Int) → Bool
 | [] => true
 | a :: l => l.all (fun b => decide (0 ≤ cmpL b a)) && upL l
theorem all_ok : ([0, 1, 2, 3, 4, 5].all fun n => (allN n).all (isOrd n) && upL (allN n)) = true := by kernel_rfl
theorem all_ord {n : Nat} (hn : n ≤ 5) {l : List Int} (h : l ∈ allN n) : Ord n l := by
 have h1 := List.all_eq_true.1 all_ok n (by simp only [List.mem_cons]; omega)
 simp only [Bool.and_eq_true, List.all_eq_true] at h1
 exact isOrd_ok (h1.1 l h)
theorem upL_ok : ∀ {l1 l2 : List (List Int)} {a b : List Int}, upL (l1 ++ a :: l2) = true → b ∈ l2 → 0 ≤ cmpL b a
 | [], l2, a, b, h, hb => by
  simp only [List.nil_append, upL, Bool.and_eq_true, List.all_eq_true] at h
  exact of_decide_eq_true (h.1 b hb)
 | x :: l1, l2, a, b, h, hb => by
  simp only [List.cons_append, upL, Bool.and_eq_true] at h
  exact upL_ok h.2 hb
theorem cmp_refl : ∀ l : List Int, cmpL l l = 0
 | [] => rfl
 | a :: l => by simp [cmpL, cmp_refl l]
theorem all_up {n : Nat} (hn : n ≤ 5) : upL (allN n) = true := by
 have h1 := List.all_eq_true.1 all_ok n (by simp only [List.mem_cons]; omega)
 simp only [Bool.and_eq_true] at h1
 exact h1.2
theorem ins_perm {l : List Int} {p : Nat} {x : Int} : (insL l p [x]).Perm (x :: l) := by
 unfold insL
 have := List.perm_middle (a := x) (l₁ := l.take p) (l₂ := l.drop p)
 rwa [List.take_append_drop] at this
theorem Ord.ins {n : Nat} {l : List Int} (h : Ord n l) {p : Nat} : Ord (n + 1) (insL l p [(n : Int)]) := by
 have hp := ins_perm (l := l) (p := p) (x := (n : Int))
 refine ⟨by rw [hp.length_eq, List.length_cons, h.len], hp.nodup_iff.2 (List.nodup_cons.2 ⟨fun hm => ?_, h.dup⟩), fun x hx => ?_⟩
 ·have := (h.rng _ hm).2; omega
 ·rcases List.mem_cons.1 (hp.mem_iff.1 hx) with rfl | hx
  ·omega
  ·have := h.rng x hx; omega
end Go.Proofs.Cb

namespace Go.Proofs.Cb
open Go Go.KX
set_option linter.unusedVariables false
set_option maxRecDepth 100000
noncomputable section
def tailOM {α : Type} (F : Nat) (a0 : Convoy) (hs : List Span) (order : List Int) (KK : Int → Option α) : Option α :=
 (loopC (fun (x_12 : Int × Int × Int) => fun x_13 => brk (decide (x_12.2.1 < (↑(List.length order) : Int))) (chk (0 ≤ x_12.2.1 ∧ x_12.2.1 < (↑(List.length order) : Int)) (chk (InR (List.getD order (Int.toNat x_12.2.1) (0 : Int) + (1 : Int))) (chk ((0 : Int) ≤ List.getD order (Int.toNat x_12.2.1) (0 : Int) + (1 : Int) ∧ List.getD order (Int.toNat x_12.2.1) (0 : Int) + (1 : Int) < (↑(List.length hs) : Int)) (chk (InR (x_12.2.2 + 1)) (chk (0 ≤ x_12.2.2 + 1 ∧ x_12.2.2 + 1 < (↑(List.length hs) : Int)) (chk (InR ((List.getD hs (List.getD order (Int.toNat x_12.2.1) (0 : Int) + (1 : Int)).toNat (Span.mk 0 0)).Hi - (List.getD hs (x_12.2.2 + 1).toNat (Span.mk 0 0)).Lo)) (chk (InR (a0.Clear + if (List.getD hs (List.getD order (Int.toNat x_12.2.1) (0 : Int) + (1 : Int)).toNat (Span.mk 0 0)).Hi - (List.getD hs (x_12.2.2 + 1).toNat (Span.mk 0 0)).Lo > (0 : Int) then (List.getD hs (List.getD order (Int.toNat x_12.2.1) (0 : Int) + (1 : Int)).toNat (Span.mk 0 0)).Hi - (List.getD hs (x_12.2.2 + 1).toNat (Span.mk 0 0)).Lo else (0 : Int))) (chk ((0 : Int) ≤ List.getD order (Int.toNat x_12.2.1) (0 : Int) ∧ List.getD order (Int.toNat x_12.2.1) (0 : Int) < (↑a0.Ships.length : Int)) (chk (InR ((a0.Clear + if (List.getD hs (List.getD order (Int.toNat x_12.2.1) (0 : Int) + (1 : Int)).toNat (Span.mk 0 0)).Hi - (List.getD hs (x_12.2.2 + 1).toNat (Span.mk 0 0)).Lo > (0 : Int) then (List.getD hs (List.getD order (Int.toNat x_12.2.1) (0 : Int) + (1 : Int)).toNat (Span.mk 0 0)).Hi - (List.getD hs (x_12.2.2 + 1).toNat (Span.mk 0 0)).Lo else (0 : Int)) + (a0.Ships.getD (Int.toNat (List.getD order (Int.toNat x_12.2.1) (0 : Int))) (Member.mk (Ship.mk 0 0 0 0 [] [] [] 0 0 0 0) [] (0 : Int) (0 : Int) (0 : Int))).Length)) (chk (InR (x_12.1 + ((a0.Clear + if (List.getD hs (List.getD order (Int.toNat x_12.2.1) (0 : Int) + (1 : Int)).toNat (Span.mk 0 0)).Hi - (List.getD hs (x_12.2.2 + 1).toNat (Span.mk 0 0)).Lo > (0 : Int) then (List.getD hs (List.getD order (Int.toNat x_12.2.1) (0 : Int) + (1 : Int)).toNat (Span.mk 0 0)).Hi - (List.getD hs (x_12.2.2 + 1).toNat (Span.mk 0 0)).Lo else (0 : Int)) + (a0.Ships.getD (Int.toNat (List.getD order (Int.toNat x_12.2.1) (0 : Int))) (Member.mk (Ship.mk 0 0 0 0 [] [] [] 0 0 0 0) [] (0 : Int) (0 : Int) (0 : Int))).Length))) (chk (InR (x_12.2.1 + 1)) (x_13 ((x_12.1 + ((a0.Clear + if (List.getD hs (List.getD order (Int.toNat x_12.2.1) (0 : Int) + (1 : Int)).toNat (Span.mk 0 0)).Hi - (List.getD hs (x_12.2.2 + 1).toNat (Span.mk 0 0)).Lo > (0 : Int) then (List.getD hs (List.getD order (Int.toNat x_12.2.1) (0 : Int) + (1 : Int)).toNat (Span.mk 0 0)).Hi - (List.getD hs (x_12.2.2 + 1).toNat (Span.mk 0 0)).Lo else (0 : Int)) + (a0.Ships.getD (Int.toNat (List.getD order (Int.toNat x_12.2.1) (0 : Int))) (Member.mk (Ship.mk 0 0 0 0 [] [] [] 0 0 0 0) [] (0 : Int) (0 : Int) (0 : Int))).Length), x_12.2.1 + 1, List.getD order (Int.toNat x_12.2.1) (0 : Int))))))))))))))) (KK x_12.1)) (F) (((0 : Int), (0 : Int), (-1 : Int))))
def ordersLM {α : Type} (F : Nat) (a0 : Convoy) (x_1 : List (List Int)) (hs : List Span) (W : Int) (best : List Int) (least : Int) (KK : List Int → Int → Option α) : Option α :=
 loopC (fun (x_9 : List Int × Int × Int) => fun x_10 => brk (decide (x_9.2.2 < (↑(List.length x_1) : Int))) (join (F) (fun (x_11 : List Int × Int) => chk (InR (x_9.2.2 + 1)) (x_10 ((x_11.1, x_11.2, x_9.2.2 + 1)))) (fun x_11 => chk (0 ≤ x_9.2.2 ∧ x_9.2.2 < (↑(List.length x_1) : Int)) (tailOM F a0 hs (List.getD x_1 (Int.toNat x_9.2.2) []) (fun t => (brk (decide (t ≤ W) && (decide (x_9.2.1 < 0) || decide (t < x_9.2.1))) (x_11 ((List.getD x_1 (Int.toNat x_9.2.2) [], t))) (x_11 ((x_9.1, x_9.2.1)))))))) (KK x_9.1 x_9.2.1)) (F) ((best, least, (0 : Int)))
def haltsM {α : Type} (F : Nat) (a0 : Convoy) (v : Int) (KK : List Span → Option α) : Option α :=
 (loopC (fun (x_6 : Int × List Span) => fun x_7 => brk (decide (x_6.1 < (↑([a0.Breaker] ++ a0.Ships).length : Int))) (chk (0 ≤ x_6.1 ∧ x_6.1 < (↑([a0.Breaker] ++ a0.Ships).length : Int)) (bnd (convoy_Member_halt F (([a0.Breaker] ++ a0.Ships).getD (Int.toNat x_6.1) (Member.mk (Ship.mk 0 0 0 0 [] [] [] 0 0 0 0) [] (0 : Int) (0 : Int) (0 : Int))) v) (fun x_8 => chk (List.length x_6.2 + [x_8].length ≤ (1000000000 : Nat)) (chk (InR (x_6.1 + 1)) (x_7 ((x_6.1 + 1, x_6.2 ++ [x_8]))))))) (KK x_6.2)) (F) (((0 : Int), [])))
def bestM (F : Nat) (a0 : Convoy) (a1 : Cell) (x_1 : List (List Int)) : Option (List Int × Int × Int) :=
 bnd (convoy_Convoy_most F a0 a1) (fun x_2 => join (F) (fun (x_3 : Int × List Int × Int) => brk (decide (x_3.2.2 < 0)) (some (([], (0 : Int), (4 : Int)))) (some ((x_3.2.1, x_3.1, (0 : Int))))) (fun x_3 => loopC (fun (x_4 : Int × List Int × Int) => fun x_5 => brk (decide (x_4.1 ≥ (10 : Int))) (chk ([a0.Breaker].length + a0.Ships.length ≤ (1000000000 : Nat)) (haltsM F a0 x_4.1 (fun hs => (chk (0 ≤ a1.Press.Hi ∧ a1.Press.Hi < (↑(4 : Nat) : Int)) (chk (InR ((60 : Int) * [a0.Close.a0, a0.Close.a1, a0.Close.a2, a0.Close.a3].getD a1.Press.Hi.toNat 0)) (bnd (convoy_way F x_4.1 ((60 : Int) * [a0.Close.a0, a0.Close.a1, a0.Close.a2, a0.Close.a3].getD a1.Press.Hi.toNat 0)) (fun x_8 => ordersLM F a0 x_1 hs x_8.1 x_4.2.1 x_4.2.2 (fun b l => (brk (decide (l ≥ (0 : Int))) (x_3 ((x_4.1, b, l))) (chk (InR (x_4.1 - 1)) (x_5 ((x_4.1 - 1, b, l))))))))))))) (x_3 (x_4))) (F) ((x_2, [], (-1 : Int)))))
def ordersM {α : Type} (F n : Nat) (x_1 : List (List Int) → Option α) : Option α :=
 brk ((↑(0 : Nat) : Int) == (↑n : Int)) (chk (([[]] : List (List Int)).length ≤ (1000000000 : Nat)) (x_1 ([[]]))) (loopC (fun (x_2 : Int × List (List Int)) => fun x_3 => brk (decide (x_2.1 < (↑n : Int))) (bnd (slices_Contains_int F [] x_2.1) (fun x_4 => brk (!x_4) (bnd (slices_Clone_int F []) (fun x_5 => chk (List.length x_5 + [x_2.1].length ≤ (1000000000 : Nat)) (join (F) (fun (x_6 : List (List Int)) => chk (InR (x_2.1 + 1)) (x_3 ((x_2.1 + 1, x_6)))) (fun x_6 => brk ((↑(x_5 ++ [x_2.1]).length : Int) == (↑n : Int)) (chk (List.length x_2.2 + [x_5 ++ [x_2.1]].length ≤ (1000000000 : Nat)) (x_6 (x_2.2 ++ [x_5 ++ [x_2.1]]))) (loopC (fun (x_7 : Int × List (List Int)) => fun x_8 => brk (decide (x_7.1 < (↑n : Int))) (bnd (slices_Contains_int F (x_5 ++ [x_2.1]) x_7.1) (fun x_9 => brk (!x_9) (bnd (slices_Clone_int F (x_5 ++ [x_2.1])) (fun x_10 => chk (List.length x_10 + [x_7.1].length ≤ (1000000000 : Nat)) (join (F) (fun (x_11 : List (List Int)) => chk (InR (x_7.1 + 1)) (x_8 ((x_7.1 + 1, x_11)))) (fun x_11 => brk ((↑(x_10 ++ [x_7.1]).length : Int) == (↑n : Int)) (chk (List.length x_7.2 + [x_10 ++ [x_7.1]].length ≤ (1000000000 : Nat)) (x_11 (x_7.2 ++ [x_10 ++ [x_7.1]]))) (loopC (fun (x_12 : Int × List (List Int)) => fun x_13 => brk (decide (x_12.1 < (↑n : Int))) (bnd (slices_Contains_int F (x_10 ++ [x_7.1]) x_12.1) (fun x_14 => brk (!x_14) (bnd (slices_Clone_int F (x_10 ++ [x_7.1])) (fun x_15 => chk (List.length x_15 + [x_12.1].length ≤ (1000000000 : Nat)) (join (F) (fun (x_16 : List (List Int)) => chk (InR (x_12.1 + 1)) (x_13 ((x_12.1 + 1, x_16)))) (fun x_16 => brk ((↑(x_15 ++ [x_12.1]).length : Int) == (↑n : Int)) (chk (List.length x_12.2 + [x_15 ++ [x_12.1]].length ≤ (1000000000 : Nat)) (x_16 (x_12.2 ++ [x_15 ++ [x_12.1]]))) (loopC (fun (x_17 : Int × List (List Int)) => fun x_18 => brk (decide (x_17.1 < (↑n : Int))) (bnd (slices_Contains_int F (x_15 ++ [x_12.1]) x_17.1) (fun x_19 => brk (!x_19) (bnd (slices_Clone_int F (x_15 ++ [x_12.1])) (fun x_20 => chk (List.length x_20 + [x_17.1].length ≤ (1000000000 : Nat)) (join (F) (fun (x_21 : List (List Int)) => chk (InR (x_17.1 + 1)) (x_18 ((x_17.1 + 1, x_21)))) (fun x_21 => brk ((↑(x_20 ++ [x_17.1]).length : Int) == (↑n : Int)) (chk (List.length x_17.2 + [x_20 ++ [x_17.1]].length ≤ (1000000000 : Nat)) (x_21 (x_17.2 ++ [x_20 ++ [x_17.1]]))) (loopC (fun (x_22 : Int × List (List Int)) => fun x_23 => brk (decide (x_22.1 < (↑n : Int))) (bnd (slices_Contains_int F (x_20 ++ [x_17.1]) x_22.1) (fun x_24 => brk (!x_24) (bnd (slices_Clone_int F (x_20 ++ [x_17.1])) (fun x_25 => chk (List.length x_25 + [x_22.1].length ≤ (1000000000 : Nat)) (brk ((↑(x_25 ++ [x_22.1]).length : Int) == (↑n : Int)) (chk (List.length x_22.2 + [x_25 ++ [x_22.1]].length ≤ (1000000000 : Nat)) (chk (InR (x_22.1 + 1)) (x_23 ((x_22.1 + 1, x_22.2 ++ [x_25 ++ [x_22.1]]))))) (none)))) (chk (InR (x_22.1 + 1)) (x_23 ((x_22.1 + 1, x_22.2)))))) (x_21 (x_22.2))) (F) (((0 : Int), x_17.2))))))) (chk (InR (x_17.1 + 1)) (x_18 ((x_17.1 + 1, x_17.2)))))) (x_16 (x_17.2))) (F) (((0 : Int), x_12.2))))))) (chk (InR (x_12.1 + 1)) (x_13 ((x_12.1 + 1, x_12.2)))))) (x_11 (x_12.2))) (F) (((0 : Int), x_7.2))))))) (chk (InR (x_7.1 + 1)) (x_8 ((x_7.1 + 1, x_7.2)))))) (x_6 (x_7.2))) (F) (((0 : Int), x_2.2))))))) (chk (InR (x_2.1 + 1)) (x_3 ((x_2.1 + 1, x_2.2)))))) (x_1 (x_2.2))) (F) (((0 : Int), [])))
theorem best_unf (F : Nat) (a0 : Convoy) (a1 : Cell) : convoy_Best F a0 a1 =
 bnd (convoy_met F a0 a1) (fun x => brk (x != (0 : Int)) (some (([], (0 : Int), x))) (join (F) (fun x_1 => bestM F a0 a1 x_1) (fun x_1 => ordersM F a0.Ships.length x_1))) := rfl
def sortM {α : Type} (F : Nat) (l : List Int) (KK : List Int → Option α) : Option α :=
 (loopC (fun (x_1 : Int × List Int) => fun x_2 => brk (decide (x_1.1 < (↑l.length : Int))) (chk (0 ≤ x_1.1 ∧ x_1.1 < (↑l.length : Int)) (chk (List.length x_1.2 + [l.getD (Int.toNat x_1.1) 0].length ≤ (1000000000 : Nat)) (chk (InR (x_1.1 + 1)) (x_2 ((x_1.1 + 1, x_1.2 ++ [l.getD (Int.toNat x_1.1) 0])))))) (bnd (math_bits_Len F (IntKind.u64.wrap (↑(List.length x_1.2) : Int))) (fun x_3 => loopC (fun (x_4 : Int × Bool × Bool) => fun x_5 => chk (InR ((↑(List.length x_1.2) : Int) - x_4.1)) (brk (decide ((↑(List.length x_1.2) : Int) - x_4.1 ≤ 12)) (chk (InR (x_4.1 + 1)) (loopC (fun (x_6 : Int × List Int) => fun x_7 => brk (decide (x_6.1 < (↑(List.length x_1.2) : Int))) (loopC (fun (x_8 : Int × List Int) => fun x_9 => chk (decide (x_8.1 > x_4.1) = true → 0 ≤ x_8.1 ∧ x_8.1 < (↑(List.length x_8.2) : Int)) (chk (decide (x_8.1 > x_4.1) = true → InR (x_8.1 - 1)) (chk (decide (x_8.1 > x_4.1) = true → 0 ≤ x_8.1 - 1 ∧ x_8.1 - 1 < (↑(List.length x_8.2) : Int)) (bnd (brk (decide (x_8.1 > x_4.1)) (cmp_Less_int F (List.getD x_8.2 (Int.toNat x_8.1) (0 : Int)) (List.getD x_8.2 (x_8.1 - 1).toNat (0 : Int))) (some false)) (fun x_10 => brk (decide (x_8.1 > x_4.1) && x_10) (chk (InR (x_8.1 - 1)) (chk (InR (x_8.1 - 1)) (chk (0 ≤ x_8.1 - 1 ∧ x_8.1 - 1 < (↑(List.length x_8.2) : Int)) (chk (0 ≤ x_8.1 ∧ x_8.1 < (↑(List.length x_8.2) : Int)) (chk (0 ≤ x_8.1 ∧ x_8.1 < (↑(List.length x_8.2) : Int)) (chk (0 ≤ x_8.1 - 1 ∧ x_8.1 - 1 < (↑(List.set x_8.2 (Int.toNat x_8.1) (List.getD x_8.2 (x_8.1 - 1).toNat (0 : Int))).length : Int)) (chk (InR (x_8.1 - 1)) (x_9 ((x_8.1 - 1, (List.set x_8.2 (Int.toNat x_8.1) (List.getD x_8.2 (x_8.1 - 1).toNat (0 : Int))).set (x_8.1 - 1).toNat (List.getD x_8.2 (Int.toNat x_8.1) (0 : Int)))))))))))) (chk (InR (x_6.1 + 1)) (x_7 ((x_6.1 + 1, x_8.2))))))))) (F) (x_6)) (KK x_6.2)) (F) ((x_4.1 + 1, x_1.2)))) (none))) (F) (((0 : Int), true, true))))) (F) (((0 : Int), [])))
def ordK (F : Nat) (a0 : Convoy) (a1 : List Int) (y : List Int) : Option (Convoy × Int) :=
 (bnd (convoy_numbers F (↑a0.Ships.length : Int)) (fun x_8 => bnd (slices_Equal_int F y x_8) (fun x_9 => brk (!x_9) (some ((Convoy.mk (Member.mk (Ship.mk 0 0 0 0 [] [] [] 0 0 0 0) [] (0 : Int) (0 : Int) (0 : Int)) [] (0 : Int) (Numbers.mk 0 0 0 0), (1 : Int)))) (bnd (convoy_Member_own F a0.Breaker) (fun x_10 => loopC (fun (x_11 : Int × List Member) => fun x_12 => brk (decide (x_11.1 < (↑a1.length : Int))) (chk (0 ≤ x_11.1 ∧ x_11.1 < (↑a1.length : Int)) (chk (0 ≤ a1.getD (Int.toNat x_11.1) 0 ∧ a1.getD (Int.toNat x_11.1) 0 < (↑a0.Ships.length : Int)) (bnd (convoy_Member_own F (a0.Ships.getD (Int.toNat (a1.getD (Int.toNat x_11.1) 0)) (Member.mk (Ship.mk 0 0 0 0 [] [] [] 0 0 0 0) [] (0 : Int) (0 : Int) (0 : Int)))) (fun x_13 => chk (List.length x_11.2 + [x_13].length ≤ (1000000000 : Nat)) (chk (InR (x_11.1 + 1)) (x_12 ((x_11.1 + 1, x_11.2 ++ [x_13])))))))) (some ((Convoy.mk x_10 x_11.2 a0.Clear a0.Close, (0 : Int))))) (F) (((0 : Int), [])))))))
theorem ordered_unf (F : Nat) (a0 : Convoy) (a1 : List Int) : convoy_Ordered F a0 a1 =
 bnd (convoy_Check F a0) (fun x => brk (x != (0 : Int)) (some ((Convoy.mk (Member.mk (Ship.mk 0 0 0 0 [] [] [] 0 0 0 0) [] (0 : Int) (0 : Int) (0 : Int)) [] (0 : Int) (Numbers.mk 0 0 0 0), x))) (sortM F a1 (ordK F a0 a1))) := rfl
abbrev FF : Nat := 1000000000000000
def iota (n : Nat) : List Int := (List.range n).map fun i : Nat => ((i : Nat) : Int)
theorem orders_all {α : Type} (K : List (List Int) → Option α) : [0, 1, 2, 3, 4, 5].map (fun n => ordersM FF n K) = [0, 1, 2, 3, 4, 5].map (fun n => K (allN n)) := by kernel_rfl
theorem sort_all {α : Type} (K : List Int → Option α) : [0, 1, 2, 3, 4, 5].map (fun n => (allN n).map fun l => sortM FF l K) = [0, 1, 2, 3, 4, 5].map (fun n => (allN n).map fun l => K (iota n)) := by kernel_rfl
theorem nums_all : [0, 1, 2, 3, 4, 5].map (fun n : Nat => convoy_numbers FF (n : Int)) = [0, 1, 2, 3, 4, 5].map (fun n => some (iota n)) := by kernel_rfl
theorem equal_all : [0, 1, 2, 3, 4, 5].map (fun n : Nat => slices_Equal_int FF (iota n) (iota n)) = [0, 1, 2, 3, 4, 5].map (fun _ => some true) := by kernel_rfl
theorem compare_all : [0, 1, 2, 3, 4, 5].map (fun n : Nat => (allN n).map fun a => (allN n).map fun b => slices_Compare_int FF a b) = [0, 1, 2, 3, 4, 5].map (fun n : Nat => (allN n).map fun a => (allN n).map fun b => some (cmpL a b)) := by kernel_rfl
theorem small {n : Nat} (hn : n ≤ 5) : n ∈ [0, 1, 2, 3, 4, 5] := by simp only [List.mem_cons]; omega
theorem orders_eq {α : Type} {n : Nat} (hn : n ≤ 5) (K : List (List Int) → Option α) : ordersM FF n K = K (allN n) := List.map_inj_left.1 (orders_all K) n (small hn)
theorem sort_eq {α : Type} {n : Nat} (hn : n ≤ 5) {l : List Int} (hl : l ∈ allN n) (K : List Int → Option α) : sortM FF l K = K (iota n) := List.map_inj_left.1 (List.map_inj_left.1 (sort_all K) n (small hn)) l hl
theorem nums_eq {n : Nat} (hn : n ≤ 5) : convoy_numbers FF (n : Int) = some (iota n) := List.map_inj_left.1 nums_all n (small hn)
theorem equal_eq {n : Nat} (hn : n ≤ 5) : slices_Equal_int FF (iota n) (iota n) = some true := List.map_inj_left.1 equal_all n (small hn)
theorem compare_eq {n : Nat} (hn : n ≤ 5) {a b : List Int} (ha : a ∈ allN n) (hb : b ∈ allN n) : slices_Compare_int FF a b = some (cmpL a b) := List.map_inj_left.1 (List.map_inj_left.1 (List.map_inj_left.1 compare_all n (small hn)) a ha) b hb
end
end Go.Proofs.Cb

namespace Go.Proofs.Cb
open Go Go.KX
set_option linter.unusedVariables false
def ship (c : Convoy) (i : Int) : Member := c.Ships.getD i.toNat memD
def ordC (c : Convoy) (o : List Int) : Convoy := ⟨c.Breaker, o.map (ship c), c.Clear, c.Close⟩
def In (n : Nat) (o : List Int) : Prop := ∀ i ∈ o, 0 ≤ i ∧ i < (n : Int)
theorem In.of {n : Nat} (hn : n ≤ 5) {o : List Int} (h : o ∈ allN n) : In n o := (all_ord hn h).rng
theorem has_all : ([0, 1, 2, 3, 4, 5].all fun n => (allN n).all fun o => (List.range n).all fun i => o.contains ((i : Nat) : Int)) = true := by kernel_rfl
theorem has {n : Nat} (hn : n ≤ 5) {o : List Int} (h : o ∈ allN n) {i : Nat} (hi : i < n) : (i : Int) ∈ o := by
 have h1 := List.all_eq_true.1 has_all n (small hn)
 have h2 := List.all_eq_true.1 (List.all_eq_true.1 h1 o h) i (List.mem_range.2 hi)
 simpa using h2
theorem ship_mem {c : Convoy} {i : Int} (h : 0 ≤ i ∧ i < (c.Ships.length : Int)) : ship c i ∈ c.Ships := getD_mem (by omega)
theorem ord_good {c : Convoy} (hc : GoodC c) {o : List Int} (hl : o.length ≤ 6) (hi : In c.Ships.length o) : GoodC (ordC c o) :=
 ⟨by show (o.map (ship c)).length ≤ 6; rw [List.length_map]; exact hl, hc.br, fun m hm => by
  obtain ⟨i, h1, rfl⟩ := List.mem_map.1 hm
  exact hc.ships _ (ship_mem (hi i h1)), hc.clear, hc.close⟩
def tailO (c : Convoy) (v : Int) (o : List Int) : Int := tailL c.Clear v c.Breaker (o.map (ship c))
def HoldsO (c : Convoy) (cell : Cell) (v : Int) (o : List Int) : Prop := 10 ≤ v ∧ v ≤ mostC c cell ∧ tailO c v o ≤ openW c v cell.Press.Hi
theorem most_ord {c : Convoy} (hn : c.Ships.length ≤ 5) {o : List Int} (ho : o ∈ allN c.Ships.length) {cell : Cell} {v : Int} (hv : 1 ≤ v) : v ≤ mostC (ordC c o) cell ↔ v ≤ mostC c cell := by
 unfold mostC
 rw [most_iff hv, most_iff hv]
 have e : okM cell v false ((ordC c o).Breaker :: (ordC c o).Ships) ↔ okM cell v false (c.Breaker :: c.Ships) := by
  simp only [okM]
  have e2 : okM cell v true (ordC c o).Ships ↔ okM cell v true c.Ships := by
   rw [okM_iff, okM_iff]
   constructor
   ·intro h m hm
    obtain ⟨k, hk, rfl⟩ := List.getElem_of_mem hm
    refine h _ (List.mem_map.2 ⟨(k : Int), has hn ho hk, ?_⟩)
    show c.Ships.getD ((k : Int).toNat) memD = c.Ships[k]
    rw [show ((k : Int)).toNat = k by omega, getD_get hk]
   ·intro h m hm
    obtain ⟨i, h1, rfl⟩ := List.mem_map.1 hm
    exact h _ (ship_mem (In.of hn ho i h1))
  exact and_congr_right fun _ => and_congr_right fun _ => e2
 exact and_congr_right fun _ => e
theorem holds_ord {c : Convoy} (hn : c.Ships.length ≤ 5) {o : List Int} (ho : o ∈ allN c.Ships.length) {cell : Cell} {v : Int} : HoldsC (ordC c o) cell v ↔ HoldsO c cell v o := by
 unfold HoldsC HoldsO
 constructor
 ·rintro ⟨h1, h2, h3⟩; exact ⟨h1, (most_ord hn ho (by omega)).1 h2, h3⟩
 ·rintro ⟨h1, h2, h3⟩; exact ⟨h1, (most_ord hn ho (by omega)).2 h2, h3⟩
theorem tail_nn {clear v : Int} (hc : 0 ≤ clear) : ∀ {l : List Member} {p : Member}, GoodL l → 0 ≤ tailL clear v p l
 | [], _, _ => Int.le_refl _
 | m :: r, p, h => by
  have h1 := (h m (by simp)).len
  have h2 := tail_nn hc (v := v) (p := m) (l := r) fun x hx => h x (by simp [hx])
  simp only [tailL, gapM]
  omega
theorem tailO_nn {c : Convoy} (hc : GoodC c) {v : Int} {o : List Int} (hi : In c.Ships.length o) : 0 ≤ tailO c v o := tail_nn hc.clear.1 fun m hm => by
 obtain ⟨i, h1, rfl⟩ := List.mem_map.1 hm
 exact hc.ships _ (ship_mem (hi i h1))
theorem Ordered_eq {c : Convoy} (hc : GoodC c) (hn : c.Ships.length ≤ 5) {o : List Int} (ho : o ∈ allN c.Ships.length) : convoy_Ordered FF c o = some (ordC c o, 0) := by
 have hsh := hc.short
 have hol := (all_ord hn ho).len
 refine Ok.eq ?_
 rw [ordered_unf]
 refine ok_bnde (ccheck_eq (by decide) hsh) ?_
 rw [conErr_ok.2 hc]
 refine ok_brkF rfl ?_
 rw [sort_eq hn ho]
 unfold ordK
 refine ok_bnde (nums_eq hn) (ok_bnde (equal_eq hn) (ok_brkF rfl (ok_bnde (own_eq hsh.1) ?_)))
 refine ok_rest (l := o) (d := 0) (fun x : Int × List Member => x.1) (fun x r => (x.2.length : Int) = x.1 ∧ x.2 ++ r.map (ship c) = o.map (ship c)) (by rw [hol]; unfold FF; omega) rfl ⟨rfl, rfl⟩ (fun x next y0 y1 hq hm hn' => ?_) (fun x next y1 hq => ?_)
 ·obtain ⟨i, out⟩ := x
  obtain ⟨g1, g2⟩ := hq
  dsimp only at y0 y1 g1 g2 hm hn' ⊢
  have hb := In.of hn ho _ hm
  refine ok_brkT (decide_eq_true y1) (ok_chk ⟨y0, y1⟩ (ok_chk hb (ok_bnde (own_eq (hsh.2 _ (ship_mem hb))) (ok_chk (by rw [List.length_singleton]; omega) (ok_chk (show InR _ from ⟨by omega, by omega⟩) (hn' _ rfl ⟨by dsimp only; rw [snoc_len]; omega, ?_⟩))))))
  dsimp only
  rw [List.append_assoc]; exact g2
 ·obtain ⟨i, out⟩ := x
  dsimp only at y1 hq ⊢
  rw [List.map_nil, List.append_nil] at hq
  refine ok_brkF (decide_eq_false (by omega)) (ok_some ?_)
  rw [hq.2]; rfl
def halts (c : Convoy) (v : Int) : List Span := (c.Breaker :: c.Ships).map fun m => ⟨nearM m v, farM m v⟩
theorem halts_ok {α : Type} {post : α → Prop} {c : Convoy} (hc : GoodC c) {v : Int} (hv : 0 ≤ v ∧ v ≤ 250) {K : List Span → Option α} (h : Ok post (K (halts c v))) : Ok post (haltsM FF c v K) := by
 have hlen := hc.len
 have hall := hc.all
 unfold haltsM
 show Ok post (loopC (fun (x : Int × List Span) => fun next => brk (decide (x.1 < (((c.Breaker :: c.Ships).length : Nat) : Int))) (chk (0 ≤ x.1 ∧ x.1 < (((c.Breaker :: c.Ships).length : Nat) : Int)) (bnd (convoy_Member_halt FF ((c.Breaker :: c.Ships).getD x.1.toNat memD) v) (fun x_8 => chk (List.length x.2 + [x_8].length ≤ (1000000000 : Nat)) (chk (InR (x.1 + 1)) (next ((x.1 + 1, x.2 ++ [x_8]))))))) (K x.2)) FF ((0 : Int), []))
 refine ok_rest (l := c.Breaker :: c.Ships) (d := memD) (fun x : Int × List Span => x.1) (fun x r => (x.2.length : Int) = x.1 ∧ x.2 ++ r.map (fun m => ⟨nearM m v, farM m v⟩) = halts c v) (by rw [List.length_cons]; unfold FF; omega) rfl ⟨rfl, rfl⟩ (fun x next y0 y1 hq hm hn' => ?_) (fun x next y1 hq => ?_)
 ·obtain ⟨i, out⟩ := x
  obtain ⟨g1, g2⟩ := hq
  dsimp only at y0 y1 g1 g2 hm hn' ⊢
  rw [List.length_cons] at y1
  refine ok_brkT (decide_eq_true (by rw [List.length_cons]; exact y1)) (ok_chk ⟨y0, by rw [List.length_cons]; exact y1⟩ (ok_bnde (halt_eq (by decide) (hall _ hm) hv) (ok_chk (by rw [List.length_singleton]; omega) (ok_chk (show InR _ from ⟨by omega, by omega⟩) (hn' _ rfl ⟨by dsimp only; rw [snoc_len]; omega, ?_⟩)))))
  dsimp only
  rw [List.append_assoc]; exact g2
 ·obtain ⟨i, out⟩ := x
  dsimp only at y1 hq ⊢
  rw [List.map_nil, List.append_nil] at hq
  refine ok_brkF (decide_eq_false (by omega)) ?_
  rw [hq.2]; exact h
theorem halts_len {c : Convoy} {v : Int} : (halts c v).length = c.Ships.length + 1 := by unfold halts; rw [List.length_map, List.length_cons]
theorem halts_get {c : Convoy} {v i : Int} (h : 0 ≤ i ∧ i < (c.Ships.length : Int)) : (halts c v).getD (i + 1).toNat ⟨0, 0⟩ = ⟨nearM (ship c i) v, farM (ship c i) v⟩ := by
 have e : (i + 1).toNat = i.toNat + 1 := by omega
 have hk : i.toNat < c.Ships.length := by omega
 rw [e]
 unfold halts ship
 rw [List.map_cons, List.getD_cons_succ, List.getD_eq_getElem?_getD, List.getElem?_map, getD_get hk, List.getElem?_eq_getElem hk]
 rfl
theorem tailOM_ok {α : Type} {post : α → Prop} {c : Convoy} (hc : GoodC c) {v : Int} (hv : 0 ≤ v ∧ v ≤ 250) {o : List Int} (hi : In c.Ships.length o) (hol : o.length ≤ 6) {K : Int → Option α} (h : Ok post (K (tailO c v o))) : Ok post (tailOM FF c (halts c v) o K) := by
 have hlen := hc.len
 have hcl := hc.clear
 unfold tailOM
 refine ok_rest (l := o) (d := 0) (fun x : Int × Int × Int => x.2.1) (fun x r => ∃ p, GoodM p ∧ -1 ≤ x.2.2 ∧ x.2.2 < (c.Ships.length : Int) ∧ ((halts c v).getD (x.2.2 + 1).toNat ⟨0, 0⟩).Lo = nearM p v ∧ 0 ≤ x.1 ∧ x.1 ≤ 40000 * x.2.1 ∧ tailO c v o = x.1 + tailL c.Clear v p (r.map (ship c))) (by unfold FF; omega) rfl ⟨c.Breaker, hc.br, by dsimp only; omega, by dsimp only; omega, rfl, Int.le_refl _, by simp, by dsimp only; unfold tailO; omega⟩ (fun x next y0 y1 hq hm hn' => ?_) (fun x next y1 hq => ?_)
 ·obtain ⟨t, k, b⟩ := x
  obtain ⟨p, q0, q1, q2, q3, q4, q5, q6⟩ := hq
  dsimp only at y0 y1 q1 q2 q3 q4 q5 q6 hm hn' ⊢
  generalize o.getD k.toNat 0 = i at *
  have hb := hi i hm
  have hsm := hc.ships _ (ship_mem hb)
  have hg := halts_get (v := v) hb
  have f1 := far_bd hsm hv
  have f2 := near_bd q0 hv.1
  have f3 := hsm.len
  have hgb := gap_bd q0 hsm hcl hv
  have hgap : c.Clear + (if ((halts c v).getD (i + 1).toNat ⟨0, 0⟩).Hi - ((halts c v).getD (b + 1).toNat ⟨0, 0⟩).Lo > 0 then ((halts c v).getD (i + 1).toNat ⟨0, 0⟩).Hi - ((halts c v).getD (b + 1).toNat ⟨0, 0⟩).Lo else 0) = gapM c.Clear v p (ship c i) := by
   rw [hg, q3]; dsimp only; unfold gapM; congr 1; split <;> omega
  have hd : InR (((halts c v).getD (i + 1).toNat ⟨0, 0⟩).Hi - ((halts c v).getD (b + 1).toNat ⟨0, 0⟩).Lo) := by
   rw [hg, q3]; exact ⟨by dsimp only; omega, by dsimp only; omega⟩
  have hL : (c.Ships.getD i.toNat memD).Length = (ship c i).Length := rfl
  refine ok_brkT (decide_eq_true y1) (ok_chk ⟨y0, y1⟩ (ok_chk (show InR _ from ⟨by omega, by omega⟩) (ok_chk ⟨by omega, by rw [halts_len]; omega⟩ (ok_chk (show InR _ from ⟨by omega, by omega⟩) (ok_chk ⟨by omega, by rw [halts_len]; omega⟩ (ok_chk hd ?_))))))
  rw [hgap]
  refine ok_chk (show InR _ from ⟨by omega, by omega⟩) (ok_chk hb ?_)
  rw [hL]
  refine ok_chk (show InR _ from ⟨by omega, by omega⟩) (ok_chk (show InR _ from ⟨by omega, by omega⟩) (ok_chk (show InR _ from ⟨by omega, by omega⟩) (hn' _ rfl ⟨ship c i, hsm, by dsimp only; omega, by dsimp only; omega, by dsimp only; rw [hg], by dsimp only; omega, by dsimp only; omega, ?_⟩)))
  dsimp only
  rw [q6, List.map_cons, tailL]
  omega
 ·obtain ⟨t, k, b⟩ := x
  obtain ⟨p, q0, q1, q2, q3, q4, q5, q6⟩ := hq
  dsimp only at y1 q6 ⊢
  rw [List.map_nil, tailL, Int.add_zero] at q6
  refine ok_brkF (decide_eq_false (by omega)) ?_
  rw [← q6]; exact h
def Least (T : List Int → Int) (W : Int) (l : List (List Int)) (b : List Int) (t : Int) : Prop :=
 (t < 0 ∧ ∀ o ∈ l, ¬ T o ≤ W) ∨ (0 ≤ t ∧ t = T b ∧ b ∈ l ∧ T b ≤ W ∧ ∀ o ∈ l, T o ≤ W → T b ≤ T o ∧ (T o = T b → 0 ≤ cmpL o b))
theorem Least.take {T : List Int → Int} {W : Int} {l : List (List Int)} {b x : List Int} {t : Int} (h : Least T W l b t) (hx : 0 ≤ T x) (hW : T x ≤ W) (ht : t < 0 ∨ T x < t) : Least T W (l ++ [x]) x (T x) := by
 refine .inr ⟨hx, rfl, by simp, hW, fun o ho hoW => ?_⟩
 rcases List.mem_append.1 ho with ho | ho
 ·rcases h with ⟨h1, h2⟩ | ⟨h1, h2, h3, h4, h5⟩
  ·exact absurd hoW (h2 o ho)
  ·have := (h5 o ho hoW).1
   exact ⟨by omega, fun e => by omega⟩
 ·obtain rfl : o = x := by simpa using ho
  exact ⟨Int.le_refl _, fun _ => by rw [cmp_refl]; exact Int.le_refl _⟩
theorem Least.skip {T : List Int → Int} {W : Int} {l : List (List Int)} {b x : List Int} {t : Int} (h : Least T W l b t) (hn : ¬ (T x ≤ W ∧ (t < 0 ∨ T x < t))) (hup : ∀ a ∈ l, 0 ≤ cmpL x a) : Least T W (l ++ [x]) b t := by
 rcases h with ⟨h1, h2⟩ | ⟨h1, h2, h3, h4, h5⟩
 ·refine .inl ⟨h1, fun o ho => ?_⟩
  rcases List.mem_append.1 ho with ho | ho
  ·exact h2 o ho
  ·obtain rfl : o = x := by simpa using ho
   exact fun hW => hn ⟨hW, .inl h1⟩
 ·refine .inr ⟨h1, h2, List.mem_append_left _ h3, h4, fun o ho hoW => ?_⟩
  rcases List.mem_append.1 ho with ho | ho
  ·exact h5 o ho hoW
  ·obtain rfl : o = x := by simpa using ho
   refine ⟨?_, fun _ => hup b h3⟩
   have : ¬ T o < t := fun h => hn ⟨hoW, .inr h⟩
   omega
theorem up_mid {l1 l2 : List (List Int)} {x a : List Int} (h : upL (l1 ++ x :: l2) = true) (ha : a ∈ l1) : 0 ≤ cmpL x a := by
 obtain ⟨s, t, rfl⟩ := List.append_of_mem ha
 rw [List.append_assoc] at h
 exact upL_ok h (by simp)
theorem ordersL_ok {α : Type} {post : α → Prop} {c : Convoy} (hc : GoodC c) (hn : c.Ships.length ≤ 5) {v : Int} (hv : 0 ≤ v ∧ v ≤ 250) {W : Int} {b0 : List Int} {t0 : Int} (ht0 : t0 < 0) {K : List Int → Int → Option α} (h : ∀ b t, Least (tailO c v) W (allN c.Ships.length) b t → (t < 0 → b = b0 ∧ t = t0) → Ok post (K b t)) : Ok post (ordersLM FF c (allN c.Ships.length) (halts c v) W b0 t0 K) := by
 have hal : (allN c.Ships.length).length ≤ 120 := by
  have : ([0, 1, 2, 3, 4, 5].all fun n => decide ((allN n).length ≤ 120)) = true := by kernel_rfl
  exact of_decide_eq_true (List.all_eq_true.1 this _ (small hn))
 unfold ordersLM
 refine ok_rest (l := allN c.Ships.length) (d := []) (fun x : List Int × Int × Int => x.2.2) (fun x r => ∃ l, allN c.Ships.length = l ++ r ∧ Least (tailO c v) W l x.1 x.2.1 ∧ (x.2.1 < 0 → x.1 = b0 ∧ x.2.1 = t0)) (by unfold FF; omega) rfl ⟨[], rfl, .inl ⟨ht0, fun o ho => nomatch ho⟩, fun _ => ⟨rfl, rfl⟩⟩ (fun x next y0 y1 hq hm hn' => ?_) (fun x next y1 hq => ?_)
 ·obtain ⟨b, t, k⟩ := x
  obtain ⟨l, q1, q2, q3⟩ := hq
  dsimp only at y0 y1 q1 q2 q3 hm hn' ⊢
  refine ok_brkT (decide_eq_true y1) (ok_join (by decide) (fun y : List Int × Int => Least (tailO c v) W (l ++ [(allN c.Ships.length).getD k.toNat []]) y.1 y.2 ∧ (y.2 < 0 → y.1 = b0 ∧ y.2 = t0)) (fun y hy => ok_chk (show InR _ from ⟨by omega, by omega⟩) (hn' _ rfl ⟨_, by rw [List.append_assoc]; exact q1, hy⟩)) fun k' hk => ok_chk ⟨y0, y1⟩ ?_)
  have hxo := all_ord hn hm
  have hx0 := tailO_nn hc (v := v) hxo.rng
  have hup : ∀ a ∈ l, 0 ≤ cmpL ((allN c.Ships.length).getD k.toNat []) a := fun a ha => up_mid (by rw [← q1]; exact all_up hn) ha
  generalize (allN c.Ships.length).getD k.toNat [] = o at *
  refine tailOM_ok hc hv hxo.rng (by rw [hxo.len]; omega) (ok_brk (fun g => hk _ ⟨?_, fun g2 => ?_⟩) (fun g => hk _ ⟨?_, q3⟩))
  ·simp only [Bool.and_eq_true, Bool.or_eq_true, decide_eq_true_eq] at g
   exact q2.take hx0 g.1 g.2
  ·dsimp only at g2; omega
  ·refine q2.skip (fun g2 => ?_) hup
   have : (decide (tailO c v o ≤ W) && (decide (t < 0) || decide (tailO c v o < t))) = true := by
    simp only [Bool.and_eq_true, Bool.or_eq_true, decide_eq_true_eq]; exact g2
   rw [this] at g; cases g
 ·obtain ⟨b, t, k⟩ := x
  obtain ⟨l, q1, q2, q3⟩ := hq
  dsimp only at y1 q2 q3 ⊢
  rw [List.append_nil] at q1
  rw [← q1] at q2
  exact ok_brkF (decide_eq_false (by omega)) (h b t q2 q3)
def BestIs (c : Convoy) (cell : Cell) (r : List Int × Int × Int) : Prop :=
 (r = ([], 0, 4) ∧ ∀ o ∈ allN c.Ships.length, ∀ u, ¬ HoldsO c cell u o) ∨
 (r.2.2 = 0 ∧ r.1 ∈ allN c.Ships.length ∧ HoldsO c cell r.2.1 r.1 ∧ (∀ o ∈ allN c.Ships.length, ∀ u, r.2.1 < u → ¬ HoldsO c cell u o) ∧
  ∀ o ∈ allN c.Ships.length, HoldsO c cell r.2.1 o → tailO c r.2.1 r.1 ≤ tailO c r.2.1 o ∧ (tailO c r.2.1 o = tailO c r.2.1 r.1 → 0 ≤ cmpL o r.1))
theorem bestM_ok {c : Convoy} (hc : GoodC c) (hn : c.Ships.length ≤ 5) {cell : Cell} (hg : goodCell cell) : Ok (BestIs c cell) (bestM FF c cell (allN c.Ships.length)) := by
 have hp := press_bd hg
 have hm := most_bd hg (ch := false) hc.all (show (0 : Int) ≤ 250 by decide)
 have hm : 0 ≤ mostC c cell ∧ mostC c cell ≤ 250 := hm
 unfold bestM
 refine ok_bnde (most_eq' (by decide) hc hg) (ok_join (by decide) (fun x : Int × List Int × Int => (x.2.2 < 0 ∧ ∀ o ∈ allN c.Ships.length, ∀ u, ¬ HoldsO c cell u o) ∨ (0 ≤ x.2.2 ∧ x.2.1 ∈ allN c.Ships.length ∧ HoldsO c cell x.1 x.2.1 ∧ (∀ o ∈ allN c.Ships.length, ∀ u, x.1 < u → ¬ HoldsO c cell u o) ∧
  ∀ o ∈ allN c.Ships.length, HoldsO c cell x.1 o → tailO c x.1 x.2.1 ≤ tailO c x.1 o ∧ (tailO c x.1 o = tailO c x.1 x.2.1 → 0 ≤ cmpL o x.2.1))) (fun x hx => ok_brk (fun g => ok_some ?_) (fun g => ok_some ?_)) fun k hk => ?_)
 ·have g := of_decide_eq_true g
  rcases hx with ⟨_, h2⟩ | ⟨h1, _⟩
  ·exact .inl ⟨rfl, h2⟩
  ·omega
 ·have g := of_decide_eq_false g
  rcases hx with ⟨h1, _⟩ | ⟨_, h2⟩
  ·omega
  ·exact .inr ⟨rfl, h2⟩
 refine ok_loop (fun x : Int × List Int × Int => x.1 ≤ mostC c cell ∧ x.2.2 < 0 ∧ ∀ o ∈ allN c.Ships.length, ∀ u, x.1 < u → ¬ HoldsO c cell u o) (fun x => (x.1 - 9).toNat) ⟨Int.le_refl _, by dsimp only; omega, fun o ho u hu hh => by have := hh.2.1; dsimp only at hu; omega⟩ (by dsimp only; unfold FF; omega) fun x next hI hn' => ?_
 obtain ⟨v, b, t⟩ := x
 obtain ⟨i1, i2, i3⟩ := hI
 dsimp only at i1 i2 i3 hn' ⊢
 refine ok_brk (fun g => ?_) (fun g => hk _ (.inl ⟨i2, fun o ho u hh => ?_⟩))
 ·have g := of_decide_eq_true g
  have hv : 0 ≤ v ∧ v ≤ 250 := by omega
  refine ok_chk (by rw [List.length_singleton]; omega) (halts_ok hc hv ?_)
  rw [close_get hp]
  have hb := close_bd hc (p := cell.Press.Hi)
  refine ok_chk ⟨hp.1, by omega⟩ (ok_chk (show InR _ from ⟨by omega, by omega⟩) (ok_bnde (way_eq hv ⟨by omega, by omega⟩) ?_))
  have hW : (463 * v * (60 * closeAt c.Close cell.Press.Hi) / 9000 : Int) = openW c v cell.Press.Hi := rfl
  dsimp only
  rw [hW]
  refine ordersL_ok hc hn hv i2 fun b' t' hL hold => ok_brk (fun g2 => hk _ ?_) (fun g2 => ok_chk (show InR _ from ⟨by omega, by omega⟩) (hn' _ ⟨by dsimp only; omega, by have := of_decide_eq_false g2; dsimp only; omega, fun o ho u hu => ?_⟩ (by dsimp only; omega)))
  ·have g2 := of_decide_eq_true g2
   rcases hL with ⟨h1, _⟩ | ⟨h1, h2, h3, h4, h5⟩
   ·omega
   ·exact .inr ⟨g2, h3, ⟨g, i1, h4⟩, i3, fun o ho hh => h5 o ho hh.2.2⟩
  ·have g2 := of_decide_eq_false g2
   dsimp only at hu
   by_cases e : u = v
   ·subst e
    rcases hL with ⟨_, h2⟩ | ⟨h1, _⟩
    ·exact fun hh => h2 o ho hh.2.2
    ·omega
   ·exact i3 o ho u (by omega)
 ·have g := of_decide_eq_false g
  exact i3 o ho u (by have := hh.1; omega) hh
theorem Best_ok {c : Convoy} (hc : GoodC c) (hn : c.Ships.length ≤ 5) {cell : Cell} (hg : goodCell cell) : Ok (BestIs c cell) (convoy_Best FF c cell) := by
 rw [best_unf]
 refine ok_bnde (cmet_good (by decide) hc hg) (ok_brkF rfl (ok_join (by decide) (fun x => x = allN c.Ships.length) (fun x hx => by subst hx; exact bestM_ok hc hn hg) fun k hk => ?_))
 rw [orders_eq hn]
 exact hk _ rfl
end Go.Proofs.Cb

namespace Go.Proofs.Cb
open Go Go.KX
theorem awake_eq : law05_awake 1000000000000000 = some true := by kernel_rfl
end Go.Proofs.Cb

namespace Go.Proofs.Cb
open Go Go.KX
set_option linter.unusedVariables false
theorem convoyBest_ok' (l m order : List Int) (hl : Bytes l) (hm : Bytes m) (ho : Bytes order) : law05_ConvoyBest FF l m order = some true := by
 have aw : law05_awake FF = some true := awake_eq
 refine Ok.eq ?_
 unfold law05_ConvoyBest
 refine ok_bnd _ (made_ok (by decide) hl (show (0 : Int) ≤ 5 ∧ (5 : Int) ≤ 6 by omega)) fun c ⟨hc, hc5⟩ => ?_
 refine ok_bnd _ (frozen_ok (by decide) hm) fun cell hg => ?_
 have hn : c.Ships.length ≤ 5 := by omega
 refine ok_bnd _ (Best_ok hc hn hg) fun r hr => ?_
 refine ok_loop (fun x : Int × List Int × Int => 0 ≤ x.1 ∧ x.1 ≤ (c.Ships.length : Int) ∧ Ord x.1.toNat x.2.1 ∧ Pos order x.2.2) (fun x => (6 - x.1).toNat) ⟨Int.le_refl _, by dsimp only; omega, ⟨rfl, List.nodup_nil, fun x hx => nomatch hx⟩, by dsimp only; exact ⟨Int.le_refl _, by omega⟩⟩ (by decide) fun x next hI hn' => ?_
 obtain ⟨k, any, pos⟩ := x
 obtain ⟨i1, i2, i3, i4⟩ := hI
 dsimp only at i1 i2 i3 i4 hn' ⊢
 refine ok_brk (fun g => ?_) (fun g => ?_)
 ·have g := of_decide_eq_true g
  have hal := i3.len
  refine ok_chk (show InR _ from ⟨by omega, by omega⟩) (ok_nextS (by decide) ho i4.1 i4.2 (by omega) fun p q p1 p2 p3 p4 p5 => ?_)
  dsimp only
  refine ok_chk ⟨p1, by omega, by simp, by rw [List.length_singleton]; omega⟩ (ok_chk (show InR _ from ⟨by omega, by omega⟩) (hn' _ ⟨by dsimp only; omega, by dsimp only; omega, ?_, p4, p5⟩ (by dsimp only; omega)))
  dsimp only
  have h := i3.ins (p := p.toNat)
  rw [show ((k.toNat : Nat) : Int) = k by omega] at h
  rwa [show (k + 1).toNat = k.toNat + 1 by omega]
 have g := of_decide_eq_false g
 have ek : k.toNat = c.Ships.length := by omega
 rw [ek] at i3
 have hany := i3.mem
 have hgA : GoodC (ordC c any) := ord_good hc (by rw [i3.len]; omega) i3.rng
 refine ok_bnde (Ordered_eq hc hn hany) (ok_brkF rfl (ok_bnd _ (Fastest_ok (by decide) hgA hg) fun fa ⟨va, qa, ea⟩ => ?_))
 dsimp only
 rcases hr with ⟨rfl, hr⟩ | ⟨r1, r2, r3, r4, r5⟩
 ·have h0 : va = 0 := by
   rcases qa.pos with h | h
   ·exact h
   ·exact absurd ((holds_ord hn hany).1 h) (hr any hany va)
  subst h0
  rw [if_pos rfl] at ea
  subst ea
  exact ok_brkT rfl (ok_bnde (b := true) (by rw [show ((4 : Int) == 4 && (4 : Int) == 4) = true from rfl, brk_true]; exact aw) (ok_some rfl))
 ·obtain ⟨best, v, e⟩ := r
  dsimp only at r1 r2 r3 r4 r5 ⊢
  subst r1
  have hbo := all_ord hn r2
  have hgB : GoodC (ordC c best) := ord_good hc (by rw [hbo.len]; omega) hbo.rng
  refine ok_brkF rfl (ok_bnde (Ordered_eq hc hn r2) (ok_bnd _ (Fastest_ok (by decide) hgB hg) fun fb ⟨vb, qb, eb⟩ => ?_))
  dsimp only
  have hB : HoldsC (ordC c best) cell v := (holds_ord hn r2).2 r3
  have hbv : vb = v := qb.one (.inr ⟨hB, fun u hu hh => r4 best r2 u hu ((holds_ord hn r2).1 hh)⟩)
  have hv := holds_bd hB
  subst hbv
  rw [if_neg (by omega)] at eb
  subst eb
  have hle : va ≤ vb := by
   rcases qa.pos with h | h
   ·omega
   ·have := (holds_ord hn hany).1 h
    by_cases h2 : vb < va
    ·exact absurd this (r4 any hany va h2)
    ·omega
  refine ok_brkF ?_ (ok_join (by decide) (fun _ => True) (fun _ _ => ok_bnde aw (ok_some rfl)) fun k' hk => ok_brk (fun g2 => ?_) (fun g2 => hk _ trivial))
  ·subst ea
   split
   ·simp
   ·simp; omega
  have hva : va = vb ∧ HoldsC (ordC c any) cell va := by
   by_cases h0 : va = 0
   ·rw [if_pos h0] at ea; subst ea; cases g2
   ·rw [if_neg h0] at ea; subst ea
    simp only [Bool.and_eq_true, beq_iff_eq] at g2
    exact ⟨g2.2, qa.pos.resolve_left h0⟩
  obtain ⟨rfl, hA⟩ := hva
  have hT := r5 any hany ((holds_ord hn hany).1 hA)
  refine ok_bnde (tail_eq (by decide) hgA (by omega)) (ok_bnde (tail_eq (by decide) hgB (by omega)) ?_)
  dsimp only
  have t1 : tailL (ordC c any).Clear va (ordC c any).Breaker (ordC c any).Ships = tailO c va any := rfl
  have t2 : tailL (ordC c best).Clear va (ordC c best).Breaker (ordC c best).Ships = tailO c va best := rfl
  rw [t1, t2]
  generalize tailO c va any = A at *
  generalize tailO c va best = B at *
  have hd : decide (A < B) = false := decide_eq_false (by omega)
  rw [hd]
  by_cases he : A = B
  ·have hcmp := hT.2 he
   refine ok_bnde (b := cmpL any best) (by rw [show (!((0 : Int) != 0 || (0 : Int) != 0 || false) && A == B) = true by simp [he], brk_true]; exact compare_eq hn hany r2) (ok_brkF ?_ (hk _ trivial))
   rw [decide_eq_false (show ¬ cmpL any best < 0 by omega)]
   simp
  ·refine ok_bnde (b := 0) (by rw [show (!((0 : Int) != 0 || (0 : Int) != 0 || false) && A == B) = false by simp [he]]; rfl) (ok_brkF ?_ (hk _ trivial))
   simp [he]
theorem convoyBest_ok {l m o : List Int} (h0 : (∀ y ∈ l, 0 ≤ y ∧ y ≤ 255) ∧ l.length ≤ 9223372036854775807) (h1 : (∀ y ∈ m, 0 ≤ y ∧ y ≤ 255) ∧ m.length ≤ 9223372036854775807) (h2 : (∀ y ∈ o, 0 ≤ y ∧ y ≤ 255) ∧ o.length ≤ 9223372036854775807) : law05_ConvoyBest 1000000000000000 l m o = some true :=
 convoyBest_ok' l m o ⟨h0.1, h0.2⟩ ⟨h1.1, h1.2⟩ ⟨h2.1, h2.2⟩
end Go.Proofs.Cb

namespace Go.KX
open Go Go.ChangeShapes Go.WideShapes Go.RowKit
def goodT (P : Program) : Nat → TypeId → Bool
 | 0, _ => false
 | n + 1, t => match P.underlying t with
  | some (.int _) => true
  | some .bool => true
  | some (.struct fs) => fs.toList.all fun f => goodT P n f.type
  | some (.array _ e) => goodT P n e
  | some (.slice e) => goodT P n e && Nat.ble 1 (P.cellsOf e)
  | _ => false
theorem mapM_carry' {α β : Type} {f g : α → Option β} : ∀ {l : List α} {r : List β}, l.mapM f = some r → (∀ x y, x ∈ l → y ∈ r → f x = some y → g x = some y) → l.mapM g = some r := mapM_carry
section
variable {H : Type} {enc : TypeId × Value → H} {P : Program} {w : World} {base : Nat} {held : Bool}
theorem trod_spare {sp : Nat → Bool} : ∀ (m n : Nat) (t : TypeId) (cs : List Value) (x : DataW H × List MemPlace), goodT P m t = true →
  DataW.trod enc P w base (fun _ => true) held n t cs = some x → (∀ p ∈ x.2, sp p.block = true) → DataW.trod enc P w base sp held n t cs = some x := by
 intro m
 induction m with
 | zero => intro n t cs x h; cases h
 | succ m ih =>
  intro n t cs x hg h hs
  cases n with
  | zero => simp [DataW.trod] at h
  | succ n =>
   rw [DataW.trod_step] at h ⊢
   unfold goodT at hg
   unfold DataW.trodStep at h ⊢
   split at h
   case h_1 => exact h
   case h_2 => exact h
   case h_8 e a len cap hu =>
    rw [hu] at hg
    simp only [Bool.and_eq_true] at hg
    simp only at h ⊢
    split at h
    ·rename_i hc
     rw [if_pos hc]
     simp only [if_true, Option.map_eq_some_iff, Option.bind_eq_some_iff] at h ⊢
     obtain ⟨elems, he, rest, hr, rfl⟩ := h
     have hlen : elems.length = len := by simpa using mapM_some_length he
     have hrlen : rest.length = cap - len := by simpa using mapM_some_length hr
     have hk : 1 ≤ P.cellsOf e := Nat.le_of_ble_eq_true hg.2
     have one : ∀ i y, (w.cells? base (a.add (i * P.cellsOf e)) (P.cellsOf e)).bind (DataW.trod enc P w base (fun _ => true) held n e) = some y → (∀ p ∈ y.2, sp p.block = true) →
       (w.cells? base (a.add (i * P.cellsOf e)) (P.cellsOf e)).bind (DataW.trod enc P w base sp held n e) = some y := by
      intro i y hy hp
      rw [Option.bind_eq_some_iff] at hy ⊢
      obtain ⟨cs', h1, h2⟩ := hy
      exact ⟨cs', h1, ih n e cs' y hg.1 h2 hp⟩
     have hpl : ∀ y, y ∈ elems ++ rest → ∀ p ∈ y.2, sp p.block = true := fun y hy p hp => hs p (by
      simp only [List.mem_append]
      exact .inr (List.mem_flatMap.2 ⟨y, hy, hp⟩))
     refine ⟨elems, mapM_carry' he fun i y hi hy hiy => one i y hiy (hpl y (by simp [hy])), rest, ?_, rfl⟩
     by_cases hcap : cap = 0
     ·have : rest = [] := List.length_eq_zero_iff.1 (by omega)
      subst this
      split
      ·rw [show cap - len = 0 by omega]; rfl
      ·rfl
     ·have : sp a.block = true := by
       have := hs (.cell a.block (a.off + 0)) (by
        simp only [List.mem_append]
        refine .inl (MemPlace.mem_row.2 ⟨0, ?_, rfl⟩)
        rw [hlen, hrlen, show len + (cap - len) = cap by omega]
        exact Nat.mul_pos (by omega) hk)
       exact this
      rw [if_pos this]
      exact mapM_carry' hr fun j y hj hy hjy => one _ y hjy (hpl y (by simp [hy]))
    ·cases h
   case h_7 => exact h
   case h_9 fs cs' hu =>
    rw [hu] at hg
    simp only at hg
    split at h
    ·rename_i hl
     rw [if_pos hl]
     simp only [Option.map_eq_some_iff] at h ⊢
     obtain ⟨xs, hx, rfl⟩ := h
     refine ⟨xs, mapM_carry' hx fun f y hf hy hfy => ih n f.type _ y (List.all_eq_true.1 hg f hf) hfy fun p hp => hs p ?_, rfl⟩
     exact List.mem_flatMap.2 ⟨y, hy, hp⟩
    ·cases h
   case h_10 =>
    rename_i e hu
    rw [hu] at hg
    simp only at hg
    split at h
    ·rename_i hl
     rw [if_pos hl]
     simp only [Option.map_eq_some_iff] at h ⊢
     obtain ⟨xs, hx, rfl⟩ := h
     refine ⟨xs, mapM_carry' hx fun f y hf hy hfy => ih n e _ y hg hfy fun p hp => hs p ?_, rfl⟩
     exact List.mem_flatMap.2 ⟨y, hy, hp⟩
    ·cases h
   all_goals simp_all
theorem trod_move {w' : World} {sp : Nat → Bool} {t : TypeId} {v : Value} {d : DataW H} {ps : List MemPlace} (hg : goodT P 8 t = true) (h : DataW.Trod enc P w base (fun _ => true) held t v d ps)
  (hsame : ∀ p ∈ ps, w.sameAt w' p) (hs : ∀ p ∈ ps, sp p.block = true) : DataW.Trod enc P w' base sp held t v d ps := by
 obtain ⟨n, hn⟩ := h
 exact ⟨n, trod_spare 8 n t _ _ hg (DataW.trod_carry n t _ _ hn hsame) hs⟩
theorem trodAll_move {w' : World} {sp : Nat → Bool} : ∀ {ts : List TypeId} {vs : List Value} {ds : List (DataW H)} {ps : List MemPlace}, ts.all (goodT P 8) = true → DataW.TrodAll enc P w base (fun _ => true) held ts vs ds ps →
  (∀ p ∈ ps, w.sameAt w' p) → (∀ p ∈ ps, sp p.block = true) → DataW.TrodAll enc P w' base sp held ts vs ds ps := by
 intro ts
 induction ts with
 | nil =>
  intro vs ds ps _ h _ _
  obtain ⟨rfl, rfl, rfl⟩ := trodAll_nil h
  rfl
 | cons t ts ih =>
  intro vs ds ps hg h hsame hs
  obtain ⟨v, vs', d, ds', p, q, rfl, rfl, rfl, h1, h2⟩ := trodAll_cons h
  simp only [List.all_cons, Bool.and_eq_true] at hg
  exact ⟨p, q, trod_move hg.1 h1 (fun x hx => hsame x (by simp [hx])) (fun x hx => hs x (by simp [hx])), ih hg.2 h2 (fun x hx => hsame x (by simp [hx])) (fun x hx => hs x (by simp [hx])), rfl⟩
theorem post_law {f : Func} {s : ChangeSpec} {W W' : World} {args : Array Value} {ds gs : List (DataW H)} {before : List MemPlace} {tb : TypeId} (hW : DataW.Whole enc P f.params.toList s.vars false W args.toList ds gs before)
  (hv : s.vars = []) (hfn : s.fn H ds = { results := [.lit (.bool true)], args := ds }) (hrt : f.resultTypes = #[tb]) (htb : P.underlying tb = some .bool) (hgood : f.params.toList.all (goodT P 8) = true) (hb : Below W.heap.size W W') :
  s.post enc P f false true false false W args (.bool true) W' := by
 have hW0 := hW
 obtain ⟨p, q, hA, hV, rfl, _, _⟩ := hW
 rw [hv] at hV
 obtain ⟨rfl, rfl⟩ := trodVars_none hV
 have hlt : ∀ x ∈ p ++ [], x.block < W.heap.size := fun x hx => hW0.lt x hx
 have hsame : ∀ x ∈ p, W.sameAt W' x := fun x hx => hb.same (hlt x (by simpa using hx))
 refine ⟨ds, [], p ++ [], [], p, [], hW0, ?_, ?_, ?_, hb.frame _, fun h => by cases h⟩
 ·simp only [List.append_nil, hfn, hrt]
  exact trodAll_mk1 (shut_bool htb _)
 ·simp only [List.append_nil, hfn]
  exact trodAll_move hgood hA hsame fun x hx => by simpa using hlt x (by simpa using hx)
 ·simp only [List.append_nil, hfn, hv]
  rfl
end
theorem wf_u8 {n : Int} (h : (Lit.int .u8 n).wf = true) : 0 ≤ n ∧ n ≤ 255 := by
 simp [Lit.wf, IntKind.min, IntKind.max, IntKind.signed, IntKind.bits] at h
 omega
def HReads (E : Env) (t : TypeId) (c : Nat) (In : E.G.car c → Prop) : Prop :=
 E.P.cellsOf t = E.G.sz c ∧ ∀ (H : Type) (e : TypeId × Value → H) (w : World) (base : Nat) (sp : Nat → Bool) (held : Bool) (fuel : Nat) (cs : List Value) (x : DataW H × List MemPlace),
  DataW.trod e E.P w base sp held fuel t cs = some x → ∃ a : E.G.car c, HdL E.G (IsCells w) w (E.G.enc c a) cs ∧ In a
theorem isCells_of {w : World} {a : Addr} {u : Value} (h : w.cell? a = some u) : IsCells w a.block ∧ a.spot = none := by
 unfold World.cell? at h
 split at h
 ·rename_i c e s hb
  refine ⟨⟨_, hb, rfl⟩, ?_⟩
  split at h
  ·cases h
  ·rename_i hs
   simpa using hs
 ·cases h
section
variable {E : Env} {H : Type} {e : TypeId × Value → H} {w : World} {base : Nat} {sp : Nat → Bool} {held : Bool}
theorem hdL_one {x : Value} {cv : CV E.G.car} (h : Hd E.G (IsCells w) w cv x) : HdL E.G (IsCells w) w [cv] [x] := ⟨_, _, rfl, h, rfl⟩
theorem hreads_int {t : TypeId} {c : Nat} {k : IntKind} {In : E.G.car c → Prop} (f : Int → E.G.car c) (hf : ∀ n, E.G.enc c (f n) = [.v (.int k n)]) (hu : E.P.underlying t = some (.int k)) (hc : E.P.cellsOf t = E.G.sz c)
  (hIn : ∀ n, (Lit.int k n).wf = true → In (f n)) : HReads E t c In :=
 ⟨hc, fun _ _ _ _ _ _ _ _ _ h => by
  obtain ⟨n, h1, _, h2⟩ := DataW.trod_int hu h
  subst h1
  exact ⟨f n, by rw [hf]; exact hdL_one (.v _), hIn n h2⟩⟩
theorem HReads.at {t : TypeId} {c off : Nat} {In : E.G.car c → Prop} {cs : List Value} (hR : HReads E t c In)
  (hx : ∃ fuel y, DataW.trod e E.P w base sp held fuel t ((cs.drop off).take (E.P.cellsOf t)) = some y) : ∃ a, HdL E.G (IsCells w) w (E.G.enc c a) ((cs.drop off).take (E.G.sz c)) ∧ In a := by
 obtain ⟨fuel, y, h⟩ := hx
 rw [hR.1] at h
 exact hR.2 _ _ _ _ _ _ _ _ _ h
theorem hslice_of {t el : TypeId} {c fuel : Nat} {In : E.G.car c → Prop} {cs : List Value} {x : DataW H × List MemPlace} (hu : E.P.underlying t = some (.slice el)) (hR : HReads E el c In) (hn : 0 < E.G.sz c)
  (h : DataW.trod e E.P w base sp held fuel t cs = some x) :
  ∃ (p : Option Addr) (n cap : Nat) (l : List (E.G.car c)), cs = [.slice p n cap] ∧ Hd E.G (IsCells w) w (.sl c l) (.slice p n cap) ∧ (∀ x ∈ l, In x) ∧ l.length ≤ 9223372036854775807 := by
 rcases DataW.trod_slice hu h with ⟨rfl, _⟩ | ⟨a, len, cap, elems, rest, m, _, rfl, _, hb, hl, hm, hel, hi, _, _⟩
 ·exact ⟨none, 0, 0, [], rfl, Hd.mk (b := 0) (o := 0) rfl (Nat.le_refl _) (fun h => absurd rfl h) (fun i x hx => by simp at hx), by simp, by simp⟩
 have build : ∀ k, k ≤ len → ∃ l : List (E.G.car c), l.length = k ∧ ∀ i x, l[i]? = some x → In x ∧ ∃ us, w.cells? base (a.add (i * E.G.sz c)) (E.G.sz c) = some us ∧ HdL E.G (IsCells w) w (E.G.enc c x) us := by
  intro k
  induction k with
  | zero => intro _; exact ⟨[], rfl, fun i x hx => by simp at hx⟩
  | succ k ih =>
   intro hk
   obtain ⟨l, h1, h2⟩ := ih (by omega)
   have h3 := hi k (by omega)
   rw [List.getElem?_eq_getElem (by omega), hR.1, Option.bind_eq_some_iff] at h3
   obtain ⟨cs', h4, h5⟩ := h3
   obtain ⟨y, hy1, hy⟩ := hR.2 _ _ _ _ _ _ _ _ _ h5
   refine ⟨l ++ [y], by simp [h1], fun i x hx => ?_⟩
   rcases Nat.lt_or_ge i k with h6 | h6
   ·rw [List.getElem?_append_left (by omega)] at hx; exact h2 i x hx
   ·rw [List.getElem?_append_right (by omega)] at hx
    have : i - l.length = 0 := by
     have := (List.getElem?_eq_some_iff.1 hx).1
     simpa using this
    rw [this] at hx
    simp only [List.getElem?_cons_zero, Option.some.injEq] at hx
    subst hx
    obtain rfl : i = k := by omega
    exact ⟨hy, _, h4, hy1⟩
 obtain ⟨l, h1, h2⟩ := build len (Nat.le_refl _)
 have hcell : ∀ (i : Nat) x, l[i]? = some x → ∀ (j : Nat) (cv : CV E.G.car), (E.G.enc c x)[j]? = some cv → ∃ u, w.cell? ((a.add (i * E.G.sz c)).add j) = some u ∧ Hd E.G (IsCells w) w cv u := by
  intro i x hx j cv hcv
  obtain ⟨_, us, h3, h4⟩ := h2 i x hx
  obtain ⟨u, h5, h6⟩ := h4.get j cv hcv
  obtain ⟨_, h7, h8⟩ := World.cells?_some h3
  refine ⟨u, ?_, h6⟩
  rw [h8 j (by rw [← h7]; exact (List.getElem?_eq_some_iff.1 h5).1), h5]
 refine ⟨some a, len, cap, l, rfl, ?_, fun x hx => ?_, by unfold maxLen at hm; omega⟩
 ·rcases Nat.eq_zero_or_pos len with h0 | h0
  ·have : l = [] := List.length_eq_zero_iff.1 (by omega)
   subst this
   exact Hd.mk (b := 0) (o := 0) h1.symm hl (fun h => absurd rfl h) (fun i x hx => by simp at hx)
  ·have hpos : 0 < l.length := by omega
   have hz : 0 < (E.G.enc c l[0]).length := by rw [E.G.hsz]; exact hn
   obtain ⟨u, h3, _⟩ := hcell 0 l[0] (List.getElem?_eq_getElem hpos) 0 _ (List.getElem?_eq_getElem hz)
   rw [Nat.zero_mul, show (a.add 0).add 0 = a by simp [Addr.add]] at h3
   obtain ⟨h4, h5⟩ := isCells_of h3
   obtain ⟨b, o, s⟩ := a
   simp only at h4 h5
   subst h5
   refine Hd.mk (b := b) (o := o) h1.symm hl (fun _ => ⟨rfl, h4⟩) (fun i x hx j cv hcv => ?_)
   have := hcell i x hx j cv hcv
   rwa [addr_add, addr_add] at this
 ·obtain ⟨i, hi⟩ := List.getElem?_of_mem hx
  exact (h2 i x hi).1
theorem harg_sl {r : Reach} {b0 : Nat} {t el : TypeId} {c : Nat} {In : E.G.car c → Prop} {v : Value} {d : DataW H} {ps : List MemPlace} (hu : E.P.underlying t = some (.slice el)) (hR : HReads E el c In) (hn : 0 < E.G.sz c)
  (hval : Value.okWide E.P w r b0 t v) (h : DataW.Trod e E.P w base sp held t v d ps) : ∃ a : List (E.G.car c), ArgIs E (IsCells w) w (.sl c) a v ∧ (∀ x ∈ a, In x) ∧ a.length ≤ 9223372036854775807 := by
 obtain ⟨p, n, cap, rfl⟩ := okWide_slice hu hval
 obtain ⟨fuel, hf⟩ := h
 obtain ⟨p', n', cap', l, h1, h2, h3, h4⟩ := hslice_of hu hR hn hf
 have h1 : [Value.slice p n cap] = [.slice p' n' cap'] := h1
 simp only [List.cons.injEq, and_true, Value.slice.injEq] at h1
 obtain ⟨rfl, rfl, rfl⟩ := h1
 exact ⟨l, h2, h3, h4⟩
theorem law_callsG {gl : List (Nat × Val E.G.car)} {k : Nat} {ps : List PK} {t : Nat} {es : List Nat} {f : AT E.G.car ps → Option (E.G.car t)} (hc : CSok E gl ⟨k, ps, [.v t false es], f⟩) (hg : GW E gl (IsCells w) w) (b : E.G.car t) (hb : E.G.enc t b = [.v (.bool true)])
  {vs : List Value} {xs : AT E.G.car ps} (ha : ArgsAre E (IsCells w) w ps xs vs) (hm : f xs = some b) :
  Calls E.P k vs.toArray w fun e w' => e = .returned (.bool true) ∧ Below w.heap.size w w' := by
 have h := hc.ok (IsCells w) w vs xs hg (fun _ h => h) ha b hm
 refine h.mono fun e' w' ⟨us, ms, A', h1, h2, _, _, _, h3, _⟩ => ⟨?_, h2.below⟩
 obtain ⟨v, rfl, us', h4, h5⟩ := h3
 simp only [Bool.false_eq_true, if_false] at h5
 subst h5
 have h4 : ResCells E.G A' w.heap.size w' (E.G.enc t b) es [v] ms := h4
 rw [hb] at h4
 obtain ⟨us2, h6, _⟩ := h4
 cases h6
 exact h1
theorem gw_nums {l : List Int} (hglo : E.glo = [(0, 0)]) (h : ∀ (j : Nat) (n : Int), l[j]? = some n → w.cell? ⟨0, j, none⟩ = some (.int .i64 n)) (hl : l ≠ []) :
  GW E [(0, .ro (l.map fun n => .v (.int .i64 n)))] (IsCells w) w := by
 refine ⟨fun _ => { b := 0, p := none, n := 0, c := 0 }, by rw [hglo]; intro p hp; rw [List.mem_singleton.1 hp], fun q hq => ?_⟩
 rw [List.mem_singleton.1 hq]
 refine ⟨?_, fun j cv hj => ?_⟩
 ·cases l with
  | nil => exact absurd rfl hl
  | cons n r =>
   have h0 := h 0 n rfl
   show IsCells w 0
   unfold World.cell? at h0
   dsimp only at h0
   split at h0
   ·rename_i cs _ _ he; exact ⟨_, he, rfl⟩
   ·cases h0
 ·rw [List.getElem?_map] at hj
  cases e : l[j]? with
  | none => rw [e] at hj; cases hj
  | some n =>
   rw [e] at hj
   simp only [Option.map_some, Option.some.injEq] at hj
   subst hj
   exact ⟨_, h j n e, .v _⟩
end
end Go.KX

namespace Go.Proofs.YtopinlndbbikdaaGreatDoor
open Go Go.KX Go.ChangeShapes Go.WideShapes Go.ChangeAt Go.RowKit
def strengths : List Int := [4000, 8000, 14000, 24000, 40000, 90000]
theorem own : ownKnob Tryz.prog.godebug = none := by kernel_rfl
theorem gStr : Tryz.prog.globalNamed "polynya/hull.strengths" = some 0 := by kernel_rfl
theorem tStr : ∃ t e, (Tryz.prog.globals[0]?).map (·.type) = some t ∧ Tryz.prog.underlying t = some (.array 6 e) ∧ Tryz.prog.underlying e = some (.int .i64) ∧ Tryz.prog.cellsOf e = 1 ∧ Tryz.prog.cellsOf t = 6 :=
 ⟨169, 3, by kernel_rfl, by kernel_rfl, by kernel_rfl, by kernel_rfl, by kernel_rfl⟩
abbrev laid1 : List (String × DataW Unit) := [("polynya/hull.strengths", Rows.laid_polynya_hull_strengths)]
theorem door_met (os : Os) (args : Array Value) : laidMetH Tryz.prog laid1 ((World.doorLaid Tryz.prog 400 os).forCall (fun _ _ => 0) ⟨#[], args, []⟩).memory :=
 laidMetH_of_parts3 (fuel := 8) (laidMet_of_run' 8 (by kernel_rfl) (by kernel_rfl)) (by kernel_rfl) (by kernel_rfl)
theorem of_laid {W : World} (h : laidMetH Tryz.prog laid1 W) : GW Cb.E Cb.gl (IsCells W) W := by
 rw [MakeChecks.laidMetH_plain _ _ _ (by kernel_rfl)] at h
 obtain ⟨ps, ⟨g0, t0, cs0, f0, p0, q0, hg0, ht0, hv0, hd0, _, _⟩, _, _⟩ := h
 obtain rfl := Option.some.inj (gStr.symm.trans hg0)
 obtain ⟨t, e, h1, h2, h3, h4, h5⟩ := tStr
 obtain rfl := Option.some.inj (h1.symm.trans ht0)
 obtain ⟨xs, m1, rfl, hx, hlen, hn, hel⟩ := DataW.trod_array h2 hd0
 rw [h5] at hlen
 have cell : ∀ i, W.cell? ⟨0, i, none⟩ = cs0[i]? := World.var?_cell hg0 hv0
 have one : ∀ i, i < 6 → ∃ n, cs0.toList[i]? = some (.int .i64 n) ∧ xs[i]? = some (.lit (.int .i64 n), []) := by
  intro i hi
  have h6 := hel i hi
  rw [h4] at h6
  have hxi : xs[i]? = some xs[i] := List.getElem?_eq_getElem (by omega)
  rw [hxi] at h6
  obtain ⟨n, e1, e2, _⟩ := DataW.trod_int h3 h6
  refine ⟨n, ?_, by rw [hxi, e2]⟩
  have : (cs0.toList.drop (i * 1)).take 1 = [Value.int .i64 n] := e1
  rw [Nat.mul_one] at this
  have h7 : ((cs0.toList.drop i).take 1)[0]? = some (.int .i64 n) := by rw [this]; rfl
  simpa [List.getElem?_take, List.getElem?_drop] using h7
 have val : ∀ i n, xs[i]? = some (.lit (.int .i64 n), []) → i < 6 → strengths[i]? = some n := by
  intro i n hi hlt
  simp only [Prod.mk.injEq, Rows.laid_polynya_hull_strengths] at hx
  have hm : (xs.map (·.1))[i]? = some (.lit (.int .i64 n)) := by simp [hi]
  have he : (xs.map (·.1)) = [.lit (.int .i64 4000), .lit (.int .i64 8000), .lit (.int .i64 14000), .lit (.int .i64 24000), .lit (.int .i64 40000), .lit (.int .i64 90000)] := by
   have := hx.1
   simp only [DataW.agg.injEq] at this
   exact this.symm
  rw [he] at hm
  unfold strengths
  match i, hlt with
  | 0, _ => simp_all
  | 1, _ => simp_all
  | 2, _ => simp_all
  | 3, _ => simp_all
  | 4, _ => simp_all
  | 5, _ => simp_all
 refine gw_nums (l := strengths) rfl (fun j n hj => ?_) (by simp [strengths])
 have hlt : j < 6 := by
  have := (List.getElem?_eq_some_iff.1 hj).1
  simpa [strengths] using this
 obtain ⟨m, e1, e2⟩ := one j hlt
 have h8 := val j m e2 hlt
 rw [h8] at hj
 cases hj
 rw [cell j]
 simpa using e1
end Go.Proofs.YtopinlndbbikdaaGreatDoor
