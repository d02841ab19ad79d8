/- Plain functions of the hull layer, as its Go text computes them. -/
namespace Hull
structure Pt where
  X : Int
  Y : Int
  deriving Inhabited, DecidableEq

def pt (l : List Pt) (i : Int) : Pt := l.getD i.toNat ⟨0, 0⟩

def within (n a b : Int) : Bool := decide (n ≥ a) && decide (n ≤ b)

def curveAt (l : List Pt) (i : Int) : Bool :=
  within (pt l i).X 0 400 && within (pt l i).Y 0 20000 && !(decide (i > 0) && decide ((pt l i).X ≤ (pt l (i - 1)).X))

def curve (l : List Pt) : Bool := within (l.length : Int) 2 8 && ((pt l 0).X == 0) && (List.range l.length).all fun i => curveAt l (i : Int)

def steadyAt (l : List Pt) (way : Int) (i : Int) : Bool := !decide (((pt l i).Y - (pt l (i - 1)).Y) * way < 0)

def steady (l : List Pt) (way : Int) : Bool := curve l && (List.range (l.length - 1)).all fun i => steadyAt l way ((i + 1 : Nat) : Int)

def endX (l : List Pt) : Int := (pt l ((l.length : Int) - 1)).X

def valFrom (l : List Pt) (x : Int) : Nat → Nat → Int × Int
  | 0, _ => ((pt l ((l.length : Int) - 1)).Y, 1)
  | f + 1, i =>
    if x ≤ (pt l (i : Int)).X then
      ((pt l ((i : Int) - 1)).Y * ((pt l (i : Int)).X - (pt l ((i : Int) - 1)).X) + ((pt l (i : Int)).Y - (pt l ((i : Int) - 1)).Y) * (x - (pt l ((i : Int) - 1)).X), (pt l (i : Int)).X - (pt l ((i : Int) - 1)).X)
    else valFrom l x f (i + 1)

def value (l : List Pt) (x : Int) : Int × Int := valFrom l x (l.length - 1) 1

/-- Bounds on the points, as a curve has them. -/
def Bd (l : List Pt) : Prop := ∀ i : Int, 0 ≤ i → i < l.length → 0 ≤ (pt l i).X ∧ (pt l i).X ≤ 400 ∧ 0 ≤ (pt l i).Y ∧ (pt l i).Y ≤ 20000

theorem mul_bd {x y A B : Int} (hx : -A ≤ x ∧ x ≤ A) (hy : -B ≤ y ∧ y ≤ B) : -(A * B) ≤ x * y ∧ x * y ≤ A * B := by
  have h1 : 0 ≤ (A - x) * (B + y) := Int.mul_nonneg (by omega) (by omega)
  have h2 : 0 ≤ (A + x) * (B - y) := Int.mul_nonneg (by omega) (by omega)
  have h3 : 0 ≤ (A - x) * (B - y) := Int.mul_nonneg (by omega) (by omega)
  have h4 : 0 ≤ (A + x) * (B + y) := Int.mul_nonneg (by omega) (by omega)
  simp only [Int.sub_mul, Int.mul_sub, Int.add_mul, Int.mul_add] at h1 h2 h3 h4
  constructor <;> omega

theorem curve_lt {l : List Pt} (h : curve l = true) : l ≠ [] ∧ 2 ≤ l.length ∧ l.length ≤ 8 := by
  simp only [curve, within, Bool.and_eq_true, decide_eq_true_eq] at h
  obtain ⟨⟨⟨h1, h2⟩, _⟩, _⟩ := h
  refine ⟨fun e => by subst e; simp at h1, by omega, by omega⟩

theorem curve_at {l : List Pt} (h : curve l = true) {i : Int} (h0 : 0 ≤ i) (h1 : i < l.length) : curveAt l i = true := by
  simp only [curve, Bool.and_eq_true, List.all_eq_true, List.mem_range] at h
  have := h.2 i.toNat (by omega)
  rwa [Int.toNat_of_nonneg h0] at this

theorem curve_bd {l : List Pt} (h : curve l = true) : Bd l := by
  intro i h0 h1
  have := curve_at h h0 h1
  simp only [curveAt, within, Bool.and_eq_true, decide_eq_true_eq] at this
  omega

structure Ice where
  Conc : Int
  Thick : Int
  Ridge : Int
  Press : Int
  deriving Inhabited, DecidableEq

structure Span where
  Lo : Int
  Hi : Int
  deriving Inhabited, DecidableEq

structure Cell where
  Conc : Span
  Thick : Span
  Ridge : Span
  Press : Span
  deriving Inhabited, DecidableEq

structure Part where
  Cell : Cell
  Channel : Bool
  Length : Int
  deriving Inhabited, DecidableEq

structure Ship where
  Class : Int
  Power : Int
  Draught : Int
  Tonnes : Int
  Thrust : List Pt
  Water : List Pt
  Ice : List Pt
  Slow : Int
  Brash : Int
  Ridge : Int
  Press : Int
  deriving Inhabited, DecidableEq

structure Ride where
  Ship : Ship
  in_ : Ice
  channel : Bool

def rule1 (s : Ship) : Bool := within s.Class 1 6
def rule2 (s : Ship) : Bool := within s.Power 100 100000 && within s.Draught 10 2000 && within s.Tonnes 10 500000
def rule3 (s : Ship) : Bool := within s.Slow 0 20 && within s.Brash 0 100 && within s.Ridge 0 500 && within s.Press 0 5000
def rule4 (s : Ship) : Bool := steady s.Thrust (-1) && within (endX s.Thrust) 10 250
def rule5 (s : Ship) : Bool := steady s.Water 1 && decide (endX s.Water ≤ 250)
def rule6 (s : Ship) : Bool := steady s.Ice 1 && ((pt s.Ice 0).Y == 0) && (endX s.Ice == 400)

def check (s : Ship) : Int :=
  if rule1 s = false then 41 else if rule2 s = false then 40 else if rule3 s = false then 40 else if rule4 s = false then 40 else if rule5 s = false then 40 else if rule6 s = false then 40 else 0

theorem steady_curve {l : List Pt} {w : Int} (h : steady l w = true) : curve l = true := by
  simp only [steady, Bool.and_eq_true] at h; exact h.1


theorem within_t {n a b : Int} (h : within n a b = true) : a ≤ n ∧ n ≤ b := by
  simp only [within, Bool.and_eq_true, decide_eq_true_eq] at h; omega
theorem within_f {n a b : Int} (h : within n a b = false) : ¬ (a ≤ n ∧ n ≤ b) := by
  simp only [within, Bool.and_eq_false_iff, decide_eq_false_iff_not] at h; omega

theorem b1 {a b c : Bool} : (!a || !b || c) = true → (a && b && !c) = false := by cases a <;> cases b <;> cases c <;> simp
theorem b3 {a b c : Bool} : (!a || !b || c) = false → (a && b && !c) = true := by cases a <;> cases b <;> cases c <;> simp
theorem b4 {a : Bool} : a = false → (!a) = true := by cases a <;> simp
theorem f2t {a : Bool} : a = false → ¬ a = true := by cases a <;> simp
theorem b2 {a : Bool} : a = true → (!a) = false := by cases a <;> simp

theorem steady_len {l : List Pt} {w : Int} (h : steady l w = true) : 2 ≤ l.length ∧ l.length ≤ 8 := (curve_lt (steady_curve h)).2

theorem curve_no1 {l : List Pt} (h : (!within (l.length : Int) 2 8 || (pt l 0).X != 0) = true) : curve l = false := by
  cases h1 : within (l.length : Int) 2 8 <;> simp_all [curve]

theorem curve_no2 {l : List Pt} {k : Nat} (hk : k < l.length) (h : curveAt l (k : Int) = false) : curve l = false := by
  cases hc : curve l with
  | false => rfl
  | true => have := curve_at hc (i := (k : Int)) (by omega) (by omega); rw [h] at this; cases this

theorem curve_yes {l : List Pt} {k : Nat} (h1 : within (l.length : Int) 2 8 = true) (h2 : (pt l 0).X = 0) (h : ∀ j < k, curveAt l (j : Int) = true) (hk : l.length ≤ k) : curve l = true := by
  simp only [curve, h1, h2, beq_self_eq_true, Bool.and_self, Bool.true_and, List.all_eq_true, List.mem_range]
  exact fun i hi => h i (by omega)

theorem steady_no {l : List Pt} {w : Int} {k : Nat} (h1 : 1 ≤ k) (hk : k < l.length) (h : steadyAt l w (k : Int) = false) : steady l w = false := by
  cases hs : steady l w with
  | false => rfl
  | true =>
    simp only [steady, Bool.and_eq_true, List.all_eq_true, List.mem_range] at hs
    have := hs.2 (k - 1) (by omega)
    rw [show k - 1 + 1 = k by omega, h] at this
    cases this

theorem steady_yes {l : List Pt} {w : Int} {k : Nat} (hc : curve l = true) (h : ∀ j < k, 1 ≤ j → steadyAt l w (j : Int) = true) (hk : l.length ≤ k) : steady l w = true := by
  simp only [steady, hc, Bool.true_and, List.all_eq_true, List.mem_range]
  exact fun i hi => h (i + 1) (by omega) (by omega)

theorem mul_nn {x y a A b B : Int} (hx : a ≤ x ∧ x ≤ A) (hy : b ≤ y ∧ y ≤ B) (ha : 0 ≤ a) (hb : 0 ≤ b) : a * b ≤ x * y ∧ x * y ≤ A * B := by
  constructor
  · exact Int.mul_le_mul hx.1 hy.1 hb (by omega)
  · exact Int.mul_le_mul hx.2 hy.2 (by omega) (by omega)

theorem valFrom_bd {l : List Pt} (hc : curve l = true) {x : Int} (_hx : 0 ≤ x) : ∀ (f i : Nat), 1 ≤ i → i + f = l.length → (pt l ((i : Int) - 1)).X ≤ x →
    1 ≤ (valFrom l x f i).2 ∧ (valFrom l x f i).2 ≤ 400 ∧ 0 ≤ (valFrom l x f i).1 ∧ (valFrom l x f i).1 ≤ 20000 * (valFrom l x f i).2 := by
  have hB := curve_bd hc
  have hlen := (curve_lt hc).2
  intro f
  induction f with
  | zero =>
    intro i h1 h2 h3
    have := hB ((l.length : Int) - 1) (by omega) (by omega)
    simp only [valFrom]
    omega
  | succ f ih =>
    intro i h1 h2 h3
    have ha := hB ((i : Int) - 1) (by omega) (by omega)
    have hb := hB (i : Int) (by omega) (by omega)
    have hat := curve_at hc (i := (i : Int)) (by omega) (by omega)
    simp only [valFrom]
    by_cases hle : x ≤ (pt l (i : Int)).X
    · rw [if_pos hle]
      have hlt : (pt l ((i : Int) - 1)).X < (pt l (i : Int)).X := by
        simp only [curveAt, Bool.and_eq_true, Bool.not_eq_true', Bool.and_eq_false_iff, decide_eq_false_iff_not] at hat
        rcases hat.2 with h | h <;> omega
      refine ⟨by omega, by omega, ?_, ?_⟩
      all_goals
        have e1 : (pt l ((i : Int) - 1)).Y * ((pt l (i : Int)).X - (pt l ((i : Int) - 1)).X) + ((pt l (i : Int)).Y - (pt l ((i : Int) - 1)).Y) * (x - (pt l ((i : Int) - 1)).X) =
          (pt l ((i : Int) - 1)).Y * ((pt l (i : Int)).X - x) + (pt l (i : Int)).Y * (x - (pt l ((i : Int) - 1)).X) := by
          simp only [Int.sub_mul, Int.mul_sub]; omega
        have p1 := Int.mul_nonneg (a := (pt l ((i : Int) - 1)).Y) (b := (pt l (i : Int)).X - x) (by omega) (by omega)
        have p2 := Int.mul_nonneg (a := (pt l (i : Int)).Y) (b := x - (pt l ((i : Int) - 1)).X) (by omega) (by omega)
        have p3 := Int.mul_le_mul_of_nonneg_right (a := (pt l ((i : Int) - 1)).Y) (b := 20000) (c := (pt l (i : Int)).X - x) (by omega) (by omega)
        have p4 := Int.mul_le_mul_of_nonneg_right (a := (pt l (i : Int)).Y) (b := 20000) (c := x - (pt l ((i : Int) - 1)).X) (by omega) (by omega)
        rw [e1]
        simp only []
        omega
    · rw [if_neg hle]
      exact ih (i + 1) (by omega) (by omega) (by rw [show ((i + 1 : Nat) : Int) - 1 = (i : Int) by omega]; omega)

theorem curve_x0 {l : List Pt} (hc : curve l = true) : (pt l 0).X = 0 := by
  simp only [curve, Bool.and_eq_true, beq_iff_eq] at hc
  exact hc.1.2

theorem value_bd {l : List Pt} (hc : curve l = true) {x : Int} (hx : 0 ≤ x) : 1 ≤ (value l x).2 ∧ (value l x).2 ≤ 400 ∧ 0 ≤ (value l x).1 ∧ (value l x).1 ≤ 20000 * (value l x).2 := by
  have hlen := (curve_lt hc).2
  exact valFrom_bd hc hx _ 1 (Nat.le_refl 1) (by omega) (by have := curve_x0 hc; simp; omega)

def firstI (c : Cell) : Ice := ⟨c.Conc.Lo, c.Thick.Lo, c.Ridge.Lo, c.Press.Lo⟩
def lastI (c : Cell) : Ice := ⟨c.Conc.Hi, c.Thick.Hi, c.Ridge.Hi, c.Press.Hi⟩

def inI (a b c : Int) : Bool := decide (a ≥ b) && decide (a ≤ c)

def goodIce (i : Ice) : Prop := (0 ≤ i.Conc ∧ i.Conc ≤ 100) ∧ (0 ≤ i.Thick ∧ i.Thick ≤ 400) ∧ (0 ≤ i.Ridge ∧ i.Ridge ≤ 100) ∧ (0 ≤ i.Press ∧ i.Press ≤ 3)

theorem goodIce_bd {i : Ice} (h : goodIce i) : (0 ≤ i.Conc ∧ i.Conc ≤ 100) ∧ (0 ≤ i.Thick ∧ i.Thick ≤ 400) ∧ (0 ≤ i.Ridge ∧ i.Ridge ≤ 100) ∧ (0 ≤ i.Press ∧ i.Press ≤ 3) := h

def loadI (i : Ice) (v : Int) (ch : Bool) : Int :=
  if i.Conc = 0 then 0
  else (if ch then (i.Thick * (100 + v) + 1) / 2 else i.Thick * (100 + v)) + 300 * (if ch then 0 else i.Ridge) + 2000 * i.Press

def lowest (n d : Int) : Int × Int := (n / (Int.gcd n d : Int), d / (Int.gcd n d : Int))

theorem gcd_step {a b : Int} (ha : 0 ≤ a) (hb : 0 ≤ b) : Int.gcd b (a % b) = Int.gcd a b := by
  obtain ⟨x, rfl⟩ := Int.eq_ofNat_of_zero_le ha
  obtain ⟨y, rfl⟩ := Int.eq_ofNat_of_zero_le hb
  show Nat.gcd y (x % y) = Nat.gcd x y
  rw [Nat.gcd_comm x y, Nat.gcd_rec y x, Nat.gcd_comm]

def at_ (l : List Pt) (x : Int) : (Int × Int) × Int :=
  if curve l = false then ((0, 0), 40) else if within x 0 1000 = false then ((0, 0), 6) else (lowest (value l x).1 (value l x).2, 0)

theorem check_rules {s : Ship} (h : check s = 0) : rule1 s = true ∧ rule2 s = true ∧ rule3 s = true ∧ rule4 s = true ∧ rule5 s = true ∧ rule6 s = true := by
  unfold check at h
  refine ⟨?_, ?_, ?_, ?_, ?_, ?_⟩
  · cases e : rule1 s <;> simp_all
  · cases e : rule2 s <;> cases e1 : rule1 s <;> simp_all
  · cases e : rule3 s <;> cases e1 : rule1 s <;> cases e2 : rule2 s <;> simp_all
  · cases e : rule4 s <;> cases e1 : rule1 s <;> cases e2 : rule2 s <;> cases e3 : rule3 s <;> simp_all
  · cases e : rule5 s <;> cases e1 : rule1 s <;> cases e2 : rule2 s <;> cases e3 : rule3 s <;> cases e4 : rule4 s <;> simp_all
  · cases e : rule6 s <;> cases e1 : rule1 s <;> cases e2 : rule2 s <;> cases e3 : rule3 s <;> cases e4 : rule4 s <;> cases e5 : rule5 s <;> simp_all

theorem check_steadyThrust {s : Ship} (h : check s = 0) : steady s.Thrust (-1) = true := by
  have := (check_rules h).2.2.2.1; simp only [rule4, Bool.and_eq_true] at this; exact this.1
theorem check_steadyWater {s : Ship} (h : check s = 0) : steady s.Water 1 = true := by
  have := (check_rules h).2.2.2.2.1; simp only [rule5, Bool.and_eq_true] at this; exact this.1
theorem check_steadyIce {s : Ship} (h : check s = 0) : steady s.Ice 1 = true := by
  have := (check_rules h).2.2.2.2.2; simp only [rule6, Bool.and_eq_true] at this; exact this.1.1
theorem check_curveThrust {s : Ship} (h : check s = 0) : curve s.Thrust = true := steady_curve (check_steadyThrust h)
theorem check_curveWater {s : Ship} (h : check s = 0) : curve s.Water = true := steady_curve (check_steadyWater h)
theorem check_curveIce {s : Ship} (h : check s = 0) : curve s.Ice = true := steady_curve (check_steadyIce h)

theorem check_bd {s : Ship} (h : check s = 0) : (1 ≤ s.Class ∧ s.Class ≤ 6) ∧ (100 ≤ s.Power ∧ s.Power ≤ 100000) ∧ (0 ≤ s.Slow ∧ s.Slow ≤ 20) ∧ (0 ≤ s.Brash ∧ s.Brash ≤ 100) ∧ (0 ≤ s.Ridge ∧ s.Ridge ≤ 500) ∧ (0 ≤ s.Press ∧ s.Press ≤ 5000) := by
  obtain ⟨h1, h2, h3, _⟩ := check_rules h
  simp only [rule1, rule2, rule3, within, Bool.and_eq_true, decide_eq_true_eq] at h1 h2 h3
  omega

def thrust (s : Ship) (v : Int) : Int := (value s.Thrust v).1 / (value s.Thrust v).2

def resN (s : Ship) (i : Ice) (ch : Bool) (v : Int) : Int :=
  i.Conc * ((value s.Ice i.Thick).1 * (1000 + s.Slow * v) * (if ch = true then s.Brash else 100) + s.Ridge * (if ch = true then 0 else i.Ridge) * (value s.Ice i.Thick).2 * 100000)

def resistance (s : Ship) (i : Ice) (ch : Bool) (v : Int) : Int :=
  ((value s.Water v).1 * ((value s.Ice i.Thick).2 * 10000000) + resN s i ch v * (value s.Water v).2 + s.Press * i.Press * (value s.Water v).2 * ((value s.Ice i.Thick).2 * 10000000)
    + (value s.Water v).2 * ((value s.Ice i.Thick).2 * 10000000) - 1) / ((value s.Water v).2 * ((value s.Ice i.Thick).2 * 10000000))

def makes (s : Ship) (i : Ice) (ch : Bool) (v : Int) : Bool := decide (v ≤ endX s.Thrust) && decide (thrust s v ≥ resistance s i ch v)

def strengths : List Int := [4000, 8000, 14000, 24000, 40000, 90000]

def bears (s : Ship) (i : Ice) (ch : Bool) (v : Int) : Bool := decide (loadI i v ch ≤ strengths.getD (s.Class - 1).toNat 0)

def greatFrom (so : Int → Bool) : Nat → Int → Int → Int
  | 0, lo, _ => lo
  | f + 1, lo, hi => if lo < hi then (if so (lo + (hi - lo + 1) / 2) = true then greatFrom so f (lo + (hi - lo + 1) / 2) hi else greatFrom so f lo (lo + (hi - lo + 1) / 2 - 1)) else lo

def great (so : Int → Bool) (lo hi : Int) : Int := greatFrom so (hi - lo).toNat lo hi

theorem greatFrom_fuel {so : Int → Bool} : ∀ {f g : Nat} {lo hi : Int}, (hi - lo).toNat ≤ f → (hi - lo).toNat ≤ g → greatFrom so f lo hi = greatFrom so g lo hi := by
  intro f
  induction f with
  | zero =>
    intro g lo hi h1 _
    cases g with
    | zero => rfl
    | succ g => simp only [greatFrom]; rw [if_neg (by omega)]
  | succ f ih =>
    intro g lo hi h1 h2
    cases g with
    | zero => simp only [greatFrom]; rw [if_neg (by omega)]
    | succ g =>
      simp only [greatFrom]
      by_cases h : lo < hi
      · rw [if_pos h, if_pos h]
        rw [ih (g := g) (lo := lo + (hi - lo + 1) / 2) (hi := hi) (by omega) (by omega), ih (g := g) (lo := lo) (hi := lo + (hi - lo + 1) / 2 - 1) (by omega) (by omega)]
      · rw [if_neg h, if_neg h]

theorem great_step {so : Int → Bool} {lo hi : Int} (h : lo < hi) : great so lo hi = if so (lo + (hi - lo + 1) / 2) = true then great so (lo + (hi - lo + 1) / 2) hi else great so lo (lo + (hi - lo + 1) / 2 - 1) := by
  unfold great
  rw [show (hi - lo).toNat = ((hi - lo).toNat - 1) + 1 by omega, greatFrom, if_pos h]
  rw [greatFrom_fuel (f := (hi - lo).toNat - 1) (g := (hi - (lo + (hi - lo + 1) / 2)).toNat) (lo := lo + (hi - lo + 1) / 2) (by omega) (by omega),
    greatFrom_fuel (f := (hi - lo).toNat - 1) (g := ((lo + (hi - lo + 1) / 2 - 1) - lo).toNat) (lo := lo) (hi := lo + (hi - lo + 1) / 2 - 1) (by omega) (by omega)]

theorem great_done {so : Int → Bool} {lo hi : Int} (h : ¬ lo < hi) : great so lo hi = lo := by
  unfold great
  rw [show (hi - lo).toNat = 0 by omega, greatFrom]

def greatest (so : Int → Bool) (lo hi : Int) : Int × Bool := if so lo = true then (great so lo hi, true) else (0, false)

def speed (s : Ship) (i : Ice) (ch : Bool) : Int := (greatest (fun v => makes s i ch v) 0 250).1

def goes (s : Ship) (i : Ice) (ch : Bool) : Int × Bool := greatest (fun v => makes s i ch v && bears s i ch v) 10 250

def all4 (so : Int → Bool) : Bool := so 0 && so 1 && so 2 && so 3

def checkIce (i : Ice) : Int :=
  if all4 (fun n => inI (([i.Conc, i.Thick, i.Ridge, i.Press] : List Int).getD n.toNat 0) 0 (([100, 400, 100, 3] : List Int).getD n.toNat 0)) = false then 20 else 0

def rightS (s : Span) (n : Int) : Bool := inI s.Lo 0 (([100, 400, 100, 3] : List Int).getD n.toNat 0) && inI s.Hi s.Lo (([100, 400, 100, 3] : List Int).getD n.toNat 0)

def checkCell (c : Cell) : Int :=
  if all4 (fun n => rightS (([c.Conc, c.Thick, c.Ridge, c.Press] : List Span).getD n.toNat ⟨0, 0⟩) n) = false then 20 else 0

theorem ite_err {c : Bool} {e : Int} (he : e ≠ 0) : (if c = false then e else 0) = 0 ↔ c = true := by cases c <;> simp [he]

theorem checkIce_ok {i : Ice} : checkIce i = 0 ↔ goodIce i := by
  unfold checkIce
  rw [ite_err (by decide)]
  simp only [all4, inI, Bool.and_eq_true, decide_eq_true_eq, goodIce]
  constructor
  · rintro ⟨⟨⟨⟨a, b⟩, c, d⟩, e, f⟩, g, h⟩; exact ⟨⟨a, b⟩, ⟨c, d⟩, ⟨e, f⟩, g, h⟩
  · rintro ⟨⟨a, b⟩, ⟨c, d⟩, ⟨e, f⟩, g, h⟩; exact ⟨⟨⟨⟨a, b⟩, c, d⟩, e, f⟩, g, h⟩

def goodSpan (s : Span) (n : Int) : Prop := 0 ≤ s.Lo ∧ s.Lo ≤ s.Hi ∧ s.Hi ≤ n

def goodCell (c : Cell) : Prop := goodSpan c.Conc 100 ∧ goodSpan c.Thick 400 ∧ goodSpan c.Ridge 100 ∧ goodSpan c.Press 3

theorem checkCell_ok {c : Cell} : checkCell c = 0 ↔ goodCell c := by
  unfold checkCell
  rw [ite_err (by decide)]
  simp only [all4, rightS, inI, Bool.and_eq_true, decide_eq_true_eq, goodCell, goodSpan]
  constructor
  · rintro ⟨⟨⟨⟨⟨_, _⟩, _, _⟩, ⟨_, _⟩, _, _⟩, ⟨_, _⟩, _, _⟩, ⟨_, _⟩, _, _⟩
    exact ⟨⟨by assumption, by assumption, by assumption⟩, ⟨by assumption, by assumption, by assumption⟩, ⟨by assumption, by assumption, by assumption⟩, ⟨by assumption, by assumption, by assumption⟩⟩
  · rintro ⟨⟨h1, h2, h3⟩, ⟨h4, h5, h6⟩, ⟨h7, h8, h9⟩, ⟨h10, h11, h12⟩⟩
    exact ⟨⟨⟨⟨⟨h1, Int.le_trans h2 h3⟩, h2, h3⟩, ⟨h4, Int.le_trans h5 h6⟩, h5, h6⟩, ⟨h7, Int.le_trans h8 h9⟩, h8, h9⟩, ⟨h10, Int.le_trans h11 h12⟩, h11, h12⟩

theorem goodCell_last {c : Cell} (h : goodCell c) : goodIce (lastI c) := by
  obtain ⟨⟨_, _, _⟩, ⟨_, _, _⟩, ⟨_, _, _⟩, ⟨_, _, _⟩⟩ := h
  simp only [goodIce, lastI]; omega

theorem goodCell_first {c : Cell} (h : goodCell c) : goodIce (firstI c) := by
  obtain ⟨⟨_, _, _⟩, ⟨_, _, _⟩, ⟨_, _, _⟩, ⟨_, _, _⟩⟩ := h
  simp only [goodIce, firstI]; omega

def loaded (i : Ice) (v : Int) : Int := if checkIce i ≠ 0 then checkIce i else if within v 0 250 = false then 6 else 0

theorem loaded_ok {i : Ice} {v : Int} (h : loaded i v = 0) : goodIce i ∧ 0 ≤ v ∧ v ≤ 255 := by
  unfold loaded at h
  by_cases h1 : checkIce i = 0
  · rw [if_neg (by simp [h1])] at h
    rw [ite_err (by decide)] at h
    have := within_t h
    exact ⟨checkIce_ok.1 h1, by omega, by omega⟩
  · rw [if_pos h1] at h; exact absurd h h1

def asked (s : Ship) (i : Ice) (v : Int) : Int := if check s ≠ 0 then check s else loaded i v

theorem asked_ok {s : Ship} {i : Ice} {v : Int} (h : asked s i v = 0) : check s = 0 ∧ goodIce i ∧ 0 ≤ v ∧ v ≤ 255 := by
  unfold asked at h
  by_cases h1 : check s = 0
  · rw [if_neg (by simp [h1])] at h; exact ⟨h1, loaded_ok h⟩
  · rw [if_pos h1] at h; exact absurd h h1

def met (s : Ship) (c : Cell) : Int := if check s ≠ 0 then check s else checkCell c

theorem met_ok {s : Ship} {c : Cell} (h : met s c = 0) : check s = 0 ∧ goodCell c := by
  unfold met at h
  by_cases h1 : check s = 0
  · rw [if_neg (by simp [h1])] at h; exact ⟨h1, checkCell_ok.1 h⟩
  · rw [if_pos h1] at h; exact absurd h h1

def safe (s : Ship) (c : Cell) (ch : Bool) : Int × Int :=
  if speed s (lastI c) ch < 10 then (0, 4) else if (goes s (lastI c) ch).2 = false then (0, 41) else ((goes s (lastI c) ch).1, 0)

def speedE (s : Ship) (i : Ice) (ch : Bool) : Int × Int := if asked s i 0 ≠ 0 then (0, asked s i 0) else (speed s i ch, 0)
def resistanceE (s : Ship) (i : Ice) (v : Int) (ch : Bool) : Int × Int := if asked s i v ≠ 0 then (0, asked s i v) else (resistance s i ch v, 0)
def loadE (i : Ice) (v : Int) (ch : Bool) : Int × Int := if loaded i v ≠ 0 then (0, loaded i v) else (loadI i v ch, 0)

def takes (p : Part) (v : Int) : Int := (60 * p.Length + v - 1) / v
end Hull
