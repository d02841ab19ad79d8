/- Plain laws of the hull layer: what is monotone. -/
import Derived.Test.YtgpcfckbcldokaaDoorHP
namespace Hull

theorem mulL {a b c : Int} (h : a ≤ b) (hc : 0 ≤ c) : c * a ≤ c * b := Int.mul_le_mul_of_nonneg_left h hc
theorem mulR {a b c : Int} (h : a ≤ b) (hc : 0 ≤ c) : a * c ≤ b * c := Int.mul_le_mul_of_nonneg_right h hc

theorem ceil_mono {a b c d : Int} (hb : 0 < b) (hd : 0 < d) (h : a * d ≤ c * b) : (a + b - 1) / b ≤ (c + d - 1) / d := by
  have h1 := Int.lt_mul_ediv_self_add (x := c + d - 1) hd
  have h2 : c ≤ d * ((c + d - 1) / d) := by omega
  have h3 : c * b ≤ d * ((c + d - 1) / d) * b := mulR h2 (by omega)
  have h4 : a * d ≤ ((c + d - 1) / d * b) * d := by
    have e : d * ((c + d - 1) / d) * b = ((c + d - 1) / d * b) * d := by ac_rfl
    omega
  have h5 : a ≤ (c + d - 1) / d * b := Int.le_of_mul_le_mul_right h4 hd
  have h6 : (a + b - 1) / b < (c + d - 1) / d + 1 := Int.ediv_lt_of_lt_mul hb (by rw [Int.add_mul]; omega)
  omega

theorem floor_mono {a b c d : Int} (hb : 0 < b) (hd : 0 < d) (h : a * d ≤ c * b) : a / b ≤ c / d := by
  have h1 : a / b * b ≤ a := Int.ediv_mul_le a (by omega)
  refine Int.le_ediv_of_mul_le hd ?_
  have h2 : a / b * b * d ≤ a * d := mulR h1 (by omega)
  have h3 : (a / b * d) * b ≤ c * b := by
    have e : a / b * b * d = (a / b * d) * b := by ac_rfl
    omega
  exact Int.le_of_mul_le_mul_right h3 hb

/-- The value between points, over any numbers. -/
def vf (X Z : Nat → Int) (n : Nat) (x : Int) : Nat → Nat → Int × Int
  | 0, _ => (Z (n - 1), 1)
  | f + 1, i => if x ≤ X i then (Z (i - 1) * (X i - X (i - 1)) + (Z i - Z (i - 1)) * (x - X (i - 1)), X i - X (i - 1)) else vf X Z n x f (i + 1)

theorem vf_ge {X Z : Nat → Int} {n : Nat} (hX : ∀ i, 1 ≤ i → i < n → X (i - 1) < X i) (hZ : ∀ i, 1 ≤ i → i < n → Z (i - 1) ≤ Z i) {x : Int} : ∀ (f i : Nat), 1 ≤ i → i + f = n → X (i - 1) ≤ x →
    1 ≤ (vf X Z n x f i).2 ∧ Z (i - 1) * (vf X Z n x f i).2 ≤ (vf X Z n x f i).1 := by
  intro f
  induction f with
  | zero => intro i h1 h2 h3; simp only [vf]; rw [show n - 1 = i - 1 by omega]; omega
  | succ f ih =>
    intro i h1 h2 h3
    simp only [vf]
    have hx := hX i h1 (by omega)
    have hz := hZ i h1 (by omega)
    by_cases h : x ≤ X i
    · rw [if_pos h]
      have := Int.mul_nonneg (a := Z i - Z (i - 1)) (b := x - X (i - 1)) (by omega) (by omega)
      simp only []
      omega
    · rw [if_neg h]
      obtain ⟨h4, h5⟩ := ih (i + 1) (by omega) (by omega) (by rw [show i + 1 - 1 = i by omega]; omega)
      rw [show i + 1 - 1 = i by omega] at h5
      have := mulR hz (c := (vf X Z n x f (i + 1)).2) (by omega)
      exact ⟨h4, by omega⟩

theorem vf_mono {X Z : Nat → Int} {n : Nat} (hX : ∀ i, 1 ≤ i → i < n → X (i - 1) < X i) (hZ : ∀ i, 1 ≤ i → i < n → Z (i - 1) ≤ Z i) {x y : Int} (hxy : x ≤ y) : ∀ (f i : Nat), 1 ≤ i → i + f = n → X (i - 1) ≤ x →
    (vf X Z n x f i).1 * (vf X Z n y f i).2 ≤ (vf X Z n y f i).1 * (vf X Z n x f i).2 := by
  intro f
  induction f with
  | zero => intro i _ _ _; simp only [vf]; omega
  | succ f ih =>
    intro i h1 h2 h3
    simp only [vf]
    have hx := hX i h1 (by omega)
    have hz := hZ i h1 (by omega)
    by_cases h : x ≤ X i
    · rw [if_pos h]
      by_cases hy : y ≤ X i
      · rw [if_pos hy]
        simp only []
        refine mulR ?_ (by omega)
        have := mulL (a := x - X (i - 1)) (b := y - X (i - 1)) (c := Z i - Z (i - 1)) (by omega) (by omega)
        omega
      · rw [if_neg hy]
        obtain ⟨h4, h5⟩ := vf_ge hX hZ (x := y) f (i + 1) (by omega) (by omega) (by rw [show i + 1 - 1 = i by omega]; omega)
        rw [show i + 1 - 1 = i by omega] at h5
        simp only []
        have h6 : Z (i - 1) * (X i - X (i - 1)) + (Z i - Z (i - 1)) * (x - X (i - 1)) ≤ Z i * (X i - X (i - 1)) := by
          have := mulL (a := x - X (i - 1)) (b := X i - X (i - 1)) (c := Z i - Z (i - 1)) (by omega) (by omega)
          rw [Int.sub_mul (Z i) (Z (i - 1)) (X i - X (i - 1))] at this
          omega
        have h7 := mulR h6 (c := (vf X Z n y f (i + 1)).2) (by omega)
        have h8 := mulR h5 (c := X i - X (i - 1)) (by omega)
        have e : Z i * (X i - X (i - 1)) * (vf X Z n y f (i + 1)).2 = Z i * (vf X Z n y f (i + 1)).2 * (X i - X (i - 1)) := by ac_rfl
        omega
    · rw [if_neg h, if_neg (by omega)]
      exact ih (i + 1) (by omega) (by omega) (by rw [show i + 1 - 1 = i by omega]; omega)

theorem valFrom_vf {l : List Pt} {x : Int} : ∀ (f i : Nat), 1 ≤ i → i + f = l.length → valFrom l x f i = vf (fun i => (pt l (i : Int)).X) (fun i => (pt l (i : Int)).Y) l.length x f i := by
  intro f
  induction f with
  | zero => intro i h1 h2; simp only [valFrom, vf]; rw [show ((l.length - 1 : Nat) : Int) = (l.length : Int) - 1 by omega]
  | succ f ih =>
    intro i h1 h2
    simp only [valFrom, vf]
    rw [show ((i - 1 : Nat) : Int) = (i : Int) - 1 by omega, ih (i + 1) (by omega) (by omega)]

theorem vf_neg {X Z : Nat → Int} {n : Nat} {x : Int} : ∀ (f i : Nat), vf X (fun i => -Z i) n x f i = (-(vf X Z n x f i).1, (vf X Z n x f i).2) := by
  intro f
  induction f with
  | zero => intro i; rfl
  | succ f ih =>
    intro i
    simp only [vf]
    by_cases h : x ≤ X i
    · rw [if_pos h, if_pos h]
      simp only [Prod.mk.injEq, and_true]
      rw [show -Z i - -Z (i - 1) = -(Z i - Z (i - 1)) by omega, Int.neg_mul, Int.neg_mul, Int.neg_add]
    · rw [if_neg h, if_neg h]; exact ih (i + 1)

theorem steady_at {l : List Pt} {w : Int} (h : steady l w = true) {i : Nat} (h1 : 1 ≤ i) (h2 : i < l.length) : 0 ≤ ((pt l (i : Int)).Y - (pt l ((i : Int) - 1)).Y) * w := by
  simp only [steady, Bool.and_eq_true, List.all_eq_true, List.mem_range] at h
  have := h.2 (i - 1) (by omega)
  rw [show i - 1 + 1 = i by omega] at this
  simp only [steadyAt, Bool.not_eq_true', decide_eq_false_iff_not] at this
  omega

theorem curve_up {l : List Pt} (hc : curve l = true) {i : Nat} (h1 : 1 ≤ i) (h2 : i < l.length) : (pt l ((i - 1 : Nat) : Int)).X < (pt l (i : Int)).X := by
  have hat := curve_at hc (i := (i : Int)) (by omega) (by omega)
  simp only [curveAt, Bool.and_eq_true, Bool.not_eq_true', Bool.and_eq_false_iff, decide_eq_false_iff_not] at hat
  rw [show ((i - 1 : Nat) : Int) = (i : Int) - 1 by omega]
  rcases hat.2 with h | h <;> omega

theorem value_up {l : List Pt} (h : steady l 1 = true) {x y : Int} (hx : 0 ≤ x) (hxy : x ≤ y) : (value l x).1 * (value l y).2 ≤ (value l y).1 * (value l x).2 := by
  have hc := steady_curve h
  have hlen := (curve_lt hc).2
  have h0 := curve_x0 hc
  unfold value
  rw [valFrom_vf _ 1 (Nat.le_refl 1) (by omega), valFrom_vf _ 1 (Nat.le_refl 1) (by omega)]
  refine vf_mono (fun i h1 h2 => curve_up hc h1 h2) (fun i h1 h2 => ?_) hxy _ 1 (Nat.le_refl 1) (by omega) (by simp; omega)
  have := steady_at h h1 h2
  rw [show ((i - 1 : Nat) : Int) = (i : Int) - 1 by omega]
  omega

theorem value_down {l : List Pt} (h : steady l (-1) = true) {x y : Int} (hx : 0 ≤ x) (hxy : x ≤ y) : (value l y).1 * (value l x).2 ≤ (value l x).1 * (value l y).2 := by
  have hc := steady_curve h
  have hlen := (curve_lt hc).2
  have h0 := curve_x0 hc
  unfold value
  rw [valFrom_vf _ 1 (Nat.le_refl 1) (by omega), valFrom_vf _ 1 (Nat.le_refl 1) (by omega)]
  have := vf_mono (X := fun i => (pt l (i : Int)).X) (Z := fun i => -(pt l (i : Int)).Y) (n := l.length) (fun i h1 h2 => curve_up hc h1 h2) (fun i h1 h2 => by
    have := steady_at h h1 h2
    rw [show ((i - 1 : Nat) : Int) = (i : Int) - 1 by omega]
    omega) hxy (l.length - 1) 1 (Nat.le_refl 1) (by omega) (by simp; omega)
  rw [vf_neg, vf_neg] at this
  simp only [Int.neg_mul] at this
  omega


def resG (w wd n d c A sh R rd P : Int) : Int :=
  (w * (d * 10000000) + c * (n * A * sh + R * rd * d * 100000) * wd + P * wd * (d * 10000000) + wd * (d * 10000000) - 1) / (wd * (d * 10000000))

theorem resG_mono {w wd n d c A sh R rd P w' wd' n' d' c' A' sh' rd' P' : Int} (hwd : 0 < wd) (hd : 0 < d) (hwd' : 0 < wd') (hd' : 0 < d') (hn : 0 ≤ n) (hn' : 0 ≤ n') (hc : 0 ≤ c) (hA : 0 ≤ A) (hsh : 0 ≤ sh) (hR : 0 ≤ R) (hrd : 0 ≤ rd)
    (h1 : w * wd' ≤ w' * wd) (h2 : n * d' ≤ n' * d) (h3 : c ≤ c') (h4 : A ≤ A') (h5 : sh ≤ sh') (h6 : rd ≤ rd') (h7 : P ≤ P') :
    resG w wd n d c A sh R rd P ≤ resG w' wd' n' d' c' A' sh' R rd' P' := by
  unfold resG
  have pd : 0 < d * 10000000 := by omega
  have pd' : 0 < d' * 10000000 := by omega
  refine ceil_mono (Int.mul_pos hwd pd) (Int.mul_pos hwd' pd') ?_
  have t1 : w * (d * 10000000) * (wd' * (d' * 10000000)) ≤ w' * (d' * 10000000) * (wd * (d * 10000000)) := by
    have := mulR h1 (c := (d * 10000000) * (d' * 10000000)) (Int.le_of_lt (Int.mul_pos pd pd'))
    have e1 : w * (d * 10000000) * (wd' * (d' * 10000000)) = w * wd' * ((d * 10000000) * (d' * 10000000)) := by ac_rfl
    have e2 : w' * (d' * 10000000) * (wd * (d * 10000000)) = w' * wd * ((d * 10000000) * (d' * 10000000)) := by ac_rfl
    omega
  have t3 : P * wd * (d * 10000000) * (wd' * (d' * 10000000)) ≤ P' * wd' * (d' * 10000000) * (wd * (d * 10000000)) := by
    have := mulR h7 (c := wd * (d * 10000000) * (wd' * (d' * 10000000))) (Int.le_of_lt (Int.mul_pos (Int.mul_pos hwd pd) (Int.mul_pos hwd' pd')))
    have e1 : P * wd * (d * 10000000) * (wd' * (d' * 10000000)) = P * (wd * (d * 10000000) * (wd' * (d' * 10000000))) := by ac_rfl
    have e2 : P' * wd' * (d' * 10000000) * (wd * (d * 10000000)) = P' * (wd * (d * 10000000) * (wd' * (d' * 10000000))) := by ac_rfl
    omega
  have a1 : n * A * sh * d' ≤ n' * A' * sh' * d := by
    have hA' : A * sh ≤ A' * sh' := Int.mul_le_mul h4 h5 hsh (by omega)
    have := Int.mul_le_mul h2 hA' (Int.mul_nonneg hA hsh) (Int.mul_nonneg hn' (by omega))
    have e1 : n * A * sh * d' = n * d' * (A * sh) := by ac_rfl
    have e2 : n' * A' * sh' * d = n' * d * (A' * sh') := by ac_rfl
    omega
  have a2 : R * rd * d * 100000 * d' ≤ R * rd' * d' * 100000 * d := by
    have := mulR (mulL h6 hR) (c := d * 100000 * d') (Int.mul_nonneg (by omega) (by omega))
    have e1 : R * rd * d * 100000 * d' = R * rd * (d * 100000 * d') := by ac_rfl
    have e2 : R * rd' * d' * 100000 * d = R * rd' * (d * 100000 * d') := by ac_rfl
    omega
  have hin : (n * A * sh + R * rd * d * 100000) * d' ≤ (n' * A' * sh' + R * rd' * d' * 100000) * d := by rw [Int.add_mul, Int.add_mul]; omega
  have pin : 0 ≤ (n * A * sh + R * rd * d * 100000) * d' :=
    Int.mul_nonneg (Int.add_nonneg (Int.mul_nonneg (Int.mul_nonneg hn hA) hsh) (Int.mul_nonneg (Int.mul_nonneg (Int.mul_nonneg hR hrd) (by omega)) (by omega))) (by omega)
  have hcin := Int.mul_le_mul h3 hin pin (by omega : 0 ≤ c')
  have t2 : c * (n * A * sh + R * rd * d * 100000) * wd * (wd' * (d' * 10000000)) ≤ c' * (n' * A' * sh' + R * rd' * d' * 100000) * wd' * (wd * (d * 10000000)) := by
    have := mulR hcin (c := wd * wd' * 10000000) (Int.mul_nonneg (Int.mul_nonneg (by omega) (by omega)) (by omega))
    have e1 : c * (n * A * sh + R * rd * d * 100000) * wd * (wd' * (d' * 10000000)) = c * ((n * A * sh + R * rd * d * 100000) * d') * (wd * wd' * 10000000) := by ac_rfl
    have e2 : c' * (n' * A' * sh' + R * rd' * d' * 100000) * wd' * (wd * (d * 10000000)) = c' * ((n' * A' * sh' + R * rd' * d' * 100000) * d) * (wd * wd' * 10000000) := by ac_rfl
    omega
  rw [Int.add_mul, Int.add_mul, Int.add_mul, Int.add_mul]
  omega

theorem resistance_G (s : Ship) (i : Ice) (ch : Bool) (v : Int) : resistance s i ch v =
    resG (value s.Water v).1 (value s.Water v).2 (value s.Ice i.Thick).1 (value s.Ice i.Thick).2 i.Conc (1000 + s.Slow * v) (if ch = true then s.Brash else 100) s.Ridge (if ch = true then 0 else i.Ridge) (s.Press * i.Press) := rfl

structure LeI (i j : Ice) : Prop where
  conc : i.Conc ≤ j.Conc
  thick : i.Thick ≤ j.Thick
  ridge : i.Ridge ≤ j.Ridge
  press : i.Press ≤ j.Press

theorem LeI.rfl {i : Ice} : LeI i i := ⟨Int.le_refl _, Int.le_refl _, Int.le_refl _, Int.le_refl _⟩

theorem resistance_mono {s : Ship} (hc : check s = 0) {i j : Ice} (hi : goodIce i) (hj : goodIce j) (hij : LeI i j) {u v : Int} (hu : 0 ≤ u) (huv : u ≤ v) (ch : Bool) : resistance s i ch u ≤ resistance s j ch v := by
  rw [resistance_G, resistance_G]
  obtain ⟨hcl, hpo, hsl, hbr, hri, hpr⟩ := check_bd hc
  obtain ⟨i1, i2, i3, i4⟩ := goodIce_bd hi
  obtain ⟨j1, j2, j3, j4⟩ := goodIce_bd hj
  have w1 := value_bd (check_curveWater hc) hu
  have w2 := value_bd (check_curveWater hc) (x := v) (by omega)
  have n1 := value_bd (check_curveIce hc) i2.1
  have n2 := value_bd (check_curveIce hc) j2.1
  have hsu := Int.mul_nonneg hsl.1 hu
  refine resG_mono (by omega) (by omega) (by omega) (by omega) (by omega) (by omega) i1.1 (by omega) (by split <;> omega) hri.1 (by split <;> omega)
    (value_up (check_steadyWater hc) hu huv) (value_up (check_steadyIce hc) i2.1 hij.thick) hij.conc (by have := mulL huv hsl.1; omega) (Int.le_refl _) (by split; exact Int.le_refl _; exact hij.ridge) (mulL hij.press hpr.1)

theorem resistance_channel {s : Ship} (hc : check s = 0) {i : Ice} (hi : goodIce i) {v : Int} (hv : 0 ≤ v) : resistance s i true v ≤ resistance s i false v := by
  rw [resistance_G, resistance_G]
  obtain ⟨hcl, hpo, hsl, hbr, hri, hpr⟩ := check_bd hc
  obtain ⟨i1, i2, i3, i4⟩ := goodIce_bd hi
  have w1 := value_bd (check_curveWater hc) hv
  have n1 := value_bd (check_curveIce hc) i2.1
  have hsu := Int.mul_nonneg hsl.1 hv
  exact resG_mono (by omega) (by omega) (by omega) (by omega) (by omega) (by omega) i1.1 (by omega) (by simpa using hbr.1) hri.1 (by simp)
    (Int.le_refl _) (Int.le_refl _) (Int.le_refl _) (Int.le_refl _) (by simpa using hbr.2) (by simpa using i3.1) (Int.le_refl _)

theorem thrust_mono {s : Ship} (hc : check s = 0) {u v : Int} (hu : 0 ≤ u) (huv : u ≤ v) : thrust s v ≤ thrust s u := by
  have t1 := value_bd (check_curveThrust hc) hu
  have t2 := value_bd (check_curveThrust hc) (x := v) (by omega)
  exact floor_mono (by omega) (by omega) (value_down (check_steadyThrust hc) hu huv)

theorem makes_mono {s : Ship} (hc : check s = 0) {i j : Ice} (hi : goodIce i) (hj : goodIce j) (hij : LeI i j) {u v : Int} (hu : 0 ≤ u) (huv : u ≤ v) {ch : Bool} (h : makes s j ch v = true) : makes s i ch u = true := by
  simp only [makes, Bool.and_eq_true, decide_eq_true_eq] at h ⊢
  have h1 := resistance_mono hc hi hj hij hu huv ch
  have h2 := thrust_mono hc hu huv
  exact ⟨by omega, by omega⟩

theorem makes_channel {s : Ship} (hc : check s = 0) {i : Ice} (hi : goodIce i) {v : Int} (hv : 0 ≤ v) (h : makes s i false v = true) : makes s i true v = true := by
  simp only [makes, Bool.and_eq_true, decide_eq_true_eq] at h ⊢
  have h1 := resistance_channel hc hi hv
  exact ⟨h.1, by omega⟩

theorem load_mono {i j : Ice} (hi : goodIce i) (hj : goodIce j) (hij : LeI i j) {u v : Int} (hu : 0 ≤ u) (huv : u ≤ v) (ch : Bool) : loadI i u ch ≤ loadI j v ch := by
  obtain ⟨i1, i2, i3, i4⟩ := goodIce_bd hi
  obtain ⟨j1, j2, j3, j4⟩ := goodIce_bd hj
  have h1 := Int.mul_le_mul hij.thick (show 100 + u ≤ 100 + v by omega) (by omega) j2.1
  have h2 := Int.mul_nonneg i2.1 (show 0 ≤ 100 + u by omega)
  have a := hij.conc; have b := hij.ridge; have c := hij.press
  unfold loadI
  by_cases e : i.Conc = 0
  · rw [if_pos e]
    by_cases e2 : j.Conc = 0
    · rw [if_pos e2]; exact Int.le_refl _
    · rw [if_neg e2]; cases ch <;> simp only [if_true, if_false, Bool.false_eq_true] <;> omega
  · rw [if_neg e, if_neg (show ¬ j.Conc = 0 by omega)]
    cases ch <;> simp only [if_true, if_false, Bool.false_eq_true] <;> omega

theorem load_channel {i : Ice} (hi : goodIce i) {v : Int} (hv : 0 ≤ v) : loadI i v true ≤ loadI i v false := by
  obtain ⟨i1, i2, i3, i4⟩ := goodIce_bd hi
  have h2 := Int.mul_nonneg i2.1 (show 0 ≤ 100 + v by omega)
  unfold loadI
  by_cases e : i.Conc = 0
  · rw [if_pos e, if_pos e]; exact Int.le_refl _
  · rw [if_neg e, if_neg e]; simp only [if_true, if_false, Bool.false_eq_true]; omega

theorem bears_mono {s : Ship} {i j : Ice} (hi : goodIce i) (hj : goodIce j) (hij : LeI i j) {u v : Int} (hu : 0 ≤ u) (huv : u ≤ v) {ch : Bool} (h : bears s j ch v = true) : bears s i ch u = true := by
  simp only [bears, decide_eq_true_eq] at h ⊢
  have := load_mono hi hj hij hu huv ch
  omega

/-! ### The greatest one -/

theorem great_spec {so : Int → Bool} : ∀ (f : Nat) {lo hi : Int}, (hi - lo).toNat ≤ f → lo ≤ hi → so lo = true → (∀ u v, lo ≤ u → u ≤ v → v ≤ hi → so v = true → so u = true) →
    lo ≤ great so lo hi ∧ great so lo hi ≤ hi ∧ so (great so lo hi) = true ∧ ∀ v, great so lo hi < v → v ≤ hi → so v = false := by
  intro f
  induction f with
  | zero =>
    intro lo hi hf hle h1 hd
    rw [great_done (by omega)]
    exact ⟨Int.le_refl _, hle, h1, fun v h2 h3 => absurd h3 (by omega)⟩
  | succ f ih =>
    intro lo hi hf hle h1 hd
    by_cases h : lo < hi
    · rw [great_step h]
      by_cases hm : so (lo + (hi - lo + 1) / 2) = true
      · rw [if_pos hm]
        obtain ⟨a, b, c, d⟩ := ih (lo := lo + (hi - lo + 1) / 2) (hi := hi) (by omega) (by omega) hm (fun u v h2 h3 h4 h5 => hd u v (by omega) h3 h4 h5)
        exact ⟨by omega, b, c, d⟩
      · rw [if_neg hm]
        obtain ⟨a, b, c, d⟩ := ih (lo := lo) (hi := lo + (hi - lo + 1) / 2 - 1) (by omega) (by omega) h1 (fun u v h2 h3 h4 h5 => hd u v h2 h3 (by omega) h5)
        refine ⟨a, by omega, c, fun v h2 h3 => ?_⟩
        by_cases h4 : v ≤ lo + (hi - lo + 1) / 2 - 1
        · exact d v h2 h4
        · cases hv : so v with
          | false => rfl
          | true => exact absurd (hd (lo + (hi - lo + 1) / 2) v (by omega) (by omega) h3 hv) hm
    · rw [great_done h]
      exact ⟨Int.le_refl _, hle, h1, fun v h2 h3 => absurd h3 (by omega)⟩

/-- What is known of the greatest one for what goes down. -/
theorem great_is {so : Int → Bool} {lo hi : Int} (hle : lo ≤ hi) (h1 : so lo = true) (hd : ∀ u v, lo ≤ u → u ≤ v → v ≤ hi → so v = true → so u = true) :
    lo ≤ great so lo hi ∧ great so lo hi ≤ hi ∧ ∀ v, lo ≤ v → v ≤ hi → (so v = true ↔ v ≤ great so lo hi) := by
  obtain ⟨a, b, c, d⟩ := great_spec _ (Nat.le_refl _) hle h1 hd
  refine ⟨a, b, fun v h2 h3 => ⟨fun h => ?_, fun h => hd v _ h2 h b c⟩⟩
  rcases Int.lt_or_le (great so lo hi) v with h4 | h4
  · rw [d v h4 h3] at h; cases h
  · exact h4

theorem great_le {so so' : Int → Bool} {lo hi : Int} (hle : lo ≤ hi) (h1 : so lo = true) (hd : ∀ u v, lo ≤ u → u ≤ v → v ≤ hi → so v = true → so u = true) (hd' : ∀ u v, lo ≤ u → u ≤ v → v ≤ hi → so' v = true → so' u = true)
    (h : ∀ v, lo ≤ v → v ≤ hi → so v = true → so' v = true) : great so lo hi ≤ great so' lo hi := by
  obtain ⟨a, b, c⟩ := great_is hle h1 hd
  obtain ⟨a', b', c'⟩ := great_is hle (h lo (Int.le_refl _) hle h1) hd'
  exact (c' _ a b).1 (h _ a b ((c _ a b).2 (Int.le_refl _)))

theorem speed_mono {s : Ship} (hc : check s = 0) {i j : Ice} (hi : goodIce i) (hj : goodIce j) (hij : LeI i j) (ch : Bool) : speed s j ch ≤ speed s i ch := by
  have down : ∀ k, goodIce k → ∀ u v, (0 : Int) ≤ u → u ≤ v → v ≤ 250 → makes s k ch v = true → makes s k ch u = true := fun k hk u v h1 h2 _ h => makes_mono hc hk hk .rfl h1 h2 h
  unfold speed greatest
  by_cases h0 : makes s j ch 0 = true
  · have h1 := makes_mono hc hi hj hij (Int.le_refl 0) (Int.le_refl 0) h0
    rw [if_pos h0, if_pos h1]
    exact great_le (by decide) h0 (down j hj) (down i hi) fun v h2 h3 h => makes_mono hc hi hj hij h2 (Int.le_refl v) h
  · rw [if_neg h0]
    by_cases h1 : makes s i ch 0 = true
    · rw [if_pos h1]; exact (great_is (by decide) h1 (down i hi)).1
    · rw [if_neg h1]; exact Int.le_refl _

theorem speed_channel {s : Ship} (hc : check s = 0) {i : Ice} (hi : goodIce i) : speed s i false ≤ speed s i true := by
  have down : ∀ ch, ∀ u v, (0 : Int) ≤ u → u ≤ v → v ≤ 250 → makes s i ch v = true → makes s i ch u = true := fun ch u v h1 h2 _ h => makes_mono hc hi hi .rfl h1 h2 h
  unfold speed greatest
  by_cases h0 : makes s i false 0 = true
  · have h1 := makes_channel hc hi (Int.le_refl 0) h0
    rw [if_pos h0, if_pos h1]
    exact great_le (by decide) h0 (down false) (down true) fun v h2 h3 h => makes_channel hc hi h2 h
  · rw [if_neg h0]
    by_cases h1 : makes s i true 0 = true
    · rw [if_pos h1]; exact (great_is (by decide) h1 (down true)).1
    · rw [if_neg h1]; exact Int.le_refl _

end Hull
