/-
  This file has what the walks are built on: a symbolic state of one activation, and plain functions. Conditions: those that each theorem names.
-/
import Derived.ChangeSlices
import Derived.Handed
import Derived.LaidMore
import Derived.Laws.Cover3
import Derived.Laws.StructEq
import Derived.OpenShut
import Derived.ProofKit
import Derived.RangeFuncIn
import Derived.RangeFuncRecord
import Derived.SevenTiedAt
import Derived.Stop.Joined
import Derived.Test.YtgpcfckbcldokaaDoorCards
import Derived.Test.YtgpcfckbcldokaaDoorRows
import Derived.Test.YtgpcfckbcldokaaDoorTie
import Derived.Test.YtgpcfckbcldokaaDoorBe0
/-
  The frame of a law's card: what is read of the arguments, and that a call which returns true and changes nothing that was there meets the specification.
-/
namespace Go.AX
open Go Go.ChangeShapes Go.WideShapes Go.RowKit

/-- Types whose reading asks only for cells: numbers, Booleans, and structs, arrays and slices of such. -/
def goodT (P : Program) : Nat → TypeId → Bool
  | 0, _ => false
  | n + 1, t => match P.underlying t with
    | some (.int _) => true
    | some .bool => true
    | some (.struct fs) => fs.toList.all fun f => goodT P n f.type
    | some (.array _ e) => goodT P n e
    | some (.slice e) => goodT P n e && Nat.ble 1 (P.cellsOf e)
    | _ => false

theorem mapM_carry' {α β : Type} {f g : α → Option β} : ∀ {l : List α} {r : List β}, l.mapM f = some r → (∀ x y, x ∈ l → y ∈ r → f x = some y → g x = some y) → l.mapM g = some r := mapM_carry

section
variable {H : Type} {enc : TypeId × Value → H} {P : Program} {w : World} {base : Nat} {held : Bool}

theorem trod_spare {sp : Nat → Bool} : ∀ (m n : Nat) (t : TypeId) (cs : List Value) (x : DataW H × List MemPlace), goodT P m t = true →
    DataW.trod enc P w base (fun _ => true) held n t cs = some x → (∀ p ∈ x.2, sp p.block = true) → DataW.trod enc P w base sp held n t cs = some x := by
  intro m
  induction m with
  | zero => intro n t cs x h; cases h
  | succ m ih =>
    intro n t cs x hg h hs
    cases n with
    | zero => simp [DataW.trod] at h
    | succ n =>
      rw [DataW.trod_step] at h ⊢
      unfold goodT at hg
      unfold DataW.trodStep at h ⊢
      split at h
      case h_1 => exact h
      case h_2 => exact h
      case h_8 e a len cap hu =>
        rw [hu] at hg
        simp only [Bool.and_eq_true] at hg
        simp only at h ⊢
        split at h
        · rename_i hc
          rw [if_pos hc]
          simp only [if_true, Option.map_eq_some_iff, Option.bind_eq_some_iff] at h ⊢
          obtain ⟨elems, he, rest, hr, rfl⟩ := h
          have hlen : elems.length = len := by simpa using mapM_some_length he
          have hrlen : rest.length = cap - len := by simpa using mapM_some_length hr
          have hk : 1 ≤ P.cellsOf e := Nat.le_of_ble_eq_true hg.2
          have one : ∀ i y, (w.cells? base (a.add (i * P.cellsOf e)) (P.cellsOf e)).bind (DataW.trod enc P w base (fun _ => true) held n e) = some y → (∀ p ∈ y.2, sp p.block = true) →
              (w.cells? base (a.add (i * P.cellsOf e)) (P.cellsOf e)).bind (DataW.trod enc P w base sp held n e) = some y := by
            intro i y hy hp
            rw [Option.bind_eq_some_iff] at hy ⊢
            obtain ⟨cs', h1, h2⟩ := hy
            exact ⟨cs', h1, ih n e cs' y hg.1 h2 hp⟩
          have hpl : ∀ y, y ∈ elems ++ rest → ∀ p ∈ y.2, sp p.block = true := fun y hy p hp => hs p (by
            simp only [List.mem_append]
            exact .inr (List.mem_flatMap.2 ⟨y, hy, hp⟩))
          refine ⟨elems, mapM_carry' he fun i y hi hy hiy => one i y hiy (hpl y (by simp [hy])), rest, ?_, rfl⟩
          by_cases hcap : cap = 0
          · have : rest = [] := List.length_eq_zero_iff.1 (by omega)
            subst this
            split
            · rw [show cap - len = 0 by omega]; rfl
            · rfl
          · have : sp a.block = true := by
              have := hs (.cell a.block (a.off + 0)) (by
                simp only [List.mem_append]
                refine .inl (MemPlace.mem_row.2 ⟨0, ?_, rfl⟩)
                rw [hlen, hrlen, show len + (cap - len) = cap by omega]
                exact Nat.mul_pos (by omega) hk)
              exact this
            rw [if_pos this]
            exact mapM_carry' hr fun j y hj hy hjy => one _ y hjy (hpl y (by simp [hy]))
        · cases h
      case h_7 => exact h
      case h_9 fs cs' hu =>
        rw [hu] at hg
        simp only at hg
        split at h
        · rename_i hl
          rw [if_pos hl]
          simp only [Option.map_eq_some_iff] at h ⊢
          obtain ⟨xs, hx, rfl⟩ := h
          refine ⟨xs, mapM_carry' hx fun f y hf hy hfy => ih n f.type _ y (List.all_eq_true.1 hg f hf) hfy fun p hp => hs p ?_, rfl⟩
          exact List.mem_flatMap.2 ⟨y, hy, hp⟩
        · cases h
      case h_10 =>
        rename_i e hu
        rw [hu] at hg
        simp only at hg
        split at h
        · rename_i hl
          rw [if_pos hl]
          simp only [Option.map_eq_some_iff] at h ⊢
          obtain ⟨xs, hx, rfl⟩ := h
          refine ⟨xs, mapM_carry' hx fun f y hf hy hfy => ih n e _ y hg hfy fun p hp => hs p ?_, rfl⟩
          exact List.mem_flatMap.2 ⟨y, hy, hp⟩
        · cases h
      all_goals simp_all

theorem trod_move {w' : World} {sp : Nat → Bool} {t : TypeId} {v : Value} {d : DataW H} {ps : List MemPlace} (hg : goodT P 8 t = true) (h : DataW.Trod enc P w base (fun _ => true) held t v d ps)
    (hsame : ∀ p ∈ ps, w.sameAt w' p) (hs : ∀ p ∈ ps, sp p.block = true) : DataW.Trod enc P w' base sp held t v d ps := by
  obtain ⟨n, hn⟩ := h
  exact ⟨n, trod_spare 8 n t _ _ hg (DataW.trod_carry n t _ _ hn hsame) hs⟩

theorem trodAll_move {w' : World} {sp : Nat → Bool} : ∀ {ts : List TypeId} {vs : List Value} {ds : List (DataW H)} {ps : List MemPlace}, ts.all (goodT P 8) = true → DataW.TrodAll enc P w base (fun _ => true) held ts vs ds ps →
    (∀ p ∈ ps, w.sameAt w' p) → (∀ p ∈ ps, sp p.block = true) → DataW.TrodAll enc P w' base sp held ts vs ds ps := by
  intro ts
  induction ts with
  | nil =>
    intro vs ds ps _ h _ _
    obtain ⟨rfl, rfl, rfl⟩ := trodAll_nil h
    rfl
  | cons t ts ih =>
    intro vs ds ps hg h hsame hs
    obtain ⟨v, vs', d, ds', p, q, rfl, rfl, rfl, h1, h2⟩ := trodAll_cons h
    simp only [List.all_cons, Bool.and_eq_true] at hg
    exact ⟨p, q, trod_move hg.1 h1 (fun x hx => hsame x (by simp [hx])) (fun x hx => hs x (by simp [hx])), ih hg.2 h2 (fun x hx => hsame x (by simp [hx])) (fun x hx => hs x (by simp [hx])), rfl⟩

/-- A law that returns true and leaves what was there alone. -/
theorem post_law {f : Func} {s : ChangeSpec} {W W' : World} {args : Array Value} {ds gs : List (DataW H)} {before : List MemPlace} {tb : TypeId} (hW : DataW.Whole enc P f.params.toList s.vars false W args.toList ds gs before)
    (hv : s.vars = []) (hfn : s.fn H ds = { results := [.lit (.bool true)], args := ds }) (hrt : f.resultTypes = #[tb]) (htb : P.underlying tb = some .bool) (hgood : f.params.toList.all (goodT P 8) = true) (hb : Below W.heap.size W W') :
    s.post enc P f false true false false W args (.bool true) W' := by
  have hW0 := hW
  obtain ⟨p, q, hA, hV, rfl, _, _⟩ := hW
  rw [hv] at hV
  obtain ⟨rfl, rfl⟩ := trodVars_none hV
  have hlt : ∀ x ∈ p ++ [], x.block < W.heap.size := fun x hx => hW0.lt x hx
  have hsame : ∀ x ∈ p, W.sameAt W' x := fun x hx => hb.same (hlt x (by simpa using hx))
  refine ⟨ds, [], p ++ [], [], p, [], hW0, ?_, ?_, ?_, hb.frame _, fun h => by cases h⟩
  · simp only [List.append_nil, hfn, hrt]
    exact trodAll_mk1 (shut_bool htb _)
  · simp only [List.append_nil, hfn]
    exact trodAll_move hgood hA hsame fun x hx => by simpa using hlt x (by simpa using hx)
  · simp only [List.append_nil, hfn, hv]
    rfl

/-- A slice of numbers, as it is read. -/
theorem open_nums {r : Reach} {b0 : Nat} {t e : TypeId} {k : IntKind} {v : Value} {d : DataW H} {ps : List MemPlace} (ht : P.underlying t = some (.slice e)) (he : P.underlying e = some (.int k)) (hc : P.cellsOf e = 1)
    (hval : Value.okWide P w r b0 t v) (h : DataW.Trod enc P w base (fun _ => true) held t v d ps) :
    ∃ (s : SlV) (l : List Int), v = .slice s.p s.n s.c ∧ SlIs (fun n => [Value.int k n]) 1 w s l ∧ (∀ n ∈ l, (Lit.int k n).wf = true) ∧ l.length ≤ 9223372036854775807 := by
  obtain ⟨p, len, cap, rfl⟩ := okWide_slice ht hval
  obtain ⟨fuel, hf⟩ := h
  have hcs : (Value.slice p len cap).cells.toList = [.slice p len cap] := rfl
  rw [hcs] at hf
  rcases open_ints ht he hc hf with ⟨h1, _⟩ | ⟨a, len', cap', zs, h1, hb, hl, hm, hz, _, hcell, hw⟩
  · simp only [List.cons.injEq, and_true, Value.slice.injEq] at h1
    obtain ⟨rfl, rfl, rfl⟩ := h1
    exact ⟨⟨none, 0, 0⟩, [], rfl, slIs_nil, by simp, by simp⟩
  · simp only [List.cons.injEq, and_true, Value.slice.injEq] at h1
    obtain ⟨rfl, rfl, rfl⟩ := h1
    simp only [if_true] at hz
    have hlen : (zs.take len).length = len := by simp; omega
    refine ⟨⟨some a, len, cap⟩, zs.take len, rfl, ⟨hlen.symm, hl, fun hne => ?_⟩, fun n hn => hw n (List.mem_of_mem_take hn), by rw [hlen]; unfold maxLen at hm; omega⟩
    have hpos : 0 < len := by
      rcases Nat.eq_zero_or_pos len with h0 | h0
      · subst h0; simp at hne
      · exact h0
    have h0 := hcell 0 (by omega)
    have hspot : a.spot = none := by
      have := World.cell?_spot h0
      obtain ⟨b, o, sp⟩ := a
      simpa [Addr.add] using this
    obtain ⟨b, o, sp⟩ := a
    simp only at hspot
    subst hspot
    refine ⟨b, o, rfl, ?_, fun i x hx j u hu => ?_⟩
    · rcases Nat.lt_or_ge b w.heap.size with h9 | h9
      · exact h9
      · rw [addr_add] at h0
        simp [World.cell?, Array.getElem?_eq_none h9] at h0
    · have hi : i < len := by
        have := (List.getElem?_eq_some_iff.1 hx).1
        omega
      have hj : j = 0 := by
        have := (List.getElem?_eq_some_iff.1 hu).1
        simpa using this
      subst hj
      simp only [List.getElem?_cons_zero, Option.some.injEq] at hu
      subst hu
      have := hcell i (by omega)
      rw [addr_add] at this
      rw [Nat.mul_one, Nat.add_zero, this]
      have : zs.getD i 0 = x := by
        rw [List.getElem?_take_of_lt hi] at hx
        simp [List.getD, hx]
      rw [this]
end

theorem wf_u8 {n : Int} (h : (Lit.int .u8 n).wf = true) : 0 ≤ n ∧ n ≤ 255 := by
  simp [Lit.wf, IntKind.min, IntKind.max, IntKind.signed, IntKind.bits] at h
  omega
theorem wf_u16 {n : Int} (h : (Lit.int .u16 n).wf = true) : 0 ≤ n ∧ n ≤ 65535 := by
  simp [Lit.wf, IntKind.min, IntKind.max, IntKind.signed, IntKind.bits] at h
  omega
end Go.AX

/- Plain functions of the hull layer, as its Go text computes them. -/
namespace Hull
structure Pt where
  X : Int
  Y : Int
  deriving Inhabited, DecidableEq

def pt (l : List Pt) (i : Int) : Pt := l.getD i.toNat ⟨0, 0⟩

def within (n a b : Int) : Bool := decide (n ≥ a) && decide (n ≤ b)

def curveAt (l : List Pt) (i : Int) : Bool :=
  within (pt l i).X 0 400 && within (pt l i).Y 0 20000 && !(decide (i > 0) && decide ((pt l i).X ≤ (pt l (i - 1)).X))

def curve (l : List Pt) : Bool := within (l.length : Int) 2 8 && ((pt l 0).X == 0) && (List.range l.length).all fun i => curveAt l (i : Int)

def steadyAt (l : List Pt) (way : Int) (i : Int) : Bool := !decide (((pt l i).Y - (pt l (i - 1)).Y) * way < 0)

def steady (l : List Pt) (way : Int) : Bool := curve l && (List.range (l.length - 1)).all fun i => steadyAt l way ((i + 1 : Nat) : Int)

def endX (l : List Pt) : Int := (pt l ((l.length : Int) - 1)).X

def valFrom (l : List Pt) (x : Int) : Nat → Nat → Int × Int
  | 0, _ => ((pt l ((l.length : Int) - 1)).Y, 1)
  | f + 1, i =>
    if x ≤ (pt l (i : Int)).X then
      ((pt l ((i : Int) - 1)).Y * ((pt l (i : Int)).X - (pt l ((i : Int) - 1)).X) + ((pt l (i : Int)).Y - (pt l ((i : Int) - 1)).Y) * (x - (pt l ((i : Int) - 1)).X), (pt l (i : Int)).X - (pt l ((i : Int) - 1)).X)
    else valFrom l x f (i + 1)

def value (l : List Pt) (x : Int) : Int × Int := valFrom l x (l.length - 1) 1

/-- Bounds on the points, as a curve has them. -/
def Bd (l : List Pt) : Prop := ∀ i : Int, 0 ≤ i → i < l.length → 0 ≤ (pt l i).X ∧ (pt l i).X ≤ 400 ∧ 0 ≤ (pt l i).Y ∧ (pt l i).Y ≤ 20000

theorem mul_bd {x y A B : Int} (hx : -A ≤ x ∧ x ≤ A) (hy : -B ≤ y ∧ y ≤ B) : -(A * B) ≤ x * y ∧ x * y ≤ A * B := by
  have h1 : 0 ≤ (A - x) * (B + y) := Int.mul_nonneg (by omega) (by omega)
  have h2 : 0 ≤ (A + x) * (B - y) := Int.mul_nonneg (by omega) (by omega)
  have h3 : 0 ≤ (A - x) * (B - y) := Int.mul_nonneg (by omega) (by omega)
  have h4 : 0 ≤ (A + x) * (B + y) := Int.mul_nonneg (by omega) (by omega)
  simp only [Int.sub_mul, Int.mul_sub, Int.add_mul, Int.mul_add] at h1 h2 h3 h4
  constructor <;> omega

theorem curve_lt {l : List Pt} (h : curve l = true) : l ≠ [] ∧ 2 ≤ l.length ∧ l.length ≤ 8 := by
  simp only [curve, within, Bool.and_eq_true, decide_eq_true_eq] at h
  obtain ⟨⟨⟨h1, h2⟩, _⟩, _⟩ := h
  refine ⟨fun e => by subst e; simp at h1, by omega, by omega⟩

theorem curve_at {l : List Pt} (h : curve l = true) {i : Int} (h0 : 0 ≤ i) (h1 : i < l.length) : curveAt l i = true := by
  simp only [curve, Bool.and_eq_true, List.all_eq_true, List.mem_range] at h
  have := h.2 i.toNat (by omega)
  rwa [Int.toNat_of_nonneg h0] at this

theorem curve_bd {l : List Pt} (h : curve l = true) : Bd l := by
  intro i h0 h1
  have := curve_at h h0 h1
  simp only [curveAt, within, Bool.and_eq_true, decide_eq_true_eq] at this
  omega

structure Ice where
  Conc : Int
  Thick : Int
  Ridge : Int
  Press : Int
  deriving Inhabited, DecidableEq

structure Span where
  Lo : Int
  Hi : Int
  deriving Inhabited, DecidableEq

structure Cell where
  Conc : Span
  Thick : Span
  Ridge : Span
  Press : Span
  deriving Inhabited, DecidableEq

structure Part where
  Cell : Cell
  Channel : Bool
  Length : Int
  deriving Inhabited, DecidableEq

structure Ship where
  Class : Int
  Power : Int
  Draught : Int
  Tonnes : Int
  Thrust : List Pt
  Water : List Pt
  Ice : List Pt
  Slow : Int
  Brash : Int
  Ridge : Int
  Press : Int
  deriving Inhabited, DecidableEq

structure Ride where
  Ship : Ship
  in_ : Ice
  channel : Bool

def rule1 (s : Ship) : Bool := within s.Class 1 6
def rule2 (s : Ship) : Bool := within s.Power 100 100000 && within s.Draught 10 2000 && within s.Tonnes 10 500000
def rule3 (s : Ship) : Bool := within s.Slow 0 20 && within s.Brash 0 100 && within s.Ridge 0 500 && within s.Press 0 5000
def rule4 (s : Ship) : Bool := steady s.Thrust (-1) && within (endX s.Thrust) 10 250
def rule5 (s : Ship) : Bool := steady s.Water 1 && decide (endX s.Water ≤ 250)
def rule6 (s : Ship) : Bool := steady s.Ice 1 && ((pt s.Ice 0).Y == 0) && (endX s.Ice == 400)

def check (s : Ship) : Int :=
  if rule1 s = false then 41 else if rule2 s = false then 40 else if rule3 s = false then 40 else if rule4 s = false then 40 else if rule5 s = false then 40 else if rule6 s = false then 40 else 0

theorem steady_curve {l : List Pt} {w : Int} (h : steady l w = true) : curve l = true := by
  simp only [steady, Bool.and_eq_true] at h; exact h.1


theorem within_t {n a b : Int} (h : within n a b = true) : a ≤ n ∧ n ≤ b := by
  simp only [within, Bool.and_eq_true, decide_eq_true_eq] at h; omega
theorem within_f {n a b : Int} (h : within n a b = false) : ¬ (a ≤ n ∧ n ≤ b) := by
  simp only [within, Bool.and_eq_false_iff, decide_eq_false_iff_not] at h; omega

theorem b1 {a b c : Bool} : (!a || !b || c) = true → (a && b && !c) = false := by cases a <;> cases b <;> cases c <;> simp
theorem b3 {a b c : Bool} : (!a || !b || c) = false → (a && b && !c) = true := by cases a <;> cases b <;> cases c <;> simp
theorem b4 {a : Bool} : a = false → (!a) = true := by cases a <;> simp
theorem f2t {a : Bool} : a = false → ¬ a = true := by cases a <;> simp
theorem b2 {a : Bool} : a = true → (!a) = false := by cases a <;> simp

theorem steady_len {l : List Pt} {w : Int} (h : steady l w = true) : 2 ≤ l.length ∧ l.length ≤ 8 := (curve_lt (steady_curve h)).2

theorem curve_no1 {l : List Pt} (h : (!within (l.length : Int) 2 8 || (pt l 0).X != 0) = true) : curve l = false := by
  cases h1 : within (l.length : Int) 2 8 <;> simp_all [curve]

theorem curve_no2 {l : List Pt} {k : Nat} (hk : k < l.length) (h : curveAt l (k : Int) = false) : curve l = false := by
  cases hc : curve l with
  | false => rfl
  | true => have := curve_at hc (i := (k : Int)) (by omega) (by omega); rw [h] at this; cases this

theorem curve_yes {l : List Pt} {k : Nat} (h1 : within (l.length : Int) 2 8 = true) (h2 : (pt l 0).X = 0) (h : ∀ j < k, curveAt l (j : Int) = true) (hk : l.length ≤ k) : curve l = true := by
  simp only [curve, h1, h2, beq_self_eq_true, Bool.and_self, Bool.true_and, List.all_eq_true, List.mem_range]
  exact fun i hi => h i (by omega)

theorem steady_no {l : List Pt} {w : Int} {k : Nat} (h1 : 1 ≤ k) (hk : k < l.length) (h : steadyAt l w (k : Int) = false) : steady l w = false := by
  cases hs : steady l w with
  | false => rfl
  | true =>
    simp only [steady, Bool.and_eq_true, List.all_eq_true, List.mem_range] at hs
    have := hs.2 (k - 1) (by omega)
    rw [show k - 1 + 1 = k by omega, h] at this
    cases this

theorem steady_yes {l : List Pt} {w : Int} {k : Nat} (hc : curve l = true) (h : ∀ j < k, 1 ≤ j → steadyAt l w (j : Int) = true) (hk : l.length ≤ k) : steady l w = true := by
  simp only [steady, hc, Bool.true_and, List.all_eq_true, List.mem_range]
  exact fun i hi => h (i + 1) (by omega) (by omega)

theorem mul_nn {x y a A b B : Int} (hx : a ≤ x ∧ x ≤ A) (hy : b ≤ y ∧ y ≤ B) (ha : 0 ≤ a) (hb : 0 ≤ b) : a * b ≤ x * y ∧ x * y ≤ A * B := by
  constructor
  · exact Int.mul_le_mul hx.1 hy.1 hb (by omega)
  · exact Int.mul_le_mul hx.2 hy.2 (by omega) (by omega)

theorem valFrom_bd {l : List Pt} (hc : curve l = true) {x : Int} (_hx : 0 ≤ x) : ∀ (f i : Nat), 1 ≤ i → i + f = l.length → (pt l ((i : Int) - 1)).X ≤ x →
    1 ≤ (valFrom l x f i).2 ∧ (valFrom l x f i).2 ≤ 400 ∧ 0 ≤ (valFrom l x f i).1 ∧ (valFrom l x f i).1 ≤ 20000 * (valFrom l x f i).2 := by
  have hB := curve_bd hc
  have hlen := (curve_lt hc).2
  intro f
  induction f with
  | zero =>
    intro i h1 h2 h3
    have := hB ((l.length : Int) - 1) (by omega) (by omega)
    simp only [valFrom]
    omega
  | succ f ih =>
    intro i h1 h2 h3
    have ha := hB ((i : Int) - 1) (by omega) (by omega)
    have hb := hB (i : Int) (by omega) (by omega)
    have hat := curve_at hc (i := (i : Int)) (by omega) (by omega)
    simp only [valFrom]
    by_cases hle : x ≤ (pt l (i : Int)).X
    · rw [if_pos hle]
      have hlt : (pt l ((i : Int) - 1)).X < (pt l (i : Int)).X := by
        simp only [curveAt, Bool.and_eq_true, Bool.not_eq_true', Bool.and_eq_false_iff, decide_eq_false_iff_not] at hat
        rcases hat.2 with h | h <;> omega
      refine ⟨by omega, by omega, ?_, ?_⟩
      all_goals
        have e1 : (pt l ((i : Int) - 1)).Y * ((pt l (i : Int)).X - (pt l ((i : Int) - 1)).X) + ((pt l (i : Int)).Y - (pt l ((i : Int) - 1)).Y) * (x - (pt l ((i : Int) - 1)).X) =
          (pt l ((i : Int) - 1)).Y * ((pt l (i : Int)).X - x) + (pt l (i : Int)).Y * (x - (pt l ((i : Int) - 1)).X) := by
          simp only [Int.sub_mul, Int.mul_sub]; omega
        have p1 := Int.mul_nonneg (a := (pt l ((i : Int) - 1)).Y) (b := (pt l (i : Int)).X - x) (by omega) (by omega)
        have p2 := Int.mul_nonneg (a := (pt l (i : Int)).Y) (b := x - (pt l ((i : Int) - 1)).X) (by omega) (by omega)
        have p3 := Int.mul_le_mul_of_nonneg_right (a := (pt l ((i : Int) - 1)).Y) (b := 20000) (c := (pt l (i : Int)).X - x) (by omega) (by omega)
        have p4 := Int.mul_le_mul_of_nonneg_right (a := (pt l (i : Int)).Y) (b := 20000) (c := x - (pt l ((i : Int) - 1)).X) (by omega) (by omega)
        rw [e1]
        simp only []
        omega
    · rw [if_neg hle]
      exact ih (i + 1) (by omega) (by omega) (by rw [show ((i + 1 : Nat) : Int) - 1 = (i : Int) by omega]; omega)

theorem curve_x0 {l : List Pt} (hc : curve l = true) : (pt l 0).X = 0 := by
  simp only [curve, Bool.and_eq_true, beq_iff_eq] at hc
  exact hc.1.2

theorem value_bd {l : List Pt} (hc : curve l = true) {x : Int} (hx : 0 ≤ x) : 1 ≤ (value l x).2 ∧ (value l x).2 ≤ 400 ∧ 0 ≤ (value l x).1 ∧ (value l x).1 ≤ 20000 * (value l x).2 := by
  have hlen := (curve_lt hc).2
  exact valFrom_bd hc hx _ 1 (Nat.le_refl 1) (by omega) (by have := curve_x0 hc; simp; omega)

def firstI (c : Cell) : Ice := ⟨c.Conc.Lo, c.Thick.Lo, c.Ridge.Lo, c.Press.Lo⟩
def lastI (c : Cell) : Ice := ⟨c.Conc.Hi, c.Thick.Hi, c.Ridge.Hi, c.Press.Hi⟩

def inI (a b c : Int) : Bool := decide (a ≥ b) && decide (a ≤ c)

def goodIce (i : Ice) : Prop := (0 ≤ i.Conc ∧ i.Conc ≤ 100) ∧ (0 ≤ i.Thick ∧ i.Thick ≤ 400) ∧ (0 ≤ i.Ridge ∧ i.Ridge ≤ 100) ∧ (0 ≤ i.Press ∧ i.Press ≤ 3)

theorem goodIce_bd {i : Ice} (h : goodIce i) : (0 ≤ i.Conc ∧ i.Conc ≤ 100) ∧ (0 ≤ i.Thick ∧ i.Thick ≤ 400) ∧ (0 ≤ i.Ridge ∧ i.Ridge ≤ 100) ∧ (0 ≤ i.Press ∧ i.Press ≤ 3) := h

def loadI (i : Ice) (v : Int) (ch : Bool) : Int :=
  if i.Conc = 0 then 0
  else (if ch then (i.Thick * (100 + v) + 1) / 2 else i.Thick * (100 + v)) + 300 * (if ch then 0 else i.Ridge) + 2000 * i.Press

def lowest (n d : Int) : Int × Int := (n / (Int.gcd n d : Int), d / (Int.gcd n d : Int))

theorem gcd_step {a b : Int} (ha : 0 ≤ a) (hb : 0 ≤ b) : Int.gcd b (a % b) = Int.gcd a b := by
  obtain ⟨x, rfl⟩ := Int.eq_ofNat_of_zero_le ha
  obtain ⟨y, rfl⟩ := Int.eq_ofNat_of_zero_le hb
  show Nat.gcd y (x % y) = Nat.gcd x y
  rw [Nat.gcd_comm x y, Nat.gcd_rec y x, Nat.gcd_comm]

def at_ (l : List Pt) (x : Int) : (Int × Int) × Int :=
  if curve l = false then ((0, 0), 40) else if within x 0 1000 = false then ((0, 0), 6) else (lowest (value l x).1 (value l x).2, 0)

theorem check_rules {s : Ship} (h : check s = 0) : rule1 s = true ∧ rule2 s = true ∧ rule3 s = true ∧ rule4 s = true ∧ rule5 s = true ∧ rule6 s = true := by
  unfold check at h
  refine ⟨?_, ?_, ?_, ?_, ?_, ?_⟩
  · cases e : rule1 s <;> simp_all
  · cases e : rule2 s <;> cases e1 : rule1 s <;> simp_all
  · cases e : rule3 s <;> cases e1 : rule1 s <;> cases e2 : rule2 s <;> simp_all
  · cases e : rule4 s <;> cases e1 : rule1 s <;> cases e2 : rule2 s <;> cases e3 : rule3 s <;> simp_all
  · cases e : rule5 s <;> cases e1 : rule1 s <;> cases e2 : rule2 s <;> cases e3 : rule3 s <;> cases e4 : rule4 s <;> simp_all
  · cases e : rule6 s <;> cases e1 : rule1 s <;> cases e2 : rule2 s <;> cases e3 : rule3 s <;> cases e4 : rule4 s <;> cases e5 : rule5 s <;> simp_all

theorem check_steadyThrust {s : Ship} (h : check s = 0) : steady s.Thrust (-1) = true := by
  have := (check_rules h).2.2.2.1; simp only [rule4, Bool.and_eq_true] at this; exact this.1
theorem check_steadyWater {s : Ship} (h : check s = 0) : steady s.Water 1 = true := by
  have := (check_rules h).2.2.2.2.1; simp only [rule5, Bool.and_eq_true] at this; exact this.1
theorem check_steadyIce {s : Ship} (h : check s = 0) : steady s.Ice 1 = true := by
  have := (check_rules h).2.2.2.2.2; simp only [rule6, Bool.and_eq_true] at this; exact this.1.1
theorem check_curveThrust {s : Ship} (h : check s = 0) : curve s.Thrust = true := steady_curve (check_steadyThrust h)
theorem check_curveWater {s : Ship} (h : check s = 0) : curve s.Water = true := steady_curve (check_steadyWater h)
theorem check_curveIce {s : Ship} (h : check s = 0) : curve s.Ice = true := steady_curve (check_steadyIce h)

theorem check_bd {s : Ship} (h : check s = 0) : (1 ≤ s.Class ∧ s.Class ≤ 6) ∧ (100 ≤ s.Power ∧ s.Power ≤ 100000) ∧ (0 ≤ s.Slow ∧ s.Slow ≤ 20) ∧ (0 ≤ s.Brash ∧ s.Brash ≤ 100) ∧ (0 ≤ s.Ridge ∧ s.Ridge ≤ 500) ∧ (0 ≤ s.Press ∧ s.Press ≤ 5000) := by
  obtain ⟨h1, h2, h3, _⟩ := check_rules h
  simp only [rule1, rule2, rule3, within, Bool.and_eq_true, decide_eq_true_eq] at h1 h2 h3
  omega

def thrust (s : Ship) (v : Int) : Int := (value s.Thrust v).1 / (value s.Thrust v).2

def resN (s : Ship) (i : Ice) (ch : Bool) (v : Int) : Int :=
  i.Conc * ((value s.Ice i.Thick).1 * (1000 + s.Slow * v) * (if ch = true then s.Brash else 100) + s.Ridge * (if ch = true then 0 else i.Ridge) * (value s.Ice i.Thick).2 * 100000)

def resistance (s : Ship) (i : Ice) (ch : Bool) (v : Int) : Int :=
  ((value s.Water v).1 * ((value s.Ice i.Thick).2 * 10000000) + resN s i ch v * (value s.Water v).2 + s.Press * i.Press * (value s.Water v).2 * ((value s.Ice i.Thick).2 * 10000000)
    + (value s.Water v).2 * ((value s.Ice i.Thick).2 * 10000000) - 1) / ((value s.Water v).2 * ((value s.Ice i.Thick).2 * 10000000))

def makes (s : Ship) (i : Ice) (ch : Bool) (v : Int) : Bool := decide (v ≤ endX s.Thrust) && decide (thrust s v ≥ resistance s i ch v)

def strengths : List Int := [4000, 8000, 14000, 24000, 40000, 90000]

def bears (s : Ship) (i : Ice) (ch : Bool) (v : Int) : Bool := decide (loadI i v ch ≤ strengths.getD (s.Class - 1).toNat 0)

def greatFrom (so : Int → Bool) : Nat → Int → Int → Int
  | 0, lo, _ => lo
  | f + 1, lo, hi => if lo < hi then (if so (lo + (hi - lo + 1) / 2) = true then greatFrom so f (lo + (hi - lo + 1) / 2) hi else greatFrom so f lo (lo + (hi - lo + 1) / 2 - 1)) else lo

def great (so : Int → Bool) (lo hi : Int) : Int := greatFrom so (hi - lo).toNat lo hi

theorem greatFrom_fuel {so : Int → Bool} : ∀ {f g : Nat} {lo hi : Int}, (hi - lo).toNat ≤ f → (hi - lo).toNat ≤ g → greatFrom so f lo hi = greatFrom so g lo hi := by
  intro f
  induction f with
  | zero =>
    intro g lo hi h1 _
    cases g with
    | zero => rfl
    | succ g => simp only [greatFrom]; rw [if_neg (by omega)]
  | succ f ih =>
    intro g lo hi h1 h2
    cases g with
    | zero => simp only [greatFrom]; rw [if_neg (by omega)]
    | succ g =>
      simp only [greatFrom]
      by_cases h : lo < hi
      · rw [if_pos h, if_pos h]
        rw [ih (g := g) (lo := lo + (hi - lo + 1) / 2) (hi := hi) (by omega) (by omega), ih (g := g) (lo := lo) (hi := lo + (hi - lo + 1) / 2 - 1) (by omega) (by omega)]
      · rw [if_neg h, if_neg h]

theorem great_step {so : Int → Bool} {lo hi : Int} (h : lo < hi) : great so lo hi = if so (lo + (hi - lo + 1) / 2) = true then great so (lo + (hi - lo + 1) / 2) hi else great so lo (lo + (hi - lo + 1) / 2 - 1) := by
  unfold great
  rw [show (hi - lo).toNat = ((hi - lo).toNat - 1) + 1 by omega, greatFrom, if_pos h]
  rw [greatFrom_fuel (f := (hi - lo).toNat - 1) (g := (hi - (lo + (hi - lo + 1) / 2)).toNat) (lo := lo + (hi - lo + 1) / 2) (by omega) (by omega),
    greatFrom_fuel (f := (hi - lo).toNat - 1) (g := ((lo + (hi - lo + 1) / 2 - 1) - lo).toNat) (lo := lo) (hi := lo + (hi - lo + 1) / 2 - 1) (by omega) (by omega)]

theorem great_done {so : Int → Bool} {lo hi : Int} (h : ¬ lo < hi) : great so lo hi = lo := by
  unfold great
  rw [show (hi - lo).toNat = 0 by omega, greatFrom]

def greatest (so : Int → Bool) (lo hi : Int) : Int × Bool := if so lo = true then (great so lo hi, true) else (0, false)

def speed (s : Ship) (i : Ice) (ch : Bool) : Int := (greatest (fun v => makes s i ch v) 0 250).1

def goes (s : Ship) (i : Ice) (ch : Bool) : Int × Bool := greatest (fun v => makes s i ch v && bears s i ch v) 10 250

def all4 (so : Int → Bool) : Bool := so 0 && so 1 && so 2 && so 3

def checkIce (i : Ice) : Int :=
  if all4 (fun n => inI (([i.Conc, i.Thick, i.Ridge, i.Press] : List Int).getD n.toNat 0) 0 (([100, 400, 100, 3] : List Int).getD n.toNat 0)) = false then 20 else 0

def rightS (s : Span) (n : Int) : Bool := inI s.Lo 0 (([100, 400, 100, 3] : List Int).getD n.toNat 0) && inI s.Hi s.Lo (([100, 400, 100, 3] : List Int).getD n.toNat 0)

def checkCell (c : Cell) : Int :=
  if all4 (fun n => rightS (([c.Conc, c.Thick, c.Ridge, c.Press] : List Span).getD n.toNat ⟨0, 0⟩) n) = false then 20 else 0

theorem ite_err {c : Bool} {e : Int} (he : e ≠ 0) : (if c = false then e else 0) = 0 ↔ c = true := by cases c <;> simp [he]

theorem checkIce_ok {i : Ice} : checkIce i = 0 ↔ goodIce i := by
  unfold checkIce
  rw [ite_err (by decide)]
  simp only [all4, inI, Bool.and_eq_true, decide_eq_true_eq, goodIce]
  constructor
  · rintro ⟨⟨⟨⟨a, b⟩, c, d⟩, e, f⟩, g, h⟩; exact ⟨⟨a, b⟩, ⟨c, d⟩, ⟨e, f⟩, g, h⟩
  · rintro ⟨⟨a, b⟩, ⟨c, d⟩, ⟨e, f⟩, g, h⟩; exact ⟨⟨⟨⟨a, b⟩, c, d⟩, e, f⟩, g, h⟩

def goodSpan (s : Span) (n : Int) : Prop := 0 ≤ s.Lo ∧ s.Lo ≤ s.Hi ∧ s.Hi ≤ n

def goodCell (c : Cell) : Prop := goodSpan c.Conc 100 ∧ goodSpan c.Thick 400 ∧ goodSpan c.Ridge 100 ∧ goodSpan c.Press 3

theorem checkCell_ok {c : Cell} : checkCell c = 0 ↔ goodCell c := by
  unfold checkCell
  rw [ite_err (by decide)]
  simp only [all4, rightS, inI, Bool.and_eq_true, decide_eq_true_eq, goodCell, goodSpan]
  constructor
  · rintro ⟨⟨⟨⟨⟨_, _⟩, _, _⟩, ⟨_, _⟩, _, _⟩, ⟨_, _⟩, _, _⟩, ⟨_, _⟩, _, _⟩
    exact ⟨⟨by assumption, by assumption, by assumption⟩, ⟨by assumption, by assumption, by assumption⟩, ⟨by assumption, by assumption, by assumption⟩, ⟨by assumption, by assumption, by assumption⟩⟩
  · rintro ⟨⟨h1, h2, h3⟩, ⟨h4, h5, h6⟩, ⟨h7, h8, h9⟩, ⟨h10, h11, h12⟩⟩
    exact ⟨⟨⟨⟨⟨h1, Int.le_trans h2 h3⟩, h2, h3⟩, ⟨h4, Int.le_trans h5 h6⟩, h5, h6⟩, ⟨h7, Int.le_trans h8 h9⟩, h8, h9⟩, ⟨h10, Int.le_trans h11 h12⟩, h11, h12⟩

theorem goodCell_last {c : Cell} (h : goodCell c) : goodIce (lastI c) := by
  obtain ⟨⟨_, _, _⟩, ⟨_, _, _⟩, ⟨_, _, _⟩, ⟨_, _, _⟩⟩ := h
  simp only [goodIce, lastI]; omega

theorem goodCell_first {c : Cell} (h : goodCell c) : goodIce (firstI c) := by
  obtain ⟨⟨_, _, _⟩, ⟨_, _, _⟩, ⟨_, _, _⟩, ⟨_, _, _⟩⟩ := h
  simp only [goodIce, firstI]; omega

def loaded (i : Ice) (v : Int) : Int := if checkIce i ≠ 0 then checkIce i else if within v 0 250 = false then 6 else 0

theorem loaded_ok {i : Ice} {v : Int} (h : loaded i v = 0) : goodIce i ∧ 0 ≤ v ∧ v ≤ 255 := by
  unfold loaded at h
  by_cases h1 : checkIce i = 0
  · rw [if_neg (by simp [h1])] at h
    rw [ite_err (by decide)] at h
    have := within_t h
    exact ⟨checkIce_ok.1 h1, by omega, by omega⟩
  · rw [if_pos h1] at h; exact absurd h h1

def asked (s : Ship) (i : Ice) (v : Int) : Int := if check s ≠ 0 then check s else loaded i v

theorem asked_ok {s : Ship} {i : Ice} {v : Int} (h : asked s i v = 0) : check s = 0 ∧ goodIce i ∧ 0 ≤ v ∧ v ≤ 255 := by
  unfold asked at h
  by_cases h1 : check s = 0
  · rw [if_neg (by simp [h1])] at h; exact ⟨h1, loaded_ok h⟩
  · rw [if_pos h1] at h; exact absurd h h1

def met (s : Ship) (c : Cell) : Int := if check s ≠ 0 then check s else checkCell c

theorem met_ok {s : Ship} {c : Cell} (h : met s c = 0) : check s = 0 ∧ goodCell c := by
  unfold met at h
  by_cases h1 : check s = 0
  · rw [if_neg (by simp [h1])] at h; exact ⟨h1, checkCell_ok.1 h⟩
  · rw [if_pos h1] at h; exact absurd h h1

def safe (s : Ship) (c : Cell) (ch : Bool) : Int × Int :=
  if speed s (lastI c) ch < 10 then (0, 4) else if (goes s (lastI c) ch).2 = false then (0, 41) else ((goes s (lastI c) ch).1, 0)

def speedE (s : Ship) (i : Ice) (ch : Bool) : Int × Int := if asked s i 0 ≠ 0 then (0, asked s i 0) else (speed s i ch, 0)
def resistanceE (s : Ship) (i : Ice) (v : Int) (ch : Bool) : Int × Int := if asked s i v ≠ 0 then (0, asked s i v) else (resistance s i ch v, 0)
def loadE (i : Ice) (v : Int) (ch : Bool) : Int × Int := if loaded i v ≠ 0 then (0, loaded i v) else (loadI i v ch, 0)

def takes (p : Part) (v : Int) : Int := (60 * p.Length + v - 1) / v
end Hull

/- Plain laws of the hull layer: what is monotone. -/
namespace Hull

theorem mulL {a b c : Int} (h : a ≤ b) (hc : 0 ≤ c) : c * a ≤ c * b := Int.mul_le_mul_of_nonneg_left h hc
theorem mulR {a b c : Int} (h : a ≤ b) (hc : 0 ≤ c) : a * c ≤ b * c := Int.mul_le_mul_of_nonneg_right h hc

theorem ceil_mono {a b c d : Int} (hb : 0 < b) (hd : 0 < d) (h : a * d ≤ c * b) : (a + b - 1) / b ≤ (c + d - 1) / d := by
  have h1 := Int.lt_mul_ediv_self_add (x := c + d - 1) hd
  have h2 : c ≤ d * ((c + d - 1) / d) := by omega
  have h3 : c * b ≤ d * ((c + d - 1) / d) * b := mulR h2 (by omega)
  have h4 : a * d ≤ ((c + d - 1) / d * b) * d := by
    have e : d * ((c + d - 1) / d) * b = ((c + d - 1) / d * b) * d := by ac_rfl
    omega
  have h5 : a ≤ (c + d - 1) / d * b := Int.le_of_mul_le_mul_right h4 hd
  have h6 : (a + b - 1) / b < (c + d - 1) / d + 1 := Int.ediv_lt_of_lt_mul hb (by rw [Int.add_mul]; omega)
  omega

theorem floor_mono {a b c d : Int} (hb : 0 < b) (hd : 0 < d) (h : a * d ≤ c * b) : a / b ≤ c / d := by
  have h1 : a / b * b ≤ a := Int.ediv_mul_le a (by omega)
  refine Int.le_ediv_of_mul_le hd ?_
  have h2 : a / b * b * d ≤ a * d := mulR h1 (by omega)
  have h3 : (a / b * d) * b ≤ c * b := by
    have e : a / b * b * d = (a / b * d) * b := by ac_rfl
    omega
  exact Int.le_of_mul_le_mul_right h3 hb

/-- The value between points, over any numbers. -/
def vf (X Z : Nat → Int) (n : Nat) (x : Int) : Nat → Nat → Int × Int
  | 0, _ => (Z (n - 1), 1)
  | f + 1, i => if x ≤ X i then (Z (i - 1) * (X i - X (i - 1)) + (Z i - Z (i - 1)) * (x - X (i - 1)), X i - X (i - 1)) else vf X Z n x f (i + 1)

theorem vf_ge {X Z : Nat → Int} {n : Nat} (hX : ∀ i, 1 ≤ i → i < n → X (i - 1) < X i) (hZ : ∀ i, 1 ≤ i → i < n → Z (i - 1) ≤ Z i) {x : Int} : ∀ (f i : Nat), 1 ≤ i → i + f = n → X (i - 1) ≤ x →
    1 ≤ (vf X Z n x f i).2 ∧ Z (i - 1) * (vf X Z n x f i).2 ≤ (vf X Z n x f i).1 := by
  intro f
  induction f with
  | zero => intro i h1 h2 h3; simp only [vf]; rw [show n - 1 = i - 1 by omega]; omega
  | succ f ih =>
    intro i h1 h2 h3
    simp only [vf]
    have hx := hX i h1 (by omega)
    have hz := hZ i h1 (by omega)
    by_cases h : x ≤ X i
    · rw [if_pos h]
      have := Int.mul_nonneg (a := Z i - Z (i - 1)) (b := x - X (i - 1)) (by omega) (by omega)
      simp only []
      omega
    · rw [if_neg h]
      obtain ⟨h4, h5⟩ := ih (i + 1) (by omega) (by omega) (by rw [show i + 1 - 1 = i by omega]; omega)
      rw [show i + 1 - 1 = i by omega] at h5
      have := mulR hz (c := (vf X Z n x f (i + 1)).2) (by omega)
      exact ⟨h4, by omega⟩

theorem vf_mono {X Z : Nat → Int} {n : Nat} (hX : ∀ i, 1 ≤ i → i < n → X (i - 1) < X i) (hZ : ∀ i, 1 ≤ i → i < n → Z (i - 1) ≤ Z i) {x y : Int} (hxy : x ≤ y) : ∀ (f i : Nat), 1 ≤ i → i + f = n → X (i - 1) ≤ x →
    (vf X Z n x f i).1 * (vf X Z n y f i).2 ≤ (vf X Z n y f i).1 * (vf X Z n x f i).2 := by
  intro f
  induction f with
  | zero => intro i _ _ _; simp only [vf]; omega
  | succ f ih =>
    intro i h1 h2 h3
    simp only [vf]
    have hx := hX i h1 (by omega)
    have hz := hZ i h1 (by omega)
    by_cases h : x ≤ X i
    · rw [if_pos h]
      by_cases hy : y ≤ X i
      · rw [if_pos hy]
        simp only []
        refine mulR ?_ (by omega)
        have := mulL (a := x - X (i - 1)) (b := y - X (i - 1)) (c := Z i - Z (i - 1)) (by omega) (by omega)
        omega
      · rw [if_neg hy]
        obtain ⟨h4, h5⟩ := vf_ge hX hZ (x := y) f (i + 1) (by omega) (by omega) (by rw [show i + 1 - 1 = i by omega]; omega)
        rw [show i + 1 - 1 = i by omega] at h5
        simp only []
        have h6 : Z (i - 1) * (X i - X (i - 1)) + (Z i - Z (i - 1)) * (x - X (i - 1)) ≤ Z i * (X i - X (i - 1)) := by
          have := mulL (a := x - X (i - 1)) (b := X i - X (i - 1)) (c := Z i - Z (i - 1)) (by omega) (by omega)
          rw [Int.sub_mul (Z i) (Z (i - 1)) (X i - X (i - 1))] at this
          omega
        have h7 := mulR h6 (c := (vf X Z n y f (i + 1)).2) (by omega)
        have h8 := mulR h5 (c := X i - X (i - 1)) (by omega)
        have e : Z i * (X i - X (i - 1)) * (vf X Z n y f (i + 1)).2 = Z i * (vf X Z n y f (i + 1)).2 * (X i - X (i - 1)) := by ac_rfl
        omega
    · rw [if_neg h, if_neg (by omega)]
      exact ih (i + 1) (by omega) (by omega) (by rw [show i + 1 - 1 = i by omega]; omega)

theorem valFrom_vf {l : List Pt} {x : Int} : ∀ (f i : Nat), 1 ≤ i → i + f = l.length → valFrom l x f i = vf (fun i => (pt l (i : Int)).X) (fun i => (pt l (i : Int)).Y) l.length x f i := by
  intro f
  induction f with
  | zero => intro i h1 h2; simp only [valFrom, vf]; rw [show ((l.length - 1 : Nat) : Int) = (l.length : Int) - 1 by omega]
  | succ f ih =>
    intro i h1 h2
    simp only [valFrom, vf]
    rw [show ((i - 1 : Nat) : Int) = (i : Int) - 1 by omega, ih (i + 1) (by omega) (by omega)]

theorem vf_neg {X Z : Nat → Int} {n : Nat} {x : Int} : ∀ (f i : Nat), vf X (fun i => -Z i) n x f i = (-(vf X Z n x f i).1, (vf X Z n x f i).2) := by
  intro f
  induction f with
  | zero => intro i; rfl
  | succ f ih =>
    intro i
    simp only [vf]
    by_cases h : x ≤ X i
    · rw [if_pos h, if_pos h]
      simp only [Prod.mk.injEq, and_true]
      rw [show -Z i - -Z (i - 1) = -(Z i - Z (i - 1)) by omega, Int.neg_mul, Int.neg_mul, Int.neg_add]
    · rw [if_neg h, if_neg h]; exact ih (i + 1)

theorem steady_at {l : List Pt} {w : Int} (h : steady l w = true) {i : Nat} (h1 : 1 ≤ i) (h2 : i < l.length) : 0 ≤ ((pt l (i : Int)).Y - (pt l ((i : Int) - 1)).Y) * w := by
  simp only [steady, Bool.and_eq_true, List.all_eq_true, List.mem_range] at h
  have := h.2 (i - 1) (by omega)
  rw [show i - 1 + 1 = i by omega] at this
  simp only [steadyAt, Bool.not_eq_true', decide_eq_false_iff_not] at this
  omega

theorem curve_up {l : List Pt} (hc : curve l = true) {i : Nat} (h1 : 1 ≤ i) (h2 : i < l.length) : (pt l ((i - 1 : Nat) : Int)).X < (pt l (i : Int)).X := by
  have hat := curve_at hc (i := (i : Int)) (by omega) (by omega)
  simp only [curveAt, Bool.and_eq_true, Bool.not_eq_true', Bool.and_eq_false_iff, decide_eq_false_iff_not] at hat
  rw [show ((i - 1 : Nat) : Int) = (i : Int) - 1 by omega]
  rcases hat.2 with h | h <;> omega

theorem value_up {l : List Pt} (h : steady l 1 = true) {x y : Int} (hx : 0 ≤ x) (hxy : x ≤ y) : (value l x).1 * (value l y).2 ≤ (value l y).1 * (value l x).2 := by
  have hc := steady_curve h
  have hlen := (curve_lt hc).2
  have h0 := curve_x0 hc
  unfold value
  rw [valFrom_vf _ 1 (Nat.le_refl 1) (by omega), valFrom_vf _ 1 (Nat.le_refl 1) (by omega)]
  refine vf_mono (fun i h1 h2 => curve_up hc h1 h2) (fun i h1 h2 => ?_) hxy _ 1 (Nat.le_refl 1) (by omega) (by simp; omega)
  have := steady_at h h1 h2
  rw [show ((i - 1 : Nat) : Int) = (i : Int) - 1 by omega]
  omega

theorem value_down {l : List Pt} (h : steady l (-1) = true) {x y : Int} (hx : 0 ≤ x) (hxy : x ≤ y) : (value l y).1 * (value l x).2 ≤ (value l x).1 * (value l y).2 := by
  have hc := steady_curve h
  have hlen := (curve_lt hc).2
  have h0 := curve_x0 hc
  unfold value
  rw [valFrom_vf _ 1 (Nat.le_refl 1) (by omega), valFrom_vf _ 1 (Nat.le_refl 1) (by omega)]
  have := vf_mono (X := fun i => (pt l (i : Int)).X) (Z := fun i => -(pt l (i : Int)).Y) (n := l.length) (fun i h1 h2 => curve_up hc h1 h2) (fun i h1 h2 => by
    have := steady_at h h1 h2
    rw [show ((i - 1 : Nat) : Int) = (i : Int) - 1 by omega]
    omega) hxy (l.length - 1) 1 (Nat.le_refl 1) (by omega) (by simp; omega)
  rw [vf_neg, vf_neg] at this
  simp only [Int.neg_mul] at this
  omega


def resG (w wd n d c A sh R rd P : Int) : Int :=
  (w * (d * 10000000) + c * (n * A * sh + R * rd * d * 100000) * wd + P * wd * (d * 10000000) + wd * (d * 10000000) - 1) / (wd * (d * 10000000))

theorem resG_mono {w wd n d c A sh R rd P w' wd' n' d' c' A' sh' rd' P' : Int} (hwd : 0 < wd) (hd : 0 < d) (hwd' : 0 < wd') (hd' : 0 < d') (hn : 0 ≤ n) (hn' : 0 ≤ n') (hc : 0 ≤ c) (hA : 0 ≤ A) (hsh : 0 ≤ sh) (hR : 0 ≤ R) (hrd : 0 ≤ rd)
    (h1 : w * wd' ≤ w' * wd) (h2 : n * d' ≤ n' * d) (h3 : c ≤ c') (h4 : A ≤ A') (h5 : sh ≤ sh') (h6 : rd ≤ rd') (h7 : P ≤ P') :
    resG w wd n d c A sh R rd P ≤ resG w' wd' n' d' c' A' sh' R rd' P' := by
  unfold resG
  have pd : 0 < d * 10000000 := by omega
  have pd' : 0 < d' * 10000000 := by omega
  refine ceil_mono (Int.mul_pos hwd pd) (Int.mul_pos hwd' pd') ?_
  have t1 : w * (d * 10000000) * (wd' * (d' * 10000000)) ≤ w' * (d' * 10000000) * (wd * (d * 10000000)) := by
    have := mulR h1 (c := (d * 10000000) * (d' * 10000000)) (Int.le_of_lt (Int.mul_pos pd pd'))
    have e1 : w * (d * 10000000) * (wd' * (d' * 10000000)) = w * wd' * ((d * 10000000) * (d' * 10000000)) := by ac_rfl
    have e2 : w' * (d' * 10000000) * (wd * (d * 10000000)) = w' * wd * ((d * 10000000) * (d' * 10000000)) := by ac_rfl
    omega
  have t3 : P * wd * (d * 10000000) * (wd' * (d' * 10000000)) ≤ P' * wd' * (d' * 10000000) * (wd * (d * 10000000)) := by
    have := mulR h7 (c := wd * (d * 10000000) * (wd' * (d' * 10000000))) (Int.le_of_lt (Int.mul_pos (Int.mul_pos hwd pd) (Int.mul_pos hwd' pd')))
    have e1 : P * wd * (d * 10000000) * (wd' * (d' * 10000000)) = P * (wd * (d * 10000000) * (wd' * (d' * 10000000))) := by ac_rfl
    have e2 : P' * wd' * (d' * 10000000) * (wd * (d * 10000000)) = P' * (wd * (d * 10000000) * (wd' * (d' * 10000000))) := by ac_rfl
    omega
  have a1 : n * A * sh * d' ≤ n' * A' * sh' * d := by
    have hA' : A * sh ≤ A' * sh' := Int.mul_le_mul h4 h5 hsh (by omega)
    have := Int.mul_le_mul h2 hA' (Int.mul_nonneg hA hsh) (Int.mul_nonneg hn' (by omega))
    have e1 : n * A * sh * d' = n * d' * (A * sh) := by ac_rfl
    have e2 : n' * A' * sh' * d = n' * d * (A' * sh') := by ac_rfl
    omega
  have a2 : R * rd * d * 100000 * d' ≤ R * rd' * d' * 100000 * d := by
    have := mulR (mulL h6 hR) (c := d * 100000 * d') (Int.mul_nonneg (by omega) (by omega))
    have e1 : R * rd * d * 100000 * d' = R * rd * (d * 100000 * d') := by ac_rfl
    have e2 : R * rd' * d' * 100000 * d = R * rd' * (d * 100000 * d') := by ac_rfl
    omega
  have hin : (n * A * sh + R * rd * d * 100000) * d' ≤ (n' * A' * sh' + R * rd' * d' * 100000) * d := by rw [Int.add_mul, Int.add_mul]; omega
  have pin : 0 ≤ (n * A * sh + R * rd * d * 100000) * d' :=
    Int.mul_nonneg (Int.add_nonneg (Int.mul_nonneg (Int.mul_nonneg hn hA) hsh) (Int.mul_nonneg (Int.mul_nonneg (Int.mul_nonneg hR hrd) (by omega)) (by omega))) (by omega)
  have hcin := Int.mul_le_mul h3 hin pin (by omega : 0 ≤ c')
  have t2 : c * (n * A * sh + R * rd * d * 100000) * wd * (wd' * (d' * 10000000)) ≤ c' * (n' * A' * sh' + R * rd' * d' * 100000) * wd' * (wd * (d * 10000000)) := by
    have := mulR hcin (c := wd * wd' * 10000000) (Int.mul_nonneg (Int.mul_nonneg (by omega) (by omega)) (by omega))
    have e1 : c * (n * A * sh + R * rd * d * 100000) * wd * (wd' * (d' * 10000000)) = c * ((n * A * sh + R * rd * d * 100000) * d') * (wd * wd' * 10000000) := by ac_rfl
    have e2 : c' * (n' * A' * sh' + R * rd' * d' * 100000) * wd' * (wd * (d * 10000000)) = c' * ((n' * A' * sh' + R * rd' * d' * 100000) * d) * (wd * wd' * 10000000) := by ac_rfl
    omega
  rw [Int.add_mul, Int.add_mul, Int.add_mul, Int.add_mul]
  omega

theorem resistance_G (s : Ship) (i : Ice) (ch : Bool) (v : Int) : resistance s i ch v =
    resG (value s.Water v).1 (value s.Water v).2 (value s.Ice i.Thick).1 (value s.Ice i.Thick).2 i.Conc (1000 + s.Slow * v) (if ch = true then s.Brash else 100) s.Ridge (if ch = true then 0 else i.Ridge) (s.Press * i.Press) := rfl

structure LeI (i j : Ice) : Prop where
  conc : i.Conc ≤ j.Conc
  thick : i.Thick ≤ j.Thick
  ridge : i.Ridge ≤ j.Ridge
  press : i.Press ≤ j.Press

theorem LeI.rfl {i : Ice} : LeI i i := ⟨Int.le_refl _, Int.le_refl _, Int.le_refl _, Int.le_refl _⟩

theorem resistance_mono {s : Ship} (hc : check s = 0) {i j : Ice} (hi : goodIce i) (hj : goodIce j) (hij : LeI i j) {u v : Int} (hu : 0 ≤ u) (huv : u ≤ v) (ch : Bool) : resistance s i ch u ≤ resistance s j ch v := by
  rw [resistance_G, resistance_G]
  obtain ⟨hcl, hpo, hsl, hbr, hri, hpr⟩ := check_bd hc
  obtain ⟨i1, i2, i3, i4⟩ := goodIce_bd hi
  obtain ⟨j1, j2, j3, j4⟩ := goodIce_bd hj
  have w1 := value_bd (check_curveWater hc) hu
  have w2 := value_bd (check_curveWater hc) (x := v) (by omega)
  have n1 := value_bd (check_curveIce hc) i2.1
  have n2 := value_bd (check_curveIce hc) j2.1
  have hsu := Int.mul_nonneg hsl.1 hu
  refine resG_mono (by omega) (by omega) (by omega) (by omega) (by omega) (by omega) i1.1 (by omega) (by split <;> omega) hri.1 (by split <;> omega)
    (value_up (check_steadyWater hc) hu huv) (value_up (check_steadyIce hc) i2.1 hij.thick) hij.conc (by have := mulL huv hsl.1; omega) (Int.le_refl _) (by split; exact Int.le_refl _; exact hij.ridge) (mulL hij.press hpr.1)

theorem thrust_mono {s : Ship} (hc : check s = 0) {u v : Int} (hu : 0 ≤ u) (huv : u ≤ v) : thrust s v ≤ thrust s u := by
  have t1 := value_bd (check_curveThrust hc) hu
  have t2 := value_bd (check_curveThrust hc) (x := v) (by omega)
  exact floor_mono (by omega) (by omega) (value_down (check_steadyThrust hc) hu huv)

theorem makes_mono {s : Ship} (hc : check s = 0) {i j : Ice} (hi : goodIce i) (hj : goodIce j) (hij : LeI i j) {u v : Int} (hu : 0 ≤ u) (huv : u ≤ v) {ch : Bool} (h : makes s j ch v = true) : makes s i ch u = true := by
  simp only [makes, Bool.and_eq_true, decide_eq_true_eq] at h ⊢
  have h1 := resistance_mono hc hi hj hij hu huv ch
  have h2 := thrust_mono hc hu huv
  exact ⟨by omega, by omega⟩

theorem load_mono {i j : Ice} (hi : goodIce i) (hj : goodIce j) (hij : LeI i j) {u v : Int} (hu : 0 ≤ u) (huv : u ≤ v) (ch : Bool) : loadI i u ch ≤ loadI j v ch := by
  obtain ⟨i1, i2, i3, i4⟩ := goodIce_bd hi
  obtain ⟨j1, j2, j3, j4⟩ := goodIce_bd hj
  have h1 := Int.mul_le_mul hij.thick (show 100 + u ≤ 100 + v by omega) (by omega) j2.1
  have h2 := Int.mul_nonneg i2.1 (show 0 ≤ 100 + u by omega)
  have a := hij.conc; have b := hij.ridge; have c := hij.press
  unfold loadI
  by_cases e : i.Conc = 0
  · rw [if_pos e]
    by_cases e2 : j.Conc = 0
    · rw [if_pos e2]; exact Int.le_refl _
    · rw [if_neg e2]; cases ch <;> simp only [if_true, if_false, Bool.false_eq_true] <;> omega
  · rw [if_neg e, if_neg (show ¬ j.Conc = 0 by omega)]
    cases ch <;> simp only [if_true, if_false, Bool.false_eq_true] <;> omega

theorem bears_mono {s : Ship} {i j : Ice} (hi : goodIce i) (hj : goodIce j) (hij : LeI i j) {u v : Int} (hu : 0 ≤ u) (huv : u ≤ v) {ch : Bool} (h : bears s j ch v = true) : bears s i ch u = true := by
  simp only [bears, decide_eq_true_eq] at h ⊢
  have := load_mono hi hj hij hu huv ch
  omega

/-! ### The greatest one -/

theorem great_spec {so : Int → Bool} : ∀ (f : Nat) {lo hi : Int}, (hi - lo).toNat ≤ f → lo ≤ hi → so lo = true → (∀ u v, lo ≤ u → u ≤ v → v ≤ hi → so v = true → so u = true) →
    lo ≤ great so lo hi ∧ great so lo hi ≤ hi ∧ so (great so lo hi) = true ∧ ∀ v, great so lo hi < v → v ≤ hi → so v = false := by
  intro f
  induction f with
  | zero =>
    intro lo hi hf hle h1 hd
    rw [great_done (by omega)]
    exact ⟨Int.le_refl _, hle, h1, fun v h2 h3 => absurd h3 (by omega)⟩
  | succ f ih =>
    intro lo hi hf hle h1 hd
    by_cases h : lo < hi
    · rw [great_step h]
      by_cases hm : so (lo + (hi - lo + 1) / 2) = true
      · rw [if_pos hm]
        obtain ⟨a, b, c, d⟩ := ih (lo := lo + (hi - lo + 1) / 2) (hi := hi) (by omega) (by omega) hm (fun u v h2 h3 h4 h5 => hd u v (by omega) h3 h4 h5)
        exact ⟨by omega, b, c, d⟩
      · rw [if_neg hm]
        obtain ⟨a, b, c, d⟩ := ih (lo := lo) (hi := lo + (hi - lo + 1) / 2 - 1) (by omega) (by omega) h1 (fun u v h2 h3 h4 h5 => hd u v h2 h3 (by omega) h5)
        refine ⟨a, by omega, c, fun v h2 h3 => ?_⟩
        by_cases h4 : v ≤ lo + (hi - lo + 1) / 2 - 1
        · exact d v h2 h4
        · cases hv : so v with
          | false => rfl
          | true => exact absurd (hd (lo + (hi - lo + 1) / 2) v (by omega) (by omega) h3 hv) hm
    · rw [great_done h]
      exact ⟨Int.le_refl _, hle, h1, fun v h2 h3 => absurd h3 (by omega)⟩

/-- What is known of the greatest one for what goes down. -/
theorem great_is {so : Int → Bool} {lo hi : Int} (hle : lo ≤ hi) (h1 : so lo = true) (hd : ∀ u v, lo ≤ u → u ≤ v → v ≤ hi → so v = true → so u = true) :
    lo ≤ great so lo hi ∧ great so lo hi ≤ hi ∧ ∀ v, lo ≤ v → v ≤ hi → (so v = true ↔ v ≤ great so lo hi) := by
  obtain ⟨a, b, c, d⟩ := great_spec _ (Nat.le_refl _) hle h1 hd
  refine ⟨a, b, fun v h2 h3 => ⟨fun h => ?_, fun h => hd v _ h2 h b c⟩⟩
  rcases Int.lt_or_le (great so lo hi) v with h4 | h4
  · rw [d v h4 h3] at h; cases h
  · exact h4

theorem great_le {so so' : Int → Bool} {lo hi : Int} (hle : lo ≤ hi) (h1 : so lo = true) (hd : ∀ u v, lo ≤ u → u ≤ v → v ≤ hi → so v = true → so u = true) (hd' : ∀ u v, lo ≤ u → u ≤ v → v ≤ hi → so' v = true → so' u = true)
    (h : ∀ v, lo ≤ v → v ≤ hi → so v = true → so' v = true) : great so lo hi ≤ great so' lo hi := by
  obtain ⟨a, b, c⟩ := great_is hle h1 hd
  obtain ⟨a', b', c'⟩ := great_is hle (h lo (Int.le_refl _) hle h1) hd'
  exact (c' _ a b).1 (h _ a b ((c _ a b).2 (Int.le_refl _)))

end Hull

/- Plain laws of the hull layer: legs and waits. -/
namespace Hull

def goesP (s : Ship) (i : Ice) (ch : Bool) (v : Int) : Bool := makes s i ch v && bears s i ch v

theorem goesP_mono {s : Ship} (hc : check s = 0) {i j : Ice} (hi : goodIce i) (hj : goodIce j) (hij : LeI i j) {u v : Int} (hu : 0 ≤ u) (huv : u ≤ v) {ch : Bool} (h : goesP s j ch v = true) : goesP s i ch u = true := by
  simp only [goesP, Bool.and_eq_true] at h ⊢
  exact ⟨makes_mono hc hi hj hij hu huv h.1, bears_mono hi hj hij hu huv h.2⟩

theorem goes_eq (s : Ship) (i : Ice) (ch : Bool) : goes s i ch = if goesP s i ch 10 = true then (great (goesP s i ch) 10 250, true) else (0, false) := rfl

theorem goes_down {s : Ship} (hc : check s = 0) {i : Ice} (hi : goodIce i) (ch : Bool) : ∀ u v, (10 : Int) ≤ u → u ≤ v → v ≤ 250 → goesP s i ch v = true → goesP s i ch u = true :=
  fun u v h1 h2 _ h => goesP_mono hc hi hi .rfl (by omega) h2 h

theorem goes_ok {s : Ship} {i : Ice} {ch : Bool} : (goes s i ch).2 = goesP s i ch 10 := by
  rw [goes_eq]
  cases h : goesP s i ch 10 <;> simp

theorem goes_bd {s : Ship} (hc : check s = 0) {i : Ice} (hi : goodIce i) {ch : Bool} (h : (goes s i ch).2 = true) : 10 ≤ (goes s i ch).1 ∧ (goes s i ch).1 ≤ 250 := by
  rw [goes_ok] at h
  rw [goes_eq, if_pos h]
  have := great_is (by decide) h (goes_down hc hi ch)
  exact ⟨this.1, this.2.1⟩

theorem first_le_last {c : Cell} (h : goodCell c) : LeI (firstI c) (lastI c) := ⟨h.1.2.1, h.2.1.2.1, h.2.2.1.2.1, h.2.2.2.2.1⟩

theorem safe_goes {s : Ship} (hc : check s = 0) {c : Cell} (hg : goodCell c) {ch : Bool} (h : (safe s c ch).2 = 0) :
    (safe s c ch).1 = (goes s (lastI c) ch).1 ∧ (10 ≤ (safe s c ch).1 ∧ (safe s c ch).1 ≤ 250) ∧ (10 ≤ (goes s (firstI c) ch).1 ∧ (goes s (firstI c) ch).1 ≤ 250) := by
  have hl := goodCell_last hg
  have hf := goodCell_first hg
  unfold safe at h ⊢
  by_cases h1 : speed s (lastI c) ch < 10
  · rw [if_pos h1] at h; cases h
  · rw [if_neg h1] at h ⊢
    cases h2 : (goes s (lastI c) ch).2 with
    | false => rw [h2, if_pos rfl] at h; cases h
    | true =>
      rw [if_neg (by simp)]
      refine ⟨rfl, goes_bd hc hl h2, goes_bd hc hf ?_⟩
      rw [goes_ok] at h2 ⊢
      exact goesP_mono hc hf hl (first_le_last hg) (by decide) (Int.le_refl _) h2

def prt (l : List Part) (i : Int) : Part := l.getD i.toNat default
def sp (l : List Span) (i : Int) : Span := l.getD i.toNat ⟨0, 0⟩

theorem drop_getD {α : Type} {l : List α} {k : Nat} (d : α) (h : k < l.length) : l.drop k = l.getD k d :: l.drop (k + 1) := by
  rw [List.drop_eq_getElem_cons h]
  simp [List.getD, h]

theorem drop_prt {l : List Part} {k : Nat} (h : k < l.length) : l.drop k = prt l (k : Int) :: l.drop (k + 1) := by
  simpa [prt] using drop_getD default h
theorem drop_sp {l : List Span} {k : Nat} (h : k < l.length) : l.drop k = sp l (k : Int) :: l.drop (k + 1) := by
  simpa [sp] using drop_getD ⟨0, 0⟩ h

def partErr (p : Part) : Int := if within p.Length 1 10000 = false then 6 else checkCell p.Cell

def partsErr : List Part → Int
  | [] => 0
  | p :: r => if partErr p ≠ 0 then partErr p else partsErr r

def goodPart (p : Part) : Prop := (1 ≤ p.Length ∧ p.Length ≤ 10000) ∧ goodCell p.Cell

theorem partErr_ok {p : Part} : partErr p = 0 ↔ goodPart p := by
  unfold partErr goodPart
  cases h : within p.Length 1 10000 with
  | false => have := within_f h; simp only [if_true]; exact ⟨fun h => (by cases h), fun h => absurd h.1 this⟩
  | true =>
    have := within_t h
    simp only [Bool.true_eq_false, if_false]
    rw [checkCell_ok]
    exact ⟨fun h => ⟨this, h⟩, fun h => h.2⟩

def legFrom (s : Ship) : List Part → Int → List Int → Int → Int → List Int × Span × Int
  | [], _, v, lo, hi => (v, ⟨lo, hi⟩, 0)
  | p :: r, i, v, lo, hi =>
    if (safe s p.Cell p.Channel).2 ≠ 0 then ([], ⟨i, 0⟩, (safe s p.Cell p.Channel).2)
    else legFrom s r (i + 1) (v ++ [(safe s p.Cell p.Channel).1]) (lo + takes p (goes s (firstI p.Cell) p.Channel).1) (hi + takes p (safe s p.Cell p.Channel).1)

def leg (s : Ship) (l : List Part) : List Int × Span × Int :=
  if check s ≠ 0 then ([], ⟨0, 0⟩, check s) else if within (l.length : Int) 1 100 = false then ([], ⟨0, 0⟩, 2) else if partsErr l ≠ 0 then ([], ⟨0, 0⟩, partsErr l) else legFrom s l 0 [] 0 0

theorem takes_bd {p : Part} (hp : 1 ≤ p.Length ∧ p.Length ≤ 10000) {v : Int} (hv : 10 ≤ v ∧ v ≤ 250) : 0 ≤ takes p v ∧ takes p v ≤ 60025 := by
  unfold takes
  constructor
  · exact Int.ediv_nonneg (by omega) (by omega)
  · have : (60 * p.Length + v - 1) / v < 60026 := Int.ediv_lt_of_lt_mul (by omega) (by omega)
    omega

def pressOK (p : Span) : Bool := !(decide (p.Lo < 0) || decide (p.Hi > 3) || decide (p.Lo > p.Hi))

def freeFrom (s : Ship) (c : Cell) : List Span → Int → Int → Span × Int
  | [], _, _ => (⟨0, 0⟩, 4)
  | p :: r, h, lo =>
    if speed s (lastI ⟨c.Conc, c.Thick, c.Ridge, p⟩) false ≥ 10 then (⟨if (decide (lo < 0) && decide (speed s (firstI ⟨c.Conc, c.Thick, c.Ridge, p⟩) false ≥ 10)) = true then h else lo, h⟩, 0)
    else freeFrom s c r (h + 1) (if (decide (lo < 0) && decide (speed s (firstI ⟨c.Conc, c.Thick, c.Ridge, p⟩) false ≥ 10)) = true then h else lo)

def free (s : Ship) (c : Cell) (l : List Span) : Span × Int :=
  if met s c ≠ 0 then (⟨0, 0⟩, met s c) else if (l.length : Int) > 240 then (⟨0, 0⟩, 2) else if l.all pressOK = false then (⟨0, 0⟩, 6) else freeFrom s c l 0 (-1)

theorem all_sp_no {l : List Span} {f : Span → Bool} {k : Nat} (hk : k < l.length) (h : f (sp l (k : Int)) = false) : l.all f = false := by
  cases e : l.all f with
  | false => rfl
  | true =>
    have := List.all_eq_true.1 e l[k] (List.getElem_mem hk)
    rw [show sp l (k : Int) = l[k] by simp [sp, List.getD, hk]] at h
    rw [h] at this; cases this

theorem all_sp {l : List Span} {f : Span → Bool} {k : Nat} (hk : l.length ≤ k) (h : ∀ j < k, f (sp l (j : Int)) = true) : l.all f = true := by
  rw [List.all_eq_true]
  intro x hx
  obtain ⟨j, hj, rfl⟩ := List.getElem_of_mem hx
  have := h j (by omega)
  rwa [show sp l (j : Int) = l[j] by simp [sp, List.getD, hj]] at this

theorem pressOK_good {c : Cell} (hg : goodCell c) {p : Span} (h : pressOK p = true) : goodCell ⟨c.Conc, c.Thick, c.Ridge, p⟩ := by
  simp only [pressOK, Bool.not_eq_true', Bool.or_eq_false_iff, decide_eq_false_iff_not] at h
  exact ⟨hg.1, hg.2.1, hg.2.2.1, by unfold goodSpan; simp only []; omega⟩


def level (lo hi : Int) : Cell := ⟨⟨100, 100⟩, ⟨lo, hi⟩, ⟨0, 0⟩, ⟨0, 0⟩⟩

def exampleShip : Ship := ⟨3, 6000, 800, 9000, [⟨0, 1000⟩, ⟨100, 800⟩, ⟨200, 0⟩], [⟨0, 0⟩, ⟨200, 400⟩], [⟨0, 0⟩, ⟨400, 2000⟩], 0, 20, 10, 100⟩

theorem eqInts_no1 {a b : List Int} (h : (a.length : Int) ≠ b.length) : decide (a = b) = false := by
  rw [decide_eq_false_iff_not]; intro e; subst e; exact h rfl

theorem eqInts_no2 {a b : List Int} {i : Nat} (h : a.getD i 0 ≠ b.getD i 0) : decide (a = b) = false := by
  rw [decide_eq_false_iff_not]; intro e; subst e; exact h rfl

theorem eqInts_yes {a b : List Int} {k : Nat} (hl : (a.length : Int) = b.length) (hk : a.length ≤ k) (h : ∀ j < k, a.getD ((j : Int)).toNat 0 = b.getD ((j : Int)).toNat 0) : decide (a = b) = true := by
  rw [decide_eq_true_eq]
  refine List.ext_getElem (by omega) fun i h1 h2 => ?_
  have := h i (by omega)
  simpa [List.getD, h1, h2] using this

/-- One number drawn: what is drawn, and how many have been drawn then. -/
def draw (l : List Int) (i n : Int) : Int × Int := if i ≥ (l.length : Int) then (0, i) else (l.getD (i + 1 - 1).toNat 0 % n, i + 1)

theorem draw_end {l : List Int} {i n : Int} (h : i ≥ (l.length : Int)) : draw l i n = (0, i) := by rw [draw, if_pos h]
theorem draw_go {l : List Int} {i n : Int} (h : ¬ i ≥ (l.length : Int)) : draw l i n = (l.getD (i + 1 - 1).toNat 0 % n, i + 1) := by rw [draw, if_neg h]

theorem getD_mem {l : List Int} {i : Nat} (h : i < l.length) : l.getD i 0 ∈ l := by
  simp [List.getD, h]

/-- Where the drawing stands after k numbers, and the k-th number drawn below n. -/
def idx (l : List Int) (k : Nat) : Int := ((min k l.length : Nat) : Int)
def dv (l : List Int) (k : Nat) (n : Int) : Int := if k < l.length then l.getD k 0 % n else 0

theorem draw_idx (l : List Int) (k : Nat) (n : Int) : draw l (idx l k) n = (dv l k n, idx l (k + 1)) := by
  unfold idx dv
  by_cases h : k < l.length
  · rw [draw_go (by omega), if_pos h, show (((min k l.length : Nat) : Int) + 1 - 1).toNat = k by omega, show (((min (k + 1) l.length : Nat)) : Int) = ((min k l.length : Nat) : Int) + 1 by omega]
  · rw [draw_end (by omega), if_neg h, show (((min (k + 1) l.length : Nat)) : Int) = ((min k l.length : Nat) : Int) by omega]

theorem idx_bd (l : List Int) (k : Nat) : 0 ≤ idx l k ∧ idx l k ≤ (l.length : Int) := by unfold idx; omega

theorem dv_bd {l : List Int} {k : Nat} {n : Int} (h8 : ∀ x ∈ l, 0 ≤ x ∧ x ≤ 255) (hn : 1 ≤ n) : 0 ≤ dv l k n ∧ dv l k n ≤ n - 1 ∧ dv l k n ≤ 255 := by
  unfold dv
  by_cases h : k < l.length
  · rw [if_pos h]
    have h1 := h8 _ (getD_mem h)
    have h2 := Int.emod_nonneg (l.getD k 0) (b := n) (by omega)
    have h3 := Int.emod_lt_of_pos (l.getD k 0) (b := n) (by omega)
    have h4 : l.getD k 0 % n ≤ l.getD k 0 := by
      by_cases h5 : l.getD k 0 < n
      · rw [Int.emod_eq_of_lt h1.1 h5]; exact Int.le_refl _
      · omega
    omega
  · rw [if_neg h]; omega
end Hull

/- The frame of this seat's laws: what the laid variable reads as; the start that is shown. -/
namespace Go.Proofs.YtgpcfckbcldokaaDoor
open Go Go.AX Go.ChangeShapes Go.WideShapes Go.ChangeAt Go.RowKit Hull

theorem own : ownKnob Tryd.prog.godebug = none := by kernel_rfl
theorem gStr : Tryd.prog.globalNamed "polynya/hull.strengths" = some 0 := by kernel_rfl
theorem tStr : ∃ t e, (Tryd.prog.globals[0]?).map (·.type) = some t ∧ Tryd.prog.underlying t = some (.array 6 e) ∧ Tryd.prog.underlying e = some (.int .i64) ∧ Tryd.prog.cellsOf e = 1 ∧ Tryd.prog.cellsOf t = 6 :=
  ⟨203, 3, by kernel_rfl, by kernel_rfl, by kernel_rfl, by kernel_rfl, by kernel_rfl⟩

abbrev laid1 : List (String × DataW Unit) := [("polynya/hull.strengths", Rows.laid_polynya_hull_strengths)]

theorem door_met (os : Os) (args : Array Value) : laidMetH Tryd.prog laid1 ((World.doorLaid Tryd.prog 400 os).forCall (fun _ _ => 0) ⟨#[], args, []⟩).memory :=
  laidMetH_of_parts3 (fuel := 8) (laidMet_of_run' 8 (by kernel_rfl) (by kernel_rfl)) (by kernel_rfl) (by kernel_rfl)

/-- What the condition gives the walks: the table of strengths. -/
theorem of_laid {W : World} (h : laidMetH Tryd.prog laid1 W) : BoxAt W 0 (strengths.map (fun n => Value.int .i64 n)) := by
  rw [MakeChecks.laidMetH_plain _ _ _ (by kernel_rfl)] at h
  obtain ⟨ps, ⟨g0, t0, cs0, f0, p0, q0, hg0, ht0, hv0, hd0, _, _⟩, _, _⟩ := h
  obtain rfl := Option.some.inj (gStr.symm.trans hg0)
  obtain ⟨t, e, h1, h2, h3, h4, h5⟩ := tStr
  obtain rfl := Option.some.inj (h1.symm.trans ht0)
  obtain ⟨xs, m1, rfl, hx, hlen, hn, hel⟩ := DataW.trod_array h2 hd0
  rw [h5] at hlen
  have cell : ∀ i, W.cell? ⟨0, i, none⟩ = cs0[i]? := World.var?_cell hg0 hv0
  have one : ∀ i, i < 6 → ∃ n, cs0.toList[i]? = some (.int .i64 n) ∧ xs[i]? = some (.lit (.int .i64 n), []) := by
    intro i hi
    have h6 := hel i hi
    rw [h4] at h6
    have hxi : xs[i]? = some xs[i] := List.getElem?_eq_getElem (by omega)
    rw [hxi] at h6
    obtain ⟨n, e1, e2, _⟩ := DataW.trod_int h3 h6
    refine ⟨n, ?_, by rw [hxi, e2]⟩
    have : (cs0.toList.drop (i * 1)).take 1 = [Value.int .i64 n] := e1
    rw [Nat.mul_one] at this
    have h7 : ((cs0.toList.drop i).take 1)[0]? = some (.int .i64 n) := by rw [this]; rfl
    simpa [List.getElem?_take, List.getElem?_drop] using h7
  have val : ∀ i n, xs[i]? = some (.lit (.int .i64 n), []) → i < 6 → strengths[i]? = some n := by
    intro i n hi hlt
    simp only [Prod.mk.injEq, Rows.laid_polynya_hull_strengths] at hx
    have hm : (xs.map (·.1))[i]? = some (.lit (.int .i64 n)) := by simp [hi]
    have he : (xs.map (·.1)) = [.lit (.int .i64 4000), .lit (.int .i64 8000), .lit (.int .i64 14000), .lit (.int .i64 24000), .lit (.int .i64 40000), .lit (.int .i64 90000)] := by
      have := hx.1
      simp only [DataW.agg.injEq] at this
      exact this.symm
    rw [he] at hm
    unfold strengths
    match i, hlt with
    | 0, _ => simp_all
    | 1, _ => simp_all
    | 2, _ => simp_all
    | 3, _ => simp_all
    | 4, _ => simp_all
    | 5, _ => simp_all
  constructor
  · obtain ⟨n, e1, _⟩ := one 0 (by omega)
    have := cell 0
    rw [show cs0[0]? = some (.int .i64 n) by simpa using e1] at this
    rcases Nat.lt_or_ge 0 W.heap.size with h9 | h9
    · exact h9
    · simp [World.cell?, Array.getElem?_eq_none h9] at this
  · intro j v hj
    have hlt : j < 6 := by
      have := (List.getElem?_eq_some_iff.1 hj).1
      simpa [strengths] using this
    obtain ⟨n, e1, e2⟩ := one j hlt
    have h8 := val j n e2 hlt
    rw [List.getElem?_map, h8] at hj
    cases hj
    rw [cell j]
    simpa using e1
end Go.Proofs.YtgpcfckbcldokaaDoor

/-
  The core, further operations: equality of structs and Booleans; rows of one's own that are written.
-/
namespace Go.AX
open Go Go.RowKit

def partP (P : Program) (t : TypeId) (cs : Array Value) (off : Nat) : Option Value :=
  match P.underlying t with
  | some (.struct _) => (P.info? t).map fun i => .agg (cs.extract off (off + i.size))
  | some (.array _ _) => (P.info? t).map fun i => .agg (cs.extract off (off + i.size))
  | some _ => cs[off]?
  | none => none

def eqFs (P : Program) (rec : TypeId → Value → Value → Option Bool) (xs ys : Array Value) : List Field → Option Bool
  | [] => some true
  | f :: fs =>
    if f.name = "_" then none else
    match partP P f.type xs f.offset, partP P f.type ys f.offset with
    | some a, some b => match rec f.type a b, eqFs P rec xs ys fs with
      | some r, some r' => some (r && r')
      | _, _ => none
    | _, _ => none

def eqB (P : Program) : Nat → TypeId → Value → Value → Option Bool
  | 0, _, _, _ => none
  | d + 1, t, x, y =>
    match P.underlying t with
    | some .bool => match x, y with
      | .bool a, .bool b => some (a == b)
      | _, _ => none
    | some (.int _) => match x, y with
      | .int k a, .int k' b => if k = k' then some (a == b) else none
      | _, _ => none
    | some (.struct fs) => match x, y with
      | .agg xs, .agg ys => if P.stoodInHeld t = false then eqFs P (eqB P d) xs ys fs.toList else none
      | _, _ => none
    | _ => none

section
variable {cx : Cx} {s g : Map} {m : Nat → Nat} {a : Act} {w : World}
variable {d : Nat} {type : TypeId} {pos : String} {after : Array Edge} {guard : Option (Nat × Bool)}

/-- A cell of a row of one's own, written. -/
theorem Rel.setRow {L C o ty k : Nat} {cs : List Value} {v : Value} (h : Rel cx m g a w) (hr : g (.r L) = some (.vec true C ty k cs)) (ho : o < cs.length) :
    Rel cx m (upd [(.r L, some (.vec true C ty k (cs.set o v)))] g) a (w.setCell ⟨m L, o, none⟩ v) := by
  have hv := h.vec L true C ty k cs hr
  obtain ⟨hc, cur, hh, hsz, hcur⟩ : m C ≠ 0 ∧ ∃ cur : Array Value, w.heap[m L]? = some (.cells cur ty (0, 0)) ∧ cur.size = m C * k ∧ ∀ (i : Nat) (v : Value), cs[i]? = some v → cur[i]? = some v := by
    rcases hv with ⟨_, e⟩ | hv
    · subst e; simp at ho
    · exact hv
  have hlt : o < cur.size := by
    have := hcur o cs[o] (List.getElem?_eq_getElem ho)
    exact (Array.getElem?_eq_some_iff.1 this).1
  have hnb : ∀ {l ty' n}, g (.b l) = some (.sh ty' n) → m l ≠ m L := fun {l ty' n} hl => (h.sep L true C ty k cs l ty' n hr hl hc).symm
  have keep : ∀ {b : Nat}, b ≠ m L → (w.setCell ⟨m L, o, none⟩ v).heap[b]? = w.heap[b]? := fun {b} hb => Below.heap_setCell _ _ _ _ hb
  refine ⟨h.size, h.defers.step (fun k o h1 h2 => (keep fun e => by subst e; rw [hh] at h1; cases h1; simp [Obj.isCells] at h2).trans h1), fun i y hy => ?_, fun i b y hy => ?_, fun L' ty' n' hL => ?_, fun L' o' y hy => ?_, fun L' o' y hy => ?_, fun L1 L2 ty1 n1 ty2 n2 h1 h2 => ?_, fun L1 own C1 ty1 k1 cs1 hx => ?_, fun L1 own C1 ty1 k1 cs1 L' ty' n' hx hy hc1 => ?_,
    fun L1 C1 ty1 k1 cs1 L' own' C' ty' k' cs' hx hy hne hc1 hc' => ?_, fun L1 C1 ty1 k1 cs1 hx hc1 => ?_, h.held.setCell (p := ⟨m L, o, none⟩) (h.ownR L C ty k cs hr hc) _, by simpa [World.setCell] using h.top,
    fun L b hb => by obtain ⟨h1, ty, n, h2⟩ := h.fix L b hb; exact ⟨h1, ty, n, by rw [upd_one, if_neg (by simp)]; exact h2⟩, fun l i x hx => by rw [upd_one, if_neg (by simp)] at hx; exact h.us l i x hx, fun k o hk => ko_set h.ko hh hk⟩
  · rw [upd_one, if_neg (by simp)] at hy; exact h.tm i y hy
  · rw [upd_one, if_neg (by simp)] at hy; exact h.tmc i b y hy
  · rw [upd_one, if_neg (by simp)] at hL
    obtain ⟨h1, cs', h2, h3⟩ := h.blk L' ty' n' hL
    exact ⟨h1, cs', h2, by rw [keep (hnb hL)]; exact h3⟩
  · rw [upd_one, if_neg (by simp)] at hy
    obtain ⟨ty', n', hL'⟩ := h.own L' o' y hy
    have := h.cell L' o' y hy
    simp only [World.cell?] at this ⊢
    rw [keep (hnb hL')]; exact this
  · rw [upd_one, if_neg (by simp)] at hy
    obtain ⟨ty', n', hL'⟩ := h.own L' o' y hy
    exact ⟨ty', n', by rw [upd_one, if_neg (by simp)]; exact hL'⟩
  · rw [upd_one, if_neg (by simp)] at h1 h2; exact h.inj L1 L2 ty1 n1 ty2 n2 h1 h2
  · rw [upd_one] at hx
    by_cases e : Key.r L = Key.r L1
    · rw [if_pos e] at hx
      cases e
      simp only [Option.some.injEq, Val.vec.injEq] at hx
      obtain ⟨rfl, rfl, rfl, rfl, rfl⟩ := hx
      refine .inr ⟨hc, cur.setIfInBounds o v, ?_, by simpa using hsz, fun i u hi => ?_⟩
      · simp only [World.setCell, Array.getElem?_modify, hh]
        simp
      · rw [Array.getElem?_setIfInBounds]
        rw [List.getElem?_set] at hi
        by_cases e : o = i
        · subst e
          simp only [if_true] at hi ⊢
          rw [if_pos hlt]
          simpa [ho] using hi
        · rw [if_neg e] at hi ⊢
          exact hcur i u hi
    · rw [if_neg e] at hx
      have h1 := h.vec L1 own C1 ty1 k1 cs1 hx
      exact h1.same fun hc1 => keep fun e1 => h.sepR L C ty k cs L1 own C1 ty1 k1 cs1 hr hx (fun e2 => e (by rw [e2])) hc hc1 e1.symm
  · rw [upd_one, if_neg (by simp)] at hy
    rw [upd_one] at hx
    by_cases e : Key.r L = Key.r L1
    · rw [if_pos e] at hx
      cases e
      simp only [Option.some.injEq, Val.vec.injEq] at hx
      obtain ⟨rfl, rfl, rfl, rfl, rfl⟩ := hx
      exact (hnb hy).symm
    · rw [if_neg e] at hx
      exact h.sep L1 own C1 ty1 k1 cs1 L' ty' n' hx hy hc1
  · rw [upd_one] at hx hy
    by_cases e : Key.r L = Key.r L1
    · rw [if_pos e] at hx
      cases e
      simp only [Option.some.injEq, Val.vec.injEq] at hx
      obtain ⟨_, rfl, rfl, rfl, rfl⟩ := hx
      rw [if_neg (by simpa using hne)] at hy
      exact h.sepR L C ty k cs L' own' C' ty' k' cs' hr hy hne hc hc'
    · rw [if_neg e] at hx
      by_cases e2 : Key.r L = Key.r L'
      · rw [if_pos e2] at hy
        cases e2
        simp only [Option.some.injEq, Val.vec.injEq] at hy
        obtain ⟨rfl, rfl, rfl, rfl, rfl⟩ := hy
        exact h.sepR L1 C1 ty1 k1 cs1 L true C ty k cs hx hr hne hc1 hc
      · rw [if_neg e2] at hy
        exact h.sepR L1 C1 ty1 k1 cs1 L' own' C' ty' k' cs' hx hy hne hc1 hc'
  · rw [upd_one] at hx
    by_cases e : Key.r L = Key.r L1
    · rw [if_pos e] at hx
      cases e
      simp only [Option.some.injEq, Val.vec.injEq] at hx
      obtain ⟨_, rfl, rfl, rfl, rfl⟩ := hx
      exact h.ownR L C ty k cs hr hc
    · rw [if_neg e] at hx; exact h.ownR L1 C1 ty1 k1 cs1 hx hc1


theorem op_storeR1 {ty L C o' ety k : Nat} {x y : Operand} {v : Value} {cs : List Value} (hsz : sizeIn cx.P ty = some 1) (hx : Ev s x (.p L o')) (hy : Ev s y (.v v)) (hv : oneC v = true) (hr0 : s (.r L) = some (.vec true C ety k cs)) (ho : o' < cs.length) :
    OpRun cx ⟨none, .store ty x y, type, pos, after, guard⟩ s ⟨.r L :: (okeys x ++ okeys y), [(.r L, some (.vec true C ety k (cs.set o' v)))], []⟩ := by
  intro m a w g hr hf hrel K Q hK
  have h1 := hx.eval hrel (fun k hk => hr k (reads_mem (by simp [hk])))
  have h2 := hy.eval hrel (fun k hk => hr k (reads_mem (by simp [hk])))
  have h3 : g (.r L) = some (.vec true C ety k cs) := by rw [hr _ (reads_mem (by simp))]; exact hr0
  have hu := (hrel.vec L true C ety k cs h3).get (List.getElem?_eq_getElem ho)
  have hfz : w.frozen? ⟨m L, o', none⟩ = false := by
    rcases hrel.vec L true C ety k cs h3 with ⟨_, e⟩ | ⟨_, cur, hh, _⟩
    · subst e; simp at ho
    · simp [World.frozen?, hh]
  obtain ⟨hcells, hone⟩ := SV.one_den (m := m) (x := .v v) hv
  simp only [den] at hcells hone
  refine ⟨fun _ _ => trivial, ?_⟩
  rw [semAt_of _ _ (by simp)]
  have hrun : (execOp a.eval ⟨none, .store ty x y, type, pos, after, guard⟩).run cx.P w = .ok .skip (w.setCell ⟨m L, o', none⟩ v) := by
    unfold sizeIn at hsz
    cases hi : cx.P.info? ty with
    | none => rw [hi] at hsz; cases hsz
    | some inf =>
      rw [hi] at hsz
      simp only [Option.map_some, Option.some.injEq] at hsz
      have hst := run_store (P := cx.P) hu hfz hone
      have ha : (⟨m L, o', none⟩ : Addr).add 0 = ⟨m L, o', none⟩ := by simp [Addr.add]
      simp [execOp, h1, h2, den, Instr.storeAt, Instr.sureAddr, storeVar, sizeOf, typeInfo, hi, hsz, hcells, storeCells, ha, hst]
  rw [hrun]
  exact hK m a _ (hrel.setRow h3 ho)

/-- Some cells in a row, one after the other. -/
def setN (cs : List Value) : Nat → List Value → List Value
  | _, [] => cs
  | o, v :: vs => setN (cs.set o v) (o + 1) vs

section
variable {α : Type} {enc : α → List Value}

theorem setN_append (l1 l2 : List Value) : ∀ (vs : List Value) (o : Nat), setN (l1 ++ l2) (l1.length + o) vs = l1 ++ setN l2 o vs := by
  intro vs
  induction vs generalizing l2 with
  | nil => intro o; rfl
  | cons v vs ih =>
    intro o
    simp only [setN]
    rw [List.set_append_right _ _ (by omega), show l1.length + o - l1.length = o by omega, show l1.length + o + 1 = l1.length + (o + 1) by omega, ih]

theorem setN_left (l1 l2 : List Value) : ∀ (vs : List Value) (o : Nat), o + vs.length ≤ l1.length → setN (l1 ++ l2) o vs = setN l1 o vs ++ l2 := by
  intro vs
  induction vs generalizing l1 with
  | nil => intro o _; rfl
  | cons v vs ih =>
    intro o h
    simp only [List.length_cons] at h
    simp only [setN]
    rw [List.set_append_left _ _ (by omega), ih _ _ (by simp; omega)]

/-- Some cells of one element of a list, written. -/
theorem flat_setN {k : Nat} (hk : ∀ x, (enc x).length = k) {l : List α} {i : Nat} (hi : i < l.length) {j : Nat} {vs : List Value} (hj : j + vs.length ≤ k) {x : α} (hx : enc x = setN (enc (l[i])) j vs) :
    setN (l.flatMap enc) (i * k + j) vs = (l.set i x).flatMap enc := by
  induction l generalizing i with
  | nil => simp at hi
  | cons y l ih =>
    cases i with
    | zero =>
      simp only [List.flatMap_cons, List.set_cons_zero, Nat.zero_mul, Nat.zero_add, List.getElem_cons_zero] at hx ⊢
      rw [setN_left _ _ _ _ (by rw [hk]; exact hj), hx]
    | succ i =>
      simp only [List.flatMap_cons, List.set_cons_succ, List.getElem_cons_succ] at hx ⊢
      rw [← ih (by simpa using hi) hx]
      have : (i + 1) * k + j = (enc y).length + (i * k + j) := by rw [hk, Nat.succ_mul]; omega
      rw [this, setN_append]
end

/-- A slice of the parameters' against nil. -/
theorem op_eqNil {ty ty' : TypeId} {x : Operand} {p : Option Addr} {n c : Nat} (hN : d < cx.N) (hx : Ev s x (.v (.slice p n c))) (hu : ∃ e, cx.P.underlying ty = some (.slice e)) :
    OpRun cx ⟨some d, .binOp .eql ty x (.const (.slice none 0 0)) ty', type, pos, after, guard⟩ s ⟨okeys x ++ okeys (.const (.slice none 0 0)), [(.t d, some (.x (.v (.bool p.isNone))))], []⟩ :=
  op_eqv (u := .v (.slice none 0 0)) hN hx rfl fun m w => by
    obtain ⟨e, hu⟩ := hu
    have h1 := run_equal_slice_nil (P := cx.P) w ty e p n c hu
    simp [den, eqGuard, binOp, h1]

theorem slIs_none {α : Type} {enc : α → List Value} {k : Nat} {n c : Nat} {l : List α} (h : SlIs enc k w ⟨none, n, c⟩ l) : l = [] := by
  cases l with
  | nil => rfl
  | cons x xs => obtain ⟨b, o, h1, _⟩ := h.2.2 (by simp); cases h1

/-- A slice that lay there, appended to a row of one's own. -/
theorem op_appendS {α : Type} {enc : α → List Value} {t e k bytes L C n L' C' q c2 : Nat} {p : Option Addr} {x y : Operand} {cs : List Value} {l : List α} (hN : d < cx.N) (hf : appFact cx.P t = some (e, k, bytes)) (hx : Ev s x (.o L C n)) (hr : s (.r L) = some (.vec true C e k cs)) (hcs : cs.length = n * k)
    (hy : Ev s y (.v (.slice p q c2))) (hl : ∀ (m : Nat → Nat) (a : Act) (w : World) (g : Map), Rel cx m g a w → SlIs enc k w ⟨p, q, c2⟩ l) (hk : ∀ x, (enc x).length = k) (h1 : ∀ x, (enc x).all oneC = true) (hb : (n + q) * bytes ≤ 140737488355328) (h63 : n + q ≤ 1000000000) (hne : L' ≠ C') :
    OpRun cx ⟨some d, .call ⟨.builtin .append, #[x, y], #[t, t]⟩, type, pos, after, guard⟩ s
      ⟨.r L :: (okeys x ++ okeys y), [(.t d, some (.x (.o L' C' (n + q)))), (.r L', some (.vec true C' e k (cs ++ l.flatMap enc))), (.r L, none)], [L', C']⟩ := by
  intro m a w g hrd hfr hrel K Q hK
  have e1 := hx.eval hrel (fun k hk => hrd k (reads_mem (by simp [hk])))
  have e2 := hy.eval hrel (fun k hk => hrd k (reads_mem (by simp [hk])))
  have e3 : g (.r L) = some (.vec true C e k cs) := by rw [hrd _ (reads_mem (by simp))]; exact hr
  have hs := hl m a w g hrel
  have hq : q = l.length := hs.1
  by_cases hq0 : q = 0
  · -- nothing is appended
    have hl0 : l = [] := List.length_eq_zero_iff.1 (by omega)
    subst hl0
    have hvec := hrel.vec L true C e k cs e3
    have hrun : (execOp a.eval ⟨some d, .call ⟨.builtin .append, #[x, y], #[t, t]⟩, type, pos, after, guard⟩).run cx.P w = .ok (.value (.slice (ptr0 (m L) (m C)) n (m C))) w := by
      unfold appFact at hf
      split at hf
      · rename_i e' ht
        split at hf
        · rename_i i hi
          split at hf
          · rename_i z hz
            split at hf
            · rename_i hsz
              simp only [Option.some.injEq, Prod.mk.injEq] at hf
              obtain ⟨rfl, rfl, rfl⟩ := hf
              have hnc : n ≤ m C := by
                rcases hvec with ⟨h0, h2⟩ | ⟨_, cur, _, hcur, hpre⟩
                · subst h2
                  simp only [List.length_nil] at hcs
                  rcases Nat.mul_eq_zero.1 hcs.symm with h | h
                  · omega
                  · have := hsz.2; omega
                · have : cs.length ≤ cur.size := by
                    rcases Nat.lt_or_ge cur.size cs.length with h | h
                    · have hlast := hpre cur.size cs[cur.size] (List.getElem?_eq_getElem h)
                      simp at hlast
                    · exact h
                  rw [hcs, hcur] at this
                  exact Nat.le_of_mul_le_mul_right this hsz.2
              subst hq0
              have hfc : ∀ pp, (Builtin.firstCells i.size 0 (.slice pp 0 c2)).run cx.P w = .ok #[] w := by
                intro pp
                cases pp with
                | none => simp [Builtin.firstCells]
                | some a => simpa using run_firstCells_some (P := cx.P) w i.size 0 a 0 c2 [] (by simp) (by simp)
              simp only [execOp, resolve, invoke, builtin, Sem.run_bind, Sem.run_pure, Result.andThen_ok, List.map_toArray, List.map_cons, List.map_nil, e1, e2, den]
              cases hp : ptr0 (m L) (m C) <;> simp [Builtin.append_, run_underlying ht, sizeOf, typeInfo, hi, Builtin.lenOf, hnc, hfc, storeCells]
            · cases hf
          · cases hf
        · cases hf
      · cases hf
    refine ⟨fun _ _ => trivial, ?_⟩
    rw [semAt_of _ _ (fun _ h => by cases h), hrun, Oper.uponIn_value]
    have hdrop : Rel cx m (upd [(.r L, none)] g) a w := hrel.weaken (fun q => by
        rw [upd_one]
        by_cases e : Key.r L = q
        · exact .inl (by rw [if_pos e])
        · exact .inr (by rw [if_neg e])) (fun L2 o h => by rw [upd_one, if_neg (by simp)]) (fun L2 b hb => by rw [upd_one, if_neg (by simp)])
    have ment : ∀ z, (∀ q, mentions z q (g q) = false) → ∀ q, mentions z q (upd [(.r L, none)] g q) = false := fun z hz q => by
      rw [upd_one]
      by_cases e : Key.r L = q
      · rw [if_pos e]; rfl
      · rw [if_neg e]; exact hz q
    have hold : ∀ {l' own' C2 ty' k' cs'}, upd [(.r L, none)] g (.r l') = some (.vec own' C2 ty' k' cs') → l' ≠ L ∧ g (.r l') = some (.vec own' C2 ty' k' cs') := fun {l' own' C2 ty' k' cs'} h => by
      rw [upd_one] at h
      by_cases e : Key.r L = Key.r l'
      · rw [if_pos e] at h; cases h
      · rw [if_neg e] at h; exact ⟨fun e2 => e (by rw [e2]), h⟩
    have hadd := hdrop.addRow (L := L') (C := C') (b := m L) (c := m C) (ty := e) (k := k) (own := true) (cs := cs) (ment L' (hfr L' (by simp))) (ment C' (hfr C' (by simp))) hne hvec (fun _ hc => hrel.ownR L C e k cs e3 hc)
      (fun hc l' ty' n' h => by rw [upd_one, if_neg (by simp)] at h; exact (hrel.sep L true C e k cs l' ty' n' e3 h hc).symm)
      (fun hc l' own' C2 ty' k' cs' h _ hc2 => by
        obtain ⟨hne', h'⟩ := hold h
        exact (hrel.sepR L C e k cs l' own' C2 ty' k' cs' e3 h' (Ne.symm hne') hc hc2).symm)
    subst hq0
    refine hK _ _ _ ((hadd.put (x := .o L' C' (n + 0)) hN ?_).congr fun q => ?_)
    · simp only [den]
      rw [setL_self, setL_ne _ _ hne, setL_self, Nat.add_zero]
    · simp only [List.flatMap_nil, List.append_nil, upd]
  · -- something is
    have hlne : l ≠ [] := fun h0 => hq0 (by rw [hq, h0]; rfl)
    obtain ⟨b0, o0, hp, _, hcell0⟩ := hs.2.2 hlne
    simp only at hp
    subst hp
    have hcell : ∀ j u, (l.flatMap enc)[j]? = some u → w.cell? ((⟨b0, o0, none⟩ : Addr).add j) = some u := by
      intro j u hj
      rw [addr_add]
      have hlt : j < (l.flatMap enc).length := (List.getElem?_eq_some_iff.1 hj).1
      rw [flat_length hk] at hlt
      have hk0 : 0 < k := by
        rcases Nat.eq_zero_or_pos k with h | h
        · subst h; simp at hlt
        · exact h
      have hi : j / k < l.length := Nat.div_lt_of_lt_mul (by rw [Nat.mul_comm]; exact hlt)
      have hjm : j % k < k := Nat.mod_lt _ hk0
      have hx0 : l[j / k]? = some l[j / k] := List.getElem?_eq_getElem hi
      have hjm2 : j % k < (enc l[j / k]).length := by rw [hk]; exact hjm
      have hv : (enc l[j / k])[j % k]? = some (enc l[j / k])[j % k] := List.getElem?_eq_getElem hjm2
      have h3 := hcell0 (j / k) _ hx0 (j % k) _ hv
      have h4 := flat_get hk hx0 hv
      have hdm : j / k * k + j % k = j := by rw [Nat.mul_comm]; exact Nat.div_add_mod j k
      rw [hdm, hj] at h4
      cases h4
      rw [show o0 + j / k * k + j % k = o0 + j by omega] at h3
      exact h3
    obtain ⟨b', c', w', hrun, hc', hv', hb', hsz, hos, htape, hout, hkk⟩ := append_core (ty := type) (q := q) hf (hrel.vec L true C e k cs e3) hcs (by rw [flat_length hk, hq]) hcell (fun u hu => by
      obtain ⟨z, _, hz2⟩ := List.mem_flatMap.1 hu
      exact oneC_eq (List.all_eq_true.1 (h1 z) u hz2)) (by omega) hb h63 (c2 := c2)
    refine ⟨fun _ _ => trivial, ?_⟩
    rw [semAt_of _ _ (fun _ h => by cases h)]
    have hex : (execOp a.eval ⟨some d, .call ⟨.builtin .append, #[x, y], #[t, t]⟩, type, pos, after, guard⟩).run cx.P w = .ok (.value (.slice (some ⟨b', 0, none⟩) (n + q) c')) w' := by
      simp only [execOp, resolve, invoke, builtin, Sem.run_bind, Sem.run_pure, Result.andThen_ok, List.map_toArray, List.map_cons, List.map_nil, e1, e2, den, hrun]
    rw [hex, Oper.uponIn_value]
    have hrel' := hrel.row (vs := cs ++ l.flatMap enc) e3 (hfr L' (by simp)) (hfr C' (by simp)) hne hc' hv' hb' hsz hos htape hout hkk
    refine hK _ _ _ ((hrel'.put (x := .o L' C' (n + q)) hN ?_).congr (fun q => (upd_cons g q).symm))
    simp only [den]
    rw [setL_self, setL_ne _ _ hne, setL_self, ptr0_ne hc']

/-- An empty literal of a slice. -/
theorem op_buildSlice0 {t ety L C kk : Nat} (hN : d < cx.N) (hne : L ≠ C) (h : ∀ w : World, (Instr.buildSlice t 0 #[]).run cx.P w = .ok (.slice (some ⟨w.heap.size, 0, none⟩) 0 0) (w.alloc (.cells #[] ety))) :
    OpRun cx ⟨some d, .buildSlice t 0 #[], type, pos, after, guard⟩ s ⟨[], [(.t d, some (.x (.o L C 0))), (.r L, some (.vec true C ety kk []))], [L, C]⟩ := by
  intro m a w g hrd hfr hrel K Q hK
  refine ⟨fun _ _ => trivial, ?_⟩
  rw [semAt_of _ _ (fun _ h => by cases h)]
  have hrun : (execOp a.eval ⟨some d, .buildSlice t 0 #[], type, pos, after, guard⟩).run cx.P w = .ok (.value (.slice (some ⟨w.heap.size, 0, none⟩) 0 0)) (w.alloc (.cells #[] ety)) := by
    have := h w
    simp [execOp, this]
  rw [hrun, Oper.uponIn_value]
  have h1 := hrel.world ((Below.refl w.heap.size w).alloc (Nat.le_refl _) (.cells #[] ety))
  have h2 := h1.addRow (L := L) (C := C) (b := w.heap.size + 1) (c := 0) (ty := ety) (k := kk) (own := true) (cs := []) (hfr L (by simp)) (hfr C (by simp)) hne (.inl ⟨rfl, rfl⟩) (fun _ hc => absurd rfl hc) (fun hc => absurd rfl hc) (fun hc => absurd rfl hc)
  refine hK _ _ _ ((h2.put (x := .o L C 0) hN ?_).congr (fun q => (upd_cons g q).symm))
  simp only [den, setL_self]
  rw [setL_ne _ _ hne, setL_self, ptr0_some]

end
end Go.AX

/-
  The core: calls that hand back several new rows of their own, apart from one another.
-/
namespace Go.AX
open Go Go.RowKit

def Apart (a b : SlV) : Prop := a.c ≠ 0 → b.c ≠ 0 → a.p ≠ b.p
def AllApart (a : SlV) : List SlV → Prop
  | [] => True
  | b :: l => Apart a b ∧ AllApart a l
def DistP : List SlV → Prop
  | [] => True
  | a :: l => AllApart a l ∧ DistP l

/-- New slices that are apart. -/
def NewRowsD (w w' : World) (sl : List SlV) (ds : List (Nat × Nat × Nat × List Value)) : Prop := NewRows w w' sl ds ∧ DistP sl

def rowsUpT : List (Nat × Nat) → List (Nat × Nat × Nat × List Value) → St
  | (L, C) :: ls, (_, ty, k, cs) :: ds => rowsUpT ls ds ++ [(.r L, some (.vec true C ty k cs))]
  | _, _ => []

/-- Boxes lie under b0; rows do, or are among X. -/
def RowsOld (m : Nat → Nat) (g : Map) (b0 : Nat) (X : List SlV) : Prop :=
  (∀ l ty n, g (.b l) = some (.sh ty n) → m l < b0) ∧ (∀ l own C ty k cs, g (.r l) = some (.vec own C ty k cs) → m C ≠ 0 → m l < b0 ∨ ∃ x ∈ X, x.c ≠ 0 ∧ x.p = some ⟨m l, 0, none⟩)

theorem Rel.newRowsT {cx : Cx} {a : Act} {w w' : World} {b0 : Nat} (hb0 : b0 ≤ w.heap.size) (hB : cx.B ≤ b0) : ∀ (ls : List (Nat × Nat)) (ds : List (Nat × Nat × Nat × List Value)) (sl X : List SlV) {m : Nat → Nat} {g : Map},
    ls.length = ds.length → distinct (labsOf ls) = true → (∀ l ∈ labsOf ls, ∀ q, mentions l q (g q) = false) → RowsOld m g b0 X → (∀ x ∈ X, AllApart x sl) → NewRows w w' sl ds → DistP sl → Rel cx m g a w' →
    ∃ m', Rel cx m' (upd (rowsUpT ls ds) g) a w' ∧ dens m' ls ds = sl.map SlV.val ∧ ∀ l, l ∉ labsOf ls → m' l = m l := by
  intro ls
  induction ls with
  | nil =>
    intro ds sl X m g hlen _ _ _ _ hn _ hrel
    cases ds with
    | nil =>
      cases sl with
      | nil => exact ⟨m, hrel, rfl, fun _ _ => rfl⟩
      | cons x xs => exact hn.elim
    | cons d ds => simp at hlen
  | cons x ls ih =>
    obtain ⟨L, C⟩ := x
    intro ds sl X m g hlen hd hf hu hX hn hD hrel
    cases ds with
    | nil => simp at hlen
    | cons d ds =>
      obtain ⟨n, ty, k, cs⟩ := d
      cases sl with
      | nil => exact hn.elim
      | cons a1 sl =>
        obtain ⟨h1, ⟨b, hp, hv, hfresh, hcl⟩, h3⟩ := hn
        simp only [labsOf, distinct, Bool.and_eq_true, List.all_eq_true, List.mem_cons, Bool.not_eq_true', forall_eq_or_imp] at hd
        obtain ⟨⟨hLC, hL⟩, hC, hd'⟩ := hd
        have hne : L ≠ C := fun e => by subst e; simp at hLC
        have fL := hf L (by simp [labsOf])
        have fC := hf C (by simp [labsOf])
        have hle : a1.c ≠ 0 → b0 ≤ b := fun hc => Nat.le_trans hb0 (hfresh hc)
        have hr1 := hrel.addRow (own := true) fL fC hne hv (fun _ hc => .inl (Nat.le_trans hB (hle hc))) (fun hc l ty' n' hl => by have := hu.1 l ty' n' hl; have := hle hc; omega)
          (fun hc l own' C2 ty' k' cs' hl ho hc2 => by
            rcases hu.2 l own' C2 ty' k' cs' hl hc2 with h | ⟨x, hx, hxc, hxp⟩
            · have := hle hc; omega
            · intro e
              have := (hX x hx).1 hxc hc
              rw [hxp, hp, ptr0_ne hc, e] at this
              exact this rfl)
        have hmem : ∀ l ∈ labsOf ls, l ≠ L ∧ l ≠ C := fun l hl => ⟨fun e => by have := hL l hl; rw [e] at this; simp at this, fun e => by have := hC l hl; rw [e] at this; simp at this⟩
        have hf' : ∀ l ∈ labsOf ls, ∀ q, mentions l q (upd [(.r L, some (.vec true C ty k cs))] g q) = false := by
          intro l hl q
          rw [upd_one]
          by_cases e : Key.r L = q
          · rw [if_pos e, ← e]
            have := hmem l hl
            simp [mentions, beq_ne (Ne.symm this.1), beq_ne (Ne.symm this.2)]
          · rw [if_neg e]; exact hf l (by simp [labsOf, hl]) q
        have mL : setL (setL m L b) C a1.c L = b := by rw [setL_ne _ _ hne, setL_self]
        have mC : setL (setL m L b) C a1.c C = a1.c := setL_self _ _ _
        have hu' : RowsOld (setL (setL m L b) C a1.c) (upd [(.r L, some (.vec true C ty k cs))] g) b0 (a1 :: X) := by
          refine ⟨fun l ty' n' hl => ?_, fun l own' C2 ty' k' cs' hl hc2 => ?_⟩
          · rw [upd_one, if_neg (by simp)] at hl
            have e1 := fL (.b l); have e2 := fC (.b l)
            rw [hl] at e1 e2
            rw [setL_ne _ _ (mentions_b e2), setL_ne _ _ (mentions_b e1)]
            exact hu.1 l ty' n' hl
          · rw [upd_one] at hl
            by_cases e : Key.r L = Key.r l
            · rw [if_pos e] at hl
              simp only [Option.some.injEq, Val.vec.injEq] at hl
              obtain ⟨_, rfl, _⟩ := hl
              cases e
              rw [mC] at hc2
              exact .inr ⟨a1, by simp, hc2, by rw [mL, hp, ptr0_ne hc2]⟩
            · rw [if_neg e] at hl
              have e1 := fL (.r l); have e2 := fC (.r l)
              rw [hl] at e1 e2
              have q1 := mentions_r e1; have q2 := mentions_r e2
              rw [setL_ne _ _ q2.2, setL_ne _ _ q1.2] at hc2
              rw [setL_ne _ _ q2.1, setL_ne _ _ q1.1]
              rcases hu.2 l own' C2 ty' k' cs' hl hc2 with h | ⟨x, hx, h⟩
              · exact .inl h
              · exact .inr ⟨x, by simp [hx], h⟩
        obtain ⟨m', hr', hden, hkeep⟩ := ih ds sl (a1 :: X) (by simpa using hlen) hd' hf' hu' (fun x hx => by
          rcases List.mem_cons.1 hx with rfl | hx
          · exact hD.1
          · exact (hX x hx).2) h3 hD.2 hr1
        have nL : L ∉ labsOf ls := fun h => (hmem L h).1 rfl
        have nC : C ∉ labsOf ls := fun h => (hmem C h).2 rfl
        refine ⟨m', ?_, ?_, fun l hl => ?_⟩
        · simp only [rowsUpT]
          rw [upd_append]; exact hr'
        · simp only [dens, List.map_cons, hden, List.cons.injEq, and_true, den, SlV.val]
          rw [hkeep L nL, hkeep C nC, setL_self, setL_ne _ _ hne, setL_self, hp, h1]
        · simp only [labsOf, List.mem_cons, not_or] at hl
          rw [hkeep l hl.2.2, setL_ne _ _ hl.2.1, setL_ne _ _ hl.1]

theorem op_callRowsD {cx : Cx} {s : Map} {d : Nat} {type : TypeId} {pos : String} {after : Array Edge} {guard : Option (Nat × Bool)} {fo : Operand} {fv : SV} {k : Nat} {fs caps xs : List SV} {args : Array Operand} {ts : Array TypeId} {extra : List Key}
    {R : List Value → Value} {x : SV} {ls : List (Nat × Nat)} {ds : List (Nat × Nat × Nat × List Value)}
    (hN : d < cx.N) (hen : Proofs.Enters cx.P k) (hf : Ev s fo fv) (hk : calleeOf k fs caps fv) (hx : EvL s args.toList xs) (hlen : ls.length = ds.length) (hd : distinct (labsOf ls) = true)
    (hden : ∀ (m : Nat → Nat), den m x = R (dens m ls ds))
    (hc : ∀ (m : Nat → Nat) (a : Act) (w : World) (g : Map), (∀ k ∈ extra, g k = s k) → Rel cx m g a w →
      Calls cx.P k (denL m (fs ++ (xs ++ caps))).toArray w fun e w' => ∃ sl : List SlV, e = .returned (R (sl.map SlV.val)) ∧ NewRowsD w w' sl ds ∧ Below w.heap.size w w') :
    OpRun cx ⟨some d, .call ⟨.value fo, args, ts⟩, type, pos, after, guard⟩ s ⟨okeys fo ++ okeysL args.toList ++ extra, (.t d, some (.x x)) :: rowsUpT ls ds, labsOf ls⟩ :=
  op_callG hen hf hk hx fun m a w g hr hfr hrel => (hc m a w g hr hrel).mono fun e w' ⟨sl, he, hnew, hb⟩ => by
    have hu := hrel.under
    obtain ⟨m', h1, h2, _⟩ := (hrel.world hb).newRowsT (Nat.le_refl _) hrel.top ls ds sl [] hlen hd (fun l hl q => hfr l hl q) ⟨hu.1, fun l own C ty k cs hl hc => .inl (hu.2 l own C ty k cs hl hc)⟩ (fun _ h => by simp at h) hnew.1 hnew.2
    exact ⟨_, m', he, (h1.put (x := x) hN (by rw [hden, h2])).congr (fun q => (upd_cons g q).symm)⟩

/-! ### Pairs -/
section
variable {cx : Cx} {s : Map} {m : Nat → Nat} {a : Act} {w : World}

theorem apart_rr {L C k ty L' C' k' ty' n n' : Nat} {own' : Bool} {cs cs' : List Value} (h : Rel cx m s a w) (h1 : s (.r L) = some (.vec true C ty k cs)) (h2 : s (.r L') = some (.vec own' C' ty' k' cs')) (hne : L ≠ L') :
    Apart ⟨ptr0 (m L) (m C), n, m C⟩ ⟨ptr0 (m L') (m C'), n', m C'⟩ := fun hc hc' e => by
  simp only [] at hc hc' e
  rw [ptr0_ne hc, ptr0_ne hc'] at e
  simp only [Option.some.injEq, Addr.mk.injEq, and_true] at e
  exact h.sepR L C ty k cs L' own' C' ty' k' cs' h1 h2 hne hc hc' e
end
section
variable {cx : Cx} {s : Map} {d : Nat} {type : TypeId} {pos : String} {after : Array Edge} {guard : Option (Nat × Bool)}
end
end Go.AX

/- Plain functions of the hull layer: limits, slower ships. -/
namespace Hull

def lev (n : Int) : Ice := ⟨100, n, 0, 0⟩

theorem lev_good {n : Int} (h : 0 ≤ n ∧ n ≤ 400) : goodIce (lev n) := by
  simp only [goodIce, lev]; omega

def limitE (s : Ship) (v : Int) (ch : Bool) : Int × Int :=
  if asked s ⟨0, 0, 0, 0⟩ v ≠ 0 then (0, asked s ⟨0, 0, 0, 0⟩ v)
  else if (greatest (fun n => makes s (lev n) ch v) 0 400).2 = false then (0, 4) else ((greatest (fun n => makes s (lev n) ch v) 0 400).1, 0)

def makesE (s : Ship) (i : Ice) (v : Int) (ch : Bool) : Bool × Int := if asked s i v ≠ 0 then (false, asked s i v) else (makes s i ch v, 0)

def safeE (s : Ship) (c : Cell) (ch : Bool) : Int × Int := if met s c ≠ 0 then (0, met s c) else safe s c ch
end Hull

/-
  Shorter words for what the walks repeat.
-/
namespace Go.AX
open Go

abbrev SV.i (n : Int) : SV := .v (.int .i64 n)
abbrev SV.B (b : Bool) : SV := .v (.bool b)
abbrev kt (t : Nat) (x : SV) : Key × Option Val := (.t t, some (.x x))
abbrev kc (L o : Nat) (x : SV) : Key × Option Val := (.c L o, some (.x x))
abbrev kb (L ty n : Nat) : Key × Option Val := (.b L, some (.sh ty n))

def getAll (s : St) : St → St
  | [] => []
  | x :: r => (x.1, get s x.1) :: getAll s r

theorem kp {s' s : St} (h : getAll s s' = s') : Keep s' s := by
  induction s' with
  | nil => trivial
  | cons x r ih =>
    simp only [getAll, List.cons.injEq] at h
    exact ⟨(congrArg Prod.snd h.1 : _), ih h.2⟩
end Go.AX

/-
  Activations that wait: a loop over a function, its iterator walked in place, and each round of the loop in place of the iterator's call of yield.
-/
namespace Go.AX
open Go Go.RowKit

/-- The temporaries of an activation, kept under the keys of one that waits. -/
def susSt (l : Nat) : List (Nat × SV) → St
  | [] => []
  | (i, v) :: r => (.u l i, some (.x v)) :: susSt l r

def tmpSt : List (Nat × SV) → St
  | [] => []
  | (i, v) :: r => (.t i, some (.x v)) :: tmpSt r

def TAre (s : Map) : List (Nat × SV) → Prop
  | [] => True
  | (i, v) :: r => s (.t i) = some (.x v) ∧ TAre s r

def UAre (l : Nat) (s : Map) : List (Nat × SV) → Prop
  | [] => True
  | (i, v) :: r => s (.u l i) = some (.x v) ∧ UAre l s r

/-- No temporaries, and none that wait at the level l. -/
def noTU (l : Nat) (s : St) : Bool := s.all fun x => match x.1 with | .t _ => false | .u l' _ => !Nat.beq l' l | _ => true

def setSus (S : Nat → Array Value) (l : Nat) (v : Array Value) : Nat → Array Value := fun k => if k = l then v else S k
section
variable {P : Program} {r r' : Option Nat} {B N N' : Nat} {w0 : World} {ds ds' : Bool} {bor : List (Nat × Nat)} {S S' : Nat → Array Value} {K K' : List (Nat × Obj)} {m : Nat → Nat} {a a' : Act} {w w' : World}

/-- Another activation's view of the same memory: its temporaries, what waits, and what it knows besides. -/
theorem Rel.view {s0 s1 : St} (h : Rel ⟨P, r, B, w0, N, ds, bor, S, K⟩ m (get s0) a w) (hsz : a'.tmps.size = N') (hd : Marks ds' B a'.defers w)
    (hb : ∀ L, get s1 (.b L) = get s0 (.b L)) (hc : ∀ L o, get s1 (.c L o) = get s0 (.c L o)) (hr : ∀ L, get s1 (.r L) = get s0 (.r L))
    (ht : ∀ i v, get s1 (.t i) = some v → ∃ x, v = .x x ∧ a'.tmps[i]? = some (den m x)) (hu : ∀ l i x, get s1 (.u l i) = some (.x x) → (S' l)[i]? = some (den m x))
    (hk : ∀ k o, (k, o) ∈ K' → w.heap[k]? = some o ∧ o.isCells = false) : Rel ⟨P, r', B, w0, N', ds', bor, S', K'⟩ m (get s1) a' w := by
  refine ⟨hsz, hd, fun i x hx => ?_, fun i b x hx => ?_, fun L ty n hx => h.blk L ty n (by rw [← hb]; exact hx), fun L o x hx => h.cell L o x (by rw [← hc]; exact hx), fun L o x hx => ?_,
    fun L L' ty n ty' n' h1 h2 => h.inj L L' ty n ty' n' (by rw [← hb]; exact h1) (by rw [← hb]; exact h2), fun L own C ty k cs hx => h.vec L own C ty k cs (by rw [← hr]; exact hx),
    fun L own C ty k cs L' ty' n' h1 h2 => h.sep L own C ty k cs L' ty' n' (by rw [← hr]; exact h1) (by rw [← hb]; exact h2),
    fun L C ty k cs L' own' C' ty' k' cs' h1 h2 => h.sepR L C ty k cs L' own' C' ty' k' cs' (by rw [← hr]; exact h1) (by rw [← hr]; exact h2),
    fun L C ty k cs hx => h.ownR L C ty k cs (by rw [← hr]; exact hx), ⟨h.held.os, h.held.tape, h.held.output, h.held.size, h.held.block⟩, h.top, fun L b hb' => ?_, hu, hk⟩
  · obtain ⟨y, hy, h1⟩ := ht i _ hx
    cases hy; exact h1
  · obtain ⟨y, hy, h1⟩ := ht i _ hx
    cases hy
  · obtain ⟨ty, n, h1⟩ := h.own L o x (by rw [← hc]; exact hx)
    exact ⟨ty, n, by rw [hb]; exact h1⟩
  · obtain ⟨h1, ty, n, h2⟩ := h.fix L b hb'
    exact ⟨h1, ty, n, by rw [hb]; exact h2⟩

end

/-! ### The loop -/

def recOf (fn : FuncId) (aT : Array Value) (ps : Array Tmp) (assign body : Code) (D : Nat) (st : LoopState) : Loop :=
  { state := st, pending := none, fn, tmps := aT, params := ps, assign, body, defers := D }

/-- Marks that stand among the objects that are kept. -/
def MarksK (ds : Bool) (B : Nat) (aD : List Deferred) (K : List (Nat × Obj)) : Prop := ∃ ms : List Nat, aD = ms.map mark ∧ (ds = false → ms = []) ∧ ms.Nodup ∧ ∀ D ∈ ms, B ≤ D ∧ (D, Obj.deferred (some [])) ∈ K

theorem MarksK.marks {ds : Bool} {B : Nat} {aD : List Deferred} {K : List (Nat × Obj)} {w : World} (h : MarksK ds B aD K) (hk : ∀ k o, (k, o) ∈ K → w.heap[k]? = some o) : Marks ds B aD w := by
  obtain ⟨ms, h1, h2, h3, h4⟩ := h
  exact ⟨ms, h1, h2, h3, fun D hD => ⟨(h4 D hD).1, hk _ _ (h4 D hD).2⟩⟩

/-- What a loop over a function owes when the iterator has returned. -/
abbrev LoopEnd (P : Program) (Q : Exit → Act → World → Prop) (l : Nat) (aT : Array Value) (aD : List Deferred) : Ending → World → Prop := rangePost Fence.wide 0 P l Q { tmps := aT, defers := aD }

/-! ### The iterator has returned -/

/-! ### A round -/

def parSt : List Tmp → List SV → St
  | p :: ps, x :: xs => parSt ps xs ++ [(.t p, some (.x x))]
  | _, _ => []

/-- What a round owes: the assignment to the loop's variables, then the body. -/
def RoundQ (P : Program) (l : Nat) (body : Code) (R : Ending → World → Prop) : Exit → Act → World → Prop :=
  Exit.then (fun a1 w1 => ∃ w2, (Instr.beginRound l).run P w1 = .ok () w2 ∧ body.wpIn (Fence.wide.inRound l) 0 P (roundPost P l R) a1 w2) (fun _ _ _ => False)

/-- What a round that goes on hands back: the iterator's view of what is there then. -/
def RoundR (P : Program) (B N' : Nat) (w0 : World) (bor : List (Nat × Nat)) (S : Nat → Array Value) (K : List (Nat × Obj)) (aI : Array Value) (up : St) : Ending → World → Prop :=
  fun e W => e = .returned (.bool true) ∧ ∃ m, Rel ⟨P, none, B, w0, N', false, bor, S, K⟩ m (get up) { tmps := aI, defers := [] } W

def dropSt : List Key → St := fun ks => ks.map fun k => (k, none)

/-! ### Functions that hold loops over functions -/

end Go.AX

/-
  Calls that hand back a function over boxes that they have laid.
-/
namespace Go.AX
open Go Go.RowKit

section
variable {cx : Cx} {s g : Map} {m : Nat → Nat} {a : Act} {w : World}

def boxUpS (L : Nat) (ty : TypeId) (ys : List SV) : St := (.b L, some (.sh ty ys.length)) :: cellsUp L 0 ys

/-- Boxes that a call has laid. -/
def NewBoxes (w w' : World) : List Nat → List (Nat × List Value) → Prop
  | [], [] => True
  | b :: bs, (ty, vs) :: r => w.heap.size ≤ b ∧ w'.heap[b]? = some (.cells vs.toArray ty (0, 0)) ∧ (∀ b' ∈ bs, b' ≠ b) ∧ NewBoxes w w' bs r
  | _, _ => False

structure NB where
  L : Nat
  ty : TypeId
  ys : List SV

def nbUp : List NB → St
  | [] => []
  | q :: r => boxUpS q.L q.ty q.ys ++ nbUp r

def nbLs (ls : List NB) : List Nat := ls.map (·.L)

def nbOK : List NB → Bool
  | [] => true
  | q :: r => (r.all fun p => !Nat.beq p.L q.L) && ((q :: r).all fun p => !hasL q.L p.ys) && (r.all fun p => !hasL p.L q.ys) && nbOK r

variable {d : Nat} {type : TypeId} {pos : String} {after : Array Edge} {guard : Option (Nat × Bool)}

end
end Go.AX

/-
  The core: slices of slices: a prefix or a suffix of a row; of a slice that lay there.
-/
namespace Go.AX
open Go Go.RowKit

theorem SlAt.take {α : Type} {enc : α → List Value} {k : Nat} {w : World} {p : Option Addr} {n c : Nat} {l : List α} (h : SlAt enc k w p n c l) {j : Nat} (hj : j ≤ l.length) : SlAt enc k w p j c (l.take j) := by
  obtain ⟨h1, h2, h3⟩ := h
  refine ⟨by simp [hj], by omega, fun hl => ?_⟩
  obtain ⟨b, o, e1, e2, e3⟩ := h3 (fun e => hl (by rw [e]; simp))
  exact ⟨b, o, e1, e2, fun i x hx q v hv => e3 i x (by rw [List.getElem?_take] at hx; split at hx <;> simp_all) q v hv⟩

theorem SlAt.drop {α : Type} {enc : α → List Value} {k : Nat} {w : World} {p : Option Addr} {n c : Nat} {l : List α} (h : SlAt enc k w p n c l) (j : Nat) :
    SlAt enc k w (if c = j then p else p.map (·.add (j * k))) (n - j) (c - j) (l.drop j) := by
  obtain ⟨h1, h2, h3⟩ := h
  refine ⟨by simp [h1], by omega, fun hl => ?_⟩
  obtain ⟨b, o, e1, e2, e3⟩ := h3 (fun e => hl (by rw [e]; simp))
  have hlt : j < l.length := by
    rcases Nat.lt_or_ge j l.length with h | h
    · exact h
    · exact absurd (List.drop_eq_nil_of_le h) hl
  rw [if_neg (by omega), e1]
  refine ⟨b, o + j * k, ?_, e2, fun i x hx q v hv => ?_⟩
  · simp only [Option.map_some, Addr.add]
    split
    · rename_i h0; rw [h0]; rfl
    · rfl
  · rw [List.getElem?_drop] at hx
    have := e3 (j + i) x hx q v hv
    rw [Nat.add_mul] at this
    rw [show o + j * k + i * k + q = o + (j * k + i * k) + q by omega]
    exact this

/-- The pointer of a suffix. -/
def dropP (p : Option Addr) (c k : Nat) : Nat → Option Addr
  | 0 => p
  | j + 1 => if c = j + 1 then p else p.map (·.add ((j + 1) * k))

section
variable {cx : Cx} {s : Map} {d : Nat} {type : TypeId} {pos : String} {after : Array Edge} {guard : Option (Nat × Bool)}

end
end Go.AX

namespace Go.AX
open Go Go.RowKit
/-! A cell of an element of a row is written. -/
section
variable {α : Type} {enc : α → List Value}
theorem flat_set1 {k : Nat} (hk : ∀ x, (enc x).length = k) {l : List α} (d : α) {i : Int} (h0 : 0 ≤ i) (h1 : i < l.length) (j : Nat) (hj : j < k) {v : Value} {x : α} (hx : enc x = (enc (l.getD i.toNat d)).set j v) :
    (l.flatMap enc).set (i.toNat * k + j) v = (l.set i.toNat x).flatMap enc := by
  have hi : i.toNat < l.length := by omega
  have h2 : l.getD i.toNat d = l[i.toNat] := by simp [List.getD, hi]
  rw [h2] at hx
  exact flat_setN (vs := [v]) hk hi (by simp; omega) hx

theorem flat_lt {k : Nat} (hk : ∀ x, (enc x).length = k) {l : List α} {i : Int} (h0 : 0 ≤ i) (h1 : i < l.length) {j : Nat} (hj : j < k) : i.toNat * k + j < (l.flatMap enc).length := by
  rw [flat_length hk]
  have h2 : (i.toNat + 1) * k ≤ l.length * k := Nat.mul_le_mul_right _ (by omega)
  rw [Nat.add_mul] at h2
  omega
end
end Go.AX
