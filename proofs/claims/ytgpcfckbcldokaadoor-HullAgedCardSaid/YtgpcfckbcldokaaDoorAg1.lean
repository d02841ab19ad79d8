/-
  This file has what the walks are built on: a symbolic state of one activation, and plain functions. Conditions: those that each theorem names.
-/
import Derived.ChangeSlices
import Derived.Handed
import Derived.LaidMore
import Derived.Laws.Cover3
import Derived.Laws.StructEq
import Derived.OpenShut
import Derived.ProofKit
import Derived.RangeFuncIn
import Derived.RangeFuncRecord
import Derived.SevenTiedAt
import Derived.Stop.Joined
import Derived.Test.YtgpcfckbcldokaaDoorCards
import Derived.Test.YtgpcfckbcldokaaDoorRows
import Derived.Test.YtgpcfckbcldokaaDoorTie
import Derived.Test.YtgpcfckbcldokaaDoorAg0
/-
  The frame of a law's card: what is read of the arguments, and that a call which returns true and changes nothing that was there meets the specification.
-/
namespace Go.AX
open Go Go.ChangeShapes Go.WideShapes Go.RowKit
def goodT (P : Program) : Nat → TypeId → Bool
  | 0, _ => false
  | n + 1, t => match P.underlying t with
    | some (.int _) => true
    | some .bool => true
    | some (.struct fs) => fs.toList.all fun f => goodT P n f.type
    | some (.array _ e) => goodT P n e
    | some (.slice e) => goodT P n e && Nat.ble 1 (P.cellsOf e)
    | _ => false
theorem mapM_carry' {α β : Type} {f g : α → Option β} : ∀ {l : List α} {r : List β}, l.mapM f = some r → (∀ x y, x ∈ l → y ∈ r → f x = some y → g x = some y) → l.mapM g = some r := mapM_carry
section
variable {H : Type} {enc : TypeId × Value → H} {P : Program} {w : World} {base : Nat} {held : Bool}
theorem trod_spare {sp : Nat → Bool} : ∀ (m n : Nat) (t : TypeId) (cs : List Value) (x : DataW H × List MemPlace), goodT P m t = true →
    DataW.trod enc P w base (fun _ => true) held n t cs = some x → (∀ p ∈ x.2, sp p.block = true) → DataW.trod enc P w base sp held n t cs = some x := by
  intro m
  induction m with
  | zero => intro n t cs x h; cases h
  | succ m ih =>
    intro n t cs x hg h hs
    cases n with
    | zero => simp [DataW.trod] at h
    | succ n =>
      rw [DataW.trod_step] at h ⊢
      unfold goodT at hg
      unfold DataW.trodStep at h ⊢
      split at h
      case h_1 => exact h
      case h_2 => exact h
      case h_8 e a len cap hu =>
        rw [hu] at hg
        simp only [Bool.and_eq_true] at hg
        simp only at h ⊢
        split at h
        · rename_i hc
          rw [if_pos hc]
          simp only [if_true, Option.map_eq_some_iff, Option.bind_eq_some_iff] at h ⊢
          obtain ⟨elems, he, rest, hr, rfl⟩ := h
          have hlen : elems.length = len := by simpa using mapM_some_length he
          have hrlen : rest.length = cap - len := by simpa using mapM_some_length hr
          have hk : 1 ≤ P.cellsOf e := Nat.le_of_ble_eq_true hg.2
          have one : ∀ i y, (w.cells? base (a.add (i * P.cellsOf e)) (P.cellsOf e)).bind (DataW.trod enc P w base (fun _ => true) held n e) = some y → (∀ p ∈ y.2, sp p.block = true) →
              (w.cells? base (a.add (i * P.cellsOf e)) (P.cellsOf e)).bind (DataW.trod enc P w base sp held n e) = some y := by
            intro i y hy hp
            rw [Option.bind_eq_some_iff] at hy ⊢
            obtain ⟨cs', h1, h2⟩ := hy
            exact ⟨cs', h1, ih n e cs' y hg.1 h2 hp⟩
          have hpl : ∀ y, y ∈ elems ++ rest → ∀ p ∈ y.2, sp p.block = true := fun y hy p hp => hs p (by
            simp only [List.mem_append]
            exact .inr (List.mem_flatMap.2 ⟨y, hy, hp⟩))
          refine ⟨elems, mapM_carry' he fun i y hi hy hiy => one i y hiy (hpl y (by simp [hy])), rest, ?_, rfl⟩
          by_cases hcap : cap = 0
          · have : rest = [] := List.length_eq_zero_iff.1 (by omega)
            subst this
            split
            · rw [show cap - len = 0 by omega]; rfl
            · rfl
          · have : sp a.block = true := by
              have := hs (.cell a.block (a.off + 0)) (by
                simp only [List.mem_append]
                refine .inl (MemPlace.mem_row.2 ⟨0, ?_, rfl⟩)
                rw [hlen, hrlen, show len + (cap - len) = cap by omega]
                exact Nat.mul_pos (by omega) hk)
              exact this
            rw [if_pos this]
            exact mapM_carry' hr fun j y hj hy hjy => one _ y hjy (hpl y (by simp [hy]))
        · cases h
      case h_7 => exact h
      case h_9 fs cs' hu =>
        rw [hu] at hg
        simp only at hg
        split at h
        · rename_i hl
          rw [if_pos hl]
          simp only [Option.map_eq_some_iff] at h ⊢
          obtain ⟨xs, hx, rfl⟩ := h
          refine ⟨xs, mapM_carry' hx fun f y hf hy hfy => ih n f.type _ y (List.all_eq_true.1 hg f hf) hfy fun p hp => hs p ?_, rfl⟩
          exact List.mem_flatMap.2 ⟨y, hy, hp⟩
        · cases h
      case h_10 =>
        rename_i e hu
        rw [hu] at hg
        simp only at hg
        split at h
        · rename_i hl
          rw [if_pos hl]
          simp only [Option.map_eq_some_iff] at h ⊢
          obtain ⟨xs, hx, rfl⟩ := h
          refine ⟨xs, mapM_carry' hx fun f y hf hy hfy => ih n e _ y hg hfy fun p hp => hs p ?_, rfl⟩
          exact List.mem_flatMap.2 ⟨y, hy, hp⟩
        · cases h
      all_goals simp_all
theorem trod_move {w' : World} {sp : Nat → Bool} {t : TypeId} {v : Value} {d : DataW H} {ps : List MemPlace} (hg : goodT P 8 t = true) (h : DataW.Trod enc P w base (fun _ => true) held t v d ps)
    (hsame : ∀ p ∈ ps, w.sameAt w' p) (hs : ∀ p ∈ ps, sp p.block = true) : DataW.Trod enc P w' base sp held t v d ps := by
  obtain ⟨n, hn⟩ := h
  exact ⟨n, trod_spare 8 n t _ _ hg (DataW.trod_carry n t _ _ hn hsame) hs⟩
theorem trodAll_move {w' : World} {sp : Nat → Bool} : ∀ {ts : List TypeId} {vs : List Value} {ds : List (DataW H)} {ps : List MemPlace}, ts.all (goodT P 8) = true → DataW.TrodAll enc P w base (fun _ => true) held ts vs ds ps →
    (∀ p ∈ ps, w.sameAt w' p) → (∀ p ∈ ps, sp p.block = true) → DataW.TrodAll enc P w' base sp held ts vs ds ps := by
  intro ts
  induction ts with
  | nil =>
    intro vs ds ps _ h _ _
    obtain ⟨rfl, rfl, rfl⟩ := trodAll_nil h
    rfl
  | cons t ts ih =>
    intro vs ds ps hg h hsame hs
    obtain ⟨v, vs', d, ds', p, q, rfl, rfl, rfl, h1, h2⟩ := trodAll_cons h
    simp only [List.all_cons, Bool.and_eq_true] at hg
    exact ⟨p, q, trod_move hg.1 h1 (fun x hx => hsame x (by simp [hx])) (fun x hx => hs x (by simp [hx])), ih hg.2 h2 (fun x hx => hsame x (by simp [hx])) (fun x hx => hs x (by simp [hx])), rfl⟩
theorem post_law {f : Func} {s : ChangeSpec} {W W' : World} {args : Array Value} {ds gs : List (DataW H)} {before : List MemPlace} {tb : TypeId} (hW : DataW.Whole enc P f.params.toList s.vars false W args.toList ds gs before)
    (hv : s.vars = []) (hfn : s.fn H ds = { results := [.lit (.bool true)], args := ds }) (hrt : f.resultTypes = #[tb]) (htb : P.underlying tb = some .bool) (hgood : f.params.toList.all (goodT P 8) = true) (hb : Below W.heap.size W W') :
    s.post enc P f false true false false W args (.bool true) W' := by
  have hW0 := hW
  obtain ⟨p, q, hA, hV, rfl, _, _⟩ := hW
  rw [hv] at hV
  obtain ⟨rfl, rfl⟩ := trodVars_none hV
  have hlt : ∀ x ∈ p ++ [], x.block < W.heap.size := fun x hx => hW0.lt x hx
  have hsame : ∀ x ∈ p, W.sameAt W' x := fun x hx => hb.same (hlt x (by simpa using hx))
  refine ⟨ds, [], p ++ [], [], p, [], hW0, ?_, ?_, ?_, hb.frame _, fun h => by cases h⟩
  · simp only [List.append_nil, hfn, hrt]
    exact trodAll_mk1 (shut_bool htb _)
  · simp only [List.append_nil, hfn]
    exact trodAll_move hgood hA hsame fun x hx => by simpa using hlt x (by simpa using hx)
  · simp only [List.append_nil, hfn, hv]
    rfl
theorem open_nums {r : Reach} {b0 : Nat} {t e : TypeId} {k : IntKind} {v : Value} {d : DataW H} {ps : List MemPlace} (ht : P.underlying t = some (.slice e)) (he : P.underlying e = some (.int k)) (hc : P.cellsOf e = 1)
    (hval : Value.okWide P w r b0 t v) (h : DataW.Trod enc P w base (fun _ => true) held t v d ps) :
    ∃ (s : SlV) (l : List Int), v = .slice s.p s.n s.c ∧ SlIs (fun n => [Value.int k n]) 1 w s l ∧ (∀ n ∈ l, (Lit.int k n).wf = true) ∧ l.length ≤ 9223372036854775807 := by
  obtain ⟨p, len, cap, rfl⟩ := okWide_slice ht hval
  obtain ⟨fuel, hf⟩ := h
  have hcs : (Value.slice p len cap).cells.toList = [.slice p len cap] := rfl
  rw [hcs] at hf
  rcases open_ints ht he hc hf with ⟨h1, _⟩ | ⟨a, len', cap', zs, h1, hb, hl, hm, hz, _, hcell, hw⟩
  · simp only [List.cons.injEq, and_true, Value.slice.injEq] at h1
    obtain ⟨rfl, rfl, rfl⟩ := h1
    exact ⟨⟨none, 0, 0⟩, [], rfl, slIs_nil, by simp, by simp⟩
  · simp only [List.cons.injEq, and_true, Value.slice.injEq] at h1
    obtain ⟨rfl, rfl, rfl⟩ := h1
    simp only [if_true] at hz
    have hlen : (zs.take len).length = len := by simp; omega
    refine ⟨⟨some a, len, cap⟩, zs.take len, rfl, ⟨hlen.symm, hl, fun hne => ?_⟩, fun n hn => hw n (List.mem_of_mem_take hn), by rw [hlen]; unfold maxLen at hm; omega⟩
    have hpos : 0 < len := by
      rcases Nat.eq_zero_or_pos len with h0 | h0
      · subst h0; simp at hne
      · exact h0
    have h0 := hcell 0 (by omega)
    have hspot : a.spot = none := by
      have := World.cell?_spot h0
      obtain ⟨b, o, sp⟩ := a
      simpa [Addr.add] using this
    obtain ⟨b, o, sp⟩ := a
    simp only at hspot
    subst hspot
    refine ⟨b, o, rfl, ?_, fun i x hx j u hu => ?_⟩
    · rcases Nat.lt_or_ge b w.heap.size with h9 | h9
      · exact h9
      · rw [addr_add] at h0
        simp [World.cell?, Array.getElem?_eq_none h9] at h0
    · have hi : i < len := by
        have := (List.getElem?_eq_some_iff.1 hx).1
        omega
      have hj : j = 0 := by
        have := (List.getElem?_eq_some_iff.1 hu).1
        simpa using this
      subst hj
      simp only [List.getElem?_cons_zero, Option.some.injEq] at hu
      subst hu
      have := hcell i (by omega)
      rw [addr_add] at this
      rw [Nat.mul_one, Nat.add_zero, this]
      have : zs.getD i 0 = x := by
        rw [List.getElem?_take_of_lt hi] at hx
        simp [List.getD, hx]
      rw [this]
end
theorem wf_u8 {n : Int} (h : (Lit.int .u8 n).wf = true) : 0 ≤ n ∧ n ≤ 255 := by
  simp [Lit.wf, IntKind.min, IntKind.max, IntKind.signed, IntKind.bits] at h
  omega
end Go.AX
/- Plain functions of the hull layer, as its Go text computes them. -/
namespace Hull
structure Pt where
  X : Int
  Y : Int
  deriving Inhabited, DecidableEq
def pt (l : List Pt) (i : Int) : Pt := l.getD i.toNat ⟨0, 0⟩
def within (n a b : Int) : Bool := decide (n ≥ a) && decide (n ≤ b)
def curveAt (l : List Pt) (i : Int) : Bool :=
  within (pt l i).X 0 400 && within (pt l i).Y 0 20000 && !(decide (i > 0) && decide ((pt l i).X ≤ (pt l (i - 1)).X))
def curve (l : List Pt) : Bool := within (l.length : Int) 2 8 && ((pt l 0).X == 0) && (List.range l.length).all fun i => curveAt l (i : Int)
def steadyAt (l : List Pt) (way : Int) (i : Int) : Bool := !decide (((pt l i).Y - (pt l (i - 1)).Y) * way < 0)
def steady (l : List Pt) (way : Int) : Bool := curve l && (List.range (l.length - 1)).all fun i => steadyAt l way ((i + 1 : Nat) : Int)
def endX (l : List Pt) : Int := (pt l ((l.length : Int) - 1)).X
def valFrom (l : List Pt) (x : Int) : Nat → Nat → Int × Int
  | 0, _ => ((pt l ((l.length : Int) - 1)).Y, 1)
  | f + 1, i =>
    if x ≤ (pt l (i : Int)).X then
      ((pt l ((i : Int) - 1)).Y * ((pt l (i : Int)).X - (pt l ((i : Int) - 1)).X) + ((pt l (i : Int)).Y - (pt l ((i : Int) - 1)).Y) * (x - (pt l ((i : Int) - 1)).X), (pt l (i : Int)).X - (pt l ((i : Int) - 1)).X)
    else valFrom l x f (i + 1)
def value (l : List Pt) (x : Int) : Int × Int := valFrom l x (l.length - 1) 1
def Bd (l : List Pt) : Prop := ∀ i : Int, 0 ≤ i → i < l.length → 0 ≤ (pt l i).X ∧ (pt l i).X ≤ 400 ∧ 0 ≤ (pt l i).Y ∧ (pt l i).Y ≤ 20000
theorem mul_bd {x y A B : Int} (hx : -A ≤ x ∧ x ≤ A) (hy : -B ≤ y ∧ y ≤ B) : -(A * B) ≤ x * y ∧ x * y ≤ A * B := by
  have h1 : 0 ≤ (A - x) * (B + y) := Int.mul_nonneg (by omega) (by omega)
  have h2 : 0 ≤ (A + x) * (B - y) := Int.mul_nonneg (by omega) (by omega)
  have h3 : 0 ≤ (A - x) * (B - y) := Int.mul_nonneg (by omega) (by omega)
  have h4 : 0 ≤ (A + x) * (B + y) := Int.mul_nonneg (by omega) (by omega)
  simp only [Int.sub_mul, Int.mul_sub, Int.add_mul, Int.mul_add] at h1 h2 h3 h4
  constructor <;> omega
theorem curve_lt {l : List Pt} (h : curve l = true) : l ≠ [] ∧ 2 ≤ l.length ∧ l.length ≤ 8 := by
  simp only [curve, within, Bool.and_eq_true, decide_eq_true_eq] at h
  obtain ⟨⟨⟨h1, h2⟩, _⟩, _⟩ := h
  refine ⟨fun e => by subst e; simp at h1, by omega, by omega⟩
theorem curve_at {l : List Pt} (h : curve l = true) {i : Int} (h0 : 0 ≤ i) (h1 : i < l.length) : curveAt l i = true := by
  simp only [curve, Bool.and_eq_true, List.all_eq_true, List.mem_range] at h
  have := h.2 i.toNat (by omega)
  rwa [Int.toNat_of_nonneg h0] at this
theorem curve_bd {l : List Pt} (h : curve l = true) : Bd l := by
  intro i h0 h1
  have := curve_at h h0 h1
  simp only [curveAt, within, Bool.and_eq_true, decide_eq_true_eq] at this
  omega
structure Ice where
  Conc : Int
  Thick : Int
  Ridge : Int
  Press : Int
  deriving Inhabited, DecidableEq
structure Span where
  Lo : Int
  Hi : Int
  deriving Inhabited, DecidableEq
structure Cell where
  Conc : Span
  Thick : Span
  Ridge : Span
  Press : Span
  deriving Inhabited, DecidableEq
structure Part where
  Cell : Cell
  Channel : Bool
  Length : Int
  deriving Inhabited, DecidableEq
structure Ship where
  Class : Int
  Power : Int
  Draught : Int
  Tonnes : Int
  Thrust : List Pt
  Water : List Pt
  Ice : List Pt
  Slow : Int
  Brash : Int
  Ridge : Int
  Press : Int
  deriving Inhabited, DecidableEq
structure Ride where
  Ship : Ship
  in_ : Ice
  channel : Bool
def rule1 (s : Ship) : Bool := within s.Class 1 6
def rule2 (s : Ship) : Bool := within s.Power 100 100000 && within s.Draught 10 2000 && within s.Tonnes 10 500000
def rule3 (s : Ship) : Bool := within s.Slow 0 20 && within s.Brash 0 100 && within s.Ridge 0 500 && within s.Press 0 5000
def rule4 (s : Ship) : Bool := steady s.Thrust (-1) && within (endX s.Thrust) 10 250
def rule5 (s : Ship) : Bool := steady s.Water 1 && decide (endX s.Water ≤ 250)
def rule6 (s : Ship) : Bool := steady s.Ice 1 && ((pt s.Ice 0).Y == 0) && (endX s.Ice == 400)
def check (s : Ship) : Int :=
  if rule1 s = false then 41 else if rule2 s = false then 40 else if rule3 s = false then 40 else if rule4 s = false then 40 else if rule5 s = false then 40 else if rule6 s = false then 40 else 0
theorem steady_curve {l : List Pt} {w : Int} (h : steady l w = true) : curve l = true := by
  simp only [steady, Bool.and_eq_true] at h; exact h.1
theorem within_t {n a b : Int} (h : within n a b = true) : a ≤ n ∧ n ≤ b := by
  simp only [within, Bool.and_eq_true, decide_eq_true_eq] at h; omega
theorem within_f {n a b : Int} (h : within n a b = false) : ¬ (a ≤ n ∧ n ≤ b) := by
  simp only [within, Bool.and_eq_false_iff, decide_eq_false_iff_not] at h; omega
theorem b1 {a b c : Bool} : (!a || !b || c) = true → (a && b && !c) = false := by cases a <;> cases b <;> cases c <;> simp
theorem b3 {a b c : Bool} : (!a || !b || c) = false → (a && b && !c) = true := by cases a <;> cases b <;> cases c <;> simp
theorem b4 {a : Bool} : a = false → (!a) = true := by cases a <;> simp
theorem f2t {a : Bool} : a = false → ¬ a = true := by cases a <;> simp
theorem b2 {a : Bool} : a = true → (!a) = false := by cases a <;> simp
theorem steady_len {l : List Pt} {w : Int} (h : steady l w = true) : 2 ≤ l.length ∧ l.length ≤ 8 := (curve_lt (steady_curve h)).2
theorem curve_no1 {l : List Pt} (h : (!within (l.length : Int) 2 8 || (pt l 0).X != 0) = true) : curve l = false := by
  cases h1 : within (l.length : Int) 2 8 <;> simp_all [curve]
theorem curve_no2 {l : List Pt} {k : Nat} (hk : k < l.length) (h : curveAt l (k : Int) = false) : curve l = false := by
  cases hc : curve l with
  | false => rfl
  | true => have := curve_at hc (i := (k : Int)) (by omega) (by omega); rw [h] at this; cases this
theorem curve_yes {l : List Pt} {k : Nat} (h1 : within (l.length : Int) 2 8 = true) (h2 : (pt l 0).X = 0) (h : ∀ j < k, curveAt l (j : Int) = true) (hk : l.length ≤ k) : curve l = true := by
  simp only [curve, h1, h2, beq_self_eq_true, Bool.and_self, Bool.true_and, List.all_eq_true, List.mem_range]
  exact fun i hi => h i (by omega)
theorem steady_no {l : List Pt} {w : Int} {k : Nat} (h1 : 1 ≤ k) (hk : k < l.length) (h : steadyAt l w (k : Int) = false) : steady l w = false := by
  cases hs : steady l w with
  | false => rfl
  | true =>
    simp only [steady, Bool.and_eq_true, List.all_eq_true, List.mem_range] at hs
    have := hs.2 (k - 1) (by omega)
    rw [show k - 1 + 1 = k by omega, h] at this
    cases this
theorem steady_yes {l : List Pt} {w : Int} {k : Nat} (hc : curve l = true) (h : ∀ j < k, 1 ≤ j → steadyAt l w (j : Int) = true) (hk : l.length ≤ k) : steady l w = true := by
  simp only [steady, hc, Bool.true_and, List.all_eq_true, List.mem_range]
  exact fun i hi => h (i + 1) (by omega) (by omega)
theorem mul_nn {x y a A b B : Int} (hx : a ≤ x ∧ x ≤ A) (hy : b ≤ y ∧ y ≤ B) (ha : 0 ≤ a) (hb : 0 ≤ b) : a * b ≤ x * y ∧ x * y ≤ A * B := by
  constructor
  · exact Int.mul_le_mul hx.1 hy.1 hb (by omega)
  · exact Int.mul_le_mul hx.2 hy.2 (by omega) (by omega)
theorem valFrom_bd {l : List Pt} (hc : curve l = true) {x : Int} (_hx : 0 ≤ x) : ∀ (f i : Nat), 1 ≤ i → i + f = l.length → (pt l ((i : Int) - 1)).X ≤ x →
    1 ≤ (valFrom l x f i).2 ∧ (valFrom l x f i).2 ≤ 400 ∧ 0 ≤ (valFrom l x f i).1 ∧ (valFrom l x f i).1 ≤ 20000 * (valFrom l x f i).2 := by
  have hB := curve_bd hc
  have hlen := (curve_lt hc).2
  intro f
  induction f with
  | zero =>
    intro i h1 h2 h3
    have := hB ((l.length : Int) - 1) (by omega) (by omega)
    simp only [valFrom]
    omega
  | succ f ih =>
    intro i h1 h2 h3
    have ha := hB ((i : Int) - 1) (by omega) (by omega)
    have hb := hB (i : Int) (by omega) (by omega)
    have hat := curve_at hc (i := (i : Int)) (by omega) (by omega)
    simp only [valFrom]
    by_cases hle : x ≤ (pt l (i : Int)).X
    · rw [if_pos hle]
      have hlt : (pt l ((i : Int) - 1)).X < (pt l (i : Int)).X := by
        simp only [curveAt, Bool.and_eq_true, Bool.not_eq_true', Bool.and_eq_false_iff, decide_eq_false_iff_not] at hat
        rcases hat.2 with h | h <;> omega
      refine ⟨by omega, by omega, ?_, ?_⟩
      all_goals
        have e1 : (pt l ((i : Int) - 1)).Y * ((pt l (i : Int)).X - (pt l ((i : Int) - 1)).X) + ((pt l (i : Int)).Y - (pt l ((i : Int) - 1)).Y) * (x - (pt l ((i : Int) - 1)).X) =
          (pt l ((i : Int) - 1)).Y * ((pt l (i : Int)).X - x) + (pt l (i : Int)).Y * (x - (pt l ((i : Int) - 1)).X) := by
          simp only [Int.sub_mul, Int.mul_sub]; omega
        have p1 := Int.mul_nonneg (a := (pt l ((i : Int) - 1)).Y) (b := (pt l (i : Int)).X - x) (by omega) (by omega)
        have p2 := Int.mul_nonneg (a := (pt l (i : Int)).Y) (b := x - (pt l ((i : Int) - 1)).X) (by omega) (by omega)
        have p3 := Int.mul_le_mul_of_nonneg_right (a := (pt l ((i : Int) - 1)).Y) (b := 20000) (c := (pt l (i : Int)).X - x) (by omega) (by omega)
        have p4 := Int.mul_le_mul_of_nonneg_right (a := (pt l (i : Int)).Y) (b := 20000) (c := x - (pt l ((i : Int) - 1)).X) (by omega) (by omega)
        rw [e1]
        simp only []
        omega
    · rw [if_neg hle]
      exact ih (i + 1) (by omega) (by omega) (by rw [show ((i + 1 : Nat) : Int) - 1 = (i : Int) by omega]; omega)
theorem curve_x0 {l : List Pt} (hc : curve l = true) : (pt l 0).X = 0 := by
  simp only [curve, Bool.and_eq_true, beq_iff_eq] at hc
  exact hc.1.2
theorem value_bd {l : List Pt} (hc : curve l = true) {x : Int} (hx : 0 ≤ x) : 1 ≤ (value l x).2 ∧ (value l x).2 ≤ 400 ∧ 0 ≤ (value l x).1 ∧ (value l x).1 ≤ 20000 * (value l x).2 := by
  have hlen := (curve_lt hc).2
  exact valFrom_bd hc hx _ 1 (Nat.le_refl 1) (by omega) (by have := curve_x0 hc; simp; omega)
def firstI (c : Cell) : Ice := ⟨c.Conc.Lo, c.Thick.Lo, c.Ridge.Lo, c.Press.Lo⟩
def lastI (c : Cell) : Ice := ⟨c.Conc.Hi, c.Thick.Hi, c.Ridge.Hi, c.Press.Hi⟩
def inI (a b c : Int) : Bool := decide (a ≥ b) && decide (a ≤ c)
def goodIce (i : Ice) : Prop := (0 ≤ i.Conc ∧ i.Conc ≤ 100) ∧ (0 ≤ i.Thick ∧ i.Thick ≤ 400) ∧ (0 ≤ i.Ridge ∧ i.Ridge ≤ 100) ∧ (0 ≤ i.Press ∧ i.Press ≤ 3)
theorem goodIce_bd {i : Ice} (h : goodIce i) : (0 ≤ i.Conc ∧ i.Conc ≤ 100) ∧ (0 ≤ i.Thick ∧ i.Thick ≤ 400) ∧ (0 ≤ i.Ridge ∧ i.Ridge ≤ 100) ∧ (0 ≤ i.Press ∧ i.Press ≤ 3) := h
def loadI (i : Ice) (v : Int) (ch : Bool) : Int :=
  if i.Conc = 0 then 0
  else (if ch then (i.Thick * (100 + v) + 1) / 2 else i.Thick * (100 + v)) + 300 * (if ch then 0 else i.Ridge) + 2000 * i.Press
def lowest (n d : Int) : Int × Int := (n / (Int.gcd n d : Int), d / (Int.gcd n d : Int))
theorem gcd_step {a b : Int} (ha : 0 ≤ a) (hb : 0 ≤ b) : Int.gcd b (a % b) = Int.gcd a b := by
  obtain ⟨x, rfl⟩ := Int.eq_ofNat_of_zero_le ha
  obtain ⟨y, rfl⟩ := Int.eq_ofNat_of_zero_le hb
  show Nat.gcd y (x % y) = Nat.gcd x y
  rw [Nat.gcd_comm x y, Nat.gcd_rec y x, Nat.gcd_comm]
def at_ (l : List Pt) (x : Int) : (Int × Int) × Int :=
  if curve l = false then ((0, 0), 40) else if within x 0 1000 = false then ((0, 0), 6) else (lowest (value l x).1 (value l x).2, 0)
theorem check_rules {s : Ship} (h : check s = 0) : rule1 s = true ∧ rule2 s = true ∧ rule3 s = true ∧ rule4 s = true ∧ rule5 s = true ∧ rule6 s = true := by
  unfold check at h
  refine ⟨?_, ?_, ?_, ?_, ?_, ?_⟩
  · cases e : rule1 s <;> simp_all
  · cases e : rule2 s <;> cases e1 : rule1 s <;> simp_all
  · cases e : rule3 s <;> cases e1 : rule1 s <;> cases e2 : rule2 s <;> simp_all
  · cases e : rule4 s <;> cases e1 : rule1 s <;> cases e2 : rule2 s <;> cases e3 : rule3 s <;> simp_all
  · cases e : rule5 s <;> cases e1 : rule1 s <;> cases e2 : rule2 s <;> cases e3 : rule3 s <;> cases e4 : rule4 s <;> simp_all
  · cases e : rule6 s <;> cases e1 : rule1 s <;> cases e2 : rule2 s <;> cases e3 : rule3 s <;> cases e4 : rule4 s <;> cases e5 : rule5 s <;> simp_all
theorem check_steadyThrust {s : Ship} (h : check s = 0) : steady s.Thrust (-1) = true := by
  have := (check_rules h).2.2.2.1; simp only [rule4, Bool.and_eq_true] at this; exact this.1
theorem check_steadyWater {s : Ship} (h : check s = 0) : steady s.Water 1 = true := by
  have := (check_rules h).2.2.2.2.1; simp only [rule5, Bool.and_eq_true] at this; exact this.1
theorem check_steadyIce {s : Ship} (h : check s = 0) : steady s.Ice 1 = true := by
  have := (check_rules h).2.2.2.2.2; simp only [rule6, Bool.and_eq_true] at this; exact this.1.1
theorem check_curveThrust {s : Ship} (h : check s = 0) : curve s.Thrust = true := steady_curve (check_steadyThrust h)
theorem check_curveWater {s : Ship} (h : check s = 0) : curve s.Water = true := steady_curve (check_steadyWater h)
theorem check_curveIce {s : Ship} (h : check s = 0) : curve s.Ice = true := steady_curve (check_steadyIce h)
theorem check_bd {s : Ship} (h : check s = 0) : (1 ≤ s.Class ∧ s.Class ≤ 6) ∧ (100 ≤ s.Power ∧ s.Power ≤ 100000) ∧ (0 ≤ s.Slow ∧ s.Slow ≤ 20) ∧ (0 ≤ s.Brash ∧ s.Brash ≤ 100) ∧ (0 ≤ s.Ridge ∧ s.Ridge ≤ 500) ∧ (0 ≤ s.Press ∧ s.Press ≤ 5000) := by
  obtain ⟨h1, h2, h3, _⟩ := check_rules h
  simp only [rule1, rule2, rule3, within, Bool.and_eq_true, decide_eq_true_eq] at h1 h2 h3
  omega
def thrust (s : Ship) (v : Int) : Int := (value s.Thrust v).1 / (value s.Thrust v).2
def resN (s : Ship) (i : Ice) (ch : Bool) (v : Int) : Int :=
  i.Conc * ((value s.Ice i.Thick).1 * (1000 + s.Slow * v) * (if ch = true then s.Brash else 100) + s.Ridge * (if ch = true then 0 else i.Ridge) * (value s.Ice i.Thick).2 * 100000)
def resistance (s : Ship) (i : Ice) (ch : Bool) (v : Int) : Int :=
  ((value s.Water v).1 * ((value s.Ice i.Thick).2 * 10000000) + resN s i ch v * (value s.Water v).2 + s.Press * i.Press * (value s.Water v).2 * ((value s.Ice i.Thick).2 * 10000000)
    + (value s.Water v).2 * ((value s.Ice i.Thick).2 * 10000000) - 1) / ((value s.Water v).2 * ((value s.Ice i.Thick).2 * 10000000))
def makes (s : Ship) (i : Ice) (ch : Bool) (v : Int) : Bool := decide (v ≤ endX s.Thrust) && decide (thrust s v ≥ resistance s i ch v)
def strengths : List Int := [4000, 8000, 14000, 24000, 40000, 90000]
def bears (s : Ship) (i : Ice) (ch : Bool) (v : Int) : Bool := decide (loadI i v ch ≤ strengths.getD (s.Class - 1).toNat 0)
def greatFrom (so : Int → Bool) : Nat → Int → Int → Int
  | 0, lo, _ => lo
  | f + 1, lo, hi => if lo < hi then (if so (lo + (hi - lo + 1) / 2) = true then greatFrom so f (lo + (hi - lo + 1) / 2) hi else greatFrom so f lo (lo + (hi - lo + 1) / 2 - 1)) else lo
def great (so : Int → Bool) (lo hi : Int) : Int := greatFrom so (hi - lo).toNat lo hi
theorem greatFrom_fuel {so : Int → Bool} : ∀ {f g : Nat} {lo hi : Int}, (hi - lo).toNat ≤ f → (hi - lo).toNat ≤ g → greatFrom so f lo hi = greatFrom so g lo hi := by
  intro f
  induction f with
  | zero =>
    intro g lo hi h1 _
    cases g with
    | zero => rfl
    | succ g => simp only [greatFrom]; rw [if_neg (by omega)]
  | succ f ih =>
    intro g lo hi h1 h2
    cases g with
    | zero => simp only [greatFrom]; rw [if_neg (by omega)]
    | succ g =>
      simp only [greatFrom]
      by_cases h : lo < hi
      · rw [if_pos h, if_pos h]
        rw [ih (g := g) (lo := lo + (hi - lo + 1) / 2) (hi := hi) (by omega) (by omega), ih (g := g) (lo := lo) (hi := lo + (hi - lo + 1) / 2 - 1) (by omega) (by omega)]
      · rw [if_neg h, if_neg h]
theorem great_step {so : Int → Bool} {lo hi : Int} (h : lo < hi) : great so lo hi = if so (lo + (hi - lo + 1) / 2) = true then great so (lo + (hi - lo + 1) / 2) hi else great so lo (lo + (hi - lo + 1) / 2 - 1) := by
  unfold great
  rw [show (hi - lo).toNat = ((hi - lo).toNat - 1) + 1 by omega, greatFrom, if_pos h]
  rw [greatFrom_fuel (f := (hi - lo).toNat - 1) (g := (hi - (lo + (hi - lo + 1) / 2)).toNat) (lo := lo + (hi - lo + 1) / 2) (by omega) (by omega),
    greatFrom_fuel (f := (hi - lo).toNat - 1) (g := ((lo + (hi - lo + 1) / 2 - 1) - lo).toNat) (lo := lo) (hi := lo + (hi - lo + 1) / 2 - 1) (by omega) (by omega)]
theorem great_done {so : Int → Bool} {lo hi : Int} (h : ¬ lo < hi) : great so lo hi = lo := by
  unfold great
  rw [show (hi - lo).toNat = 0 by omega, greatFrom]
def greatest (so : Int → Bool) (lo hi : Int) : Int × Bool := if so lo = true then (great so lo hi, true) else (0, false)
def speed (s : Ship) (i : Ice) (ch : Bool) : Int := (greatest (fun v => makes s i ch v) 0 250).1
def goes (s : Ship) (i : Ice) (ch : Bool) : Int × Bool := greatest (fun v => makes s i ch v && bears s i ch v) 10 250
def all4 (so : Int → Bool) : Bool := so 0 && so 1 && so 2 && so 3
def checkIce (i : Ice) : Int :=
  if all4 (fun n => inI (([i.Conc, i.Thick, i.Ridge, i.Press] : List Int).getD n.toNat 0) 0 (([100, 400, 100, 3] : List Int).getD n.toNat 0)) = false then 20 else 0
def rightS (s : Span) (n : Int) : Bool := inI s.Lo 0 (([100, 400, 100, 3] : List Int).getD n.toNat 0) && inI s.Hi s.Lo (([100, 400, 100, 3] : List Int).getD n.toNat 0)
def checkCell (c : Cell) : Int :=
  if all4 (fun n => rightS (([c.Conc, c.Thick, c.Ridge, c.Press] : List Span).getD n.toNat ⟨0, 0⟩) n) = false then 20 else 0
theorem ite_err {c : Bool} {e : Int} (he : e ≠ 0) : (if c = false then e else 0) = 0 ↔ c = true := by cases c <;> simp [he]
theorem checkIce_ok {i : Ice} : checkIce i = 0 ↔ goodIce i := by
  unfold checkIce
  rw [ite_err (by decide)]
  simp only [all4, inI, Bool.and_eq_true, decide_eq_true_eq, goodIce]
  constructor
  · rintro ⟨⟨⟨⟨a, b⟩, c, d⟩, e, f⟩, g, h⟩; exact ⟨⟨a, b⟩, ⟨c, d⟩, ⟨e, f⟩, g, h⟩
  · rintro ⟨⟨a, b⟩, ⟨c, d⟩, ⟨e, f⟩, g, h⟩; exact ⟨⟨⟨⟨a, b⟩, c, d⟩, e, f⟩, g, h⟩
def goodSpan (s : Span) (n : Int) : Prop := 0 ≤ s.Lo ∧ s.Lo ≤ s.Hi ∧ s.Hi ≤ n
def goodCell (c : Cell) : Prop := goodSpan c.Conc 100 ∧ goodSpan c.Thick 400 ∧ goodSpan c.Ridge 100 ∧ goodSpan c.Press 3
theorem checkCell_ok {c : Cell} : checkCell c = 0 ↔ goodCell c := by
  unfold checkCell
  rw [ite_err (by decide)]
  simp only [all4, rightS, inI, Bool.and_eq_true, decide_eq_true_eq, goodCell, goodSpan]
  constructor
  · rintro ⟨⟨⟨⟨⟨_, _⟩, _, _⟩, ⟨_, _⟩, _, _⟩, ⟨_, _⟩, _, _⟩, ⟨_, _⟩, _, _⟩
    exact ⟨⟨by assumption, by assumption, by assumption⟩, ⟨by assumption, by assumption, by assumption⟩, ⟨by assumption, by assumption, by assumption⟩, ⟨by assumption, by assumption, by assumption⟩⟩
  · rintro ⟨⟨h1, h2, h3⟩, ⟨h4, h5, h6⟩, ⟨h7, h8, h9⟩, ⟨h10, h11, h12⟩⟩
    exact ⟨⟨⟨⟨⟨h1, Int.le_trans h2 h3⟩, h2, h3⟩, ⟨h4, Int.le_trans h5 h6⟩, h5, h6⟩, ⟨h7, Int.le_trans h8 h9⟩, h8, h9⟩, ⟨h10, Int.le_trans h11 h12⟩, h11, h12⟩
theorem goodCell_last {c : Cell} (h : goodCell c) : goodIce (lastI c) := by
  obtain ⟨⟨_, _, _⟩, ⟨_, _, _⟩, ⟨_, _, _⟩, ⟨_, _, _⟩⟩ := h
  simp only [goodIce, lastI]; omega
theorem goodCell_first {c : Cell} (h : goodCell c) : goodIce (firstI c) := by
  obtain ⟨⟨_, _, _⟩, ⟨_, _, _⟩, ⟨_, _, _⟩, ⟨_, _, _⟩⟩ := h
  simp only [goodIce, firstI]; omega
def loaded (i : Ice) (v : Int) : Int := if checkIce i ≠ 0 then checkIce i else if within v 0 250 = false then 6 else 0
theorem loaded_ok {i : Ice} {v : Int} (h : loaded i v = 0) : goodIce i ∧ 0 ≤ v ∧ v ≤ 255 := by
  unfold loaded at h
  by_cases h1 : checkIce i = 0
  · rw [if_neg (by simp [h1])] at h
    rw [ite_err (by decide)] at h
    have := within_t h
    exact ⟨checkIce_ok.1 h1, by omega, by omega⟩
  · rw [if_pos h1] at h; exact absurd h h1
def asked (s : Ship) (i : Ice) (v : Int) : Int := if check s ≠ 0 then check s else loaded i v
theorem asked_ok {s : Ship} {i : Ice} {v : Int} (h : asked s i v = 0) : check s = 0 ∧ goodIce i ∧ 0 ≤ v ∧ v ≤ 255 := by
  unfold asked at h
  by_cases h1 : check s = 0
  · rw [if_neg (by simp [h1])] at h; exact ⟨h1, loaded_ok h⟩
  · rw [if_pos h1] at h; exact absurd h h1
def met (s : Ship) (c : Cell) : Int := if check s ≠ 0 then check s else checkCell c
theorem met_ok {s : Ship} {c : Cell} (h : met s c = 0) : check s = 0 ∧ goodCell c := by
  unfold met at h
  by_cases h1 : check s = 0
  · rw [if_neg (by simp [h1])] at h; exact ⟨h1, checkCell_ok.1 h⟩
  · rw [if_pos h1] at h; exact absurd h h1
def safe (s : Ship) (c : Cell) (ch : Bool) : Int × Int :=
  if speed s (lastI c) ch < 10 then (0, 4) else if (goes s (lastI c) ch).2 = false then (0, 41) else ((goes s (lastI c) ch).1, 0)
def speedE (s : Ship) (i : Ice) (ch : Bool) : Int × Int := if asked s i 0 ≠ 0 then (0, asked s i 0) else (speed s i ch, 0)
def resistanceE (s : Ship) (i : Ice) (v : Int) (ch : Bool) : Int × Int := if asked s i v ≠ 0 then (0, asked s i v) else (resistance s i ch v, 0)
def loadE (i : Ice) (v : Int) (ch : Bool) : Int × Int := if loaded i v ≠ 0 then (0, loaded i v) else (loadI i v ch, 0)
def takes (p : Part) (v : Int) : Int := (60 * p.Length + v - 1) / v
end Hull
/- Plain laws of the hull layer: what is monotone. -/
namespace Hull
theorem mulL {a b c : Int} (h : a ≤ b) (hc : 0 ≤ c) : c * a ≤ c * b := Int.mul_le_mul_of_nonneg_left h hc
theorem mulR {a b c : Int} (h : a ≤ b) (hc : 0 ≤ c) : a * c ≤ b * c := Int.mul_le_mul_of_nonneg_right h hc
theorem ceil_mono {a b c d : Int} (hb : 0 < b) (hd : 0 < d) (h : a * d ≤ c * b) : (a + b - 1) / b ≤ (c + d - 1) / d := by
  have h1 := Int.lt_mul_ediv_self_add (x := c + d - 1) hd
  have h2 : c ≤ d * ((c + d - 1) / d) := by omega
  have h3 : c * b ≤ d * ((c + d - 1) / d) * b := mulR h2 (by omega)
  have h4 : a * d ≤ ((c + d - 1) / d * b) * d := by
    have e : d * ((c + d - 1) / d) * b = ((c + d - 1) / d * b) * d := by ac_rfl
    omega
  have h5 : a ≤ (c + d - 1) / d * b := Int.le_of_mul_le_mul_right h4 hd
  have h6 : (a + b - 1) / b < (c + d - 1) / d + 1 := Int.ediv_lt_of_lt_mul hb (by rw [Int.add_mul]; omega)
  omega
theorem floor_mono {a b c d : Int} (hb : 0 < b) (hd : 0 < d) (h : a * d ≤ c * b) : a / b ≤ c / d := by
  have h1 : a / b * b ≤ a := Int.ediv_mul_le a (by omega)
  refine Int.le_ediv_of_mul_le hd ?_
  have h2 : a / b * b * d ≤ a * d := mulR h1 (by omega)
  have h3 : (a / b * d) * b ≤ c * b := by
    have e : a / b * b * d = (a / b * d) * b := by ac_rfl
    omega
  exact Int.le_of_mul_le_mul_right h3 hb
def vf (X Z : Nat → Int) (n : Nat) (x : Int) : Nat → Nat → Int × Int
  | 0, _ => (Z (n - 1), 1)
  | f + 1, i => if x ≤ X i then (Z (i - 1) * (X i - X (i - 1)) + (Z i - Z (i - 1)) * (x - X (i - 1)), X i - X (i - 1)) else vf X Z n x f (i + 1)
theorem vf_ge {X Z : Nat → Int} {n : Nat} (hX : ∀ i, 1 ≤ i → i < n → X (i - 1) < X i) (hZ : ∀ i, 1 ≤ i → i < n → Z (i - 1) ≤ Z i) {x : Int} : ∀ (f i : Nat), 1 ≤ i → i + f = n → X (i - 1) ≤ x →
    1 ≤ (vf X Z n x f i).2 ∧ Z (i - 1) * (vf X Z n x f i).2 ≤ (vf X Z n x f i).1 := by
  intro f
  induction f with
  | zero => intro i h1 h2 h3; simp only [vf]; rw [show n - 1 = i - 1 by omega]; omega
  | succ f ih =>
    intro i h1 h2 h3
    simp only [vf]
    have hx := hX i h1 (by omega)
    have hz := hZ i h1 (by omega)
    by_cases h : x ≤ X i
    · rw [if_pos h]
      have := Int.mul_nonneg (a := Z i - Z (i - 1)) (b := x - X (i - 1)) (by omega) (by omega)
      simp only []
      omega
    · rw [if_neg h]
      obtain ⟨h4, h5⟩ := ih (i + 1) (by omega) (by omega) (by rw [show i + 1 - 1 = i by omega]; omega)
      rw [show i + 1 - 1 = i by omega] at h5
      have := mulR hz (c := (vf X Z n x f (i + 1)).2) (by omega)
      exact ⟨h4, by omega⟩
theorem vf_mono {X Z : Nat → Int} {n : Nat} (hX : ∀ i, 1 ≤ i → i < n → X (i - 1) < X i) (hZ : ∀ i, 1 ≤ i → i < n → Z (i - 1) ≤ Z i) {x y : Int} (hxy : x ≤ y) : ∀ (f i : Nat), 1 ≤ i → i + f = n → X (i - 1) ≤ x →
    (vf X Z n x f i).1 * (vf X Z n y f i).2 ≤ (vf X Z n y f i).1 * (vf X Z n x f i).2 := by
  intro f
  induction f with
  | zero => intro i _ _ _; simp only [vf]; omega
  | succ f ih =>
    intro i h1 h2 h3
    simp only [vf]
    have hx := hX i h1 (by omega)
    have hz := hZ i h1 (by omega)
    by_cases h : x ≤ X i
    · rw [if_pos h]
      by_cases hy : y ≤ X i
      · rw [if_pos hy]
        simp only []
        refine mulR ?_ (by omega)
        have := mulL (a := x - X (i - 1)) (b := y - X (i - 1)) (c := Z i - Z (i - 1)) (by omega) (by omega)
        omega
      · rw [if_neg hy]
        obtain ⟨h4, h5⟩ := vf_ge hX hZ (x := y) f (i + 1) (by omega) (by omega) (by rw [show i + 1 - 1 = i by omega]; omega)
        rw [show i + 1 - 1 = i by omega] at h5
        simp only []
        have h6 : Z (i - 1) * (X i - X (i - 1)) + (Z i - Z (i - 1)) * (x - X (i - 1)) ≤ Z i * (X i - X (i - 1)) := by
          have := mulL (a := x - X (i - 1)) (b := X i - X (i - 1)) (c := Z i - Z (i - 1)) (by omega) (by omega)
          rw [Int.sub_mul (Z i) (Z (i - 1)) (X i - X (i - 1))] at this
          omega
        have h7 := mulR h6 (c := (vf X Z n y f (i + 1)).2) (by omega)
        have h8 := mulR h5 (c := X i - X (i - 1)) (by omega)
        have e : Z i * (X i - X (i - 1)) * (vf X Z n y f (i + 1)).2 = Z i * (vf X Z n y f (i + 1)).2 * (X i - X (i - 1)) := by ac_rfl
        omega
    · rw [if_neg h, if_neg (by omega)]
      exact ih (i + 1) (by omega) (by omega) (by rw [show i + 1 - 1 = i by omega]; omega)
theorem valFrom_vf {l : List Pt} {x : Int} : ∀ (f i : Nat), 1 ≤ i → i + f = l.length → valFrom l x f i = vf (fun i => (pt l (i : Int)).X) (fun i => (pt l (i : Int)).Y) l.length x f i := by
  intro f
  induction f with
  | zero => intro i h1 h2; simp only [valFrom, vf]; rw [show ((l.length - 1 : Nat) : Int) = (l.length : Int) - 1 by omega]
  | succ f ih =>
    intro i h1 h2
    simp only [valFrom, vf]
    rw [show ((i - 1 : Nat) : Int) = (i : Int) - 1 by omega, ih (i + 1) (by omega) (by omega)]
theorem vf_neg {X Z : Nat → Int} {n : Nat} {x : Int} : ∀ (f i : Nat), vf X (fun i => -Z i) n x f i = (-(vf X Z n x f i).1, (vf X Z n x f i).2) := by
  intro f
  induction f with
  | zero => intro i; rfl
  | succ f ih =>
    intro i
    simp only [vf]
    by_cases h : x ≤ X i
    · rw [if_pos h, if_pos h]
      simp only [Prod.mk.injEq, and_true]
      rw [show -Z i - -Z (i - 1) = -(Z i - Z (i - 1)) by omega, Int.neg_mul, Int.neg_mul, Int.neg_add]
    · rw [if_neg h, if_neg h]; exact ih (i + 1)
theorem steady_at {l : List Pt} {w : Int} (h : steady l w = true) {i : Nat} (h1 : 1 ≤ i) (h2 : i < l.length) : 0 ≤ ((pt l (i : Int)).Y - (pt l ((i : Int) - 1)).Y) * w := by
  simp only [steady, Bool.and_eq_true, List.all_eq_true, List.mem_range] at h
  have := h.2 (i - 1) (by omega)
  rw [show i - 1 + 1 = i by omega] at this
  simp only [steadyAt, Bool.not_eq_true', decide_eq_false_iff_not] at this
  omega
theorem curve_up {l : List Pt} (hc : curve l = true) {i : Nat} (h1 : 1 ≤ i) (h2 : i < l.length) : (pt l ((i - 1 : Nat) : Int)).X < (pt l (i : Int)).X := by
  have hat := curve_at hc (i := (i : Int)) (by omega) (by omega)
  simp only [curveAt, Bool.and_eq_true, Bool.not_eq_true', Bool.and_eq_false_iff, decide_eq_false_iff_not] at hat
  rw [show ((i - 1 : Nat) : Int) = (i : Int) - 1 by omega]
  rcases hat.2 with h | h <;> omega
theorem value_up {l : List Pt} (h : steady l 1 = true) {x y : Int} (hx : 0 ≤ x) (hxy : x ≤ y) : (value l x).1 * (value l y).2 ≤ (value l y).1 * (value l x).2 := by
  have hc := steady_curve h
  have hlen := (curve_lt hc).2
  have h0 := curve_x0 hc
  unfold value
  rw [valFrom_vf _ 1 (Nat.le_refl 1) (by omega), valFrom_vf _ 1 (Nat.le_refl 1) (by omega)]
  refine vf_mono (fun i h1 h2 => curve_up hc h1 h2) (fun i h1 h2 => ?_) hxy _ 1 (Nat.le_refl 1) (by omega) (by simp; omega)
  have := steady_at h h1 h2
  rw [show ((i - 1 : Nat) : Int) = (i : Int) - 1 by omega]
  omega
theorem value_down {l : List Pt} (h : steady l (-1) = true) {x y : Int} (hx : 0 ≤ x) (hxy : x ≤ y) : (value l y).1 * (value l x).2 ≤ (value l x).1 * (value l y).2 := by
  have hc := steady_curve h
  have hlen := (curve_lt hc).2
  have h0 := curve_x0 hc
  unfold value
  rw [valFrom_vf _ 1 (Nat.le_refl 1) (by omega), valFrom_vf _ 1 (Nat.le_refl 1) (by omega)]
  have := vf_mono (X := fun i => (pt l (i : Int)).X) (Z := fun i => -(pt l (i : Int)).Y) (n := l.length) (fun i h1 h2 => curve_up hc h1 h2) (fun i h1 h2 => by
    have := steady_at h h1 h2
    rw [show ((i - 1 : Nat) : Int) = (i : Int) - 1 by omega]
    omega) hxy (l.length - 1) 1 (Nat.le_refl 1) (by omega) (by simp; omega)
  rw [vf_neg, vf_neg] at this
  simp only [Int.neg_mul] at this
  omega
def resG (w wd n d c A sh R rd P : Int) : Int :=
  (w * (d * 10000000) + c * (n * A * sh + R * rd * d * 100000) * wd + P * wd * (d * 10000000) + wd * (d * 10000000) - 1) / (wd * (d * 10000000))
theorem resG_mono {w wd n d c A sh R rd P w' wd' n' d' c' A' sh' rd' P' : Int} (hwd : 0 < wd) (hd : 0 < d) (hwd' : 0 < wd') (hd' : 0 < d') (hn : 0 ≤ n) (hn' : 0 ≤ n') (hc : 0 ≤ c) (hA : 0 ≤ A) (hsh : 0 ≤ sh) (hR : 0 ≤ R) (hrd : 0 ≤ rd)
    (h1 : w * wd' ≤ w' * wd) (h2 : n * d' ≤ n' * d) (h3 : c ≤ c') (h4 : A ≤ A') (h5 : sh ≤ sh') (h6 : rd ≤ rd') (h7 : P ≤ P') :
    resG w wd n d c A sh R rd P ≤ resG w' wd' n' d' c' A' sh' R rd' P' := by
  unfold resG
  have pd : 0 < d * 10000000 := by omega
  have pd' : 0 < d' * 10000000 := by omega
  refine ceil_mono (Int.mul_pos hwd pd) (Int.mul_pos hwd' pd') ?_
  have t1 : w * (d * 10000000) * (wd' * (d' * 10000000)) ≤ w' * (d' * 10000000) * (wd * (d * 10000000)) := by
    have := mulR h1 (c := (d * 10000000) * (d' * 10000000)) (Int.le_of_lt (Int.mul_pos pd pd'))
    have e1 : w * (d * 10000000) * (wd' * (d' * 10000000)) = w * wd' * ((d * 10000000) * (d' * 10000000)) := by ac_rfl
    have e2 : w' * (d' * 10000000) * (wd * (d * 10000000)) = w' * wd * ((d * 10000000) * (d' * 10000000)) := by ac_rfl
    omega
  have t3 : P * wd * (d * 10000000) * (wd' * (d' * 10000000)) ≤ P' * wd' * (d' * 10000000) * (wd * (d * 10000000)) := by
    have := mulR h7 (c := wd * (d * 10000000) * (wd' * (d' * 10000000))) (Int.le_of_lt (Int.mul_pos (Int.mul_pos hwd pd) (Int.mul_pos hwd' pd')))
    have e1 : P * wd * (d * 10000000) * (wd' * (d' * 10000000)) = P * (wd * (d * 10000000) * (wd' * (d' * 10000000))) := by ac_rfl
    have e2 : P' * wd' * (d' * 10000000) * (wd * (d * 10000000)) = P' * (wd * (d * 10000000) * (wd' * (d' * 10000000))) := by ac_rfl
    omega
  have a1 : n * A * sh * d' ≤ n' * A' * sh' * d := by
    have hA' : A * sh ≤ A' * sh' := Int.mul_le_mul h4 h5 hsh (by omega)
    have := Int.mul_le_mul h2 hA' (Int.mul_nonneg hA hsh) (Int.mul_nonneg hn' (by omega))
    have e1 : n * A * sh * d' = n * d' * (A * sh) := by ac_rfl
    have e2 : n' * A' * sh' * d = n' * d * (A' * sh') := by ac_rfl
    omega
  have a2 : R * rd * d * 100000 * d' ≤ R * rd' * d' * 100000 * d := by
    have := mulR (mulL h6 hR) (c := d * 100000 * d') (Int.mul_nonneg (by omega) (by omega))
    have e1 : R * rd * d * 100000 * d' = R * rd * (d * 100000 * d') := by ac_rfl
    have e2 : R * rd' * d' * 100000 * d = R * rd' * (d * 100000 * d') := by ac_rfl
    omega
  have hin : (n * A * sh + R * rd * d * 100000) * d' ≤ (n' * A' * sh' + R * rd' * d' * 100000) * d := by rw [Int.add_mul, Int.add_mul]; omega
  have pin : 0 ≤ (n * A * sh + R * rd * d * 100000) * d' :=
    Int.mul_nonneg (Int.add_nonneg (Int.mul_nonneg (Int.mul_nonneg hn hA) hsh) (Int.mul_nonneg (Int.mul_nonneg (Int.mul_nonneg hR hrd) (by omega)) (by omega))) (by omega)
  have hcin := Int.mul_le_mul h3 hin pin (by omega : 0 ≤ c')
  have t2 : c * (n * A * sh + R * rd * d * 100000) * wd * (wd' * (d' * 10000000)) ≤ c' * (n' * A' * sh' + R * rd' * d' * 100000) * wd' * (wd * (d * 10000000)) := by
    have := mulR hcin (c := wd * wd' * 10000000) (Int.mul_nonneg (Int.mul_nonneg (by omega) (by omega)) (by omega))
    have e1 : c * (n * A * sh + R * rd * d * 100000) * wd * (wd' * (d' * 10000000)) = c * ((n * A * sh + R * rd * d * 100000) * d') * (wd * wd' * 10000000) := by ac_rfl
    have e2 : c' * (n' * A' * sh' + R * rd' * d' * 100000) * wd' * (wd * (d * 10000000)) = c' * ((n' * A' * sh' + R * rd' * d' * 100000) * d) * (wd * wd' * 10000000) := by ac_rfl
    omega
  rw [Int.add_mul, Int.add_mul, Int.add_mul, Int.add_mul]
  omega
theorem resistance_G (s : Ship) (i : Ice) (ch : Bool) (v : Int) : resistance s i ch v =
    resG (value s.Water v).1 (value s.Water v).2 (value s.Ice i.Thick).1 (value s.Ice i.Thick).2 i.Conc (1000 + s.Slow * v) (if ch = true then s.Brash else 100) s.Ridge (if ch = true then 0 else i.Ridge) (s.Press * i.Press) := rfl
structure LeI (i j : Ice) : Prop where
  conc : i.Conc ≤ j.Conc
  thick : i.Thick ≤ j.Thick
  ridge : i.Ridge ≤ j.Ridge
  press : i.Press ≤ j.Press
theorem LeI.rfl {i : Ice} : LeI i i := ⟨Int.le_refl _, Int.le_refl _, Int.le_refl _, Int.le_refl _⟩
theorem resistance_mono {s : Ship} (hc : check s = 0) {i j : Ice} (hi : goodIce i) (hj : goodIce j) (hij : LeI i j) {u v : Int} (hu : 0 ≤ u) (huv : u ≤ v) (ch : Bool) : resistance s i ch u ≤ resistance s j ch v := by
  rw [resistance_G, resistance_G]
  obtain ⟨hcl, hpo, hsl, hbr, hri, hpr⟩ := check_bd hc
  obtain ⟨i1, i2, i3, i4⟩ := goodIce_bd hi
  obtain ⟨j1, j2, j3, j4⟩ := goodIce_bd hj
  have w1 := value_bd (check_curveWater hc) hu
  have w2 := value_bd (check_curveWater hc) (x := v) (by omega)
  have n1 := value_bd (check_curveIce hc) i2.1
  have n2 := value_bd (check_curveIce hc) j2.1
  have hsu := Int.mul_nonneg hsl.1 hu
  refine resG_mono (by omega) (by omega) (by omega) (by omega) (by omega) (by omega) i1.1 (by omega) (by split <;> omega) hri.1 (by split <;> omega)
    (value_up (check_steadyWater hc) hu huv) (value_up (check_steadyIce hc) i2.1 hij.thick) hij.conc (by have := mulL huv hsl.1; omega) (Int.le_refl _) (by split; exact Int.le_refl _; exact hij.ridge) (mulL hij.press hpr.1)
theorem thrust_mono {s : Ship} (hc : check s = 0) {u v : Int} (hu : 0 ≤ u) (huv : u ≤ v) : thrust s v ≤ thrust s u := by
  have t1 := value_bd (check_curveThrust hc) hu
  have t2 := value_bd (check_curveThrust hc) (x := v) (by omega)
  exact floor_mono (by omega) (by omega) (value_down (check_steadyThrust hc) hu huv)
theorem makes_mono {s : Ship} (hc : check s = 0) {i j : Ice} (hi : goodIce i) (hj : goodIce j) (hij : LeI i j) {u v : Int} (hu : 0 ≤ u) (huv : u ≤ v) {ch : Bool} (h : makes s j ch v = true) : makes s i ch u = true := by
  simp only [makes, Bool.and_eq_true, decide_eq_true_eq] at h ⊢
  have h1 := resistance_mono hc hi hj hij hu huv ch
  have h2 := thrust_mono hc hu huv
  exact ⟨by omega, by omega⟩
theorem load_mono {i j : Ice} (hi : goodIce i) (hj : goodIce j) (hij : LeI i j) {u v : Int} (hu : 0 ≤ u) (huv : u ≤ v) (ch : Bool) : loadI i u ch ≤ loadI j v ch := by
  obtain ⟨i1, i2, i3, i4⟩ := goodIce_bd hi
  obtain ⟨j1, j2, j3, j4⟩ := goodIce_bd hj
  have h1 := Int.mul_le_mul hij.thick (show 100 + u ≤ 100 + v by omega) (by omega) j2.1
  have h2 := Int.mul_nonneg i2.1 (show 0 ≤ 100 + u by omega)
  have a := hij.conc; have b := hij.ridge; have c := hij.press
  unfold loadI
  by_cases e : i.Conc = 0
  · rw [if_pos e]
    by_cases e2 : j.Conc = 0
    · rw [if_pos e2]; exact Int.le_refl _
    · rw [if_neg e2]; cases ch <;> simp only [if_true, if_false, Bool.false_eq_true] <;> omega
  · rw [if_neg e, if_neg (show ¬ j.Conc = 0 by omega)]
    cases ch <;> simp only [if_true, if_false, Bool.false_eq_true] <;> omega
theorem bears_mono {s : Ship} {i j : Ice} (hi : goodIce i) (hj : goodIce j) (hij : LeI i j) {u v : Int} (hu : 0 ≤ u) (huv : u ≤ v) {ch : Bool} (h : bears s j ch v = true) : bears s i ch u = true := by
  simp only [bears, decide_eq_true_eq] at h ⊢
  have := load_mono hi hj hij hu huv ch
  omega
/-! ### The greatest one -/
theorem great_spec {so : Int → Bool} : ∀ (f : Nat) {lo hi : Int}, (hi - lo).toNat ≤ f → lo ≤ hi → so lo = true → (∀ u v, lo ≤ u → u ≤ v → v ≤ hi → so v = true → so u = true) →
    lo ≤ great so lo hi ∧ great so lo hi ≤ hi ∧ so (great so lo hi) = true ∧ ∀ v, great so lo hi < v → v ≤ hi → so v = false := by
  intro f
  induction f with
  | zero =>
    intro lo hi hf hle h1 hd
    rw [great_done (by omega)]
    exact ⟨Int.le_refl _, hle, h1, fun v h2 h3 => absurd h3 (by omega)⟩
  | succ f ih =>
    intro lo hi hf hle h1 hd
    by_cases h : lo < hi
    · rw [great_step h]
      by_cases hm : so (lo + (hi - lo + 1) / 2) = true
      · rw [if_pos hm]
        obtain ⟨a, b, c, d⟩ := ih (lo := lo + (hi - lo + 1) / 2) (hi := hi) (by omega) (by omega) hm (fun u v h2 h3 h4 h5 => hd u v (by omega) h3 h4 h5)
        exact ⟨by omega, b, c, d⟩
      · rw [if_neg hm]
        obtain ⟨a, b, c, d⟩ := ih (lo := lo) (hi := lo + (hi - lo + 1) / 2 - 1) (by omega) (by omega) h1 (fun u v h2 h3 h4 h5 => hd u v h2 h3 (by omega) h5)
        refine ⟨a, by omega, c, fun v h2 h3 => ?_⟩
        by_cases h4 : v ≤ lo + (hi - lo + 1) / 2 - 1
        · exact d v h2 h4
        · cases hv : so v with
          | false => rfl
          | true => exact absurd (hd (lo + (hi - lo + 1) / 2) v (by omega) (by omega) h3 hv) hm
    · rw [great_done h]
      exact ⟨Int.le_refl _, hle, h1, fun v h2 h3 => absurd h3 (by omega)⟩
theorem great_is {so : Int → Bool} {lo hi : Int} (hle : lo ≤ hi) (h1 : so lo = true) (hd : ∀ u v, lo ≤ u → u ≤ v → v ≤ hi → so v = true → so u = true) :
    lo ≤ great so lo hi ∧ great so lo hi ≤ hi ∧ ∀ v, lo ≤ v → v ≤ hi → (so v = true ↔ v ≤ great so lo hi) := by
  obtain ⟨a, b, c, d⟩ := great_spec _ (Nat.le_refl _) hle h1 hd
  refine ⟨a, b, fun v h2 h3 => ⟨fun h => ?_, fun h => hd v _ h2 h b c⟩⟩
  rcases Int.lt_or_le (great so lo hi) v with h4 | h4
  · rw [d v h4 h3] at h; cases h
  · exact h4
theorem great_le {so so' : Int → Bool} {lo hi : Int} (hle : lo ≤ hi) (h1 : so lo = true) (hd : ∀ u v, lo ≤ u → u ≤ v → v ≤ hi → so v = true → so u = true) (hd' : ∀ u v, lo ≤ u → u ≤ v → v ≤ hi → so' v = true → so' u = true)
    (h : ∀ v, lo ≤ v → v ≤ hi → so v = true → so' v = true) : great so lo hi ≤ great so' lo hi := by
  obtain ⟨a, b, c⟩ := great_is hle h1 hd
  obtain ⟨a', b', c'⟩ := great_is hle (h lo (Int.le_refl _) hle h1) hd'
  exact (c' _ a b).1 (h _ a b ((c _ a b).2 (Int.le_refl _)))
theorem speed_mono {s : Ship} (hc : check s = 0) {i j : Ice} (hi : goodIce i) (hj : goodIce j) (hij : LeI i j) (ch : Bool) : speed s j ch ≤ speed s i ch := by
  have down : ∀ k, goodIce k → ∀ u v, (0 : Int) ≤ u → u ≤ v → v ≤ 250 → makes s k ch v = true → makes s k ch u = true := fun k hk u v h1 h2 _ h => makes_mono hc hk hk .rfl h1 h2 h
  unfold speed greatest
  by_cases h0 : makes s j ch 0 = true
  · have h1 := makes_mono hc hi hj hij (Int.le_refl 0) (Int.le_refl 0) h0
    rw [if_pos h0, if_pos h1]
    exact great_le (by decide) h0 (down j hj) (down i hi) fun v h2 h3 h => makes_mono hc hi hj hij h2 (Int.le_refl v) h
  · rw [if_neg h0]
    by_cases h1 : makes s i ch 0 = true
    · rw [if_pos h1]; exact (great_is (by decide) h1 (down i hi)).1
    · rw [if_neg h1]; exact Int.le_refl _
end Hull
/- Plain laws of the hull layer: legs and waits. -/
namespace Hull
def goesP (s : Ship) (i : Ice) (ch : Bool) (v : Int) : Bool := makes s i ch v && bears s i ch v
theorem goesP_mono {s : Ship} (hc : check s = 0) {i j : Ice} (hi : goodIce i) (hj : goodIce j) (hij : LeI i j) {u v : Int} (hu : 0 ≤ u) (huv : u ≤ v) {ch : Bool} (h : goesP s j ch v = true) : goesP s i ch u = true := by
  simp only [goesP, Bool.and_eq_true] at h ⊢
  exact ⟨makes_mono hc hi hj hij hu huv h.1, bears_mono hi hj hij hu huv h.2⟩
theorem goes_eq (s : Ship) (i : Ice) (ch : Bool) : goes s i ch = if goesP s i ch 10 = true then (great (goesP s i ch) 10 250, true) else (0, false) := rfl
theorem goes_down {s : Ship} (hc : check s = 0) {i : Ice} (hi : goodIce i) (ch : Bool) : ∀ u v, (10 : Int) ≤ u → u ≤ v → v ≤ 250 → goesP s i ch v = true → goesP s i ch u = true :=
  fun u v h1 h2 _ h => goesP_mono hc hi hi .rfl (by omega) h2 h
theorem goes_ok {s : Ship} {i : Ice} {ch : Bool} : (goes s i ch).2 = goesP s i ch 10 := by
  rw [goes_eq]
  cases h : goesP s i ch 10 <;> simp
theorem goes_bd {s : Ship} (hc : check s = 0) {i : Ice} (hi : goodIce i) {ch : Bool} (h : (goes s i ch).2 = true) : 10 ≤ (goes s i ch).1 ∧ (goes s i ch).1 ≤ 250 := by
  rw [goes_ok] at h
  rw [goes_eq, if_pos h]
  have := great_is (by decide) h (goes_down hc hi ch)
  exact ⟨this.1, this.2.1⟩
theorem first_le_last {c : Cell} (h : goodCell c) : LeI (firstI c) (lastI c) := ⟨h.1.2.1, h.2.1.2.1, h.2.2.1.2.1, h.2.2.2.2.1⟩
theorem safe_goes {s : Ship} (hc : check s = 0) {c : Cell} (hg : goodCell c) {ch : Bool} (h : (safe s c ch).2 = 0) :
    (safe s c ch).1 = (goes s (lastI c) ch).1 ∧ (10 ≤ (safe s c ch).1 ∧ (safe s c ch).1 ≤ 250) ∧ (10 ≤ (goes s (firstI c) ch).1 ∧ (goes s (firstI c) ch).1 ≤ 250) := by
  have hl := goodCell_last hg
  have hf := goodCell_first hg
  unfold safe at h ⊢
  by_cases h1 : speed s (lastI c) ch < 10
  · rw [if_pos h1] at h; cases h
  · rw [if_neg h1] at h ⊢
    cases h2 : (goes s (lastI c) ch).2 with
    | false => rw [h2, if_pos rfl] at h; cases h
    | true =>
      rw [if_neg (by simp)]
      refine ⟨rfl, goes_bd hc hl h2, goes_bd hc hf ?_⟩
      rw [goes_ok] at h2 ⊢
      exact goesP_mono hc hf hl (first_le_last hg) (by decide) (Int.le_refl _) h2
def prt (l : List Part) (i : Int) : Part := l.getD i.toNat default
def sp (l : List Span) (i : Int) : Span := l.getD i.toNat ⟨0, 0⟩
theorem drop_getD {α : Type} {l : List α} {k : Nat} (d : α) (h : k < l.length) : l.drop k = l.getD k d :: l.drop (k + 1) := by
  rw [List.drop_eq_getElem_cons h]
  simp [List.getD, h]
theorem drop_prt {l : List Part} {k : Nat} (h : k < l.length) : l.drop k = prt l (k : Int) :: l.drop (k + 1) := by
  simpa [prt] using drop_getD default h
theorem drop_sp {l : List Span} {k : Nat} (h : k < l.length) : l.drop k = sp l (k : Int) :: l.drop (k + 1) := by
  simpa [sp] using drop_getD ⟨0, 0⟩ h
def partErr (p : Part) : Int := if within p.Length 1 10000 = false then 6 else checkCell p.Cell
def partsErr : List Part → Int
  | [] => 0
  | p :: r => if partErr p ≠ 0 then partErr p else partsErr r
def goodPart (p : Part) : Prop := (1 ≤ p.Length ∧ p.Length ≤ 10000) ∧ goodCell p.Cell
theorem partErr_ok {p : Part} : partErr p = 0 ↔ goodPart p := by
  unfold partErr goodPart
  cases h : within p.Length 1 10000 with
  | false => have := within_f h; simp only [if_true]; exact ⟨fun h => (by cases h), fun h => absurd h.1 this⟩
  | true =>
    have := within_t h
    simp only [Bool.true_eq_false, if_false]
    rw [checkCell_ok]
    exact ⟨fun h => ⟨this, h⟩, fun h => h.2⟩
def legFrom (s : Ship) : List Part → Int → List Int → Int → Int → List Int × Span × Int
  | [], _, v, lo, hi => (v, ⟨lo, hi⟩, 0)
  | p :: r, i, v, lo, hi =>
    if (safe s p.Cell p.Channel).2 ≠ 0 then ([], ⟨i, 0⟩, (safe s p.Cell p.Channel).2)
    else legFrom s r (i + 1) (v ++ [(safe s p.Cell p.Channel).1]) (lo + takes p (goes s (firstI p.Cell) p.Channel).1) (hi + takes p (safe s p.Cell p.Channel).1)
def leg (s : Ship) (l : List Part) : List Int × Span × Int :=
  if check s ≠ 0 then ([], ⟨0, 0⟩, check s) else if within (l.length : Int) 1 100 = false then ([], ⟨0, 0⟩, 2) else if partsErr l ≠ 0 then ([], ⟨0, 0⟩, partsErr l) else legFrom s l 0 [] 0 0
theorem takes_bd {p : Part} (hp : 1 ≤ p.Length ∧ p.Length ≤ 10000) {v : Int} (hv : 10 ≤ v ∧ v ≤ 250) : 0 ≤ takes p v ∧ takes p v ≤ 60025 := by
  unfold takes
  constructor
  · exact Int.ediv_nonneg (by omega) (by omega)
  · have : (60 * p.Length + v - 1) / v < 60026 := Int.ediv_lt_of_lt_mul (by omega) (by omega)
    omega
def pressOK (p : Span) : Bool := !(decide (p.Lo < 0) || decide (p.Hi > 3) || decide (p.Lo > p.Hi))
def freeFrom (s : Ship) (c : Cell) : List Span → Int → Int → Span × Int
  | [], _, _ => (⟨0, 0⟩, 4)
  | p :: r, h, lo =>
    if speed s (lastI ⟨c.Conc, c.Thick, c.Ridge, p⟩) false ≥ 10 then (⟨if (decide (lo < 0) && decide (speed s (firstI ⟨c.Conc, c.Thick, c.Ridge, p⟩) false ≥ 10)) = true then h else lo, h⟩, 0)
    else freeFrom s c r (h + 1) (if (decide (lo < 0) && decide (speed s (firstI ⟨c.Conc, c.Thick, c.Ridge, p⟩) false ≥ 10)) = true then h else lo)
def free (s : Ship) (c : Cell) (l : List Span) : Span × Int :=
  if met s c ≠ 0 then (⟨0, 0⟩, met s c) else if (l.length : Int) > 240 then (⟨0, 0⟩, 2) else if l.all pressOK = false then (⟨0, 0⟩, 6) else freeFrom s c l 0 (-1)
theorem all_sp_no {l : List Span} {f : Span → Bool} {k : Nat} (hk : k < l.length) (h : f (sp l (k : Int)) = false) : l.all f = false := by
  cases e : l.all f with
  | false => rfl
  | true =>
    have := List.all_eq_true.1 e l[k] (List.getElem_mem hk)
    rw [show sp l (k : Int) = l[k] by simp [sp, List.getD, hk]] at h
    rw [h] at this; cases this
theorem all_sp {l : List Span} {f : Span → Bool} {k : Nat} (hk : l.length ≤ k) (h : ∀ j < k, f (sp l (j : Int)) = true) : l.all f = true := by
  rw [List.all_eq_true]
  intro x hx
  obtain ⟨j, hj, rfl⟩ := List.getElem_of_mem hx
  have := h j (by omega)
  rwa [show sp l (j : Int) = l[j] by simp [sp, List.getD, hj]] at this
theorem pressOK_good {c : Cell} (hg : goodCell c) {p : Span} (h : pressOK p = true) : goodCell ⟨c.Conc, c.Thick, c.Ridge, p⟩ := by
  simp only [pressOK, Bool.not_eq_true', Bool.or_eq_false_iff, decide_eq_false_iff_not] at h
  exact ⟨hg.1, hg.2.1, hg.2.2.1, by unfold goodSpan; simp only []; omega⟩
def level (lo hi : Int) : Cell := ⟨⟨100, 100⟩, ⟨lo, hi⟩, ⟨0, 0⟩, ⟨0, 0⟩⟩
def exampleShip : Ship := ⟨3, 6000, 800, 9000, [⟨0, 1000⟩, ⟨100, 800⟩, ⟨200, 0⟩], [⟨0, 0⟩, ⟨200, 400⟩], [⟨0, 0⟩, ⟨400, 2000⟩], 0, 20, 10, 100⟩
theorem eqInts_no1 {a b : List Int} (h : (a.length : Int) ≠ b.length) : decide (a = b) = false := by
  rw [decide_eq_false_iff_not]; intro e; subst e; exact h rfl
theorem eqInts_no2 {a b : List Int} {i : Nat} (h : a.getD i 0 ≠ b.getD i 0) : decide (a = b) = false := by
  rw [decide_eq_false_iff_not]; intro e; subst e; exact h rfl
theorem eqInts_yes {a b : List Int} {k : Nat} (hl : (a.length : Int) = b.length) (hk : a.length ≤ k) (h : ∀ j < k, a.getD ((j : Int)).toNat 0 = b.getD ((j : Int)).toNat 0) : decide (a = b) = true := by
  rw [decide_eq_true_eq]
  refine List.ext_getElem (by omega) fun i h1 h2 => ?_
  have := h i (by omega)
  simpa [List.getD, h1, h2] using this
def draw (l : List Int) (i n : Int) : Int × Int := if i ≥ (l.length : Int) then (0, i) else (l.getD (i + 1 - 1).toNat 0 % n, i + 1)
theorem draw_end {l : List Int} {i n : Int} (h : i ≥ (l.length : Int)) : draw l i n = (0, i) := by rw [draw, if_pos h]
theorem draw_go {l : List Int} {i n : Int} (h : ¬ i ≥ (l.length : Int)) : draw l i n = (l.getD (i + 1 - 1).toNat 0 % n, i + 1) := by rw [draw, if_neg h]
theorem getD_mem {l : List Int} {i : Nat} (h : i < l.length) : l.getD i 0 ∈ l := by
  simp [List.getD, h]
def idx (l : List Int) (k : Nat) : Int := ((min k l.length : Nat) : Int)
def dv (l : List Int) (k : Nat) (n : Int) : Int := if k < l.length then l.getD k 0 % n else 0
theorem draw_idx (l : List Int) (k : Nat) (n : Int) : draw l (idx l k) n = (dv l k n, idx l (k + 1)) := by
  unfold idx dv
  by_cases h : k < l.length
  · rw [draw_go (by omega), if_pos h, show (((min k l.length : Nat) : Int) + 1 - 1).toNat = k by omega, show (((min (k + 1) l.length : Nat)) : Int) = ((min k l.length : Nat) : Int) + 1 by omega]
  · rw [draw_end (by omega), if_neg h, show (((min (k + 1) l.length : Nat)) : Int) = ((min k l.length : Nat) : Int) by omega]
theorem idx_bd (l : List Int) (k : Nat) : 0 ≤ idx l k ∧ idx l k ≤ (l.length : Int) := by unfold idx; omega
theorem dv_bd {l : List Int} {k : Nat} {n : Int} (h8 : ∀ x ∈ l, 0 ≤ x ∧ x ≤ 255) (hn : 1 ≤ n) : 0 ≤ dv l k n ∧ dv l k n ≤ n - 1 ∧ dv l k n ≤ 255 := by
  unfold dv
  by_cases h : k < l.length
  · rw [if_pos h]
    have h1 := h8 _ (getD_mem h)
    have h2 := Int.emod_nonneg (l.getD k 0) (b := n) (by omega)
    have h3 := Int.emod_lt_of_pos (l.getD k 0) (b := n) (by omega)
    have h4 : l.getD k 0 % n ≤ l.getD k 0 := by
      by_cases h5 : l.getD k 0 < n
      · rw [Int.emod_eq_of_lt h1.1 h5]; exact Int.le_refl _
      · omega
    omega
  · rw [if_neg h]; omega
end Hull
/- The frame of this seat's laws: what the laid variable reads as; the start that is shown. -/
namespace Go.Proofs.YtgpcfckbcldokaaDoor
open Go Go.AX Go.ChangeShapes Go.WideShapes Go.ChangeAt Go.RowKit Hull
theorem own : ownKnob Tryd.prog.godebug = none := by kernel_rfl
theorem gStr : Tryd.prog.globalNamed "polynya/hull.strengths" = some 0 := by kernel_rfl
theorem tStr : ∃ t e, (Tryd.prog.globals[0]?).map (·.type) = some t ∧ Tryd.prog.underlying t = some (.array 6 e) ∧ Tryd.prog.underlying e = some (.int .i64) ∧ Tryd.prog.cellsOf e = 1 ∧ Tryd.prog.cellsOf t = 6 :=
  ⟨203, 3, by kernel_rfl, by kernel_rfl, by kernel_rfl, by kernel_rfl, by kernel_rfl⟩
abbrev laid1 : List (String × DataW Unit) := [("polynya/hull.strengths", Rows.laid_polynya_hull_strengths)]
theorem door_met (os : Os) (args : Array Value) : laidMetH Tryd.prog laid1 ((World.doorLaid Tryd.prog 400 os).forCall (fun _ _ => 0) ⟨#[], args, []⟩).memory :=
  laidMetH_of_parts3 (fuel := 8) (laidMet_of_run' 8 (by kernel_rfl) (by kernel_rfl)) (by kernel_rfl) (by kernel_rfl)
theorem of_laid {W : World} (h : laidMetH Tryd.prog laid1 W) : BoxAt W 0 (strengths.map (fun n => Value.int .i64 n)) := by
  rw [MakeChecks.laidMetH_plain _ _ _ (by kernel_rfl)] at h
  obtain ⟨ps, ⟨g0, t0, cs0, f0, p0, q0, hg0, ht0, hv0, hd0, _, _⟩, _, _⟩ := h
  obtain rfl := Option.some.inj (gStr.symm.trans hg0)
  obtain ⟨t, e, h1, h2, h3, h4, h5⟩ := tStr
  obtain rfl := Option.some.inj (h1.symm.trans ht0)
  obtain ⟨xs, m1, rfl, hx, hlen, hn, hel⟩ := DataW.trod_array h2 hd0
  rw [h5] at hlen
  have cell : ∀ i, W.cell? ⟨0, i, none⟩ = cs0[i]? := World.var?_cell hg0 hv0
  have one : ∀ i, i < 6 → ∃ n, cs0.toList[i]? = some (.int .i64 n) ∧ xs[i]? = some (.lit (.int .i64 n), []) := by
    intro i hi
    have h6 := hel i hi
    rw [h4] at h6
    have hxi : xs[i]? = some xs[i] := List.getElem?_eq_getElem (by omega)
    rw [hxi] at h6
    obtain ⟨n, e1, e2, _⟩ := DataW.trod_int h3 h6
    refine ⟨n, ?_, by rw [hxi, e2]⟩
    have : (cs0.toList.drop (i * 1)).take 1 = [Value.int .i64 n] := e1
    rw [Nat.mul_one] at this
    have h7 : ((cs0.toList.drop i).take 1)[0]? = some (.int .i64 n) := by rw [this]; rfl
    simpa [List.getElem?_take, List.getElem?_drop] using h7
  have val : ∀ i n, xs[i]? = some (.lit (.int .i64 n), []) → i < 6 → strengths[i]? = some n := by
    intro i n hi hlt
    simp only [Prod.mk.injEq, Rows.laid_polynya_hull_strengths] at hx
    have hm : (xs.map (·.1))[i]? = some (.lit (.int .i64 n)) := by simp [hi]
    have he : (xs.map (·.1)) = [.lit (.int .i64 4000), .lit (.int .i64 8000), .lit (.int .i64 14000), .lit (.int .i64 24000), .lit (.int .i64 40000), .lit (.int .i64 90000)] := by
      have := hx.1
      simp only [DataW.agg.injEq] at this
      exact this.symm
    rw [he] at hm
    unfold strengths
    match i, hlt with
    | 0, _ => simp_all
    | 1, _ => simp_all
    | 2, _ => simp_all
    | 3, _ => simp_all
    | 4, _ => simp_all
    | 5, _ => simp_all
  constructor
  · obtain ⟨n, e1, _⟩ := one 0 (by omega)
    have := cell 0
    rw [show cs0[0]? = some (.int .i64 n) by simpa using e1] at this
    rcases Nat.lt_or_ge 0 W.heap.size with h9 | h9
    · exact h9
    · simp [World.cell?, Array.getElem?_eq_none h9] at this
  · intro j v hj
    have hlt : j < 6 := by
      have := (List.getElem?_eq_some_iff.1 hj).1
      simpa [strengths] using this
    obtain ⟨n, e1, e2⟩ := one j hlt
    have h8 := val j n e2 hlt
    rw [List.getElem?_map, h8] at hj
    cases hj
    rw [cell j]
    simpa using e1
end Go.Proofs.YtgpcfckbcldokaaDoor
/-
  The core, further operations: equality of structs and Booleans; rows of one's own that are written.
-/
namespace Go.AX
open Go Go.RowKit
def partP (P : Program) (t : TypeId) (cs : Array Value) (off : Nat) : Option Value :=
  match P.underlying t with
  | some (.struct _) => (P.info? t).map fun i => .agg (cs.extract off (off + i.size))
  | some (.array _ _) => (P.info? t).map fun i => .agg (cs.extract off (off + i.size))
  | some _ => cs[off]?
  | none => none
theorem run_partP {P : Program} {t : TypeId} {cs : Array Value} {off : Nat} {v : Value} {w : World} (h : partP P t cs off = some v) : (part t cs off).run P w = .ok v w := by
  unfold partP at h
  split at h
  · rename_i fs hu
    cases hi : P.info? t with
    | none => rw [hi] at h; cases h
    | some i =>
      rw [hi] at h
      cases h
      simp [part, isAgg, run_underlying hu, sizeOf, typeInfo, hi]
  · rename_i n e hu
    cases hi : P.info? t with
    | none => rw [hi] at h; cases h
    | some i =>
      rw [hi] at h
      cases h
      simp [part, isAgg, run_underlying hu, sizeOf, typeInfo, hi]
  · rename_i u h1 h2 hu
    have h3 : (isAgg t).run P w = .ok false w := by
      simp only [isAgg, Sem.run_bind, run_underlying hu, Result.andThen_ok]
      cases u <;> first | rfl | exact absurd hu (h1 _) | exact absurd hu (h2 _ _)
    simp [part, h3, h]
  · cases h
def eqFs (P : Program) (rec : TypeId → Value → Value → Option Bool) (xs ys : Array Value) : List Field → Option Bool
  | [] => some true
  | f :: fs =>
    if f.name = "_" then none else
    match partP P f.type xs f.offset, partP P f.type ys f.offset with
    | some a, some b => match rec f.type a b, eqFs P rec xs ys fs with
      | some r, some r' => some (r && r')
      | _, _ => none
    | _, _ => none
def eqB (P : Program) : Nat → TypeId → Value → Value → Option Bool
  | 0, _, _, _ => none
  | d + 1, t, x, y =>
    match P.underlying t with
    | some .bool => match x, y with
      | .bool a, .bool b => some (a == b)
      | _, _ => none
    | some (.int _) => match x, y with
      | .int k a, .int k' b => if k = k' then some (a == b) else none
      | _, _ => none
    | some (.struct fs) => match x, y with
      | .agg xs, .agg ys => if P.stoodInHeld t = false then eqFs P (eqB P d) xs ys fs.toList else none
      | _, _ => none
    | _ => none
theorem run_eqFs {P : Program} {d d' : Nat} (ih : ∀ t x y b, eqB P d t x y = some b → ∀ w, (Op.equalIn d' t x y).run P w = .ok b w) {xs ys : Array Value} : ∀ {fs : List Field} {b : Bool}, eqFs P (eqB P d) xs ys fs = some b →
    ∀ w, (Op.eqFields d' xs ys fs).run P w = .ok b w := by
  intro fs
  induction fs with
  | nil => intro b h w; simp only [eqFs, Option.some.injEq] at h; subst h; simp [Op.eqFields]
  | cons f fs ihf =>
    intro b h w
    unfold eqFs at h
    split at h
    · cases h
    · rename_i hn
      split at h
      · rename_i a c ha hc
        split at h
        · rename_i r r' hr hr'
          simp only [Option.some.injEq] at h
          subst h
          have h1 := run_partP (w := w) ha
          have h2 := run_partP (w := w) hc
          have h3 := ih _ _ _ _ hr w
          have h4 := ihf hr' w
          simp only [Op.eqFields, hn, ne_eq, not_false_eq_true, if_true, Sem.run_bind, h1, h2, h3, Result.andThen_ok]
          cases r with
          | false => simp
          | true => simpa using h4
        · cases h
      · cases h
theorem run_eqB {P : Program} : ∀ (d d' : Nat) (t : TypeId) (x y : Value) (b : Bool), eqB P d t x y = some b → ∀ w, (Op.equalIn (d + d') t x y).run P w = .ok b w := by
  intro d
  induction d with
  | zero => intro d' t x y b h; simp [eqB] at h
  | succ d ih =>
    intro d' t x y b h w
    rw [show d + 1 + d' = (d + d') + 1 by omega]
    unfold eqB at h
    split at h
    · rename_i hu
      split at h
      · cases h; exact run_equalIn_bool' w _ _ _ _ hu
      · cases h
    · rename_i hu
      split at h
      · rename_i k a k' c
        split at h
        · rename_i hk
          subst hk
          cases h; exact run_equalIn_int w _ _ _ _ _ _ hu
        · cases h
      · cases h
    · rename_i fs hu
      split at h
      · split at h
        · rename_i hp
          have hf : P.fieldsOf t = fs := by simp [Program.fieldsOf, hu]
          rw [run_equalIn_struct w (d + d') t _ _ (by rw [hf]; exact hu) hp, hf]
          exact run_eqFs (fun t x y b h w => ih d' t x y b h w) h w
        · cases h
      · cases h
    · cases h
section
variable {cx : Cx} {s g : Map} {m : Nat → Nat} {a : Act} {w : World}
variable {d : Nat} {type : TypeId} {pos : String} {after : Array Edge} {guard : Option (Nat × Bool)}
theorem op_neS {ty ty' : TypeId} {x y : Operand} {v u : List SV} {r : Bool} (hN : d < cx.N) (hx : Ev s x (.g v)) (hy : Ev s y (.g u)) (hg : cx.P.eqGuardType cx.P.depth ty = false)
    (h : ∀ m, eqB cx.P 8 ty (den m (.g v)) (den m (.g u)) = some r) :
    OpRun cx ⟨some d, .binOp .neq ty x y ty', type, pos, after, guard⟩ s ⟨okeys x ++ okeys y, [(.t d, some (.x (.v (.bool (!r)))))], []⟩ :=
  op_eqv hN hx hy fun m w => by
    have h1 := run_eqB 8 9992 ty _ _ r (h m) w
    simp only [den] at h1 ⊢
    rw [Sem.run_bind, run_eqGuard_agg w _ _ _ _ _ _ hg]
    simp only [Result.andThen_ok]
    rw [run_neq_struct, h1]
    rfl
theorem Rel.setRow {L C o ty k : Nat} {cs : List Value} {v : Value} (h : Rel cx m g a w) (hr : g (.r L) = some (.vec true C ty k cs)) (ho : o < cs.length) :
    Rel cx m (upd [(.r L, some (.vec true C ty k (cs.set o v)))] g) a (w.setCell ⟨m L, o, none⟩ v) := by
  have hv := h.vec L true C ty k cs hr
  obtain ⟨hc, cur, hh, hsz, hcur⟩ : m C ≠ 0 ∧ ∃ cur : Array Value, w.heap[m L]? = some (.cells cur ty (0, 0)) ∧ cur.size = m C * k ∧ ∀ (i : Nat) (v : Value), cs[i]? = some v → cur[i]? = some v := by
    rcases hv with ⟨_, e⟩ | hv
    · subst e; simp at ho
    · exact hv
  have hlt : o < cur.size := by
    have := hcur o cs[o] (List.getElem?_eq_getElem ho)
    exact (Array.getElem?_eq_some_iff.1 this).1
  have hnb : ∀ {l ty' n}, g (.b l) = some (.sh ty' n) → m l ≠ m L := fun {l ty' n} hl => (h.sep L true C ty k cs l ty' n hr hl hc).symm
  have keep : ∀ {b : Nat}, b ≠ m L → (w.setCell ⟨m L, o, none⟩ v).heap[b]? = w.heap[b]? := fun {b} hb => Below.heap_setCell _ _ _ _ hb
  refine ⟨h.size, h.defers.step (fun k o h1 h2 => (keep fun e => by subst e; rw [hh] at h1; cases h1; simp [Obj.isCells] at h2).trans h1), fun i y hy => ?_, fun i b y hy => ?_, fun L' ty' n' hL => ?_, fun L' o' y hy => ?_, fun L' o' y hy => ?_, fun L1 L2 ty1 n1 ty2 n2 h1 h2 => ?_, fun L1 own C1 ty1 k1 cs1 hx => ?_, fun L1 own C1 ty1 k1 cs1 L' ty' n' hx hy hc1 => ?_,
    fun L1 C1 ty1 k1 cs1 L' own' C' ty' k' cs' hx hy hne hc1 hc' => ?_, fun L1 C1 ty1 k1 cs1 hx hc1 => ?_, h.held.setCell (p := ⟨m L, o, none⟩) (h.ownR L C ty k cs hr hc) _, by simpa [World.setCell] using h.top,
    fun L b hb => by obtain ⟨h1, ty, n, h2⟩ := h.fix L b hb; exact ⟨h1, ty, n, by rw [upd_one, if_neg (by simp)]; exact h2⟩, fun l i x hx => by rw [upd_one, if_neg (by simp)] at hx; exact h.us l i x hx, fun k o hk => ko_set h.ko hh hk⟩
  · rw [upd_one, if_neg (by simp)] at hy; exact h.tm i y hy
  · rw [upd_one, if_neg (by simp)] at hy; exact h.tmc i b y hy
  · rw [upd_one, if_neg (by simp)] at hL
    obtain ⟨h1, cs', h2, h3⟩ := h.blk L' ty' n' hL
    exact ⟨h1, cs', h2, by rw [keep (hnb hL)]; exact h3⟩
  · rw [upd_one, if_neg (by simp)] at hy
    obtain ⟨ty', n', hL'⟩ := h.own L' o' y hy
    have := h.cell L' o' y hy
    simp only [World.cell?] at this ⊢
    rw [keep (hnb hL')]; exact this
  · rw [upd_one, if_neg (by simp)] at hy
    obtain ⟨ty', n', hL'⟩ := h.own L' o' y hy
    exact ⟨ty', n', by rw [upd_one, if_neg (by simp)]; exact hL'⟩
  · rw [upd_one, if_neg (by simp)] at h1 h2; exact h.inj L1 L2 ty1 n1 ty2 n2 h1 h2
  · rw [upd_one] at hx
    by_cases e : Key.r L = Key.r L1
    · rw [if_pos e] at hx
      cases e
      simp only [Option.some.injEq, Val.vec.injEq] at hx
      obtain ⟨rfl, rfl, rfl, rfl, rfl⟩ := hx
      refine .inr ⟨hc, cur.setIfInBounds o v, ?_, by simpa using hsz, fun i u hi => ?_⟩
      · simp only [World.setCell, Array.getElem?_modify, hh]
        simp
      · rw [Array.getElem?_setIfInBounds]
        rw [List.getElem?_set] at hi
        by_cases e : o = i
        · subst e
          simp only [if_true] at hi ⊢
          rw [if_pos hlt]
          simpa [ho] using hi
        · rw [if_neg e] at hi ⊢
          exact hcur i u hi
    · rw [if_neg e] at hx
      have h1 := h.vec L1 own C1 ty1 k1 cs1 hx
      exact h1.same fun hc1 => keep fun e1 => h.sepR L C ty k cs L1 own C1 ty1 k1 cs1 hr hx (fun e2 => e (by rw [e2])) hc hc1 e1.symm
  · rw [upd_one, if_neg (by simp)] at hy
    rw [upd_one] at hx
    by_cases e : Key.r L = Key.r L1
    · rw [if_pos e] at hx
      cases e
      simp only [Option.some.injEq, Val.vec.injEq] at hx
      obtain ⟨rfl, rfl, rfl, rfl, rfl⟩ := hx
      exact (hnb hy).symm
    · rw [if_neg e] at hx
      exact h.sep L1 own C1 ty1 k1 cs1 L' ty' n' hx hy hc1
  · rw [upd_one] at hx hy
    by_cases e : Key.r L = Key.r L1
    · rw [if_pos e] at hx
      cases e
      simp only [Option.some.injEq, Val.vec.injEq] at hx
      obtain ⟨_, rfl, rfl, rfl, rfl⟩ := hx
      rw [if_neg (by simpa using hne)] at hy
      exact h.sepR L C ty k cs L' own' C' ty' k' cs' hr hy hne hc hc'
    · rw [if_neg e] at hx
      by_cases e2 : Key.r L = Key.r L'
      · rw [if_pos e2] at hy
        cases e2
        simp only [Option.some.injEq, Val.vec.injEq] at hy
        obtain ⟨rfl, rfl, rfl, rfl, rfl⟩ := hy
        exact h.sepR L1 C1 ty1 k1 cs1 L true C ty k cs hx hr hne hc1 hc
      · rw [if_neg e2] at hy
        exact h.sepR L1 C1 ty1 k1 cs1 L' own' C' ty' k' cs' hx hy hne hc1 hc'
  · rw [upd_one] at hx
    by_cases e : Key.r L = Key.r L1
    · rw [if_pos e] at hx
      cases e
      simp only [Option.some.injEq, Val.vec.injEq] at hx
      obtain ⟨_, rfl, rfl, rfl, rfl⟩ := hx
      exact h.ownR L C ty k cs hr hc
    · rw [if_neg e] at hx; exact h.ownR L1 C1 ty1 k1 cs1 hx hc1
def setN (cs : List Value) : Nat → List Value → List Value
  | _, [] => cs
  | o, v :: vs => setN (cs.set o v) (o + 1) vs
section
variable {α : Type} {enc : α → List Value}
end
end
end Go.AX
/-
  The core: calls that hand back several new rows of their own, apart from one another.
-/
namespace Go.AX
open Go Go.RowKit
def Apart (a b : SlV) : Prop := a.c ≠ 0 → b.c ≠ 0 → a.p ≠ b.p
def AllApart (a : SlV) : List SlV → Prop
  | [] => True
  | b :: l => Apart a b ∧ AllApart a l
def DistP : List SlV → Prop
  | [] => True
  | a :: l => AllApart a l ∧ DistP l
def NewRowsD (w w' : World) (sl : List SlV) (ds : List (Nat × Nat × Nat × List Value)) : Prop := NewRows w w' sl ds ∧ DistP sl
theorem AllApart.mem {a : SlV} : ∀ {l : List SlV}, AllApart a l → ∀ b ∈ l, Apart a b
  | [], _, _, h => by simp at h
  | x :: l, ⟨h1, h2⟩, b, hb => by
    rcases List.mem_cons.1 hb with rfl | hb
    · exact h1
    · exact AllApart.mem h2 b hb
def rowsUpT : List (Nat × Nat) → List (Nat × Nat × Nat × List Value) → St
  | (L, C) :: ls, (_, ty, k, cs) :: ds => rowsUpT ls ds ++ [(.r L, some (.vec true C ty k cs))]
  | _, _ => []
def RowsOld (m : Nat → Nat) (g : Map) (b0 : Nat) (X : List SlV) : Prop :=
  (∀ l ty n, g (.b l) = some (.sh ty n) → m l < b0) ∧ (∀ l own C ty k cs, g (.r l) = some (.vec own C ty k cs) → m C ≠ 0 → m l < b0 ∨ ∃ x ∈ X, x.c ≠ 0 ∧ x.p = some ⟨m l, 0, none⟩)
theorem Rel.newRowsT {cx : Cx} {a : Act} {w w' : World} {b0 : Nat} (hb0 : b0 ≤ w.heap.size) (hB : cx.B ≤ b0) : ∀ (ls : List (Nat × Nat)) (ds : List (Nat × Nat × Nat × List Value)) (sl X : List SlV) {m : Nat → Nat} {g : Map},
    ls.length = ds.length → distinct (labsOf ls) = true → (∀ l ∈ labsOf ls, ∀ q, mentions l q (g q) = false) → RowsOld m g b0 X → (∀ x ∈ X, AllApart x sl) → NewRows w w' sl ds → DistP sl → Rel cx m g a w' →
    ∃ m', Rel cx m' (upd (rowsUpT ls ds) g) a w' ∧ dens m' ls ds = sl.map SlV.val ∧ ∀ l, l ∉ labsOf ls → m' l = m l := by
  intro ls
  induction ls with
  | nil =>
    intro ds sl X m g hlen _ _ _ _ hn _ hrel
    cases ds with
    | nil =>
      cases sl with
      | nil => exact ⟨m, hrel, rfl, fun _ _ => rfl⟩
      | cons x xs => exact hn.elim
    | cons d ds => simp at hlen
  | cons x ls ih =>
    obtain ⟨L, C⟩ := x
    intro ds sl X m g hlen hd hf hu hX hn hD hrel
    cases ds with
    | nil => simp at hlen
    | cons d ds =>
      obtain ⟨n, ty, k, cs⟩ := d
      cases sl with
      | nil => exact hn.elim
      | cons a1 sl =>
        obtain ⟨h1, ⟨b, hp, hv, hfresh, hcl⟩, h3⟩ := hn
        simp only [labsOf, distinct, Bool.and_eq_true, List.all_eq_true, List.mem_cons, Bool.not_eq_true', forall_eq_or_imp] at hd
        obtain ⟨⟨hLC, hL⟩, hC, hd'⟩ := hd
        have hne : L ≠ C := fun e => by subst e; simp at hLC
        have fL := hf L (by simp [labsOf])
        have fC := hf C (by simp [labsOf])
        have hle : a1.c ≠ 0 → b0 ≤ b := fun hc => Nat.le_trans hb0 (hfresh hc)
        have hr1 := hrel.addRow (own := true) fL fC hne hv (fun _ hc => .inl (Nat.le_trans hB (hle hc))) (fun hc l ty' n' hl => by have := hu.1 l ty' n' hl; have := hle hc; omega)
          (fun hc l own' C2 ty' k' cs' hl ho hc2 => by
            rcases hu.2 l own' C2 ty' k' cs' hl hc2 with h | ⟨x, hx, hxc, hxp⟩
            · have := hle hc; omega
            · intro e
              have := (hX x hx).1 hxc hc
              rw [hxp, hp, ptr0_ne hc, e] at this
              exact this rfl)
        have hmem : ∀ l ∈ labsOf ls, l ≠ L ∧ l ≠ C := fun l hl => ⟨fun e => by have := hL l hl; rw [e] at this; simp at this, fun e => by have := hC l hl; rw [e] at this; simp at this⟩
        have hf' : ∀ l ∈ labsOf ls, ∀ q, mentions l q (upd [(.r L, some (.vec true C ty k cs))] g q) = false := by
          intro l hl q
          rw [upd_one]
          by_cases e : Key.r L = q
          · rw [if_pos e, ← e]
            have := hmem l hl
            simp [mentions, beq_ne (Ne.symm this.1), beq_ne (Ne.symm this.2)]
          · rw [if_neg e]; exact hf l (by simp [labsOf, hl]) q
        have mL : setL (setL m L b) C a1.c L = b := by rw [setL_ne _ _ hne, setL_self]
        have mC : setL (setL m L b) C a1.c C = a1.c := setL_self _ _ _
        have hu' : RowsOld (setL (setL m L b) C a1.c) (upd [(.r L, some (.vec true C ty k cs))] g) b0 (a1 :: X) := by
          refine ⟨fun l ty' n' hl => ?_, fun l own' C2 ty' k' cs' hl hc2 => ?_⟩
          · rw [upd_one, if_neg (by simp)] at hl
            have e1 := fL (.b l); have e2 := fC (.b l)
            rw [hl] at e1 e2
            rw [setL_ne _ _ (mentions_b e2), setL_ne _ _ (mentions_b e1)]
            exact hu.1 l ty' n' hl
          · rw [upd_one] at hl
            by_cases e : Key.r L = Key.r l
            · rw [if_pos e] at hl
              simp only [Option.some.injEq, Val.vec.injEq] at hl
              obtain ⟨_, rfl, _⟩ := hl
              cases e
              rw [mC] at hc2
              exact .inr ⟨a1, by simp, hc2, by rw [mL, hp, ptr0_ne hc2]⟩
            · rw [if_neg e] at hl
              have e1 := fL (.r l); have e2 := fC (.r l)
              rw [hl] at e1 e2
              have q1 := mentions_r e1; have q2 := mentions_r e2
              rw [setL_ne _ _ q2.2, setL_ne _ _ q1.2] at hc2
              rw [setL_ne _ _ q2.1, setL_ne _ _ q1.1]
              rcases hu.2 l own' C2 ty' k' cs' hl hc2 with h | ⟨x, hx, h⟩
              · exact .inl h
              · exact .inr ⟨x, by simp [hx], h⟩
        obtain ⟨m', hr', hden, hkeep⟩ := ih ds sl (a1 :: X) (by simpa using hlen) hd' hf' hu' (fun x hx => by
          rcases List.mem_cons.1 hx with rfl | hx
          · exact hD.1
          · exact (hX x hx).2) h3 hD.2 hr1
        have nL : L ∉ labsOf ls := fun h => (hmem L h).1 rfl
        have nC : C ∉ labsOf ls := fun h => (hmem C h).2 rfl
        refine ⟨m', ?_, ?_, fun l hl => ?_⟩
        · simp only [rowsUpT]
          rw [upd_append]; exact hr'
        · simp only [dens, List.map_cons, hden, List.cons.injEq, and_true, den, SlV.val]
          rw [hkeep L nL, hkeep C nC, setL_self, setL_ne _ _ hne, setL_self, hp, h1]
        · simp only [labsOf, List.mem_cons, not_or] at hl
          rw [hkeep l hl.2.2, setL_ne _ _ hl.2.1, setL_ne _ _ hl.1]
theorem op_callRowsD {cx : Cx} {s : Map} {d : Nat} {type : TypeId} {pos : String} {after : Array Edge} {guard : Option (Nat × Bool)} {fo : Operand} {fv : SV} {k : Nat} {fs caps xs : List SV} {args : Array Operand} {ts : Array TypeId} {extra : List Key}
    {R : List Value → Value} {x : SV} {ls : List (Nat × Nat)} {ds : List (Nat × Nat × Nat × List Value)}
    (hN : d < cx.N) (hen : Proofs.Enters cx.P k) (hf : Ev s fo fv) (hk : calleeOf k fs caps fv) (hx : EvL s args.toList xs) (hlen : ls.length = ds.length) (hd : distinct (labsOf ls) = true)
    (hden : ∀ (m : Nat → Nat), den m x = R (dens m ls ds))
    (hc : ∀ (m : Nat → Nat) (a : Act) (w : World) (g : Map), (∀ k ∈ extra, g k = s k) → Rel cx m g a w →
      Calls cx.P k (denL m (fs ++ (xs ++ caps))).toArray w fun e w' => ∃ sl : List SlV, e = .returned (R (sl.map SlV.val)) ∧ NewRowsD w w' sl ds ∧ Below w.heap.size w w') :
    OpRun cx ⟨some d, .call ⟨.value fo, args, ts⟩, type, pos, after, guard⟩ s ⟨okeys fo ++ okeysL args.toList ++ extra, (.t d, some (.x x)) :: rowsUpT ls ds, labsOf ls⟩ :=
  op_callG hen hf hk hx fun m a w g hr hfr hrel => (hc m a w g hr hrel).mono fun e w' ⟨sl, he, hnew, hb⟩ => by
    have hu := hrel.under
    obtain ⟨m', h1, h2, _⟩ := (hrel.world hb).newRowsT (Nat.le_refl _) hrel.top ls ds sl [] hlen hd (fun l hl q => hfr l hl q) ⟨hu.1, fun l own C ty k cs hl hc => .inl (hu.2 l own C ty k cs hl hc)⟩ (fun _ h => by simp at h) hnew.1 hnew.2
    exact ⟨_, m', he, (h1.put (x := x) hN (by rw [hden, h2])).congr (fun q => (upd_cons g q).symm)⟩
/-! ### Pairs -/
section
variable {cx : Cx} {s : Map} {m : Nat → Nat} {a : Act} {w : World}
theorem apart_rr {L C k ty L' C' k' ty' n n' : Nat} {own' : Bool} {cs cs' : List Value} (h : Rel cx m s a w) (h1 : s (.r L) = some (.vec true C ty k cs)) (h2 : s (.r L') = some (.vec own' C' ty' k' cs')) (hne : L ≠ L') :
    Apart ⟨ptr0 (m L) (m C), n, m C⟩ ⟨ptr0 (m L') (m C'), n', m C'⟩ := fun hc hc' e => by
  simp only [] at hc hc' e
  rw [ptr0_ne hc, ptr0_ne hc'] at e
  simp only [Option.some.injEq, Addr.mk.injEq, and_true] at e
  exact h.sepR L C ty k cs L' own' C' ty' k' cs' h1 h2 hne hc hc' e
end
section
variable {cx : Cx} {s : Map} {d : Nat} {type : TypeId} {pos : String} {after : Array Edge} {guard : Option (Nat × Bool)}
end
end Go.AX
/- Plain functions of the hull layer: limits, slower ships. -/
namespace Hull
def lev (n : Int) : Ice := ⟨100, n, 0, 0⟩
def limitE (s : Ship) (v : Int) (ch : Bool) : Int × Int :=
  if asked s ⟨0, 0, 0, 0⟩ v ≠ 0 then (0, asked s ⟨0, 0, 0, 0⟩ v)
  else if (greatest (fun n => makes s (lev n) ch v) 0 400).2 = false then (0, 4) else ((greatest (fun n => makes s (lev n) ch v) 0 400).1, 0)
def makesE (s : Ship) (i : Ice) (v : Int) (ch : Bool) : Bool × Int := if asked s i v ≠ 0 then (false, asked s i v) else (makes s i ch v, 0)
def safeE (s : Ship) (c : Cell) (ch : Bool) : Int × Int := if met s c ≠ 0 then (0, met s c) else safe s c ch
end Hull
/-
  Shorter words for what the walks repeat.
-/
namespace Go.AX
open Go
abbrev SV.i (n : Int) : SV := .v (.int .i64 n)
abbrev SV.B (b : Bool) : SV := .v (.bool b)
abbrev kt (t : Nat) (x : SV) : Key × Option Val := (.t t, some (.x x))
abbrev kc (L o : Nat) (x : SV) : Key × Option Val := (.c L o, some (.x x))
abbrev kb (L ty n : Nat) : Key × Option Val := (.b L, some (.sh ty n))
def getAll (s : St) : St → St
  | [] => []
  | x :: r => (x.1, get s x.1) :: getAll s r
theorem kp {s' s : St} (h : getAll s s' = s') : Keep s' s := by
  induction s' with
  | nil => trivial
  | cons x r ih =>
    simp only [getAll, List.cons.injEq] at h
    exact ⟨(congrArg Prod.snd h.1 : _), ih h.2⟩
end Go.AX
/-
  Activations that wait: a loop over a function, its iterator walked in place, and each round of the loop in place of the iterator's call of yield.
-/
namespace Go.AX
open Go Go.RowKit
def sqS (l : Nat) : List (Nat × SV) → St
  | [] => []
  | (i, v) :: r => (.u l i, some (.x v)) :: sqS l r
def tqS : List (Nat × SV) → St
  | [] => []
  | (i, v) :: r => (.t i, some (.x v)) :: tqS r
def TAre (s : Map) : List (Nat × SV) → Prop
  | [] => True
  | (i, v) :: r => s (.t i) = some (.x v) ∧ TAre s r
def UAre (l : Nat) (s : Map) : List (Nat × SV) → Prop
  | [] => True
  | (i, v) :: r => s (.u l i) = some (.x v) ∧ UAre l s r
theorem TAre.mem {s : Map} : ∀ {ts : List (Nat × SV)}, TAre s ts → ∀ q ∈ ts, s (.t q.1) = some (.x q.2) := by
  intro ts
  induction ts with
  | nil => intro _ q hq; simp at hq
  | cons x r ih =>
    intro h q hq
    rcases List.mem_cons.1 hq with rfl | hq
    · exact h.1
    · exact ih h.2 q hq
theorem UAre.mem {l : Nat} {s : Map} : ∀ {ts : List (Nat × SV)}, UAre l s ts → ∀ q ∈ ts, s (.u l q.1) = some (.x q.2) := by
  intro ts
  induction ts with
  | nil => intro _ q hq; simp at hq
  | cons x r ih =>
    intro h q hq
    rcases List.mem_cons.1 hq with rfl | hq
    · exact h.1
    · exact ih h.2 q hq
def noTU (l : Nat) (s : St) : Bool := s.all fun x => match x.1 with | .t _ => false | .u l' _ => !Nat.beq l' l | _ => true
theorem noTU_t {l i : Nat} {s : St} (h : noTU l s = true) : get s (.t i) = none := by
  refine upd_of_touches ?_ _
  cases e : touches (.t i) s with
  | false => rfl
  | true =>
    obtain ⟨x, hx, hk⟩ := touches_iff.1 e
    have := List.all_eq_true.1 h x hx
    rw [hk] at this; simp at this
theorem noTU_u {l i : Nat} {s : St} (h : noTU l s = true) : get s (.u l i) = none := by
  refine upd_of_touches ?_ _
  cases e : touches (.u l i) s with
  | false => rfl
  | true =>
    obtain ⟨x, hx, hk⟩ := touches_iff.1 e
    have := List.all_eq_true.1 h x hx
    rw [hk] at this; simp at this
theorem upd_susSt {l : Nat} {g : Map} : ∀ {ts : List (Nat × SV)} {k : Key}, (∀ i, k ≠ .u l i) → upd (sqS l ts) g k = g k := by
  intro ts
  induction ts with
  | nil => intro k _; rfl
  | cons x r ih =>
    intro k hk
    simp only [sqS, upd]
    rw [Key.eqb_false (fun e => hk x.1 e.symm), cond_false]
    exact ih hk
theorem upd_tmpSt {g : Map} : ∀ {ts : List (Nat × SV)} {k : Key}, (∀ i, k ≠ .t i) → upd (tqS ts) g k = g k := by
  intro ts
  induction ts with
  | nil => intro k _; rfl
  | cons x r ih =>
    intro k hk
    simp only [tqS, upd]
    rw [Key.eqb_false (fun e => hk x.1 e.symm), cond_false]
    exact ih hk
theorem upd_susSt_some {l : Nat} {g : Map} (hg : ∀ i, g (.u l i) = none) : ∀ {ts : List (Nat × SV)} {i : Nat} {v : Val}, upd (sqS l ts) g (.u l i) = some v → ∃ x, (i, x) ∈ ts ∧ v = .x x := by
  intro ts
  induction ts with
  | nil => intro i v h; simp only [sqS, upd] at h; rw [hg] at h; cases h
  | cons y r ih =>
    intro i v h
    obtain ⟨j, x⟩ := y
    simp only [sqS, upd] at h
    by_cases e : j = i
    · subst e
      rw [Key.eqb_self] at h
      simp only [cond_true, Option.some.injEq] at h
      exact ⟨x, by simp, h.symm⟩
    · rw [Key.eqb_false (by simpa using e), cond_false] at h
      obtain ⟨x', h1, h2⟩ := ih h
      exact ⟨x', by simp [h1], h2⟩
theorem upd_tmpSt_some {g : Map} (hg : ∀ i, g (.t i) = none) : ∀ {ts : List (Nat × SV)} {i : Nat} {v : Val}, upd (tqS ts) g (.t i) = some v → ∃ x, (i, x) ∈ ts ∧ v = .x x := by
  intro ts
  induction ts with
  | nil => intro i v h; simp only [tqS, upd] at h; rw [hg] at h; cases h
  | cons y r ih =>
    intro i v h
    obtain ⟨j, x⟩ := y
    simp only [tqS, upd] at h
    by_cases e : j = i
    · subst e
      rw [Key.eqb_self] at h
      simp only [cond_true, Option.some.injEq] at h
      exact ⟨x, by simp, h.symm⟩
    · rw [Key.eqb_false (by simpa using e), cond_false] at h
      obtain ⟨x', h1, h2⟩ := ih h
      exact ⟨x', by simp [h1], h2⟩
theorem upd_argSt {g : Map} : ∀ {vs : List SV} {i : Nat} {k : Key}, (∀ j, k ≠ .t j) → upd (argSt i vs) g k = g k := by
  intro vs
  induction vs with
  | nil => intro i k _; rfl
  | cons x r ih =>
    intro i k hk
    simp only [argSt, upd]
    rw [Key.eqb_false (fun e => hk i e.symm), cond_false]
    exact ih hk
theorem upd_argSt_some {g : Map} (hg : ∀ i, g (.t i) = none) : ∀ {vs : List SV} {i n : Nat} {v : Val}, upd (argSt i vs) g (.t n) = some v → ∃ j x, n = i + j ∧ vs[j]? = some x ∧ v = .x x := by
  intro vs
  induction vs with
  | nil => intro i n v h; simp only [argSt, upd] at h; rw [hg] at h; cases h
  | cons y r ih =>
    intro i n v h
    simp only [argSt, upd] at h
    by_cases e : i = n
    · subst e
      rw [Key.eqb_self] at h
      simp only [cond_true, Option.some.injEq] at h
      exact ⟨0, y, rfl, rfl, h.symm⟩
    · rw [Key.eqb_false (by simpa using e), cond_false] at h
      obtain ⟨j, x, h1, h2, h3⟩ := ih h
      exact ⟨j + 1, x, by omega, by simpa using h2, h3⟩
def setSus (S : Nat → Array Value) (l : Nat) (v : Array Value) : Nat → Array Value := fun k => if k = l then v else S k
theorem setSus_self {S : Nat → Array Value} {l : Nat} {v : Array Value} : setSus S l v l = v := if_pos rfl
theorem setSus_ne {S : Nat → Array Value} {l k : Nat} {v : Array Value} (h : k ≠ l) : setSus S l v k = S k := if_neg h
section
variable {P : Program} {r r' : Option Nat} {B N N' : Nat} {w0 : World} {ds ds' : Bool} {bor : List (Nat × Nat)} {S S' : Nat → Array Value} {K K' : List (Nat × Obj)} {m : Nat → Nat} {a a' : Act} {w w' : World}
theorem Rel.view {s0 s1 : St} (h : Rel ⟨P, r, B, w0, N, ds, bor, S, K⟩ m (get s0) a w) (hsz : a'.tmps.size = N') (hd : Marks ds' B a'.defers w)
    (hb : ∀ L, get s1 (.b L) = get s0 (.b L)) (hc : ∀ L o, get s1 (.c L o) = get s0 (.c L o)) (hr : ∀ L, get s1 (.r L) = get s0 (.r L))
    (ht : ∀ i v, get s1 (.t i) = some v → ∃ x, v = .x x ∧ a'.tmps[i]? = some (den m x)) (hu : ∀ l i x, get s1 (.u l i) = some (.x x) → (S' l)[i]? = some (den m x))
    (hk : ∀ k o, (k, o) ∈ K' → w.heap[k]? = some o ∧ o.isCells = false) : Rel ⟨P, r', B, w0, N', ds', bor, S', K'⟩ m (get s1) a' w := by
  refine ⟨hsz, hd, fun i x hx => ?_, fun i b x hx => ?_, fun L ty n hx => h.blk L ty n (by rw [← hb]; exact hx), fun L o x hx => h.cell L o x (by rw [← hc]; exact hx), fun L o x hx => ?_,
    fun L L' ty n ty' n' h1 h2 => h.inj L L' ty n ty' n' (by rw [← hb]; exact h1) (by rw [← hb]; exact h2), fun L own C ty k cs hx => h.vec L own C ty k cs (by rw [← hr]; exact hx),
    fun L own C ty k cs L' ty' n' h1 h2 => h.sep L own C ty k cs L' ty' n' (by rw [← hr]; exact h1) (by rw [← hb]; exact h2),
    fun L C ty k cs L' own' C' ty' k' cs' h1 h2 => h.sepR L C ty k cs L' own' C' ty' k' cs' (by rw [← hr]; exact h1) (by rw [← hr]; exact h2),
    fun L C ty k cs hx => h.ownR L C ty k cs (by rw [← hr]; exact hx), ⟨h.held.os, h.held.tape, h.held.output, h.held.size, h.held.block⟩, h.top, fun L b hb' => ?_, hu, hk⟩
  · obtain ⟨y, hy, h1⟩ := ht i _ hx
    cases hy; exact h1
  · obtain ⟨y, hy, h1⟩ := ht i _ hx
    cases hy
  · obtain ⟨ty, n, h1⟩ := h.own L o x (by rw [← hc]; exact hx)
    exact ⟨ty, n, by rw [hb]; exact h1⟩
  · obtain ⟨h1, ty, n, h2⟩ := h.fix L b hb'
    exact ⟨h1, ty, n, by rw [hb]; exact h2⟩
theorem Rel.addObj {g : Map} {o : Obj} (h : Rel ⟨P, r, B, w0, N, ds, bor, S, K⟩ m g a w) (ho : o.isCells = false) : Rel ⟨P, r, B, w0, N, ds, bor, S, (w.heap.size, o) :: K⟩ m g a (w.alloc o) := by
  have hw : Below w.heap.size w (w.alloc o) := (Below.refl _ w).alloc (Nat.le_refl _) o
  have h1 := h.world hw
  refine ⟨h1.size, h1.defers, h1.tm, h1.tmc, h1.blk, h1.cell, h1.own, h1.inj, h1.vec, h1.sep, h1.sepR, h1.ownR, ⟨h1.held.os, h1.held.tape, h1.held.output, h1.held.size, h1.held.block⟩, h1.top, h1.fix, h1.us, fun k o' hk => ?_⟩
  rcases List.mem_cons.1 hk with e | hk
  · cases e; exact ⟨World.alloc_heap_new w o, ho⟩
  · exact h1.ko k o' hk
theorem Rel.otherObj {g : Map} {l : Nat} {o : Obj} (o' : Obj) (h : Rel ⟨P, r, B, w0, N, ds, bor, S, K⟩ m g a w) (hl : B ≤ l) (hlo : w.heap[l]? = some o) (ho : o.isCells = false) (hd : Marks ds' B a'.defers (w.putObj l o')) (hat : a'.tmps = a.tmps)
    (hK : ∀ k o, (k, o) ∈ K' → (w.putObj l o').heap[k]? = some o ∧ o.isCells = false) : Rel ⟨P, r, B, w0, N, ds', bor, S, K'⟩ m g a' (w.putObj l o') := by
  have hne : ∀ {k : Nat} {q : Obj}, w.heap[k]? = some q → q.isCells = true → k ≠ l := fun h1 h2 e => by subst e; rw [hlo] at h1; cases h1; rw [ho] at h2; cases h2
  have hk : ∀ {k : Nat}, k ≠ l → (w.putObj l o').heap[k]? = w.heap[k]? := fun e => World.putObj_heap_other e
  have hbox : ∀ {L ty n}, g (.b L) = some (.sh ty n) → (w.putObj l o').heap[m L]? = w.heap[m L]? := fun {L ty n} hL => by
    obtain ⟨_, cs, _, h3⟩ := h.blk L ty n hL
    exact hk (hne h3 rfl)
  refine ⟨by rw [hat]; exact h.size, hd, by rw [hat]; exact h.tm, by rw [hat]; exact h.tmc, fun L ty n hL => ?_, fun L o y hy => ?_, h.own, h.inj, fun L own C ty k cs hx => ?_, h.sep, h.sepR, h.ownR,
    ⟨h.held.os, h.held.tape, h.held.output, by simpa using h.held.size, fun k h1 h2 => (hk (by show k ≠ l; have : k < B := h1; omega)).trans (h.held.block k h1 h2)⟩, by simpa using h.top, h.fix, h.us, hK⟩
  · obtain ⟨h1, cs, h2, h3⟩ := h.blk L ty n hL
    exact ⟨h1, cs, h2, by rw [hbox hL]; exact h3⟩
  · obtain ⟨ty, n, hL⟩ := h.own L o y hy
    have := h.cell L o y hy
    simp only [World.cell?] at this ⊢
    rw [hbox hL]; exact this
  · have := h.vec L own C ty k cs hx
    refine this.same fun hc => hk fun e => ?_
    exact VecAt.notCells this hc (e ▸ hlo) ho
end
/-! ### The loop -/
def recOf (fn : FuncId) (aT : Array Value) (ps : Array Tmp) (assign body : Code) (D : Nat) (st : LoopState) : Loop :=
  { state := st, pending := none, fn, tmps := aT, params := ps, assign, body, defers := D }
def MarksK (ds : Bool) (B : Nat) (aD : List Deferred) (K : List (Nat × Obj)) : Prop := ∃ ms : List Nat, aD = ms.map mark ∧ (ds = false → ms = []) ∧ ms.Nodup ∧ ∀ D ∈ ms, B ≤ D ∧ (D, Obj.deferred (some [])) ∈ K
theorem MarksK.marks {ds : Bool} {B : Nat} {aD : List Deferred} {K : List (Nat × Obj)} {w : World} (h : MarksK ds B aD K) (hk : ∀ k o, (k, o) ∈ K → w.heap[k]? = some o) : Marks ds B aD w := by
  obtain ⟨ms, h1, h2, h3, h4⟩ := h
  exact ⟨ms, h1, h2, h3, fun D hD => ⟨(h4 D hD).1, hk _ _ (h4 D hD).2⟩⟩
abbrev LoopEnd (P : Program) (Q : Exit → Act → World → Prop) (l : Nat) (aT : Array Value) (aD : List Deferred) : Ending → World → Prop := rangePost Fence.wide 0 P l Q { tmps := aT, defers := aD }
theorem aw_rangeFunc {P : Program} {B N N' : Nat} {w0 : World} {bor : List (Nat × Nat)} {S : Nat → Array Value} {K : List (Nat × Obj)} {s : St} {Q : Exit → Act → World → Prop} {g : Operand} {ps : Array Tmp} {assign body : Code}
    {fv : SV} {k : Nat} {caps : List SV} {fnk : Func} {ck : Code} (lv : Nat) (ts : List (Nat × SV)) (s0 : St) (hf : Ev (get s) g fv) (hk : calleeOf k [] caps fv) (hfn : P.funcs[k]? = some fnk) (hb : fnk.body = some ck) (hN : fnk.ntmps = N')
    (hen : Proofs.Enters P k) (hlen : caps.length + 1 ≤ N') (hts : TAre (get s) ts) (hk0 : Keep s0 s) (hok : keepOK ⟨P, none, B, w0, N, true, bor, S, K⟩ s0 = true) (hnt : noTU lv s0 = true)
    (h : ∀ (l D : Nat) (fn : FuncId) (aT : Array Value) (aD : List Deferred) (K2 : List (Nat × Obj)), B ≤ l → (∀ p ∈ K2, p.1 ≠ l) → MarksK true B aD K2 → (∀ p ∈ K, p ∈ K2) → aT.size = N →
      AW ⟨P, none, B, w0, N', false, bor, setSus S lv aT, (l, .loop (recOf fn aT ps assign body D .ready)) :: K2⟩ ck (argSt 0 (.v (.func (.yield l) #[] #[]) :: caps) ++ (sqS lv ts ++ s0)) (bodyPost P fnk (LoopEnd P Q l aT aD))) :
    AW ⟨P, none, B, w0, N, true, bor, S, K⟩ (.rangeFunc g ps assign body) s Q := by
  intro m a w hrel
  have hF : (Cx.F ⟨P, none, B, w0, N, true, bor, S, K⟩) = Fence.wide := rfl
  rw [hF]
  refine wpIn_rangeFunc ?_
  intro fn _
  have hev := hf.eval hrel (fun _ _ => rfl)
  have hfv : den m fv = .func (.func k) #[] (denL m caps).toArray := by
    cases fv with
    | v v => obtain ⟨rfl, _, rfl⟩ := hk; rfl
    | f fn bs cs => obtain ⟨rfl, hbs, rfl⟩ := hk; subst hbs; rfl
    | _ => exact hk.elim
  rw [hfv] at hev
  obtain ⟨ms, hm1, _, hm3, hm4⟩ := hrel.defers
  refine ⟨w.heap.size + 1, [mark w.heap.size], (w.alloc (.deferred (some []))).alloc (.loop (recOf fn a.tmps ps assign body w.heap.size .ready)), { target := .fn (.func k) (denL m caps).toArray, args := #[.func (.yield (w.heap.size + 1)) #[] #[]] }, (w.alloc (.deferred (some []))).alloc (.loop (recOf fn a.tmps ps assign body w.heap.size .ready)), k,
    #[.func (.yield (w.heap.size + 1)) #[] #[]] ++ (denL m caps).toArray, (w.alloc (.deferred (some []))).alloc (.loop (recOf fn a.tmps ps assign body w.heap.size .ready)), ?_, ?_, ?_, ?_, fun h => absurd (show (none : Option Nat).isSome = true from h) (by decide), ?_⟩
  · exact run_enterLoop_outer _ _ _ _ _
  · simp only [resolve, hev]
    simp [go_sem]
  · intro f' _; trivial
  · have := hen (#[.func (.yield (w.heap.size + 1)) #[] #[]] ++ (denL m caps).toArray) ((w.alloc (.deferred (some []))).alloc (.loop (recOf fn a.tmps ps assign body w.heap.size .ready)))
    simp only [invoke] at this ⊢
    simpa [go_sem] using this
  · have hr1 := hrel.addObj (o := .deferred (some [])) rfl
    have hr2 := hr1.addObj (o := .loop (recOf fn a.tmps ps assign body w.heap.size .ready)) rfl
    have e1 : (w.alloc (.deferred (some []))).heap.size = w.heap.size + 1 := by simp
    rw [e1] at hr2
    have hms : ∀ D ∈ ms, D < w.heap.size := fun D hD => (Array.getElem?_eq_some_iff.1 (hm4 D hD).2).1
    have hko := hr2.ko
    obtain ⟨K2, hK2⟩ : ∃ K2, K2 = (w.heap.size, Obj.deferred (some [])) :: (ms.map (fun D => (D, Obj.deferred (some []))) ++ K) := ⟨_, rfl⟩
    have hK2l : ∀ p ∈ K2, p.1 ≠ w.heap.size + 1 := by
      intro p hp e
      rw [hK2] at hp
      rcases List.mem_cons.1 hp with rfl | hp
      · simp at e
      · rcases List.mem_append.1 hp with hp | hp
        · obtain ⟨D, hD, rfl⟩ := List.mem_map.1 hp
          have := hms D hD
          simp at e; omega
        · have := (hrel.ko p.1 p.2 hp).1
          have := (Array.getElem?_eq_some_iff.1 this).1
          omega
    have hB : B ≤ w.heap.size + 1 := by have : B ≤ w.heap.size := hrel.top; omega
    have hr3 := hrel.keep hk0 hok
    refine callsIn_of_wp hfn hb trivial ?_
    have h2 := h (w.heap.size + 1) w.heap.size fn a.tmps ([mark w.heap.size] ++ a.defers) K2 hB hK2l ?_ ?_ hrel.size
    · subst hN
      refine h2 m _ _ ?_
      have hr4 := (hr2.keep hk0 (by simpa [keepOK] using hok))
      have hargs : #[Value.func (.yield (w.heap.size + 1)) #[] #[]] ++ (denL m caps).toArray = (denL m (.v (.func (.yield (w.heap.size + 1)) #[] #[]) :: caps)).toArray := by simp [denL, den]
      rw [hargs]
      have hs0 : ∀ {k : Key}, (∀ j, k ≠ .t j) → (∀ j, k ≠ .u lv j) → get (argSt 0 (.v (.func (.yield (w.heap.size + 1)) #[] #[]) :: caps) ++ (sqS lv ts ++ s0)) k = get s0 k := fun {k} h1 h2 => by
        rw [get_append, upd_argSt h1, get_append, upd_susSt h2]
      have ht0 : ∀ i, get (sqS lv ts ++ s0) (.t i) = none := fun i => by rw [get_append, upd_susSt (by simp)]; exact noTU_t hnt
      refine hr4.view ?_ marks_nil (fun L => hs0 (by simp) (by simp)) (fun L o => hs0 (by simp) (by simp)) (fun L => hs0 (by simp) (by simp)) (fun i v hv => ?_) (fun l i x hx => ?_) (fun k o hk => ?_)
      · simp [denL_length]; omega
      · rw [get_append] at hv
        obtain ⟨j, x, rfl, h5, rfl⟩ := upd_argSt_some ht0 hv
        refine ⟨x, rfl, ?_⟩
        simp only [Nat.zero_add]
        have hlt := (List.getElem?_eq_some_iff.1 h5).1
        rw [Array.getElem?_append_left (by simpa [denL_length] using hlt), List.getElem?_toArray, denL_get, h5]
        rfl
      · by_cases e : l = lv
        · subst e
          rw [setSus_self]
          rw [get_append, upd_argSt (by simp), get_append] at hx
          obtain ⟨y, h5, h6⟩ := upd_susSt_some (fun i => noTU_u hnt) hx
          cases h6
          exact hrel.tm i x (hts.mem (i, x) h5)
        · rw [setSus_ne e]
          rw [hs0 (by simp) (by simpa using e)] at hx
          exact hr3.us l i x hx
      · rcases List.mem_cons.1 hk with e | hk
        · cases e; exact hko _ _ (by simp)
        · rw [hK2] at hk
          rcases List.mem_cons.1 hk with e | hk
          · cases e; exact hko _ _ (by simp)
          · rcases List.mem_append.1 hk with hk | hk
            · obtain ⟨D, hD, e⟩ := List.mem_map.1 hk
              cases e
              have hlt := hms _ hD
              refine ⟨?_, rfl⟩
              rw [Below.heap_alloc _ _ _ (by simp; omega), Below.heap_alloc _ _ _ hlt]
              exact (hm4 _ hD).2
            · exact hko _ _ (by simp [hk])
    · refine ⟨w.heap.size :: ms, by rw [hm1]; rfl, by simp, ?_, fun D hD => ?_⟩
      · exact List.nodup_cons.2 ⟨fun h => by have := hms _ h; omega, hm3⟩
      · rw [hK2]
        rcases List.mem_cons.1 hD with rfl | hD
        · exact ⟨hrel.top, by simp⟩
        · refine ⟨(hm4 D hD).1, ?_⟩
          simp only [List.mem_cons, List.mem_append, List.mem_map]
          exact .inr (.inl ⟨D, hD, rfl⟩)
    · intro p hp
      rw [hK2]; simp [hp]
/-! ### The iterator has returned -/
theorem get_tmpSt {ts : List (Nat × SV)} {s0 : St} {k : Key} (h : ∀ i, k ≠ .t i) : get (tqS ts ++ s0) k = get s0 k := by rw [get_append, upd_tmpSt h]
theorem Rel.outer {P : Program} {r r' : Option Nat} {B N N' : Nat} {w0 : World} {ds ds' : Bool} {bor : List (Nat × Nat)} {S : Nat → Array Value} {K K' : List (Nat × Obj)} {m : Nat → Nat} {a : Act} {w : World} {s' : St} (lv : Nat) {aT : Array Value} {aD : List Deferred}
    (ts : List (Nat × SV)) (s0 : St) (h : Rel ⟨P, r', B, w0, N', ds', bor, setSus S lv aT, K'⟩ m (get s') a w) (hu : UAre lv (get s') ts) (hk0 : Keep s0 s') (hok : keepOK ⟨P, r', B, w0, N', ds', bor, S, K'⟩ s0 = true) (hnt : noTU lv s0 = true)
    (hsz : aT.size = N) (hd : Marks ds B aD w) (hk : ∀ k o, (k, o) ∈ K → w.heap[k]? = some o ∧ o.isCells = false) :
    Rel ⟨P, r, B, w0, N, ds, bor, S, K⟩ m (get (tqS ts ++ s0)) { tmps := aT, defers := aD } w := by
  have h0 := h.keep hk0 (by simpa [keepOK] using hok)
  refine h0.view (a' := { tmps := aT, defers := aD }) hsz hd (fun L => get_tmpSt (by simp)) (fun L o => get_tmpSt (by simp)) (fun L => get_tmpSt (by simp)) (fun i v hv => ?_) (fun l i x hx => ?_) hk
  · rw [get_append] at hv
    obtain ⟨x, h5, rfl⟩ := upd_tmpSt_some (fun i => noTU_t hnt) hv
    refine ⟨x, rfl, ?_⟩
    have := h.us lv i x (hu.mem (i, x) h5)
    simpa [setSus_self] using this
  · rw [get_tmpSt (by simp)] at hx
    have hne : l ≠ lv := fun e => by subst e; rw [noTU_u hnt] at hx; cases hx
    have := h0.us l i x hx
    simpa [setSus_ne hne] using this
theorem fin_rangeEnd {P : Program} {B N N' : Nat} {w0 : World} {bor : List (Nat × Nat)} {S : Nat → Array Value} {K K2 : List (Nat × Obj)} {l D : Nat} {fn : FuncId} {aT : Array Value} {aD : List Deferred} {ps : Array Tmp} {assign body : Code} {lv : Nat} {fnk : Func}
    {s' : St} {Q : Exit → Act → World → Prop} {e : Exit} (ts : List (Nat × SV)) (s0 : St) (he : e = .ret ∨ e = .normal) (hl : B ≤ l) (hK2 : ∀ p ∈ K2, p.1 ≠ l) (hM : MarksK true B aD K2) (hsub : ∀ p ∈ K, p ∈ K2) (hsz : aT.size = N)
    (hres : fnk.results = #[]) (hu : UAre lv (get s') ts) (hk0 : Keep s0 s') (hok : keepOK ⟨P, none, B, w0, N', false, bor, S, K2⟩ s0 = true) (hnt : noTU lv s0 = true)
    (h : Fin ⟨P, none, B, w0, N, true, bor, S, K⟩ (tqS ts ++ s0) Q .normal) :
    Fin ⟨P, none, B, w0, N', false, bor, setSus S lv aT, (l, .loop (recOf fn aT ps assign body D .ready)) :: K2⟩ s' (bodyPost P fnk (LoopEnd P Q l aT aD)) e := by
  intro m a w hrel
  have hl1 := (hrel.ko l _ (List.Mem.head _)).1
  have hne : ∀ k o, (k, o) ∈ K2 → w.heap[k]? = some o ∧ o.isCells = false := fun k o hk => hrel.ko k o (by simp [hk])
  have hds := hrel.defers.none
  have key : a.defers = [] ∧ ∃ v, (results fnk a.tmps).run P w = .ok v w ∧ LoopEnd P Q l aT aD (.returned v) w := by
    refine ⟨hds, _, results_run (rs := []) (xs := []) hres hrel rqN, none, _, run_endLoop hl1 (by simp [recOf]), ?_⟩
    have hot : ∀ k, k ≠ l → (w.putObj l (.loop { recOf fn aT ps assign body D .ready with state := .exhausted })).heap[k]? = w.heap[k]? := fun k hk => World.putObj_heap_other hk
    have hKw : ∀ k o, (k, o) ∈ K2 → (w.putObj l (.loop { recOf fn aT ps assign body D .ready with state := .exhausted })).heap[k]? = some o ∧ o.isCells = false := fun k o hk => by
      rw [hot k (hK2 _ hk)]; exact hne k o hk
    have h1 := hrel.otherObj (a' := a) (ds' := false) (K' := K2) (.loop { recOf fn aT ps assign body D .ready with state := .exhausted }) hl hl1 rfl (by rw [hds]; exact marks_nil) rfl hKw
    exact h m _ _ (h1.outer lv ts s0 hu hk0 hok hnt hsz (hM.marks fun k o hk => (hKw k o hk).1) (fun k o hk => hKw k o (hsub _ hk)))
  rcases he with rfl | rfl
  · exact key
  · exact key
/-! ### A round -/
def parSt : List Tmp → List SV → St
  | p :: ps, x :: xs => parSt ps xs ++ [(.t p, some (.x x))]
  | _, _ => []
theorem Rel.puts {cx : Cx} {m : Nat → Nat} {w : World} : ∀ {ps : List Tmp} {xs : List SV} {g : Map} {a : Act}, Rel cx m g a w → (∀ p ∈ ps, p < cx.N) → ps.length = xs.length →
    Rel cx m (upd (parSt ps xs) g) { a with tmps := (ps.zip (denL m xs)).foldl (fun t q => t.setIfInBounds q.1 q.2) a.tmps } w := by
  intro ps
  induction ps with
  | nil => intro xs g a h _ _; exact h
  | cons p r ih =>
    intro xs g a h hp hl
    cases xs with
    | nil => simp at hl
    | cons x xs =>
      have h1 := h.put (d := p) (x := x) (hp p (by simp)) rfl
      have h2 := ih h1 (fun q hq => hp q (by simp [hq])) (by simpa using hl)
      simp only [parSt, upd_append, denL, List.zip_cons_cons, List.foldl_cons]
      exact h2
def RoundQ (P : Program) (l : Nat) (body : Code) (R : Ending → World → Prop) : Exit → Act → World → Prop :=
  Exit.then (fun a1 w1 => ∃ w2, (Instr.beginRound l).run P w1 = .ok () w2 ∧ body.wpIn (Fence.wide.inRound l) 0 P (roundPost P l R) a1 w2) (fun _ _ _ => False)
def RoundR (P : Program) (B N' : Nat) (w0 : World) (bor : List (Nat × Nat)) (S : Nat → Array Value) (K : List (Nat × Obj)) (aI : Array Value) (up : St) : Ending → World → Prop :=
  fun e W => e = .returned (.bool true) ∧ ∃ m, Rel ⟨P, none, B, w0, N', false, bor, S, K⟩ m (get up) { tmps := aI, defers := [] } W
theorem op_yieldIn {P : Program} {B N N' : Nat} {w0 : World} {bor : List (Nat × Nat)} {S : Nat → Array Value} {K2 : List (Nat × Obj)} {l D : Nat} {fn : FuncId} {aT : Array Value} {ps : Array Tmp} {assign body : Code} {lv : Nat}
    {dst : Tmp} {type : TypeId} {pos : String} {after : Array Edge} {guard : Option (Nat × Bool)} {fo : Operand} {args : Array Operand} {tys : Array TypeId} {xs : List SV} {sS : St} (up : St) (lv2 : Nat) (tsI tsO : List (Nat × SV)) (s0 : St)
    (hdst : dst < N') (hf : Ev (get sS) fo (.v (.func (.yield l) #[] #[]))) (hx : EvL (get sS) args.toList xs) (hlen : ps.toList.length = xs.length) (hps : ∀ p ∈ ps.toList, p < N) (hsz : aT.size = N)
    (hI : TAre (get sS) tsI) (hO : UAre lv (get sS) tsO) (hk0 : Keep s0 sS) (hok : keepOK ⟨P, none, B, w0, N', false, bor, S, K2⟩ s0 = true) (hnt : noTU lv2 s0 = true) (hlv : lv2 ≠ lv) (hcov : (sS.all fun x => touches x.1 up) = true)
    (hbody : ∀ aI : Array Value, aI.size = N' → AW ⟨P, some l, B, w0, N, false, bor, setSus (setSus S lv aT) lv2 aI, (l, .loop (recOf fn aT ps assign body D .ready)) :: K2⟩ assign (parSt ps.toList xs ++ (tqS tsO ++ (sqS lv2 tsI ++ s0)))
      (RoundQ P l body (RoundR P B N' w0 bor (setSus S lv aT) ((l, .loop (recOf fn aT ps assign body D .ready)) :: K2) aI up))) :
    OpRun ⟨P, none, B, w0, N', false, bor, setSus S lv aT, (l, .loop (recOf fn aT ps assign body D .ready)) :: K2⟩ ⟨some dst, .call ⟨.value fo, args, tys⟩, type, pos, after, guard⟩ (get sS) ⟨[.a], (.t dst, some (.x (.v (.bool true)))) :: up, []⟩ := by
  intro m a w g hr _ hrel0 Kq Q hK
  have hg : g = get sS := funext fun k => hr k (by simp [Row.reads, Key.eqb])
  subst hg
  have hrel := hrel0
  have h1 := hf.eval hrel (fun _ _ => rfl)
  have h2 : args.map a.eval = (denL m xs).toArray := by
    rw [← hx.eval hrel (fun _ _ => rfl)]; exact Array.ext' (by rw [Array.toList_map])
  have hl1 := (hrel.ko l _ (List.Mem.head _)).1
  have hds := hrel.defers.none
  refine ⟨fun _ _ => trivial, ?_⟩
  rw [semAt_of _ _ (fun _ h => by cases h)]
  have hy := run_yield (P := P) (args := (denL m xs).toArray) hl1 (by simp [recOf, denL_length]; rw [← hlen]; simp)
  have hrun : (execOp a.eval ⟨some dst, .call ⟨.value fo, args, tys⟩, type, pos, after, guard⟩).run P w = .ok (.round l fn ((ps.zip (denL m xs).toArray).foldl (fun tmps (t, a) => tmps.setIfInBounds t a) aT) assign body) w := by
    simp only [execOp, resolve, h1, h2, den, Deferred.ofValue, Sem.run_bind, Sem.run_pure, Result.andThen_ok, invoke]
    simpa [recOf] using hy
  rw [hrun, Oper.uponIn_round]
  refine ⟨fun h => absurd (show (none : Option Nat).isSome = true from h) (by decide), ?_⟩
  have hF : (Cx.F ⟨P, none, B, w0, N', false, bor, setSus S lv aT, (l, .loop (recOf fn aT ps assign body D .ready)) :: K2⟩) = Fence.wide := rfl
  rw [hF]
  have hfin : ∀ e W, RoundR P B N' w0 bor (setSus S lv aT) ((l, .loop (recOf fn aT ps assign body D .ready)) :: K2) a.tmps up e W →
      (match (motive := Ending → World → Prop) e, W with
       | .returned v, w'' => Kq (a.put (some dst) v) w''
       | .panicked chain, w'' => Q (.panic chain) a w''
       | .outgrown, _ => LetsOut Q) := by
    rintro e W ⟨rfl, m', h'⟩
    have ha : a = { tmps := a.tmps, defers := [] } := by cases a; simp only at hds; subst hds; rfl
    have h3 : Rel ⟨P, none, B, w0, N', false, bor, setSus S lv aT, (l, .loop (recOf fn aT ps assign body D .ready)) :: K2⟩ m' (get up) a W := by rw [ha]; exact h'
    refine hK m' _ W ((h3.put (d := dst) (x := .v (.bool true)) hdst rfl).congr fun k => ?_)
    simp only [upd]
    cases e : Key.eqb (.t dst) k with
    | true => rfl
    | false =>
      simp only [cond_false]
      cases ht : touches k up with
      | true => exact upd_congr ht _ _
      | false =>
        rw [upd_of_touches ht]
        have : touches k sS = false := by
          cases hs : touches k sS with
          | false => rfl
          | true =>
            obtain ⟨x, hx, rfl⟩ := touches_iff.1 hs
            rw [List.all_eq_true.1 hcov x hx] at ht; cases ht
        rw [get_untouched this]
        exact upd_of_touches ht _
  refine RoundIn.mono (roundIn_of_wpIn trivial ?_) hfin
  have hnt0 : ∀ i, get (sqS lv2 tsI ++ s0) (.t i) = none := fun i => by rw [get_append, upd_susSt (by simp)]; exact noTU_t hnt
  have hs0 : ∀ {k : Key}, (∀ j, k ≠ .t j) → (∀ j, k ≠ .u lv2 j) → get (tqS tsO ++ (sqS lv2 tsI ++ s0)) k = get s0 k := fun {k} h1 h2 => by
    rw [get_append, upd_tmpSt h1, get_append, upd_susSt h2]
  have hv := (hrel.keep hk0 (by simpa [keepOK] using hok)).view (r' := some l) (N' := N) (ds' := false) (S' := setSus (setSus S lv aT) lv2 a.tmps) (K' := (l, .loop (recOf fn aT ps assign body D .ready)) :: K2) (a' := { tmps := aT, defers := [] }) (s1 := tqS tsO ++ (sqS lv2 tsI ++ s0))
    hsz marks_nil (fun L => hs0 (by simp) (by simp)) (fun L o => hs0 (by simp) (by simp)) (fun L => hs0 (by simp) (by simp)) (fun i v hv => by
      rw [get_append] at hv
      obtain ⟨x, h5, rfl⟩ := upd_tmpSt_some hnt0 hv
      refine ⟨x, rfl, ?_⟩
      have := hrel.us lv i x (hO.mem (i, x) h5)
      simpa [setSus_self] using this) (fun l' i x hx => by
      rw [get_append, upd_tmpSt (by simp)] at hx
      by_cases e : l' = lv2
      · subst e
        rw [setSus_self]
        rw [get_append] at hx
        obtain ⟨y, h5, h6⟩ := upd_susSt_some (fun i => noTU_u hnt) hx
        cases h6
        exact hrel.tm i x (hI.mem (i, x) h5)
      · rw [setSus_ne e]
        rw [get_append, upd_susSt (by simpa using e)] at hx
        exact (hrel.keep hk0 (by simpa [keepOK] using hok)).us l' i x hx) hrel.ko
  have hp := hv.puts (ps := ps.toList) (xs := xs) hps hlen
  rw [← get_append] at hp
  have hz : (ps.zip (denL m xs).toArray).foldl (fun tmps (t, a) => tmps.setIfInBounds t a) aT = (ps.toList.zip (denL m xs)).foldl (fun t q => t.setIfInBounds q.1 q.2) aT := by
    rw [← Array.foldl_toList]; simp
  rw [hz]
  exact hbody a.tmps hrel.size m _ w hp
theorem fin_begin {P : Program} {B N l D : Nat} {w0 : World} {bor : List (Nat × Nat)} {S : Nat → Array Value} {K2 : List (Nat × Obj)} {fn : FuncId} {aT : Array Value} {ps : Array Tmp} {assign body : Code} {s : St} {R : Ending → World → Prop} (hl : B ≤ l) (hK2 : ∀ p ∈ K2, p.1 ≠ l)
    (h : AW ⟨P, some l, B, w0, N, false, bor, S, (l, .loop (recOf fn aT ps assign body D .busy)) :: K2⟩ body s (roundPost P l R)) :
    Fin ⟨P, some l, B, w0, N, false, bor, S, (l, .loop (recOf fn aT ps assign body D .ready)) :: K2⟩ s (RoundQ P l body R) .normal := by
  intro m a w hrel
  have hl1 := (hrel.ko l _ (List.Mem.head _)).1
  have hds := hrel.defers.none
  refine ⟨_, run_beginRound hl1 rfl, ?_⟩
  have hlt : l < w.heap.size := (Array.getElem?_eq_some_iff.1 hl1).1
  have h1 := hrel.otherObj (a' := a) (ds' := false) (K' := (l, .loop (recOf fn aT ps assign body D .busy)) :: K2) (.loop (recOf fn aT ps assign body D .busy)) hl hl1 rfl (by rw [hds]; exact marks_nil) rfl (fun k o hk => by
    rcases List.mem_cons.1 hk with e | hk
    · cases e; exact ⟨World.putObj_heap_same hlt, rfl⟩
    · rw [World.putObj_heap_other (hK2 _ hk)]; exact hrel.ko k o (by simp [hk]))
  exact h m a _ h1
def dqS : List Key → St := fun ks => ks.map fun k => (k, none)
theorem get_dropSt {ks : List Key} {k : Key} : get (dqS ks) k = none := by
  induction ks with
  | nil => rfl
  | cons x r ih =>
    simp only [dqS, List.map_cons, get, upd]
    cases e : x.eqb k with
    | true => rfl
    | false => exact ih
theorem get_drop {s : St} {ks : List Key} : get (s ++ dqS ks) = get s := by
  funext k
  rw [get_append]
  cases ht : touches k s with
  | true => exact upd_congr ht _ _
  | false => rw [upd_of_touches ht, get_dropSt, get_untouched ht]
theorem fin_roundEnd {P : Program} {B N N' l D : Nat} {w0 : World} {bor : List (Nat × Nat)} {S : Nat → Array Value} {K2 : List (Nat × Obj)} {fn : FuncId} {aT aI : Array Value} {ps : Array Tmp} {assign body : Code} {s : St} {up : St} {lv2 : Nat}
    (tsI : List (Nat × SV)) (s0 : St) (ks : List Key) (hup : up = tqS tsI ++ (s0 ++ dqS ks)) (hl : B ≤ l) (hK2 : ∀ p ∈ K2, p.1 ≠ l) (hsz : aI.size = N') (hu : UAre lv2 (get s) tsI) (hk0 : Keep s0 s) (hok : keepOK ⟨P, none, B, w0, N', false, bor, S, K2⟩ s0 = true) (hnt : noTU lv2 s0 = true) :
    Fin ⟨P, some l, B, w0, N, false, bor, setSus S lv2 aI, (l, .loop (recOf fn aT ps assign body D .busy)) :: K2⟩ s
      (roundPost P l (RoundR P B N' w0 bor S ((l, .loop (recOf fn aT ps assign body D .ready)) :: K2) aI up)) .normal := by
  intro m a w hrel
  have hl1 := (hrel.ko l _ (List.Mem.head _)).1
  have hds := hrel.defers.none
  have hlt : l < w.heap.size := (Array.getElem?_eq_some_iff.1 hl1).1
  have hend := run_endRound (P := P) none hl1
  refine ⟨_, _, hend, rfl, m, ?_⟩
  have hKw : ∀ k o, (k, o) ∈ (l, Obj.loop (recOf fn aT ps assign body D .ready)) :: K2 → (w.putObj l (.loop (recOf fn aT ps assign body D .ready))).heap[k]? = some o ∧ o.isCells = false := fun k o hk => by
    rcases List.mem_cons.1 hk with e | hk
    · cases e; exact ⟨World.putObj_heap_same hlt, rfl⟩
    · rw [World.putObj_heap_other (hK2 _ hk)]; exact hrel.ko k o (by simp [hk])
  have h1 := hrel.otherObj (a' := a) (ds' := false) (K' := (l, .loop (recOf fn aT ps assign body D .ready)) :: K2) (.loop (recOf fn aT ps assign body D .ready)) hl hl1 rfl (by rw [hds]; exact marks_nil) rfl hKw
  have h2 := h1.outer (r := none) (N := N') (ds := false) (K := (l, .loop (recOf fn aT ps assign body D .ready)) :: K2) (aD := []) lv2 tsI s0 hu hk0 hok hnt hsz marks_nil hKw
  have e : get up = get (tqS tsI ++ s0) := by rw [hup, ← List.append_assoc, get_drop]
  rw [e]
  exact h2
/-! ### Functions that hold loops over functions -/
theorem enterM {P : Program} {f : Nat} {fn : Func} {c : Code} {args : List SV} {w : World} {R : Ending → World → Prop} (hf : P.funcs[f]? = some fn) (hb : fn.body = some c) {N : Nat} (hN : fn.ntmps = N) (hn : args.length ≤ N)
    (h : AW ⟨P, none, w.heap.size, w, N, true, [], noS, []⟩ c (argSt 0 args) (bodyPostM Fence.wide 0 P fn R)) : Calls P f (denL (fun _ => 0) args).toArray w R := by
  refine (callsIn_wide (n := 0)).1 ?_
  refine callsIn_of_wp_marks hf hb trivial ?_
  subst hN
  have h0 := rel_start (P := P) (r := none) args w hn
  exact h _ _ _ ⟨h0.size, marks_nil, h0.tm, h0.tmc, h0.blk, h0.cell, h0.own, h0.inj, h0.vec, h0.sep, h0.sepR, h0.ownR, ⟨h0.held.os, h0.held.tape, h0.held.output, h0.held.size, h0.held.block⟩, h0.top, h0.fix, h0.us, h0.ko⟩
theorem leavesM {P : Program} {B N : Nat} {w0 : World} {bor : List (Nat × Nat)} {S : Nat → Array Value} {m : Nat → Nat} {s : St} {fn : Func} {R : Ending → World → Prop} {rs : List ResultVar} {xs : List SV} (hrs : fn.results = rs.toArray) (h : ResOK P (get s) rs xs)
    (hR : ∀ m a w, Rel ⟨P, none, B, w0, N, true, bor, S, []⟩ m (get s) a w → R (.returned (den m (resVal xs))) w) :
    ∀ (ms : List Nat) (w : World) (a : Act), ms.Nodup → (∀ D ∈ ms, B ≤ D ∧ w.heap[D]? = some (.deferred (some []))) → Rel ⟨P, none, B, w0, N, true, bor, S, []⟩ m (get s) a w → LeavesInM Fence.wide 0 P fn a.tmps R (ms.map mark) .returning w := by
  intro ms
  induction ms with
  | nil => intro w a _ _ hrel; exact ⟨_, results_run hrs hrel h, hR m a w hrel⟩
  | cons D ms ih =>
    intro w a hnd hD hrel
    obtain ⟨hB, hw⟩ := hD D (by simp)
    have hnd := List.nodup_cons.1 hnd
    refine ⟨by simp, .inl ⟨D, _, rfl, run_takeDeferred hw, ?_⟩⟩
    have hother : ∀ D' ∈ ms, (w.putObj D (.deferred none)).heap[D']? = some (.deferred (some [])) := fun D' hD' => by
      rw [World.putObj_heap_other (fun e => hnd.1 (by rw [← e]; exact hD'))]; exact (hD D' (by simp [hD'])).2
    have h1 := hrel.otherObj (a' := { a with defers := [] }) (ds' := true) (K' := []) (.deferred none) hB hw rfl marks_nil rfl (fun k o hk => by simp at hk)
    exact ih _ { a with defers := [] } hnd.2 (fun D' hD' => ⟨(hD D' (by simp [hD'])).1, hother D' hD'⟩) h1
theorem post_retM {P : Program} {B N : Nat} {w0 : World} {bor : List (Nat × Nat)} {S : Nat → Array Value} {s : St} {fn : Func} {R : Ending → World → Prop} {rs : List ResultVar} {xs : List SV} {x : SV} (hrs : fn.results = rs.toArray) (h : ResOK P (get s) rs xs) (hx : resVal xs = x)
    (hR : ∀ m a w, Rel ⟨P, none, B, w0, N, true, bor, S, []⟩ m (get s) a w → R (.returned (den m x)) w) {e : Exit} (he : e = .ret ∨ e = .normal) : Fin ⟨P, none, B, w0, N, true, bor, S, []⟩ s (bodyPostM Fence.wide 0 P fn R) e := by
  intro m a w hrel
  subst hx
  obtain ⟨ms, h1, _, h3, h4⟩ := hrel.defers
  have := leavesM hrs h hR ms w a h3 h4 hrel
  rw [← h1] at this
  rcases he with rfl | rfl
  · exact this
  · exact this
end Go.AX
/-
  Calls that hand back a function over boxes that they have laid.
-/
namespace Go.AX
open Go Go.RowKit
section
variable {cx : Cx} {s g : Map} {m : Nat → Nat} {a : Act} {w : World}
theorem hasL_mem {L : Nat} : ∀ {l : List SV}, hasL L l = false → ∀ {x}, x ∈ l → x.has L = false := by
  intro l
  induction l with
  | nil => intro _ x hx; cases hx
  | cons z l ih =>
    intro hz x hx
    simp only [hasL, Bool.or_eq_false_iff] at hz
    cases hx with
    | head => exact hz.1
    | tail _ hx => exact ih hz.2 hx
theorem Rel.gotBoxS {L b : Nat} {ty : TypeId} {ys : List SV} (h : Rel cx m g a w) (hf : ∀ q, mentions L q (g q) = false) (hb : w.heap[b]? = some (.cells (denL m ys).toArray ty (0, 0))) (hLy : hasL L ys = false) (hB : cx.B ≤ b)
    (hnew : ∀ l ty n, g (.b l) = some (.sh ty n) → m l ≠ b) (hrow : ∀ l own C ty k cs, g (.r l) = some (.vec own C ty k cs) → m C ≠ 0 → m l ≠ b) :
    Rel cx (setL m L b) (upd ((.b L, some (.sh ty ys.length)) :: cellsUp L 0 ys) g) a w := by
  have hx : ∀ {k x}, g k = some (.x x) → den (setL m L b) x = den m x := fun {k x} hk => den_setL (by have := hf k; rw [hk] at this; exact (mentions_x (b := true)).1 this)
  have hxc : ∀ {k c x}, g k = some (.xc c x) → den (setL m L b) x = den m x := fun {k c x} hk => den_setL (by have := hf k; rw [hk] at this; exact (mentions_x (b := c)).2 this)
  have hgb : ∀ {L' ty' n'}, g (.b L') = some (.sh ty' n') → L' ≠ L := fun {L' ty' n'} hk e => by
    have := hf (.b L'); rw [hk] at this; simp [mentions, e] at this
  have hgr : ∀ {L' own C ty' k cs'}, g (.r L') = some (.vec own C ty' k cs') → L' ≠ L ∧ C ≠ L := fun {L' own C ty' k cs'} hk => by
    have := hf (.r L')
    rw [hk] at this
    simp only [mentions, Bool.or_eq_false_iff] at this
    exact ⟨fun e => by subst e; simp at this, fun e => by subst e; simp at this⟩
  have key : ∀ k, upd ((.b L, some (.sh ty ys.length)) :: cellsUp L 0 ys) g k = match k with
      | .b L' => if L' = L then some (.sh ty ys.length) else g k
      | .c L' o => if L' = L ∧ o < ys.length then (ys[o]?).map Val.x else g k
      | _ => g k := by
    intro k
    simp only [upd]
    rw [upd_cellsUp]
    cases k with
    | t i => rfl
    | b L' =>
      by_cases e : L' = L
      · subst e; simp [Key.eqb]
      · have : Key.eqb (.b L) (.b L') = false := Key.eqb_false (by simpa using Ne.symm e)
        simp [this, e]
    | c L' o => simp [Key.eqb]
    | r L' => simp [Key.eqb]
    | u l i => simp [Key.eqb]
    | a => simp [Key.eqb]
  have hgc : ∀ {L' o x}, g (.c L' o) = some (.x x) → L' ≠ L := fun {L' o x} hk => by
    obtain ⟨ty', n', hL'⟩ := h.own L' o x hk
    exact hgb hL'
  refine ⟨h.size, h.defers, fun i y hy => ?_, fun i c y hy => ?_, fun L' ty' n' hL' => ?_, fun L' o' y hy => ?_, fun L' o' y hy => ?_, fun L1 L2 ty1 n1 ty2 n2 h1 h2 he => ?_, fun L1 own C ty1 k cs1 hx => ?_, fun L1 own C ty1 k cs1 L' ty' n' hx hy hc => ?_,
    fun L1 C ty1 k cs1 L' own' C' ty' k' cs' hx hy hne hc hc' => ?_, fun L1 C ty1 k cs1 hx hc => ?_, h.held, h.top, fun L1 b1 hb1 => ?_, fun l i y hy => by rw [key] at hy; rw [hx hy]; exact h.us l i y hy, h.ko⟩
  · rw [key] at hy; rw [hx hy]; exact h.tm i y hy
  · rw [key] at hy; rw [hxc hy]; exact h.tmc i c y hy
  · rw [key] at hL'
    by_cases e : L' = L
    · subst e
      simp only [if_true, Option.some.injEq, Val.sh.injEq] at hL'
      obtain ⟨rfl, rfl⟩ := hL'
      rw [setL_self]
      exact ⟨.inl hB, (denL m ys).toArray, by simp [denL_length], hb⟩
    · simp only [e, if_false] at hL'
      rw [setL_ne _ _ e]
      exact h.blk L' ty' n' hL'
  · rw [key] at hy
    by_cases e : L' = L ∧ o' < ys.length
    · obtain ⟨rfl, ho⟩ := e
      simp only [ho, and_self, if_true, List.getElem?_eq_getElem ho, Option.map_some, Option.some.injEq, Val.x.injEq] at hy
      subst hy
      rw [setL_self, den_setL (hasL_mem hLy (List.getElem_mem ho))]
      have hc := denL_get m ys o'
      rw [List.getElem?_eq_getElem ho, Option.map_some] at hc
      simp only [World.cell?, hb, Option.isSome_none, Bool.false_eq_true, if_false, List.getElem?_toArray, hc]
    · simp only [e, if_false] at hy
      have := hgc hy
      rw [setL_ne _ _ this, hx hy]
      exact h.cell L' o' y hy
  · rw [key] at hy
    by_cases e : L' = L ∧ o' < ys.length
    · exact ⟨ty, ys.length, by rw [key]; simp [e.1]⟩
    · simp only [e, if_false] at hy
      obtain ⟨ty', n', hL'⟩ := h.own L' o' y hy
      exact ⟨ty', n', by rw [key]; simp only [hgb hL', if_false]; exact hL'⟩
  · rw [key] at h1 h2
    by_cases e1 : L1 = L
    · by_cases e2 : L2 = L
      · rw [e1, e2]
      · simp only [e2, if_false] at h2
        rw [e1, setL_self, setL_ne _ _ e2] at he
        exact absurd he.symm (hnew L2 ty2 n2 h2)
    · simp only [e1, if_false] at h1
      by_cases e2 : L2 = L
      · rw [e2, setL_self, setL_ne _ _ e1] at he
        exact absurd he (hnew L1 ty1 n1 h1)
      · simp only [e2, if_false] at h2
        rw [setL_ne _ _ e1, setL_ne _ _ e2] at he
        exact h.inj L1 L2 ty1 n1 ty2 n2 h1 h2 he
  · rw [key] at hx
    obtain ⟨e1, e2⟩ := hgr hx
    rw [setL_ne _ _ e1, setL_ne _ _ e2]
    exact h.vec L1 own C ty1 k cs1 hx
  · rw [key] at hx hy
    obtain ⟨e1, e2⟩ := hgr hx
    rw [setL_ne _ _ e2] at hc
    rw [setL_ne _ _ e1]
    by_cases e : L' = L
    · subst e
      rw [setL_self]
      exact hrow L1 own C ty1 k cs1 hx hc
    · simp only [e, if_false] at hy
      rw [setL_ne _ _ e]
      exact h.sep L1 own C ty1 k cs1 L' ty' n' hx hy hc
  · rw [key] at hx hy
    obtain ⟨e1, e2⟩ := hgr hx
    obtain ⟨e3, e4⟩ := hgr hy
    rw [setL_ne _ _ e2] at hc
    rw [setL_ne _ _ e4] at hc'
    rw [setL_ne _ _ e1, setL_ne _ _ e3]
    exact h.sepR L1 C ty1 k cs1 L' own' C' ty' k' cs' hx hy hne hc hc'
  · rw [key] at hx
    obtain ⟨e1, e2⟩ := hgr hx
    rw [setL_ne _ _ e2] at hc
    rw [setL_ne _ _ e1]
    exact h.ownR L1 C ty1 k cs1 hx hc
  · obtain ⟨h1, ty1, n1, h2⟩ := h.fix L1 b1 hb1
    have hne := hgb h2
    exact ⟨by rw [setL_ne _ _ hne]; exact h1, ty1, n1, by rw [key]; simp only [hne, if_false]; exact h2⟩
def boxUpS (L : Nat) (ty : TypeId) (ys : List SV) : St := (.b L, some (.sh ty ys.length)) :: cellsUp L 0 ys
def NewBoxes (w w' : World) : List Nat → List (Nat × List Value) → Prop
  | [], [] => True
  | b :: bs, (ty, vs) :: r => w.heap.size ≤ b ∧ w'.heap[b]? = some (.cells vs.toArray ty (0, 0)) ∧ (∀ b' ∈ bs, b' ≠ b) ∧ NewBoxes w w' bs r
  | _, _ => False
structure NB where
  L : Nat
  ty : TypeId
  ys : List SV
def nbUp : List NB → St
  | [] => []
  | q :: r => boxUpS q.L q.ty q.ys ++ nbUp r
def nbLs (ls : List NB) : List Nat := ls.map (·.L)
def nbOK : List NB → Bool
  | [] => true
  | q :: r => (r.all fun p => !Nat.beq p.L q.L) && ((q :: r).all fun p => !hasL q.L p.ys) && (r.all fun p => !hasL p.L q.ys) && nbOK r
theorem mentions_boxUpS {L L' : Nat} {ty : TypeId} {ys : List SV} (hne : L ≠ L') (hy : hasL L' ys = false) (hf : ∀ q, mentions L' q (g q) = false) : ∀ q, mentions L' q (upd (boxUpS L ty ys) g q) = false := by
  intro q
  simp only [boxUpS, upd]
  rw [upd_cellsUp]
  cases q with
  | t i => simpa [Key.eqb] using hf (.t i)
  | u l i => simpa [Key.eqb] using hf (.u l i)
  | a => simpa [Key.eqb] using hf .a
  | r l => simpa [Key.eqb] using hf (.r l)
  | b l =>
    by_cases e : Key.b L = Key.b l
    · rw [Key.eqb_iff.2 e]
      cases e
      simp [mentions, beq_ne hne]
    · rw [Key.eqb_false e]; exact hf (.b l)
  | c l o' =>
    simp only [Key.eqb, cond_false]
    by_cases e : l = L ∧ 0 ≤ o' ∧ o' < 0 + ys.length
    · obtain ⟨rfl, h0, h1⟩ := e
      simp only [Nat.zero_add] at h1
      have := hasL_mem hy (List.getElem_mem h1)
      simp [h1, mentions, beq_ne hne, this]
    · rw [if_neg e]; exact hf (.c l o')
theorem Rel.newBoxes : ∀ {ls : List NB} {bs : List Nat} {m : Nat → Nat} {g : Map} {a : Act} {w w' : World} {b0 : Nat}, Rel cx m g a w' → cx.B ≤ w.heap.size → nbOK ls = true → NewBoxes w w' bs (ls.map fun q => (q.ty, denL m q.ys)) →
    (∀ L ∈ nbLs ls, ∀ k, mentions L k (g k) = false) → (∀ l ty n, g (.b l) = some (.sh ty n) → m l < w.heap.size ∨ (m l = b0 ∧ ∀ b ∈ bs, b ≠ b0) ∨ ∀ b ∈ bs, b ≠ m l) → (∀ l own C ty k cs, g (.r l) = some (.vec own C ty k cs) → m C ≠ 0 → m l < w.heap.size) →
    ∃ m', Rel cx m' (upd (nbUp ls) g) a w' ∧ (nbLs ls).map m' = bs ∧ ∀ l, l ∉ nbLs ls → m' l = m l := by
  intro ls
  induction ls with
  | nil =>
    intro bs m g a w w' b0 h _ _ hn _ _ _
    cases bs with
    | nil => exact ⟨m, h, rfl, fun _ _ => rfl⟩
    | cons b bs => exact hn.elim
  | cons q r ih =>
    intro bs m g a w w' b0 h hB hok hn hf hold hrow
    cases bs with
    | nil => exact hn.elim
    | cons b bs =>
      obtain ⟨n1, n2, n3, n4⟩ := hn
      simp only [nbOK, Bool.and_eq_true, List.all_eq_true, Bool.not_eq_true', List.mem_cons, forall_eq_or_imp] at hok
      obtain ⟨⟨⟨o1, o2, o3⟩, o4⟩, o5⟩ := hok
      have hfq := hf q.L (by simp [nbLs])
      have h1 := h.gotBoxS (L := q.L) (b := b) hfq n2 o2 (Nat.le_trans hB n1) (fun l ty n hl => by
        rcases hold l ty n hl with h2 | ⟨h2, h3⟩ | h2
        · omega
        · rw [h2]; exact fun e => h3 b (by simp) e.symm
        · exact fun e => h2 b (by simp) e.symm) (fun l own C ty k cs hl hc => by have := hrow l own C ty k cs hl hc; omega)
      have hne : ∀ p ∈ r, p.L ≠ q.L := fun p hp e => by have := o1 p hp; rw [e] at this; simp at this
      have hden : (r.map fun p => (p.ty, denL (setL m q.L b) p.ys)) = r.map fun p => (p.ty, denL m p.ys) := by
        refine List.map_congr_left fun p hp => ?_
        rw [denL_setL (o3 p hp)]
      obtain ⟨m', r1, r2, r3⟩ := ih (bs := bs) (m := setL m q.L b) (g := upd (boxUpS q.L q.ty q.ys) g) (a := a) (w := w) (w' := w') (b0 := b) h1 hB o5 (by rw [hden]; exact n4)
        (fun L hL => by
          obtain ⟨p, hp, rfl⟩ := List.mem_map.1 hL
          exact mentions_boxUpS (Ne.symm (hne p hp)) (o4 p hp) (hf p.L (by simp [nbLs]; exact .inr ⟨p, hp, rfl⟩)))
        (fun l ty n hl => by
          simp only [boxUpS, upd] at hl
          by_cases e : l = q.L
          · subst e; rw [setL_self]; exact .inr (.inl ⟨rfl, n3⟩)
          · rw [Key.eqb_false (by simpa using Ne.symm e), cond_false, upd_cellsUp] at hl
            rw [setL_ne _ _ e]
            rcases hold l ty n hl with h2 | ⟨h2, h3⟩ | h2
            · exact .inl h2
            · exact .inr (.inr fun b' hb' => by rw [h2]; exact h3 b' (by simp [hb']))
            · exact .inr (.inr fun b' hb' => h2 b' (by simp [hb'])))
        (fun l own C ty k cs hl hc => by
          simp only [boxUpS, upd] at hl
          rw [Key.eqb_false (by simp), cond_false, upd_cellsUp] at hl
          simp only [] at hl
          have hq := hfq (.r l)
          rw [hl] at hq
          have hq' := mentions_r hq
          rw [setL_ne _ _ hq'.2] at hc
          rw [setL_ne _ _ hq'.1]
          exact hrow l own C ty k cs hl hc)
      have hqn : q.L ∉ nbLs r := fun hm => by
        obtain ⟨p, hp, e⟩ := List.mem_map.1 hm
        exact hne p hp e
      have hqq : upd (nbUp (q :: r)) g = upd (boxUpS q.L q.ty q.ys) (upd (nbUp r) g) := by simp only [nbUp, upd_append]
      have hcomm : upd (nbUp r) (upd (boxUpS q.L q.ty q.ys) g) = upd (boxUpS q.L q.ty q.ys) (upd (nbUp r) g) := by
        have bU : ∀ (p : NB) (g : Map) (k : Key), upd (boxUpS p.L p.ty p.ys) g k = match k with
            | .b l => if l = p.L then some (.sh p.ty p.ys.length) else g k
            | .c l o => if l = p.L ∧ o < p.ys.length then (p.ys[o]?).map Val.x else g k
            | _ => g k := by
          intro p g k
          simp only [boxUpS, upd]
          rw [upd_cellsUp]
          cases k with
          | b l =>
            by_cases e : l = p.L
            · subst e; simp [Key.eqb]
            · rw [Key.eqb_false (by simpa using Ne.symm e)]; simp [e]
          | c l o => simp [Key.eqb]
          | t i => rfl
          | r l => simp [Key.eqb]
          | u l i => simp [Key.eqb]
          | a => simp [Key.eqb]
        clear ih r1 r2 r3 n4 o5 hden hqn hqq hf
        induction r with
        | nil => rfl
        | cons p r ih2 =>
          have hne2 : p.L ≠ q.L := hne p (by simp)
          simp only [nbUp, upd_append]
          rw [ih2 (fun x hx => o4 x (by simp [hx])) (fun x hx => o1 x (by simp [hx])) (fun x hx => o3 x (by simp [hx])) (fun x hx => hne x (by simp [hx]))]
          funext k
          rw [bU, bU]
          cases k with
          | b l =>
            simp only []
            rw [bU, bU]
            by_cases e1 : l = p.L
            · subst e1; simp [hne2]
            · simp [e1]
          | c l o =>
            simp only []
            rw [bU, bU]
            by_cases e1 : l = p.L
            · subst e1; simp [hne2]
            · simp [e1]
          | t i => simp only []; rw [bU, bU]
          | r l => simp only []; rw [bU, bU]
          | u l i => simp only []; rw [bU, bU]
          | a => simp only []; rw [bU, bU]
      refine ⟨m', by rw [hqq, ← hcomm]; exact r1, ?_, fun l hl => ?_⟩
      · simp only [nbLs, List.map_cons]
        rw [r3 _ hqn, setL_self]
        congr 1
      · simp only [nbLs, List.map_cons, List.mem_cons, not_or] at hl
        rw [r3 l hl.2, setL_ne _ _ hl.1]
variable {d : Nat} {type : TypeId} {pos : String} {after : Array Edge} {guard : Option (Nat × Bool)}
theorem op_callNew {fo : Operand} {fv : SV} {k : Nat} {ls : List NB} {R : List Nat → Value} {fs caps xs : List SV} {x : SV} {args : Array Operand} {ts : Array TypeId} {extra : List Key}
    (hN : d < cx.N) (hen : Proofs.Enters cx.P k) (hf : Ev s fo fv) (hk : calleeOf k fs caps fv) (hx : EvL s args.toList xs) (hok : nbOK ls = true) (hden : ∀ m, den m x = R ((nbLs ls).map m))
    (hc : ∀ (m : Nat → Nat) (a : Act) (w : World) (g : Map), (∀ k ∈ extra, g k = s k) → Rel cx m g a w →
      Calls cx.P k (denL m (fs ++ (xs ++ caps))).toArray w fun e w' => ∃ bs, e = .returned (R bs) ∧ NewBoxes w w' bs (ls.map fun q => (q.ty, denL m q.ys)) ∧ Below w.heap.size w w') :
    OpRun cx ⟨some d, .call ⟨.value fo, args, ts⟩, type, pos, after, guard⟩ s ⟨okeys fo ++ okeysL args.toList ++ extra, (.t d, some (.x x)) :: nbUp ls, nbLs ls⟩ :=
  op_callG hen hf hk hx fun m a w g hr hfr hrel => (hc m a w g hr hrel).mono fun e w' ⟨bs, he, hn, hb⟩ => by
    have hu := hrel.under
    obtain ⟨m', h1, h2, _⟩ := (hrel.world hb).newBoxes (b0 := 0) (w := w) hrel.top hok hn (fun L hL => hfr L hL) (fun l ty n hl => .inl (hu.1 l ty n hl)) (fun l own C ty k cs hl hc => hu.2 l own C ty k cs hl hc)
    refine ⟨_, m', he, (h1.put (x := x) hN ?_).congr (fun q => (upd_cons _ q).symm)⟩
    rw [hden, h2]
theorem ne_nil {b : Nat} : ∀ b' ∈ ([] : List Nat), b' ≠ b := fun _ h => by simp at h
end
end Go.AX
/-
  The core: slices of slices: a prefix or a suffix of a row; of a slice that lay there.
-/
namespace Go.AX
open Go Go.RowKit
theorem SlAt.take {α : Type} {enc : α → List Value} {k : Nat} {w : World} {p : Option Addr} {n c : Nat} {l : List α} (h : SlAt enc k w p n c l) {j : Nat} (hj : j ≤ l.length) : SlAt enc k w p j c (l.take j) := by
  obtain ⟨h1, h2, h3⟩ := h
  refine ⟨by simp [hj], by omega, fun hl => ?_⟩
  obtain ⟨b, o, e1, e2, e3⟩ := h3 (fun e => hl (by rw [e]; simp))
  exact ⟨b, o, e1, e2, fun i x hx q v hv => e3 i x (by rw [List.getElem?_take] at hx; split at hx <;> simp_all) q v hv⟩
theorem SlAt.drop {α : Type} {enc : α → List Value} {k : Nat} {w : World} {p : Option Addr} {n c : Nat} {l : List α} (h : SlAt enc k w p n c l) (j : Nat) :
    SlAt enc k w (if c = j then p else p.map (·.add (j * k))) (n - j) (c - j) (l.drop j) := by
  obtain ⟨h1, h2, h3⟩ := h
  refine ⟨by simp [h1], by omega, fun hl => ?_⟩
  obtain ⟨b, o, e1, e2, e3⟩ := h3 (fun e => hl (by rw [e]; simp))
  have hlt : j < l.length := by
    rcases Nat.lt_or_ge j l.length with h | h
    · exact h
    · exact absurd (List.drop_eq_nil_of_le h) hl
  rw [if_neg (by omega), e1]
  refine ⟨b, o + j * k, ?_, e2, fun i x hx q v hv => ?_⟩
  · simp only [Option.map_some, Addr.add]
    split
    · rename_i h0; rw [h0]; rfl
    · rfl
  · rw [List.getElem?_drop] at hx
    have := e3 (j + i) x hx q v hv
    rw [Nat.add_mul] at this
    rw [show o + j * k + i * k + q = o + (j * k + i * k) + q by omega]
    exact this
def dropP (p : Option Addr) (c k : Nat) : Nat → Option Addr
  | 0 => p
  | j + 1 => if c = j + 1 then p else p.map (·.add ((j + 1) * k))
section
variable {cx : Cx} {s : Map} {d : Nat} {type : TypeId} {pos : String} {after : Array Edge} {guard : Option (Nat × Bool)}
end
end Go.AX
namespace Go.AX
open Go Go.RowKit
/-! A cell of an element of a row is written. -/
section
variable {α : Type} {enc : α → List Value}
end
end Go.AX
/-
  The core: a call that is walked in place: the caller waits, its callee's walk goes on over the same blocks.
-/
namespace Go.AX
open Go Go.RowKit
theorem argSt_mem : ∀ {vs : List SV} {i : Nat} {x : Key × Option Val}, x ∈ argSt i vs → ∃ j, x.1 = .t j
  | [], _, _, h => by simp [argSt] at h
  | v :: vs, i, x, h => by
    simp only [argSt, List.mem_cons] at h
    rcases h with rfl | h
    · exact ⟨i, rfl⟩
    · exact argSt_mem h
theorem upd_argS {vs : List SV} {i : Nat} {g : Map} {k : Key} (hk : ∀ j, k ≠ .t j) : upd (argSt i vs) g k = g k := by
  refine upd_of_touches ?_ _
  cases e : touches k (argSt i vs) with
  | false => rfl
  | true =>
    obtain ⟨x, hx, rfl⟩ := touches_iff.1 e
    obtain ⟨j, hj⟩ := argSt_mem hx
    exact absurd hj (hk j)
theorem upd_argS_some {vs : List SV} {g : Map} {i : Nat} {v : Val} (hg : g (.t i) = none) (h : upd (argSt 0 vs) g (.t i) = some v) : ∃ x, vs[i]? = some x ∧ v = .x x := by
  cases e : touches (.t i) (argSt 0 vs) with
  | false => rw [upd_of_touches e, hg] at h; cases h
  | true =>
    have h2 : get (argSt 0 vs) (.t i) = some v := by rw [← h]; exact upd_congr e _ _
    obtain ⟨j, x, hk, hv, rfl⟩ := argSt_get _ _ _ _ h2
    cases hk
    exact ⟨x, by simpa using hv, rfl⟩
def CallR (P : Program) (r : Option Nat) (B N : Nat) (w0 : World) (bor : List (Nat × Nat)) (S : Nat → Array Value) (K : List (Nat × Obj)) (aT : Array Value) (up : St) (x : SV) : Ending → World → Prop :=
  fun e W => ∃ m, e = .returned (den m x) ∧ Rel ⟨P, r, B, w0, N, false, bor, S, K⟩ m (get up) { tmps := aT, defers := [] } W
theorem oqN {P : Program} {r : Option Nat} {B N Nk : Nat} {w0 : World} {bor : List (Nat × Nat)} {S : Nat → Array Value} {K : List (Nat × Obj)}
    {d : Nat} {type : TypeId} {pos : String} {after : Array Edge} {guard : Option (Nat × Bool)} {fo : Operand} {args : Array Operand} {tys : Array TypeId} {fv : SV} {k : Nat} {fs caps xs : List SV} {fn : Func} {c : Code} {sS : St} (x : SV) (up : St) (lv : Nat) (tsI : List (Nat × SV)) (s0 : St)
    (hd : d < N) (hen : Proofs.Enters P k) (hfn : P.funcs[k]? = some fn) (hb : fn.body = some c) (hN : fn.ntmps = Nk) (hn : (fs ++ (xs ++ caps)).length ≤ Nk) (hf : Ev (get sS) fo fv) (hk : calleeOf k fs caps fv) (hx : EvL (get sS) args.toList xs)
    (hI : TAre (get sS) tsI) (hk0 : Keep s0 sS) (hok : keepOK ⟨P, r, B, w0, N, false, bor, S, K⟩ s0 = true) (hnt : noTU lv s0 = true) (hcov : (sS.all fun x => touches x.1 up) = true)
    (hbody : ∀ aT : Array Value, aT.size = N → AW ⟨P, none, B, w0, Nk, false, bor, setSus S lv aT, K⟩ c (argSt 0 (fs ++ (xs ++ caps)) ++ (sqS lv tsI ++ s0)) (bodyPost P fn (CallR P r B N w0 bor S K aT up x))) :
    OpRun ⟨P, r, B, w0, N, false, bor, S, K⟩ ⟨some d, .call ⟨.value fo, args, tys⟩, type, pos, after, guard⟩ (get sS) ⟨[.a], (.t d, some (.x x)) :: up, []⟩ := by
  intro m a w g hr _ hrel Kq Q hK
  have hg : g = get sS := funext fun k => hr k (by simp [Row.reads, Key.eqb])
  subst hg
  have h1 := hf.eval hrel (fun _ _ => rfl)
  have h2 : args.map a.eval = (denL m xs).toArray := by
    rw [← hx.eval hrel (fun _ _ => rfl)]; exact Array.ext' (by rw [Array.toList_map])
  have hds := hrel.defers.none
  have hfv : den m fv = .func (.func k) (denL m fs).toArray (denL m caps).toArray := by
    cases fv with
    | v v => obtain ⟨rfl, rfl, rfl⟩ := hk; rfl
    | f fn bs cs => obtain ⟨rfl, rfl, rfl⟩ := hk; rfl
    | _ => exact hk.elim
  refine ⟨fun _ _ => trivial, ?_⟩
  rw [semAt_of _ _ (fun _ h => by cases h)]
  have hargs : (denL m fs).toArray ++ (denL m xs).toArray ++ (denL m caps).toArray = (denL m (fs ++ (xs ++ caps))).toArray := by rw [denL_append, denL_append]; simp
  have hrun : (execOp a.eval ⟨some d, .call ⟨.value fo, args, tys⟩, type, pos, after, guard⟩).run P w = .ok (.enter k (denL m (fs ++ (xs ++ caps))).toArray) w := by
    have he := hen (denL m (fs ++ (xs ++ caps))).toArray w
    rw [← hargs] at he ⊢
    simp only [execOp, resolve, h1, h2, hfv, Deferred.ofValue, Sem.run_bind, Sem.run_pure, Result.andThen_ok, invoke]
    exact he
  rw [hrun, Oper.uponIn_enter]
  refine ⟨fun h => by simp [Cx.F] at h, ?_⟩
  have hcall : Calls P k (denL m (fs ++ (xs ++ caps))).toArray w (CallR P r B N w0 bor S K a.tmps up x) := by
    refine (callsIn_wide (n := 0)).1 ?_
    refine callsIn_of_wp hfn hb trivial ?_
    have hs0 : ∀ {k : Key}, (∀ j, k ≠ .t j) → (∀ j, k ≠ .u lv j) → get (argSt 0 (fs ++ (xs ++ caps)) ++ (sqS lv tsI ++ s0)) k = get s0 k := fun {k} h1 h2 => by
      rw [get_append, upd_argS h1, get_append, upd_susSt h2]
    have hnt0 : ∀ i, get (sqS lv tsI ++ s0) (.t i) = none := fun i => by rw [get_append, upd_susSt (by simp)]; exact noTU_t hnt
    have hsz : ((denL m (fs ++ (xs ++ caps))).toArray ++ Array.replicate (fn.ntmps - (denL m (fs ++ (xs ++ caps))).toArray.size) undef).size = Nk := by
      subst hN; simp [denL_length] at hn ⊢; omega
    have hv := (hrel.keep hk0 (by simpa [keepOK] using hok)).view (r' := none) (N' := Nk) (ds' := false) (S' := setSus S lv a.tmps) (K' := K)
      (a' := { tmps := (denL m (fs ++ (xs ++ caps))).toArray ++ Array.replicate (fn.ntmps - (denL m (fs ++ (xs ++ caps))).toArray.size) undef, defers := [] }) (s1 := argSt 0 (fs ++ (xs ++ caps)) ++ (sqS lv tsI ++ s0))
      hsz marks_nil (fun L => hs0 (by simp) (by simp)) (fun L o => hs0 (by simp) (by simp)) (fun L => hs0 (by simp) (by simp)) (fun i v hv => by
        rw [get_append] at hv
        obtain ⟨x, h5, rfl⟩ := upd_argS_some (hnt0 i) hv
        refine ⟨x, rfl, ?_⟩
        have hlt : i < (denL m (fs ++ (xs ++ caps))).toArray.size := by rw [List.size_toArray, denL_length]; exact (List.getElem?_eq_some_iff.1 h5).1
        rw [Array.getElem?_append_left hlt, List.getElem?_toArray, denL_get, h5]
        rfl) (fun l' i x hx => by
        rw [get_append, upd_argS (by simp)] at hx
        by_cases e : l' = lv
        · subst e
          rw [setSus_self]
          rw [get_append] at hx
          obtain ⟨y, h5, h6⟩ := upd_susSt_some (fun i => noTU_u hnt) hx
          cases h6
          exact hrel.tm i x (hI.mem (i, x) h5)
        · rw [setSus_ne e]
          rw [get_append, upd_susSt (by simpa using e)] at hx
          exact (hrel.keep hk0 (by simpa [keepOK] using hok)).us l' i x hx) hrel.ko
    exact hbody a.tmps hrel.size m _ w hv
  refine (calls_in hcall).mono fun e w' ⟨m', he, hrel'⟩ => ?_
  subst he
  have ha : a = { tmps := a.tmps, defers := [] } := by cases a; simp only at hds; subst hds; rfl
  have h3 : Rel ⟨P, r, B, w0, N, false, bor, S, K⟩ m' (get up) a w' := by rw [ha]; exact hrel'
  refine hK m' _ w' ((h3.put (d := d) (x := x) hd rfl).congr fun k => ?_)
  simp only [upd]
  cases e : Key.eqb (.t d) k with
  | true => rfl
  | false =>
    simp only [cond_false]
    cases ht : touches k up with
    | true => exact upd_congr ht _ _
    | false =>
      rw [upd_of_touches ht]
      have : touches k sS = false := by
        cases hs : touches k sS with
        | false => rfl
        | true =>
          obtain ⟨x, hx, rfl⟩ := touches_iff.1 hs
          rw [List.all_eq_true.1 hcov x hx] at ht; cases ht
      rw [get_untouched this]
      exact upd_of_touches ht _
theorem fin_callEnd {P : Program} {r : Option Nat} {B N Nk : Nat} {w0 : World} {bor : List (Nat × Nat)} {S : Nat → Array Value} {K : List (Nat × Obj)} {aT : Array Value} {fn : Func} {s' up : St} {lv : Nat} {rs : List ResultVar} {xs : List SV} {x : SV} {e : Exit}
    (tsI : List (Nat × SV)) (s0 : St) (ks : List Key) (he : e = .ret ∨ e = .normal) (hup : up = tqS tsI ++ (s0 ++ dqS ks)) (hrs : fn.results = rs.toArray) (hres : ResOK P (get s') rs xs) (hx : resVal xs = x) (hsz : aT.size = N)
    (hu : UAre lv (get s') tsI) (hk0 : Keep s0 s') (hok : keepOK ⟨P, none, B, w0, Nk, false, bor, S, K⟩ s0 = true) (hnt : noTU lv s0 = true) :
    Fin ⟨P, none, B, w0, Nk, false, bor, setSus S lv aT, K⟩ s' (bodyPost P fn (CallR P r B N w0 bor S K aT up x)) e := by
  intro m a w hrel
  subst hx
  have key : a.defers = [] ∧ ∃ v, (results fn a.tmps).run P w = .ok v w ∧ CallR P r B N w0 bor S K aT up (resVal xs) (.returned v) w := by
    refine ⟨hrel.defers.none, _, results_run hrs hrel hres, m, rfl, ?_⟩
    have h2 := hrel.outer (r := r) (N := N) (ds := false) (K := K) (aD := []) lv tsI s0 hu hk0 hok hnt hsz marks_nil hrel.ko
    have e : get up = get (tqS tsI ++ s0) := by rw [hup, ← List.append_assoc, get_drop]
    rw [e]
    exact h2
  rcases he with rfl | rfl
  · exact key
  · exact key
end Go.AX
namespace Go.AX
open Go Go.RowKit
section
variable {cx : Cx} {s : Map}
variable {d : Nat} {type : TypeId} {pos : String} {after : Array Edge} {guard : Option (Nat × Bool)}
theorem LentL.same {w w' : World} {bs : List (Nat × TypeId × List Value)} (h : LentL w w' bs) (hb : ∀ q ∈ bs, w.heap[q.1]? = some (.cells q.2.2.toArray q.2.1 (0, 0))) : Below w.heap.size w w' := by
  refine ⟨h.os, h.tape, h.output, h.size, fun k hk => ?_⟩
  by_cases e : ∃ q ∈ bs, q.1 = k
  · obtain ⟨q, hq, rfl⟩ := e
    rw [h.it q hq, hb q hq]
  · exact h.block k hk fun q hq h2 => e ⟨q, hq, h2⟩
theorem op_callLentR {fo : Operand} {fv : SV} {k : Nat} {ls : List LB} {fs caps xs : List SV} {x : SV} {args : Array Operand} {ts : Array TypeId} {extra : List Key}
    (hN : d < cx.N) (hen : Proofs.Enters cx.P k) (hf : Ev s fo fv) (hk : calleeOf k fs caps fv) (hx : EvL s args.toList xs) (hls : lbOK s ls) (hsame : ls.map (·.zs) = ls.map (·.ys))
    (hc : ∀ (m : Nat → Nat) (a : Act) (w : World) (g : Map), (∀ k ∈ extra, g k = s k) → Rel cx m g a w → (∀ q ∈ ls, w.heap[m q.L]? = some (.cells (denL m q.ys).toArray q.ty (0, 0))) → lbOK g ls →
      Calls cx.P k (denL m (fs ++ (xs ++ caps))).toArray w fun e w' => e = .returned (den m x) ∧ LentL w w' (ls.map fun q => (m q.L, q.ty, denL m q.zs))) :
    OpRun cx ⟨some d, .call ⟨.value fo, args, ts⟩, type, pos, after, guard⟩ s ⟨okeys fo ++ okeysL args.toList ++ (lbKeys ls ++ extra), [(.t d, some (.x x))], []⟩ :=
  op_callG hen hf hk hx fun m a w g hr _ hrel => by
    have hls' := lbOK_same (fun k hk => hr k (by simp [hk])) hls
    have hb := lb_before hrel hls'
    have h1 := hc m a w g (fun k hk => hr k (by simp [hk])) hrel hb hls'
    refine h1.mono fun e w' ⟨he, hl⟩ => ?_
    have hz : ∀ q ∈ ls, q.zs = q.ys := fun q hq => by
      obtain ⟨i, hi, rfl⟩ := List.getElem_of_mem hq
      have := congrArg (fun l => l[i]?) hsame
      simpa [hi] using this
    refine ⟨_, m, he, (hrel.world (hl.same fun q hq => ?_)).put hN rfl⟩
    obtain ⟨p, hp, rfl⟩ := List.mem_map.1 hq
    simp only []
    rw [hz p hp]
    exact hb p hp
end
end Go.AX
