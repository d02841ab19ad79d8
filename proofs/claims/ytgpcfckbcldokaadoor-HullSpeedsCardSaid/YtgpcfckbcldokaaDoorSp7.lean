/-
  This file has plain laws of the mirrors. Conditions: those that each theorem names.
-/
import Derived.KernelRfl
import Derived.Test.YtgpcfckbcldokaaDoorSp6
/- What this seat's arguments read as. -/
namespace Go.Proofs.T
open Go Go.AX Go.ChangeShapes Go.WideShapes Go.RowKit Hull
theorem reads_3 : Reads Tryd.prog 3 (fun n => [Value.int .i64 n]) 1 (fun n => -9223372036854775808 ≤ n ∧ n ≤ 9223372036854775807) :=
  ⟨by kernel_rfl, fun _ _ _ _ _ _ _ _ _ h => by obtain ⟨n, h1, h2⟩ := (reads_int Tryd.underlying3 (by kernel_rfl)).2 _ _ _ _ _ _ _ _ _ h; exact ⟨n, h1, wf_i64 h2⟩⟩
def PtIn (x : Pt) : Prop := (-9223372036854775808 ≤ x.X ∧ x.X ≤ 9223372036854775807) ∧ (-9223372036854775808 ≤ x.Y ∧ x.Y ≤ 9223372036854775807)
theorem reads_84 : Reads Tryd.prog 84 encPt 2 PtIn := by
  refine ⟨by kernel_rfl, fun H e w base sp held fuel cs x h => ?_⟩
  obtain ⟨hl, hf⟩ := fields_of Tryd.underlying84 h
  obtain ⟨a0, e0, g0⟩ := reads_3.at (hf 0 _ rfl)
  obtain ⟨a1, e1, g1⟩ := reads_3.at (hf 1 _ rfl)
  have q : List.drop 0 cs = _ := (cut_cons e0 (cut_cons e1 (List.drop_eq_nil_of_le (by rw [hl, show Tryd.prog.cellsOf 84 = 2 by kernel_rfl]; decide))))
  rw [List.drop_zero] at q
  exact ⟨⟨a0, a1⟩, q.trans rfl, g0, g1⟩
def IceIn (x : Ice) : Prop := (-9223372036854775808 ≤ x.Conc ∧ x.Conc ≤ 9223372036854775807) ∧ (-9223372036854775808 ≤ x.Thick ∧ x.Thick ≤ 9223372036854775807) ∧ (-9223372036854775808 ≤ x.Ridge ∧ x.Ridge ≤ 9223372036854775807) ∧ (-9223372036854775808 ≤ x.Press ∧ x.Press ≤ 9223372036854775807)
theorem reads_28 : Reads Tryd.prog 28 encIce 4 IceIn := by
  refine ⟨by kernel_rfl, fun H e w base sp held fuel cs x h => ?_⟩
  obtain ⟨hl, hf⟩ := fields_of Tryd.underlying28 h
  obtain ⟨a0, e0, g0⟩ := reads_3.at (hf 0 _ rfl)
  obtain ⟨a1, e1, g1⟩ := reads_3.at (hf 1 _ rfl)
  obtain ⟨a2, e2, g2⟩ := reads_3.at (hf 2 _ rfl)
  obtain ⟨a3, e3, g3⟩ := reads_3.at (hf 3 _ rfl)
  have q : List.drop 0 cs = _ := (cut_cons e0 (cut_cons e1 (cut_cons e2 (cut_cons e3 (List.drop_eq_nil_of_le (by rw [hl, show Tryd.prog.cellsOf 28 = 4 by kernel_rfl]; decide))))))
  rw [List.drop_zero] at q
  exact ⟨⟨a0, a1, a2, a3⟩, q.trans rfl, g0, g1, g2, g3⟩
def SpanIn (x : Span) : Prop := (-9223372036854775808 ≤ x.Lo ∧ x.Lo ≤ 9223372036854775807) ∧ (-9223372036854775808 ≤ x.Hi ∧ x.Hi ≤ 9223372036854775807)
theorem reads_32 : Reads Tryd.prog 32 encSpan 2 SpanIn := by
  refine ⟨by kernel_rfl, fun H e w base sp held fuel cs x h => ?_⟩
  obtain ⟨hl, hf⟩ := fields_of Tryd.underlying32 h
  obtain ⟨a0, e0, g0⟩ := reads_3.at (hf 0 _ rfl)
  obtain ⟨a1, e1, g1⟩ := reads_3.at (hf 1 _ rfl)
  have q : List.drop 0 cs = _ := (cut_cons e0 (cut_cons e1 (List.drop_eq_nil_of_le (by rw [hl, show Tryd.prog.cellsOf 32 = 2 by kernel_rfl]; decide))))
  rw [List.drop_zero] at q
  exact ⟨⟨a0, a1⟩, q.trans rfl, g0, g1⟩
def CellIn (x : Cell) : Prop := SpanIn x.Conc ∧ SpanIn x.Thick ∧ SpanIn x.Ridge ∧ SpanIn x.Press
theorem reads_34 : Reads Tryd.prog 34 encCell 8 CellIn := by
  refine ⟨by kernel_rfl, fun H e w base sp held fuel cs x h => ?_⟩
  obtain ⟨hl, hf⟩ := fields_of Tryd.underlying34 h
  obtain ⟨a0, e0, g0⟩ := reads_32.at (hf 0 _ rfl)
  obtain ⟨a1, e1, g1⟩ := reads_32.at (hf 1 _ rfl)
  obtain ⟨a2, e2, g2⟩ := reads_32.at (hf 2 _ rfl)
  obtain ⟨a3, e3, g3⟩ := reads_32.at (hf 3 _ rfl)
  have q : List.drop 0 cs = _ := (cut_cons e0 (cut_cons e1 (cut_cons e2 (cut_cons e3 (List.drop_eq_nil_of_le (by rw [hl, show Tryd.prog.cellsOf 34 = 8 by kernel_rfl]; decide))))))
  rw [List.drop_zero] at q
  exact ⟨⟨a0, a1, a2, a3⟩, q.trans rfl, g0, g1, g2, g3⟩
def PartIn (x : Part) : Prop := CellIn x.Cell ∧ True ∧ (-9223372036854775808 ≤ x.Length ∧ x.Length ≤ 9223372036854775807)
end Go.Proofs.T

/- The plain law of HullMonotone: Made makes valid ships, Frozen valid cells, and the law answers true. -/
namespace Go.Proofs.T
open Go.AX Hull

def Bytes (l : List Int) : Prop := ∀ x ∈ l, 0 ≤ x ∧ x ≤ 255

structure Pre (w : Int) (l : List Pt) (x y : Int) : Prop where
  len : 1 ≤ l.length
  x0 : (pt l 0).X = 0
  bd : ∀ i : Nat, i < l.length → 0 ≤ (pt l i).X ∧ (pt l i).X ≤ 400 ∧ 0 ≤ (pt l i).Y ∧ (pt l i).Y ≤ 20000
  st : ∀ i : Nat, 1 ≤ i → i < l.length → (pt l ((i : Int) - 1)).X < (pt l i).X ∧ 0 ≤ ((pt l i).Y - (pt l ((i : Int) - 1)).Y) * w
  last : pt l ((l.length : Int) - 1) = ⟨x, y⟩

theorem Pre.one {w y : Int} (hy : 0 ≤ y ∧ y ≤ 20000) : Pre w [⟨0, y⟩] 0 y := by
  refine ⟨by simp, rfl, fun i hi => ?_, fun i h1 hi => ?_, rfl⟩
  · have : i = 0 := by simpa using hi
    subst this
    simp [pt]; omega
  · simp at hi; omega

theorem Pre.steady {w x y : Int} {l : List Pt} (h : Pre w l x y) (hl : 2 ≤ l.length ∧ l.length ≤ 8) : steady l w = true ∧ endX l = x := by
  have hc : curve l = true := by
    refine curve_yes (k := l.length) ?_ h.x0 (fun j hj => ?_) (Nat.le_refl _)
    · simp [within]; omega
    · have h1 := h.bd j hj
      simp only [curveAt, within]
      by_cases e : j = 0
      · subst e
        have h0 := h.x0
        have h1' : 0 ≤ (pt l 0).X ∧ (pt l 0).X ≤ 400 ∧ 0 ≤ (pt l 0).Y ∧ (pt l 0).Y ≤ 20000 := h1
        simp; omega
      · have h2 := (h.st j (by omega) hj).1
        have h3 : ¬ (pt l (j : Int)).X ≤ (pt l ((j : Int) - 1)).X := by omega
        simp [h3]; omega
  refine ⟨steady_yes (k := l.length) hc (fun j hj h1 => ?_) (Nat.le_refl _), by rw [endX, h.last]⟩
  have h2 := (h.st j h1 hj).2
  simp only [steadyAt]
  simp; omega

end Go.Proofs.T

/- The reference's functions of the hull layer: what they compute, against the program's. -/
namespace Go.Proofs.T
open Go.AX Hull

section
variable {α β : Type} {post : α → Prop}
theorem ok_bbrk {c : Bool} {x y : Option β} {f : β → Option α} (ht : c = true → Ok post (bnd x f)) (hf : c = false → Ok post (bnd y f)) : Ok post (bnd (brk c x y) f) := by
  cases c with
  | true => exact ht rfl
  | false => exact hf rfl
end

theorem take_snoc {α : Type} {l : List α} (d : α) {i : Int} (h0 : 0 ≤ i) (h : i < l.length) : l.take i.toNat ++ [l.getD i.toNat d] = l.take (i + 1).toNat := by
  have hi : i.toNat < l.length := by omega
  rw [show (i + 1).toNat = i.toNat + 1 by omega, List.take_add_one]
  simp [List.getD, hi]

theorem m92_eq (F : Nat) (n a b : Int) : m92 F n a b = some (within n a b) := rfl

theorem m45_eq {F : Nat} {l : List Pt} (hn : l.length ≤ 1000000) (hF : l.length < F) : m45 F l = some l := by
  apply Ok.eq
  unfold m45
  refine ok_join (fun x => x = l) (fun x h => ok_some h) fun k hk => ?_
  refine ok_loop (fun q : List Pt × Int => 0 ≤ q.2 ∧ q.2 ≤ l.length ∧ q.1 = l.take q.2.toNat) (fun q => (l.length - q.2).toNat) (by simp) (by simp; omega) fun q next hI hn' => ?_
  obtain ⟨x, i⟩ := q
  obtain ⟨h0, h1, h2⟩ := hI
  simp only [] at h0 h1 h2 ⊢
  refine ok_brk (fun hc => ?_) (fun hc => ?_)
  · have hc := of_decide_eq_true hc
    refine ok_chk ⟨h0, hc⟩ (ok_chk (by subst h2; simp; omega) (ok_chk (by omega) (hn' _ ⟨by simp only []; omega, by simp only []; omega, ?_⟩ (by simp only []; omega))))
    simp only []; rw [h2]; exact take_snoc ⟨0, 0⟩ h0 hc
  · have hc := of_decide_eq_false hc
    refine hk _ ?_
    rw [h2, List.take_of_length_le (by omega)]

theorem m48_refl {F : Nat} {l : List Pt} (hn : l.length ≤ 1000000) (hF : l.length < F) : m48 F l l = some true := by
  apply Ok.eq
  unfold m48
  refine ok_brk (fun h => by simp at h) (fun _ => ?_)
  refine ok_join (fun _ => True) (fun _ _ => ok_some rfl) fun k hk => ?_
  refine ok_loop (fun q : Int => 0 ≤ q ∧ q ≤ l.length) (fun q => (l.length - q).toNat) (by omega) (by omega) fun q next hI hn' => ?_
  refine ok_brk (fun hc => ?_) (fun hc => hk _ trivial)
  have hc := of_decide_eq_true hc
  exact ok_chk ⟨hI.1, hc⟩ (ok_chk ⟨hI.1, hc⟩ (ok_brk (fun h => by simp at h) (fun _ => ok_chk (by omega) (hn' _ (by omega) (by omega)))))

structure Light (s : Ship) : Prop where
  t : s.Thrust.length ≤ 20
  w : s.Water.length ≤ 20
  i : s.Ice.length ≤ 20

instance (s : Ship) : Decidable (Light s) := decidable_of_iff (s.Thrust.length ≤ 20 ∧ s.Water.length ≤ 20 ∧ s.Ice.length ≤ 20) ⟨fun ⟨a, b, c⟩ => ⟨a, b, c⟩, fun h => ⟨h.t, h.w, h.i⟩⟩

theorem m27_eq (F : Nat) (s : Ship) : m27 F s = some (decide (¬ Light s)) := by
  unfold m27
  refine congrArg some ?_
  rw [Bool.eq_iff_iff]
  simp only [Bool.or_eq_true, decide_eq_true_eq]
  constructor
  · rintro h ⟨h1, h2, h3⟩; omega
  · intro h
    by_cases h1 : (s.Thrust.length : Int) > 20
    · exact .inl (.inl h1)
    · by_cases h2 : (s.Water.length : Int) > 20
      · exact .inl (.inr h2)
      · by_cases h3 : (s.Ice.length : Int) > 20
        · exact .inr h3
        · exact absurd ⟨by omega, by omega, by omega⟩ h

theorem m28_eq {F : Nat} {s : Ship} (h : Light s) : m28 F s = some s := by
  have := h.t; have := h.w; have := h.i
  apply Ok.eq
  exact ok_chk (by omega) (ok_chk (by omega) (ok_chk (by omega) (ok_some rfl)))

theorem m32_eq {F : Nat} {s : Ship} (h : Light s) (hF : 100 ≤ F) : m32 F s = some s := by
  have := h.t; have := h.w; have := h.i
  unfold m32
  rw [m45_eq (by omega) (by omega), m45_eq (by omega) (by omega), m45_eq (by omega) (by omega)]
  rfl

theorem m39_refl {F : Nat} {s : Ship} (h : Light s) (hF : 100 ≤ F) : m39 F s s = some true := by
  have := h.t; have := h.w; have := h.i
  unfold m39
  rw [m48_refl (by omega) (by omega), m48_refl (by omega) (by omega), m48_refl (by omega) (by omega)]
  simp [bnd, brk]

theorem m110_eq {F : Nat} {l : List Pt} (hn : l.length ≤ 1000000) (hF : l.length < F) : m110 F l = some (curve l) := by
  apply Ok.eq
  unfold m110
  refine ok_chk (fun h => by simp at h; omega) ?_
  refine ok_brk (fun h => ok_some ?_) (fun h => ?_)
  · cases hc : curve l with
    | false => rfl
    | true => exfalso; have := (curve_lt hc).2; have := curve_x0 hc; simp at h; omega
  have hw : within (l.length : Int) 2 8 = true ∧ (pt l 0).X = 0 := by
    simp at h
    simp only [within, Bool.and_eq_true, decide_eq_true_eq]
    exact ⟨by omega, h.2⟩
  refine ok_join (fun _ => ∀ j : Nat, j < l.length → curveAt l (j : Int) = true) (fun _ hj => ok_some ?_) fun k hk => ?_
  · exact (curve_yes hw.1 hw.2 hj (Nat.le_refl _)).symm
  refine ok_loop (fun q : Int => 0 ≤ q ∧ q ≤ l.length ∧ ∀ j : Nat, (j : Int) < q → curveAt l (j : Int) = true) (fun q => (l.length - q).toNat) ⟨by omega, by omega, fun j h => by omega⟩ (by omega) fun q next hI hn' => ?_
  obtain ⟨h0, h1, h2⟩ := hI
  refine ok_brk (fun hc => ?_) (fun hc => hk () fun j hj => h2 j (by have := of_decide_eq_false hc; omega))
  have hc := of_decide_eq_true hc
  have hno : curveAt l q = false → false = curve l := fun h => (curve_no2 (k := q.toNat) (by omega) (by rw [Int.toNat_of_nonneg h0]; exact h)).symm
  refine ok_chk ⟨h0, hc⟩ (ok_bnde (m92_eq ..) ?_)
  refine ok_bbrk (fun h => ok_bnde rfl (ok_brk (fun _ => ok_some (hno ?_)) (fun h' => by simp [h] at h'))) (fun h => ok_bnde (m92_eq ..) (ok_brk (fun h' => ok_some (hno ?_)) (fun h' => ?_)))
  · simp at h; simp [curveAt, h]
  · simp at h; simp [h] at h'; simp [curveAt, h']
  · simp at h; simp [h] at h'
    refine ok_chk (fun _ => by omega) (ok_chk (fun h => by simp at h; omega) (ok_brk (fun h'' => ok_some (hno ?_)) (fun h'' => ok_chk (by omega) (hn' _ ⟨by omega, by omega, fun j hj => ?_⟩ (by omega)))))
    · simp only [curveAt, h'']; simp
    · by_cases e : (j : Int) = q
      · rw [e]; simp only [curveAt, h'', h, h']; simp
      · exact h2 j (by omega)

def segN (l : List Pt) (i x : Int) : Int := (pt l (i - 1)).Y * ((pt l i).X - (pt l (i - 1)).X) + ((pt l i).Y - (pt l (i - 1)).Y) * (x - (pt l (i - 1)).X)
def segD (l : List Pt) (i : Int) : Int := (pt l i).X - (pt l (i - 1)).X

theorem valFrom_seg {l : List Pt} {x : Int} : ∀ (f i : Nat), 1 ≤ i → i + f = l.length → (pt l ((i : Int) - 1)).X ≤ x →
    (endX l < x ∧ valFrom l x f i = ((pt l ((l.length : Int) - 1)).Y, 1)) ∨ ∃ j : Nat, i ≤ j ∧ j < l.length ∧ (pt l ((j : Int) - 1)).X ≤ x ∧ x ≤ (pt l (j : Int)).X ∧ valFrom l x f i = (segN l j x, segD l j) ∨ (f = 0 ∧ valFrom l x f i = ((pt l ((l.length : Int) - 1)).Y, 1) ∧ x = endX l) := by
  intro f
  induction f with
  | zero =>
    intro i h1 h2 h3
    have e : endX l = (pt l ((i : Int) - 1)).X := by rw [endX, show (l.length : Int) - 1 = (i : Int) - 1 by omega]
    rcases Int.lt_or_le (endX l) x with h | h
    · exact .inl ⟨h, rfl⟩
    · exact .inr ⟨i, .inr ⟨rfl, rfl, by omega⟩⟩
  | succ f ih =>
    intro i h1 h2 h3
    simp only [valFrom]
    by_cases h : x ≤ (pt l (i : Int)).X
    · rw [if_pos h]
      exact .inr ⟨i, .inl ⟨Nat.le_refl _, by omega, h3, h, rfl⟩⟩
    · rw [if_neg h]
      rcases ih (i + 1) (by omega) (by omega) (by rw [show ((i + 1 : Nat) : Int) - 1 = (i : Int) by omega]; omega) with h' | ⟨j, ⟨h4, h5⟩ | ⟨rfl, h5, h6⟩⟩
      · exact .inl h'
      · exact .inr ⟨j, .inl ⟨by omega, h5⟩⟩
      · exfalso
        rw [endX, show (l.length : Int) - 1 = (i : Int) by omega] at h6
        omega

theorem X_lt {l : List Pt} (hc : curve l = true) : ∀ {j i : Nat}, i < j → j < l.length → (pt l (i : Int)).X < (pt l (j : Int)).X := by
  intro j
  induction j with
  | zero => intro i h; omega
  | succ j ih =>
    intro i h1 h2
    have := curve_up hc (i := j + 1) (by omega) h2
    rw [show j + 1 - 1 = j by omega] at this
    by_cases e : i = j
    · subst e; exact this
    · have := ih (i := i) (by omega) (by omega)
      omega

theorem m111_eq {F : Nat} {l : List Pt} (hc : curve l = true) (hF : 100 ≤ F) {x : Int} (hx : 0 ≤ x ∧ x ≤ 1000) :
    Ok (fun r => 1 ≤ r.2 ∧ r.2 ≤ 400 ∧ 0 ≤ r.1 ∧ r.1 ≤ 20000 * r.2 ∧ r.1 * (value l x).2 = (value l x).1 * r.2) (m111 F l x) := by
  have hlen := (curve_lt hc).2
  have hB := curve_bd hc
  have hx0 := curve_x0 hc
  have hv := valFrom_seg (l := l) (x := x) (l.length - 1) 1 (Nat.le_refl 1) (by omega) (by simp; omega)
  rw [show valFrom l x (l.length - 1) 1 = value l x from rfl] at hv
  unfold m111
  refine ok_brk (fun h => by simp at h; subst h; simp at hlen) (fun _ => ?_)
  refine ok_chk (by omega) (ok_chk (by omega) ?_)
  have hE : endX l = (pt l ((l.length : Int) - 1)).X := rfl
  have bE := hB ((l.length : Int) - 1) (by omega) (by omega)
  refine ok_brk (fun h => ok_some ?_) (fun h => ?_)
  · have h := of_decide_eq_true h
    rw [← hE] at h
    refine ⟨by simp, by simp, by simp only []; omega, by simp only []; omega, ?_⟩
    simp only []
    rcases hv with ⟨_, e⟩ | ⟨j, ⟨h1, h2, h3, h4, e⟩ | ⟨_, e, _⟩⟩
    · rw [e]
    · rw [e]
      have hj : j = l.length - 1 := by
        rcases Nat.lt_or_ge j (l.length - 1) with h5 | h5
        · have := X_lt hc h5 (by omega)
          rw [show ((l.length - 1 : Nat) : Int) = (l.length : Int) - 1 by omega, ← hE] at this
          omega
        · omega
      have hxe : x = (pt l (j : Int)).X := by
        rw [hj, show ((l.length - 1 : Nat) : Int) = (l.length : Int) - 1 by omega, ← hE] at h4 ⊢
        omega
      rw [show (l.length : Int) - 1 = (j : Int) by omega]
      simp only [segN, segD]
      rw [← hxe]
      grind
    · rw [e]
  · have h := of_decide_eq_false h
    rw [← hE] at h
    refine ok_join (fun k : Int => 0 ≤ k ∧ k + 1 < l.length ∧ (pt l k).X ≤ x ∧ x < (pt l (k + 1)).X) (fun k hk => ?_) fun k hk => ?_
    · obtain ⟨h0, h1, h2, h3⟩ := hk
      have b1 := hB k (by omega) (by omega)
      have b2 := hB (k + 1) (by omega) (by omega)
      have p1 := mul_nn (x := (pt l k).Y) (y := (pt l (k + 1)).X - x) (a := 0) (A := 20000) (b := 0) (B := (pt l (k + 1)).X - x) (by omega) (by omega) (by decide) (by decide)
      have p2 := mul_nn (x := (pt l (k + 1)).Y) (y := x - (pt l k).X) (a := 0) (A := 20000) (b := 0) (B := x - (pt l k).X) (by omega) (by omega) (by decide) (by decide)
      repeat' (with_reducible refine ok_chk (by omega) ?_)
      refine ok_some ⟨by simp only []; omega, by simp only []; omega, by simp only []; omega, by simp only []; omega, ?_⟩
      simp only []
      rcases hv with ⟨h4, _⟩ | ⟨j, ⟨h4, h5, h6, h7, e⟩ | ⟨_, _, h4⟩⟩
      · omega
      · rw [e]
        simp only [segN, segD]
        have hk1 : k = ((k.toNat : Nat) : Int) := by omega
        by_cases c1 : (j : Int) = k + 1
        · rw [c1, show k + 1 - 1 = k by omega]
          grind
        · have c2 : (j : Int) = k := by
            rcases Int.lt_or_le (j : Int) k with c3 | c3
            · have := X_lt hc (i := j) (j := k.toNat) (by omega) (by omega)
              rw [← hk1] at this
              omega
            · rcases Int.lt_or_le k (j : Int) with c4 | c4
              · by_cases c5 : (j : Int) = k + 2
                · rw [c5, show k + 2 - 1 = k + 1 by omega] at h6; omega
                · have := X_lt hc (i := (k + 1).toNat) (j := j - 1) (by omega) (by omega)
                  rw [show (((k + 1).toNat : Nat) : Int) = k + 1 by omega, show ((j - 1 : Nat) : Int) = (j : Int) - 1 by omega] at this
                  omega
              · omega
          rw [c2] at h6 h7 ⊢
          have c5 : x = (pt l k).X := by omega
          rw [c5]
          grind
      · omega
    · refine ok_loop (fun q : Int => 0 ≤ q ∧ q + 1 < l.length ∧ (pt l q).X ≤ x) (fun q => (l.length - q).toNat) ⟨by omega, by omega, by omega⟩ (by omega) fun q next hI hn' => ?_
      obtain ⟨h0, h1, h2⟩ := hI
      refine ok_chk (by omega) (ok_chk (by omega) (ok_brk (fun hc' => ?_) (fun hc' => hk _ ⟨h0, h1, h2, by have := of_decide_eq_false hc'; omega⟩)))
      have hc' := of_decide_eq_true hc'
      refine hn' _ ⟨by omega, ?_, hc'⟩ (by omega)
      rcases Int.lt_or_le (q + 1 + 1) l.length with h3 | h3
      · exact h3
      · exfalso
        rw [hE, show (l.length : Int) - 1 = q + 1 by omega] at h
        omega

theorem ratio_floor {a b c d : Int} (hb : 0 < b) (hd : 0 < d) (h : a * d = c * b) : a / b = c / d := by
  have h1 := floor_mono hb hd (Int.le_of_eq h)
  have h2 := floor_mono hd hb (Int.le_of_eq h.symm)
  omega

theorem steady_of {l : List Pt} {w : Int} (hc : curve l = true) (h : ∀ j : Nat, 1 ≤ j → j < l.length → steadyAt l w (j : Int) = true) : steady l w = true := steady_yes hc (fun j hj h1 => h j h1 hj) (Nat.le_refl _)

theorem check_40 {s : Ship} (h1 : rule1 s = true) (h : (rule2 s && rule3 s && rule4 s && rule5 s && rule6 s) = false) : check s = 40 := by
  unfold check
  rw [h1]
  cases e2 : rule2 s <;> cases e3 : rule3 s <;> cases e4 : rule4 s <;> cases e5 : rule5 s <;> cases e6 : rule6 s <;> simp_all

section
variable {α : Type} {post : α → Prop}
theorem and3 {a b c : Bool} {X Y : Option α} (hx : (a && b && c) = false → Ok post X) (hy : (a && b && c) = true → Ok post Y) :
    Ok post (bnd (some a) (fun v2 => bnd (brk (!v2) (some default) (some b)) (fun v3 => bnd (brk (!v2 || !v3) (some default) (some c)) (fun v4 => brk ((!v2 || !v3) || !v4) X Y)))) := by
  cases a <;> cases b <;> cases c <;> first | exact hx rfl | exact hy rfl
theorem and4 {a b c d : Bool} {X Y : Option α} (hx : (a && b && c && d) = false → Ok post X) (hy : (a && b && c && d) = true → Ok post Y) :
    Ok post (bnd (some a) (fun v2 => bnd (brk (!v2) (some default) (some b)) (fun v3 => bnd (brk (!v2 || !v3) (some default) (some c)) (fun v4 => bnd (brk ((!v2 || !v3) || !v4) (some default) (some d)) (fun v5 => brk (((!v2 || !v3) || !v4) || !v5) X Y))))) := by
  cases a <;> cases b <;> cases c <;> cases d <;> first | exact hx rfl | exact hy rfl
theorem tand4 {a b c d : Bool} {K : Bool → Option α} (h : Ok post (K (a && b && c && d))) :
    Ok post (bnd (some a) (fun v1 => bnd (brk v1 (some b) (some default)) (fun v2 => bnd (brk (v1 && v2) (some c) (some default)) (fun v3 => bnd (brk ((v1 && v2) && v3) (some d) (some default)) (fun v4 => K (((v1 && v2) && v3) && v4)))))) := by
  cases a <;> cases b <;> cases c <;> cases d <;> exact h
end

theorem m47_eq {F : Nat} (hF : 100 ≤ F) {s : Ship} (hL : Light s) : m47 F s = some (check s) := by
  have l1 := hL.t; have l2 := hL.w; have l3 := hL.i
  apply Ok.eq
  unfold m47
  have e0 : ∀ n a b, m92 F n a b = some (within n a b) := fun _ _ _ => rfl
  have e1 : m110 F s.Thrust = some (curve s.Thrust) := m110_eq (by omega) (by omega)
  have e2 : m110 F s.Water = some (curve s.Water) := m110_eq (by omega) (by omega)
  have e3 : m110 F s.Ice = some (curve s.Ice) := m110_eq (by omega) (by omega)
  rw [e1, e2, e3]
  simp only [e0]
  refine ok_bnde rfl (ok_brk (fun h => ok_some ?_) (fun h => ?_))
  · have h : rule1 s = false := by simpa [rule1] using h
    simp [check, h]
  have r1 : rule1 s = true := by simpa [rule1] using h
  refine and3 (fun h => ok_some (check_40 r1 (by simp [rule2, h])).symm) fun r2 => ?_
  refine and4 (fun h => ok_some (check_40 r1 (by simp [rule3, h])).symm) fun r3 => ?_
  refine and3 (fun h => ok_some (check_40 r1 ?_).symm) fun hc => ?_
  · simp only [rule4, rule5, rule6, steady]
    cases c1 : curve s.Thrust <;> cases c2 : curve s.Water <;> cases c3 : curve s.Ice <;> simp_all
  simp only [Bool.and_eq_true] at hc
  obtain ⟨⟨c1, c2⟩, c3⟩ := hc
  have n1 := (curve_lt c1).2; have n2 := (curve_lt c2).2; have n3 := (curve_lt c3).2
  refine ok_join (fun _ => steady s.Thrust (-1) = true) (fun _ s1 => ?_) fun k hk => ?_
  · refine ok_join (fun _ => steady s.Water 1 = true) (fun _ s2 => ?_) fun k hk => ?_
    · refine ok_join (fun _ => steady s.Ice 1 = true) (fun _ s3 => ?_) fun k hk => ?_
      · refine ok_chk (by omega) (ok_chk (by omega) (ok_bnde rfl ?_))
        refine ok_chk (fun _ => by omega) (ok_chk (fun _ => by omega) (ok_chk (fun _ => by omega) (ok_chk (fun _ => by omega) (ok_chk (fun _ => by omega) ?_))))
        refine ok_brk (fun h => ok_some (check_40 r1 ?_).symm) (fun h => ok_some ?_)
        · simp only [rule4, rule5, rule6, s1, s2, s3, endX, Bool.true_and]
          simp only [Bool.or_eq_true, Bool.not_eq_true', decide_eq_true_eq, bne_iff_ne, ne_eq] at h
          rcases h with ((h | h) | h) | h
          · rw [h]; simp
          · have h : ¬ (pt s.Water ((s.Water.length : Int) - 1)).X ≤ 250 := by omega
            simp [h]
          · rw [beq_eq_false_iff_ne.2 h]; simp
          · rw [beq_eq_false_iff_ne.2 h]; simp
        · simp only [Bool.or_eq_false_iff, Bool.not_eq_false', decide_eq_false_iff_not, bne_eq_false_iff_eq] at h
          obtain ⟨⟨⟨h1, h2⟩, h3⟩, h4⟩ := h
          have q4 : rule4 s = true := by simp only [rule4, s1, endX, h1]; rfl
          have q5 : rule5 s = true := by simp only [rule5, s2, endX, Bool.true_and]; exact decide_eq_true (by omega)
          have q6 : rule6 s = true := by simp only [rule6, s3, endX, Bool.true_and, h3, h4]; rfl
          have q2 : rule2 s = true := r2
          have q3 : rule3 s = true := r3
          simp [check, r1, q2, q3, q4, q5, q6]
      · refine ok_loop (fun q : Int => 1 ≤ q ∧ q ≤ s.Ice.length ∧ ∀ j : Nat, 1 ≤ j → (j : Int) < q → steadyAt s.Ice 1 (j : Int) = true) (fun q => (s.Ice.length - q).toNat) ⟨by omega, by omega, fun j _ h => by omega⟩ (by omega) fun q next hI hn' => ?_
        obtain ⟨h0, h1, h2⟩ := hI
        refine ok_brk (fun hc => ?_) (fun hc => hk () (steady_of c3 fun j h3 h4 => h2 j h3 (by have := of_decide_eq_false hc; omega)))
        have hc := of_decide_eq_true hc
        refine ok_chk (by omega) (ok_chk (by omega) (ok_chk (by omega) (ok_brk (fun h => ok_some (check_40 r1 ?_).symm) (fun h => ok_chk (by omega) (hn' _ ⟨by omega, by omega, fun j h3 h4 => ?_⟩ (by omega))))))
        · have : steady s.Ice 1 = false := steady_no (k := q.toNat) (by omega) (by omega) (by
            have h := of_decide_eq_true h
            rw [Int.toNat_of_nonneg (by omega), steadyAt, decide_eq_true (by omega)]; rfl)
          simp [rule6, this]
        · by_cases e : (j : Int) = q
          · have h := of_decide_eq_false h
            rw [e, steadyAt, decide_eq_false (by omega)]; rfl
          · exact h2 j h3 (by omega)
    · refine ok_loop (fun q : Int => 1 ≤ q ∧ q ≤ s.Water.length ∧ ∀ j : Nat, 1 ≤ j → (j : Int) < q → steadyAt s.Water 1 (j : Int) = true) (fun q => (s.Water.length - q).toNat) ⟨by omega, by omega, fun j _ h => by omega⟩ (by omega) fun q next hI hn' => ?_
      obtain ⟨h0, h1, h2⟩ := hI
      refine ok_brk (fun hc => ?_) (fun hc => hk () (steady_of c2 fun j h3 h4 => h2 j h3 (by have := of_decide_eq_false hc; omega)))
      have hc := of_decide_eq_true hc
      refine ok_chk (by omega) (ok_chk (by omega) (ok_chk (by omega) (ok_brk (fun h => ok_some (check_40 r1 ?_).symm) (fun h => ok_chk (by omega) (hn' _ ⟨by omega, by omega, fun j h3 h4 => ?_⟩ (by omega))))))
      · have : steady s.Water 1 = false := steady_no (k := q.toNat) (by omega) (by omega) (by
          have h := of_decide_eq_true h
          rw [Int.toNat_of_nonneg (by omega), steadyAt, decide_eq_true (by omega)]; rfl)
        simp [rule5, this]
      · by_cases e : (j : Int) = q
        · have h := of_decide_eq_false h
          rw [e, steadyAt, decide_eq_false (by omega)]; rfl
        · exact h2 j h3 (by omega)
  · refine ok_loop (fun q : Int => 1 ≤ q ∧ q ≤ s.Thrust.length ∧ ∀ j : Nat, 1 ≤ j → (j : Int) < q → steadyAt s.Thrust (-1) (j : Int) = true) (fun q => (s.Thrust.length - q).toNat) ⟨by omega, by omega, fun j _ h => by omega⟩ (by omega) fun q next hI hn' => ?_
    obtain ⟨h0, h1, h2⟩ := hI
    refine ok_brk (fun hc => ?_) (fun hc => hk () (steady_of c1 fun j h3 h4 => h2 j h3 (by have := of_decide_eq_false hc; omega)))
    have hc := of_decide_eq_true hc
    refine ok_chk (by omega) (ok_chk (by omega) (ok_chk (by omega) (ok_brk (fun h => ok_some (check_40 r1 ?_).symm) (fun h => ok_chk (by omega) (hn' _ ⟨by omega, by omega, fun j h3 h4 => ?_⟩ (by omega))))))
    · have : steady s.Thrust (-1) = false := steady_no (k := q.toNat) (by omega) (by omega) (by
        have h := of_decide_eq_true h
        rw [Int.toNat_of_nonneg (by omega), steadyAt, decide_eq_true (by omega)]; rfl)
      simp [rule4, this]
    · by_cases e : (j : Int) = q
      · have h := of_decide_eq_false h
        rw [e, steadyAt, decide_eq_false (by omega)]; rfl
      · exact h2 j h3 (by omega)

theorem m115_eq {F : Nat} (hF : 100 ≤ F) {s : Ship} (hc : check s = 0) {v : Int} (hv : 0 ≤ v ∧ v ≤ 1000) : m115 F s v = some (thrust s v) := by
  apply Ok.eq
  unfold m115
  have hcu := check_curveThrust hc
  refine ok_bnd _ (m111_eq hcu hF hv) fun r ⟨h1, h2, h3, h4, h5⟩ => ?_
  have hb := value_bd hcu hv.1
  exact ok_chk ⟨⟨h3, by omega⟩, by omega⟩ (ok_some (ratio_floor (by omega) (by omega) h5))

end Go.Proofs.T

/- The reference's functions of the hull layer, second part: resistances, speeds, loads, limits. -/
namespace Go.Proofs.T
open Go.AX Hull

theorem ratio_ceil {a b c d : Int} (hb : 0 < b) (hd : 0 < d) (h : a * d = c * b) : (a + b - 1) / b = (c + d - 1) / d := by
  have h1 := ceil_mono hb hd (Int.le_of_eq h)
  have h2 := ceil_mono hd hb (Int.le_of_eq h.symm)
  omega

theorem ceil_if {a b : Int} (hb : 0 < b) : (a + b - 1) / b = if a / b * b < a then a / b + 1 else a / b := by
  have h1 := Int.ediv_mul_le a (b := b) (by omega)
  have h2 := Int.lt_mul_ediv_self_add (x := a) hb
  rw [Int.mul_comm] at h2
  generalize a / b = q at *
  split
  · refine Int.le_antisymm ?_ ?_
    · have : (a + b - 1) / b < q + 2 := Int.ediv_lt_of_lt_mul hb (by rw [Int.add_mul]; omega)
      omega
    · exact Int.le_ediv_of_mul_le hb (by rw [Int.add_mul]; omega)
  · refine Int.le_antisymm ?_ ?_
    · have : (a + b - 1) / b < q + 1 := Int.ediv_lt_of_lt_mul hb (by rw [Int.add_mul]; omega)
      omega
    · exact Int.le_ediv_of_mul_le hb (by omega)

theorem res_ratio {wn wd ln ld W1 W2 I1 I2 C A sh R rd P : Int} (h1 : wn * W2 = W1 * wd) (h2 : ln * I2 = I1 * ld) :
    (wn * (ld * 10000000) + C * ln * A * sh * wd + C * R * rd * (wd * ld * 100000) + P * (wd * ld * 10000000)) * (W2 * (I2 * 10000000)) =
    (W1 * (I2 * 10000000) + C * (I1 * A * sh + R * rd * I2 * 100000) * W2 + P * W2 * (I2 * 10000000)) * (wd * ld * 10000000) := by
  have t1 : wn * (ld * 10000000) * (W2 * (I2 * 10000000)) = W1 * (I2 * 10000000) * (wd * ld * 10000000) := by
    calc wn * (ld * 10000000) * (W2 * (I2 * 10000000)) = (wn * W2) * (ld * I2 * 10000000 * 10000000) := by ac_rfl
      _ = (W1 * wd) * (ld * I2 * 10000000 * 10000000) := by rw [h1]
      _ = _ := by ac_rfl
  have t2 : C * ln * A * sh * wd * (W2 * (I2 * 10000000)) = C * (I1 * A * sh) * W2 * (wd * ld * 10000000) := by
    calc C * ln * A * sh * wd * (W2 * (I2 * 10000000)) = (ln * I2) * (C * A * sh * wd * W2 * 10000000) := by ac_rfl
      _ = (I1 * ld) * (C * A * sh * wd * W2 * 10000000) := by rw [h2]
      _ = _ := by ac_rfl
  have t3 : C * R * rd * (wd * ld * 100000) * (W2 * (I2 * 10000000)) = C * (R * rd * I2 * 100000) * W2 * (wd * ld * 10000000) := by ac_rfl
  have t4 : P * (wd * ld * 10000000) * (W2 * (I2 * 10000000)) = P * W2 * (I2 * 10000000) * (wd * ld * 10000000) := by ac_rfl
  rw [Int.add_mul, Int.add_mul, Int.add_mul, Int.add_mul, Int.add_mul, Int.mul_add, Int.add_mul, Int.add_mul, t1, t2, t3, t4]
  omega

theorem check_endT {s : Ship} (h : check s = 0) : 10 ≤ endX s.Thrust ∧ endX s.Thrust ≤ 250 := by
  have := (check_rules h).2.2.2.1
  simp only [rule4, Bool.and_eq_true] at this
  exact within_t this.2

theorem m120_eq {F : Nat} (hF : 100 ≤ F) {s : Ship} (hc : check s = 0) {i : Ice} (hi : goodIce i) {v : Int} (hv : 0 ≤ v ∧ v ≤ 250) (ch : Bool) : m120 F s i v ch = some (resistance s i ch v) := by
  apply Ok.eq
  unfold m120
  obtain ⟨i1, i2, i3, i4⟩ := goodIce_bd hi
  obtain ⟨_, _, hsl, hbr, hri, hpr⟩ := check_bd hc
  have w1 := value_bd (check_curveWater hc) hv.1
  have n1 := value_bd (check_curveIce hc) i2.1
  refine ok_bnd _ (m111_eq (check_curveWater hc) hF (by omega)) fun r1 hr1 => ?_
  refine ok_bnd _ (m111_eq (check_curveIce hc) hF (by omega)) fun r2 hr2 => ?_
  obtain ⟨wn, wd⟩ := r1
  obtain ⟨ln, ld⟩ := r2
  simp only [] at hr1 hr2
  obtain ⟨a1, a2, a3, a4, a5⟩ := hr1
  obtain ⟨b1, b2, b3, b4, b5⟩ := hr2
  refine ok_join (fun q : Int × Int => q = ((if ch = true then s.Brash else 100), (if ch = true then 0 else i.Ridge))) (fun q hq => ?_) fun k hk => ?_
  · subst hq
    have key := res_ratio (C := i.Conc) (A := 1000 + s.Slow * v) (sh := if ch = true then s.Brash else 100) (R := s.Ridge) (rd := if ch = true then 0 else i.Ridge) (P := s.Press * i.Press) a5 b5
    have hres : resistance s i ch v = (((value s.Water v).1 * ((value s.Ice i.Thick).2 * 10000000) + i.Conc * ((value s.Ice i.Thick).1 * (1000 + s.Slow * v) * (if ch = true then s.Brash else 100) + s.Ridge * (if ch = true then 0 else i.Ridge) * (value s.Ice i.Thick).2 * 100000) * (value s.Water v).2 + s.Press * i.Press * (value s.Water v).2 * ((value s.Ice i.Thick).2 * 10000000))
      + (value s.Water v).2 * ((value s.Ice i.Thick).2 * 10000000) - 1) / ((value s.Water v).2 * ((value s.Ice i.Thick).2 * 10000000)) := rfl
    have hsh : 0 ≤ (if ch = true then s.Brash else 100) ∧ (if ch = true then s.Brash else 100) ≤ 100 := by split <;> omega
    have hrd : 0 ≤ (if ch = true then 0 else i.Ridge) ∧ (if ch = true then 0 else i.Ridge) ≤ 100 := by split <;> omega
    have hD' : 0 < (value s.Water v).2 * ((value s.Ice i.Thick).2 * 10000000) := Int.mul_pos (by omega) (by omega)
    have hD : 0 < wd * ld * 10000000 := by have := Int.mul_pos (a := wd) (b := ld) (by omega) (by omega); omega
    rw [← ratio_ceil hD hD' key, ceil_if hD] at hres
    simp only []
    generalize (if ch = true then s.Brash else 100) = sh at *
    generalize (if ch = true then 0 else i.Ridge) = rd at *
    have d1 : wd * ld * 10000000 / wd = ld * 10000000 := by rw [Int.mul_assoc]; exact Int.mul_ediv_cancel_left _ (by omega)
    rw [d1]
    have m1 := mul_nn (x := wd) (y := ld) (a := 1) (A := 400) (b := 1) (B := 400) (by omega) (by omega) (by decide) (by decide)
    have m2 := mul_nn (x := wn) (y := ld * 10000000) (a := 0) (A := 8000000) (b := 0) (B := 4000000000) (by omega) (by omega) (by decide) (by decide)
    have m3 := mul_nn (x := i.Conc) (y := ln) (a := 0) (A := 100) (b := 0) (B := 8000000) (by omega) (by omega) (by decide) (by decide)
    have m4 := mul_nn (x := s.Slow) (y := v) (a := 0) (A := 20) (b := 0) (B := 250) (by omega) (by omega) (by decide) (by decide)
    have m5 := mul_nn (x := i.Conc * ln) (y := 1000 + s.Slow * v) (a := 0) (A := 800000000) (b := 0) (B := 6000) (by omega) (by omega) (by decide) (by decide)
    have m6 := mul_nn (x := i.Conc * ln * (1000 + s.Slow * v)) (y := sh) (a := 0) (A := 4800000000000) (b := 0) (B := 100) (by omega) (by omega) (by decide) (by decide)
    have m7 := mul_nn (x := i.Conc * ln * (1000 + s.Slow * v) * sh) (y := wd) (a := 0) (A := 480000000000000) (b := 0) (B := 400) (by omega) (by omega) (by decide) (by decide)
    have m8 := mul_nn (x := i.Conc) (y := s.Ridge) (a := 0) (A := 100) (b := 0) (B := 500) (by omega) (by omega) (by decide) (by decide)
    have m9 := mul_nn (x := i.Conc * s.Ridge) (y := rd) (a := 0) (A := 50000) (b := 0) (B := 100) (by omega) (by omega) (by decide) (by decide)
    have d2 : wd * ld * 10000000 / 100 = wd * ld * 100000 := by omega
    rw [d2]
    have m10 := mul_nn (x := i.Conc * s.Ridge * rd) (y := wd * ld * 100000) (a := 0) (A := 5000000) (b := 0) (B := 16000000000) (by omega) (by omega) (by decide) (by decide)
    have m11 := mul_nn (x := s.Press) (y := i.Press) (a := 0) (A := 5000) (b := 0) (B := 3) (by omega) (by omega) (by decide) (by decide)
    have m12 := mul_nn (x := s.Press * i.Press) (y := wd * ld * 10000000) (a := 0) (A := 15000) (b := 0) (B := 1600000000000) (by omega) (by omega) (by decide) (by decide)
    clear key d1 d2
    generalize i.Conc * ln * (1000 + s.Slow * v) * sh * wd = x7 at *
    generalize i.Conc * ln * (1000 + s.Slow * v) * sh = x6 at *
    generalize i.Conc * ln * (1000 + s.Slow * v) = x5 at *
    generalize s.Slow * v = x4 at *
    generalize i.Conc * ln = x3 at *
    generalize wn * (ld * 10000000) = x2 at *
    generalize i.Conc * s.Ridge * rd * (wd * ld * 100000) = y3 at *
    generalize i.Conc * s.Ridge * rd = y2 at *
    generalize i.Conc * s.Ridge = y1 at *
    generalize s.Press * i.Press * (wd * ld * 10000000) = z2 at *
    generalize s.Press * i.Press = z1 at *
    have hDu : wd * ld * 10000000 ≤ 1600000000000 := by omega
    generalize wd * ld * 10000000 = D at *
    have hN : ∃ N, N = x2 + x7 + y3 + z2 := ⟨_, rfl⟩
    obtain ⟨N, hN⟩ := hN
    rw [← hN] at hres ⊢
    have q1 := Int.ediv_mul_le N (b := D) (by omega)
    have q2 := Int.ediv_nonneg (a := N) (b := D) (by omega) (by omega)
    have q4 : N / D ≤ N := Int.ediv_le_self D (by omega)
    have q3 := Int.mul_nonneg q2 (Int.le_of_lt hD)
    generalize N / D = q at *
    generalize q * D = qd at *
    repeat' (with_reducible refine ok_chk (by omega) ?_)
    refine ok_join (fun x => x = resistance s i ch v) (fun x h => ok_some h) fun k hk => ok_chk (by omega) (ok_brk (fun h => ok_chk (by omega) (hk _ ?_)) (fun h => hk _ ?_))
    · have h := of_decide_eq_true h
      rw [hres, if_pos h]
    · have h := of_decide_eq_false h
      rw [hres, if_neg h]
  · refine ok_brk (fun h => hk _ ?_) (fun h => hk _ ?_) <;> simp [h]

theorem m96_eq {F : Nat} (hF : 100 ≤ F) {s : Ship} (hc : check s = 0) {i : Ice} (hi : goodIce i) {v : Int} (hv : 0 ≤ v ∧ v ≤ 1000) (ch : Bool) : m96 F s i v ch = some (makes s i ch v) := by
  apply Ok.eq
  unfold m96
  have hl := (curve_lt (check_curveThrust hc)).2
  have he := check_endT hc
  refine ok_chk (by omega) (ok_chk (by omega) ?_)
  rw [show (pt s.Thrust ((s.Thrust.length : Int) - 1)).X = endX s.Thrust from rfl]
  refine ok_bbrk (fun h => ?_) (fun h => ?_)
  · have h' := of_decide_eq_true h
    refine ok_bnde (m115_eq hF hc (by omega)) (ok_bbrk (fun _ => ok_bnde (m120_eq hF hc hi (by omega) ch) (ok_some rfl)) (fun h2 => by rw [h] at h2; cases h2))
  · refine ok_bnde rfl (ok_bbrk (fun h2 => by rw [h] at h2; cases h2) (fun _ => ok_bnde rfl (ok_some ?_)))
    simp [makes, h]

theorem makes_down {s : Ship} (hc : check s = 0) {i : Ice} (hi : goodIce i) (ch : Bool) : ∀ u v, (0 : Int) ≤ u → u ≤ v → v ≤ 250 → makes s i ch v = true → makes s i ch u = true :=
  fun _ _ h1 h2 _ h => makes_mono hc hi hi .rfl h1 h2 h

theorem great_eq {so : Int → Bool} {lo hi r : Int} (hd : ∀ u v, lo ≤ u → u ≤ v → v ≤ hi → so v = true → so u = true) (h1 : lo ≤ r) (h2 : r ≤ hi) (hr : so r = true) (hn : ∀ u, r < u → u ≤ hi → so u = false) : so lo = true ∧ great so lo hi = r := by
  have h0 := hd lo r (Int.le_refl _) h1 h2 hr
  obtain ⟨a, b, c⟩ := great_is (by omega) h0 hd
  refine ⟨h0, ?_⟩
  have c1 := (c r h1 h2).1 hr
  rcases Int.lt_or_le r (great so lo hi) with h | h
  · have := (c _ a b).2 (Int.le_refl _)
    rw [hn _ h b] at this; cases this
  · omega

structure Last (so : Int → Bool) (lo d out n : Int) : Prop where
  it : (out = d ∧ ∀ u, lo ≤ u → u < n → so u = false) ∨ (lo ≤ out ∧ out < n ∧ so out = true ∧ ∀ u, out < u → u < n → so u = false)

theorem Last.start {so : Int → Bool} {lo d : Int} : Last so lo d d lo := ⟨.inl ⟨rfl, fun u h1 h2 => by omega⟩⟩
theorem Last.yes {so : Int → Bool} {lo d n : Int} (hn : lo ≤ n) (h : so n = true) : Last so lo d n (n + 1) := ⟨.inr ⟨hn, by omega, h, fun u h1 h2 => by omega⟩⟩
theorem Last.no {so : Int → Bool} {lo d out n : Int} (hl : Last so lo d out n) (h : so n = false) : Last so lo d out (n + 1) := by
  refine ⟨?_⟩
  rcases hl.it with ⟨h1, h2⟩ | ⟨h1, h2, h3, h4⟩
  · exact .inl ⟨h1, fun u a b => by by_cases e : u = n; exact e ▸ h; exact h2 u a (by omega)⟩
  · exact .inr ⟨h1, by omega, h3, fun u a b => by by_cases e : u = n; exact e ▸ h; exact h4 u a (by omega)⟩
theorem Last.greatest {so : Int → Bool} {lo hi d out : Int} (hl : Last so lo d out (hi + 1)) (hle : lo ≤ hi) (hd : ∀ u v, lo ≤ u → u ≤ v → v ≤ hi → so v = true → so u = true) :
    (out = d ∧ Hull.greatest so lo hi = (0, false) ∧ ∀ u, lo ≤ u → u ≤ hi → so u = false) ∨ (Hull.greatest so lo hi = (out, true) ∧ lo ≤ out ∧ out ≤ hi) := by
  unfold Hull.greatest
  rcases hl.it with ⟨h1, h2⟩ | ⟨h1, h2, h3, h4⟩
  · rw [h2 lo (Int.le_refl _) (by omega)]; exact .inl ⟨h1, by simp, fun u h3 h4 => h2 u h3 (by omega)⟩
  · obtain ⟨a, b⟩ := great_eq hd h1 (by omega) h3 (fun u h5 h6 => h4 u h5 (by omega))
    rw [if_pos a, b]; exact .inr ⟨rfl, h1, by omega⟩

theorem m117_eq {F : Nat} (hF : 1000 ≤ F) {s : Ship} (hc : check s = 0) {i : Ice} (hi : goodIce i) (ch : Bool) : m117 F s i ch = some (speed s i ch) := by
  apply Ok.eq
  unfold m117
  refine ok_join (fun x => x = speed s i ch) (fun x h => ok_some h) fun k hk => ?_
  refine ok_loop (fun q : Int × Int => 0 ≤ q.2 ∧ q.2 ≤ 251 ∧ Last (fun v => makes s i ch v) 0 0 q.1 q.2) (fun q => (251 - q.2).toNat) ⟨by simp, by simp, Last.start⟩ (by show (251 - (0 : Int)).toNat < F; omega) fun q next hI hn => ?_
  obtain ⟨out, v⟩ := q
  obtain ⟨h0, h1, h2⟩ := hI
  simp only [] at h0 h1 h2 ⊢
  refine ok_brk (fun h => ?_) (fun h => hk _ ?_)
  · have h := of_decide_eq_true h
    refine ok_join (fun x => Last (fun v => makes s i ch v) 0 0 x (v + 1)) (fun x hx => ok_chk (by omega) (hn _ ⟨by simp only []; omega, by simp only []; omega, hx⟩ (by simp only []; omega))) fun k3 hk3 => ?_
    refine ok_bnde (m96_eq (by omega) hc hi (by omega) ch) (ok_brk (fun h => hk3 _ (Last.yes h0 h)) (fun h => hk3 _ (h2.no h)))
  · have h := of_decide_eq_false h
    obtain rfl : v = 250 + 1 := by omega
    unfold speed
    rcases h2.greatest (by decide) (makes_down hc hi ch) with ⟨e, h, _⟩ | ⟨h, _⟩
    · rw [h, e]
    · rw [h]

theorem m98_eq {F : Nat} {s : Ship} (hc : check s = 0) : m98 F s.Class = some (strengths.getD (s.Class - 1).toNat 0) := by
  obtain ⟨h, _⟩ := check_bd hc
  unfold m98
  have : s.Class = 1 ∨ s.Class = 2 ∨ s.Class = 3 ∨ s.Class = 4 ∨ s.Class = 5 ∨ s.Class = 6 := by omega
  rcases this with h | h | h | h | h | h <;> rw [h] <;> rfl

theorem m97_eq {F : Nat} {i : Ice} (hi : goodIce i) {v : Int} (hv : 0 ≤ v ∧ v ≤ 250) (ch : Bool) : m97 F i v ch = some (loadI i v ch) := by
  obtain ⟨i1, i2, i3, i4⟩ := goodIce_bd hi
  apply Ok.eq
  unfold m97 loadI
  have hm := mul_nn (x := i.Thick) (y := 100 + v) (a := 0) (A := 400) (b := 0) (B := 350) (by omega) (by omega) (by decide) (by decide)
  refine ok_brk (fun h => ok_some ?_) (fun h => ?_)
  · have h : i.Conc = 0 := by simpa using h
    rw [if_pos h]
  · have h : i.Conc ≠ 0 := by simpa using h
    rw [if_neg h]
    generalize i.Thick * (100 + v) = n at *
    refine ok_chk (by omega) (ok_chk (by omega) (ok_brk (fun h => ?_) (fun h => ?_)))
    · subst h
      repeat' (with_reducible refine ok_chk (by omega) ?_)
      refine ok_some ?_
      simp only [if_true]; omega
    · subst h
      repeat' (with_reducible refine ok_chk (by omega) ?_)
      exact ok_some (by simp)

theorem bears_is (s : Ship) (i : Ice) (ch : Bool) (v : Int) : decide (loadI i v ch ≤ strengths.getD (s.Class - 1).toNat 0) = bears s i ch v := rfl

theorem m121_eq {F : Nat} (i : Ice) : m121 F i = some (decide (goodIce i)) := by
  apply Ok.eq
  unfold m121
  refine tand4 (K := some) (ok_some ?_)
  refine Bool.eq_iff_iff.2 ⟨fun h => decide_eq_true ?_, fun h => ?_⟩
  · simp only [Bool.and_eq_true, decide_eq_true_eq, ge_iff_le] at h
    obtain ⟨⟨⟨h1, h2⟩, h3⟩, h4⟩ := h
    exact ⟨h1, h2, h3, h4⟩
  · obtain ⟨h1, h2, h3, h4⟩ := of_decide_eq_true h
    simp only [Bool.and_eq_true, decide_eq_true_eq, ge_iff_le]
    exact ⟨⟨⟨h1, h2⟩, h3⟩, h4⟩

theorem checkIce_20 {i : Ice} (h : ¬ goodIce i) : checkIce i = 20 := by
  have := mt checkIce_ok.1 h
  unfold checkIce at this ⊢
  split
  · rfl
  · rename_i h2; rw [if_neg h2] at this; exact absurd rfl this

theorem checkCell_20 {c : Cell} (h : ¬ goodCell c) : checkCell c = 20 := by
  have := mt checkCell_ok.1 h
  unfold checkCell at this ⊢
  split
  · rfl
  · rename_i h2; rw [if_neg h2] at this; exact absurd rfl this

theorem m116_eq {F : Nat} (hF : 100 ≤ F) {s : Ship} (hL : Light s) (i : Ice) (v : Int) : m116 F s i v = some (asked s i v) := by
  apply Ok.eq
  unfold m116 asked
  refine ok_bnde (m47_eq hF hL) (ok_brk (fun h => ok_some ?_) (fun h => ?_))
  · rw [if_pos (by simpa using h)]
  · rw [if_neg (by simpa using h)]
    unfold loaded
    refine ok_bnde (m121_eq i) (ok_brk (fun h => ok_some ?_) (fun h => ?_))
    · have h : ¬ goodIce i := by simpa using h
      rw [checkIce_20 h, if_pos (by decide)]
    · have h : goodIce i := by simpa using h
      rw [if_neg (by simp [checkIce_ok.2 h])]
      refine ok_bnde (m92_eq ..) (ok_brk (fun h => ok_some ?_) (fun h => ok_some ?_))
      · rw [if_pos (by simpa using h)]
      · rw [if_neg (by simpa using h)]

instance (s : Span) (n : Int) : Decidable (goodSpan s n) := by unfold goodSpan; infer_instance

theorem m102_eq {F : Nat} (s : Span) (n : Int) : m102 F s n = some (decide (goodSpan s n)) := by
  unfold m102
  refine congrArg some (Bool.eq_iff_iff.2 ⟨fun h => decide_eq_true ?_, fun h => ?_⟩)
  · simp only [Bool.and_eq_true, decide_eq_true_eq] at h
    unfold goodSpan; omega
  · have h := of_decide_eq_true h
    unfold goodSpan at h
    simp only [Bool.and_eq_true, decide_eq_true_eq]; omega

theorem m93_eq {F : Nat} (c : Cell) : m93 F c = some (decide (goodCell c)) := by
  apply Ok.eq
  unfold m93
  simp only [m102_eq]
  refine tand4 (K := some) (ok_some ?_)
  refine Bool.eq_iff_iff.2 ⟨fun h => decide_eq_true ?_, fun h => ?_⟩
  · simp only [Bool.and_eq_true, decide_eq_true_eq] at h
    obtain ⟨⟨⟨h1, h2⟩, h3⟩, h4⟩ := h
    exact ⟨h1, h2, h3, h4⟩
  · obtain ⟨h1, h2, h3, h4⟩ := of_decide_eq_true h
    simp only [Bool.and_eq_true, decide_eq_true_eq]
    exact ⟨⟨⟨h1, h2⟩, h3⟩, h4⟩

theorem m101_eq {F : Nat} (hF : 100 ≤ F) {s : Ship} (hL : Light s) (c : Cell) : m101 F s c = some (met s c) := by
  apply Ok.eq
  unfold m101 met
  refine ok_bnde (m47_eq hF hL) (ok_brk (fun h => ok_some ?_) (fun h => ?_))
  · rw [if_pos (by simpa using h)]
  · rw [if_neg (by simpa using h)]
    refine ok_bnde (m93_eq c) (ok_brk (fun h => ok_some ?_) (fun h => ok_some ?_))
    · have h : ¬ goodCell c := by simpa using h
      rw [checkCell_20 h]
    · have h : goodCell c := by simpa using h
      rw [checkCell_ok.2 h]

def slowFrom (a b : Ship) : Nat → Int → Int × Int
  | 0, _ => (0, 4)
  | f + 1, n => if speed a (lev n) false < speed b (lev n) false then (n, 0) else slowFrom a b f (n + 1)
def slowerE (a b : Ship) : Int × Int := if check a ≠ 0 then (0, check a) else if check b ≠ 0 then (0, check b) else slowFrom a b 401 0

end Go.Proofs.T

/- The reference's functions of the hull layer, third part: corners, safe speeds, legs, waits. -/
namespace Go.Proofs.T
open Go.AX Hull

def corners (c : Cell) : List Ice :=
  [c.Press.Lo, c.Press.Hi].flatMap fun p => [c.Ridge.Lo, c.Ridge.Hi].flatMap fun r => [c.Thick.Lo, c.Thick.Hi].flatMap fun t => [c.Conc.Lo, c.Conc.Hi].map fun n => ⟨n, t, r, p⟩

theorem corners_mem {c : Cell} {x : Ice} : x ∈ corners c ↔ (x.Conc = c.Conc.Lo ∨ x.Conc = c.Conc.Hi) ∧ (x.Thick = c.Thick.Lo ∨ x.Thick = c.Thick.Hi) ∧ (x.Ridge = c.Ridge.Lo ∨ x.Ridge = c.Ridge.Hi) ∧ (x.Press = c.Press.Lo ∨ x.Press = c.Press.Hi) := by
  obtain ⟨n, t, r, p⟩ := x
  simp only [corners, List.mem_flatMap, List.mem_map, List.mem_cons, List.not_mem_nil, or_false, Ice.mk.injEq]
  constructor
  · rintro ⟨p', hp, r', hr, t', ht, n', hn, rfl, rfl, rfl, rfl⟩; exact ⟨hn, ht, hr, hp⟩
  · rintro ⟨hn, ht, hr, hp⟩; exact ⟨p, hp, r, hr, t, ht, n, hn, rfl, rfl, rfl, rfl⟩
theorem corners_first (c : Cell) : firstI c ∈ corners c := corners_mem.2 ⟨.inl rfl, .inl rfl, .inl rfl, .inl rfl⟩
theorem corners_last (c : Cell) : lastI c ∈ corners c := corners_mem.2 ⟨.inr rfl, .inr rfl, .inr rfl, .inr rfl⟩
theorem corners_in {c : Cell} (hg : goodCell c) {x : Ice} (h : x ∈ corners c) : goodIce x ∧ LeI (firstI c) x ∧ LeI x (lastI c) := by
  obtain ⟨h1, h2, h3, h4⟩ := corners_mem.1 h
  obtain ⟨⟨_, _, _⟩, ⟨_, _, _⟩, ⟨_, _, _⟩, ⟨_, _, _⟩⟩ := hg
  refine ⟨?_, ⟨?_, ?_, ?_, ?_⟩, ⟨?_, ?_, ?_, ?_⟩⟩
  · unfold goodIce; omega
  all_goals simp only [firstI, lastI]; omega

theorem m95_eq {F : Nat} (hF : 100 ≤ F) (c : Cell) : m95 F c = some (corners c) := by
  obtain ⟨G, rfl⟩ : ∃ G, F = G + 17 := ⟨F - 17, by omega⟩
  kernel_rfl

theorem getD_in {α : Type} {l : List α} {d : α} {i : Int} (h0 : 0 ≤ i) (h1 : i < l.length) : l.getD i.toNat d ∈ l := by
  have : i.toNat < l.length := by omega
  simp [List.getD, this]

theorem speed_lt {s : Ship} (hc : check s = 0) {c : Cell} (hg : goodCell c) (ch : Bool) : (∃ x ∈ corners c, speed s x ch < 10) ↔ speed s (lastI c) ch < 10 := by
  constructor
  · rintro ⟨x, hx, h⟩
    obtain ⟨h1, _, h2⟩ := corners_in hg hx
    have := speed_mono hc h1 (goodCell_last hg) h2 ch
    omega
  · exact fun h => ⟨_, corners_last c, h⟩

theorem goesP_all {s : Ship} (hc : check s = 0) {c : Cell} (hg : goodCell c) (ch : Bool) {v : Int} (hv : 0 ≤ v) : (∀ x ∈ corners c, goesP s x ch v = true) ↔ goesP s (lastI c) ch v = true := by
  constructor
  · exact fun h => h _ (corners_last c)
  · intro h x hx
    obtain ⟨h1, _, h2⟩ := corners_in hg hx
    exact goesP_mono hc h1 (goodCell_last hg) h2 hv (Int.le_refl _) h

theorem makes_of_speed {s : Ship} (hc : check s = 0) {i : Ice} (hi : goodIce i) {ch : Bool} {v : Int} (hv : 1 ≤ v ∧ v ≤ 250) (h : v ≤ speed s i ch) : makes s i ch v = true := by
  unfold speed greatest at h
  by_cases h0 : makes s i ch 0 = true
  · rw [if_pos h0] at h
    obtain ⟨a, b, c⟩ := great_is (so := fun v => makes s i ch v) (by decide) h0 (makes_down hc hi ch)
    exact (c v (by omega) (by omega)).2 h
  · rw [if_neg h0] at h
    simp only [] at h; omega

theorem m94_eq {F : Nat} (hF : 1000 ≤ F) {s : Ship} (hc : check s = 0) {c : Cell} (hg : goodCell c) (ch : Bool) : m94 F s c ch = some (safe s c ch) := by
  apply Ok.eq
  have hl := goodCell_last hg
  unfold m94
  refine ok_bnde (m95_eq (by omega) c) ?_
  have hlen : ((corners c).length : Int) = 16 := rfl
  have hcor : ∀ i : Int, 0 ≤ i → i < 16 → goodIce ((corners c).getD i.toNat default) ∧ LeI ((corners c).getD i.toNat default) (lastI c) ∧ (corners c).getD i.toNat default ∈ corners c := fun i h0 h1 => by
    have hm := getD_in (l := corners c) (d := default) h0 (by rw [hlen]; exact h1)
    exact ⟨(corners_in hg hm).1, (corners_in hg hm).2.2, hm⟩
  have hget : ∀ x ∈ corners c, ∃ i : Int, 0 ≤ i ∧ i < 16 ∧ (corners c).getD i.toNat default = x := fun x hx => by
    obtain ⟨i, hi, rfl⟩ := List.getElem_of_mem hx
    refine ⟨i, by omega, by rw [← hlen]; omega, ?_⟩
    simp [List.getD, hi]
  refine ok_join (fun _ => 10 ≤ speed s (lastI c) ch) (fun _ h1 => ?_) fun k hk => ?_
  · have hmk : makes s (lastI c) ch 10 = true := makes_of_speed hc hl (by decide) h1
    refine ok_join (fun _ => bears s (lastI c) ch 10 = true) (fun _ h2 => ?_) fun k hk => ?_
    · have hgo : goesP s (lastI c) ch 10 = true := by simp [goesP, hmk, h2]
      refine ok_join (fun x => Last (goesP s (lastI c) ch) 0 0 x (250 + 1)) (fun x hx => ok_some ?_) fun k hk => ?_
      · unfold safe
        rw [if_neg (by omega), goes_ok, hgo, if_neg (by simp), goes_eq, if_pos hgo]
        rcases hx.it with ⟨h3, h4⟩ | ⟨h3, h4, h5, h6⟩
        · rw [h4 10 (by omega) (by omega)] at hgo; cases hgo
        · have : 10 ≤ x := by
            rcases Int.lt_or_le x 10 with h7 | h7
            · rw [h6 10 h7 (by omega)] at hgo; cases hgo
            · exact h7
          rw [(great_eq (goes_down hc hl ch) this (by omega) h5 (fun u a b => h6 u a (by omega))).2]
      · refine ok_loop (fun q : Int × Int => 0 ≤ q.2 ∧ q.2 ≤ 251 ∧ Last (goesP s (lastI c) ch) 0 0 q.1 q.2) (fun q => (251 - q.2).toNat) ⟨by simp, by simp, Last.start⟩ (by show (251 - (0 : Int)).toNat < F; omega) fun q next hI hn => ?_
        obtain ⟨out, v⟩ := q
        obtain ⟨h0, h3, h4⟩ := hI
        simp only [] at h0 h3 h4 ⊢
        refine ok_brk (fun h => ?_) (fun h => hk _ ?_)
        · have h := of_decide_eq_true h
          refine ok_join (fun x => Last (goesP s (lastI c) ch) 0 0 x (v + 1)) (fun x hx => ok_chk (by omega) (hn _ ⟨by simp only []; omega, by simp only []; omega, hx⟩ (by simp only []; omega))) fun k7 hk7 => ?_
          refine ok_join (fun g => g = goesP s (lastI c) ch v) (fun g hg' => ?_) fun k8 hk8 => ?_
          · subst hg'
            exact ok_brk (fun h => hk7 _ (Last.yes h0 h)) (fun h => hk7 _ (h4.no h))
          · refine ok_loop (fun q : Bool × Int => 0 ≤ q.2 ∧ q.2 ≤ 16 ∧ (q.1 = true ↔ ∀ i : Int, 0 ≤ i → i < q.2 → goesP s ((corners c).getD i.toNat default) ch v = true)) (fun q => (16 - q.2).toNat) ⟨by simp, by simp, by simp; intro i a b; omega⟩ (by show (16 - (0 : Int)).toNat < F; omega) fun q next hI hn => ?_
            obtain ⟨g, i⟩ := q
            obtain ⟨a0, a1, a2⟩ := hI
            simp only [] at a0 a1 a2 ⊢
            rw [hlen]
            refine ok_brk (fun h => ?_) (fun h => hk8 _ ?_)
            · have hi := of_decide_eq_true h
              obtain ⟨b1, _, _⟩ := hcor i a0 hi
              refine ok_chk (fun _ => ⟨a0, hi⟩) ?_
              have step : ∀ g', (g' = (g && goesP s ((corners c).getD i.toNat default) ch v)) → (g' = true ↔ ∀ j : Int, 0 ≤ j → j < i + 1 → goesP s ((corners c).getD j.toNat default) ch v = true) := by
                intro g' e
                rw [e, Bool.and_eq_true, a2]
                constructor
                · rintro ⟨c1, c2⟩ j d0 d1
                  by_cases e : j = i
                  · rw [e]; exact c2
                  · exact c1 j d0 (by omega)
                · exact fun c1 => ⟨fun j d0 d1 => c1 j d0 (by omega), c1 i a0 (by omega)⟩
              cases hgb : g with
              | false =>
                refine ok_bnde rfl (ok_chk (fun h => by cases h) (ok_bnde rfl (ok_bnde rfl (ok_chk (by omega) (hn _ ⟨by simp only []; omega, by simp only []; omega, ?_⟩ (by simp only []; omega))))))
                exact step _ (by rw [hgb]; rfl)
              | true =>
                refine ok_bnde (b := makes s ((corners c).getD i.toNat default) ch v) (m96_eq (F := F) (by omega) hc b1 (by omega) ch) (ok_chk (fun _ => ⟨a0, hi⟩) ?_)
                cases hmb : makes s ((corners c).getD i.toNat default) ch v with
                | false =>
                  refine ok_bnde rfl (ok_bnde rfl (ok_chk (by omega) (hn _ ⟨by simp only []; omega, by simp only []; omega, ?_⟩ (by simp only []; omega))))
                  exact step _ (by rw [hgb, goesP, hmb]; rfl)
                | true =>
                  refine ok_bnde (b := loadI ((corners c).getD i.toNat default) v ch) (m97_eq (F := F) b1 (by omega) ch) (ok_bnde (b := strengths.getD (s.Class - 1).toNat 0) (m98_eq (F := F) hc) (ok_chk (by omega) (hn _ ⟨by simp only []; omega, by simp only []; omega, ?_⟩ (by simp only []; omega))))
                  exact step _ (by rw [hgb, goesP, hmb]; rfl)
            · have h := of_decide_eq_false h
              obtain rfl : i = 16 := by omega
              rw [Bool.eq_iff_iff, a2, ← goesP_all hc hg ch h0]
              constructor
              · intro e x hx
                obtain ⟨i, c0, c1, rfl⟩ := hget x hx
                exact e i c0 c1
              · exact fun e i c0 c1 => e _ (hcor i c0 c1).2.2
        · have h := of_decide_eq_false h
          obtain rfl : v = 250 + 1 := by omega
          exact h4
    · refine ok_loop (fun i : Int => 0 ≤ i ∧ i ≤ 16 ∧ ∀ j : Int, 0 ≤ j → j < i → bears s ((corners c).getD j.toNat default) ch 10 = true) (fun i => (16 - i).toNat) ⟨by simp, by simp, fun j a b => by omega⟩ (by show (16 - (0 : Int)).toNat < F; omega) fun i next hI hn => ?_
      obtain ⟨a0, a1, a2⟩ := hI
      rw [hlen]
      refine ok_brk (fun h => ?_) (fun h => hk _ ?_)
      · have hi := of_decide_eq_true h
        obtain ⟨b1, b2, _⟩ := hcor i a0 hi
        refine ok_chk ⟨a0, hi⟩ (ok_bnde (m97_eq (F := F) b1 (by decide) ch) (ok_bnde (m98_eq (F := F) hc) (ok_brk (fun h => ok_some ?_) (fun h => ok_chk (by omega) (hn _ ⟨by omega, by omega, fun j c0 c1 => ?_⟩ (by omega))))))
        · have h := of_decide_eq_true h
          have hb : bears s (lastI c) ch 10 = false := by
            cases hb : bears s (lastI c) ch 10 with
            | false => rfl
            | true =>
              have := bears_mono b1 hl b2 (u := 10) (v := 10) (by decide) (Int.le_refl _) hb
              simp only [bears, decide_eq_true_eq] at this
              omega
          unfold safe
          rw [if_neg (by omega), goes_ok, goesP, hb, Bool.and_false, if_pos rfl]
        · by_cases e : j = i
          · rw [e]; have h := of_decide_eq_false h; exact decide_eq_true (by omega)
          · exact a2 j c0 (by omega)
      · have h := of_decide_eq_false h
        obtain rfl : i = 16 := by omega
        obtain ⟨i, c0, c1, e⟩ := hget _ (corners_last c)
        rw [← e]; exact a2 i c0 c1
  · refine ok_loop (fun i : Int => 0 ≤ i ∧ i ≤ 16 ∧ ∀ j : Int, 0 ≤ j → j < i → 10 ≤ speed s ((corners c).getD j.toNat default) ch) (fun i => (16 - i).toNat) ⟨by simp, by simp, fun j a b => by omega⟩ (by show (16 - (0 : Int)).toNat < F; omega) fun i next hI hn => ?_
    obtain ⟨a0, a1, a2⟩ := hI
    rw [hlen]
    refine ok_brk (fun h => ?_) (fun h => hk _ ?_)
    · have hi := of_decide_eq_true h
      obtain ⟨b1, b2, b3⟩ := hcor i a0 hi
      refine ok_chk ⟨a0, hi⟩ (ok_bnde (m117_eq hF hc b1 ch) (ok_brk (fun h => ok_some ?_) (fun h => ok_chk (by omega) (hn _ ⟨by omega, by omega, fun j c0 c1 => ?_⟩ (by omega)))))
      · have h := of_decide_eq_true h
        unfold safe
        rw [if_pos ((speed_lt hc hg ch).1 ⟨_, b3, h⟩)]
      · by_cases e : j = i
        · rw [e]; have h := of_decide_eq_false h; omega
        · exact a2 j c0 (by omega)
    · have h := of_decide_eq_false h
      obtain rfl : i = 16 := by omega
      obtain ⟨i, c0, c1, e⟩ := hget _ (corners_last c)
      rw [← e]; exact a2 i c0 c1

end Go.Proofs.T

/- The reference's functions of the hull layer, fourth part: speeds in a cell, waits. -/
namespace Go.Proofs.T
open Go.AX Hull

theorem speed_bd {s : Ship} (hc : check s = 0) {i : Ice} (hi : goodIce i) (ch : Bool) : 0 ≤ speed s i ch ∧ speed s i ch ≤ 250 := by
  unfold speed greatest
  by_cases h0 : makes s i ch 0 = true
  · rw [if_pos h0]
    obtain ⟨a, b, _⟩ := great_is (so := fun v => makes s i ch v) (by decide) h0 (makes_down hc hi ch)
    exact ⟨a, b⟩
  · rw [if_neg h0]; simp

def speedsE (s : Ship) (c : Cell) (ch : Bool) : Span × Int := if met s c ≠ 0 then (⟨0, 0⟩, met s c) else (⟨speed s (lastI c) ch, speed s (firstI c) ch⟩, 0)
def besetE (s : Ship) (c : Cell) (ch : Bool) : Bool × Bool × Int := if met s c ≠ 0 then (false, false, met s c) else (decide (speed s (lastI c) ch < 10), decide (speed s (firstI c) ch < 10), 0)

theorem m63_eq {F : Nat} (hF : 1000 ≤ F) {s : Ship} (hL : Light s) (c : Cell) (ch : Bool) : m63 F s c ch = some (speedsE s c ch) := by
  apply Ok.eq
  unfold m63 speedsE
  refine ok_bnde (m101_eq (by omega) hL c) (ok_brk (fun h => ok_some ?_) (fun h => ?_))
  · rw [if_pos (by simpa using h)]
  have hm : met s c = 0 := by simpa using h
  rw [if_neg (by simp [hm])]
  obtain ⟨hc, hg⟩ := met_ok hm
  have hl := goodCell_last hg
  have hf := goodCell_first hg
  have bl := speed_bd hc hl ch
  have bf := speed_bd hc hf ch
  refine ok_bnde (m95_eq (by omega) c) ?_
  have hlen : ((corners c).length : Int) = 16 := rfl
  refine ok_join (fun q : Int × Int => q = (speed s (lastI c) ch, speed s (firstI c) ch)) (fun q hq => ok_some (by rw [hq])) fun k hk => ?_
  refine ok_loop (fun q : Int × Int × Int => 0 ≤ q.1 ∧ q.1 ≤ 16 ∧ (speed s (lastI c) ch ≤ q.2.1 ∧ ∀ j : Int, 0 ≤ j → j < q.1 → q.2.1 ≤ speed s ((corners c).getD j.toNat default) ch) ∧ (q.2.2 ≤ speed s (firstI c) ch ∧ ∀ j : Int, 0 ≤ j → j < q.1 → speed s ((corners c).getD j.toNat default) ch ≤ q.2.2)) (fun q => (16 - q.1).toNat)
    ⟨by simp, by simp, ⟨bl.2, fun j a b => by simp only [] at b; omega⟩, ⟨bf.1, fun j a b => by simp only [] at b; omega⟩⟩ (by show (16 - (0 : Int)).toNat < F; omega) fun q next hI hn => ?_
  obtain ⟨i, lo, hi⟩ := q
  obtain ⟨a0, a1, ⟨a2, a3⟩, ⟨a4, a5⟩⟩ := hI
  simp only [] at a0 a1 a2 a3 a4 a5 ⊢
  rw [hlen]
  refine ok_brk (fun h => ?_) (fun h => hk _ ?_)
  · have h := of_decide_eq_true h
    have hm := getD_in (l := corners c) (d := default) a0 (by rw [hlen]; exact h)
    obtain ⟨g1, g2, g3⟩ := corners_in hg hm
    have m1 := speed_mono hc hf g1 g2 ch
    have m2 := speed_mono hc g1 hl g3 ch
    refine ok_chk ⟨a0, h⟩ (ok_bnde (m117_eq hF hc g1 ch) (ok_chk (by omega) (hn _ ⟨by simp only []; omega, by simp only []; omega, ⟨?_, fun j b0 b1 => ?_⟩, ⟨?_, fun j b0 b1 => ?_⟩⟩ (by simp only []; omega))))
    · simp only []; split <;> omega
    · simp only [] at b1 ⊢
      by_cases e : j = i
      · subst e; split <;> omega
      · have := a3 j b0 (by omega); split <;> omega
    · simp only []; split <;> omega
    · simp only [] at b1 ⊢
      by_cases e : j = i
      · subst e; split <;> omega
      · have := a5 j b0 (by omega); split <;> omega
  · have h := of_decide_eq_false h
    obtain rfl : i = 16 := by omega
    have hget : ∀ x ∈ corners c, ∃ i : Int, 0 ≤ i ∧ i < 16 ∧ (corners c).getD i.toNat default = x := fun x hx => by
      obtain ⟨i, hi, rfl⟩ := List.getElem_of_mem hx
      exact ⟨i, by omega, by rw [← hlen]; omega, by simp [List.getD, hi]⟩
    obtain ⟨i, c0, c1, e⟩ := hget _ (corners_last c)
    obtain ⟨j, d0, d1, e'⟩ := hget _ (corners_first c)
    have := a3 i c0 c1
    have := a5 j d0 d1
    rw [e] at *
    rw [e'] at *
    rw [Prod.mk.injEq]
    omega

theorem m64_eq {F : Nat} (hF : 1000 ≤ F) {s : Ship} (hL : Light s) (c : Cell) (ch : Bool) : m64 F s c ch = some (besetE s c ch) := by
  unfold m64
  rw [m63_eq hF hL, bnd_pos]
  unfold speedsE besetE
  by_cases h : met s c = 0
  · rw [if_neg (by simp [h]), if_neg (by simp [h])]; rfl
  · rw [if_pos h, if_pos h]
    rw [brk_pos (by simpa using h)]

end Go.Proofs.T

/- Speeds in a cell, beset, beyond: what the program computes. -/
namespace Go.Proofs.T
open Go.AX Hull

theorem LeI_speed {s : Ship} (hc : check s = 0) {c : Cell} (hg : goodCell c) (ch : Bool) : speed s (lastI c) ch ≤ speed s (firstI c) ch :=
  speed_mono hc (goodCell_first hg) (goodCell_last hg) (first_le_last hg) ch

theorem m55_eq {F : Nat} (s : Ship) (c : Cell) (ch : Bool) : m55 F s c ch = some (speedsE s c ch) := by
  apply Ok.eq
  unfold m55 speedsE
  refine ok_brk (fun h => ok_some ?_) (fun h => ?_)
  · rw [if_pos (by simpa using h)]
  have hm : met s c = 0 := by simpa using h
  rw [if_neg (by simp [hm])]
  obtain ⟨hc, hg⟩ := met_ok hm
  have hl := goodCell_last hg
  have hf := goodCell_first hg
  have bl := speed_bd hc hl ch
  have bf := speed_bd hc hf ch
  have hle := LeI_speed hc hg ch
  refine ok_join (fun q : Int × Int => q = (speed s (lastI c) ch, speed s (firstI c) ch)) (fun q hq => ok_some (by rw [hq])) fun k hk => ?_
  refine ok_bnde (b := ()) rfl ?_
  rw [chk_pos hc, chk_pos hf, bnd_pos]
  refine ok_brk (fun h => ?_) (fun h => hk _ ?_)
  · rw [chk_pos hc, chk_pos hl, bnd_pos]
    refine hk _ ?_
    simp only []
    rw [Prod.mk.injEq]
    constructor
    · split <;> split <;> omega
    · split <;> split <;> omega
  · have h : firstI c = lastI c := by simpa using h
    simp only []
    rw [← h, Prod.mk.injEq]
    constructor
    · split <;> omega
    · split <;> omega

theorem m52_eq {F : Nat} (s : Ship) (c : Cell) (ch : Bool) : m52 F s c ch = some (besetE s c ch) := by
  unfold m52
  rw [m55_eq, bnd_pos]
  unfold speedsE besetE
  by_cases h : met s c = 0
  · rw [if_neg (by simp [h]), if_neg (by simp [h])]; rfl
  · rw [if_pos h, if_pos h]
    rw [brk_pos (by simpa using h)]

def beyondE (s : Ship) (c : Cell) (v : Int) (ch : Bool) : Bool × Bool × Int :=
  if met s c ≠ 0 then (false, false, met s c) else if within v 0 250 = false then (false, false, 6) else (!bears s (lastI c) ch v, !bears s (firstI c) ch v, 0)

theorem bears_cell {s : Ship} {c : Cell} (hg : goodCell c) {v : Int} (hv : 0 ≤ v) (ch : Bool) (h : bears s (lastI c) ch v = true) : bears s (firstI c) ch v = true :=
  bears_mono (goodCell_first hg) (goodCell_last hg) (first_le_last hg) hv (Int.le_refl _) h

theorem m56_eq {F : Nat} (s : Ship) (c : Cell) (v : Int) (ch : Bool) : m56 F s c v ch = some (beyondE s c v ch) := by
  apply Ok.eq
  unfold m56 beyondE
  refine ok_brk (fun h => ok_some ?_) (fun h => ?_)
  · rw [if_pos (by simpa using h)]
  have hm : met s c = 0 := by simpa using h
  rw [if_neg (by simp [hm])]
  obtain ⟨hc, hg⟩ := met_ok hm
  have hl := goodCell_last hg
  have hf := goodCell_first hg
  refine ok_brk (fun h => ok_some ?_) (fun h => ?_)
  · rw [if_pos (by simpa using h)]
  have h : within v 0 250 = true := by simpa using h
  rw [if_neg (by simp [h])]
  have hv := within_t h
  have hb := bears_cell (s := s) hg hv.1 ch
  refine ok_join (fun q : Bool × Bool => q = (!bears s (firstI c) ch v, !bears s (lastI c) ch v)) (fun q hq => ok_some (by rw [hq])) fun k hk => ?_
  refine ok_bnde (b := ()) rfl ?_
  rw [chk_pos hc, chk_pos hf, chk_pos (by omega), bnd_pos]
  refine ok_brk (fun h => ?_) (fun h => hk _ ?_)
  · rw [chk_pos hc, chk_pos hl, chk_pos (by omega), bnd_pos]
    refine hk _ ?_
    generalize bears s (lastI c) ch v = x at hb ⊢
    generalize bears s (firstI c) ch v = y at hb ⊢
    cases x <;> cases y <;> simp at hb ⊢
  · have h : firstI c = lastI c := by simpa using h
    rw [← h]
end Go.Proofs.T

/- What the reference answers when asked, and what she burns. -/
namespace Go.Proofs.T
open Go.AX Hull

theorem asked_ok2 {s : Ship} {i : Ice} {v : Int} (h : asked s i v = 0) : check s = 0 ∧ goodIce i ∧ 0 ≤ v ∧ v ≤ 250 := by
  obtain ⟨h1, h2, _⟩ := asked_ok h
  refine ⟨h1, h2, ?_⟩
  unfold asked at h
  rw [if_neg (by simp [h1])] at h
  unfold loaded at h
  rw [if_neg (by simp [checkIce_ok.2 h2])] at h
  cases e : within v 0 250 with
  | true => exact within_t e
  | false => rw [if_pos e] at h; cases h

theorem m57_eq {F : Nat} (hF : 1000 ≤ F) {s : Ship} (hL : Light s) (i : Ice) (v : Int) (ch : Bool) : m57 F s i v ch = some (resistanceE s i v ch) := by
  apply Ok.eq
  unfold m57 resistanceE
  refine ok_bnde (m116_eq (by omega) hL i v) (ok_brk (fun h => ok_some ?_) (fun h => ?_))
  · rw [if_pos (by simpa using h)]
  · have h : asked s i v = 0 := by simpa using h
    rw [if_neg (by simp [h])]
    obtain ⟨a, b, c⟩ := asked_ok2 h
    exact ok_bnde (m120_eq (by omega) a b c ch) (ok_some rfl)

theorem m58_eq {F : Nat} (hF : 1000 ≤ F) {s : Ship} (hL : Light s) (i : Ice) (v : Int) (ch : Bool) : m58 F s i v ch = some (makesE s i v ch) := by
  apply Ok.eq
  unfold m58 makesE
  refine ok_bnde (m116_eq (by omega) hL i v) (ok_brk (fun h => ok_some ?_) (fun h => ?_))
  · rw [if_pos (by simpa using h)]
  · have h : asked s i v = 0 := by simpa using h
    rw [if_neg (by simp [h])]
    obtain ⟨a, b, c⟩ := asked_ok2 h
    exact ok_bnde (m96_eq (by omega) a b ⟨c.1, by omega⟩ ch) (ok_some rfl)

theorem m59_eq {F : Nat} (hF : 1000 ≤ F) {s : Ship} (hL : Light s) (i : Ice) (ch : Bool) : m59 F s i ch = some (speedE s i ch) := by
  apply Ok.eq
  unfold m59 speedE
  refine ok_bnde (m116_eq (by omega) hL i 0) (ok_brk (fun h => ok_some ?_) (fun h => ?_))
  · rw [if_pos (by simpa using h)]
  · have h : asked s i 0 = 0 := by simpa using h
    rw [if_neg (by simp [h])]
    obtain ⟨a, b, c⟩ := asked_ok2 h
    exact ok_bnde (m117_eq hF a b ch) (ok_some rfl)

theorem m60_eq {F : Nat} (i : Ice) (v : Int) (ch : Bool) : m60 F i v ch = some (loadE i v ch) := by
  apply Ok.eq
  unfold m60
  refine ok_bnde (m121_eq i) (ok_brk (fun h => ok_some ?_) (fun h => ?_))
  · have h : ¬ goodIce i := by simpa using h
    have hl : loaded i v = 20 := by unfold loaded; rw [checkIce_20 h]; rfl
    rw [loadE, hl]; rfl
  · have h : goodIce i := by simpa using h
    have hl : loaded i v = if within v 0 250 = false then 6 else 0 := by unfold loaded; rw [if_neg (by simp [checkIce_ok.2 h])]
    refine ok_bnde (m92_eq ..) (ok_brk (fun h => ok_some ?_) (fun h' => ?_))
    · have h : within v 0 250 = false := by simpa using h
      rw [loadE, hl, if_pos h]; rfl
    · have h' : within v 0 250 = true := by simpa using h'
      rw [loadE, hl, h', if_neg (by simp)]
      exact ok_bnde (m97_eq h (within_t h') ch) (ok_some rfl)

theorem thrust_le {s : Ship} (hc : check s = 0) {v : Int} (hv : 0 ≤ v) : thrust s v ≤ 20000 := by
  obtain ⟨a, _, _, d⟩ := value_bd (check_curveThrust hc) hv
  unfold thrust
  have := Int.ediv_mul_le (value s.Thrust v).1 (b := (value s.Thrust v).2) (by omega)
  exact Int.le_of_mul_le_mul_right (Int.le_trans this d) (by omega)

theorem resistance_nn {s : Ship} (hc : check s = 0) {i : Ice} (hi : goodIce i) {v : Int} (hv : 0 ≤ v) (ch : Bool) : 0 ≤ resistance s i ch v := by
  obtain ⟨w1, _, w2, _⟩ := value_bd (check_curveWater hc) hv
  obtain ⟨i1, _, i2, _⟩ := value_bd (check_curveIce hc) hi.2.1.1
  obtain ⟨_, _, b3, b4, b5, b6⟩ := check_bd hc
  obtain ⟨h1, _, h3, h4⟩ := hi
  unfold resistance resN
  have p1 : 0 ≤ (value s.Water v).1 * ((value s.Ice i.Thick).2 * 10000000) := Int.mul_nonneg w2 (by omega)
  have q1 : (0 : Int) ≤ (if ch = true then s.Brash else 100) := by split <;> omega
  have q2 : (0 : Int) ≤ (if ch = true then 0 else i.Ridge) := by split <;> omega
  have q3 : 0 ≤ s.Slow * v := Int.mul_nonneg b3.1 hv
  have p2 := Int.mul_nonneg (Int.mul_nonneg i2 (by omega : 0 ≤ 1000 + s.Slow * v)) q1
  have p3 := Int.mul_nonneg (Int.mul_nonneg (Int.mul_nonneg b5.1 q2) (by omega : 0 ≤ (value s.Ice i.Thick).2)) (by decide : (0 : Int) ≤ 100000)
  have p4 := Int.mul_nonneg (Int.mul_nonneg h1.1 (Int.add_nonneg p2 p3)) (by omega : 0 ≤ (value s.Water v).2)
  have p5 := Int.mul_nonneg (Int.mul_nonneg (Int.mul_nonneg b6.1 h4.1) (by omega : 0 ≤ (value s.Water v).2)) (by omega : 0 ≤ (value s.Ice i.Thick).2 * 10000000)
  have p6 : 1 ≤ (value s.Water v).2 * ((value s.Ice i.Thick).2 * 10000000) := Int.mul_pos (by omega) (by omega)
  refine Int.ediv_nonneg ?_ (by omega)
  omega

def burnE (s : Ship) (i : Ice) (v : Int) (ch : Bool) : Int × Int :=
  if asked s i v ≠ 0 then (0, asked s i v) else if makes s i ch v = false then (0, 4) else (s.Power / 10 + (resistance s i ch v * v + 49) / 50, 0)

theorem burn_bd {s : Ship} (hc : check s = 0) {i : Ice} (hi : goodIce i) {v : Int} (hv : 0 ≤ v ∧ v ≤ 250) {ch : Bool} (h : makes s i ch v = true) : 0 ≤ resistance s i ch v * v ∧ resistance s i ch v * v ≤ 5000000 := by
  have h1 := resistance_nn hc hi hv.1 ch
  have h2 := thrust_le hc hv.1
  have h3 : resistance s i ch v ≤ thrust s v := by
    unfold makes at h
    simp only [Bool.and_eq_true, decide_eq_true_eq] at h
    exact h.2
  have := mul_nn (x := resistance s i ch v) (y := v) (a := 0) (A := 20000) (b := 0) (B := 250) (by omega) (by omega) (by decide) (by decide)
  omega

theorem m61_eq {F : Nat} (s : Ship) (i : Ice) (v : Int) (ch : Bool) : m61 F s i v ch = some (burnE s i v ch) := by
  apply Ok.eq
  unfold m61 burnE
  refine ok_brk (fun h => ok_some ?_) (fun h => ?_)
  · rw [if_pos (by simpa using h)]
  have h : asked s i v = 0 := by simpa using h
  rw [if_neg (by simp [h])]
  obtain ⟨a, b, c⟩ := asked_ok2 h
  refine ok_chk a (ok_chk b (ok_chk (by omega) (ok_brk (fun h => ok_some ?_) (fun h => ?_))))
  · rw [if_pos (by simpa using h)]
  have h : makes s i ch v = true := by simpa using h
  rw [if_neg (by simp [h])]
  have e := burn_bd a b c h
  have p := (check_bd a).2.1
  generalize resistance s i ch v * v = r at e ⊢
  repeat' (with_reducible refine ok_chk (by omega) ?_)
  exact ok_some rfl

theorem m62_eq {F : Nat} (hF : 1000 ≤ F) {s : Ship} (hL : Light s) (i : Ice) (v : Int) (ch : Bool) : m62 F s i v ch = some (burnE s i v ch) := by
  apply Ok.eq
  unfold m62 burnE
  refine ok_bnde (m116_eq (by omega) hL i v) (ok_brk (fun h => ok_some ?_) (fun h => ?_))
  · rw [if_pos (by simpa using h)]
  have h : asked s i v = 0 := by simpa using h
  rw [if_neg (by simp [h])]
  obtain ⟨a, b, c⟩ := asked_ok2 h
  refine ok_bnde (m96_eq (by omega) a b ⟨c.1, by omega⟩ ch) (ok_brk (fun h => ok_some ?_) (fun h => ?_))
  · rw [if_pos (by simpa using h)]
  have h : makes s i ch v = true := by simpa using h
  rw [if_neg (by simp [h])]
  have e := burn_bd a b c h
  have p := (check_bd a).2.1
  refine ok_bnde (m120_eq (by omega) a b c ch) ?_
  generalize resistance s i ch v * v = r at e ⊢
  repeat' (with_reducible refine ok_chk (by omega) ?_)
  refine ok_join (fun x => x = s.Power / 10 + (r + 49) / 50) (fun x hx => ok_some (by rw [hx])) fun k hk => ?_
  refine ok_brk (fun h => ok_chk (by omega) (hk _ ?_)) (fun h => hk _ ?_)
  · have h := of_decide_eq_true h; omega
  · have h := of_decide_eq_false h; omega
end Go.Proofs.T

/- The plain law of HullCells. -/
namespace Go.Proofs.T
open Go.AX Hull

def cellOf (i : Ice) : Cell := ⟨⟨i.Conc, i.Conc⟩, ⟨i.Thick, i.Thick⟩, ⟨i.Ridge, i.Ridge⟩, ⟨i.Press, i.Press⟩⟩
end Go.Proofs.T

/- The plain law of HullSpeeds. -/
namespace Go.Proofs.T
open Go.AX Hull

theorem m65_eq {F : Nat} (hF : 1000 ≤ F) {s : Ship} (hL : Light s) (c : Cell) (v : Int) (ch : Bool) : m65 F s c v ch = some (beyondE s c v ch) := by
  apply Ok.eq
  unfold m65 beyondE
  refine ok_bnde (m101_eq (by omega) hL c) (ok_brk (fun h => ok_some ?_) (fun h => ?_))
  · rw [if_pos (by simpa using h)]
  have hm : met s c = 0 := by simpa using h
  rw [if_neg (by simp [hm])]
  obtain ⟨hc, hg⟩ := met_ok hm
  have hl := goodCell_last hg
  have hf := goodCell_first hg
  refine ok_bnde (m92_eq ..) (ok_brk (fun h => ok_some ?_) (fun h => ?_))
  · rw [if_pos (by simpa using h)]
  have h : within v 0 250 = true := by simpa using h
  rw [if_neg (by simp [h])]
  have hv := within_t h
  refine ok_bnde (m95_eq (by omega) c) ?_
  have hlen : ((corners c).length : Int) = 16 := rfl
  refine ok_join (fun q : Int => (0 < q ↔ bears s (lastI c) ch v = false) ∧ (q = 16 ↔ bears s (firstI c) ch v = false)) (fun q hq => ok_some ?_) fun k hk => ?_
  · rw [hlen]
    generalize bears s (lastI c) ch v = x at hq ⊢
    generalize bears s (firstI c) ch v = y at hq ⊢
    rw [Prod.mk.injEq, Prod.mk.injEq]
    refine ⟨?_, ?_, rfl⟩
    · cases x <;> simp at hq ⊢ <;> omega
    · cases y <;> simp at hq ⊢ <;> omega
  refine ok_loop (fun q : Int × Int => (0 ≤ q.2 ∧ q.2 ≤ 16) ∧ (0 ≤ q.1 ∧ q.1 ≤ q.2) ∧ (0 < q.1 ↔ ∃ j : Int, 0 ≤ j ∧ j < q.2 ∧ bears s ((corners c).getD j.toNat default) ch v = false) ∧ (q.1 = q.2 ↔ ∀ j : Int, 0 ≤ j → j < q.2 → bears s ((corners c).getD j.toNat default) ch v = false)) (fun q => (16 - q.2).toNat)
    ⟨by simp, by simp, ⟨fun h => by simp at h, fun ⟨j, a, b, _⟩ => by simp only [] at b; omega⟩, ⟨fun _ j a b => by simp only [] at b; omega, fun _ => rfl⟩⟩ (by show (16 - (0 : Int)).toNat < F; omega) fun q next hI hn => ?_
  obtain ⟨n, i⟩ := q
  obtain ⟨⟨a0, a1⟩, ⟨a2, a3⟩, a4, a5⟩ := hI
  simp only [] at a0 a1 a2 a3 a4 a5 ⊢
  rw [hlen]
  refine ok_brk (fun h => ?_) (fun h => hk _ ?_)
  · have h := of_decide_eq_true h
    have hm := getD_in (l := corners c) (d := default) a0 (by rw [hlen]; exact h)
    obtain ⟨g1, g2, g3⟩ := corners_in hg hm
    refine ok_join (fun q : Int => q = n + (if bears s ((corners c).getD i.toNat default) ch v = false then 1 else 0)) (fun q hq => ok_chk (by omega) (hn _ ⟨⟨by simp only []; omega, by simp only []; omega⟩, ?_, ?_, ?_⟩ (by simp only []; omega))) fun k3 hk3 => ?_
    · simp only []; rw [hq]; split <;> omega
    · simp only []
      rw [hq]
      constructor
      · intro h1
        by_cases e : bears s ((corners c).getD i.toNat default) ch v = false
        · exact ⟨i, a0, by omega, e⟩
        · rw [if_neg e] at h1
          obtain ⟨j, b0, b1, b2⟩ := a4.1 (by omega)
          exact ⟨j, b0, by omega, b2⟩
      · rintro ⟨j, b0, b1, b2⟩
        by_cases e : j = i
        · subst e; rw [if_pos b2]; omega
        · have := a4.2 ⟨j, b0, by omega, b2⟩
          split <;> omega
    · simp only []
      rw [hq]
      constructor
      · intro h1 j b0 b1
        have e : bears s ((corners c).getD i.toNat default) ch v = false := by
          cases e : bears s ((corners c).getD i.toNat default) ch v with
          | false => rfl
          | true => rw [e, if_neg (by simp)] at h1; omega
        rw [if_pos e] at h1
        by_cases e' : j = i
        · subst e'; exact e
        · exact a5.1 (by omega) j b0 (by omega)
      · intro h1
        rw [if_pos (h1 i a0 (by omega)), a5.2 fun j b0 b1 => h1 j b0 (by omega)]
    · refine ok_chk ⟨a0, h⟩ (ok_bnde (m97_eq g1 hv ch) (ok_bnde (m98_eq hc) ?_))
      have hb := bears_is s ((corners c).getD i.toNat default) ch v
      refine ok_brk (fun h => ok_chk (by omega) (hk3 _ ?_)) (fun h => hk3 _ ?_)
      · have h := of_decide_eq_true h
        rw [decide_eq_false (by omega)] at hb
        rw [← hb, if_pos rfl]
      · have h := of_decide_eq_false h
        rw [decide_eq_true (by omega)] at hb
        rw [← hb, if_neg (by simp)]; omega
  · have h := of_decide_eq_false h
    obtain rfl : i = 16 := by omega
    have hget : ∀ x ∈ corners c, ∃ i : Int, 0 ≤ i ∧ i < 16 ∧ (corners c).getD i.toNat default = x := fun x hx => by
      obtain ⟨i, hi, rfl⟩ := List.getElem_of_mem hx
      exact ⟨i, by omega, by rw [← hlen]; omega, by simp [List.getD, hi]⟩
    obtain ⟨i, c0, c1, e⟩ := hget _ (corners_last c)
    obtain ⟨j, d0, d1, e'⟩ := hget _ (corners_first c)
    have hin : ∀ i : Int, 0 ≤ i → i < 16 → goodIce ((corners c).getD i.toNat default) ∧ LeI (firstI c) ((corners c).getD i.toNat default) ∧ LeI ((corners c).getD i.toNat default) (lastI c) :=
      fun i h0 h1 => corners_in hg (getD_in h0 (by rw [hlen]; exact h1))
    refine ⟨a4.trans ⟨fun ⟨j, b0, b1, b2⟩ => ?_, fun h => ⟨i, c0, c1, by rw [e]; exact h⟩⟩, a5.trans ⟨fun h => by rw [← e']; exact h j d0 d1, fun h j b0 b1 => ?_⟩⟩
    · obtain ⟨g1, g2, g3⟩ := hin j b0 b1
      cases e : bears s (lastI c) ch v with
      | false => rfl
      | true => rw [bears_mono g1 hl g3 hv.1 (Int.le_refl _) e] at b2; cases b2
    · obtain ⟨g1, g2, g3⟩ := hin j b0 b1
      cases e : bears s ((corners c).getD j.toNat default) ch v with
      | false => rfl
      | true => rw [bears_mono hf g1 g2 hv.1 (Int.le_refl _) e] at h; cases h

theorem m66_eq {F : Nat} (hF : 1000 ≤ F) {s : Ship} (hL : Light s) (c : Cell) (ch : Bool) : m66 F s c ch = some (safeE s c ch) := by
  apply Ok.eq
  unfold m66 safeE
  refine ok_bnde (m101_eq (by omega) hL c) (ok_brk (fun h => ok_some ?_) (fun h => ?_))
  · rw [if_pos (by simpa using h)]
  have hm : met s c = 0 := by simpa using h
  rw [if_neg (by simp [hm])]
  obtain ⟨hc, hg⟩ := met_ok hm
  exact ok_bnde (m94_eq hF hc hg ch) (ok_some rfl)

theorem m12_ok {F : Nat} (hF : 1000 ≤ F) (s : Ship) (i : Ice) (c : Cell) (v : Int) (ch : Bool) : Ok (fun r => r = true) (m12 F s i c v ch) := by
  unfold m12
  refine ok_bnde (m27_eq F s) (ok_brk (fun _ => ok_some rfl) (fun h => ?_))
  have hL : Light s := by simpa using h
  refine ok_bnde (m28_eq hL) (ok_bnde (m32_eq hL (by omega)) ?_)
  refine ok_bnde (m57_eq hF hL i v ch) (ok_brk (fun h => by simp at h) (fun _ => ?_))
  refine ok_bnde (m58_eq hF hL i v ch) (ok_brk (fun h => by simp at h) (fun _ => ?_))
  refine ok_bnde (m59_eq hF hL i ch) (ok_brk (fun h => by simp at h) (fun _ => ?_))
  refine ok_bnde (m60_eq i v ch) (ok_brk (fun h => by simp at h) (fun _ => ?_))
  refine ok_bnde (m61_eq s i v ch) (ok_bnde (m62_eq hF hL i v ch) (ok_brk (fun h => by simp at h) (fun _ => ?_)))
  refine ok_bnde (m55_eq s c ch) (ok_bnde (m63_eq hF hL c ch) (ok_brk (fun h => by simp at h) (fun _ => ?_)))
  refine ok_bnde (m52_eq s c ch) (ok_bnde (m64_eq hF hL c ch) (ok_brk (fun h => by simp at h) (fun _ => ?_)))
  refine ok_bnde (m56_eq s c v ch) (ok_bnde (m65_eq hF hL c v ch) (ok_brk (fun h => by simp at h) (fun _ => ?_)))
  refine ok_bnde (m66_eq hF hL c ch) ?_
  rw [beq_self_eq_true, beq_self_eq_true]
  exact ok_bnde (b := true) (m39_refl hL (by omega)) (ok_some rfl)
end Go.Proofs.T
