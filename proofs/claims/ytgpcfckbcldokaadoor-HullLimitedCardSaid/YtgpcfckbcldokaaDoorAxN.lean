/-
  The core, fourteenth part: calls that write boxes lent to them.
-/
import Derived.Test.YtgpcfckbcldokaaDoorAxM
namespace Go.AX
open Go Go.RowKit

/-- Nothing that was there has changed but the one block, of which the cells are told. -/
structure Lent (w w' : World) (b : Nat) (ty : TypeId) (vs : List Value) : Prop where
  os : w'.os = w.os
  tape : w'.tape = w.tape
  output : w'.output = w.output
  size : w.heap.size ≤ w'.heap.size
  block : ∀ k, k < w.heap.size → k ≠ b → w'.heap[k]? = w.heap[k]?
  it : w'.heap[b]? = some (.cells vs.toArray ty (0, 0))

section
variable {cx : Cx} {s g : Map} {m : Nat → Nat} {a : Act} {w : World}

theorem cells_all {L n : Nat} {ty : TypeId} {vs : List Value} (h : Rel cx m g a w) (hb : g (.b L) = some (.sh ty n)) (hn : vs.length = n) (hc : CellsAre g L 0 (vs.map SV.v)) : w.heap[m L]? = some (.cells vs.toArray ty (0, 0)) := by
  obtain ⟨_, cs, hs, hh⟩ := h.blk L ty n hb
  have hbox := boxAt h (fun _ _ => rfl) hb hc
  rw [hh]
  congr 2
  refine Array.ext (by simp [hs, hn]) fun j h1 h2 => ?_
  have h3 := hbox.2 j vs[j] (List.getElem?_eq_getElem (by simpa using h2))
  simp only [World.cell?, hh] at h3
  simp [h1] at h3
  simpa using h3

/-- At the end of a function to which one box was lent. -/
theorem lent_end {P : Program} {r : Option Nat} {N : Nat} {w0 : World} {ds : List Deferred} {L b n : Nat} {ty : TypeId} {vs : List Value} (h : Rel ⟨P, r, w0.heap.size, w0, N, ds, [(L, b)]⟩ m g a w) (hb : g (.b L) = some (.sh ty n)) (hn : vs.length = n)
    (hc : CellsAre g L 0 (vs.map SV.v)) : Lent w0 w b ty vs := by
  have hm := (h.fix L b (by simp)).1
  refine ⟨h.held.os, h.held.tape, h.held.output, h.held.size, fun k h1 h2 => h.held.block k h1 fun ⟨l, hl⟩ => ?_, ?_⟩
  · simp only [List.mem_singleton, Prod.mk.injEq] at hl
    exact h2 hl.2
  · rw [← hm]; exact cells_all h hb hn hc

theorem Rel.lentStep {L n : Nat} {ty : TypeId} {vs : List Value} {w' : World} (h : Rel cx m g a w) (hb : g (.b L) = some (.sh ty n)) (hn : vs.length = n) (hl : Lent w w' (m L) ty vs) : Rel cx m (upd (cellsUp L 0 (vs.map SV.v)) g) a w' := by
  obtain ⟨hmine, cs0, hs0, hh0⟩ := h.blk L ty n hb
  have key : ∀ k, upd (cellsUp L 0 (vs.map SV.v)) g k = match k with
      | .c L' o => if L' = L ∧ o < vs.length then ((vs.map SV.v)[o]?).map Val.x else g k
      | _ => g k := by
    intro k
    rw [upd_cellsUp]
    cases k <;> simp
  have hblk : ∀ {L' ty' n'}, g (.b L') = some (.sh ty' n') → L' ≠ L → w'.heap[m L']? = w.heap[m L']? := fun {L' ty' n'} hk hne => by
    obtain ⟨_, cs', _, h3⟩ := h.blk L' ty' n' hk
    exact hl.block _ (Array.getElem?_eq_some_iff.1 h3).1 fun e => hne (h.inj L' L ty' n' ty n hk hb e)
  refine ⟨h.size, h.defers, fun i y hy => ?_, fun i c y hy => ?_, fun L' ty' n' hL' => ?_, fun L' o' y hy => ?_, fun L' o' y hy => ?_, fun L1 L2 ty1 n1 ty2 n2 h1 h2 he => ?_, fun L1 own C ty1 k cs1 hx => ?_, fun L1 own C ty1 k cs1 L' ty' n' hx hy hc => ?_,
    fun L1 C ty1 k cs1 L' own' C' ty' k' cs' hx hy hne hc hc' => ?_, fun L1 C ty1 k cs1 hx hc => ?_, h.held.step hl.os hl.tape hl.output hl.size fun k h1 h2 => hl.block k (Nat.lt_of_lt_of_le h1 h.top) fun e => ?_, Nat.le_trans h.top hl.size, fun L1 b1 hb1 => ?_⟩
  · rw [key] at hy; exact h.tm i y hy
  · rw [key] at hy; exact h.tmc i c y hy
  · rw [key] at hL'
    by_cases e : L' = L
    · subst e
      rw [hb] at hL'
      cases hL'
      exact ⟨hmine, vs.toArray, by simpa using hn, hl.it⟩
    · obtain ⟨h1, cs', h2, h3⟩ := h.blk L' ty' n' hL'
      exact ⟨h1, cs', h2, by rw [hblk hL' e]; exact h3⟩
  · rw [key] at hy
    by_cases e : L' = L ∧ o' < vs.length
    · obtain ⟨rfl, ho⟩ := e
      simp only [ho, and_self, if_true, List.getElem?_map, List.getElem?_eq_getElem ho, Option.map_some, Option.some.injEq, Val.x.injEq] at hy
      subst hy
      simp only [World.cell?, hl.it, den]
      simp [ho]
    · simp only [e, if_false] at hy
      obtain ⟨ty', n', hL'⟩ := h.own L' o' y hy
      by_cases e1 : L' = L
      · subst e1
        exfalso
        have hcell := h.cell L' o' y hy
        simp only [World.cell?, hh0] at hcell
        have : o' < cs0.size := by
          rcases Nat.lt_or_ge o' cs0.size with h4 | h4
          · exact h4
          · simp [h4] at hcell
        exact e ⟨rfl, by omega⟩
      · have := h.cell L' o' y hy
        simp only [World.cell?] at this ⊢
        rw [hblk hL' e1]; exact this
  · rw [key] at hy
    by_cases e : L' = L ∧ o' < vs.length
    · exact ⟨ty, n, by rw [key, e.1]; exact hb⟩
    · simp only [e, if_false] at hy
      obtain ⟨ty', n', hL'⟩ := h.own L' o' y hy
      exact ⟨ty', n', by rw [key]; exact hL'⟩
  · rw [key] at h1 h2; exact h.inj L1 L2 ty1 n1 ty2 n2 h1 h2 he
  · rw [key] at hx
    have := h.vec L1 own C ty1 k cs1 hx
    exact this.same fun hc => hl.block _ (this.lt hc) fun e => h.sep L1 own C ty1 k cs1 L ty n hx hb hc e
  · rw [key] at hx hy; exact h.sep L1 own C ty1 k cs1 L' ty' n' hx hy hc
  · rw [key] at hx hy; exact h.sepR L1 C ty1 k cs1 L' own' C' ty' k' cs' hx hy hne hc hc'
  · rw [key] at hx; exact h.ownR L1 C ty1 k cs1 hx hc
  · subst e
    rcases hmine with hm | hm
    · omega
    · exact h2 hm
  · obtain ⟨h1, ty1, n1, h2⟩ := h.fix L1 b1 hb1
    exact ⟨h1, ty1, n1, by rw [key]; exact h2⟩

variable {d : Nat} {type : TypeId} {pos : String} {after : Array Edge} {guard : Option (Nat × Bool)}

/-- A call that writes a box lent to it. -/
theorem op_callLent {fo : Operand} {fv : SV} {k L n : Nat} {ty : TypeId} {vs vs' : List Value} {F C : (Nat → Nat) → List Value} {xs : List SV} {x : SV} {args : Array Operand} {ts : Array TypeId} {extra : List Key}
    (hN : d < cx.N) (hen : Proofs.Enters cx.P k) (hf : Ev s fo fv) (hk : ∀ m, den m fv = .func (.func k) (F m).toArray (C m).toArray) (hx : EvL s args.toList xs)
    (hb : s (.b L) = some (.sh ty n)) (hn : vs.length = n) (hcs : CellsAre s L 0 (vs.map SV.v)) (hn' : vs'.length = n)
    (hc : ∀ (m : Nat → Nat) (a : Act) (w : World) (g : Map), (∀ k ∈ extra, g k = s k) → Rel cx m g a w → w.heap[m L]? = some (.cells vs.toArray ty (0, 0)) →
      Calls cx.P k (F m ++ (denL m xs ++ C m)).toArray w fun e w' => e = .returned (den m x) ∧ Lent w w' (m L) ty vs') :
    OpRun cx ⟨some d, .call ⟨.value fo, args, ts⟩, type, pos, after, guard⟩ s ⟨okeys fo ++ okeysL args.toList ++ (.b L :: (cellKeys L 0 n ++ extra)), (.t d, some (.x x)) :: cellsUp L 0 (vs'.map SV.v), []⟩ :=
  op_callR hen hf hk hx fun m a w g hr _ hrel => by
    have hb' : g (.b L) = some (.sh ty n) := by rw [hr _ (by simp)]; exact hb
    have hcs' : CellsAre g L 0 (vs.map SV.v) := by
      have : ∀ (l : List SV) (o : Nat), (∀ j, j < l.length → g (.c L (o + j)) = s (.c L (o + j))) → CellsAre s L o l → CellsAre g L o l := by
        intro l
        induction l with
        | nil => intro o _ _; trivial
        | cons y l ih =>
          intro o h1 h2
          refine ⟨by have := h1 0 (by simp); simp only [Nat.add_zero] at this; rw [this]; exact h2.1, ih (o + 1) (fun j hj => ?_) h2.2⟩
          have := h1 (j + 1) (by simp; omega)
          rw [show o + 1 + j = o + (j + 1) by omega]; exact this
      refine this _ 0 (fun j hj => hr _ ?_) hcs
      have hj' : j < n := by simpa [hn] using hj
      simp only [List.mem_cons, List.mem_append]
      exact .inr (.inl (mem_cellKeys hj'))
    have h1 := hc m a w g (fun k hk => hr k (by simp [hk])) hrel (cells_all hrel hb' hn hcs')
    have e : (F m).toArray ++ (denL m xs).toArray ++ (C m).toArray = (F m ++ (denL m xs ++ C m)).toArray := by simp
    rw [e]
    refine h1.mono fun e w' ⟨he, hl⟩ => ?_
    exact ⟨_, m, he, ((hrel.lentStep hb' hn' hl).put hN rfl).congr (fun q => (upd_cons _ q).symm)⟩

/-- A box whose cells may name blocks of one's own, as a callee's contract wants it. -/
theorem boxAtD {L n : Nat} {ty : TypeId} {ys : List SV} (hrel : Rel cx m g a w) (hr : ∀ k ∈ Key.b L :: cellKeys L 0 ys.length, g k = s k) (hb : s (.b L) = some (.sh ty n)) (hc : CellsAre s L 0 ys) : BoxAt w (m L) (denL m ys) := by
  obtain ⟨_, cs, _, hh⟩ := hrel.blk L ty n (by rw [hr _ (by simp)]; exact hb)
  refine ⟨(Array.getElem?_eq_some_iff.1 hh).1, fun j v hj => ?_⟩
  rw [denL_get] at hj
  cases hy : ys[j]? with
  | none => rw [hy] at hj; cases hj
  | some y =>
    rw [hy] at hj
    cases hj
    have hlt : j < ys.length := (List.getElem?_eq_some_iff.1 hy).1
    have h1 := cellsAre_get hc j y hy
    have h2 : Key.c L (0 + j) ∈ cellKeys L 0 ys.length := mem_cellKeys hlt
    have := hrel.cell L (0 + j) y (by rw [hr _ (by simp only [List.mem_cons]; exact .inr h2)]; exact h1)
    simpa using this

end
end Go.AX
