/-
  The core, seventeenth part: several boxes lent at once.
-/
import Derived.Test.YtgpcfckbcldokaaDoorAxP
namespace Go.AX
open Go Go.RowKit

/-- Nothing that was there has changed but these blocks, of which the cells are told. -/
structure LentL (w w' : World) (bs : List (Nat × TypeId × List Value)) : Prop where
  os : w'.os = w.os
  tape : w'.tape = w.tape
  output : w'.output = w.output
  size : w.heap.size ≤ w'.heap.size
  block : ∀ k, k < w.heap.size → (∀ q ∈ bs, q.1 ≠ k) → w'.heap[k]? = w.heap[k]?
  it : ∀ q ∈ bs, w'.heap[q.1]? = some (.cells q.2.2.toArray q.2.1 (0, 0))

theorem Lent.toL {w w' : World} {b : Nat} {ty : TypeId} {vs : List Value} (h : Lent w w' b ty vs) : LentL w w' [(b, ty, vs)] :=
  ⟨h.os, h.tape, h.output, h.size, fun k h1 h2 => h.block k h1 fun e => h2 (b, ty, vs) (by simp) e.symm, fun q hq => by
    simp only [List.mem_singleton] at hq; subst hq; exact h.it⟩

/-- One more that has not changed. -/
theorem LentL.more {w w' : World} {bs : List (Nat × TypeId × List Value)} (h : LentL w w' bs) {b : Nat} {ty : TypeId} {vs : List Value} (hb : w.heap[b]? = some (.cells vs.toArray ty (0, 0))) (hne : ∀ q ∈ bs, q.1 ≠ b) : LentL w w' ((b, ty, vs) :: bs) :=
  ⟨h.os, h.tape, h.output, h.size, fun k h1 h2 => h.block k h1 fun q hq => h2 q (by simp [hq]), fun q hq => by
    rcases List.mem_cons.1 hq with e | hq
    · subst e; rw [h.block b (Array.getElem?_eq_some_iff.1 hb).1 hne]; exact hb
    · exact h.it q hq⟩

abbrev Loan2 := Nat × Nat × TypeId × List Value

def lendSt2 : List Loan2 → St
  | [] => []
  | (L, _, ty, vs) :: r => boxUp L ty vs ++ lendSt2 r

def loans2 : List Loan2 → List (Nat × Nat)
  | [] => []
  | (L, b, _, _) :: r => (L, b) :: loans2 r

def Lend2 (w : World) : List Loan2 → Prop
  | [] => True
  | (_, b, ty, vs) :: r => w.heap[b]? = some (.cells vs.toArray ty (0, 0)) ∧ (∀ q ∈ loans2 r, q.2 ≠ b) ∧ Lend2 w r

def lendOK2 (args : List SV) : List Loan2 → Bool
  | [] => true
  | (L, _, _, _) :: r => !mentionsIn L (lendSt2 r ++ argSt 0 args) && lendOK2 args r

theorem lendSt2_b : ∀ {bs : List Loan2} {args : List SV} {l : Nat} {v : Val}, get (lendSt2 bs ++ argSt 0 args) (.b l) = some v → ∃ b, (l, b) ∈ loans2 bs := by
  intro bs
  induction bs with
  | nil =>
    intro args l v h
    obtain ⟨j, u, hk, _⟩ := argSt_get _ _ _ _ h
    cases hk
  | cons x r ih =>
    obtain ⟨L, b, ty, vs⟩ := x
    intro args l v h
    by_cases e : l = L
    · exact ⟨b, by simp [loans2, e]⟩
    · simp only [lendSt2, boxUp, List.cons_append, get, upd] at h
      rw [Key.eqb_false (by simp; exact fun h => e h.symm), List.append_assoc, upd_append] at h
      simp only [cond_false] at h
      rw [upd_cellsUp] at h
      obtain ⟨b', hb'⟩ := ih h
      exact ⟨b', by simp [loans2, hb']⟩

theorem lendSt2_r : ∀ {bs : List Loan2} {args : List SV} {l : Nat}, get (lendSt2 bs ++ argSt 0 args) (.r l) = none := by
  intro bs
  induction bs with
  | nil =>
    intro args l
    cases h : get (lendSt2 [] ++ argSt 0 args) (.r l) with
    | none => rfl
    | some v =>
      obtain ⟨j, u, hk, _⟩ := argSt_get _ _ _ _ h
      cases hk
  | cons x r ih =>
    obtain ⟨L, b, ty, vs⟩ := x
    intro args l
    simp only [lendSt2, boxUp, List.cons_append, get, upd]
    rw [Key.eqb_false (by simp), List.append_assoc, upd_append]
    simp only [cond_false]
    rw [upd_cellsUp]
    exact ih

theorem rel_lend2 {P : Program} {r : Option Nat} {N : Nat} {args : List SV} {w : World} (hn : args.length ≤ N) : ∀ (bs : List Loan2), Lend2 w bs → lendOK2 args bs = true →
    ∃ m, Rel ⟨P, r, w.heap.size, w, N, [], loans2 bs⟩ m (get (lendSt2 bs ++ argSt 0 args)) { tmps := (denL (fun _ => 0) args).toArray ++ Array.replicate (N - (denL (fun _ => 0) args).toArray.size) undef, defers := [] } w := by
  intro bs
  induction bs with
  | nil => intro _ _; exact ⟨_, rel_start args w hn⟩
  | cons x rs ih =>
    obtain ⟨L, b, ty, vs⟩ := x
    intro hl hok
    obtain ⟨h1, h3, h4⟩ := hl
    simp only [lendOK2, Bool.and_eq_true, Bool.not_eq_true'] at hok
    obtain ⟨m, hrel⟩ := ih h4 hok.2
    have hA := hrel.lend (L := L) (get_mentions hok.1) h1 (fun l ty n hl => by
      obtain ⟨b', hb'⟩ := lendSt2_b hl
      rw [(hrel.fix l b' hb').1]
      exact h3 _ hb') (fun l => lendSt2_r)
    refine ⟨_, hA.congr fun k => ?_⟩
    simp only [lendSt2, boxUp, List.cons_append, get, upd, List.append_assoc, upd_append]

/-- A function that writes boxes lent to it. -/
theorem enterG {P : Program} {f : Nat} {fn : Func} {c : Code} {args : List SV} {w : World} {R : Ending → World → Prop} (hf : P.funcs[f]? = some fn) (hb : fn.body = some c) {N : Nat} (hN : fn.ntmps = N) (hn : args.length ≤ N) (bs : List Loan2)
    (hl : Lend2 w bs) (hok : lendOK2 args bs = true) (h : AW ⟨P, none, w.heap.size, w, N, [], loans2 bs⟩ c (lendSt2 bs ++ argSt 0 args) (bodyPost P fn R)) : Calls P f (denL (fun _ => 0) args).toArray w R := by
  refine (callsIn_wide (n := 0)).1 ?_
  refine callsIn_of_wp hf hb trivial ?_
  subst hN
  obtain ⟨m, hrel⟩ := rel_lend2 (P := P) (r := none) hn bs hl hok
  exact h _ _ _ hrel

def EndOK (g : Map) : List Loan2 → Prop
  | [] => True
  | (L, _, ty, vs) :: r => g (.b L) = some (.sh ty vs.length) ∧ CellsAre g L 0 (vs.map SV.v) ∧ EndOK g r

section
variable {cx : Cx} {s g : Map} {m : Nat → Nat} {a : Act} {w : World}

theorem lentL_end {P : Program} {r : Option Nat} {N : Nat} {w0 : World} {ds : List Deferred} {bor : List (Nat × Nat)} (h : Rel ⟨P, r, w0.heap.size, w0, N, ds, bor⟩ m g a w) (bs : List Loan2) (hbor : loans2 bs = bor) (he : EndOK g bs) :
    LentL w0 w (bs.map fun q => (q.2.1, q.2.2.1, q.2.2.2)) := by
  have hit : ∀ (bs' : List Loan2), (∀ q ∈ loans2 bs', q ∈ bor) → EndOK g bs' → ∀ q ∈ bs'.map (fun q => (q.2.1, q.2.2.1, q.2.2.2)), w.heap[q.1]? = some (.cells q.2.2.toArray q.2.1 (0, 0)) := by
    intro bs'
    induction bs' with
    | nil => intro _ _ q hq; simp at hq
    | cons x r ih =>
      obtain ⟨L, b, ty, vs⟩ := x
      intro h1 h2 q hq
      obtain ⟨e1, e2, e3⟩ := h2
      simp only [List.map_cons, List.mem_cons] at hq
      rcases hq with e | hq
      · subst e
        have hm := (h.fix L b (h1 (L, b) (by simp [loans2]))).1
        simp only []
        rw [← hm]
        exact cells_all h e1 rfl e2
      · exact ih (fun q hq => h1 q (by simp [loans2, hq])) e3 q hq
  have hmem : ∀ (bs' : List Loan2) (L b : Nat), (L, b) ∈ loans2 bs' → ∃ q ∈ bs'.map (fun q => (q.2.1, q.2.2.1, q.2.2.2)), q.1 = b := by
    intro bs'
    induction bs' with
    | nil => intro L b hb; simp [loans2] at hb
    | cons x r ih =>
      obtain ⟨L, b, ty, vs⟩ := x
      intro L' b' hb
      simp only [loans2, List.mem_cons, Prod.mk.injEq] at hb
      rcases hb with ⟨_, rfl⟩ | hb
      · exact ⟨_, by simp only [List.map_cons, List.mem_cons]; exact .inl rfl, rfl⟩
      · obtain ⟨q, hq, e⟩ := ih L' b' hb
        exact ⟨q, by simp only [List.map_cons, List.mem_cons]; exact .inr hq, e⟩
  refine ⟨h.held.os, h.held.tape, h.held.output, h.held.size, fun k h1 h2 => h.held.block k h1 fun ⟨l, hl⟩ => ?_, hit bs (fun q hq => by rw [← hbor]; exact hq) he⟩
  simp only [] at hl
  rw [← hbor] at hl
  obtain ⟨q, hq, e⟩ := hmem bs l k hl
  exact h2 q hq e

theorem lent_all {P : Program} {r : Option Nat} {B N : Nat} {w0 : World} {ds : List Deferred} {b : Nat} {bor : List (Nat × Nat)} (h : ∀ q ∈ bor, q.2 ≠ b) : ¬ Cx.lent ⟨P, r, B, w0, N, ds, bor⟩ b := fun ⟨_, hl⟩ => h _ hl rfl

/-- What lay there and is not lent lies there still. -/
theorem SlIs.kept {α : Type} {enc : α → List Value} {k : Nat} {x : SlV} {l : List α} (h : SlIs enc k cx.w0 x l) (hrel : Rel cx m g a w) (nb : l ≠ [] → ∀ ad, x.p = some ad → ¬ cx.lent ad.block) (hB : cx.w0.heap.size ≤ cx.B := by exact Nat.le_refl _) : SlIs enc k w x l := by
  refine ⟨h.1, h.2.1, fun hl => ?_⟩
  obtain ⟨b, o, h1, h2, h3⟩ := h.2.2 hl
  have h4 := nb hl _ h1
  refine ⟨b, o, h1, Nat.lt_of_lt_of_le h2 hrel.held.size, fun i y hy j v hv => ?_⟩
  rw [hrel.held.cell (p := ⟨b, o + i * k + j, none⟩) (Nat.lt_of_lt_of_le h2 hB) h4]
  exact h3 i y hy j v hv

theorem BoxAt.kept {b : Nat} {vs : List Value} (h : BoxAt cx.w0 b vs) (hrel : Rel cx m g a w) (nb : ¬ cx.lent b) (hB : cx.w0.heap.size ≤ cx.B := by exact Nat.le_refl _) : BoxAt w b vs :=
  ⟨Nat.lt_of_lt_of_le h.1 hrel.held.size, fun j v hv => by rw [hrel.held.cell (p := ⟨b, j, none⟩) (Nat.lt_of_lt_of_le h.1 hB) nb]; exact h.2 j v hv⟩

theorem Rel.lentStepS {L n : Nat} {ty : TypeId} {ys : List SV} {w' : World} (h : Rel cx m g a w) (hb : g (.b L) = some (.sh ty n)) (hn : ys.length = n) (hl : Lent w w' (m L) ty (denL m ys)) : Rel cx m (upd (cellsUp L 0 ys) g) a w' := by
  obtain ⟨hmine, cs0, hs0, hh0⟩ := h.blk L ty n hb
  have key : ∀ k, upd (cellsUp L 0 ys) g k = match k with
      | .c L' o => if L' = L ∧ o < ys.length then (ys[o]?).map Val.x else g k
      | _ => g k := by
    intro k
    rw [upd_cellsUp]
    cases k <;> simp
  have hblk : ∀ {L' ty' n'}, g (.b L') = some (.sh ty' n') → L' ≠ L → w'.heap[m L']? = w.heap[m L']? := fun {L' ty' n'} hk hne => by
    obtain ⟨_, cs', _, h3⟩ := h.blk L' ty' n' hk
    exact hl.block _ (Array.getElem?_eq_some_iff.1 h3).1 fun e => hne (h.inj L' L ty' n' ty n hk hb e)
  refine ⟨h.size, h.defers, fun i y hy => ?_, fun i c y hy => ?_, fun L' ty' n' hL' => ?_, fun L' o' y hy => ?_, fun L' o' y hy => ?_, fun L1 L2 ty1 n1 ty2 n2 h1 h2 he => ?_, fun L1 own C ty1 k cs1 hx => ?_, fun L1 own C ty1 k cs1 L' ty' n' hx hy hc => ?_,
    fun L1 C ty1 k cs1 L' own' C' ty' k' cs' hx hy hne hc hc' => ?_, fun L1 C ty1 k cs1 hx hc => ?_, h.held.step hl.os hl.tape hl.output hl.size fun k h1 h2 => hl.block k (Nat.lt_of_lt_of_le h1 h.top) fun e => ?_, Nat.le_trans h.top hl.size, fun L1 b1 hb1 => ?_⟩
  · rw [key] at hy; exact h.tm i y hy
  · rw [key] at hy; exact h.tmc i c y hy
  · rw [key] at hL'
    by_cases e : L' = L
    · subst e
      rw [hb] at hL'
      cases hL'
      exact ⟨hmine, (denL m ys).toArray, by simpa [denL_length] using hn, hl.it⟩
    · obtain ⟨h1, cs', h2, h3⟩ := h.blk L' ty' n' hL'
      exact ⟨h1, cs', h2, by rw [hblk hL' e]; exact h3⟩
  · rw [key] at hy
    by_cases e : L' = L ∧ o' < ys.length
    · obtain ⟨rfl, ho⟩ := e
      simp only [ho, and_self, if_true, List.getElem?_eq_getElem ho, Option.map_some, Option.some.injEq, Val.x.injEq] at hy
      subst hy
      simp only [World.cell?, hl.it]
      have := denL_get m ys o'
      rw [List.getElem?_eq_getElem ho] at this
      simpa using this
    · simp only [e, if_false] at hy
      obtain ⟨ty', n', hL'⟩ := h.own L' o' y hy
      by_cases e1 : L' = L
      · subst e1
        exfalso
        have hcell := h.cell L' o' y hy
        simp only [World.cell?, hh0] at hcell
        have : o' < cs0.size := by
          rcases Nat.lt_or_ge o' cs0.size with h4 | h4
          · exact h4
          · simp [h4] at hcell
        exact e ⟨rfl, by omega⟩
      · have := h.cell L' o' y hy
        simp only [World.cell?] at this ⊢
        rw [hblk hL' e1]; exact this
  · rw [key] at hy
    by_cases e : L' = L ∧ o' < ys.length
    · exact ⟨ty, n, by rw [key, e.1]; exact hb⟩
    · simp only [e, if_false] at hy
      obtain ⟨ty', n', hL'⟩ := h.own L' o' y hy
      exact ⟨ty', n', by rw [key]; exact hL'⟩
  · rw [key] at h1 h2; exact h.inj L1 L2 ty1 n1 ty2 n2 h1 h2 he
  · rw [key] at hx
    have := h.vec L1 own C ty1 k cs1 hx
    exact this.same fun hc => hl.block _ (this.lt hc) fun e => h.sep L1 own C ty1 k cs1 L ty n hx hb hc e
  · rw [key] at hx hy; exact h.sep L1 own C ty1 k cs1 L' ty' n' hx hy hc
  · rw [key] at hx hy; exact h.sepR L1 C ty1 k cs1 L' own' C' ty' k' cs' hx hy hne hc hc'
  · rw [key] at hx; exact h.ownR L1 C ty1 k cs1 hx hc
  · subst e
    rcases hmine with hm | hm
    · omega
    · exact h2 hm
  · obtain ⟨h1, ty1, n1, h2⟩ := h.fix L1 b1 hb1
    exact ⟨h1, ty1, n1, by rw [key]; exact h2⟩

/-- A box of the caller's that is lent: its label, its type, its cells before and after. -/
structure LB where
  L : Nat
  ty : TypeId
  ys : List SV
  zs : List SV

def lbUp : List LB → St
  | [] => []
  | q :: r => cellsUp q.L 0 q.zs ++ lbUp r

def lbOK (s : Map) : List LB → Prop
  | [] => True
  | q :: r => s (.b q.L) = some (.sh q.ty q.ys.length) ∧ CellsAre s q.L 0 q.ys ∧ q.zs.length = q.ys.length ∧ (∀ p ∈ r, p.L ≠ q.L) ∧ lbOK s r

def lbKeys : List LB → List Key
  | [] => []
  | q :: r => .b q.L :: (cellKeys q.L 0 q.ys.length ++ lbKeys r)

theorem cellsAre_same {s g : Map} {L : Nat} : ∀ {ys : List SV} {o : Nat}, (∀ j, j < ys.length → g (.c L (o + j)) = s (.c L (o + j))) → CellsAre s L o ys → CellsAre g L o ys := by
  intro ys
  induction ys with
  | nil => intro o _ _; trivial
  | cons y l ih =>
    intro o h1 h2
    refine ⟨by have := h1 0 (by simp); simp only [Nat.add_zero] at this; rw [this]; exact h2.1, ih (fun j hj => ?_) h2.2⟩
    have := h1 (j + 1) (by simp; omega)
    rw [show o + 1 + j = o + (j + 1) by omega]; exact this

theorem lbOK_same {s g : Map} : ∀ {ls : List LB}, (∀ k ∈ lbKeys ls, g k = s k) → lbOK s ls → lbOK g ls := by
  intro ls
  induction ls with
  | nil => intro _ _; trivial
  | cons q r ih =>
    intro h1 h2
    obtain ⟨e1, e2, e3, e4, e5⟩ := h2
    refine ⟨by rw [h1 _ (by simp [lbKeys])]; exact e1, cellsAre_same (fun j hj => h1 _ ?_) e2, e3, e4, ih (fun k hk => h1 k (by simp [lbKeys, hk])) e5⟩
    simp only [lbKeys, List.mem_cons, List.mem_append]
    exact .inr (.inl (mem_cellKeys hj))

theorem cells_allS {L n : Nat} {ty : TypeId} {ys : List SV} (h : Rel cx m g a w) (hb : g (.b L) = some (.sh ty n)) (hn : ys.length = n) (hc : CellsAre g L 0 ys) : w.heap[m L]? = some (.cells (denL m ys).toArray ty (0, 0)) := by
  obtain ⟨_, cs, hs, hh⟩ := h.blk L ty n hb
  have hbox := boxAtD h (fun _ _ => rfl) hb hc
  rw [hh]
  congr 2
  refine Array.ext (by simp [hs, denL_length, hn]) fun j h1 h2 => ?_
  have h3 := hbox.2 j (denL m ys)[j] (List.getElem?_eq_getElem (by simpa using h2))
  simp only [World.cell?, hh] at h3
  simp [h1] at h3
  simpa using h3

theorem lb_before (h : Rel cx m g a w) : ∀ {ls : List LB}, lbOK g ls → ∀ q ∈ ls, w.heap[m q.L]? = some (.cells (denL m q.ys).toArray q.ty (0, 0)) := by
  intro ls
  induction ls with
  | nil => intro _ q hq; simp at hq
  | cons p r ih =>
    intro h2 q hq
    obtain ⟨e1, e2, _, _, e5⟩ := h2
    rcases List.mem_cons.1 hq with rfl | hq
    · exact cells_allS h e1 rfl e2
    · exact ih e5 q hq

def World.setBlk (w : World) (b : Nat) (o : Obj) : World := { w with heap := w.heap.setIfInBounds b o }

theorem Rel.lentSteps : ∀ {ls : List LB} {g : Map} {w w' : World}, Rel cx m g a w → lbOK g ls → LentL w w' (ls.map fun q => (m q.L, q.ty, denL m q.zs)) → Rel cx m (upd (lbUp ls) g) a w' := by
  intro ls
  induction ls with
  | nil =>
    intro g w w' h _ hl
    have hb : Below w.heap.size w w' := ⟨hl.os, hl.tape, hl.output, hl.size, fun k hk => hl.block k hk (by simp)⟩
    exact h.world hb
  | cons q r ih =>
    intro g w w' h hok hl
    obtain ⟨e1, e2, e3, e4, e5⟩ := hok
    obtain ⟨_, cs0, hs0, hh0⟩ := h.blk q.L q.ty _ e1
    have hlt : m q.L < w.heap.size := (Array.getElem?_eq_some_iff.1 hh0).1
    have hit := hl.it (m q.L, q.ty, denL m q.zs) (by simp)
    simp only [] at hit
    let w1 : World := World.setBlk w (m q.L) (.cells (denL m q.zs).toArray q.ty (0, 0))
    have hsz : w1.heap.size = w.heap.size := by simp [w1, World.setBlk]
    have hget : ∀ k, k ≠ m q.L → w1.heap[k]? = w.heap[k]? := fun k hk => by
      simp only [w1, World.setBlk]
      rw [Array.getElem?_setIfInBounds, if_neg (Ne.symm hk)]
    have hself : w1.heap[m q.L]? = some (.cells (denL m q.zs).toArray q.ty (0, 0)) := by
      simp only [w1, World.setBlk]
      rw [Array.getElem?_setIfInBounds, if_pos rfl, if_pos hlt]
    have h1 : Lent w w1 (m q.L) q.ty (denL m q.zs) := ⟨rfl, rfl, rfl, by omega, fun k _ hk => hget k hk, hself⟩
    have h2 := h.lentStepS e1 e3 h1
    have hne : ∀ p ∈ r, m p.L ≠ m q.L := by
      have : ∀ (r' : List LB), (∀ p ∈ r', p.L ≠ q.L) → lbOK g r' → ∀ p ∈ r', m p.L ≠ m q.L := by
        intro r'
        induction r' with
        | nil => intro _ _ p hp; simp at hp
        | cons p' r' ih' =>
          intro h3 h4 p hp
          obtain ⟨f1, _, _, _, f5⟩ := h4
          rcases List.mem_cons.1 hp with rfl | hp
          · exact fun e => h3 p (by simp) (h.inj p.L q.L _ _ _ _ f1 e1 e)
          · exact ih' (fun p hp => h3 p (by simp [hp])) f5 p hp
      exact this r e4 e5
    have hok2 : lbOK (upd (cellsUp q.L 0 q.zs) g) r := by
      refine lbOK_same (fun k hk => ?_) e5
      rw [upd_cellsUp]
      have : ∀ (r' : List LB), (∀ p ∈ r', p.L ≠ q.L) → ∀ o, Key.c q.L o ∉ lbKeys r' := by
        intro r'
        induction r' with
        | nil => intro _ o hp; simp [lbKeys] at hp
        | cons p' r' ih' =>
          intro h3 o hp
          simp only [lbKeys, List.mem_cons, List.mem_append] at hp
          rcases hp with hp | hp | hp
          · cases hp
          · have hck : ∀ (n i : Nat), Key.c q.L o ∈ cellKeys p'.L i n → p'.L = q.L := by
              intro n
              induction n with
              | zero => intro i h; simp [cellKeys] at h
              | succ n ihn =>
                intro i h
                simp only [cellKeys, List.mem_cons] at h
                rcases h with h | h
                · simp only [Key.c.injEq] at h; exact h.1.symm
                · exact ihn _ h
            exact h3 p' (by simp) (hck _ _ hp)
          · exact ih' (fun p hp => h3 p (by simp [hp])) o hp
      cases k with
      | c l o =>
        by_cases e : l = q.L
        · subst e; exact absurd hk (this r e4 o)
        · simp [e]
      | _ => rfl
    refine (ih (w := w1) (w' := w') h2 hok2 ⟨hl.os, hl.tape, hl.output, by rw [hsz]; exact hl.size, fun k hk hn => ?_, fun p hp => hl.it p (by simp only [List.map_cons, List.mem_cons]; exact .inr hp)⟩).congr fun k => ?_
    · by_cases e : k = m q.L
      · subst e; rw [hself]; exact hit
      · rw [hget k e]
        refine hl.block k (by omega) fun p hp => ?_
        simp only [List.map_cons, List.mem_cons] at hp
        rcases hp with rfl | hp
        · exact fun e' => e e'.symm
        · exact hn p hp
    · -- the order in which the cells are written does not matter
      simp only [lbUp, upd_append]
      have hdis : ∀ (r' : List LB) (k : Key), (∀ p ∈ r', p.L ≠ q.L) → upd (lbUp r') (upd (cellsUp q.L 0 q.zs) g) k = upd (cellsUp q.L 0 q.zs) (upd (lbUp r') g) k := by
        intro r'
        induction r' with
        | nil => intro k _; rfl
        | cons p' r' ih' =>
          intro k h3
          have hih := ih' k (fun p hp => h3 p (by simp [hp]))
          have hp' := h3 p' (by simp)
          simp only [lbUp, upd_append]
          rw [upd_cellsUp, upd_cellsUp, upd_cellsUp]
          rw [upd_cellsUp] at hih
          cases k with
          | c l o =>
            simp only [] at hih ⊢
            by_cases e : l = p'.L
            · subst e
              simp only [true_and, hp', false_and, if_false] at hih ⊢
              rw [hih]
            · simp only [e, false_and, if_false]
              exact hih
          | _ => exact hih
      exact hdis r k e4

theorem lb_ne {L : Nat} {r : List LB} (h : (r.all fun p => !Nat.beq p.L L) = true) : ∀ p ∈ r, p.L ≠ L := fun p hp e => by
  have := List.all_eq_true.1 h p hp
  rw [e] at this
  simp at this

theorem lent_cons {P : Program} {r : Option Nat} {B N : Nat} {w0 : World} {ds : List Deferred} {L b b0 : Nat} {bor : List (Nat × Nat)} (h : b ≠ b0) (h2 : ¬ Cx.lent ⟨P, r, B, w0, N, ds, bor⟩ b) : ¬ Cx.lent ⟨P, r, B, w0, N, ds, (L, b0) :: bor⟩ b := fun ⟨l, hl⟩ => by
  rcases List.mem_cons.1 hl with e | hl
  · simp only [Prod.mk.injEq] at e; exact h e.2
  · exact h2 ⟨l, hl⟩

theorem boxAt_heap {b : Nat} {ty : TypeId} {vs : List Value} (h : w.heap[b]? = some (.cells vs.toArray ty (0, 0))) : BoxAt w b vs :=
  ⟨(Array.getElem?_eq_some_iff.1 h).1, fun j v hj => by simp only [World.cell?, h]; simp [hj]⟩

theorem aw_swp {cx : Cx} {s : St} {c : Code} {Q : Exit → Act → World → Prop} (l : List (Nat × Nat)) (hl : (swpOK l && cx.bor.all fun q => Nat.beq (swp l q.1) q.1) = true) (h : AW cx c (renS (swp l) s) Q) : AW cx c s Q := fun m a w hr => by
  simp only [Bool.and_eq_true] at hl
  exact h _ a w (hr.ren (swp_swp hl.1) (fun L b hb => Nat.eq_of_beq_eq_true (List.all_eq_true.1 hl.2 _ hb)))

variable {d : Nat} {type : TypeId} {pos : String} {after : Array Edge} {guard : Option (Nat × Bool)}

/-- A call that writes boxes lent to it. -/
theorem op_callLentL {fo : Operand} {fv : SV} {k : Nat} {ls : List LB} {fs caps xs : List SV} {x : SV} {args : Array Operand} {ts : Array TypeId} {extra : List Key}
    (hN : d < cx.N) (hen : Proofs.Enters cx.P k) (hf : Ev s fo fv) (hk : calleeOf k fs caps fv) (hx : EvL s args.toList xs) (hls : lbOK s ls)
    (hc : ∀ (m : Nat → Nat) (a : Act) (w : World) (g : Map), (∀ k ∈ extra, g k = s k) → Rel cx m g a w → (∀ q ∈ ls, w.heap[m q.L]? = some (.cells (denL m q.ys).toArray q.ty (0, 0))) → lbOK g ls →
      Calls cx.P k (denL m (fs ++ (xs ++ caps))).toArray w fun e w' => e = .returned (den m x) ∧ LentL w w' (ls.map fun q => (m q.L, q.ty, denL m q.zs))) :
    OpRun cx ⟨some d, .call ⟨.value fo, args, ts⟩, type, pos, after, guard⟩ s ⟨okeys fo ++ okeysL args.toList ++ (lbKeys ls ++ extra), (.t d, some (.x x)) :: lbUp ls, []⟩ :=
  op_callG hen hf hk hx fun m a w g hr _ hrel => by
    have hls' := lbOK_same (fun k hk => hr k (by simp [hk])) hls
    have h1 := hc m a w g (fun k hk => hr k (by simp [hk])) hrel (lb_before hrel hls') hls'
    refine h1.mono fun e w' ⟨he, hl⟩ => ?_
    exact ⟨_, m, he, ((hrel.lentSteps hls' hl).put hN rfl).congr (fun q => (upd_cons _ q).symm)⟩

end
end Go.AX
