/-
  The core, thirteenth part: functions that write boxes lent to them.
-/
import Derived.Test.YtgpcfckbcldokaaDoorAxL
namespace Go.AX
open Go Go.RowKit

abbrev Loan := Nat × Nat × Nat × TypeId × List Value

def lendSt : List Loan → St
  | [] => []
  | (i, L, _, ty, vs) :: r => (.t i, some (.x (.p L 0))) :: (.b L, some (.sh ty vs.length)) :: (cellsUp L 0 (vs.map SV.v) ++ lendSt r)

def loans : List Loan → List (Nat × Nat)
  | [] => []
  | (_, L, b, _, _) :: r => (L, b) :: loans r

def Lend (w : World) (args : List SV) : List Loan → Prop
  | [] => True
  | (i, _, b, ty, vs) :: r => w.heap[b]? = some (.cells vs.toArray ty (0, 0)) ∧ args[i]? = some (.v (.pointer (some ⟨b, 0, none⟩))) ∧ (∀ q ∈ loans r, q.2 ≠ b) ∧ Lend w args r

/-- What is decided by looking. -/
def lendOK (args : List SV) : List Loan → Bool
  | [] => true
  | (i, L, _, _, _) :: r => !mentionsIn L (lendSt r ++ argSt 0 args) && !touches (.t i) (lendSt r) && lendOK args r

section
variable {P : Program} {r : Option Nat} {B N : Nat} {w0 : World} {ds : List Deferred} {bor : List (Nat × Nat)} {m : Nat → Nat} {g : Map} {a : Act} {w : World}

theorem Rel.lend {L b : Nat} {ty : TypeId} {vs : List Value} (h : Rel ⟨P, r, B, w0, N, ds, bor⟩ m g a w) (hf : ∀ q, mentions L q (g q) = false) (hb : w.heap[b]? = some (.cells vs.toArray ty (0, 0)))
    (hnew : ∀ l ty n, g (.b l) = some (.sh ty n) → m l ≠ b) (hrow : ∀ l, g (.r l) = none) :
    Rel ⟨P, r, B, w0, N, ds, (L, b) :: bor⟩ (setL m L b) (upd ((.b L, some (.sh ty vs.length)) :: cellsUp L 0 (vs.map SV.v)) g) a w := by
  have hx : ∀ {k x}, g k = some (.x x) → den (setL m L b) x = den m x := fun {k x} hk => den_setL (by have := hf k; rw [hk] at this; exact (mentions_x (b := true)).1 this)
  have hxc : ∀ {k c x}, g k = some (.xc c x) → den (setL m L b) x = den m x := fun {k c x} hk => den_setL (by have := hf k; rw [hk] at this; exact (mentions_x (b := c)).2 this)
  have hgb : ∀ {L' ty' n'}, g (.b L') = some (.sh ty' n') → L' ≠ L := fun {L' ty' n'} hk e => by
    have := hf (.b L'); rw [hk] at this; simp [mentions, e] at this
  have key : ∀ k, upd ((.b L, some (.sh ty vs.length)) :: cellsUp L 0 (vs.map SV.v)) g k = match k with
      | .b L' => if L' = L then some (.sh ty vs.length) else g k
      | .c L' o => if L' = L ∧ o < vs.length then ((vs.map SV.v)[o]?).map Val.x else g k
      | _ => g k := by
    intro k
    simp only [upd]
    rw [upd_cellsUp]
    cases k with
    | t i => rfl
    | b L' =>
      by_cases e : L' = L
      · subst e; simp [Key.eqb]
      · have : Key.eqb (.b L) (.b L') = false := Key.eqb_false (by simpa using Ne.symm e)
        simp [this, e]
    | c L' o => simp [Key.eqb]
    | r L' => simp [Key.eqb]
  have hgc : ∀ {L' o x}, g (.c L' o) = some (.x x) → L' ≠ L := fun {L' o x} hk => by
    obtain ⟨ty', n', hL'⟩ := h.own L' o x hk
    exact hgb hL'
  refine ⟨h.size, h.defers, fun i y hy => ?_, fun i c y hy => ?_, fun L' ty' n' hL' => ?_, fun L' o' y hy => ?_, fun L' o' y hy => ?_, fun L1 L2 ty1 n1 ty2 n2 h1 h2 he => ?_, fun L1 own C ty1 k cs1 hx => ?_, fun L1 own C ty1 k cs1 L' ty' n' hx hy hc => ?_,
    fun L1 C ty1 k cs1 L' own' C' ty' k' cs' hx hy hne hc hc' => ?_, fun L1 C ty1 k cs1 hx hc => ?_, ⟨h.held.os, h.held.tape, h.held.output, h.held.size, fun k h1 h2 => h.held.block k h1 fun ⟨l, hl⟩ => h2 ⟨l, List.mem_cons_of_mem _ hl⟩⟩, h.top, fun L1 b1 hb1 => ?_⟩
  · rw [key] at hy; rw [hx hy]; exact h.tm i y hy
  · rw [key] at hy; rw [hxc hy]; exact h.tmc i c y hy
  · rw [key] at hL'
    by_cases e : L' = L
    · subst e
      simp only [if_true, Option.some.injEq, Val.sh.injEq] at hL'
      obtain ⟨rfl, rfl⟩ := hL'
      rw [setL_self]
      exact ⟨.inr ⟨L', by simp⟩, vs.toArray, by simp, hb⟩
    · simp only [e, if_false] at hL'
      obtain ⟨h1, cs', h2, h3⟩ := h.blk L' ty' n' hL'
      rw [setL_ne _ _ e]
      refine ⟨?_, cs', h2, h3⟩
      rcases h1 with h1 | ⟨l, h1⟩
      · exact .inl h1
      · exact .inr ⟨l, by simp [h1]⟩
  · rw [key] at hy
    by_cases e : L' = L ∧ o' < vs.length
    · obtain ⟨rfl, ho⟩ := e
      simp only [ho, and_self, if_true, List.getElem?_map, List.getElem?_eq_getElem ho, Option.map_some, Option.some.injEq, Val.x.injEq] at hy
      subst hy
      rw [setL_self]
      simp only [World.cell?, hb, den]
      simp [ho]
    · simp only [e, if_false] at hy
      have := hgc hy
      rw [setL_ne _ _ this, hx hy]
      exact h.cell L' o' y hy
  · rw [key] at hy
    by_cases e : L' = L ∧ o' < vs.length
    · exact ⟨ty, vs.length, by rw [key]; simp [e.1]⟩
    · simp only [e, if_false] at hy
      obtain ⟨ty', n', hL'⟩ := h.own L' o' y hy
      exact ⟨ty', n', by rw [key]; simp only [hgb hL', if_false]; exact hL'⟩
  · rw [key] at h1 h2
    by_cases e1 : L1 = L
    · by_cases e2 : L2 = L
      · rw [e1, e2]
      · simp only [e2, if_false] at h2
        rw [e1, setL_self, setL_ne _ _ e2] at he
        exact absurd he.symm (hnew L2 ty2 n2 h2)
    · simp only [e1, if_false] at h1
      by_cases e2 : L2 = L
      · rw [e2, setL_self, setL_ne _ _ e1] at he
        exact absurd he (hnew L1 ty1 n1 h1)
      · simp only [e2, if_false] at h2
        rw [setL_ne _ _ e1, setL_ne _ _ e2] at he
        exact h.inj L1 L2 ty1 n1 ty2 n2 h1 h2 he
  · rw [key] at hx; simp [hrow L1] at hx
  · rw [key] at hx; simp [hrow L1] at hx
  · rw [key] at hx; simp [hrow L1] at hx
  · rw [key] at hx; simp [hrow L1] at hx
  · rcases List.mem_cons.1 hb1 with e | hb1
    · cases e
      exact ⟨setL_self _ _ _, ty, vs.length, by rw [key]; simp⟩
    · obtain ⟨h1, ty1, n1, h2⟩ := h.fix L1 b1 hb1
      have hne := hgb h2
      exact ⟨by rw [setL_ne _ _ hne]; exact h1, ty1, n1, by rw [key]; simp only [hne, if_false]; exact h2⟩

end

theorem argSt_t : ∀ (vs : List SV) (i j : Nat) (v : SV), vs[j]? = some v → get (argSt i vs) (.t (i + j)) = some (.x v) := by
  intro vs
  induction vs with
  | nil => intro i j v h; simp at h
  | cons x vs ih =>
    intro i j v h
    cases j with
    | zero =>
      simp only [List.getElem?_cons_zero, Option.some.injEq] at h
      subst h
      simp [argSt, get, upd, Key.eqb_self]
    | succ j =>
      simp only [List.getElem?_cons_succ] at h
      have := ih (i + 1) j v h
      rw [show i + 1 + j = i + (j + 1) by omega] at this
      simp only [argSt, get, upd]
      rw [Key.eqb_false (by simp)]
      exact this

theorem lendSt_b : ∀ {bs : List Loan} {args : List SV} {l : Nat} {v : Val}, get (lendSt bs ++ argSt 0 args) (.b l) = some v → ∃ b, (l, b) ∈ loans bs := by
  intro bs
  induction bs with
  | nil =>
    intro args l v h
    obtain ⟨j, u, hk, _⟩ := argSt_get _ _ _ _ h
    cases hk
  | cons x r ih =>
    obtain ⟨i, L, b, ty, vs⟩ := x
    intro args l v h
    by_cases e : l = L
    · exact ⟨b, by simp [loans, e]⟩
    · simp only [lendSt, List.cons_append, get, upd] at h
      rw [Key.eqb_false (by simp), Key.eqb_false (by simp; exact fun h => e h.symm), List.append_assoc, upd_append] at h
      simp only [cond_false] at h
      rw [upd_cellsUp] at h
      obtain ⟨b', hb'⟩ := ih h
      exact ⟨b', by simp [loans, hb']⟩

theorem lendSt_r : ∀ {bs : List Loan} {args : List SV} {l : Nat}, get (lendSt bs ++ argSt 0 args) (.r l) = none := by
  intro bs
  induction bs with
  | nil =>
    intro args l
    cases h : get (lendSt [] ++ argSt 0 args) (.r l) with
    | none => rfl
    | some v =>
      obtain ⟨j, u, hk, _⟩ := argSt_get _ _ _ _ h
      cases hk
  | cons x r ih =>
    obtain ⟨i, L, b, ty, vs⟩ := x
    intro args l
    simp only [lendSt, List.cons_append, get, upd]
    rw [Key.eqb_false (by simp), Key.eqb_false (by simp), List.append_assoc, upd_append]
    simp only [cond_false]
    rw [upd_cellsUp]
    exact ih

theorem rel_lend {P : Program} {r : Option Nat} {N : Nat} {args : List SV} {w : World} (hn : args.length ≤ N) : ∀ (bs : List Loan), Lend w args bs → lendOK args bs = true →
    ∃ m, Rel ⟨P, r, w.heap.size, w, N, [], loans bs⟩ m (get (lendSt bs ++ argSt 0 args)) { tmps := (denL (fun _ => 0) args).toArray ++ Array.replicate (N - (denL (fun _ => 0) args).toArray.size) undef, defers := [] } w := by
  intro bs
  induction bs with
  | nil => intro _ _; exact ⟨_, rel_start args w hn⟩
  | cons x rs ih =>
    obtain ⟨i, L, b, ty, vs⟩ := x
    intro hl hok
    obtain ⟨h1, h2, h3, h4⟩ := hl
    simp only [lendOK, Bool.and_eq_true, Bool.not_eq_true'] at hok
    obtain ⟨⟨hok1, hok2⟩, hok3⟩ := hok
    obtain ⟨m, hrel⟩ := ih h4 hok3
    have hA := hrel.lend (L := L) (get_mentions hok1) h1 (fun l ty n hl => by
      obtain ⟨b', hb'⟩ := lendSt_b hl
      rw [(hrel.fix l b' hb').1]
      exact h3 _ hb') (fun l => lendSt_r)
    have ht : get (lendSt rs ++ argSt 0 args) (.t i) = some (.x (.v (.pointer (some ⟨b, 0, none⟩)))) := by
      rw [get_append, upd_of_touches hok2]
      have := argSt_t args 0 i _ h2
      rwa [Nat.zero_add] at this
    have hB := hA.retm (i := i) (x := .p L 0) (y := .v (.pointer (some ⟨b, 0, none⟩))) (by
      simp only [upd]
      rw [Key.eqb_false (by simp), upd_cellsUp]
      simpa using ht) (by simp [den, setL_self])
    refine ⟨_, hB.congr fun k => ?_⟩
    simp only [lendSt, List.cons_append, get, upd, List.append_assoc, upd_append]

/-- A function that writes boxes lent to it. -/
theorem enterL {P : Program} {f : Nat} {fn : Func} {c : Code} {args : List SV} {w : World} {R : Ending → World → Prop} (hf : P.funcs[f]? = some fn) (hb : fn.body = some c) {N : Nat} (hN : fn.ntmps = N) (hn : args.length ≤ N) (bs : List Loan)
    (hl : Lend w args bs) (hok : lendOK args bs = true) (h : AW ⟨P, none, w.heap.size, w, N, [], loans bs⟩ c (lendSt bs ++ argSt 0 args) (bodyPost P fn R)) : Calls P f (denL (fun _ => 0) args).toArray w R := by
  refine (callsIn_wide (n := 0)).1 ?_
  refine callsIn_of_wp hf hb trivial ?_
  subst hN
  obtain ⟨m, hrel⟩ := rel_lend (P := P) (r := none) hn bs hl hok
  exact h _ _ _ hrel

end Go.AX
