/-
  The core, second part: how the relation between a symbolic and a concrete state is kept by writes to a temporary, by stores, by new blocks, and by calls; operations without their guards.
-/
import Derived.Test.YtgpcfckbcldokaaDoorAxA
namespace Go.AX
open Go Go.RowKit

mutual
theorem den_congr {m m' : Nat → Nat} : ∀ (x : SV), (∀ L, x.has L = true → m L = m' L) → den m x = den m' x
  | .v _, _ => rfl
  | .p L o, h => by simp only [den, h L (by simp [SV.has])]
  | .s L o n c, h => by simp only [den, h L (by simp [SV.has])]
  | .o L C n, h => by simp only [den, h L (by simp [SV.has]), h C (by simp [SV.has])]
  | .f fn fs cs, h => by simp only [den, denL_congr fs (fun L hL => h L (by simp [SV.has, hL])), denL_congr cs (fun L hL => h L (by simp [SV.has, hL]))]
  | .g cs, h => by simp only [den, denL_congr cs (fun L hL => h L (by simpa [SV.has] using hL))]
  | .t cs, h => by simp only [den, denL_congr cs (fun L hL => h L (by simpa [SV.has] using hL))]
theorem denL_congr {m m' : Nat → Nat} : ∀ (xs : List SV), (∀ L, hasL L xs = true → m L = m' L) → denL m xs = denL m' xs
  | [], _ => rfl
  | x :: xs, h => by
    simp only [denL]
    rw [den_congr x (fun L hL => h L (by simp [hasL, hL])), denL_congr xs (fun L hL => h L (by simp [hasL, hL]))]
end

def setL (m : Nat → Nat) (L b : Nat) : Nat → Nat := fun l => if l = L then b else m l

theorem setL_self (m : Nat → Nat) (L b : Nat) : setL m L b L = b := by simp [setL]
theorem setL_ne (m : Nat → Nat) {L L' : Nat} (b : Nat) (h : L' ≠ L) : setL m L b L' = m L' := by simp [setL, h]

theorem den_setL {m : Nat → Nat} {L b : Nat} {x : SV} (h : x.has L = false) : den (setL m L b) x = den m x :=
  den_congr x fun L' hL => setL_ne m b fun e => by subst e; rw [h] at hL; cases hL

theorem denL_setL {m : Nat → Nat} {L b : Nat} {xs : List SV} (h : hasL L xs = false) : denL (setL m L b) xs = denL m xs :=
  denL_congr xs fun L' hL => setL_ne m b fun e => by subst e; rw [h] at hL; cases hL

theorem denL_length (m : Nat → Nat) : ∀ xs : List SV, (denL m xs).length = xs.length
  | [] => rfl
  | _ :: xs => by simp [denL, denL_length m xs]

theorem denL_get (m : Nat → Nat) : ∀ (xs : List SV) (i : Nat), (denL m xs)[i]? = (xs[i]?).map (den m)
  | [], i => by simp [denL]
  | x :: xs, 0 => by simp [denL]
  | x :: xs, i + 1 => by simp [denL, denL_get m xs i]

def cellsUp (L : Nat) : Nat → List SV → St
  | _, [] => []
  | i, x :: xs => (.c L i, some (.x x)) :: cellsUp L (i + 1) xs

theorem upd_cellsUp (L : Nat) (g : Map) : ∀ (xs : List SV) (i : Nat) (k : Key),
    upd (cellsUp L i xs) g k = match k with
      | .c L' o => if L' = L ∧ i ≤ o ∧ o < i + xs.length then (xs[o - i]?).map Val.x else g k
      | _ => g k := by
  intro xs
  induction xs with
  | nil =>
    intro i k
    cases k <;> simp [cellsUp, upd]
    intros; omega
  | cons x xs ih =>
    intro i k
    simp only [cellsUp, upd]
    rw [ih]
    cases k with
    | t j => rfl
    | b l => rfl
    | r l => rfl
    | c L' o =>
      by_cases e : Key.c L i = Key.c L' o
      · cases e
        simp [Key.eqb]
      · rw [Key.eqb_false e, cond_false]
        simp only [List.length_cons]
        by_cases hL : L' = L
        · subst hL
          have hne : o ≠ i := fun h => e (by rw [h])
          by_cases ho : i + 1 ≤ o ∧ o < i + 1 + xs.length
          · rw [if_pos ⟨rfl, ho.1, ho.2⟩, if_pos ⟨rfl, by omega, by omega⟩]
            rw [show o - i = (o - (i + 1)) + 1 by omega, List.getElem?_cons_succ]
          · rw [if_neg (fun h => ho ⟨h.2.1, h.2.2⟩), if_neg (fun h => ho ⟨by omega, by omega⟩)]
        · rw [if_neg (fun h => hL h.1), if_neg (fun h => hL h.1)]

section
variable {cx : Cx} {m : Nat → Nat} {g : Map} {a : Act} {w : World}

theorem get_put {a : Act} {d i : Nat} {v : Value} (hd : d < a.tmps.size) : (a.put (some d) v).tmps[i]? = if d = i then some v else a.tmps[i]? := by
  simp only [Act.put]
  rw [Array.getElem?_setIfInBounds]
  by_cases e : d = i
  · subst e; simp [hd]
  · simp [e]

theorem upd_one {k k' : Key} {v : Option Val} : upd [(k, v)] g k' = if k = k' then v else g k' := by
  simp only [upd]
  by_cases e : k = k'
  · subst e; simp [Key.eqb_self]
  · simp [Key.eqb_false e, e]

theorem Rel.put {d : Nat} {x : SV} {v : Value} (h : Rel cx m g a w) (hN : d < cx.N) (hv : v = den m x) : Rel cx m (upd [(.t d, some (.x x))] g) (a.put (some d) v) w := by
  have hsz : d < a.tmps.size := by rw [h.size]; exact hN
  refine ⟨by simp [Act.put, h.size], by simp [Act.put, h.defers], fun i y hy => ?_, fun i b y hy => ?_, fun L ty n hL => ?_, fun L o y hy => ?_, fun L o y hy => ?_, fun L L' ty n ty' n' h1 h2 => ?_, fun L own C ty k cs hx => ?_, fun L own C ty k cs L' ty' n' hx hy => ?_, fun L C ty k cs L' own' C' ty' k' cs' hx hy => ?_, fun L C ty k cs hx => ?_, h.held, h.top, fun L b hb => by obtain ⟨h1, ty, n, h2⟩ := h.fix L b hb; exact ⟨h1, ty, n, by rw [upd_one, if_neg (by simp)]; exact h2⟩⟩
  · rw [upd_one] at hy
    rw [get_put hsz]
    by_cases e : d = i
    · subst e; simp at hy; subst hy; simp [hv]
    · rw [if_neg (by simpa using e)] at hy; rw [if_neg e]; exact h.tm i y hy
  · rw [upd_one] at hy
    rw [get_put hsz]
    by_cases e : d = i
    · subst e; simp at hy
    · rw [if_neg (by simpa using e)] at hy; rw [if_neg e]; exact h.tmc i b y hy
  · rw [upd_one, if_neg (by simp)] at hL; exact h.blk L ty n hL
  · rw [upd_one, if_neg (by simp)] at hy; exact h.cell L o y hy
  · rw [upd_one, if_neg (by simp)] at hy
    obtain ⟨ty, n, hL⟩ := h.own L o y hy
    exact ⟨ty, n, by rw [upd_one, if_neg (by simp)]; exact hL⟩
  · rw [upd_one, if_neg (by simp)] at h1 h2; exact h.inj L L' ty n ty' n' h1 h2
  · rw [upd_one, if_neg (by simp)] at hx; exact h.vec L own C ty k cs hx
  · rw [upd_one, if_neg (by simp)] at hx hy; exact h.sep L own C ty k cs L' ty' n' hx hy
  · rw [upd_one, if_neg (by simp)] at hx hy; exact h.sepR L C ty k cs L' own' C' ty' k' cs' hx hy
  · rw [upd_one, if_neg (by simp)] at hx; exact h.ownR L C ty k cs hx

theorem Rel.putC {d : Nat} {x : SV} {b : Bool} {v : Value} (h : Rel cx m g a w) (hN : d < cx.N) (hv : v = cond b (den m x) undef) : Rel cx m (upd [(.t d, some (.xc b x))] g) (a.put (some d) v) w := by
  have hsz : d < a.tmps.size := by rw [h.size]; exact hN
  refine ⟨by simp [Act.put, h.size], by simp [Act.put, h.defers], fun i y hy => ?_, fun i b y hy => ?_, fun L ty n hL => ?_, fun L o y hy => ?_, fun L o y hy => ?_, fun L L' ty n ty' n' h1 h2 => ?_, fun L own C ty k cs hx => ?_, fun L own C ty k cs L' ty' n' hx hy => ?_, fun L C ty k cs L' own' C' ty' k' cs' hx hy => ?_, fun L C ty k cs hx => ?_, h.held, h.top, fun L b hb => by obtain ⟨h1, ty, n, h2⟩ := h.fix L b hb; exact ⟨h1, ty, n, by rw [upd_one, if_neg (by simp)]; exact h2⟩⟩
  · rw [upd_one] at hy
    rw [get_put hsz]
    by_cases e : d = i
    · subst e; simp at hy
    · rw [if_neg (by simpa using e)] at hy; rw [if_neg e]; exact h.tm i y hy
  · rw [upd_one] at hy
    rw [get_put hsz]
    by_cases e : d = i
    · subst e; simp at hy; obtain ⟨rfl, rfl⟩ := hy; simp [hv]
    · rw [if_neg (by simpa using e)] at hy; rw [if_neg e]; exact h.tmc i b y hy
  · rw [upd_one, if_neg (by simp)] at hL; exact h.blk L ty n hL
  · rw [upd_one, if_neg (by simp)] at hy; exact h.cell L o y hy
  · rw [upd_one, if_neg (by simp)] at hy
    obtain ⟨ty, n, hL⟩ := h.own L o y hy
    exact ⟨ty, n, by rw [upd_one, if_neg (by simp)]; exact hL⟩
  · rw [upd_one, if_neg (by simp)] at h1 h2; exact h.inj L L' ty n ty' n' h1 h2
  · rw [upd_one, if_neg (by simp)] at hx; exact h.vec L own C ty k cs hx
  · rw [upd_one, if_neg (by simp)] at hx hy; exact h.sep L own C ty k cs L' ty' n' hx hy
  · rw [upd_one, if_neg (by simp)] at hx hy; exact h.sepR L C ty k cs L' own' C' ty' k' cs' hx hy
  · rw [upd_one, if_neg (by simp)] at hx; exact h.ownR L C ty k cs hx

theorem Rel.putNone {d : Nat} {v : Value} (h : Rel cx m g a w) (hN : d < cx.N) : Rel cx m (upd [(.t d, none)] g) (a.put (some d) v) w := by
  have hsz : d < a.tmps.size := by rw [h.size]; exact hN
  refine ⟨by simp [Act.put, h.size], by simp [Act.put, h.defers], fun i y hy => ?_, fun i b y hy => ?_, fun L ty n hL => ?_, fun L o y hy => ?_, fun L o y hy => ?_, fun L L' ty n ty' n' h1 h2 => ?_, fun L own C ty k cs hx => ?_, fun L own C ty k cs L' ty' n' hx hy => ?_, fun L C ty k cs L' own' C' ty' k' cs' hx hy => ?_, fun L C ty k cs hx => ?_, h.held, h.top, fun L b hb => by obtain ⟨h1, ty, n, h2⟩ := h.fix L b hb; exact ⟨h1, ty, n, by rw [upd_one, if_neg (by simp)]; exact h2⟩⟩
  · rw [upd_one] at hy
    rw [get_put hsz]
    by_cases e : d = i
    · subst e; simp at hy
    · rw [if_neg (by simpa using e)] at hy; rw [if_neg e]; exact h.tm i y hy
  · rw [upd_one] at hy
    rw [get_put hsz]
    by_cases e : d = i
    · subst e; simp at hy
    · rw [if_neg (by simpa using e)] at hy; rw [if_neg e]; exact h.tmc i b y hy
  · rw [upd_one, if_neg (by simp)] at hL; exact h.blk L ty n hL
  · rw [upd_one, if_neg (by simp)] at hy; exact h.cell L o y hy
  · rw [upd_one, if_neg (by simp)] at hy
    obtain ⟨ty, n, hL⟩ := h.own L o y hy
    exact ⟨ty, n, by rw [upd_one, if_neg (by simp)]; exact hL⟩
  · rw [upd_one, if_neg (by simp)] at h1 h2; exact h.inj L L' ty n ty' n' h1 h2
  · rw [upd_one, if_neg (by simp)] at hx; exact h.vec L own C ty k cs hx
  · rw [upd_one, if_neg (by simp)] at hx hy; exact h.sep L own C ty k cs L' ty' n' hx hy
  · rw [upd_one, if_neg (by simp)] at hx hy; exact h.sepR L C ty k cs L' own' C' ty' k' cs' hx hy
  · rw [upd_one, if_neg (by simp)] at hx; exact h.ownR L C ty k cs hx

/-- The world has changed in nothing that lay in it. -/
theorem Rel.world {w' : World} (h : Rel cx m g a w) (hb : Below w.heap.size w w') : Rel cx m g a w' := by
  refine ⟨h.size, h.defers, h.tm, h.tmc, fun L ty n hL => ?_, fun L o y hy => ?_, h.own, h.inj, fun L own C ty k cs hx => ?_, h.sep, h.sepR, h.ownR, h.held.world hb h.top, Nat.le_trans h.top hb.size, h.fix⟩
  · obtain ⟨h1, cs, h2, h3⟩ := h.blk L ty n hL
    refine ⟨h1, cs, h2, ?_⟩
    rw [hb.block _ (Array.getElem?_eq_some_iff.1 h3).1]; exact h3
  · obtain ⟨ty, n, hL⟩ := h.own L o y hy
    obtain ⟨h1, cs, h2, h3⟩ := h.blk L ty n hL
    rw [hb.cell (p := ⟨m L, o, none⟩) (Array.getElem?_eq_some_iff.1 h3).1]
    exact h.cell L o y hy
  · have := h.vec L own C ty k cs hx
    exact this.same fun hc => hb.block _ (this.lt hc)

theorem Rel.weaken {g' : Map} (h : Rel cx m g a w) (hs : ∀ k, g' k = none ∨ g' k = g k) (hb : ∀ L o, g' (.c L o) ≠ none → g' (.b L) = g (.b L)) (hf : ∀ L b, (L, b) ∈ cx.bor → g' (.b L) = g (.b L)) : Rel cx m g' a w := by
  have e : ∀ {k v}, g' k = some v → g k = some v := fun {k v} hk => by
    rcases hs k with h0 | h0
    · rw [h0] at hk; cases hk
    · rw [← h0]; exact hk
  refine ⟨h.size, h.defers, fun i x hx => h.tm i x (e hx), fun i b x hx => h.tmc i b x (e hx), fun L ty n hL => h.blk L ty n (e hL), fun L o x hx => h.cell L o x (e hx), fun L o x hx => ?_,
    fun L L' ty n ty' n' h1 h2 => h.inj L L' ty n ty' n' (e h1) (e h2), fun L own C ty k cs hx => h.vec L own C ty k cs (e hx), fun L own C ty k cs L' ty' n' hx hy => h.sep L own C ty k cs L' ty' n' (e hx) (e hy),
    fun L C ty k cs L' own' C' ty' k' cs' hx hy => h.sepR L C ty k cs L' own' C' ty' k' cs' (e hx) (e hy), fun L C ty k cs hx => h.ownR L C ty k cs (e hx), h.held, h.top, fun L b hb => by obtain ⟨h1, ty, n, h2⟩ := h.fix L b hb; exact ⟨h1, ty, n, by rw [hf L b hb]; exact h2⟩⟩
  obtain ⟨ty, n, hL⟩ := h.own L o x (e hx)
  exact ⟨ty, n, by rw [hb L o (by rw [hx]; simp)]; exact hL⟩

theorem cell_setCell {o o' : Nat} {b b' : Nat} {cs : Array Value} {ty : TypeId} {v : Value} (h : w.heap[b]? = some (.cells cs ty (0, 0))) (ho : o < cs.size) :
    (w.setCell ⟨b, o, none⟩ v).cell? ⟨b', o', none⟩ = if b = b' ∧ o = o' then some v else w.cell? ⟨b', o', none⟩ := by
  simp only [World.cell?, World.setCell, Array.getElem?_modify]
  by_cases e : b = b'
  · subst e
    simp only [h, if_true, Option.map_some, Option.isSome_none, Bool.false_eq_true, if_false, true_and]
    rw [Array.getElem?_setIfInBounds]
    by_cases e' : o = o'
    · subst e'; simp [ho]
    · simp [e']
  · simp [e]

theorem block_setCell {o : Nat} {b b' : Nat} {cs cs' : Array Value} {ty ty' : TypeId} {v : Value} (h : w.heap[b]? = some (.cells cs ty (0, 0))) (h' : w.heap[b']? = some (.cells cs' ty' (0, 0))) :
    ∃ cs'' : Array Value, cs''.size = cs'.size ∧ (w.setCell ⟨b, o, none⟩ v).heap[b']? = some (.cells cs'' ty' (0, 0)) := by
  simp only [World.setCell, Array.getElem?_modify]
  by_cases e : b = b'
  · subst e
    rw [h] at h'; cases h'
    exact ⟨cs.setIfInBounds o v, by simp, by simp [h]⟩
  · exact ⟨cs', rfl, by simp [e, h']⟩

theorem Rel.setCell {L o n : Nat} {ty : TypeId} {x : SV} (h : Rel cx m g a w) (hb : g (.b L) = some (.sh ty n)) (ho : o < n) :
    Rel cx m (upd [(.c L o, some (.x x))] g) a (w.setCell ⟨m L, o, none⟩ (den m x)) := by
  obtain ⟨hB, cs, hsz, hh⟩ := h.blk L ty n hb
  refine ⟨h.size, h.defers, fun i y hy => ?_, fun i b y hy => ?_, fun L' ty' n' hL => ?_, fun L' o' y hy => ?_, fun L' o' y hy => ?_, fun L1 L2 ty1 n1 ty2 n2 h1 h2 => ?_, fun L1 own C ty1 k cs1 hx => ?_, fun L1 own C ty1 k cs1 L' ty' n' hx hy => ?_, fun L1 C ty1 k cs1 L' own' C' ty' k' cs' hx hy => ?_, fun L1 C ty1 k cs1 hx => ?_, ?_, ?_, fun L b hb => by obtain ⟨h1, ty, n, h2⟩ := h.fix L b hb; exact ⟨h1, ty, n, by rw [upd_one, if_neg (by simp)]; exact h2⟩⟩
  · rw [upd_one, if_neg (by simp)] at hy; exact h.tm i y hy
  · rw [upd_one, if_neg (by simp)] at hy; exact h.tmc i b y hy
  · rw [upd_one, if_neg (by simp)] at hL
    obtain ⟨h1, cs', h2, h3⟩ := h.blk L' ty' n' hL
    obtain ⟨cs'', h4, h5⟩ := block_setCell (o := o) (v := den m x) hh h3
    exact ⟨h1, cs'', by rw [h4]; exact h2, h5⟩
  · rw [cell_setCell hh (by omega)]
    rw [upd_one] at hy
    by_cases e : Key.c L o = Key.c L' o'
    · rw [if_pos e] at hy
      cases e; cases hy
      simp
    · rw [if_neg e] at hy
      obtain ⟨ty', n', hL'⟩ := h.own L' o' y hy
      rw [if_neg]
      · exact h.cell L' o' y hy
      · rintro ⟨e1, rfl⟩
        exact e (by rw [h.inj L L' ty n ty' n' hb hL' e1])
  · rw [upd_one] at hy
    by_cases e : Key.c L o = Key.c L' o'
    · cases e
      exact ⟨ty, n, by rw [upd_one, if_neg (by simp)]; exact hb⟩
    · rw [if_neg e] at hy
      obtain ⟨ty', n', hL'⟩ := h.own L' o' y hy
      exact ⟨ty', n', by rw [upd_one, if_neg (by simp)]; exact hL'⟩
  · rw [upd_one, if_neg (by simp)] at h1 h2; exact h.inj L1 L2 ty1 n1 ty2 n2 h1 h2
  · rw [upd_one, if_neg (by simp)] at hx
    refine (h.vec L1 own C ty1 k cs1 hx).same fun hc => ?_
    exact Below.heap_setCell _ _ _ _ (h.sep L1 own C ty1 k cs1 L ty n hx hb hc)
  · rw [upd_one, if_neg (by simp)] at hx hy; exact h.sep L1 own C ty1 k cs1 L' ty' n' hx hy
  · rw [upd_one, if_neg (by simp)] at hx hy; exact h.sepR L1 C ty1 k cs1 L' own' C' ty' k' cs' hx hy
  · rw [upd_one, if_neg (by simp)] at hx; exact h.ownR L1 C ty1 k cs1 hx
  · exact h.held.setCell (p := ⟨m L, o, none⟩) hB _
  · simpa [World.setCell] using h.top

theorem mentions_x {L : Nat} {k : Key} {x : SV} {b : Bool} : (mentions L k (some (.x x)) = false → x.has L = false) ∧ (mentions L k (some (.xc b x)) = false → x.has L = false) := by
  constructor <;> intro h <;> simp only [mentions, Bool.or_eq_false_iff] at h <;> exact h.1

theorem Rel.alloc {L : Nat} {ty : TypeId} {cs : List SV} {cells : Array Value} (h : Rel cx m g a w) (hf : ∀ k, mentions L k (g k) = false) (hL : hasL L cs = false)
    (hc : cells = (denL m cs).toArray) :
    Rel cx (setL m L w.heap.size) (upd ((.b L, some (.sh ty cs.length)) :: cellsUp L 0 cs) g) a (w.alloc (.cells cells ty)) := by
  have hB : ∀ l, l < w.heap.size → (w.alloc (.cells cells ty)).heap[l]? = w.heap[l]? := fun l hl => Below.heap_alloc _ _ _ hl
  have hnew : (w.alloc (.cells cells ty)).heap[w.heap.size]? = some (.cells cells ty (0, 0)) := by
    show (w.heap.push _)[w.heap.size]? = _
    simp
  have hx : ∀ {k x}, g k = some (.x x) → den (setL m L w.heap.size) x = den m x := fun {k x} hk => den_setL (by have := hf k; rw [hk] at this; exact (mentions_x (b := true)).1 this)
  have hxc : ∀ {k b x}, g k = some (.xc b x) → den (setL m L w.heap.size) x = den m x := fun {k b x} hk => den_setL (by have := hf k; rw [hk] at this; exact (mentions_x (b := b)).2 this)
  have hgb : ∀ {L' ty' n'}, g (.b L') = some (.sh ty' n') → L' ≠ L := fun {L' ty' n'} hk e => by
    have := hf (.b L'); rw [hk] at this; simp [mentions, e] at this
  have hgr : ∀ {L' own C ty' k cs'}, g (.r L') = some (.vec own C ty' k cs') → L' ≠ L ∧ C ≠ L := fun {L' own C ty' k cs'} hk => by
    have := hf (.r L')
    rw [hk] at this
    simp only [mentions, Bool.or_eq_false_iff] at this
    exact ⟨fun e => by subst e; simp at this, fun e => by subst e; simp at this⟩
  have key : ∀ k, upd ((.b L, some (.sh ty cs.length)) :: cellsUp L 0 cs) g k = match k with
      | .b L' => if L' = L then some (.sh ty cs.length) else g k
      | .c L' o => if L' = L ∧ o < cs.length then (cs[o]?).map Val.x else g k
      | _ => g k := by
    intro k
    simp only [upd]
    rw [upd_cellsUp]
    cases k with
    | t i => rfl
    | b L' =>
      by_cases e : L' = L
      · subst e; simp [Key.eqb]
      · have : Key.eqb (.b L) (.b L') = false := Key.eqb_false (by simpa using Ne.symm e)
        simp [this, e]
    | c L' o => simp [Key.eqb]
    | r L' => simp [Key.eqb]
  refine ⟨h.size, h.defers, fun i y hy => ?_, fun i b y hy => ?_, fun L' ty' n' hL' => ?_, fun L' o' y hy => ?_, fun L' o' y hy => ?_, fun L1 L2 ty1 n1 ty2 n2 h1 h2 he => ?_, fun L1 own C ty1 k cs1 hx => ?_, fun L1 own C ty1 k cs1 L' ty' n' hx hy hc => ?_, fun L1 C ty1 k cs1 L' own' C' ty' k' cs' hx hy hne hc hc' => ?_, fun L1 C ty1 k cs1 hx hc => ?_, ?_, ?_, fun L1 b hb => ?_⟩
  · rw [key] at hy; rw [hx hy]; exact h.tm i y hy
  · rw [key] at hy; rw [hxc hy]; exact h.tmc i b y hy
  · rw [key] at hL'
    by_cases e : L' = L
    · subst e
      simp only [if_true, Option.some.injEq, Val.sh.injEq] at hL'
      obtain ⟨rfl, rfl⟩ := hL'
      rw [setL_self]
      exact ⟨.inl h.top, cells, by rw [hc]; simp [denL_length], hnew⟩
    · simp only [e, if_false] at hL'
      obtain ⟨h1, cs', h2, h3⟩ := h.blk L' ty' n' hL'
      rw [setL_ne _ _ e]
      exact ⟨h1, cs', h2, by rw [hB _ (Array.getElem?_eq_some_iff.1 h3).1]; exact h3⟩
  · rw [key] at hy
    by_cases e : L' = L
    · subst e
      by_cases ho : o' < cs.length
      · simp only [ho, and_self, if_true] at hy
        have hget : cs[o']? = some cs[o'] := List.getElem?_eq_getElem ho
        rw [hget] at hy
        simp only [Option.map_some, Option.some.injEq, Val.x.injEq] at hy
        subst hy
        have hl : cs[o'].has L' = false := by
          have : ∀ (l : List SV), hasL L' l = false → ∀ x ∈ l, x.has L' = false := by
            intro l
            induction l with
            | nil => intro _ x hx; cases hx
            | cons z l ih =>
              intro hz x hx
              simp only [hasL, Bool.or_eq_false_iff] at hz
              cases hx with
              | head => exact hz.1
              | tail _ hx => exact ih hz.2 x hx
          exact this cs hL _ (List.getElem_mem ho)
        rw [den_setL hl, setL_self]
        have hcell : cells[o']? = some (den m cs[o']) := by
          rw [hc, List.getElem?_toArray, denL_get, hget, Option.map_some]
        simp only [World.cell?, hnew, Option.isSome_none, Bool.false_eq_true, if_false, hcell]
      · simp only [ho, and_false, if_false] at hy
        obtain ⟨ty', n', hL'⟩ := h.own L' o' y hy
        exact absurd rfl (hgb hL')
    · simp only [e, false_and, if_false] at hy
      obtain ⟨ty', n', hL'⟩ := h.own L' o' y hy
      obtain ⟨h1, cs', h2, h3⟩ := h.blk L' ty' n' hL'
      rw [hx hy, setL_ne _ _ e]
      have := h.cell L' o' y hy
      simp only [World.cell?] at this ⊢
      rw [hB _ (Array.getElem?_eq_some_iff.1 h3).1]
      exact this
  · rw [key] at hy
    by_cases e : L' = L
    · subst e
      exact ⟨ty, cs.length, by rw [key]; simp⟩
    · simp only [e, false_and, if_false] at hy
      obtain ⟨ty', n', hL'⟩ := h.own L' o' y hy
      exact ⟨ty', n', by rw [key]; simp [e, hL']⟩
  · rw [key] at h1 h2
    have old : ∀ {l ty' n'}, g (.b l) = some (.sh ty' n') → m l < w.heap.size := fun {l ty' n'} hl => by
      obtain ⟨_, cs', _, h3⟩ := h.blk l ty' n' hl
      exact (Array.getElem?_eq_some_iff.1 h3).1
    by_cases e1 : L1 = L <;> by_cases e2 : L2 = L
    · rw [e1, e2]
    · subst e1
      simp only [e2, if_false] at h2
      have := old h2
      rw [setL_self, setL_ne _ _ e2] at he
      omega
    · subst e2
      simp only [e1, if_false] at h1
      have := old h1
      rw [setL_self, setL_ne _ _ e1] at he
      omega
    · simp only [e1, e2, if_false] at h1 h2
      rw [setL_ne _ _ e1, setL_ne _ _ e2] at he
      exact h.inj L1 L2 _ _ _ _ h1 h2 he
  · rw [key] at hx
    obtain ⟨e1, e2⟩ := hgr hx
    rw [setL_ne _ _ e1, setL_ne _ _ e2]
    have := h.vec L1 own C ty1 k cs1 hx
    exact this.same fun hc => hB _ (this.lt hc)
  · rw [key] at hx hy
    obtain ⟨e1, e2⟩ := hgr hx
    rw [setL_ne _ _ e2] at hc
    rw [setL_ne _ _ e1]
    have hlt := (h.vec L1 own C ty1 k cs1 hx).lt hc
    by_cases e : L' = L
    · subst e; rw [setL_self]; omega
    · simp only [e, if_false] at hy
      rw [setL_ne _ _ e]
      exact h.sep L1 own C ty1 k cs1 L' ty' n' hx hy hc
  · rw [key] at hx hy
    obtain ⟨e1, e2⟩ := hgr hx
    obtain ⟨e3, e4⟩ := hgr hy
    rw [setL_ne _ _ e2] at hc
    rw [setL_ne _ _ e4] at hc'
    rw [setL_ne _ _ e1, setL_ne _ _ e3]
    exact h.sepR L1 C ty1 k cs1 L' own' C' ty' k' cs' hx hy hne hc hc'
  · rw [key] at hx
    obtain ⟨e1, e2⟩ := hgr hx
    rw [setL_ne _ _ e2] at hc
    rw [setL_ne _ _ e1]
    exact h.ownR L1 C ty1 k cs1 hx hc
  · exact h.held.alloc h.top _
  · have := h.top
    show cx.B ≤ (w.heap.push _).size
    simp only [Array.size_push]
    omega
  · obtain ⟨h1, ty1, n1, h2⟩ := h.fix L1 b hb
    have hne := hgb h2
    exact ⟨by rw [setL_ne _ _ hne]; exact h1, ty1, n1, by rw [key]; simp only [hne, if_false]; exact h2⟩

end
end Go.AX
