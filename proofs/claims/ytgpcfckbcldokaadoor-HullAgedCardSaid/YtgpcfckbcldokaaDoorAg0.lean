/-
  This file has what the walks are built on: a symbolic state of one activation, and plain functions. Conditions: those that each theorem names.
-/
import Derived.Below
import Derived.IntWalk
import Derived.Laws.AppendOwn
import Derived.Laws.Sem
import Derived.LoopNIn
import Derived.OrdersIn
import Derived.RangeFuncCalls
import Derived.RangeFuncLeaves
import Derived.Shelf.Abstract
/-
  The core: a symbolic state of one activation (its temporaries and the boxes it has laid, by labels), and the theorem that a region of operations
  comes to the same symbolic state in whatever order its edges allow.
-/
namespace Go.AX
open Go Go.RowKit
theorem beq_ne {a b : Nat} (h : a ≠ b) : Nat.beq a b = false := by
  cases e : Nat.beq a b with
  | false => rfl
  | true => exact absurd (Nat.eq_of_beq_eq_true e) h
inductive SV where
  | v (x : Value)
  | p (L off : Nat)
  | s (L off len cap : Nat)
  | o (L C n : Nat)
  | q (L C lo n k : Nat)
  | f (fn : Fn) (fst cap : List SV)
  | g (cs : List SV)
  | t (cs : List SV)
  deriving Inhabited
def ptr0 (b c : Nat) : Option Addr := if c = 0 then (match b with | 0 => none | b + 1 => some ⟨b, 0, none⟩) else some ⟨b, 0, none⟩
theorem ptr0_ne {b c : Nat} (h : c ≠ 0) : ptr0 b c = some ⟨b, 0, none⟩ := if_neg h
theorem ptr0_nil : ptr0 0 0 = none := rfl
theorem ptr0_cases (b : Nat) : ptr0 b 0 = none ∨ ∃ b', ptr0 b 0 = some ⟨b', 0, none⟩ := by
  cases b with
  | zero => exact .inl rfl
  | succ b => exact .inr ⟨b, rfl⟩
def ptrq (b c lo k : Nat) : Option Addr := if c = lo then ptr0 b c else (ptr0 b c).map (·.add (lo * k))
mutual
def den (m : Nat → Nat) : SV → Value
  | .v x => x
  | .p L o => .pointer (some ⟨m L, o, none⟩)
  | .s L o n c => .slice (some ⟨m L, o, none⟩) n c
  | .o L C n => .slice (ptr0 (m L) (m C)) n (m C)
  | .q L C lo n k => .slice (ptrq (m L) (m C) lo k) n (m C - lo)
  | .f fn fs cs => .func fn (denL m fs).toArray (denL m cs).toArray
  | .g cs => .agg (denL m cs).toArray
  | .t cs => .tuple (denL m cs).toArray
def denL (m : Nat → Nat) : List SV → List Value
  | [] => []
  | x :: xs => den m x :: denL m xs
end
mutual
def SV.has (L : Nat) : SV → Bool
  | .v _ => false
  | .p L' _ => Nat.beq L' L
  | .s L' _ _ _ => Nat.beq L' L
  | .o L' C _ => Nat.beq L' L || Nat.beq C L
  | .q L' C _ _ _ => Nat.beq L' L || Nat.beq C L
  | .f _ fs cs => hasL L fs || hasL L cs
  | .g cs => hasL L cs
  | .t cs => hasL L cs
def hasL (L : Nat) : List SV → Bool
  | [] => false
  | x :: xs => x.has L || hasL L xs
end
inductive Key where
  | t (i : Nat)
  | c (L o : Nat)
  | b (L : Nat)
  | r (L : Nat)
  | u (l i : Nat)
  | a
  deriving Inhabited, DecidableEq
def Key.eqb : Key → Key → Bool
  | .t i, .t j => Nat.beq i j
  | .c L o, .c L' o' => Nat.beq L L' && Nat.beq o o'
  | .b L, .b L' => Nat.beq L L'
  | .r L, .r L' => Nat.beq L L'
  | .u l i, .u l' i' => Nat.beq l l' && Nat.beq i i'
  | .a, .a => true
  | _, _ => false
theorem Key.eqb_iff {k k' : Key} : k.eqb k' = true ↔ k = k' := by
  cases k <;> cases k' <;> simp [Key.eqb]
theorem Key.eqb_self (k : Key) : k.eqb k = true := Key.eqb_iff.2 rfl
theorem Key.eqb_false {k k' : Key} (h : k ≠ k') : k.eqb k' = false := by
  cases e : k.eqb k' with
  | false => rfl
  | true => exact absurd (Key.eqb_iff.1 e) h
inductive Val where
  | x (s : SV)
  | xc (b : Bool) (s : SV)
  | sh (ty n : Nat)
  | vec (own : Bool) (C ty k : Nat) (cs : List Value)
  deriving Inhabited
abbrev St := List (Key × Option Val)
abbrev Map := Key → Option Val
def upd : St → Map → Map
  | [], g, k => g k
  | (k', v) :: r, g, k => bif k'.eqb k then v else upd r g k
def get (s : St) : Map := upd s (fun _ => none)
theorem upd_append (u s : St) (g : Map) : upd (u ++ s) g = upd u (upd s g) := by
  funext k
  induction u with
  | nil => rfl
  | cons x r ih => simp only [List.cons_append, upd, ih]
theorem get_append (u s : St) : get (u ++ s) = upd u (get s) := upd_append u s _
def touches (k : Key) : St → Bool
  | [] => false
  | (k', _) :: r => k'.eqb k || touches k r
theorem upd_of_touches {u : St} {k : Key} (h : touches k u = false) (g : Map) : upd u g k = g k := by
  induction u with
  | nil => rfl
  | cons x r ih =>
    simp only [touches, Bool.or_eq_false_iff] at h
    simp only [upd, h.1, cond_false]
    exact ih h.2
theorem upd_congr {u : St} {k : Key} (h : touches k u = true) (g g' : Map) : upd u g k = upd u g' k := by
  induction u with
  | nil => simp [touches] at h
  | cons x r ih =>
    simp only [touches] at h
    simp only [upd]
    cases e : x.1.eqb k with
    | true => rfl
    | false => rw [e, Bool.false_or] at h; simp only [cond_false]; exact ih h
def mentions (L : Nat) (k : Key) (v : Option Val) : Bool :=
  match v with
  | none => false
  | some (.x s) => s.has L || (match k with | .c L' _ => Nat.beq L' L | _ => false)
  | some (.xc _ s) => s.has L || (match k with | .c L' _ => Nat.beq L' L | _ => false)
  | some (.sh _ _) => (match k with | .b L' => Nat.beq L' L | _ => true)
  | some (.vec _ C _ _ _) => Nat.beq C L || (match k with | .r L' => Nat.beq L' L | _ => true)
def mentionsIn (L : Nat) : St → Bool
  | [] => false
  | (k, v) :: r => mentions L k v || mentionsIn L r
theorem mentions_upd {L : Nat} {u : St} (h : mentionsIn L u = false) {g : Map} {k : Key} (hg : mentions L k (g k) = false) : mentions L k (upd u g k) = false := by
  induction u with
  | nil => exact hg
  | cons x r ih =>
    simp only [mentionsIn, Bool.or_eq_false_iff] at h
    simp only [upd]
    cases e : x.1.eqb k with
    | true => rw [← Key.eqb_iff.1 e]; exact h.1
    | false => exact ih h.2
structure Row where
  rd : List Key
  up : St
  nw : List Nat
  deriving Inhabited
def Row.reads (row : Row) (k : Key) : Bool := row.rd.any fun q => q.eqb k || q.eqb .a
/-! ### The state that a set of rows has made -/
def app : List Row → Nat → (Nat → Bool) → Map → Map
  | [], _, _, g => g
  | row :: rs, i, D, g => app rs (i + 1) D (cond (D i) (upd row.up g) g)
theorem app_congr : ∀ (rows : List Row) (i : Nat) (D D' : Nat → Bool) (g g' : Map) (k : Key), g k = g' k →
    (∀ j (row : Row), rows[j]? = some row → touches k row.up = true → D (i + j) = D' (i + j)) → app rows i D g k = app rows i D' g' k := by
  intro rows
  induction rows with
  | nil => intro i D D' g g' k hg _; exact hg
  | cons row rs ih =>
    intro i D D' g g' k hg h
    simp only [app]
    refine ih (i + 1) D D' _ _ k ?_ (fun j r hr ht => ?_)
    · cases ht : touches k row.up with
      | true =>
        have := h 0 row rfl ht
        simp only [Nat.add_zero] at this
        rw [this]
        cases D' i with
        | true => exact upd_congr ht _ _
        | false => exact hg
      | false =>
        have e1 : (cond (D i) (upd row.up g) g) k = g k := by
          cases D i
          · rfl
          · exact upd_of_touches ht g
        have e2 : (cond (D' i) (upd row.up g') g') k = g' k := by
          cases D' i
          · rfl
          · exact upd_of_touches ht g'
        rw [e1, e2]; exact hg
    · have := h (j + 1) r (by simpa using hr) ht
      rw [show i + 1 + j = i + (j + 1) by omega]; exact this
theorem app_untouched : ∀ (rows : List Row) (i : Nat) (D : Nat → Bool) (g : Map) (k : Key),
    (∀ j (row : Row), rows[j]? = some row → D (i + j) = true → touches k row.up = false) → app rows i D g k = g k := by
  intro rows
  induction rows with
  | nil => intros; rfl
  | cons row rs ih =>
    intro i D g k h
    simp only [app]
    rw [ih (i + 1) D _ k (fun j r hr hd => h (j + 1) r (by simpa using hr) (by rw [show i + (j + 1) = i + 1 + j by omega]; exact hd))]
    cases hD : D i with
    | true => exact upd_of_touches (h 0 row rfl (by simpa using hD)) g
    | false => rfl
theorem app_mentions : ∀ (rows : List Row) (i : Nat) (D : Nat → Bool) (g : Map) (k : Key) (L : Nat), mentions L k (g k) = false →
    (∀ j (row : Row), rows[j]? = some row → D (i + j) = true → mentionsIn L row.up = false) → mentions L k (app rows i D g k) = false := by
  intro rows
  induction rows with
  | nil => intro i D g k L hg _; exact hg
  | cons row rs ih =>
    intro i D g k L hg h
    simp only [app]
    refine ih (i + 1) D _ k L ?_ (fun j r hr hd => h (j + 1) r (by simpa using hr) (by rw [show i + (j + 1) = i + 1 + j by omega]; exact hd))
    cases hD : D i with
    | true => exact mentions_upd (h 0 row rfl (by simpa using hD)) hg
    | false => exact hg
theorem app_all : ∀ (rows : List Row) (i : Nat) (D : Nat → Bool) (s : St), (∀ j, j < rows.length → D (i + j) = true) →
    app rows i D (get s) = get (rows.foldl (fun s r => r.up ++ s) s) := by
  intro rows
  induction rows with
  | nil => intros; rfl
  | cons row rs ih =>
    intro i D s h
    have h0 : D i = true := by simpa using h 0 (by simp)
    simp only [app, h0, cond_true, List.foldl_cons, ← get_append]
    exact ih (i + 1) D _ (fun j hj => by have := h (j + 1) (by simp; omega); rw [show i + 1 + j = i + (j + 1) by omega]; exact this)
/-! ### What a concrete state must be to be one of a symbolic state -/
structure Cx where
  P : Program
  r : Option Nat
  B : Nat
  w0 : World
  N : Nat
  ds : Bool
  bor : List (Nat × Nat)
  sus : Nat → Array Value
  kob : List (Nat × Obj)
def Cx.F (cx : Cx) : Fence := { fn := fun _ => True, depth := none, alive := false, round := cx.r }
def VecAt (b c ty k : Nat) (cs : List Value) (w : World) : Prop :=
  (c = 0 ∧ cs = []) ∨ (c ≠ 0 ∧ ∃ cur : Array Value, w.heap[b]? = some (.cells cur ty (0, 0)) ∧ cur.size = c * k ∧ ∀ (i : Nat) (v : Value), cs[i]? = some v → cur[i]? = some v)
theorem VecAt.lt {b c ty k : Nat} {cs : List Value} {w : World} (h : VecAt b c ty k cs w) (hc : c ≠ 0) : b < w.heap.size := by
  rcases h with ⟨h, _⟩ | ⟨_, cur, h, _⟩
  · exact absurd h hc
  · exact (Array.getElem?_eq_some_iff.1 h).1
theorem VecAt.same {b c ty k : Nat} {cs : List Value} {w w' : World} (h : VecAt b c ty k cs w) (hb : c ≠ 0 → w'.heap[b]? = w.heap[b]?) : VecAt b c ty k cs w' := by
  rcases h with h | ⟨hc, cur, h1, h2⟩
  · exact .inl h
  · exact .inr ⟨hc, cur, by rw [hb hc]; exact h1, h2⟩
theorem VecAt.notCells {b c ty k : Nat} {cs : List Value} {w : World} {o : Obj} (h : VecAt b c ty k cs w) (hc : c ≠ 0) (hb : w.heap[b]? = some o) (ho : o.isCells = false) : False := by
  rcases h with ⟨h, _⟩ | ⟨_, cur, h, _⟩
  · exact hc h
  · rw [h] at hb; cases hb; simp [Obj.isCells] at ho
def Cx.lent (cx : Cx) (l : Nat) : Prop := ∃ L, (L, l) ∈ cx.bor
def Cx.mine (cx : Cx) (l : Nat) : Prop := cx.B ≤ l ∨ cx.lent l
theorem lent_nil {P : Program} {r : Option Nat} {B N : Nat} {w0 : World} {ds : Bool} {S : Nat → Array Value} {K : List (Nat × Obj)} {l : Nat} : ¬ Cx.lent ⟨P, r, B, w0, N, ds, [], S, K⟩ l := fun ⟨_, h⟩ => by simp at h
theorem mine_nil {P : Program} {r : Option Nat} {B N : Nat} {w0 : World} {ds : Bool} {S : Nat → Array Value} {K : List (Nat × Obj)} {l : Nat} (h : Cx.mine ⟨P, r, B, w0, N, ds, [], S, K⟩ l) : B ≤ l := by
  rcases h with h | h
  · exact h
  · exact absurd h lent_nil
structure Held (cx : Cx) (w : World) : Prop where
  os : w.os = cx.w0.os
  tape : w.tape = cx.w0.tape
  output : w.output = cx.w0.output
  size : cx.w0.heap.size ≤ w.heap.size
  block : ∀ k, k < cx.B → ¬ cx.lent k → w.heap[k]? = cx.w0.heap[k]?
theorem Held.step {cx : Cx} {w w' : World} (h : Held cx w) (hos : w'.os = w.os) (htape : w'.tape = w.tape) (hout : w'.output = w.output) (hsz : w.heap.size ≤ w'.heap.size)
    (hk : ∀ k, k < cx.B → ¬ cx.lent k → w'.heap[k]? = w.heap[k]?) : Held cx w' :=
  ⟨hos.trans h.os, htape.trans h.tape, hout.trans h.output, Nat.le_trans h.size hsz, fun k h1 h2 => (hk k h1 h2).trans (h.block k h1 h2)⟩
theorem Held.world {cx : Cx} {w w' : World} (h : Held cx w) (hb : Below w.heap.size w w') (ht : cx.B ≤ w.heap.size) : Held cx w' :=
  h.step hb.os hb.tape hb.output hb.size fun k h1 _ => hb.block k (Nat.lt_of_lt_of_le h1 ht)
theorem Held.setCell {cx : Cx} {w : World} (h : Held cx w) {p : Addr} (hp : cx.mine p.block) (u : Value) : Held cx (w.setCell p u) :=
  h.step rfl rfl rfl (by simp [World.setCell]) fun k h1 h2 => Below.heap_setCell _ _ _ _ fun e => by
    subst e
    rcases hp with hp | hp
    · omega
    · exact h2 hp
theorem Held.alloc {cx : Cx} {w : World} (h : Held cx w) (ht : cx.B ≤ w.heap.size) (o : Obj) : Held cx (w.alloc o) :=
  h.step rfl rfl rfl (by simp) fun k h1 _ => Below.heap_alloc _ _ _ (by omega)
theorem Held.cell {cx : Cx} {w : World} (h : Held cx w) {p : Addr} (h1 : p.block < cx.B) (h2 : ¬ cx.lent p.block) : w.cell? p = cx.w0.cell? p := by
  simp only [World.cell?, h.block p.block h1 h2]
def mark (D : Nat) : Deferred := { target := .collected D, args := #[] }
def Marks (b : Bool) (B : Nat) (ds : List Deferred) (w : World) : Prop := ∃ ms : List Nat, ds = ms.map mark ∧ (b = false → ms = []) ∧ ms.Nodup ∧ ∀ D ∈ ms, B ≤ D ∧ w.heap[D]? = some (.deferred (some []))
theorem Marks.step {b : Bool} {B : Nat} {ds : List Deferred} {w w' : World} (h : Marks b B ds w) (hk : ∀ (k : Nat) (o : Obj), w.heap[k]? = some o → o.isCells = false → w'.heap[k]? = some o) : Marks b B ds w' := by
  obtain ⟨ms, h1, h2, h3, h4⟩ := h
  exact ⟨ms, h1, h2, h3, fun D hD => ⟨(h4 D hD).1, hk D _ (h4 D hD).2 rfl⟩⟩
theorem Marks.none {B : Nat} {ds : List Deferred} {w : World} (h : Marks false B ds w) : ds = [] := by
  obtain ⟨ms, h1, h2, _⟩ := h
  rw [h1, h2 rfl]; rfl
theorem marks_nil {b : Bool} {B : Nat} {w : World} : Marks b B [] w := ⟨[], rfl, fun _ => rfl, List.nodup_nil, fun _ h => by simp at h⟩
structure Rel (cx : Cx) (m : Nat → Nat) (g : Map) (a : Act) (w : World) : Prop where
  size : a.tmps.size = cx.N
  defers : Marks cx.ds cx.B a.defers w
  tm : ∀ i x, g (.t i) = some (.x x) → a.tmps[i]? = some (den m x)
  tmc : ∀ i b x, g (.t i) = some (.xc b x) → a.tmps[i]? = some (cond b (den m x) undef)
  blk : ∀ L ty n, g (.b L) = some (.sh ty n) → cx.mine (m L) ∧ ∃ cs : Array Value, cs.size = n ∧ w.heap[m L]? = some (.cells cs ty (0, 0))
  cell : ∀ L o x, g (.c L o) = some (.x x) → w.cell? ⟨m L, o, none⟩ = some (den m x)
  own : ∀ L o x, g (.c L o) = some (.x x) → ∃ ty n, g (.b L) = some (.sh ty n)
  inj : ∀ L L' ty n ty' n', g (.b L) = some (.sh ty n) → g (.b L') = some (.sh ty' n') → m L = m L' → L = L'
  vec : ∀ L own C ty k cs, g (.r L) = some (.vec own C ty k cs) → VecAt (m L) (m C) ty k cs w
  sep : ∀ L own C ty k cs L' ty' n', g (.r L) = some (.vec own C ty k cs) → g (.b L') = some (.sh ty' n') → m C ≠ 0 → m L ≠ m L'
  sepR : ∀ L C ty k cs L' own' C' ty' k' cs', g (.r L) = some (.vec true C ty k cs) → g (.r L') = some (.vec own' C' ty' k' cs') → L ≠ L' → m C ≠ 0 → m C' ≠ 0 → m L ≠ m L'
  ownR : ∀ L C ty k cs, g (.r L) = some (.vec true C ty k cs) → m C ≠ 0 → cx.mine (m L)
  held : Held cx w
  top : cx.B ≤ w.heap.size
  fix : ∀ L b, (L, b) ∈ cx.bor → m L = b ∧ ∃ ty n, g (.b L) = some (.sh ty n)
  us : ∀ l i x, g (.u l i) = some (.x x) → (cx.sus l)[i]? = some (den m x)
  ko : ∀ k o, (k, o) ∈ cx.kob → w.heap[k]? = some o ∧ o.isCells = false
theorem Rel.below {P : Program} {r : Option Nat} {B N : Nat} {w0 : World} {ds : Bool} {S : Nat → Array Value} {K : List (Nat × Obj)} {m : Nat → Nat} {g : Map} {a : Act} {w : World} (h : Rel ⟨P, r, B, w0, N, ds, [], S, K⟩ m g a w) : Below B w0 w :=
  ⟨h.held.os, h.held.tape, h.held.output, h.held.size, fun k hk => h.held.block k hk lent_nil⟩
theorem Rel.congr {cx : Cx} {m : Nat → Nat} {g g' : Map} {a : Act} {w : World} (h : Rel cx m g a w) (e : ∀ k, g k = g' k) : Rel cx m g' a w := by
  have : g = g' := funext e
  exact this ▸ h
def OpOK (cx : Cx) (ops : Array Oper) (i : Nat) (s : Map) (row : Row) : Prop :=
  ∀ (m : Nat → Nat) (a : Act) (w : World) (g : Map), (∀ k, row.reads k = true → g k = s k) → (∀ L ∈ row.nw, ∀ k, mentions L k (g k) = false) → Rel cx m g a w →
    ∀ (K : Act → World → Prop) (Q : Exit → Act → World → Prop), (∀ m' a' w', Rel cx m' (upd row.up g) a' w' → K a' w') → wpOpIn cx.F 0 cx.P ops Q i K a w
def AllOK (cx : Cx) (ops : Array Oper) : Nat → St → List Row → Prop
  | _, _, [] => True
  | i, s, row :: rs => OpOK cx ops i (get s) row ∧ AllOK cx ops (i + 1) (row.up ++ s) rs
theorem AllOK.at {cx : Cx} {ops : Array Oper} : ∀ {rows : List Row} {i : Nat} {s : St}, AllOK cx ops i s rows → ∀ j (row : Row), rows[j]? = some row →
    OpOK cx ops (i + j) (app rows i (fun x => decide (x < i + j)) (get s)) row := by
  intro rows
  induction rows with
  | nil => intro i s _ j row h; simp at h
  | cons r rs ih =>
    intro i s h j row hj
    obtain ⟨h0, h1⟩ := h
    cases j with
    | zero =>
      simp only [List.getElem?_cons_zero, Option.some.injEq] at hj
      subst hj
      have : app (r :: rs) i (fun x => decide (x < i + 0)) (get s) = get s := by
        funext k
        exact app_untouched _ _ _ _ _ (fun j row _ hd => by simp at hd; omega)
      rw [this]
      exact h0
    | succ j =>
      have hj' : rs[j]? = some row := by simpa using hj
      have := ih h1 j row hj'
      rw [show i + (j + 1) = i + 1 + j by omega]
      simp only [app]
      have hlt : decide (i < i + 1 + j) = true := by simp; omega
      rw [hlt, cond_true, ← get_append]
      exact this
def freshOK : St → List Row → Bool
  | _, [] => true
  | s, row :: rs => row.nw.all (fun L => !mentionsIn L s) && freshOK (row.up ++ s) rs
theorem get_mentions {L : Nat} {s : St} (h : mentionsIn L s = false) (k : Key) : mentions L k (get s k) = false :=
  mentions_upd h (by rfl)
theorem text {cx : Cx} {ops : Array Oper} {Q : Exit → Act → World → Prop} :
    ∀ (rows : List Row) (i : Nat) (s : St) (m : Nat → Nat) (a : Act) (w : World), AllOK cx ops i s rows → freshOK s rows = true → Rel cx m (get s) a w →
    (∀ m a w, Rel cx m (get (rows.foldl (fun s r => r.up ++ s) s)) a w → Q .normal a w) →
    wpOpsIn cx.F 0 cx.P ops Q (List.range' i rows.length) a w := by
  intro rows
  induction rows with
  | nil => intro i s m a w _ _ hr hq; exact hq m a w hr
  | cons row rs ih =>
    intro i s m a w hall hf hr hq
    obtain ⟨h0, h1⟩ := hall
    simp only [freshOK, Bool.and_eq_true, List.all_eq_true] at hf
    simp only [List.length_cons, List.range'_succ]
    rw [wpOpsIn_cons]
    refine h0 m a w (get s) (fun _ _ => rfl) (fun L hL k => get_mentions (by simpa using hf.1 L hL) k) hr _ Q (fun m' a' w' hr' => ?_)
    rw [← get_append] at hr'
    exact ih (i + 1) _ m' a' w' h1 hf.2 hr' hq
theorem region_text {cx : Cx} {ops : Array Oper} {Q : Exit → Act → World → Prop} {id : Nat} {rows : List Row} {s : St} (hlen : rows.length = ops.size)
    (hall : AllOK cx ops 0 s rows) (hf : freshOK s rows = true) {m : Nat → Nat} {a : Act} {w : World} (hr : Rel cx m (get s) a w)
    (hq : ∀ m a w, Rel cx m (get (rows.foldl (fun s r => r.up ++ s) s)) a w → Q .normal a w) : (Code.region id ops false).wpIn cx.F 0 cx.P Q a w := by
  refine wpIn_region ?_
  rw [← hlen, List.range_eq_range']
  exact text rows 0 s m a w hall hf hr hq
/-! ### Any order -/
def maskOf (M : List Nat) (o : Oper) : Nat :=
  o.after.toList.foldl (fun s e => if Region.binds .any e then s ||| 2 ^ e.on ||| M.getD e.on 0 else s) 0
theorem testBit_fold (M : List Nat) (j : Nat) : ∀ (l : List Edge) (s : Nat),
    (l.foldl (fun s e => if Region.binds .any e then s ||| 2 ^ e.on ||| M.getD e.on 0 else s) s).testBit j = true →
    s.testBit j = true ∨ ∃ e ∈ l, Region.binds .any e = true ∧ (e.on = j ∨ (M.getD e.on 0).testBit j = true) := by
  intro l
  induction l with
  | nil => intro s h; exact .inl h
  | cons e l ih =>
    intro s h
    rw [List.foldl_cons] at h
    rcases ih _ h with h | ⟨e', he', hb, h⟩
    · split at h
      · rename_i hb
        simp only [Nat.testBit_or, Bool.or_eq_true, Nat.testBit_two_pow, decide_eq_true_eq] at h
        rcases h with (h | h) | h
        · exact .inl h
        · exact .inr ⟨e, by simp, hb, .inl h⟩
        · exact .inr ⟨e, by simp, hb, .inr h⟩
      · exact .inl h
    · exact .inr ⟨e', by simp [he'], hb, h⟩
def ancOK (ops : Array Oper) (M : List Nat) : Bool :=
  (List.range ops.size).all fun i => match ops[i]? with
    | some o => o.after.toList.all (fun e => !Region.binds .any e || Nat.blt e.on i) && Nat.beq (M.getD i 0) (maskOf M o)
    | none => true
def clash (r r' : Row) : Bool := r.up.any (fun x => r'.reads x.1 || touches x.1 r'.up) || r'.up.any (fun x => r.reads x.1)
def indepOK (rows : List Row) (M : List Nat) : Bool :=
  (List.range rows.length).all fun j => (List.range j).all fun i =>
    (M.getD j 0).testBit i || !clash (rows.getD i default) (rows.getD j default)
def newOK (rows : List Row) (M : List Nat) : Bool :=
  (List.range rows.length).all fun i => (rows.getD i default).nw.all fun L => (List.range rows.length).all fun j =>
    Nat.beq i j || !mentionsIn L (rows.getD j default).up || (Nat.blt i j && (M.getD j 0).testBit i)
theorem touches_iff {k : Key} {u : St} : touches k u = true ↔ ∃ x ∈ u, x.1 = k := by
  induction u with
  | nil => simp [touches]
  | cons x r ih => simp [touches, ih, Key.eqb_iff]
theorem clash_of_touches {r r' : Row} {k : Key} (h : touches k r.up = true) (h' : r'.reads k = true ∨ touches k r'.up = true) : clash r r' = true := by
  obtain ⟨x, hx, rfl⟩ := touches_iff.1 h
  simp only [clash, Bool.or_eq_true, List.any_eq_true]
  exact .inl ⟨x, hx, by simpa using h'⟩
theorem clash_of_reads {r r' : Row} {k : Key} (h : r.reads k = true) (h' : touches k r'.up = true) : clash r r' = true := by
  obtain ⟨x, hx, rfl⟩ := touches_iff.1 h'
  simp only [clash, Bool.or_eq_true, List.any_eq_true]
  exact .inr ⟨x, hx, h⟩
section
variable {cx : Cx} {ops : Array Oper} {Q : Exit → Act → World → Prop} {rows : List Row} {M : List Nat} {s : St}
def Downset (ops : Array Oper) (D : Nat → Bool) : Prop := ∀ i o, ops[i]? = some o → D i = true → ∀ e ∈ o.after, Region.binds .any e = true → D e.on = true
theorem anc_spec (h : ancOK ops M = true) {i : Nat} {o : Oper} (ho : ops[i]? = some o) :
    (∀ e ∈ o.after, Region.binds .any e = true → e.on < i) ∧ M.getD i 0 = maskOf M o := by
  have hlt : i < ops.size := (Array.getElem?_eq_some_iff.1 ho).1
  have := List.all_eq_true.1 h i (List.mem_range.2 hlt)
  simp only [ho, Bool.and_eq_true, List.all_eq_true, Nat.beq_eq] at this
  refine ⟨fun e he hb => ?_, this.2⟩
  have := this.1 e (by simpa using he)
  simpa [hb] using this
theorem anc_down (h : ancOK ops M = true) {D : Nat → Bool} (hD : Downset ops D) : ∀ (i : Nat) (o : Oper), ops[i]? = some o →
    (∀ e ∈ o.after, Region.binds .any e = true → D e.on = true) → ∀ j, (M.getD i 0).testBit j = true → D j = true := by
  intro i
  induction i using Nat.strongRecOn with
  | _ i ih =>
    intro o ho hi j hj
    obtain ⟨hlt, hm⟩ := anc_spec h ho
    rw [hm] at hj
    rcases testBit_fold M j _ _ hj with h0 | ⟨e, he, hb, h1⟩
    · simp at h0
    · have he' : e ∈ o.after := by simpa using he
      have hon := hi e he' hb
      rcases h1 with rfl | h1
      · exact hon
      · cases ho' : ops[e.on]? with
        | none =>
          exfalso
          have h1' := hlt e he' hb
          have h2 : i < ops.size := (Array.getElem?_eq_some_iff.1 ho).1
          rw [Array.getElem?_eq_none_iff] at ho'
          omega
        | some o' => exact ih e.on (hlt e he' hb) o' ho' (hD e.on o' ho' hon) j h1
theorem ordered (ha : ancOK ops M = true) (hind : indepOK rows M = true) (hlen : rows.length = ops.size) {D : Nat → Bool} (hD : Downset ops D)
    {i : Nat} {o : Oper} (ho : ops[i]? = some o) (hi : D i = false) (hr : ∀ e ∈ o.after, Region.binds .any e = true → D e.on = true)
    {j : Nat} {row row' : Row} (hrow : rows[i]? = some row) (hrow' : rows[j]? = some row') (hne : j ≠ i) (hc : clash row row' = true ∧ clash row' row = true) : D j = decide (j < i) := by
  have hi' : i < rows.length := (List.getElem?_eq_some_iff.1 hrow).1
  have hj' : j < rows.length := (List.getElem?_eq_some_iff.1 hrow').1
  have e1 : rows.getD i default = row := by simp [List.getD, hrow]
  have e2 : rows.getD j default = row' := by simp [List.getD, hrow']
  by_cases hlt : j < i
  · have := List.all_eq_true.1 (List.all_eq_true.1 hind i (List.mem_range.2 hi')) j (List.mem_range.2 hlt)
    rw [e1, e2, hc.2] at this
    simp only [Bool.not_true, Bool.or_false] at this
    rw [anc_down ha hD i o ho hr j this]
    simp [hlt]
  · have hgt : i < j := by omega
    have := List.all_eq_true.1 (List.all_eq_true.1 hind j (List.mem_range.2 hj')) i (List.mem_range.2 hgt)
    rw [e1, e2, hc.1] at this
    simp only [Bool.not_true, Bool.or_false] at this
    have hoj : ∃ oj, ops[j]? = some oj := ⟨ops[j]'(by omega), Array.getElem?_eq_getElem (by omega)⟩
    obtain ⟨oj, hoj⟩ := hoj
    cases hDj : D j with
    | false => simp [hlt]
    | true =>
      have := anc_down ha hD j oj hoj (hD j oj hoj hDj) i this
      rw [hi] at this
      cases this
def count (n : Nat) (D : Nat → Bool) : Nat := (List.range n).countP fun i => !D i
theorem count_zero {n : Nat} {D : Nat → Bool} (h : count n D = 0) : ∀ i, i < n → D i = true := by
  intro i hi
  have := List.countP_eq_zero.1 h i (List.mem_range.2 hi)
  simpa using this
theorem count_set {n i : Nat} {D : Nat → Bool} (hi : i < n) (h : D i = false) : count n (fun x => D x || Nat.beq x i) + 1 = count n D := by
  unfold count
  induction n with
  | zero => omega
  | succ n ih =>
    rw [List.range_succ, List.countP_append, List.countP_append]
    simp only [List.countP_cons, List.countP_nil, Nat.zero_add]
    by_cases e : i = n
    · subst e
      have : (List.range i).countP (fun x => !(D x || Nat.beq x i)) = (List.range i).countP (fun x => !D x) := by
        apply List.countP_congr
        intro x hx
        have : x < i := List.mem_range.1 hx
        have hb : Nat.beq x i = false := beq_ne (by omega)
        simp [hb]
      rw [this]
      simp [h]
    · have := ih (by omega)
      have hb : Nat.beq n i = false := beq_ne (by omega)
      simp only [hb, Bool.or_false]
      simp only [] at this
      omega
theorem ready_ne (ha : ancOK ops M = true) {listed : Array Bool} (hsz : listed.size = ops.size) (h : Region.ready .any ops listed = []) : ∀ i, i < ops.size → listed.getD i false = true := by
  intro i
  induction i using Nat.strongRecOn with
  | _ i ih =>
    intro hi
    cases hl : listed.getD i false with
    | true => rfl
    | false =>
      exfalso
      have hlt : i < listed.size := by omega
      have : i ∈ Region.ready .any ops listed := by
        rw [mem_ready]
        have ho : ops[i]? = some ops[i] := Array.getElem?_eq_getElem hi
        refine ⟨?_, ops[i], ho, fun e he hb => ?_⟩
        · simpa [Array.getD, hlt] using hl
        · have hlt' := (anc_spec ha ho).1 e he hb
          exact ih e.on hlt' (by omega)
      rw [h] at this
      cases this
theorem any_core (ha : ancOK ops M = true) (hind : indepOK rows M = true) (hnew : newOK rows M = true) (hlen : rows.length = ops.size)
    (hfresh : (rows.all fun row => row.nw.all fun L => !mentionsIn L s) = true) (hall : AllOK cx ops 0 s rows)
    (hq : ∀ m a w, Rel cx m (get (rows.foldl (fun s r => r.up ++ s) s)) a w → Q .normal a w) :
    ∀ (fuel : Nat) (listed : Array Bool) (m : Nat → Nat) (a : Act) (w : World), listed.size = ops.size → count ops.size (fun i => listed.getD i false) = fuel →
    Downset ops (fun i => listed.getD i false) → Rel cx m (app rows 0 (fun i => listed.getD i false) (get s)) a w →
    wpAnyIn cx.F 0 cx.P .any ops Q fuel listed a w := by
  have fin : ∀ (listed : Array Bool) (m : Nat → Nat) (a : Act) (w : World), (∀ i, i < ops.size → listed.getD i false = true) →
      Rel cx m (app rows 0 (fun i => listed.getD i false) (get s)) a w → Q .normal a w := by
    intro listed m a w h hr
    rw [app_all rows 0 _ s (fun j hj => by simpa using h j (by omega))] at hr
    exact hq m a w hr
  intro fuel
  induction fuel with
  | zero =>
    intro listed m a w hsz hc hD hr
    have h1 := count_zero hc
    refine ⟨?_, fin listed m a w h1 hr⟩
    apply List.eq_nil_iff_forall_not_mem.2
    intro i hi
    rw [mem_ready] at hi
    obtain ⟨h0, o, ho, _⟩ := hi
    have hlt : i < ops.size := (Array.getElem?_eq_some_iff.1 ho).1
    have := h1 i hlt
    have hlt' : i < listed.size := by omega
    simp [Array.getD, hlt'] at this h0
    rw [this] at h0; cases h0
  | succ fuel ih =>
    intro listed m a w hsz hc hD hr
    refine ⟨fun h => fin listed m a w (ready_ne ha hsz h) hr, fun i hi => ?_⟩
    rw [mem_ready] at hi
    obtain ⟨h0, o, ho, hpre⟩ := hi
    have hlt : i < ops.size := (Array.getElem?_eq_some_iff.1 ho).1
    have hlt' : i < listed.size := by omega
    have hDi : listed.getD i false = false := by simp [Array.getD, hlt'] at h0 ⊢; exact h0
    obtain ⟨row, hrow⟩ : ∃ row, rows[i]? = some row := ⟨rows[i]'(by omega), List.getElem?_eq_getElem (by omega)⟩
    have hset : ∀ x, (listed.setIfInBounds i true).getD x false = (listed.getD x false || Nat.beq x i) := by
      intro x
      by_cases e : x = i
      · subst e; simp [hlt']
      · rw [getD_set_ne false (Ne.symm e)]
        have hb : Nat.beq x i = false := beq_ne (e)
        simp [hb]
    have ord : ∀ (k : Key) (j : Nat) (row' : Row), rows[j]? = some row' → j ≠ i → touches k row'.up = true → (row.reads k = true ∨ touches k row.up = true) →
        listed.getD j false = decide (j < i) := by
      intro k j row' hrow' hne ht hk
      refine ordered ha hind hlen (D := fun i => listed.getD i false) hD ho hDi hpre hrow hrow' hne ⟨?_, clash_of_touches ht hk⟩
      rcases hk with hk | hk
      · exact clash_of_reads hk ht
      · exact clash_of_touches hk (.inr ht)
    have hopk := AllOK.at hall i row hrow
    simp only [Nat.zero_add] at hopk
    refine hopk m a w (app rows 0 (fun i => listed.getD i false) (get s)) (fun k hk => ?_) (fun L hL k => ?_) hr _ Q (fun m' a' w' hr' => ?_)
    · refine app_congr _ _ _ _ _ _ _ rfl (fun j row' hrow' ht => ?_)
      simp only [Nat.zero_add]
      by_cases hne : j = i
      · subst hne; rw [hDi]; simp
      · exact ord k j row' hrow' hne ht (.inl hk)
    · have hmem : row ∈ rows := List.mem_of_getElem? hrow
      refine app_mentions _ _ _ _ _ _ (get_mentions ?_ k) (fun j row' hrow' hd => ?_)
      · have := List.all_eq_true.1 (List.all_eq_true.1 hfresh row hmem) L hL
        simpa using this
      · simp only [Nat.zero_add] at hd
        have hne : j ≠ i := fun e => by subst e; rw [hDi] at hd; cases hd
        have e1 : rows.getD i default = row := by simp [List.getD, hrow]
        have e2 : rows.getD j default = row' := by simp [List.getD, hrow']
        have hi' : i < rows.length := (List.getElem?_eq_some_iff.1 hrow).1
        have hj' : j < rows.length := (List.getElem?_eq_some_iff.1 hrow').1
        have := List.all_eq_true.1 (List.all_eq_true.1 (List.all_eq_true.1 hnew i (List.mem_range.2 hi')) L (by rw [e1]; exact hL)) j (List.mem_range.2 hj')
        rw [e2] at this
        have hb : Nat.beq i j = false := beq_ne (Ne.symm hne)
        rw [hb, Bool.false_or] at this
        cases hm : mentionsIn L row'.up with
        | false => rfl
        | true =>
          rw [hm] at this
          simp only [Bool.not_true, Bool.false_or, Bool.and_eq_true] at this
          have hoj : ∃ oj, ops[j]? = some oj := ⟨ops[j]'(by omega), Array.getElem?_eq_getElem (by omega)⟩
          obtain ⟨oj, hoj⟩ := hoj
          have := anc_down ha hD j oj hoj (hD j oj hoj hd) i this.2
          simp only [hDi] at this
          cases this
    · have hsz' : (listed.setIfInBounds i true).size = ops.size := by simp [hsz]
      have hfun : (fun x => (listed.setIfInBounds i true).getD x false) = fun x => (listed.getD x false || Nat.beq x i) := funext hset
      refine ih _ m' a' w' hsz' ?_ ?_ ?_
      · rw [hfun]
        have := count_set (D := fun i => listed.getD i false) hlt hDi
        omega
      · intro x ox hox hx e he hb
        rw [hfun] at hx ⊢
        simp only [Bool.or_eq_true] at hx ⊢
        rcases hx with hx | hx
        · exact .inl (hD x ox hox hx e he hb)
        · have : x = i := Nat.eq_of_beq_eq_true hx
          subst this
          rw [ho] at hox
          cases hox
          exact .inl (hpre e he hb)
      · refine hr'.congr (fun k => ?_)
        rw [hfun]
        cases ht : touches k row.up with
        | false =>
          rw [upd_of_touches ht]
          refine app_congr _ _ _ _ _ _ _ rfl (fun j row' hrow' ht' => ?_)
          simp only [Nat.zero_add]
          have hne : j ≠ i := fun e => by subst e; rw [hrow] at hrow'; cases hrow'; rw [ht] at ht'; cases ht'
          have hb : Nat.beq j i = false := beq_ne (hne)
          simp [hb]
        | true =>
          have e1 : app rows 0 (fun i => listed.getD i false) (get s) k = app rows 0 (fun x => decide (x < i)) (get s) k := by
            refine app_congr _ _ _ _ _ _ _ rfl (fun j row' hrow' ht' => ?_)
            simp only [Nat.zero_add]
            by_cases hne : j = i
            · subst hne; rw [hDi]; simp
            · exact ord k j row' hrow' hne ht' (.inr ht)
          have e2 : app rows 0 (fun x => listed.getD x false || Nat.beq x i) (get s) k = app rows 0 (fun x => decide (x < i + 1)) (get s) k := by
            refine app_congr _ _ _ _ _ _ _ rfl (fun j row' hrow' ht' => ?_)
            simp only [Nat.zero_add]
            by_cases hne : j = i
            · subst hne; simp
            · rw [ord k j row' hrow' hne ht' (.inr ht)]
              have hb : Nat.beq j i = false := beq_ne (hne)
              rw [hb, Bool.or_false]
              have : (j < i) = (j < i + 1) := propext (by omega)
              simp only [this]
          rw [e2]
          rw [upd_congr ht _ (app rows 0 (fun x => decide (x < i)) (get s))]
          have := app_step rows 0 (get s) i row hrow k ht
          simp only [Nat.zero_add] at this
          exact this.symm
where
  app_step : ∀ (rows : List Row) (b : Nat) (g : Map) (i : Nat) (row : Row), rows[i]? = some row → ∀ k, touches k row.up = true →
      app rows b (fun x => decide (x < b + i + 1)) g k = upd row.up (app rows b (fun x => decide (x < b + i)) g) k := by
    intro rows
    induction rows with
    | nil => intro b g i row h; simp at h
    | cons r rs ih =>
      intro b g i row h k ht
      cases i with
      | zero =>
        simp only [List.getElem?_cons_zero, Option.some.injEq] at h
        subst h
        have h1 : decide (b < b + 0 + 1) = true := by simp
        have h2 : decide (b < b + 0) = false := by simp
        simp only [app, h1, h2, cond_true, cond_false]
        rw [app_untouched rs (b + 1) _ _ k (fun j row _ hd => by simp at hd; omega)]
        exact upd_congr ht _ _
      | succ i =>
        have h' : rs[i]? = some row := by simpa using h
        have h1 : decide (b < b + (i + 1) + 1) = true := by simp; omega
        have h2 : decide (b < b + (i + 1)) = true := by simp
        simp only [app, h1, h2, cond_true]
        have := ih (b + 1) (upd r.up g) i row h' k ht
        rw [show b + (i + 1) + 1 = b + 1 + i + 1 by omega, show b + (i + 1) = b + 1 + i by omega]
        exact this
theorem region_any (hm : cx.P.follows .mixedOrders = true) (ha : ancOK ops M = true) (hind : indepOK rows M = true) (hnew : newOK rows M = true) (hlen : rows.length = ops.size)
    (hfresh : (rows.all fun row => row.nw.all fun L => !mentionsIn L s) = true) (hall : AllOK cx ops 0 s rows) {id : Nat} {m : Nat → Nat} {a : Act} {w : World} (hr : Rel cx m (get s) a w)
    (hq : ∀ m a w, Rel cx m (get (rows.foldl (fun s r => r.up ++ s) s)) a w → Q .normal a w) : (Code.region id ops true).wpIn cx.F 0 cx.P Q a w := by
  refine wpIn_region_any hm ?_
  refine any_core ha hind hnew hlen hfresh hall hq ops.size _ m a _ (by simp) ?_ ?_ ?_
  · unfold count
    rw [List.countP_eq_length.2, List.length_range]
    intro x hx
    have : x < ops.size := List.mem_range.1 hx
    simp [this]
  · intro i o _ h
    simp [Array.getD] at h
  · have : app rows 0 (fun i => (Array.replicate ops.size false).getD i false) (get s) = get s := by
      funext k
      refine app_untouched _ _ _ _ _ (fun j row _ hd => ?_)
      simp [Array.getD] at hd
    rw [this]
    exact ⟨hr.size, hr.defers.step (fun _ _ h _ => h), hr.tm, hr.tmc, hr.blk, hr.cell, hr.own, hr.inj, fun L own C ty k cs hx => (hr.vec L own C ty k cs hx).same (fun _ => rfl), hr.sep, hr.sepR, hr.ownR, ⟨hr.held.os, hr.held.tape, hr.held.output, hr.held.size, hr.held.block⟩, hr.top, hr.fix, hr.us, hr.ko⟩
end
end Go.AX
/-
  The core, second part: how the relation between a symbolic and a concrete state is kept by writes to a temporary, by stores, by new blocks, and by calls; operations without their guards.
-/
namespace Go.AX
open Go Go.RowKit
mutual
theorem den_congr {m m' : Nat → Nat} : ∀ (x : SV), (∀ L, x.has L = true → m L = m' L) → den m x = den m' x
  | .v _, _ => rfl
  | .p L o, h => by simp only [den, h L (by simp [SV.has])]
  | .s L o n c, h => by simp only [den, h L (by simp [SV.has])]
  | .o L C n, h => by simp only [den, h L (by simp [SV.has]), h C (by simp [SV.has])]
  | .q L C lo n k, h => by simp only [den, h L (by simp [SV.has]), h C (by simp [SV.has])]
  | .f fn fs cs, h => by simp only [den, denL_congr fs (fun L hL => h L (by simp [SV.has, hL])), denL_congr cs (fun L hL => h L (by simp [SV.has, hL]))]
  | .g cs, h => by simp only [den, denL_congr cs (fun L hL => h L (by simpa [SV.has] using hL))]
  | .t cs, h => by simp only [den, denL_congr cs (fun L hL => h L (by simpa [SV.has] using hL))]
theorem denL_congr {m m' : Nat → Nat} : ∀ (xs : List SV), (∀ L, hasL L xs = true → m L = m' L) → denL m xs = denL m' xs
  | [], _ => rfl
  | x :: xs, h => by
    simp only [denL]
    rw [den_congr x (fun L hL => h L (by simp [hasL, hL])), denL_congr xs (fun L hL => h L (by simp [hasL, hL]))]
end
def setL (m : Nat → Nat) (L b : Nat) : Nat → Nat := fun l => if l = L then b else m l
theorem setL_self (m : Nat → Nat) (L b : Nat) : setL m L b L = b := by simp [setL]
theorem setL_ne (m : Nat → Nat) {L L' : Nat} (b : Nat) (h : L' ≠ L) : setL m L b L' = m L' := by simp [setL, h]
theorem den_setL {m : Nat → Nat} {L b : Nat} {x : SV} (h : x.has L = false) : den (setL m L b) x = den m x :=
  den_congr x fun L' hL => setL_ne m b fun e => by subst e; rw [h] at hL; cases hL
theorem denL_setL {m : Nat → Nat} {L b : Nat} {xs : List SV} (h : hasL L xs = false) : denL (setL m L b) xs = denL m xs :=
  denL_congr xs fun L' hL => setL_ne m b fun e => by subst e; rw [h] at hL; cases hL
theorem denL_length (m : Nat → Nat) : ∀ xs : List SV, (denL m xs).length = xs.length
  | [] => rfl
  | _ :: xs => by simp [denL, denL_length m xs]
theorem denL_get (m : Nat → Nat) : ∀ (xs : List SV) (i : Nat), (denL m xs)[i]? = (xs[i]?).map (den m)
  | [], i => by simp [denL]
  | x :: xs, 0 => by simp [denL]
  | x :: xs, i + 1 => by simp [denL, denL_get m xs i]
def cellsUp (L : Nat) : Nat → List SV → St
  | _, [] => []
  | i, x :: xs => (.c L i, some (.x x)) :: cellsUp L (i + 1) xs
theorem upd_cellsUp (L : Nat) (g : Map) : ∀ (xs : List SV) (i : Nat) (k : Key),
    upd (cellsUp L i xs) g k = match k with
      | .c L' o => if L' = L ∧ i ≤ o ∧ o < i + xs.length then (xs[o - i]?).map Val.x else g k
      | _ => g k := by
  intro xs
  induction xs with
  | nil =>
    intro i k
    cases k <;> simp [cellsUp, upd]
    intros; omega
  | cons x xs ih =>
    intro i k
    simp only [cellsUp, upd]
    rw [ih]
    cases k with
    | t j => rfl
    | b l => rfl
    | r l => rfl
    | u l i => rfl
    | a => rfl
    | c L' o =>
      by_cases e : Key.c L i = Key.c L' o
      · cases e
        simp [Key.eqb]
      · rw [Key.eqb_false e, cond_false]
        simp only [List.length_cons]
        by_cases hL : L' = L
        · subst hL
          have hne : o ≠ i := fun h => e (by rw [h])
          by_cases ho : i + 1 ≤ o ∧ o < i + 1 + xs.length
          · rw [if_pos ⟨rfl, ho.1, ho.2⟩, if_pos ⟨rfl, by omega, by omega⟩]
            rw [show o - i = (o - (i + 1)) + 1 by omega, List.getElem?_cons_succ]
          · rw [if_neg (fun h => ho ⟨h.2.1, h.2.2⟩), if_neg (fun h => ho ⟨by omega, by omega⟩)]
        · rw [if_neg (fun h => hL h.1), if_neg (fun h => hL h.1)]
section
variable {cx : Cx} {m : Nat → Nat} {g : Map} {a : Act} {w : World}
theorem get_put {a : Act} {d i : Nat} {v : Value} (hd : d < a.tmps.size) : (a.put (some d) v).tmps[i]? = if d = i then some v else a.tmps[i]? := by
  simp only [Act.put]
  rw [Array.getElem?_setIfInBounds]
  by_cases e : d = i
  · subst e; simp [hd]
  · simp [e]
theorem upd_one {k k' : Key} {v : Option Val} : upd [(k, v)] g k' = if k = k' then v else g k' := by
  simp only [upd]
  by_cases e : k = k'
  · subst e; simp [Key.eqb_self]
  · simp [Key.eqb_false e, e]
theorem Rel.put {d : Nat} {x : SV} {v : Value} (h : Rel cx m g a w) (hN : d < cx.N) (hv : v = den m x) : Rel cx m (upd [(.t d, some (.x x))] g) (a.put (some d) v) w := by
  have hsz : d < a.tmps.size := by rw [h.size]; exact hN
  refine ⟨by simp [Act.put, h.size], by simpa [Act.put] using h.defers, fun i y hy => ?_, fun i b y hy => ?_, fun L ty n hL => ?_, fun L o y hy => ?_, fun L o y hy => ?_, fun L L' ty n ty' n' h1 h2 => ?_, fun L own C ty k cs hx => ?_, fun L own C ty k cs L' ty' n' hx hy => ?_, fun L C ty k cs L' own' C' ty' k' cs' hx hy => ?_, fun L C ty k cs hx => ?_, h.held, h.top, fun L b hb => by obtain ⟨h1, ty, n, h2⟩ := h.fix L b hb; exact ⟨h1, ty, n, by rw [upd_one, if_neg (by simp)]; exact h2⟩, fun l i x hx => by rw [upd_one, if_neg (by simp)] at hx; exact h.us l i x hx, h.ko⟩
  · rw [upd_one] at hy
    rw [get_put hsz]
    by_cases e : d = i
    · subst e; simp at hy; subst hy; simp [hv]
    · rw [if_neg (by simpa using e)] at hy; rw [if_neg e]; exact h.tm i y hy
  · rw [upd_one] at hy
    rw [get_put hsz]
    by_cases e : d = i
    · subst e; simp at hy
    · rw [if_neg (by simpa using e)] at hy; rw [if_neg e]; exact h.tmc i b y hy
  · rw [upd_one, if_neg (by simp)] at hL; exact h.blk L ty n hL
  · rw [upd_one, if_neg (by simp)] at hy; exact h.cell L o y hy
  · rw [upd_one, if_neg (by simp)] at hy
    obtain ⟨ty, n, hL⟩ := h.own L o y hy
    exact ⟨ty, n, by rw [upd_one, if_neg (by simp)]; exact hL⟩
  · rw [upd_one, if_neg (by simp)] at h1 h2; exact h.inj L L' ty n ty' n' h1 h2
  · rw [upd_one, if_neg (by simp)] at hx; exact h.vec L own C ty k cs hx
  · rw [upd_one, if_neg (by simp)] at hx hy; exact h.sep L own C ty k cs L' ty' n' hx hy
  · rw [upd_one, if_neg (by simp)] at hx hy; exact h.sepR L C ty k cs L' own' C' ty' k' cs' hx hy
  · rw [upd_one, if_neg (by simp)] at hx; exact h.ownR L C ty k cs hx
theorem Rel.putC {d : Nat} {x : SV} {b : Bool} {v : Value} (h : Rel cx m g a w) (hN : d < cx.N) (hv : v = cond b (den m x) undef) : Rel cx m (upd [(.t d, some (.xc b x))] g) (a.put (some d) v) w := by
  have hsz : d < a.tmps.size := by rw [h.size]; exact hN
  refine ⟨by simp [Act.put, h.size], by simpa [Act.put] using h.defers, fun i y hy => ?_, fun i b y hy => ?_, fun L ty n hL => ?_, fun L o y hy => ?_, fun L o y hy => ?_, fun L L' ty n ty' n' h1 h2 => ?_, fun L own C ty k cs hx => ?_, fun L own C ty k cs L' ty' n' hx hy => ?_, fun L C ty k cs L' own' C' ty' k' cs' hx hy => ?_, fun L C ty k cs hx => ?_, h.held, h.top, fun L b hb => by obtain ⟨h1, ty, n, h2⟩ := h.fix L b hb; exact ⟨h1, ty, n, by rw [upd_one, if_neg (by simp)]; exact h2⟩, fun l i x hx => by rw [upd_one, if_neg (by simp)] at hx; exact h.us l i x hx, h.ko⟩
  · rw [upd_one] at hy
    rw [get_put hsz]
    by_cases e : d = i
    · subst e; simp at hy
    · rw [if_neg (by simpa using e)] at hy; rw [if_neg e]; exact h.tm i y hy
  · rw [upd_one] at hy
    rw [get_put hsz]
    by_cases e : d = i
    · subst e; simp at hy; obtain ⟨rfl, rfl⟩ := hy; simp [hv]
    · rw [if_neg (by simpa using e)] at hy; rw [if_neg e]; exact h.tmc i b y hy
  · rw [upd_one, if_neg (by simp)] at hL; exact h.blk L ty n hL
  · rw [upd_one, if_neg (by simp)] at hy; exact h.cell L o y hy
  · rw [upd_one, if_neg (by simp)] at hy
    obtain ⟨ty, n, hL⟩ := h.own L o y hy
    exact ⟨ty, n, by rw [upd_one, if_neg (by simp)]; exact hL⟩
  · rw [upd_one, if_neg (by simp)] at h1 h2; exact h.inj L L' ty n ty' n' h1 h2
  · rw [upd_one, if_neg (by simp)] at hx; exact h.vec L own C ty k cs hx
  · rw [upd_one, if_neg (by simp)] at hx hy; exact h.sep L own C ty k cs L' ty' n' hx hy
  · rw [upd_one, if_neg (by simp)] at hx hy; exact h.sepR L C ty k cs L' own' C' ty' k' cs' hx hy
  · rw [upd_one, if_neg (by simp)] at hx; exact h.ownR L C ty k cs hx
theorem Rel.world {w' : World} (h : Rel cx m g a w) (hb : Below w.heap.size w w') : Rel cx m g a w' := by
  refine ⟨h.size, h.defers.step (fun k o h1 _ => by rw [hb.block k (Array.getElem?_eq_some_iff.1 h1).1]; exact h1), h.tm, h.tmc, fun L ty n hL => ?_, fun L o y hy => ?_, h.own, h.inj, fun L own C ty k cs hx => ?_, h.sep, h.sepR, h.ownR, h.held.world hb h.top, Nat.le_trans h.top hb.size, h.fix, h.us, fun k o hk => by obtain ⟨h1, h2⟩ := h.ko k o hk; exact ⟨by rw [hb.block k (Array.getElem?_eq_some_iff.1 h1).1]; exact h1, h2⟩⟩
  · obtain ⟨h1, cs, h2, h3⟩ := h.blk L ty n hL
    refine ⟨h1, cs, h2, ?_⟩
    rw [hb.block _ (Array.getElem?_eq_some_iff.1 h3).1]; exact h3
  · obtain ⟨ty, n, hL⟩ := h.own L o y hy
    obtain ⟨h1, cs, h2, h3⟩ := h.blk L ty n hL
    rw [hb.cell (p := ⟨m L, o, none⟩) (Array.getElem?_eq_some_iff.1 h3).1]
    exact h.cell L o y hy
  · have := h.vec L own C ty k cs hx
    exact this.same fun hc => hb.block _ (this.lt hc)
theorem Rel.weaken {g' : Map} (h : Rel cx m g a w) (hs : ∀ k, g' k = none ∨ g' k = g k) (hb : ∀ L o, g' (.c L o) ≠ none → g' (.b L) = g (.b L)) (hf : ∀ L b, (L, b) ∈ cx.bor → g' (.b L) = g (.b L)) : Rel cx m g' a w := by
  have e : ∀ {k v}, g' k = some v → g k = some v := fun {k v} hk => by
    rcases hs k with h0 | h0
    · rw [h0] at hk; cases hk
    · rw [← h0]; exact hk
  refine ⟨h.size, h.defers, fun i x hx => h.tm i x (e hx), fun i b x hx => h.tmc i b x (e hx), fun L ty n hL => h.blk L ty n (e hL), fun L o x hx => h.cell L o x (e hx), fun L o x hx => ?_,
    fun L L' ty n ty' n' h1 h2 => h.inj L L' ty n ty' n' (e h1) (e h2), fun L own C ty k cs hx => h.vec L own C ty k cs (e hx), fun L own C ty k cs L' ty' n' hx hy => h.sep L own C ty k cs L' ty' n' (e hx) (e hy),
    fun L C ty k cs L' own' C' ty' k' cs' hx hy => h.sepR L C ty k cs L' own' C' ty' k' cs' (e hx) (e hy), fun L C ty k cs hx => h.ownR L C ty k cs (e hx), h.held, h.top, fun L b hb => by obtain ⟨h1, ty, n, h2⟩ := h.fix L b hb; exact ⟨h1, ty, n, by rw [hf L b hb]; exact h2⟩, fun l i x hx => h.us l i x (e hx), h.ko⟩
  obtain ⟨ty, n, hL⟩ := h.own L o x (e hx)
  exact ⟨ty, n, by rw [hb L o (by rw [hx]; simp)]; exact hL⟩
theorem cell_setCell {o o' : Nat} {b b' : Nat} {cs : Array Value} {ty : TypeId} {v : Value} (h : w.heap[b]? = some (.cells cs ty (0, 0))) (ho : o < cs.size) :
    (w.setCell ⟨b, o, none⟩ v).cell? ⟨b', o', none⟩ = if b = b' ∧ o = o' then some v else w.cell? ⟨b', o', none⟩ := by
  simp only [World.cell?, World.setCell, Array.getElem?_modify]
  by_cases e : b = b'
  · subst e
    simp only [h, if_true, Option.map_some, Option.isSome_none, Bool.false_eq_true, if_false, true_and]
    rw [Array.getElem?_setIfInBounds]
    by_cases e' : o = o'
    · subst e'; simp [ho]
    · simp [e']
  · simp [e]
theorem block_setCell {o : Nat} {b b' : Nat} {cs cs' : Array Value} {ty ty' : TypeId} {v : Value} (h : w.heap[b]? = some (.cells cs ty (0, 0))) (h' : w.heap[b']? = some (.cells cs' ty' (0, 0))) :
    ∃ cs'' : Array Value, cs''.size = cs'.size ∧ (w.setCell ⟨b, o, none⟩ v).heap[b']? = some (.cells cs'' ty' (0, 0)) := by
  simp only [World.setCell, Array.getElem?_modify]
  by_cases e : b = b'
  · subst e
    rw [h] at h'; cases h'
    exact ⟨cs.setIfInBounds o v, by simp, by simp [h]⟩
  · exact ⟨cs', rfl, by simp [e, h']⟩
theorem ko_set {b o : Nat} {cs : Array Value} {ty : TypeId} {hd : Nat × Nat} {v : Value} {kob : List (Nat × Obj)} (h : ∀ k o, (k, o) ∈ kob → w.heap[k]? = some o ∧ o.isCells = false) (hh : w.heap[b]? = some (.cells cs ty hd)) {k : Nat} {ob : Obj} (hk : (k, ob) ∈ kob) :
    (w.setCell ⟨b, o, none⟩ v).heap[k]? = some ob ∧ ob.isCells = false := by
  obtain ⟨h1, h2⟩ := h k ob hk
  refine ⟨(Below.heap_setCell _ _ _ _ fun e => ?_).trans h1, h2⟩
  subst e
  rw [hh] at h1; cases h1; simp [Obj.isCells] at h2
theorem Rel.setCell {L o n : Nat} {ty : TypeId} {x : SV} (h : Rel cx m g a w) (hb : g (.b L) = some (.sh ty n)) (ho : o < n) :
    Rel cx m (upd [(.c L o, some (.x x))] g) a (w.setCell ⟨m L, o, none⟩ (den m x)) := by
  obtain ⟨hB, cs, hsz, hh⟩ := h.blk L ty n hb
  refine ⟨h.size, h.defers.step (fun k o h1 h2 => (Below.heap_setCell _ _ _ _ fun e => by subst e; rw [hh] at h1; cases h1; simp [Obj.isCells] at h2).trans h1), fun i y hy => ?_, fun i b y hy => ?_, fun L' ty' n' hL => ?_, fun L' o' y hy => ?_, fun L' o' y hy => ?_, fun L1 L2 ty1 n1 ty2 n2 h1 h2 => ?_, fun L1 own C ty1 k cs1 hx => ?_, fun L1 own C ty1 k cs1 L' ty' n' hx hy => ?_, fun L1 C ty1 k cs1 L' own' C' ty' k' cs' hx hy => ?_, fun L1 C ty1 k cs1 hx => ?_, ?_, ?_, fun L b hb => by obtain ⟨h1, ty, n, h2⟩ := h.fix L b hb; exact ⟨h1, ty, n, by rw [upd_one, if_neg (by simp)]; exact h2⟩, fun l i x hx => by rw [upd_one, if_neg (by simp)] at hx; exact h.us l i x hx, fun k o hk => ko_set h.ko hh hk⟩
  · rw [upd_one, if_neg (by simp)] at hy; exact h.tm i y hy
  · rw [upd_one, if_neg (by simp)] at hy; exact h.tmc i b y hy
  · rw [upd_one, if_neg (by simp)] at hL
    obtain ⟨h1, cs', h2, h3⟩ := h.blk L' ty' n' hL
    obtain ⟨cs'', h4, h5⟩ := block_setCell (o := o) (v := den m x) hh h3
    exact ⟨h1, cs'', by rw [h4]; exact h2, h5⟩
  · rw [cell_setCell hh (by omega)]
    rw [upd_one] at hy
    by_cases e : Key.c L o = Key.c L' o'
    · rw [if_pos e] at hy
      cases e; cases hy
      simp
    · rw [if_neg e] at hy
      obtain ⟨ty', n', hL'⟩ := h.own L' o' y hy
      rw [if_neg]
      · exact h.cell L' o' y hy
      · rintro ⟨e1, rfl⟩
        exact e (by rw [h.inj L L' ty n ty' n' hb hL' e1])
  · rw [upd_one] at hy
    by_cases e : Key.c L o = Key.c L' o'
    · cases e
      exact ⟨ty, n, by rw [upd_one, if_neg (by simp)]; exact hb⟩
    · rw [if_neg e] at hy
      obtain ⟨ty', n', hL'⟩ := h.own L' o' y hy
      exact ⟨ty', n', by rw [upd_one, if_neg (by simp)]; exact hL'⟩
  · rw [upd_one, if_neg (by simp)] at h1 h2; exact h.inj L1 L2 ty1 n1 ty2 n2 h1 h2
  · rw [upd_one, if_neg (by simp)] at hx
    refine (h.vec L1 own C ty1 k cs1 hx).same fun hc => ?_
    exact Below.heap_setCell _ _ _ _ (h.sep L1 own C ty1 k cs1 L ty n hx hb hc)
  · rw [upd_one, if_neg (by simp)] at hx hy; exact h.sep L1 own C ty1 k cs1 L' ty' n' hx hy
  · rw [upd_one, if_neg (by simp)] at hx hy; exact h.sepR L1 C ty1 k cs1 L' own' C' ty' k' cs' hx hy
  · rw [upd_one, if_neg (by simp)] at hx; exact h.ownR L1 C ty1 k cs1 hx
  · exact h.held.setCell (p := ⟨m L, o, none⟩) hB _
  · simpa [World.setCell] using h.top
theorem mentions_x {L : Nat} {k : Key} {x : SV} {b : Bool} : (mentions L k (some (.x x)) = false → x.has L = false) ∧ (mentions L k (some (.xc b x)) = false → x.has L = false) := by
  constructor <;> intro h <;> simp only [mentions, Bool.or_eq_false_iff] at h <;> exact h.1
theorem Rel.alloc {L : Nat} {ty : TypeId} {cs : List SV} {cells : Array Value} (h : Rel cx m g a w) (hf : ∀ k, mentions L k (g k) = false) (hL : hasL L cs = false)
    (hc : cells = (denL m cs).toArray) :
    Rel cx (setL m L w.heap.size) (upd ((.b L, some (.sh ty cs.length)) :: cellsUp L 0 cs) g) a (w.alloc (.cells cells ty)) := by
  have hB : ∀ l, l < w.heap.size → (w.alloc (.cells cells ty)).heap[l]? = w.heap[l]? := fun l hl => Below.heap_alloc _ _ _ hl
  have hnew : (w.alloc (.cells cells ty)).heap[w.heap.size]? = some (.cells cells ty (0, 0)) := by
    show (w.heap.push _)[w.heap.size]? = _
    simp
  have hx : ∀ {k x}, g k = some (.x x) → den (setL m L w.heap.size) x = den m x := fun {k x} hk => den_setL (by have := hf k; rw [hk] at this; exact (mentions_x (b := true)).1 this)
  have hxc : ∀ {k b x}, g k = some (.xc b x) → den (setL m L w.heap.size) x = den m x := fun {k b x} hk => den_setL (by have := hf k; rw [hk] at this; exact (mentions_x (b := b)).2 this)
  have hgb : ∀ {L' ty' n'}, g (.b L') = some (.sh ty' n') → L' ≠ L := fun {L' ty' n'} hk e => by
    have := hf (.b L'); rw [hk] at this; simp [mentions, e] at this
  have hgr : ∀ {L' own C ty' k cs'}, g (.r L') = some (.vec own C ty' k cs') → L' ≠ L ∧ C ≠ L := fun {L' own C ty' k cs'} hk => by
    have := hf (.r L')
    rw [hk] at this
    simp only [mentions, Bool.or_eq_false_iff] at this
    exact ⟨fun e => by subst e; simp at this, fun e => by subst e; simp at this⟩
  have key : ∀ k, upd ((.b L, some (.sh ty cs.length)) :: cellsUp L 0 cs) g k = match k with
      | .b L' => if L' = L then some (.sh ty cs.length) else g k
      | .c L' o => if L' = L ∧ o < cs.length then (cs[o]?).map Val.x else g k
      | _ => g k := by
    intro k
    simp only [upd]
    rw [upd_cellsUp]
    cases k with
    | t i => rfl
    | b L' =>
      by_cases e : L' = L
      · subst e; simp [Key.eqb]
      · have : Key.eqb (.b L) (.b L') = false := Key.eqb_false (by simpa using Ne.symm e)
        simp [this, e]
    | c L' o => simp [Key.eqb]
    | r L' => simp [Key.eqb]
    | u l i => simp [Key.eqb]
    | a => simp [Key.eqb]
  refine ⟨h.size, h.defers.step (fun k o h1 _ => (hB _ (Array.getElem?_eq_some_iff.1 h1).1).trans h1), fun i y hy => ?_, fun i b y hy => ?_, fun L' ty' n' hL' => ?_, fun L' o' y hy => ?_, fun L' o' y hy => ?_, fun L1 L2 ty1 n1 ty2 n2 h1 h2 he => ?_, fun L1 own C ty1 k cs1 hx => ?_, fun L1 own C ty1 k cs1 L' ty' n' hx hy hc => ?_, fun L1 C ty1 k cs1 L' own' C' ty' k' cs' hx hy hne hc hc' => ?_, fun L1 C ty1 k cs1 hx hc => ?_, ?_, ?_, fun L1 b hb => ?_, fun l i y hy => ?_, fun k o hk => ?_⟩
  · rw [key] at hy; rw [hx hy]; exact h.tm i y hy
  · rw [key] at hy; rw [hxc hy]; exact h.tmc i b y hy
  · rw [key] at hL'
    by_cases e : L' = L
    · subst e
      simp only [if_true, Option.some.injEq, Val.sh.injEq] at hL'
      obtain ⟨rfl, rfl⟩ := hL'
      rw [setL_self]
      exact ⟨.inl h.top, cells, by rw [hc]; simp [denL_length], hnew⟩
    · simp only [e, if_false] at hL'
      obtain ⟨h1, cs', h2, h3⟩ := h.blk L' ty' n' hL'
      rw [setL_ne _ _ e]
      exact ⟨h1, cs', h2, by rw [hB _ (Array.getElem?_eq_some_iff.1 h3).1]; exact h3⟩
  · rw [key] at hy
    by_cases e : L' = L
    · subst e
      by_cases ho : o' < cs.length
      · simp only [ho, and_self, if_true] at hy
        have hget : cs[o']? = some cs[o'] := List.getElem?_eq_getElem ho
        rw [hget] at hy
        simp only [Option.map_some, Option.some.injEq, Val.x.injEq] at hy
        subst hy
        have hl : cs[o'].has L' = false := by
          have : ∀ (l : List SV), hasL L' l = false → ∀ x ∈ l, x.has L' = false := by
            intro l
            induction l with
            | nil => intro _ x hx; cases hx
            | cons z l ih =>
              intro hz x hx
              simp only [hasL, Bool.or_eq_false_iff] at hz
              cases hx with
              | head => exact hz.1
              | tail _ hx => exact ih hz.2 x hx
          exact this cs hL _ (List.getElem_mem ho)
        rw [den_setL hl, setL_self]
        have hcell : cells[o']? = some (den m cs[o']) := by
          rw [hc, List.getElem?_toArray, denL_get, hget, Option.map_some]
        simp only [World.cell?, hnew, Option.isSome_none, Bool.false_eq_true, if_false, hcell]
      · simp only [ho, and_false, if_false] at hy
        obtain ⟨ty', n', hL'⟩ := h.own L' o' y hy
        exact absurd rfl (hgb hL')
    · simp only [e, false_and, if_false] at hy
      obtain ⟨ty', n', hL'⟩ := h.own L' o' y hy
      obtain ⟨h1, cs', h2, h3⟩ := h.blk L' ty' n' hL'
      rw [hx hy, setL_ne _ _ e]
      have := h.cell L' o' y hy
      simp only [World.cell?] at this ⊢
      rw [hB _ (Array.getElem?_eq_some_iff.1 h3).1]
      exact this
  · rw [key] at hy
    by_cases e : L' = L
    · subst e
      exact ⟨ty, cs.length, by rw [key]; simp⟩
    · simp only [e, false_and, if_false] at hy
      obtain ⟨ty', n', hL'⟩ := h.own L' o' y hy
      exact ⟨ty', n', by rw [key]; simp [e, hL']⟩
  · rw [key] at h1 h2
    have old : ∀ {l ty' n'}, g (.b l) = some (.sh ty' n') → m l < w.heap.size := fun {l ty' n'} hl => by
      obtain ⟨_, cs', _, h3⟩ := h.blk l ty' n' hl
      exact (Array.getElem?_eq_some_iff.1 h3).1
    by_cases e1 : L1 = L <;> by_cases e2 : L2 = L
    · rw [e1, e2]
    · subst e1
      simp only [e2, if_false] at h2
      have := old h2
      rw [setL_self, setL_ne _ _ e2] at he
      omega
    · subst e2
      simp only [e1, if_false] at h1
      have := old h1
      rw [setL_self, setL_ne _ _ e1] at he
      omega
    · simp only [e1, e2, if_false] at h1 h2
      rw [setL_ne _ _ e1, setL_ne _ _ e2] at he
      exact h.inj L1 L2 _ _ _ _ h1 h2 he
  · rw [key] at hx
    obtain ⟨e1, e2⟩ := hgr hx
    rw [setL_ne _ _ e1, setL_ne _ _ e2]
    have := h.vec L1 own C ty1 k cs1 hx
    exact this.same fun hc => hB _ (this.lt hc)
  · rw [key] at hx hy
    obtain ⟨e1, e2⟩ := hgr hx
    rw [setL_ne _ _ e2] at hc
    rw [setL_ne _ _ e1]
    have hlt := (h.vec L1 own C ty1 k cs1 hx).lt hc
    by_cases e : L' = L
    · subst e; rw [setL_self]; omega
    · simp only [e, if_false] at hy
      rw [setL_ne _ _ e]
      exact h.sep L1 own C ty1 k cs1 L' ty' n' hx hy hc
  · rw [key] at hx hy
    obtain ⟨e1, e2⟩ := hgr hx
    obtain ⟨e3, e4⟩ := hgr hy
    rw [setL_ne _ _ e2] at hc
    rw [setL_ne _ _ e4] at hc'
    rw [setL_ne _ _ e1, setL_ne _ _ e3]
    exact h.sepR L1 C ty1 k cs1 L' own' C' ty' k' cs' hx hy hne hc hc'
  · rw [key] at hx
    obtain ⟨e1, e2⟩ := hgr hx
    rw [setL_ne _ _ e2] at hc
    rw [setL_ne _ _ e1]
    exact h.ownR L1 C ty1 k cs1 hx hc
  · exact h.held.alloc h.top _
  · have := h.top
    show cx.B ≤ (w.heap.push _).size
    simp only [Array.size_push]
    omega
  · obtain ⟨h1, ty1, n1, h2⟩ := h.fix L1 b hb
    have hne := hgb h2
    exact ⟨by rw [setL_ne _ _ hne]; exact h1, ty1, n1, by rw [key]; simp only [hne, if_false]; exact h2⟩
  · rw [key] at hy; rw [hx hy]; exact h.us l i y hy
  · obtain ⟨h1, h2⟩ := h.ko k o hk
    exact ⟨(hB _ (Array.getElem?_eq_some_iff.1 h1).1).trans h1, h2⟩
end
end Go.AX
/-
  The core, third part: each kind of operation as a step of the symbolic state (OpRun), and the ways in which a guard lets it run (OpOK).
-/
namespace Go.AX
open Go Go.RowKit
def OpRun (cx : Cx) (o : Oper) (s : Map) (row : Row) : Prop :=
  ∀ (m : Nat → Nat) (a : Act) (w : World) (g : Map), (∀ k, row.reads k = true → g k = s k) → (∀ L ∈ row.nw, ∀ k, mentions L k (g k) = false) → Rel cx m g a w →
    ∀ (K : Act → World → Prop) (Q : Exit → Act → World → Prop), (∀ m' a' w', Rel cx m' (upd row.up g) a' w' → K a' w') → o.wpIn cx.F 0 cx.P a w K Q
/-! ### Guards -/
section
variable {cx : Cx} {ops : Array Oper} {i : Nat} {o : Oper} {s : Map} {row : Row}
theorem okp (ho : ops[i]? = some o) (hg : o.guard = none) (h : OpRun cx o s row) : OpOK cx ops i s row := by
  intro m a w g hr hf hrel K Q hK
  simp only [wpOpIn, ho, Region.wanted, hg, if_true]
  exact h m a w g hr hf hrel K Q hK
theorem reads_cons {k k' : Key} {rd : List Key} {up : St} {nw : List Nat} (h : Row.reads ⟨rd, up, nw⟩ k = true) : Row.reads ⟨k' :: rd, up, nw⟩ k = true := by
  simp only [Row.reads, List.any_cons, Bool.or_eq_true] at *
  exact .inr h
theorem reads_head {k : Key} {rd : List Key} {up : St} {nw : List Nat} : Row.reads ⟨k :: rd, up, nw⟩ k = true := by
  simp [Row.reads, Key.eqb_self]
theorem yielded_of {a : Act} {w : World} {m : Nat → Nat} {g : Map} {j dj : Nat} {oj : Oper} {c : Bool} (hrel : Rel cx m g a w) (hj : ops[j]? = some oj) (hd : oj.dst = some dj)
    (hc : g (.t dj) = some (.x (.v (.bool c)))) : yielded ops a.tmps j = some c := by
  have := hrel.tm dj _ hc
  simp only [yielded, hj, Option.bind_some, hd, this, den]
theorem oqy {j dj : Nat} {oj : Oper} {c want : Bool} {rd : List Key} {up : St} {nw : List Nat} (ho : ops[i]? = some o) (hg : o.guard = some (j, want)) (hj : ops[j]? = some oj) (hd : oj.dst = some dj)
    (hc : s (.t dj) = some (.x (.v (.bool c)))) (hw : c = want) (h : OpRun cx o s ⟨rd, up, nw⟩) : OpOK cx ops i s ⟨.t dj :: rd, up, nw⟩ := by
  intro m a w g hr hf hrel K Q hK
  have hy := yielded_of hrel hj hd (by rw [hr _ reads_head]; exact hc)
  have hwant : Region.wanted o (yielded ops a.tmps) = true := by simp [Region.wanted, hg, hy, hw]
  simp only [wpOpIn, ho, hwant, if_true]
  exact h m a w g (fun k hk => hr k (reads_cons hk)) hf hrel K Q hK
def forceV (k : Key) (v : Option Val) : Option Val :=
  match k, v with
  | .t _, some (.xc b x) => bif b then some (.x x) else some (.xc b x)
  | _, v => v
def forceM (s : Map) : Map := fun k => forceV k (s k)
theorem force_eq {i : Nat} {b : Bool} {x : SV} (hb : b = true) (h : s (.t i) = some (.xc b x)) : forceM s (.t i) = some (.x x) := by simp only [forceM, forceV, h, hb, cond_true]
theorem force_x {k : Key} {x : SV} (h : s k = some (.x x)) : forceM s k = some (.x x) := by simp only [forceM, forceV, h]
theorem Rel.force {m : Nat → Nat} {g : Map} {a : Act} {w : World} (h : Rel cx m g a w) : Rel cx m (forceM g) a w := by
  refine ⟨h.size, h.defers, fun i x hx => ?_, fun i b x hx => ?_, fun L ty n hL => h.blk L ty n hL, fun L o x hx => h.cell L o x hx, fun L o x hx => h.own L o x hx,
    fun L L' ty n ty' n' h1 h2 => h.inj L L' ty n ty' n' h1 h2, fun L own C ty k cs hx => h.vec L own C ty k cs hx, fun L own C ty k cs L' ty' n' hx hy => h.sep L own C ty k cs L' ty' n' hx hy,
    fun L C ty k cs L' own' C' ty' k' cs' hx hy => h.sepR L C ty k cs L' own' C' ty' k' cs' hx hy, fun L C ty k cs hx => h.ownR L C ty k cs hx, h.held, h.top, fun L b hb => h.fix L b hb, fun l i x hx => h.us l i x hx, h.ko⟩
  · simp only [forceM] at hx
    cases hg : g (.t i) with
    | none => rw [hg] at hx; cases hx
    | some v =>
      rw [hg] at hx
      cases v with
      | x y => exact h.tm i x (by rw [hg]; exact hx)
      | sh _ _ => cases hx
      | vec _ _ _ _ _ => cases hx
      | xc b y =>
        cases b with
        | false => cases hx
        | true => simp only [forceV, cond_true, Option.some.injEq, Val.x.injEq] at hx; subst hx; exact h.tmc i true y hg
  · simp only [forceM] at hx
    cases hg : g (.t i) with
    | none => rw [hg] at hx; cases hx
    | some v =>
      rw [hg] at hx
      cases v with
      | x y => cases hx
      | sh _ _ => cases hx
      | vec _ _ _ _ _ => cases hx
      | xc b' y =>
        cases b' with
        | true => cases hx
        | false => exact h.tmc i b x (by rw [hg]; exact hx)
theorem Rel.unforce {m : Nat → Nat} {g : Map} {a : Act} {w : World} (h : Rel cx m (forceM g) a w) : Rel cx m g a w := by
  refine ⟨h.size, h.defers, fun i x hx => h.tm i x (force_x hx), fun i b x hx => ?_, fun L ty n hL => h.blk L ty n hL, fun L o x hx => h.cell L o x hx, fun L o x hx => h.own L o x hx,
    fun L L' ty n ty' n' h1 h2 => h.inj L L' ty n ty' n' h1 h2, fun L own C ty k cs hx => h.vec L own C ty k cs hx, fun L own C ty k cs L' ty' n' hx hy => h.sep L own C ty k cs L' ty' n' hx hy,
    fun L C ty k cs L' own' C' ty' k' cs' hx hy => h.sepR L C ty k cs L' own' C' ty' k' cs' hx hy, fun L C ty k cs hx => h.ownR L C ty k cs hx, h.held, h.top, fun L b hb => h.fix L b hb, fun l i x hx => h.us l i x hx, h.ko⟩
  cases b with
  | true => exact h.tm i x (force_eq rfl hx)
  | false => exact h.tmc i false x (by simp only [forceM, forceV, hx, cond_false])
theorem yielded_undef {a : Act} {w : World} {m : Nat → Nat} {g : Map} {j dj : Nat} {oj : Oper} {x : SV} (hrel : Rel cx m g a w) (hj : ops[j]? = some oj) (hd : oj.dst = some dj)
    (hc : g (.t dj) = some (.xc false x)) : yielded ops a.tmps j = none := by
  have := hrel.tmc dj _ _ hc
  simp only [cond_false] at this
  simp only [yielded, hj, Option.bind_some, hd, this, undef]
theorem wanted_iff {a : Act} {w : World} {m : Nat → Nat} {g : Map} {j dj : Nat} {oj : Oper} {b0 c want : Bool} (hrel : Rel cx m g a w) (hg : o.guard = some (j, want)) (hj : ops[j]? = some oj) (hd : oj.dst = some dj)
    (hc : g (.t dj) = some (.xc b0 (.v (.bool c)))) : Region.wanted o (yielded ops a.tmps) = (b0 && (c == want)) := by
  cases b0 with
  | true =>
    have := hrel.tmc dj _ _ hc
    simp only [cond_true, den] at this
    have hy : yielded ops a.tmps j = some c := by simp only [yielded, hj, Option.bind_some, hd, this]
    simp only [Region.wanted, hg, hy, Bool.true_and]
    cases c <;> cases want <;> rfl
  | false =>
    have hy := yielded_undef hrel hj hd hc
    simp [Region.wanted, hg, hy]
theorem ok_ifC {j dj d : Nat} {oj : Oper} {b0 c want : Bool} {x : SV} {rd : List Key} (hN : d < cx.N) (ho : ops[i]? = some o) (hod : o.dst = some d) (hg : o.guard = some (j, want)) (hj : ops[j]? = some oj) (hd : oj.dst = some dj)
    (hc : s (.t dj) = some (.xc b0 (.v (.bool c)))) (h : (b0 && (c == want)) = true → OpRun cx o (forceM s) ⟨rd, [(.t d, some (.x x))], []⟩) :
    OpOK cx ops i s ⟨.t dj :: rd, [(.t d, some (.xc (b0 && (c == want)) x))], []⟩ := by
  intro m a w g hr hf hrel K Q hK
  have hwant := wanted_iff hrel hg hj hd (by rw [hr _ reads_head]; exact hc)
  cases e : (b0 && (c == want)) with
  | true =>
    rw [e] at hwant
    simp only [wpOpIn, ho, hwant, if_true]
    refine h e m a w (forceM g) (fun k hk => ?_) (fun L hL => by cases hL) hrel.force K Q (fun m' a' w' h' => hK m' a' w' ?_)
    · have := hr k (reads_cons hk)
      simp only [forceM, this]
    · refine Rel.unforce (h'.congr (fun k => ?_))
      simp only [forceM]
      rw [upd_one, upd_one]
      by_cases ek : Key.t d = k
      · subst ek; simp [forceV, e]
      · rw [if_neg ek, if_neg ek]; rfl
  | false =>
    rw [e] at hwant
    simp only [wpOpIn, ho, hwant]
    exact ⟨fun _ _ => trivial, hK m _ w (by rw [hod]; exact hrel.putC hN (by rw [e]; rfl))⟩
theorem ok_if {j dj d : Nat} {oj : Oper} {c want : Bool} {x : SV} {rd : List Key} (hN : d < cx.N) (ho : ops[i]? = some o) (hod : o.dst = some d) (hg : o.guard = some (j, want)) (hj : ops[j]? = some oj) (hd : oj.dst = some dj)
    (hc : s (.t dj) = some (.x (.v (.bool c)))) (h : c = want → OpRun cx o (forceM s) ⟨rd, [(.t d, some (.x x))], []⟩) :
    OpOK cx ops i s ⟨.t dj :: rd, [(.t d, some (.xc (c == want) x))], []⟩ := by
  intro m a w g hr hf hrel K Q hK
  have hy := yielded_of hrel hj hd (by rw [hr _ reads_head]; exact hc)
  by_cases e : c = want
  · have hwant : Region.wanted o (yielded ops a.tmps) = true := by simp [Region.wanted, hg, hy, e]
    simp only [wpOpIn, ho, hwant, if_true]
    refine h e m a w (forceM g) (fun k hk => ?_) (fun L hL => by cases hL) hrel.force K Q (fun m' a' w' h' => hK m' a' w' ?_)
    · have := hr k (reads_cons hk)
      simp only [forceM, this]
    · refine Rel.unforce (h'.congr (fun k => ?_))
      simp only [forceM]
      rw [upd_one, upd_one]
      by_cases ek : Key.t d = k
      · subst ek; simp [forceV, e]
      · rw [if_neg ek, if_neg ek]; rfl
  · have hwant : Region.wanted o (yielded ops a.tmps) = false := by simp [Region.wanted, hg, hy, e]
    simp only [wpOpIn, ho, hwant]
    exact ⟨fun _ _ => trivial, hK m _ w (by rw [hod]; exact hrel.putC hN (by rw [show (c == want) = false by simpa using e]; rfl))⟩
end
/-! ### Operands -/
def Ev (s : Map) : Operand → SV → Prop
  | .tmp t, v => s (.t t) = some (.x v)
  | .const c, v => v = .v c
  | .global g, v => v = .v (.pointer (some ⟨g, 0, none⟩))
  | .func f, v => v = .v (.func (.func f) #[] #[])
def okeys : Operand → List Key
  | .tmp t => [.t t]
  | _ => []
def EvL (s : Map) : List Operand → List SV → Prop
  | [], xs => xs = []
  | x :: r, xs => ∃ v vs, xs = v :: vs ∧ Ev s x v ∧ EvL s r vs
theorem EvL.nil {s : Map} : EvL s [] [] := rfl
theorem EvL.cons {s : Map} {x : Operand} {r : List Operand} {v : SV} {vs : List SV} (h : Ev s x v) (hs : EvL s r vs) : EvL s (x :: r) (v :: vs) := ⟨v, vs, rfl, h, hs⟩
def okeysL : List Operand → List Key
  | [] => []
  | x :: r => okeys x ++ okeysL r
section
variable {cx : Cx} {o : Oper} {s g : Map} {m : Nat → Nat} {a : Act} {w : World}
theorem reads_mem {k : Key} {rd : List Key} {up : St} {nw : List Nat} (h : k ∈ rd) : Row.reads ⟨rd, up, nw⟩ k = true := by
  simp only [Row.reads, List.any_eq_true]
  exact ⟨k, h, by simp [Key.eqb_self]⟩
theorem Ev.eval {x : Operand} {v : SV} (h : Rel cx m g a w) (hx : Ev s x v) (he : ∀ k ∈ okeys x, g k = s k) : a.eval x = den m v := by
  cases x with
  | tmp t =>
    have := h.tm t v (by rw [he _ (by simp [okeys])]; exact hx)
    simp [Act.eval, this]
  | const c => rw [show v = .v c from hx]; rfl
  | global g' => rw [show v = .v (.pointer (some ⟨g', 0, none⟩)) from hx]; rfl
  | func f => rw [show v = .v (.func (.func f) #[] #[]) from hx]; rfl
theorem EvL.eval (h : Rel cx m g a w) : ∀ {xs : List Operand} {vs : List SV}, EvL s xs vs → (∀ k ∈ okeysL xs, g k = s k) → xs.map a.eval = denL m vs := by
  intro xs
  induction xs with
  | nil => intro vs hx _; rw [show vs = [] from hx]; rfl
  | cons x r ih =>
    intro vs hx he
    obtain ⟨v, vs', rfl, h1, h2⟩ := hx
    simp only [List.map_cons, denL]
    rw [h1.eval h (fun k hk => he k (by simp [okeysL, hk])), ih h2 (fun k hk => he k (by simp [okeysL, hk]))]
theorem semAt_of (r : Option Nat) (a : Act) (h : ∀ c, o.op ≠ .defer c) : o.semAt r a.eval = execOp a.eval o := Oper.semAt_eq r a.eval o h
theorem op_core {d : Nat} {x : SV} {rd : List Key} (hd : o.dst = some d) (hN : d < cx.N) (hdf : ∀ c, o.op ≠ .defer c)
    (h : ∀ (m : Nat → Nat) (a : Act) (w : World) (g : Map), (∀ k ∈ rd, g k = s k) → Rel cx m g a w → ∃ w', (execOp a.eval o).run cx.P w = .ok (.value (den m x)) w' ∧ Below w.heap.size w w') :
    OpRun cx o s ⟨rd, [(.t d, some (.x x))], []⟩ := by
  intro m a w g hr hf hrel K Q hK
  obtain ⟨w', hrun, hb⟩ := h m a w g (fun k hk => hr k (reads_mem hk)) hrel
  refine ⟨fun _ _ => trivial, ?_⟩
  rw [semAt_of _ _ hdf, hrun, Oper.uponIn_value, hd]
  exact hK m _ w' ((hrel.world hb).put hN rfl)
theorem op_pure {d : Nat} {x : SV} {rd : List Key} (hd : o.dst = some d) (hN : d < cx.N) (hdf : ∀ c, o.op ≠ .defer c)
    (h : ∀ (m : Nat → Nat) (a : Act) (w : World) (g : Map), (∀ k ∈ rd, g k = s k) → Rel cx m g a w → (execOp a.eval o).run cx.P w = .ok (.value (den m x)) w) :
    OpRun cx o s ⟨rd, [(.t d, some (.x x))], []⟩ :=
  op_core hd hN hdf fun m a w g hr hrel => ⟨w, h m a w g hr hrel, Below.refl _ _⟩
variable {d : Nat} {type : TypeId} {pos : String} {after : Array Edge} {guard : Option (Nat × Bool)}
theorem oqM {x : Operand} {v : SV} (hN : d < cx.N) (hx : Ev s x v) : OpRun cx ⟨some d, .move x, type, pos, after, guard⟩ s ⟨okeys x, [(.t d, some (.x v))], []⟩ :=
  op_pure rfl hN (by simp) fun m a w g hr hrel => by
    simp only [execOp]
    rw [hx.eval hrel hr]
    rfl
theorem oqA {x : Operand} {v : SV} (hN : d < cx.N) (hx : Ev s x v) : OpRun cx ⟨some d, .assign x, type, pos, after, guard⟩ s ⟨okeys x, [(.t d, some (.x v))], []⟩ :=
  op_pure rfl hN (by simp) fun m a w g hr hrel => by
    simp only [execOp]
    rw [hx.eval hrel hr]
    rfl
theorem op_and {tc tx : Nat} {c b : Bool} (hN : d < cx.N) (hc : s (.t tc) = some (.x (.v (.bool c)))) (hx : s (.t tx) = some (.xc (c == true) (.v (.bool b))))  :
    OpRun cx ⟨some d, .pick (.tmp tc) (.tmp tx) (.const (.bool false)), type, pos, after, guard⟩ s ⟨[.t tc, .t tx], [(.t d, some (.x (.v (.bool (c && b)))))], []⟩ :=
  op_pure rfl hN (by simp) fun m a w g hr hrel => by
    have h1 := hrel.tm tc _ (by rw [hr _ (by simp)]; exact hc)
    have h2 := hrel.tmc tx _ _ (by rw [hr _ (by simp)]; exact hx)
    cases c with
    | true => simp only [BEq.rfl, cond_true] at h2; simp [execOp, Act.eval, h1, h2, den, asBool]
    | false => simp [execOp, Act.eval, h1, den, asBool]
theorem op_or {tc tx : Nat} {c b : Bool} (hN : d < cx.N) (hc : s (.t tc) = some (.x (.v (.bool c)))) (hx : s (.t tx) = some (.xc (c == false) (.v (.bool b))))  :
    OpRun cx ⟨some d, .pick (.tmp tc) (.const (.bool true)) (.tmp tx), type, pos, after, guard⟩ s ⟨[.t tc, .t tx], [(.t d, some (.x (.v (.bool (c || b)))))], []⟩ :=
  op_pure rfl hN (by simp) fun m a w g hr hrel => by
    have h1 := hrel.tm tc _ (by rw [hr _ (by simp)]; exact hc)
    have h2 := hrel.tmc tx _ _ (by rw [hr _ (by simp)]; exact hx)
    cases c with
    | true => simp [execOp, Act.eval, h1, den, asBool]
    | false => simp only [BEq.rfl, cond_true] at h2; simp [execOp, Act.eval, h1, h2, den, asBool]
theorem oqP {c x y : Operand} {v : SV} (hN : d < cx.N) (hc : Ev s c (.v (.bool true))) (hx : Ev s x v) :
    OpRun cx ⟨some d, .pick c x y, type, pos, after, guard⟩ s ⟨okeys c ++ okeys x, [(.t d, some (.x v))], []⟩ :=
  op_pure rfl hN (by simp) fun m a w g hr hrel => by
    have h1 := hc.eval hrel (fun k hk => hr k (by simp [hk]))
    have h2 := hx.eval hrel (fun k hk => hr k (by simp [hk]))
    simp [execOp, h1, h2, den, asBool]
/-! ### Numbers -/
def binInt (op : BinOp) (k : IntKind) (a b : Int) : Option Value :=
  match op with
  | .add => some (.int k (k.wrap (a + b)))
  | .sub => some (.int k (k.wrap (a - b)))
  | .mul => some (.int k (k.wrap (a * b)))
  | .eql => some (.bool (a == b))
  | .neq => some (.bool (a != b))
  | .lss => some (.bool (decide (a < b)))
  | .leq => some (.bool (decide (a ≤ b)))
  | .gtr => some (.bool (decide (a > b)))
  | .geq => some (.bool (decide (a ≥ b)))
  | _ => none
theorem oqB {op : BinOp} {ty ty' : TypeId} {x y : Operand} {k : IntKind} {n p : Int} {r : Value} (hN : d < cx.N) (hx : Ev s x (.v (.int k n))) (hy : Ev s y (.v (.int k p))) (h : binInt op k n p = some r) :
    OpRun cx ⟨some d, .binOp op ty x y ty', type, pos, after, guard⟩ s ⟨okeys x ++ okeys y, [(.t d, some (.x (.v r)))], []⟩ :=
  op_pure rfl hN (by simp) fun m a w g hr hrel => by
    have h1 := hx.eval hrel (fun k hk => hr k (by simp [hk]))
    have h2 := hy.eval hrel (fun k hk => hr k (by simp [hk]))
    cases op <;> simp only [binInt, Option.some.injEq, reduceCtorEq] at h <;> subst h <;>
      simp [execOp, h1, h2, den, eqGuard, binOp, Op.intArith, Op.intCmp]
def I64 (n : Int) : Prop := -9223372036854775808 ≤ n ∧ n ≤ 9223372036854775807
theorem wrap_of {n : Int} (h : I64 n) : IntKind.i64.wrap n = n := IntWalk.i64_in n h
theorem nw_add {n p : Int} (h : I64 (n + p)) : binInt .add .i64 n p = some (.int .i64 (n + p)) := by simp only [binInt, wrap_of h]
theorem nw_sub {n p : Int} (h : I64 (n - p)) : binInt .sub .i64 n p = some (.int .i64 (n - p)) := by simp only [binInt, wrap_of h]
theorem nw_mul {n p : Int} (h : I64 (n * p)) : binInt .mul .i64 n p = some (.int .i64 (n * p)) := by simp only [binInt, wrap_of h]
theorem op_quo {ty ty' : TypeId} {x y : Operand} {k : IntKind} {n p : Int} {r : Int} (hN : d < cx.N) (hx : Ev s x (.v (.int k n))) (hy : Ev s y (.v (.int k p))) (hp : p ≠ 0) (hr' : k.wrap (n.tdiv p) = r) :
    OpRun cx ⟨some d, .binOp .quo ty x y ty', type, pos, after, guard⟩ s ⟨okeys x ++ okeys y, [(.t d, some (.x (.v (.int k r))))], []⟩ :=
  op_pure rfl hN (by simp) fun m a w g hr hrel => by
    have h1 := hx.eval hrel (fun k hk => hr k (by simp [hk]))
    have h2 := hy.eval hrel (fun k hk => hr k (by simp [hk]))
    simp [execOp, h1, h2, den, eqGuard, binOp, Op.intDiv, hp, hr']
theorem op_rem {ty ty' : TypeId} {x y : Operand} {k : IntKind} {n p : Int} {r : Int} (hN : d < cx.N) (hx : Ev s x (.v (.int k n))) (hy : Ev s y (.v (.int k p))) (hp : p ≠ 0) (hr' : n.tmod p = r) :
    OpRun cx ⟨some d, .binOp .rem ty x y ty', type, pos, after, guard⟩ s ⟨okeys x ++ okeys y, [(.t d, some (.x (.v (.int k r))))], []⟩ :=
  op_pure rfl hN (by simp) fun m a w g hr hrel => by
    have h1 := hx.eval hrel (fun k hk => hr k (by simp [hk]))
    have h2 := hy.eval hrel (fun k hk => hr k (by simp [hk]))
    simp [execOp, h1, h2, den, eqGuard, binOp, Op.intDiv, hp, hr']
theorem oqn {ty : TypeId} {x : Operand} {b : Bool} (hN : d < cx.N) (hx : Ev s x (.v (.bool b))) :
    OpRun cx ⟨some d, .unOp .not ty x, type, pos, after, guard⟩ s ⟨okeys x, [(.t d, some (.x (.v (.bool (!b)))))], []⟩ :=
  op_pure rfl hN (by simp) fun m a w g hr hrel => by
    have h1 := hx.eval hrel hr
    simp [execOp, h1, den, Op.unary]
theorem op_eqv {op : BinOp} {ty ty' : TypeId} {x y : Operand} {v u : SV} {r : Bool} (hN : d < cx.N) (hx : Ev s x v) (hy : Ev s y u)
    (h : ∀ (m : Nat → Nat) (w : World), (do eqGuard op ty x y (den m v) (den m u); binOp op ty (den m v) (den m u) : Sem Value).run cx.P w = .ok (.bool r) w) :
    OpRun cx ⟨some d, .binOp op ty x y ty', type, pos, after, guard⟩ s ⟨okeys x ++ okeys y, [(.t d, some (.x (.v (.bool r))))], []⟩ :=
  op_pure rfl hN (by simp) fun m a w g hr hrel => by
    have h1 := hx.eval hrel (fun k hk => hr k (by simp [hk]))
    have h2 := hy.eval hrel (fun k hk => hr k (by simp [hk]))
    have h3 := h m w
    simp only [Sem.run_bind, Result.andThen] at h3
    simp only [execOp, h1, h2, den]
    simp only [Sem.run_bind, Result.andThen]
    cases he : (eqGuard op ty x y (den m v) (den m u)).run cx.P w with
    | halt e w' => rw [he] at h3; cases h3
    | ok q w' =>
      rw [he] at h3
      simp only [] at h3 ⊢
      rw [h3]
      simp
theorem op_convInt {src dst : TypeId} {x : Operand} {k k' : IntKind} {n r : Int} (hN : d < cx.N) (hs : ∃ ds, cx.P.underlying src = some ds) (hu : cx.P.underlying dst = some (.int k')) (hx : Ev s x (.v (.int k n))) (h : k'.wrap n = r) :
    OpRun cx ⟨some d, .convert src dst x, type, pos, after, guard⟩ s ⟨okeys x, [(.t d, some (.x (.v (.int k' r))))], []⟩ :=
  op_pure rfl hN (by simp) fun m a w g hr hrel => by
    have h1 := hx.eval hrel hr
    obtain ⟨ds, hs⟩ := hs
    subst h
    simp [execOp, h1, den, convert, run_underlying hs, run_underlying hu, Conv.intToInt]
theorem oqx {x : Operand} {l : List SV} {i : Nat} {v : SV} (hN : d < cx.N) (hx : Ev s x (.t l)) (h : l[i]? = some v) :
    OpRun cx ⟨some d, .extract x i, type, pos, after, guard⟩ s ⟨okeys x, [(.t d, some (.x v))], []⟩ :=
  op_pure rfl hN (by simp) fun m a w g hr hrel => by
    have h1 := hx.eval hrel hr
    have h2 : (denL m l)[i]? = some (den m v) := by rw [denL_get, h]; rfl
    simp [execOp, h1, den, Instr.extract, h2]
end
end Go.AX
/-
  The core, fourth part: operations on memory; calls.
-/
namespace Go.AX
open Go Go.RowKit
/-! ### What is asked of the program's types: closed facts -/
def fieldOff (P : Program) (ty : TypeId) (f : Nat) : Option Nat :=
  match P.underlying ty with
  | some (.struct fs) =>
    match fs[f]? with
    | some fl => match P.info? fl.type with
      | some i => if i.size = 0 then none else some fl.offset
      | none => none
    | none => none
  | _ => none
def shapeOf (P : Program) (ty : TypeId) : Option (Option Nat) :=
  match P.underlying ty with
  | some (.struct _) | some (.array _ _) => (P.info? ty).map (fun i => some i.size)
  | some _ => some none
  | none => none
def sizeIn (P : Program) (ty : TypeId) : Option Nat := (P.info? ty).map (·.size)
def sliceSz (P : Program) (ty : TypeId) : Option Nat :=
  match P.underlying ty with
  | some (.slice e) => (P.info? e).map (·.size)
  | _ => none
def zeroL (P : Program) (ty : TypeId) : Option (List Value) := ((P.info? ty).bind (·.zero)).map (fun v => v.cells.toList)
theorem addr_add (b o n : Nat) : (⟨b, o, none⟩ : Addr).add n = ⟨b, o + n, none⟩ := by
  unfold Addr.add
  split
  · rename_i h; subst h; rfl
  · rfl
section
variable {cx : Cx} {o : Oper} {s g : Map} {m : Nat → Nat} {a : Act} {w : World}
variable {d : Nat} {type : TypeId} {pos : String} {after : Array Edge} {guard : Option (Nat × Bool)}
theorem run_fieldAt {P : Program} {ty f off b o : Nat} (h : fieldOff P ty f = some off) (w : World) :
    (Instr.fieldAt ty (.pointer (some ⟨b, o, none⟩)) f).run P w = .ok (.pointer (some ⟨b, o + off, none⟩)) w := by
  unfold fieldOff at h
  split at h
  · rename_i fs hu
    split at h
    · rename_i fl hfl
      split at h
      · rename_i i hi
        split at h
        · cases h
        · rename_i hsz
          cases h
          simp [Instr.fieldAt, run_underlying hu, hfl, Instr.sureAddr, fieldPlace, sizeOf, typeInfo, hi, hsz, addr_add]
      · cases h
    · cases h
  · cases h
theorem oqF {ty f off L o' : Nat} {x : Operand} (hN : d < cx.N) (hx : Ev s x (.p L o')) (h : fieldOff cx.P ty f = some off) :
    OpRun cx ⟨some d, .fieldAddr ty x f, type, pos, after, guard⟩ s ⟨okeys x, [(.t d, some (.x (.p L (o' + off))))], []⟩ :=
  op_pure rfl hN (by simp) fun m a w g hr hrel => by
    have h1 := hx.eval hrel hr
    simp [execOp, h1, den, run_fieldAt h]
theorem oqG {ty f off b o' : Nat} {x : Operand} (hN : d < cx.N) (hx : Ev s x (.v (.pointer (some ⟨b, o', none⟩)))) (h : fieldOff cx.P ty f = some off) :
    OpRun cx ⟨some d, .fieldAddr ty x f, type, pos, after, guard⟩ s ⟨okeys x, [(.t d, some (.x (.v (.pointer (some ⟨b, o' + off, none⟩)))))], []⟩ :=
  op_pure rfl hN (by simp) fun m a w g hr hrel => by
    have h1 := hx.eval hrel hr
    simp [execOp, h1, den, run_fieldAt h]
theorem run_indexAt {P : Program} {ty b o sz len cap : Nat} {k : IntKind} {i : Int} (h : sliceSz P ty = some sz) (h0 : 0 ≤ i) (h1 : i < len) (w : World) :
    (Instr.indexAt ty (.slice (some ⟨b, o, none⟩) len cap) (.int k i)).run P w = .ok (.pointer (some ⟨b, o + i.toNat * sz, none⟩)) w := by
  unfold sliceSz at h
  split at h
  · rename_i e hu
    cases hi : P.info? e with
    | none => rw [hi] at h; cases h
    | some inf =>
      rw [hi] at h
      cases h
      simp [Instr.indexAt, run_underlying hu, asIntOf, h0, h1, sizeOf, typeInfo, hi, addr_add]
  · cases h
theorem op_ixB {ty b o' sz len cap : Nat} {p : Option Addr} {k : IntKind} {i : Int} {x y : Operand} (hN : d < cx.N) (hx : Ev s x (.v (.slice p len cap))) (hy : Ev s y (.v (.int k i))) (h : sliceSz cx.P ty = some sz) (hp : p = some ⟨b, o', none⟩) (h0 : 0 ≤ i) (h1 : i < len) :
    OpRun cx ⟨some d, .indexAddr ty x y, type, pos, after, guard⟩ s ⟨okeys x ++ okeys y, [(.t d, some (.x (.v (.pointer (some ⟨b, o' + i.toNat * sz, none⟩)))))], []⟩ :=
  op_pure rfl hN (by simp) fun m a w g hr hrel => by
    have e1 := hx.eval hrel (fun k hk => hr k (by simp [hk]))
    have e2 := hy.eval hrel (fun k hk => hr k (by simp [hk]))
    subst hp
    simp [execOp, e1, e2, den, run_indexAt h h0 h1]
/-! ### Loads -/
def cqK (L : Nat) : Nat → Nat → List Key
  | _, 0 => []
  | o, n + 1 => .c L o :: cqK L (o + 1) n
def CellsAre (s : Map) (L : Nat) : Nat → List SV → Prop
  | _, [] => True
  | o, y :: ys => s (.c L o) = some (.x y) ∧ CellsAre s L (o + 1) ys
theorem run_load_one {P : Program} {ty : TypeId} {ad : Addr} {v : Value} {w : World} (hsh : shapeOf P ty = some none) (h : w.cell? ad = some v) : (loadVar ty ad).run P w = .ok v w := by
  unfold shapeOf at hsh
  split at hsh
  · cases hi : P.info? ty <;> rw [hi] at hsh <;> cases hsh
  · cases hi : P.info? ty <;> rw [hi] at hsh <;> cases hsh
  · rename_i u h1 h2 hu
    have : (isAgg ty).run P w = .ok false w := by
      simp only [isAgg, Sem.run_bind, run_underlying hu, Result.andThen_ok]
      cases u <;> first | rfl | exact absurd hu (h1 _) | exact absurd hu (h2 _ _)
    simp only [loadVar, Sem.run_bind, this, Result.andThen_ok]
    simp [load, Sem.run, h]
  · cases hsh
theorem run_loadCells {P : Program} {b : Nat} {w : World} : ∀ (l : List Value) (o i : Nat) (acc : Array Value), (∀ j v, l[j]? = some v → w.cell? ⟨b, o + (i + j), none⟩ = some v) →
    (loadCellsFrom ⟨b, o, none⟩ i l.length acc).run P w = .ok (acc ++ l.toArray) w := by
  intro l
  induction l with
  | nil => intro o i acc _; simp [loadCellsFrom]
  | cons v l ih =>
    intro o i acc h
    have h0 : w.cell? ⟨b, o + i, none⟩ = some v := by simpa using h 0 v rfl
    simp only [List.length_cons, loadCellsFrom, Sem.run_bind, load, addr_add, Sem.run, h0, Result.andThen_ok]
    rw [ih o (i + 1) (acc.push v) (fun j u hj => by rw [show i + 1 + j = i + (j + 1) by omega]; exact h (j + 1) u (by simpa using hj))]
    simp
theorem run_load_agg {P : Program} {ty n : Nat} {b o : Nat} {l : List Value} {w : World} (hsh : shapeOf P ty = some (some n)) (hl : l.length = n)
    (h : ∀ j v, l[j]? = some v → w.cell? ⟨b, o + j, none⟩ = some v) : (loadVar ty ⟨b, o, none⟩).run P w = .ok (.agg l.toArray) w := by
  have key : ∀ inf, P.info? ty = some inf → inf.size = n → (isAgg ty).run P w = .ok true w → (loadVar ty ⟨b, o, none⟩).run P w = .ok (.agg l.toArray) w := by
    intro inf hi hn ha
    have hlc := run_loadCells (P := P) (b := b) (w := w) l o 0 #[] (fun j v hj => by simpa using h j v hj)
    simp only [loadVar, Sem.run_bind, ha, Result.andThen_ok, if_true, sizeOf, typeInfo, program, Sem.run, hi, Sem.run_pure, loadCells]
    rw [hn, ← hl]
    rw [hlc]
    simp
  unfold shapeOf at hsh
  split at hsh
  · rename_i fs hu
    cases hi : P.info? ty with
    | none => rw [hi] at hsh; cases hsh
    | some inf =>
      rw [hi] at hsh
      simp only [Option.map_some, Option.some.injEq] at hsh
      exact key inf hi hsh (by simp [isAgg, run_underlying hu])
  · rename_i n' e hu
    cases hi : P.info? ty with
    | none => rw [hi] at hsh; cases hsh
    | some inf =>
      rw [hi] at hsh
      simp only [Option.map_some, Option.some.injEq] at hsh
      exact key inf hi hsh (by simp [isAgg, run_underlying hu])
  · cases hsh
  · cases hsh
theorem cellsAre_get {L : Nat} : ∀ {ys : List SV} {o : Nat}, CellsAre s L o ys → ∀ j y, ys[j]? = some y → s (.c L (o + j)) = some (.x y) := by
  intro ys
  induction ys with
  | nil => intro o _ j y h; simp at h
  | cons z zs ih =>
    intro o h j y hj
    cases j with
    | zero => simp at hj; subst hj; exact h.1
    | succ j => rw [show o + (j + 1) = o + 1 + j by omega]; exact ih h.2 j y (by simpa using hj)
theorem mem_cellKeys {L : Nat} : ∀ {n o j : Nat}, j < n → Key.c L (o + j) ∈ cqK L o n := by
  intro n
  induction n with
  | zero => intro o j h; omega
  | succ n ih =>
    intro o j h
    cases j with
    | zero => simp [cqK]
    | succ j =>
      simp only [cqK, List.mem_cons]
      right
      rw [show o + (j + 1) = o + 1 + j by omega]
      exact ih (by omega)
theorem oq1 {ty L o' : Nat} {x : Operand} {y : SV} (hN : d < cx.N) (hsh : shapeOf cx.P ty = some none) (hx : Ev s x (.p L o')) (hc : s (.c L o') = some (.x y)) :
    OpRun cx ⟨some d, .load ty x, type, pos, after, guard⟩ s ⟨.c L o' :: okeys x, [(.t d, some (.x y))], []⟩ :=
  op_pure rfl hN (by simp) fun m a w g hr hrel => by
    have h1 := hx.eval hrel (fun k hk => hr k (by simp [hk]))
    have h2 := hrel.cell L o' y (by rw [hr _ (by simp)]; exact hc)
    simp [execOp, h1, den, Instr.loadAt, Instr.sureAddr, run_load_one hsh h2]
theorem oqL {ty L o' n : Nat} {x : Operand} {ys : List SV} (hN : d < cx.N) (hsh : shapeOf cx.P ty = some (some n)) (hx : Ev s x (.p L o')) (hn : ys.length = n) (hc : CellsAre s L o' ys) :
    OpRun cx ⟨some d, .load ty x, type, pos, after, guard⟩ s ⟨okeys x ++ cqK L o' n, [(.t d, some (.x (.g ys)))], []⟩ :=
  op_pure rfl hN (by simp) fun m a w g hr hrel => by
    have h1 := hx.eval hrel (fun k hk => hr k (by simp [hk]))
    have h2 : ∀ j v, (denL m ys)[j]? = some v → w.cell? ⟨m L, o' + j, none⟩ = some v := by
      intro j v hj
      rw [denL_get] at hj
      cases hy : ys[j]? with
      | none => rw [hy] at hj; cases hj
      | some y =>
        rw [hy] at hj
        cases hj
        have hlt : j < n := by rw [← hn]; exact (List.getElem?_eq_some_iff.1 hy).1
        exact hrel.cell L (o' + j) y (by rw [hr _ (by simp [mem_cellKeys hlt])]; exact cellsAre_get hc j y hy)
    simp [execOp, h1, den, Instr.loadAt, Instr.sureAddr, run_load_agg hsh (by rw [denL_length, hn]) h2]
theorem oqW {ty : TypeId} {x : Operand} {ad : Addr} {y : SV} (hN : d < cx.N) (hx : Ev s x (.v (.pointer (some ad))))
    (h : ∀ w, Held cx w → ∀ m, (loadVar ty ad).run cx.P w = .ok (den m y) w) :
    OpRun cx ⟨some d, .load ty x, type, pos, after, guard⟩ s ⟨okeys x, [(.t d, some (.x y))], []⟩ :=
  op_pure rfl hN (by simp) fun m a w g hr hrel => by
    have h1 := hx.eval hrel hr
    simp [execOp, h1, den, Instr.loadAt, Instr.sureAddr, h w hrel.held m]
/-! ### Stores -/
def oneC : Value → Bool
  | .agg _ | .tuple _ => false
  | _ => true
def SV.one : SV → Bool
  | .v x => oneC x
  | .g _ | .t _ => false
  | _ => true
theorem SV.one_den {x : SV} (h : x.one = true) : (den m x).cells = #[den m x] ∧ oneC (den m x) = true := by
  cases x with
  | v x => cases x <;> simp_all [SV.one, den, Value.cells, oneC]
  | g _ => simp [SV.one] at h
  | t _ => simp [SV.one] at h
  | _ => simp [den, Value.cells, oneC]
theorem run_store {P : Program} {ad : Addr} {v u : Value} {w : World} (hc : w.cell? ad = some u) (hf : w.frozen? ad = false) (hv : oneC v = true) : (store ad v).run P w = .ok () (w.setCell ad v) := by
  cases v <;> simp_all [store, Sem.run, oneC]
theorem Rel.frozen {L o' n : Nat} {ty : TypeId} (h : Rel cx m g a w) (hb : g (.b L) = some (.sh ty n)) (ho : o' < n) :
    (∃ u, w.cell? ⟨m L, o', none⟩ = some u) ∧ w.frozen? ⟨m L, o', none⟩ = false := by
  obtain ⟨_, cs, hsz, hh⟩ := h.blk L ty n hb
  constructor
  · exact ⟨cs[o'], by simp [World.cell?, hh, hsz, ho]⟩
  · simp [World.frozen?, hh]
theorem oqs {ty L o' n bty : Nat} {x y : Operand} {v : SV} (hsz : sizeIn cx.P ty = some 1) (hx : Ev s x (.p L o')) (hy : Ev s y v) (hv : v.one = true) (hb : s (.b L) = some (.sh bty n)) (ho : o' < n) :
    OpRun cx ⟨none, .store ty x y, type, pos, after, guard⟩ s ⟨.b L :: (okeys x ++ okeys y), [(.c L o', some (.x v))], []⟩ := by
  intro m a w g hr hf hrel K Q hK
  have h1 := hx.eval hrel (fun k hk => hr k (reads_mem (by simp [hk])))
  have h2 := hy.eval hrel (fun k hk => hr k (reads_mem (by simp [hk])))
  have h3 : g (.b L) = some (.sh bty n) := by rw [hr _ (reads_mem (by simp))]; exact hb
  obtain ⟨⟨u, hu⟩, hfz⟩ := hrel.frozen h3 ho
  obtain ⟨hcells, hone⟩ := SV.one_den (m := m) hv
  refine ⟨fun _ _ => trivial, ?_⟩
  rw [semAt_of _ _ (by simp)]
  have hrun : (execOp a.eval ⟨none, .store ty x y, type, pos, after, guard⟩).run cx.P w = .ok .skip (w.setCell ⟨m L, o', none⟩ (den m v)) := by
    unfold sizeIn at hsz
    cases hi : cx.P.info? ty with
    | none => rw [hi] at hsz; cases hsz
    | some inf =>
      rw [hi] at hsz
      simp only [Option.map_some, Option.some.injEq] at hsz
      have hst := run_store (P := cx.P) hu hfz hone
      have ha : (⟨m L, o', none⟩ : Addr).add 0 = ⟨m L, o', none⟩ := by simp [Addr.add]
      simp [execOp, h1, h2, den, Instr.storeAt, Instr.sureAddr, storeVar, sizeOf, typeInfo, hi, hsz, hcells, storeCells, ha, hst]
  rw [hrun]
  exact hK m a _ (hrel.setCell h3 ho)
theorem upd_cells_cons {L o' : Nat} {y : SV} {ys : List SV} (g : Map) (k : Key) : upd (cellsUp L (o' + 1) ys) (upd [(.c L o', some (.x y))] g) k = upd (cellsUp L o' (y :: ys)) g k := by
  simp only [cellsUp, upd]
  rw [upd_cellsUp, upd_cellsUp]
  cases k with
  | t i => simp [Key.eqb]
  | b l => simp [Key.eqb]
  | r l => simp [Key.eqb]
  | u l i => simp [Key.eqb]
  | a => simp [Key.eqb]
  | c L' o'' =>
    by_cases e : L' = L ∧ o' + 1 ≤ o'' ∧ o'' < o' + 1 + ys.length
    · obtain ⟨rfl, h1, h2⟩ := e
      have : (Key.c L' o').eqb (.c L' o'') = false := Key.eqb_false (fun h => by cases h; omega)
      simp [h1, h2, this]
    · simp only [e, if_false]
theorem run_storeCells {L n bty : Nat} : ∀ (ys : List SV) (o' i : Nat) (g : Map) (w : World), Rel cx m g a w → g (.b L) = some (.sh bty n) → (∀ y ∈ ys, y.one = true) → o' + i + ys.length ≤ n →
    ∃ w', (storeCells ⟨m L, o', none⟩ (denL m ys) i).run cx.P w = .ok () w' ∧ Rel cx m (upd (cellsUp L (o' + i) ys) g) a w' := by
  intro ys
  induction ys with
  | nil => intro o' i g w h _ _ _; exact ⟨w, by simp [storeCells, denL], h⟩
  | cons y ys ih =>
    intro o' i g w h hb hone hle
    simp only [List.length_cons] at hle
    obtain ⟨⟨u, hu⟩, hfz⟩ := h.frozen hb (show o' + i < n by omega)
    obtain ⟨_, h1⟩ := SV.one_den (m := m) (hone y (by simp))
    have hst := run_store (P := cx.P) hu hfz h1
    have h2 := h.setCell (x := y) hb (show o' + i < n by omega)
    obtain ⟨w', hw', hrel'⟩ := ih o' (i + 1) _ _ h2 (by rw [upd_one, if_neg (by simp)]; exact hb) (fun z hz => hone z (by simp [hz])) (by omega)
    refine ⟨w', ?_, hrel'.congr (fun k => ?_)⟩
    · simp only [denL, storeCells, Sem.run_bind, addr_add, hst, Result.andThen_ok]
      exact hw'
    · rw [show o' + (i + 1) = o' + i + 1 by omega]
      exact upd_cells_cons g k
theorem oqS {ty L o' n bty sz : Nat} {x y : Operand} {ys : List SV} (hsz : sizeIn cx.P ty = some sz) (hx : Ev s x (.p L o')) (hy : Ev s y (.g ys)) (hlen : ys.length = sz) (hv : ys.all SV.one = true) (hb : s (.b L) = some (.sh bty n)) (ho : o' + sz ≤ n) :
    OpRun cx ⟨none, .store ty x y, type, pos, after, guard⟩ s ⟨.b L :: (okeys x ++ okeys y), cellsUp L o' ys, []⟩ := by
  intro m a w g hr hf hrel K Q hK
  have h1 := hx.eval hrel (fun k hk => hr k (reads_mem (by simp [hk])))
  have h2 := hy.eval hrel (fun k hk => hr k (reads_mem (by simp [hk])))
  have h3 : g (.b L) = some (.sh bty n) := by rw [hr _ (reads_mem (by simp))]; exact hb
  obtain ⟨w', hw', hrel'⟩ := run_storeCells (cx := cx) (m := m) (a := a) (L := L) ys o' 0 g w hrel h3 (by simpa using hv) (by omega)
  refine ⟨fun _ _ => trivial, ?_⟩
  rw [semAt_of _ _ (by simp)]
  have hrun : (execOp a.eval ⟨none, .store ty x y, type, pos, after, guard⟩).run cx.P w = .ok .skip w' := by
    unfold sizeIn at hsz
    cases hi : cx.P.info? ty with
    | none => rw [hi] at hsz; cases hsz
    | some inf =>
      rw [hi] at hsz
      simp only [Option.map_some, Option.some.injEq] at hsz
      simp [execOp, h1, h2, den, Instr.storeAt, Instr.sureAddr, storeVar, sizeOf, typeInfo, hi, hsz, Value.cells, denL_length, hlen, hw']
  rw [hrun]
  exact hK m a w' hrel'
/-! ### New blocks -/
theorem denL_vals (vs : List Value) : denL m (vs.map SV.v) = vs := by
  induction vs with
  | nil => rfl
  | cons v vs ih => simp [denL, den, ih]
theorem hasL_vals (L : Nat) (vs : List Value) : hasL L (vs.map SV.v) = false := by
  induction vs with
  | nil => rfl
  | cons v vs ih => simp [hasL, SV.has, ih]
theorem upd_cons {k : Key} {v : Option Val} {u : St} (g : Map) (k' : Key) : upd ((k, v) :: u) g k' = upd [(k, v)] (upd u g) k' := by simp only [upd]
theorem op_new {L ety : Nat} {cs : List SV} {x : SV} {rd : List Key} (hd : o.dst = some d) (hN : d < cx.N) (hdf : ∀ c, o.op ≠ .defer c) (hL : hasL L cs = false)
    (h : ∀ (m : Nat → Nat) (a : Act) (w : World) (g : Map), (∀ k ∈ rd, g k = s k) → Rel cx m g a w → ∃ cells : Array Value, cells = (denL m cs).toArray ∧
      (execOp a.eval o).run cx.P w = .ok (.value (den (setL m L w.heap.size) x)) (w.alloc (.cells cells ety))) :
    OpRun cx o s ⟨rd, (.t d, some (.x x)) :: (.b L, some (.sh ety cs.length)) :: cellsUp L 0 cs, [L]⟩ := by
  intro m a w g hr hf hrel K Q hK
  obtain ⟨cells, hc, hrun⟩ := h m a w g (fun k hk => hr k (reads_mem hk)) hrel
  refine ⟨fun _ _ => trivial, ?_⟩
  rw [semAt_of _ _ hdf, hrun, Oper.uponIn_value, hd]
  refine hK _ _ _ (((hrel.alloc (ty := ety) (hf L (by simp)) hL hc).put hN rfl).congr (fun k => ?_))
  exact (upd_cons g k).symm
theorem alloc_run {P : Program} {ty : TypeId} {cells : Array Value} {w : World} : (newRow ty cells).run P w = .ok ⟨w.heap.size, 0, none⟩ (w.alloc (.cells cells ty)) := by
  rfl
theorem oqa {ty L : Nat} {vs : List Value} (hN : d < cx.N) (hz : zeroL cx.P ty = some vs) :
    OpRun cx ⟨some d, .alloc ty, type, pos, after, guard⟩ s ⟨[], (.t d, some (.x (.p L 0))) :: (.b L, some (.sh ty (vs.map SV.v).length)) :: cellsUp L 0 (vs.map SV.v), [L]⟩ :=
  op_new (o := ⟨some d, .alloc ty, type, pos, after, guard⟩) rfl hN (by simp) (hasL_vals L vs) fun m a w g hr hrel => by
    refine ⟨vs.toArray, by rw [denL_vals], ?_⟩
    unfold zeroL at hz
    cases hi : cx.P.info? ty with
    | none => rw [hi] at hz; cases hz
    | some inf =>
      rw [hi] at hz
      simp only [Option.bind_some] at hz
      cases hzz : inf.zero with
      | none => rw [hzz] at hz; cases hz
      | some z =>
        rw [hzz] at hz
        simp only [Option.map_some, Option.some.injEq] at hz
        subst hz
        simp [execOp, Instr.alloc, zeroValue, typeInfo, hi, hzz, newVar, alloc_run, den, setL_self]
end
end Go.AX
/-
  The core, fifth part: boxes, composite literals, closures, calls; the rules for code; a function's entry and its results.
-/
namespace Go.AX
open Go Go.RowKit
section
variable {cx : Cx} {o : Oper} {s g : Map} {m : Nat → Nat} {a : Act} {w : World}
variable {d : Nat} {type : TypeId} {pos : String} {after : Array Edge} {guard : Option (Nat × Bool)}
theorem op_box1 {ty L : Nat} {x : Operand} {v : SV} (hN : d < cx.N) (hx : Ev s x v) (hv : v.one = true) (hL : v.has L = false) :
    OpRun cx ⟨some d, .box ty x, type, pos, after, guard⟩ s ⟨okeys x, (.t d, some (.x (.p L 0))) :: (.b L, some (.sh ty 1)) :: cellsUp L 0 [v], [L]⟩ :=
  op_new (o := ⟨some d, .box ty x, type, pos, after, guard⟩) (cs := [v]) (x := .p L 0) (ety := ty) rfl hN (fun _ h => by cases h) (by simp [hasL, hL]) fun m a w g hr hrel => by
    refine ⟨_, rfl, ?_⟩
    have h1 := hx.eval hrel hr
    obtain ⟨hc, _⟩ := SV.one_den (m := m) hv
    simp [execOp, h1, Instr.box, newVar, alloc_run, den, denL, setL_self, hc]
theorem op_boxN {ty L n : Nat} {x : Operand} {ys : List SV} (hN : d < cx.N) (hx : Ev s x (.g ys)) (hn : ys.length = n) (hL : hasL L ys = false) :
    OpRun cx ⟨some d, .box ty x, type, pos, after, guard⟩ s ⟨okeys x, (.t d, some (.x (.p L 0))) :: (.b L, some (.sh ty n)) :: cellsUp L 0 ys, [L]⟩ := by
  subst hn
  exact op_new (o := ⟨some d, .box ty x, type, pos, after, guard⟩) rfl hN (fun _ h => by cases h) hL fun m a w g hr hrel => by
    refine ⟨_, rfl, ?_⟩
    have h1 := hx.eval hrel hr
    simp [execOp, h1, Instr.box, newVar, alloc_run, den, setL_self, Value.cells]
theorem parts_eq (h : Rel cx m g a w) : ∀ {parts : List (Nat × Operand)} {xs : List SV}, EvL s (parts.map (·.2)) xs → (∀ k ∈ okeysL (parts.map (·.2)), g k = s k) →
    parts.map (fun p => (p.1, a.eval p.2)) = (parts.map (·.1)).zip (denL m xs) := by
  intro parts
  induction parts with
  | nil => intro xs _ _; rfl
  | cons p r ih =>
    intro xs hx hk
    obtain ⟨v, vs, rfl, h1, h2⟩ := hx
    simp only [List.map_cons, denL, List.zip_cons_cons]
    rw [h1.eval h (fun k hk' => hk k (by simp [okeysL, hk'])), ih h2 (fun k hk' => hk k (by simp only [List.map_cons, okeysL, List.mem_append]; exact .inr hk'))]
theorem op_build {t : TypeId} {parts : Array (Nat × Operand)} {xs : List SV} {x : SV} (hN : d < cx.N) (hx : EvL s (parts.toList.map (·.2)) xs)
    (h : ∀ (m : Nat → Nat) (w : World), (Instr.build t ((parts.toList.map (·.1)).zip (denL m xs)).toArray).run cx.P w = .ok (den m x) w) :
    OpRun cx ⟨some d, .build t parts, type, pos, after, guard⟩ s ⟨okeysL (parts.toList.map (·.2)), [(.t d, some (.x x))], []⟩ :=
  op_pure rfl hN (fun _ h => by cases h) fun m a w g hr hrel => by
    have h1 := parts_eq hrel hx hr
    have h2 : parts.map (fun p => (p.1, a.eval p.2)) = ((parts.toList.map (·.1)).zip (denL m xs)).toArray := by
      rw [← h1]; exact Array.ext' (by rw [Array.toList_map])
    have h3 := h m w
    rw [← h2] at h3
    simp [execOp, h3]
theorem op_buildSlice {t ety L len : Nat} {parts : Array (Nat × Operand)} {xs cs : List SV} (hN : d < cx.N) (hx : EvL s (parts.toList.map (·.2)) xs) (hL : hasL L cs = false)
    (h : ∀ (m : Nat → Nat) (w : World), (Instr.buildSlice t len ((parts.toList.map (·.1)).zip (denL m xs)).toArray).run cx.P w = .ok (.slice (some ⟨w.heap.size, 0, none⟩) len len) (w.alloc (.cells (denL m cs).toArray ety))) :
    OpRun cx ⟨some d, .buildSlice t len parts, type, pos, after, guard⟩ s ⟨okeysL (parts.toList.map (·.2)), (.t d, some (.x (.s L 0 len len))) :: (.b L, some (.sh ety cs.length)) :: cellsUp L 0 cs, [L]⟩ :=
  op_new (o := ⟨some d, .buildSlice t len parts, type, pos, after, guard⟩) rfl hN (fun _ h => by cases h) hL fun m a w g hr hrel => by
    refine ⟨_, rfl, ?_⟩
    have h1 := parts_eq hrel hx hr
    have h2 : parts.map (fun p => (p.1, a.eval p.2)) = ((parts.toList.map (·.1)).zip (denL m xs)).toArray := by
      rw [← h1]; exact Array.ext' (by rw [Array.toList_map])
    have h3 := h m w
    rw [← h2] at h3
    simp [execOp, h3, den, setL_self]
theorem op_mkfn {fn : Fn} {fst cap : Array Operand} {fs xs : List SV} (hN : d < cx.N) (hf : EvL s fst.toList fs) (hx : EvL s cap.toList xs) :
    OpRun cx ⟨some d, .makeFunc fn fst cap, type, pos, after, guard⟩ s ⟨okeysL fst.toList ++ okeysL cap.toList, [(.t d, some (.x (.f fn fs xs)))], []⟩ :=
  op_pure rfl hN (fun _ h => by cases h) fun m a w g hr hrel => by
    have h1 : cap.map a.eval = (denL m xs).toArray := by rw [← hx.eval hrel (fun k hk => hr k (by simp [hk]))]; exact Array.ext' (by rw [Array.toList_map])
    have h2 : fst.map a.eval = (denL m fs).toArray := by rw [← hf.eval hrel (fun k hk => hr k (by simp [hk]))]; exact Array.ext' (by rw [Array.toList_map])
    simp [execOp, Instr.makeFunc, den, h1, h2]
theorem op_nilCheck {x : Operand} {v : SV} (hN : d < cx.N) (hx : Ev s x v) (hv : match v with | .p _ _ => True | .v (.pointer (some _)) => True | .f (.func _) _ _ => True | .v (.func (.func _) _ _) => True | _ => False) :
    OpRun cx ⟨some d, .nilCheck x, type, pos, after, guard⟩ s ⟨okeys x, [(.t d, some (.x v))], []⟩ :=
  op_pure rfl hN (fun _ h => by cases h) fun m a w g hr hrel => by
    have h1 := hx.eval hrel hr
    split at hv
    · simp [execOp, h1, den]
    · simp [execOp, h1, den]
    · simp [execOp, h1, den]
    · simp [execOp, h1, den]
    · exact hv.elim
theorem op_len {ty : TypeId} {x : Operand} {v : SV} {n : Nat} (hN : d < cx.N) (hu : (sliceSz cx.P ty).isSome = true) (hx : Ev s x v) (hv : match v with | .s _ _ n' _ => n' = n | .v (.slice _ n' _) => n' = n | _ => False) :
    OpRun cx ⟨some d, .call ⟨.builtin .len, #[x], #[ty]⟩, type, pos, after, guard⟩ s ⟨okeys x, [(.t d, some (.x (.v (.int .i64 n))))], []⟩ :=
  op_pure rfl hN (fun _ h => by cases h) fun m a w g hr hrel => by
    have h1 := hx.eval hrel hr
    unfold sliceSz at hu
    split at hu
    · rename_i e he
      split at hv
      · subst hv
        simp [execOp, resolve, invoke, builtin, Builtin.len_, h1, den, run_underlying he, goInt]
      · subst hv
        simp [execOp, resolve, invoke, builtin, Builtin.len_, h1, den, run_underlying he, goInt]
      · exact hv.elim
    · cases hu
theorem op_min {ts : Array TypeId} {x y : Operand} {k : IntKind} {n p : Int} (hN : d < cx.N) (hx : Ev s x (.v (.int k n))) (hy : Ev s y (.v (.int k p))) :
    OpRun cx ⟨some d, .call ⟨.builtin .min, #[x, y], ts⟩, type, pos, after, guard⟩ s ⟨okeys x ++ okeys y, [(.t d, some (.x (.v (.int k (if p < n then p else n)))))], []⟩ :=
  op_pure rfl hN (fun _ h => by cases h) fun m a w g hr hrel => by
    have h1 := hx.eval hrel (fun k hk => hr k (by simp [hk]))
    have h2 := hy.eval hrel (fun k hk => hr k (by simp [hk]))
    simp [execOp, resolve, invoke, builtin, Builtin.min_, Builtin.min2, h1, h2, den]
theorem op_max {ts : Array TypeId} {x y : Operand} {k : IntKind} {n p : Int} (hN : d < cx.N) (hx : Ev s x (.v (.int k n))) (hy : Ev s y (.v (.int k p))) :
    OpRun cx ⟨some d, .call ⟨.builtin .max, #[x, y], ts⟩, type, pos, after, guard⟩ s ⟨okeys x ++ okeys y, [(.t d, some (.x (.v (.int k (if p > n then p else n)))))], []⟩ :=
  op_pure rfl hN (fun _ h => by cases h) fun m a w g hr hrel => by
    have h1 := hx.eval hrel (fun k hk => hr k (by simp [hk]))
    have h2 := hy.eval hrel (fun k hk => hr k (by simp [hk]))
    simp [execOp, resolve, invoke, builtin, Builtin.max_, Builtin.max2, h1, h2, den]
theorem op_andF {tc tx : Nat} {b0 c b : Bool} (hN : d < cx.N) (hb0 : b0 = true) (hc : s (.t tc) = some (.xc b0 (.v (.bool c)))) (hx : s (.t tx) = some (.xc (b0 && (c == true)) (.v (.bool b)))) :
    OpRun cx ⟨some d, .pick (.tmp tc) (.tmp tx) (.const (.bool false)), type, pos, after, guard⟩ (forceM s) ⟨[.t tc, .t tx], [(.t d, some (.x (.v (.bool (c && b)))))], []⟩ :=
  op_pure rfl hN (fun _ h => by cases h) fun m a w g hr hrel => by
    subst hb0
    have h1 := hrel.tm tc _ (by rw [hr _ (by simp)]; exact force_eq rfl hc)
    cases c with
    | true =>
      have h2 := hrel.tm tx (.v (.bool b)) (by rw [hr _ (by simp)]; exact force_eq rfl hx)
      simp [execOp, Act.eval, h1, h2, den, asBool]
    | false => simp [execOp, Act.eval, h1, den, asBool]
theorem op_orF {tc tx : Nat} {b0 c b : Bool} (hN : d < cx.N) (hb0 : b0 = true) (hc : s (.t tc) = some (.xc b0 (.v (.bool c)))) (hx : s (.t tx) = some (.xc (b0 && (c == false)) (.v (.bool b)))) :
    OpRun cx ⟨some d, .pick (.tmp tc) (.const (.bool true)) (.tmp tx), type, pos, after, guard⟩ (forceM s) ⟨[.t tc, .t tx], [(.t d, some (.x (.v (.bool (c || b)))))], []⟩ :=
  op_pure rfl hN (fun _ h => by cases h) fun m a w g hr hrel => by
    subst hb0
    have h1 := hrel.tm tc _ (by rw [hr _ (by simp)]; exact force_eq rfl hc)
    cases c with
    | true => simp [execOp, Act.eval, h1, den, asBool]
    | false =>
      have h2 := hrel.tm tx (.v (.bool b)) (by rw [hr _ (by simp)]; exact force_eq rfl hx)
      simp [execOp, Act.eval, h1, h2, den, asBool]
/-! ### Calls -/
theorem calls_in {f n : Nat} {args : Array Value} {R : Ending → World → Prop} (h : Calls cx.P f args w R) : CallsIn cx.F n cx.P f args w R := by
  have h' : CallsIn Fence.wide n cx.P f args w R := callsIn_wide.2 h
  cases hr : cx.r with
  | none => simpa [Cx.F, hr, Fence.wide] using h'
  | some l =>
    have := CallsIn.inRound l h'
    simpa [Cx.F, hr, Fence.wide, Fence.inRound] using this
def calleeOf (k : Nat) (fs caps : List SV) : SV → Prop
  | .v v => v = .func (.func k) #[] #[] ∧ fs = [] ∧ caps = []
  | .f fn bs cs => fn = .func k ∧ bs = fs ∧ cs = caps
  | _ => False
theorem op_callR {fo : Operand} {fv : SV} {k : Nat} {xs : List SV} {args : Array Operand} {ts : Array TypeId} {dst : Option Tmp} {extra : List Key} {up : St} {nw : List Nat} {F C : (Nat → Nat) → Array Value}
    (hen : Proofs.Enters cx.P k) (hf : Ev s fo fv) (hk : ∀ m, den m fv = .func (.func k) (F m) (C m)) (hx : EvL s args.toList xs)
    (hc : ∀ (m : Nat → Nat) (a : Act) (w : World) (g : Map), (∀ k ∈ extra, g k = s k) → (∀ L ∈ nw, ∀ k, mentions L k (g k) = false) → Rel cx m g a w →
      Calls cx.P k (F m ++ (denL m xs).toArray ++ C m) w fun e w' => ∃ v m', e = .returned v ∧ Rel cx m' (upd up g) (a.put dst v) w') :
    OpRun cx ⟨dst, .call ⟨.value fo, args, ts⟩, type, pos, after, guard⟩ s ⟨okeys fo ++ okeysL args.toList ++ extra, up, nw⟩ := by
  intro m a w g hr hfr hrel K Q hK
  have h1 := hf.eval hrel (fun k hk => hr k (reads_mem (by simp [hk])))
  have h2 : args.map a.eval = (denL m xs).toArray := by
    rw [← hx.eval hrel (fun k hk => hr k (reads_mem (by simp [hk])))]; exact Array.ext' (by rw [Array.toList_map])
  refine ⟨fun _ _ => trivial, ?_⟩
  rw [semAt_of _ _ (fun _ h => by cases h)]
  have hrun : (execOp a.eval ⟨dst, .call ⟨.value fo, args, ts⟩, type, pos, after, guard⟩).run cx.P w = .ok (.enter k (F m ++ (denL m xs).toArray ++ C m)) w := by
    have he := hen (F m ++ (denL m xs).toArray ++ C m) w
    simp only [execOp, resolve, h1, h2, hk m, Deferred.ofValue, Sem.run_bind, Sem.run_pure, Result.andThen_ok, invoke]
    exact he
  rw [hrun, Oper.uponIn_enter]
  refine ⟨fun h => by simp [Cx.F] at h, ?_⟩
  refine (calls_in (hc m a w g (fun k hk => hr k (reads_mem (by simp [hk]))) hfr hrel)).mono fun e w' ⟨v, m', he, hrel'⟩ => ?_
  subst he
  exact hK m' _ w' hrel'
theorem denL_append (m : Nat → Nat) : ∀ l l' : List SV, denL m (l ++ l') = denL m l ++ denL m l'
  | [], _ => rfl
  | y :: l, l' => by simp [denL, denL_append m l l']
theorem op_callG {fo : Operand} {fv : SV} {k : Nat} {fs caps xs : List SV} {args : Array Operand} {ts : Array TypeId} {dst : Option Tmp} {extra : List Key} {up : St} {nw : List Nat}
    (hen : Proofs.Enters cx.P k) (hf : Ev s fo fv) (hk : calleeOf k fs caps fv) (hx : EvL s args.toList xs)
    (hc : ∀ (m : Nat → Nat) (a : Act) (w : World) (g : Map), (∀ k ∈ extra, g k = s k) → (∀ L ∈ nw, ∀ k, mentions L k (g k) = false) → Rel cx m g a w →
      Calls cx.P k (denL m (fs ++ (xs ++ caps))).toArray w fun e w' => ∃ v m', e = .returned v ∧ Rel cx m' (upd up g) (a.put dst v) w') :
    OpRun cx ⟨dst, .call ⟨.value fo, args, ts⟩, type, pos, after, guard⟩ s ⟨okeys fo ++ okeysL args.toList ++ extra, up, nw⟩ := by
  have hfn : ∀ m, den m fv = .func (.func k) (denL m fs).toArray (denL m caps).toArray := by
    intro m
    cases fv with
    | v v => obtain ⟨rfl, rfl, rfl⟩ := hk; rfl
    | f fn bs cs => obtain ⟨rfl, rfl, rfl⟩ := hk; rfl
    | _ => exact hk.elim
  refine op_callR hen hf hfn hx fun m a w g h1 h2 h3 => ?_
  have := hc m a w g h1 h2 h3
  rw [denL_append, denL_append] at this
  have e : (denL m fs).toArray ++ (denL m xs).toArray ++ (denL m caps).toArray = (denL m fs ++ (denL m xs ++ denL m caps)).toArray := by simp
  rw [e]
  exact this
abbrev kapp (a b : List Key) : List Key := a ++ b
theorem oqC {fo : Operand} {fv : SV} {k : Nat} {fs caps xs : List SV} {args : Array Operand} {ts : Array TypeId} {x : SV} {extra : List Key}
    (hN : d < cx.N) (hen : Proofs.Enters cx.P k) (hf : Ev s fo fv) (hk : calleeOf k fs caps fv) (hx : EvL s args.toList xs)
    (hc : ∀ (m : Nat → Nat) (a : Act) (w : World) (g : Map), (∀ k ∈ extra, g k = s k) → Rel cx m g a w →
      Calls cx.P k (denL m (fs ++ (xs ++ caps))).toArray w fun e w' => e = .returned (den m x) ∧ Below w.heap.size w w') :
    OpRun cx ⟨some d, .call ⟨.value fo, args, ts⟩, type, pos, after, guard⟩ s ⟨okeys fo ++ okeysL args.toList ++ extra, [(.t d, some (.x x))], []⟩ :=
  op_callG hen hf hk hx fun m a w g hr _ hrel => (hc m a w g hr hrel).mono fun _ _ ⟨he, hb⟩ => ⟨_, m, he, (hrel.world hb).put hN rfl⟩
theorem op_callV {fo : Operand} {k : Nat} {F C : Array Value} {xs : List SV} {args : Array Operand} {ts : Array TypeId} {x : SV} {extra : List Key}
    (hN : d < cx.N) (hen : Proofs.Enters cx.P k) (hf : Ev s fo (.v (.func (.func k) F C))) (hx : EvL s args.toList xs)
    (hc : ∀ (m : Nat → Nat) (a : Act) (w : World) (g : Map), (∀ k ∈ extra, g k = s k) → Rel cx m g a w →
      Calls cx.P k (F ++ (denL m xs).toArray ++ C) w fun e w' => e = .returned (den m x) ∧ Below w.heap.size w w') :
    OpRun cx ⟨some d, .call ⟨.value fo, args, ts⟩, type, pos, after, guard⟩ s ⟨okeys fo ++ okeysL args.toList ++ extra, [(.t d, some (.x x))], []⟩ :=
  op_callR (F := fun _ => F) (C := fun _ => C) hen hf (fun _ => rfl) hx fun m a w g hr _ hrel => (hc m a w g hr hrel).mono fun _ _ ⟨he, hb⟩ => ⟨_, m, he, (hrel.world hb).put hN rfl⟩
end
/-! ### Code -/
def AW (cx : Cx) (c : Code) (s : St) (Q : Exit → Act → World → Prop) : Prop :=
  ∀ (m : Nat → Nat) (a : Act) (w : World), Rel cx m (get s) a w → c.wpIn cx.F 0 cx.P Q a w
def Fin (cx : Cx) (s : St) (Q : Exit → Act → World → Prop) (e : Exit) : Prop := ∀ m a w, Rel cx m (get s) a w → Q e a w
def Keep : St → St → Prop
  | [], _ => True
  | (k, v) :: r, s => get s k = v ∧ Keep r s
def keepOK (cx : Cx) (s' : St) : Bool := (s'.all fun x => match x.1 with | .c L _ => touches (.b L) s' | _ => true) && cx.bor.all fun q => touches (.b q.1) s'
theorem keep_get : ∀ {s' s : St}, Keep s' s → ∀ k, touches k s' = true → get s' k = get s k := by
  intro s'
  induction s' with
  | nil => intro s _ k h; simp [touches] at h
  | cons x r ih =>
    intro s h k hk
    obtain ⟨h1, h2⟩ := h
    simp only [get, upd]
    cases e : x.1.eqb k with
    | true =>
      have := Key.eqb_iff.1 e
      rw [← this]
      exact h1.symm
    | false =>
      simp only [touches, e, Bool.false_or] at hk
      exact ih h2 k hk
theorem get_untouched {s : St} {k : Key} (h : touches k s = false) : get s k = none := upd_of_touches h _
theorem Rel.keep {cx : Cx} {m : Nat → Nat} {s s' : St} {a : Act} {w : World} (h : Rel cx m (get s) a w) (hk : Keep s' s) (hok : keepOK cx s' = true) : Rel cx m (get s') a w := by
  simp only [keepOK, Bool.and_eq_true] at hok
  refine h.weaken (fun k => ?_) (fun L o hL => ?_) (fun L b hb => keep_get hk _ (List.all_eq_true.1 hok.2 _ hb))
  · cases e : touches k s' with
    | true => exact .inr (keep_get hk k e)
    | false => exact .inl (get_untouched e)
  · refine keep_get hk _ ?_
    cases e : touches (.c L o) s' with
    | false => exact absurd (get_untouched e) hL
    | true =>
      obtain ⟨x, hx, hx'⟩ := touches_iff.1 e
      have := List.all_eq_true.1 hok.1 x hx
      rw [hx'] at this
      exact this
section
variable {cx : Cx} {s : St} {Q : Exit → Act → World → Prop}
theorem AW.keep {c : Code} {s' : St} (h : AW cx c s' Q) (hk : Keep s' s) (hok : keepOK cx s' = true) : AW cx c s Q :=
  fun m a w hr => h m a w (hr.keep hk hok)
theorem aqS {x y : Code} (h : AW cx x s (Exit.then (y.wpIn cx.F 0 cx.P Q) Q)) : AW cx (.seq x y) s Q := fun m a w hr => wpIn_seq (h m a w hr)
theorem aqk (h : Fin cx s Q .normal) : AW cx .skip s Q := fun m a w hr => wpIn_skip (h m a w hr)
theorem aqr (h : Fin cx s Q .ret) : AW cx .ret s Q := fun m a w hr => wpIn_ret (h m a w hr)
theorem aw_exit {id : Nat} (h : Fin cx s Q (.exit id)) : AW cx (.exit id) s Q := fun m a w hr => wpIn_exit (h m a w hr)
theorem aw_block {id : Nat} {c : Code} (h : AW cx c s (Exit.inBlock id Q)) : AW cx (.block id c) s Q := fun m a w hr => wpIn_block (h m a w hr)
theorem aqc {x : Operand} {t e : Code} {b : Bool} (hx : Ev (get s) x (.v (.bool b))) (ht : b = true → AW cx t s Q) (he : b = false → AW cx e s Q) : AW cx (.cond x t e) s Q := by
  intro m a w hr
  have := hx.eval hr (fun _ _ => rfl)
  exact wpIn_cond_split this (fun h => ht h m a w hr) (fun h => he h m a w hr)
/-! ### Going on: what is owed at the end of a piece of code -/
theorem fqK {e : Exit} {s' : St} (h : Fin cx s' Q e) (hk : Keep s' s) (hok : keepOK cx s' = true) : Fin cx s Q e := fun m a w hr => h m a w (hr.keep hk hok)
theorem fqT {y : Code} (h : AW cx y s Q) : Fin cx s (Exit.then (y.wpIn cx.F 0 cx.P Q) Q) .normal := h
theorem fqR {K : Act → World → Prop} (h : Fin cx s Q .ret) : Fin cx s (Exit.then K Q) .ret := h
theorem fqE {K : Act → World → Prop} {id : Nat} (h : Fin cx s Q (.exit id)) : Fin cx s (Exit.then K Q) (.exit id) := h
theorem fqB {id : Nat} (h : Fin cx s Q .normal) : Fin cx s (Exit.inBlock id Q) .normal := h
theorem fin_block_ret {id : Nat} (h : Fin cx s Q .ret) : Fin cx s (Exit.inBlock id Q) .ret := h
theorem fin_block_exit {id : Nat} (h : Fin cx s Q .normal) : Fin cx s (Exit.inBlock id Q) (.exit id) := fun m a w hr => by
  simp only [Exit.inBlock, if_true]; exact h m a w hr
theorem fin_loop {ι : Type} {I : ι → Prop} {S : ι → St} {μ : ι → Nat} {n : Nat} (y : ι) (hI : I y) (hμ : μ y < n) (hk : Keep (S y) s) (hok : keepOK cx (S y) = true) :
    Fin cx s (Exit.then (fun a w => ∃ y, I y ∧ μ y < n ∧ ∃ m, Rel cx m (get (S y)) a w) Q) .normal :=
  fun m _ _ hr => ⟨y, hI, hμ, m, hr.keep hk hok⟩
theorem aqT {ops : Array Oper} {id : Nat} {rows : List Row} (hlen : rows.length = ops.size) (hf : freshOK s rows = true) (hall : AllOK cx ops 0 s rows)
    (h : Fin cx (rows.foldl (fun s r => r.up ++ s) s) Q .normal) : AW cx (.region id ops false) s Q :=
  fun m _ _ hr => region_text (m := m) hlen hall hf hr h
theorem aw_any {ops : Array Oper} {id : Nat} {rows : List Row} {M : List Nat} (hm : cx.P.follows .mixedOrders = true) (ha : ancOK ops M = true) (hlen : rows.length = ops.size)
    (hchk : (indepOK rows M && newOK rows M && (rows.all fun row => row.nw.all fun L => !mentionsIn L s)) = true) (hall : AllOK cx ops 0 s rows)
    (h : Fin cx (rows.foldl (fun s r => r.up ++ s) s) Q .normal) : AW cx (.region id ops true) s Q := by
  simp only [Bool.and_eq_true] at hchk
  exact fun m _ _ hr => region_any (m := m) hm ha hchk.1.1 hchk.1.2 hlen hchk.2 hall hr h
theorem exists_min (p : Nat → Prop) (h : ∃ n, p n) : ∃ n, p n ∧ ∀ k, p k → n ≤ k := by
  obtain ⟨n, hn⟩ := h
  induction n using Nat.strongRecOn with
  | _ n ih =>
    by_cases h : ∃ k, k < n ∧ p k
    · obtain ⟨k, hk, hp⟩ := h
      exact ih k hk hp
    · exact ⟨n, hn, fun k hk => Nat.le_of_not_lt fun hlt => h ⟨k, hlt, hk⟩⟩
theorem aw_loop {ι : Type} (I : ι → Prop) (S : ι → St) (μ : ι → Nat) {body : Code} {x0 : ι} (h0 : I x0)
    (hr : ∀ x, I x → AW cx body (S x) (Exit.then (fun a w => ∃ y, I y ∧ μ y < μ x ∧ ∃ m, Rel cx m (get (S y)) a w) Q)) : AW cx (.loop body) (S x0) Q := by
  intro m a w hrel
  let p : Act → World → Nat → Prop := fun a w n => ∃ x, I x ∧ μ x = n ∧ ∃ m, Rel cx m (get (S x)) a w
  have hmin : ∀ a w, (∃ n, p a w n) → ∃ n, p a w n ∧ ∀ k, p a w k → n ≤ k := fun a w h => exists_min (p a w) h
  let ν : Act → World → Nat := fun a w => open Classical in if h : ∃ n, p a w n then Classical.choose (hmin a w h) else 0
  have hν : ∀ a w (h : ∃ n, p a w n), p a w (ν a w) ∧ ∀ k, p a w k → ν a w ≤ k := by
    intro a w h
    have : ν a w = Classical.choose (hmin a w h) := by simp only [ν]; rw [dif_pos h]
    rw [this]
    exact Classical.choose_spec (hmin a w h)
  refine wpIn_loop (fun a w => ∃ n, p a w n) ν ⟨μ x0, x0, h0, rfl, m, hrel⟩ fun a w h => ?_
  obtain ⟨⟨x, hx, he, m', hrel'⟩, _⟩ := hν a w h
  refine wpIn_mono (hr x hx m' a w hrel') fun e a' w' hq => ?_
  cases e with
  | normal =>
    obtain ⟨y, hy, hlt, m'', hrel''⟩ := hq
    have hp : p a' w' (μ y) := ⟨y, hy, rfl, m'', hrel''⟩
    refine ⟨⟨_, hp⟩, ?_⟩
    have := (hν a' w' ⟨_, hp⟩).2 _ hp
    omega
  | _ => exact hq
theorem quo_nn {n p : Int} (h0 : 0 ≤ n) (h1 : 0 < p) (hb : n ≤ 9223372036854775807) : IntKind.i64.wrap (n.tdiv p) = n / p := by
  rw [Int.tdiv_eq_ediv_of_nonneg h0]
  have h2 := Int.ediv_nonneg h0 (Int.le_of_lt h1)
  have h3 := Int.ediv_le_self p h0
  exact wrap_of ⟨by omega, by omega⟩
theorem rem_nn {n p : Int} (h0 : 0 ≤ n) (_h1 : 0 < p) (_hb : n ≤ 9223372036854775807) : n.tmod p = n % p := Int.tmod_eq_emod_of_nonneg h0
theorem not_t {x : Bool} (h : (!x) = true) : x = false := by simpa using h
theorem not_f {x : Bool} (h : (!x) = false) : x = true := by simpa using h
theorem and_tl {x y : Bool} (h : (x && y) = true) : x = true := ((Bool.and_eq_true x y).mp h).1
theorem and_tr {x y : Bool} (h : (x && y) = true) : y = true := ((Bool.and_eq_true x y).mp h).2
theorem or_fl {x y : Bool} (h : (x || y) = false) : x = false := (Bool.or_eq_false_iff.1 h).1
theorem or_fr {x y : Bool} (h : (x || y) = false) : y = false := (Bool.or_eq_false_iff.1 h).2
theorem eq_t {n p : Int} (h : (n == p) = true) : n = p := eq_of_beq h
theorem eq_f {n p : Int} (h : (n == p) = false) : n ≠ p := by simpa using h
theorem ne_t {n p : Int} (h : (n != p) = true) : n ≠ p := by simpa using h
theorem ne_f {n p : Int} (h : (n != p) = false) : n = p := by simpa using h
theorem beq_t {x : Bool} (h : (x == true) = true) : x = true := by simpa using h
theorem lN {n p : Nat} (h : Nat.ble (n + 1) p = true) : n < p := Nat.le_of_ble_eq_true h
def argSt : Nat → List SV → St
  | _, [] => []
  | i, v :: vs => (.t i, some (.x v)) :: argSt (i + 1) vs
theorem argSt_get : ∀ (vs : List SV) (i : Nat) (k : Key) (x : Val), get (argSt i vs) k = some x → ∃ j v, k = .t (i + j) ∧ vs[j]? = some v ∧ x = .x v := by
  intro vs
  induction vs with
  | nil => intro i k x h; simp [argSt, get, upd] at h
  | cons v vs ih =>
    intro i k x h
    simp only [argSt, get, upd] at h
    cases e : (Key.t i).eqb k with
    | true =>
      rw [e] at h
      have := Key.eqb_iff.1 e
      exact ⟨0, v, by simpa using this.symm, rfl, by simpa using h.symm⟩
    | false =>
      rw [e] at h
      obtain ⟨j, u, h1, h2, h3⟩ := ih (i + 1) k x h
      exact ⟨j + 1, u, by rw [h1]; congr 1; omega, by simpa using h2, h3⟩
abbrev noS : Nat → Array Value := fun _ => #[]
theorem rel_start {P : Program} {r : Option Nat} {N : Nat} (args : List SV) (w : World) (hn : args.length ≤ N) :
    Rel ⟨P, r, w.heap.size, w, N, false, [], noS, []⟩ (fun _ => 0) (get (argSt 0 args)) { tmps := (denL (fun _ => 0) args).toArray ++ Array.replicate (N - (denL (fun _ => 0) args).toArray.size) undef, defers := [] } w := by
  have hsz : ((denL (fun _ => 0) args).toArray ++ Array.replicate (N - (denL (fun _ => 0) args).toArray.size) undef).size = N := by simp [denL_length]; omega
  refine ⟨hsz, marks_nil, fun i x hx => ?_, fun i b x hx => ?_, fun L ty n hx => ?_, fun L o x hx => ?_, fun L o x hx => ?_, fun L L' ty n ty' n' hx _ _ => ?_, fun L own C ty k cs hx => ?_, fun L own C ty k cs L' ty' n' hx => ?_, fun L C ty k cs L' own' C' ty' k' cs' hx => ?_, fun L C ty k cs hx => ?_, ⟨rfl, rfl, rfl, Nat.le_refl _, fun _ _ _ => rfl⟩, Nat.le_refl _, fun L b hb => by simp at hb, fun l i x hx => ?_, fun k o hk => by simp at hk⟩
  · obtain ⟨j, v, hk, hv, he⟩ := argSt_get _ _ _ _ hx
    cases hk; cases he
    simp only [Nat.zero_add]
    have hlt : j < args.length := (List.getElem?_eq_some_iff.1 hv).1
    rw [Array.getElem?_append_left (by simpa [denL_length] using hlt)]
    rw [List.getElem?_toArray, denL_get, hv]
    rfl
  · obtain ⟨j, v, hk, hv, he⟩ := argSt_get _ _ _ _ hx; cases he
  · obtain ⟨j, v, hk, hv, he⟩ := argSt_get _ _ _ _ hx; cases hk
  · obtain ⟨j, v, hk, hv, he⟩ := argSt_get _ _ _ _ hx; cases hk
  · obtain ⟨j, v, hk, hv, he⟩ := argSt_get _ _ _ _ hx; cases hk
  · obtain ⟨j, v, hk, hv, he⟩ := argSt_get _ _ _ _ hx; cases hk
  · obtain ⟨j, v, hk, hv, he⟩ := argSt_get _ _ _ _ hx; cases hk
  · obtain ⟨j, v, hk, hv, he⟩ := argSt_get _ _ _ _ hx; cases hk
  · obtain ⟨j, v, hk, hv, he⟩ := argSt_get _ _ _ _ hx; cases hk
  · obtain ⟨j, v, hk, hv, he⟩ := argSt_get _ _ _ _ hx; cases hk
  · obtain ⟨j, v, hk, hv, he⟩ := argSt_get _ _ _ _ hx; cases hk
theorem enter {P : Program} {f : Nat} {fn : Func} {c : Code} {args : List SV} {w : World} {R : Ending → World → Prop} (hf : P.funcs[f]? = some fn) (hb : fn.body = some c) {N : Nat} (hN : fn.ntmps = N) (hn : args.length ≤ N)
    (h : AW ⟨P, none, w.heap.size, w, N, false, [], noS, []⟩ c (argSt 0 args) (bodyPost P fn R)) : Calls P f (denL (fun _ => 0) args).toArray w R := by
  refine (callsIn_wide (n := 0)).1 ?_
  refine callsIn_of_wp hf hb trivial ?_
  subst hN
  exact h _ _ _ (rel_start args w hn)
def ResOK (P : Program) (s : Map) : List ResultVar → List SV → Prop
  | [], xs => xs = []
  | .tmp t :: r, xs => ∃ v vs, xs = v :: vs ∧ s (.t t) = some (.x v) ∧ ResOK P s r vs
  | .cell t ty :: r, xs => ∃ v vs L, xs = v :: vs ∧ s (.t t) = some (.x (.p L 0)) ∧
      (match shapeOf P ty with
       | some none => s (.c L 0) = some (.x v)
       | some (some n) => ∃ ys, v = .g ys ∧ ys.length = n ∧ CellsAre s L 0 ys
       | none => False) ∧ ResOK P s r vs
theorem rqT {P : Program} {s : Map} {t : Nat} {r : List ResultVar} {v : SV} {vs : List SV} (h : s (.t t) = some (.x v)) (hr : ResOK P s r vs) : ResOK P s (.tmp t :: r) (v :: vs) := ⟨v, vs, rfl, h, hr⟩
theorem rqC {P : Program} {s : Map} {t ty L n : Nat} {r : List ResultVar} {ys vs : List SV} (h : s (.t t) = some (.x (.p L 0))) (hsh : shapeOf P ty = some (some n)) (hn : ys.length = n) (hc : CellsAre s L 0 ys) (hr : ResOK P s r vs) :
    ResOK P s (.cell t ty :: r) (.g ys :: vs) := ⟨.g ys, vs, L, rfl, h, by rw [hsh]; exact ⟨ys, rfl, hn, hc⟩, hr⟩
theorem rqN {P : Program} {s : Map} : ResOK P s [] [] := rfl
def resVal : List SV → SV
  | [x] => x
  | xs => .t xs
theorem resOK_run {m : Nat → Nat} {g : Map} {a : Act} {w : World} (hrel : Rel cx m g a w) : ∀ {rs : List ResultVar} {xs : List SV}, ResOK cx.P g rs xs →
    (rs.mapM (fun | .tmp t => pure (a.tmps.getD t undef) | .cell t ty => do loadVar ty (← asAddr (a.tmps.getD t undef)) : ResultVar → Sem Value)).run cx.P w = .ok (denL m xs) w := by
  intro rs
  induction rs with
  | nil => intro xs h; rw [show xs = [] from h]; rfl
  | cons r rs ih =>
    intro xs h
    cases r with
    | tmp t =>
      obtain ⟨v, vs, rfl, h1, h2⟩ := h
      have := hrel.tm t v h1
      have h3 := ih h2
      simp only [List.mapM_cons, Sem.run_bind, Sem.run_pure, Result.andThen_ok, h3, denL]
      simp [this]
    | cell t ty =>
      obtain ⟨v, vs, L, rfl, h1, h4, h2⟩ := h
      have h5 := hrel.tm t _ h1
      have h3 := ih h2
      have hl : (loadVar ty ⟨m L, 0, none⟩).run cx.P w = .ok (den m v) w := by
        cases hsh : shapeOf cx.P ty with
        | none => rw [hsh] at h4; exact h4.elim
        | some q =>
          rw [hsh] at h4
          cases q with
          | none => exact run_load_one hsh (hrel.cell L 0 v h4)
          | some n =>
            obtain ⟨ys, rfl, hn, hc⟩ := h4
            refine run_load_agg hsh (l := denL m ys) (by rw [denL_length, hn]) fun j u hj => ?_
            rw [denL_get] at hj
            cases hy : ys[j]? with
            | none => rw [hy] at hj; cases hj
            | some y => rw [hy] at hj; cases hj; exact hrel.cell L (0 + j) y (cellsAre_get hc j y hy)
      have h6 : (asAddr (a.tmps.getD t undef)).run cx.P w = .ok ⟨m L, 0, none⟩ w := by
        simp [h5, den, asAddr]
      simp only [List.mapM_cons, Sem.run_bind, Sem.run_pure, Result.andThen_ok, h3, denL, h6, hl]
theorem results_run {fn : Func} {m : Nat → Nat} {g : Map} {a : Act} {w : World} {rs : List ResultVar} {xs : List SV} (hrs : fn.results = rs.toArray) (hrel : Rel cx m g a w) (h : ResOK cx.P g rs xs) :
    (results fn a.tmps).run cx.P w = .ok (den m (resVal xs)) w := by
  have h1 := resOK_run hrel h
  have h2 : (results fn a.tmps) = (do
      let vs ← (rs.mapM (fun | .tmp t => pure (a.tmps.getD t undef) | .cell t ty => do loadVar ty (← asAddr (a.tmps.getD t undef)) : ResultVar → Sem Value))
      pure (if h : vs.toArray.size = 1 then vs.toArray[0] else .tuple vs.toArray)) := by
    unfold results
    rw [hrs, List.mapM_toArray]
    simp only [map_eq_pure_bind, bind_assoc, pure_bind]
    rfl
  rw [h2, Sem.run_bind, h1, Result.andThen_ok, Sem.run_pure]
  congr 1
  cases xs with
  | nil => rfl
  | cons x r =>
    cases r with
    | nil => rfl
    | cons y r =>
      rw [dif_neg (by simp [denL])]
      rfl
theorem pqr {fn : Func} {R : Ending → World → Prop} {rs : List ResultVar} {xs : List SV} {x : SV} (hds : cx.ds = false) (hrs : fn.results = rs.toArray) (h : ResOK cx.P (get s) rs xs) (hx : resVal xs = x)
    (hR : ∀ m a w, Rel cx m (get s) a w → R (.returned (den m x)) w) : Fin cx s (bodyPost cx.P fn R) .ret := by
  intro m a w hrel
  subst hx
  exact ⟨by have := hrel.defers; rw [hds] at this; exact this.none, _, results_run hrs hrel h, hR m a w hrel⟩
end
end Go.AX
/-
  The core, sixth part: lists in memory that lay there when the activation began.
-/
namespace Go.AX
open Go Go.RowKit
def SlAt {α : Type} (enc : α → List Value) (k : Nat) (w : World) (p : Option Addr) (n c : Nat) (l : List α) : Prop :=
  n = l.length ∧ n ≤ c ∧ (l ≠ [] → ∃ b o, p = some ⟨b, o, none⟩ ∧ b < w.heap.size ∧
    ∀ i x, l[i]? = some x → ∀ j v, (enc x)[j]? = some v → w.cell? ⟨b, o + i * k + j, none⟩ = some v)
theorem SlAt.len {α : Type} {enc : α → List Value} {k : Nat} {w : World} {p : Option Addr} {n c : Nat} {l : List α} (h : SlAt enc k w p n c l) : n = l.length := h.1
theorem SlAt.mono {α : Type} {enc : α → List Value} {k : Nat} {w w' : World} {p : Option Addr} {n c : Nat} {l : List α} (h : SlAt enc k w p n c l) (hb : Below w.heap.size w w') : SlAt enc k w' p n c l := by
  refine ⟨h.1, h.2.1, fun hl => ?_⟩
  obtain ⟨b, o, h1, h2, h3⟩ := h.2.2 hl
  exact ⟨b, o, h1, Nat.lt_of_lt_of_le h2 hb.size, fun i x hx j v hv => by rw [hb.cell (p := ⟨b, o + i * k + j, none⟩) h2]; exact h3 i x hx j v hv⟩
def Lies {α : Type} (enc : α → List Value) (k : Nat) (w : World) (b o : Nat) (l : List α) : Prop :=
  b < w.heap.size ∧ ∀ i x, l[i]? = some x → ∀ j v, (enc x)[j]? = some v → w.cell? ⟨b, o + i * k + j, none⟩ = some v
theorem SlAt.lies {α : Type} {enc : α → List Value} {k : Nat} {w : World} {p : Option Addr} {n c : Nat} {l : List α} (h : SlAt enc k w p n c l) (hl : l ≠ []) :
    ∃ b o, p = some ⟨b, o, none⟩ ∧ Lies enc k w b o l := by
  obtain ⟨b, o, h1, h2, h3⟩ := h.2.2 hl
  exact ⟨b, o, h1, h2, h3⟩
section
variable {α : Type} {enc : α → List Value} {k : Nat} {w0 : World} {b o : Nat} {l : List α}
theorem getD_some {d : α} {i : Int} (h0 : 0 ≤ i) (h1 : i < l.length) : l[i.toNat]? = some (l.getD i.toNat d) := by
  have : i.toNat < l.length := by omega
  simp [List.getD, this]
theorem ld1 {cx : Cx} (h : Lies enc k cx.w0 b o l) (d : α) {i : Int} (h0 : 0 ≤ i) (h1 : i < l.length) (j : Nat) {v : Value} (hv : (enc (l.getD i.toNat d))[j]? = some v) {ty off : Nat} (ho : off = o + i.toNat * k + j)
    (hsh : shapeOf cx.P ty = some none) (hB : cx.w0.heap.size ≤ cx.B := by exact Nat.le_refl _) (nb : ¬ cx.lent b := by exact lent_nil) : ∀ w, Held cx w → ∀ m : Nat → Nat, (loadVar ty ⟨b, off, none⟩).run cx.P w = .ok (den m (.v v)) w := by
  intro w hb m
  subst ho
  refine run_load_one hsh ?_
  rw [hb.cell (p := ⟨b, o + i.toNat * k + j, none⟩) (Nat.lt_of_lt_of_le h.1 hB) nb]
  exact h.2 i.toNat _ (getD_some h0 h1) j v hv
theorem ldN {cx : Cx} (h : Lies enc k cx.w0 b o l) (d : α) {i : Int} (h0 : 0 ≤ i) (h1 : i < l.length) (j : Nat) {vs : List Value} (hv : ∀ q v, vs[q]? = some v → (enc (l.getD i.toNat d))[j + q]? = some v) {ty off n : Nat} (ho : off = o + i.toNat * k + j)
    (hsh : shapeOf cx.P ty = some (some n)) (hn : vs.length = n) (hB : cx.w0.heap.size ≤ cx.B := by exact Nat.le_refl _) (nb : ¬ cx.lent b := by exact lent_nil) : ∀ w, Held cx w → ∀ m : Nat → Nat, (loadVar ty ⟨b, off, none⟩).run cx.P w = .ok (den m (.g (vs.map SV.v))) w := by
  intro w hb m
  subst ho
  simp only [den, denL_vals]
  refine run_load_agg hsh hn fun q v hq => ?_
  rw [hb.cell (p := ⟨b, o + i.toNat * k + j + q, none⟩) (Nat.lt_of_lt_of_le h.1 hB) nb, Nat.add_assoc]
  exact h.2 i.toNat _ (getD_some h0 h1) (j + q) v (hv q v hq)
theorem ldCell {cx : Cx} {b o : Nat} {v : Value} (hb0 : b < cx.w0.heap.size) (hc : cx.w0.cell? ⟨b, o, none⟩ = some v) {ty off : Nat} (ho : off = o) (hsh : shapeOf cx.P ty = some none)
    (hB : cx.w0.heap.size ≤ cx.B := by exact Nat.le_refl _) (nb : ¬ cx.lent b := by exact lent_nil) :
    ∀ w, Held cx w → ∀ m : Nat → Nat, (loadVar ty ⟨b, off, none⟩).run cx.P w = .ok (den m (.v v)) w := by
  intro w hb m
  subst ho
  refine run_load_one hsh ?_
  rw [hb.cell (p := ⟨b, off, none⟩) (Nat.lt_of_lt_of_le hb0 hB) nb]
  exact hc
theorem ldCells {cx : Cx} {b o : Nat} {vs : List Value} (hb0 : b < cx.w0.heap.size) (hc : ∀ q v, vs[q]? = some v → cx.w0.cell? ⟨b, o + q, none⟩ = some v) {ty off n : Nat} (ho : off = o) (hsh : shapeOf cx.P ty = some (some n)) (hn : vs.length = n)
    (hB : cx.w0.heap.size ≤ cx.B := by exact Nat.le_refl _) (nb : ¬ cx.lent b := by exact lent_nil) :
    ∀ w, Held cx w → ∀ m : Nat → Nat, (loadVar ty ⟨b, off, none⟩).run cx.P w = .ok (den m (.g (vs.map SV.v))) w := by
  intro w hb m
  subst ho
  simp only [den, denL_vals]
  refine run_load_agg hsh hn fun q v hq => ?_
  rw [hb.cell (p := ⟨b, off + q, none⟩) (Nat.lt_of_lt_of_le hb0 hB) nb]
  exact hc q v hq
end
end Go.AX
/-
  The core, seventh part: append to a row of the activation's own; loads from rows; results and arguments that are rows.
-/
namespace Go.AX
open Go Go.RowKit
def appFact (P : Program) (t : TypeId) : Option (Nat × Nat × Nat) :=
  match P.underlying t with
  | some (.slice e) => match P.info? e with
    | some i => match i.zero with
      | some z => if z.cells.size = i.size ∧ 0 < i.size then some (e, i.size, i.bytes) else none
      | none => none
    | none => none
  | _ => none
theorem append_core {P : Program} {w : World} {t ty e k bytes b c n q c2 : Nat} {a : Addr} {cs vs : List Value} (hf : appFact P t = some (e, k, bytes)) (hv : VecAt b c e k cs w) (hcs : cs.length = n * k)
    (hvs : vs.length = q * k) (hnews : ∀ j u, vs[j]? = some u → w.cell? (a.add j) = some u) (h1 : ∀ u ∈ vs, u.oneCell' = true) (hq : 1 ≤ q) (hb : (n + q) * bytes ≤ 140737488355328) (h63 : n + q ≤ 1000000000) :
    ∃ b' c' w', (Builtin.append_ #[t, t] ty #[.slice (ptr0 b c) n c, .slice (some a) q c2]).run P w = .ok (.slice (some ⟨b', 0, none⟩) (n + q) c') w' ∧ c' ≠ 0 ∧ VecAt b' c' e k (cs ++ vs) w' ∧
      ((c ≠ 0 ∧ b' = b) ∨ w.heap.size ≤ b') ∧ w.heap.size ≤ w'.heap.size ∧ w'.os = w.os ∧ w'.tape = w.tape ∧ w'.output = w.output ∧ ∀ l, l < w.heap.size → (c ≠ 0 → l ≠ b) → w'.heap[l]? = w.heap[l]? := by
  unfold appFact at hf
  split at hf
  · rename_i e' ht
    split at hf
    · rename_i i hi
      split at hf
      · rename_i z hz
        split at hf
        · rename_i hsz
          obtain ⟨hzs, hpos⟩ := hsz
          simp only [Option.some.injEq, Prod.mk.injEq] at hf
          obtain ⟨rfl, rfl, rfl⟩ := hf
          have hlen : (cs ++ vs).length = (n + q) * i.size := by rw [List.length_append, hcs, hvs, Nat.add_mul]
          have grown : ∀ old, old < n + q → VecAt w.heap.size (grownCap w (n + q) old e') e' i.size (cs ++ vs)
              (w.drew.alloc (.cells (cs.toArray ++ vs.toArray ++ Builtin.zeroCells z.cells (grownCap w (n + q) old e' - (n + q))) e')) := by
            intro old _
            have hge := grownCap_ge w (n + q) old e'
            refine .inr ⟨by omega, cs.toArray ++ vs.toArray ++ Builtin.zeroCells z.cells (grownCap w (n + q) old e' - (n + q)), by show (w.heap.push _)[w.heap.size]? = _; simp, ?_, fun j v hj => ?_⟩
            · simp only [Array.size_append, List.size_toArray, size_zeroCells, hzs, hcs, hvs, ← Nat.add_mul]
              congr 1; omega
            · have hlt : j < (cs ++ vs).length := (List.getElem?_eq_some_iff.1 hj).1
              have e1 : cs.toArray ++ vs.toArray = (cs ++ vs).toArray := by simp
              rw [e1, Array.getElem?_append_left (by simpa using hlt), List.getElem?_toArray]
              exact hj
          rcases hv with ⟨rfl, rfl⟩ | ⟨hc, cur, hh, hcur, hpre⟩
          · have hn : n = 0 := by
              simp only [List.length_nil] at hcs
              rcases Nat.mul_eq_zero.1 hcs.symm with h | h <;> omega
            subst hn
            have hr := run_append_nil (P := P) w t ty e' i z ht hi hz a q c2 vs hvs hnews (by omega) (by omega) (by simp only [Nat.zero_add] at hb; omega)
            have hg := grown 0 (by omega)
            simp only [Nat.zero_add, List.nil_append, Array.empty_append] at hg hr ⊢
            have hge := grownCap_ge w q 0 e'
            have hr2 : (Builtin.append_ #[t, t] ty #[.slice (ptr0 b 0) 0 0, .slice (some a) q c2]).run P w = .ok (.slice (some ⟨w.heap.size, 0, none⟩) q (grownCap w q 0 e')) (w.drew.alloc (.cells (vs.toArray ++ Builtin.zeroCells z.cells (grownCap w q 0 e' - q)) e')) := by
              rcases ptr0_cases b with h0 | ⟨b0, h0⟩
              · rw [h0]; exact hr
              · rw [h0]
                have := run_append_grow (P := P) w t ty e' i z ht hi hz ⟨b0, 0, none⟩ 0 0 [] (by simp) (by simp) a q c2 vs hvs hnews (by omega) (by omega) (growslice_fits (by omega) hb)
                simpa using this
            exact ⟨_, _, _, hr2, by omega, hg, .inr (Nat.le_refl _), by show w.heap.size ≤ (w.heap.push _).size; simp, rfl, rfl, rfl, fun l hl _ => by show (w.heap.push _)[l]? = _; rw [Array.getElem?_push, if_neg (by omega)]⟩
          · rw [ptr0_ne hc]
            have hnc : n ≤ c := by
              have : cs.length ≤ cur.size := by
                rcases Nat.lt_or_ge cur.size cs.length with h | h
                · have hlast := hpre cur.size cs[cur.size] (List.getElem?_eq_getElem h)
                  simp at hlast
                · exact h
              rw [hcs, hcur] at this
              exact Nat.le_of_mul_le_mul_right this hpos
            by_cases hroom : n + q ≤ c
            · have hfit : n * i.size + vs.length ≤ cur.size := by rw [hvs, hcur, ← Nat.add_mul]; exact Nat.mul_le_mul_right _ hroom
              have hr := run_append_room (P := P) w t ty e' i ht hi b n c cur hh a q c2 vs hvs hnews h1 hroom hfit
              have hblt : b < w.heap.size := (Array.getElem?_eq_some_iff.1 hh).1
              refine ⟨_, _, _, hr, hc, .inr ⟨hc, _, setRow_heap w b cur _ e' _ hh, ?_, fun j v hj => ?_⟩, .inl ⟨hc, rfl⟩, by simp [World.setRow], rfl, rfl, rfl, fun l _ hl => setRow_other w b l _ (hl hc)⟩
              · simp only [List.size_toArray, List.length_append, List.length_take, List.length_drop, Array.length_toList]
                omega
              · have htake : cur.toList.take (n * i.size) = cs := by
                  apply List.ext_getElem?
                  intro j
                  rw [List.getElem?_take]
                  by_cases hj' : j < n * i.size
                  · rw [if_pos hj']
                    have hjl : j < cs.length := by omega
                    have := hpre j cs[j] (List.getElem?_eq_getElem hjl)
                    rw [List.getElem?_eq_getElem hjl, ← this]
                    simp
                  · rw [if_neg hj', List.getElem?_eq_none (by omega)]
                rw [htake, List.getElem?_toArray, List.getElem?_append_left (List.getElem?_eq_some_iff.1 hj).1]
                exact hj
            · have holds : ∀ j u, cs[j]? = some u → w.cell? ((⟨b, 0, none⟩ : Addr).add j) = some u := by
                intro j u hj
                rw [addr_add]
                simp only [World.cell?, hh, Nat.zero_add]
                simpa using hpre j u hj
              have hr := run_append_grow (P := P) w t ty e' i z ht hi hz ⟨b, 0, none⟩ n c cs hcs holds a q c2 vs hvs hnews (by omega) (by omega) (growslice_fits (by omega) hb)
              have hg := grown c (by omega)
              have hge := grownCap_ge w (n + q) c e'
              exact ⟨_, _, _, hr, by omega, hg, .inr (Nat.le_refl _), by show w.heap.size ≤ (w.heap.push _).size; simp, rfl, rfl, rfl, fun l hl _ => by show (w.heap.push _)[l]? = _; rw [Array.getElem?_push, if_neg (by omega)]⟩
        · cases hf
      · cases hf
    · cases hf
  · cases hf
section
variable {cx : Cx} {o : Oper} {s g : Map} {m : Nat → Nat} {a : Act} {w : World}
variable {d : Nat} {type : TypeId} {pos : String} {after : Array Edge} {guard : Option (Nat × Bool)}
theorem Rel.row {L C L' C' b' c' ty k : Nat} {cs vs : List Value} {w' : World} (h : Rel cx m g a w) (hr : g (.r L) = some (.vec true C ty k cs)) (hf : ∀ k, mentions L' k (g k) = false) (hf' : ∀ k, mentions C' k (g k) = false)
    (hne : L' ≠ C') (_hc' : c' ≠ 0) (hv : VecAt b' c' ty k vs w') (hb' : (m C ≠ 0 ∧ b' = m L) ∨ w.heap.size ≤ b') (hsz : w.heap.size ≤ w'.heap.size) (hos : w'.os = w.os) (htape : w'.tape = w.tape) (hout : w'.output = w.output)
    (hk : ∀ l, l < w.heap.size → (m C ≠ 0 → l ≠ m L) → w'.heap[l]? = w.heap[l]?) :
    Rel cx (setL (setL m L' b') C' c') (upd [(.r L', some (.vec true C' ty k vs)), (.r L, none)] g) a w' := by
  have hLL : L ≠ L' := fun e => by
    have := hf (.r L); rw [hr] at this; simp [mentions, e] at this
  have key : ∀ q, upd [(.r L', some (.vec true C' ty k vs)), (.r L, none)] g q = if q = .r L' then some (.vec true C' ty k vs) else if q = .r L then none else g q := by
    intro q
    rw [upd_cons, upd_one, upd_one]
    by_cases e1 : q = .r L'
    · subst e1; simp
    · by_cases e2 : q = .r L
      · subst e2; simp [e1, Ne.symm hLL]
      · simp [e1, e2, Ne.symm e1, Ne.symm e2]
  have old : ∀ {q v}, upd [(.r L', some (.vec true C' ty k vs)), (.r L, none)] g q = some v → q ≠ .r L' → g q = some v ∧ q ≠ .r L := by
    intro q v hq hne'
    rw [key, if_neg hne'] at hq
    by_cases e : q = .r L
    · rw [if_pos e] at hq; cases hq
    · rw [if_neg e] at hq; exact ⟨hq, e⟩
  have hx : ∀ {q x}, g q = some (.x x) → den (setL (setL m L' b') C' c') x = den m x := fun {q x} hq => by
    have h1 := hf q; have h2 := hf' q
    rw [hq] at h1 h2
    rw [den_setL ((mentions_x (b := true)).1 h2), den_setL ((mentions_x (b := true)).1 h1)]
  have hxc : ∀ {q b x}, g q = some (.xc b x) → den (setL (setL m L' b') C' c') x = den m x := fun {q b x} hq => by
    have h1 := hf q; have h2 := hf' q
    rw [hq] at h1 h2
    rw [den_setL ((mentions_x (b := b)).2 h2), den_setL ((mentions_x (b := b)).2 h1)]
  have mL' : setL (setL m L' b') C' c' L' = b' := by rw [setL_ne _ _ hne, setL_self]
  have mC' : setL (setL m L' b') C' c' C' = c' := setL_self _ _ _
  have mb : ∀ {l ty' n'}, g (.b l) = some (.sh ty' n') → setL (setL m L' b') C' c' l = m l := fun {l ty' n'} hl => by
    have h1 := hf (.b l); have h2 := hf' (.b l)
    rw [hl] at h1 h2
    simp only [mentions] at h1 h2
    rw [setL_ne _ _ (fun e => by subst e; simp at h2), setL_ne _ _ (fun e => by subst e; simp at h1)]
  have mr : ∀ {l own C2 ty' k' cs'}, g (.r l) = some (.vec own C2 ty' k' cs') → setL (setL m L' b') C' c' l = m l ∧ setL (setL m L' b') C' c' C2 = m C2 := fun {l own C2 ty' k' cs'} hl => by
    have h1 := hf (.r l); have h2 := hf' (.r l)
    rw [hl] at h1 h2
    simp only [mentions, Bool.or_eq_false_iff] at h1 h2
    constructor
    · rw [setL_ne _ _ (fun e => by subst e; simp at h2), setL_ne _ _ (fun e => by subst e; simp at h1)]
    · rw [setL_ne _ _ (fun e => by subst e; simp at h2), setL_ne _ _ (fun e => by subst e; simp at h1)]
  have blkk : ∀ {l ty' n'}, g (.b l) = some (.sh ty' n') → w'.heap[m l]? = w.heap[m l]? ∧ m l < w.heap.size := fun {l ty' n'} hl => by
    obtain ⟨_, cs', _, h3⟩ := h.blk l ty' n' hl
    have hlt := (Array.getElem?_eq_some_iff.1 h3).1
    exact ⟨hk _ hlt fun hc => (h.sep L true C ty k cs l ty' n' hr hl hc).symm, hlt⟩
  have rowk : ∀ {l own C2 ty' k' cs'}, g (.r l) = some (.vec own C2 ty' k' cs') → l ≠ L → m C2 ≠ 0 → w'.heap[m l]? = w.heap[m l]? ∧ m l < w.heap.size ∧ (m C ≠ 0 → m l ≠ m L) := fun {l own C2 ty' k' cs'} hl hne2 hc2 => by
    have hlt := (h.vec l own C2 ty' k' cs' hl).lt hc2
    have hd : m C ≠ 0 → m l ≠ m L := fun hc => (h.sepR L C ty k cs l own C2 ty' k' cs' hr hl (Ne.symm hne2) hc hc2).symm
    exact ⟨hk _ hlt hd, hlt, hd⟩
  refine ⟨h.size, h.defers.step (fun k' o h1 h2 => (hk _ (Array.getElem?_eq_some_iff.1 h1).1 fun hc e => VecAt.notCells (h.vec L true C ty k cs hr) hc (e ▸ h1) h2).trans h1), fun i y hy => ?_, fun i b y hy => ?_, fun l ty' n' hl => ?_, fun l o y hy => ?_, fun l o y hy => ?_, fun l1 l2 ty1 n1 ty2 n2 h1 h2 he => ?_,
    fun l own C2 ty' k' cs' hl => ?_, fun l own C2 ty' k' cs' l2 ty2 n2 hl hl2 hc2 => ?_, fun l C2 ty' k' cs' l2 own2 C3 ty2 k2 cs2 hl hl2 hne2 hc2 hc3 => ?_, fun l C2 ty' k' cs' hl hc2 => ?_, ?_, ?_, fun l b hb => ?_, fun l i y hy => ?_, fun k' o hko => ?_⟩
  · obtain ⟨hy, _⟩ := old hy (by simp); rw [hx hy]; exact h.tm i y hy
  · obtain ⟨hy, _⟩ := old hy (by simp); rw [hxc hy]; exact h.tmc i b y hy
  · obtain ⟨hl, _⟩ := old hl (by simp)
    rw [mb hl]
    obtain ⟨h1, cs', h2, h3⟩ := h.blk l ty' n' hl
    exact ⟨h1, cs', h2, by rw [(blkk hl).1]; exact h3⟩
  · obtain ⟨hy, _⟩ := old hy (by simp)
    obtain ⟨ty', n', hl⟩ := h.own l o y hy
    rw [hx hy, mb hl]
    have := h.cell l o y hy
    simp only [World.cell?] at this ⊢
    rw [(blkk hl).1]; exact this
  · obtain ⟨hy, _⟩ := old hy (by simp)
    obtain ⟨ty', n', hl⟩ := h.own l o y hy
    exact ⟨ty', n', by rw [key, if_neg (by simp), if_neg (by simp)]; exact hl⟩
  · obtain ⟨h1, _⟩ := old h1 (by simp)
    obtain ⟨h2, _⟩ := old h2 (by simp)
    rw [mb h1, mb h2] at he
    exact h.inj l1 l2 _ _ _ _ h1 h2 he
  · by_cases e : l = L'
    · subst e
      rw [key, if_pos rfl] at hl
      simp only [Option.some.injEq, Val.vec.injEq] at hl
      obtain ⟨rfl, rfl, rfl, rfl, rfl⟩ := hl
      rw [mL', mC']; exact hv
    · obtain ⟨hl, hl'⟩ := old hl (by simpa using e)
      rw [(mr hl).1, (mr hl).2]
      exact (h.vec l own C2 ty' k' cs' hl).same fun hc2 => (rowk hl (by simpa using hl') hc2).1
  · obtain ⟨hl2, _⟩ := old hl2 (by simp)
    rw [mb hl2]
    by_cases e : l = L'
    · subst e
      rw [mL']
      have hlt := (blkk hl2).2
      rcases hb' with ⟨hc, rfl⟩ | hb'
      · exact h.sep L true C ty k cs l2 ty2 n2 hr hl2 hc
      · omega
    · obtain ⟨hl, _⟩ := old hl (by simpa using e)
      rw [(mr hl).2] at hc2
      rw [(mr hl).1]
      exact h.sep l own C2 ty' k' cs' l2 ty2 n2 hl hl2 hc2
  · by_cases e : l = L'
    · subst e
      rw [mL']
      have e2 : l2 ≠ l := Ne.symm hne2
      obtain ⟨hl2, hl2'⟩ := old hl2 (by simpa using e2)
      rw [(mr hl2).2] at hc3
      rw [(mr hl2).1]
      obtain ⟨_, hlt, hd⟩ := rowk hl2 (by simpa using hl2') hc3
      rcases hb' with ⟨hc, rfl⟩ | hb'
      · exact (hd hc).symm
      · omega
    · obtain ⟨hlo, hlo'⟩ := old hl (by simpa using e)
      rw [(mr hlo).2] at hc2
      rw [(mr hlo).1]
      by_cases e2 : l2 = L'
      · obtain ⟨_, hlt, hd⟩ := rowk hlo (by simpa using hlo') hc2
        subst e2
        rw [mL']
        rcases hb' with ⟨hc, rfl⟩ | hb'
        · exact hd hc
        · omega
      · obtain ⟨hl2, _⟩ := old hl2 (by simpa using e2)
        rw [(mr hl2).2] at hc3
        rw [(mr hl2).1]
        exact h.sepR l C2 ty' k' cs' l2 own2 C3 ty2 k2 cs2 hlo hl2 hne2 hc2 hc3
  · by_cases e : l = L'
    · subst e
      rw [mL']
      rcases hb' with ⟨hc, rfl⟩ | hb'
      · exact h.ownR L C ty k cs hr hc
      · exact .inl (Nat.le_trans h.top hb')
    · obtain ⟨hl, _⟩ := old hl (by simpa using e)
      rw [(mr hl).2] at hc2
      rw [(mr hl).1]
      exact h.ownR l C2 ty' k' cs' hl hc2
  · refine h.held.step hos htape hout hsz fun l hl hnb => hk l (Nat.lt_of_lt_of_le hl h.top) fun hc e => ?_
    rcases h.ownR L C ty k cs hr hc with h1 | h1
    · omega
    · exact hnb (e ▸ h1)
  · exact Nat.le_trans h.top hsz
  · obtain ⟨h1, ty1, n1, h2⟩ := h.fix l b hb
    exact ⟨by rw [mb h2]; exact h1, ty1, n1, by rw [key, if_neg (by simp), if_neg (by simp)]; exact h2⟩
  · obtain ⟨hy, _⟩ := old hy (by simp); rw [hx hy]; exact h.us l i y hy
  · obtain ⟨h1, h2⟩ := h.ko k' o hko
    refine ⟨(hk _ (Array.getElem?_eq_some_iff.1 h1).1 fun hc e => ?_).trans h1, h2⟩
    exact VecAt.notCells (h.vec L true C ty k cs hr) hc (e ▸ h1) h2
theorem oneC_eq {v : Value} (h : oneC v = true) : v.oneCell' = true := by cases v <;> simp_all [oneC, Value.oneCell']
theorem op_append {t e k bytes L C n L' C' L2 o2 q c2 : Nat} {x y : Operand} {cs vs : List Value} (hN : d < cx.N) (hf : appFact cx.P t = some (e, k, bytes)) (hx : Ev s x (.o L C n)) (hr : s (.r L) = some (.vec true C e k cs)) (hcs : cs.length = n * k)
    (hy : Ev s y (.s L2 o2 q c2)) (hc : CellsAre s L2 o2 (vs.map SV.v)) (hvs : vs.length = q * k) (h1 : vs.all oneC = true) (hq : 1 ≤ q) (hb : (n + q) * bytes ≤ 140737488355328) (h63 : n + q ≤ 1000000000) (hne : L' ≠ C') :
    OpRun cx ⟨some d, .call ⟨.builtin .append, #[x, y], #[t, t]⟩, type, pos, after, guard⟩ s
      ⟨.r L :: (okeys x ++ okeys y ++ cqK L2 o2 (q * k)), [(.t d, some (.x (.o L' C' (n + q)))), (.r L', some (.vec true C' e k (cs ++ vs))), (.r L, none)], [L', C']⟩ := by
  intro m a w g hrd hfr hrel K Q hK
  have e1 := hx.eval hrel (fun k hk => hrd k (reads_mem (by simp [hk])))
  have e2 := hy.eval hrel (fun k hk => hrd k (reads_mem (by simp [hk])))
  have e3 : g (.r L) = some (.vec true C e k cs) := by rw [hrd _ (reads_mem (by simp))]; exact hr
  have hcell : ∀ j u, vs[j]? = some u → w.cell? ((⟨m L2, o2, none⟩ : Addr).add j) = some u := by
    intro j u hj
    rw [addr_add]
    have hlt : j < q * k := by rw [← hvs]; exact (List.getElem?_eq_some_iff.1 hj).1
    have h2 := cellsAre_get hc j (.v u) (by simp [hj])
    exact hrel.cell L2 (o2 + j) (.v u) (by rw [hrd _ (reads_mem (by simp [mem_cellKeys hlt]))]; exact h2)
  obtain ⟨b', c', w', hrun, hc', hv', hb', hsz, hos, htape, hout, hk⟩ := append_core (ty := type) hf (hrel.vec L true C e k cs e3) hcs hvs hcell (fun u hu => oneC_eq (List.all_eq_true.1 h1 u hu)) hq hb h63 (c2 := c2)
  refine ⟨fun _ _ => trivial, ?_⟩
  rw [semAt_of _ _ (fun _ h => by cases h)]
  have hex : (execOp a.eval ⟨some d, .call ⟨.builtin .append, #[x, y], #[t, t]⟩, type, pos, after, guard⟩).run cx.P w = .ok (.value (.slice (some ⟨b', 0, none⟩) (n + q) c')) w' := by
    simp only [execOp, resolve, invoke, builtin, Sem.run_bind, Sem.run_pure, Result.andThen_ok, List.map_toArray, List.map_cons, List.map_nil, e1, e2, den, hrun]
  rw [hex, Oper.uponIn_value]
  have hrel' := hrel.row (vs := cs ++ vs) e3 (hfr L' (by simp)) (hfr C' (by simp)) hne hc' hv' hb' hsz hos htape hout hk
  refine hK _ _ _ ((hrel'.put (x := .o L' C' (n + q)) hN ?_).congr (fun q => (upd_cons g q).symm))
  simp only [den]
  rw [setL_self, setL_ne _ _ hne, setL_self, ptr0_ne hc']
end
end Go.AX
/-
  The core, eighth part: boxes and slices of one's own as what a callee's contract asks of memory; new rows out of a callee's results; arrays.
-/
namespace Go.AX
open Go Go.RowKit
def BoxAt (w : World) (b : Nat) (vs : List Value) : Prop := b < w.heap.size ∧ ∀ j v, vs[j]? = some v → w.cell? ⟨b, j, none⟩ = some v
theorem BoxAt.mono {w w' : World} {b : Nat} {vs : List Value} (h : BoxAt w b vs) (hb : Below w.heap.size w w') : BoxAt w' b vs :=
  ⟨Nat.lt_of_lt_of_le h.1 hb.size, fun j v hj => by rw [hb.cell (p := ⟨b, j, none⟩) h.1]; exact h.2 j v hj⟩
def NewAt (w w' : World) (p : Option Addr) (n c ty k : Nat) (cs : List Value) : Prop :=
  ∃ b, p = ptr0 b c ∧ VecAt b c ty k cs w' ∧ (c ≠ 0 → w.heap.size ≤ b) ∧ cs.length = n * k
def arrSz (P : Program) (ty : TypeId) : Option (Nat × Nat) :=
  match P.underlying ty with
  | some (.array n e) => (P.info? e).map (fun i => (n, i.size))
  | _ => none
section
variable {cx : Cx} {o : Oper} {s g : Map} {m : Nat → Nat} {a : Act} {w : World}
variable {d : Nat} {type : TypeId} {pos : String} {after : Array Edge} {guard : Option (Nat × Bool)}
theorem bqA {L n ty : Nat} {vs : List Value} (hrel : Rel cx m g a w) (hr : ∀ k ∈ Key.b L :: cqK L 0 vs.length, g k = s k) (hb : s (.b L) = some (.sh ty n)) (hc : CellsAre s L 0 (vs.map SV.v)) : BoxAt w (m L) vs := by
  obtain ⟨_, cs, _, hh⟩ := hrel.blk L ty n (by rw [hr _ (by simp)]; exact hb)
  refine ⟨(Array.getElem?_eq_some_iff.1 hh).1, fun j v hj => ?_⟩
  have hlt : j < vs.length := (List.getElem?_eq_some_iff.1 hj).1
  have h1 := cellsAre_get hc j (.v v) (by simp [hj])
  have h2 : Key.c L (0 + j) ∈ cqK L 0 vs.length := mem_cellKeys hlt
  have := hrel.cell L (0 + j) (.v v) (by rw [hr _ (by simp only [List.mem_cons]; exact .inr h2)]; exact h1)
  simpa [den] using this
theorem flat_get {α : Type} {enc : α → List Value} {k : Nat} (hk : ∀ x, (enc x).length = k) : ∀ {l : List α} {i : Nat} {x : α} {j : Nat} {v : Value}, l[i]? = some x → (enc x)[j]? = some v → (l.flatMap enc)[i * k + j]? = some v := by
  intro l
  induction l with
  | nil => intro i x j v h; simp at h
  | cons y l ih =>
    intro i x j v hi hj
    rw [List.flatMap_cons]
    cases i with
    | zero =>
      simp only [List.getElem?_cons_zero, Option.some.injEq] at hi
      subst hi
      rw [Nat.zero_mul, Nat.zero_add, List.getElem?_append_left (List.getElem?_eq_some_iff.1 hj).1]
      exact hj
    | succ i =>
      simp only [List.getElem?_cons_succ] at hi
      have e : (i + 1) * k + j = (enc y).length + (i * k + j) := by rw [hk, Nat.succ_mul]; omega
      rw [e, List.getElem?_append_right (Nat.le_add_right _ _), Nat.add_sub_cancel_left]
      exact ih hi hj
theorem flat_length {α : Type} {enc : α → List Value} {k : Nat} (hk : ∀ x, (enc x).length = k) : ∀ (l : List α), (l.flatMap enc).length = l.length * k := by
  intro l
  induction l with
  | nil => simp
  | cons y l ih => simp only [List.flatMap_cons, List.length_append, hk, ih, List.length_cons, Nat.succ_mul]; omega
theorem slAt_own {α : Type} {enc : α → List Value} {k L n ty c : Nat} {l : List α} (hk : ∀ x, (enc x).length = k) (hrel : Rel cx m g a w) (hr : ∀ q ∈ Key.b L :: cqK L 0 (l.length * k), g q = s q)
    (hb : s (.b L) = some (.sh ty n)) (hc : CellsAre s L 0 ((l.flatMap enc).map SV.v)) (hle : l.length ≤ c) : SlAt enc k w (some ⟨m L, 0, none⟩) l.length c l := by
  have hbox := bqA (vs := l.flatMap enc) hrel (by rw [flat_length hk]; exact hr) hb hc
  refine ⟨rfl, hle, fun _ => ⟨m L, 0, rfl, hbox.1, fun i x hi j v hj => ?_⟩⟩
  rw [Nat.zero_add]
  exact hbox.2 _ _ (flat_get hk hi hj)
theorem sqr {α : Type} {enc : α → List Value} {k L C ty : Nat} {own : Bool} {l : List α} (hk : ∀ x, (enc x).length = k) (hpos : 0 < k) (hrel : Rel cx m g a w) (hr : g (.r L) = some (.vec own C ty k (l.flatMap enc))) :
    SlAt enc k w (ptr0 (m L) (m C)) l.length (m C) l := by
  have hv := hrel.vec L own C ty k _ hr
  rcases hv with ⟨h0, h1⟩ | ⟨h0, cur, hh, hsz, hpre⟩
  · have hl : l = [] := by
      have := flat_length hk l
      rw [h1] at this
      simp only [List.length_nil] at this
      rcases Nat.mul_eq_zero.1 this.symm with h | h
      · exact List.eq_nil_of_length_eq_zero h
      · omega
    subst hl
    exact ⟨rfl, Nat.zero_le _, fun h => absurd rfl h⟩
  · have hle : l.length ≤ m C := by
      have h1 := flat_length hk l
      have : (l.flatMap enc).length ≤ cur.size := by
        rcases Nat.lt_or_ge cur.size (l.flatMap enc).length with h | h
        · have hlast := hpre cur.size _ (List.getElem?_eq_getElem h)
          simp at hlast
        · exact h
      rw [h1, hsz] at this
      exact Nat.le_of_mul_le_mul_right this hpos
    refine ⟨rfl, hle, fun _ => ⟨m L, 0, by rw [ptr0_ne h0], (Array.getElem?_eq_some_iff.1 hh).1, fun i x hi j v hj => ?_⟩⟩
    rw [Nat.zero_add]
    have := hpre _ _ (flat_get hk hi hj)
    simpa [World.cell?, hh] using this
theorem Rel.addRow {L C b c ty k : Nat} {own : Bool} {cs : List Value} (h : Rel cx m g a w) (hf : ∀ q, mentions L q (g q) = false) (hf' : ∀ q, mentions C q (g q) = false) (hne : L ≠ C) (hv : VecAt b c ty k cs w)
    (hB : own = true → c ≠ 0 → cx.mine b)
    (hsep : c ≠ 0 → ∀ l ty n, g (.b l) = some (.sh ty n) → m l ≠ b) (hsepR : c ≠ 0 → ∀ l own' C2 ty' k' cs', g (.r l) = some (.vec own' C2 ty' k' cs') → own = true ∨ own' = true → m C2 ≠ 0 → m l ≠ b) :
    Rel cx (setL (setL m L b) C c) (upd [(.r L, some (.vec own C ty k cs))] g) a w := by
  have hx : ∀ {q x}, g q = some (.x x) → den (setL (setL m L b) C c) x = den m x := fun {q x} hq => by
    have h1 := hf q; have h2 := hf' q
    rw [hq] at h1 h2
    rw [den_setL ((mentions_x (b := true)).1 h2), den_setL ((mentions_x (b := true)).1 h1)]
  have hxc : ∀ {q b' x}, g q = some (.xc b' x) → den (setL (setL m L b) C c) x = den m x := fun {q b' x} hq => by
    have h1 := hf q; have h2 := hf' q
    rw [hq] at h1 h2
    rw [den_setL ((mentions_x (b := b')).2 h2), den_setL ((mentions_x (b := b')).2 h1)]
  have mL : setL (setL m L b) C c L = b := by rw [setL_ne _ _ hne, setL_self]
  have mC : setL (setL m L b) C c C = c := setL_self _ _ _
  have mb : ∀ {l ty' n'}, g (.b l) = some (.sh ty' n') → setL (setL m L b) C c l = m l := fun {l ty' n'} hl => by
    have h1 := hf (.b l); have h2 := hf' (.b l)
    rw [hl] at h1 h2
    simp only [mentions] at h1 h2
    rw [setL_ne _ _ (fun e => by subst e; simp at h2), setL_ne _ _ (fun e => by subst e; simp at h1)]
  have mr : ∀ {l own' C2 ty' k' cs'}, g (.r l) = some (.vec own' C2 ty' k' cs') → setL (setL m L b) C c l = m l ∧ setL (setL m L b) C c C2 = m C2 ∧ l ≠ L := fun {l own' C2 ty' k' cs'} hl => by
    have h1 := hf (.r l); have h2 := hf' (.r l)
    rw [hl] at h1 h2
    simp only [mentions, Bool.or_eq_false_iff] at h1 h2
    refine ⟨?_, ?_, fun e => by subst e; simp at h1⟩
    · rw [setL_ne _ _ (fun e => by subst e; simp at h2), setL_ne _ _ (fun e => by subst e; simp at h1)]
    · rw [setL_ne _ _ (fun e => by subst e; simp at h2), setL_ne _ _ (fun e => by subst e; simp at h1)]
  refine ⟨h.size, h.defers, fun i y hy => ?_, fun i b y hy => ?_, fun l ty' n' hl => ?_, fun l o y hy => ?_, fun l o y hy => ?_, fun l1 l2 ty1 n1 ty2 n2 h1 h2 he => ?_,
    fun l own' C2 ty' k' cs' hl => ?_, fun l own' C2 ty' k' cs' l2 ty2 n2 hl hl2 hc2 => ?_, fun l C2 ty' k' cs' l2 own2 C3 ty2 k2 cs2 hl hl2 hne2 hc2 hc3 => ?_, fun l C2 ty' k' cs' hl hc2 => ?_, h.held, h.top, fun l b hb => by obtain ⟨h1, ty1, n1, h2⟩ := h.fix l b hb; exact ⟨by rw [mb h2]; exact h1, ty1, n1, by rw [upd_one, if_neg (by simp)]; exact h2⟩, fun l i y hy => by rw [upd_one, if_neg (by simp)] at hy; rw [hx hy]; exact h.us l i y hy, h.ko⟩
  · rw [upd_one, if_neg (by simp)] at hy; rw [hx hy]; exact h.tm i y hy
  · rw [upd_one, if_neg (by simp)] at hy; rw [hxc hy]; exact h.tmc i b y hy
  · rw [upd_one, if_neg (by simp)] at hl; rw [mb hl]; exact h.blk l ty' n' hl
  · rw [upd_one, if_neg (by simp)] at hy
    obtain ⟨ty', n', hl⟩ := h.own l o y hy
    rw [hx hy, mb hl]; exact h.cell l o y hy
  · rw [upd_one, if_neg (by simp)] at hy
    obtain ⟨ty', n', hl⟩ := h.own l o y hy
    exact ⟨ty', n', by rw [upd_one, if_neg (by simp)]; exact hl⟩
  · rw [upd_one, if_neg (by simp)] at h1 h2
    rw [mb h1, mb h2] at he
    exact h.inj l1 l2 _ _ _ _ h1 h2 he
  · rw [upd_one] at hl
    by_cases e : Key.r L = Key.r l
    · rw [if_pos e] at hl
      cases e
      simp only [Option.some.injEq, Val.vec.injEq] at hl
      obtain ⟨rfl, rfl, rfl, rfl, rfl⟩ := hl
      rw [mL, mC]; exact hv
    · rw [if_neg e] at hl
      rw [(mr hl).1, (mr hl).2.1]
      exact h.vec l own' C2 ty' k' cs' hl
  · rw [upd_one, if_neg (by simp)] at hl2
    rw [mb hl2]
    rw [upd_one] at hl
    by_cases e : Key.r L = Key.r l
    · rw [if_pos e] at hl
      cases e
      simp only [Option.some.injEq, Val.vec.injEq] at hl
      obtain ⟨rfl, rfl, rfl, rfl, rfl⟩ := hl
      rw [mC] at hc2
      rw [mL]
      exact (hsep hc2 l2 ty2 n2 hl2).symm
    · rw [if_neg e] at hl
      rw [(mr hl).2.1] at hc2
      rw [(mr hl).1]
      exact h.sep l own' C2 ty' k' cs' l2 ty2 n2 hl hl2 hc2
  · rw [upd_one] at hl hl2
    by_cases e : Key.r L = Key.r l
    · rw [if_pos e] at hl
      cases e
      simp only [Option.some.injEq, Val.vec.injEq] at hl
      obtain ⟨rfl, rfl, rfl, rfl, rfl⟩ := hl
      rw [if_neg (by simpa using hne2)] at hl2
      rw [mC] at hc2
      rw [(mr hl2).2.1] at hc3
      rw [mL, (mr hl2).1]
      exact (hsepR hc2 l2 _ _ _ _ _ hl2 (.inl rfl) hc3).symm
    · rw [if_neg e] at hl
      rw [(mr hl).2.1] at hc2
      rw [(mr hl).1]
      by_cases e2 : Key.r L = Key.r l2
      · rw [if_pos e2] at hl2
        cases e2
        simp only [Option.some.injEq, Val.vec.injEq] at hl2
        obtain ⟨rfl, rfl, rfl, rfl, rfl⟩ := hl2
        rw [mC] at hc3
        rw [mL]
        exact hsepR hc3 l _ _ _ _ _ hl (.inr rfl) hc2
      · rw [if_neg e2] at hl2
        rw [(mr hl2).2.1] at hc3
        rw [(mr hl2).1]
        exact h.sepR l C2 ty' k' cs' l2 own2 C3 ty2 k2 cs2 hl hl2 hne2 hc2 hc3
  · rw [upd_one] at hl
    by_cases e : Key.r L = Key.r l
    · rw [if_pos e] at hl
      cases e
      simp only [Option.some.injEq, Val.vec.injEq] at hl
      obtain ⟨rfl, rfl, rfl, rfl, rfl⟩ := hl
      rw [mC] at hc2
      rw [mL]
      exact hB rfl hc2
    · rw [if_neg e] at hl
      rw [(mr hl).2.1] at hc2
      rw [(mr hl).1]
      exact h.ownR l C2 ty' k' cs' hl hc2
def Under (m : Nat → Nat) (g : Map) (b : Nat) : Prop :=
  (∀ l ty n, g (.b l) = some (.sh ty n) → m l < b) ∧ (∀ l own C ty k cs, g (.r l) = some (.vec own C ty k cs) → m C ≠ 0 → m l < b)
theorem Rel.under (h : Rel cx m g a w) : Under m g w.heap.size :=
  ⟨fun l ty n hl => by obtain ⟨_, cs, _, h3⟩ := h.blk l ty n hl; exact (Array.getElem?_eq_some_iff.1 h3).1, fun l own C ty k cs hl hc => (h.vec l own C ty k cs hl).lt hc⟩
theorem Rel.newRow {L C ty k n c : Nat} {p : Option Addr} {own : Bool} {cs : List Value} {w' : World} (h : Rel cx m g a w) (hb : Below w.heap.size w w') (hn : NewAt w w' p n c ty k cs)
    (hf : ∀ q, mentions L q (g q) = false) (hf' : ∀ q, mentions C q (g q) = false) (hne : L ≠ C) :
    ∃ m', Rel cx m' (upd [(.r L, some (.vec own C ty k cs))] g) a w' ∧ den m' (.o L C n) = .slice p n c ∧ (∀ l, l ≠ L → l ≠ C → m' l = m l) := by
  obtain ⟨b, hp, hv, hfresh, hlen⟩ := hn
  have hu := h.under
  refine ⟨setL (setL m L b) C c, (h.world hb).addRow hf hf' hne hv (fun _ hc => .inl (Nat.le_trans h.top (hfresh hc))) (fun hc l ty n hl => ?_) (fun hc l own' C2 ty' k' cs' hl _ hc2 => ?_), ?_, fun l h1 h2 => by rw [setL_ne _ _ h2, setL_ne _ _ h1]⟩
  · have := hu.1 l ty n hl; have := hfresh hc; omega
  · have := hu.2 l own' C2 ty' k' cs' hl hc2; have := hfresh hc; omega
  · simp only [den]
    rw [setL_self, setL_ne _ _ hne, setL_self, hp]
/-! ### Arrays -/
theorem run_indexArr {P : Program} {ty b o' len sz : Nat} {k : IntKind} {i : Int} (h : arrSz P ty = some (len, sz)) (h0 : 0 ≤ i) (h1 : i < len) (w : World) :
    (Instr.indexAt ty (.pointer (some ⟨b, o', none⟩)) (.int k i)).run P w = .ok (.pointer (some ⟨b, o' + i.toNat * sz, none⟩)) w := by
  unfold arrSz at h
  split at h
  · rename_i n' e hu
    cases hi : P.info? e with
    | none => rw [hi] at h; cases h
    | some inf =>
      rw [hi] at h
      simp only [Option.map_some, Option.some.injEq, Prod.mk.injEq] at h
      obtain ⟨rfl, rfl⟩ := h
      simp [Instr.indexAt, run_underlying hu, asIntOf, h0, h1, sizeOf, typeInfo, hi, addr_add, Instr.sureAddr]
  · cases h
theorem op_ixA {ty L o' len sz : Nat} {k : IntKind} {i : Int} {x y : Operand} (hN : d < cx.N) (hx : Ev s x (.p L o')) (hy : Ev s y (.v (.int k i))) (h : arrSz cx.P ty = some (len, sz)) (h0 : 0 ≤ i) (h1 : i < len) :
    OpRun cx ⟨some d, .indexAddr ty x y, type, pos, after, guard⟩ s ⟨okeys x ++ okeys y, [(.t d, some (.x (.p L (o' + i.toNat * sz))))], []⟩ :=
  op_pure rfl hN (fun _ h => by cases h) fun m a w g hr hrel => by
    have e1 := hx.eval hrel (fun k hk => hr k (by simp [hk]))
    have e2 := hy.eval hrel (fun k hk => hr k (by simp [hk]))
    simp [execOp, e1, e2, den, run_indexArr h h0 h1]
theorem op_ixAB {ty b o' len sz : Nat} {k : IntKind} {i : Int} {x y : Operand} (hN : d < cx.N) (hx : Ev s x (.v (.pointer (some ⟨b, o', none⟩)))) (hy : Ev s y (.v (.int k i))) (h : arrSz cx.P ty = some (len, sz)) (h0 : 0 ≤ i) (h1 : i < len) :
    OpRun cx ⟨some d, .indexAddr ty x y, type, pos, after, guard⟩ s ⟨okeys x ++ okeys y, [(.t d, some (.x (.v (.pointer (some ⟨b, o' + i.toNat * sz, none⟩)))))], []⟩ :=
  op_pure rfl hN (fun _ h => by cases h) fun m a w g hr hrel => by
    have e1 := hx.eval hrel (fun k hk => hr k (by simp [hk]))
    have e2 := hy.eval hrel (fun k hk => hr k (by simp [hk]))
    simp [execOp, e1, e2, den, run_indexArr h h0 h1]
theorem oqI {ty len : Nat} {k : IntKind} {i : Int} {x y : Operand} {ys : List SV} {v : SV} (hN : d < cx.N) (hx : Ev s x (.g ys)) (hy : Ev s y (.v (.int k i))) (h : arrSz cx.P ty = some (len, 1)) (hsh : ∃ e n, cx.P.underlying ty = some (.array n e) ∧ shapeOf cx.P e = some none)
    (h0 : 0 ≤ i) (h1 : i < len) (hv : ys[i.toNat]? = some v) :
    OpRun cx ⟨some d, .index ty x y, type, pos, after, guard⟩ s ⟨okeys x ++ okeys y, [(.t d, some (.x v))], []⟩ :=
  op_pure rfl hN (fun _ h => by cases h) fun m a w g hr hrel => by
    have e1 := hx.eval hrel (fun k hk => hr k (by simp [hk]))
    have e2 := hy.eval hrel (fun k hk => hr k (by simp [hk]))
    obtain ⟨e, n, hu, he⟩ := hsh
    unfold arrSz at h
    rw [hu] at h
    simp only [] at h
    cases hi : cx.P.info? e with
    | none => rw [hi] at h; cases h
    | some inf =>
      rw [hi] at h
      simp only [Option.map_some, Option.some.injEq, Prod.mk.injEq] at h
      obtain ⟨rfl, hsz⟩ := h
      have h2 : (denL m ys)[i.toNat]? = some (den m v) := by rw [denL_get, hv]; rfl
      have h3 : ∀ w, (isAgg e).run cx.P w = .ok false w := by
        intro w
        unfold shapeOf at he
        split at he
        · rw [hi] at he; cases he
        · rw [hi] at he; cases he
        · rename_i u q1 q2 hu'
          simp only [isAgg, Sem.run_bind, run_underlying hu', Result.andThen_ok]
          cases u <;> first | rfl | exact absurd hu' (q1 _) | exact absurd hu' (q2 _ _)
        · cases he
      simp [execOp, e1, e2, den, Instr.index, asIntOf, run_underlying hu, h0, h1, sizeOf, typeInfo, hi, hsz, part, h3, h2]
end
end Go.AX
/-
  The core, ninth part: loops of a known number of rounds; slices as records; tables.
-/
namespace Go.AX
open Go Go.RowKit
section
variable {cx : Cx} {s : St} {Q : Exit → Act → World → Prop}
theorem aw_rounds (n : Nat) {body : Code} (h : AW cx body s (Exit.then (Code.roundsIn cx.F 0 cx.P body Q n) Q)) : AW cx (.loop body) s Q :=
  fun m a w hr => wpIn_loop_rounds (n + 1) (h m a w hr)
theorem fin_round {n : Nat} {body : Code} (h : AW cx body s (Exit.then (Code.roundsIn cx.F 0 cx.P body Q n) Q)) : Fin cx s (Exit.then (Code.roundsIn cx.F 0 cx.P body Q (n + 1)) Q) .normal := h
end
structure SlV where
  p : Option Addr
  n : Nat
  c : Nat
def SlV.val (a : SlV) : Value := .slice a.p a.n a.c
def SlIs {α : Type} (enc : α → List Value) (k : Nat) (w : World) (a : SlV) (l : List α) : Prop := SlAt enc k w a.p a.n a.c l
theorem SlIs.mono {α : Type} {enc : α → List Value} {k : Nat} {w w' : World} {a : SlV} {l : List α} (h : SlIs enc k w a l) (hb : Below w.heap.size w w') : SlIs enc k w' a l := SlAt.mono h hb
theorem slIs_nil {α : Type} {enc : α → List Value} {k : Nat} {w : World} : SlIs enc k w ⟨none, 0, 0⟩ ([] : List α) := ⟨rfl, Nat.le_refl _, fun h => absurd rfl h⟩
theorem SlAt.lies' {α : Type} {enc : α → List Value} {k : Nat} {w : World} {p : Option Addr} {n c : Nat} {l : List α} (h : SlAt enc k w p n c l) :
    ∃ b o, (l ≠ [] → p = some ⟨b, o, none⟩) ∧ (l ≠ [] → Lies enc k w b o l) := by
  by_cases hl : l = []
  · exact ⟨0, 0, fun h => absurd hl h, fun h => absurd hl h⟩
  · obtain ⟨b, o, h1, h2⟩ := h.lies hl
    exact ⟨b, o, fun _ => h1, fun _ => h2⟩
theorem ne_of_ix {α : Type} {l : List α} {i : Int} (h0 : 0 ≤ i) (h1 : i < l.length) : l ≠ [] := fun e => by subst e; simp at h1; omega
theorem ixInt {k : IntKind} (l : List Int) {i : Int} (h0 : 0 ≤ i) (h1 : i < l.length) : (l.map fun n => SV.v (.int k n))[i.toNat]? = some (.v (.int k (l.getD i.toNat 0))) := by
  have : i.toNat < l.length := by omega
  simp [List.getD, this]
theorem ldTab {cx : Cx} {b : Nat} {k : IntKind} {l : List Int} (h : BoxAt cx.w0 b (l.map (fun n => Value.int k n))) {i : Int} (h0 : 0 ≤ i) (h1 : i < l.length) {ty off : Nat} (ho : off = i.toNat) (hsh : shapeOf cx.P ty = some none)
    (hB : cx.w0.heap.size ≤ cx.B := by exact Nat.le_refl _) (nb : ¬ cx.lent b := by exact lent_nil) :
    ∀ w, Held cx w → ∀ m : Nat → Nat, (loadVar ty ⟨b, off, none⟩).run cx.P w = .ok (den m (.v (.int k (l.getD i.toNat 0)))) w := by
  subst ho
  have h2 : i.toNat < l.length := by omega
  exact ldCell h.1 (h.2 i.toNat _ (by simp [List.getD, h2])) rfl hsh hB nb
theorem sub_get {α : Type} {cs vs : List α} {n q : Nat} {v : α} (h : (cs.drop n).take vs.length = vs) (hq : vs[q]? = some v) : cs[n + q]? = some v := by
  have hlt : q < vs.length := (List.getElem?_eq_some_iff.1 hq).1
  rw [← h, List.getElem?_take, if_pos hlt, List.getElem?_drop] at hq
  exact hq
end Go.AX
/-
  The core, tenth part: reading rows; calls that hand back a new row; a new row as a result.
-/
namespace Go.AX
open Go Go.RowKit
section
variable {cx : Cx} {o : Oper} {s g : Map} {m : Nat → Nat} {a : Act} {w : World}
variable {d : Nat} {type : TypeId} {pos : String} {after : Array Edge} {guard : Option (Nat × Bool)}
theorem VecAt.ne {b c ty k : Nat} {cs : List Value} (h : VecAt b c ty k cs w) (hne : cs ≠ []) : c ≠ 0 := by
  rcases h with ⟨_, h2⟩ | ⟨h1, _⟩
  · exact absurd h2 hne
  · exact h1
theorem VecAt.get {b c ty k j : Nat} {cs : List Value} {v : Value} (h : VecAt b c ty k cs w) (hj : cs[j]? = some v) : w.cell? ⟨b, j, none⟩ = some v := by
  rcases h with ⟨_, h2⟩ | ⟨_, cur, hh, _, hp⟩
  · subst h2; simp at hj
  · simp [World.cell?, hh, hp j v hj]
theorem op_ixO {ty L C n sz ty' k' : Nat} {own : Bool} {cs : List Value} {k : IntKind} {i : Int} {x y : Operand} (hN : d < cx.N) (hx : Ev s x (.o L C n)) (hy : Ev s y (.v (.int k i))) (h : sliceSz cx.P ty = some sz)
    (hr : s (.r L) = some (.vec own C ty' k' cs)) (hne : cs ≠ []) (h0 : 0 ≤ i) (h1 : i < n) :
    OpRun cx ⟨some d, .indexAddr ty x y, type, pos, after, guard⟩ s ⟨.r L :: (okeys x ++ okeys y), [(.t d, some (.x (.p L (i.toNat * sz))))], []⟩ :=
  op_pure rfl hN (by simp) fun m a w g hrd hrel => by
    have e1 := hx.eval hrel (fun k hk => hrd k (by simp [hk]))
    have e2 := hy.eval hrel (fun k hk => hrd k (by simp [hk]))
    have e3 := hrel.vec L own C ty' k' cs (by rw [hrd _ (by simp)]; exact hr)
    have hc := e3.ne hne
    simp [execOp, e1, e2, den, ptr0_ne hc, run_indexAt h h0 h1]
theorem op_loadON {ty L C o' n ty' k' : Nat} {own : Bool} {cs vs : List Value} {x : Operand} (hN : d < cx.N) (hsh : shapeOf cx.P ty = some (some n)) (hx : Ev s x (.p L o')) (hr : s (.r L) = some (.vec own C ty' k' cs)) (hn : vs.length = n)
    (hv : ∀ q v, vs[q]? = some v → cs[o' + q]? = some v) :
    OpRun cx ⟨some d, .load ty x, type, pos, after, guard⟩ s ⟨.r L :: okeys x, [(.t d, some (.x (.g (vs.map SV.v))))], []⟩ :=
  op_pure rfl hN (by simp) fun m a w g hrd hrel => by
    have h1 := hx.eval hrel (fun k hk => hrd k (by simp [hk]))
    have e3 := hrel.vec L own C ty' k' cs (by rw [hrd _ (by simp)]; exact hr)
    have h2 : ∀ j v, vs[j]? = some v → w.cell? ⟨m L, o' + j, none⟩ = some v := fun j v hj => e3.get (hv j v hj)
    simp [execOp, h1, den, Instr.loadAt, Instr.sureAddr, run_load_agg hsh hn h2, denL_vals]
theorem op_lenO {ty : TypeId} {x : Operand} {L C n : Nat} (hN : d < cx.N) (hu : (sliceSz cx.P ty).isSome = true) (hx : Ev s x (.o L C n)) :
    OpRun cx ⟨some d, .call ⟨.builtin .len, #[x], #[ty]⟩, type, pos, after, guard⟩ s ⟨okeys x, [(.t d, some (.x (.v (.int .i64 n))))], []⟩ :=
  op_pure rfl hN (fun _ h => by cases h) fun m a w g hr hrel => by
    have h1 := hx.eval hrel hr
    unfold sliceSz at hu
    split at hu
    · rename_i e he
      simp [execOp, resolve, invoke, builtin, Builtin.len_, h1, den, run_underlying he, goInt]
    · cases hu
theorem op_callRow {fo : Operand} {fv : SV} {k L C ty sz n : Nat} {own : Bool} {cs : List Value} {fs caps xs : List SV} {args : Array Operand} {ts : Array TypeId} {extra : List Key}
    (hN : d < cx.N) (hen : Proofs.Enters cx.P k) (hf : Ev s fo fv) (hk : calleeOf k fs caps fv) (hx : EvL s args.toList xs) (hne : L ≠ C)
    (hc : ∀ (m : Nat → Nat) (a : Act) (w : World) (g : Map), (∀ k ∈ extra, g k = s k) → Rel cx m g a w →
      Calls cx.P k (denL m (fs ++ (xs ++ caps))).toArray w fun e w' => ∃ p c, e = .returned (.slice p n c) ∧ NewAt w w' p n c ty sz cs ∧ Below w.heap.size w w') :
    OpRun cx ⟨some d, .call ⟨.value fo, args, ts⟩, type, pos, after, guard⟩ s ⟨okeys fo ++ okeysL args.toList ++ extra, [(.t d, some (.x (.o L C n))), (.r L, some (.vec own C ty sz cs))], [L, C]⟩ :=
  op_callG hen hf hk hx fun m a w g hr hfr hrel => (hc m a w g hr hrel).mono fun e w' ⟨p, c, he, hnew, hb⟩ => by
    obtain ⟨m', h1, h2, h3⟩ := hrel.newRow (own := own) hb hnew (hfr L (by simp)) (hfr C (by simp)) hne
    exact ⟨_, m', he, (h1.put (x := .o L C n) hN h2.symm).congr (fun q => (upd_cons g q).symm)⟩
end
theorem newAt_box {cx : Cx} {s : Map} {m : Nat → Nat} {a : Act} {w w0 : World} {L n k ty : Nat} {cs : List Value} (hrel : Rel cx m s a w) (hB : ∀ {l}, cx.mine l → w0.heap.size ≤ l) (hb : s (.b L) = some (.sh ty (n * k))) (hlen : cs.length = n * k) (hn : n ≠ 0) (hc : CellsAre s L 0 (cs.map SV.v)) :
    NewAt w0 w (some ⟨m L, 0, none⟩) n n ty k cs := by
  obtain ⟨h1, cur, h2, h3⟩ := hrel.blk L ty (n * k) hb
  have hbox := bqA hrel (fun _ _ => rfl) hb hc
  refine ⟨m L, by rw [ptr0_ne hn], .inr ⟨hn, cur, h3, h2, fun j v hj => ?_⟩, fun _ => hB h1, hlen⟩
  have := hbox.2 j v hj
  simpa [World.cell?, h3] using this
theorem newAt_row {cx : Cx} {s : Map} {m : Nat → Nat} {a : Act} {w w0 : World} {L C n k ty : Nat} {cs : List Value} (hrel : Rel cx m s a w) (hB : ∀ {l}, cx.mine l → w0.heap.size ≤ l) (hr : s (.r L) = some (.vec true C ty k cs)) (hlen : cs.length = n * k) :
    NewAt w0 w (ptr0 (m L) (m C)) n (m C) ty k cs :=
  ⟨m L, rfl, hrel.vec L true C ty k cs hr, fun hc => hB (hrel.ownR L C ty k cs hr hc), hlen⟩
theorem newAt_nil {w0 w : World} {k ty : Nat} : NewAt w0 w none 0 0 ty k [] := ⟨0, rfl, .inl ⟨rfl, rfl⟩, fun h => absurd rfl h, by simp⟩
end Go.AX
/-
  The core, eleventh part: labels renamed; lists in rows.
-/
namespace Go.AX
open Go Go.RowKit
mutual
def renV (f : Nat → Nat) : SV → SV
  | .v x => .v x
  | .p L o => .p (f L) o
  | .s L o n c => .s (f L) o n c
  | .o L C n => .o (f L) (f C) n
  | .q L C lo n k => .q (f L) (f C) lo n k
  | .f fn fs cs => .f fn (renL f fs) (renL f cs)
  | .g cs => .g (renL f cs)
  | .t cs => .t (renL f cs)
def renL (f : Nat → Nat) : List SV → List SV
  | [] => []
  | x :: xs => renV f x :: renL f xs
end
def renKey (f : Nat → Nat) : Key → Key
  | .t i => .t i
  | .c L o => .c (f L) o
  | .b L => .b (f L)
  | .r L => .r (f L)
  | .u l i => .u l i
  | .a => .a
def renVal (f : Nat → Nat) : Val → Val
  | .x s => .x (renV f s)
  | .xc b s => .xc b (renV f s)
  | .sh ty n => .sh ty n
  | .vec own C ty k cs => .vec own (f C) ty k cs
def renS (f : Nat → Nat) (s : St) : St := s.map fun q => (renKey f q.1, q.2.map (renVal f))
mutual
theorem den_ren {f : Nat → Nat} (hf : ∀ L, f (f L) = L) (m : Nat → Nat) : ∀ x, den (fun L => m (f L)) (renV f x) = den m x
  | .v x => rfl
  | .p L o => by simp [renV, den, hf]
  | .s L o n c => by simp [renV, den, hf]
  | .o L C n => by simp [renV, den, hf]
  | .q L C lo n k => by simp [renV, den, hf]
  | .f fn fs cs => by simp [renV, den, denL_ren hf m fs, denL_ren hf m cs]
  | .g cs => by simp [renV, den, denL_ren hf m cs]
  | .t cs => by simp [renV, den, denL_ren hf m cs]
theorem denL_ren {f : Nat → Nat} (hf : ∀ L, f (f L) = L) (m : Nat → Nat) : ∀ l, denL (fun L => m (f L)) (renL f l) = denL m l
  | [] => rfl
  | x :: xs => by simp [renL, denL, den_ren hf m x, denL_ren hf m xs]
end
section
variable {f : Nat → Nat} (hf : ∀ L, f (f L) = L)
include hf
theorem renKey_renKey (k : Key) : renKey f (renKey f k) = k := by cases k <;> simp [renKey, hf]
theorem get_renS (s : St) (k : Key) : get (renS f s) k = (get s (renKey f k)).map (renVal f) := by
  induction s with
  | nil => rfl
  | cons x r ih =>
    have ih' : upd (r.map fun q => (renKey f q.1, q.2.map (renVal f))) (fun _ => none) k = (upd r (fun _ => none) (renKey f k)).map (renVal f) := ih
    simp only [get, renS, List.map_cons, upd]
    by_cases e : x.1 = renKey f k
    · have e2 : renKey f x.1 = k := by rw [e, renKey_renKey hf]
      rw [Key.eqb_iff.2 e, Key.eqb_iff.2 e2]; rfl
    · have e2 : renKey f x.1 ≠ k := fun h => e (by rw [← h, renKey_renKey hf])
      rw [Key.eqb_false e, Key.eqb_false e2]
      simpa using ih'
theorem Rel.ren {cx : Cx} {m : Nat → Nat} {s : St} {a : Act} {w : World} (h : Rel cx m (get s) a w) (hfx : ∀ L b, (L, b) ∈ cx.bor → f L = L) : Rel cx (fun L => m (f L)) (get (renS f s)) a w := by
  have back : ∀ {k v}, get (renS f s) k = some v → ∃ u, get s (renKey f k) = some u ∧ renVal f u = v := by
    intro k v hv
    rw [get_renS hf] at hv
    cases e : get s (renKey f k) with
    | none => rw [e] at hv; cases hv
    | some u => rw [e] at hv; exact ⟨u, rfl, by simpa using hv⟩
  have bx : ∀ {k x}, get (renS f s) k = some (.x x) → ∃ y, get s (renKey f k) = some (.x y) ∧ renV f y = x := by
    intro k x hx
    obtain ⟨u, hu, he⟩ := back hx
    cases u <;> simp only [renVal, Val.x.injEq, reduceCtorEq] at he
    exact ⟨_, hu, he⟩
  have bxc : ∀ {k b x}, get (renS f s) k = some (.xc b x) → ∃ y, get s (renKey f k) = some (.xc b y) ∧ renV f y = x := by
    intro k b x hx
    obtain ⟨u, hu, he⟩ := back hx
    cases u <;> simp only [renVal, Val.xc.injEq, reduceCtorEq] at he
    obtain ⟨rfl, he⟩ := he
    exact ⟨_, hu, he⟩
  have bsh : ∀ {k ty n}, get (renS f s) k = some (.sh ty n) → get s (renKey f k) = some (.sh ty n) := by
    intro k ty n hx
    obtain ⟨u, hu, he⟩ := back hx
    cases u <;> simp only [renVal, Val.sh.injEq, reduceCtorEq] at he
    obtain ⟨rfl, rfl⟩ := he
    exact hu
  have bv : ∀ {k own C ty n cs}, get (renS f s) k = some (.vec own C ty n cs) → get s (renKey f k) = some (.vec own (f C) ty n cs) := by
    intro k own C ty n cs hx
    obtain ⟨u, hu, he⟩ := back hx
    cases u <;> simp only [renVal, Val.vec.injEq, reduceCtorEq] at he
    obtain ⟨rfl, rfl, rfl, rfl, rfl⟩ := he
    rw [hf]
    exact hu
  refine ⟨h.size, h.defers, fun i x hx => ?_, fun i b x hx => ?_, fun L ty n hx => ?_, fun L o x hx => ?_, fun L o x hx => ?_, fun L L' ty n ty' n' h1 h2 he => ?_, fun L own C ty k cs hx => ?_, fun L own C ty k cs L' ty' n' h1 h2 hc => ?_,
    fun L C ty k cs L' own' C' ty' k' cs' h1 h2 hne hc hc' => ?_, fun L C ty k cs hx hc => ?_, h.held, h.top, fun L b hb => ?_, fun l i x hx => ?_, h.ko⟩
  · obtain ⟨y, hy, rfl⟩ := bx hx
    rw [den_ren hf]; exact h.tm i y hy
  · obtain ⟨y, hy, rfl⟩ := bxc hx
    rw [den_ren hf]; exact h.tmc i b y hy
  · exact h.blk (f L) ty n (bsh hx)
  · obtain ⟨y, hy, rfl⟩ := bx hx
    rw [den_ren hf]; exact h.cell (f L) o y hy
  · obtain ⟨y, hy, rfl⟩ := bx hx
    obtain ⟨ty, n, hb⟩ := h.own (f L) o y hy
    exact ⟨ty, n, by rw [get_renS hf]; simp only [renKey]; rw [hb]; rfl⟩
  · have := h.inj (f L) (f L') ty n ty' n' (bsh h1) (bsh h2) he
    rw [← hf L, this, hf]
  · exact h.vec (f L) own (f C) ty k cs (bv hx)
  · exact h.sep (f L) own (f C) ty k cs (f L') ty' n' (bv h1) (bsh h2) hc
  · exact h.sepR (f L) (f C) ty k cs (f L') own' (f C') ty' k' cs' (bv h1) (bv h2) (fun e => hne (by rw [← hf L, e, hf])) hc hc'
  · exact h.ownR (f L) (f C) ty k cs (bv hx) hc
  · obtain ⟨h1, ty, n, h2⟩ := h.fix L b hb
    exact ⟨by rw [hfx L b hb]; exact h1, ty, n, by rw [get_renS hf]; simp only [renKey]; rw [hfx L b hb, h2]; rfl⟩
  · obtain ⟨y, hy, rfl⟩ := bx hx
    rw [den_ren hf]; exact h.us l i y hy
theorem fin_ren {cx : Cx} {s : St} {Q : Exit → Act → World → Prop} {e : Exit} (hfx : ∀ L b, (L, b) ∈ cx.bor → f L = L) (h : Fin cx (renS f s) Q e) : Fin cx s Q e := fun _ a w hr => h _ a w (hr.ren hf hfx)
end
def swp : List (Nat × Nat) → Nat → Nat
  | [], L => L
  | (a, b) :: r, L => bif Nat.beq L a then b else bif Nat.beq L b then a else swp r L
def swpOK (l : List (Nat × Nat)) : Bool := (l.map (·.1) ++ l.map (·.2)).all fun x => Nat.beq (swp l (swp l x)) x
theorem swp_out : ∀ {l : List (Nat × Nat)} {x : Nat}, x ∉ l.map (·.1) ++ l.map (·.2) → swp l x = x
  | [], _, _ => rfl
  | (a, b) :: r, x, h => by
    simp only [List.map_cons, List.mem_append, List.mem_cons, not_or] at h
    have h1 : Nat.beq x a = false := beq_ne h.1.1
    have h2 : Nat.beq x b = false := beq_ne h.2.1
    simp only [swp, h1, h2, cond_false]
    exact swp_out (by simp only [List.mem_append, not_or]; exact ⟨h.1.2, h.2.2⟩)
theorem swp_swp {l : List (Nat × Nat)} (h : swpOK l = true) (x : Nat) : swp l (swp l x) = x := by
  by_cases hx : x ∈ l.map (·.1) ++ l.map (·.2)
  · exact Nat.eq_of_beq_eq_true (List.all_eq_true.1 h x hx)
  · rw [swp_out hx, swp_out hx]
theorem fin_swp {cx : Cx} {s : St} {Q : Exit → Act → World → Prop} {e : Exit} (l : List (Nat × Nat)) (hl : (swpOK l && cx.bor.all fun q => Nat.beq (swp l q.1) q.1) = true) (h : Fin cx (renS (swp l) s) Q e) : Fin cx s Q e := by
  simp only [Bool.and_eq_true] at hl
  exact fin_ren (swp_swp hl.1) (fun L b hb => Nat.eq_of_beq_eq_true (List.all_eq_true.1 hl.2 _ hb)) h
theorem Rel.retm {cx : Cx} {m : Nat → Nat} {g : Map} {a : Act} {w : World} {i : Nat} {x y : SV} (h : Rel cx m g a w) (hv : g (.t i) = some (.x y)) (e : den m x = den m y) : Rel cx m (upd [(.t i, some (.x x))] g) a w := by
  have key : ∀ k, k ≠ .t i → upd [(.t i, some (.x x))] g k = g k := fun k hk => by rw [upd_one, if_neg (Ne.symm hk)]
  refine ⟨h.size, h.defers, fun j z hz => ?_, fun j b z hz => ?_, fun L ty n hz => ?_, fun L o z hz => ?_, fun L o z hz => ?_, fun L L' ty n ty' n' h1 h2 he => ?_, fun L own C ty k cs hz => ?_, fun L own C ty k cs L' ty' n' h1 h2 hc => ?_,
    fun L C ty k cs L' own' C' ty' k' cs' h1 h2 hne hc hc' => ?_, fun L C ty k cs hz hc => ?_, h.held, h.top, fun L b hb => by obtain ⟨h1, ty, n, h2⟩ := h.fix L b hb; exact ⟨h1, ty, n, by rw [key _ (by simp)]; exact h2⟩, fun l i x hx => by rw [key _ (by simp)] at hx; exact h.us l i x hx, h.ko⟩
  · by_cases hj : Key.t j = .t i
    · cases hj
      rw [upd_one, if_pos rfl] at hz
      simp only [Option.some.injEq, Val.x.injEq] at hz
      subst hz
      rw [e]; exact h.tm i y hv
    · rw [key _ hj] at hz; exact h.tm j z hz
  · by_cases hj : Key.t j = .t i
    · cases hj
      rw [upd_one, if_pos rfl] at hz
      simp at hz
    · rw [key _ hj] at hz; exact h.tmc j b z hz
  · rw [key _ (by simp)] at hz; exact h.blk L ty n hz
  · rw [key _ (by simp)] at hz; exact h.cell L o z hz
  · rw [key _ (by simp)] at hz; obtain ⟨ty, n, hb⟩ := h.own L o z hz; exact ⟨ty, n, by rw [key _ (by simp)]; exact hb⟩
  · rw [key _ (by simp)] at h1 h2; exact h.inj L L' ty n ty' n' h1 h2 he
  · rw [key _ (by simp)] at hz; exact h.vec L own C ty k cs hz
  · rw [key _ (by simp)] at h1 h2; exact h.sep L own C ty k cs L' ty' n' h1 h2 hc
  · rw [key _ (by simp)] at h1 h2; exact h.sepR L C ty k cs L' own' C' ty' k' cs' h1 h2 hne hc hc'
  · rw [key _ (by simp)] at hz; exact h.ownR L C ty k cs hz hc
theorem Rel.nilRow {cx : Cx} {m : Nat → Nat} {s : St} {a : Act} {w : World} {i L C ty k : Nat} (h : Rel cx m (get s) a w) (ht : get s (.t i) = some (.x (.v (.slice none 0 0)))) (hL : mentionsIn L s = false) (hC : mentionsIn C s = false) (hne : L ≠ C) :
    ∃ m', Rel cx m' (get ((.t i, some (.x (.o L C 0))) :: (.r L, some (.vec true C ty k [])) :: s)) a w := by
  have h1 := h.addRow (L := L) (C := C) (b := 0) (c := 0) (ty := ty) (k := k) (own := true) (cs := []) (get_mentions hL) (get_mentions hC) hne (.inl ⟨rfl, rfl⟩) (fun _ hc => absurd rfl hc) (fun hc => absurd rfl hc) (fun hc => absurd rfl hc)
  have h2 : upd [(.r L, some (.vec true C ty k []))] (get s) (.t i) = some (.x (.v (.slice none 0 0))) := by rw [upd_one, if_neg (by simp)]; exact ht
  have h3 := h1.retm (x := .o L C 0) h2 (by simp only [den, setL_self]; rw [setL_ne _ _ hne, setL_self, ptr0_nil])
  exact ⟨_, h3⟩
theorem aw_nilRow {cx : Cx} {s : St} {c : Code} {Q : Exit → Act → World → Prop} {i L C : Nat} (ty k : Nat) (ht : get s (.t i) = some (.x (.v (.slice none 0 0)))) (hL : (mentionsIn L s || mentionsIn C s) = false) (hne : L ≠ C)
    (h : AW cx c ((.t i, some (.x (.o L C 0))) :: (.r L, some (.vec true C ty k [])) :: s) Q) : AW cx c s Q := fun m a w hr => by
  simp only [Bool.or_eq_false_iff] at hL
  obtain ⟨m', h'⟩ := hr.nilRow (ty := ty) (k := k) ht hL.1 hL.2 hne
  exact h m' a w h'
section
variable {α : Type} {enc : α → List Value} {k : Nat}
theorem len_snoc (l : List α) (x : α) : l.length + 1 = (l ++ [x]).length := by simp
theorem flat_snoc (l : List α) (x : α) : l.flatMap enc ++ enc x = (l ++ [x]).flatMap enc := by simp
theorem flat_ne {l : List α} (hk : ∀ x, (enc x).length = k) (hp : 0 < k) {i : Int} (h0 : 0 ≤ i) (h1 : i < l.length) : l.flatMap enc ≠ [] := by
  intro e
  have h2 := flat_length hk l
  rw [e] at h2
  simp only [List.length_nil] at h2
  rcases Nat.mul_eq_zero.1 h2.symm with h | h <;> omega
theorem flat_sub (hk : ∀ x, (enc x).length = k) {l : List α} (d : α) {i : Int} (h0 : 0 ≤ i) (h1 : i < l.length) (j : Nat) {vs : List Value} (h : ((enc (l.getD i.toNat d)).drop j).take vs.length = vs) {q : Nat} {v : Value} (hq : vs[q]? = some v) :
    (l.flatMap enc)[i.toNat * k + j + q]? = some v := by
  rw [Nat.add_assoc]
  exact flat_get hk (getD_some (d := d) h0 h1) (sub_get h hq)
end
theorem op_callVL {cx : Cx} {s : Map} {d k : Nat} {type : TypeId} {pos : String} {after : Array Edge} {guard : Option (Nat × Bool)} {fo : Operand} {F C : List Value} {xs : List SV} {args : Array Operand} {ts : Array TypeId} {x : SV} {extra : List Key}
    (hN : d < cx.N) (hen : Proofs.Enters cx.P k) (hf : Ev s fo (.v (.func (.func k) F.toArray C.toArray))) (hx : EvL s args.toList xs)
    (hc : ∀ (m : Nat → Nat) (a : Act) (w : World) (g : Map), (∀ k ∈ extra, g k = s k) → Rel cx m g a w →
      Calls cx.P k (F ++ (denL m xs ++ C)).toArray w fun e w' => e = .returned (den m x) ∧ Below w.heap.size w w') :
    OpRun cx ⟨some d, .call ⟨.value fo, args, ts⟩, type, pos, after, guard⟩ s ⟨okeys fo ++ okeysL args.toList ++ extra, [(.t d, some (.x x))], []⟩ :=
  op_callV hN hen hf hx fun m a w g h1 h2 => by
    have := hc m a w g h1 h2
    have e : F.toArray ++ (denL m xs).toArray ++ C.toArray = (F ++ (denL m xs ++ C)).toArray := by simp
    rw [e]
    exact this
theorem op_callRowR {cx : Cx} {s : Map} {d : Nat} {type : TypeId} {pos : String} {after : Array Edge} {guard : Option (Nat × Bool)} {fo : Operand} {fv : SV} {k L C ty sz n : Nat} {own : Bool} {cs : List Value} {fs caps xs : List SV} {args : Array Operand} {ts : Array TypeId} {extra : List Key}
    {R : Option Addr → Nat → Value} {x : SV}
    (hN : d < cx.N) (hen : Proofs.Enters cx.P k) (hf : Ev s fo fv) (hk : calleeOf k fs caps fv) (hx : EvL s args.toList xs) (hne : L ≠ C)
    (hden : ∀ (m : Nat → Nat) (p : Option Addr) (c : Nat), den m (.o L C n) = .slice p n c → den m x = R p c)
    (hc : ∀ (m : Nat → Nat) (a : Act) (w : World) (g : Map), (∀ k ∈ extra, g k = s k) → Rel cx m g a w →
      Calls cx.P k (denL m (fs ++ (xs ++ caps))).toArray w fun e w' => ∃ p c, e = .returned (R p c) ∧ NewAt w w' p n c ty sz cs ∧ Below w.heap.size w w') :
    OpRun cx ⟨some d, .call ⟨.value fo, args, ts⟩, type, pos, after, guard⟩ s ⟨okeys fo ++ okeysL args.toList ++ extra, [(.t d, some (.x x)), (.r L, some (.vec own C ty sz cs))], [L, C]⟩ :=
  op_callG hen hf hk hx fun m a w g hr hfr hrel => (hc m a w g hr hrel).mono fun e w' ⟨p, c, he, hnew, hb⟩ => by
    obtain ⟨m', h1, h2, h3⟩ := hrel.newRow (own := own) hb hnew (hfr L (by simp)) (hfr C (by simp)) hne
    exact ⟨_, m', he, (h1.put (x := x) hN (hden m' p c h2).symm).congr (fun q => (upd_cons g q).symm)⟩
end Go.AX
/-
  The core, twelfth part: calls that hand back a value with several new rows in it (read by the caller, not written).
-/
namespace Go.AX
open Go Go.RowKit
def NewRows (w w' : World) : List SlV → List (Nat × Nat × Nat × List Value) → Prop
  | [], [] => True
  | a :: sl, (n, ty, k, cs) :: ds => a.n = n ∧ NewAt w w' a.p n a.c ty k cs ∧ NewRows w w' sl ds
  | _, _ => False
def rowsUp : List (Nat × Nat) → List (Nat × Nat × Nat × List Value) → St
  | (L, C) :: ls, (_, ty, k, cs) :: ds => rowsUp ls ds ++ [(.r L, some (.vec false C ty k cs))]
  | _, _ => []
def labsOf : List (Nat × Nat) → List Nat
  | [] => []
  | (L, C) :: ls => L :: C :: labsOf ls
def distinct : List Nat → Bool
  | [] => true
  | x :: xs => xs.all (fun y => !Nat.beq x y) && distinct xs
def UnderT (m : Nat → Nat) (g : Map) (b : Nat) : Prop :=
  (∀ l ty n, g (.b l) = some (.sh ty n) → m l < b) ∧ (∀ l C ty k cs, g (.r l) = some (.vec true C ty k cs) → m C ≠ 0 → m l < b)
def dens (m : Nat → Nat) : List (Nat × Nat) → List (Nat × Nat × Nat × List Value) → List Value
  | (L, C) :: ls, (n, _) :: ds => den m (.o L C n) :: dens m ls ds
  | _, _ => []
theorem mentions_b {L l ty n : Nat} (h : mentions L (.b l) (some (.sh ty n)) = false) : l ≠ L := fun e => by subst e; simp [mentions] at h
theorem mentions_r {L l C ty k : Nat} {own : Bool} {cs : List Value} (h : mentions L (.r l) (some (.vec own C ty k cs)) = false) : l ≠ L ∧ C ≠ L := by
  simp only [mentions, Bool.or_eq_false_iff] at h
  exact ⟨fun e => by subst e; simp at h, fun e => by subst e; simp at h⟩
theorem Rel.newRowsF {cx : Cx} {a : Act} {w w' : World} {b0 : Nat} (hb0 : b0 ≤ w.heap.size) (_hB : cx.B ≤ b0) : ∀ (ls : List (Nat × Nat)) (ds : List (Nat × Nat × Nat × List Value)) (sl : List SlV) {m : Nat → Nat} {g : Map},
    ls.length = ds.length → distinct (labsOf ls) = true → (∀ l ∈ labsOf ls, ∀ q, mentions l q (g q) = false) → UnderT m g b0 → NewRows w w' sl ds → Rel cx m g a w' →
    ∃ m', Rel cx m' (upd (rowsUp ls ds) g) a w' ∧ dens m' ls ds = sl.map SlV.val ∧ ∀ l, l ∉ labsOf ls → m' l = m l := by
  intro ls
  induction ls with
  | nil =>
    intro ds sl m g hlen _ _ _ hn hrel
    cases ds with
    | nil =>
      cases sl with
      | nil => exact ⟨m, hrel, rfl, fun _ _ => rfl⟩
      | cons x xs => exact hn.elim
    | cons d ds => simp at hlen
  | cons x ls ih =>
    obtain ⟨L, C⟩ := x
    intro ds sl m g hlen hd hf hu hn hrel
    cases ds with
    | nil => simp at hlen
    | cons d ds =>
      obtain ⟨n, ty, k, cs⟩ := d
      cases sl with
      | nil => exact hn.elim
      | cons a1 sl =>
        obtain ⟨h1, ⟨b, hp, hv, hfresh, hcl⟩, h3⟩ := hn
        simp only [labsOf, distinct, Bool.and_eq_true, List.all_eq_true, List.mem_cons, Bool.not_eq_true', forall_eq_or_imp] at hd
        obtain ⟨⟨hLC, hL⟩, hC, hd'⟩ := hd
        have hne : L ≠ C := fun e => by subst e; simp at hLC
        have fL := hf L (by simp [labsOf])
        have fC := hf C (by simp [labsOf])
        have hle : a1.c ≠ 0 → b0 ≤ b := fun hc => Nat.le_trans hb0 (hfresh hc)
        have hr1 := hrel.addRow (own := false) fL fC hne hv (fun h => by cases h) (fun hc l ty' n' hl => by have := hu.1 l ty' n' hl; have := hle hc; omega)
          (fun hc l own' C2 ty' k' cs' hl ho hc2 => by
            rcases ho with ho | ho
            · cases ho
            · subst ho
              have := hu.2 l C2 ty' k' cs' hl hc2; have := hle hc; omega)
        have hmem : ∀ l ∈ labsOf ls, l ≠ L ∧ l ≠ C := fun l hl => ⟨fun e => by have := hL l hl; rw [e] at this; simp at this, fun e => by have := hC l hl; rw [e] at this; simp at this⟩
        have hf' : ∀ l ∈ labsOf ls, ∀ q, mentions l q (upd [(.r L, some (.vec false C ty k cs))] g q) = false := by
          intro l hl q
          rw [upd_one]
          by_cases e : Key.r L = q
          · rw [if_pos e, ← e]
            have := hmem l hl
            simp [mentions, beq_ne (Ne.symm this.1), beq_ne (Ne.symm this.2)]
          · rw [if_neg e]; exact hf l (by simp [labsOf, hl]) q
        have hu' : UnderT (setL (setL m L b) C a1.c) (upd [(.r L, some (.vec false C ty k cs))] g) b0 := by
          refine ⟨fun l ty' n' hl => ?_, fun l C2 ty' k' cs' hl hc2 => ?_⟩
          · rw [upd_one, if_neg (by simp)] at hl
            have e1 := fL (.b l); have e2 := fC (.b l)
            rw [hl] at e1 e2
            rw [setL_ne _ _ (mentions_b e2), setL_ne _ _ (mentions_b e1)]
            exact hu.1 l ty' n' hl
          · rw [upd_one] at hl
            by_cases e : Key.r L = Key.r l
            · rw [if_pos e] at hl; simp at hl
            · rw [if_neg e] at hl
              have e1 := fL (.r l); have e2 := fC (.r l)
              rw [hl] at e1 e2
              have q1 := mentions_r e1; have q2 := mentions_r e2
              rw [setL_ne _ _ q2.2, setL_ne _ _ q1.2] at hc2
              rw [setL_ne _ _ q2.1, setL_ne _ _ q1.1]
              exact hu.2 l C2 ty' k' cs' hl hc2
        obtain ⟨m', hr', hden, hkeep⟩ := ih ds sl (by simpa using hlen) hd' hf' hu' h3 hr1
        have nL : L ∉ labsOf ls := fun h => (hmem L h).1 rfl
        have nC : C ∉ labsOf ls := fun h => (hmem C h).2 rfl
        refine ⟨m', ?_, ?_, fun l hl => ?_⟩
        · simp only [rowsUp]
          rw [upd_append]; exact hr'
        · simp only [dens, List.map_cons, hden, List.cons.injEq, and_true, den, SlV.val]
          rw [hkeep L nL, hkeep C nC, setL_self, setL_ne _ _ hne, setL_self, hp, h1]
        · simp only [labsOf, List.mem_cons, not_or] at hl
          rw [hkeep l hl.2.2, setL_ne _ _ hl.2.1, setL_ne _ _ hl.1]
theorem op_callRows {cx : Cx} {s : Map} {d : Nat} {type : TypeId} {pos : String} {after : Array Edge} {guard : Option (Nat × Bool)} {fo : Operand} {fv : SV} {k : Nat} {fs caps xs : List SV} {args : Array Operand} {ts : Array TypeId} {extra : List Key}
    {R : List Value → Value} {x : SV} {ls : List (Nat × Nat)} {ds : List (Nat × Nat × Nat × List Value)}
    (hN : d < cx.N) (hen : Proofs.Enters cx.P k) (hf : Ev s fo fv) (hk : calleeOf k fs caps fv) (hx : EvL s args.toList xs) (hlen : ls.length = ds.length) (hd : distinct (labsOf ls) = true)
    (hden : ∀ (m : Nat → Nat), den m x = R (dens m ls ds))
    (hc : ∀ (m : Nat → Nat) (a : Act) (w : World) (g : Map), (∀ k ∈ extra, g k = s k) → Rel cx m g a w →
      Calls cx.P k (denL m (fs ++ (xs ++ caps))).toArray w fun e w' => ∃ sl : List SlV, e = .returned (R (sl.map SlV.val)) ∧ NewRows w w' sl ds ∧ Below w.heap.size w w') :
    OpRun cx ⟨some d, .call ⟨.value fo, args, ts⟩, type, pos, after, guard⟩ s ⟨okeys fo ++ okeysL args.toList ++ extra, (.t d, some (.x x)) :: rowsUp ls ds, labsOf ls⟩ :=
  op_callG hen hf hk hx fun m a w g hr hfr hrel => (hc m a w g hr hrel).mono fun e w' ⟨sl, he, hnew, hb⟩ => by
    have hu := hrel.under
    obtain ⟨m', h1, h2, _⟩ := (hrel.world hb).newRowsF (Nat.le_refl _) hrel.top ls ds sl hlen hd (fun l hl q => hfr l hl q) ⟨hu.1, fun l C ty k cs => hu.2 l true C ty k cs⟩ hnew
    exact ⟨_, m', he, (h1.put (x := x) hN (by rw [hden, h2])).congr (fun q => (upd_cons g q).symm)⟩
end Go.AX
/-
  The core, thirteenth part: functions that write boxes lent to them.
-/
namespace Go.AX
open Go Go.RowKit
abbrev Loan := Nat × Nat × Nat × TypeId × List Value
def lendSt : List Loan → St
  | [] => []
  | (i, L, _, ty, vs) :: r => (.t i, some (.x (.p L 0))) :: (.b L, some (.sh ty vs.length)) :: (cellsUp L 0 (vs.map SV.v) ++ lendSt r)
def loans : List Loan → List (Nat × Nat)
  | [] => []
  | (_, L, b, _, _) :: r => (L, b) :: loans r
def Lend (w : World) (args : List SV) : List Loan → Prop
  | [] => True
  | (i, _, b, ty, vs) :: r => w.heap[b]? = some (.cells vs.toArray ty (0, 0)) ∧ args[i]? = some (.v (.pointer (some ⟨b, 0, none⟩))) ∧ (∀ q ∈ loans r, q.2 ≠ b) ∧ Lend w args r
def lendOK (args : List SV) : List Loan → Bool
  | [] => true
  | (i, L, _, _, _) :: r => !mentionsIn L (lendSt r ++ argSt 0 args) && !touches (.t i) (lendSt r) && lendOK args r
section
variable {P : Program} {r : Option Nat} {B N : Nat} {w0 : World} {ds : Bool} {bor : List (Nat × Nat)} {S : Nat → Array Value} {K : List (Nat × Obj)} {m : Nat → Nat} {g : Map} {a : Act} {w : World}
theorem Rel.lend {L b : Nat} {ty : TypeId} {vs : List Value} (h : Rel ⟨P, r, B, w0, N, ds, bor, S, K⟩ m g a w) (hf : ∀ q, mentions L q (g q) = false) (hb : w.heap[b]? = some (.cells vs.toArray ty (0, 0)))
    (hnew : ∀ l ty n, g (.b l) = some (.sh ty n) → m l ≠ b) (hrow : ∀ l, g (.r l) = none) :
    Rel ⟨P, r, B, w0, N, ds, (L, b) :: bor, S, K⟩ (setL m L b) (upd ((.b L, some (.sh ty vs.length)) :: cellsUp L 0 (vs.map SV.v)) g) a w := by
  have hx : ∀ {k x}, g k = some (.x x) → den (setL m L b) x = den m x := fun {k x} hk => den_setL (by have := hf k; rw [hk] at this; exact (mentions_x (b := true)).1 this)
  have hxc : ∀ {k c x}, g k = some (.xc c x) → den (setL m L b) x = den m x := fun {k c x} hk => den_setL (by have := hf k; rw [hk] at this; exact (mentions_x (b := c)).2 this)
  have hgb : ∀ {L' ty' n'}, g (.b L') = some (.sh ty' n') → L' ≠ L := fun {L' ty' n'} hk e => by
    have := hf (.b L'); rw [hk] at this; simp [mentions, e] at this
  have key : ∀ k, upd ((.b L, some (.sh ty vs.length)) :: cellsUp L 0 (vs.map SV.v)) g k = match k with
      | .b L' => if L' = L then some (.sh ty vs.length) else g k
      | .c L' o => if L' = L ∧ o < vs.length then ((vs.map SV.v)[o]?).map Val.x else g k
      | _ => g k := by
    intro k
    simp only [upd]
    rw [upd_cellsUp]
    cases k with
    | t i => rfl
    | b L' =>
      by_cases e : L' = L
      · subst e; simp [Key.eqb]
      · have : Key.eqb (.b L) (.b L') = false := Key.eqb_false (by simpa using Ne.symm e)
        simp [this, e]
    | c L' o => simp [Key.eqb]
    | r L' => simp [Key.eqb]
    | u l i => simp [Key.eqb]
    | a => simp [Key.eqb]
  have hgc : ∀ {L' o x}, g (.c L' o) = some (.x x) → L' ≠ L := fun {L' o x} hk => by
    obtain ⟨ty', n', hL'⟩ := h.own L' o x hk
    exact hgb hL'
  refine ⟨h.size, h.defers, fun i y hy => ?_, fun i c y hy => ?_, fun L' ty' n' hL' => ?_, fun L' o' y hy => ?_, fun L' o' y hy => ?_, fun L1 L2 ty1 n1 ty2 n2 h1 h2 he => ?_, fun L1 own C ty1 k cs1 hx => ?_, fun L1 own C ty1 k cs1 L' ty' n' hx hy hc => ?_,
    fun L1 C ty1 k cs1 L' own' C' ty' k' cs' hx hy hne hc hc' => ?_, fun L1 C ty1 k cs1 hx hc => ?_, ⟨h.held.os, h.held.tape, h.held.output, h.held.size, fun k h1 h2 => h.held.block k h1 fun ⟨l, hl⟩ => h2 ⟨l, List.mem_cons_of_mem _ hl⟩⟩, h.top, fun L1 b1 hb1 => ?_, fun l i y hy => by rw [key] at hy; rw [hx hy]; exact h.us l i y hy, h.ko⟩
  · rw [key] at hy; rw [hx hy]; exact h.tm i y hy
  · rw [key] at hy; rw [hxc hy]; exact h.tmc i c y hy
  · rw [key] at hL'
    by_cases e : L' = L
    · subst e
      simp only [if_true, Option.some.injEq, Val.sh.injEq] at hL'
      obtain ⟨rfl, rfl⟩ := hL'
      rw [setL_self]
      exact ⟨.inr ⟨L', by simp⟩, vs.toArray, by simp, hb⟩
    · simp only [e, if_false] at hL'
      obtain ⟨h1, cs', h2, h3⟩ := h.blk L' ty' n' hL'
      rw [setL_ne _ _ e]
      refine ⟨?_, cs', h2, h3⟩
      rcases h1 with h1 | ⟨l, h1⟩
      · exact .inl h1
      · exact .inr ⟨l, by simp [h1]⟩
  · rw [key] at hy
    by_cases e : L' = L ∧ o' < vs.length
    · obtain ⟨rfl, ho⟩ := e
      simp only [ho, and_self, if_true, List.getElem?_map, List.getElem?_eq_getElem ho, Option.map_some, Option.some.injEq, Val.x.injEq] at hy
      subst hy
      rw [setL_self]
      simp only [World.cell?, hb, den]
      simp [ho]
    · simp only [e, if_false] at hy
      have := hgc hy
      rw [setL_ne _ _ this, hx hy]
      exact h.cell L' o' y hy
  · rw [key] at hy
    by_cases e : L' = L ∧ o' < vs.length
    · exact ⟨ty, vs.length, by rw [key]; simp [e.1]⟩
    · simp only [e, if_false] at hy
      obtain ⟨ty', n', hL'⟩ := h.own L' o' y hy
      exact ⟨ty', n', by rw [key]; simp only [hgb hL', if_false]; exact hL'⟩
  · rw [key] at h1 h2
    by_cases e1 : L1 = L
    · by_cases e2 : L2 = L
      · rw [e1, e2]
      · simp only [e2, if_false] at h2
        rw [e1, setL_self, setL_ne _ _ e2] at he
        exact absurd he.symm (hnew L2 ty2 n2 h2)
    · simp only [e1, if_false] at h1
      by_cases e2 : L2 = L
      · rw [e2, setL_self, setL_ne _ _ e1] at he
        exact absurd he (hnew L1 ty1 n1 h1)
      · simp only [e2, if_false] at h2
        rw [setL_ne _ _ e1, setL_ne _ _ e2] at he
        exact h.inj L1 L2 ty1 n1 ty2 n2 h1 h2 he
  · rw [key] at hx; simp [hrow L1] at hx
  · rw [key] at hx; simp [hrow L1] at hx
  · rw [key] at hx; simp [hrow L1] at hx
  · rw [key] at hx; simp [hrow L1] at hx
  · rcases List.mem_cons.1 hb1 with e | hb1
    · cases e
      exact ⟨setL_self _ _ _, ty, vs.length, by rw [key]; simp⟩
    · obtain ⟨h1, ty1, n1, h2⟩ := h.fix L1 b1 hb1
      have hne := hgb h2
      exact ⟨by rw [setL_ne _ _ hne]; exact h1, ty1, n1, by rw [key]; simp only [hne, if_false]; exact h2⟩
end
theorem argSt_t : ∀ (vs : List SV) (i j : Nat) (v : SV), vs[j]? = some v → get (argSt i vs) (.t (i + j)) = some (.x v) := by
  intro vs
  induction vs with
  | nil => intro i j v h; simp at h
  | cons x vs ih =>
    intro i j v h
    cases j with
    | zero =>
      simp only [List.getElem?_cons_zero, Option.some.injEq] at h
      subst h
      simp [argSt, get, upd, Key.eqb_self]
    | succ j =>
      simp only [List.getElem?_cons_succ] at h
      have := ih (i + 1) j v h
      rw [show i + 1 + j = i + (j + 1) by omega] at this
      simp only [argSt, get, upd]
      rw [Key.eqb_false (by simp)]
      exact this
theorem lendSt_b : ∀ {bs : List Loan} {args : List SV} {l : Nat} {v : Val}, get (lendSt bs ++ argSt 0 args) (.b l) = some v → ∃ b, (l, b) ∈ loans bs := by
  intro bs
  induction bs with
  | nil =>
    intro args l v h
    obtain ⟨j, u, hk, _⟩ := argSt_get _ _ _ _ h
    cases hk
  | cons x r ih =>
    obtain ⟨i, L, b, ty, vs⟩ := x
    intro args l v h
    by_cases e : l = L
    · exact ⟨b, by simp [loans, e]⟩
    · simp only [lendSt, List.cons_append, get, upd] at h
      rw [Key.eqb_false (by simp), Key.eqb_false (by simp; exact fun h => e h.symm), List.append_assoc, upd_append] at h
      simp only [cond_false] at h
      rw [upd_cellsUp] at h
      obtain ⟨b', hb'⟩ := ih h
      exact ⟨b', by simp [loans, hb']⟩
theorem lendSt_r : ∀ {bs : List Loan} {args : List SV} {l : Nat}, get (lendSt bs ++ argSt 0 args) (.r l) = none := by
  intro bs
  induction bs with
  | nil =>
    intro args l
    cases h : get (lendSt [] ++ argSt 0 args) (.r l) with
    | none => rfl
    | some v =>
      obtain ⟨j, u, hk, _⟩ := argSt_get _ _ _ _ h
      cases hk
  | cons x r ih =>
    obtain ⟨i, L, b, ty, vs⟩ := x
    intro args l
    simp only [lendSt, List.cons_append, get, upd]
    rw [Key.eqb_false (by simp), Key.eqb_false (by simp), List.append_assoc, upd_append]
    simp only [cond_false]
    rw [upd_cellsUp]
    exact ih
theorem rel_lend {P : Program} {r : Option Nat} {N : Nat} {args : List SV} {w : World} (hn : args.length ≤ N) : ∀ (bs : List Loan), Lend w args bs → lendOK args bs = true →
    ∃ m, Rel ⟨P, r, w.heap.size, w, N, false, loans bs, noS, []⟩ m (get (lendSt bs ++ argSt 0 args)) { tmps := (denL (fun _ => 0) args).toArray ++ Array.replicate (N - (denL (fun _ => 0) args).toArray.size) undef, defers := [] } w := by
  intro bs
  induction bs with
  | nil => intro _ _; exact ⟨_, rel_start args w hn⟩
  | cons x rs ih =>
    obtain ⟨i, L, b, ty, vs⟩ := x
    intro hl hok
    obtain ⟨h1, h2, h3, h4⟩ := hl
    simp only [lendOK, Bool.and_eq_true, Bool.not_eq_true'] at hok
    obtain ⟨⟨hok1, hok2⟩, hok3⟩ := hok
    obtain ⟨m, hrel⟩ := ih h4 hok3
    have hA := hrel.lend (L := L) (get_mentions hok1) h1 (fun l ty n hl => by
      obtain ⟨b', hb'⟩ := lendSt_b hl
      rw [(hrel.fix l b' hb').1]
      exact h3 _ hb') (fun l => lendSt_r)
    have ht : get (lendSt rs ++ argSt 0 args) (.t i) = some (.x (.v (.pointer (some ⟨b, 0, none⟩)))) := by
      rw [get_append, upd_of_touches hok2]
      have := argSt_t args 0 i _ h2
      rwa [Nat.zero_add] at this
    have hB := hA.retm (i := i) (x := .p L 0) (y := .v (.pointer (some ⟨b, 0, none⟩))) (by
      simp only [upd]
      rw [Key.eqb_false (by simp), upd_cellsUp]
      simpa using ht) (by simp [den, setL_self])
    refine ⟨_, hB.congr fun k => ?_⟩
    simp only [lendSt, List.cons_append, get, upd, List.append_assoc, upd_append]
theorem enterL {P : Program} {f : Nat} {fn : Func} {c : Code} {args : List SV} {w : World} {R : Ending → World → Prop} (hf : P.funcs[f]? = some fn) (hb : fn.body = some c) {N : Nat} (hN : fn.ntmps = N) (hn : args.length ≤ N) (bs : List Loan)
    (hl : Lend w args bs) (hok : lendOK args bs = true) (h : AW ⟨P, none, w.heap.size, w, N, false, loans bs, noS, []⟩ c (lendSt bs ++ argSt 0 args) (bodyPost P fn R)) : Calls P f (denL (fun _ => 0) args).toArray w R := by
  refine (callsIn_wide (n := 0)).1 ?_
  refine callsIn_of_wp hf hb trivial ?_
  subst hN
  obtain ⟨m, hrel⟩ := rel_lend (P := P) (r := none) hn bs hl hok
  exact h _ _ _ hrel
end Go.AX
/-
  The core, fourteenth part: calls that write boxes lent to them.
-/
namespace Go.AX
open Go Go.RowKit
structure Lent (w w' : World) (b : Nat) (ty : TypeId) (vs : List Value) : Prop where
  os : w'.os = w.os
  tape : w'.tape = w.tape
  output : w'.output = w.output
  size : w.heap.size ≤ w'.heap.size
  block : ∀ k, k < w.heap.size → k ≠ b → w'.heap[k]? = w.heap[k]?
  it : w'.heap[b]? = some (.cells vs.toArray ty (0, 0))
section
variable {cx : Cx} {s g : Map} {m : Nat → Nat} {a : Act} {w : World}
theorem cells_all {L n : Nat} {ty : TypeId} {vs : List Value} (h : Rel cx m g a w) (hb : g (.b L) = some (.sh ty n)) (hn : vs.length = n) (hc : CellsAre g L 0 (vs.map SV.v)) : w.heap[m L]? = some (.cells vs.toArray ty (0, 0)) := by
  obtain ⟨_, cs, hs, hh⟩ := h.blk L ty n hb
  have hbox := bqA h (fun _ _ => rfl) hb hc
  rw [hh]
  congr 2
  refine Array.ext (by simp [hs, hn]) fun j h1 h2 => ?_
  have h3 := hbox.2 j vs[j] (List.getElem?_eq_getElem (by simpa using h2))
  simp only [World.cell?, hh] at h3
  simp [h1] at h3
  simpa using h3
theorem lent_end {S : Nat → Array Value} {K : List (Nat × Obj)} {P : Program} {r : Option Nat} {N : Nat} {w0 : World} {ds : Bool} {L b n : Nat} {ty : TypeId} {vs : List Value} (h : Rel ⟨P, r, w0.heap.size, w0, N, ds, [(L, b)], S, K⟩ m g a w) (hb : g (.b L) = some (.sh ty n)) (hn : vs.length = n)
    (hc : CellsAre g L 0 (vs.map SV.v)) : Lent w0 w b ty vs := by
  have hm := (h.fix L b (by simp)).1
  refine ⟨h.held.os, h.held.tape, h.held.output, h.held.size, fun k h1 h2 => h.held.block k h1 fun ⟨l, hl⟩ => ?_, ?_⟩
  · simp only [List.mem_singleton, Prod.mk.injEq] at hl
    exact h2 hl.2
  · rw [← hm]; exact cells_all h hb hn hc
variable {d : Nat} {type : TypeId} {pos : String} {after : Array Edge} {guard : Option (Nat × Bool)}
theorem boxAtD {L n : Nat} {ty : TypeId} {ys : List SV} (hrel : Rel cx m g a w) (hr : ∀ k ∈ Key.b L :: cqK L 0 ys.length, g k = s k) (hb : s (.b L) = some (.sh ty n)) (hc : CellsAre s L 0 ys) : BoxAt w (m L) (denL m ys) := by
  obtain ⟨_, cs, _, hh⟩ := hrel.blk L ty n (by rw [hr _ (by simp)]; exact hb)
  refine ⟨(Array.getElem?_eq_some_iff.1 hh).1, fun j v hj => ?_⟩
  rw [denL_get] at hj
  cases hy : ys[j]? with
  | none => rw [hy] at hj; cases hj
  | some y =>
    rw [hy] at hj
    cases hj
    have hlt : j < ys.length := (List.getElem?_eq_some_iff.1 hy).1
    have h1 := cellsAre_get hc j y hy
    have h2 : Key.c L (0 + j) ∈ cqK L 0 ys.length := mem_cellKeys hlt
    have := hrel.cell L (0 + j) y (by rw [hr _ (by simp only [List.mem_cons]; exact .inr h2)]; exact h1)
    simpa using this
end
end Go.AX
/-
  The core, fifteenth part: blocks apart from a lent one.
-/
namespace Go.AX
open Go Go.RowKit
theorem lent_one {S : Nat → Array Value} {K : List (Nat × Obj)} {P : Program} {r : Option Nat} {B N : Nat} {w0 : World} {ds : Bool} {L b b0 : Nat} (h : b ≠ b0) : ¬ Cx.lent ⟨P, r, B, w0, N, ds, [(L, b0)], S, K⟩ b := fun ⟨l, hl⟩ => by
  simp only [List.mem_singleton, Prod.mk.injEq] at hl
  exact h hl.2
theorem sl_ne {α : Type} {enc : α → List Value} {k b : Nat} {w : World} {a : SlV} {l : List α} (h : SlIs enc k w a l) (hb : w.heap.size ≤ b) : l ≠ [] → ∀ ad, a.p = some ad → ad.block ≠ b := by
  intro hl ad had e
  obtain ⟨b', o, h1, h2, _⟩ := h.2.2 hl
  rw [h1] at had
  cases had
  simp only at e
  omega
section
variable {cx : Cx} {g : Map} {m : Nat → Nat} {a : Act} {w : World}
theorem box_ne {L L' n n' : Nat} {ty ty' : TypeId} (h : Rel cx m g a w) (h1 : g (.b L) = some (.sh ty n)) (h2 : g (.b L') = some (.sh ty' n')) (hne : L ≠ L') : m L ≠ m L' := fun e => hne (h.inj L L' ty n ty' n' h1 h2 e)
theorem box_hi {S : Nat → Array Value} {K : List (Nat × Obj)} {P : Program} {r : Option Nat} {B N : Nat} {w0 : World} {ds : Bool} {L n : Nat} {ty : TypeId} (h : Rel ⟨P, r, B, w0, N, ds, [], S, K⟩ m g a w) (h1 : g (.b L) = some (.sh ty n)) : B ≤ m L := mine_nil (h.blk L ty n h1).1
end
structure TwoNew (w w' : World) (b1 b2 : Nat) (ty1 ty2 : TypeId) (v1 v2 : List Value) : Prop where
  below : Below w.heap.size w w'
  new1 : w.heap.size ≤ b1
  new2 : w.heap.size ≤ b2
  ne : b1 ≠ b2
  it1 : w'.heap[b1]? = some (.cells v1.toArray ty1 (0, 0))
  it2 : w'.heap[b2]? = some (.cells v2.toArray ty2 (0, 0))
section
variable {cx : Cx} {s g : Map} {m : Nat → Nat} {a : Act} {w : World}
theorem Rel.gotBox {L b : Nat} {ty : TypeId} {vs : List Value} (h : Rel cx m g a w) (hf : ∀ q, mentions L q (g q) = false) (hb : w.heap[b]? = some (.cells vs.toArray ty (0, 0))) (hB : cx.B ≤ b)
    (hnew : ∀ l ty n, g (.b l) = some (.sh ty n) → m l ≠ b) (hrow : ∀ l own C ty k cs, g (.r l) = some (.vec own C ty k cs) → m C ≠ 0 → m l ≠ b) :
    Rel cx (setL m L b) (upd ((.b L, some (.sh ty vs.length)) :: cellsUp L 0 (vs.map SV.v)) g) a w := by
  have hx : ∀ {k x}, g k = some (.x x) → den (setL m L b) x = den m x := fun {k x} hk => den_setL (by have := hf k; rw [hk] at this; exact (mentions_x (b := true)).1 this)
  have hxc : ∀ {k c x}, g k = some (.xc c x) → den (setL m L b) x = den m x := fun {k c x} hk => den_setL (by have := hf k; rw [hk] at this; exact (mentions_x (b := c)).2 this)
  have hgb : ∀ {L' ty' n'}, g (.b L') = some (.sh ty' n') → L' ≠ L := fun {L' ty' n'} hk e => by
    have := hf (.b L'); rw [hk] at this; simp [mentions, e] at this
  have hgr : ∀ {L' own C ty' k cs'}, g (.r L') = some (.vec own C ty' k cs') → L' ≠ L ∧ C ≠ L := fun {L' own C ty' k cs'} hk => by
    have := hf (.r L')
    rw [hk] at this
    simp only [mentions, Bool.or_eq_false_iff] at this
    exact ⟨fun e => by subst e; simp at this, fun e => by subst e; simp at this⟩
  have key : ∀ k, upd ((.b L, some (.sh ty vs.length)) :: cellsUp L 0 (vs.map SV.v)) g k = match k with
      | .b L' => if L' = L then some (.sh ty vs.length) else g k
      | .c L' o => if L' = L ∧ o < vs.length then ((vs.map SV.v)[o]?).map Val.x else g k
      | _ => g k := by
    intro k
    simp only [upd]
    rw [upd_cellsUp]
    cases k with
    | t i => rfl
    | b L' =>
      by_cases e : L' = L
      · subst e; simp [Key.eqb]
      · have : Key.eqb (.b L) (.b L') = false := Key.eqb_false (by simpa using Ne.symm e)
        simp [this, e]
    | c L' o => simp [Key.eqb]
    | r L' => simp [Key.eqb]
    | u l i => simp [Key.eqb]
    | a => simp [Key.eqb]
  have hgc : ∀ {L' o x}, g (.c L' o) = some (.x x) → L' ≠ L := fun {L' o x} hk => by
    obtain ⟨ty', n', hL'⟩ := h.own L' o x hk
    exact hgb hL'
  refine ⟨h.size, h.defers, fun i y hy => ?_, fun i c y hy => ?_, fun L' ty' n' hL' => ?_, fun L' o' y hy => ?_, fun L' o' y hy => ?_, fun L1 L2 ty1 n1 ty2 n2 h1 h2 he => ?_, fun L1 own C ty1 k cs1 hx => ?_, fun L1 own C ty1 k cs1 L' ty' n' hx hy hc => ?_,
    fun L1 C ty1 k cs1 L' own' C' ty' k' cs' hx hy hne hc hc' => ?_, fun L1 C ty1 k cs1 hx hc => ?_, h.held, h.top, fun L1 b1 hb1 => ?_, fun l i y hy => by rw [key] at hy; rw [hx hy]; exact h.us l i y hy, h.ko⟩
  · rw [key] at hy; rw [hx hy]; exact h.tm i y hy
  · rw [key] at hy; rw [hxc hy]; exact h.tmc i c y hy
  · rw [key] at hL'
    by_cases e : L' = L
    · subst e
      simp only [if_true, Option.some.injEq, Val.sh.injEq] at hL'
      obtain ⟨rfl, rfl⟩ := hL'
      rw [setL_self]
      exact ⟨.inl hB, vs.toArray, by simp, hb⟩
    · simp only [e, if_false] at hL'
      rw [setL_ne _ _ e]
      exact h.blk L' ty' n' hL'
  · rw [key] at hy
    by_cases e : L' = L ∧ o' < vs.length
    · obtain ⟨rfl, ho⟩ := e
      simp only [ho, and_self, if_true, List.getElem?_map, List.getElem?_eq_getElem ho, Option.map_some, Option.some.injEq, Val.x.injEq] at hy
      subst hy
      rw [setL_self]
      simp only [World.cell?, hb, den]
      simp [ho]
    · simp only [e, if_false] at hy
      have := hgc hy
      rw [setL_ne _ _ this, hx hy]
      exact h.cell L' o' y hy
  · rw [key] at hy
    by_cases e : L' = L ∧ o' < vs.length
    · exact ⟨ty, vs.length, by rw [key]; simp [e.1]⟩
    · simp only [e, if_false] at hy
      obtain ⟨ty', n', hL'⟩ := h.own L' o' y hy
      exact ⟨ty', n', by rw [key]; simp only [hgb hL', if_false]; exact hL'⟩
  · rw [key] at h1 h2
    by_cases e1 : L1 = L
    · by_cases e2 : L2 = L
      · rw [e1, e2]
      · simp only [e2, if_false] at h2
        rw [e1, setL_self, setL_ne _ _ e2] at he
        exact absurd he.symm (hnew L2 ty2 n2 h2)
    · simp only [e1, if_false] at h1
      by_cases e2 : L2 = L
      · rw [e2, setL_self, setL_ne _ _ e1] at he
        exact absurd he (hnew L1 ty1 n1 h1)
      · simp only [e2, if_false] at h2
        rw [setL_ne _ _ e1, setL_ne _ _ e2] at he
        exact h.inj L1 L2 ty1 n1 ty2 n2 h1 h2 he
  · rw [key] at hx
    obtain ⟨e1, e2⟩ := hgr hx
    rw [setL_ne _ _ e1, setL_ne _ _ e2]
    exact h.vec L1 own C ty1 k cs1 hx
  · rw [key] at hx hy
    obtain ⟨e1, e2⟩ := hgr hx
    rw [setL_ne _ _ e2] at hc
    rw [setL_ne _ _ e1]
    by_cases e : L' = L
    · subst e
      rw [setL_self]
      exact hrow L1 own C ty1 k cs1 hx hc
    · simp only [e, if_false] at hy
      rw [setL_ne _ _ e]
      exact h.sep L1 own C ty1 k cs1 L' ty' n' hx hy hc
  · rw [key] at hx hy
    obtain ⟨e1, e2⟩ := hgr hx
    obtain ⟨e3, e4⟩ := hgr hy
    rw [setL_ne _ _ e2] at hc
    rw [setL_ne _ _ e4] at hc'
    rw [setL_ne _ _ e1, setL_ne _ _ e3]
    exact h.sepR L1 C ty1 k cs1 L' own' C' ty' k' cs' hx hy hne hc hc'
  · rw [key] at hx
    obtain ⟨e1, e2⟩ := hgr hx
    rw [setL_ne _ _ e2] at hc
    rw [setL_ne _ _ e1]
    exact h.ownR L1 C ty1 k cs1 hx hc
  · obtain ⟨h1, ty1, n1, h2⟩ := h.fix L1 b1 hb1
    have hne := hgb h2
    exact ⟨by rw [setL_ne _ _ hne]; exact h1, ty1, n1, by rw [key]; simp only [hne, if_false]; exact h2⟩
def boxUp (L : Nat) (ty : TypeId) (vs : List Value) : St := (.b L, some (.sh ty vs.length)) :: cellsUp L 0 (vs.map SV.v)
theorem mentions_boxUp {L L' : Nat} {ty : TypeId} {vs : List Value} (hne : L ≠ L') (hf : ∀ q, mentions L' q (g q) = false) : ∀ q, mentions L' q (upd (boxUp L ty vs) g q) = false := by
  intro q
  simp only [boxUp, upd]
  rw [upd_cellsUp]
  cases q with
  | t i => simpa [Key.eqb] using hf (.t i)
  | u l i => simpa [Key.eqb] using hf (.u l i)
  | a => simpa [Key.eqb] using hf .a
  | r l => simpa [Key.eqb] using hf (.r l)
  | b l =>
    by_cases e : Key.b L = Key.b l
    · rw [Key.eqb_iff.2 e]
      cases e
      simp [mentions, beq_ne hne]
    · rw [Key.eqb_false e]; exact hf (.b l)
  | c l o' =>
    simp only [Key.eqb, cond_false, List.length_map]
    by_cases e : l = L ∧ 0 ≤ o' ∧ o' < 0 + vs.length
    · obtain ⟨rfl, h0, h1⟩ := e
      simp only [Nat.zero_add] at h1
      simp [h1, mentions, beq_ne hne, SV.has]
    · have := hf (.c l o')
      simp at e
      by_cases e2 : l = L
      · subst e2
        have := e rfl
        simp [Nat.not_lt.2 this]; exact hf _
      · simp [e2]; exact hf _
variable {d : Nat} {type : TypeId} {pos : String} {after : Array Edge} {guard : Option (Nat × Bool)}
theorem op_callTwo {fo : Operand} {fv : SV} {k L1 L2 : Nat} {ty1 ty2 : TypeId} {v1 v2 : List Value} {R : Nat → Nat → Value} {fs caps xs : List SV} {x : SV} {args : Array Operand} {ts : Array TypeId} {extra : List Key}
    (hN : d < cx.N) (hen : Proofs.Enters cx.P k) (hf : Ev s fo fv) (hk : calleeOf k fs caps fv) (hx : EvL s args.toList xs) (hne : L1 ≠ L2) (hden : ∀ m, den m x = R (m L1) (m L2))
    (hc : ∀ (m : Nat → Nat) (a : Act) (w : World) (g : Map), (∀ k ∈ extra, g k = s k) → Rel cx m g a w →
      Calls cx.P k (denL m (fs ++ (xs ++ caps))).toArray w fun e w' => ∃ b1 b2, e = .returned (R b1 b2) ∧ TwoNew w w' b1 b2 ty1 ty2 v1 v2) :
    OpRun cx ⟨some d, .call ⟨.value fo, args, ts⟩, type, pos, after, guard⟩ s ⟨okeys fo ++ okeysL args.toList ++ extra, (.t d, some (.x x)) :: (boxUp L2 ty2 v2 ++ boxUp L1 ty1 v1), [L1, L2]⟩ :=
  op_callG hen hf hk hx fun m a w g hr hfr hrel => (hc m a w g hr hrel).mono fun e w' ⟨b1, b2, he, hn⟩ => by
    have hu := hrel.under
    have hw := hrel.world hn.below
    have f1 := hfr L1 (by simp)
    have f2 := hfr L2 (by simp)
    have h1 := hw.gotBox (L := L1) (b := b1) f1 hn.it1 (Nat.le_trans hrel.top hn.new1) (fun l ty n hl => by have := hu.1 l ty n hl; have := hn.new1; omega) (fun l own C ty k cs hl hc => by have := hu.2 l own C ty k cs hl hc; have := hn.new1; omega)
    have f2' := mentions_boxUp (ty := ty1) (vs := v1) hne f2
    have old : ∀ {l ty n}, upd (boxUp L1 ty1 v1) g (.b l) = some (.sh ty n) → (l = L1 ∨ g (.b l) = some (.sh ty n)) := by
      intro l ty n hl
      simp only [boxUp, upd] at hl
      by_cases e : l = L1
      · exact .inl e
      · rw [Key.eqb_false (by simpa using Ne.symm e), upd_cellsUp] at hl
        exact .inr (by simpa using hl)
    have h2 := h1.gotBox (L := L2) (b := b2) f2' hn.it2 (Nat.le_trans hrel.top hn.new2) (fun l ty n hl => by
        rcases old hl with e | hl2
        · rw [e, setL_self]; exact hn.ne
        · have hne1 : l ≠ L1 := fun e => by
            subst e
            have := f1 (.b l); rw [hl2] at this; simp [mentions] at this
          rw [setL_ne _ _ hne1]
          have := hu.1 l ty n hl2; have := hn.new2; omega)
      (fun l own C ty k cs hl hc => by
        simp only [upd] at hl
        rw [Key.eqb_false (by simp), upd_cellsUp] at hl
        simp only [cond_false] at hl
        have q := f1 (.r l)
        rw [hl] at q
        have q' := mentions_r q
        rw [setL_ne _ _ q'.2] at hc
        rw [setL_ne _ _ q'.1]
        have := hu.2 l own C ty k cs hl hc; have := hn.new2; omega)
    refine ⟨_, _, he, (h2.put (x := x) hN ?_).congr (fun q => ?_)⟩
    · rw [hden, setL_self, setL_ne _ _ hne, setL_self]
    · refine Eq.trans ?_ (upd_cons g q).symm
      rw [upd_append]; rfl
end
end Go.AX
/-
  The core, sixteenth part: what is computed, as a plain term with checks ('mirror'); joins and loops by continuations; conversions of slices; several lent boxes.
-/
namespace Go.AX
open Go Go.RowKit
/-! ### Mirrors -/
def chk {α : Type} (p : Prop) [Decidable p] (x : Option α) : Option α := if p then x else none
def brk {α : Type} (c : Bool) (x y : Option α) : Option α := match c with | true => x | false => y
def bnd {α β : Type} (x : Option α) (f : α → Option β) : Option β := match x with | some a => f a | none => none
def join {ι R : Type} (K : ι → Option R) (body : (ι → Option R) → Option R) : Option R := body K
def lpC {σ R : Type} (body : σ → (σ → Option R) → Option R) : Nat → σ → Option R
  | 0, _ => none
  | n + 1, x => body x (lpC body n)
theorem chk_some {α : Type} {p : Prop} [Decidable p] {x : Option α} {r : α} (h : chk p x = some r) : p ∧ x = some r := by
  unfold chk at h
  split at h
  · exact ⟨by assumption, h⟩
  · cases h
theorem bnd_some {α β : Type} {x : Option α} {f : α → Option β} {r : β} (h : bnd x f = some r) : ∃ a, x = some a ∧ f a = some r := by
  cases x with
  | none => cases h
  | some a => exact ⟨a, rfl, h⟩
theorem brk_t {α : Type} {c : Bool} {x y : Option α} {r : α} (hc : c = true) (h : brk c x y = some r) : x = some r := by subst hc; exact h
theorem brk_f {α : Type} {c : Bool} {x y : Option α} {r : α} (hc : c = false) (h : brk c x y = some r) : y = some r := by subst hc; exact h
abbrev InR (x : Int) : Prop := -9223372036854775808 ≤ x ∧ x ≤ 9223372036854775807
theorem chk_pos {α : Type} {p : Prop} [Decidable p] {x : Option α} (h : p) : chk p x = x := if_pos h
theorem bnd_pos {α β : Type} {a : α} {f : α → Option β} : bnd (some a) f = f a := rfl
section
variable {cx : Cx} {s : St} {Q : Exit → Act → World → Prop}
theorem aw_cutM {x y : Code} {ι R : Type} {K : ι → Option R} {body : (ι → Option R) → Option R} {r : R} (hm : join K body = some r) (S : ι → St)
    (h1 : body K = some r → AW cx x s (Exit.then (fun a w => ∃ i, K i = some r ∧ ∃ m, Rel cx m (get (S i)) a w) Q)) (h2 : ∀ i, K i = some r → AW cx y (S i) Q) : AW cx (.seq x y) s Q := by
  refine fun m a w hr => wpIn_seq (wpIn_mono (h1 hm m a w hr) fun e a' w' hq => ?_)
  cases e with
  | normal => obtain ⟨i, hi, m', hr'⟩ := hq; exact h2 i hi m' a' w' hr'
  | _ => exact hq
theorem fqc {ι : Type} {P : ι → Prop} {S : ι → St} (i : ι) (hi : P i) (hk : Keep (S i) s) (hok : keepOK cx (S i) = true) :
    Fin cx s (Exit.then (fun a w => ∃ i, P i ∧ ∃ m, Rel cx m (get (S i)) a w) Q) .normal := fun m _ _ hr => ⟨i, hi, m, hr.keep hk hok⟩
theorem aw_loopC {σ R : Type} {body' : σ → (σ → Option R) → Option R} {n : Nat} {x0 : σ} {r : R} (hm : lpC body' n x0 = some r) (S : σ → St) {body : Code} (hk : Keep (S x0) s) (hok : keepOK cx (S x0) = true)
    (h : ∀ x next, body' x next = some r → AW cx body (S x) (Exit.then (fun a w => ∃ y, next y = some r ∧ ∃ m, Rel cx m (get (S y)) a w) Q)) : AW cx (.loop body) s Q := by
  refine AW.keep (s' := S x0) ?_ hk hok
  refine aw_loop (ι := Nat × σ) (fun q => lpC body' q.1 q.2 = some r) (fun q => S q.2) (fun q => q.1) (x0 := (n, x0)) hm fun q hq m a w hr => ?_
  obtain ⟨n', x⟩ := q
  cases n' with
  | zero => cases hq
  | succ n' =>
    refine wpIn_mono (h x _ hq m a w hr) fun e a' w' hq' => ?_
    cases e with
    | normal => obtain ⟨y, hy, m', hr'⟩ := hq'; exact ⟨(n', y), hy, Nat.lt_succ_self _, m', hr'⟩
    | _ => exact hq'
end
/-! ### Conversions -/
section
variable {cx : Cx} {m : Nat → Nat} {g : Map} {a : Act} {w : World}
theorem Rel.rex {k0 : Key} {x y : SV} (h : Rel cx m g a w) (hv : g k0 = some (.x y)) (e : den m x = den m y) : Rel cx m (upd [(k0, some (.x x))] g) a w := by
  have key : ∀ {k v}, upd [(k0, some (.x x))] g k = some v → (k = k0 ∧ v = .x x) ∨ g k = some v := by
    intro k v hk
    rw [upd_one] at hk
    by_cases e : k0 = k
    · rw [if_pos e] at hk; cases hk; exact .inl ⟨e.symm, rfl⟩
    · rw [if_neg e] at hk; exact .inr hk
  have keyb : ∀ {l : Nat} {v : Nat × Nat}, g (.b l) = some (.sh v.1 v.2) → upd [(k0, some (.x x))] g (.b l) = some (.sh v.1 v.2) := by
    intro l v hl
    rw [upd_one]
    by_cases e : k0 = .b l
    · subst e; rw [hl] at hv; cases hv
    · rw [if_neg e]; exact hl
  refine ⟨h.size, h.defers, fun j z hz => ?_, fun j b z hz => ?_, fun L ty n hz => ?_, fun L o z hz => ?_, fun L o z hz => ?_, fun L L' ty n ty' n' h1 h2 he => ?_, fun L own C ty k cs hz => ?_, fun L own C ty k cs L' ty' n' h1 h2 hc => ?_,
    fun L C ty k cs L' own' C' ty' k' cs' h1 h2 hne hc hc' => ?_, fun L C ty k cs hz hc => ?_, h.held, h.top, fun L b hb => by obtain ⟨h1, ty, n, h2⟩ := h.fix L b hb; exact ⟨h1, ty, n, keyb (v := (ty, n)) h2⟩, fun l i z hz => ?_, h.ko⟩
  · rcases key hz with ⟨hk, hz⟩ | hz
    · cases hz; rw [e]; exact h.tm j y (by rw [hk]; exact hv)
    · exact h.tm j z hz
  · rcases key hz with ⟨_, hz⟩ | hz
    · cases hz
    · exact h.tmc j b z hz
  · rcases key hz with ⟨_, hz⟩ | hz
    · cases hz
    · exact h.blk L ty n hz
  · rcases key hz with ⟨hk, hz⟩ | hz
    · cases hz; rw [e]; exact h.cell L o y (by rw [hk]; exact hv)
    · exact h.cell L o z hz
  · rcases key hz with ⟨hk, hz⟩ | hz
    · obtain ⟨ty, n, hb⟩ := h.own L o y (by rw [hk]; exact hv)
      exact ⟨ty, n, keyb (v := (ty, n)) hb⟩
    · obtain ⟨ty, n, hb⟩ := h.own L o z hz
      exact ⟨ty, n, keyb (v := (ty, n)) hb⟩
  · rcases key h1 with ⟨_, h1⟩ | h1
    · cases h1
    rcases key h2 with ⟨_, h2⟩ | h2
    · cases h2
    exact h.inj L L' ty n ty' n' h1 h2 he
  · rcases key hz with ⟨_, hz⟩ | hz
    · cases hz
    · exact h.vec L own C ty k cs hz
  · rcases key h1 with ⟨_, h1⟩ | h1
    · cases h1
    rcases key h2 with ⟨_, h2⟩ | h2
    · cases h2
    exact h.sep L own C ty k cs L' ty' n' h1 h2 hc
  · rcases key h1 with ⟨_, h1⟩ | h1
    · cases h1
    rcases key h2 with ⟨_, h2⟩ | h2
    · cases h2
    exact h.sepR L C ty k cs L' own' C' ty' k' cs' h1 h2 hne hc hc'
  · rcases key hz with ⟨_, hz⟩ | hz
    · cases hz
    · exact h.ownR L C ty k cs hz hc
  · rcases key hz with ⟨hk, hz⟩ | hz
    · cases hz; rw [e]; exact h.us l i y (by rw [hk]; exact hv)
    · exact h.us l i z hz
end
section
variable {cx : Cx} {s : St} {Q : Exit → Act → World → Prop}
theorem aw_rex {c : Code} {k : Key} (x : SV) {y : SV} (hv : get s k = some (.x y)) (e : ∀ m, (∀ q ∈ cx.bor, m q.1 = q.2) → den m x = den m y) (h : AW cx c ((k, some (.x x)) :: s) Q) : AW cx c s Q :=
  fun m a w hr => h m a w ((hr.rex hv (e m fun q hq => (hr.fix q.1 q.2 hq).1)).congr fun _ => rfl)
end
def noCells (L : Nat) : Nat → Nat → St
  | _, 0 => []
  | o, n + 1 => (.c L o, none) :: noCells L (o + 1) n
theorem upd_noCells (L : Nat) (g : Map) : ∀ (n i : Nat) (k : Key),
    upd (noCells L i n) g k = match k with
      | .c L' o => if L' = L ∧ i ≤ o ∧ o < i + n then none else g k
      | _ => g k := by
  intro n
  induction n with
  | zero =>
    intro i k
    cases k <;> simp [noCells, upd]
    intros; omega
  | succ n ih =>
    intro i k
    simp only [noCells, upd]
    rw [ih]
    cases k with
    | t j => rfl
    | b l => rfl
    | r l => rfl
    | u l i => rfl
    | a => rfl
    | c L' o =>
      by_cases e : Key.c L i = Key.c L' o
      · cases e; simp [Key.eqb]
      · rw [Key.eqb_false e, cond_false]
        simp only []
        by_cases hL : L' = L
        · subst hL
          have hne : o ≠ i := fun h => e (by rw [h])
          by_cases ho : i + 1 ≤ o ∧ o < i + 1 + n
          · rw [if_pos ⟨rfl, ho.1, ho.2⟩, if_pos ⟨rfl, by omega, by omega⟩]
          · rw [if_neg (fun h => ho ⟨h.2.1, h.2.2⟩), if_neg (fun h => ho ⟨by omega, by omega⟩)]
        · rw [if_neg (fun h => hL h.1), if_neg (fun h => hL h.1)]
section
variable {cx : Cx} {m : Nat → Nat} {g : Map} {a : Act} {w : World}
theorem Rel.toRow {L C n kk : Nat} {ety : TypeId} {cs : List Value} (h : Rel cx m g a w) (hb : g (.b L) = some (.sh ety (n * kk))) (_hlen : cs.length = n * kk) (hn : n ≠ 0) (hc : CellsAre g L 0 (cs.map SV.v)) (hC : ∀ q, mentions C q (g q) = false)
    (hne : L ≠ C) (hbor : ∀ q ∈ cx.bor, q.1 ≠ L) : Rel cx (setL m C n) (upd ((.r L, some (.vec true C ety kk cs)) :: (.b L, none) :: noCells L 0 (n * kk)) g) a w := by
  have hx : ∀ {k x}, g k = some (.x x) → den (setL m C n) x = den m x := fun {k x} hk => den_setL (by have := hC k; rw [hk] at this; exact (mentions_x (b := true)).1 this)
  have hxc : ∀ {k c x}, g k = some (.xc c x) → den (setL m C n) x = den m x := fun {k c x} hk => den_setL (by have := hC k; rw [hk] at this; exact (mentions_x (b := c)).2 this)
  have hgb : ∀ {L' ty' n'}, g (.b L') = some (.sh ty' n') → L' ≠ C := fun {L' ty' n'} hk e => by
    have := hC (.b L'); rw [hk] at this; simp [mentions, e] at this
  have hgr : ∀ {L' own C' ty' k cs'}, g (.r L') = some (.vec own C' ty' k cs') → L' ≠ C ∧ C' ≠ C := fun {L' own C' ty' k cs'} hk => by
    have := hC (.r L'); rw [hk] at this; exact mentions_r this
  have key : ∀ {k v}, upd ((.r L, some (.vec true C ety kk cs)) :: (.b L, none) :: noCells L 0 (n * kk)) g k = some v → (k = .r L ∧ v = .vec true C ety kk cs) ∨ (g k = some v ∧ k ≠ .r L ∧ k ≠ .b L) := by
    intro k v hk
    simp only [upd] at hk
    by_cases e1 : Key.r L = k
    · rw [Key.eqb_iff.2 e1, cond_true] at hk; cases hk; exact .inl ⟨e1.symm, rfl⟩
    · rw [Key.eqb_false e1, cond_false] at hk
      by_cases e2 : Key.b L = k
      · rw [Key.eqb_iff.2 e2, cond_true] at hk; cases hk
      · rw [Key.eqb_false e2, cond_false, upd_noCells] at hk
        refine .inr ⟨?_, Ne.symm e1, Ne.symm e2⟩
        cases k with
        | c L' o =>
          simp only [] at hk
          split at hk
          · cases hk
          · exact hk
        | _ => exact hk
  have cellL : ∀ {o x}, g (.c L o) = some (.x x) → o < n * kk := fun {o x} hk => by
    obtain ⟨_, cur, hs, hh⟩ := h.blk L ety (n * kk) hb
    have := h.cell L o x hk
    simp only [World.cell?, hh] at this
    rcases Nat.lt_or_ge o cur.size with h4 | h4
    · omega
    · simp [h4] at this
  have keyc : ∀ {L' o x}, upd ((.r L, some (.vec true C ety kk cs)) :: (.b L, none) :: noCells L 0 (n * kk)) g (.c L' o) = some (.x x) → L' ≠ L := by
    intro L' o x hk e
    subst e
    rcases key hk with ⟨h1, _⟩ | ⟨h1, _, _⟩
    · cases h1
    · have := cellL h1
      simp only [upd] at hk
      rw [Key.eqb_false (by simp), Key.eqb_false (by simp), cond_false, cond_false, upd_noCells] at hk
      simp [this] at hk
  have keyb : ∀ {L' ty' n'}, L' ≠ L → g (.b L') = some (.sh ty' n') → upd ((.r L, some (.vec true C ety kk cs)) :: (.b L, none) :: noCells L 0 (n * kk)) g (.b L') = some (.sh ty' n') := by
    intro L' ty' n' hne hk
    simp only [upd]
    rw [Key.eqb_false (by simp), Key.eqb_false (by simpa using Ne.symm hne), cond_false, cond_false, upd_noCells]
    exact hk
  obtain ⟨hmine, cur, hs, hh⟩ := h.blk L ety (n * kk) hb
  have hbox := bqA h (fun _ _ => rfl) hb hc
  have hvec : VecAt (m L) n ety kk cs w := by
    refine .inr ⟨hn, cur, hh, hs, fun i v hi => ?_⟩
    have h3 := hbox.2 i v hi
    simp only [World.cell?, hh] at h3
    rcases Nat.lt_or_ge i cur.size with h4 | h4
    · simpa [h4] using h3
    · simp [h4] at h3
  have mL : setL m C n L = m L := setL_ne _ _ hne
  refine ⟨h.size, h.defers, fun j z hz => ?_, fun j b z hz => ?_, fun L' ty n' hz => ?_, fun L' o z hz => ?_, fun L' o z hz => ?_, fun L1 L2 ty n1 ty' n2 h1 h2 he => ?_, fun L1 own C1 ty k cs1 hz => ?_, fun L1 own C1 ty k cs1 L' ty' n' h1 h2 hc1 => ?_,
    fun L1 C1 ty k cs1 L' own' C' ty' k' cs' h1 h2 hne1 hc1 hc' => ?_, fun L1 C1 ty k cs1 hz hc1 => ?_, h.held, h.top, fun L1 b hb1 => ?_, fun l i z hz => ?_, h.ko⟩
  · rcases key hz with ⟨hk, _⟩ | ⟨hz, _, _⟩
    · cases hk
    · rw [hx hz]; exact h.tm j z hz
  · rcases key hz with ⟨hk, _⟩ | ⟨hz, _, _⟩
    · cases hk
    · rw [hxc hz]; exact h.tmc j b z hz
  · rcases key hz with ⟨hk, _⟩ | ⟨hz, _, _⟩
    · cases hk
    · rw [setL_ne _ _ (hgb hz)]; exact h.blk L' ty n' hz
  · have hLne := keyc hz
    rcases key hz with ⟨hk, _⟩ | ⟨hz, _, _⟩
    · cases hk
    · obtain ⟨ty', n', hb'⟩ := h.own L' o z hz
      rw [setL_ne _ _ (hgb hb'), hx hz]; exact h.cell L' o z hz
  · have hLne := keyc hz
    rcases key hz with ⟨hk, _⟩ | ⟨hz, _, _⟩
    · cases hk
    · obtain ⟨ty', n', hb'⟩ := h.own L' o z hz
      exact ⟨ty', n', keyb hLne hb'⟩
  · rcases key h1 with ⟨hk, _⟩ | ⟨h1, _, _⟩
    · cases hk
    rcases key h2 with ⟨hk, _⟩ | ⟨h2, _, _⟩
    · cases hk
    rw [setL_ne _ _ (hgb h1), setL_ne _ _ (hgb h2)] at he
    exact h.inj L1 L2 ty n1 ty' n2 h1 h2 he
  · rcases key hz with ⟨hk, hv⟩ | ⟨hz, _, _⟩
    · cases hk; cases hv
      rw [mL, setL_self]; exact hvec
    · obtain ⟨e1, e2⟩ := hgr hz
      rw [setL_ne _ _ e1, setL_ne _ _ e2]; exact h.vec L1 own C1 ty k cs1 hz
  · rcases key h2 with ⟨hk, _⟩ | ⟨h2, _, hbne⟩
    · cases hk
    rcases key h1 with ⟨hk, hv⟩ | ⟨h1, _, _⟩
    · cases hk; cases hv
      rw [mL, setL_ne _ _ (hgb h2)]
      exact fun e => hbne (by rw [h.inj L L' ety (n * kk) ty' n' hb h2 e])
    · obtain ⟨e1, e2⟩ := hgr h1
      rw [setL_ne _ _ e2] at hc1
      rw [setL_ne _ _ e1, setL_ne _ _ (hgb h2)]
      exact h.sep L1 own C1 ty k cs1 L' ty' n' h1 h2 hc1
  · rcases key h1 with ⟨hk, hv⟩ | ⟨h1, hn1, _⟩
    · cases hk; cases hv
      rcases key h2 with ⟨hk, hv⟩ | ⟨h2, _, _⟩
      · cases hk; exact absurd rfl hne1
      · obtain ⟨e1, e2⟩ := hgr h2
        rw [setL_ne _ _ e2] at hc'
        rw [mL, setL_ne _ _ e1]
        exact (h.sep L' own' C' ty' k' cs' L ety (n * kk) h2 hb hc').symm
    · obtain ⟨e1, e2⟩ := hgr h1
      rw [setL_ne _ _ e2] at hc1
      rw [setL_ne _ _ e1]
      rcases key h2 with ⟨hk, hv⟩ | ⟨h2, _, _⟩
      · cases hk; cases hv
        rw [mL]
        exact h.sep L1 true C1 ty k cs1 L ety (n * kk) h1 hb hc1
      · obtain ⟨e3, e4⟩ := hgr h2
        rw [setL_ne _ _ e4] at hc'
        rw [setL_ne _ _ e3]
        exact h.sepR L1 C1 ty k cs1 L' own' C' ty' k' cs' h1 h2 hne1 hc1 hc'
  · rcases key hz with ⟨hk, hv⟩ | ⟨hz, _, _⟩
    · cases hk; cases hv
      rw [mL]; exact hmine
    · obtain ⟨e1, e2⟩ := hgr hz
      rw [setL_ne _ _ e2] at hc1
      rw [setL_ne _ _ e1]
      exact h.ownR L1 C1 ty k cs1 hz hc1
  · obtain ⟨h1, ty1, n1, h2⟩ := h.fix L1 b hb1
    exact ⟨by rw [setL_ne _ _ (hgb h2)]; exact h1, ty1, n1, keyb (hbor _ hb1) h2⟩
  · rcases key hz with ⟨hk, _⟩ | ⟨hz, _, _⟩
    · cases hk
    · rw [hx hz]; exact h.us l i z hz
theorem Rel.toRowK {s : St} {k0 : Key} {L C n kk : Nat} {ety : TypeId} {cs : List Value} (h : Rel cx m (get s) a w) (hk : (match k0 with | .r _ => false | .b _ => false | .c L' _ => !Nat.beq L' L | _ => true) = true) (ht : get s k0 = some (.x (.s L 0 n n))) (hb : get s (.b L) = some (.sh ety (n * kk)))
    (hlen : cs.length = n * kk) (hn : n ≠ 0) (hc : CellsAre (get s) L 0 (cs.map SV.v)) (hC : mentionsIn C s = false) (hne : L ≠ C) (hbor : (cx.bor.all fun q => !Nat.beq q.1 L) = true) :
    ∃ m', Rel cx m' (get ((k0, some (.x (.o L C n))) :: ((.r L, some (.vec true C ety kk cs)) :: (.b L, none) :: noCells L 0 (n * kk)) ++ s)) a w := by
  have h1 := h.toRow hb hlen hn hc (get_mentions hC) hne (fun q hq e => by
    have := List.all_eq_true.1 hbor q hq
    rw [e] at this; simp at this)
  have h2 : upd ((.r L, some (.vec true C ety kk cs)) :: (.b L, none) :: noCells L 0 (n * kk)) (get s) k0 = some (.x (.s L 0 n n)) := by
    simp only [upd]
    rw [Key.eqb_false (fun e => by subst e; cases hk), Key.eqb_false (fun e => by subst e; cases hk), cond_false, cond_false, upd_noCells]
    cases k0 with
    | c L' o =>
      simp only [Bool.not_eq_true'] at hk
      have : L' ≠ L := fun e => by subst e; simp at hk
      simp only []
      rw [if_neg (fun q => this q.1)]; exact ht
    | _ => exact ht
  have h3 := h1.rex (x := .o L C n) h2 (by simp only [den]; rw [setL_self, setL_ne _ _ hne, ptr0_ne hn])
  refine ⟨_, h3.congr fun k => ?_⟩
  simp only [List.cons_append, get, upd, upd_append]
theorem aw_toRow {s : St} {c : Code} {Q : Exit → Act → World → Prop} (k0 : Key) (L C n kk : Nat) {ety : TypeId} (cs : List Value) (hk : (match k0 with | .r _ => false | .b _ => false | .c L' _ => !Nat.beq L' L | _ => true) = true) (ht : get s k0 = some (.x (.s L 0 n n))) (hb : get s (.b L) = some (.sh ety (n * kk)))
    (hlen : cs.length = n * kk) (hn : n ≠ 0) (hc : CellsAre (get s) L 0 (cs.map SV.v)) (hC : mentionsIn C s = false) (hne : L ≠ C) (hbor : (cx.bor.all fun q => !Nat.beq q.1 L) = true)
    (h : AW cx c ((k0, some (.x (.o L C n))) :: ((.r L, some (.vec true C ety kk cs)) :: (.b L, none) :: noCells L 0 (n * kk)) ++ s) Q) : AW cx c s Q := fun m a w hr => by
  obtain ⟨m', h'⟩ := hr.toRowK hk ht hb hlen hn hc hC hne hbor
  exact h m' a w h'
theorem fin_toRow {s : St} {e : Exit} {Q : Exit → Act → World → Prop} (k0 : Key) (L C n kk : Nat) {ety : TypeId} (cs : List Value) (hk : (match k0 with | .r _ => false | .b _ => false | .c L' _ => !Nat.beq L' L | _ => true) = true) (ht : get s k0 = some (.x (.s L 0 n n))) (hb : get s (.b L) = some (.sh ety (n * kk)))
    (hlen : cs.length = n * kk) (hn : n ≠ 0) (hc : CellsAre (get s) L 0 (cs.map SV.v)) (hC : mentionsIn C s = false) (hne : L ≠ C) (hbor : (cx.bor.all fun q => !Nat.beq q.1 L) = true)
    (h : Fin cx ((k0, some (.x (.o L C n))) :: ((.r L, some (.vec true C ety kk cs)) :: (.b L, none) :: noCells L 0 (n * kk)) ++ s) Q e) : Fin cx s Q e := fun m a w hr => by
  obtain ⟨m', h'⟩ := hr.toRowK hk ht hb hlen hn hc hC hne hbor
  exact h m' a w h'
end
end Go.AX
/-
  The core, seventeenth part: several boxes lent at once.
-/
namespace Go.AX
open Go Go.RowKit
structure LentL (w w' : World) (bs : List (Nat × TypeId × List Value)) : Prop where
  os : w'.os = w.os
  tape : w'.tape = w.tape
  output : w'.output = w.output
  size : w.heap.size ≤ w'.heap.size
  block : ∀ k, k < w.heap.size → (∀ q ∈ bs, q.1 ≠ k) → w'.heap[k]? = w.heap[k]?
  it : ∀ q ∈ bs, w'.heap[q.1]? = some (.cells q.2.2.toArray q.2.1 (0, 0))
theorem Lent.toL {w w' : World} {b : Nat} {ty : TypeId} {vs : List Value} (h : Lent w w' b ty vs) : LentL w w' [(b, ty, vs)] :=
  ⟨h.os, h.tape, h.output, h.size, fun k h1 h2 => h.block k h1 fun e => h2 (b, ty, vs) (by simp) e.symm, fun q hq => by
    simp only [List.mem_singleton] at hq; subst hq; exact h.it⟩
theorem LentL.more {w w' : World} {bs : List (Nat × TypeId × List Value)} (h : LentL w w' bs) {b : Nat} {ty : TypeId} {vs : List Value} (hb : w.heap[b]? = some (.cells vs.toArray ty (0, 0))) (hne : ∀ q ∈ bs, q.1 ≠ b) : LentL w w' ((b, ty, vs) :: bs) :=
  ⟨h.os, h.tape, h.output, h.size, fun k h1 h2 => h.block k h1 fun q hq => h2 q (by simp [hq]), fun q hq => by
    rcases List.mem_cons.1 hq with e | hq
    · subst e; rw [h.block b (Array.getElem?_eq_some_iff.1 hb).1 hne]; exact hb
    · exact h.it q hq⟩
abbrev Loan2 := Nat × Nat × TypeId × List Value
def lendSt2 : List Loan2 → St
  | [] => []
  | (L, _, ty, vs) :: r => boxUp L ty vs ++ lendSt2 r
def loans2 : List Loan2 → List (Nat × Nat)
  | [] => []
  | (L, b, _, _) :: r => (L, b) :: loans2 r
def Lend2 (w : World) : List Loan2 → Prop
  | [] => True
  | (_, b, ty, vs) :: r => w.heap[b]? = some (.cells vs.toArray ty (0, 0)) ∧ (∀ q ∈ loans2 r, q.2 ≠ b) ∧ Lend2 w r
def lendOK2 (args : List SV) : List Loan2 → Bool
  | [] => true
  | (L, _, _, _) :: r => !mentionsIn L (lendSt2 r ++ argSt 0 args) && lendOK2 args r
theorem lendSt2_b : ∀ {bs : List Loan2} {args : List SV} {l : Nat} {v : Val}, get (lendSt2 bs ++ argSt 0 args) (.b l) = some v → ∃ b, (l, b) ∈ loans2 bs := by
  intro bs
  induction bs with
  | nil =>
    intro args l v h
    obtain ⟨j, u, hk, _⟩ := argSt_get _ _ _ _ h
    cases hk
  | cons x r ih =>
    obtain ⟨L, b, ty, vs⟩ := x
    intro args l v h
    by_cases e : l = L
    · exact ⟨b, by simp [loans2, e]⟩
    · simp only [lendSt2, boxUp, List.cons_append, get, upd] at h
      rw [Key.eqb_false (by simp; exact fun h => e h.symm), List.append_assoc, upd_append] at h
      simp only [cond_false] at h
      rw [upd_cellsUp] at h
      obtain ⟨b', hb'⟩ := ih h
      exact ⟨b', by simp [loans2, hb']⟩
theorem lendSt2_r : ∀ {bs : List Loan2} {args : List SV} {l : Nat}, get (lendSt2 bs ++ argSt 0 args) (.r l) = none := by
  intro bs
  induction bs with
  | nil =>
    intro args l
    cases h : get (lendSt2 [] ++ argSt 0 args) (.r l) with
    | none => rfl
    | some v =>
      obtain ⟨j, u, hk, _⟩ := argSt_get _ _ _ _ h
      cases hk
  | cons x r ih =>
    obtain ⟨L, b, ty, vs⟩ := x
    intro args l
    simp only [lendSt2, boxUp, List.cons_append, get, upd]
    rw [Key.eqb_false (by simp), List.append_assoc, upd_append]
    simp only [cond_false]
    rw [upd_cellsUp]
    exact ih
theorem rel_lend2 {P : Program} {r : Option Nat} {N : Nat} {args : List SV} {w : World} (hn : args.length ≤ N) : ∀ (bs : List Loan2), Lend2 w bs → lendOK2 args bs = true →
    ∃ m, Rel ⟨P, r, w.heap.size, w, N, false, loans2 bs, noS, []⟩ m (get (lendSt2 bs ++ argSt 0 args)) { tmps := (denL (fun _ => 0) args).toArray ++ Array.replicate (N - (denL (fun _ => 0) args).toArray.size) undef, defers := [] } w := by
  intro bs
  induction bs with
  | nil => intro _ _; exact ⟨_, rel_start args w hn⟩
  | cons x rs ih =>
    obtain ⟨L, b, ty, vs⟩ := x
    intro hl hok
    obtain ⟨h1, h3, h4⟩ := hl
    simp only [lendOK2, Bool.and_eq_true, Bool.not_eq_true'] at hok
    obtain ⟨m, hrel⟩ := ih h4 hok.2
    have hA := hrel.lend (L := L) (get_mentions hok.1) h1 (fun l ty n hl => by
      obtain ⟨b', hb'⟩ := lendSt2_b hl
      rw [(hrel.fix l b' hb').1]
      exact h3 _ hb') (fun l => lendSt2_r)
    refine ⟨_, hA.congr fun k => ?_⟩
    simp only [lendSt2, boxUp, List.cons_append, get, upd, List.append_assoc, upd_append]
theorem enterG {P : Program} {f : Nat} {fn : Func} {c : Code} {args : List SV} {w : World} {R : Ending → World → Prop} (hf : P.funcs[f]? = some fn) (hb : fn.body = some c) {N : Nat} (hN : fn.ntmps = N) (hn : args.length ≤ N) (bs : List Loan2)
    (hl : Lend2 w bs) (hok : lendOK2 args bs = true) (h : AW ⟨P, none, w.heap.size, w, N, false, loans2 bs, noS, []⟩ c (lendSt2 bs ++ argSt 0 args) (bodyPost P fn R)) : Calls P f (denL (fun _ => 0) args).toArray w R := by
  refine (callsIn_wide (n := 0)).1 ?_
  refine callsIn_of_wp hf hb trivial ?_
  subst hN
  obtain ⟨m, hrel⟩ := rel_lend2 (P := P) (r := none) hn bs hl hok
  exact h _ _ _ hrel
def EndOK (g : Map) : List Loan2 → Prop
  | [] => True
  | (L, _, ty, vs) :: r => g (.b L) = some (.sh ty vs.length) ∧ CellsAre g L 0 (vs.map SV.v) ∧ EndOK g r
section
variable {cx : Cx} {s g : Map} {m : Nat → Nat} {a : Act} {w : World}
theorem lentL_end {S : Nat → Array Value} {K : List (Nat × Obj)} {P : Program} {r : Option Nat} {N : Nat} {w0 : World} {ds : Bool} {bor : List (Nat × Nat)} (h : Rel ⟨P, r, w0.heap.size, w0, N, ds, bor, S, K⟩ m g a w) (bs : List Loan2) (hbor : loans2 bs = bor) (he : EndOK g bs) :
    LentL w0 w (bs.map fun q => (q.2.1, q.2.2.1, q.2.2.2)) := by
  have hit : ∀ (bs' : List Loan2), (∀ q ∈ loans2 bs', q ∈ bor) → EndOK g bs' → ∀ q ∈ bs'.map (fun q => (q.2.1, q.2.2.1, q.2.2.2)), w.heap[q.1]? = some (.cells q.2.2.toArray q.2.1 (0, 0)) := by
    intro bs'
    induction bs' with
    | nil => intro _ _ q hq; simp at hq
    | cons x r ih =>
      obtain ⟨L, b, ty, vs⟩ := x
      intro h1 h2 q hq
      obtain ⟨e1, e2, e3⟩ := h2
      simp only [List.map_cons, List.mem_cons] at hq
      rcases hq with e | hq
      · subst e
        have hm := (h.fix L b (h1 (L, b) (by simp [loans2]))).1
        simp only []
        rw [← hm]
        exact cells_all h e1 rfl e2
      · exact ih (fun q hq => h1 q (by simp [loans2, hq])) e3 q hq
  have hmem : ∀ (bs' : List Loan2) (L b : Nat), (L, b) ∈ loans2 bs' → ∃ q ∈ bs'.map (fun q => (q.2.1, q.2.2.1, q.2.2.2)), q.1 = b := by
    intro bs'
    induction bs' with
    | nil => intro L b hb; simp [loans2] at hb
    | cons x r ih =>
      obtain ⟨L, b, ty, vs⟩ := x
      intro L' b' hb
      simp only [loans2, List.mem_cons, Prod.mk.injEq] at hb
      rcases hb with ⟨_, rfl⟩ | hb
      · exact ⟨_, by simp only [List.map_cons, List.mem_cons]; exact .inl rfl, rfl⟩
      · obtain ⟨q, hq, e⟩ := ih L' b' hb
        exact ⟨q, by simp only [List.map_cons, List.mem_cons]; exact .inr hq, e⟩
  refine ⟨h.held.os, h.held.tape, h.held.output, h.held.size, fun k h1 h2 => h.held.block k h1 fun ⟨l, hl⟩ => ?_, hit bs (fun q hq => by rw [← hbor]; exact hq) he⟩
  simp only [] at hl
  rw [← hbor] at hl
  obtain ⟨q, hq, e⟩ := hmem bs l k hl
  exact h2 q hq e
theorem SlIs.kept {α : Type} {enc : α → List Value} {k : Nat} {x : SlV} {l : List α} (h : SlIs enc k cx.w0 x l) (hrel : Rel cx m g a w) (nb : l ≠ [] → ∀ ad, x.p = some ad → ¬ cx.lent ad.block) (hB : cx.w0.heap.size ≤ cx.B := by exact Nat.le_refl _) : SlIs enc k w x l := by
  refine ⟨h.1, h.2.1, fun hl => ?_⟩
  obtain ⟨b, o, h1, h2, h3⟩ := h.2.2 hl
  have h4 := nb hl _ h1
  refine ⟨b, o, h1, Nat.lt_of_lt_of_le h2 hrel.held.size, fun i y hy j v hv => ?_⟩
  rw [hrel.held.cell (p := ⟨b, o + i * k + j, none⟩) (Nat.lt_of_lt_of_le h2 hB) h4]
  exact h3 i y hy j v hv
theorem BoxAt.kept {b : Nat} {vs : List Value} (h : BoxAt cx.w0 b vs) (hrel : Rel cx m g a w) (nb : ¬ cx.lent b) (hB : cx.w0.heap.size ≤ cx.B := by exact Nat.le_refl _) : BoxAt w b vs :=
  ⟨Nat.lt_of_lt_of_le h.1 hrel.held.size, fun j v hv => by rw [hrel.held.cell (p := ⟨b, j, none⟩) (Nat.lt_of_lt_of_le h.1 hB) nb]; exact h.2 j v hv⟩
theorem Rel.lentStepS {L n : Nat} {ty : TypeId} {ys : List SV} {w' : World} (h : Rel cx m g a w) (hb : g (.b L) = some (.sh ty n)) (hn : ys.length = n) (hl : Lent w w' (m L) ty (denL m ys)) : Rel cx m (upd (cellsUp L 0 ys) g) a w' := by
  obtain ⟨hmine, cs0, hs0, hh0⟩ := h.blk L ty n hb
  have key : ∀ k, upd (cellsUp L 0 ys) g k = match k with
      | .c L' o => if L' = L ∧ o < ys.length then (ys[o]?).map Val.x else g k
      | _ => g k := by
    intro k
    rw [upd_cellsUp]
    cases k <;> simp
  have hblk : ∀ {L' ty' n'}, g (.b L') = some (.sh ty' n') → L' ≠ L → w'.heap[m L']? = w.heap[m L']? := fun {L' ty' n'} hk hne => by
    obtain ⟨_, cs', _, h3⟩ := h.blk L' ty' n' hk
    exact hl.block _ (Array.getElem?_eq_some_iff.1 h3).1 fun e => hne (h.inj L' L ty' n' ty n hk hb e)
  refine ⟨h.size, h.defers.step (fun k o h1 h2 => (hl.block k (Array.getElem?_eq_some_iff.1 h1).1 fun e => by subst e; rw [hh0] at h1; cases h1; simp [Obj.isCells] at h2).trans h1), fun i y hy => ?_, fun i c y hy => ?_, fun L' ty' n' hL' => ?_, fun L' o' y hy => ?_, fun L' o' y hy => ?_, fun L1 L2 ty1 n1 ty2 n2 h1 h2 he => ?_, fun L1 own C ty1 k cs1 hx => ?_, fun L1 own C ty1 k cs1 L' ty' n' hx hy hc => ?_,
    fun L1 C ty1 k cs1 L' own' C' ty' k' cs' hx hy hne hc hc' => ?_, fun L1 C ty1 k cs1 hx hc => ?_, h.held.step hl.os hl.tape hl.output hl.size fun k h1 h2 => hl.block k (Nat.lt_of_lt_of_le h1 h.top) fun e => ?_, Nat.le_trans h.top hl.size, fun L1 b1 hb1 => ?_, fun l i y hy => by rw [key] at hy; exact h.us l i y hy, fun k o hk => by
    obtain ⟨h1, h2⟩ := h.ko k o hk
    refine ⟨(hl.block k (Array.getElem?_eq_some_iff.1 h1).1 fun e => ?_).trans h1, h2⟩
    subst e; rw [hh0] at h1; cases h1; simp [Obj.isCells] at h2⟩
  · rw [key] at hy; exact h.tm i y hy
  · rw [key] at hy; exact h.tmc i c y hy
  · rw [key] at hL'
    by_cases e : L' = L
    · subst e
      rw [hb] at hL'
      cases hL'
      exact ⟨hmine, (denL m ys).toArray, by simpa [denL_length] using hn, hl.it⟩
    · obtain ⟨h1, cs', h2, h3⟩ := h.blk L' ty' n' hL'
      exact ⟨h1, cs', h2, by rw [hblk hL' e]; exact h3⟩
  · rw [key] at hy
    by_cases e : L' = L ∧ o' < ys.length
    · obtain ⟨rfl, ho⟩ := e
      simp only [ho, and_self, if_true, List.getElem?_eq_getElem ho, Option.map_some, Option.some.injEq, Val.x.injEq] at hy
      subst hy
      simp only [World.cell?, hl.it]
      have := denL_get m ys o'
      rw [List.getElem?_eq_getElem ho] at this
      simpa using this
    · simp only [e, if_false] at hy
      obtain ⟨ty', n', hL'⟩ := h.own L' o' y hy
      by_cases e1 : L' = L
      · subst e1
        exfalso
        have hcell := h.cell L' o' y hy
        simp only [World.cell?, hh0] at hcell
        have : o' < cs0.size := by
          rcases Nat.lt_or_ge o' cs0.size with h4 | h4
          · exact h4
          · simp [h4] at hcell
        exact e ⟨rfl, by omega⟩
      · have := h.cell L' o' y hy
        simp only [World.cell?] at this ⊢
        rw [hblk hL' e1]; exact this
  · rw [key] at hy
    by_cases e : L' = L ∧ o' < ys.length
    · exact ⟨ty, n, by rw [key, e.1]; exact hb⟩
    · simp only [e, if_false] at hy
      obtain ⟨ty', n', hL'⟩ := h.own L' o' y hy
      exact ⟨ty', n', by rw [key]; exact hL'⟩
  · rw [key] at h1 h2; exact h.inj L1 L2 ty1 n1 ty2 n2 h1 h2 he
  · rw [key] at hx
    have := h.vec L1 own C ty1 k cs1 hx
    exact this.same fun hc => hl.block _ (this.lt hc) fun e => h.sep L1 own C ty1 k cs1 L ty n hx hb hc e
  · rw [key] at hx hy; exact h.sep L1 own C ty1 k cs1 L' ty' n' hx hy hc
  · rw [key] at hx hy; exact h.sepR L1 C ty1 k cs1 L' own' C' ty' k' cs' hx hy hne hc hc'
  · rw [key] at hx; exact h.ownR L1 C ty1 k cs1 hx hc
  · subst e
    rcases hmine with hm | hm
    · omega
    · exact h2 hm
  · obtain ⟨h1, ty1, n1, h2⟩ := h.fix L1 b1 hb1
    exact ⟨h1, ty1, n1, by rw [key]; exact h2⟩
structure LB where
  L : Nat
  ty : TypeId
  ys : List SV
  zs : List SV
def lbUp : List LB → St
  | [] => []
  | q :: r => cellsUp q.L 0 q.zs ++ lbUp r
def lbOK (s : Map) : List LB → Prop
  | [] => True
  | q :: r => s (.b q.L) = some (.sh q.ty q.ys.length) ∧ CellsAre s q.L 0 q.ys ∧ q.zs.length = q.ys.length ∧ (∀ p ∈ r, p.L ≠ q.L) ∧ lbOK s r
def lbKeys : List LB → List Key
  | [] => []
  | q :: r => .b q.L :: (cqK q.L 0 q.ys.length ++ lbKeys r)
theorem cellsAre_same {s g : Map} {L : Nat} : ∀ {ys : List SV} {o : Nat}, (∀ j, j < ys.length → g (.c L (o + j)) = s (.c L (o + j))) → CellsAre s L o ys → CellsAre g L o ys := by
  intro ys
  induction ys with
  | nil => intro o _ _; trivial
  | cons y l ih =>
    intro o h1 h2
    refine ⟨by have := h1 0 (by simp); simp only [Nat.add_zero] at this; rw [this]; exact h2.1, ih (fun j hj => ?_) h2.2⟩
    have := h1 (j + 1) (by simp; omega)
    rw [show o + 1 + j = o + (j + 1) by omega]; exact this
theorem lbOK_same {s g : Map} : ∀ {ls : List LB}, (∀ k ∈ lbKeys ls, g k = s k) → lbOK s ls → lbOK g ls := by
  intro ls
  induction ls with
  | nil => intro _ _; trivial
  | cons q r ih =>
    intro h1 h2
    obtain ⟨e1, e2, e3, e4, e5⟩ := h2
    refine ⟨by rw [h1 _ (by simp [lbKeys])]; exact e1, cellsAre_same (fun j hj => h1 _ ?_) e2, e3, e4, ih (fun k hk => h1 k (by simp [lbKeys, hk])) e5⟩
    simp only [lbKeys, List.mem_cons, List.mem_append]
    exact .inr (.inl (mem_cellKeys hj))
theorem cells_allS {L n : Nat} {ty : TypeId} {ys : List SV} (h : Rel cx m g a w) (hb : g (.b L) = some (.sh ty n)) (hn : ys.length = n) (hc : CellsAre g L 0 ys) : w.heap[m L]? = some (.cells (denL m ys).toArray ty (0, 0)) := by
  obtain ⟨_, cs, hs, hh⟩ := h.blk L ty n hb
  have hbox := boxAtD h (fun _ _ => rfl) hb hc
  rw [hh]
  congr 2
  refine Array.ext (by simp [hs, denL_length, hn]) fun j h1 h2 => ?_
  have h3 := hbox.2 j (denL m ys)[j] (List.getElem?_eq_getElem (by simpa using h2))
  simp only [World.cell?, hh] at h3
  simp [h1] at h3
  simpa using h3
theorem lb_before (h : Rel cx m g a w) : ∀ {ls : List LB}, lbOK g ls → ∀ q ∈ ls, w.heap[m q.L]? = some (.cells (denL m q.ys).toArray q.ty (0, 0)) := by
  intro ls
  induction ls with
  | nil => intro _ q hq; simp at hq
  | cons p r ih =>
    intro h2 q hq
    obtain ⟨e1, e2, _, _, e5⟩ := h2
    rcases List.mem_cons.1 hq with rfl | hq
    · exact cells_allS h e1 rfl e2
    · exact ih e5 q hq
def World.setBlk (w : World) (b : Nat) (o : Obj) : World := { w with heap := w.heap.setIfInBounds b o }
theorem Rel.lentSteps : ∀ {ls : List LB} {g : Map} {w w' : World}, Rel cx m g a w → lbOK g ls → LentL w w' (ls.map fun q => (m q.L, q.ty, denL m q.zs)) → Rel cx m (upd (lbUp ls) g) a w' := by
  intro ls
  induction ls with
  | nil =>
    intro g w w' h _ hl
    have hb : Below w.heap.size w w' := ⟨hl.os, hl.tape, hl.output, hl.size, fun k hk => hl.block k hk (by simp)⟩
    exact h.world hb
  | cons q r ih =>
    intro g w w' h hok hl
    obtain ⟨e1, e2, e3, e4, e5⟩ := hok
    obtain ⟨_, cs0, hs0, hh0⟩ := h.blk q.L q.ty _ e1
    have hlt : m q.L < w.heap.size := (Array.getElem?_eq_some_iff.1 hh0).1
    have hit := hl.it (m q.L, q.ty, denL m q.zs) (by simp)
    simp only [] at hit
    let w1 : World := World.setBlk w (m q.L) (.cells (denL m q.zs).toArray q.ty (0, 0))
    have hsz : w1.heap.size = w.heap.size := by simp [w1, World.setBlk]
    have hget : ∀ k, k ≠ m q.L → w1.heap[k]? = w.heap[k]? := fun k hk => by
      simp only [w1, World.setBlk]
      rw [Array.getElem?_setIfInBounds, if_neg (Ne.symm hk)]
    have hself : w1.heap[m q.L]? = some (.cells (denL m q.zs).toArray q.ty (0, 0)) := by
      simp only [w1, World.setBlk]
      rw [Array.getElem?_setIfInBounds, if_pos rfl, if_pos hlt]
    have h1 : Lent w w1 (m q.L) q.ty (denL m q.zs) := ⟨rfl, rfl, rfl, by omega, fun k _ hk => hget k hk, hself⟩
    have h2 := h.lentStepS e1 e3 h1
    have hne : ∀ p ∈ r, m p.L ≠ m q.L := by
      have : ∀ (r' : List LB), (∀ p ∈ r', p.L ≠ q.L) → lbOK g r' → ∀ p ∈ r', m p.L ≠ m q.L := by
        intro r'
        induction r' with
        | nil => intro _ _ p hp; simp at hp
        | cons p' r' ih' =>
          intro h3 h4 p hp
          obtain ⟨f1, _, _, _, f5⟩ := h4
          rcases List.mem_cons.1 hp with rfl | hp
          · exact fun e => h3 p (by simp) (h.inj p.L q.L _ _ _ _ f1 e1 e)
          · exact ih' (fun p hp => h3 p (by simp [hp])) f5 p hp
      exact this r e4 e5
    have hok2 : lbOK (upd (cellsUp q.L 0 q.zs) g) r := by
      refine lbOK_same (fun k hk => ?_) e5
      rw [upd_cellsUp]
      have : ∀ (r' : List LB), (∀ p ∈ r', p.L ≠ q.L) → ∀ o, Key.c q.L o ∉ lbKeys r' := by
        intro r'
        induction r' with
        | nil => intro _ o hp; simp [lbKeys] at hp
        | cons p' r' ih' =>
          intro h3 o hp
          simp only [lbKeys, List.mem_cons, List.mem_append] at hp
          rcases hp with hp | hp | hp
          · cases hp
          · have hck : ∀ (n i : Nat), Key.c q.L o ∈ cqK p'.L i n → p'.L = q.L := by
              intro n
              induction n with
              | zero => intro i h; simp [cqK] at h
              | succ n ihn =>
                intro i h
                simp only [cqK, List.mem_cons] at h
                rcases h with h | h
                · simp only [Key.c.injEq] at h; exact h.1.symm
                · exact ihn _ h
            exact h3 p' (by simp) (hck _ _ hp)
          · exact ih' (fun p hp => h3 p (by simp [hp])) o hp
      cases k with
      | c l o =>
        by_cases e : l = q.L
        · subst e; exact absurd hk (this r e4 o)
        · simp [e]
      | _ => rfl
    refine (ih (w := w1) (w' := w') h2 hok2 ⟨hl.os, hl.tape, hl.output, by rw [hsz]; exact hl.size, fun k hk hn => ?_, fun p hp => hl.it p (by simp only [List.map_cons, List.mem_cons]; exact .inr hp)⟩).congr fun k => ?_
    · by_cases e : k = m q.L
      · subst e; rw [hself]; exact hit
      · rw [hget k e]
        refine hl.block k (by omega) fun p hp => ?_
        simp only [List.map_cons, List.mem_cons] at hp
        rcases hp with rfl | hp
        · exact fun e' => e e'.symm
        · exact hn p hp
    · -- the order in which the cells are written does not matter
      simp only [lbUp, upd_append]
      have hdis : ∀ (r' : List LB) (k : Key), (∀ p ∈ r', p.L ≠ q.L) → upd (lbUp r') (upd (cellsUp q.L 0 q.zs) g) k = upd (cellsUp q.L 0 q.zs) (upd (lbUp r') g) k := by
        intro r'
        induction r' with
        | nil => intro k _; rfl
        | cons p' r' ih' =>
          intro k h3
          have hih := ih' k (fun p hp => h3 p (by simp [hp]))
          have hp' := h3 p' (by simp)
          simp only [lbUp, upd_append]
          rw [upd_cellsUp, upd_cellsUp, upd_cellsUp]
          rw [upd_cellsUp] at hih
          cases k with
          | c l o =>
            simp only [] at hih ⊢
            by_cases e : l = p'.L
            · subst e
              simp only [true_and, hp', false_and, if_false] at hih ⊢
              rw [hih]
            · simp only [e, false_and, if_false]
              exact hih
          | _ => exact hih
      exact hdis r k e4
theorem lb_ne {L : Nat} {r : List LB} (h : (r.all fun p => !Nat.beq p.L L) = true) : ∀ p ∈ r, p.L ≠ L := fun p hp e => by
  have := List.all_eq_true.1 h p hp
  rw [e] at this
  simp at this
theorem lent_cons {S : Nat → Array Value} {K : List (Nat × Obj)} {P : Program} {r : Option Nat} {B N : Nat} {w0 : World} {ds : Bool} {L b b0 : Nat} {bor : List (Nat × Nat)} (h : b ≠ b0) (h2 : ¬ Cx.lent ⟨P, r, B, w0, N, ds, bor, S, K⟩ b) : ¬ Cx.lent ⟨P, r, B, w0, N, ds, (L, b0) :: bor, S, K⟩ b := fun ⟨l, hl⟩ => by
  rcases List.mem_cons.1 hl with e | hl
  · simp only [Prod.mk.injEq] at e; exact h e.2
  · exact h2 ⟨l, hl⟩
theorem boxAt_heap {b : Nat} {ty : TypeId} {vs : List Value} (h : w.heap[b]? = some (.cells vs.toArray ty (0, 0))) : BoxAt w b vs :=
  ⟨(Array.getElem?_eq_some_iff.1 h).1, fun j v hj => by simp only [World.cell?, h]; simp [hj]⟩
theorem aw_swp {cx : Cx} {s : St} {c : Code} {Q : Exit → Act → World → Prop} (l : List (Nat × Nat)) (hl : (swpOK l && cx.bor.all fun q => Nat.beq (swp l q.1) q.1) = true) (h : AW cx c (renS (swp l) s) Q) : AW cx c s Q := fun m a w hr => by
  simp only [Bool.and_eq_true] at hl
  exact h _ a w (hr.ren (swp_swp hl.1) (fun L b hb => Nat.eq_of_beq_eq_true (List.all_eq_true.1 hl.2 _ hb)))
variable {d : Nat} {type : TypeId} {pos : String} {after : Array Edge} {guard : Option (Nat × Bool)}
theorem op_callLentL {fo : Operand} {fv : SV} {k : Nat} {ls : List LB} {fs caps xs : List SV} {x : SV} {args : Array Operand} {ts : Array TypeId} {extra : List Key}
    (hN : d < cx.N) (hen : Proofs.Enters cx.P k) (hf : Ev s fo fv) (hk : calleeOf k fs caps fv) (hx : EvL s args.toList xs) (hls : lbOK s ls)
    (hc : ∀ (m : Nat → Nat) (a : Act) (w : World) (g : Map), (∀ k ∈ extra, g k = s k) → Rel cx m g a w → (∀ q ∈ ls, w.heap[m q.L]? = some (.cells (denL m q.ys).toArray q.ty (0, 0))) → lbOK g ls →
      Calls cx.P k (denL m (fs ++ (xs ++ caps))).toArray w fun e w' => e = .returned (den m x) ∧ LentL w w' (ls.map fun q => (m q.L, q.ty, denL m q.zs))) :
    OpRun cx ⟨some d, .call ⟨.value fo, args, ts⟩, type, pos, after, guard⟩ s ⟨okeys fo ++ okeysL args.toList ++ (lbKeys ls ++ extra), (.t d, some (.x x)) :: lbUp ls, []⟩ :=
  op_callG hen hf hk hx fun m a w g hr _ hrel => by
    have hls' := lbOK_same (fun k hk => hr k (by simp [hk])) hls
    have h1 := hc m a w g (fun k hk => hr k (by simp [hk])) hrel (lb_before hrel hls') hls'
    refine h1.mono fun e w' ⟨he, hl⟩ => ?_
    exact ⟨_, m, he, ((hrel.lentSteps hls' hl).put hN rfl).congr (fun q => (upd_cons _ q).symm)⟩
end
end Go.AX
/-
  Mirrors, verified: what must hold for a mirror to give a value of which something is so.
-/
namespace Go.AX
def Ok {α : Type} (post : α → Prop) (o : Option α) : Prop := ∃ r, o = some r ∧ post r
section
variable {α β ι σ R : Type} {post : α → Prop}
theorem ok_some {r : α} (h : post r) : Ok post (some r) := ⟨r, rfl, h⟩
theorem ok_chk {p : Prop} [Decidable p] {x : Option α} (h : p) (hx : Ok post x) : Ok post (chk p x) := by rw [chk_pos h]; exact hx
theorem ok_brk {c : Bool} {x y : Option α} (ht : c = true → Ok post x) (hf : c = false → Ok post y) : Ok post (brk c x y) := by
  cases c with
  | true => exact ht rfl
  | false => exact hf rfl
theorem ok_bnd {x : Option β} {f : β → Option α} (q : β → Prop) (hx : Ok q x) (hf : ∀ b, q b → Ok post (f b)) : Ok post (bnd x f) := by
  obtain ⟨b, rfl, hb⟩ := hx
  exact hf b hb
theorem ok_bnde {x : Option β} {f : β → Option α} {b : β} (hx : x = some b) (hf : Ok post (f b)) : Ok post (bnd x f) := by subst hx; exact hf
theorem ok_join {K : ι → Option α} {body : (ι → Option α) → Option α} (J : ι → Prop) (hK : ∀ i, J i → Ok post (K i)) (hb : ∀ k : ι → Option α, (∀ i, J i → Ok post (k i)) → Ok post (body k)) : Ok post (join K body) := hb K hK
theorem ok_loop {body : σ → (σ → Option α) → Option α} (I : σ → Prop) (μ : σ → Nat) {n : Nat} {x0 : σ} (h0 : I x0) (hn : μ x0 < n)
    (h : ∀ x (next : σ → Option α), I x → (∀ y, I y → μ y < μ x → Ok post (next y)) → Ok post (body x next)) : Ok post (lpC body n x0) := by
  induction n generalizing x0 with
  | zero => omega
  | succ n ih => exact h x0 _ h0 fun y hy hlt => ih hy (by omega)
theorem Ok.mono {post' : α → Prop} {o : Option α} (h : Ok post o) (hp : ∀ r, post r → post' r) : Ok post' o := by obtain ⟨r, h1, h2⟩ := h; exact ⟨r, h1, hp r h2⟩
theorem Ok.eq {o : Option α} {r : α} (h : Ok (fun x => x = r) o) : o = some r := by obtain ⟨r, h1, rfl⟩ := h; exact h1
end
end Go.AX
