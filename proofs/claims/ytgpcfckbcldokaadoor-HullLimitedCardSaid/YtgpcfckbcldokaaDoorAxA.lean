/-
  The core: a symbolic state of one activation (its temporaries and the boxes it has laid, by labels), and the theorem that a region of operations
  comes to the same symbolic state in whatever order its edges allow.
-/
import Derived.OrdersIn
import Derived.Below
namespace Go.AX
open Go Go.RowKit

theorem beq_ne {a b : Nat} (h : a ≠ b) : Nat.beq a b = false := by
  cases e : Nat.beq a b with
  | false => rfl
  | true => exact absurd (Nat.eq_of_beq_eq_true e) h

/-- A value of the model in which the activation's own blocks are named by labels. -/
inductive SV where
  | v (x : Value)
  | p (L off : Nat)
  | s (L off len cap : Nat)
  /-- a slice of n elements over the row L, of the capacity C names; nil where that is 0 -/
  | o (L C n : Nat)
  | f (fn : Fn) (fst cap : List SV)
  | g (cs : List SV)
  | t (cs : List SV)
  deriving Inhabited

mutual
def den (m : Nat → Nat) : SV → Value
  | .v x => x
  | .p L o => .pointer (some ⟨m L, o, none⟩)
  | .s L o n c => .slice (some ⟨m L, o, none⟩) n c
  | .o L C n => .slice (if m C = 0 then none else some ⟨m L, 0, none⟩) n (m C)
  | .f fn fs cs => .func fn (denL m fs).toArray (denL m cs).toArray
  | .g cs => .agg (denL m cs).toArray
  | .t cs => .tuple (denL m cs).toArray
def denL (m : Nat → Nat) : List SV → List Value
  | [] => []
  | x :: xs => den m x :: denL m xs
end

mutual
def SV.has (L : Nat) : SV → Bool
  | .v _ => false
  | .p L' _ => Nat.beq L' L
  | .s L' _ _ _ => Nat.beq L' L
  | .o L' C _ => Nat.beq L' L || Nat.beq C L
  | .f _ fs cs => hasL L fs || hasL L cs
  | .g cs => hasL L cs
  | .t cs => hasL L cs
def hasL (L : Nat) : List SV → Bool
  | [] => false
  | x :: xs => x.has L || hasL L xs
end

inductive Key where
  | t (i : Nat)
  | c (L o : Nat)
  | b (L : Nat)
  | r (L : Nat)
  deriving Inhabited, DecidableEq

def Key.eqb : Key → Key → Bool
  | .t i, .t j => Nat.beq i j
  | .c L o, .c L' o' => Nat.beq L L' && Nat.beq o o'
  | .b L, .b L' => Nat.beq L L'
  | .r L, .r L' => Nat.beq L L'
  | _, _ => false

theorem Key.eqb_iff {k k' : Key} : k.eqb k' = true ↔ k = k' := by
  cases k <;> cases k' <;> simp [Key.eqb]

theorem Key.eqb_self (k : Key) : k.eqb k = true := Key.eqb_iff.2 rfl
theorem Key.eqb_false {k k' : Key} (h : k ≠ k') : k.eqb k' = false := by
  cases e : k.eqb k' with
  | false => rfl
  | true => exact absurd (Key.eqb_iff.1 e) h

inductive Val where
  | x (s : SV)
  /-- the value if the Boolean is true; else nothing has been written -/
  | xc (b : Bool) (s : SV)
  | sh (ty n : Nat)
  /-- a row that begins with these cells; of the capacity that C names, k cells an element; written by none but this activation if own -/
  | vec (own : Bool) (C ty k : Nat) (cs : List Value)
  deriving Inhabited

abbrev St := List (Key × Option Val)
abbrev Map := Key → Option Val

def upd : St → Map → Map
  | [], g, k => g k
  | (k', v) :: r, g, k => bif k'.eqb k then v else upd r g k

def get (s : St) : Map := upd s (fun _ => none)

theorem upd_append (u s : St) (g : Map) : upd (u ++ s) g = upd u (upd s g) := by
  funext k
  induction u with
  | nil => rfl
  | cons x r ih => simp only [List.cons_append, upd, ih]

theorem get_append (u s : St) : get (u ++ s) = upd u (get s) := upd_append u s _

def touches (k : Key) : St → Bool
  | [] => false
  | (k', _) :: r => k'.eqb k || touches k r

theorem upd_of_touches {u : St} {k : Key} (h : touches k u = false) (g : Map) : upd u g k = g k := by
  induction u with
  | nil => rfl
  | cons x r ih =>
    simp only [touches, Bool.or_eq_false_iff] at h
    simp only [upd, h.1, cond_false]
    exact ih h.2

theorem upd_congr {u : St} {k : Key} (h : touches k u = true) (g g' : Map) : upd u g k = upd u g' k := by
  induction u with
  | nil => simp [touches] at h
  | cons x r ih =>
    simp only [touches] at h
    simp only [upd]
    cases e : x.1.eqb k with
    | true => rfl
    | false => rw [e, Bool.false_or] at h; simp only [cond_false]; exact ih h

/-- Does the entry (k, v) speak of the label L? -/
def mentions (L : Nat) (k : Key) (v : Option Val) : Bool :=
  match v with
  | none => false
  | some (.x s) => s.has L || (match k with | .c L' _ => Nat.beq L' L | _ => false)
  | some (.xc _ s) => s.has L || (match k with | .c L' _ => Nat.beq L' L | _ => false)
  | some (.sh _ _) => (match k with | .b L' => Nat.beq L' L | _ => true)
  | some (.vec _ C _ _ _) => Nat.beq C L || (match k with | .r L' => Nat.beq L' L | _ => true)

def mentionsIn (L : Nat) : St → Bool
  | [] => false
  | (k, v) :: r => mentions L k v || mentionsIn L r

theorem mentions_upd {L : Nat} {u : St} (h : mentionsIn L u = false) {g : Map} {k : Key} (hg : mentions L k (g k) = false) : mentions L k (upd u g k) = false := by
  induction u with
  | nil => exact hg
  | cons x r ih =>
    simp only [mentionsIn, Bool.or_eq_false_iff] at h
    simp only [upd]
    cases e : x.1.eqb k with
    | true => rw [← Key.eqb_iff.1 e]; exact h.1
    | false => exact ih h.2

structure Row where
  rd : List Key
  up : St
  nw : List Nat
  deriving Inhabited

def Row.reads (row : Row) (k : Key) : Bool := row.rd.any (·.eqb k)

/-! ### The state that a set of rows has made -/

/-- The rows from number i on, those that D names, applied in the order of the text. -/
def app : List Row → Nat → (Nat → Bool) → Map → Map
  | [], _, _, g => g
  | row :: rs, i, D, g => app rs (i + 1) D (cond (D i) (upd row.up g) g)

theorem app_congr : ∀ (rows : List Row) (i : Nat) (D D' : Nat → Bool) (g g' : Map) (k : Key), g k = g' k →
    (∀ j (row : Row), rows[j]? = some row → touches k row.up = true → D (i + j) = D' (i + j)) → app rows i D g k = app rows i D' g' k := by
  intro rows
  induction rows with
  | nil => intro i D D' g g' k hg _; exact hg
  | cons row rs ih =>
    intro i D D' g g' k hg h
    simp only [app]
    refine ih (i + 1) D D' _ _ k ?_ (fun j r hr ht => ?_)
    · cases ht : touches k row.up with
      | true =>
        have := h 0 row rfl ht
        simp only [Nat.add_zero] at this
        rw [this]
        cases D' i with
        | true => exact upd_congr ht _ _
        | false => exact hg
      | false =>
        have e1 : (cond (D i) (upd row.up g) g) k = g k := by
          cases D i
          · rfl
          · exact upd_of_touches ht g
        have e2 : (cond (D' i) (upd row.up g') g') k = g' k := by
          cases D' i
          · rfl
          · exact upd_of_touches ht g'
        rw [e1, e2]; exact hg
    · have := h (j + 1) r (by simpa using hr) ht
      rw [show i + 1 + j = i + (j + 1) by omega]; exact this

theorem app_untouched : ∀ (rows : List Row) (i : Nat) (D : Nat → Bool) (g : Map) (k : Key),
    (∀ j (row : Row), rows[j]? = some row → D (i + j) = true → touches k row.up = false) → app rows i D g k = g k := by
  intro rows
  induction rows with
  | nil => intros; rfl
  | cons row rs ih =>
    intro i D g k h
    simp only [app]
    rw [ih (i + 1) D _ k (fun j r hr hd => h (j + 1) r (by simpa using hr) (by rw [show i + (j + 1) = i + 1 + j by omega]; exact hd))]
    cases hD : D i with
    | true => exact upd_of_touches (h 0 row rfl (by simpa using hD)) g
    | false => rfl

theorem app_mentions : ∀ (rows : List Row) (i : Nat) (D : Nat → Bool) (g : Map) (k : Key) (L : Nat), mentions L k (g k) = false →
    (∀ j (row : Row), rows[j]? = some row → D (i + j) = true → mentionsIn L row.up = false) → mentions L k (app rows i D g k) = false := by
  intro rows
  induction rows with
  | nil => intro i D g k L hg _; exact hg
  | cons row rs ih =>
    intro i D g k L hg h
    simp only [app]
    refine ih (i + 1) D _ k L ?_ (fun j r hr hd => h (j + 1) r (by simpa using hr) (by rw [show i + (j + 1) = i + 1 + j by omega]; exact hd))
    cases hD : D i with
    | true => exact mentions_upd (h 0 row rfl (by simpa using hD)) hg
    | false => exact hg

theorem app_all : ∀ (rows : List Row) (i : Nat) (D : Nat → Bool) (s : St), (∀ j, j < rows.length → D (i + j) = true) →
    app rows i D (get s) = get (rows.foldl (fun s r => r.up ++ s) s) := by
  intro rows
  induction rows with
  | nil => intros; rfl
  | cons row rs ih =>
    intro i D s h
    have h0 : D i = true := by simpa using h 0 (by simp)
    simp only [app, h0, cond_true, List.foldl_cons, ← get_append]
    exact ih (i + 1) D _ (fun j hj => by have := h (j + 1) (by simp; omega); rw [show i + 1 + j = i + (j + 1) by omega]; exact this)

/-! ### What a concrete state must be to be one of a symbolic state -/

structure Cx where
  P : Program
  r : Option Nat
  B : Nat
  w0 : World
  N : Nat
  ds : List Deferred
  /-- blocks of others that the activation may write, with their labels -/
  bor : List (Nat × Nat)

def Cx.F (cx : Cx) : Fence := { fn := fun _ => True, depth := none, alive := false, round := cx.r }

def VecAt (b c ty k : Nat) (cs : List Value) (w : World) : Prop :=
  (c = 0 ∧ cs = []) ∨ (c ≠ 0 ∧ ∃ cur : Array Value, w.heap[b]? = some (.cells cur ty (0, 0)) ∧ cur.size = c * k ∧ ∀ (i : Nat) (v : Value), cs[i]? = some v → cur[i]? = some v)

theorem VecAt.lt {b c ty k : Nat} {cs : List Value} {w : World} (h : VecAt b c ty k cs w) (hc : c ≠ 0) : b < w.heap.size := by
  rcases h with ⟨h, _⟩ | ⟨_, cur, h, _⟩
  · exact absurd h hc
  · exact (Array.getElem?_eq_some_iff.1 h).1

theorem VecAt.same {b c ty k : Nat} {cs : List Value} {w w' : World} (h : VecAt b c ty k cs w) (hb : c ≠ 0 → w'.heap[b]? = w.heap[b]?) : VecAt b c ty k cs w' := by
  rcases h with h | ⟨hc, cur, h1, h2⟩
  · exact .inl h
  · exact .inr ⟨hc, cur, by rw [hb hc]; exact h1, h2⟩

/-- A block that the activation may write: its own, or one lent to it. -/
def Cx.lent (cx : Cx) (l : Nat) : Prop := ∃ L, (L, l) ∈ cx.bor

def Cx.mine (cx : Cx) (l : Nat) : Prop := cx.B ≤ l ∨ cx.lent l

theorem lent_nil {P : Program} {r : Option Nat} {B N : Nat} {w0 : World} {ds : List Deferred} {l : Nat} : ¬ Cx.lent ⟨P, r, B, w0, N, ds, []⟩ l := fun ⟨_, h⟩ => by simp at h

theorem mine_nil {P : Program} {r : Option Nat} {B N : Nat} {w0 : World} {ds : List Deferred} {l : Nat} (h : Cx.mine ⟨P, r, B, w0, N, ds, []⟩ l) : B ≤ l := by
  rcases h with h | h
  · exact h
  · exact absurd h lent_nil

/-- What was there and is not lent stands as it stood. -/
structure Held (cx : Cx) (w : World) : Prop where
  os : w.os = cx.w0.os
  tape : w.tape = cx.w0.tape
  output : w.output = cx.w0.output
  size : cx.w0.heap.size ≤ w.heap.size
  block : ∀ k, k < cx.B → ¬ cx.lent k → w.heap[k]? = cx.w0.heap[k]?

theorem Held.step {cx : Cx} {w w' : World} (h : Held cx w) (hos : w'.os = w.os) (htape : w'.tape = w.tape) (hout : w'.output = w.output) (hsz : w.heap.size ≤ w'.heap.size)
    (hk : ∀ k, k < cx.B → ¬ cx.lent k → w'.heap[k]? = w.heap[k]?) : Held cx w' :=
  ⟨hos.trans h.os, htape.trans h.tape, hout.trans h.output, Nat.le_trans h.size hsz, fun k h1 h2 => (hk k h1 h2).trans (h.block k h1 h2)⟩

theorem Held.world {cx : Cx} {w w' : World} (h : Held cx w) (hb : Below w.heap.size w w') (ht : cx.B ≤ w.heap.size) : Held cx w' :=
  h.step hb.os hb.tape hb.output hb.size fun k h1 _ => hb.block k (Nat.lt_of_lt_of_le h1 ht)

theorem Held.setCell {cx : Cx} {w : World} (h : Held cx w) {p : Addr} (hp : cx.mine p.block) (u : Value) : Held cx (w.setCell p u) :=
  h.step rfl rfl rfl (by simp [World.setCell]) fun k h1 h2 => Below.heap_setCell _ _ _ _ fun e => by
    subst e
    rcases hp with hp | hp
    · omega
    · exact h2 hp

theorem Held.alloc {cx : Cx} {w : World} (h : Held cx w) (ht : cx.B ≤ w.heap.size) (o : Obj) : Held cx (w.alloc o) :=
  h.step rfl rfl rfl (by simp) fun k h1 _ => Below.heap_alloc _ _ _ (by omega)

theorem Held.cell {cx : Cx} {w : World} (h : Held cx w) {p : Addr} (h1 : p.block < cx.B) (h2 : ¬ cx.lent p.block) : w.cell? p = cx.w0.cell? p := by
  simp only [World.cell?, h.block p.block h1 h2]

structure Rel (cx : Cx) (m : Nat → Nat) (g : Map) (a : Act) (w : World) : Prop where
  size : a.tmps.size = cx.N
  defers : a.defers = cx.ds
  tm : ∀ i x, g (.t i) = some (.x x) → a.tmps[i]? = some (den m x)
  tmc : ∀ i b x, g (.t i) = some (.xc b x) → a.tmps[i]? = some (cond b (den m x) undef)
  blk : ∀ L ty n, g (.b L) = some (.sh ty n) → cx.mine (m L) ∧ ∃ cs : Array Value, cs.size = n ∧ w.heap[m L]? = some (.cells cs ty (0, 0))
  cell : ∀ L o x, g (.c L o) = some (.x x) → w.cell? ⟨m L, o, none⟩ = some (den m x)
  own : ∀ L o x, g (.c L o) = some (.x x) → ∃ ty n, g (.b L) = some (.sh ty n)
  inj : ∀ L L' ty n ty' n', g (.b L) = some (.sh ty n) → g (.b L') = some (.sh ty' n') → m L = m L' → L = L'
  vec : ∀ L own C ty k cs, g (.r L) = some (.vec own C ty k cs) → VecAt (m L) (m C) ty k cs w
  sep : ∀ L own C ty k cs L' ty' n', g (.r L) = some (.vec own C ty k cs) → g (.b L') = some (.sh ty' n') → m C ≠ 0 → m L ≠ m L'
  sepR : ∀ L C ty k cs L' own' C' ty' k' cs', g (.r L) = some (.vec true C ty k cs) → g (.r L') = some (.vec own' C' ty' k' cs') → L ≠ L' → m C ≠ 0 → m C' ≠ 0 → m L ≠ m L'
  ownR : ∀ L C ty k cs, g (.r L) = some (.vec true C ty k cs) → m C ≠ 0 → cx.mine (m L)
  held : Held cx w
  top : cx.B ≤ w.heap.size
  fix : ∀ L b, (L, b) ∈ cx.bor → m L = b ∧ ∃ ty n, g (.b L) = some (.sh ty n)

theorem Rel.below {P : Program} {r : Option Nat} {B N : Nat} {w0 : World} {ds : List Deferred} {m : Nat → Nat} {g : Map} {a : Act} {w : World} (h : Rel ⟨P, r, B, w0, N, ds, []⟩ m g a w) : Below B w0 w :=
  ⟨h.held.os, h.held.tape, h.held.output, h.held.size, fun k hk => h.held.block k hk lent_nil⟩

theorem Rel.congr {cx : Cx} {m : Nat → Nat} {g g' : Map} {a : Act} {w : World} (h : Rel cx m g a w) (e : ∀ k, g k = g' k) : Rel cx m g' a w := by
  have : g = g' := funext e
  exact this ▸ h

/-- Operation i of a region, as a step of the symbolic state: wherever what it reads stands as in s. -/
def OpOK (cx : Cx) (ops : Array Oper) (i : Nat) (s : Map) (row : Row) : Prop :=
  ∀ (m : Nat → Nat) (a : Act) (w : World) (g : Map), (∀ k, row.reads k = true → g k = s k) → (∀ L ∈ row.nw, ∀ k, mentions L k (g k) = false) → Rel cx m g a w →
    ∀ (K : Act → World → Prop) (Q : Exit → Act → World → Prop), (∀ m' a' w', Rel cx m' (upd row.up g) a' w' → K a' w') → wpOpIn cx.F 0 cx.P ops Q i K a w

def AllOK (cx : Cx) (ops : Array Oper) : Nat → St → List Row → Prop
  | _, _, [] => True
  | i, s, row :: rs => OpOK cx ops i (get s) row ∧ AllOK cx ops (i + 1) (row.up ++ s) rs

theorem AllOK.at {cx : Cx} {ops : Array Oper} : ∀ {rows : List Row} {i : Nat} {s : St}, AllOK cx ops i s rows → ∀ j (row : Row), rows[j]? = some row →
    OpOK cx ops (i + j) (app rows i (fun x => decide (x < i + j)) (get s)) row := by
  intro rows
  induction rows with
  | nil => intro i s _ j row h; simp at h
  | cons r rs ih =>
    intro i s h j row hj
    obtain ⟨h0, h1⟩ := h
    cases j with
    | zero =>
      simp only [List.getElem?_cons_zero, Option.some.injEq] at hj
      subst hj
      have : app (r :: rs) i (fun x => decide (x < i + 0)) (get s) = get s := by
        funext k
        exact app_untouched _ _ _ _ _ (fun j row _ hd => by simp at hd; omega)
      rw [this]
      exact h0
    | succ j =>
      have hj' : rs[j]? = some row := by simpa using hj
      have := ih h1 j row hj'
      rw [show i + (j + 1) = i + 1 + j by omega]
      simp only [app]
      have hlt : decide (i < i + 1 + j) = true := by simp; omega
      rw [hlt, cond_true, ← get_append]
      exact this

/-- Fresh labels, along the text. -/
def freshOK : St → List Row → Bool
  | _, [] => true
  | s, row :: rs => row.nw.all (fun L => !mentionsIn L s) && freshOK (row.up ++ s) rs

theorem get_mentions {L : Nat} {s : St} (h : mentionsIn L s = false) (k : Key) : mentions L k (get s k) = false :=
  mentions_upd h (by rfl)

/-- A region whose order is the text's. -/
theorem text {cx : Cx} {ops : Array Oper} {Q : Exit → Act → World → Prop} :
    ∀ (rows : List Row) (i : Nat) (s : St) (m : Nat → Nat) (a : Act) (w : World), AllOK cx ops i s rows → freshOK s rows = true → Rel cx m (get s) a w →
    (∀ m a w, Rel cx m (get (rows.foldl (fun s r => r.up ++ s) s)) a w → Q .normal a w) →
    wpOpsIn cx.F 0 cx.P ops Q (List.range' i rows.length) a w := by
  intro rows
  induction rows with
  | nil => intro i s m a w _ _ hr hq; exact hq m a w hr
  | cons row rs ih =>
    intro i s m a w hall hf hr hq
    obtain ⟨h0, h1⟩ := hall
    simp only [freshOK, Bool.and_eq_true, List.all_eq_true] at hf
    simp only [List.length_cons, List.range'_succ]
    rw [wpOpsIn_cons]
    refine h0 m a w (get s) (fun _ _ => rfl) (fun L hL k => get_mentions (by simpa using hf.1 L hL) k) hr _ Q (fun m' a' w' hr' => ?_)
    rw [← get_append] at hr'
    exact ih (i + 1) _ m' a' w' h1 hf.2 hr' hq

theorem region_text {cx : Cx} {ops : Array Oper} {Q : Exit → Act → World → Prop} {id : Nat} {rows : List Row} {s : St} (hlen : rows.length = ops.size)
    (hall : AllOK cx ops 0 s rows) (hf : freshOK s rows = true) {m : Nat → Nat} {a : Act} {w : World} (hr : Rel cx m (get s) a w)
    (hq : ∀ m a w, Rel cx m (get (rows.foldl (fun s r => r.up ++ s) s)) a w → Q .normal a w) : (Code.region id ops false).wpIn cx.F 0 cx.P Q a w := by
  refine wpIn_region ?_
  rw [← hlen, List.range_eq_range']
  exact text rows 0 s m a w hall hf hr hq

/-! ### Any order -/

def maskOf (M : List Nat) (o : Oper) : Nat :=
  o.after.toList.foldl (fun s e => if Region.binds .any e then s ||| 2 ^ e.on ||| M.getD e.on 0 else s) 0

theorem testBit_fold (M : List Nat) (j : Nat) : ∀ (l : List Edge) (s : Nat),
    (l.foldl (fun s e => if Region.binds .any e then s ||| 2 ^ e.on ||| M.getD e.on 0 else s) s).testBit j = true →
    s.testBit j = true ∨ ∃ e ∈ l, Region.binds .any e = true ∧ (e.on = j ∨ (M.getD e.on 0).testBit j = true) := by
  intro l
  induction l with
  | nil => intro s h; exact .inl h
  | cons e l ih =>
    intro s h
    rw [List.foldl_cons] at h
    rcases ih _ h with h | ⟨e', he', hb, h⟩
    · split at h
      · rename_i hb
        simp only [Nat.testBit_or, Bool.or_eq_true, Nat.testBit_two_pow, decide_eq_true_eq] at h
        rcases h with (h | h) | h
        · exact .inl h
        · exact .inr ⟨e, by simp, hb, .inl h⟩
        · exact .inr ⟨e, by simp, hb, .inr h⟩
      · exact .inl h
    · exact .inr ⟨e', by simp [he'], hb, h⟩

def ancOK (ops : Array Oper) (M : List Nat) : Bool :=
  (List.range ops.size).all fun i => match ops[i]? with
    | some o => o.after.toList.all (fun e => !Region.binds .any e || Nat.blt e.on i) && Nat.beq (M.getD i 0) (maskOf M o)
    | none => true

def clash (r r' : Row) : Bool := r.up.any (fun x => r'.reads x.1 || touches x.1 r'.up) || r'.up.any (fun x => r.reads x.1)

def indepOK (rows : List Row) (M : List Nat) : Bool :=
  (List.range rows.length).all fun j => (List.range j).all fun i =>
    (M.getD j 0).testBit i || !clash (rows.getD i default) (rows.getD j default)

def newOK (rows : List Row) (M : List Nat) : Bool :=
  (List.range rows.length).all fun i => (rows.getD i default).nw.all fun L => (List.range rows.length).all fun j =>
    Nat.beq i j || !mentionsIn L (rows.getD j default).up || (Nat.blt i j && (M.getD j 0).testBit i)

theorem touches_iff {k : Key} {u : St} : touches k u = true ↔ ∃ x ∈ u, x.1 = k := by
  induction u with
  | nil => simp [touches]
  | cons x r ih => simp [touches, ih, Key.eqb_iff]

theorem clash_of_touches {r r' : Row} {k : Key} (h : touches k r.up = true) (h' : r'.reads k = true ∨ touches k r'.up = true) : clash r r' = true := by
  obtain ⟨x, hx, rfl⟩ := touches_iff.1 h
  simp only [clash, Bool.or_eq_true, List.any_eq_true]
  exact .inl ⟨x, hx, by simpa using h'⟩

theorem clash_of_reads {r r' : Row} {k : Key} (h : r.reads k = true) (h' : touches k r'.up = true) : clash r r' = true := by
  obtain ⟨x, hx, rfl⟩ := touches_iff.1 h'
  simp only [clash, Bool.or_eq_true, List.any_eq_true]
  exact .inr ⟨x, hx, h⟩

section
variable {cx : Cx} {ops : Array Oper} {Q : Exit → Act → World → Prop} {rows : List Row} {M : List Nat} {s : St}

def Downset (ops : Array Oper) (D : Nat → Bool) : Prop := ∀ i o, ops[i]? = some o → D i = true → ∀ e ∈ o.after, Region.binds .any e = true → D e.on = true

theorem anc_spec (h : ancOK ops M = true) {i : Nat} {o : Oper} (ho : ops[i]? = some o) :
    (∀ e ∈ o.after, Region.binds .any e = true → e.on < i) ∧ M.getD i 0 = maskOf M o := by
  have hlt : i < ops.size := (Array.getElem?_eq_some_iff.1 ho).1
  have := List.all_eq_true.1 h i (List.mem_range.2 hlt)
  simp only [ho, Bool.and_eq_true, List.all_eq_true, Nat.beq_eq] at this
  refine ⟨fun e he hb => ?_, this.2⟩
  have := this.1 e (by simpa using he)
  simpa [hb] using this

theorem anc_down (h : ancOK ops M = true) {D : Nat → Bool} (hD : Downset ops D) : ∀ (i : Nat) (o : Oper), ops[i]? = some o →
    (∀ e ∈ o.after, Region.binds .any e = true → D e.on = true) → ∀ j, (M.getD i 0).testBit j = true → D j = true := by
  intro i
  induction i using Nat.strongRecOn with
  | _ i ih =>
    intro o ho hi j hj
    obtain ⟨hlt, hm⟩ := anc_spec h ho
    rw [hm] at hj
    rcases testBit_fold M j _ _ hj with h0 | ⟨e, he, hb, h1⟩
    · simp at h0
    · have he' : e ∈ o.after := by simpa using he
      have hon := hi e he' hb
      rcases h1 with rfl | h1
      · exact hon
      · cases ho' : ops[e.on]? with
        | none =>
          exfalso
          have h1' := hlt e he' hb
          have h2 : i < ops.size := (Array.getElem?_eq_some_iff.1 ho).1
          rw [Array.getElem?_eq_none_iff] at ho'
          omega
        | some o' => exact ih e.on (hlt e he' hb) o' ho' (hD e.on o' ho' hon) j h1

/-- Of two rows that clash, with D a downset that i may join: the earlier ones are in D, the later ones are not. -/
theorem ordered (ha : ancOK ops M = true) (hind : indepOK rows M = true) (hlen : rows.length = ops.size) {D : Nat → Bool} (hD : Downset ops D)
    {i : Nat} {o : Oper} (ho : ops[i]? = some o) (hi : D i = false) (hr : ∀ e ∈ o.after, Region.binds .any e = true → D e.on = true)
    {j : Nat} {row row' : Row} (hrow : rows[i]? = some row) (hrow' : rows[j]? = some row') (hne : j ≠ i) (hc : clash row row' = true ∧ clash row' row = true) : D j = decide (j < i) := by
  have hi' : i < rows.length := (List.getElem?_eq_some_iff.1 hrow).1
  have hj' : j < rows.length := (List.getElem?_eq_some_iff.1 hrow').1
  have e1 : rows.getD i default = row := by simp [List.getD, hrow]
  have e2 : rows.getD j default = row' := by simp [List.getD, hrow']
  by_cases hlt : j < i
  · have := List.all_eq_true.1 (List.all_eq_true.1 hind i (List.mem_range.2 hi')) j (List.mem_range.2 hlt)
    rw [e1, e2, hc.2] at this
    simp only [Bool.not_true, Bool.or_false] at this
    rw [anc_down ha hD i o ho hr j this]
    simp [hlt]
  · have hgt : i < j := by omega
    have := List.all_eq_true.1 (List.all_eq_true.1 hind j (List.mem_range.2 hj')) i (List.mem_range.2 hgt)
    rw [e1, e2, hc.1] at this
    simp only [Bool.not_true, Bool.or_false] at this
    have hoj : ∃ oj, ops[j]? = some oj := ⟨ops[j]'(by omega), Array.getElem?_eq_getElem (by omega)⟩
    obtain ⟨oj, hoj⟩ := hoj
    cases hDj : D j with
    | false => simp [hlt]
    | true =>
      have := anc_down ha hD j oj hoj (hD j oj hoj hDj) i this
      rw [hi] at this
      cases this

def count (n : Nat) (D : Nat → Bool) : Nat := (List.range n).countP fun i => !D i

theorem count_zero {n : Nat} {D : Nat → Bool} (h : count n D = 0) : ∀ i, i < n → D i = true := by
  intro i hi
  have := List.countP_eq_zero.1 h i (List.mem_range.2 hi)
  simpa using this

theorem count_set {n i : Nat} {D : Nat → Bool} (hi : i < n) (h : D i = false) : count n (fun x => D x || Nat.beq x i) + 1 = count n D := by
  unfold count
  induction n with
  | zero => omega
  | succ n ih =>
    rw [List.range_succ, List.countP_append, List.countP_append]
    simp only [List.countP_cons, List.countP_nil, Nat.zero_add]
    by_cases e : i = n
    · subst e
      have : (List.range i).countP (fun x => !(D x || Nat.beq x i)) = (List.range i).countP (fun x => !D x) := by
        apply List.countP_congr
        intro x hx
        have : x < i := List.mem_range.1 hx
        have hb : Nat.beq x i = false := beq_ne (by omega)
        simp [hb]
      rw [this]
      simp [h]
    · have := ih (by omega)
      have hb : Nat.beq n i = false := beq_ne (by omega)
      simp only [hb, Bool.or_false]
      simp only [] at this
      omega

theorem ready_ne (ha : ancOK ops M = true) {listed : Array Bool} (hsz : listed.size = ops.size) (h : Region.ready .any ops listed = []) : ∀ i, i < ops.size → listed.getD i false = true := by
  intro i
  induction i using Nat.strongRecOn with
  | _ i ih =>
    intro hi
    cases hl : listed.getD i false with
    | true => rfl
    | false =>
      exfalso
      have hlt : i < listed.size := by omega
      have : i ∈ Region.ready .any ops listed := by
        rw [mem_ready]
        have ho : ops[i]? = some ops[i] := Array.getElem?_eq_getElem hi
        refine ⟨?_, ops[i], ho, fun e he hb => ?_⟩
        · simpa [Array.getD, hlt] using hl
        · have hlt' := (anc_spec ha ho).1 e he hb
          exact ih e.on hlt' (by omega)
      rw [h] at this
      cases this

theorem any_core (ha : ancOK ops M = true) (hind : indepOK rows M = true) (hnew : newOK rows M = true) (hlen : rows.length = ops.size)
    (hfresh : (rows.all fun row => row.nw.all fun L => !mentionsIn L s) = true) (hall : AllOK cx ops 0 s rows)
    (hq : ∀ m a w, Rel cx m (get (rows.foldl (fun s r => r.up ++ s) s)) a w → Q .normal a w) :
    ∀ (fuel : Nat) (listed : Array Bool) (m : Nat → Nat) (a : Act) (w : World), listed.size = ops.size → count ops.size (fun i => listed.getD i false) = fuel →
    Downset ops (fun i => listed.getD i false) → Rel cx m (app rows 0 (fun i => listed.getD i false) (get s)) a w →
    wpAnyIn cx.F 0 cx.P .any ops Q fuel listed a w := by
  have fin : ∀ (listed : Array Bool) (m : Nat → Nat) (a : Act) (w : World), (∀ i, i < ops.size → listed.getD i false = true) →
      Rel cx m (app rows 0 (fun i => listed.getD i false) (get s)) a w → Q .normal a w := by
    intro listed m a w h hr
    rw [app_all rows 0 _ s (fun j hj => by simpa using h j (by omega))] at hr
    exact hq m a w hr
  intro fuel
  induction fuel with
  | zero =>
    intro listed m a w hsz hc hD hr
    have h1 := count_zero hc
    refine ⟨?_, fin listed m a w h1 hr⟩
    apply List.eq_nil_iff_forall_not_mem.2
    intro i hi
    rw [mem_ready] at hi
    obtain ⟨h0, o, ho, _⟩ := hi
    have hlt : i < ops.size := (Array.getElem?_eq_some_iff.1 ho).1
    have := h1 i hlt
    have hlt' : i < listed.size := by omega
    simp [Array.getD, hlt'] at this h0
    rw [this] at h0; cases h0
  | succ fuel ih =>
    intro listed m a w hsz hc hD hr
    refine ⟨fun h => fin listed m a w (ready_ne ha hsz h) hr, fun i hi => ?_⟩
    rw [mem_ready] at hi
    obtain ⟨h0, o, ho, hpre⟩ := hi
    have hlt : i < ops.size := (Array.getElem?_eq_some_iff.1 ho).1
    have hlt' : i < listed.size := by omega
    have hDi : listed.getD i false = false := by simp [Array.getD, hlt'] at h0 ⊢; exact h0
    obtain ⟨row, hrow⟩ : ∃ row, rows[i]? = some row := ⟨rows[i]'(by omega), List.getElem?_eq_getElem (by omega)⟩
    have hset : ∀ x, (listed.setIfInBounds i true).getD x false = (listed.getD x false || Nat.beq x i) := by
      intro x
      by_cases e : x = i
      · subst e; simp [hlt']
      · rw [getD_set_ne false (Ne.symm e)]
        have hb : Nat.beq x i = false := beq_ne (e)
        simp [hb]
    have ord : ∀ (k : Key) (j : Nat) (row' : Row), rows[j]? = some row' → j ≠ i → touches k row'.up = true → (row.reads k = true ∨ touches k row.up = true) →
        listed.getD j false = decide (j < i) := by
      intro k j row' hrow' hne ht hk
      refine ordered ha hind hlen (D := fun i => listed.getD i false) hD ho hDi hpre hrow hrow' hne ⟨?_, clash_of_touches ht hk⟩
      rcases hk with hk | hk
      · exact clash_of_reads hk ht
      · exact clash_of_touches hk (.inr ht)
    have hopk := AllOK.at hall i row hrow
    simp only [Nat.zero_add] at hopk
    refine hopk m a w (app rows 0 (fun i => listed.getD i false) (get s)) (fun k hk => ?_) (fun L hL k => ?_) hr _ Q (fun m' a' w' hr' => ?_)
    · refine app_congr _ _ _ _ _ _ _ rfl (fun j row' hrow' ht => ?_)
      simp only [Nat.zero_add]
      by_cases hne : j = i
      · subst hne; rw [hDi]; simp
      · exact ord k j row' hrow' hne ht (.inl hk)
    · have hmem : row ∈ rows := List.mem_of_getElem? hrow
      refine app_mentions _ _ _ _ _ _ (get_mentions ?_ k) (fun j row' hrow' hd => ?_)
      · have := List.all_eq_true.1 (List.all_eq_true.1 hfresh row hmem) L hL
        simpa using this
      · simp only [Nat.zero_add] at hd
        have hne : j ≠ i := fun e => by subst e; rw [hDi] at hd; cases hd
        have e1 : rows.getD i default = row := by simp [List.getD, hrow]
        have e2 : rows.getD j default = row' := by simp [List.getD, hrow']
        have hi' : i < rows.length := (List.getElem?_eq_some_iff.1 hrow).1
        have hj' : j < rows.length := (List.getElem?_eq_some_iff.1 hrow').1
        have := List.all_eq_true.1 (List.all_eq_true.1 (List.all_eq_true.1 hnew i (List.mem_range.2 hi')) L (by rw [e1]; exact hL)) j (List.mem_range.2 hj')
        rw [e2] at this
        have hb : Nat.beq i j = false := beq_ne (Ne.symm hne)
        rw [hb, Bool.false_or] at this
        cases hm : mentionsIn L row'.up with
        | false => rfl
        | true =>
          rw [hm] at this
          simp only [Bool.not_true, Bool.false_or, Bool.and_eq_true] at this
          have hoj : ∃ oj, ops[j]? = some oj := ⟨ops[j]'(by omega), Array.getElem?_eq_getElem (by omega)⟩
          obtain ⟨oj, hoj⟩ := hoj
          have := anc_down ha hD j oj hoj (hD j oj hoj hd) i this.2
          simp only [hDi] at this
          cases this
    · have hsz' : (listed.setIfInBounds i true).size = ops.size := by simp [hsz]
      have hfun : (fun x => (listed.setIfInBounds i true).getD x false) = fun x => (listed.getD x false || Nat.beq x i) := funext hset
      refine ih _ m' a' w' hsz' ?_ ?_ ?_
      · rw [hfun]
        have := count_set (D := fun i => listed.getD i false) hlt hDi
        omega
      · intro x ox hox hx e he hb
        rw [hfun] at hx ⊢
        simp only [Bool.or_eq_true] at hx ⊢
        rcases hx with hx | hx
        · exact .inl (hD x ox hox hx e he hb)
        · have : x = i := Nat.eq_of_beq_eq_true hx
          subst this
          rw [ho] at hox
          cases hox
          exact .inl (hpre e he hb)
      · refine hr'.congr (fun k => ?_)
        rw [hfun]
        cases ht : touches k row.up with
        | false =>
          rw [upd_of_touches ht]
          refine app_congr _ _ _ _ _ _ _ rfl (fun j row' hrow' ht' => ?_)
          simp only [Nat.zero_add]
          have hne : j ≠ i := fun e => by subst e; rw [hrow] at hrow'; cases hrow'; rw [ht] at ht'; cases ht'
          have hb : Nat.beq j i = false := beq_ne (hne)
          simp [hb]
        | true =>
          have e1 : app rows 0 (fun i => listed.getD i false) (get s) k = app rows 0 (fun x => decide (x < i)) (get s) k := by
            refine app_congr _ _ _ _ _ _ _ rfl (fun j row' hrow' ht' => ?_)
            simp only [Nat.zero_add]
            by_cases hne : j = i
            · subst hne; rw [hDi]; simp
            · exact ord k j row' hrow' hne ht' (.inr ht)
          have e2 : app rows 0 (fun x => listed.getD x false || Nat.beq x i) (get s) k = app rows 0 (fun x => decide (x < i + 1)) (get s) k := by
            refine app_congr _ _ _ _ _ _ _ rfl (fun j row' hrow' ht' => ?_)
            simp only [Nat.zero_add]
            by_cases hne : j = i
            · subst hne; simp
            · rw [ord k j row' hrow' hne ht' (.inr ht)]
              have hb : Nat.beq j i = false := beq_ne (hne)
              rw [hb, Bool.or_false]
              have : (j < i) = (j < i + 1) := propext (by omega)
              simp only [this]
          rw [e2]
          rw [upd_congr ht _ (app rows 0 (fun x => decide (x < i)) (get s))]
          have := app_step rows 0 (get s) i row hrow k ht
          simp only [Nat.zero_add] at this
          exact this.symm
where
  app_step : ∀ (rows : List Row) (b : Nat) (g : Map) (i : Nat) (row : Row), rows[i]? = some row → ∀ k, touches k row.up = true →
      app rows b (fun x => decide (x < b + i + 1)) g k = upd row.up (app rows b (fun x => decide (x < b + i)) g) k := by
    intro rows
    induction rows with
    | nil => intro b g i row h; simp at h
    | cons r rs ih =>
      intro b g i row h k ht
      cases i with
      | zero =>
        simp only [List.getElem?_cons_zero, Option.some.injEq] at h
        subst h
        have h1 : decide (b < b + 0 + 1) = true := by simp
        have h2 : decide (b < b + 0) = false := by simp
        simp only [app, h1, h2, cond_true, cond_false]
        rw [app_untouched rs (b + 1) _ _ k (fun j row _ hd => by simp at hd; omega)]
        exact upd_congr ht _ _
      | succ i =>
        have h' : rs[i]? = some row := by simpa using h
        have h1 : decide (b < b + (i + 1) + 1) = true := by simp; omega
        have h2 : decide (b < b + (i + 1)) = true := by simp
        simp only [app, h1, h2, cond_true]
        have := ih (b + 1) (upd r.up g) i row h' k ht
        rw [show b + (i + 1) + 1 = b + 1 + i + 1 by omega, show b + (i + 1) = b + 1 + i by omega]
        exact this

theorem region_any (hm : cx.P.follows .mixedOrders = true) (ha : ancOK ops M = true) (hind : indepOK rows M = true) (hnew : newOK rows M = true) (hlen : rows.length = ops.size)
    (hfresh : (rows.all fun row => row.nw.all fun L => !mentionsIn L s) = true) (hall : AllOK cx ops 0 s rows) {id : Nat} {m : Nat → Nat} {a : Act} {w : World} (hr : Rel cx m (get s) a w)
    (hq : ∀ m a w, Rel cx m (get (rows.foldl (fun s r => r.up ++ s) s)) a w → Q .normal a w) : (Code.region id ops true).wpIn cx.F 0 cx.P Q a w := by
  refine wpIn_region_any hm ?_
  refine any_core ha hind hnew hlen hfresh hall hq ops.size _ m a _ (by simp) ?_ ?_ ?_
  · unfold count
    rw [List.countP_eq_length.2, List.length_range]
    intro x hx
    have : x < ops.size := List.mem_range.1 hx
    simp [this]
  · intro i o _ h
    simp [Array.getD] at h
  · have : app rows 0 (fun i => (Array.replicate ops.size false).getD i false) (get s) = get s := by
      funext k
      refine app_untouched _ _ _ _ _ (fun j row _ hd => ?_)
      simp [Array.getD] at hd
    rw [this]
    exact ⟨hr.size, hr.defers, hr.tm, hr.tmc, hr.blk, hr.cell, hr.own, hr.inj, fun L own C ty k cs hx => (hr.vec L own C ty k cs hx).same (fun _ => rfl), hr.sep, hr.sepR, hr.ownR, ⟨hr.held.os, hr.held.tape, hr.held.output, hr.held.size, hr.held.block⟩, hr.top, hr.fix⟩
end

end Go.AX
