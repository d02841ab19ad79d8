/-
  The core, third part: each kind of operation as a step of the symbolic state (OpRun), and the ways in which a guard lets it run (OpOK).
-/
import Derived.Test.YtgpcfckbcldokaaDoorAxB
import Derived.Laws.Sem
import Derived.IntWalk
namespace Go.AX
open Go Go.RowKit

def OpRun (cx : Cx) (o : Oper) (s : Map) (row : Row) : Prop :=
  ∀ (m : Nat → Nat) (a : Act) (w : World) (g : Map), (∀ k, row.reads k = true → g k = s k) → (∀ L ∈ row.nw, ∀ k, mentions L k (g k) = false) → Rel cx m g a w →
    ∀ (K : Act → World → Prop) (Q : Exit → Act → World → Prop), (∀ m' a' w', Rel cx m' (upd row.up g) a' w' → K a' w') → o.wpIn cx.F 0 cx.P a w K Q

/-! ### Guards -/

section
variable {cx : Cx} {ops : Array Oper} {i : Nat} {o : Oper} {s : Map} {row : Row}

theorem ok_plain (ho : ops[i]? = some o) (hg : o.guard = none) (h : OpRun cx o s row) : OpOK cx ops i s row := by
  intro m a w g hr hf hrel K Q hK
  simp only [wpOpIn, ho, Region.wanted, hg, if_true]
  exact h m a w g hr hf hrel K Q hK

theorem reads_cons {k k' : Key} {rd : List Key} {up : St} {nw : List Nat} (h : Row.reads ⟨rd, up, nw⟩ k = true) : Row.reads ⟨k' :: rd, up, nw⟩ k = true := by
  simp only [Row.reads, List.any_cons, Bool.or_eq_true] at *
  exact .inr h

theorem reads_head {k : Key} {rd : List Key} {up : St} {nw : List Nat} : Row.reads ⟨k :: rd, up, nw⟩ k = true := by
  simp [Row.reads, Key.eqb_self]

theorem yielded_of {a : Act} {w : World} {m : Nat → Nat} {g : Map} {j dj : Nat} {oj : Oper} {c : Bool} (hrel : Rel cx m g a w) (hj : ops[j]? = some oj) (hd : oj.dst = some dj)
    (hc : g (.t dj) = some (.x (.v (.bool c)))) : yielded ops a.tmps j = some c := by
  have := hrel.tm dj _ hc
  simp only [yielded, hj, Option.bind_some, hd, this, den]

theorem ok_yes {j dj : Nat} {oj : Oper} {c want : Bool} {rd : List Key} {up : St} {nw : List Nat} (ho : ops[i]? = some o) (hg : o.guard = some (j, want)) (hj : ops[j]? = some oj) (hd : oj.dst = some dj)
    (hc : s (.t dj) = some (.x (.v (.bool c)))) (hw : c = want) (h : OpRun cx o s ⟨rd, up, nw⟩) : OpOK cx ops i s ⟨.t dj :: rd, up, nw⟩ := by
  intro m a w g hr hf hrel K Q hK
  have hy := yielded_of hrel hj hd (by rw [hr _ reads_head]; exact hc)
  have hwant : Region.wanted o (yielded ops a.tmps) = true := by simp [Region.wanted, hg, hy, hw]
  simp only [wpOpIn, ho, hwant, if_true]
  exact h m a w g (fun k hk => hr k (reads_cons hk)) hf hrel K Q hK

theorem ok_no {j dj d : Nat} {oj : Oper} {c want : Bool} (hN : d < cx.N) (ho : ops[i]? = some o) (hod : o.dst = some d) (hg : o.guard = some (j, want)) (hj : ops[j]? = some oj) (hd : oj.dst = some dj)
    (hc : s (.t dj) = some (.x (.v (.bool c)))) (hw : c = !want) : OpOK cx ops i s ⟨[.t dj], [(.t d, none)], []⟩ := by
  intro m a w g hr hf hrel K Q hK
  have hy := yielded_of hrel hj hd (by rw [hr _ reads_head]; exact hc)
  have hwant : Region.wanted o (yielded ops a.tmps) = false := by simp [Region.wanted, hg, hy, hw]
  simp only [wpOpIn, ho, hwant]
  exact ⟨fun _ _ => trivial, hK m _ w (by rw [hod]; exact hrel.putNone hN)⟩

theorem ok_no' {j dj : Nat} {oj : Oper} {c want : Bool} (ho : ops[i]? = some o) (hod : o.dst = none) (hg : o.guard = some (j, want)) (hj : ops[j]? = some oj) (hd : oj.dst = some dj)
    (hc : s (.t dj) = some (.x (.v (.bool c)))) (hw : c = !want) : OpOK cx ops i s ⟨[.t dj], [], []⟩ := by
  intro m a w g hr hf hrel K Q hK
  have hy := yielded_of hrel hj hd (by rw [hr _ reads_head]; exact hc)
  have hwant : Region.wanted o (yielded ops a.tmps) = false := by simp [Region.wanted, hg, hy, hw]
  simp only [wpOpIn, ho, hwant]
  exact ⟨fun _ _ => trivial, hK m _ w (by rw [hod]; exact hrel)⟩

/-- What is known of a temporary under a condition, where the condition holds. -/
def forceV (k : Key) (v : Option Val) : Option Val :=
  match k, v with
  | .t _, some (.xc b x) => bif b then some (.x x) else some (.xc b x)
  | _, v => v
def forceM (s : Map) : Map := fun k => forceV k (s k)

theorem force_eq {i : Nat} {b : Bool} {x : SV} (hb : b = true) (h : s (.t i) = some (.xc b x)) : forceM s (.t i) = some (.x x) := by simp only [forceM, forceV, h, hb, cond_true]
theorem force_x {k : Key} {x : SV} (h : s k = some (.x x)) : forceM s k = some (.x x) := by simp only [forceM, forceV, h]
theorem force_b {L : Nat} : forceM s (.b L) = s (.b L) := rfl
theorem force_c {L o : Nat} : forceM s (.c L o) = s (.c L o) := rfl

theorem Rel.force {m : Nat → Nat} {g : Map} {a : Act} {w : World} (h : Rel cx m g a w) : Rel cx m (forceM g) a w := by
  refine ⟨h.size, h.defers, fun i x hx => ?_, fun i b x hx => ?_, fun L ty n hL => h.blk L ty n hL, fun L o x hx => h.cell L o x hx, fun L o x hx => h.own L o x hx,
    fun L L' ty n ty' n' h1 h2 => h.inj L L' ty n ty' n' h1 h2, fun L own C ty k cs hx => h.vec L own C ty k cs hx, fun L own C ty k cs L' ty' n' hx hy => h.sep L own C ty k cs L' ty' n' hx hy,
    fun L C ty k cs L' own' C' ty' k' cs' hx hy => h.sepR L C ty k cs L' own' C' ty' k' cs' hx hy, fun L C ty k cs hx => h.ownR L C ty k cs hx, h.held, h.top, fun L b hb => h.fix L b hb⟩
  · simp only [forceM] at hx
    cases hg : g (.t i) with
    | none => rw [hg] at hx; cases hx
    | some v =>
      rw [hg] at hx
      cases v with
      | x y => exact h.tm i x (by rw [hg]; exact hx)
      | sh _ _ => cases hx
      | vec _ _ _ _ _ => cases hx
      | xc b y =>
        cases b with
        | false => cases hx
        | true => simp only [forceV, cond_true, Option.some.injEq, Val.x.injEq] at hx; subst hx; exact h.tmc i true y hg
  · simp only [forceM] at hx
    cases hg : g (.t i) with
    | none => rw [hg] at hx; cases hx
    | some v =>
      rw [hg] at hx
      cases v with
      | x y => cases hx
      | sh _ _ => cases hx
      | vec _ _ _ _ _ => cases hx
      | xc b' y =>
        cases b' with
        | true => cases hx
        | false => exact h.tmc i b x (by rw [hg]; exact hx)

theorem Rel.unforce {m : Nat → Nat} {g : Map} {a : Act} {w : World} (h : Rel cx m (forceM g) a w) : Rel cx m g a w := by
  refine ⟨h.size, h.defers, fun i x hx => h.tm i x (force_x hx), fun i b x hx => ?_, fun L ty n hL => h.blk L ty n hL, fun L o x hx => h.cell L o x hx, fun L o x hx => h.own L o x hx,
    fun L L' ty n ty' n' h1 h2 => h.inj L L' ty n ty' n' h1 h2, fun L own C ty k cs hx => h.vec L own C ty k cs hx, fun L own C ty k cs L' ty' n' hx hy => h.sep L own C ty k cs L' ty' n' hx hy,
    fun L C ty k cs L' own' C' ty' k' cs' hx hy => h.sepR L C ty k cs L' own' C' ty' k' cs' hx hy, fun L C ty k cs hx => h.ownR L C ty k cs hx, h.held, h.top, fun L b hb => h.fix L b hb⟩
  cases b with
  | true => exact h.tm i x (force_eq rfl hx)
  | false => exact h.tmc i false x (by simp only [forceM, forceV, hx, cond_false])

theorem yielded_undef {a : Act} {w : World} {m : Nat → Nat} {g : Map} {j dj : Nat} {oj : Oper} {x : SV} (hrel : Rel cx m g a w) (hj : ops[j]? = some oj) (hd : oj.dst = some dj)
    (hc : g (.t dj) = some (.xc false x)) : yielded ops a.tmps j = none := by
  have := hrel.tmc dj _ _ hc
  simp only [cond_false] at this
  simp only [yielded, hj, Option.bind_some, hd, this, undef]

theorem wanted_iff {a : Act} {w : World} {m : Nat → Nat} {g : Map} {j dj : Nat} {oj : Oper} {b0 c want : Bool} (hrel : Rel cx m g a w) (hg : o.guard = some (j, want)) (hj : ops[j]? = some oj) (hd : oj.dst = some dj)
    (hc : g (.t dj) = some (.xc b0 (.v (.bool c)))) : Region.wanted o (yielded ops a.tmps) = (b0 && (c == want)) := by
  cases b0 with
  | true =>
    have := hrel.tmc dj _ _ hc
    simp only [cond_true, den] at this
    have hy : yielded ops a.tmps j = some c := by simp only [yielded, hj, Option.bind_some, hd, this]
    simp only [Region.wanted, hg, hy, Bool.true_and]
    cases c <;> cases want <;> rfl
  | false =>
    have hy := yielded_undef hrel hj hd hc
    simp [Region.wanted, hg, hy]

/-- A guard that is itself guarded. -/
theorem ok_ifC {j dj d : Nat} {oj : Oper} {b0 c want : Bool} {x : SV} {rd : List Key} (hN : d < cx.N) (ho : ops[i]? = some o) (hod : o.dst = some d) (hg : o.guard = some (j, want)) (hj : ops[j]? = some oj) (hd : oj.dst = some dj)
    (hc : s (.t dj) = some (.xc b0 (.v (.bool c)))) (h : (b0 && (c == want)) = true → OpRun cx o (forceM s) ⟨rd, [(.t d, some (.x x))], []⟩) :
    OpOK cx ops i s ⟨.t dj :: rd, [(.t d, some (.xc (b0 && (c == want)) x))], []⟩ := by
  intro m a w g hr hf hrel K Q hK
  have hwant := wanted_iff hrel hg hj hd (by rw [hr _ reads_head]; exact hc)
  cases e : (b0 && (c == want)) with
  | true =>
    rw [e] at hwant
    simp only [wpOpIn, ho, hwant, if_true]
    refine h e m a w (forceM g) (fun k hk => ?_) (fun L hL => by cases hL) hrel.force K Q (fun m' a' w' h' => hK m' a' w' ?_)
    · have := hr k (reads_cons hk)
      simp only [forceM, this]
    · refine Rel.unforce (h'.congr (fun k => ?_))
      simp only [forceM]
      rw [upd_one, upd_one]
      by_cases ek : Key.t d = k
      · subst ek; simp [forceV, e]
      · rw [if_neg ek, if_neg ek]; rfl
  | false =>
    rw [e] at hwant
    simp only [wpOpIn, ho, hwant]
    exact ⟨fun _ _ => trivial, hK m _ w (by rw [hod]; exact hrel.putC hN (by rw [e]; rfl))⟩

theorem ok_if {j dj d : Nat} {oj : Oper} {c want : Bool} {x : SV} {rd : List Key} (hN : d < cx.N) (ho : ops[i]? = some o) (hod : o.dst = some d) (hg : o.guard = some (j, want)) (hj : ops[j]? = some oj) (hd : oj.dst = some dj)
    (hc : s (.t dj) = some (.x (.v (.bool c)))) (h : c = want → OpRun cx o (forceM s) ⟨rd, [(.t d, some (.x x))], []⟩) :
    OpOK cx ops i s ⟨.t dj :: rd, [(.t d, some (.xc (c == want) x))], []⟩ := by
  intro m a w g hr hf hrel K Q hK
  have hy := yielded_of hrel hj hd (by rw [hr _ reads_head]; exact hc)
  by_cases e : c = want
  · have hwant : Region.wanted o (yielded ops a.tmps) = true := by simp [Region.wanted, hg, hy, e]
    simp only [wpOpIn, ho, hwant, if_true]
    refine h e m a w (forceM g) (fun k hk => ?_) (fun L hL => by cases hL) hrel.force K Q (fun m' a' w' h' => hK m' a' w' ?_)
    · have := hr k (reads_cons hk)
      simp only [forceM, this]
    · refine Rel.unforce (h'.congr (fun k => ?_))
      simp only [forceM]
      rw [upd_one, upd_one]
      by_cases ek : Key.t d = k
      · subst ek; simp [forceV, e]
      · rw [if_neg ek, if_neg ek]; rfl
  · have hwant : Region.wanted o (yielded ops a.tmps) = false := by simp [Region.wanted, hg, hy, e]
    simp only [wpOpIn, ho, hwant]
    exact ⟨fun _ _ => trivial, hK m _ w (by rw [hod]; exact hrel.putC hN (by rw [show (c == want) = false by simpa using e]; rfl))⟩

end

/-! ### Operands -/

def Ev (s : Map) : Operand → SV → Prop
  | .tmp t, v => s (.t t) = some (.x v)
  | .const c, v => v = .v c
  | .global g, v => v = .v (.pointer (some ⟨g, 0, none⟩))
  | .func f, v => v = .v (.func (.func f) #[] #[])

def okeys : Operand → List Key
  | .tmp t => [.t t]
  | _ => []

def EvL (s : Map) : List Operand → List SV → Prop
  | [], xs => xs = []
  | x :: r, xs => ∃ v vs, xs = v :: vs ∧ Ev s x v ∧ EvL s r vs

theorem EvL.nil {s : Map} : EvL s [] [] := rfl
theorem EvL.cons {s : Map} {x : Operand} {r : List Operand} {v : SV} {vs : List SV} (h : Ev s x v) (hs : EvL s r vs) : EvL s (x :: r) (v :: vs) := ⟨v, vs, rfl, h, hs⟩

def okeysL : List Operand → List Key
  | [] => []
  | x :: r => okeys x ++ okeysL r

section
variable {cx : Cx} {o : Oper} {s g : Map} {m : Nat → Nat} {a : Act} {w : World}

theorem reads_mem {k : Key} {rd : List Key} {up : St} {nw : List Nat} (h : k ∈ rd) : Row.reads ⟨rd, up, nw⟩ k = true := by
  simp only [Row.reads, List.any_eq_true]
  exact ⟨k, h, Key.eqb_self k⟩

theorem Ev.eval {x : Operand} {v : SV} (h : Rel cx m g a w) (hx : Ev s x v) (he : ∀ k ∈ okeys x, g k = s k) : a.eval x = den m v := by
  cases x with
  | tmp t =>
    have := h.tm t v (by rw [he _ (by simp [okeys])]; exact hx)
    simp [Act.eval, this]
  | const c => rw [show v = .v c from hx]; rfl
  | global g' => rw [show v = .v (.pointer (some ⟨g', 0, none⟩)) from hx]; rfl
  | func f => rw [show v = .v (.func (.func f) #[] #[]) from hx]; rfl

theorem EvL.eval (h : Rel cx m g a w) : ∀ {xs : List Operand} {vs : List SV}, EvL s xs vs → (∀ k ∈ okeysL xs, g k = s k) → xs.map a.eval = denL m vs := by
  intro xs
  induction xs with
  | nil => intro vs hx _; rw [show vs = [] from hx]; rfl
  | cons x r ih =>
    intro vs hx he
    obtain ⟨v, vs', rfl, h1, h2⟩ := hx
    simp only [List.map_cons, denL]
    rw [h1.eval h (fun k hk => he k (by simp [okeysL, hk])), ih h2 (fun k hk => he k (by simp [okeysL, hk]))]

theorem semAt_of (r : Option Nat) (a : Act) (h : ∀ c, o.op ≠ .defer c) : o.semAt r a.eval = execOp a.eval o := Oper.semAt_eq r a.eval o h

/-- An operation that yields a value, in a world in which nothing that lay there has changed. -/
theorem op_core {d : Nat} {x : SV} {rd : List Key} (hd : o.dst = some d) (hN : d < cx.N) (hdf : ∀ c, o.op ≠ .defer c)
    (h : ∀ (m : Nat → Nat) (a : Act) (w : World) (g : Map), (∀ k ∈ rd, g k = s k) → Rel cx m g a w → ∃ w', (execOp a.eval o).run cx.P w = .ok (.value (den m x)) w' ∧ Below w.heap.size w w') :
    OpRun cx o s ⟨rd, [(.t d, some (.x x))], []⟩ := by
  intro m a w g hr hf hrel K Q hK
  obtain ⟨w', hrun, hb⟩ := h m a w g (fun k hk => hr k (reads_mem hk)) hrel
  refine ⟨fun _ _ => trivial, ?_⟩
  rw [semAt_of _ _ hdf, hrun, Oper.uponIn_value, hd]
  exact hK m _ w' ((hrel.world hb).put hN rfl)

theorem op_pure {d : Nat} {x : SV} {rd : List Key} (hd : o.dst = some d) (hN : d < cx.N) (hdf : ∀ c, o.op ≠ .defer c)
    (h : ∀ (m : Nat → Nat) (a : Act) (w : World) (g : Map), (∀ k ∈ rd, g k = s k) → Rel cx m g a w → (execOp a.eval o).run cx.P w = .ok (.value (den m x)) w) :
    OpRun cx o s ⟨rd, [(.t d, some (.x x))], []⟩ :=
  op_core hd hN hdf fun m a w g hr hrel => ⟨w, h m a w g hr hrel, Below.refl _ _⟩

variable {d : Nat} {type : TypeId} {pos : String} {after : Array Edge} {guard : Option (Nat × Bool)}

theorem op_move {x : Operand} {v : SV} (hN : d < cx.N) (hx : Ev s x v) : OpRun cx ⟨some d, .move x, type, pos, after, guard⟩ s ⟨okeys x, [(.t d, some (.x v))], []⟩ :=
  op_pure rfl hN (by simp) fun m a w g hr hrel => by
    simp only [execOp]
    rw [hx.eval hrel hr]
    rfl

theorem op_assign {x : Operand} {v : SV} (hN : d < cx.N) (hx : Ev s x v) : OpRun cx ⟨some d, .assign x, type, pos, after, guard⟩ s ⟨okeys x, [(.t d, some (.x v))], []⟩ :=
  op_pure rfl hN (by simp) fun m a w g hr hrel => by
    simp only [execOp]
    rw [hx.eval hrel hr]
    rfl

/-- 'a && b' behind its guard. -/
theorem op_and {tc tx : Nat} {c b : Bool} (hN : d < cx.N) (hc : s (.t tc) = some (.x (.v (.bool c)))) (hx : s (.t tx) = some (.xc (c == true) (.v (.bool b))))  :
    OpRun cx ⟨some d, .pick (.tmp tc) (.tmp tx) (.const (.bool false)), type, pos, after, guard⟩ s ⟨[.t tc, .t tx], [(.t d, some (.x (.v (.bool (c && b)))))], []⟩ :=
  op_pure rfl hN (by simp) fun m a w g hr hrel => by
    have h1 := hrel.tm tc _ (by rw [hr _ (by simp)]; exact hc)
    have h2 := hrel.tmc tx _ _ (by rw [hr _ (by simp)]; exact hx)
    cases c with
    | true => simp only [BEq.rfl, cond_true] at h2; simp [execOp, Act.eval, h1, h2, den, asBool]
    | false => simp [execOp, Act.eval, h1, den, asBool]

theorem op_or {tc tx : Nat} {c b : Bool} (hN : d < cx.N) (hc : s (.t tc) = some (.x (.v (.bool c)))) (hx : s (.t tx) = some (.xc (c == false) (.v (.bool b))))  :
    OpRun cx ⟨some d, .pick (.tmp tc) (.const (.bool true)) (.tmp tx), type, pos, after, guard⟩ s ⟨[.t tc, .t tx], [(.t d, some (.x (.v (.bool (c || b)))))], []⟩ :=
  op_pure rfl hN (by simp) fun m a w g hr hrel => by
    have h1 := hrel.tm tc _ (by rw [hr _ (by simp)]; exact hc)
    have h2 := hrel.tmc tx _ _ (by rw [hr _ (by simp)]; exact hx)
    cases c with
    | true => simp [execOp, Act.eval, h1, den, asBool]
    | false => simp only [BEq.rfl, cond_true] at h2; simp [execOp, Act.eval, h1, h2, den, asBool]

/-- A pick whose condition is decided. -/
theorem op_pickT {c x y : Operand} {v : SV} (hN : d < cx.N) (hc : Ev s c (.v (.bool true))) (hx : Ev s x v) :
    OpRun cx ⟨some d, .pick c x y, type, pos, after, guard⟩ s ⟨okeys c ++ okeys x, [(.t d, some (.x v))], []⟩ :=
  op_pure rfl hN (by simp) fun m a w g hr hrel => by
    have h1 := hc.eval hrel (fun k hk => hr k (by simp [hk]))
    have h2 := hx.eval hrel (fun k hk => hr k (by simp [hk]))
    simp [execOp, h1, h2, den, asBool]

theorem op_pickF {c x y : Operand} {v : SV} (hN : d < cx.N) (hc : Ev s c (.v (.bool false))) (hy : Ev s y v) :
    OpRun cx ⟨some d, .pick c x y, type, pos, after, guard⟩ s ⟨okeys c ++ okeys y, [(.t d, some (.x v))], []⟩ :=
  op_pure rfl hN (by simp) fun m a w g hr hrel => by
    have h1 := hc.eval hrel (fun k hk => hr k (by simp [hk]))
    have h2 := hy.eval hrel (fun k hk => hr k (by simp [hk]))
    simp [execOp, h1, h2, den, asBool]

/-! ### Numbers -/

def binInt (op : BinOp) (k : IntKind) (a b : Int) : Option Value :=
  match op with
  | .add => some (.int k (k.wrap (a + b)))
  | .sub => some (.int k (k.wrap (a - b)))
  | .mul => some (.int k (k.wrap (a * b)))
  | .eql => some (.bool (a == b))
  | .neq => some (.bool (a != b))
  | .lss => some (.bool (decide (a < b)))
  | .leq => some (.bool (decide (a ≤ b)))
  | .gtr => some (.bool (decide (a > b)))
  | .geq => some (.bool (decide (a ≥ b)))
  | _ => none

theorem op_bin {op : BinOp} {ty ty' : TypeId} {x y : Operand} {k : IntKind} {n p : Int} {r : Value} (hN : d < cx.N) (hx : Ev s x (.v (.int k n))) (hy : Ev s y (.v (.int k p))) (h : binInt op k n p = some r) :
    OpRun cx ⟨some d, .binOp op ty x y ty', type, pos, after, guard⟩ s ⟨okeys x ++ okeys y, [(.t d, some (.x (.v r)))], []⟩ :=
  op_pure rfl hN (by simp) fun m a w g hr hrel => by
    have h1 := hx.eval hrel (fun k hk => hr k (by simp [hk]))
    have h2 := hy.eval hrel (fun k hk => hr k (by simp [hk]))
    cases op <;> simp only [binInt, Option.some.injEq, reduceCtorEq] at h <;> subst h <;>
      simp [execOp, h1, h2, den, eqGuard, binOp, Op.intArith, Op.intCmp]

def I64 (n : Int) : Prop := -9223372036854775808 ≤ n ∧ n ≤ 9223372036854775807

theorem wrap_of {n : Int} (h : I64 n) : IntKind.i64.wrap n = n := IntWalk.i64_in n h

theorem nw_add {n p : Int} (h : I64 (n + p)) : binInt .add .i64 n p = some (.int .i64 (n + p)) := by simp only [binInt, wrap_of h]
theorem nw_sub {n p : Int} (h : I64 (n - p)) : binInt .sub .i64 n p = some (.int .i64 (n - p)) := by simp only [binInt, wrap_of h]
theorem nw_mul {n p : Int} (h : I64 (n * p)) : binInt .mul .i64 n p = some (.int .i64 (n * p)) := by simp only [binInt, wrap_of h]

theorem op_quo {ty ty' : TypeId} {x y : Operand} {k : IntKind} {n p : Int} {r : Int} (hN : d < cx.N) (hx : Ev s x (.v (.int k n))) (hy : Ev s y (.v (.int k p))) (hp : p ≠ 0) (hr' : k.wrap (n.tdiv p) = r) :
    OpRun cx ⟨some d, .binOp .quo ty x y ty', type, pos, after, guard⟩ s ⟨okeys x ++ okeys y, [(.t d, some (.x (.v (.int k r))))], []⟩ :=
  op_pure rfl hN (by simp) fun m a w g hr hrel => by
    have h1 := hx.eval hrel (fun k hk => hr k (by simp [hk]))
    have h2 := hy.eval hrel (fun k hk => hr k (by simp [hk]))
    simp [execOp, h1, h2, den, eqGuard, binOp, Op.intDiv, hp, hr']

theorem op_rem {ty ty' : TypeId} {x y : Operand} {k : IntKind} {n p : Int} {r : Int} (hN : d < cx.N) (hx : Ev s x (.v (.int k n))) (hy : Ev s y (.v (.int k p))) (hp : p ≠ 0) (hr' : n.tmod p = r) :
    OpRun cx ⟨some d, .binOp .rem ty x y ty', type, pos, after, guard⟩ s ⟨okeys x ++ okeys y, [(.t d, some (.x (.v (.int k r))))], []⟩ :=
  op_pure rfl hN (by simp) fun m a w g hr hrel => by
    have h1 := hx.eval hrel (fun k hk => hr k (by simp [hk]))
    have h2 := hy.eval hrel (fun k hk => hr k (by simp [hk]))
    simp [execOp, h1, h2, den, eqGuard, binOp, Op.intDiv, hp, hr']

theorem op_not {ty : TypeId} {x : Operand} {b : Bool} (hN : d < cx.N) (hx : Ev s x (.v (.bool b))) :
    OpRun cx ⟨some d, .unOp .not ty x, type, pos, after, guard⟩ s ⟨okeys x, [(.t d, some (.x (.v (.bool (!b)))))], []⟩ :=
  op_pure rfl hN (by simp) fun m a w g hr hrel => by
    have h1 := hx.eval hrel hr
    simp [execOp, h1, den, Op.unary]

theorem op_neg {ty : TypeId} {x : Operand} {n r : Int} (hN : d < cx.N) (hx : Ev s x (.v (.int .i64 n))) (h : IntKind.i64.wrap (0 - n) = r) :
    OpRun cx ⟨some d, .unOp .neg ty x, type, pos, after, guard⟩ s ⟨okeys x, [(.t d, some (.x (.v (.int .i64 r))))], []⟩ :=
  op_pure rfl hN (by simp) fun m a w g hr hrel => by
    have h1 := hx.eval hrel hr
    subst h
    simp [execOp, h1, den, Op.unary, Op.intArith]

/-- Any comparison of two values by '==' or '!=', its run given. -/
theorem op_eqv {op : BinOp} {ty ty' : TypeId} {x y : Operand} {v u : SV} {r : Bool} (hN : d < cx.N) (hx : Ev s x v) (hy : Ev s y u)
    (h : ∀ (m : Nat → Nat) (w : World), (do eqGuard op ty x y (den m v) (den m u); binOp op ty (den m v) (den m u) : Sem Value).run cx.P w = .ok (.bool r) w) :
    OpRun cx ⟨some d, .binOp op ty x y ty', type, pos, after, guard⟩ s ⟨okeys x ++ okeys y, [(.t d, some (.x (.v (.bool r))))], []⟩ :=
  op_pure rfl hN (by simp) fun m a w g hr hrel => by
    have h1 := hx.eval hrel (fun k hk => hr k (by simp [hk]))
    have h2 := hy.eval hrel (fun k hk => hr k (by simp [hk]))
    have h3 := h m w
    simp only [Sem.run_bind, Result.andThen] at h3
    simp only [execOp, h1, h2, den]
    simp only [Sem.run_bind, Result.andThen]
    cases he : (eqGuard op ty x y (den m v) (den m u)).run cx.P w with
    | halt e w' => rw [he] at h3; cases h3
    | ok q w' =>
      rw [he] at h3
      simp only [] at h3 ⊢
      rw [h3]
      simp

theorem op_convInt {src dst : TypeId} {x : Operand} {k k' : IntKind} {n r : Int} (hN : d < cx.N) (hs : ∃ ds, cx.P.underlying src = some ds) (hu : cx.P.underlying dst = some (.int k')) (hx : Ev s x (.v (.int k n))) (h : k'.wrap n = r) :
    OpRun cx ⟨some d, .convert src dst x, type, pos, after, guard⟩ s ⟨okeys x, [(.t d, some (.x (.v (.int k' r))))], []⟩ :=
  op_pure rfl hN (by simp) fun m a w g hr hrel => by
    have h1 := hx.eval hrel hr
    obtain ⟨ds, hs⟩ := hs
    subst h
    simp [execOp, h1, den, convert, run_underlying hs, run_underlying hu, Conv.intToInt]

theorem op_extract {x : Operand} {l : List SV} {i : Nat} {v : SV} (hN : d < cx.N) (hx : Ev s x (.t l)) (h : l[i]? = some v) :
    OpRun cx ⟨some d, .extract x i, type, pos, after, guard⟩ s ⟨okeys x, [(.t d, some (.x v))], []⟩ :=
  op_pure rfl hN (by simp) fun m a w g hr hrel => by
    have h1 := hx.eval hrel hr
    have h2 : (denL m l)[i]? = some (den m v) := by rw [denL_get, h]; rfl
    simp [execOp, h1, den, Instr.extract, h2]

end
end Go.AX
