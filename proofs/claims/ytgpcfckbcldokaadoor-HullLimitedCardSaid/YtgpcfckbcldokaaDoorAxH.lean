/-
  The core, eighth part: boxes and slices of one's own as what a callee's contract asks of memory; new rows out of a callee's results; arrays.
-/
import Derived.Test.YtgpcfckbcldokaaDoorAxG
namespace Go.AX
open Go Go.RowKit

/-- A box whose cells are known. -/
def BoxAt (w : World) (b : Nat) (vs : List Value) : Prop := b < w.heap.size ∧ ∀ j v, vs[j]? = some v → w.cell? ⟨b, j, none⟩ = some v

theorem BoxAt.mono {w w' : World} {b : Nat} {vs : List Value} (h : BoxAt w b vs) (hb : Below w.heap.size w w') : BoxAt w' b vs :=
  ⟨Nat.lt_of_lt_of_le h.1 hb.size, fun j v hj => by rw [hb.cell (p := ⟨b, j, none⟩) h.1]; exact h.2 j v hj⟩

/-- A new slice: its row lies in a block that was not there before. -/
def NewAt (w w' : World) (p : Option Addr) (n c ty k : Nat) (cs : List Value) : Prop :=
  ∃ b, p = (if c = 0 then none else some ⟨b, 0, none⟩) ∧ VecAt b c ty k cs w' ∧ (c ≠ 0 → w.heap.size ≤ b) ∧ cs.length = n * k

def arrSz (P : Program) (ty : TypeId) : Option (Nat × Nat) :=
  match P.underlying ty with
  | some (.array n e) => (P.info? e).map (fun i => (n, i.size))
  | _ => none

section
variable {cx : Cx} {o : Oper} {s g : Map} {m : Nat → Nat} {a : Act} {w : World}
variable {d : Nat} {type : TypeId} {pos : String} {after : Array Edge} {guard : Option (Nat × Bool)}

/-- Its own box, as a callee's contract wants it: 'hr' hands over what the call reads besides its arguments. -/
theorem boxAt {L n ty : Nat} {vs : List Value} (hrel : Rel cx m g a w) (hr : ∀ k ∈ Key.b L :: cellKeys L 0 vs.length, g k = s k) (hb : s (.b L) = some (.sh ty n)) (hc : CellsAre s L 0 (vs.map SV.v)) : BoxAt w (m L) vs := by
  obtain ⟨_, cs, _, hh⟩ := hrel.blk L ty n (by rw [hr _ (by simp)]; exact hb)
  refine ⟨(Array.getElem?_eq_some_iff.1 hh).1, fun j v hj => ?_⟩
  have hlt : j < vs.length := (List.getElem?_eq_some_iff.1 hj).1
  have h1 := cellsAre_get hc j (.v v) (by simp [hj])
  have h2 : Key.c L (0 + j) ∈ cellKeys L 0 vs.length := mem_cellKeys hlt
  have := hrel.cell L (0 + j) (.v v) (by rw [hr _ (by simp only [List.mem_cons]; exact .inr h2)]; exact h1)
  simpa [den] using this

theorem flat_get {α : Type} {enc : α → List Value} {k : Nat} (hk : ∀ x, (enc x).length = k) : ∀ {l : List α} {i : Nat} {x : α} {j : Nat} {v : Value}, l[i]? = some x → (enc x)[j]? = some v → (l.flatMap enc)[i * k + j]? = some v := by
  intro l
  induction l with
  | nil => intro i x j v h; simp at h
  | cons y l ih =>
    intro i x j v hi hj
    rw [List.flatMap_cons]
    cases i with
    | zero =>
      simp only [List.getElem?_cons_zero, Option.some.injEq] at hi
      subst hi
      rw [Nat.zero_mul, Nat.zero_add, List.getElem?_append_left (List.getElem?_eq_some_iff.1 hj).1]
      exact hj
    | succ i =>
      simp only [List.getElem?_cons_succ] at hi
      have e : (i + 1) * k + j = (enc y).length + (i * k + j) := by rw [hk, Nat.succ_mul]; omega
      rw [e, List.getElem?_append_right (Nat.le_add_right _ _), Nat.add_sub_cancel_left]
      exact ih hi hj

theorem flat_length {α : Type} {enc : α → List Value} {k : Nat} (hk : ∀ x, (enc x).length = k) : ∀ (l : List α), (l.flatMap enc).length = l.length * k := by
  intro l
  induction l with
  | nil => simp
  | cons y l ih => simp only [List.flatMap_cons, List.length_append, hk, ih, List.length_cons, Nat.succ_mul]; omega

/-- A slice over a block of one's own. -/
theorem slAt_own {α : Type} {enc : α → List Value} {k L n ty c : Nat} {l : List α} (hk : ∀ x, (enc x).length = k) (hrel : Rel cx m g a w) (hr : ∀ q ∈ Key.b L :: cellKeys L 0 (l.length * k), g q = s q)
    (hb : s (.b L) = some (.sh ty n)) (hc : CellsAre s L 0 ((l.flatMap enc).map SV.v)) (hle : l.length ≤ c) : SlAt enc k w (some ⟨m L, 0, none⟩) l.length c l := by
  have hbox := boxAt (vs := l.flatMap enc) hrel (by rw [flat_length hk]; exact hr) hb hc
  refine ⟨rfl, hle, fun _ => ⟨m L, 0, rfl, hbox.1, fun i x hi j v hj => ?_⟩⟩
  rw [Nat.zero_add]
  exact hbox.2 _ _ (flat_get hk hi hj)

/-- A slice over a row. -/
theorem slAt_row {α : Type} {enc : α → List Value} {k L C ty : Nat} {own : Bool} {l : List α} (hk : ∀ x, (enc x).length = k) (hpos : 0 < k) (hrel : Rel cx m g a w) (hr : g (.r L) = some (.vec own C ty k (l.flatMap enc))) :
    SlAt enc k w (if m C = 0 then none else some ⟨m L, 0, none⟩) l.length (m C) l := by
  have hv := hrel.vec L own C ty k _ hr
  rcases hv with ⟨h0, h1⟩ | ⟨h0, cur, hh, hsz, hpre⟩
  · have hl : l = [] := by
      have := flat_length hk l
      rw [h1] at this
      simp only [List.length_nil] at this
      rcases Nat.mul_eq_zero.1 this.symm with h | h
      · exact List.eq_nil_of_length_eq_zero h
      · omega
    subst hl
    exact ⟨rfl, Nat.zero_le _, fun h => absurd rfl h⟩
  · have hle : l.length ≤ m C := by
      have h1 := flat_length hk l
      have : (l.flatMap enc).length ≤ cur.size := by
        rcases Nat.lt_or_ge cur.size (l.flatMap enc).length with h | h
        · have hlast := hpre cur.size _ (List.getElem?_eq_getElem h)
          simp at hlast
        · exact h
      rw [h1, hsz] at this
      exact Nat.le_of_mul_le_mul_right this hpos
    refine ⟨rfl, hle, fun _ => ⟨m L, 0, by rw [if_neg h0], (Array.getElem?_eq_some_iff.1 hh).1, fun i x hi j v hj => ?_⟩⟩
    rw [Nat.zero_add]
    have := hpre _ _ (flat_get hk hi hj)
    simpa [World.cell?, hh] using this

/-- A new row. -/
theorem Rel.addRow {L C b c ty k : Nat} {own : Bool} {cs : List Value} (h : Rel cx m g a w) (hf : ∀ q, mentions L q (g q) = false) (hf' : ∀ q, mentions C q (g q) = false) (hne : L ≠ C) (hv : VecAt b c ty k cs w)
    (hB : own = true → c ≠ 0 → cx.mine b)
    (hsep : c ≠ 0 → ∀ l ty n, g (.b l) = some (.sh ty n) → m l ≠ b) (hsepR : c ≠ 0 → ∀ l own' C2 ty' k' cs', g (.r l) = some (.vec own' C2 ty' k' cs') → own = true ∨ own' = true → m C2 ≠ 0 → m l ≠ b) :
    Rel cx (setL (setL m L b) C c) (upd [(.r L, some (.vec own C ty k cs))] g) a w := by
  have hx : ∀ {q x}, g q = some (.x x) → den (setL (setL m L b) C c) x = den m x := fun {q x} hq => by
    have h1 := hf q; have h2 := hf' q
    rw [hq] at h1 h2
    rw [den_setL ((mentions_x (b := true)).1 h2), den_setL ((mentions_x (b := true)).1 h1)]
  have hxc : ∀ {q b' x}, g q = some (.xc b' x) → den (setL (setL m L b) C c) x = den m x := fun {q b' x} hq => by
    have h1 := hf q; have h2 := hf' q
    rw [hq] at h1 h2
    rw [den_setL ((mentions_x (b := b')).2 h2), den_setL ((mentions_x (b := b')).2 h1)]
  have mL : setL (setL m L b) C c L = b := by rw [setL_ne _ _ hne, setL_self]
  have mC : setL (setL m L b) C c C = c := setL_self _ _ _
  have mb : ∀ {l ty' n'}, g (.b l) = some (.sh ty' n') → setL (setL m L b) C c l = m l := fun {l ty' n'} hl => by
    have h1 := hf (.b l); have h2 := hf' (.b l)
    rw [hl] at h1 h2
    simp only [mentions] at h1 h2
    rw [setL_ne _ _ (fun e => by subst e; simp at h2), setL_ne _ _ (fun e => by subst e; simp at h1)]
  have mr : ∀ {l own' C2 ty' k' cs'}, g (.r l) = some (.vec own' C2 ty' k' cs') → setL (setL m L b) C c l = m l ∧ setL (setL m L b) C c C2 = m C2 ∧ l ≠ L := fun {l own' C2 ty' k' cs'} hl => by
    have h1 := hf (.r l); have h2 := hf' (.r l)
    rw [hl] at h1 h2
    simp only [mentions, Bool.or_eq_false_iff] at h1 h2
    refine ⟨?_, ?_, fun e => by subst e; simp at h1⟩
    · rw [setL_ne _ _ (fun e => by subst e; simp at h2), setL_ne _ _ (fun e => by subst e; simp at h1)]
    · rw [setL_ne _ _ (fun e => by subst e; simp at h2), setL_ne _ _ (fun e => by subst e; simp at h1)]
  refine ⟨h.size, h.defers, fun i y hy => ?_, fun i b y hy => ?_, fun l ty' n' hl => ?_, fun l o y hy => ?_, fun l o y hy => ?_, fun l1 l2 ty1 n1 ty2 n2 h1 h2 he => ?_,
    fun l own' C2 ty' k' cs' hl => ?_, fun l own' C2 ty' k' cs' l2 ty2 n2 hl hl2 hc2 => ?_, fun l C2 ty' k' cs' l2 own2 C3 ty2 k2 cs2 hl hl2 hne2 hc2 hc3 => ?_, fun l C2 ty' k' cs' hl hc2 => ?_, h.held, h.top, fun l b hb => by obtain ⟨h1, ty1, n1, h2⟩ := h.fix l b hb; exact ⟨by rw [mb h2]; exact h1, ty1, n1, by rw [upd_one, if_neg (by simp)]; exact h2⟩⟩
  · rw [upd_one, if_neg (by simp)] at hy; rw [hx hy]; exact h.tm i y hy
  · rw [upd_one, if_neg (by simp)] at hy; rw [hxc hy]; exact h.tmc i b y hy
  · rw [upd_one, if_neg (by simp)] at hl; rw [mb hl]; exact h.blk l ty' n' hl
  · rw [upd_one, if_neg (by simp)] at hy
    obtain ⟨ty', n', hl⟩ := h.own l o y hy
    rw [hx hy, mb hl]; exact h.cell l o y hy
  · rw [upd_one, if_neg (by simp)] at hy
    obtain ⟨ty', n', hl⟩ := h.own l o y hy
    exact ⟨ty', n', by rw [upd_one, if_neg (by simp)]; exact hl⟩
  · rw [upd_one, if_neg (by simp)] at h1 h2
    rw [mb h1, mb h2] at he
    exact h.inj l1 l2 _ _ _ _ h1 h2 he
  · rw [upd_one] at hl
    by_cases e : Key.r L = Key.r l
    · rw [if_pos e] at hl
      cases e
      simp only [Option.some.injEq, Val.vec.injEq] at hl
      obtain ⟨rfl, rfl, rfl, rfl, rfl⟩ := hl
      rw [mL, mC]; exact hv
    · rw [if_neg e] at hl
      rw [(mr hl).1, (mr hl).2.1]
      exact h.vec l own' C2 ty' k' cs' hl
  · rw [upd_one, if_neg (by simp)] at hl2
    rw [mb hl2]
    rw [upd_one] at hl
    by_cases e : Key.r L = Key.r l
    · rw [if_pos e] at hl
      cases e
      simp only [Option.some.injEq, Val.vec.injEq] at hl
      obtain ⟨rfl, rfl, rfl, rfl, rfl⟩ := hl
      rw [mC] at hc2
      rw [mL]
      exact (hsep hc2 l2 ty2 n2 hl2).symm
    · rw [if_neg e] at hl
      rw [(mr hl).2.1] at hc2
      rw [(mr hl).1]
      exact h.sep l own' C2 ty' k' cs' l2 ty2 n2 hl hl2 hc2
  · rw [upd_one] at hl hl2
    by_cases e : Key.r L = Key.r l
    · rw [if_pos e] at hl
      cases e
      simp only [Option.some.injEq, Val.vec.injEq] at hl
      obtain ⟨rfl, rfl, rfl, rfl, rfl⟩ := hl
      rw [if_neg (by simpa using hne2)] at hl2
      rw [mC] at hc2
      rw [(mr hl2).2.1] at hc3
      rw [mL, (mr hl2).1]
      exact (hsepR hc2 l2 _ _ _ _ _ hl2 (.inl rfl) hc3).symm
    · rw [if_neg e] at hl
      rw [(mr hl).2.1] at hc2
      rw [(mr hl).1]
      by_cases e2 : Key.r L = Key.r l2
      · rw [if_pos e2] at hl2
        cases e2
        simp only [Option.some.injEq, Val.vec.injEq] at hl2
        obtain ⟨rfl, rfl, rfl, rfl, rfl⟩ := hl2
        rw [mC] at hc3
        rw [mL]
        exact hsepR hc3 l _ _ _ _ _ hl (.inr rfl) hc2
      · rw [if_neg e2] at hl2
        rw [(mr hl2).2.1] at hc3
        rw [(mr hl2).1]
        exact h.sepR l C2 ty' k' cs' l2 own2 C3 ty2 k2 cs2 hl hl2 hne2 hc2 hc3
  · rw [upd_one] at hl
    by_cases e : Key.r L = Key.r l
    · rw [if_pos e] at hl
      cases e
      simp only [Option.some.injEq, Val.vec.injEq] at hl
      obtain ⟨rfl, rfl, rfl, rfl, rfl⟩ := hl
      rw [mC] at hc2
      rw [mL]
      exact hB rfl hc2
    · rw [if_neg e] at hl
      rw [(mr hl).2.1] at hc2
      rw [(mr hl).1]
      exact h.ownR l C2 ty' k' cs' hl hc2

/-- All blocks that the state names lie below the number. -/
def Under (m : Nat → Nat) (g : Map) (b : Nat) : Prop :=
  (∀ l ty n, g (.b l) = some (.sh ty n) → m l < b) ∧ (∀ l own C ty k cs, g (.r l) = some (.vec own C ty k cs) → m C ≠ 0 → m l < b)

theorem Rel.under (h : Rel cx m g a w) : Under m g w.heap.size :=
  ⟨fun l ty n hl => by obtain ⟨_, cs, _, h3⟩ := h.blk l ty n hl; exact (Array.getElem?_eq_some_iff.1 h3).1, fun l own C ty k cs hl hc => (h.vec l own C ty k cs hl).lt hc⟩

/-- The one new row of a call's results. -/
theorem Rel.newRow {L C ty k n c : Nat} {p : Option Addr} {own : Bool} {cs : List Value} {w' : World} (h : Rel cx m g a w) (hb : Below w.heap.size w w') (hn : NewAt w w' p n c ty k cs)
    (hf : ∀ q, mentions L q (g q) = false) (hf' : ∀ q, mentions C q (g q) = false) (hne : L ≠ C) :
    ∃ m', Rel cx m' (upd [(.r L, some (.vec own C ty k cs))] g) a w' ∧ den m' (.o L C n) = .slice p n c ∧ (∀ l, l ≠ L → l ≠ C → m' l = m l) := by
  obtain ⟨b, hp, hv, hfresh, hlen⟩ := hn
  have hu := h.under
  refine ⟨setL (setL m L b) C c, (h.world hb).addRow hf hf' hne hv (fun _ hc => .inl (Nat.le_trans h.top (hfresh hc))) (fun hc l ty n hl => ?_) (fun hc l own' C2 ty' k' cs' hl _ hc2 => ?_), ?_, fun l h1 h2 => by rw [setL_ne _ _ h2, setL_ne _ _ h1]⟩
  · have := hu.1 l ty n hl; have := hfresh hc; omega
  · have := hu.2 l own' C2 ty' k' cs' hl hc2; have := hfresh hc; omega
  · simp only [den]
    rw [setL_self, setL_ne _ _ hne, setL_self, hp]

/-! ### Arrays -/

theorem run_indexArr {P : Program} {ty b o' len sz : Nat} {k : IntKind} {i : Int} (h : arrSz P ty = some (len, sz)) (h0 : 0 ≤ i) (h1 : i < len) (w : World) :
    (Instr.indexAt ty (.pointer (some ⟨b, o', none⟩)) (.int k i)).run P w = .ok (.pointer (some ⟨b, o' + i.toNat * sz, none⟩)) w := by
  unfold arrSz at h
  split at h
  · rename_i n' e hu
    cases hi : P.info? e with
    | none => rw [hi] at h; cases h
    | some inf =>
      rw [hi] at h
      simp only [Option.map_some, Option.some.injEq, Prod.mk.injEq] at h
      obtain ⟨rfl, rfl⟩ := h
      simp [Instr.indexAt, run_underlying hu, asIntOf, h0, h1, sizeOf, typeInfo, hi, addr_add, Instr.sureAddr]
  · cases h

theorem op_ixA {ty L o' len sz : Nat} {k : IntKind} {i : Int} {x y : Operand} (hN : d < cx.N) (hx : Ev s x (.p L o')) (hy : Ev s y (.v (.int k i))) (h : arrSz cx.P ty = some (len, sz)) (h0 : 0 ≤ i) (h1 : i < len) :
    OpRun cx ⟨some d, .indexAddr ty x y, type, pos, after, guard⟩ s ⟨okeys x ++ okeys y, [(.t d, some (.x (.p L (o' + i.toNat * sz))))], []⟩ :=
  op_pure rfl hN (fun _ h => by cases h) fun m a w g hr hrel => by
    have e1 := hx.eval hrel (fun k hk => hr k (by simp [hk]))
    have e2 := hy.eval hrel (fun k hk => hr k (by simp [hk]))
    simp [execOp, e1, e2, den, run_indexArr h h0 h1]

theorem op_ixAB {ty b o' len sz : Nat} {k : IntKind} {i : Int} {x y : Operand} (hN : d < cx.N) (hx : Ev s x (.v (.pointer (some ⟨b, o', none⟩)))) (hy : Ev s y (.v (.int k i))) (h : arrSz cx.P ty = some (len, sz)) (h0 : 0 ≤ i) (h1 : i < len) :
    OpRun cx ⟨some d, .indexAddr ty x y, type, pos, after, guard⟩ s ⟨okeys x ++ okeys y, [(.t d, some (.x (.v (.pointer (some ⟨b, o' + i.toNat * sz, none⟩)))))], []⟩ :=
  op_pure rfl hN (fun _ h => by cases h) fun m a w g hr hrel => by
    have e1 := hx.eval hrel (fun k hk => hr k (by simp [hk]))
    have e2 := hy.eval hrel (fun k hk => hr k (by simp [hk]))
    simp [execOp, e1, e2, den, run_indexArr h h0 h1]

/-- An element of an array's value: of one cell. -/
theorem op_index {ty len : Nat} {k : IntKind} {i : Int} {x y : Operand} {ys : List SV} {v : SV} (hN : d < cx.N) (hx : Ev s x (.g ys)) (hy : Ev s y (.v (.int k i))) (h : arrSz cx.P ty = some (len, 1)) (hsh : ∃ e n, cx.P.underlying ty = some (.array n e) ∧ shapeOf cx.P e = some none)
    (h0 : 0 ≤ i) (h1 : i < len) (hv : ys[i.toNat]? = some v) :
    OpRun cx ⟨some d, .index ty x y, type, pos, after, guard⟩ s ⟨okeys x ++ okeys y, [(.t d, some (.x v))], []⟩ :=
  op_pure rfl hN (fun _ h => by cases h) fun m a w g hr hrel => by
    have e1 := hx.eval hrel (fun k hk => hr k (by simp [hk]))
    have e2 := hy.eval hrel (fun k hk => hr k (by simp [hk]))
    obtain ⟨e, n, hu, he⟩ := hsh
    unfold arrSz at h
    rw [hu] at h
    simp only [] at h
    cases hi : cx.P.info? e with
    | none => rw [hi] at h; cases h
    | some inf =>
      rw [hi] at h
      simp only [Option.map_some, Option.some.injEq, Prod.mk.injEq] at h
      obtain ⟨rfl, hsz⟩ := h
      have h2 : (denL m ys)[i.toNat]? = some (den m v) := by rw [denL_get, hv]; rfl
      have h3 : ∀ w, (isAgg e).run cx.P w = .ok false w := by
        intro w
        unfold shapeOf at he
        split at he
        · rw [hi] at he; cases he
        · rw [hi] at he; cases he
        · rename_i u q1 q2 hu'
          simp only [isAgg, Sem.run_bind, run_underlying hu', Result.andThen_ok]
          cases u <;> first | rfl | exact absurd hu' (q1 _) | exact absurd hu' (q2 _ _)
        · cases he
      simp [execOp, e1, e2, den, Instr.index, asIntOf, run_underlying hu, h0, h1, sizeOf, typeInfo, hi, hsz, part, h3, h2]

end
end Go.AX
