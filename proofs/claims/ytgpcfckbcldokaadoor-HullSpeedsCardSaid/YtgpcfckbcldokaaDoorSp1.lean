/-
  This file has what the walks are built on: a symbolic state of one activation, and plain functions. Conditions: those that each theorem names.
-/
import Derived.Laws.Cover3
import Derived.Laws.StructEq
import Derived.RangeFuncIn
import Derived.RangeFuncRecord
import Derived.Test.YtgpcfckbcldokaaDoorSp0
/-
  What arguments read as: records of fixed cells, slices of them, structs that have slices.
-/
namespace Go.AX
open Go Go.ChangeShapes Go.WideShapes Go.RowKit

def Reads {α : Type} (P : Program) (t : TypeId) (enc : α → List Value) (n : Nat) (In : α → Prop) : Prop :=
  P.cellsOf t = n ∧ ∀ (H : Type) (e : TypeId × Value → H) (w : World) (base : Nat) (sp : Nat → Bool) (held : Bool) (fuel : Nat) (cs : List Value) (x : DataW H × List MemPlace),
    DataW.trod e P w base sp held fuel t cs = some x → ∃ a, cs = enc a ∧ In a

section
variable {P : Program} {H : Type} {e : TypeId × Value → H} {w : World} {base : Nat} {sp : Nat → Bool} {held : Bool}

theorem reads_int {t : TypeId} {k : IntKind} (hu : P.underlying t = some (.int k)) (hc : P.cellsOf t = 1) : Reads P t (fun n => [Value.int k n]) 1 (fun n => (Lit.int k n).wf = true) :=
  ⟨hc, fun _ _ _ _ _ _ _ _ _ h => by obtain ⟨n, h1, _, h2⟩ := DataW.trod_int hu h; exact ⟨n, h1, h2⟩⟩

theorem fields_of {t : TypeId} {fs : Array Field} {fuel : Nat} {cs : List Value} {x : DataW H × List MemPlace} (hu : P.underlying t = some (.struct fs)) (h : DataW.trod e P w base sp held fuel t cs = some x) :
    cs.length = P.cellsOf t ∧ ∀ (j : Nat) (fd : Field), fs[j]? = some fd → ∃ fuel y, DataW.trod e P w base sp held fuel fd.type ((cs.drop fd.offset).take (P.cellsOf fd.type)) = some y := by
  obtain ⟨xs, n, rfl, rfl, hl, hlen, hf⟩ := DataW.trod_struct hu h
  refine ⟨hl, fun j fd hj => ?_⟩
  have hlt : j < xs.length := by have := (Array.getElem?_eq_some_iff.1 hj).1; omega
  exact ⟨n, xs[j], by rw [hf j fd hj, List.getElem?_eq_getElem hlt]⟩

theorem Reads.at {α : Type} {t : TypeId} {enc : α → List Value} {n off : Nat} {In : α → Prop} {cs : List Value} (hR : Reads P t enc n In)
    (hx : ∃ fuel y, DataW.trod e P w base sp held fuel t ((cs.drop off).take (P.cellsOf t)) = some y) : ∃ a, (cs.drop off).take n = enc a ∧ In a := by
  obtain ⟨fuel, y, h⟩ := hx
  rw [hR.1] at h
  exact hR.2 _ _ _ _ _ _ _ _ _ h

theorem cut_cons {cs a r : List Value} {o n : Nat} (h : (cs.drop o).take n = a) (hr : cs.drop (o + n) = r) : cs.drop o = a ++ r := by
  rw [← h, ← hr, ← List.drop_drop, List.take_append_drop]

theorem recs_of {α : Type} {t el : TypeId} {enc : α → List Value} {n : Nat} {In : α → Prop} {fuel : Nat} {cs : List Value} {x : DataW H × List MemPlace} (hu : P.underlying t = some (.slice el)) (hR : Reads P el enc n In)
    (hn : 0 < n) (hlen : ∀ a, (enc a).length = n) (h : DataW.trod e P w base sp held fuel t cs = some x) :
    ∃ (s : SlV) (l : List α), cs = [.slice s.p s.n s.c] ∧ SlIs enc n w s l ∧ (∀ x ∈ l, In x) ∧ l.length ≤ 9223372036854775807 := by
  rcases DataW.trod_slice hu h with ⟨rfl, _⟩ | ⟨a, len, cap, elems, rest, m, _, rfl, _, hb, hl, hm, hel, hi, _, _⟩
  · exact ⟨⟨none, 0, 0⟩, [], rfl, slIs_nil, by simp, by simp⟩
  have build : ∀ k, k ≤ len → ∃ l : List α, l.length = k ∧ ∀ i x, l[i]? = some x → In x ∧ w.cells? base (a.add (i * n)) n = some (enc x) := by
    intro k
    induction k with
    | zero => intro _; exact ⟨[], rfl, fun i x hx => by simp at hx⟩
    | succ k ih =>
      intro hk
      obtain ⟨l, h1, h2⟩ := ih (by omega)
      have h3 := hi k (by omega)
      rw [List.getElem?_eq_getElem (by omega), hR.1, Option.bind_eq_some_iff] at h3
      obtain ⟨cs', h4, h5⟩ := h3
      obtain ⟨y, rfl, hy⟩ := hR.2 _ _ _ _ _ _ _ _ _ h5
      refine ⟨l ++ [y], by simp [h1], fun i x hx => ?_⟩
      rcases Nat.lt_or_ge i k with h6 | h6
      · rw [List.getElem?_append_left (by omega)] at hx; exact h2 i x hx
      · rw [List.getElem?_append_right (by omega)] at hx
        have : i - l.length = 0 := by
          have := (List.getElem?_eq_some_iff.1 hx).1
          simpa using this
        rw [this] at hx
        simp only [List.getElem?_cons_zero, Option.some.injEq] at hx
        subst hx
        obtain rfl : i = k := by omega
        exact ⟨hy, h4⟩
  obtain ⟨l, h1, h2⟩ := build len (Nat.le_refl _)
  have hcell : ∀ (i : Nat) x, l[i]? = some x → ∀ j, j < n → w.cell? ((a.add (i * n)).add j) = (enc x)[j]? := fun i x hx j hj => (World.cells?_some (h2 i x hx).2).2.2 j hj
  refine ⟨⟨some a, len, cap⟩, l, rfl, ⟨h1.symm, hl, fun hne => ?_⟩, fun x hx => ?_, by unfold maxLen at hm; omega⟩
  · have hpos : 0 < l.length := List.length_pos_iff.2 hne
    have h3 := hcell 0 l[0] (List.getElem?_eq_getElem hpos) 0 hn
    rw [List.getElem?_eq_getElem (by rw [hlen]; exact hn)] at h3
    have hspot : a.spot = none := by
      have := World.cell?_spot h3
      obtain ⟨b, o, sp⟩ := a
      simpa [Addr.add] using this
    obtain ⟨b, o, sp⟩ := a
    simp only at hspot
    subst hspot
    refine ⟨b, o, rfl, ?_, fun i x hx j v hv => ?_⟩
    · rcases Nat.lt_or_ge b w.heap.size with h9 | h9
      · exact h9
      · rw [addr_add, addr_add] at h3
        simp [World.cell?, Array.getElem?_eq_none h9] at h3
    · have hj : j < n := by rw [← hlen x]; exact (List.getElem?_eq_some_iff.1 hv).1
      have := hcell i x hx j hj
      rw [addr_add, addr_add] at this
      rw [this, hv]
  · obtain ⟨i, hi⟩ := List.getElem?_of_mem hx
    exact (h2 i x hi).1

theorem open_rec_arg {α : Type} {r : Reach} {b0 : Nat} {t : TypeId} {fs : Array Field} {enc : α → List Value} {n : Nat} {In : α → Prop} {v : Value} {d : DataW H} {ps : List MemPlace} (hu : P.underlying t = some (.struct fs)) (hR : Reads P t enc n In)
    (hval : Value.okWide P w r b0 t v) (h : DataW.Trod e P w base sp held t v d ps) : ∃ a, v = .agg (enc a).toArray ∧ In a := by
  obtain ⟨cs, rfl, _⟩ := okWide_struct hu hval
  obtain ⟨fuel, hf⟩ := h
  obtain ⟨a, h1, h2⟩ := hR.2 _ _ _ _ _ _ _ _ _ hf
  exact ⟨a, by rw [← h1]; rfl, h2⟩

theorem open_agg_arg {r : Reach} {b0 : Nat} {t : TypeId} {fs : Array Field} {v : Value} {d : DataW H} {ps : List MemPlace} (hu : P.underlying t = some (.struct fs)) (hval : Value.okWide P w r b0 t v) (h : DataW.Trod e P w base sp held t v d ps) :
    ∃ c : List Value, v = .agg c.toArray ∧ c.length = P.cellsOf t ∧ ∀ (j : Nat) (fd : Field), fs[j]? = some fd → ∃ fuel y, DataW.trod e P w base sp held fuel fd.type ((c.drop fd.offset).take (P.cellsOf fd.type)) = some y := by
  obtain ⟨cs, rfl, _⟩ := okWide_struct hu hval
  obtain ⟨fuel, hf⟩ := h
  exact ⟨cs.toList, rfl, fields_of hu hf⟩

theorem open_recs_at {α : Type} {t el : TypeId} {enc : α → List Value} {n off : Nat} {In : α → Prop} {c : List Value} (hu : P.underlying t = some (.slice el)) (hR : Reads P el enc n In) (hn : 0 < n) (h1 : P.cellsOf t = 1) (hlen : ∀ a, (enc a).length = n)
    (hx : ∃ fuel y, DataW.trod e P w base sp held fuel t ((c.drop off).take (P.cellsOf t)) = some y) :
    ∃ (s : SlV) (l : List α), (c.drop off).take 1 = [.slice s.p s.n s.c] ∧ SlIs enc n w s l ∧ (∀ x ∈ l, In x) ∧ l.length ≤ 9223372036854775807 := by
  obtain ⟨fuel, y, h⟩ := hx
  rw [h1] at h
  exact recs_of hu hR hn hlen h
end
end Go.AX

/-
  The core, further operations: equality of structs and Booleans; rows of one's own that are written.
-/
namespace Go.AX
open Go Go.RowKit

def partP (P : Program) (t : TypeId) (cs : Array Value) (off : Nat) : Option Value :=
  match P.underlying t with
  | some (.struct _) => (P.info? t).map fun i => .agg (cs.extract off (off + i.size))
  | some (.array _ _) => (P.info? t).map fun i => .agg (cs.extract off (off + i.size))
  | some _ => cs[off]?
  | none => none

theorem run_partP {P : Program} {t : TypeId} {cs : Array Value} {off : Nat} {v : Value} {w : World} (h : partP P t cs off = some v) : (part t cs off).run P w = .ok v w := by
  unfold partP at h
  split at h
  · rename_i fs hu
    cases hi : P.info? t with
    | none => rw [hi] at h; cases h
    | some i =>
      rw [hi] at h
      cases h
      simp [part, isAgg, run_underlying hu, sizeOf, typeInfo, hi]
  · rename_i n e hu
    cases hi : P.info? t with
    | none => rw [hi] at h; cases h
    | some i =>
      rw [hi] at h
      cases h
      simp [part, isAgg, run_underlying hu, sizeOf, typeInfo, hi]
  · rename_i u h1 h2 hu
    have h3 : (isAgg t).run P w = .ok false w := by
      simp only [isAgg, Sem.run_bind, run_underlying hu, Result.andThen_ok]
      cases u <;> first | rfl | exact absurd hu (h1 _) | exact absurd hu (h2 _ _)
    simp [part, h3, h]
  · cases h

def eqFs (P : Program) (rec : TypeId → Value → Value → Option Bool) (xs ys : Array Value) : List Field → Option Bool
  | [] => some true
  | f :: fs =>
    if f.name = "_" then none else
    match partP P f.type xs f.offset, partP P f.type ys f.offset with
    | some a, some b => match rec f.type a b, eqFs P rec xs ys fs with
      | some r, some r' => some (r && r')
      | _, _ => none
    | _, _ => none

def eqB (P : Program) : Nat → TypeId → Value → Value → Option Bool
  | 0, _, _, _ => none
  | d + 1, t, x, y =>
    match P.underlying t with
    | some .bool => match x, y with
      | .bool a, .bool b => some (a == b)
      | _, _ => none
    | some (.int _) => match x, y with
      | .int k a, .int k' b => if k = k' then some (a == b) else none
      | _, _ => none
    | some (.struct fs) => match x, y with
      | .agg xs, .agg ys => if P.stoodInHeld t = false then eqFs P (eqB P d) xs ys fs.toList else none
      | _, _ => none
    | _ => none

theorem run_eqFs {P : Program} {d d' : Nat} (ih : ∀ t x y b, eqB P d t x y = some b → ∀ w, (Op.equalIn d' t x y).run P w = .ok b w) {xs ys : Array Value} : ∀ {fs : List Field} {b : Bool}, eqFs P (eqB P d) xs ys fs = some b →
    ∀ w, (Op.eqFields d' xs ys fs).run P w = .ok b w := by
  intro fs
  induction fs with
  | nil => intro b h w; simp only [eqFs, Option.some.injEq] at h; subst h; simp [Op.eqFields]
  | cons f fs ihf =>
    intro b h w
    unfold eqFs at h
    split at h
    · cases h
    · rename_i hn
      split at h
      · rename_i a c ha hc
        split at h
        · rename_i r r' hr hr'
          simp only [Option.some.injEq] at h
          subst h
          have h1 := run_partP (w := w) ha
          have h2 := run_partP (w := w) hc
          have h3 := ih _ _ _ _ hr w
          have h4 := ihf hr' w
          simp only [Op.eqFields, hn, ne_eq, not_false_eq_true, if_true, Sem.run_bind, h1, h2, h3, Result.andThen_ok]
          cases r with
          | false => simp
          | true => simpa using h4
        · cases h
      · cases h

theorem run_eqB {P : Program} : ∀ (d d' : Nat) (t : TypeId) (x y : Value) (b : Bool), eqB P d t x y = some b → ∀ w, (Op.equalIn (d + d') t x y).run P w = .ok b w := by
  intro d
  induction d with
  | zero => intro d' t x y b h; simp [eqB] at h
  | succ d ih =>
    intro d' t x y b h w
    rw [show d + 1 + d' = (d + d') + 1 by omega]
    unfold eqB at h
    split at h
    · rename_i hu
      split at h
      · cases h; exact run_equalIn_bool' w _ _ _ _ hu
      · cases h
    · rename_i hu
      split at h
      · rename_i k a k' c
        split at h
        · rename_i hk
          subst hk
          cases h; exact run_equalIn_int w _ _ _ _ _ _ hu
        · cases h
      · cases h
    · rename_i fs hu
      split at h
      · split at h
        · rename_i hp
          have hf : P.fieldsOf t = fs := by simp [Program.fieldsOf, hu]
          rw [run_equalIn_struct w (d + d') t _ _ (by rw [hf]; exact hu) hp, hf]
          exact run_eqFs (fun t x y b h w => ih d' t x y b h w) h w
        · cases h
      · cases h
    · cases h

section
variable {cx : Cx} {s g : Map} {m : Nat → Nat} {a : Act} {w : World}
variable {d : Nat} {type : TypeId} {pos : String} {after : Array Edge} {guard : Option (Nat × Bool)}

theorem op_neS {ty ty' : TypeId} {x y : Operand} {v u : List SV} {r : Bool} (hN : d < cx.N) (hx : Ev s x (.g v)) (hy : Ev s y (.g u)) (hg : cx.P.eqGuardType cx.P.depth ty = false)
    (h : ∀ m, eqB cx.P 8 ty (den m (.g v)) (den m (.g u)) = some r) :
    OpRun cx ⟨some d, .binOp .neq ty x y ty', type, pos, after, guard⟩ s ⟨okeys x ++ okeys y, [(.t d, some (.x (.v (.bool (!r)))))], []⟩ :=
  op_eqv hN hx hy fun m w => by
    have h1 := run_eqB 8 9992 ty _ _ r (h m) w
    simp only [den] at h1 ⊢
    rw [Sem.run_bind, run_eqGuard_agg w _ _ _ _ _ _ hg]
    simp only [Result.andThen_ok]
    rw [run_neq_struct, h1]
    rfl

theorem op_neb {ty ty' : TypeId} {x y : Operand} {b c : Bool} (hN : d < cx.N) (hx : Ev s x (.v (.bool b))) (hy : Ev s y (.v (.bool c))) (hu : cx.P.underlying ty = some .bool) :
    OpRun cx ⟨some d, .binOp .neq ty x y ty', type, pos, after, guard⟩ s ⟨okeys x ++ okeys y, [(.t d, some (.x (.v (.bool (!(b == c))))))], []⟩ :=
  op_eqv hN hx hy fun m w => by
    simp [den, eqGuard, binOp, run_equal_bool w ty b c hu]

theorem Rel.setRow {L C o ty k : Nat} {cs : List Value} {v : Value} (h : Rel cx m g a w) (hr : g (.r L) = some (.vec true C ty k cs)) (ho : o < cs.length) :
    Rel cx m (upd [(.r L, some (.vec true C ty k (cs.set o v)))] g) a (w.setCell ⟨m L, o, none⟩ v) := by
  have hv := h.vec L true C ty k cs hr
  obtain ⟨hc, cur, hh, hsz, hcur⟩ : m C ≠ 0 ∧ ∃ cur : Array Value, w.heap[m L]? = some (.cells cur ty (0, 0)) ∧ cur.size = m C * k ∧ ∀ (i : Nat) (v : Value), cs[i]? = some v → cur[i]? = some v := by
    rcases hv with ⟨_, e⟩ | hv
    · subst e; simp at ho
    · exact hv
  have hlt : o < cur.size := by
    have := hcur o cs[o] (List.getElem?_eq_getElem ho)
    exact (Array.getElem?_eq_some_iff.1 this).1
  have hnb : ∀ {l ty' n}, g (.b l) = some (.sh ty' n) → m l ≠ m L := fun {l ty' n} hl => (h.sep L true C ty k cs l ty' n hr hl hc).symm
  have keep : ∀ {b : Nat}, b ≠ m L → (w.setCell ⟨m L, o, none⟩ v).heap[b]? = w.heap[b]? := fun {b} hb => Below.heap_setCell _ _ _ _ hb
  refine ⟨h.size, h.defers.step (fun k o h1 h2 => (keep fun e => by subst e; rw [hh] at h1; cases h1; simp [Obj.isCells] at h2).trans h1), fun i y hy => ?_, fun i b y hy => ?_, fun L' ty' n' hL => ?_, fun L' o' y hy => ?_, fun L' o' y hy => ?_, fun L1 L2 ty1 n1 ty2 n2 h1 h2 => ?_, fun L1 own C1 ty1 k1 cs1 hx => ?_, fun L1 own C1 ty1 k1 cs1 L' ty' n' hx hy hc1 => ?_,
    fun L1 C1 ty1 k1 cs1 L' own' C' ty' k' cs' hx hy hne hc1 hc' => ?_, fun L1 C1 ty1 k1 cs1 hx hc1 => ?_, h.held.setCell (p := ⟨m L, o, none⟩) (h.ownR L C ty k cs hr hc) _, by simpa [World.setCell] using h.top,
    fun L b hb => by obtain ⟨h1, ty, n, h2⟩ := h.fix L b hb; exact ⟨h1, ty, n, by rw [upd_one, if_neg (by simp)]; exact h2⟩, fun l i x hx => by rw [upd_one, if_neg (by simp)] at hx; exact h.us l i x hx, fun k o hk => ko_set h.ko hh hk⟩
  · rw [upd_one, if_neg (by simp)] at hy; exact h.tm i y hy
  · rw [upd_one, if_neg (by simp)] at hy; exact h.tmc i b y hy
  · rw [upd_one, if_neg (by simp)] at hL
    obtain ⟨h1, cs', h2, h3⟩ := h.blk L' ty' n' hL
    exact ⟨h1, cs', h2, by rw [keep (hnb hL)]; exact h3⟩
  · rw [upd_one, if_neg (by simp)] at hy
    obtain ⟨ty', n', hL'⟩ := h.own L' o' y hy
    have := h.cell L' o' y hy
    simp only [World.cell?] at this ⊢
    rw [keep (hnb hL')]; exact this
  · rw [upd_one, if_neg (by simp)] at hy
    obtain ⟨ty', n', hL'⟩ := h.own L' o' y hy
    exact ⟨ty', n', by rw [upd_one, if_neg (by simp)]; exact hL'⟩
  · rw [upd_one, if_neg (by simp)] at h1 h2; exact h.inj L1 L2 ty1 n1 ty2 n2 h1 h2
  · rw [upd_one] at hx
    by_cases e : Key.r L = Key.r L1
    · rw [if_pos e] at hx
      cases e
      simp only [Option.some.injEq, Val.vec.injEq] at hx
      obtain ⟨rfl, rfl, rfl, rfl, rfl⟩ := hx
      refine .inr ⟨hc, cur.setIfInBounds o v, ?_, by simpa using hsz, fun i u hi => ?_⟩
      · simp only [World.setCell, Array.getElem?_modify, hh]
        simp
      · rw [Array.getElem?_setIfInBounds]
        rw [List.getElem?_set] at hi
        by_cases e : o = i
        · subst e
          simp only [if_true] at hi ⊢
          rw [if_pos hlt]
          simpa [ho] using hi
        · rw [if_neg e] at hi ⊢
          exact hcur i u hi
    · rw [if_neg e] at hx
      have h1 := h.vec L1 own C1 ty1 k1 cs1 hx
      exact h1.same fun hc1 => keep fun e1 => h.sepR L C ty k cs L1 own C1 ty1 k1 cs1 hr hx (fun e2 => e (by rw [e2])) hc hc1 e1.symm
  · rw [upd_one, if_neg (by simp)] at hy
    rw [upd_one] at hx
    by_cases e : Key.r L = Key.r L1
    · rw [if_pos e] at hx
      cases e
      simp only [Option.some.injEq, Val.vec.injEq] at hx
      obtain ⟨rfl, rfl, rfl, rfl, rfl⟩ := hx
      exact (hnb hy).symm
    · rw [if_neg e] at hx
      exact h.sep L1 own C1 ty1 k1 cs1 L' ty' n' hx hy hc1
  · rw [upd_one] at hx hy
    by_cases e : Key.r L = Key.r L1
    · rw [if_pos e] at hx
      cases e
      simp only [Option.some.injEq, Val.vec.injEq] at hx
      obtain ⟨_, rfl, rfl, rfl, rfl⟩ := hx
      rw [if_neg (by simpa using hne)] at hy
      exact h.sepR L C ty k cs L' own' C' ty' k' cs' hr hy hne hc hc'
    · rw [if_neg e] at hx
      by_cases e2 : Key.r L = Key.r L'
      · rw [if_pos e2] at hy
        cases e2
        simp only [Option.some.injEq, Val.vec.injEq] at hy
        obtain ⟨rfl, rfl, rfl, rfl, rfl⟩ := hy
        exact h.sepR L1 C1 ty1 k1 cs1 L true C ty k cs hx hr hne hc1 hc
      · rw [if_neg e2] at hy
        exact h.sepR L1 C1 ty1 k1 cs1 L' own' C' ty' k' cs' hx hy hne hc1 hc'
  · rw [upd_one] at hx
    by_cases e : Key.r L = Key.r L1
    · rw [if_pos e] at hx
      cases e
      simp only [Option.some.injEq, Val.vec.injEq] at hx
      obtain ⟨_, rfl, rfl, rfl, rfl⟩ := hx
      exact h.ownR L C ty k cs hr hc
    · rw [if_neg e] at hx; exact h.ownR L1 C1 ty1 k1 cs1 hx hc1


def setN (cs : List Value) : Nat → List Value → List Value
  | _, [] => cs
  | o, v :: vs => setN (cs.set o v) (o + 1) vs

section
variable {α : Type} {enc : α → List Value}

end

theorem op_eqNil {ty ty' : TypeId} {x : Operand} {p : Option Addr} {n c : Nat} (hN : d < cx.N) (hx : Ev s x (.v (.slice p n c))) (hu : ∃ e, cx.P.underlying ty = some (.slice e)) :
    OpRun cx ⟨some d, .binOp .eql ty x (.const (.slice none 0 0)) ty', type, pos, after, guard⟩ s ⟨okeys x ++ okeys (.const (.slice none 0 0)), [(.t d, some (.x (.v (.bool p.isNone))))], []⟩ :=
  op_eqv (u := .v (.slice none 0 0)) hN hx rfl fun m w => by
    obtain ⟨e, hu⟩ := hu
    have h1 := run_equal_slice_nil (P := cx.P) w ty e p n c hu
    simp [den, eqGuard, binOp, h1]

theorem slIs_none {α : Type} {enc : α → List Value} {k : Nat} {n c : Nat} {l : List α} (h : SlIs enc k w ⟨none, n, c⟩ l) : l = [] := by
  cases l with
  | nil => rfl
  | cons x xs => obtain ⟨b, o, h1, _⟩ := h.2.2 (by simp); cases h1

theorem op_appendS {α : Type} {enc : α → List Value} {t e k bytes L C n L' C' q c2 : Nat} {p : Option Addr} {x y : Operand} {cs : List Value} {l : List α} (hN : d < cx.N) (hf : appFact cx.P t = some (e, k, bytes)) (hx : Ev s x (.o L C n)) (hr : s (.r L) = some (.vec true C e k cs)) (hcs : cs.length = n * k)
    (hy : Ev s y (.v (.slice p q c2))) (hl : ∀ (m : Nat → Nat) (a : Act) (w : World) (g : Map), Rel cx m g a w → SlIs enc k w ⟨p, q, c2⟩ l) (hk : ∀ x, (enc x).length = k) (h1 : ∀ x, (enc x).all oneC = true) (hb : (n + q) * bytes ≤ 140737488355328) (h63 : n + q ≤ 1000000000) (hne : L' ≠ C') :
    OpRun cx ⟨some d, .call ⟨.builtin .append, #[x, y], #[t, t]⟩, type, pos, after, guard⟩ s
      ⟨.r L :: (okeys x ++ okeys y), [(.t d, some (.x (.o L' C' (n + q)))), (.r L', some (.vec true C' e k (cs ++ l.flatMap enc))), (.r L, none)], [L', C']⟩ := by
  intro m a w g hrd hfr hrel K Q hK
  have e1 := hx.eval hrel (fun k hk => hrd k (reads_mem (by simp [hk])))
  have e2 := hy.eval hrel (fun k hk => hrd k (reads_mem (by simp [hk])))
  have e3 : g (.r L) = some (.vec true C e k cs) := by rw [hrd _ (reads_mem (by simp))]; exact hr
  have hs := hl m a w g hrel
  have hq : q = l.length := hs.1
  by_cases hq0 : q = 0
  · -- nothing is appended
    have hl0 : l = [] := List.length_eq_zero_iff.1 (by omega)
    subst hl0
    have hvec := hrel.vec L true C e k cs e3
    have hrun : (execOp a.eval ⟨some d, .call ⟨.builtin .append, #[x, y], #[t, t]⟩, type, pos, after, guard⟩).run cx.P w = .ok (.value (.slice (ptr0 (m L) (m C)) n (m C))) w := by
      unfold appFact at hf
      split at hf
      · rename_i e' ht
        split at hf
        · rename_i i hi
          split at hf
          · rename_i z hz
            split at hf
            · rename_i hsz
              simp only [Option.some.injEq, Prod.mk.injEq] at hf
              obtain ⟨rfl, rfl, rfl⟩ := hf
              have hnc : n ≤ m C := by
                rcases hvec with ⟨h0, h2⟩ | ⟨_, cur, _, hcur, hpre⟩
                · subst h2
                  simp only [List.length_nil] at hcs
                  rcases Nat.mul_eq_zero.1 hcs.symm with h | h
                  · omega
                  · have := hsz.2; omega
                · have : cs.length ≤ cur.size := by
                    rcases Nat.lt_or_ge cur.size cs.length with h | h
                    · have hlast := hpre cur.size cs[cur.size] (List.getElem?_eq_getElem h)
                      simp at hlast
                    · exact h
                  rw [hcs, hcur] at this
                  exact Nat.le_of_mul_le_mul_right this hsz.2
              subst hq0
              have hfc : ∀ pp, (Builtin.firstCells i.size 0 (.slice pp 0 c2)).run cx.P w = .ok #[] w := by
                intro pp
                cases pp with
                | none => simp [Builtin.firstCells]
                | some a => simpa using run_firstCells_some (P := cx.P) w i.size 0 a 0 c2 [] (by simp) (by simp)
              simp only [execOp, resolve, invoke, builtin, Sem.run_bind, Sem.run_pure, Result.andThen_ok, List.map_toArray, List.map_cons, List.map_nil, e1, e2, den]
              cases hp : ptr0 (m L) (m C) <;> simp [Builtin.append_, run_underlying ht, sizeOf, typeInfo, hi, Builtin.lenOf, hnc, hfc, storeCells]
            · cases hf
          · cases hf
        · cases hf
      · cases hf
    refine ⟨fun _ _ => trivial, ?_⟩
    rw [semAt_of _ _ (fun _ h => by cases h), hrun, Oper.uponIn_value]
    have hdrop : Rel cx m (upd [(.r L, none)] g) a w := hrel.weaken (fun q => by
        rw [upd_one]
        by_cases e : Key.r L = q
        · exact .inl (by rw [if_pos e])
        · exact .inr (by rw [if_neg e])) (fun L2 o h => by rw [upd_one, if_neg (by simp)]) (fun L2 b hb => by rw [upd_one, if_neg (by simp)])
    have ment : ∀ z, (∀ q, mentions z q (g q) = false) → ∀ q, mentions z q (upd [(.r L, none)] g q) = false := fun z hz q => by
      rw [upd_one]
      by_cases e : Key.r L = q
      · rw [if_pos e]; rfl
      · rw [if_neg e]; exact hz q
    have hold : ∀ {l' own' C2 ty' k' cs'}, upd [(.r L, none)] g (.r l') = some (.vec own' C2 ty' k' cs') → l' ≠ L ∧ g (.r l') = some (.vec own' C2 ty' k' cs') := fun {l' own' C2 ty' k' cs'} h => by
      rw [upd_one] at h
      by_cases e : Key.r L = Key.r l'
      · rw [if_pos e] at h; cases h
      · rw [if_neg e] at h; exact ⟨fun e2 => e (by rw [e2]), h⟩
    have hadd := hdrop.addRow (L := L') (C := C') (b := m L) (c := m C) (ty := e) (k := k) (own := true) (cs := cs) (ment L' (hfr L' (by simp))) (ment C' (hfr C' (by simp))) hne hvec (fun _ hc => hrel.ownR L C e k cs e3 hc)
      (fun hc l' ty' n' h => by rw [upd_one, if_neg (by simp)] at h; exact (hrel.sep L true C e k cs l' ty' n' e3 h hc).symm)
      (fun hc l' own' C2 ty' k' cs' h _ hc2 => by
        obtain ⟨hne', h'⟩ := hold h
        exact (hrel.sepR L C e k cs l' own' C2 ty' k' cs' e3 h' (Ne.symm hne') hc hc2).symm)
    subst hq0
    refine hK _ _ _ ((hadd.put (x := .o L' C' (n + 0)) hN ?_).congr fun q => ?_)
    · simp only [den]
      rw [setL_self, setL_ne _ _ hne, setL_self, Nat.add_zero]
    · simp only [List.flatMap_nil, List.append_nil, upd]
  · -- something is
    have hlne : l ≠ [] := fun h0 => hq0 (by rw [hq, h0]; rfl)
    obtain ⟨b0, o0, hp, _, hcell0⟩ := hs.2.2 hlne
    simp only at hp
    subst hp
    have hcell : ∀ j u, (l.flatMap enc)[j]? = some u → w.cell? ((⟨b0, o0, none⟩ : Addr).add j) = some u := by
      intro j u hj
      rw [addr_add]
      have hlt : j < (l.flatMap enc).length := (List.getElem?_eq_some_iff.1 hj).1
      rw [flat_length hk] at hlt
      have hk0 : 0 < k := by
        rcases Nat.eq_zero_or_pos k with h | h
        · subst h; simp at hlt
        · exact h
      have hi : j / k < l.length := Nat.div_lt_of_lt_mul (by rw [Nat.mul_comm]; exact hlt)
      have hjm : j % k < k := Nat.mod_lt _ hk0
      have hx0 : l[j / k]? = some l[j / k] := List.getElem?_eq_getElem hi
      have hjm2 : j % k < (enc l[j / k]).length := by rw [hk]; exact hjm
      have hv : (enc l[j / k])[j % k]? = some (enc l[j / k])[j % k] := List.getElem?_eq_getElem hjm2
      have h3 := hcell0 (j / k) _ hx0 (j % k) _ hv
      have h4 := flat_get hk hx0 hv
      have hdm : j / k * k + j % k = j := by rw [Nat.mul_comm]; exact Nat.div_add_mod j k
      rw [hdm, hj] at h4
      cases h4
      rw [show o0 + j / k * k + j % k = o0 + j by omega] at h3
      exact h3
    obtain ⟨b', c', w', hrun, hc', hv', hb', hsz, hos, htape, hout, hkk⟩ := append_core (ty := type) (q := q) hf (hrel.vec L true C e k cs e3) hcs (by rw [flat_length hk, hq]) hcell (fun u hu => by
      obtain ⟨z, _, hz2⟩ := List.mem_flatMap.1 hu
      exact oneC_eq (List.all_eq_true.1 (h1 z) u hz2)) (by omega) hb h63 (c2 := c2)
    refine ⟨fun _ _ => trivial, ?_⟩
    rw [semAt_of _ _ (fun _ h => by cases h)]
    have hex : (execOp a.eval ⟨some d, .call ⟨.builtin .append, #[x, y], #[t, t]⟩, type, pos, after, guard⟩).run cx.P w = .ok (.value (.slice (some ⟨b', 0, none⟩) (n + q) c')) w' := by
      simp only [execOp, resolve, invoke, builtin, Sem.run_bind, Sem.run_pure, Result.andThen_ok, List.map_toArray, List.map_cons, List.map_nil, e1, e2, den, hrun]
    rw [hex, Oper.uponIn_value]
    have hrel' := hrel.row (vs := cs ++ l.flatMap enc) e3 (hfr L' (by simp)) (hfr C' (by simp)) hne hc' hv' hb' hsz hos htape hout hkk
    refine hK _ _ _ ((hrel'.put (x := .o L' C' (n + q)) hN ?_).congr (fun q => (upd_cons g q).symm))
    simp only [den]
    rw [setL_self, setL_ne _ _ hne, setL_self, ptr0_ne hc']

theorem op_buildSlice0 {t ety L C kk : Nat} (hN : d < cx.N) (hne : L ≠ C) (h : ∀ w : World, (Instr.buildSlice t 0 #[]).run cx.P w = .ok (.slice (some ⟨w.heap.size, 0, none⟩) 0 0) (w.alloc (.cells #[] ety))) :
    OpRun cx ⟨some d, .buildSlice t 0 #[], type, pos, after, guard⟩ s ⟨[], [(.t d, some (.x (.o L C 0))), (.r L, some (.vec true C ety kk []))], [L, C]⟩ := by
  intro m a w g hrd hfr hrel K Q hK
  refine ⟨fun _ _ => trivial, ?_⟩
  rw [semAt_of _ _ (fun _ h => by cases h)]
  have hrun : (execOp a.eval ⟨some d, .buildSlice t 0 #[], type, pos, after, guard⟩).run cx.P w = .ok (.value (.slice (some ⟨w.heap.size, 0, none⟩) 0 0)) (w.alloc (.cells #[] ety)) := by
    have := h w
    simp [execOp, this]
  rw [hrun, Oper.uponIn_value]
  have h1 := hrel.world ((Below.refl w.heap.size w).alloc (Nat.le_refl _) (.cells #[] ety))
  have h2 := h1.addRow (L := L) (C := C) (b := w.heap.size + 1) (c := 0) (ty := ety) (k := kk) (own := true) (cs := []) (hfr L (by simp)) (hfr C (by simp)) hne (.inl ⟨rfl, rfl⟩) (fun _ hc => absurd rfl hc) (fun hc => absurd rfl hc) (fun hc => absurd rfl hc)
  refine hK _ _ _ ((h2.put (x := .o L C 0) hN ?_).congr (fun q => (upd_cons g q).symm))
  simp only [den, setL_self]
  rw [setL_ne _ _ hne, setL_self, ptr0_some]

end
end Go.AX

/-
  The core: calls that hand back several new rows of their own, apart from one another.
-/
namespace Go.AX
open Go Go.RowKit

def Apart (a b : SlV) : Prop := a.c ≠ 0 → b.c ≠ 0 → a.p ≠ b.p
def AllApart (a : SlV) : List SlV → Prop
  | [] => True
  | b :: l => Apart a b ∧ AllApart a l
def DistP : List SlV → Prop
  | [] => True
  | a :: l => AllApart a l ∧ DistP l

def NewRowsD (w w' : World) (sl : List SlV) (ds : List (Nat × Nat × Nat × List Value)) : Prop := NewRows w w' sl ds ∧ DistP sl

theorem AllApart.mem {a : SlV} : ∀ {l : List SlV}, AllApart a l → ∀ b ∈ l, Apart a b
  | [], _, _, h => by simp at h
  | x :: l, ⟨h1, h2⟩, b, hb => by
    rcases List.mem_cons.1 hb with rfl | hb
    · exact h1
    · exact AllApart.mem h2 b hb

def rowsUpT : List (Nat × Nat) → List (Nat × Nat × Nat × List Value) → St
  | (L, C) :: ls, (_, ty, k, cs) :: ds => rowsUpT ls ds ++ [(.r L, some (.vec true C ty k cs))]
  | _, _ => []

def RowsOld (m : Nat → Nat) (g : Map) (b0 : Nat) (X : List SlV) : Prop :=
  (∀ l ty n, g (.b l) = some (.sh ty n) → m l < b0) ∧ (∀ l own C ty k cs, g (.r l) = some (.vec own C ty k cs) → m C ≠ 0 → m l < b0 ∨ ∃ x ∈ X, x.c ≠ 0 ∧ x.p = some ⟨m l, 0, none⟩)

theorem Rel.newRowsT {cx : Cx} {a : Act} {w w' : World} {b0 : Nat} (hb0 : b0 ≤ w.heap.size) (hB : cx.B ≤ b0) : ∀ (ls : List (Nat × Nat)) (ds : List (Nat × Nat × Nat × List Value)) (sl X : List SlV) {m : Nat → Nat} {g : Map},
    ls.length = ds.length → distinct (labsOf ls) = true → (∀ l ∈ labsOf ls, ∀ q, mentions l q (g q) = false) → RowsOld m g b0 X → (∀ x ∈ X, AllApart x sl) → NewRows w w' sl ds → DistP sl → Rel cx m g a w' →
    ∃ m', Rel cx m' (upd (rowsUpT ls ds) g) a w' ∧ dens m' ls ds = sl.map SlV.val ∧ ∀ l, l ∉ labsOf ls → m' l = m l := by
  intro ls
  induction ls with
  | nil =>
    intro ds sl X m g hlen _ _ _ _ hn _ hrel
    cases ds with
    | nil =>
      cases sl with
      | nil => exact ⟨m, hrel, rfl, fun _ _ => rfl⟩
      | cons x xs => exact hn.elim
    | cons d ds => simp at hlen
  | cons x ls ih =>
    obtain ⟨L, C⟩ := x
    intro ds sl X m g hlen hd hf hu hX hn hD hrel
    cases ds with
    | nil => simp at hlen
    | cons d ds =>
      obtain ⟨n, ty, k, cs⟩ := d
      cases sl with
      | nil => exact hn.elim
      | cons a1 sl =>
        obtain ⟨h1, ⟨b, hp, hv, hfresh, hcl⟩, h3⟩ := hn
        simp only [labsOf, distinct, Bool.and_eq_true, List.all_eq_true, List.mem_cons, Bool.not_eq_true', forall_eq_or_imp] at hd
        obtain ⟨⟨hLC, hL⟩, hC, hd'⟩ := hd
        have hne : L ≠ C := fun e => by subst e; simp at hLC
        have fL := hf L (by simp [labsOf])
        have fC := hf C (by simp [labsOf])
        have hle : a1.c ≠ 0 → b0 ≤ b := fun hc => Nat.le_trans hb0 (hfresh hc)
        have hr1 := hrel.addRow (own := true) fL fC hne hv (fun _ hc => .inl (Nat.le_trans hB (hle hc))) (fun hc l ty' n' hl => by have := hu.1 l ty' n' hl; have := hle hc; omega)
          (fun hc l own' C2 ty' k' cs' hl ho hc2 => by
            rcases hu.2 l own' C2 ty' k' cs' hl hc2 with h | ⟨x, hx, hxc, hxp⟩
            · have := hle hc; omega
            · intro e
              have := (hX x hx).1 hxc hc
              rw [hxp, hp, ptr0_ne hc, e] at this
              exact this rfl)
        have hmem : ∀ l ∈ labsOf ls, l ≠ L ∧ l ≠ C := fun l hl => ⟨fun e => by have := hL l hl; rw [e] at this; simp at this, fun e => by have := hC l hl; rw [e] at this; simp at this⟩
        have hf' : ∀ l ∈ labsOf ls, ∀ q, mentions l q (upd [(.r L, some (.vec true C ty k cs))] g q) = false := by
          intro l hl q
          rw [upd_one]
          by_cases e : Key.r L = q
          · rw [if_pos e, ← e]
            have := hmem l hl
            simp [mentions, beq_ne (Ne.symm this.1), beq_ne (Ne.symm this.2)]
          · rw [if_neg e]; exact hf l (by simp [labsOf, hl]) q
        have mL : setL (setL m L b) C a1.c L = b := by rw [setL_ne _ _ hne, setL_self]
        have mC : setL (setL m L b) C a1.c C = a1.c := setL_self _ _ _
        have hu' : RowsOld (setL (setL m L b) C a1.c) (upd [(.r L, some (.vec true C ty k cs))] g) b0 (a1 :: X) := by
          refine ⟨fun l ty' n' hl => ?_, fun l own' C2 ty' k' cs' hl hc2 => ?_⟩
          · rw [upd_one, if_neg (by simp)] at hl
            have e1 := fL (.b l); have e2 := fC (.b l)
            rw [hl] at e1 e2
            rw [setL_ne _ _ (mentions_b e2), setL_ne _ _ (mentions_b e1)]
            exact hu.1 l ty' n' hl
          · rw [upd_one] at hl
            by_cases e : Key.r L = Key.r l
            · rw [if_pos e] at hl
              simp only [Option.some.injEq, Val.vec.injEq] at hl
              obtain ⟨_, rfl, _⟩ := hl
              cases e
              rw [mC] at hc2
              exact .inr ⟨a1, by simp, hc2, by rw [mL, hp, ptr0_ne hc2]⟩
            · rw [if_neg e] at hl
              have e1 := fL (.r l); have e2 := fC (.r l)
              rw [hl] at e1 e2
              have q1 := mentions_r e1; have q2 := mentions_r e2
              rw [setL_ne _ _ q2.2, setL_ne _ _ q1.2] at hc2
              rw [setL_ne _ _ q2.1, setL_ne _ _ q1.1]
              rcases hu.2 l own' C2 ty' k' cs' hl hc2 with h | ⟨x, hx, h⟩
              · exact .inl h
              · exact .inr ⟨x, by simp [hx], h⟩
        obtain ⟨m', hr', hden, hkeep⟩ := ih ds sl (a1 :: X) (by simpa using hlen) hd' hf' hu' (fun x hx => by
          rcases List.mem_cons.1 hx with rfl | hx
          · exact hD.1
          · exact (hX x hx).2) h3 hD.2 hr1
        have nL : L ∉ labsOf ls := fun h => (hmem L h).1 rfl
        have nC : C ∉ labsOf ls := fun h => (hmem C h).2 rfl
        refine ⟨m', ?_, ?_, fun l hl => ?_⟩
        · simp only [rowsUpT]
          rw [upd_append]; exact hr'
        · simp only [dens, List.map_cons, hden, List.cons.injEq, and_true, den, SlV.val]
          rw [hkeep L nL, hkeep C nC, setL_self, setL_ne _ _ hne, setL_self, hp, h1]
        · simp only [labsOf, List.mem_cons, not_or] at hl
          rw [hkeep l hl.2.2, setL_ne _ _ hl.2.1, setL_ne _ _ hl.1]

theorem op_callRowsD {cx : Cx} {s : Map} {d : Nat} {type : TypeId} {pos : String} {after : Array Edge} {guard : Option (Nat × Bool)} {fo : Operand} {fv : SV} {k : Nat} {fs caps xs : List SV} {args : Array Operand} {ts : Array TypeId} {extra : List Key}
    {R : List Value → Value} {x : SV} {ls : List (Nat × Nat)} {ds : List (Nat × Nat × Nat × List Value)}
    (hN : d < cx.N) (hen : Proofs.Enters cx.P k) (hf : Ev s fo fv) (hk : calleeOf k fs caps fv) (hx : EvL s args.toList xs) (hlen : ls.length = ds.length) (hd : distinct (labsOf ls) = true)
    (hden : ∀ (m : Nat → Nat), den m x = R (dens m ls ds))
    (hc : ∀ (m : Nat → Nat) (a : Act) (w : World) (g : Map), (∀ k ∈ extra, g k = s k) → Rel cx m g a w →
      Calls cx.P k (denL m (fs ++ (xs ++ caps))).toArray w fun e w' => ∃ sl : List SlV, e = .returned (R (sl.map SlV.val)) ∧ NewRowsD w w' sl ds ∧ Below w.heap.size w w') :
    OpRun cx ⟨some d, .call ⟨.value fo, args, ts⟩, type, pos, after, guard⟩ s ⟨okeys fo ++ okeysL args.toList ++ extra, (.t d, some (.x x)) :: rowsUpT ls ds, labsOf ls⟩ :=
  op_callG hen hf hk hx fun m a w g hr hfr hrel => (hc m a w g hr hrel).mono fun e w' ⟨sl, he, hnew, hb⟩ => by
    have hu := hrel.under
    obtain ⟨m', h1, h2, _⟩ := (hrel.world hb).newRowsT (Nat.le_refl _) hrel.top ls ds sl [] hlen hd (fun l hl q => hfr l hl q) ⟨hu.1, fun l own C ty k cs hl hc => .inl (hu.2 l own C ty k cs hl hc)⟩ (fun _ h => by simp at h) hnew.1 hnew.2
    exact ⟨_, m', he, (h1.put (x := x) hN (by rw [hden, h2])).congr (fun q => (upd_cons g q).symm)⟩

/-! ### Pairs -/
section
variable {cx : Cx} {s : Map} {m : Nat → Nat} {a : Act} {w : World}

theorem apart_rr {L C k ty L' C' k' ty' n n' : Nat} {own' : Bool} {cs cs' : List Value} (h : Rel cx m s a w) (h1 : s (.r L) = some (.vec true C ty k cs)) (h2 : s (.r L') = some (.vec own' C' ty' k' cs')) (hne : L ≠ L') :
    Apart ⟨ptr0 (m L) (m C), n, m C⟩ ⟨ptr0 (m L') (m C'), n', m C'⟩ := fun hc hc' e => by
  simp only [] at hc hc' e
  rw [ptr0_ne hc, ptr0_ne hc'] at e
  simp only [Option.some.injEq, Addr.mk.injEq, and_true] at e
  exact h.sepR L C ty k cs L' own' C' ty' k' cs' h1 h2 hne hc hc' e
end
section
variable {cx : Cx} {s : Map} {d : Nat} {type : TypeId} {pos : String} {after : Array Edge} {guard : Option (Nat × Bool)}
end
end Go.AX

/- Plain functions of the hull layer: limits, slower ships. -/
namespace Hull

def lev (n : Int) : Ice := ⟨100, n, 0, 0⟩

def limitE (s : Ship) (v : Int) (ch : Bool) : Int × Int :=
  if asked s ⟨0, 0, 0, 0⟩ v ≠ 0 then (0, asked s ⟨0, 0, 0, 0⟩ v)
  else if (greatest (fun n => makes s (lev n) ch v) 0 400).2 = false then (0, 4) else ((greatest (fun n => makes s (lev n) ch v) 0 400).1, 0)

def makesE (s : Ship) (i : Ice) (v : Int) (ch : Bool) : Bool × Int := if asked s i v ≠ 0 then (false, asked s i v) else (makes s i ch v, 0)

def safeE (s : Ship) (c : Cell) (ch : Bool) : Int × Int := if met s c ≠ 0 then (0, met s c) else safe s c ch
end Hull

/-
  Shorter words for what the walks repeat.
-/
namespace Go.AX
open Go

abbrev SV.i (n : Int) : SV := .v (.int .i64 n)
abbrev SV.B (b : Bool) : SV := .v (.bool b)
abbrev kt (t : Nat) (x : SV) : Key × Option Val := (.t t, some (.x x))
abbrev kc (L o : Nat) (x : SV) : Key × Option Val := (.c L o, some (.x x))
abbrev kb (L ty n : Nat) : Key × Option Val := (.b L, some (.sh ty n))

def getAll (s : St) : St → St
  | [] => []
  | x :: r => (x.1, get s x.1) :: getAll s r

theorem kp {s' s : St} (h : getAll s s' = s') : Keep s' s := by
  induction s' with
  | nil => trivial
  | cons x r ih =>
    simp only [getAll, List.cons.injEq] at h
    exact ⟨(congrArg Prod.snd h.1 : _), ih h.2⟩
end Go.AX

/-
  Activations that wait: a loop over a function, its iterator walked in place, and each round of the loop in place of the iterator's call of yield.
-/
namespace Go.AX
open Go Go.RowKit

def susSt (l : Nat) : List (Nat × SV) → St
  | [] => []
  | (i, v) :: r => (.u l i, some (.x v)) :: susSt l r

def tmpSt : List (Nat × SV) → St
  | [] => []
  | (i, v) :: r => (.t i, some (.x v)) :: tmpSt r

def TAre (s : Map) : List (Nat × SV) → Prop
  | [] => True
  | (i, v) :: r => s (.t i) = some (.x v) ∧ TAre s r

def UAre (l : Nat) (s : Map) : List (Nat × SV) → Prop
  | [] => True
  | (i, v) :: r => s (.u l i) = some (.x v) ∧ UAre l s r

theorem TAre.mem {s : Map} : ∀ {ts : List (Nat × SV)}, TAre s ts → ∀ q ∈ ts, s (.t q.1) = some (.x q.2) := by
  intro ts
  induction ts with
  | nil => intro _ q hq; simp at hq
  | cons x r ih =>
    intro h q hq
    rcases List.mem_cons.1 hq with rfl | hq
    · exact h.1
    · exact ih h.2 q hq

theorem UAre.mem {l : Nat} {s : Map} : ∀ {ts : List (Nat × SV)}, UAre l s ts → ∀ q ∈ ts, s (.u l q.1) = some (.x q.2) := by
  intro ts
  induction ts with
  | nil => intro _ q hq; simp at hq
  | cons x r ih =>
    intro h q hq
    rcases List.mem_cons.1 hq with rfl | hq
    · exact h.1
    · exact ih h.2 q hq

def noTU (l : Nat) (s : St) : Bool := s.all fun x => match x.1 with | .t _ => false | .u l' _ => !Nat.beq l' l | _ => true

theorem noTU_t {l i : Nat} {s : St} (h : noTU l s = true) : get s (.t i) = none := by
  refine upd_of_touches ?_ _
  cases e : touches (.t i) s with
  | false => rfl
  | true =>
    obtain ⟨x, hx, hk⟩ := touches_iff.1 e
    have := List.all_eq_true.1 h x hx
    rw [hk] at this; simp at this

theorem noTU_u {l i : Nat} {s : St} (h : noTU l s = true) : get s (.u l i) = none := by
  refine upd_of_touches ?_ _
  cases e : touches (.u l i) s with
  | false => rfl
  | true =>
    obtain ⟨x, hx, hk⟩ := touches_iff.1 e
    have := List.all_eq_true.1 h x hx
    rw [hk] at this; simp at this

theorem upd_susSt {l : Nat} {g : Map} : ∀ {ts : List (Nat × SV)} {k : Key}, (∀ i, k ≠ .u l i) → upd (susSt l ts) g k = g k := by
  intro ts
  induction ts with
  | nil => intro k _; rfl
  | cons x r ih =>
    intro k hk
    simp only [susSt, upd]
    rw [Key.eqb_false (fun e => hk x.1 e.symm), cond_false]
    exact ih hk

theorem upd_tmpSt {g : Map} : ∀ {ts : List (Nat × SV)} {k : Key}, (∀ i, k ≠ .t i) → upd (tmpSt ts) g k = g k := by
  intro ts
  induction ts with
  | nil => intro k _; rfl
  | cons x r ih =>
    intro k hk
    simp only [tmpSt, upd]
    rw [Key.eqb_false (fun e => hk x.1 e.symm), cond_false]
    exact ih hk

theorem upd_susSt_some {l : Nat} {g : Map} (hg : ∀ i, g (.u l i) = none) : ∀ {ts : List (Nat × SV)} {i : Nat} {v : Val}, upd (susSt l ts) g (.u l i) = some v → ∃ x, (i, x) ∈ ts ∧ v = .x x := by
  intro ts
  induction ts with
  | nil => intro i v h; simp only [susSt, upd] at h; rw [hg] at h; cases h
  | cons y r ih =>
    intro i v h
    obtain ⟨j, x⟩ := y
    simp only [susSt, upd] at h
    by_cases e : j = i
    · subst e
      rw [Key.eqb_self] at h
      simp only [cond_true, Option.some.injEq] at h
      exact ⟨x, by simp, h.symm⟩
    · rw [Key.eqb_false (by simpa using e), cond_false] at h
      obtain ⟨x', h1, h2⟩ := ih h
      exact ⟨x', by simp [h1], h2⟩

theorem upd_tmpSt_some {g : Map} (hg : ∀ i, g (.t i) = none) : ∀ {ts : List (Nat × SV)} {i : Nat} {v : Val}, upd (tmpSt ts) g (.t i) = some v → ∃ x, (i, x) ∈ ts ∧ v = .x x := by
  intro ts
  induction ts with
  | nil => intro i v h; simp only [tmpSt, upd] at h; rw [hg] at h; cases h
  | cons y r ih =>
    intro i v h
    obtain ⟨j, x⟩ := y
    simp only [tmpSt, upd] at h
    by_cases e : j = i
    · subst e
      rw [Key.eqb_self] at h
      simp only [cond_true, Option.some.injEq] at h
      exact ⟨x, by simp, h.symm⟩
    · rw [Key.eqb_false (by simpa using e), cond_false] at h
      obtain ⟨x', h1, h2⟩ := ih h
      exact ⟨x', by simp [h1], h2⟩

theorem upd_argSt {g : Map} : ∀ {vs : List SV} {i : Nat} {k : Key}, (∀ j, k ≠ .t j) → upd (argSt i vs) g k = g k := by
  intro vs
  induction vs with
  | nil => intro i k _; rfl
  | cons x r ih =>
    intro i k hk
    simp only [argSt, upd]
    rw [Key.eqb_false (fun e => hk i e.symm), cond_false]
    exact ih hk

theorem upd_argSt_some {g : Map} (hg : ∀ i, g (.t i) = none) : ∀ {vs : List SV} {i n : Nat} {v : Val}, upd (argSt i vs) g (.t n) = some v → ∃ j x, n = i + j ∧ vs[j]? = some x ∧ v = .x x := by
  intro vs
  induction vs with
  | nil => intro i n v h; simp only [argSt, upd] at h; rw [hg] at h; cases h
  | cons y r ih =>
    intro i n v h
    simp only [argSt, upd] at h
    by_cases e : i = n
    · subst e
      rw [Key.eqb_self] at h
      simp only [cond_true, Option.some.injEq] at h
      exact ⟨0, y, rfl, rfl, h.symm⟩
    · rw [Key.eqb_false (by simpa using e), cond_false] at h
      obtain ⟨j, x, h1, h2, h3⟩ := ih h
      exact ⟨j + 1, x, by omega, by simpa using h2, h3⟩

def setSus (S : Nat → Array Value) (l : Nat) (v : Array Value) : Nat → Array Value := fun k => if k = l then v else S k
theorem setSus_self {S : Nat → Array Value} {l : Nat} {v : Array Value} : setSus S l v l = v := if_pos rfl
theorem setSus_ne {S : Nat → Array Value} {l k : Nat} {v : Array Value} (h : k ≠ l) : setSus S l v k = S k := if_neg h

section
variable {P : Program} {r r' : Option Nat} {B N N' : Nat} {w0 : World} {ds ds' : Bool} {bor : List (Nat × Nat)} {S S' : Nat → Array Value} {K K' : List (Nat × Obj)} {m : Nat → Nat} {a a' : Act} {w w' : World}

theorem Rel.view {s0 s1 : St} (h : Rel ⟨P, r, B, w0, N, ds, bor, S, K⟩ m (get s0) a w) (hsz : a'.tmps.size = N') (hd : Marks ds' B a'.defers w)
    (hb : ∀ L, get s1 (.b L) = get s0 (.b L)) (hc : ∀ L o, get s1 (.c L o) = get s0 (.c L o)) (hr : ∀ L, get s1 (.r L) = get s0 (.r L))
    (ht : ∀ i v, get s1 (.t i) = some v → ∃ x, v = .x x ∧ a'.tmps[i]? = some (den m x)) (hu : ∀ l i x, get s1 (.u l i) = some (.x x) → (S' l)[i]? = some (den m x))
    (hk : ∀ k o, (k, o) ∈ K' → w.heap[k]? = some o ∧ o.isCells = false) : Rel ⟨P, r', B, w0, N', ds', bor, S', K'⟩ m (get s1) a' w := by
  refine ⟨hsz, hd, fun i x hx => ?_, fun i b x hx => ?_, fun L ty n hx => h.blk L ty n (by rw [← hb]; exact hx), fun L o x hx => h.cell L o x (by rw [← hc]; exact hx), fun L o x hx => ?_,
    fun L L' ty n ty' n' h1 h2 => h.inj L L' ty n ty' n' (by rw [← hb]; exact h1) (by rw [← hb]; exact h2), fun L own C ty k cs hx => h.vec L own C ty k cs (by rw [← hr]; exact hx),
    fun L own C ty k cs L' ty' n' h1 h2 => h.sep L own C ty k cs L' ty' n' (by rw [← hr]; exact h1) (by rw [← hb]; exact h2),
    fun L C ty k cs L' own' C' ty' k' cs' h1 h2 => h.sepR L C ty k cs L' own' C' ty' k' cs' (by rw [← hr]; exact h1) (by rw [← hr]; exact h2),
    fun L C ty k cs hx => h.ownR L C ty k cs (by rw [← hr]; exact hx), ⟨h.held.os, h.held.tape, h.held.output, h.held.size, h.held.block⟩, h.top, fun L b hb' => ?_, hu, hk⟩
  · obtain ⟨y, hy, h1⟩ := ht i _ hx
    cases hy; exact h1
  · obtain ⟨y, hy, h1⟩ := ht i _ hx
    cases hy
  · obtain ⟨ty, n, h1⟩ := h.own L o x (by rw [← hc]; exact hx)
    exact ⟨ty, n, by rw [hb]; exact h1⟩
  · obtain ⟨h1, ty, n, h2⟩ := h.fix L b hb'
    exact ⟨h1, ty, n, by rw [hb]; exact h2⟩

theorem Rel.addObj {g : Map} {o : Obj} (h : Rel ⟨P, r, B, w0, N, ds, bor, S, K⟩ m g a w) (ho : o.isCells = false) : Rel ⟨P, r, B, w0, N, ds, bor, S, (w.heap.size, o) :: K⟩ m g a (w.alloc o) := by
  have hw : Below w.heap.size w (w.alloc o) := (Below.refl _ w).alloc (Nat.le_refl _) o
  have h1 := h.world hw
  refine ⟨h1.size, h1.defers, h1.tm, h1.tmc, h1.blk, h1.cell, h1.own, h1.inj, h1.vec, h1.sep, h1.sepR, h1.ownR, ⟨h1.held.os, h1.held.tape, h1.held.output, h1.held.size, h1.held.block⟩, h1.top, h1.fix, h1.us, fun k o' hk => ?_⟩
  rcases List.mem_cons.1 hk with e | hk
  · cases e; exact ⟨World.alloc_heap_new w o, ho⟩
  · exact h1.ko k o' hk

theorem Rel.otherObj {g : Map} {l : Nat} {o : Obj} (o' : Obj) (h : Rel ⟨P, r, B, w0, N, ds, bor, S, K⟩ m g a w) (hl : B ≤ l) (hlo : w.heap[l]? = some o) (ho : o.isCells = false) (hd : Marks ds' B a'.defers (w.putObj l o')) (hat : a'.tmps = a.tmps)
    (hK : ∀ k o, (k, o) ∈ K' → (w.putObj l o').heap[k]? = some o ∧ o.isCells = false) : Rel ⟨P, r, B, w0, N, ds', bor, S, K'⟩ m g a' (w.putObj l o') := by
  have hne : ∀ {k : Nat} {q : Obj}, w.heap[k]? = some q → q.isCells = true → k ≠ l := fun h1 h2 e => by subst e; rw [hlo] at h1; cases h1; rw [ho] at h2; cases h2
  have hk : ∀ {k : Nat}, k ≠ l → (w.putObj l o').heap[k]? = w.heap[k]? := fun e => World.putObj_heap_other e
  have hbox : ∀ {L ty n}, g (.b L) = some (.sh ty n) → (w.putObj l o').heap[m L]? = w.heap[m L]? := fun {L ty n} hL => by
    obtain ⟨_, cs, _, h3⟩ := h.blk L ty n hL
    exact hk (hne h3 rfl)
  refine ⟨by rw [hat]; exact h.size, hd, by rw [hat]; exact h.tm, by rw [hat]; exact h.tmc, fun L ty n hL => ?_, fun L o y hy => ?_, h.own, h.inj, fun L own C ty k cs hx => ?_, h.sep, h.sepR, h.ownR,
    ⟨h.held.os, h.held.tape, h.held.output, by simpa using h.held.size, fun k h1 h2 => (hk (by show k ≠ l; have : k < B := h1; omega)).trans (h.held.block k h1 h2)⟩, by simpa using h.top, h.fix, h.us, hK⟩
  · obtain ⟨h1, cs, h2, h3⟩ := h.blk L ty n hL
    exact ⟨h1, cs, h2, by rw [hbox hL]; exact h3⟩
  · obtain ⟨ty, n, hL⟩ := h.own L o y hy
    have := h.cell L o y hy
    simp only [World.cell?] at this ⊢
    rw [hbox hL]; exact this
  · have := h.vec L own C ty k cs hx
    refine this.same fun hc => hk fun e => ?_
    exact VecAt.notCells this hc (e ▸ hlo) ho

end

/-! ### The loop -/

def recOf (fn : FuncId) (aT : Array Value) (ps : Array Tmp) (assign body : Code) (D : Nat) (st : LoopState) : Loop :=
  { state := st, pending := none, fn, tmps := aT, params := ps, assign, body, defers := D }

def MarksK (ds : Bool) (B : Nat) (aD : List Deferred) (K : List (Nat × Obj)) : Prop := ∃ ms : List Nat, aD = ms.map mark ∧ (ds = false → ms = []) ∧ ms.Nodup ∧ ∀ D ∈ ms, B ≤ D ∧ (D, Obj.deferred (some [])) ∈ K

theorem MarksK.marks {ds : Bool} {B : Nat} {aD : List Deferred} {K : List (Nat × Obj)} {w : World} (h : MarksK ds B aD K) (hk : ∀ k o, (k, o) ∈ K → w.heap[k]? = some o) : Marks ds B aD w := by
  obtain ⟨ms, h1, h2, h3, h4⟩ := h
  exact ⟨ms, h1, h2, h3, fun D hD => ⟨(h4 D hD).1, hk _ _ (h4 D hD).2⟩⟩

abbrev LoopEnd (P : Program) (Q : Exit → Act → World → Prop) (l : Nat) (aT : Array Value) (aD : List Deferred) : Ending → World → Prop := rangePost Fence.wide 0 P l Q { tmps := aT, defers := aD }

theorem aw_rangeFunc {P : Program} {B N N' : Nat} {w0 : World} {bor : List (Nat × Nat)} {S : Nat → Array Value} {K : List (Nat × Obj)} {s : St} {Q : Exit → Act → World → Prop} {g : Operand} {ps : Array Tmp} {assign body : Code}
    {fv : SV} {k : Nat} {caps : List SV} {fnk : Func} {ck : Code} (lv : Nat) (ts : List (Nat × SV)) (s0 : St) (hf : Ev (get s) g fv) (hk : calleeOf k [] caps fv) (hfn : P.funcs[k]? = some fnk) (hb : fnk.body = some ck) (hN : fnk.ntmps = N')
    (hen : Proofs.Enters P k) (hlen : caps.length + 1 ≤ N') (hts : TAre (get s) ts) (hk0 : Keep s0 s) (hok : keepOK ⟨P, none, B, w0, N, true, bor, S, K⟩ s0 = true) (hnt : noTU lv s0 = true)
    (h : ∀ (l D : Nat) (fn : FuncId) (aT : Array Value) (aD : List Deferred) (K2 : List (Nat × Obj)), B ≤ l → (∀ p ∈ K2, p.1 ≠ l) → MarksK true B aD K2 → (∀ p ∈ K, p ∈ K2) → aT.size = N →
      AW ⟨P, none, B, w0, N', false, bor, setSus S lv aT, (l, .loop (recOf fn aT ps assign body D .ready)) :: K2⟩ ck (argSt 0 (.v (.func (.yield l) #[] #[]) :: caps) ++ (susSt lv ts ++ s0)) (bodyPost P fnk (LoopEnd P Q l aT aD))) :
    AW ⟨P, none, B, w0, N, true, bor, S, K⟩ (.rangeFunc g ps assign body) s Q := by
  intro m a w hrel
  have hF : (Cx.F ⟨P, none, B, w0, N, true, bor, S, K⟩) = Fence.wide := rfl
  rw [hF]
  refine wpIn_rangeFunc ?_
  intro fn _
  have hev := hf.eval hrel (fun _ _ => rfl)
  have hfv : den m fv = .func (.func k) #[] (denL m caps).toArray := by
    cases fv with
    | v v => obtain ⟨rfl, _, rfl⟩ := hk; rfl
    | f fn bs cs => obtain ⟨rfl, hbs, rfl⟩ := hk; subst hbs; rfl
    | _ => exact hk.elim
  rw [hfv] at hev
  obtain ⟨ms, hm1, _, hm3, hm4⟩ := hrel.defers
  refine ⟨w.heap.size + 1, [mark w.heap.size], (w.alloc (.deferred (some []))).alloc (.loop (recOf fn a.tmps ps assign body w.heap.size .ready)), { target := .fn (.func k) (denL m caps).toArray, args := #[.func (.yield (w.heap.size + 1)) #[] #[]] }, (w.alloc (.deferred (some []))).alloc (.loop (recOf fn a.tmps ps assign body w.heap.size .ready)), k,
    #[.func (.yield (w.heap.size + 1)) #[] #[]] ++ (denL m caps).toArray, (w.alloc (.deferred (some []))).alloc (.loop (recOf fn a.tmps ps assign body w.heap.size .ready)), ?_, ?_, ?_, ?_, fun h => absurd (show (none : Option Nat).isSome = true from h) (by decide), ?_⟩
  · exact run_enterLoop_outer _ _ _ _ _
  · simp only [resolve, hev]
    simp [go_sem]
  · intro f' _; trivial
  · have := hen (#[.func (.yield (w.heap.size + 1)) #[] #[]] ++ (denL m caps).toArray) ((w.alloc (.deferred (some []))).alloc (.loop (recOf fn a.tmps ps assign body w.heap.size .ready)))
    simp only [invoke] at this ⊢
    simpa [go_sem] using this
  · have hr1 := hrel.addObj (o := .deferred (some [])) rfl
    have hr2 := hr1.addObj (o := .loop (recOf fn a.tmps ps assign body w.heap.size .ready)) rfl
    have e1 : (w.alloc (.deferred (some []))).heap.size = w.heap.size + 1 := by simp
    rw [e1] at hr2
    have hms : ∀ D ∈ ms, D < w.heap.size := fun D hD => (Array.getElem?_eq_some_iff.1 (hm4 D hD).2).1
    have hko := hr2.ko
    obtain ⟨K2, hK2⟩ : ∃ K2, K2 = (w.heap.size, Obj.deferred (some [])) :: (ms.map (fun D => (D, Obj.deferred (some []))) ++ K) := ⟨_, rfl⟩
    have hK2l : ∀ p ∈ K2, p.1 ≠ w.heap.size + 1 := by
      intro p hp e
      rw [hK2] at hp
      rcases List.mem_cons.1 hp with rfl | hp
      · simp at e
      · rcases List.mem_append.1 hp with hp | hp
        · obtain ⟨D, hD, rfl⟩ := List.mem_map.1 hp
          have := hms D hD
          simp at e; omega
        · have := (hrel.ko p.1 p.2 hp).1
          have := (Array.getElem?_eq_some_iff.1 this).1
          omega
    have hB : B ≤ w.heap.size + 1 := by have : B ≤ w.heap.size := hrel.top; omega
    have hr3 := hrel.keep hk0 hok
    refine callsIn_of_wp hfn hb trivial ?_
    have h2 := h (w.heap.size + 1) w.heap.size fn a.tmps ([mark w.heap.size] ++ a.defers) K2 hB hK2l ?_ ?_ hrel.size
    · subst hN
      refine h2 m _ _ ?_
      have hr4 := (hr2.keep hk0 (by simpa [keepOK] using hok))
      have hargs : #[Value.func (.yield (w.heap.size + 1)) #[] #[]] ++ (denL m caps).toArray = (denL m (.v (.func (.yield (w.heap.size + 1)) #[] #[]) :: caps)).toArray := by simp [denL, den]
      rw [hargs]
      have hs0 : ∀ {k : Key}, (∀ j, k ≠ .t j) → (∀ j, k ≠ .u lv j) → get (argSt 0 (.v (.func (.yield (w.heap.size + 1)) #[] #[]) :: caps) ++ (susSt lv ts ++ s0)) k = get s0 k := fun {k} h1 h2 => by
        rw [get_append, upd_argSt h1, get_append, upd_susSt h2]
      have ht0 : ∀ i, get (susSt lv ts ++ s0) (.t i) = none := fun i => by rw [get_append, upd_susSt (by simp)]; exact noTU_t hnt
      refine hr4.view ?_ marks_nil (fun L => hs0 (by simp) (by simp)) (fun L o => hs0 (by simp) (by simp)) (fun L => hs0 (by simp) (by simp)) (fun i v hv => ?_) (fun l i x hx => ?_) (fun k o hk => ?_)
      · simp [denL_length]; omega
      · rw [get_append] at hv
        obtain ⟨j, x, rfl, h5, rfl⟩ := upd_argSt_some ht0 hv
        refine ⟨x, rfl, ?_⟩
        simp only [Nat.zero_add]
        have hlt := (List.getElem?_eq_some_iff.1 h5).1
        rw [Array.getElem?_append_left (by simpa [denL_length] using hlt), List.getElem?_toArray, denL_get, h5]
        rfl
      · by_cases e : l = lv
        · subst e
          rw [setSus_self]
          rw [get_append, upd_argSt (by simp), get_append] at hx
          obtain ⟨y, h5, h6⟩ := upd_susSt_some (fun i => noTU_u hnt) hx
          cases h6
          exact hrel.tm i x (hts.mem (i, x) h5)
        · rw [setSus_ne e]
          rw [hs0 (by simp) (by simpa using e)] at hx
          exact hr3.us l i x hx
      · rcases List.mem_cons.1 hk with e | hk
        · cases e; exact hko _ _ (by simp)
        · rw [hK2] at hk
          rcases List.mem_cons.1 hk with e | hk
          · cases e; exact hko _ _ (by simp)
          · rcases List.mem_append.1 hk with hk | hk
            · obtain ⟨D, hD, e⟩ := List.mem_map.1 hk
              cases e
              have hlt := hms _ hD
              refine ⟨?_, rfl⟩
              rw [Below.heap_alloc _ _ _ (by simp; omega), Below.heap_alloc _ _ _ hlt]
              exact (hm4 _ hD).2
            · exact hko _ _ (by simp [hk])
    · refine ⟨w.heap.size :: ms, by rw [hm1]; rfl, by simp, ?_, fun D hD => ?_⟩
      · exact List.nodup_cons.2 ⟨fun h => by have := hms _ h; omega, hm3⟩
      · rw [hK2]
        rcases List.mem_cons.1 hD with rfl | hD
        · exact ⟨hrel.top, by simp⟩
        · refine ⟨(hm4 D hD).1, ?_⟩
          simp only [List.mem_cons, List.mem_append, List.mem_map]
          exact .inr (.inl ⟨D, hD, rfl⟩)
    · intro p hp
      rw [hK2]; simp [hp]

/-! ### The iterator has returned -/

theorem get_tmpSt {ts : List (Nat × SV)} {s0 : St} {k : Key} (h : ∀ i, k ≠ .t i) : get (tmpSt ts ++ s0) k = get s0 k := by rw [get_append, upd_tmpSt h]

theorem Rel.outer {P : Program} {r r' : Option Nat} {B N N' : Nat} {w0 : World} {ds ds' : Bool} {bor : List (Nat × Nat)} {S : Nat → Array Value} {K K' : List (Nat × Obj)} {m : Nat → Nat} {a : Act} {w : World} {s' : St} (lv : Nat) {aT : Array Value} {aD : List Deferred}
    (ts : List (Nat × SV)) (s0 : St) (h : Rel ⟨P, r', B, w0, N', ds', bor, setSus S lv aT, K'⟩ m (get s') a w) (hu : UAre lv (get s') ts) (hk0 : Keep s0 s') (hok : keepOK ⟨P, r', B, w0, N', ds', bor, S, K'⟩ s0 = true) (hnt : noTU lv s0 = true)
    (hsz : aT.size = N) (hd : Marks ds B aD w) (hk : ∀ k o, (k, o) ∈ K → w.heap[k]? = some o ∧ o.isCells = false) :
    Rel ⟨P, r, B, w0, N, ds, bor, S, K⟩ m (get (tmpSt ts ++ s0)) { tmps := aT, defers := aD } w := by
  have h0 := h.keep hk0 (by simpa [keepOK] using hok)
  refine h0.view (a' := { tmps := aT, defers := aD }) hsz hd (fun L => get_tmpSt (by simp)) (fun L o => get_tmpSt (by simp)) (fun L => get_tmpSt (by simp)) (fun i v hv => ?_) (fun l i x hx => ?_) hk
  · rw [get_append] at hv
    obtain ⟨x, h5, rfl⟩ := upd_tmpSt_some (fun i => noTU_t hnt) hv
    refine ⟨x, rfl, ?_⟩
    have := h.us lv i x (hu.mem (i, x) h5)
    simpa [setSus_self] using this
  · rw [get_tmpSt (by simp)] at hx
    have hne : l ≠ lv := fun e => by subst e; rw [noTU_u hnt] at hx; cases hx
    have := h0.us l i x hx
    simpa [setSus_ne hne] using this

theorem fin_rangeEnd {P : Program} {B N N' : Nat} {w0 : World} {bor : List (Nat × Nat)} {S : Nat → Array Value} {K K2 : List (Nat × Obj)} {l D : Nat} {fn : FuncId} {aT : Array Value} {aD : List Deferred} {ps : Array Tmp} {assign body : Code} {lv : Nat} {fnk : Func}
    {s' : St} {Q : Exit → Act → World → Prop} {e : Exit} (ts : List (Nat × SV)) (s0 : St) (he : e = .ret ∨ e = .normal) (hl : B ≤ l) (hK2 : ∀ p ∈ K2, p.1 ≠ l) (hM : MarksK true B aD K2) (hsub : ∀ p ∈ K, p ∈ K2) (hsz : aT.size = N)
    (hres : fnk.results = #[]) (hu : UAre lv (get s') ts) (hk0 : Keep s0 s') (hok : keepOK ⟨P, none, B, w0, N', false, bor, S, K2⟩ s0 = true) (hnt : noTU lv s0 = true)
    (h : Fin ⟨P, none, B, w0, N, true, bor, S, K⟩ (tmpSt ts ++ s0) Q .normal) :
    Fin ⟨P, none, B, w0, N', false, bor, setSus S lv aT, (l, .loop (recOf fn aT ps assign body D .ready)) :: K2⟩ s' (bodyPost P fnk (LoopEnd P Q l aT aD)) e := by
  intro m a w hrel
  have hl1 := (hrel.ko l _ (List.Mem.head _)).1
  have hne : ∀ k o, (k, o) ∈ K2 → w.heap[k]? = some o ∧ o.isCells = false := fun k o hk => hrel.ko k o (by simp [hk])
  have hds := hrel.defers.none
  have key : a.defers = [] ∧ ∃ v, (results fnk a.tmps).run P w = .ok v w ∧ LoopEnd P Q l aT aD (.returned v) w := by
    refine ⟨hds, _, results_run (rs := []) (xs := []) hres hrel resOK_nil, none, _, run_endLoop hl1 (by simp [recOf]), ?_⟩
    have hot : ∀ k, k ≠ l → (w.putObj l (.loop { recOf fn aT ps assign body D .ready with state := .exhausted })).heap[k]? = w.heap[k]? := fun k hk => World.putObj_heap_other hk
    have hKw : ∀ k o, (k, o) ∈ K2 → (w.putObj l (.loop { recOf fn aT ps assign body D .ready with state := .exhausted })).heap[k]? = some o ∧ o.isCells = false := fun k o hk => by
      rw [hot k (hK2 _ hk)]; exact hne k o hk
    have h1 := hrel.otherObj (a' := a) (ds' := false) (K' := K2) (.loop { recOf fn aT ps assign body D .ready with state := .exhausted }) hl hl1 rfl (by rw [hds]; exact marks_nil) rfl hKw
    exact h m _ _ (h1.outer lv ts s0 hu hk0 hok hnt hsz (hM.marks fun k o hk => (hKw k o hk).1) (fun k o hk => hKw k o (hsub _ hk)))
  rcases he with rfl | rfl
  · exact key
  · exact key

/-! ### A round -/

def parSt : List Tmp → List SV → St
  | p :: ps, x :: xs => parSt ps xs ++ [(.t p, some (.x x))]
  | _, _ => []

theorem Rel.puts {cx : Cx} {m : Nat → Nat} {w : World} : ∀ {ps : List Tmp} {xs : List SV} {g : Map} {a : Act}, Rel cx m g a w → (∀ p ∈ ps, p < cx.N) → ps.length = xs.length →
    Rel cx m (upd (parSt ps xs) g) { a with tmps := (ps.zip (denL m xs)).foldl (fun t q => t.setIfInBounds q.1 q.2) a.tmps } w := by
  intro ps
  induction ps with
  | nil => intro xs g a h _ _; exact h
  | cons p r ih =>
    intro xs g a h hp hl
    cases xs with
    | nil => simp at hl
    | cons x xs =>
      have h1 := h.put (d := p) (x := x) (hp p (by simp)) rfl
      have h2 := ih h1 (fun q hq => hp q (by simp [hq])) (by simpa using hl)
      simp only [parSt, upd_append, denL, List.zip_cons_cons, List.foldl_cons]
      exact h2

def RoundQ (P : Program) (l : Nat) (body : Code) (R : Ending → World → Prop) : Exit → Act → World → Prop :=
  Exit.then (fun a1 w1 => ∃ w2, (Instr.beginRound l).run P w1 = .ok () w2 ∧ body.wpIn (Fence.wide.inRound l) 0 P (roundPost P l R) a1 w2) (fun _ _ _ => False)

def RoundR (P : Program) (B N' : Nat) (w0 : World) (bor : List (Nat × Nat)) (S : Nat → Array Value) (K : List (Nat × Obj)) (aI : Array Value) (up : St) : Ending → World → Prop :=
  fun e W => e = .returned (.bool true) ∧ ∃ m, Rel ⟨P, none, B, w0, N', false, bor, S, K⟩ m (get up) { tmps := aI, defers := [] } W

theorem op_yieldIn {P : Program} {B N N' : Nat} {w0 : World} {bor : List (Nat × Nat)} {S : Nat → Array Value} {K2 : List (Nat × Obj)} {l D : Nat} {fn : FuncId} {aT : Array Value} {ps : Array Tmp} {assign body : Code} {lv : Nat}
    {dst : Tmp} {type : TypeId} {pos : String} {after : Array Edge} {guard : Option (Nat × Bool)} {fo : Operand} {args : Array Operand} {tys : Array TypeId} {xs : List SV} {sS : St} (up : St) (lv2 : Nat) (tsI tsO : List (Nat × SV)) (s0 : St)
    (hdst : dst < N') (hf : Ev (get sS) fo (.v (.func (.yield l) #[] #[]))) (hx : EvL (get sS) args.toList xs) (hlen : ps.toList.length = xs.length) (hps : ∀ p ∈ ps.toList, p < N) (hsz : aT.size = N)
    (hI : TAre (get sS) tsI) (hO : UAre lv (get sS) tsO) (hk0 : Keep s0 sS) (hok : keepOK ⟨P, none, B, w0, N', false, bor, S, K2⟩ s0 = true) (hnt : noTU lv2 s0 = true) (hlv : lv2 ≠ lv) (hcov : (sS.all fun x => touches x.1 up) = true)
    (hbody : ∀ aI : Array Value, aI.size = N' → AW ⟨P, some l, B, w0, N, false, bor, setSus (setSus S lv aT) lv2 aI, (l, .loop (recOf fn aT ps assign body D .ready)) :: K2⟩ assign (parSt ps.toList xs ++ (tmpSt tsO ++ (susSt lv2 tsI ++ s0)))
      (RoundQ P l body (RoundR P B N' w0 bor (setSus S lv aT) ((l, .loop (recOf fn aT ps assign body D .ready)) :: K2) aI up))) :
    OpRun ⟨P, none, B, w0, N', false, bor, setSus S lv aT, (l, .loop (recOf fn aT ps assign body D .ready)) :: K2⟩ ⟨some dst, .call ⟨.value fo, args, tys⟩, type, pos, after, guard⟩ (get sS) ⟨[.a], (.t dst, some (.x (.v (.bool true)))) :: up, []⟩ := by
  intro m a w g hr _ hrel0 Kq Q hK
  have hg : g = get sS := funext fun k => hr k (by simp [Row.reads, Key.eqb])
  subst hg
  have hrel := hrel0
  have h1 := hf.eval hrel (fun _ _ => rfl)
  have h2 : args.map a.eval = (denL m xs).toArray := by
    rw [← hx.eval hrel (fun _ _ => rfl)]; exact Array.ext' (by rw [Array.toList_map])
  have hl1 := (hrel.ko l _ (List.Mem.head _)).1
  have hds := hrel.defers.none
  refine ⟨fun _ _ => trivial, ?_⟩
  rw [semAt_of _ _ (fun _ h => by cases h)]
  have hy := run_yield (P := P) (args := (denL m xs).toArray) hl1 (by simp [recOf, denL_length]; rw [← hlen]; simp)
  have hrun : (execOp a.eval ⟨some dst, .call ⟨.value fo, args, tys⟩, type, pos, after, guard⟩).run P w = .ok (.round l fn ((ps.zip (denL m xs).toArray).foldl (fun tmps (t, a) => tmps.setIfInBounds t a) aT) assign body) w := by
    simp only [execOp, resolve, h1, h2, den, Deferred.ofValue, Sem.run_bind, Sem.run_pure, Result.andThen_ok, invoke]
    simpa [recOf] using hy
  rw [hrun, Oper.uponIn_round]
  refine ⟨fun h => absurd (show (none : Option Nat).isSome = true from h) (by decide), ?_⟩
  have hF : (Cx.F ⟨P, none, B, w0, N', false, bor, setSus S lv aT, (l, .loop (recOf fn aT ps assign body D .ready)) :: K2⟩) = Fence.wide := rfl
  rw [hF]
  have hfin : ∀ e W, RoundR P B N' w0 bor (setSus S lv aT) ((l, .loop (recOf fn aT ps assign body D .ready)) :: K2) a.tmps up e W →
      (match (motive := Ending → World → Prop) e, W with
       | .returned v, w'' => Kq (a.put (some dst) v) w''
       | .panicked chain, w'' => Q (.panic chain) a w''
       | .outgrown, _ => LetsOut Q) := by
    rintro e W ⟨rfl, m', h'⟩
    have ha : a = { tmps := a.tmps, defers := [] } := by cases a; simp only at hds; subst hds; rfl
    have h3 : Rel ⟨P, none, B, w0, N', false, bor, setSus S lv aT, (l, .loop (recOf fn aT ps assign body D .ready)) :: K2⟩ m' (get up) a W := by rw [ha]; exact h'
    refine hK m' _ W ((h3.put (d := dst) (x := .v (.bool true)) hdst rfl).congr fun k => ?_)
    simp only [upd]
    cases e : Key.eqb (.t dst) k with
    | true => rfl
    | false =>
      simp only [cond_false]
      cases ht : touches k up with
      | true => exact upd_congr ht _ _
      | false =>
        rw [upd_of_touches ht]
        have : touches k sS = false := by
          cases hs : touches k sS with
          | false => rfl
          | true =>
            obtain ⟨x, hx, rfl⟩ := touches_iff.1 hs
            rw [List.all_eq_true.1 hcov x hx] at ht; cases ht
        rw [get_untouched this]
        exact upd_of_touches ht _
  refine RoundIn.mono (roundIn_of_wpIn trivial ?_) hfin
  have hnt0 : ∀ i, get (susSt lv2 tsI ++ s0) (.t i) = none := fun i => by rw [get_append, upd_susSt (by simp)]; exact noTU_t hnt
  have hs0 : ∀ {k : Key}, (∀ j, k ≠ .t j) → (∀ j, k ≠ .u lv2 j) → get (tmpSt tsO ++ (susSt lv2 tsI ++ s0)) k = get s0 k := fun {k} h1 h2 => by
    rw [get_append, upd_tmpSt h1, get_append, upd_susSt h2]
  have hv := (hrel.keep hk0 (by simpa [keepOK] using hok)).view (r' := some l) (N' := N) (ds' := false) (S' := setSus (setSus S lv aT) lv2 a.tmps) (K' := (l, .loop (recOf fn aT ps assign body D .ready)) :: K2) (a' := { tmps := aT, defers := [] }) (s1 := tmpSt tsO ++ (susSt lv2 tsI ++ s0))
    hsz marks_nil (fun L => hs0 (by simp) (by simp)) (fun L o => hs0 (by simp) (by simp)) (fun L => hs0 (by simp) (by simp)) (fun i v hv => by
      rw [get_append] at hv
      obtain ⟨x, h5, rfl⟩ := upd_tmpSt_some hnt0 hv
      refine ⟨x, rfl, ?_⟩
      have := hrel.us lv i x (hO.mem (i, x) h5)
      simpa [setSus_self] using this) (fun l' i x hx => by
      rw [get_append, upd_tmpSt (by simp)] at hx
      by_cases e : l' = lv2
      · subst e
        rw [setSus_self]
        rw [get_append] at hx
        obtain ⟨y, h5, h6⟩ := upd_susSt_some (fun i => noTU_u hnt) hx
        cases h6
        exact hrel.tm i x (hI.mem (i, x) h5)
      · rw [setSus_ne e]
        rw [get_append, upd_susSt (by simpa using e)] at hx
        exact (hrel.keep hk0 (by simpa [keepOK] using hok)).us l' i x hx) hrel.ko
  have hp := hv.puts (ps := ps.toList) (xs := xs) hps hlen
  rw [← get_append] at hp
  have hz : (ps.zip (denL m xs).toArray).foldl (fun tmps (t, a) => tmps.setIfInBounds t a) aT = (ps.toList.zip (denL m xs)).foldl (fun t q => t.setIfInBounds q.1 q.2) aT := by
    rw [← Array.foldl_toList]; simp
  rw [hz]
  exact hbody a.tmps hrel.size m _ w hp

theorem fin_begin {P : Program} {B N l D : Nat} {w0 : World} {bor : List (Nat × Nat)} {S : Nat → Array Value} {K2 : List (Nat × Obj)} {fn : FuncId} {aT : Array Value} {ps : Array Tmp} {assign body : Code} {s : St} {R : Ending → World → Prop} (hl : B ≤ l) (hK2 : ∀ p ∈ K2, p.1 ≠ l)
    (h : AW ⟨P, some l, B, w0, N, false, bor, S, (l, .loop (recOf fn aT ps assign body D .busy)) :: K2⟩ body s (roundPost P l R)) :
    Fin ⟨P, some l, B, w0, N, false, bor, S, (l, .loop (recOf fn aT ps assign body D .ready)) :: K2⟩ s (RoundQ P l body R) .normal := by
  intro m a w hrel
  have hl1 := (hrel.ko l _ (List.Mem.head _)).1
  have hds := hrel.defers.none
  refine ⟨_, run_beginRound hl1 rfl, ?_⟩
  have hlt : l < w.heap.size := (Array.getElem?_eq_some_iff.1 hl1).1
  have h1 := hrel.otherObj (a' := a) (ds' := false) (K' := (l, .loop (recOf fn aT ps assign body D .busy)) :: K2) (.loop (recOf fn aT ps assign body D .busy)) hl hl1 rfl (by rw [hds]; exact marks_nil) rfl (fun k o hk => by
    rcases List.mem_cons.1 hk with e | hk
    · cases e; exact ⟨World.putObj_heap_same hlt, rfl⟩
    · rw [World.putObj_heap_other (hK2 _ hk)]; exact hrel.ko k o (by simp [hk]))
  exact h m a _ h1

def dropSt : List Key → St := fun ks => ks.map fun k => (k, none)

theorem get_dropSt {ks : List Key} {k : Key} : get (dropSt ks) k = none := by
  induction ks with
  | nil => rfl
  | cons x r ih =>
    simp only [dropSt, List.map_cons, get, upd]
    cases e : x.eqb k with
    | true => rfl
    | false => exact ih

theorem get_drop {s : St} {ks : List Key} : get (s ++ dropSt ks) = get s := by
  funext k
  rw [get_append]
  cases ht : touches k s with
  | true => exact upd_congr ht _ _
  | false => rw [upd_of_touches ht, get_dropSt, get_untouched ht]

theorem fin_roundEnd {P : Program} {B N N' l D : Nat} {w0 : World} {bor : List (Nat × Nat)} {S : Nat → Array Value} {K2 : List (Nat × Obj)} {fn : FuncId} {aT aI : Array Value} {ps : Array Tmp} {assign body : Code} {s : St} {up : St} {lv2 : Nat}
    (tsI : List (Nat × SV)) (s0 : St) (ks : List Key) (hup : up = tmpSt tsI ++ (s0 ++ dropSt ks)) (hl : B ≤ l) (hK2 : ∀ p ∈ K2, p.1 ≠ l) (hsz : aI.size = N') (hu : UAre lv2 (get s) tsI) (hk0 : Keep s0 s) (hok : keepOK ⟨P, none, B, w0, N', false, bor, S, K2⟩ s0 = true) (hnt : noTU lv2 s0 = true) :
    Fin ⟨P, some l, B, w0, N, false, bor, setSus S lv2 aI, (l, .loop (recOf fn aT ps assign body D .busy)) :: K2⟩ s
      (roundPost P l (RoundR P B N' w0 bor S ((l, .loop (recOf fn aT ps assign body D .ready)) :: K2) aI up)) .normal := by
  intro m a w hrel
  have hl1 := (hrel.ko l _ (List.Mem.head _)).1
  have hds := hrel.defers.none
  have hlt : l < w.heap.size := (Array.getElem?_eq_some_iff.1 hl1).1
  have hend := run_endRound (P := P) none hl1
  refine ⟨_, _, hend, rfl, m, ?_⟩
  have hKw : ∀ k o, (k, o) ∈ (l, Obj.loop (recOf fn aT ps assign body D .ready)) :: K2 → (w.putObj l (.loop (recOf fn aT ps assign body D .ready))).heap[k]? = some o ∧ o.isCells = false := fun k o hk => by
    rcases List.mem_cons.1 hk with e | hk
    · cases e; exact ⟨World.putObj_heap_same hlt, rfl⟩
    · rw [World.putObj_heap_other (hK2 _ hk)]; exact hrel.ko k o (by simp [hk])
  have h1 := hrel.otherObj (a' := a) (ds' := false) (K' := (l, .loop (recOf fn aT ps assign body D .ready)) :: K2) (.loop (recOf fn aT ps assign body D .ready)) hl hl1 rfl (by rw [hds]; exact marks_nil) rfl hKw
  have h2 := h1.outer (r := none) (N := N') (ds := false) (K := (l, .loop (recOf fn aT ps assign body D .ready)) :: K2) (aD := []) lv2 tsI s0 hu hk0 hok hnt hsz marks_nil hKw
  have e : get up = get (tmpSt tsI ++ s0) := by rw [hup, ← List.append_assoc, get_drop]
  rw [e]
  exact h2

/-! ### Functions that hold loops over functions -/

theorem enterM {P : Program} {f : Nat} {fn : Func} {c : Code} {args : List SV} {w : World} {R : Ending → World → Prop} (hf : P.funcs[f]? = some fn) (hb : fn.body = some c) {N : Nat} (hN : fn.ntmps = N) (hn : args.length ≤ N)
    (h : AW ⟨P, none, w.heap.size, w, N, true, [], noS, []⟩ c (argSt 0 args) (bodyPostM Fence.wide 0 P fn R)) : Calls P f (denL (fun _ => 0) args).toArray w R := by
  refine (callsIn_wide (n := 0)).1 ?_
  refine callsIn_of_wp_marks hf hb trivial ?_
  subst hN
  have h0 := rel_start (P := P) (r := none) args w hn
  exact h _ _ _ ⟨h0.size, marks_nil, h0.tm, h0.tmc, h0.blk, h0.cell, h0.own, h0.inj, h0.vec, h0.sep, h0.sepR, h0.ownR, ⟨h0.held.os, h0.held.tape, h0.held.output, h0.held.size, h0.held.block⟩, h0.top, h0.fix, h0.us, h0.ko⟩

theorem leavesM {P : Program} {B N : Nat} {w0 : World} {bor : List (Nat × Nat)} {S : Nat → Array Value} {m : Nat → Nat} {s : St} {fn : Func} {R : Ending → World → Prop} {rs : List ResultVar} {xs : List SV} (hrs : fn.results = rs.toArray) (h : ResOK P (get s) rs xs)
    (hR : ∀ m a w, Rel ⟨P, none, B, w0, N, true, bor, S, []⟩ m (get s) a w → R (.returned (den m (resVal xs))) w) :
    ∀ (ms : List Nat) (w : World) (a : Act), ms.Nodup → (∀ D ∈ ms, B ≤ D ∧ w.heap[D]? = some (.deferred (some []))) → Rel ⟨P, none, B, w0, N, true, bor, S, []⟩ m (get s) a w → LeavesInM Fence.wide 0 P fn a.tmps R (ms.map mark) .returning w := by
  intro ms
  induction ms with
  | nil => intro w a _ _ hrel; exact ⟨_, results_run hrs hrel h, hR m a w hrel⟩
  | cons D ms ih =>
    intro w a hnd hD hrel
    obtain ⟨hB, hw⟩ := hD D (by simp)
    have hnd := List.nodup_cons.1 hnd
    refine ⟨by simp, .inl ⟨D, _, rfl, run_takeDeferred hw, ?_⟩⟩
    have hother : ∀ D' ∈ ms, (w.putObj D (.deferred none)).heap[D']? = some (.deferred (some [])) := fun D' hD' => by
      rw [World.putObj_heap_other (fun e => hnd.1 (by rw [← e]; exact hD'))]; exact (hD D' (by simp [hD'])).2
    have h1 := hrel.otherObj (a' := { a with defers := [] }) (ds' := true) (K' := []) (.deferred none) hB hw rfl marks_nil rfl (fun k o hk => by simp at hk)
    exact ih _ { a with defers := [] } hnd.2 (fun D' hD' => ⟨(hD D' (by simp [hD'])).1, hother D' hD'⟩) h1

theorem post_retM {P : Program} {B N : Nat} {w0 : World} {bor : List (Nat × Nat)} {S : Nat → Array Value} {s : St} {fn : Func} {R : Ending → World → Prop} {rs : List ResultVar} {xs : List SV} {x : SV} (hrs : fn.results = rs.toArray) (h : ResOK P (get s) rs xs) (hx : resVal xs = x)
    (hR : ∀ m a w, Rel ⟨P, none, B, w0, N, true, bor, S, []⟩ m (get s) a w → R (.returned (den m x)) w) {e : Exit} (he : e = .ret ∨ e = .normal) : Fin ⟨P, none, B, w0, N, true, bor, S, []⟩ s (bodyPostM Fence.wide 0 P fn R) e := by
  intro m a w hrel
  subst hx
  obtain ⟨ms, h1, _, h3, h4⟩ := hrel.defers
  have := leavesM hrs h hR ms w a h3 h4 hrel
  rw [← h1] at this
  rcases he with rfl | rfl
  · exact this
  · exact this
end Go.AX

/-
  Calls that hand back a function over boxes that they have laid.
-/
namespace Go.AX
open Go Go.RowKit

section
variable {cx : Cx} {s g : Map} {m : Nat → Nat} {a : Act} {w : World}

theorem hasL_mem {L : Nat} : ∀ {l : List SV}, hasL L l = false → ∀ {x}, x ∈ l → x.has L = false := by
  intro l
  induction l with
  | nil => intro _ x hx; cases hx
  | cons z l ih =>
    intro hz x hx
    simp only [hasL, Bool.or_eq_false_iff] at hz
    cases hx with
    | head => exact hz.1
    | tail _ hx => exact ih hz.2 hx

theorem Rel.gotBoxS {L b : Nat} {ty : TypeId} {ys : List SV} (h : Rel cx m g a w) (hf : ∀ q, mentions L q (g q) = false) (hb : w.heap[b]? = some (.cells (denL m ys).toArray ty (0, 0))) (hLy : hasL L ys = false) (hB : cx.B ≤ b)
    (hnew : ∀ l ty n, g (.b l) = some (.sh ty n) → m l ≠ b) (hrow : ∀ l own C ty k cs, g (.r l) = some (.vec own C ty k cs) → m C ≠ 0 → m l ≠ b) :
    Rel cx (setL m L b) (upd ((.b L, some (.sh ty ys.length)) :: cellsUp L 0 ys) g) a w := by
  have hx : ∀ {k x}, g k = some (.x x) → den (setL m L b) x = den m x := fun {k x} hk => den_setL (by have := hf k; rw [hk] at this; exact (mentions_x (b := true)).1 this)
  have hxc : ∀ {k c x}, g k = some (.xc c x) → den (setL m L b) x = den m x := fun {k c x} hk => den_setL (by have := hf k; rw [hk] at this; exact (mentions_x (b := c)).2 this)
  have hgb : ∀ {L' ty' n'}, g (.b L') = some (.sh ty' n') → L' ≠ L := fun {L' ty' n'} hk e => by
    have := hf (.b L'); rw [hk] at this; simp [mentions, e] at this
  have hgr : ∀ {L' own C ty' k cs'}, g (.r L') = some (.vec own C ty' k cs') → L' ≠ L ∧ C ≠ L := fun {L' own C ty' k cs'} hk => by
    have := hf (.r L')
    rw [hk] at this
    simp only [mentions, Bool.or_eq_false_iff] at this
    exact ⟨fun e => by subst e; simp at this, fun e => by subst e; simp at this⟩
  have key : ∀ k, upd ((.b L, some (.sh ty ys.length)) :: cellsUp L 0 ys) g k = match k with
      | .b L' => if L' = L then some (.sh ty ys.length) else g k
      | .c L' o => if L' = L ∧ o < ys.length then (ys[o]?).map Val.x else g k
      | _ => g k := by
    intro k
    simp only [upd]
    rw [upd_cellsUp]
    cases k with
    | t i => rfl
    | b L' =>
      by_cases e : L' = L
      · subst e; simp [Key.eqb]
      · have : Key.eqb (.b L) (.b L') = false := Key.eqb_false (by simpa using Ne.symm e)
        simp [this, e]
    | c L' o => simp [Key.eqb]
    | r L' => simp [Key.eqb]
    | u l i => simp [Key.eqb]
    | a => simp [Key.eqb]
  have hgc : ∀ {L' o x}, g (.c L' o) = some (.x x) → L' ≠ L := fun {L' o x} hk => by
    obtain ⟨ty', n', hL'⟩ := h.own L' o x hk
    exact hgb hL'
  refine ⟨h.size, h.defers, fun i y hy => ?_, fun i c y hy => ?_, fun L' ty' n' hL' => ?_, fun L' o' y hy => ?_, fun L' o' y hy => ?_, fun L1 L2 ty1 n1 ty2 n2 h1 h2 he => ?_, fun L1 own C ty1 k cs1 hx => ?_, fun L1 own C ty1 k cs1 L' ty' n' hx hy hc => ?_,
    fun L1 C ty1 k cs1 L' own' C' ty' k' cs' hx hy hne hc hc' => ?_, fun L1 C ty1 k cs1 hx hc => ?_, h.held, h.top, fun L1 b1 hb1 => ?_, fun l i y hy => by rw [key] at hy; rw [hx hy]; exact h.us l i y hy, h.ko⟩
  · rw [key] at hy; rw [hx hy]; exact h.tm i y hy
  · rw [key] at hy; rw [hxc hy]; exact h.tmc i c y hy
  · rw [key] at hL'
    by_cases e : L' = L
    · subst e
      simp only [if_true, Option.some.injEq, Val.sh.injEq] at hL'
      obtain ⟨rfl, rfl⟩ := hL'
      rw [setL_self]
      exact ⟨.inl hB, (denL m ys).toArray, by simp [denL_length], hb⟩
    · simp only [e, if_false] at hL'
      rw [setL_ne _ _ e]
      exact h.blk L' ty' n' hL'
  · rw [key] at hy
    by_cases e : L' = L ∧ o' < ys.length
    · obtain ⟨rfl, ho⟩ := e
      simp only [ho, and_self, if_true, List.getElem?_eq_getElem ho, Option.map_some, Option.some.injEq, Val.x.injEq] at hy
      subst hy
      rw [setL_self, den_setL (hasL_mem hLy (List.getElem_mem ho))]
      have hc := denL_get m ys o'
      rw [List.getElem?_eq_getElem ho, Option.map_some] at hc
      simp only [World.cell?, hb, Option.isSome_none, Bool.false_eq_true, if_false, List.getElem?_toArray, hc]
    · simp only [e, if_false] at hy
      have := hgc hy
      rw [setL_ne _ _ this, hx hy]
      exact h.cell L' o' y hy
  · rw [key] at hy
    by_cases e : L' = L ∧ o' < ys.length
    · exact ⟨ty, ys.length, by rw [key]; simp [e.1]⟩
    · simp only [e, if_false] at hy
      obtain ⟨ty', n', hL'⟩ := h.own L' o' y hy
      exact ⟨ty', n', by rw [key]; simp only [hgb hL', if_false]; exact hL'⟩
  · rw [key] at h1 h2
    by_cases e1 : L1 = L
    · by_cases e2 : L2 = L
      · rw [e1, e2]
      · simp only [e2, if_false] at h2
        rw [e1, setL_self, setL_ne _ _ e2] at he
        exact absurd he.symm (hnew L2 ty2 n2 h2)
    · simp only [e1, if_false] at h1
      by_cases e2 : L2 = L
      · rw [e2, setL_self, setL_ne _ _ e1] at he
        exact absurd he (hnew L1 ty1 n1 h1)
      · simp only [e2, if_false] at h2
        rw [setL_ne _ _ e1, setL_ne _ _ e2] at he
        exact h.inj L1 L2 ty1 n1 ty2 n2 h1 h2 he
  · rw [key] at hx
    obtain ⟨e1, e2⟩ := hgr hx
    rw [setL_ne _ _ e1, setL_ne _ _ e2]
    exact h.vec L1 own C ty1 k cs1 hx
  · rw [key] at hx hy
    obtain ⟨e1, e2⟩ := hgr hx
    rw [setL_ne _ _ e2] at hc
    rw [setL_ne _ _ e1]
    by_cases e : L' = L
    · subst e
      rw [setL_self]
      exact hrow L1 own C ty1 k cs1 hx hc
    · simp only [e, if_false] at hy
      rw [setL_ne _ _ e]
      exact h.sep L1 own C ty1 k cs1 L' ty' n' hx hy hc
  · rw [key] at hx hy
    obtain ⟨e1, e2⟩ := hgr hx
    obtain ⟨e3, e4⟩ := hgr hy
    rw [setL_ne _ _ e2] at hc
    rw [setL_ne _ _ e4] at hc'
    rw [setL_ne _ _ e1, setL_ne _ _ e3]
    exact h.sepR L1 C ty1 k cs1 L' own' C' ty' k' cs' hx hy hne hc hc'
  · rw [key] at hx
    obtain ⟨e1, e2⟩ := hgr hx
    rw [setL_ne _ _ e2] at hc
    rw [setL_ne _ _ e1]
    exact h.ownR L1 C ty1 k cs1 hx hc
  · obtain ⟨h1, ty1, n1, h2⟩ := h.fix L1 b1 hb1
    have hne := hgb h2
    exact ⟨by rw [setL_ne _ _ hne]; exact h1, ty1, n1, by rw [key]; simp only [hne, if_false]; exact h2⟩



def boxUpS (L : Nat) (ty : TypeId) (ys : List SV) : St := (.b L, some (.sh ty ys.length)) :: cellsUp L 0 ys

def NewBoxes (w w' : World) : List Nat → List (Nat × List Value) → Prop
  | [], [] => True
  | b :: bs, (ty, vs) :: r => w.heap.size ≤ b ∧ w'.heap[b]? = some (.cells vs.toArray ty (0, 0)) ∧ (∀ b' ∈ bs, b' ≠ b) ∧ NewBoxes w w' bs r
  | _, _ => False

structure NB where
  L : Nat
  ty : TypeId
  ys : List SV

def nbUp : List NB → St
  | [] => []
  | q :: r => boxUpS q.L q.ty q.ys ++ nbUp r

def nbLs (ls : List NB) : List Nat := ls.map (·.L)

def nbOK : List NB → Bool
  | [] => true
  | q :: r => (r.all fun p => !Nat.beq p.L q.L) && ((q :: r).all fun p => !hasL q.L p.ys) && (r.all fun p => !hasL p.L q.ys) && nbOK r

theorem mentions_boxUpS {L L' : Nat} {ty : TypeId} {ys : List SV} (hne : L ≠ L') (hy : hasL L' ys = false) (hf : ∀ q, mentions L' q (g q) = false) : ∀ q, mentions L' q (upd (boxUpS L ty ys) g q) = false := by
  intro q
  simp only [boxUpS, upd]
  rw [upd_cellsUp]
  cases q with
  | t i => simpa [Key.eqb] using hf (.t i)
  | u l i => simpa [Key.eqb] using hf (.u l i)
  | a => simpa [Key.eqb] using hf .a
  | r l => simpa [Key.eqb] using hf (.r l)
  | b l =>
    by_cases e : Key.b L = Key.b l
    · rw [Key.eqb_iff.2 e]
      cases e
      simp [mentions, beq_ne hne]
    · rw [Key.eqb_false e]; exact hf (.b l)
  | c l o' =>
    simp only [Key.eqb, cond_false]
    by_cases e : l = L ∧ 0 ≤ o' ∧ o' < 0 + ys.length
    · obtain ⟨rfl, h0, h1⟩ := e
      simp only [Nat.zero_add] at h1
      have := hasL_mem hy (List.getElem_mem h1)
      simp [h1, mentions, beq_ne hne, this]
    · rw [if_neg e]; exact hf (.c l o')

theorem Rel.newBoxes : ∀ {ls : List NB} {bs : List Nat} {m : Nat → Nat} {g : Map} {a : Act} {w w' : World} {b0 : Nat}, Rel cx m g a w' → cx.B ≤ w.heap.size → nbOK ls = true → NewBoxes w w' bs (ls.map fun q => (q.ty, denL m q.ys)) →
    (∀ L ∈ nbLs ls, ∀ k, mentions L k (g k) = false) → (∀ l ty n, g (.b l) = some (.sh ty n) → m l < w.heap.size ∨ (m l = b0 ∧ ∀ b ∈ bs, b ≠ b0) ∨ ∀ b ∈ bs, b ≠ m l) → (∀ l own C ty k cs, g (.r l) = some (.vec own C ty k cs) → m C ≠ 0 → m l < w.heap.size) →
    ∃ m', Rel cx m' (upd (nbUp ls) g) a w' ∧ (nbLs ls).map m' = bs ∧ ∀ l, l ∉ nbLs ls → m' l = m l := by
  intro ls
  induction ls with
  | nil =>
    intro bs m g a w w' b0 h _ _ hn _ _ _
    cases bs with
    | nil => exact ⟨m, h, rfl, fun _ _ => rfl⟩
    | cons b bs => exact hn.elim
  | cons q r ih =>
    intro bs m g a w w' b0 h hB hok hn hf hold hrow
    cases bs with
    | nil => exact hn.elim
    | cons b bs =>
      obtain ⟨n1, n2, n3, n4⟩ := hn
      simp only [nbOK, Bool.and_eq_true, List.all_eq_true, Bool.not_eq_true', List.mem_cons, forall_eq_or_imp] at hok
      obtain ⟨⟨⟨o1, o2, o3⟩, o4⟩, o5⟩ := hok
      have hfq := hf q.L (by simp [nbLs])
      have h1 := h.gotBoxS (L := q.L) (b := b) hfq n2 o2 (Nat.le_trans hB n1) (fun l ty n hl => by
        rcases hold l ty n hl with h2 | ⟨h2, h3⟩ | h2
        · omega
        · rw [h2]; exact fun e => h3 b (by simp) e.symm
        · exact fun e => h2 b (by simp) e.symm) (fun l own C ty k cs hl hc => by have := hrow l own C ty k cs hl hc; omega)
      have hne : ∀ p ∈ r, p.L ≠ q.L := fun p hp e => by have := o1 p hp; rw [e] at this; simp at this
      have hden : (r.map fun p => (p.ty, denL (setL m q.L b) p.ys)) = r.map fun p => (p.ty, denL m p.ys) := by
        refine List.map_congr_left fun p hp => ?_
        rw [denL_setL (o3 p hp)]
      obtain ⟨m', r1, r2, r3⟩ := ih (bs := bs) (m := setL m q.L b) (g := upd (boxUpS q.L q.ty q.ys) g) (a := a) (w := w) (w' := w') (b0 := b) h1 hB o5 (by rw [hden]; exact n4)
        (fun L hL => by
          obtain ⟨p, hp, rfl⟩ := List.mem_map.1 hL
          exact mentions_boxUpS (Ne.symm (hne p hp)) (o4 p hp) (hf p.L (by simp [nbLs]; exact .inr ⟨p, hp, rfl⟩)))
        (fun l ty n hl => by
          simp only [boxUpS, upd] at hl
          by_cases e : l = q.L
          · subst e; rw [setL_self]; exact .inr (.inl ⟨rfl, n3⟩)
          · rw [Key.eqb_false (by simpa using Ne.symm e), cond_false, upd_cellsUp] at hl
            rw [setL_ne _ _ e]
            rcases hold l ty n hl with h2 | ⟨h2, h3⟩ | h2
            · exact .inl h2
            · exact .inr (.inr fun b' hb' => by rw [h2]; exact h3 b' (by simp [hb']))
            · exact .inr (.inr fun b' hb' => h2 b' (by simp [hb'])))
        (fun l own C ty k cs hl hc => by
          simp only [boxUpS, upd] at hl
          rw [Key.eqb_false (by simp), cond_false, upd_cellsUp] at hl
          simp only [] at hl
          have hq := hfq (.r l)
          rw [hl] at hq
          have hq' := mentions_r hq
          rw [setL_ne _ _ hq'.2] at hc
          rw [setL_ne _ _ hq'.1]
          exact hrow l own C ty k cs hl hc)
      have hqn : q.L ∉ nbLs r := fun hm => by
        obtain ⟨p, hp, e⟩ := List.mem_map.1 hm
        exact hne p hp e
      have hqq : upd (nbUp (q :: r)) g = upd (boxUpS q.L q.ty q.ys) (upd (nbUp r) g) := by simp only [nbUp, upd_append]
      have hcomm : upd (nbUp r) (upd (boxUpS q.L q.ty q.ys) g) = upd (boxUpS q.L q.ty q.ys) (upd (nbUp r) g) := by
        have bU : ∀ (p : NB) (g : Map) (k : Key), upd (boxUpS p.L p.ty p.ys) g k = match k with
            | .b l => if l = p.L then some (.sh p.ty p.ys.length) else g k
            | .c l o => if l = p.L ∧ o < p.ys.length then (p.ys[o]?).map Val.x else g k
            | _ => g k := by
          intro p g k
          simp only [boxUpS, upd]
          rw [upd_cellsUp]
          cases k with
          | b l =>
            by_cases e : l = p.L
            · subst e; simp [Key.eqb]
            · rw [Key.eqb_false (by simpa using Ne.symm e)]; simp [e]
          | c l o => simp [Key.eqb]
          | t i => rfl
          | r l => simp [Key.eqb]
          | u l i => simp [Key.eqb]
          | a => simp [Key.eqb]
        clear ih r1 r2 r3 n4 o5 hden hqn hqq hf
        induction r with
        | nil => rfl
        | cons p r ih2 =>
          have hne2 : p.L ≠ q.L := hne p (by simp)
          simp only [nbUp, upd_append]
          rw [ih2 (fun x hx => o4 x (by simp [hx])) (fun x hx => o1 x (by simp [hx])) (fun x hx => o3 x (by simp [hx])) (fun x hx => hne x (by simp [hx]))]
          funext k
          rw [bU, bU]
          cases k with
          | b l =>
            simp only []
            rw [bU, bU]
            by_cases e1 : l = p.L
            · subst e1; simp [hne2]
            · simp [e1]
          | c l o =>
            simp only []
            rw [bU, bU]
            by_cases e1 : l = p.L
            · subst e1; simp [hne2]
            · simp [e1]
          | t i => simp only []; rw [bU, bU]
          | r l => simp only []; rw [bU, bU]
          | u l i => simp only []; rw [bU, bU]
          | a => simp only []; rw [bU, bU]
      refine ⟨m', by rw [hqq, ← hcomm]; exact r1, ?_, fun l hl => ?_⟩
      · simp only [nbLs, List.map_cons]
        rw [r3 _ hqn, setL_self]
        congr 1
      · simp only [nbLs, List.map_cons, List.mem_cons, not_or] at hl
        rw [r3 l hl.2, setL_ne _ _ hl.1]

variable {d : Nat} {type : TypeId} {pos : String} {after : Array Edge} {guard : Option (Nat × Bool)}

theorem op_callNew {fo : Operand} {fv : SV} {k : Nat} {ls : List NB} {R : List Nat → Value} {fs caps xs : List SV} {x : SV} {args : Array Operand} {ts : Array TypeId} {extra : List Key}
    (hN : d < cx.N) (hen : Proofs.Enters cx.P k) (hf : Ev s fo fv) (hk : calleeOf k fs caps fv) (hx : EvL s args.toList xs) (hok : nbOK ls = true) (hden : ∀ m, den m x = R ((nbLs ls).map m))
    (hc : ∀ (m : Nat → Nat) (a : Act) (w : World) (g : Map), (∀ k ∈ extra, g k = s k) → Rel cx m g a w →
      Calls cx.P k (denL m (fs ++ (xs ++ caps))).toArray w fun e w' => ∃ bs, e = .returned (R bs) ∧ NewBoxes w w' bs (ls.map fun q => (q.ty, denL m q.ys)) ∧ Below w.heap.size w w') :
    OpRun cx ⟨some d, .call ⟨.value fo, args, ts⟩, type, pos, after, guard⟩ s ⟨okeys fo ++ okeysL args.toList ++ extra, (.t d, some (.x x)) :: nbUp ls, nbLs ls⟩ :=
  op_callG hen hf hk hx fun m a w g hr hfr hrel => (hc m a w g hr hrel).mono fun e w' ⟨bs, he, hn, hb⟩ => by
    have hu := hrel.under
    obtain ⟨m', h1, h2, _⟩ := (hrel.world hb).newBoxes (b0 := 0) (w := w) hrel.top hok hn (fun L hL => hfr L hL) (fun l ty n hl => .inl (hu.1 l ty n hl)) (fun l own C ty k cs hl hc => hu.2 l own C ty k cs hl hc)
    refine ⟨_, m', he, (h1.put (x := x) hN ?_).congr (fun q => (upd_cons _ q).symm)⟩
    rw [hden, h2]

theorem ne_nil {b : Nat} : ∀ b' ∈ ([] : List Nat), b' ≠ b := fun _ h => by simp at h
end
end Go.AX
