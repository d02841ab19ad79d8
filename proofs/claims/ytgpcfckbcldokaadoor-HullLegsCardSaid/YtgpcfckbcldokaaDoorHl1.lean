/-
  This file has what the walks are built on: a symbolic state of one activation, and plain functions. Conditions: those that each theorem names.
-/
import Derived.Laws.Cover3
import Derived.Laws.StructEq
import Derived.Test.YtgpcfckbcldokaaDoorHl0
/-
  What arguments read as: records of fixed cells, slices of them, structs that have slices.
-/
namespace Go.AX
open Go Go.ChangeShapes Go.WideShapes Go.RowKit

/-- Values of the type t are the cells of something of which In is so. -/
def Reads {α : Type} (P : Program) (t : TypeId) (enc : α → List Value) (n : Nat) (In : α → Prop) : Prop :=
  P.cellsOf t = n ∧ ∀ (H : Type) (e : TypeId × Value → H) (w : World) (base : Nat) (sp : Nat → Bool) (held : Bool) (fuel : Nat) (cs : List Value) (x : DataW H × List MemPlace),
    DataW.trod e P w base sp held fuel t cs = some x → ∃ a, cs = enc a ∧ In a

section
variable {P : Program} {H : Type} {e : TypeId × Value → H} {w : World} {base : Nat} {sp : Nat → Bool} {held : Bool}

theorem reads_int {t : TypeId} {k : IntKind} (hu : P.underlying t = some (.int k)) (hc : P.cellsOf t = 1) : Reads P t (fun n => [Value.int k n]) 1 (fun n => (Lit.int k n).wf = true) :=
  ⟨hc, fun _ _ _ _ _ _ _ _ _ h => by obtain ⟨n, h1, _, h2⟩ := DataW.trod_int hu h; exact ⟨n, h1, h2⟩⟩

theorem reads_bool {t : TypeId} (hu : P.underlying t = some .bool) (hc : P.cellsOf t = 1) : Reads P t (fun b => [Value.bool b]) 1 (fun _ => True) :=
  ⟨hc, fun _ _ _ _ _ _ _ _ _ h => by obtain ⟨b, h1, _⟩ := DataW.trod_bool hu h; exact ⟨b, h1, trivial⟩⟩

theorem fields_of {t : TypeId} {fs : Array Field} {fuel : Nat} {cs : List Value} {x : DataW H × List MemPlace} (hu : P.underlying t = some (.struct fs)) (h : DataW.trod e P w base sp held fuel t cs = some x) :
    cs.length = P.cellsOf t ∧ ∀ (j : Nat) (fd : Field), fs[j]? = some fd → ∃ fuel y, DataW.trod e P w base sp held fuel fd.type ((cs.drop fd.offset).take (P.cellsOf fd.type)) = some y := by
  obtain ⟨xs, n, rfl, rfl, hl, hlen, hf⟩ := DataW.trod_struct hu h
  refine ⟨hl, fun j fd hj => ?_⟩
  have hlt : j < xs.length := by have := (Array.getElem?_eq_some_iff.1 hj).1; omega
  exact ⟨n, xs[j], by rw [hf j fd hj, List.getElem?_eq_getElem hlt]⟩

theorem Reads.at {α : Type} {t : TypeId} {enc : α → List Value} {n off : Nat} {In : α → Prop} {cs : List Value} (hR : Reads P t enc n In)
    (hx : ∃ fuel y, DataW.trod e P w base sp held fuel t ((cs.drop off).take (P.cellsOf t)) = some y) : ∃ a, (cs.drop off).take n = enc a ∧ In a := by
  obtain ⟨fuel, y, h⟩ := hx
  rw [hR.1] at h
  exact hR.2 _ _ _ _ _ _ _ _ _ h

theorem cut_cons {cs a r : List Value} {o n : Nat} (h : (cs.drop o).take n = a) (hr : cs.drop (o + n) = r) : cs.drop o = a ++ r := by
  rw [← h, ← hr, ← List.drop_drop, List.take_append_drop]

theorem recs_of {α : Type} {t el : TypeId} {enc : α → List Value} {n : Nat} {In : α → Prop} {fuel : Nat} {cs : List Value} {x : DataW H × List MemPlace} (hu : P.underlying t = some (.slice el)) (hR : Reads P el enc n In)
    (hn : 0 < n) (hlen : ∀ a, (enc a).length = n) (h : DataW.trod e P w base sp held fuel t cs = some x) :
    ∃ (s : SlV) (l : List α), cs = [.slice s.p s.n s.c] ∧ SlIs enc n w s l ∧ (∀ x ∈ l, In x) ∧ l.length ≤ 9223372036854775807 := by
  rcases DataW.trod_slice hu h with ⟨rfl, _⟩ | ⟨a, len, cap, elems, rest, m, _, rfl, _, hb, hl, hm, hel, hi, _, _⟩
  · exact ⟨⟨none, 0, 0⟩, [], rfl, slIs_nil, by simp, by simp⟩
  have build : ∀ k, k ≤ len → ∃ l : List α, l.length = k ∧ ∀ i x, l[i]? = some x → In x ∧ w.cells? base (a.add (i * n)) n = some (enc x) := by
    intro k
    induction k with
    | zero => intro _; exact ⟨[], rfl, fun i x hx => by simp at hx⟩
    | succ k ih =>
      intro hk
      obtain ⟨l, h1, h2⟩ := ih (by omega)
      have h3 := hi k (by omega)
      rw [List.getElem?_eq_getElem (by omega), hR.1, Option.bind_eq_some_iff] at h3
      obtain ⟨cs', h4, h5⟩ := h3
      obtain ⟨y, rfl, hy⟩ := hR.2 _ _ _ _ _ _ _ _ _ h5
      refine ⟨l ++ [y], by simp [h1], fun i x hx => ?_⟩
      rcases Nat.lt_or_ge i k with h6 | h6
      · rw [List.getElem?_append_left (by omega)] at hx; exact h2 i x hx
      · rw [List.getElem?_append_right (by omega)] at hx
        have : i - l.length = 0 := by
          have := (List.getElem?_eq_some_iff.1 hx).1
          simpa using this
        rw [this] at hx
        simp only [List.getElem?_cons_zero, Option.some.injEq] at hx
        subst hx
        obtain rfl : i = k := by omega
        exact ⟨hy, h4⟩
  obtain ⟨l, h1, h2⟩ := build len (Nat.le_refl _)
  have hcell : ∀ (i : Nat) x, l[i]? = some x → ∀ j, j < n → w.cell? ((a.add (i * n)).add j) = (enc x)[j]? := fun i x hx j hj => (World.cells?_some (h2 i x hx).2).2.2 j hj
  refine ⟨⟨some a, len, cap⟩, l, rfl, ⟨h1.symm, hl, fun hne => ?_⟩, fun x hx => ?_, by unfold maxLen at hm; omega⟩
  · have hpos : 0 < l.length := List.length_pos_iff.2 hne
    have h3 := hcell 0 l[0] (List.getElem?_eq_getElem hpos) 0 hn
    rw [List.getElem?_eq_getElem (by rw [hlen]; exact hn)] at h3
    have hspot : a.spot = none := by
      have := World.cell?_spot h3
      obtain ⟨b, o, sp⟩ := a
      simpa [Addr.add] using this
    obtain ⟨b, o, sp⟩ := a
    simp only at hspot
    subst hspot
    refine ⟨b, o, rfl, ?_, fun i x hx j v hv => ?_⟩
    · rcases Nat.lt_or_ge b w.heap.size with h9 | h9
      · exact h9
      · rw [addr_add, addr_add] at h3
        simp [World.cell?, Array.getElem?_eq_none h9] at h3
    · have hj : j < n := by rw [← hlen x]; exact (List.getElem?_eq_some_iff.1 hv).1
      have := hcell i x hx j hj
      rw [addr_add, addr_add] at this
      rw [this, hv]
  · obtain ⟨i, hi⟩ := List.getElem?_of_mem hx
    exact (h2 i x hi).1

theorem open_rec_arg {α : Type} {r : Reach} {b0 : Nat} {t : TypeId} {fs : Array Field} {enc : α → List Value} {n : Nat} {In : α → Prop} {v : Value} {d : DataW H} {ps : List MemPlace} (hu : P.underlying t = some (.struct fs)) (hR : Reads P t enc n In)
    (hval : Value.okWide P w r b0 t v) (h : DataW.Trod e P w base sp held t v d ps) : ∃ a, v = .agg (enc a).toArray ∧ In a := by
  obtain ⟨cs, rfl, _⟩ := okWide_struct hu hval
  obtain ⟨fuel, hf⟩ := h
  obtain ⟨a, h1, h2⟩ := hR.2 _ _ _ _ _ _ _ _ _ hf
  exact ⟨a, by rw [← h1]; rfl, h2⟩

theorem open_recs_arg {α : Type} {r : Reach} {b0 : Nat} {t el : TypeId} {enc : α → List Value} {n : Nat} {In : α → Prop} {v : Value} {d : DataW H} {ps : List MemPlace} (hu : P.underlying t = some (.slice el)) (hR : Reads P el enc n In)
    (hn : 0 < n) (hlen : ∀ a, (enc a).length = n) (hval : Value.okWide P w r b0 t v) (h : DataW.Trod e P w base sp held t v d ps) :
    ∃ (s : SlV) (l : List α), v = .slice s.p s.n s.c ∧ SlIs enc n w s l ∧ (∀ x ∈ l, In x) ∧ l.length ≤ 9223372036854775807 := by
  obtain ⟨p, len, cap, rfl⟩ := okWide_slice hu hval
  obtain ⟨fuel, hf⟩ := h
  obtain ⟨s, l, h1, h2⟩ := recs_of hu hR hn hlen hf
  have h1 : [Value.slice p len cap] = [.slice s.p s.n s.c] := h1
  simp only [List.cons.injEq, and_true] at h1
  exact ⟨s, l, h1, h2⟩

theorem open_agg_arg {r : Reach} {b0 : Nat} {t : TypeId} {fs : Array Field} {v : Value} {d : DataW H} {ps : List MemPlace} (hu : P.underlying t = some (.struct fs)) (hval : Value.okWide P w r b0 t v) (h : DataW.Trod e P w base sp held t v d ps) :
    ∃ c : List Value, v = .agg c.toArray ∧ c.length = P.cellsOf t ∧ ∀ (j : Nat) (fd : Field), fs[j]? = some fd → ∃ fuel y, DataW.trod e P w base sp held fuel fd.type ((c.drop fd.offset).take (P.cellsOf fd.type)) = some y := by
  obtain ⟨cs, rfl, _⟩ := okWide_struct hu hval
  obtain ⟨fuel, hf⟩ := h
  exact ⟨cs.toList, rfl, fields_of hu hf⟩

theorem open_recs_at {α : Type} {t el : TypeId} {enc : α → List Value} {n off : Nat} {In : α → Prop} {c : List Value} (hu : P.underlying t = some (.slice el)) (hR : Reads P el enc n In) (hn : 0 < n) (h1 : P.cellsOf t = 1) (hlen : ∀ a, (enc a).length = n)
    (hx : ∃ fuel y, DataW.trod e P w base sp held fuel t ((c.drop off).take (P.cellsOf t)) = some y) :
    ∃ (s : SlV) (l : List α), (c.drop off).take 1 = [.slice s.p s.n s.c] ∧ SlIs enc n w s l ∧ (∀ x ∈ l, In x) ∧ l.length ≤ 9223372036854775807 := by
  obtain ⟨fuel, y, h⟩ := hx
  rw [h1] at h
  exact recs_of hu hR hn hlen h
end
end Go.AX

/-
  The core, further operations: equality of structs and Booleans; rows of one's own that are written.
-/
namespace Go.AX
open Go Go.RowKit

def partP (P : Program) (t : TypeId) (cs : Array Value) (off : Nat) : Option Value :=
  match P.underlying t with
  | some (.struct _) => (P.info? t).map fun i => .agg (cs.extract off (off + i.size))
  | some (.array _ _) => (P.info? t).map fun i => .agg (cs.extract off (off + i.size))
  | some _ => cs[off]?
  | none => none

theorem run_partP {P : Program} {t : TypeId} {cs : Array Value} {off : Nat} {v : Value} {w : World} (h : partP P t cs off = some v) : (part t cs off).run P w = .ok v w := by
  unfold partP at h
  split at h
  · rename_i fs hu
    cases hi : P.info? t with
    | none => rw [hi] at h; cases h
    | some i =>
      rw [hi] at h
      cases h
      simp [part, isAgg, run_underlying hu, sizeOf, typeInfo, hi]
  · rename_i n e hu
    cases hi : P.info? t with
    | none => rw [hi] at h; cases h
    | some i =>
      rw [hi] at h
      cases h
      simp [part, isAgg, run_underlying hu, sizeOf, typeInfo, hi]
  · rename_i u h1 h2 hu
    have h3 : (isAgg t).run P w = .ok false w := by
      simp only [isAgg, Sem.run_bind, run_underlying hu, Result.andThen_ok]
      cases u <;> first | rfl | exact absurd hu (h1 _) | exact absurd hu (h2 _ _)
    simp [part, h3, h]
  · cases h

def eqFs (P : Program) (rec : TypeId → Value → Value → Option Bool) (xs ys : Array Value) : List Field → Option Bool
  | [] => some true
  | f :: fs =>
    if f.name = "_" then none else
    match partP P f.type xs f.offset, partP P f.type ys f.offset with
    | some a, some b => match rec f.type a b, eqFs P rec xs ys fs with
      | some r, some r' => some (r && r')
      | _, _ => none
    | _, _ => none

def eqB (P : Program) : Nat → TypeId → Value → Value → Option Bool
  | 0, _, _, _ => none
  | d + 1, t, x, y =>
    match P.underlying t with
    | some .bool => match x, y with
      | .bool a, .bool b => some (a == b)
      | _, _ => none
    | some (.int _) => match x, y with
      | .int k a, .int k' b => if k = k' then some (a == b) else none
      | _, _ => none
    | some (.struct fs) => match x, y with
      | .agg xs, .agg ys => if P.stoodInHeld t = false then eqFs P (eqB P d) xs ys fs.toList else none
      | _, _ => none
    | _ => none

theorem run_eqFs {P : Program} {d d' : Nat} (ih : ∀ t x y b, eqB P d t x y = some b → ∀ w, (Op.equalIn d' t x y).run P w = .ok b w) {xs ys : Array Value} : ∀ {fs : List Field} {b : Bool}, eqFs P (eqB P d) xs ys fs = some b →
    ∀ w, (Op.eqFields d' xs ys fs).run P w = .ok b w := by
  intro fs
  induction fs with
  | nil => intro b h w; simp only [eqFs, Option.some.injEq] at h; subst h; simp [Op.eqFields]
  | cons f fs ihf =>
    intro b h w
    unfold eqFs at h
    split at h
    · cases h
    · rename_i hn
      split at h
      · rename_i a c ha hc
        split at h
        · rename_i r r' hr hr'
          simp only [Option.some.injEq] at h
          subst h
          have h1 := run_partP (w := w) ha
          have h2 := run_partP (w := w) hc
          have h3 := ih _ _ _ _ hr w
          have h4 := ihf hr' w
          simp only [Op.eqFields, hn, ne_eq, not_false_eq_true, if_true, Sem.run_bind, h1, h2, h3, Result.andThen_ok]
          cases r with
          | false => simp
          | true => simpa using h4
        · cases h
      · cases h

theorem run_eqB {P : Program} : ∀ (d d' : Nat) (t : TypeId) (x y : Value) (b : Bool), eqB P d t x y = some b → ∀ w, (Op.equalIn (d + d') t x y).run P w = .ok b w := by
  intro d
  induction d with
  | zero => intro d' t x y b h; simp [eqB] at h
  | succ d ih =>
    intro d' t x y b h w
    rw [show d + 1 + d' = (d + d') + 1 by omega]
    unfold eqB at h
    split at h
    · rename_i hu
      split at h
      · cases h; exact run_equalIn_bool' w _ _ _ _ hu
      · cases h
    · rename_i hu
      split at h
      · rename_i k a k' c
        split at h
        · rename_i hk
          subst hk
          cases h; exact run_equalIn_int w _ _ _ _ _ _ hu
        · cases h
      · cases h
    · rename_i fs hu
      split at h
      · split at h
        · rename_i hp
          have hf : P.fieldsOf t = fs := by simp [Program.fieldsOf, hu]
          rw [run_equalIn_struct w (d + d') t _ _ (by rw [hf]; exact hu) hp, hf]
          exact run_eqFs (fun t x y b h w => ih d' t x y b h w) h w
        · cases h
      · cases h
    · cases h

section
variable {cx : Cx} {s g : Map} {m : Nat → Nat} {a : Act} {w : World}
variable {d : Nat} {type : TypeId} {pos : String} {after : Array Edge} {guard : Option (Nat × Bool)}

theorem op_eqS {ty ty' : TypeId} {x y : Operand} {v u : List SV} {r : Bool} (hN : d < cx.N) (hx : Ev s x (.g v)) (hy : Ev s y (.g u)) (hg : cx.P.eqGuardType cx.P.depth ty = false)
    (h : ∀ m, eqB cx.P 8 ty (den m (.g v)) (den m (.g u)) = some r) :
    OpRun cx ⟨some d, .binOp .eql ty x y ty', type, pos, after, guard⟩ s ⟨okeys x ++ okeys y, [(.t d, some (.x (.v (.bool r))))], []⟩ :=
  op_eqv hN hx hy fun m w => by
    have h1 := run_eqB 8 9992 ty _ _ r (h m) w
    simp only [den] at h1 ⊢
    rw [Sem.run_bind, run_eqGuard_agg w _ _ _ _ _ _ hg]
    simp only [Result.andThen_ok]
    rw [run_eql_struct, h1]
    rfl

theorem op_neS {ty ty' : TypeId} {x y : Operand} {v u : List SV} {r : Bool} (hN : d < cx.N) (hx : Ev s x (.g v)) (hy : Ev s y (.g u)) (hg : cx.P.eqGuardType cx.P.depth ty = false)
    (h : ∀ m, eqB cx.P 8 ty (den m (.g v)) (den m (.g u)) = some r) :
    OpRun cx ⟨some d, .binOp .neq ty x y ty', type, pos, after, guard⟩ s ⟨okeys x ++ okeys y, [(.t d, some (.x (.v (.bool (!r)))))], []⟩ :=
  op_eqv hN hx hy fun m w => by
    have h1 := run_eqB 8 9992 ty _ _ r (h m) w
    simp only [den] at h1 ⊢
    rw [Sem.run_bind, run_eqGuard_agg w _ _ _ _ _ _ hg]
    simp only [Result.andThen_ok]
    rw [run_neq_struct, h1]
    rfl

/-- A cell of a row of one's own, written. -/
theorem Rel.setRow {L C o ty k : Nat} {cs : List Value} {v : Value} (h : Rel cx m g a w) (hr : g (.r L) = some (.vec true C ty k cs)) (ho : o < cs.length) :
    Rel cx m (upd [(.r L, some (.vec true C ty k (cs.set o v)))] g) a (w.setCell ⟨m L, o, none⟩ v) := by
  have hv := h.vec L true C ty k cs hr
  obtain ⟨hc, cur, hh, hsz, hcur⟩ : m C ≠ 0 ∧ ∃ cur : Array Value, w.heap[m L]? = some (.cells cur ty (0, 0)) ∧ cur.size = m C * k ∧ ∀ (i : Nat) (v : Value), cs[i]? = some v → cur[i]? = some v := by
    rcases hv with ⟨_, e⟩ | hv
    · subst e; simp at ho
    · exact hv
  have hlt : o < cur.size := by
    have := hcur o cs[o] (List.getElem?_eq_getElem ho)
    exact (Array.getElem?_eq_some_iff.1 this).1
  have hnb : ∀ {l ty' n}, g (.b l) = some (.sh ty' n) → m l ≠ m L := fun {l ty' n} hl => (h.sep L true C ty k cs l ty' n hr hl hc).symm
  have keep : ∀ {b : Nat}, b ≠ m L → (w.setCell ⟨m L, o, none⟩ v).heap[b]? = w.heap[b]? := fun {b} hb => Below.heap_setCell _ _ _ _ hb
  refine ⟨h.size, h.defers, fun i y hy => ?_, fun i b y hy => ?_, fun L' ty' n' hL => ?_, fun L' o' y hy => ?_, fun L' o' y hy => ?_, fun L1 L2 ty1 n1 ty2 n2 h1 h2 => ?_, fun L1 own C1 ty1 k1 cs1 hx => ?_, fun L1 own C1 ty1 k1 cs1 L' ty' n' hx hy hc1 => ?_,
    fun L1 C1 ty1 k1 cs1 L' own' C' ty' k' cs' hx hy hne hc1 hc' => ?_, fun L1 C1 ty1 k1 cs1 hx hc1 => ?_, h.held.setCell (p := ⟨m L, o, none⟩) (h.ownR L C ty k cs hr hc) _, by simpa [World.setCell] using h.top,
    fun L b hb => by obtain ⟨h1, ty, n, h2⟩ := h.fix L b hb; exact ⟨h1, ty, n, by rw [upd_one, if_neg (by simp)]; exact h2⟩⟩
  · rw [upd_one, if_neg (by simp)] at hy; exact h.tm i y hy
  · rw [upd_one, if_neg (by simp)] at hy; exact h.tmc i b y hy
  · rw [upd_one, if_neg (by simp)] at hL
    obtain ⟨h1, cs', h2, h3⟩ := h.blk L' ty' n' hL
    exact ⟨h1, cs', h2, by rw [keep (hnb hL)]; exact h3⟩
  · rw [upd_one, if_neg (by simp)] at hy
    obtain ⟨ty', n', hL'⟩ := h.own L' o' y hy
    have := h.cell L' o' y hy
    simp only [World.cell?] at this ⊢
    rw [keep (hnb hL')]; exact this
  · rw [upd_one, if_neg (by simp)] at hy
    obtain ⟨ty', n', hL'⟩ := h.own L' o' y hy
    exact ⟨ty', n', by rw [upd_one, if_neg (by simp)]; exact hL'⟩
  · rw [upd_one, if_neg (by simp)] at h1 h2; exact h.inj L1 L2 ty1 n1 ty2 n2 h1 h2
  · rw [upd_one] at hx
    by_cases e : Key.r L = Key.r L1
    · rw [if_pos e] at hx
      cases e
      simp only [Option.some.injEq, Val.vec.injEq] at hx
      obtain ⟨rfl, rfl, rfl, rfl, rfl⟩ := hx
      refine .inr ⟨hc, cur.setIfInBounds o v, ?_, by simpa using hsz, fun i u hi => ?_⟩
      · simp only [World.setCell, Array.getElem?_modify, hh]
        simp
      · rw [Array.getElem?_setIfInBounds]
        rw [List.getElem?_set] at hi
        by_cases e : o = i
        · subst e
          simp only [if_true] at hi ⊢
          rw [if_pos hlt]
          simpa [ho] using hi
        · rw [if_neg e] at hi ⊢
          exact hcur i u hi
    · rw [if_neg e] at hx
      have h1 := h.vec L1 own C1 ty1 k1 cs1 hx
      exact h1.same fun hc1 => keep fun e1 => h.sepR L C ty k cs L1 own C1 ty1 k1 cs1 hr hx (fun e2 => e (by rw [e2])) hc hc1 e1.symm
  · rw [upd_one, if_neg (by simp)] at hy
    rw [upd_one] at hx
    by_cases e : Key.r L = Key.r L1
    · rw [if_pos e] at hx
      cases e
      simp only [Option.some.injEq, Val.vec.injEq] at hx
      obtain ⟨rfl, rfl, rfl, rfl, rfl⟩ := hx
      exact (hnb hy).symm
    · rw [if_neg e] at hx
      exact h.sep L1 own C1 ty1 k1 cs1 L' ty' n' hx hy hc1
  · rw [upd_one] at hx hy
    by_cases e : Key.r L = Key.r L1
    · rw [if_pos e] at hx
      cases e
      simp only [Option.some.injEq, Val.vec.injEq] at hx
      obtain ⟨_, rfl, rfl, rfl, rfl⟩ := hx
      rw [if_neg (by simpa using hne)] at hy
      exact h.sepR L C ty k cs L' own' C' ty' k' cs' hr hy hne hc hc'
    · rw [if_neg e] at hx
      by_cases e2 : Key.r L = Key.r L'
      · rw [if_pos e2] at hy
        cases e2
        simp only [Option.some.injEq, Val.vec.injEq] at hy
        obtain ⟨rfl, rfl, rfl, rfl, rfl⟩ := hy
        exact h.sepR L1 C1 ty1 k1 cs1 L true C ty k cs hx hr hne hc1 hc
      · rw [if_neg e2] at hy
        exact h.sepR L1 C1 ty1 k1 cs1 L' own' C' ty' k' cs' hx hy hne hc1 hc'
  · rw [upd_one] at hx
    by_cases e : Key.r L = Key.r L1
    · rw [if_pos e] at hx
      cases e
      simp only [Option.some.injEq, Val.vec.injEq] at hx
      obtain ⟨_, rfl, rfl, rfl, rfl⟩ := hx
      exact h.ownR L C ty k cs hr hc
    · rw [if_neg e] at hx; exact h.ownR L1 C1 ty1 k1 cs1 hx hc1


/-- Some cells in a row, one after the other. -/
def setN (cs : List Value) : Nat → List Value → List Value
  | _, [] => cs
  | o, v :: vs => setN (cs.set o v) (o + 1) vs

section
variable {α : Type} {enc : α → List Value}

end

/-- A slice of the parameters' against nil. -/
theorem op_eqNil {ty ty' : TypeId} {x : Operand} {p : Option Addr} {n c : Nat} (hN : d < cx.N) (hx : Ev s x (.v (.slice p n c))) (hu : ∃ e, cx.P.underlying ty = some (.slice e)) :
    OpRun cx ⟨some d, .binOp .eql ty x (.const (.slice none 0 0)) ty', type, pos, after, guard⟩ s ⟨okeys x ++ okeys (.const (.slice none 0 0)), [(.t d, some (.x (.v (.bool p.isNone))))], []⟩ :=
  op_eqv (u := .v (.slice none 0 0)) hN hx rfl fun m w => by
    obtain ⟨e, hu⟩ := hu
    have h1 := run_equal_slice_nil (P := cx.P) w ty e p n c hu
    simp [den, eqGuard, binOp, h1]

theorem slIs_none {α : Type} {enc : α → List Value} {k : Nat} {n c : Nat} {l : List α} (h : SlIs enc k w ⟨none, n, c⟩ l) : l = [] := by
  cases l with
  | nil => rfl
  | cons x xs => obtain ⟨b, o, h1, _⟩ := h.2.2 (by simp); cases h1

/-- A slice that lay there, appended to a row of one's own. -/
theorem op_appendS {α : Type} {enc : α → List Value} {t e k bytes L C n L' C' q c2 : Nat} {p : Option Addr} {x y : Operand} {cs : List Value} {l : List α} (hN : d < cx.N) (hf : appFact cx.P t = some (e, k, bytes)) (hx : Ev s x (.o L C n)) (hr : s (.r L) = some (.vec true C e k cs)) (hcs : cs.length = n * k)
    (hy : Ev s y (.v (.slice p q c2))) (hl : ∀ (m : Nat → Nat) (a : Act) (w : World) (g : Map), Rel cx m g a w → SlIs enc k w ⟨p, q, c2⟩ l) (hk : ∀ x, (enc x).length = k) (h1 : ∀ x, (enc x).all oneC = true) (hb : (n + q) * bytes ≤ 140737488355328) (h63 : n + q ≤ 1000000000) (hne : L' ≠ C') :
    OpRun cx ⟨some d, .call ⟨.builtin .append, #[x, y], #[t, t]⟩, type, pos, after, guard⟩ s
      ⟨.r L :: (okeys x ++ okeys y), [(.t d, some (.x (.o L' C' (n + q)))), (.r L', some (.vec true C' e k (cs ++ l.flatMap enc))), (.r L, none)], [L', C']⟩ := by
  intro m a w g hrd hfr hrel K Q hK
  have e1 := hx.eval hrel (fun k hk => hrd k (reads_mem (by simp [hk])))
  have e2 := hy.eval hrel (fun k hk => hrd k (reads_mem (by simp [hk])))
  have e3 : g (.r L) = some (.vec true C e k cs) := by rw [hrd _ (reads_mem (by simp))]; exact hr
  have hs := hl m a w g hrel
  have hq : q = l.length := hs.1
  by_cases hq0 : q = 0
  · -- nothing is appended
    have hl0 : l = [] := List.length_eq_zero_iff.1 (by omega)
    subst hl0
    have hvec := hrel.vec L true C e k cs e3
    have hrun : (execOp a.eval ⟨some d, .call ⟨.builtin .append, #[x, y], #[t, t]⟩, type, pos, after, guard⟩).run cx.P w = .ok (.value (.slice (ptr0 (m L) (m C)) n (m C))) w := by
      unfold appFact at hf
      split at hf
      · rename_i e' ht
        split at hf
        · rename_i i hi
          split at hf
          · rename_i z hz
            split at hf
            · rename_i hsz
              simp only [Option.some.injEq, Prod.mk.injEq] at hf
              obtain ⟨rfl, rfl, rfl⟩ := hf
              have hnc : n ≤ m C := by
                rcases hvec with ⟨h0, h2⟩ | ⟨_, cur, _, hcur, hpre⟩
                · subst h2
                  simp only [List.length_nil] at hcs
                  rcases Nat.mul_eq_zero.1 hcs.symm with h | h
                  · omega
                  · have := hsz.2; omega
                · have : cs.length ≤ cur.size := by
                    rcases Nat.lt_or_ge cur.size cs.length with h | h
                    · have hlast := hpre cur.size cs[cur.size] (List.getElem?_eq_getElem h)
                      simp at hlast
                    · exact h
                  rw [hcs, hcur] at this
                  exact Nat.le_of_mul_le_mul_right this hsz.2
              subst hq0
              have hfc : ∀ pp, (Builtin.firstCells i.size 0 (.slice pp 0 c2)).run cx.P w = .ok #[] w := by
                intro pp
                cases pp with
                | none => simp [Builtin.firstCells]
                | some a => simpa using run_firstCells_some (P := cx.P) w i.size 0 a 0 c2 [] (by simp) (by simp)
              simp only [execOp, resolve, invoke, builtin, Sem.run_bind, Sem.run_pure, Result.andThen_ok, List.map_toArray, List.map_cons, List.map_nil, e1, e2, den]
              cases hp : ptr0 (m L) (m C) <;> simp [Builtin.append_, run_underlying ht, sizeOf, typeInfo, hi, Builtin.lenOf, hnc, hfc, storeCells]
            · cases hf
          · cases hf
        · cases hf
      · cases hf
    refine ⟨fun _ _ => trivial, ?_⟩
    rw [semAt_of _ _ (fun _ h => by cases h), hrun, Oper.uponIn_value]
    have hdrop : Rel cx m (upd [(.r L, none)] g) a w := hrel.weaken (fun q => by
        rw [upd_one]
        by_cases e : Key.r L = q
        · exact .inl (by rw [if_pos e])
        · exact .inr (by rw [if_neg e])) (fun L2 o h => by rw [upd_one, if_neg (by simp)]) (fun L2 b hb => by rw [upd_one, if_neg (by simp)])
    have ment : ∀ z, (∀ q, mentions z q (g q) = false) → ∀ q, mentions z q (upd [(.r L, none)] g q) = false := fun z hz q => by
      rw [upd_one]
      by_cases e : Key.r L = q
      · rw [if_pos e]; rfl
      · rw [if_neg e]; exact hz q
    have hold : ∀ {l' own' C2 ty' k' cs'}, upd [(.r L, none)] g (.r l') = some (.vec own' C2 ty' k' cs') → l' ≠ L ∧ g (.r l') = some (.vec own' C2 ty' k' cs') := fun {l' own' C2 ty' k' cs'} h => by
      rw [upd_one] at h
      by_cases e : Key.r L = Key.r l'
      · rw [if_pos e] at h; cases h
      · rw [if_neg e] at h; exact ⟨fun e2 => e (by rw [e2]), h⟩
    have hadd := hdrop.addRow (L := L') (C := C') (b := m L) (c := m C) (ty := e) (k := k) (own := true) (cs := cs) (ment L' (hfr L' (by simp))) (ment C' (hfr C' (by simp))) hne hvec (fun _ hc => hrel.ownR L C e k cs e3 hc)
      (fun hc l' ty' n' h => by rw [upd_one, if_neg (by simp)] at h; exact (hrel.sep L true C e k cs l' ty' n' e3 h hc).symm)
      (fun hc l' own' C2 ty' k' cs' h _ hc2 => by
        obtain ⟨hne', h'⟩ := hold h
        exact (hrel.sepR L C e k cs l' own' C2 ty' k' cs' e3 h' (Ne.symm hne') hc hc2).symm)
    subst hq0
    refine hK _ _ _ ((hadd.put (x := .o L' C' (n + 0)) hN ?_).congr fun q => ?_)
    · simp only [den]
      rw [setL_self, setL_ne _ _ hne, setL_self, Nat.add_zero]
    · simp only [List.flatMap_nil, List.append_nil, upd]
  · -- something is
    have hlne : l ≠ [] := fun h0 => hq0 (by rw [hq, h0]; rfl)
    obtain ⟨b0, o0, hp, _, hcell0⟩ := hs.2.2 hlne
    simp only at hp
    subst hp
    have hcell : ∀ j u, (l.flatMap enc)[j]? = some u → w.cell? ((⟨b0, o0, none⟩ : Addr).add j) = some u := by
      intro j u hj
      rw [addr_add]
      have hlt : j < (l.flatMap enc).length := (List.getElem?_eq_some_iff.1 hj).1
      rw [flat_length hk] at hlt
      have hk0 : 0 < k := by
        rcases Nat.eq_zero_or_pos k with h | h
        · subst h; simp at hlt
        · exact h
      have hi : j / k < l.length := Nat.div_lt_of_lt_mul (by rw [Nat.mul_comm]; exact hlt)
      have hjm : j % k < k := Nat.mod_lt _ hk0
      have hx0 : l[j / k]? = some l[j / k] := List.getElem?_eq_getElem hi
      have hjm2 : j % k < (enc l[j / k]).length := by rw [hk]; exact hjm
      have hv : (enc l[j / k])[j % k]? = some (enc l[j / k])[j % k] := List.getElem?_eq_getElem hjm2
      have h3 := hcell0 (j / k) _ hx0 (j % k) _ hv
      have h4 := flat_get hk hx0 hv
      have hdm : j / k * k + j % k = j := by rw [Nat.mul_comm]; exact Nat.div_add_mod j k
      rw [hdm, hj] at h4
      cases h4
      rw [show o0 + j / k * k + j % k = o0 + j by omega] at h3
      exact h3
    obtain ⟨b', c', w', hrun, hc', hv', hb', hsz, hos, htape, hout, hkk⟩ := append_core (ty := type) (q := q) hf (hrel.vec L true C e k cs e3) hcs (by rw [flat_length hk, hq]) hcell (fun u hu => by
      obtain ⟨z, _, hz2⟩ := List.mem_flatMap.1 hu
      exact oneC_eq (List.all_eq_true.1 (h1 z) u hz2)) (by omega) hb h63 (c2 := c2)
    refine ⟨fun _ _ => trivial, ?_⟩
    rw [semAt_of _ _ (fun _ h => by cases h)]
    have hex : (execOp a.eval ⟨some d, .call ⟨.builtin .append, #[x, y], #[t, t]⟩, type, pos, after, guard⟩).run cx.P w = .ok (.value (.slice (some ⟨b', 0, none⟩) (n + q) c')) w' := by
      simp only [execOp, resolve, invoke, builtin, Sem.run_bind, Sem.run_pure, Result.andThen_ok, List.map_toArray, List.map_cons, List.map_nil, e1, e2, den, hrun]
    rw [hex, Oper.uponIn_value]
    have hrel' := hrel.row (vs := cs ++ l.flatMap enc) e3 (hfr L' (by simp)) (hfr C' (by simp)) hne hc' hv' hb' hsz hos htape hout hkk
    refine hK _ _ _ ((hrel'.put (x := .o L' C' (n + q)) hN ?_).congr (fun q => (upd_cons g q).symm))
    simp only [den]
    rw [setL_self, setL_ne _ _ hne, setL_self, ptr0_ne hc']

/-- An empty literal of a slice. -/
theorem op_buildSlice0 {t ety L C kk : Nat} (hN : d < cx.N) (hne : L ≠ C) (h : ∀ w : World, (Instr.buildSlice t 0 #[]).run cx.P w = .ok (.slice (some ⟨w.heap.size, 0, none⟩) 0 0) (w.alloc (.cells #[] ety))) :
    OpRun cx ⟨some d, .buildSlice t 0 #[], type, pos, after, guard⟩ s ⟨[], [(.t d, some (.x (.o L C 0))), (.r L, some (.vec true C ety kk []))], [L, C]⟩ := by
  intro m a w g hrd hfr hrel K Q hK
  refine ⟨fun _ _ => trivial, ?_⟩
  rw [semAt_of _ _ (fun _ h => by cases h)]
  have hrun : (execOp a.eval ⟨some d, .buildSlice t 0 #[], type, pos, after, guard⟩).run cx.P w = .ok (.value (.slice (some ⟨w.heap.size, 0, none⟩) 0 0)) (w.alloc (.cells #[] ety)) := by
    have := h w
    simp [execOp, this]
  rw [hrun, Oper.uponIn_value]
  have h1 := hrel.world ((Below.refl w.heap.size w).alloc (Nat.le_refl _) (.cells #[] ety))
  have h2 := h1.addRow (L := L) (C := C) (b := w.heap.size + 1) (c := 0) (ty := ety) (k := kk) (own := true) (cs := []) (hfr L (by simp)) (hfr C (by simp)) hne (.inl ⟨rfl, rfl⟩) (fun _ hc => absurd rfl hc) (fun hc => absurd rfl hc) (fun hc => absurd rfl hc)
  refine hK _ _ _ ((h2.put (x := .o L C 0) hN ?_).congr (fun q => (upd_cons g q).symm))
  simp only [den, setL_self]
  rw [setL_ne _ _ hne, setL_self, ptr0_some]

end
end Go.AX

/-
  The core: calls that hand back several new rows of their own, apart from one another.
-/
namespace Go.AX
open Go Go.RowKit

def Apart (a b : SlV) : Prop := a.c ≠ 0 → b.c ≠ 0 → a.p ≠ b.p
def AllApart (a : SlV) : List SlV → Prop
  | [] => True
  | b :: l => Apart a b ∧ AllApart a l
def DistP : List SlV → Prop
  | [] => True
  | a :: l => AllApart a l ∧ DistP l

/-- New slices that are apart. -/
def NewRowsD (w w' : World) (sl : List SlV) (ds : List (Nat × Nat × Nat × List Value)) : Prop := NewRows w w' sl ds ∧ DistP sl

def rowsUpT : List (Nat × Nat) → List (Nat × Nat × Nat × List Value) → St
  | (L, C) :: ls, (_, ty, k, cs) :: ds => rowsUpT ls ds ++ [(.r L, some (.vec true C ty k cs))]
  | _, _ => []

/-- Boxes lie under b0; rows do, or are among X. -/
def RowsOld (m : Nat → Nat) (g : Map) (b0 : Nat) (X : List SlV) : Prop :=
  (∀ l ty n, g (.b l) = some (.sh ty n) → m l < b0) ∧ (∀ l own C ty k cs, g (.r l) = some (.vec own C ty k cs) → m C ≠ 0 → m l < b0 ∨ ∃ x ∈ X, x.c ≠ 0 ∧ x.p = some ⟨m l, 0, none⟩)

theorem Rel.newRowsT {cx : Cx} {a : Act} {w w' : World} {b0 : Nat} (hb0 : b0 ≤ w.heap.size) (hB : cx.B ≤ b0) : ∀ (ls : List (Nat × Nat)) (ds : List (Nat × Nat × Nat × List Value)) (sl X : List SlV) {m : Nat → Nat} {g : Map},
    ls.length = ds.length → distinct (labsOf ls) = true → (∀ l ∈ labsOf ls, ∀ q, mentions l q (g q) = false) → RowsOld m g b0 X → (∀ x ∈ X, AllApart x sl) → NewRows w w' sl ds → DistP sl → Rel cx m g a w' →
    ∃ m', Rel cx m' (upd (rowsUpT ls ds) g) a w' ∧ dens m' ls ds = sl.map SlV.val ∧ ∀ l, l ∉ labsOf ls → m' l = m l := by
  intro ls
  induction ls with
  | nil =>
    intro ds sl X m g hlen _ _ _ _ hn _ hrel
    cases ds with
    | nil =>
      cases sl with
      | nil => exact ⟨m, hrel, rfl, fun _ _ => rfl⟩
      | cons x xs => exact hn.elim
    | cons d ds => simp at hlen
  | cons x ls ih =>
    obtain ⟨L, C⟩ := x
    intro ds sl X m g hlen hd hf hu hX hn hD hrel
    cases ds with
    | nil => simp at hlen
    | cons d ds =>
      obtain ⟨n, ty, k, cs⟩ := d
      cases sl with
      | nil => exact hn.elim
      | cons a1 sl =>
        obtain ⟨h1, ⟨b, hp, hv, hfresh, hcl⟩, h3⟩ := hn
        simp only [labsOf, distinct, Bool.and_eq_true, List.all_eq_true, List.mem_cons, Bool.not_eq_true', forall_eq_or_imp] at hd
        obtain ⟨⟨hLC, hL⟩, hC, hd'⟩ := hd
        have hne : L ≠ C := fun e => by subst e; simp at hLC
        have fL := hf L (by simp [labsOf])
        have fC := hf C (by simp [labsOf])
        have hle : a1.c ≠ 0 → b0 ≤ b := fun hc => Nat.le_trans hb0 (hfresh hc)
        have hr1 := hrel.addRow (own := true) fL fC hne hv (fun _ hc => .inl (Nat.le_trans hB (hle hc))) (fun hc l ty' n' hl => by have := hu.1 l ty' n' hl; have := hle hc; omega)
          (fun hc l own' C2 ty' k' cs' hl ho hc2 => by
            rcases hu.2 l own' C2 ty' k' cs' hl hc2 with h | ⟨x, hx, hxc, hxp⟩
            · have := hle hc; omega
            · intro e
              have := (hX x hx).1 hxc hc
              rw [hxp, hp, ptr0_ne hc, e] at this
              exact this rfl)
        have hmem : ∀ l ∈ labsOf ls, l ≠ L ∧ l ≠ C := fun l hl => ⟨fun e => by have := hL l hl; rw [e] at this; simp at this, fun e => by have := hC l hl; rw [e] at this; simp at this⟩
        have hf' : ∀ l ∈ labsOf ls, ∀ q, mentions l q (upd [(.r L, some (.vec true C ty k cs))] g q) = false := by
          intro l hl q
          rw [upd_one]
          by_cases e : Key.r L = q
          · rw [if_pos e, ← e]
            have := hmem l hl
            simp [mentions, beq_ne (Ne.symm this.1), beq_ne (Ne.symm this.2)]
          · rw [if_neg e]; exact hf l (by simp [labsOf, hl]) q
        have mL : setL (setL m L b) C a1.c L = b := by rw [setL_ne _ _ hne, setL_self]
        have mC : setL (setL m L b) C a1.c C = a1.c := setL_self _ _ _
        have hu' : RowsOld (setL (setL m L b) C a1.c) (upd [(.r L, some (.vec true C ty k cs))] g) b0 (a1 :: X) := by
          refine ⟨fun l ty' n' hl => ?_, fun l own' C2 ty' k' cs' hl hc2 => ?_⟩
          · rw [upd_one, if_neg (by simp)] at hl
            have e1 := fL (.b l); have e2 := fC (.b l)
            rw [hl] at e1 e2
            rw [setL_ne _ _ (mentions_b e2), setL_ne _ _ (mentions_b e1)]
            exact hu.1 l ty' n' hl
          · rw [upd_one] at hl
            by_cases e : Key.r L = Key.r l
            · rw [if_pos e] at hl
              simp only [Option.some.injEq, Val.vec.injEq] at hl
              obtain ⟨_, rfl, _⟩ := hl
              cases e
              rw [mC] at hc2
              exact .inr ⟨a1, by simp, hc2, by rw [mL, hp, ptr0_ne hc2]⟩
            · rw [if_neg e] at hl
              have e1 := fL (.r l); have e2 := fC (.r l)
              rw [hl] at e1 e2
              have q1 := mentions_r e1; have q2 := mentions_r e2
              rw [setL_ne _ _ q2.2, setL_ne _ _ q1.2] at hc2
              rw [setL_ne _ _ q2.1, setL_ne _ _ q1.1]
              rcases hu.2 l own' C2 ty' k' cs' hl hc2 with h | ⟨x, hx, h⟩
              · exact .inl h
              · exact .inr ⟨x, by simp [hx], h⟩
        obtain ⟨m', hr', hden, hkeep⟩ := ih ds sl (a1 :: X) (by simpa using hlen) hd' hf' hu' (fun x hx => by
          rcases List.mem_cons.1 hx with rfl | hx
          · exact hD.1
          · exact (hX x hx).2) h3 hD.2 hr1
        have nL : L ∉ labsOf ls := fun h => (hmem L h).1 rfl
        have nC : C ∉ labsOf ls := fun h => (hmem C h).2 rfl
        refine ⟨m', ?_, ?_, fun l hl => ?_⟩
        · simp only [rowsUpT]
          rw [upd_append]; exact hr'
        · simp only [dens, List.map_cons, hden, List.cons.injEq, and_true, den, SlV.val]
          rw [hkeep L nL, hkeep C nC, setL_self, setL_ne _ _ hne, setL_self, hp, h1]
        · simp only [labsOf, List.mem_cons, not_or] at hl
          rw [hkeep l hl.2.2, setL_ne _ _ hl.2.1, setL_ne _ _ hl.1]

theorem op_callRowsD {cx : Cx} {s : Map} {d : Nat} {type : TypeId} {pos : String} {after : Array Edge} {guard : Option (Nat × Bool)} {fo : Operand} {fv : SV} {k : Nat} {fs caps xs : List SV} {args : Array Operand} {ts : Array TypeId} {extra : List Key}
    {R : List Value → Value} {x : SV} {ls : List (Nat × Nat)} {ds : List (Nat × Nat × Nat × List Value)}
    (hN : d < cx.N) (hen : Proofs.Enters cx.P k) (hf : Ev s fo fv) (hk : calleeOf k fs caps fv) (hx : EvL s args.toList xs) (hlen : ls.length = ds.length) (hd : distinct (labsOf ls) = true)
    (hden : ∀ (m : Nat → Nat), den m x = R (dens m ls ds))
    (hc : ∀ (m : Nat → Nat) (a : Act) (w : World) (g : Map), (∀ k ∈ extra, g k = s k) → Rel cx m g a w →
      Calls cx.P k (denL m (fs ++ (xs ++ caps))).toArray w fun e w' => ∃ sl : List SlV, e = .returned (R (sl.map SlV.val)) ∧ NewRowsD w w' sl ds ∧ Below w.heap.size w w') :
    OpRun cx ⟨some d, .call ⟨.value fo, args, ts⟩, type, pos, after, guard⟩ s ⟨okeys fo ++ okeysL args.toList ++ extra, (.t d, some (.x x)) :: rowsUpT ls ds, labsOf ls⟩ :=
  op_callG hen hf hk hx fun m a w g hr hfr hrel => (hc m a w g hr hrel).mono fun e w' ⟨sl, he, hnew, hb⟩ => by
    have hu := hrel.under
    obtain ⟨m', h1, h2, _⟩ := (hrel.world hb).newRowsT (Nat.le_refl _) hrel.top ls ds sl [] hlen hd (fun l hl q => hfr l hl q) ⟨hu.1, fun l own C ty k cs hl hc => .inl (hu.2 l own C ty k cs hl hc)⟩ (fun _ h => by simp at h) hnew.1 hnew.2
    exact ⟨_, m', he, (h1.put (x := x) hN (by rw [hden, h2])).congr (fun q => (upd_cons g q).symm)⟩

/-! ### Pairs -/
section
variable {cx : Cx} {s : Map} {m : Nat → Nat} {a : Act} {w : World}

theorem apart_rr {L C k ty L' C' k' ty' n n' : Nat} {own' : Bool} {cs cs' : List Value} (h : Rel cx m s a w) (h1 : s (.r L) = some (.vec true C ty k cs)) (h2 : s (.r L') = some (.vec own' C' ty' k' cs')) (hne : L ≠ L') :
    Apart ⟨ptr0 (m L) (m C), n, m C⟩ ⟨ptr0 (m L') (m C'), n', m C'⟩ := fun hc hc' e => by
  simp only [] at hc hc' e
  rw [ptr0_ne hc, ptr0_ne hc'] at e
  simp only [Option.some.injEq, Addr.mk.injEq, and_true] at e
  exact h.sepR L C ty k cs L' own' C' ty' k' cs' h1 h2 hne hc hc' e
end
section
variable {cx : Cx} {s : Map} {d : Nat} {type : TypeId} {pos : String} {after : Array Edge} {guard : Option (Nat × Bool)}
end
end Go.AX

/- Plain functions of the hull layer: limits, slower ships. -/
namespace Hull

def lev (n : Int) : Ice := ⟨100, n, 0, 0⟩

def limitE (s : Ship) (v : Int) (ch : Bool) : Int × Int :=
  if asked s ⟨0, 0, 0, 0⟩ v ≠ 0 then (0, asked s ⟨0, 0, 0, 0⟩ v)
  else if (greatest (fun n => makes s (lev n) ch v) 0 400).2 = false then (0, 4) else ((greatest (fun n => makes s (lev n) ch v) 0 400).1, 0)

def makesE (s : Ship) (i : Ice) (v : Int) (ch : Bool) : Bool × Int := if asked s i v ≠ 0 then (false, asked s i v) else (makes s i ch v, 0)

def safeE (s : Ship) (c : Cell) (ch : Bool) : Int × Int := if met s c ≠ 0 then (0, met s c) else safe s c ch
end Hull

/-
  Shorter words for what the walks repeat.
-/
namespace Go.AX
open Go

abbrev SV.i (n : Int) : SV := .v (.int .i64 n)
abbrev SV.B (b : Bool) : SV := .v (.bool b)
abbrev kt (t : Nat) (x : SV) : Key × Option Val := (.t t, some (.x x))
abbrev kc (L o : Nat) (x : SV) : Key × Option Val := (.c L o, some (.x x))
abbrev kb (L ty n : Nat) : Key × Option Val := (.b L, some (.sh ty n))

def getAll (s : St) : St → St
  | [] => []
  | x :: r => (x.1, get s x.1) :: getAll s r

theorem kp {s' s : St} (h : getAll s s' = s') : Keep s' s := by
  induction s' with
  | nil => trivial
  | cons x r ih =>
    simp only [getAll, List.cons.injEq] at h
    exact ⟨(congrArg Prod.snd h.1 : _), ih h.2⟩
end Go.AX
