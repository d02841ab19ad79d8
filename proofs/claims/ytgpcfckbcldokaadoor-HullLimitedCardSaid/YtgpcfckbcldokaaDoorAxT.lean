/-
  The core, further operations: equality of structs and Booleans; rows of one's own that are written.
-/
import Derived.Test.YtgpcfckbcldokaaDoorAxQ
import Derived.Laws.StructEq
namespace Go.AX
open Go Go.RowKit

def partP (P : Program) (t : TypeId) (cs : Array Value) (off : Nat) : Option Value :=
  match P.underlying t with
  | some (.struct _) => (P.info? t).map fun i => .agg (cs.extract off (off + i.size))
  | some (.array _ _) => (P.info? t).map fun i => .agg (cs.extract off (off + i.size))
  | some _ => cs[off]?
  | none => none

theorem run_partP {P : Program} {t : TypeId} {cs : Array Value} {off : Nat} {v : Value} {w : World} (h : partP P t cs off = some v) : (part t cs off).run P w = .ok v w := by
  unfold partP at h
  split at h
  · rename_i fs hu
    cases hi : P.info? t with
    | none => rw [hi] at h; cases h
    | some i =>
      rw [hi] at h
      cases h
      simp [part, isAgg, run_underlying hu, sizeOf, typeInfo, hi]
  · rename_i n e hu
    cases hi : P.info? t with
    | none => rw [hi] at h; cases h
    | some i =>
      rw [hi] at h
      cases h
      simp [part, isAgg, run_underlying hu, sizeOf, typeInfo, hi]
  · rename_i u h1 h2 hu
    have h3 : (isAgg t).run P w = .ok false w := by
      simp only [isAgg, Sem.run_bind, run_underlying hu, Result.andThen_ok]
      cases u <;> first | rfl | exact absurd hu (h1 _) | exact absurd hu (h2 _ _)
    simp [part, h3, h]
  · cases h

mutual
def eqB (P : Program) : Nat → TypeId → Value → Value → Option Bool
  | 0, _, _, _ => none
  | d + 1, t, x, y =>
    match P.underlying t with
    | some .bool => match x, y with
      | .bool a, .bool b => some (a == b)
      | _, _ => none
    | some (.int _) => match x, y with
      | .int k a, .int k' b => if k = k' then some (a == b) else none
      | _, _ => none
    | some (.struct fs) => match x, y with
      | .agg xs, .agg ys => if P.stoodInHeld t = false then eqFs P d xs ys fs.toList else none
      | _, _ => none
    | _ => none
def eqFs (P : Program) : Nat → Array Value → Array Value → List Field → Option Bool
  | _, _, _, [] => some true
  | d, xs, ys, f :: fs =>
    if f.name = "_" then none else
    match partP P f.type xs f.offset, partP P f.type ys f.offset with
    | some a, some b => match eqB P d f.type a b, eqFs P d xs ys fs with
      | some r, some r' => some (r && r')
      | _, _ => none
    | _, _ => none
end

theorem run_eqFs {P : Program} {d d' : Nat} (ih : ∀ t x y b, eqB P d t x y = some b → ∀ w, (Op.equalIn d' t x y).run P w = .ok b w) {xs ys : Array Value} : ∀ {fs : List Field} {b : Bool}, eqFs P d xs ys fs = some b →
    ∀ w, (Op.eqFields d' xs ys fs).run P w = .ok b w := by
  intro fs
  induction fs with
  | nil => intro b h w; simp only [eqFs, Option.some.injEq] at h; subst h; simp [Op.eqFields]
  | cons f fs ihf =>
    intro b h w
    unfold eqFs at h
    split at h
    · cases h
    · rename_i hn
      split at h
      · rename_i a c ha hc
        split at h
        · rename_i r r' hr hr'
          simp only [Option.some.injEq] at h
          subst h
          have h1 := run_partP (w := w) ha
          have h2 := run_partP (w := w) hc
          have h3 := ih _ _ _ _ hr w
          have h4 := ihf hr' w
          simp only [Op.eqFields, hn, ne_eq, not_false_eq_true, if_true, Sem.run_bind, h1, h2, h3, Result.andThen_ok]
          cases r with
          | false => simp
          | true => simpa using h4
        · cases h
      · cases h

theorem run_eqB {P : Program} : ∀ (d d' : Nat) (t : TypeId) (x y : Value) (b : Bool), eqB P d t x y = some b → ∀ w, (Op.equalIn (d + d') t x y).run P w = .ok b w := by
  intro d
  induction d with
  | zero => intro d' t x y b h; simp [eqB] at h
  | succ d ih =>
    intro d' t x y b h w
    rw [show d + 1 + d' = (d + d') + 1 by omega]
    unfold eqB at h
    split at h
    · rename_i hu
      split at h
      · cases h; exact run_equalIn_bool' w _ _ _ _ hu
      · cases h
    · rename_i hu
      split at h
      · rename_i k a k' c
        split at h
        · rename_i hk
          subst hk
          cases h; exact run_equalIn_int w _ _ _ _ _ _ hu
        · cases h
      · cases h
    · rename_i fs hu
      split at h
      · split at h
        · rename_i hp
          have hf : P.fieldsOf t = fs := by simp [Program.fieldsOf, hu]
          rw [run_equalIn_struct w (d + d') t _ _ (by rw [hf]; exact hu) hp, hf]
          exact run_eqFs (fun t x y b h w => ih d' t x y b h w) h w
        · cases h
      · cases h
    · cases h

section
variable {cx : Cx} {s g : Map} {m : Nat → Nat} {a : Act} {w : World}
variable {d : Nat} {type : TypeId} {pos : String} {after : Array Edge} {guard : Option (Nat × Bool)}

theorem op_eqS {ty ty' : TypeId} {x y : Operand} {v u : List SV} {r : Bool} (hN : d < cx.N) (hx : Ev s x (.g v)) (hy : Ev s y (.g u)) (hg : cx.P.eqGuardType cx.P.depth ty = false)
    (h : ∀ m, eqB cx.P 8 ty (den m (.g v)) (den m (.g u)) = some r) :
    OpRun cx ⟨some d, .binOp .eql ty x y ty', type, pos, after, guard⟩ s ⟨okeys x ++ okeys y, [(.t d, some (.x (.v (.bool r))))], []⟩ :=
  op_eqv hN hx hy fun m w => by
    have h1 := run_eqB 8 9992 ty _ _ r (h m) w
    simp only [den] at h1 ⊢
    rw [Sem.run_bind, run_eqGuard_agg w _ _ _ _ _ _ hg]
    simp only [Result.andThen_ok]
    rw [run_eql_struct, h1]
    rfl

theorem op_neS {ty ty' : TypeId} {x y : Operand} {v u : List SV} {r : Bool} (hN : d < cx.N) (hx : Ev s x (.g v)) (hy : Ev s y (.g u)) (hg : cx.P.eqGuardType cx.P.depth ty = false)
    (h : ∀ m, eqB cx.P 8 ty (den m (.g v)) (den m (.g u)) = some r) :
    OpRun cx ⟨some d, .binOp .neq ty x y ty', type, pos, after, guard⟩ s ⟨okeys x ++ okeys y, [(.t d, some (.x (.v (.bool (!r)))))], []⟩ :=
  op_eqv hN hx hy fun m w => by
    have h1 := run_eqB 8 9992 ty _ _ r (h m) w
    simp only [den] at h1 ⊢
    rw [Sem.run_bind, run_eqGuard_agg w _ _ _ _ _ _ hg]
    simp only [Result.andThen_ok]
    rw [run_neq_struct, h1]
    rfl

theorem op_eqb {ty ty' : TypeId} {x y : Operand} {b c : Bool} (hN : d < cx.N) (hx : Ev s x (.v (.bool b))) (hy : Ev s y (.v (.bool c))) (hu : cx.P.underlying ty = some .bool) :
    OpRun cx ⟨some d, .binOp .eql ty x y ty', type, pos, after, guard⟩ s ⟨okeys x ++ okeys y, [(.t d, some (.x (.v (.bool (b == c)))))], []⟩ :=
  op_eqv hN hx hy fun m w => by
    simp [den, eqGuard, binOp, run_equal_bool w ty b c hu]
theorem op_neb {ty ty' : TypeId} {x y : Operand} {b c : Bool} (hN : d < cx.N) (hx : Ev s x (.v (.bool b))) (hy : Ev s y (.v (.bool c))) (hu : cx.P.underlying ty = some .bool) :
    OpRun cx ⟨some d, .binOp .neq ty x y ty', type, pos, after, guard⟩ s ⟨okeys x ++ okeys y, [(.t d, some (.x (.v (.bool (!(b == c))))))], []⟩ :=
  op_eqv hN hx hy fun m w => by
    simp [den, eqGuard, binOp, run_equal_bool w ty b c hu]

/-- A cell of a row of one's own, written. -/
theorem Rel.setRow {L C o ty k : Nat} {cs : List Value} {v : Value} (h : Rel cx m g a w) (hr : g (.r L) = some (.vec true C ty k cs)) (ho : o < cs.length) :
    Rel cx m (upd [(.r L, some (.vec true C ty k (cs.set o v)))] g) a (w.setCell ⟨m L, o, none⟩ v) := by
  have hv := h.vec L true C ty k cs hr
  obtain ⟨hc, cur, hh, hsz, hcur⟩ : m C ≠ 0 ∧ ∃ cur : Array Value, w.heap[m L]? = some (.cells cur ty (0, 0)) ∧ cur.size = m C * k ∧ ∀ (i : Nat) (v : Value), cs[i]? = some v → cur[i]? = some v := by
    rcases hv with ⟨_, e⟩ | hv
    · subst e; simp at ho
    · exact hv
  have hlt : o < cur.size := by
    have := hcur o cs[o] (List.getElem?_eq_getElem ho)
    exact (Array.getElem?_eq_some_iff.1 this).1
  have hnb : ∀ {l ty' n}, g (.b l) = some (.sh ty' n) → m l ≠ m L := fun {l ty' n} hl => (h.sep L true C ty k cs l ty' n hr hl hc).symm
  have keep : ∀ {b : Nat}, b ≠ m L → (w.setCell ⟨m L, o, none⟩ v).heap[b]? = w.heap[b]? := fun {b} hb => Below.heap_setCell _ _ _ _ hb
  refine ⟨h.size, h.defers, fun i y hy => ?_, fun i b y hy => ?_, fun L' ty' n' hL => ?_, fun L' o' y hy => ?_, fun L' o' y hy => ?_, fun L1 L2 ty1 n1 ty2 n2 h1 h2 => ?_, fun L1 own C1 ty1 k1 cs1 hx => ?_, fun L1 own C1 ty1 k1 cs1 L' ty' n' hx hy hc1 => ?_,
    fun L1 C1 ty1 k1 cs1 L' own' C' ty' k' cs' hx hy hne hc1 hc' => ?_, fun L1 C1 ty1 k1 cs1 hx hc1 => ?_, h.held.setCell (p := ⟨m L, o, none⟩) (h.ownR L C ty k cs hr hc) _, by simpa [World.setCell] using h.top,
    fun L b hb => by obtain ⟨h1, ty, n, h2⟩ := h.fix L b hb; exact ⟨h1, ty, n, by rw [upd_one, if_neg (by simp)]; exact h2⟩⟩
  · rw [upd_one, if_neg (by simp)] at hy; exact h.tm i y hy
  · rw [upd_one, if_neg (by simp)] at hy; exact h.tmc i b y hy
  · rw [upd_one, if_neg (by simp)] at hL
    obtain ⟨h1, cs', h2, h3⟩ := h.blk L' ty' n' hL
    exact ⟨h1, cs', h2, by rw [keep (hnb hL)]; exact h3⟩
  · rw [upd_one, if_neg (by simp)] at hy
    obtain ⟨ty', n', hL'⟩ := h.own L' o' y hy
    have := h.cell L' o' y hy
    simp only [World.cell?] at this ⊢
    rw [keep (hnb hL')]; exact this
  · rw [upd_one, if_neg (by simp)] at hy
    obtain ⟨ty', n', hL'⟩ := h.own L' o' y hy
    exact ⟨ty', n', by rw [upd_one, if_neg (by simp)]; exact hL'⟩
  · rw [upd_one, if_neg (by simp)] at h1 h2; exact h.inj L1 L2 ty1 n1 ty2 n2 h1 h2
  · rw [upd_one] at hx
    by_cases e : Key.r L = Key.r L1
    · rw [if_pos e] at hx
      cases e
      simp only [Option.some.injEq, Val.vec.injEq] at hx
      obtain ⟨rfl, rfl, rfl, rfl, rfl⟩ := hx
      refine .inr ⟨hc, cur.setIfInBounds o v, ?_, by simpa using hsz, fun i u hi => ?_⟩
      · simp only [World.setCell, Array.getElem?_modify, hh]
        simp
      · rw [Array.getElem?_setIfInBounds]
        rw [List.getElem?_set] at hi
        by_cases e : o = i
        · subst e
          simp only [if_true] at hi ⊢
          rw [if_pos hlt]
          simpa [ho] using hi
        · rw [if_neg e] at hi ⊢
          exact hcur i u hi
    · rw [if_neg e] at hx
      have h1 := h.vec L1 own C1 ty1 k1 cs1 hx
      exact h1.same fun hc1 => keep fun e1 => h.sepR L C ty k cs L1 own C1 ty1 k1 cs1 hr hx (fun e2 => e (by rw [e2])) hc hc1 e1.symm
  · rw [upd_one, if_neg (by simp)] at hy
    rw [upd_one] at hx
    by_cases e : Key.r L = Key.r L1
    · rw [if_pos e] at hx
      cases e
      simp only [Option.some.injEq, Val.vec.injEq] at hx
      obtain ⟨rfl, rfl, rfl, rfl, rfl⟩ := hx
      exact (hnb hy).symm
    · rw [if_neg e] at hx
      exact h.sep L1 own C1 ty1 k1 cs1 L' ty' n' hx hy hc1
  · rw [upd_one] at hx hy
    by_cases e : Key.r L = Key.r L1
    · rw [if_pos e] at hx
      cases e
      simp only [Option.some.injEq, Val.vec.injEq] at hx
      obtain ⟨_, rfl, rfl, rfl, rfl⟩ := hx
      rw [if_neg (by simpa using hne)] at hy
      exact h.sepR L C ty k cs L' own' C' ty' k' cs' hr hy hne hc hc'
    · rw [if_neg e] at hx
      by_cases e2 : Key.r L = Key.r L'
      · rw [if_pos e2] at hy
        cases e2
        simp only [Option.some.injEq, Val.vec.injEq] at hy
        obtain ⟨rfl, rfl, rfl, rfl, rfl⟩ := hy
        exact h.sepR L1 C1 ty1 k1 cs1 L true C ty k cs hx hr hne hc1 hc
      · rw [if_neg e2] at hy
        exact h.sepR L1 C1 ty1 k1 cs1 L' own' C' ty' k' cs' hx hy hne hc1 hc'
  · rw [upd_one] at hx
    by_cases e : Key.r L = Key.r L1
    · rw [if_pos e] at hx
      cases e
      simp only [Option.some.injEq, Val.vec.injEq] at hx
      obtain ⟨_, rfl, rfl, rfl, rfl⟩ := hx
      exact h.ownR L C ty k cs hr hc
    · rw [if_neg e] at hx; exact h.ownR L1 C1 ty1 k1 cs1 hx hc1

end
end Go.AX
