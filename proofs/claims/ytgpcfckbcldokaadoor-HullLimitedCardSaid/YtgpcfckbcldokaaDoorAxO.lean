/-
  The core, fifteenth part: blocks apart from a lent one.
-/
import Derived.Test.YtgpcfckbcldokaaDoorAxN
namespace Go.AX
open Go Go.RowKit

theorem lent_one {P : Program} {r : Option Nat} {B N : Nat} {w0 : World} {ds : List Deferred} {L b b0 : Nat} (h : b ≠ b0) : ¬ Cx.lent ⟨P, r, B, w0, N, ds, [(L, b0)]⟩ b := fun ⟨l, hl⟩ => by
  simp only [List.mem_singleton, Prod.mk.injEq] at hl
  exact h hl.2

theorem sl_ne {α : Type} {enc : α → List Value} {k b : Nat} {w : World} {a : SlV} {l : List α} (h : SlIs enc k w a l) (hb : w.heap.size ≤ b) : l ≠ [] → ∀ ad, a.p = some ad → ad.block ≠ b := by
  intro hl ad had e
  obtain ⟨b', o, h1, h2, _⟩ := h.2.2 hl
  rw [h1] at had
  cases had
  simp only at e
  omega

section
variable {cx : Cx} {g : Map} {m : Nat → Nat} {a : Act} {w : World}

theorem box_ne {L L' n n' : Nat} {ty ty' : TypeId} (h : Rel cx m g a w) (h1 : g (.b L) = some (.sh ty n)) (h2 : g (.b L') = some (.sh ty' n')) (hne : L ≠ L') : m L ≠ m L' := fun e => hne (h.inj L L' ty n ty' n' h1 h2 e)

theorem box_hi {P : Program} {r : Option Nat} {B N : Nat} {w0 : World} {ds : List Deferred} {L n : Nat} {ty : TypeId} (h : Rel ⟨P, r, B, w0, N, ds, []⟩ m g a w) (h1 : g (.b L) = some (.sh ty n)) : B ≤ m L := mine_nil (h.blk L ty n h1).1

end

/-- What a call leaves that hands back two new boxes. -/
structure TwoNew (w w' : World) (b1 b2 : Nat) (ty1 ty2 : TypeId) (v1 v2 : List Value) : Prop where
  below : Below w.heap.size w w'
  new1 : w.heap.size ≤ b1
  new2 : w.heap.size ≤ b2
  ne : b1 ≠ b2
  it1 : w'.heap[b1]? = some (.cells v1.toArray ty1 (0, 0))
  it2 : w'.heap[b2]? = some (.cells v2.toArray ty2 (0, 0))

section
variable {cx : Cx} {s g : Map} {m : Nat → Nat} {a : Act} {w : World}

/-- A box that a call has laid. -/
theorem Rel.gotBox {L b : Nat} {ty : TypeId} {vs : List Value} (h : Rel cx m g a w) (hf : ∀ q, mentions L q (g q) = false) (hb : w.heap[b]? = some (.cells vs.toArray ty (0, 0))) (hB : cx.B ≤ b)
    (hnew : ∀ l ty n, g (.b l) = some (.sh ty n) → m l ≠ b) (hrow : ∀ l own C ty k cs, g (.r l) = some (.vec own C ty k cs) → m C ≠ 0 → m l ≠ b) :
    Rel cx (setL m L b) (upd ((.b L, some (.sh ty vs.length)) :: cellsUp L 0 (vs.map SV.v)) g) a w := by
  have hx : ∀ {k x}, g k = some (.x x) → den (setL m L b) x = den m x := fun {k x} hk => den_setL (by have := hf k; rw [hk] at this; exact (mentions_x (b := true)).1 this)
  have hxc : ∀ {k c x}, g k = some (.xc c x) → den (setL m L b) x = den m x := fun {k c x} hk => den_setL (by have := hf k; rw [hk] at this; exact (mentions_x (b := c)).2 this)
  have hgb : ∀ {L' ty' n'}, g (.b L') = some (.sh ty' n') → L' ≠ L := fun {L' ty' n'} hk e => by
    have := hf (.b L'); rw [hk] at this; simp [mentions, e] at this
  have hgr : ∀ {L' own C ty' k cs'}, g (.r L') = some (.vec own C ty' k cs') → L' ≠ L ∧ C ≠ L := fun {L' own C ty' k cs'} hk => by
    have := hf (.r L')
    rw [hk] at this
    simp only [mentions, Bool.or_eq_false_iff] at this
    exact ⟨fun e => by subst e; simp at this, fun e => by subst e; simp at this⟩
  have key : ∀ k, upd ((.b L, some (.sh ty vs.length)) :: cellsUp L 0 (vs.map SV.v)) g k = match k with
      | .b L' => if L' = L then some (.sh ty vs.length) else g k
      | .c L' o => if L' = L ∧ o < vs.length then ((vs.map SV.v)[o]?).map Val.x else g k
      | _ => g k := by
    intro k
    simp only [upd]
    rw [upd_cellsUp]
    cases k with
    | t i => rfl
    | b L' =>
      by_cases e : L' = L
      · subst e; simp [Key.eqb]
      · have : Key.eqb (.b L) (.b L') = false := Key.eqb_false (by simpa using Ne.symm e)
        simp [this, e]
    | c L' o => simp [Key.eqb]
    | r L' => simp [Key.eqb]
  have hgc : ∀ {L' o x}, g (.c L' o) = some (.x x) → L' ≠ L := fun {L' o x} hk => by
    obtain ⟨ty', n', hL'⟩ := h.own L' o x hk
    exact hgb hL'
  refine ⟨h.size, h.defers, fun i y hy => ?_, fun i c y hy => ?_, fun L' ty' n' hL' => ?_, fun L' o' y hy => ?_, fun L' o' y hy => ?_, fun L1 L2 ty1 n1 ty2 n2 h1 h2 he => ?_, fun L1 own C ty1 k cs1 hx => ?_, fun L1 own C ty1 k cs1 L' ty' n' hx hy hc => ?_,
    fun L1 C ty1 k cs1 L' own' C' ty' k' cs' hx hy hne hc hc' => ?_, fun L1 C ty1 k cs1 hx hc => ?_, h.held, h.top, fun L1 b1 hb1 => ?_⟩
  · rw [key] at hy; rw [hx hy]; exact h.tm i y hy
  · rw [key] at hy; rw [hxc hy]; exact h.tmc i c y hy
  · rw [key] at hL'
    by_cases e : L' = L
    · subst e
      simp only [if_true, Option.some.injEq, Val.sh.injEq] at hL'
      obtain ⟨rfl, rfl⟩ := hL'
      rw [setL_self]
      exact ⟨.inl hB, vs.toArray, by simp, hb⟩
    · simp only [e, if_false] at hL'
      rw [setL_ne _ _ e]
      exact h.blk L' ty' n' hL'
  · rw [key] at hy
    by_cases e : L' = L ∧ o' < vs.length
    · obtain ⟨rfl, ho⟩ := e
      simp only [ho, and_self, if_true, List.getElem?_map, List.getElem?_eq_getElem ho, Option.map_some, Option.some.injEq, Val.x.injEq] at hy
      subst hy
      rw [setL_self]
      simp only [World.cell?, hb, den]
      simp [ho]
    · simp only [e, if_false] at hy
      have := hgc hy
      rw [setL_ne _ _ this, hx hy]
      exact h.cell L' o' y hy
  · rw [key] at hy
    by_cases e : L' = L ∧ o' < vs.length
    · exact ⟨ty, vs.length, by rw [key]; simp [e.1]⟩
    · simp only [e, if_false] at hy
      obtain ⟨ty', n', hL'⟩ := h.own L' o' y hy
      exact ⟨ty', n', by rw [key]; simp only [hgb hL', if_false]; exact hL'⟩
  · rw [key] at h1 h2
    by_cases e1 : L1 = L
    · by_cases e2 : L2 = L
      · rw [e1, e2]
      · simp only [e2, if_false] at h2
        rw [e1, setL_self, setL_ne _ _ e2] at he
        exact absurd he.symm (hnew L2 ty2 n2 h2)
    · simp only [e1, if_false] at h1
      by_cases e2 : L2 = L
      · rw [e2, setL_self, setL_ne _ _ e1] at he
        exact absurd he (hnew L1 ty1 n1 h1)
      · simp only [e2, if_false] at h2
        rw [setL_ne _ _ e1, setL_ne _ _ e2] at he
        exact h.inj L1 L2 ty1 n1 ty2 n2 h1 h2 he
  · rw [key] at hx
    obtain ⟨e1, e2⟩ := hgr hx
    rw [setL_ne _ _ e1, setL_ne _ _ e2]
    exact h.vec L1 own C ty1 k cs1 hx
  · rw [key] at hx hy
    obtain ⟨e1, e2⟩ := hgr hx
    rw [setL_ne _ _ e2] at hc
    rw [setL_ne _ _ e1]
    by_cases e : L' = L
    · subst e
      rw [setL_self]
      exact hrow L1 own C ty1 k cs1 hx hc
    · simp only [e, if_false] at hy
      rw [setL_ne _ _ e]
      exact h.sep L1 own C ty1 k cs1 L' ty' n' hx hy hc
  · rw [key] at hx hy
    obtain ⟨e1, e2⟩ := hgr hx
    obtain ⟨e3, e4⟩ := hgr hy
    rw [setL_ne _ _ e2] at hc
    rw [setL_ne _ _ e4] at hc'
    rw [setL_ne _ _ e1, setL_ne _ _ e3]
    exact h.sepR L1 C ty1 k cs1 L' own' C' ty' k' cs' hx hy hne hc hc'
  · rw [key] at hx
    obtain ⟨e1, e2⟩ := hgr hx
    rw [setL_ne _ _ e2] at hc
    rw [setL_ne _ _ e1]
    exact h.ownR L1 C ty1 k cs1 hx hc
  · obtain ⟨h1, ty1, n1, h2⟩ := h.fix L1 b1 hb1
    have hne := hgb h2
    exact ⟨by rw [setL_ne _ _ hne]; exact h1, ty1, n1, by rw [key]; simp only [hne, if_false]; exact h2⟩


/-- What the cells of a box bring into the state. -/
def boxUp (L : Nat) (ty : TypeId) (vs : List Value) : St := (.b L, some (.sh ty vs.length)) :: cellsUp L 0 (vs.map SV.v)

theorem mentions_boxUp {L L' : Nat} {ty : TypeId} {vs : List Value} (hne : L ≠ L') (hf : ∀ q, mentions L' q (g q) = false) : ∀ q, mentions L' q (upd (boxUp L ty vs) g q) = false := by
  intro q
  simp only [boxUp, upd]
  rw [upd_cellsUp]
  cases q with
  | t i => simpa [Key.eqb] using hf (.t i)
  | r l => simpa [Key.eqb] using hf (.r l)
  | b l =>
    by_cases e : Key.b L = Key.b l
    · rw [Key.eqb_iff.2 e]
      cases e
      simp [mentions, beq_ne hne]
    · rw [Key.eqb_false e]; exact hf (.b l)
  | c l o' =>
    simp only [Key.eqb, cond_false, List.length_map]
    by_cases e : l = L ∧ 0 ≤ o' ∧ o' < 0 + vs.length
    · obtain ⟨rfl, h0, h1⟩ := e
      simp only [Nat.zero_add] at h1
      simp [h1, mentions, beq_ne hne, SV.has]
    · have := hf (.c l o')
      simp at e
      by_cases e2 : l = L
      · subst e2
        have := e rfl
        simp [Nat.not_lt.2 this]; exact hf _
      · simp [e2]; exact hf _

variable {d : Nat} {type : TypeId} {pos : String} {after : Array Edge} {guard : Option (Nat × Bool)}

theorem op_callTwo {fo : Operand} {fv : SV} {k L1 L2 : Nat} {ty1 ty2 : TypeId} {v1 v2 : List Value} {R : Nat → Nat → Value} {fs caps xs : List SV} {x : SV} {args : Array Operand} {ts : Array TypeId} {extra : List Key}
    (hN : d < cx.N) (hen : Proofs.Enters cx.P k) (hf : Ev s fo fv) (hk : calleeOf k fs caps fv) (hx : EvL s args.toList xs) (hne : L1 ≠ L2) (hden : ∀ m, den m x = R (m L1) (m L2))
    (hc : ∀ (m : Nat → Nat) (a : Act) (w : World) (g : Map), (∀ k ∈ extra, g k = s k) → Rel cx m g a w →
      Calls cx.P k (denL m (fs ++ (xs ++ caps))).toArray w fun e w' => ∃ b1 b2, e = .returned (R b1 b2) ∧ TwoNew w w' b1 b2 ty1 ty2 v1 v2) :
    OpRun cx ⟨some d, .call ⟨.value fo, args, ts⟩, type, pos, after, guard⟩ s ⟨okeys fo ++ okeysL args.toList ++ extra, (.t d, some (.x x)) :: (boxUp L2 ty2 v2 ++ boxUp L1 ty1 v1), [L1, L2]⟩ :=
  op_callG hen hf hk hx fun m a w g hr hfr hrel => (hc m a w g hr hrel).mono fun e w' ⟨b1, b2, he, hn⟩ => by
    have hu := hrel.under
    have hw := hrel.world hn.below
    have f1 := hfr L1 (by simp)
    have f2 := hfr L2 (by simp)
    have h1 := hw.gotBox (L := L1) (b := b1) f1 hn.it1 (Nat.le_trans hrel.top hn.new1) (fun l ty n hl => by have := hu.1 l ty n hl; have := hn.new1; omega) (fun l own C ty k cs hl hc => by have := hu.2 l own C ty k cs hl hc; have := hn.new1; omega)
    have f2' := mentions_boxUp (ty := ty1) (vs := v1) hne f2
    have old : ∀ {l ty n}, upd (boxUp L1 ty1 v1) g (.b l) = some (.sh ty n) → (l = L1 ∨ g (.b l) = some (.sh ty n)) := by
      intro l ty n hl
      simp only [boxUp, upd] at hl
      by_cases e : l = L1
      · exact .inl e
      · rw [Key.eqb_false (by simpa using Ne.symm e), upd_cellsUp] at hl
        exact .inr (by simpa using hl)
    have h2 := h1.gotBox (L := L2) (b := b2) f2' hn.it2 (Nat.le_trans hrel.top hn.new2) (fun l ty n hl => by
        rcases old hl with e | hl2
        · rw [e, setL_self]; exact hn.ne
        · have hne1 : l ≠ L1 := fun e => by
            subst e
            have := f1 (.b l); rw [hl2] at this; simp [mentions] at this
          rw [setL_ne _ _ hne1]
          have := hu.1 l ty n hl2; have := hn.new2; omega)
      (fun l own C ty k cs hl hc => by
        simp only [upd] at hl
        rw [Key.eqb_false (by simp), upd_cellsUp] at hl
        simp only [cond_false] at hl
        have q := f1 (.r l)
        rw [hl] at q
        have q' := mentions_r q
        rw [setL_ne _ _ q'.2] at hc
        rw [setL_ne _ _ q'.1]
        have := hu.2 l own C ty k cs hl hc; have := hn.new2; omega)
    refine ⟨_, _, he, (h2.put (x := x) hN ?_).congr (fun q => ?_)⟩
    · rw [hden, setL_self, setL_ne _ _ hne, setL_self]
    · refine Eq.trans ?_ (upd_cons g q).symm
      rw [upd_append]; rfl

end
end Go.AX
