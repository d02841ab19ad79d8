/-
  The core, twelfth part: calls that hand back a value with several new rows in it (read by the caller, not written).
-/
import Derived.Test.YtgpcfckbcldokaaDoorAxK
namespace Go.AX
open Go Go.RowKit

/-- New slices, each of its length, its elements' type and size, and its cells. -/
def NewRows (w w' : World) : List SlV → List (Nat × Nat × Nat × List Value) → Prop
  | [], [] => True
  | a :: sl, (n, ty, k, cs) :: ds => a.n = n ∧ NewAt w w' a.p n a.c ty k cs ∧ NewRows w w' sl ds
  | _, _ => False

def rowsUp : List (Nat × Nat) → List (Nat × Nat × Nat × List Value) → St
  | (L, C) :: ls, (_, ty, k, cs) :: ds => rowsUp ls ds ++ [(.r L, some (.vec false C ty k cs))]
  | _, _ => []

def labsOf : List (Nat × Nat) → List Nat
  | [] => []
  | (L, C) :: ls => L :: C :: labsOf ls

def distinct : List Nat → Bool
  | [] => true
  | x :: xs => xs.all (fun y => !Nat.beq x y) && distinct xs

def UnderT (m : Nat → Nat) (g : Map) (b : Nat) : Prop :=
  (∀ l ty n, g (.b l) = some (.sh ty n) → m l < b) ∧ (∀ l C ty k cs, g (.r l) = some (.vec true C ty k cs) → m C ≠ 0 → m l < b)

def dens (m : Nat → Nat) : List (Nat × Nat) → List (Nat × Nat × Nat × List Value) → List Value
  | (L, C) :: ls, (n, _) :: ds => den m (.o L C n) :: dens m ls ds
  | _, _ => []

theorem mentions_b {L l ty n : Nat} (h : mentions L (.b l) (some (.sh ty n)) = false) : l ≠ L := fun e => by subst e; simp [mentions] at h
theorem mentions_r {L l C ty k : Nat} {own : Bool} {cs : List Value} (h : mentions L (.r l) (some (.vec own C ty k cs)) = false) : l ≠ L ∧ C ≠ L := by
  simp only [mentions, Bool.or_eq_false_iff] at h
  exact ⟨fun e => by subst e; simp at h, fun e => by subst e; simp at h⟩

theorem dens_congr {m m' : Nat → Nat} : ∀ {ls : List (Nat × Nat)} {ds : List (Nat × Nat × Nat × List Value)}, (∀ l ∈ labsOf ls, m' l = m l) → dens m' ls ds = dens m ls ds
  | [], _, _ => rfl
  | (L, C) :: ls, [], _ => rfl
  | (L, C) :: ls, (n, d) :: ds, h => by
    simp only [labsOf, List.mem_cons] at h
    simp only [dens, den]
    rw [h L (.inl rfl), h C (.inr (.inl rfl)), dens_congr fun l hl => h l (.inr (.inr hl))]

theorem Rel.newRowsF {cx : Cx} {a : Act} {w w' : World} {b0 : Nat} (hb0 : b0 ≤ w.heap.size) (_hB : cx.B ≤ b0) : ∀ (ls : List (Nat × Nat)) (ds : List (Nat × Nat × Nat × List Value)) (sl : List SlV) {m : Nat → Nat} {g : Map},
    ls.length = ds.length → distinct (labsOf ls) = true → (∀ l ∈ labsOf ls, ∀ q, mentions l q (g q) = false) → UnderT m g b0 → NewRows w w' sl ds → Rel cx m g a w' →
    ∃ m', Rel cx m' (upd (rowsUp ls ds) g) a w' ∧ dens m' ls ds = sl.map SlV.val ∧ ∀ l, l ∉ labsOf ls → m' l = m l := by
  intro ls
  induction ls with
  | nil =>
    intro ds sl m g hlen _ _ _ hn hrel
    cases ds with
    | nil =>
      cases sl with
      | nil => exact ⟨m, hrel, rfl, fun _ _ => rfl⟩
      | cons x xs => exact hn.elim
    | cons d ds => simp at hlen
  | cons x ls ih =>
    obtain ⟨L, C⟩ := x
    intro ds sl m g hlen hd hf hu hn hrel
    cases ds with
    | nil => simp at hlen
    | cons d ds =>
      obtain ⟨n, ty, k, cs⟩ := d
      cases sl with
      | nil => exact hn.elim
      | cons a1 sl =>
        obtain ⟨h1, ⟨b, hp, hv, hfresh, hcl⟩, h3⟩ := hn
        simp only [labsOf, distinct, Bool.and_eq_true, List.all_eq_true, List.mem_cons, Bool.not_eq_true', forall_eq_or_imp] at hd
        obtain ⟨⟨hLC, hL⟩, hC, hd'⟩ := hd
        have hne : L ≠ C := fun e => by subst e; simp at hLC
        have fL := hf L (by simp [labsOf])
        have fC := hf C (by simp [labsOf])
        have hle : a1.c ≠ 0 → b0 ≤ b := fun hc => Nat.le_trans hb0 (hfresh hc)
        have hr1 := hrel.addRow (own := false) fL fC hne hv (fun h => by cases h) (fun hc l ty' n' hl => by have := hu.1 l ty' n' hl; have := hle hc; omega)
          (fun hc l own' C2 ty' k' cs' hl ho hc2 => by
            rcases ho with ho | ho
            · cases ho
            · subst ho
              have := hu.2 l C2 ty' k' cs' hl hc2; have := hle hc; omega)
        have hmem : ∀ l ∈ labsOf ls, l ≠ L ∧ l ≠ C := fun l hl => ⟨fun e => by have := hL l hl; rw [e] at this; simp at this, fun e => by have := hC l hl; rw [e] at this; simp at this⟩
        have hf' : ∀ l ∈ labsOf ls, ∀ q, mentions l q (upd [(.r L, some (.vec false C ty k cs))] g q) = false := by
          intro l hl q
          rw [upd_one]
          by_cases e : Key.r L = q
          · rw [if_pos e, ← e]
            have := hmem l hl
            simp [mentions, beq_ne (Ne.symm this.1), beq_ne (Ne.symm this.2)]
          · rw [if_neg e]; exact hf l (by simp [labsOf, hl]) q
        have hu' : UnderT (setL (setL m L b) C a1.c) (upd [(.r L, some (.vec false C ty k cs))] g) b0 := by
          refine ⟨fun l ty' n' hl => ?_, fun l C2 ty' k' cs' hl hc2 => ?_⟩
          · rw [upd_one, if_neg (by simp)] at hl
            have e1 := fL (.b l); have e2 := fC (.b l)
            rw [hl] at e1 e2
            rw [setL_ne _ _ (mentions_b e2), setL_ne _ _ (mentions_b e1)]
            exact hu.1 l ty' n' hl
          · rw [upd_one] at hl
            by_cases e : Key.r L = Key.r l
            · rw [if_pos e] at hl; simp at hl
            · rw [if_neg e] at hl
              have e1 := fL (.r l); have e2 := fC (.r l)
              rw [hl] at e1 e2
              have q1 := mentions_r e1; have q2 := mentions_r e2
              rw [setL_ne _ _ q2.2, setL_ne _ _ q1.2] at hc2
              rw [setL_ne _ _ q2.1, setL_ne _ _ q1.1]
              exact hu.2 l C2 ty' k' cs' hl hc2
        obtain ⟨m', hr', hden, hkeep⟩ := ih ds sl (by simpa using hlen) hd' hf' hu' h3 hr1
        have nL : L ∉ labsOf ls := fun h => (hmem L h).1 rfl
        have nC : C ∉ labsOf ls := fun h => (hmem C h).2 rfl
        refine ⟨m', ?_, ?_, fun l hl => ?_⟩
        · simp only [rowsUp]
          rw [upd_append]; exact hr'
        · simp only [dens, List.map_cons, hden, List.cons.injEq, and_true, den, SlV.val]
          rw [hkeep L nL, hkeep C nC, setL_self, setL_ne _ _ hne, setL_self, hp, h1]
        · simp only [labsOf, List.mem_cons, not_or] at hl
          rw [hkeep l hl.2.2, setL_ne _ _ hl.2.1, setL_ne _ _ hl.1]

/-- A call that hands back a value with new rows in it. -/
theorem op_callRows {cx : Cx} {s : Map} {d : Nat} {type : TypeId} {pos : String} {after : Array Edge} {guard : Option (Nat × Bool)} {fo : Operand} {fv : SV} {k : Nat} {fs caps xs : List SV} {args : Array Operand} {ts : Array TypeId} {extra : List Key}
    {R : List Value → Value} {x : SV} {ls : List (Nat × Nat)} {ds : List (Nat × Nat × Nat × List Value)}
    (hN : d < cx.N) (hen : Proofs.Enters cx.P k) (hf : Ev s fo fv) (hk : calleeOf k fs caps fv) (hx : EvL s args.toList xs) (hlen : ls.length = ds.length) (hd : distinct (labsOf ls) = true)
    (hden : ∀ (m : Nat → Nat), den m x = R (dens m ls ds))
    (hc : ∀ (m : Nat → Nat) (a : Act) (w : World) (g : Map), (∀ k ∈ extra, g k = s k) → Rel cx m g a w →
      Calls cx.P k (denL m (fs ++ (xs ++ caps))).toArray w fun e w' => ∃ sl : List SlV, e = .returned (R (sl.map SlV.val)) ∧ NewRows w w' sl ds ∧ Below w.heap.size w w') :
    OpRun cx ⟨some d, .call ⟨.value fo, args, ts⟩, type, pos, after, guard⟩ s ⟨okeys fo ++ okeysL args.toList ++ extra, (.t d, some (.x x)) :: rowsUp ls ds, labsOf ls⟩ :=
  op_callG hen hf hk hx fun m a w g hr hfr hrel => (hc m a w g hr hrel).mono fun e w' ⟨sl, he, hnew, hb⟩ => by
    have hu := hrel.under
    obtain ⟨m', h1, h2, _⟩ := (hrel.world hb).newRowsF (Nat.le_refl _) hrel.top ls ds sl hlen hd (fun l hl q => hfr l hl q) ⟨hu.1, fun l C ty k cs => hu.2 l true C ty k cs⟩ hnew
    exact ⟨_, m', he, (h1.put (x := x) hN (by rw [hden, h2])).congr (fun q => (upd_cons g q).symm)⟩

end Go.AX
