/-
  The core, sixteenth part: what is computed, as a plain term with checks ('mirror'); joins and loops by continuations; conversions of slices; several lent boxes.
-/
import Derived.Test.YtgpcfckbcldokaaDoorAxO
namespace Go.AX
open Go Go.RowKit

/-! ### Mirrors -/

def chk {α : Type} (p : Prop) [Decidable p] (x : Option α) : Option α := if p then x else none
def brk {α : Type} (c : Bool) (x y : Option α) : Option α := match c with | true => x | false => y
def bnd {α β : Type} (x : Option α) (f : α → Option β) : Option β := match x with | some a => f a | none => none
def join {ι R : Type} (K : ι → Option R) (body : (ι → Option R) → Option R) : Option R := body K
def loopC {σ R : Type} (body : σ → (σ → Option R) → Option R) : Nat → σ → Option R
  | 0, _ => none
  | n + 1, x => body x (loopC body n)

theorem chk_some {α : Type} {p : Prop} [Decidable p] {x : Option α} {r : α} (h : chk p x = some r) : p ∧ x = some r := by
  unfold chk at h
  split at h
  · exact ⟨by assumption, h⟩
  · cases h
theorem bnd_some {α β : Type} {x : Option α} {f : α → Option β} {r : β} (h : bnd x f = some r) : ∃ a, x = some a ∧ f a = some r := by
  cases x with
  | none => cases h
  | some a => exact ⟨a, rfl, h⟩
theorem brk_t {α : Type} {c : Bool} {x y : Option α} {r : α} (hc : c = true) (h : brk c x y = some r) : x = some r := by subst hc; exact h
theorem brk_f {α : Type} {c : Bool} {x y : Option α} {r : α} (hc : c = false) (h : brk c x y = some r) : y = some r := by subst hc; exact h

abbrev InR (x : Int) : Prop := -9223372036854775808 ≤ x ∧ x ≤ 9223372036854775807

theorem chk_pos {α : Type} {p : Prop} [Decidable p] {x : Option α} (h : p) : chk p x = x := if_pos h
theorem bnd_pos {α β : Type} {a : α} {f : α → Option β} : bnd (some a) f = f a := rfl
theorem bnd_of {α β : Type} {x : Option α} {a : α} {f : α → Option β} (h : x = some a) : bnd x f = f a := by subst h; rfl
theorem brk_true {α : Type} {x y : Option α} : brk true x y = x := rfl
theorem brk_false {α : Type} {x y : Option α} : brk false x y = y := rfl
theorem brk_pos {α : Type} {c : Bool} {x y : Option α} (h : c = true) : brk c x y = x := by subst h; rfl
theorem brk_neg {α : Type} {c : Bool} {x y : Option α} (h : c = false) : brk c x y = y := by subst h; rfl
theorem loopC_succ {σ R : Type} {body : σ → (σ → Option R) → Option R} {n : Nat} {x : σ} : loopC body (n + 1) x = body x (loopC body n) := rfl
theorem join_eq {ι R : Type} {K : ι → Option R} {body : (ι → Option R) → Option R} : join K body = body K := rfl

section
variable {cx : Cx} {s : St} {Q : Exit → Act → World → Prop}

theorem aw_cutM {x y : Code} {ι R : Type} {K : ι → Option R} {body : (ι → Option R) → Option R} {r : R} (hm : join K body = some r) (S : ι → St)
    (h1 : body K = some r → AW cx x s (Exit.then (fun a w => ∃ i, K i = some r ∧ ∃ m, Rel cx m (get (S i)) a w) Q)) (h2 : ∀ i, K i = some r → AW cx y (S i) Q) : AW cx (.seq x y) s Q := by
  refine fun m a w hr => wpIn_seq (wpIn_mono (h1 hm m a w hr) fun e a' w' hq => ?_)
  cases e with
  | normal => obtain ⟨i, hi, m', hr'⟩ := hq; exact h2 i hi m' a' w' hr'
  | _ => exact hq

theorem fin_cut {ι : Type} {P : ι → Prop} {S : ι → St} (i : ι) (hi : P i) (hk : Keep (S i) s) (hok : keepOK cx (S i) = true) :
    Fin cx s (Exit.then (fun a w => ∃ i, P i ∧ ∃ m, Rel cx m (get (S i)) a w) Q) .normal := fun m _ _ hr => ⟨i, hi, m, hr.keep hk hok⟩

theorem aw_loopC {σ R : Type} {body' : σ → (σ → Option R) → Option R} {n : Nat} {x0 : σ} {r : R} (hm : loopC body' n x0 = some r) (S : σ → St) {body : Code} (hk : Keep (S x0) s) (hok : keepOK cx (S x0) = true)
    (h : ∀ x next, body' x next = some r → AW cx body (S x) (Exit.then (fun a w => ∃ y, next y = some r ∧ ∃ m, Rel cx m (get (S y)) a w) Q)) : AW cx (.loop body) s Q := by
  refine AW.keep (s' := S x0) ?_ hk hok
  refine aw_loop (ι := Nat × σ) (fun q => loopC body' q.1 q.2 = some r) (fun q => S q.2) (fun q => q.1) (x0 := (n, x0)) hm fun q hq m a w hr => ?_
  obtain ⟨n', x⟩ := q
  cases n' with
  | zero => cases hq
  | succ n' =>
    refine wpIn_mono (h x _ hq m a w hr) fun e a' w' hq' => ?_
    cases e with
    | normal => obtain ⟨y, hy, m', hr'⟩ := hq'; exact ⟨(n', y), hy, Nat.lt_succ_self _, m', hr'⟩
    | _ => exact hq'

end

/-! ### Conversions -/

section
variable {cx : Cx} {m : Nat → Nat} {g : Map} {a : Act} {w : World}

theorem Rel.rex {k0 : Key} {x y : SV} (h : Rel cx m g a w) (hv : g k0 = some (.x y)) (e : den m x = den m y) : Rel cx m (upd [(k0, some (.x x))] g) a w := by
  have key : ∀ {k v}, upd [(k0, some (.x x))] g k = some v → (k = k0 ∧ v = .x x) ∨ g k = some v := by
    intro k v hk
    rw [upd_one] at hk
    by_cases e : k0 = k
    · rw [if_pos e] at hk; cases hk; exact .inl ⟨e.symm, rfl⟩
    · rw [if_neg e] at hk; exact .inr hk
  have keyb : ∀ {l : Nat} {v : Nat × Nat}, g (.b l) = some (.sh v.1 v.2) → upd [(k0, some (.x x))] g (.b l) = some (.sh v.1 v.2) := by
    intro l v hl
    rw [upd_one]
    by_cases e : k0 = .b l
    · subst e; rw [hl] at hv; cases hv
    · rw [if_neg e]; exact hl
  refine ⟨h.size, h.defers, fun j z hz => ?_, fun j b z hz => ?_, fun L ty n hz => ?_, fun L o z hz => ?_, fun L o z hz => ?_, fun L L' ty n ty' n' h1 h2 he => ?_, fun L own C ty k cs hz => ?_, fun L own C ty k cs L' ty' n' h1 h2 hc => ?_,
    fun L C ty k cs L' own' C' ty' k' cs' h1 h2 hne hc hc' => ?_, fun L C ty k cs hz hc => ?_, h.held, h.top, fun L b hb => by obtain ⟨h1, ty, n, h2⟩ := h.fix L b hb; exact ⟨h1, ty, n, keyb (v := (ty, n)) h2⟩⟩
  · rcases key hz with ⟨hk, hz⟩ | hz
    · cases hz; rw [e]; exact h.tm j y (by rw [hk]; exact hv)
    · exact h.tm j z hz
  · rcases key hz with ⟨_, hz⟩ | hz
    · cases hz
    · exact h.tmc j b z hz
  · rcases key hz with ⟨_, hz⟩ | hz
    · cases hz
    · exact h.blk L ty n hz
  · rcases key hz with ⟨hk, hz⟩ | hz
    · cases hz; rw [e]; exact h.cell L o y (by rw [hk]; exact hv)
    · exact h.cell L o z hz
  · rcases key hz with ⟨hk, hz⟩ | hz
    · obtain ⟨ty, n, hb⟩ := h.own L o y (by rw [hk]; exact hv)
      exact ⟨ty, n, keyb (v := (ty, n)) hb⟩
    · obtain ⟨ty, n, hb⟩ := h.own L o z hz
      exact ⟨ty, n, keyb (v := (ty, n)) hb⟩
  · rcases key h1 with ⟨_, h1⟩ | h1
    · cases h1
    rcases key h2 with ⟨_, h2⟩ | h2
    · cases h2
    exact h.inj L L' ty n ty' n' h1 h2 he
  · rcases key hz with ⟨_, hz⟩ | hz
    · cases hz
    · exact h.vec L own C ty k cs hz
  · rcases key h1 with ⟨_, h1⟩ | h1
    · cases h1
    rcases key h2 with ⟨_, h2⟩ | h2
    · cases h2
    exact h.sep L own C ty k cs L' ty' n' h1 h2 hc
  · rcases key h1 with ⟨_, h1⟩ | h1
    · cases h1
    rcases key h2 with ⟨_, h2⟩ | h2
    · cases h2
    exact h.sepR L C ty k cs L' own' C' ty' k' cs' h1 h2 hne hc hc'
  · rcases key hz with ⟨_, hz⟩ | hz
    · cases hz
    · exact h.ownR L C ty k cs hz hc

end

section
variable {cx : Cx} {s : St} {Q : Exit → Act → World → Prop}

/-- Another name for a value, given what the lent labels stand for. -/
theorem aw_rex {c : Code} {k : Key} (x : SV) {y : SV} (hv : get s k = some (.x y)) (e : ∀ m, (∀ q ∈ cx.bor, m q.1 = q.2) → den m x = den m y) (h : AW cx c ((k, some (.x x)) :: s) Q) : AW cx c s Q :=
  fun m a w hr => h m a w ((hr.rex hv (e m fun q hq => (hr.fix q.1 q.2 hq).1)).congr fun _ => rfl)

theorem fin_rex {ex : Exit} {k : Key} (x : SV) {y : SV} (hv : get s k = some (.x y)) (e : ∀ m, (∀ q ∈ cx.bor, m q.1 = q.2) → den m x = den m y) (h : Fin cx ((k, some (.x x)) :: s) Q ex) : Fin cx s Q ex :=
  fun m a w hr => h m a w ((hr.rex hv (e m fun q hq => (hr.fix q.1 q.2 hq).1)).congr fun _ => rfl)

/-- A nil slice is a row of no elements. -/
theorem Rel.nilRowK {m : Nat → Nat} {a : Act} {w : World} {k0 : Key} {L C ty k : Nat} (h : Rel cx m (get s) a w) (hk : (match k0 with | .r _ => false | _ => true) = true) (ht : get s k0 = some (.x (.v (.slice none 0 0)))) (hL : mentionsIn L s = false) (hC : mentionsIn C s = false) (hne : L ≠ C) :
    ∃ m', Rel cx m' (get ((k0, some (.x (.o L C 0))) :: (.r L, some (.vec true C ty k [])) :: s)) a w := by
  have h1 := h.addRow (L := L) (C := C) (b := 0) (c := 0) (ty := ty) (k := k) (own := true) (cs := []) (get_mentions hL) (get_mentions hC) hne (.inl ⟨rfl, rfl⟩) (fun _ hc => absurd rfl hc) (fun hc => absurd rfl hc) (fun hc => absurd rfl hc)
  have h2 : upd [(.r L, some (.vec true C ty k []))] (get s) k0 = some (.x (.v (.slice none 0 0))) := by rw [upd_one, if_neg (fun e => by subst e; cases hk)]; exact ht
  have h3 := h1.rex (x := .o L C 0) h2 (by simp [den, setL_self])
  exact ⟨_, h3⟩

theorem aw_nilRowK {c : Code} (k0 : Key) (L C ty k : Nat) (hk : (match k0 with | .r _ => false | _ => true) = true) (ht : get s k0 = some (.x (.v (.slice none 0 0)))) (hL : (mentionsIn L s || mentionsIn C s) = false) (hne : L ≠ C)
    (h : AW cx c ((k0, some (.x (.o L C 0))) :: (.r L, some (.vec true C ty k [])) :: s) Q) : AW cx c s Q := fun m a w hr => by
  simp only [Bool.or_eq_false_iff] at hL
  obtain ⟨m', h'⟩ := hr.nilRowK (ty := ty) (k := k) hk ht hL.1 hL.2 hne
  exact h m' a w h'

theorem fin_nilRowK {e : Exit} (k0 : Key) (L C ty k : Nat) (hk : (match k0 with | .r _ => false | _ => true) = true) (ht : get s k0 = some (.x (.v (.slice none 0 0)))) (hL : (mentionsIn L s || mentionsIn C s) = false) (hne : L ≠ C)
    (h : Fin cx ((k0, some (.x (.o L C 0))) :: (.r L, some (.vec true C ty k [])) :: s) Q e) : Fin cx s Q e := fun m a w hr => by
  simp only [Bool.or_eq_false_iff] at hL
  obtain ⟨m', h'⟩ := hr.nilRowK (ty := ty) (k := k) hk ht hL.1 hL.2 hne
  exact h m' a w h'

end

def noCells (L : Nat) : Nat → Nat → St
  | _, 0 => []
  | o, n + 1 => (.c L o, none) :: noCells L (o + 1) n

theorem upd_noCells (L : Nat) (g : Map) : ∀ (n i : Nat) (k : Key),
    upd (noCells L i n) g k = match k with
      | .c L' o => if L' = L ∧ i ≤ o ∧ o < i + n then none else g k
      | _ => g k := by
  intro n
  induction n with
  | zero =>
    intro i k
    cases k <;> simp [noCells, upd]
    intros; omega
  | succ n ih =>
    intro i k
    simp only [noCells, upd]
    rw [ih]
    cases k with
    | t j => rfl
    | b l => rfl
    | r l => rfl
    | c L' o =>
      by_cases e : Key.c L i = Key.c L' o
      · cases e; simp [Key.eqb]
      · rw [Key.eqb_false e, cond_false]
        simp only []
        by_cases hL : L' = L
        · subst hL
          have hne : o ≠ i := fun h => e (by rw [h])
          by_cases ho : i + 1 ≤ o ∧ o < i + 1 + n
          · rw [if_pos ⟨rfl, ho.1, ho.2⟩, if_pos ⟨rfl, by omega, by omega⟩]
          · rw [if_neg (fun h => ho ⟨h.2.1, h.2.2⟩), if_neg (fun h => ho ⟨by omega, by omega⟩)]
        · rw [if_neg (fun h => hL h.1), if_neg (fun h => hL h.1)]

section
variable {cx : Cx} {m : Nat → Nat} {g : Map} {a : Act} {w : World}

/-- A slice over a box of one's own becomes a row. -/
theorem Rel.toRow {L C n kk : Nat} {ety : TypeId} {cs : List Value} (h : Rel cx m g a w) (hb : g (.b L) = some (.sh ety (n * kk))) (_hlen : cs.length = n * kk) (hn : n ≠ 0) (hc : CellsAre g L 0 (cs.map SV.v)) (hC : ∀ q, mentions C q (g q) = false)
    (hne : L ≠ C) (hbor : ∀ q ∈ cx.bor, q.1 ≠ L) : Rel cx (setL m C n) (upd ((.r L, some (.vec true C ety kk cs)) :: (.b L, none) :: noCells L 0 (n * kk)) g) a w := by
  have hx : ∀ {k x}, g k = some (.x x) → den (setL m C n) x = den m x := fun {k x} hk => den_setL (by have := hC k; rw [hk] at this; exact (mentions_x (b := true)).1 this)
  have hxc : ∀ {k c x}, g k = some (.xc c x) → den (setL m C n) x = den m x := fun {k c x} hk => den_setL (by have := hC k; rw [hk] at this; exact (mentions_x (b := c)).2 this)
  have hgb : ∀ {L' ty' n'}, g (.b L') = some (.sh ty' n') → L' ≠ C := fun {L' ty' n'} hk e => by
    have := hC (.b L'); rw [hk] at this; simp [mentions, e] at this
  have hgr : ∀ {L' own C' ty' k cs'}, g (.r L') = some (.vec own C' ty' k cs') → L' ≠ C ∧ C' ≠ C := fun {L' own C' ty' k cs'} hk => by
    have := hC (.r L'); rw [hk] at this; exact mentions_r this
  have key : ∀ {k v}, upd ((.r L, some (.vec true C ety kk cs)) :: (.b L, none) :: noCells L 0 (n * kk)) g k = some v → (k = .r L ∧ v = .vec true C ety kk cs) ∨ (g k = some v ∧ k ≠ .r L ∧ k ≠ .b L) := by
    intro k v hk
    simp only [upd] at hk
    by_cases e1 : Key.r L = k
    · rw [Key.eqb_iff.2 e1, cond_true] at hk; cases hk; exact .inl ⟨e1.symm, rfl⟩
    · rw [Key.eqb_false e1, cond_false] at hk
      by_cases e2 : Key.b L = k
      · rw [Key.eqb_iff.2 e2, cond_true] at hk; cases hk
      · rw [Key.eqb_false e2, cond_false, upd_noCells] at hk
        refine .inr ⟨?_, Ne.symm e1, Ne.symm e2⟩
        cases k with
        | c L' o =>
          simp only [] at hk
          split at hk
          · cases hk
          · exact hk
        | _ => exact hk
  have cellL : ∀ {o x}, g (.c L o) = some (.x x) → o < n * kk := fun {o x} hk => by
    obtain ⟨_, cur, hs, hh⟩ := h.blk L ety (n * kk) hb
    have := h.cell L o x hk
    simp only [World.cell?, hh] at this
    rcases Nat.lt_or_ge o cur.size with h4 | h4
    · omega
    · simp [h4] at this
  have keyc : ∀ {L' o x}, upd ((.r L, some (.vec true C ety kk cs)) :: (.b L, none) :: noCells L 0 (n * kk)) g (.c L' o) = some (.x x) → L' ≠ L := by
    intro L' o x hk e
    subst e
    rcases key hk with ⟨h1, _⟩ | ⟨h1, _, _⟩
    · cases h1
    · have := cellL h1
      simp only [upd] at hk
      rw [Key.eqb_false (by simp), Key.eqb_false (by simp), cond_false, cond_false, upd_noCells] at hk
      simp [this] at hk
  have keyb : ∀ {L' ty' n'}, L' ≠ L → g (.b L') = some (.sh ty' n') → upd ((.r L, some (.vec true C ety kk cs)) :: (.b L, none) :: noCells L 0 (n * kk)) g (.b L') = some (.sh ty' n') := by
    intro L' ty' n' hne hk
    simp only [upd]
    rw [Key.eqb_false (by simp), Key.eqb_false (by simpa using Ne.symm hne), cond_false, cond_false, upd_noCells]
    exact hk
  obtain ⟨hmine, cur, hs, hh⟩ := h.blk L ety (n * kk) hb
  have hbox := boxAt h (fun _ _ => rfl) hb hc
  have hvec : VecAt (m L) n ety kk cs w := by
    refine .inr ⟨hn, cur, hh, hs, fun i v hi => ?_⟩
    have h3 := hbox.2 i v hi
    simp only [World.cell?, hh] at h3
    rcases Nat.lt_or_ge i cur.size with h4 | h4
    · simpa [h4] using h3
    · simp [h4] at h3
  have mL : setL m C n L = m L := setL_ne _ _ hne
  refine ⟨h.size, h.defers, fun j z hz => ?_, fun j b z hz => ?_, fun L' ty n' hz => ?_, fun L' o z hz => ?_, fun L' o z hz => ?_, fun L1 L2 ty n1 ty' n2 h1 h2 he => ?_, fun L1 own C1 ty k cs1 hz => ?_, fun L1 own C1 ty k cs1 L' ty' n' h1 h2 hc1 => ?_,
    fun L1 C1 ty k cs1 L' own' C' ty' k' cs' h1 h2 hne1 hc1 hc' => ?_, fun L1 C1 ty k cs1 hz hc1 => ?_, h.held, h.top, fun L1 b hb1 => ?_⟩
  · rcases key hz with ⟨hk, _⟩ | ⟨hz, _, _⟩
    · cases hk
    · rw [hx hz]; exact h.tm j z hz
  · rcases key hz with ⟨hk, _⟩ | ⟨hz, _, _⟩
    · cases hk
    · rw [hxc hz]; exact h.tmc j b z hz
  · rcases key hz with ⟨hk, _⟩ | ⟨hz, _, _⟩
    · cases hk
    · rw [setL_ne _ _ (hgb hz)]; exact h.blk L' ty n' hz
  · have hLne := keyc hz
    rcases key hz with ⟨hk, _⟩ | ⟨hz, _, _⟩
    · cases hk
    · obtain ⟨ty', n', hb'⟩ := h.own L' o z hz
      rw [setL_ne _ _ (hgb hb'), hx hz]; exact h.cell L' o z hz
  · have hLne := keyc hz
    rcases key hz with ⟨hk, _⟩ | ⟨hz, _, _⟩
    · cases hk
    · obtain ⟨ty', n', hb'⟩ := h.own L' o z hz
      exact ⟨ty', n', keyb hLne hb'⟩
  · rcases key h1 with ⟨hk, _⟩ | ⟨h1, _, _⟩
    · cases hk
    rcases key h2 with ⟨hk, _⟩ | ⟨h2, _, _⟩
    · cases hk
    rw [setL_ne _ _ (hgb h1), setL_ne _ _ (hgb h2)] at he
    exact h.inj L1 L2 ty n1 ty' n2 h1 h2 he
  · rcases key hz with ⟨hk, hv⟩ | ⟨hz, _, _⟩
    · cases hk; cases hv
      rw [mL, setL_self]; exact hvec
    · obtain ⟨e1, e2⟩ := hgr hz
      rw [setL_ne _ _ e1, setL_ne _ _ e2]; exact h.vec L1 own C1 ty k cs1 hz
  · rcases key h2 with ⟨hk, _⟩ | ⟨h2, _, hbne⟩
    · cases hk
    rcases key h1 with ⟨hk, hv⟩ | ⟨h1, _, _⟩
    · cases hk; cases hv
      rw [mL, setL_ne _ _ (hgb h2)]
      exact fun e => hbne (by rw [h.inj L L' ety (n * kk) ty' n' hb h2 e])
    · obtain ⟨e1, e2⟩ := hgr h1
      rw [setL_ne _ _ e2] at hc1
      rw [setL_ne _ _ e1, setL_ne _ _ (hgb h2)]
      exact h.sep L1 own C1 ty k cs1 L' ty' n' h1 h2 hc1
  · rcases key h1 with ⟨hk, hv⟩ | ⟨h1, hn1, _⟩
    · cases hk; cases hv
      rcases key h2 with ⟨hk, hv⟩ | ⟨h2, _, _⟩
      · cases hk; exact absurd rfl hne1
      · obtain ⟨e1, e2⟩ := hgr h2
        rw [setL_ne _ _ e2] at hc'
        rw [mL, setL_ne _ _ e1]
        exact (h.sep L' own' C' ty' k' cs' L ety (n * kk) h2 hb hc').symm
    · obtain ⟨e1, e2⟩ := hgr h1
      rw [setL_ne _ _ e2] at hc1
      rw [setL_ne _ _ e1]
      rcases key h2 with ⟨hk, hv⟩ | ⟨h2, _, _⟩
      · cases hk; cases hv
        rw [mL]
        exact h.sep L1 true C1 ty k cs1 L ety (n * kk) h1 hb hc1
      · obtain ⟨e3, e4⟩ := hgr h2
        rw [setL_ne _ _ e4] at hc'
        rw [setL_ne _ _ e3]
        exact h.sepR L1 C1 ty k cs1 L' own' C' ty' k' cs' h1 h2 hne1 hc1 hc'
  · rcases key hz with ⟨hk, hv⟩ | ⟨hz, _, _⟩
    · cases hk; cases hv
      rw [mL]; exact hmine
    · obtain ⟨e1, e2⟩ := hgr hz
      rw [setL_ne _ _ e2] at hc1
      rw [setL_ne _ _ e1]
      exact h.ownR L1 C1 ty k cs1 hz hc1
  · obtain ⟨h1, ty1, n1, h2⟩ := h.fix L1 b hb1
    exact ⟨by rw [setL_ne _ _ (hgb h2)]; exact h1, ty1, n1, keyb (hbor _ hb1) h2⟩

theorem Rel.toRowK {s : St} {k0 : Key} {L C n kk : Nat} {ety : TypeId} {cs : List Value} (h : Rel cx m (get s) a w) (hk : (match k0 with | .r _ => false | .b _ => false | .c L' _ => !Nat.beq L' L | _ => true) = true) (ht : get s k0 = some (.x (.s L 0 n n))) (hb : get s (.b L) = some (.sh ety (n * kk)))
    (hlen : cs.length = n * kk) (hn : n ≠ 0) (hc : CellsAre (get s) L 0 (cs.map SV.v)) (hC : mentionsIn C s = false) (hne : L ≠ C) (hbor : (cx.bor.all fun q => !Nat.beq q.1 L) = true) :
    ∃ m', Rel cx m' (get ((k0, some (.x (.o L C n))) :: ((.r L, some (.vec true C ety kk cs)) :: (.b L, none) :: noCells L 0 (n * kk)) ++ s)) a w := by
  have h1 := h.toRow hb hlen hn hc (get_mentions hC) hne (fun q hq e => by
    have := List.all_eq_true.1 hbor q hq
    rw [e] at this; simp at this)
  have h2 : upd ((.r L, some (.vec true C ety kk cs)) :: (.b L, none) :: noCells L 0 (n * kk)) (get s) k0 = some (.x (.s L 0 n n)) := by
    simp only [upd]
    rw [Key.eqb_false (fun e => by subst e; cases hk), Key.eqb_false (fun e => by subst e; cases hk), cond_false, cond_false, upd_noCells]
    cases k0 with
    | c L' o =>
      simp only [Bool.not_eq_true'] at hk
      have : L' ≠ L := fun e => by subst e; simp at hk
      simp only []
      rw [if_neg (fun q => this q.1)]; exact ht
    | _ => exact ht
  have h3 := h1.rex (x := .o L C n) h2 (by simp only [den]; rw [setL_self, setL_ne _ _ hne, if_neg hn])
  refine ⟨_, h3.congr fun k => ?_⟩
  simp only [List.cons_append, get, upd, upd_append]

theorem aw_toRow {s : St} {c : Code} {Q : Exit → Act → World → Prop} (k0 : Key) (L C n kk : Nat) {ety : TypeId} (cs : List Value) (hk : (match k0 with | .r _ => false | .b _ => false | .c L' _ => !Nat.beq L' L | _ => true) = true) (ht : get s k0 = some (.x (.s L 0 n n))) (hb : get s (.b L) = some (.sh ety (n * kk)))
    (hlen : cs.length = n * kk) (hn : n ≠ 0) (hc : CellsAre (get s) L 0 (cs.map SV.v)) (hC : mentionsIn C s = false) (hne : L ≠ C) (hbor : (cx.bor.all fun q => !Nat.beq q.1 L) = true)
    (h : AW cx c ((k0, some (.x (.o L C n))) :: ((.r L, some (.vec true C ety kk cs)) :: (.b L, none) :: noCells L 0 (n * kk)) ++ s) Q) : AW cx c s Q := fun m a w hr => by
  obtain ⟨m', h'⟩ := hr.toRowK hk ht hb hlen hn hc hC hne hbor
  exact h m' a w h'

theorem fin_toRow {s : St} {e : Exit} {Q : Exit → Act → World → Prop} (k0 : Key) (L C n kk : Nat) {ety : TypeId} (cs : List Value) (hk : (match k0 with | .r _ => false | .b _ => false | .c L' _ => !Nat.beq L' L | _ => true) = true) (ht : get s k0 = some (.x (.s L 0 n n))) (hb : get s (.b L) = some (.sh ety (n * kk)))
    (hlen : cs.length = n * kk) (hn : n ≠ 0) (hc : CellsAre (get s) L 0 (cs.map SV.v)) (hC : mentionsIn C s = false) (hne : L ≠ C) (hbor : (cx.bor.all fun q => !Nat.beq q.1 L) = true)
    (h : Fin cx ((k0, some (.x (.o L C n))) :: ((.r L, some (.vec true C ety kk cs)) :: (.b L, none) :: noCells L 0 (n * kk)) ++ s) Q e) : Fin cx s Q e := fun m a w hr => by
  obtain ⟨m', h'⟩ := hr.toRowK hk ht hb hlen hn hc hC hne hbor
  exact h m' a w h'

end
end Go.AX
