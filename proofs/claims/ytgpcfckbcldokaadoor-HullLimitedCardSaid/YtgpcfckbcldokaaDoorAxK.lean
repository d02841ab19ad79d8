/-
  The core, eleventh part: labels renamed; lists in rows.
-/
import Derived.Test.YtgpcfckbcldokaaDoorAxJ
namespace Go.AX
open Go Go.RowKit

mutual
def renV (f : Nat → Nat) : SV → SV
  | .v x => .v x
  | .p L o => .p (f L) o
  | .s L o n c => .s (f L) o n c
  | .o L C n => .o (f L) (f C) n
  | .f fn fs cs => .f fn (renL f fs) (renL f cs)
  | .g cs => .g (renL f cs)
  | .t cs => .t (renL f cs)
def renL (f : Nat → Nat) : List SV → List SV
  | [] => []
  | x :: xs => renV f x :: renL f xs
end

def renKey (f : Nat → Nat) : Key → Key
  | .t i => .t i
  | .c L o => .c (f L) o
  | .b L => .b (f L)
  | .r L => .r (f L)

def renVal (f : Nat → Nat) : Val → Val
  | .x s => .x (renV f s)
  | .xc b s => .xc b (renV f s)
  | .sh ty n => .sh ty n
  | .vec own C ty k cs => .vec own (f C) ty k cs

def renS (f : Nat → Nat) (s : St) : St := s.map fun q => (renKey f q.1, q.2.map (renVal f))

mutual
theorem den_ren {f : Nat → Nat} (hf : ∀ L, f (f L) = L) (m : Nat → Nat) : ∀ x, den (fun L => m (f L)) (renV f x) = den m x
  | .v x => rfl
  | .p L o => by simp [renV, den, hf]
  | .s L o n c => by simp [renV, den, hf]
  | .o L C n => by simp [renV, den, hf]
  | .f fn fs cs => by simp [renV, den, denL_ren hf m fs, denL_ren hf m cs]
  | .g cs => by simp [renV, den, denL_ren hf m cs]
  | .t cs => by simp [renV, den, denL_ren hf m cs]
theorem denL_ren {f : Nat → Nat} (hf : ∀ L, f (f L) = L) (m : Nat → Nat) : ∀ l, denL (fun L => m (f L)) (renL f l) = denL m l
  | [] => rfl
  | x :: xs => by simp [renL, denL, den_ren hf m x, denL_ren hf m xs]
end

section
variable {f : Nat → Nat} (hf : ∀ L, f (f L) = L)
include hf

theorem renKey_renKey (k : Key) : renKey f (renKey f k) = k := by cases k <;> simp [renKey, hf]

theorem renKey_inj {k k' : Key} (h : renKey f k = renKey f k') : k = k' := by rw [← renKey_renKey hf k, h, renKey_renKey hf]

theorem get_renS (s : St) (k : Key) : get (renS f s) k = (get s (renKey f k)).map (renVal f) := by
  induction s with
  | nil => rfl
  | cons x r ih =>
    have ih' : upd (r.map fun q => (renKey f q.1, q.2.map (renVal f))) (fun _ => none) k = (upd r (fun _ => none) (renKey f k)).map (renVal f) := ih
    simp only [get, renS, List.map_cons, upd]
    by_cases e : x.1 = renKey f k
    · have e2 : renKey f x.1 = k := by rw [e, renKey_renKey hf]
      rw [Key.eqb_iff.2 e, Key.eqb_iff.2 e2]; rfl
    · have e2 : renKey f x.1 ≠ k := fun h => e (by rw [← h, renKey_renKey hf])
      rw [Key.eqb_false e, Key.eqb_false e2]
      simpa using ih'

theorem Rel.ren {cx : Cx} {m : Nat → Nat} {s : St} {a : Act} {w : World} (h : Rel cx m (get s) a w) (hfx : ∀ L b, (L, b) ∈ cx.bor → f L = L) : Rel cx (fun L => m (f L)) (get (renS f s)) a w := by
  have back : ∀ {k v}, get (renS f s) k = some v → ∃ u, get s (renKey f k) = some u ∧ renVal f u = v := by
    intro k v hv
    rw [get_renS hf] at hv
    cases e : get s (renKey f k) with
    | none => rw [e] at hv; cases hv
    | some u => rw [e] at hv; exact ⟨u, rfl, by simpa using hv⟩
  have bx : ∀ {k x}, get (renS f s) k = some (.x x) → ∃ y, get s (renKey f k) = some (.x y) ∧ renV f y = x := by
    intro k x hx
    obtain ⟨u, hu, he⟩ := back hx
    cases u <;> simp only [renVal, Val.x.injEq, reduceCtorEq] at he
    exact ⟨_, hu, he⟩
  have bxc : ∀ {k b x}, get (renS f s) k = some (.xc b x) → ∃ y, get s (renKey f k) = some (.xc b y) ∧ renV f y = x := by
    intro k b x hx
    obtain ⟨u, hu, he⟩ := back hx
    cases u <;> simp only [renVal, Val.xc.injEq, reduceCtorEq] at he
    obtain ⟨rfl, he⟩ := he
    exact ⟨_, hu, he⟩
  have bsh : ∀ {k ty n}, get (renS f s) k = some (.sh ty n) → get s (renKey f k) = some (.sh ty n) := by
    intro k ty n hx
    obtain ⟨u, hu, he⟩ := back hx
    cases u <;> simp only [renVal, Val.sh.injEq, reduceCtorEq] at he
    obtain ⟨rfl, rfl⟩ := he
    exact hu
  have bv : ∀ {k own C ty n cs}, get (renS f s) k = some (.vec own C ty n cs) → get s (renKey f k) = some (.vec own (f C) ty n cs) := by
    intro k own C ty n cs hx
    obtain ⟨u, hu, he⟩ := back hx
    cases u <;> simp only [renVal, Val.vec.injEq, reduceCtorEq] at he
    obtain ⟨rfl, rfl, rfl, rfl, rfl⟩ := he
    rw [hf]
    exact hu
  refine ⟨h.size, h.defers, fun i x hx => ?_, fun i b x hx => ?_, fun L ty n hx => ?_, fun L o x hx => ?_, fun L o x hx => ?_, fun L L' ty n ty' n' h1 h2 he => ?_, fun L own C ty k cs hx => ?_, fun L own C ty k cs L' ty' n' h1 h2 hc => ?_,
    fun L C ty k cs L' own' C' ty' k' cs' h1 h2 hne hc hc' => ?_, fun L C ty k cs hx hc => ?_, h.held, h.top, fun L b hb => ?_⟩
  · obtain ⟨y, hy, rfl⟩ := bx hx
    rw [den_ren hf]; exact h.tm i y hy
  · obtain ⟨y, hy, rfl⟩ := bxc hx
    rw [den_ren hf]; exact h.tmc i b y hy
  · exact h.blk (f L) ty n (bsh hx)
  · obtain ⟨y, hy, rfl⟩ := bx hx
    rw [den_ren hf]; exact h.cell (f L) o y hy
  · obtain ⟨y, hy, rfl⟩ := bx hx
    obtain ⟨ty, n, hb⟩ := h.own (f L) o y hy
    exact ⟨ty, n, by rw [get_renS hf]; simp only [renKey]; rw [hb]; rfl⟩
  · have := h.inj (f L) (f L') ty n ty' n' (bsh h1) (bsh h2) he
    rw [← hf L, this, hf]
  · exact h.vec (f L) own (f C) ty k cs (bv hx)
  · exact h.sep (f L) own (f C) ty k cs (f L') ty' n' (bv h1) (bsh h2) hc
  · exact h.sepR (f L) (f C) ty k cs (f L') own' (f C') ty' k' cs' (bv h1) (bv h2) (fun e => hne (by rw [← hf L, e, hf])) hc hc'
  · exact h.ownR (f L) (f C) ty k cs (bv hx) hc
  · obtain ⟨h1, ty, n, h2⟩ := h.fix L b hb
    exact ⟨by rw [hfx L b hb]; exact h1, ty, n, by rw [get_renS hf]; simp only [renKey]; rw [hfx L b hb, h2]; rfl⟩

theorem fin_ren {cx : Cx} {s : St} {Q : Exit → Act → World → Prop} {e : Exit} (hfx : ∀ L b, (L, b) ∈ cx.bor → f L = L) (h : Fin cx (renS f s) Q e) : Fin cx s Q e := fun _ a w hr => h _ a w (hr.ren hf hfx)

end

/-- Pairs of labels change places. -/
def swp : List (Nat × Nat) → Nat → Nat
  | [], L => L
  | (a, b) :: r, L => bif Nat.beq L a then b else bif Nat.beq L b then a else swp r L

def swpOK (l : List (Nat × Nat)) : Bool := (l.map (·.1) ++ l.map (·.2)).all fun x => Nat.beq (swp l (swp l x)) x

theorem swp_out : ∀ {l : List (Nat × Nat)} {x : Nat}, x ∉ l.map (·.1) ++ l.map (·.2) → swp l x = x
  | [], _, _ => rfl
  | (a, b) :: r, x, h => by
    simp only [List.map_cons, List.mem_append, List.mem_cons, not_or] at h
    have h1 : Nat.beq x a = false := beq_ne h.1.1
    have h2 : Nat.beq x b = false := beq_ne h.2.1
    simp only [swp, h1, h2, cond_false]
    exact swp_out (by simp only [List.mem_append, not_or]; exact ⟨h.1.2, h.2.2⟩)

theorem swp_swp {l : List (Nat × Nat)} (h : swpOK l = true) (x : Nat) : swp l (swp l x) = x := by
  by_cases hx : x ∈ l.map (·.1) ++ l.map (·.2)
  · exact Nat.eq_of_beq_eq_true (List.all_eq_true.1 h x hx)
  · rw [swp_out hx, swp_out hx]

theorem fin_swp {cx : Cx} {s : St} {Q : Exit → Act → World → Prop} {e : Exit} (l : List (Nat × Nat)) (hl : (swpOK l && cx.bor.all fun q => Nat.beq (swp l q.1) q.1) = true) (h : Fin cx (renS (swp l) s) Q e) : Fin cx s Q e := by
  simp only [Bool.and_eq_true] at hl
  exact fin_ren (swp_swp hl.1) (fun L b hb => Nat.eq_of_beq_eq_true (List.all_eq_true.1 hl.2 _ hb)) h

theorem Rel.retm {cx : Cx} {m : Nat → Nat} {g : Map} {a : Act} {w : World} {i : Nat} {x y : SV} (h : Rel cx m g a w) (hv : g (.t i) = some (.x y)) (e : den m x = den m y) : Rel cx m (upd [(.t i, some (.x x))] g) a w := by
  have key : ∀ k, k ≠ .t i → upd [(.t i, some (.x x))] g k = g k := fun k hk => by rw [upd_one, if_neg (Ne.symm hk)]
  refine ⟨h.size, h.defers, fun j z hz => ?_, fun j b z hz => ?_, fun L ty n hz => ?_, fun L o z hz => ?_, fun L o z hz => ?_, fun L L' ty n ty' n' h1 h2 he => ?_, fun L own C ty k cs hz => ?_, fun L own C ty k cs L' ty' n' h1 h2 hc => ?_,
    fun L C ty k cs L' own' C' ty' k' cs' h1 h2 hne hc hc' => ?_, fun L C ty k cs hz hc => ?_, h.held, h.top, fun L b hb => by obtain ⟨h1, ty, n, h2⟩ := h.fix L b hb; exact ⟨h1, ty, n, by rw [key _ (by simp)]; exact h2⟩⟩
  · by_cases hj : Key.t j = .t i
    · cases hj
      rw [upd_one, if_pos rfl] at hz
      simp only [Option.some.injEq, Val.x.injEq] at hz
      subst hz
      rw [e]; exact h.tm i y hv
    · rw [key _ hj] at hz; exact h.tm j z hz
  · by_cases hj : Key.t j = .t i
    · cases hj
      rw [upd_one, if_pos rfl] at hz
      simp at hz
    · rw [key _ hj] at hz; exact h.tmc j b z hz
  · rw [key _ (by simp)] at hz; exact h.blk L ty n hz
  · rw [key _ (by simp)] at hz; exact h.cell L o z hz
  · rw [key _ (by simp)] at hz; obtain ⟨ty, n, hb⟩ := h.own L o z hz; exact ⟨ty, n, by rw [key _ (by simp)]; exact hb⟩
  · rw [key _ (by simp)] at h1 h2; exact h.inj L L' ty n ty' n' h1 h2 he
  · rw [key _ (by simp)] at hz; exact h.vec L own C ty k cs hz
  · rw [key _ (by simp)] at h1 h2; exact h.sep L own C ty k cs L' ty' n' h1 h2 hc
  · rw [key _ (by simp)] at h1 h2; exact h.sepR L C ty k cs L' own' C' ty' k' cs' h1 h2 hne hc hc'
  · rw [key _ (by simp)] at hz; exact h.ownR L C ty k cs hz hc

/-- A nil slice in a temporary is a row of no elements. -/
theorem Rel.nilRow {cx : Cx} {m : Nat → Nat} {s : St} {a : Act} {w : World} {i L C ty k : Nat} (h : Rel cx m (get s) a w) (ht : get s (.t i) = some (.x (.v (.slice none 0 0)))) (hL : mentionsIn L s = false) (hC : mentionsIn C s = false) (hne : L ≠ C) :
    ∃ m', Rel cx m' (get ((.t i, some (.x (.o L C 0))) :: (.r L, some (.vec true C ty k [])) :: s)) a w := by
  have h1 := h.addRow (L := L) (C := C) (b := 0) (c := 0) (ty := ty) (k := k) (own := true) (cs := []) (get_mentions hL) (get_mentions hC) hne (.inl ⟨rfl, rfl⟩) (fun _ hc => absurd rfl hc) (fun hc => absurd rfl hc) (fun hc => absurd rfl hc)
  have h2 : upd [(.r L, some (.vec true C ty k []))] (get s) (.t i) = some (.x (.v (.slice none 0 0))) := by rw [upd_one, if_neg (by simp)]; exact ht
  have h3 := h1.retm (x := .o L C 0) h2 (by simp [den, setL_self])
  exact ⟨_, h3⟩

theorem aw_nilRow {cx : Cx} {s : St} {c : Code} {Q : Exit → Act → World → Prop} {i L C : Nat} (ty k : Nat) (ht : get s (.t i) = some (.x (.v (.slice none 0 0)))) (hL : (mentionsIn L s || mentionsIn C s) = false) (hne : L ≠ C)
    (h : AW cx c ((.t i, some (.x (.o L C 0))) :: (.r L, some (.vec true C ty k [])) :: s) Q) : AW cx c s Q := fun m a w hr => by
  simp only [Bool.or_eq_false_iff] at hL
  obtain ⟨m', h'⟩ := hr.nilRow (ty := ty) (k := k) ht hL.1 hL.2 hne
  exact h m' a w h'

section
variable {α : Type} {enc : α → List Value} {k : Nat}

theorem len_snoc (l : List α) (x : α) : l.length + 1 = (l ++ [x]).length := by simp

theorem flat_snoc (l : List α) (x : α) : l.flatMap enc ++ enc x = (l ++ [x]).flatMap enc := by simp

theorem flat_ne {l : List α} (hk : ∀ x, (enc x).length = k) (hp : 0 < k) {i : Int} (h0 : 0 ≤ i) (h1 : i < l.length) : l.flatMap enc ≠ [] := by
  intro e
  have h2 := flat_length hk l
  rw [e] at h2
  simp only [List.length_nil] at h2
  rcases Nat.mul_eq_zero.1 h2.symm with h | h <;> omega

theorem flat_ix (hk : ∀ x, (enc x).length = k) {l : List α} (d : α) {i : Int} (h0 : 0 ≤ i) (h1 : i < l.length) {j : Nat} {v : Value} (hv : (enc (l.getD i.toNat d))[j]? = some v) : (l.flatMap enc)[i.toNat * k + j]? = some v :=
  flat_get hk (getD_some (d := d) h0 h1) hv

theorem flat_sub (hk : ∀ x, (enc x).length = k) {l : List α} (d : α) {i : Int} (h0 : 0 ≤ i) (h1 : i < l.length) (j : Nat) {vs : List Value} (h : ((enc (l.getD i.toNat d)).drop j).take vs.length = vs) {q : Nat} {v : Value} (hq : vs[q]? = some v) :
    (l.flatMap enc)[i.toNat * k + j + q]? = some v := by
  rw [Nat.add_assoc]
  exact flat_get hk (getD_some (d := d) h0 h1) (sub_get h hq)

end

/-- A call of a function value that came in, its parts as lists. -/
theorem op_callVL {cx : Cx} {s : Map} {d k : Nat} {type : TypeId} {pos : String} {after : Array Edge} {guard : Option (Nat × Bool)} {fo : Operand} {F C : List Value} {xs : List SV} {args : Array Operand} {ts : Array TypeId} {x : SV} {extra : List Key}
    (hN : d < cx.N) (hen : Proofs.Enters cx.P k) (hf : Ev s fo (.v (.func (.func k) F.toArray C.toArray))) (hx : EvL s args.toList xs)
    (hc : ∀ (m : Nat → Nat) (a : Act) (w : World) (g : Map), (∀ k ∈ extra, g k = s k) → Rel cx m g a w →
      Calls cx.P k (F ++ (denL m xs ++ C)).toArray w fun e w' => e = .returned (den m x) ∧ Below w.heap.size w w') :
    OpRun cx ⟨some d, .call ⟨.value fo, args, ts⟩, type, pos, after, guard⟩ s ⟨okeys fo ++ okeysL args.toList ++ extra, [(.t d, some (.x x))], []⟩ :=
  op_callV hN hen hf hx fun m a w g h1 h2 => by
    have := hc m a w g h1 h2
    have e : F.toArray ++ (denL m xs).toArray ++ C.toArray = (F ++ (denL m xs ++ C)).toArray := by simp
    rw [e]
    exact this


/-- A call that hands back a value with one new row in it. -/
theorem op_callRowR {cx : Cx} {s : Map} {d : Nat} {type : TypeId} {pos : String} {after : Array Edge} {guard : Option (Nat × Bool)} {fo : Operand} {fv : SV} {k L C ty sz n : Nat} {own : Bool} {cs : List Value} {fs caps xs : List SV} {args : Array Operand} {ts : Array TypeId} {extra : List Key}
    {R : Option Addr → Nat → Value} {x : SV}
    (hN : d < cx.N) (hen : Proofs.Enters cx.P k) (hf : Ev s fo fv) (hk : calleeOf k fs caps fv) (hx : EvL s args.toList xs) (hne : L ≠ C)
    (hden : ∀ (m : Nat → Nat) (p : Option Addr) (c : Nat), den m (.o L C n) = .slice p n c → den m x = R p c)
    (hc : ∀ (m : Nat → Nat) (a : Act) (w : World) (g : Map), (∀ k ∈ extra, g k = s k) → Rel cx m g a w →
      Calls cx.P k (denL m (fs ++ (xs ++ caps))).toArray w fun e w' => ∃ p c, e = .returned (R p c) ∧ NewAt w w' p n c ty sz cs ∧ Below w.heap.size w w') :
    OpRun cx ⟨some d, .call ⟨.value fo, args, ts⟩, type, pos, after, guard⟩ s ⟨okeys fo ++ okeysL args.toList ++ extra, [(.t d, some (.x x)), (.r L, some (.vec own C ty sz cs))], [L, C]⟩ :=
  op_callG hen hf hk hx fun m a w g hr hfr hrel => (hc m a w g hr hrel).mono fun e w' ⟨p, c, he, hnew, hb⟩ => by
    obtain ⟨m', h1, h2, h3⟩ := hrel.newRow (own := own) hb hnew (hfr L (by simp)) (hfr C (by simp)) hne
    exact ⟨_, m', he, (h1.put (x := x) hN (hden m' p c h2).symm).congr (fun q => (upd_cons g q).symm)⟩

end Go.AX
