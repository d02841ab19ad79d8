/-
  The core, fifth part: boxes, composite literals, closures, calls; the rules for code; a function's entry and its results.
-/
import Derived.Test.YtgpcfckbcldokaaDoorAxD
import Derived.RangeFuncCalls
import Derived.RangeFuncLeaves
namespace Go.AX
open Go Go.RowKit

section
variable {cx : Cx} {o : Oper} {s g : Map} {m : Nat → Nat} {a : Act} {w : World}
variable {d : Nat} {type : TypeId} {pos : String} {after : Array Edge} {guard : Option (Nat × Bool)}

theorem op_box1 {ty L : Nat} {x : Operand} {v : SV} (hN : d < cx.N) (hx : Ev s x v) (hv : v.one = true) (hL : v.has L = false) :
    OpRun cx ⟨some d, .box ty x, type, pos, after, guard⟩ s ⟨okeys x, (.t d, some (.x (.p L 0))) :: (.b L, some (.sh ty 1)) :: cellsUp L 0 [v], [L]⟩ :=
  op_new (o := ⟨some d, .box ty x, type, pos, after, guard⟩) (cs := [v]) (x := .p L 0) (ety := ty) rfl hN (fun _ h => by cases h) (by simp [hasL, hL]) fun m a w g hr hrel => by
    refine ⟨_, rfl, ?_⟩
    have h1 := hx.eval hrel hr
    obtain ⟨hc, _⟩ := SV.one_den (m := m) hv
    simp [execOp, h1, Instr.box, newVar, alloc_run, den, denL, setL_self, hc]

theorem op_boxN {ty L n : Nat} {x : Operand} {ys : List SV} (hN : d < cx.N) (hx : Ev s x (.g ys)) (hn : ys.length = n) (hL : hasL L ys = false) :
    OpRun cx ⟨some d, .box ty x, type, pos, after, guard⟩ s ⟨okeys x, (.t d, some (.x (.p L 0))) :: (.b L, some (.sh ty n)) :: cellsUp L 0 ys, [L]⟩ := by
  subst hn
  exact op_new (o := ⟨some d, .box ty x, type, pos, after, guard⟩) rfl hN (fun _ h => by cases h) hL fun m a w g hr hrel => by
    refine ⟨_, rfl, ?_⟩
    have h1 := hx.eval hrel hr
    simp [execOp, h1, Instr.box, newVar, alloc_run, den, setL_self, Value.cells]

theorem parts_eq (h : Rel cx m g a w) : ∀ {parts : List (Nat × Operand)} {xs : List SV}, EvL s (parts.map (·.2)) xs → (∀ k ∈ okeysL (parts.map (·.2)), g k = s k) →
    parts.map (fun p => (p.1, a.eval p.2)) = (parts.map (·.1)).zip (denL m xs) := by
  intro parts
  induction parts with
  | nil => intro xs _ _; rfl
  | cons p r ih =>
    intro xs hx hk
    obtain ⟨v, vs, rfl, h1, h2⟩ := hx
    simp only [List.map_cons, denL, List.zip_cons_cons]
    rw [h1.eval h (fun k hk' => hk k (by simp [okeysL, hk'])), ih h2 (fun k hk' => hk k (by simp only [List.map_cons, okeysL, List.mem_append]; exact .inr hk'))]

theorem op_build {t : TypeId} {parts : Array (Nat × Operand)} {xs : List SV} {x : SV} (hN : d < cx.N) (hx : EvL s (parts.toList.map (·.2)) xs)
    (h : ∀ (m : Nat → Nat) (w : World), (Instr.build t ((parts.toList.map (·.1)).zip (denL m xs)).toArray).run cx.P w = .ok (den m x) w) :
    OpRun cx ⟨some d, .build t parts, type, pos, after, guard⟩ s ⟨okeysL (parts.toList.map (·.2)), [(.t d, some (.x x))], []⟩ :=
  op_pure rfl hN (fun _ h => by cases h) fun m a w g hr hrel => by
    have h1 := parts_eq hrel hx hr
    have h2 : parts.map (fun p => (p.1, a.eval p.2)) = ((parts.toList.map (·.1)).zip (denL m xs)).toArray := by
      rw [← h1]; exact Array.ext' (by rw [Array.toList_map])
    have h3 := h m w
    rw [← h2] at h3
    simp [execOp, h3]

theorem op_buildSlice {t ety L len : Nat} {parts : Array (Nat × Operand)} {xs cs : List SV} (hN : d < cx.N) (hx : EvL s (parts.toList.map (·.2)) xs) (hL : hasL L cs = false)
    (h : ∀ (m : Nat → Nat) (w : World), (Instr.buildSlice t len ((parts.toList.map (·.1)).zip (denL m xs)).toArray).run cx.P w = .ok (.slice (some ⟨w.heap.size, 0, none⟩) len len) (w.alloc (.cells (denL m cs).toArray ety))) :
    OpRun cx ⟨some d, .buildSlice t len parts, type, pos, after, guard⟩ s ⟨okeysL (parts.toList.map (·.2)), (.t d, some (.x (.s L 0 len len))) :: (.b L, some (.sh ety cs.length)) :: cellsUp L 0 cs, [L]⟩ :=
  op_new (o := ⟨some d, .buildSlice t len parts, type, pos, after, guard⟩) rfl hN (fun _ h => by cases h) hL fun m a w g hr hrel => by
    refine ⟨_, rfl, ?_⟩
    have h1 := parts_eq hrel hx hr
    have h2 : parts.map (fun p => (p.1, a.eval p.2)) = ((parts.toList.map (·.1)).zip (denL m xs)).toArray := by
      rw [← h1]; exact Array.ext' (by rw [Array.toList_map])
    have h3 := h m w
    rw [← h2] at h3
    simp [execOp, h3, den, setL_self]

theorem op_mkfn {fn : Fn} {fst cap : Array Operand} {fs xs : List SV} (hN : d < cx.N) (hf : EvL s fst.toList fs) (hx : EvL s cap.toList xs) :
    OpRun cx ⟨some d, .makeFunc fn fst cap, type, pos, after, guard⟩ s ⟨okeysL fst.toList ++ okeysL cap.toList, [(.t d, some (.x (.f fn fs xs)))], []⟩ :=
  op_pure rfl hN (fun _ h => by cases h) fun m a w g hr hrel => by
    have h1 : cap.map a.eval = (denL m xs).toArray := by rw [← hx.eval hrel (fun k hk => hr k (by simp [hk]))]; exact Array.ext' (by rw [Array.toList_map])
    have h2 : fst.map a.eval = (denL m fs).toArray := by rw [← hf.eval hrel (fun k hk => hr k (by simp [hk]))]; exact Array.ext' (by rw [Array.toList_map])
    simp [execOp, Instr.makeFunc, den, h1, h2]

theorem op_nilCheck {x : Operand} {v : SV} (hN : d < cx.N) (hx : Ev s x v) (hv : match v with | .p _ _ => True | .v (.pointer (some _)) => True | .f (.func _) _ _ => True | .v (.func (.func _) _ _) => True | _ => False) :
    OpRun cx ⟨some d, .nilCheck x, type, pos, after, guard⟩ s ⟨okeys x, [(.t d, some (.x v))], []⟩ :=
  op_pure rfl hN (fun _ h => by cases h) fun m a w g hr hrel => by
    have h1 := hx.eval hrel hr
    split at hv
    · simp [execOp, h1, den]
    · simp [execOp, h1, den]
    · simp [execOp, h1, den]
    · simp [execOp, h1, den]
    · exact hv.elim

theorem op_len {ty : TypeId} {x : Operand} {v : SV} {n : Nat} (hN : d < cx.N) (hu : (sliceSz cx.P ty).isSome = true) (hx : Ev s x v) (hv : match v with | .s _ _ n' _ => n' = n | .v (.slice _ n' _) => n' = n | _ => False) :
    OpRun cx ⟨some d, .call ⟨.builtin .len, #[x], #[ty]⟩, type, pos, after, guard⟩ s ⟨okeys x, [(.t d, some (.x (.v (.int .i64 n))))], []⟩ :=
  op_pure rfl hN (fun _ h => by cases h) fun m a w g hr hrel => by
    have h1 := hx.eval hrel hr
    unfold sliceSz at hu
    split at hu
    · rename_i e he
      split at hv
      · subst hv
        simp [execOp, resolve, invoke, builtin, Builtin.len_, h1, den, run_underlying he, goInt]
      · subst hv
        simp [execOp, resolve, invoke, builtin, Builtin.len_, h1, den, run_underlying he, goInt]
      · exact hv.elim
    · cases hu

theorem op_min {ts : Array TypeId} {x y : Operand} {k : IntKind} {n p : Int} (hN : d < cx.N) (hx : Ev s x (.v (.int k n))) (hy : Ev s y (.v (.int k p))) :
    OpRun cx ⟨some d, .call ⟨.builtin .min, #[x, y], ts⟩, type, pos, after, guard⟩ s ⟨okeys x ++ okeys y, [(.t d, some (.x (.v (.int k (if p < n then p else n)))))], []⟩ :=
  op_pure rfl hN (fun _ h => by cases h) fun m a w g hr hrel => by
    have h1 := hx.eval hrel (fun k hk => hr k (by simp [hk]))
    have h2 := hy.eval hrel (fun k hk => hr k (by simp [hk]))
    simp [execOp, resolve, invoke, builtin, Builtin.min_, Builtin.min2, h1, h2, den]

theorem op_max {ts : Array TypeId} {x y : Operand} {k : IntKind} {n p : Int} (hN : d < cx.N) (hx : Ev s x (.v (.int k n))) (hy : Ev s y (.v (.int k p))) :
    OpRun cx ⟨some d, .call ⟨.builtin .max, #[x, y], ts⟩, type, pos, after, guard⟩ s ⟨okeys x ++ okeys y, [(.t d, some (.x (.v (.int k (if p > n then p else n)))))], []⟩ :=
  op_pure rfl hN (fun _ h => by cases h) fun m a w g hr hrel => by
    have h1 := hx.eval hrel (fun k hk => hr k (by simp [hk]))
    have h2 := hy.eval hrel (fun k hk => hr k (by simp [hk]))
    simp [execOp, resolve, invoke, builtin, Builtin.max_, Builtin.max2, h1, h2, den]

theorem op_andF {tc tx : Nat} {b0 c b : Bool} (hN : d < cx.N) (hb0 : b0 = true) (hc : s (.t tc) = some (.xc b0 (.v (.bool c)))) (hx : s (.t tx) = some (.xc (b0 && (c == true)) (.v (.bool b)))) :
    OpRun cx ⟨some d, .pick (.tmp tc) (.tmp tx) (.const (.bool false)), type, pos, after, guard⟩ (forceM s) ⟨[.t tc, .t tx], [(.t d, some (.x (.v (.bool (c && b)))))], []⟩ :=
  op_pure rfl hN (fun _ h => by cases h) fun m a w g hr hrel => by
    subst hb0
    have h1 := hrel.tm tc _ (by rw [hr _ (by simp)]; exact force_eq rfl hc)
    cases c with
    | true =>
      have h2 := hrel.tm tx (.v (.bool b)) (by rw [hr _ (by simp)]; exact force_eq rfl hx)
      simp [execOp, Act.eval, h1, h2, den, asBool]
    | false => simp [execOp, Act.eval, h1, den, asBool]

theorem op_orF {tc tx : Nat} {b0 c b : Bool} (hN : d < cx.N) (hb0 : b0 = true) (hc : s (.t tc) = some (.xc b0 (.v (.bool c)))) (hx : s (.t tx) = some (.xc (b0 && (c == false)) (.v (.bool b)))) :
    OpRun cx ⟨some d, .pick (.tmp tc) (.const (.bool true)) (.tmp tx), type, pos, after, guard⟩ (forceM s) ⟨[.t tc, .t tx], [(.t d, some (.x (.v (.bool (c || b)))))], []⟩ :=
  op_pure rfl hN (fun _ h => by cases h) fun m a w g hr hrel => by
    subst hb0
    have h1 := hrel.tm tc _ (by rw [hr _ (by simp)]; exact force_eq rfl hc)
    cases c with
    | true => simp [execOp, Act.eval, h1, den, asBool]
    | false =>
      have h2 := hrel.tm tx (.v (.bool b)) (by rw [hr _ (by simp)]; exact force_eq rfl hx)
      simp [execOp, Act.eval, h1, h2, den, asBool]

/-! ### Calls -/

theorem calls_in {f n : Nat} {args : Array Value} {R : Ending → World → Prop} (h : Calls cx.P f args w R) : CallsIn cx.F n cx.P f args w R := by
  have h' : CallsIn Fence.wide n cx.P f args w R := callsIn_wide.2 h
  cases hr : cx.r with
  | none => simpa [Cx.F, hr, Fence.wide] using h'
  | some l =>
    have := CallsIn.inRound l h'
    simpa [Cx.F, hr, Fence.wide, Fence.inRound] using this

def calleeOf (k : Nat) (fs caps : List SV) : SV → Prop
  | .v v => v = .func (.func k) #[] #[] ∧ fs = [] ∧ caps = []
  | .f fn bs cs => fn = .func k ∧ bs = fs ∧ cs = caps
  | _ => False

theorem op_callR {fo : Operand} {fv : SV} {k : Nat} {xs : List SV} {args : Array Operand} {ts : Array TypeId} {dst : Option Tmp} {extra : List Key} {up : St} {nw : List Nat} {F C : (Nat → Nat) → Array Value}
    (hen : Proofs.Enters cx.P k) (hf : Ev s fo fv) (hk : ∀ m, den m fv = .func (.func k) (F m) (C m)) (hx : EvL s args.toList xs)
    (hc : ∀ (m : Nat → Nat) (a : Act) (w : World) (g : Map), (∀ k ∈ extra, g k = s k) → (∀ L ∈ nw, ∀ k, mentions L k (g k) = false) → Rel cx m g a w →
      Calls cx.P k (F m ++ (denL m xs).toArray ++ C m) w fun e w' => ∃ v m', e = .returned v ∧ Rel cx m' (upd up g) (a.put dst v) w') :
    OpRun cx ⟨dst, .call ⟨.value fo, args, ts⟩, type, pos, after, guard⟩ s ⟨okeys fo ++ okeysL args.toList ++ extra, up, nw⟩ := by
  intro m a w g hr hfr hrel K Q hK
  have h1 := hf.eval hrel (fun k hk => hr k (reads_mem (by simp [hk])))
  have h2 : args.map a.eval = (denL m xs).toArray := by
    rw [← hx.eval hrel (fun k hk => hr k (reads_mem (by simp [hk])))]; exact Array.ext' (by rw [Array.toList_map])
  refine ⟨fun _ _ => trivial, ?_⟩
  rw [semAt_of _ _ (fun _ h => by cases h)]
  have hrun : (execOp a.eval ⟨dst, .call ⟨.value fo, args, ts⟩, type, pos, after, guard⟩).run cx.P w = .ok (.enter k (F m ++ (denL m xs).toArray ++ C m)) w := by
    have he := hen (F m ++ (denL m xs).toArray ++ C m) w
    simp only [execOp, resolve, h1, h2, hk m, Deferred.ofValue, Sem.run_bind, Sem.run_pure, Result.andThen_ok, invoke]
    exact he
  rw [hrun, Oper.uponIn_enter]
  refine ⟨fun h => by simp [Cx.F] at h, ?_⟩
  refine (calls_in (hc m a w g (fun k hk => hr k (reads_mem (by simp [hk]))) hfr hrel)).mono fun e w' ⟨v, m', he, hrel'⟩ => ?_
  subst he
  exact hK m' _ w' hrel'

theorem denL_append (m : Nat → Nat) : ∀ l l' : List SV, denL m (l ++ l') = denL m l ++ denL m l'
  | [], _ => rfl
  | y :: l, l' => by simp [denL, denL_append m l l']

theorem op_callG {fo : Operand} {fv : SV} {k : Nat} {fs caps xs : List SV} {args : Array Operand} {ts : Array TypeId} {dst : Option Tmp} {extra : List Key} {up : St} {nw : List Nat}
    (hen : Proofs.Enters cx.P k) (hf : Ev s fo fv) (hk : calleeOf k fs caps fv) (hx : EvL s args.toList xs)
    (hc : ∀ (m : Nat → Nat) (a : Act) (w : World) (g : Map), (∀ k ∈ extra, g k = s k) → (∀ L ∈ nw, ∀ k, mentions L k (g k) = false) → Rel cx m g a w →
      Calls cx.P k (denL m (fs ++ (xs ++ caps))).toArray w fun e w' => ∃ v m', e = .returned v ∧ Rel cx m' (upd up g) (a.put dst v) w') :
    OpRun cx ⟨dst, .call ⟨.value fo, args, ts⟩, type, pos, after, guard⟩ s ⟨okeys fo ++ okeysL args.toList ++ extra, up, nw⟩ := by
  have hfn : ∀ m, den m fv = .func (.func k) (denL m fs).toArray (denL m caps).toArray := by
    intro m
    cases fv with
    | v v => obtain ⟨rfl, rfl, rfl⟩ := hk; rfl
    | f fn bs cs => obtain ⟨rfl, rfl, rfl⟩ := hk; rfl
    | _ => exact hk.elim
  refine op_callR hen hf hfn hx fun m a w g h1 h2 h3 => ?_
  have := hc m a w g h1 h2 h3
  rw [denL_append, denL_append] at this
  have e : (denL m fs).toArray ++ (denL m xs).toArray ++ (denL m caps).toArray = (denL m fs ++ (denL m xs ++ denL m caps)).toArray := by simp
  rw [e]
  exact this

/-- A call whose results name no new block, and that changes nothing that lay there. -/
theorem op_call {fo : Operand} {fv : SV} {k : Nat} {fs caps xs : List SV} {args : Array Operand} {ts : Array TypeId} {x : SV} {extra : List Key}
    (hN : d < cx.N) (hen : Proofs.Enters cx.P k) (hf : Ev s fo fv) (hk : calleeOf k fs caps fv) (hx : EvL s args.toList xs)
    (hc : ∀ (m : Nat → Nat) (a : Act) (w : World) (g : Map), (∀ k ∈ extra, g k = s k) → Rel cx m g a w →
      Calls cx.P k (denL m (fs ++ (xs ++ caps))).toArray w fun e w' => e = .returned (den m x) ∧ Below w.heap.size w w') :
    OpRun cx ⟨some d, .call ⟨.value fo, args, ts⟩, type, pos, after, guard⟩ s ⟨okeys fo ++ okeysL args.toList ++ extra, [(.t d, some (.x x))], []⟩ :=
  op_callG hen hf hk hx fun m a w g hr _ hrel => (hc m a w g hr hrel).mono fun _ _ ⟨he, hb⟩ => ⟨_, m, he, (hrel.world hb).put hN rfl⟩

/-- A call of a function value that came in. -/
theorem op_callV {fo : Operand} {k : Nat} {F C : Array Value} {xs : List SV} {args : Array Operand} {ts : Array TypeId} {x : SV} {extra : List Key}
    (hN : d < cx.N) (hen : Proofs.Enters cx.P k) (hf : Ev s fo (.v (.func (.func k) F C))) (hx : EvL s args.toList xs)
    (hc : ∀ (m : Nat → Nat) (a : Act) (w : World) (g : Map), (∀ k ∈ extra, g k = s k) → Rel cx m g a w →
      Calls cx.P k (F ++ (denL m xs).toArray ++ C) w fun e w' => e = .returned (den m x) ∧ Below w.heap.size w w') :
    OpRun cx ⟨some d, .call ⟨.value fo, args, ts⟩, type, pos, after, guard⟩ s ⟨okeys fo ++ okeysL args.toList ++ extra, [(.t d, some (.x x))], []⟩ :=
  op_callR (F := fun _ => F) (C := fun _ => C) hen hf (fun _ => rfl) hx fun m a w g hr _ hrel => (hc m a w g hr hrel).mono fun _ _ ⟨he, hb⟩ => ⟨_, m, he, (hrel.world hb).put hN rfl⟩

/-- The same, nothing of the results being kept. -/
theorem op_callNone {fo : Operand} {fv : SV} {k : Nat} {fs caps xs : List SV} {args : Array Operand} {ts : Array TypeId} {extra : List Key}
    (hN : d < cx.N) (hen : Proofs.Enters cx.P k) (hf : Ev s fo fv) (hk : calleeOf k fs caps fv) (hx : EvL s args.toList xs)
    (hc : ∀ (m : Nat → Nat) (a : Act) (w : World) (g : Map), (∀ k ∈ extra, g k = s k) → Rel cx m g a w →
      Calls cx.P k (denL m (fs ++ (xs ++ caps))).toArray w fun e w' => (∃ v, e = .returned v) ∧ Below w.heap.size w w') :
    OpRun cx ⟨some d, .call ⟨.value fo, args, ts⟩, type, pos, after, guard⟩ s ⟨okeys fo ++ okeysL args.toList ++ extra, [(.t d, none)], []⟩ :=
  op_callG hen hf hk hx fun m a w g hr _ hrel => (hc m a w g hr hrel).mono fun _ _ ⟨⟨v, he⟩, hb⟩ => ⟨v, m, he, (hrel.world hb).putNone hN⟩

end

/-! ### Code -/

def AW (cx : Cx) (c : Code) (s : St) (Q : Exit → Act → World → Prop) : Prop :=
  ∀ (m : Nat → Nat) (a : Act) (w : World), Rel cx m (get s) a w → c.wpIn cx.F 0 cx.P Q a w

/-- What is owed at the end of a piece of code. -/
def Fin (cx : Cx) (s : St) (Q : Exit → Act → World → Prop) (e : Exit) : Prop := ∀ m a w, Rel cx m (get s) a w → Q e a w

/-- What is kept of a state. -/
def Keep : St → St → Prop
  | [], _ => True
  | (k, v) :: r, s => get s k = v ∧ Keep r s

def keepOK (cx : Cx) (s' : St) : Bool := (s'.all fun x => match x.1 with | .c L _ => touches (.b L) s' | _ => true) && cx.bor.all fun q => touches (.b q.1) s'

theorem keep_get : ∀ {s' s : St}, Keep s' s → ∀ k, touches k s' = true → get s' k = get s k := by
  intro s'
  induction s' with
  | nil => intro s _ k h; simp [touches] at h
  | cons x r ih =>
    intro s h k hk
    obtain ⟨h1, h2⟩ := h
    simp only [get, upd]
    cases e : x.1.eqb k with
    | true =>
      have := Key.eqb_iff.1 e
      rw [← this]
      exact h1.symm
    | false =>
      simp only [touches, e, Bool.false_or] at hk
      exact ih h2 k hk

theorem get_untouched {s : St} {k : Key} (h : touches k s = false) : get s k = none := upd_of_touches h _

theorem Rel.keep {cx : Cx} {m : Nat → Nat} {s s' : St} {a : Act} {w : World} (h : Rel cx m (get s) a w) (hk : Keep s' s) (hok : keepOK cx s' = true) : Rel cx m (get s') a w := by
  simp only [keepOK, Bool.and_eq_true] at hok
  refine h.weaken (fun k => ?_) (fun L o hL => ?_) (fun L b hb => keep_get hk _ (List.all_eq_true.1 hok.2 _ hb))
  · cases e : touches k s' with
    | true => exact .inr (keep_get hk k e)
    | false => exact .inl (get_untouched e)
  · refine keep_get hk _ ?_
    cases e : touches (.c L o) s' with
    | false => exact absurd (get_untouched e) hL
    | true =>
      obtain ⟨x, hx, hx'⟩ := touches_iff.1 e
      have := List.all_eq_true.1 hok.1 x hx
      rw [hx'] at this
      exact this

section
variable {cx : Cx} {s : St} {Q : Exit → Act → World → Prop}

theorem AW.keep {c : Code} {s' : St} (h : AW cx c s' Q) (hk : Keep s' s) (hok : keepOK cx s' = true) : AW cx c s Q :=
  fun m a w hr => h m a w (hr.keep hk hok)

theorem aw_seq {x y : Code} (h : AW cx x s (Exit.then (y.wpIn cx.F 0 cx.P Q) Q)) : AW cx (.seq x y) s Q := fun m a w hr => wpIn_seq (h m a w hr)

theorem aw_skip (h : Fin cx s Q .normal) : AW cx .skip s Q := fun m a w hr => wpIn_skip (h m a w hr)

theorem aw_ret (h : Fin cx s Q .ret) : AW cx .ret s Q := fun m a w hr => wpIn_ret (h m a w hr)

theorem aw_exit {id : Nat} (h : Fin cx s Q (.exit id)) : AW cx (.exit id) s Q := fun m a w hr => wpIn_exit (h m a w hr)

theorem aw_block {id : Nat} {c : Code} (h : AW cx c s (Exit.inBlock id Q)) : AW cx (.block id c) s Q := fun m a w hr => wpIn_block (h m a w hr)

theorem aw_cond {x : Operand} {t e : Code} {b : Bool} (hx : Ev (get s) x (.v (.bool b))) (ht : b = true → AW cx t s Q) (he : b = false → AW cx e s Q) : AW cx (.cond x t e) s Q := by
  intro m a w hr
  have := hx.eval hr (fun _ _ => rfl)
  exact wpIn_cond_split this (fun h => ht h m a w hr) (fun h => he h m a w hr)

/-! ### Going on: what is owed at the end of a piece of code -/


theorem fin_keep {e : Exit} {s' : St} (h : Fin cx s' Q e) (hk : Keep s' s) (hok : keepOK cx s' = true) : Fin cx s Q e := fun m a w hr => h m a w (hr.keep hk hok)
theorem fin_then {y : Code} (h : AW cx y s Q) : Fin cx s (Exit.then (y.wpIn cx.F 0 cx.P Q) Q) .normal := h
theorem fin_then_ret {K : Act → World → Prop} (h : Fin cx s Q .ret) : Fin cx s (Exit.then K Q) .ret := h
theorem fin_then_exit {K : Act → World → Prop} {id : Nat} (h : Fin cx s Q (.exit id)) : Fin cx s (Exit.then K Q) (.exit id) := h
theorem fin_block {id : Nat} (h : Fin cx s Q .normal) : Fin cx s (Exit.inBlock id Q) .normal := h
theorem fin_block_ret {id : Nat} (h : Fin cx s Q .ret) : Fin cx s (Exit.inBlock id Q) .ret := h
theorem fin_block_exit {id : Nat} (h : Fin cx s Q .normal) : Fin cx s (Exit.inBlock id Q) (.exit id) := fun m a w hr => by
  simp only [Exit.inBlock, if_true]; exact h m a w hr
theorem fin_block_pass {id id' : Nat} (hne : id' ≠ id) (h : Fin cx s Q (.exit id')) : Fin cx s (Exit.inBlock id Q) (.exit id') := fun m a w hr => by
  simp only [Exit.inBlock, if_neg hne]; exact h m a w hr
theorem fin_loop {ι : Type} {I : ι → Prop} {S : ι → St} {μ : ι → Nat} {n : Nat} (y : ι) (hI : I y) (hμ : μ y < n) (hk : Keep (S y) s) (hok : keepOK cx (S y) = true) :
    Fin cx s (Exit.then (fun a w => ∃ y, I y ∧ μ y < n ∧ ∃ m, Rel cx m (get (S y)) a w) Q) .normal :=
  fun m _ _ hr => ⟨y, hI, hμ, m, hr.keep hk hok⟩

theorem aw_text {ops : Array Oper} {id : Nat} {rows : List Row} (hlen : rows.length = ops.size) (hf : freshOK s rows = true) (hall : AllOK cx ops 0 s rows)
    (h : Fin cx (rows.foldl (fun s r => r.up ++ s) s) Q .normal) : AW cx (.region id ops false) s Q :=
  fun m _ _ hr => region_text (m := m) hlen hall hf hr h

theorem aw_any {ops : Array Oper} {id : Nat} {rows : List Row} {M : List Nat} (hm : cx.P.follows .mixedOrders = true) (ha : ancOK ops M = true) (hlen : rows.length = ops.size)
    (hchk : (indepOK rows M && newOK rows M && (rows.all fun row => row.nw.all fun L => !mentionsIn L s)) = true) (hall : AllOK cx ops 0 s rows)
    (h : Fin cx (rows.foldl (fun s r => r.up ++ s) s) Q .normal) : AW cx (.region id ops true) s Q := by
  simp only [Bool.and_eq_true] at hchk
  exact fun m _ _ hr => region_any (m := m) hm ha hchk.1.1 hchk.1.2 hlen hchk.2 hall hr h

theorem exists_min (p : Nat → Prop) (h : ∃ n, p n) : ∃ n, p n ∧ ∀ k, p k → n ≤ k := by
  obtain ⟨n, hn⟩ := h
  induction n using Nat.strongRecOn with
  | _ n ih =>
    by_cases h : ∃ k, k < n ∧ p k
    · obtain ⟨k, hk, hp⟩ := h
      exact ih k hk hp
    · exact ⟨n, hn, fun k hk => Nat.le_of_not_lt fun hlt => h ⟨k, hlt, hk⟩⟩

/-- A loop: a family of states, those of the rounds' heads; a round that goes on comes to one of a lesser measure. -/
theorem aw_loop {ι : Type} (I : ι → Prop) (S : ι → St) (μ : ι → Nat) {body : Code} {x0 : ι} (h0 : I x0)
    (hr : ∀ x, I x → AW cx body (S x) (Exit.then (fun a w => ∃ y, I y ∧ μ y < μ x ∧ ∃ m, Rel cx m (get (S y)) a w) Q)) : AW cx (.loop body) (S x0) Q := by
  intro m a w hrel
  let p : Act → World → Nat → Prop := fun a w n => ∃ x, I x ∧ μ x = n ∧ ∃ m, Rel cx m (get (S x)) a w
  have hmin : ∀ a w, (∃ n, p a w n) → ∃ n, p a w n ∧ ∀ k, p a w k → n ≤ k := fun a w h => exists_min (p a w) h
  let ν : Act → World → Nat := fun a w => open Classical in if h : ∃ n, p a w n then Classical.choose (hmin a w h) else 0
  have hν : ∀ a w (h : ∃ n, p a w n), p a w (ν a w) ∧ ∀ k, p a w k → ν a w ≤ k := by
    intro a w h
    have : ν a w = Classical.choose (hmin a w h) := by simp only [ν]; rw [dif_pos h]
    rw [this]
    exact Classical.choose_spec (hmin a w h)
  refine wpIn_loop (fun a w => ∃ n, p a w n) ν ⟨μ x0, x0, h0, rfl, m, hrel⟩ fun a w h => ?_
  obtain ⟨⟨x, hx, he, m', hrel'⟩, _⟩ := hν a w h
  refine wpIn_mono (hr x hx m' a w hrel') fun e a' w' hq => ?_
  cases e with
  | normal =>
    obtain ⟨y, hy, hlt, m'', hrel''⟩ := hq
    have hp : p a' w' (μ y) := ⟨y, hy, rfl, m'', hrel''⟩
    refine ⟨⟨_, hp⟩, ?_⟩
    have := (hν a' w' ⟨_, hp⟩).2 _ hp
    omega
  | _ => exact hq


theorem quo_nn {n p : Int} (h0 : 0 ≤ n) (h1 : 0 < p) (hb : n ≤ 9223372036854775807) : IntKind.i64.wrap (n.tdiv p) = n / p := by
  rw [Int.tdiv_eq_ediv_of_nonneg h0]
  have h2 := Int.ediv_nonneg h0 (Int.le_of_lt h1)
  have h3 := Int.ediv_le_self p h0
  exact wrap_of ⟨by omega, by omega⟩

theorem rem_nn {n p : Int} (h0 : 0 ≤ n) (_h1 : 0 < p) (_hb : n ≤ 9223372036854775807) : n.tmod p = n % p := Int.tmod_eq_emod_of_nonneg h0

theorem not_t {x : Bool} (h : (!x) = true) : x = false := by simpa using h
theorem not_f {x : Bool} (h : (!x) = false) : x = true := by simpa using h
theorem and_tl {x y : Bool} (h : (x && y) = true) : x = true := ((Bool.and_eq_true x y).mp h).1
theorem and_tr {x y : Bool} (h : (x && y) = true) : y = true := ((Bool.and_eq_true x y).mp h).2
theorem or_fl {x y : Bool} (h : (x || y) = false) : x = false := (Bool.or_eq_false_iff.1 h).1
theorem or_fr {x y : Bool} (h : (x || y) = false) : y = false := (Bool.or_eq_false_iff.1 h).2
theorem eq_t {n p : Int} (h : (n == p) = true) : n = p := eq_of_beq h
theorem eq_f {n p : Int} (h : (n == p) = false) : n ≠ p := by simpa using h
theorem ne_t {n p : Int} (h : (n != p) = true) : n ≠ p := by simpa using h
theorem ne_f {n p : Int} (h : (n != p) = false) : n = p := by simpa using h
theorem beq_t {x : Bool} (h : (x == true) = true) : x = true := by simpa using h
theorem beq_f {x : Bool} (h : (x == false) = true) : x = false := by simpa using h

theorem ltN {n p : Nat} (h : Nat.ble (n + 1) p = true) : n < p := Nat.le_of_ble_eq_true h

def argSt : Nat → List SV → St
  | _, [] => []
  | i, v :: vs => (.t i, some (.x v)) :: argSt (i + 1) vs

theorem argSt_get : ∀ (vs : List SV) (i : Nat) (k : Key) (x : Val), get (argSt i vs) k = some x → ∃ j v, k = .t (i + j) ∧ vs[j]? = some v ∧ x = .x v := by
  intro vs
  induction vs with
  | nil => intro i k x h; simp [argSt, get, upd] at h
  | cons v vs ih =>
    intro i k x h
    simp only [argSt, get, upd] at h
    cases e : (Key.t i).eqb k with
    | true =>
      rw [e] at h
      have := Key.eqb_iff.1 e
      exact ⟨0, v, by simpa using this.symm, rfl, by simpa using h.symm⟩
    | false =>
      rw [e] at h
      obtain ⟨j, u, h1, h2, h3⟩ := ih (i + 1) k x h
      exact ⟨j + 1, u, by rw [h1]; congr 1; omega, by simpa using h2, h3⟩

theorem rel_start {P : Program} {r : Option Nat} {N : Nat} (args : List SV) (w : World) (hn : args.length ≤ N) :
    Rel ⟨P, r, w.heap.size, w, N, [], []⟩ (fun _ => 0) (get (argSt 0 args)) { tmps := (denL (fun _ => 0) args).toArray ++ Array.replicate (N - (denL (fun _ => 0) args).toArray.size) undef, defers := [] } w := by
  have hsz : ((denL (fun _ => 0) args).toArray ++ Array.replicate (N - (denL (fun _ => 0) args).toArray.size) undef).size = N := by simp [denL_length]; omega
  refine ⟨hsz, rfl, fun i x hx => ?_, fun i b x hx => ?_, fun L ty n hx => ?_, fun L o x hx => ?_, fun L o x hx => ?_, fun L L' ty n ty' n' hx _ _ => ?_, fun L own C ty k cs hx => ?_, fun L own C ty k cs L' ty' n' hx => ?_, fun L C ty k cs L' own' C' ty' k' cs' hx => ?_, fun L C ty k cs hx => ?_, ⟨rfl, rfl, rfl, Nat.le_refl _, fun _ _ _ => rfl⟩, Nat.le_refl _, fun L b hb => by simp at hb⟩
  · obtain ⟨j, v, hk, hv, he⟩ := argSt_get _ _ _ _ hx
    cases hk; cases he
    simp only [Nat.zero_add]
    have hlt : j < args.length := (List.getElem?_eq_some_iff.1 hv).1
    rw [Array.getElem?_append_left (by simpa [denL_length] using hlt)]
    rw [List.getElem?_toArray, denL_get, hv]
    rfl
  · obtain ⟨j, v, hk, hv, he⟩ := argSt_get _ _ _ _ hx; cases he
  · obtain ⟨j, v, hk, hv, he⟩ := argSt_get _ _ _ _ hx; cases hk
  · obtain ⟨j, v, hk, hv, he⟩ := argSt_get _ _ _ _ hx; cases hk
  · obtain ⟨j, v, hk, hv, he⟩ := argSt_get _ _ _ _ hx; cases hk
  · obtain ⟨j, v, hk, hv, he⟩ := argSt_get _ _ _ _ hx; cases hk
  · obtain ⟨j, v, hk, hv, he⟩ := argSt_get _ _ _ _ hx; cases hk
  · obtain ⟨j, v, hk, hv, he⟩ := argSt_get _ _ _ _ hx; cases hk
  · obtain ⟨j, v, hk, hv, he⟩ := argSt_get _ _ _ _ hx; cases hk
  · obtain ⟨j, v, hk, hv, he⟩ := argSt_get _ _ _ _ hx; cases hk

/-- A function without a range over a function. -/
theorem enter {P : Program} {f : Nat} {fn : Func} {c : Code} {args : List SV} {w : World} {R : Ending → World → Prop} (hf : P.funcs[f]? = some fn) (hb : fn.body = some c) {N : Nat} (hN : fn.ntmps = N) (hn : args.length ≤ N)
    (h : AW ⟨P, none, w.heap.size, w, N, [], []⟩ c (argSt 0 args) (bodyPost P fn R)) : Calls P f (denL (fun _ => 0) args).toArray w R := by
  refine (callsIn_wide (n := 0)).1 ?_
  refine callsIn_of_wp hf hb trivial ?_
  subst hN
  exact h _ _ _ (rel_start args w hn)

def ResOK (P : Program) (s : Map) : List ResultVar → List SV → Prop
  | [], xs => xs = []
  | .tmp t :: r, xs => ∃ v vs, xs = v :: vs ∧ s (.t t) = some (.x v) ∧ ResOK P s r vs
  | .cell t ty :: r, xs => ∃ v vs L, xs = v :: vs ∧ s (.t t) = some (.x (.p L 0)) ∧
      (match shapeOf P ty with
       | some none => s (.c L 0) = some (.x v)
       | some (some n) => ∃ ys, v = .g ys ∧ ys.length = n ∧ CellsAre s L 0 ys
       | none => False) ∧ ResOK P s r vs

theorem resOK_tmp {P : Program} {s : Map} {t : Nat} {r : List ResultVar} {v : SV} {vs : List SV} (h : s (.t t) = some (.x v)) (hr : ResOK P s r vs) : ResOK P s (.tmp t :: r) (v :: vs) := ⟨v, vs, rfl, h, hr⟩
theorem resOK_cell1 {P : Program} {s : Map} {t ty L : Nat} {r : List ResultVar} {v : SV} {vs : List SV} (h : s (.t t) = some (.x (.p L 0))) (hsh : shapeOf P ty = some none) (hc : s (.c L 0) = some (.x v)) (hr : ResOK P s r vs) :
    ResOK P s (.cell t ty :: r) (v :: vs) := ⟨v, vs, L, rfl, h, by rw [hsh]; exact hc, hr⟩
theorem resOK_cellN {P : Program} {s : Map} {t ty L n : Nat} {r : List ResultVar} {ys vs : List SV} (h : s (.t t) = some (.x (.p L 0))) (hsh : shapeOf P ty = some (some n)) (hn : ys.length = n) (hc : CellsAre s L 0 ys) (hr : ResOK P s r vs) :
    ResOK P s (.cell t ty :: r) (.g ys :: vs) := ⟨.g ys, vs, L, rfl, h, by rw [hsh]; exact ⟨ys, rfl, hn, hc⟩, hr⟩
theorem resOK_nil {P : Program} {s : Map} : ResOK P s [] [] := rfl

def resVal : List SV → SV
  | [x] => x
  | xs => .t xs

theorem resOK_run {m : Nat → Nat} {g : Map} {a : Act} {w : World} (hrel : Rel cx m g a w) : ∀ {rs : List ResultVar} {xs : List SV}, ResOK cx.P g rs xs →
    (rs.mapM (fun | .tmp t => pure (a.tmps.getD t undef) | .cell t ty => do loadVar ty (← asAddr (a.tmps.getD t undef)) : ResultVar → Sem Value)).run cx.P w = .ok (denL m xs) w := by
  intro rs
  induction rs with
  | nil => intro xs h; rw [show xs = [] from h]; rfl
  | cons r rs ih =>
    intro xs h
    cases r with
    | tmp t =>
      obtain ⟨v, vs, rfl, h1, h2⟩ := h
      have := hrel.tm t v h1
      have h3 := ih h2
      simp only [List.mapM_cons, Sem.run_bind, Sem.run_pure, Result.andThen_ok, h3, denL]
      simp [this]
    | cell t ty =>
      obtain ⟨v, vs, L, rfl, h1, h4, h2⟩ := h
      have h5 := hrel.tm t _ h1
      have h3 := ih h2
      have hl : (loadVar ty ⟨m L, 0, none⟩).run cx.P w = .ok (den m v) w := by
        cases hsh : shapeOf cx.P ty with
        | none => rw [hsh] at h4; exact h4.elim
        | some q =>
          rw [hsh] at h4
          cases q with
          | none => exact run_load_one hsh (hrel.cell L 0 v h4)
          | some n =>
            obtain ⟨ys, rfl, hn, hc⟩ := h4
            refine run_load_agg hsh (l := denL m ys) (by rw [denL_length, hn]) fun j u hj => ?_
            rw [denL_get] at hj
            cases hy : ys[j]? with
            | none => rw [hy] at hj; cases hj
            | some y => rw [hy] at hj; cases hj; exact hrel.cell L (0 + j) y (cellsAre_get hc j y hy)
      have h6 : (asAddr (a.tmps.getD t undef)).run cx.P w = .ok ⟨m L, 0, none⟩ w := by
        simp [h5, den, asAddr]
      simp only [List.mapM_cons, Sem.run_bind, Sem.run_pure, Result.andThen_ok, h3, denL, h6, hl]

theorem results_run {fn : Func} {m : Nat → Nat} {g : Map} {a : Act} {w : World} {rs : List ResultVar} {xs : List SV} (hrs : fn.results = rs.toArray) (hrel : Rel cx m g a w) (h : ResOK cx.P g rs xs) :
    (results fn a.tmps).run cx.P w = .ok (den m (resVal xs)) w := by
  have h1 := resOK_run hrel h
  have h2 : (results fn a.tmps) = (do
      let vs ← (rs.mapM (fun | .tmp t => pure (a.tmps.getD t undef) | .cell t ty => do loadVar ty (← asAddr (a.tmps.getD t undef)) : ResultVar → Sem Value))
      pure (if h : vs.toArray.size = 1 then vs.toArray[0] else .tuple vs.toArray)) := by
    unfold results
    rw [hrs, List.mapM_toArray]
    simp only [map_eq_pure_bind, bind_assoc, pure_bind]
    rfl
  rw [h2, Sem.run_bind, h1, Result.andThen_ok, Sem.run_pure]
  congr 1
  cases xs with
  | nil => rfl
  | cons x r =>
    cases r with
    | nil => rfl
    | cons y r =>
      rw [dif_neg (by simp [denL])]
      rfl

theorem post_ret {fn : Func} {R : Ending → World → Prop} {rs : List ResultVar} {xs : List SV} {x : SV} (hds : cx.ds = []) (hrs : fn.results = rs.toArray) (h : ResOK cx.P (get s) rs xs) (hx : resVal xs = x)
    (hR : ∀ m a w, Rel cx m (get s) a w → R (.returned (den m x)) w) : Fin cx s (bodyPost cx.P fn R) .ret := by
  intro m a w hrel
  subst hx
  exact ⟨by rw [hrel.defers]; exact hds, _, results_run hrs hrel h, hR m a w hrel⟩

theorem post_end {fn : Func} {R : Ending → World → Prop} {rs : List ResultVar} {xs : List SV} {x : SV} (hds : cx.ds = []) (hrs : fn.results = rs.toArray) (h : ResOK cx.P (get s) rs xs) (hx : resVal xs = x)
    (hR : ∀ m a w, Rel cx m (get s) a w → R (.returned (den m x)) w) : Fin cx s (bodyPost cx.P fn R) .normal := by
  intro m a w hrel
  subst hx
  exact ⟨by rw [hrel.defers]; exact hds, _, results_run hrs hrel h, hR m a w hrel⟩

end
end Go.AX
