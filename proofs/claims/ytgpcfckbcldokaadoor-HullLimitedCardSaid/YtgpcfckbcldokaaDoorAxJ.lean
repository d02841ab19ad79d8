/-
  The core, tenth part: reading rows; calls that hand back a new row; a new row as a result.
-/
import Derived.Test.YtgpcfckbcldokaaDoorAxI
namespace Go.AX
open Go Go.RowKit

section
variable {cx : Cx} {o : Oper} {s g : Map} {m : Nat → Nat} {a : Act} {w : World}
variable {d : Nat} {type : TypeId} {pos : String} {after : Array Edge} {guard : Option (Nat × Bool)}

theorem VecAt.ne {b c ty k : Nat} {cs : List Value} (h : VecAt b c ty k cs w) (hne : cs ≠ []) : c ≠ 0 := by
  rcases h with ⟨_, h2⟩ | ⟨h1, _⟩
  · exact absurd h2 hne
  · exact h1

theorem VecAt.get {b c ty k j : Nat} {cs : List Value} {v : Value} (h : VecAt b c ty k cs w) (hj : cs[j]? = some v) : w.cell? ⟨b, j, none⟩ = some v := by
  rcases h with ⟨_, h2⟩ | ⟨_, cur, hh, _, hp⟩
  · subst h2; simp at hj
  · simp [World.cell?, hh, hp j v hj]

theorem op_ixO {ty L C n sz ty' k' : Nat} {own : Bool} {cs : List Value} {k : IntKind} {i : Int} {x y : Operand} (hN : d < cx.N) (hx : Ev s x (.o L C n)) (hy : Ev s y (.v (.int k i))) (h : sliceSz cx.P ty = some sz)
    (hr : s (.r L) = some (.vec own C ty' k' cs)) (hne : cs ≠ []) (h0 : 0 ≤ i) (h1 : i < n) :
    OpRun cx ⟨some d, .indexAddr ty x y, type, pos, after, guard⟩ s ⟨.r L :: (okeys x ++ okeys y), [(.t d, some (.x (.p L (i.toNat * sz))))], []⟩ :=
  op_pure rfl hN (by simp) fun m a w g hrd hrel => by
    have e1 := hx.eval hrel (fun k hk => hrd k (by simp [hk]))
    have e2 := hy.eval hrel (fun k hk => hrd k (by simp [hk]))
    have e3 := hrel.vec L own C ty' k' cs (by rw [hrd _ (by simp)]; exact hr)
    have hc := e3.ne hne
    simp [execOp, e1, e2, den, hc, run_indexAt h h0 h1]

theorem op_loadO1 {ty L C o' ty' k' : Nat} {own : Bool} {cs : List Value} {x : Operand} {v : Value} (hN : d < cx.N) (hsh : shapeOf cx.P ty = some none) (hx : Ev s x (.p L o')) (hr : s (.r L) = some (.vec own C ty' k' cs)) (hv : cs[o']? = some v) :
    OpRun cx ⟨some d, .load ty x, type, pos, after, guard⟩ s ⟨.r L :: okeys x, [(.t d, some (.x (.v v)))], []⟩ :=
  op_pure rfl hN (by simp) fun m a w g hrd hrel => by
    have h1 := hx.eval hrel (fun k hk => hrd k (by simp [hk]))
    have e3 := hrel.vec L own C ty' k' cs (by rw [hrd _ (by simp)]; exact hr)
    simp [execOp, h1, den, Instr.loadAt, Instr.sureAddr, run_load_one hsh (e3.get hv)]

theorem op_loadON {ty L C o' n ty' k' : Nat} {own : Bool} {cs vs : List Value} {x : Operand} (hN : d < cx.N) (hsh : shapeOf cx.P ty = some (some n)) (hx : Ev s x (.p L o')) (hr : s (.r L) = some (.vec own C ty' k' cs)) (hn : vs.length = n)
    (hv : ∀ q v, vs[q]? = some v → cs[o' + q]? = some v) :
    OpRun cx ⟨some d, .load ty x, type, pos, after, guard⟩ s ⟨.r L :: okeys x, [(.t d, some (.x (.g (vs.map SV.v))))], []⟩ :=
  op_pure rfl hN (by simp) fun m a w g hrd hrel => by
    have h1 := hx.eval hrel (fun k hk => hrd k (by simp [hk]))
    have e3 := hrel.vec L own C ty' k' cs (by rw [hrd _ (by simp)]; exact hr)
    have h2 : ∀ j v, vs[j]? = some v → w.cell? ⟨m L, o' + j, none⟩ = some v := fun j v hj => e3.get (hv j v hj)
    simp [execOp, h1, den, Instr.loadAt, Instr.sureAddr, run_load_agg hsh hn h2, denL_vals]

theorem op_lenO {ty : TypeId} {x : Operand} {L C n : Nat} (hN : d < cx.N) (hu : (sliceSz cx.P ty).isSome = true) (hx : Ev s x (.o L C n)) :
    OpRun cx ⟨some d, .call ⟨.builtin .len, #[x], #[ty]⟩, type, pos, after, guard⟩ s ⟨okeys x, [(.t d, some (.x (.v (.int .i64 n))))], []⟩ :=
  op_pure rfl hN (fun _ h => by cases h) fun m a w g hr hrel => by
    have h1 := hx.eval hrel hr
    unfold sliceSz at hu
    split at hu
    · rename_i e he
      simp [execOp, resolve, invoke, builtin, Builtin.len_, h1, den, run_underlying he, goInt]
    · cases hu

/-- A call that hands back a new row. -/
theorem op_callRow {fo : Operand} {fv : SV} {k L C ty sz n : Nat} {own : Bool} {cs : List Value} {fs caps xs : List SV} {args : Array Operand} {ts : Array TypeId} {extra : List Key}
    (hN : d < cx.N) (hen : Proofs.Enters cx.P k) (hf : Ev s fo fv) (hk : calleeOf k fs caps fv) (hx : EvL s args.toList xs) (hne : L ≠ C)
    (hc : ∀ (m : Nat → Nat) (a : Act) (w : World) (g : Map), (∀ k ∈ extra, g k = s k) → Rel cx m g a w →
      Calls cx.P k (denL m (fs ++ (xs ++ caps))).toArray w fun e w' => ∃ p c, e = .returned (.slice p n c) ∧ NewAt w w' p n c ty sz cs ∧ Below w.heap.size w w') :
    OpRun cx ⟨some d, .call ⟨.value fo, args, ts⟩, type, pos, after, guard⟩ s ⟨okeys fo ++ okeysL args.toList ++ extra, [(.t d, some (.x (.o L C n))), (.r L, some (.vec own C ty sz cs))], [L, C]⟩ :=
  op_callG hen hf hk hx fun m a w g hr hfr hrel => (hc m a w g hr hrel).mono fun e w' ⟨p, c, he, hnew, hb⟩ => by
    obtain ⟨m', h1, h2, h3⟩ := hrel.newRow (own := own) hb hnew (hfr L (by simp)) (hfr C (by simp)) hne
    exact ⟨_, m', he, (h1.put (x := .o L C n) hN h2.symm).congr (fun q => (upd_cons g q).symm)⟩

end

theorem newAt_box {cx : Cx} {s : Map} {m : Nat → Nat} {a : Act} {w w0 : World} {L n k ty : Nat} {cs : List Value} (hrel : Rel cx m s a w) (hB : ∀ {l}, cx.mine l → w0.heap.size ≤ l) (hb : s (.b L) = some (.sh ty (n * k))) (hlen : cs.length = n * k) (hn : n ≠ 0) (hc : CellsAre s L 0 (cs.map SV.v)) :
    NewAt w0 w (some ⟨m L, 0, none⟩) n n ty k cs := by
  obtain ⟨h1, cur, h2, h3⟩ := hrel.blk L ty (n * k) hb
  have hbox := boxAt hrel (fun _ _ => rfl) hb hc
  refine ⟨m L, by rw [if_neg hn], .inr ⟨hn, cur, h3, h2, fun j v hj => ?_⟩, fun _ => hB h1, hlen⟩
  have := hbox.2 j v hj
  simpa [World.cell?, h3] using this

theorem newAt_row {cx : Cx} {s : Map} {m : Nat → Nat} {a : Act} {w w0 : World} {L C n k ty : Nat} {cs : List Value} (hrel : Rel cx m s a w) (hB : ∀ {l}, cx.mine l → w0.heap.size ≤ l) (hr : s (.r L) = some (.vec true C ty k cs)) (hlen : cs.length = n * k) :
    NewAt w0 w (if m C = 0 then none else some ⟨m L, 0, none⟩) n (m C) ty k cs :=
  ⟨m L, rfl, hrel.vec L true C ty k cs hr, fun hc => hB (hrel.ownR L C ty k cs hr hc), hlen⟩

theorem newAt_nil {w0 w : World} {k ty : Nat} : NewAt w0 w none 0 0 ty k [] := ⟨0, rfl, .inl ⟨rfl, rfl⟩, fun h => absurd rfl h, by simp⟩

end Go.AX
