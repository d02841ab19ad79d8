/-
  The core, fourth part: operations on memory; calls.
-/
import Derived.Test.YtgpcfckbcldokaaDoorAxC
import Derived.Shelf.Abstract
namespace Go.AX
open Go Go.RowKit

/-! ### What is asked of the program's types: closed facts -/

def fieldOff (P : Program) (ty : TypeId) (f : Nat) : Option Nat :=
  match P.underlying ty with
  | some (.struct fs) =>
    match fs[f]? with
    | some fl => match P.info? fl.type with
      | some i => if i.size = 0 then none else some fl.offset
      | none => none
    | none => none
  | _ => none

/-- Of a type: 'none': one cell; 'some n': an aggregate of n cells. -/
def shapeOf (P : Program) (ty : TypeId) : Option (Option Nat) :=
  match P.underlying ty with
  | some (.struct _) | some (.array _ _) => (P.info? ty).map (fun i => some i.size)
  | some _ => some none
  | none => none

def sizeIn (P : Program) (ty : TypeId) : Option Nat := (P.info? ty).map (·.size)

def sliceSz (P : Program) (ty : TypeId) : Option Nat :=
  match P.underlying ty with
  | some (.slice e) => (P.info? e).map (·.size)
  | _ => none

def zeroL (P : Program) (ty : TypeId) : Option (List Value) := ((P.info? ty).bind (·.zero)).map (fun v => v.cells.toList)

theorem addr_add (b o n : Nat) : (⟨b, o, none⟩ : Addr).add n = ⟨b, o + n, none⟩ := by
  unfold Addr.add
  split
  · rename_i h; subst h; rfl
  · rfl

section
variable {cx : Cx} {o : Oper} {s g : Map} {m : Nat → Nat} {a : Act} {w : World}
variable {d : Nat} {type : TypeId} {pos : String} {after : Array Edge} {guard : Option (Nat × Bool)}

theorem run_fieldAt {P : Program} {ty f off b o : Nat} (h : fieldOff P ty f = some off) (w : World) :
    (Instr.fieldAt ty (.pointer (some ⟨b, o, none⟩)) f).run P w = .ok (.pointer (some ⟨b, o + off, none⟩)) w := by
  unfold fieldOff at h
  split at h
  · rename_i fs hu
    split at h
    · rename_i fl hfl
      split at h
      · rename_i i hi
        split at h
        · cases h
        · rename_i hsz
          cases h
          simp [Instr.fieldAt, run_underlying hu, hfl, Instr.sureAddr, fieldPlace, sizeOf, typeInfo, hi, hsz, addr_add]
      · cases h
    · cases h
  · cases h

theorem op_fieldAddr {ty f off L o' : Nat} {x : Operand} (hN : d < cx.N) (hx : Ev s x (.p L o')) (h : fieldOff cx.P ty f = some off) :
    OpRun cx ⟨some d, .fieldAddr ty x f, type, pos, after, guard⟩ s ⟨okeys x, [(.t d, some (.x (.p L (o' + off))))], []⟩ :=
  op_pure rfl hN (by simp) fun m a w g hr hrel => by
    have h1 := hx.eval hrel hr
    simp [execOp, h1, den, run_fieldAt h]

theorem op_fieldAddrB {ty f off b o' : Nat} {x : Operand} (hN : d < cx.N) (hx : Ev s x (.v (.pointer (some ⟨b, o', none⟩)))) (h : fieldOff cx.P ty f = some off) :
    OpRun cx ⟨some d, .fieldAddr ty x f, type, pos, after, guard⟩ s ⟨okeys x, [(.t d, some (.x (.v (.pointer (some ⟨b, o' + off, none⟩)))))], []⟩ :=
  op_pure rfl hN (by simp) fun m a w g hr hrel => by
    have h1 := hx.eval hrel hr
    simp [execOp, h1, den, run_fieldAt h]

theorem run_indexAt {P : Program} {ty b o sz len cap : Nat} {k : IntKind} {i : Int} (h : sliceSz P ty = some sz) (h0 : 0 ≤ i) (h1 : i < len) (w : World) :
    (Instr.indexAt ty (.slice (some ⟨b, o, none⟩) len cap) (.int k i)).run P w = .ok (.pointer (some ⟨b, o + i.toNat * sz, none⟩)) w := by
  unfold sliceSz at h
  split at h
  · rename_i e hu
    cases hi : P.info? e with
    | none => rw [hi] at h; cases h
    | some inf =>
      rw [hi] at h
      cases h
      simp [Instr.indexAt, run_underlying hu, asIntOf, h0, h1, sizeOf, typeInfo, hi, addr_add]
  · cases h

theorem op_ix {ty L o' sz len cap : Nat} {k : IntKind} {i : Int} {x y : Operand} (hN : d < cx.N) (hx : Ev s x (.s L o' len cap)) (hy : Ev s y (.v (.int k i))) (h : sliceSz cx.P ty = some sz) (h0 : 0 ≤ i) (h1 : i < len) :
    OpRun cx ⟨some d, .indexAddr ty x y, type, pos, after, guard⟩ s ⟨okeys x ++ okeys y, [(.t d, some (.x (.p L (o' + i.toNat * sz))))], []⟩ :=
  op_pure rfl hN (by simp) fun m a w g hr hrel => by
    have e1 := hx.eval hrel (fun k hk => hr k (by simp [hk]))
    have e2 := hy.eval hrel (fun k hk => hr k (by simp [hk]))
    simp [execOp, e1, e2, den, run_indexAt h h0 h1]

theorem op_ixB {ty b o' sz len cap : Nat} {p : Option Addr} {k : IntKind} {i : Int} {x y : Operand} (hN : d < cx.N) (hx : Ev s x (.v (.slice p len cap))) (hy : Ev s y (.v (.int k i))) (h : sliceSz cx.P ty = some sz) (hp : p = some ⟨b, o', none⟩) (h0 : 0 ≤ i) (h1 : i < len) :
    OpRun cx ⟨some d, .indexAddr ty x y, type, pos, after, guard⟩ s ⟨okeys x ++ okeys y, [(.t d, some (.x (.v (.pointer (some ⟨b, o' + i.toNat * sz, none⟩)))))], []⟩ :=
  op_pure rfl hN (by simp) fun m a w g hr hrel => by
    have e1 := hx.eval hrel (fun k hk => hr k (by simp [hk]))
    have e2 := hy.eval hrel (fun k hk => hr k (by simp [hk]))
    subst hp
    simp [execOp, e1, e2, den, run_indexAt h h0 h1]

/-! ### Loads -/

def cellKeys (L : Nat) : Nat → Nat → List Key
  | _, 0 => []
  | o, n + 1 => .c L o :: cellKeys L (o + 1) n

def CellsAre (s : Map) (L : Nat) : Nat → List SV → Prop
  | _, [] => True
  | o, y :: ys => s (.c L o) = some (.x y) ∧ CellsAre s L (o + 1) ys

theorem run_load_one {P : Program} {ty : TypeId} {ad : Addr} {v : Value} {w : World} (hsh : shapeOf P ty = some none) (h : w.cell? ad = some v) : (loadVar ty ad).run P w = .ok v w := by
  unfold shapeOf at hsh
  split at hsh
  · cases hi : P.info? ty <;> rw [hi] at hsh <;> cases hsh
  · cases hi : P.info? ty <;> rw [hi] at hsh <;> cases hsh
  · rename_i u h1 h2 hu
    have : (isAgg ty).run P w = .ok false w := by
      simp only [isAgg, Sem.run_bind, run_underlying hu, Result.andThen_ok]
      cases u <;> first | rfl | exact absurd hu (h1 _) | exact absurd hu (h2 _ _)
    simp only [loadVar, Sem.run_bind, this, Result.andThen_ok]
    simp [load, Sem.run, h]
  · cases hsh

theorem run_loadCells {P : Program} {b : Nat} {w : World} : ∀ (l : List Value) (o i : Nat) (acc : Array Value), (∀ j v, l[j]? = some v → w.cell? ⟨b, o + (i + j), none⟩ = some v) →
    (loadCellsFrom ⟨b, o, none⟩ i l.length acc).run P w = .ok (acc ++ l.toArray) w := by
  intro l
  induction l with
  | nil => intro o i acc _; simp [loadCellsFrom]
  | cons v l ih =>
    intro o i acc h
    have h0 : w.cell? ⟨b, o + i, none⟩ = some v := by simpa using h 0 v rfl
    simp only [List.length_cons, loadCellsFrom, Sem.run_bind, load, addr_add, Sem.run, h0, Result.andThen_ok]
    rw [ih o (i + 1) (acc.push v) (fun j u hj => by rw [show i + 1 + j = i + (j + 1) by omega]; exact h (j + 1) u (by simpa using hj))]
    simp

theorem run_load_agg {P : Program} {ty n : Nat} {b o : Nat} {l : List Value} {w : World} (hsh : shapeOf P ty = some (some n)) (hl : l.length = n)
    (h : ∀ j v, l[j]? = some v → w.cell? ⟨b, o + j, none⟩ = some v) : (loadVar ty ⟨b, o, none⟩).run P w = .ok (.agg l.toArray) w := by
  have key : ∀ inf, P.info? ty = some inf → inf.size = n → (isAgg ty).run P w = .ok true w → (loadVar ty ⟨b, o, none⟩).run P w = .ok (.agg l.toArray) w := by
    intro inf hi hn ha
    have hlc := run_loadCells (P := P) (b := b) (w := w) l o 0 #[] (fun j v hj => by simpa using h j v hj)
    simp only [loadVar, Sem.run_bind, ha, Result.andThen_ok, if_true, sizeOf, typeInfo, program, Sem.run, hi, Sem.run_pure, loadCells]
    rw [hn, ← hl]
    rw [hlc]
    simp
  unfold shapeOf at hsh
  split at hsh
  · rename_i fs hu
    cases hi : P.info? ty with
    | none => rw [hi] at hsh; cases hsh
    | some inf =>
      rw [hi] at hsh
      simp only [Option.map_some, Option.some.injEq] at hsh
      exact key inf hi hsh (by simp [isAgg, run_underlying hu])
  · rename_i n' e hu
    cases hi : P.info? ty with
    | none => rw [hi] at hsh; cases hsh
    | some inf =>
      rw [hi] at hsh
      simp only [Option.map_some, Option.some.injEq] at hsh
      exact key inf hi hsh (by simp [isAgg, run_underlying hu])
  · cases hsh
  · cases hsh

theorem cellsAre_get {L : Nat} : ∀ {ys : List SV} {o : Nat}, CellsAre s L o ys → ∀ j y, ys[j]? = some y → s (.c L (o + j)) = some (.x y) := by
  intro ys
  induction ys with
  | nil => intro o _ j y h; simp at h
  | cons z zs ih =>
    intro o h j y hj
    cases j with
    | zero => simp at hj; subst hj; exact h.1
    | succ j => rw [show o + (j + 1) = o + 1 + j by omega]; exact ih h.2 j y (by simpa using hj)

theorem mem_cellKeys {L : Nat} : ∀ {n o j : Nat}, j < n → Key.c L (o + j) ∈ cellKeys L o n := by
  intro n
  induction n with
  | zero => intro o j h; omega
  | succ n ih =>
    intro o j h
    cases j with
    | zero => simp [cellKeys]
    | succ j =>
      simp only [cellKeys, List.mem_cons]
      right
      rw [show o + (j + 1) = o + 1 + j by omega]
      exact ih (by omega)

theorem op_load1 {ty L o' : Nat} {x : Operand} {y : SV} (hN : d < cx.N) (hsh : shapeOf cx.P ty = some none) (hx : Ev s x (.p L o')) (hc : s (.c L o') = some (.x y)) :
    OpRun cx ⟨some d, .load ty x, type, pos, after, guard⟩ s ⟨.c L o' :: okeys x, [(.t d, some (.x y))], []⟩ :=
  op_pure rfl hN (by simp) fun m a w g hr hrel => by
    have h1 := hx.eval hrel (fun k hk => hr k (by simp [hk]))
    have h2 := hrel.cell L o' y (by rw [hr _ (by simp)]; exact hc)
    simp [execOp, h1, den, Instr.loadAt, Instr.sureAddr, run_load_one hsh h2]

theorem op_loadN {ty L o' n : Nat} {x : Operand} {ys : List SV} (hN : d < cx.N) (hsh : shapeOf cx.P ty = some (some n)) (hx : Ev s x (.p L o')) (hn : ys.length = n) (hc : CellsAre s L o' ys) :
    OpRun cx ⟨some d, .load ty x, type, pos, after, guard⟩ s ⟨okeys x ++ cellKeys L o' n, [(.t d, some (.x (.g ys)))], []⟩ :=
  op_pure rfl hN (by simp) fun m a w g hr hrel => by
    have h1 := hx.eval hrel (fun k hk => hr k (by simp [hk]))
    have h2 : ∀ j v, (denL m ys)[j]? = some v → w.cell? ⟨m L, o' + j, none⟩ = some v := by
      intro j v hj
      rw [denL_get] at hj
      cases hy : ys[j]? with
      | none => rw [hy] at hj; cases hj
      | some y =>
        rw [hy] at hj
        cases hj
        have hlt : j < n := by rw [← hn]; exact (List.getElem?_eq_some_iff.1 hy).1
        exact hrel.cell L (o' + j) y (by rw [hr _ (by simp [mem_cellKeys hlt])]; exact cellsAre_get hc j y hy)
    simp [execOp, h1, den, Instr.loadAt, Instr.sureAddr, run_load_agg hsh (by rw [denL_length, hn]) h2]

/-- A load from memory that lay there when the activation began: its run given. -/
theorem op_loadB {ty : TypeId} {x : Operand} {ad : Addr} {y : SV} (hN : d < cx.N) (hx : Ev s x (.v (.pointer (some ad))))
    (h : ∀ w, Held cx w → ∀ m, (loadVar ty ad).run cx.P w = .ok (den m y) w) :
    OpRun cx ⟨some d, .load ty x, type, pos, after, guard⟩ s ⟨okeys x, [(.t d, some (.x y))], []⟩ :=
  op_pure rfl hN (by simp) fun m a w g hr hrel => by
    have h1 := hx.eval hrel hr
    simp [execOp, h1, den, Instr.loadAt, Instr.sureAddr, h w hrel.held m]

/-! ### Stores -/

def oneC : Value → Bool
  | .agg _ | .tuple _ => false
  | _ => true

def SV.one : SV → Bool
  | .v x => oneC x
  | .g _ | .t _ => false
  | _ => true

theorem SV.one_den {x : SV} (h : x.one = true) : (den m x).cells = #[den m x] ∧ oneC (den m x) = true := by
  cases x with
  | v x => cases x <;> simp_all [SV.one, den, Value.cells, oneC]
  | g _ => simp [SV.one] at h
  | t _ => simp [SV.one] at h
  | _ => simp [den, Value.cells, oneC]

theorem run_store {P : Program} {ad : Addr} {v u : Value} {w : World} (hc : w.cell? ad = some u) (hf : w.frozen? ad = false) (hv : oneC v = true) : (store ad v).run P w = .ok () (w.setCell ad v) := by
  cases v <;> simp_all [store, Sem.run, oneC]

theorem Rel.frozen {L o' n : Nat} {ty : TypeId} (h : Rel cx m g a w) (hb : g (.b L) = some (.sh ty n)) (ho : o' < n) :
    (∃ u, w.cell? ⟨m L, o', none⟩ = some u) ∧ w.frozen? ⟨m L, o', none⟩ = false := by
  obtain ⟨_, cs, hsz, hh⟩ := h.blk L ty n hb
  constructor
  · exact ⟨cs[o'], by simp [World.cell?, hh, hsz, ho]⟩
  · simp [World.frozen?, hh]

theorem op_store1 {ty L o' n bty : Nat} {x y : Operand} {v : SV} (hsz : sizeIn cx.P ty = some 1) (hx : Ev s x (.p L o')) (hy : Ev s y v) (hv : v.one = true) (hb : s (.b L) = some (.sh bty n)) (ho : o' < n) :
    OpRun cx ⟨none, .store ty x y, type, pos, after, guard⟩ s ⟨.b L :: (okeys x ++ okeys y), [(.c L o', some (.x v))], []⟩ := by
  intro m a w g hr hf hrel K Q hK
  have h1 := hx.eval hrel (fun k hk => hr k (reads_mem (by simp [hk])))
  have h2 := hy.eval hrel (fun k hk => hr k (reads_mem (by simp [hk])))
  have h3 : g (.b L) = some (.sh bty n) := by rw [hr _ (reads_mem (by simp))]; exact hb
  obtain ⟨⟨u, hu⟩, hfz⟩ := hrel.frozen h3 ho
  obtain ⟨hcells, hone⟩ := SV.one_den (m := m) hv
  refine ⟨fun _ _ => trivial, ?_⟩
  rw [semAt_of _ _ (by simp)]
  have hrun : (execOp a.eval ⟨none, .store ty x y, type, pos, after, guard⟩).run cx.P w = .ok .skip (w.setCell ⟨m L, o', none⟩ (den m v)) := by
    unfold sizeIn at hsz
    cases hi : cx.P.info? ty with
    | none => rw [hi] at hsz; cases hsz
    | some inf =>
      rw [hi] at hsz
      simp only [Option.map_some, Option.some.injEq] at hsz
      have hst := run_store (P := cx.P) hu hfz hone
      have ha : (⟨m L, o', none⟩ : Addr).add 0 = ⟨m L, o', none⟩ := by simp [Addr.add]
      simp [execOp, h1, h2, den, Instr.storeAt, Instr.sureAddr, storeVar, sizeOf, typeInfo, hi, hsz, hcells, storeCells, ha, hst]
  rw [hrun]
  exact hK m a _ (hrel.setCell h3 ho)

theorem upd_cells_cons {L o' : Nat} {y : SV} {ys : List SV} (g : Map) (k : Key) : upd (cellsUp L (o' + 1) ys) (upd [(.c L o', some (.x y))] g) k = upd (cellsUp L o' (y :: ys)) g k := by
  simp only [cellsUp, upd]
  rw [upd_cellsUp, upd_cellsUp]
  cases k with
  | t i => simp [Key.eqb]
  | b l => simp [Key.eqb]
  | r l => simp [Key.eqb]
  | c L' o'' =>
    by_cases e : L' = L ∧ o' + 1 ≤ o'' ∧ o'' < o' + 1 + ys.length
    · obtain ⟨rfl, h1, h2⟩ := e
      have : (Key.c L' o').eqb (.c L' o'') = false := Key.eqb_false (fun h => by cases h; omega)
      simp [h1, h2, this]
    · simp only [e, if_false]

theorem run_storeCells {L n bty : Nat} : ∀ (ys : List SV) (o' i : Nat) (g : Map) (w : World), Rel cx m g a w → g (.b L) = some (.sh bty n) → (∀ y ∈ ys, y.one = true) → o' + i + ys.length ≤ n →
    ∃ w', (storeCells ⟨m L, o', none⟩ (denL m ys) i).run cx.P w = .ok () w' ∧ Rel cx m (upd (cellsUp L (o' + i) ys) g) a w' := by
  intro ys
  induction ys with
  | nil => intro o' i g w h _ _ _; exact ⟨w, by simp [storeCells, denL], h⟩
  | cons y ys ih =>
    intro o' i g w h hb hone hle
    simp only [List.length_cons] at hle
    obtain ⟨⟨u, hu⟩, hfz⟩ := h.frozen hb (show o' + i < n by omega)
    obtain ⟨_, h1⟩ := SV.one_den (m := m) (hone y (by simp))
    have hst := run_store (P := cx.P) hu hfz h1
    have h2 := h.setCell (x := y) hb (show o' + i < n by omega)
    obtain ⟨w', hw', hrel'⟩ := ih o' (i + 1) _ _ h2 (by rw [upd_one, if_neg (by simp)]; exact hb) (fun z hz => hone z (by simp [hz])) (by omega)
    refine ⟨w', ?_, hrel'.congr (fun k => ?_)⟩
    · simp only [denL, storeCells, Sem.run_bind, addr_add, hst, Result.andThen_ok]
      exact hw'
    · rw [show o' + (i + 1) = o' + i + 1 by omega]
      exact upd_cells_cons g k

theorem op_storeN {ty L o' n bty sz : Nat} {x y : Operand} {ys : List SV} (hsz : sizeIn cx.P ty = some sz) (hx : Ev s x (.p L o')) (hy : Ev s y (.g ys)) (hlen : ys.length = sz) (hv : ys.all SV.one = true) (hb : s (.b L) = some (.sh bty n)) (ho : o' + sz ≤ n) :
    OpRun cx ⟨none, .store ty x y, type, pos, after, guard⟩ s ⟨.b L :: (okeys x ++ okeys y), cellsUp L o' ys, []⟩ := by
  intro m a w g hr hf hrel K Q hK
  have h1 := hx.eval hrel (fun k hk => hr k (reads_mem (by simp [hk])))
  have h2 := hy.eval hrel (fun k hk => hr k (reads_mem (by simp [hk])))
  have h3 : g (.b L) = some (.sh bty n) := by rw [hr _ (reads_mem (by simp))]; exact hb
  obtain ⟨w', hw', hrel'⟩ := run_storeCells (cx := cx) (m := m) (a := a) (L := L) ys o' 0 g w hrel h3 (by simpa using hv) (by omega)
  refine ⟨fun _ _ => trivial, ?_⟩
  rw [semAt_of _ _ (by simp)]
  have hrun : (execOp a.eval ⟨none, .store ty x y, type, pos, after, guard⟩).run cx.P w = .ok .skip w' := by
    unfold sizeIn at hsz
    cases hi : cx.P.info? ty with
    | none => rw [hi] at hsz; cases hsz
    | some inf =>
      rw [hi] at hsz
      simp only [Option.map_some, Option.some.injEq] at hsz
      simp [execOp, h1, h2, den, Instr.storeAt, Instr.sureAddr, storeVar, sizeOf, typeInfo, hi, hsz, Value.cells, denL_length, hlen, hw']
  rw [hrun]
  exact hK m a w' hrel'

/-! ### New blocks -/

theorem denL_vals (vs : List Value) : denL m (vs.map SV.v) = vs := by
  induction vs with
  | nil => rfl
  | cons v vs ih => simp [denL, den, ih]

theorem hasL_vals (L : Nat) (vs : List Value) : hasL L (vs.map SV.v) = false := by
  induction vs with
  | nil => rfl
  | cons v vs ih => simp [hasL, SV.has, ih]

theorem upd_cons {k : Key} {v : Option Val} {u : St} (g : Map) (k' : Key) : upd ((k, v) :: u) g k' = upd [(k, v)] (upd u g) k' := by simp only [upd]

theorem op_new {L ety : Nat} {cs : List SV} {x : SV} {rd : List Key} (hd : o.dst = some d) (hN : d < cx.N) (hdf : ∀ c, o.op ≠ .defer c) (hL : hasL L cs = false)
    (h : ∀ (m : Nat → Nat) (a : Act) (w : World) (g : Map), (∀ k ∈ rd, g k = s k) → Rel cx m g a w → ∃ cells : Array Value, cells = (denL m cs).toArray ∧
      (execOp a.eval o).run cx.P w = .ok (.value (den (setL m L w.heap.size) x)) (w.alloc (.cells cells ety))) :
    OpRun cx o s ⟨rd, (.t d, some (.x x)) :: (.b L, some (.sh ety cs.length)) :: cellsUp L 0 cs, [L]⟩ := by
  intro m a w g hr hf hrel K Q hK
  obtain ⟨cells, hc, hrun⟩ := h m a w g (fun k hk => hr k (reads_mem hk)) hrel
  refine ⟨fun _ _ => trivial, ?_⟩
  rw [semAt_of _ _ hdf, hrun, Oper.uponIn_value, hd]
  refine hK _ _ _ (((hrel.alloc (ty := ety) (hf L (by simp)) hL hc).put hN rfl).congr (fun k => ?_))
  exact (upd_cons g k).symm

theorem alloc_run {P : Program} {ty : TypeId} {cells : Array Value} {w : World} : (newRow ty cells).run P w = .ok ⟨w.heap.size, 0, none⟩ (w.alloc (.cells cells ty)) := by
  rfl

theorem op_alloc {ty L : Nat} {vs : List Value} (hN : d < cx.N) (hz : zeroL cx.P ty = some vs) :
    OpRun cx ⟨some d, .alloc ty, type, pos, after, guard⟩ s ⟨[], (.t d, some (.x (.p L 0))) :: (.b L, some (.sh ty (vs.map SV.v).length)) :: cellsUp L 0 (vs.map SV.v), [L]⟩ :=
  op_new (o := ⟨some d, .alloc ty, type, pos, after, guard⟩) rfl hN (by simp) (hasL_vals L vs) fun m a w g hr hrel => by
    refine ⟨vs.toArray, by rw [denL_vals], ?_⟩
    unfold zeroL at hz
    cases hi : cx.P.info? ty with
    | none => rw [hi] at hz; cases hz
    | some inf =>
      rw [hi] at hz
      simp only [Option.bind_some] at hz
      cases hzz : inf.zero with
      | none => rw [hzz] at hz; cases hz
      | some z =>
        rw [hzz] at hz
        simp only [Option.map_some, Option.some.injEq] at hz
        subst hz
        simp [execOp, Instr.alloc, zeroValue, typeInfo, hi, hzz, newVar, alloc_run, den, setL_self]

end
end Go.AX
