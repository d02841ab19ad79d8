/- Texts KQ, KQ2, KU, KV, KW, KYA, KQ3, KD, KDM: own work; each part says what it is. -/
import Derived.Test.YtopinlndbbikdaaGreatDoorCb1
import Derived.LoopNIn
namespace Go.KX
open Go Go.RowKit
noncomputable section
def ExtAt (G : Reg) (A : Nat → Prop) (w : World) (mv : MV) : Val G.car → Prop
 | .ext t l => Hd G A w (.sl t l) (.slice mv.p mv.n mv.c)
 | .ro cs => A mv.b ∧ ∀ (j : Nat) (cv : CV G.car), cs[j]? = some cv → ∃ u, w.cell? ⟨mv.b, j, none⟩ = some u ∧ Hd G A w cv u
 | .ln n => mv.n = n ∧ (n ≠ 0 → mv.p = some ⟨mv.b, 0, none⟩)
 | .mr l => A mv.b ∧ ∃ (es : Array MapEntry) (cl : Nat), w.heap[mv.b]? = some (.map es cl) ∧ MapIsR es l
 | _ => False
theorem ExtAt.at {cx : Cx} {m : Nat → MV} {A : Nat → Prop} {T : Array Value} {w : World} {L : Nat} {v : Val cx.G.car} (h : ExtAt cx.G A w (m L) v) : At cx m A T w (.x L) v := by
 cases v <;> first | exact h | exact h.elim
theorem ExtAt.mono {G : Reg} {A A' : Nat → Prop} {w w' : World} {mv : MV} {v : Val G.car} (h : ExtAt G A w mv v) (hA : ∀ b, A b → A' b) (hw : ∀ b, A b → w'.heap[b]? = w.heap[b]?) : ExtAt G A' w' mv v := by
 cases v with
 | ext t l => exact Hd.mono h hA hw
 | ro cs =>
  refine ⟨hA _ h.1, fun j cv hcv => ?_⟩
  obtain ⟨u, h1, h2⟩ := h.2 j cv hcv
  exact ⟨u, by rw [← h1]; simp only [World.cell?, hw _ h.1], h2.mono hA hw⟩
 | ln n => exact h
 | mr l =>
  obtain ⟨h1, es, cl, h2, h3⟩ := h
  exact ⟨hA _ h1, es, cl, by rw [hw _ h1]; exact h2, h3⟩
 | _ => exact h.elim
def GW (E : Env) (gl : List (Nat × Val E.G.car)) (A : Nat → Prop) (w : World) : Prop :=
 ∃ mg : Nat → MV, (∀ p ∈ E.glo, (mg p.1).b = p.2) ∧ ∀ q ∈ gl, ExtAt E.G A w (mg q.1) q.2
theorem GW.mono {E : Env} {gl : List (Nat × Val E.G.car)} {A A' : Nat → Prop} {w w' : World} (h : GW E gl A w) (hA : ∀ b, A b → A' b) (hw : ∀ b, A b → w'.heap[b]? = w.heap[b]?) : GW E gl A' w' := by
 obtain ⟨mg, h1, h2⟩ := h
 exact ⟨mg, h1, fun q hq => (h2 q hq).mono hA hw⟩
section
variable (E : Env) (A : Nat → Prop) (w : World)
def PtrIs (t : Nat) (x : E.G.car t) (v : Value) : Prop :=
 ∃ blk, v = .pointer (some ⟨blk, 0, none⟩) ∧ A blk ∧ ∀ (j : Nat) (cv : CV E.G.car), (E.G.enc t x)[j]? = some cv → ∃ u, w.cell? ⟨blk, j, none⟩ = some u ∧ Hd E.G A w cv u
def ArgIs : (p : PK) → p.T E.G.car → Value → Prop
 | .v t agg, x, v => ∃ us, HdL E.G A w (E.G.enc t x) us ∧ (if agg then v = .agg us.toArray else us = [v])
 | .sl t, x, v => Hd E.G A w (.sl t x) v
 | .ptr t, x, v => PtrIs E A w t x v
 | .gp t, x, v => ∃ u, v = .agg #[u] ∧ PtrIs E A w t x u
 | .nl, x, v => v = .slice none 0 x
 | .sn t, x, v => Hd E.G A w (.sl t x) v ∧ ∃ p n c, v = .slice (some p) n c
 | .ow _ _, _, _ => False
 | .fv f, _, v => v = .func (.func f) #[] #[]
 | .wk tM tA r, x, v => ∃ blk pM pA bR, v = .pointer (some ⟨blk, 0, none⟩) ∧ A blk ∧ w.cell? ⟨blk, 0, none⟩ = some pM ∧ w.cell? ⟨blk, 1, none⟩ = some pA ∧ w.cell? ⟨blk, 2, none⟩ = some (.map (some bR)) ∧
   PtrIs E A w tM x.1 pM ∧ PtrIs E A w tA x.2 pA ∧ A bR ∧ ∃ (es : Array MapEntry) (cl : Nat), w.heap[bR]? = some (.map es cl) ∧ MapIsR es r
def ArgsAre : (ps : List PK) → AT E.G.car ps → List Value → Prop
 | [], _, vs => vs = []
 | p :: ps, x, vs => ∃ v us, vs = v :: us ∧ ArgIs E A w p x.1 v ∧ ArgsAre ps x.2 us
end
def NewRowAt (G : Reg) (A : Nat → Prop) (sz : Nat) (w : World) (mv : MV) (e t : Nat) (l : List (G.car t)) : Prop :=
 mv.n = l.length ∧ ((mv.c = 0 ∧ l = [] ∧ ∃ b', mv.p = ptr0 b' 0) ∨ (mv.c ≠ 0 ∧ mv.p = some ⟨mv.b, 0, none⟩ ∧ sz ≤ mv.b ∧ ¬ A mv.b ∧
  ∃ cur : Array Value, w.heap[mv.b]? = some (.cells cur e (0, 0)) ∧ cur.size = mv.c * G.sz t ∧ l.length ≤ mv.c ∧ RowIn G A w cur t l))
section
variable (G : Reg) (A : Nat → Prop) (sz : Nat) (w : World)
def ResCells : List (CV G.car) → List Nat → List Value → List MV → Prop
 | [], _, vs, ms => vs = [] ∧ ms = []
 | .v x :: cs, es, vs, ms => ∃ us, vs = x :: us ∧ ResCells cs es us ms
 | .sl t l :: cs, e :: es, vs, ms => ∃ mv us ms', vs = .slice mv.p mv.n mv.c :: us ∧ ms = mv :: ms' ∧ NewRowAt G A sz w mv e t l ∧ ResCells cs es us ms'
 | .sl _ _ :: _, [], _, _ => False
def ResIs : (k : RK) → k.T G.car → Value → List MV → Prop
 | .v t agg es, x, v, ms => ∃ us, ResCells G A sz w (G.enc t x) es us ms ∧ (if agg then v = .agg us.toArray else us = [v])
 | .sl t e, x, v, ms => ∃ mv, ms = [mv] ∧ v = .slice mv.p mv.n mv.c ∧ NewRowAt G A sz w mv e t x
 | .r t agg, x, v, ms => ms = [] ∧ ∃ us, HdL G A w (G.enc t x) us ∧ (if agg then v = .agg us.toArray else us = [v])
def ResAre : (ks : List RK) → RT G.car ks → List Value → List MV → Prop
 | [], _, vs, ms => vs = [] ∧ ms = []
 | [k], x, vs, ms => ∃ v, vs = [v] ∧ ResIs G A sz w k x v ms
 | k :: k' :: ks, x, vs, ms => ∃ v us m1 m2, vs = v :: us ∧ ms = m1 ++ m2 ∧ ResIs G A sz w k x.1 v m1 ∧ ResAre (k' :: ks) x.2 us m2
end
def Apart : List MV → Prop
 | [] => True
 | mv :: r => (∀ mv' ∈ r, mv.c ≠ 0 → mv'.c ≠ 0 → mv.b ≠ mv'.b) ∧ Apart r
def resV : List Value → Value
 | [v] => v
 | vs => .tuple vs.toArray
def Contract (E : Env) (gl : List (Nat × Val E.G.car)) (c : CS E.G) : Prop :=
 ∀ (A : Nat → Prop) (w : World) (vs : List Value) (xs : AT E.G.car c.ps), GW E gl A w → (∀ b, A b → IsCells w b) → ArgsAre E A w c.ps xs vs → ∀ r, c.f xs = some r →
  Calls E.P c.k vs.toArray w fun e w' => ∃ us ms A', e = .returned (resV us) ∧ Bel w.heap.size w w' ∧ (∀ b, A b → A' b) ∧ (∀ b, A' b → IsCells w' b) ∧ (∀ b, A' b → A b ∨ w.heap.size ≤ b) ∧
   ResAre E.G A' w.heap.size w' c.rs r us ms ∧ Apart ms
structure CSok (E : Env) (gl : List (Nat × Val E.G.car)) (c : CS E.G) : Prop where
 enters : Proofs.Enters E.P c.k
 ok : Contract E gl c
structure YI where
 L : Nat
 N : Nat
 ps : Array Tmp
 assign : Code
 body : Code
 t : PT (Nat × Option SV)
structure Fix where
 pn : Nat
 ys : List YI
def tmpOf (t : PT (Nat × Option SV)) (i : Nat) : Option SV :=
 match t.get (tk 0 i) with
 | some (_, v) => v
 | none => none
def recOf (fn : FuncId) (aT : Array Value) (ps : Array Tmp) (assign body : Code) (D : Nat) (st : LoopState) : Loop :=
 { state := st, pending := none, fn, tmps := aT, params := ps, assign, body, defers := D }
structure YIs (b : Base) (y : YI) (fn : FuncId) (aT : Array Value) (D : Nat) : Prop where
 L : y.L < b.pn
 lt : (b.pm y.L).b < b.B
 bor : ¬ b.bor (b.pm y.L).b
 mem : ((b.pm y.L).b, Obj.loop (recOf fn aT y.ps y.assign y.body D .ready)) ∈ b.kob
 size : aT.size = y.N
 tmp : ∀ i v, tmpOf y.t i = some v → aT[i]? = some (den b.pm v) ∧ v.ok b.pm ∧ v.lt b.pn = true
def YGood (b : Base) (y : YI) : Prop := ∃ fn aT D, YIs b y fn aT D
structure Good (E : Env) (gl : List (Nat × Val E.G.car)) (fx : Fix) (b : Base) : Prop where
 gw : GW E gl b.A0 b.w0
 a0 : ∀ x, b.A0 x → x < b.B
 nb : ∀ x, b.A0 x → ¬ b.bor x
 kb : ∀ p ∈ b.kob, p.1 < b.B
 pn : b.pn ≤ fx.pn
 ys : ∀ y ∈ fx.ys, YGood b y
 r0 : fx.ys ≠ [] → b.r = none
section
variable {E : Env} {R : Type} {r : R} {c : EC E} {M : Map E.G.car} {b : Base} {m : Nat → MV} {A : Nat → Prop} {g : Map E.G.car} {a : Act} {w : World}
theorem Rel.gw {fx : Fix} {gl : List (Nat × Val E.G.car)} (h : Rel (cxOf E b) m A g a w) (hg : Good E gl fx b) {A' : Nat → Prop} (hA : ∀ x, A x → A' x) : GW E gl A' w :=
 hg.gw.mono (fun x hx => hA x (h.frzA x hx)) (fun x hx => h.held.block x (hg.a0 x hx) (hg.nb x hx))
def ArgRead (M : Map E.G.car) (ks : List Key) (P : (Nat → Prop) → World → (Nat → MV) → Prop) : Prop :=
 ∀ (b : Base) (m : Nat → MV) (A : Nat → Prop) (g : Map E.G.car) (a : Act) (w : World), Rel (cxOf E b) m A g a w → (∀ k ∈ ks, g k = M k) → ∀ A1 : Nat → Prop, (∀ x, A x → A1 x) → (∀ L b, .o L ∈ ks → Owns m L (g (.o L)) b → A1 b) → P A1 w m
theorem ptrK_sound (hS : Sees c M) {t : Nat} {v : SV} {K : E.G.car t → List Key → Option R} (h : argK.ptrK c.s t v K = some r) :
  ∃ x ks, K x ks = some r ∧ ArgRead M ks fun A1 w m => PtrIs E A1 w t x (den m v) := by
 unfold argK.ptrK at h
 split at h
 ·rename_i L
  split at h
  ·rename_i ty n hb
   split at h
   ·rename_i vs hvs
    obtain ⟨cs, ks, us, h1, h2⟩ := svCVs_sound hS h
    split at h1
    ·rename_i x hx
     refine ⟨_, _, h1, fun b m A g a w hrel hk A1 hA hown => ?_⟩
     obtain ⟨hlen, hget⟩ := valCells_spec hvs
     have hbo : g (.o L) = some (.sh ty n) := (hk _ (by simp)).trans ((hS.o L).trans hb)
     have hd := h2.read hrel (fun k hk' => hk k (by simp [hk'])) hA (fun L' x hL' => hown L' x (by simp [hL']))
     refine ⟨_, rfl, hown L _ (by simp) (by rw [hbo]; rfl), fun j cv hcv => ?_⟩
     rw [E.G.hdec _ _ _ hx] at hcv
     obtain ⟨u, h3, h4⟩ := hd.get j cv hcv
     refine ⟨u, ?_, h4⟩
     rw [denL_get] at h3
     cases hy : vs[j]? with
     | none => rw [hy] at h3; cases h3
     | some y =>
      rw [hy] at h3
      cases h3
      have hlt : j < n := by rw [← hlen]; exact (List.getElem?_eq_some_iff.1 hy).1
      have h5 := hget j y hy
      rw [Nat.zero_add] at h5
      refine (hrel.cellAt (o := j) ((hk _ ?_).trans ((hS.c L j).trans h5))).1
      have := mem_cellKeys (L := L) (o := 0) hlt
      rw [Nat.zero_add] at this
      simp [this]
    ·cases h1
   ·cases h
  ·split at h
   ·rename_i cs hb
    split at h
    ·rename_i x hx
     refine ⟨_, _, h, fun b m A g a w hrel hk A1 hA hown => ?_⟩
     obtain ⟨h1, h2⟩ := hrel.ent (.x L) (.ro cs) ((hk _ (by simp)).trans ((hS.x L).trans hb))
     refine ⟨_, rfl, hA _ h1, fun j cv hcv => ?_⟩
     rw [E.G.hdec _ _ _ hx] at hcv
     obtain ⟨u, h3, h4⟩ := h2 j cv hcv
     exact ⟨u, h3, h4.mono hA (fun _ _ => rfl)⟩
    ·cases h
   ·cases h
 ·cases h
theorem boxOf_sound (hS : Sees c M) {L : Nat} {vs : List SV} {ks : List Key} (h : boxOf c.s L = some (vs, ks)) :
  ArgRead M ks fun A1 w m => A1 (m L).b ∧ ∀ (j : Nat) (y : SV), vs[j]? = some y → w.cell? ⟨(m L).b, j, none⟩ = some (den m y) := by
 unfold boxOf at h
 split at h
 ·rename_i ty n hb
  split at h
  ·rename_i vs' hvs
   cases h
   intro b m A g a w hrel hk A1 hA hown
   obtain ⟨hlen, hget⟩ := valCells_spec hvs
   have hbo : g (.o L) = some (.sh ty n) := (hk _ (by simp)).trans ((hS.o L).trans hb)
   refine ⟨hown L _ (by simp) (by rw [hbo]; rfl), fun j y hy => ?_⟩
   have hlt : j < n := by rw [← hlen]; exact (List.getElem?_eq_some_iff.1 hy).1
   have h5 := hget j y hy
   rw [Nat.zero_add] at h5
   refine (hrel.cellAt (o := j) ((hk _ ?_).trans ((hS.c L j).trans h5))).1
   have := mem_cellKeys (L := L) (o := 0) hlt
   rw [Nat.zero_add] at this
   simp [this]
  ·cases h
 ·split at h
  ·rename_i cs hb
   cases h
   intro b m A g a w hrel hk A1 hA hown
   obtain ⟨h1, _, h2⟩ := hrel.ent (.x L) (.rb vs) ((hk _ (by simp)).trans ((hS.x L).trans hb))
   exact ⟨hA _ h1, h2⟩
  ·cases h
theorem mrRead (hS : Sees c M) {L : Nat} {key : Key} {l : List (Int × List Value)} (h : mrOf c.s L = some (key, l)) :
  ArgRead M [key] fun A1 w m => A1 (m L).b ∧ ∃ (es : Array MapEntry) (cl : Nat), w.heap[(m L).b]? = some (.map es cl) ∧ MapIsR es l := by
 obtain ⟨h1, h2⟩ := mrOf_sound hS h
 intro b m A g a w hrel hk A1 hA hown
 have h3 := (hk key (by simp)).trans h2
 rcases h1 with rfl | rfl
 ·obtain ⟨es, cl, h4, h5⟩ := hrel.ent _ _ h3
  exact ⟨hown L _ (by simp) (by rw [h3]; rfl), es, cl, h4, h5⟩
 ·obtain ⟨h6, es, cl, h4, h5⟩ := hrel.ent _ _ h3
  exact ⟨hA _ h6, es, cl, h4, h5⟩
theorem ArgRead.mono {M : Map E.G.car} {ks ks' : List Key} {P : (Nat → Prop) → World → (Nat → MV) → Prop} (h : ArgRead M ks P) (hs : ∀ k ∈ ks, k ∈ ks') : ArgRead M ks' P :=
 fun b m A g a w hrel hk A1 hA hown => h b m A g a w hrel (fun k hq => hk k (hs k hq)) A1 hA (fun L x hL => hown L x (hs _ hL))
theorem sArg_sound (hS : Sees c M) {t L o n cp : Nat} {K : CV E.G.car → List Key → Option R} (h : sArg c.s t L o n cp K = some r) :
  ∃ cv ks, K cv ks = some r ∧ ArgRead M ks fun A1 w m => Hd E.G A1 w cv (den m (.s L o n cp)) := by
 unfold sArg at h
 split at h
 ·rename_i ty N hb
  split at h
  ·rename_i vs hvs
   obtain ⟨hcp, h0⟩ := bif_some h
   clear h
   obtain ⟨cs, ks, us, h1, h2⟩ := svCVs_sound hS h0
   split at h1
   ·rename_i l hl
    refine ⟨_, _, h1, fun b m A g a w hrel hk A1 hA hown => ?_⟩
    obtain ⟨hlen, hget⟩ := valCells_spec hvs
    have hbo : g (.o L) = some (.sh ty N) := (hk _ (by simp)).trans ((hS.o L).trans hb)
    have hd := h2.read hrel (fun k hk' => hk k (by simp [hk'])) hA (fun L' x hL' => hown L' x (by simp [hL']))
    obtain ⟨hl1, hl2⟩ := decL_spec hl
    refine Hd.mk (b := (m L).b) (o := o) hl1.symm (Nat.le_of_ble_eq_true hcp) (fun _ => ⟨rfl, hown L _ (by simp) (by rw [hbo]; rfl)⟩) fun i x hx j cv hcv => ?_
    have hq := hl2 i x hx j cv hcv
    obtain ⟨u, h3, h4⟩ := hd.get _ cv hq
    refine ⟨u, ?_, h4⟩
    rw [denL_get] at h3
    cases hy : vs[i * E.G.sz t + j]? with
    | none => rw [hy] at h3; cases h3
    | some y =>
     rw [hy] at h3
     cases h3
     have hlt : i * E.G.sz t + j < Nat.mul n (E.G.sz t) := by rw [← hlen]; exact (List.getElem?_eq_some_iff.1 hy).1
     have h5 := hget _ y hy
     have hk6 : Key.c L (o + (i * E.G.sz t + j)) ∈ cellKeys L o (Nat.mul n (E.G.sz t)) := mem_cellKeys hlt
     have h6 := (hrel.cellAt (L := L) (o := o + (i * E.G.sz t + j)) ((hk _ (List.mem_cons_of_mem _ (List.mem_append_left _ hk6))).trans ((hS.c L _).trans h5))).1
     rw [Nat.add_assoc]; exact h6
   ·cases h1
  ·cases h
 ·cases h
theorem svCV_read (hS : Sees c M) {v : SV} {slot : Option Nat} {K : CV E.G.car → List Key → Option R} (h : (svCV c.s slot v fun cv k _ => K cv k) = some r) :
  ∃ cv ks, K cv ks = some r ∧ ArgRead M ks fun A1 w m => Hd E.G A1 w cv (den m v) := by
 obtain ⟨cv, ks, us, h1, h2⟩ := svCV_sound hS h
 refine ⟨cv, ks, h1, fun b m A g a w hrel hk A1 hA hown => ?_⟩
 have h3 := SvCases.cons h2 .nil
 obtain ⟨u, us', e, h5, _⟩ := h3.read hrel (fun k hk' => hk k (by simpa using hk')) hA (fun L x hL => hown L x (by simpa using hL))
 cases e; exact h5
theorem argCVs_sound (hS : Sees c M) : ∀ {vs : List SV} {sl : List (Option Nat)} {K : List (CV E.G.car) → List Key → Option R}, argCVs c.s sl vs K = some r →
  ∃ cs ks, K cs ks = some r ∧ ArgRead M ks fun A1 w m => HdL E.G A1 w cs (denL m vs)
 | [], sl, K, h => ⟨[], [], h, fun b m A g a w hrel hk A1 hA hown => rfl⟩
 | v :: vs, sl, K, h => by
  have fin : ∀ {sl' : List (Option Nat)} {cv : CV E.G.car} {k : List Key}, (argCVs c.s sl' vs fun cs ks => K (cv :: cs) (k ++ ks)) = some r → (ArgRead M k fun A1 w m => Hd E.G A1 w cv (den m v)) → ∃ cs ks, K cs ks = some r ∧ ArgRead M ks fun A1 w m => HdL E.G A1 w cs (denL m (v :: vs)) := fun h1 h2 => by
   obtain ⟨cs, ks, h3, h4⟩ := argCVs_sound hS h1
   refine ⟨_, _, h3, fun b m A g a w hrel hk A1 hA hown => ⟨_, _, rfl, ?_, ?_⟩⟩
   ·exact h2.mono (fun k hk => List.mem_append_left _ hk) b m A g a w hrel hk A1 hA hown
   ·exact h4.mono (fun k hk => List.mem_append_right _ hk) b m A g a w hrel hk A1 hA hown
  unfold argCVs at h
  split at h
  ·obtain ⟨cv, k, h1, h2⟩ := sArg_sound hS h
   exact fin h1 h2
  ·obtain ⟨cv, k, h1, h2⟩ := svCV_read hS h
   exact fin h1 h2
  ·obtain ⟨cv, k, h1, h2⟩ := svCV_read hS h
   exact fin h1 h2
theorem argK_sound (hS : Sees c M) {p : PK} {v : SV} {K : p.T E.G.car → List Key → Option R} (h : argK c.s p v K = some r) :
  ∃ x ks, K x ks = some r ∧ ArgRead M ks fun A1 w m => v.ok m → ArgIs E A1 w p x (den m v) := by
 cases p with
 | v t agg =>
  simp only [argK] at h
  cases agg with
  | true =>
   simp only [] at h
   split at h
   ·rename_i vs
    obtain ⟨cs, ks, h1, h2⟩ := argCVs_sound hS h
    split at h1
    ·rename_i x hx
     refine ⟨_, _, h1, fun b m A g a w hrel hk A1 hA hown _ => ⟨_, ?_, rfl⟩⟩
     rw [E.G.hdec _ _ _ hx]
     exact h2 b m A g a w hrel hk A1 hA hown
    ·cases h1
   ·cases h
  | false =>
   simp only [] at h
   obtain ⟨cv, ks, us, h1, h2⟩ := svCV_sound hS h
   split at h1
   ·rename_i x hx
    refine ⟨_, _, h1, fun b m A g a w hrel hk A1 hA hown _ => ⟨[den m v], ?_, rfl⟩⟩
    rw [E.G.hdec _ _ _ hx]
    have h3 : SvCases M [v] [cv] (ks ++ []) ([] ++ us) := .cons h2 .nil
    have := h3.read hrel (fun k hk' => hk k (by simpa using hk')) hA (fun L x hL => hown L x (by simpa using hL))
    exact this
   ·cases h1
 | sl t =>
  simp only [argK] at h
  split at h
  ·exact ⟨_, _, h, fun b m A g a w hrel hk A1 hA hown _ => Hd.mk (b := 0) (o := 0) rfl (Nat.le_refl _) (fun h => absurd rfl h) (fun i x hx => by simp at hx)⟩
  ·rename_i L
   obtain ⟨k, t', l, h1, h2⟩ := listK_sound hS h
   split at h1
   ·rename_i heq
    subst heq
    refine ⟨_, _, h1, fun b m A g a w hrel hk A1 hA hown _ => ?_⟩
    cases h2 with
    | row h3 =>
     have e := (hk _ (by simp)).trans h3
     exact At.rowHd (hrel.ent _ _ e) hA (fun hc => hown L _ (by simp) (by rw [e]; exact ⟨hc, rfl⟩))
    | ext h3 => exact Hd.mono (hrel.ent (.x L) (.ext t' l) ((hk _ (by simp)).trans h3)) hA (fun _ _ => rfl)
   ·cases h1
  ·rename_i L
   obtain ⟨k, t', l, h1, h2⟩ := listK_sound hS h
   split at h1
   ·rename_i heq
    subst heq
    refine ⟨_, _, h1, fun b m A g a w hrel hk A1 hA hown _ => ?_⟩
    cases h2 with
    | row h3 =>
     have e := (hk _ (by simp)).trans h3
     exact At.rowHd (hrel.ent _ _ e) hA (fun hc => hown L _ (by simp) (by rw [e]; exact ⟨hc, rfl⟩))
    | ext h3 => exact Hd.mono (hrel.ent (.x L) (.ext t' l) ((hk _ (by simp)).trans h3)) hA (fun _ _ => rfl)
   ·cases h1
  ·rename_i L i n k
   obtain ⟨key, t', l, h1, h2⟩ := listK_sound hS h
   split at h1
   ·rename_i heq
    subst heq
    obtain ⟨hk0, hk1⟩ := bif_some h1
    have hk2 := Nat.eq_of_beq_eq_true hk0
    subst hk2
    refine ⟨_, _, hk1, fun b m A g a w hrel hk A1 hA hown hok => ?_⟩
    obtain ⟨q1, q2, q3⟩ := hok
    have hw : Hd E.G A1 w (.sl t' l) (.slice (m L).p (m L).n (m L).c) := by
     cases h2 with
     | row h3 =>
      have e := (hk _ (by simp)).trans h3
      exact At.rowHd (hrel.ent _ _ e) hA (fun hc => hown L _ (by simp) (by rw [e]; exact ⟨hc, rfl⟩))
     | ext h3 => exact Hd.mono (hrel.ent (.x L) (.ext t' l) ((hk _ (by simp)).trans h3)) hA (fun _ _ => rfl)
    exact hw.part (by omega)
   ·cases h1
  ·rename_i L o n cp
   split at h
   ·rename_i ty N hb
    split at h
    ·rename_i vs hvs
     obtain ⟨hcp, h0⟩ := bif_some h
     clear h
     obtain ⟨cs, ks, us, h1, h2⟩ := svCVs_sound hS h0
     split at h1
     ·rename_i l hl
      refine ⟨_, _, h1, fun b m A g a w hrel hk A1 hA hown _ => ?_⟩
      obtain ⟨hlen, hget⟩ := valCells_spec hvs
      have hbo : g (.o L) = some (.sh ty N) := (hk _ (by simp)).trans ((hS.o L).trans hb)
      have hd := h2.read hrel (fun k hk' => hk k (by simp [hk'])) hA (fun L' x hL' => hown L' x (by simp [hL']))
      obtain ⟨hl1, hl2⟩ := decL_spec hl
      refine Hd.mk (b := (m L).b) (o := o) hl1.symm (Nat.le_of_ble_eq_true hcp) (fun _ => ⟨rfl, hown L _ (by simp) (by rw [hbo]; rfl)⟩) fun i x hx j cv hcv => ?_
      have hq := hl2 i x hx j cv hcv
      obtain ⟨u, h3, h4⟩ := hd.get _ cv hq
      refine ⟨u, ?_, h4⟩
      rw [denL_get] at h3
      cases hy : vs[i * E.G.sz t + j]? with
      | none => rw [hy] at h3; cases h3
      | some y =>
       rw [hy] at h3
       cases h3
       have hlt : i * E.G.sz t + j < Nat.mul n (E.G.sz t) := by rw [← hlen]; exact (List.getElem?_eq_some_iff.1 hy).1
       have h5 := hget _ y hy
       have hk6 : Key.c L (o + (i * E.G.sz t + j)) ∈ cellKeys L o (Nat.mul n (E.G.sz t)) := mem_cellKeys hlt
       have h6 := (hrel.cellAt (L := L) (o := o + (i * E.G.sz t + j)) ((hk _ (List.mem_cons_of_mem _ (List.mem_append_left _ hk6))).trans ((hS.c L _).trans h5))).1
       rw [Nat.add_assoc]; exact h6
     ·cases h1
    ·cases h
   ·cases h
  ·cases h
 | nl =>
  simp only [argK] at h
  split at h
  ·exact ⟨_, _, h, fun b m A g a w hrel hk A1 hA hown _ => rfl⟩
  ·cases h
 | sn t => cases h
 | ow e t => cases h
 | fv f =>
  simp only [argK] at h
  split at h
  ·rename_i g a b
   split at h
   ·rename_i ha hb
    have ha' : a = #[] := by cases a; simp_all
    have hb' : b = #[] := by cases b; simp_all
    subst ha' hb'
    obtain ⟨h1, h2⟩ := bif_some h
    have h1 := Nat.eq_of_beq_eq_true h1
    subst h1
    exact ⟨_, _, h2, fun b m A g a w hrel hk A1 hA hown _ => rfl⟩
   ·cases h
  ·cases h
 | ptr t =>
  obtain ⟨x, ks, h1, h2⟩ := ptrK_sound hS h
  exact ⟨x, ks, h1, fun b m A g a w hrel hk A1 hA hown _ => h2 b m A g a w hrel hk A1 hA hown⟩
 | gp t =>
  simp only [argK] at h
  split at h
  ·rename_i v
   obtain ⟨x, ks, h1, h2⟩ := ptrK_sound hS h
   exact ⟨x, ks, h1, fun b m A g a w hrel hk A1 hA hown _ => ⟨_, rfl, h2 b m A g a w hrel hk A1 hA hown⟩⟩
  ·cases h
 | wk tM tA rr =>
  simp only [argK] at h
  split at h
  ·rename_i L
   split at h
   ·rename_i LM LA LR ks0 hb
    obtain ⟨x, k1, h1, h2⟩ := ptrK_sound hS h
    obtain ⟨y, k2, h3, h4⟩ := ptrK_sound hS h1
    split at h3
    ·rename_i key l hm
     obtain ⟨h5, h6⟩ := bif_some h3
     have h5 := eqR_eq h5
     subst h5
     refine ⟨_, _, h6, fun b m A g a w hrel hk A1 hA hown _ => ?_⟩
     obtain ⟨g1, g2⟩ := boxOf_sound hS hb b m A g a w hrel (fun k hk' => hk k (by simp [hk'])) A1 hA (fun L' x hL' => hown L' x (by simp [hL']))
     obtain ⟨g3, g4⟩ := mrRead hS hm b m A g a w hrel (fun k hk' => hk k (by simp at hk'; simp [hk'])) A1 hA (fun L' x hL' => hown L' x (by simp at hL'; simp [hL']))
     exact ⟨_, _, _, _, rfl, g1, g2 0 _ rfl, g2 1 _ rfl, g2 2 _ rfl,
      h2 b m A g a w hrel (fun k hk' => hk k (by simp [hk'])) A1 hA (fun L' x hL' => hown L' x (by simp [hL'])),
      h4 b m A g a w hrel (fun k hk' => hk k (by simp [hk'])) A1 hA (fun L' x hL' => hown L' x (by simp [hL'])), g3, g4⟩
    ·cases h3
   ·cases h
  ·cases h
theorem argsK_sound (hS : Sees c M) : ∀ {ps : List PK} {vs : List SV} {K : AT E.G.car ps → List Key → Option R}, argsK c.s ps vs K = some r →
  ∃ x ks, K x ks = some r ∧ ArgRead M ks fun A1 w m => okL m vs → ArgsAre E A1 w ps x (denL m vs) := by
 intro ps
 induction ps with
 | nil =>
  intro vs K h
  cases vs with
  | nil => exact ⟨_, _, h, fun b m A g a w hrel hk A1 hA hown _ => rfl⟩
  | cons _ _ => simp [argsK] at h
 | cons p ps ih =>
  intro vs K h
  cases vs with
  | nil => simp [argsK] at h
  | cons v vs =>
   obtain ⟨x, ks, h1, h2⟩ := argK_sound hS h
   obtain ⟨y, ls, h3, h4⟩ := ih h1
   exact ⟨_, _, h3, fun b m A g a w hrel hk A1 hA hown hok => ⟨_, _, rfl, h2 b m A g a w hrel (fun k hk' => hk k (by simp [hk'])) A1 hA (fun L b hL => hown L b (by simp [hL])) hok.1,
    h4 b m A g a w hrel (fun k hk' => hk k (by simp [hk'])) A1 hA (fun L b hL => hown L b (by simp [hL])) hok.2⟩⟩
theorem Rel.grow {A' : Nat → Prop} (h : Rel (cxOf E b) m A g a w) (hA : ∀ x, A x → A' x) (hlt : ∀ x, A' x → IsCells w x) (hnew : ∀ x, A' x → A x ∨ ((cxOf E b).mine x ∧ ∀ L, ¬ Owns m L (g (.o L)) x)) : Rel (cxOf E b) m A' g a w :=
 ⟨h.size, h.defers, fun k v hk => (h.ent k v hk).change (fun _ _ => rfl) hA (fun _ _ => rfl) (fun _ _ => rfl) (fun _ _ _ _ => rfl) (fun _ _ _ => rfl), h.cell, fun L x hL => ⟨(h.own L x hL).1, fun hA' => (hnew _ hA').elim (h.own L x hL).2 fun h' => h'.2 L hL⟩,
  h.inj, hlt, h.held, h.top, h.fix, h.ko, fun x hx => (hnew x hx).elim (h.frz0 x) fun h' => .inr h'.1, fun x hx => hA x (h.frzA x hx), h.pins⟩
theorem NewRowAt.flat {A A' : Nat → Prop} {sz : Nat} {mv : MV} {e t : Nat} {l : List (E.G.car t)} (h : NewRowAt E.G A' sz w mv e t l) (hA : ∀ x, A x → A' x) (hf : E.G.flat t = true) : NewRowAt E.G A sz w mv e t l := by
 refine ⟨h.1, h.2.imp_right fun ⟨h1, h2, h3, h4, cur, h5, h6, h7, h8⟩ => ⟨h1, h2, h3, fun h9 => h4 (hA _ h9), cur, h5, h6, h7, fun i x hx j cv hcv => ?_⟩⟩
 obtain ⟨u, h9, h10⟩ := h8 i x hx j cv hcv
 obtain ⟨v, rfl⟩ := E.G.hflat t hf x cv (List.mem_of_getElem? hcv)
 exact ⟨u, h9, by rw [h10.plain]; exact .v _⟩
def ResTaken (E : Env) (nest : Bool) (nl nl' : Nat) (ws : List SV) (us : St E.G.car) (P : (Nat → Prop) → Nat → World → List Value → List MV → Prop) : Prop :=
 nl ≤ nl' ∧ (∀ x ∈ us, ∃ L, nl ≤ L ∧ L < nl' ∧ ((x.1 = .o L ∧ ∃ e t l, x.2 = some (.row e t l)) ∨ (x.1 = .x L ∧ ∃ t l, x.2 = some (.ext t l)))) ∧ ltL nl' ws = true ∧
 ∀ (b : Base) (m : Nat → MV) (A A' : Nat → Prop) (g : Map E.G.car) (a : Act) (w : World) (sz : Nat) (vs : List Value) (ms : List MV), Rel (cxOf E b) m A g a w → (∀ x, A x → A' x) → (nest = true → ∀ x, A' x → A x) → b.B ≤ sz → (∀ L, nl ≤ L → L < nl' → Free (cxOf E b) L g) →
  (∀ mv ∈ ms, mv.c ≠ 0 → ∀ L, ¬ Owns m L (g (.o L)) mv.b) → Apart ms → P A' sz w vs ms →
  ∃ m', Rel (cxOf E b) m' A (upd us g) a w ∧ denL m' ws = vs ∧ okL m' ws ∧ (∀ L, (L < nl ∨ nl' ≤ L) → m' L = m L) ∧ ∀ L x, Owns m' L (upd us g (.o L)) x → Owns m L (g (.o L)) x ∨ ∃ mv ∈ ms, mv.c ≠ 0 ∧ x = mv.b
theorem NewRowAt.both {nest : Bool} {A A' : Nat → Prop} {sz : Nat} {mv : MV} {e t : Nat} {l : List (E.G.car t)} (h : NewRowAt E.G A' sz w mv e t l) (hA : ∀ x, A x → A' x) (hn : nest = true → ∀ x, A' x → A x) (hf : (E.G.flat t || nest) = true) : NewRowAt E.G A sz w mv e t l := by
 cases hfl : E.G.flat t with
 | true => exact h.flat hA hfl
 | false =>
  rw [hfl, Bool.false_or] at hf
  have : A = A' := funext fun x => propext ⟨hA x, hn hf x⟩
  rw [this]; exact h
theorem Rel.takeRow {L e t sz : Nat} {l : List (E.G.car t)} {mv : MV} (h : Rel (cxOf E b) m A g a w) (hf : Free (cxOf E b) L g) (hB : b.B ≤ sz) (hr : NewRowAt E.G A sz w mv e t l) (hown : mv.c ≠ 0 → ∀ L, ¬ Owns m L (g (.o L)) mv.b) :
  Rel (cxOf E b) (setL m L mv) A (upd [(.o L, some (.row e t l))] g) a w := by
 refine h.addRow hf ⟨by rw [setL_self]; exact hr.1, ?_⟩ (fun hc => ?_)
 ·simp only [setL_self]
  rcases hr.2 with h1 | ⟨h1, h2, h3, h4, cur, h5, h6, h7, h8⟩
  ·exact .inl h1
  ·exact .inr ⟨h1, h2, cur, h5, h6, h7, h8⟩
 ·rcases hr.2 with ⟨h1, _⟩ | ⟨h1, h2, h3, h4, _⟩
  ·exact absurd h1 hc
  ·exact ⟨.inl (Nat.le_trans hB h3), h4, hown hc⟩
theorem owns_row {L e t x : Nat} {l : List (E.G.car t)} {mv : MV} {L' : Nat} (hf : Free (cxOf E b) L g) (ho : Owns (setL m L mv) L' (upd [(.o L, some (.row e t l))] g (.o L')) x) : Owns m L' (g (.o L')) x ∨ (L' = L ∧ mv.c ≠ 0 ∧ x = mv.b) := by
 rw [upd_one] at ho
 by_cases e1 : Key.o L = .o L'
 ·cases e1
  rw [if_pos rfl] at ho
  simp only [Owns, setL_self] at ho
  exact .inr ⟨rfl, ho⟩
 ·rw [if_neg e1] at ho
  refine .inl ((owns_congr fun l' hl' => setL_ne m mv fun e => ?_).1 ho)
  subst e
  rw [hf.1] at hl'; cases hl'
theorem resCells_sound {nest : Bool} : ∀ {cs : List (CV E.G.car)} {es : List Nat} {nl : Nat} {K : List SV → St E.G.car → Nat → Option R}, resCells nest nl cs es K = some r →
  ∃ ws us nl', K ws us nl' = some r ∧ ResTaken E nest nl nl' ws us fun A sz w vs ms => ResCells E.G A sz w cs es vs ms := by
 intro cs
 induction cs with
 | nil =>
  intro es nl K h
  refine ⟨[], [], nl, by simpa [resCells] using h, Nat.le_refl _, (fun x hx => nomatch hx), rfl, fun b m A A' g a w sz vs ms hrel _ _ _ _ _ _ hP => ?_⟩
  obtain ⟨rfl, rfl⟩ := hP
  exact ⟨m, hrel, rfl, trivial, fun _ _ => rfl, fun L x hL => .inl hL⟩
 | cons cv cs ih =>
  intro es nl K h
  cases cv with
  | v x =>
   have key : ∀ (y : SV) (_ : ∀ n, y.lt n = true) (_ : ∀ m, den m y = x ∧ y.ok m), resCells nest nl cs es (fun vs us nl => K (y :: vs) us nl) = some r →
     ∃ ws us nl', K ws us nl' = some r ∧ ResTaken E nest nl nl' ws us fun A sz w vs ms => ResCells E.G A sz w (CV.v x :: cs) es vs ms := by
    intro y hlt hy h
    obtain ⟨ws, us, nl', h1, h2, h3, h4, h5⟩ := ih h
    refine ⟨_, _, _, h1, h2, h3, by simp [ltL, hlt, h4], fun b m A A' g a w sz vs ms hrel hA hn hB hfree hown hap hP => ?_⟩
    obtain ⟨us', rfl, h6⟩ := hP
    obtain ⟨m', h7, h8, h9, h10, h11⟩ := h5 b m A A' g a w sz us' ms hrel hA hn hB hfree hown hap h6
    exact ⟨m', h7, by simp only [denL, h8, (hy m').1], ⟨(hy m').2, h9⟩, h10, h11⟩
   cases x with
   | int k n => exact key (.i k n) (fun _ => rfl) (fun _ => ⟨rfl, trivial⟩) (by simpa [resCells] using h)
   | bool e => exact key (.b e) (fun _ => rfl) (fun _ => ⟨rfl, trivial⟩) (by simpa [resCells] using h)
   | _ => exact key (.v _) (fun _ => rfl) (fun _ => ⟨rfl, trivial⟩) (by simpa [resCells] using h)
  | sl t l =>
   cases es with
   | nil => simp [resCells] at h
   | cons e es =>
    simp only [resCells] at h
    obtain ⟨hf, h0⟩ := bif_some h
    clear h
    obtain ⟨ws, us, nl', h1, h2, h3, h4, h5⟩ := ih h0
    have h2' : nl + 1 ≤ nl' := h2
    refine ⟨_, _, _, h1, by omega, fun x hx => ?_, ?_, fun b m A A' g a w sz vs ms hrel hA hn hB hfree hown hap hP => ?_⟩
    ·rcases List.mem_append.1 hx with hx | hx
     ·obtain ⟨L, e2, e3, e4⟩ := h3 x hx
      have e2' : nl + 1 ≤ L := e2
      exact ⟨L, by omega, e3, e4⟩
     ·simp only [List.mem_singleton] at hx
      subst hx
      exact ⟨nl, Nat.le_refl _, by omega, .inl ⟨rfl, e, t, l, rfl⟩⟩
    ·simp only [ltL, SV.lt, h4, Bool.and_true, Nat.blt_eq]; omega
    ·obtain ⟨mv, us', ms', rfl, rfl, h6, h7⟩ := hP
     obtain ⟨hap1, hap2⟩ := hap
     have hrel1 := hrel.takeRow (hfree nl (Nat.le_refl _) (by omega)) hB (h6.both hA hn hf) (hown mv (by simp))
     obtain ⟨m', h8, h9, h10, h11, h12⟩ := h5 b _ A A' _ a w sz us' ms' hrel1 hA hn hB (fun L hL1 hL2 => (hfree L (Nat.le_of_succ_le hL1) hL2).upd (by
      have hL1' : nl + 1 ≤ L := hL1
      simp [mentionsIn, mentions, valHas, keyHas, beq_ne (show nl ≠ L by omega)])) (fun mv' hmv' hc' L hL => by
       rcases owns_row (hfree nl (Nat.le_refl _) (by omega)) hL with h13 | ⟨rfl, h13, h14⟩
       ·exact hown mv' (by simp [hmv']) hc' L h13
       ·exact hap1 mv' hmv' h13 hc' h14.symm) hap2 h7
     have e0 : m' nl = mv := by rw [h11 nl (.inl (Nat.lt_succ_self nl)), setL_self]
     refine ⟨m', by rw [upd_append]; exact h8, by simp only [denL, den, e0, h9], ⟨trivial, h10⟩, fun L hL => ?_, fun L x hL => ?_⟩
     ·rw [h11 L (hL.imp_left fun h => Nat.lt_succ_of_lt h), setL_ne]
      rcases hL with hL | hL <;> omega
     ·rw [upd_append] at hL
      rcases h12 L x hL with h13 | ⟨mv', h13, h14, h15⟩
      ·rcases owns_row (hfree nl (Nat.le_refl _) (by omega)) h13 with h15 | ⟨rfl, h15, h16⟩
       ·exact .inl h15
       ·exact .inr ⟨mv, by simp, h15, h16⟩
      ·exact .inr ⟨mv', by simp [h13], h14, h15⟩
theorem resK_sound {nest : Bool} {nl : Nat} {k : RK} {x : k.T E.G.car} {K : SV → St E.G.car → Nat → Option R} (h : resK nest nl k x K = some r) :
  ∃ wv us nl', K wv us nl' = some r ∧ ResTaken E nest nl nl' [wv] us fun A sz w vs ms => ∃ v, vs = [v] ∧ ResIs E.G A sz w k x v ms := by
 cases k with
 | v t agg es =>
  simp only [resK] at h
  obtain ⟨ws, us, nl', h1, h2, h3, h4, h5⟩ := resCells_sound h
  cases agg with
  | true =>
   refine ⟨_, _, _, h1, h2, h3, by simpa [ltL, SV.lt] using h4, fun b m A A' g a w sz vs ms hrel hA hn hB hfree hown hap hP => ?_⟩
   obtain ⟨v, rfl, us', h6, h7⟩ := hP
   simp only [if_true] at h7
   obtain ⟨m', h8, h9, h10, h11, h12⟩ := h5 b m A A' g a w sz us' ms hrel hA hn hB hfree hown hap h6
   exact ⟨m', h8, by simp only [denL, den, h9, h7], ⟨h10, trivial⟩, h11, h12⟩
  | false =>
   simp only [] at h1
   split at h1
   ·rename_i v
    refine ⟨_, _, _, h1, h2, h3, h4, fun b m A A' g a w sz vs ms hrel hA hn hB hfree hown hap hP => ?_⟩
    obtain ⟨v, rfl, us', h6, h7⟩ := hP
    simp only [Bool.false_eq_true, if_false] at h7
    subst h7
    exact h5 b m A A' g a w sz _ ms hrel hA hn hB hfree hown hap h6
   ·cases h1
 | sl t e =>
  simp only [resK] at h
  obtain ⟨hf, h1⟩ := bif_some h
  refine ⟨_, _, _, h1, Nat.le_succ _, fun x hx => ?_, ?_, fun b m A A' g a w sz vs ms hrel hA hn hB hfree hown hap hP => ?_⟩
  ·simp only [List.mem_singleton] at hx
   subst hx
   exact ⟨nl, Nat.le_refl _, Nat.lt_succ_self _, .inl ⟨rfl, e, t, x, rfl⟩⟩
  ·simp [ltL, SV.lt]
  ·obtain ⟨v, rfl, mv, rfl, rfl, h6⟩ := hP
   refine ⟨_, hrel.takeRow (hfree nl (Nat.le_refl _) (Nat.lt_succ_self _)) hB (h6.both hA hn hf) (hown mv (by simp)), by simp only [denL, den, setL_self], ⟨trivial, trivial⟩, fun L hL => setL_ne _ _ (by rcases hL with h | h <;> omega), fun L x hL => ?_⟩
   rcases owns_row (hfree nl (Nat.le_refl _) (Nat.lt_succ_self _)) hL with h7 | ⟨rfl, h7, h8⟩
   ·exact .inl h7
   ·exact .inr ⟨mv, by simp, h7, h8⟩
 | r t agg =>
  simp only [resK] at h
  obtain ⟨hnest, h0⟩ := bif_some h
  subst hnest
  obtain ⟨ws, us, nl', h1, h2, h3, h4, _, h5⟩ := cvsK_sound' h0
  have hus : ∀ x ∈ us, ∃ L, nl ≤ L ∧ L < nl' ∧ ((x.1 = .o L ∧ ∃ e t l, x.2 = some (.row e t l)) ∨ (x.1 = .x L ∧ ∃ t l, x.2 = some (.ext t l))) := fun x hx => by
   obtain ⟨L, e1, e2, e3, e4⟩ := h3 x hx
   exact ⟨L, e2, e3, .inr ⟨e1, e4⟩⟩
  have hno : ∀ (g : Map E.G.car) L, upd us g (.o L) = g (.o L) := fun g L => upd_of_touches (by
   cases e : touches (.o L) us with
   | false => rfl
   | true =>
    obtain ⟨x, hx, e1⟩ := touches_iff.1 e
    obtain ⟨L', e2, _⟩ := h3 x hx
    rw [e1] at e2; cases e2) g
  have core : ∀ (b : Base) (m : Nat → MV) (A A' : Nat → Prop) (g : Map E.G.car) (a : Act) (w : World) (vs : List Value), Rel (cxOf E b) m A g a w → (∀ x, A x → A' x) → (∀ x, A' x → A x) → (∀ L, nl ≤ L → L < nl' → Free (cxOf E b) L g) → HdL E.G A' w (E.G.enc t x) vs →
    ∃ m', Rel (cxOf E b) m' A (upd us g) a w ∧ denL m' ws = vs ∧ okL m' ws ∧ (∀ L, (L < nl ∨ nl' ≤ L) → m' L = m L) ∧ ∀ L x, Owns m' L (upd us g (.o L)) x → Owns m L (g (.o L)) x := by
   intro b m A A' g a w vs hrel hA hA2 hfree hd
   obtain rfl : A = A' := funext fun x => propext ⟨hA x, hA2 x⟩
   obtain ⟨m', g1, g2, g3, g4⟩ := h5 b m A g a w vs hrel hfree hd
   refine ⟨m', g1, g2, g3, g4, fun L x hL => ?_⟩
   rw [hno] at hL
   have hlt : L < nl ∨ nl' ≤ L := by
    apply Classical.byContradiction
    intro hn
    have hf := (hfree L (by omega) (by omega)).1 (.o L)
    cases e : g (.o L) with
    | none => rw [e] at hL; exact hL
    | some v => rw [e] at hf; simp [mentions, keyHas] at hf
   refine (owns_congr fun l' hl' => g4 l' ?_).1 hL
   apply Classical.byContradiction
   intro hn
   have hf := (hfree l' (by omega) (by omega)).1 (.o L)
   rw [hl'] at hf; cases hf
  cases agg with
  | true =>
   refine ⟨_, _, _, h1, h2, hus, by simpa [ltL, SV.lt] using h4, fun b m A A' g a w sz vs ms hrel hA hn hB hfree hown hap hP => ?_⟩
   obtain ⟨v, rfl, rfl, us', h6, h7⟩ := hP
   simp only [if_true] at h7
   obtain ⟨m', g1, g2, g3, g4, g5⟩ := core b m A A' g a w us' hrel hA (hn rfl) hfree h6
   exact ⟨m', g1, by simp only [denL, den, g2, h7], ⟨g3, trivial⟩, g4, fun L x hL => .inl (g5 L x hL)⟩
  | false =>
   simp only [] at h1
   split at h1
   ·rename_i v
    refine ⟨_, _, _, h1, h2, hus, h4, fun b m A A' g a w sz vs ms hrel hA hn hB hfree hown hap hP => ?_⟩
    obtain ⟨v, rfl, rfl, us', h6, h7⟩ := hP
    simp only [Bool.false_eq_true, if_false] at h7
    subst h7
    obtain ⟨m', g1, g2, g3, g4, g5⟩ := core b m A A' g a w _ hrel hA (hn rfl) hfree h6
    exact ⟨m', g1, g2, g3, g4, fun L x hL => .inl (g5 L x hL)⟩
   ·cases h1
theorem apart_append {l l' : List MV} (h : Apart (l ++ l')) : Apart l ∧ Apart l' ∧ ∀ x ∈ l, ∀ y ∈ l', x.c ≠ 0 → y.c ≠ 0 → x.b ≠ y.b := by
 induction l with
 | nil => exact ⟨trivial, h, fun x hx => nomatch hx⟩
 | cons z l ih =>
  obtain ⟨h1, h2⟩ := h
  obtain ⟨h3, h4, h5⟩ := ih h2
  refine ⟨⟨fun y hy => h1 y (by simp [hy]), h3⟩, h4, fun x hx y hy => ?_⟩
  rcases List.mem_cons.1 hx with rfl | hx
  ·exact h1 y (by simp [hy])
  ·exact h5 x hx y hy
theorem ressK_sound {nest : Bool} : ∀ {ks : List RK} {nl : Nat} {x : RT E.G.car ks} {K : List SV → St E.G.car → Nat → Option R}, ressK nest nl ks x K = some r →
  ∃ ws us nl', K ws us nl' = some r ∧ ws.length = ks.length ∧ ResTaken E nest nl nl' ws us fun A sz w vs ms => ResAre E.G A sz w ks x vs ms := by
 intro ks
 induction ks with
 | nil =>
  intro nl x K h
  refine ⟨[], [], nl, by simpa [ressK] using h, rfl, Nat.le_refl _, (fun x hx => nomatch hx), rfl, fun b m A A' g a w sz vs ms hrel _ _ _ _ _ _ hP => ?_⟩
  obtain ⟨rfl, rfl⟩ := hP
  exact ⟨m, hrel, rfl, trivial, fun _ _ => rfl, fun L x hL => .inl hL⟩
 | cons k ks ih =>
  cases ks with
  | nil =>
   intro nl x K h
   obtain ⟨wv, us, nl', h1, h2⟩ := resK_sound h
   exact ⟨_, _, _, h1, rfl, h2⟩
  | cons k' ks =>
   intro nl x K h
   obtain ⟨wv, us, nl1, h1, h2, h3, h4, h5⟩ := resK_sound (x := x.1) h
   obtain ⟨ws, us', nl', h6, hlen, h7, h8, h9, h10⟩ := ih h1
   refine ⟨_, _, _, h6, by simp [hlen], Nat.le_trans h2 h7, fun x hx => ?_, ?_, fun b m A A' g a w sz vs ms hrel hA hn hB hfree hown hap hP => ?_⟩
   ·rcases List.mem_append.1 hx with hx | hx
    ·obtain ⟨L, e2, e3, e4⟩ := h8 x hx; exact ⟨L, by omega, e3, e4⟩
    ·obtain ⟨L, e2, e3, e4⟩ := h3 x hx; exact ⟨L, e2, by omega, e4⟩
   ·have h4' : wv.lt nl1 = true := by simpa [ltL] using h4
    simp only [ltL, lt_mono h7 h4', h9, Bool.and_self]
   ·obtain ⟨v, vs', m1, m2, rfl, rfl, h11, h12⟩ := hP
    obtain ⟨hap1, hap2, hap3⟩ := apart_append hap
    obtain ⟨m', h13, h14, h15, h16, h17⟩ := h5 b m A A' g a w sz [v] m1 hrel hA hn hB (fun L e1 e2 => hfree L e1 (by omega)) (fun mv hmv => hown mv (by simp [hmv])) hap1 ⟨v, rfl, h11⟩
    have hmen : ∀ L, nl1 ≤ L → mentionsIn L us = false := by
     intro L hL
     have : ∀ (u : St E.G.car), (∀ x ∈ u, ∃ L, nl ≤ L ∧ L < nl1 ∧ ((x.1 = .o L ∧ ∃ e t l, x.2 = some (.row e t l)) ∨ (x.1 = .x L ∧ ∃ t l, x.2 = some (.ext t l)))) → mentionsIn L u = false := by
      intro u
      induction u with
      | nil => intro _; rfl
      | cons y u ihu =>
       intro hu
       obtain ⟨yk, yv⟩ := y
       obtain ⟨L', e2, e3, e4⟩ := hu (yk, yv) (by simp)
       rcases e4 with ⟨e1, e, t, l, e4⟩ | ⟨e1, t, l, e4⟩
       ·simp only at e1 e4
        subst e1; subst e4
        simp only [mentionsIn, mentions, valHas, keyHas, Bool.false_or, Bool.or_eq_false_iff]
        exact ⟨beq_ne (by omega), ihu fun z hz => hu z (by simp [hz])⟩
       ·simp only at e1 e4
        subst e1; subst e4
        simp only [mentionsIn, mentions, valHas, keyHas, Bool.false_or, Bool.or_eq_false_iff]
        exact ⟨beq_ne (by omega), ihu fun z hz => hu z (by simp [hz])⟩
     exact this us h3
    obtain ⟨m'', h18, h19, h20, h21, h22⟩ := h10 b m' A A' _ a w sz vs' m2 h13 hA hn hB (fun L e1 e2 => (hfree L (by omega) e2).upd (hmen L e1)) (fun mv hmv hc L hL => by
     rcases h17 L _ hL with e1 | ⟨mv', e1, e2, e3⟩
     ·exact hown mv (by simp [hmv]) hc L e1
     ·exact hap3 mv' e1 mv hmv e2 hc e3.symm) hap2 h12
    have hsame : ∀ L, wv.has L = true → m'' L = m' L := fun L hL => h21 L (.inl (by
     have h4' : wv.lt nl1 = true := by simpa [ltL] using h4
     rcases Nat.lt_or_ge L nl1 with h | h
     ·exact h
     ·rw [has_lt h wv h4'] at hL; cases hL))
    have e5 : den m'' wv = v := by
     have h14' : den m' wv = v := by simpa [denL] using h14
     rw [← h14']; exact den_congr wv hsame
    refine ⟨m'', by rw [upd_append]; exact h18, by simp only [denL, e5, h19], ⟨ok_congr wv hsame h15.1, h20⟩, fun L hL => ?_, fun L x hL => ?_⟩
    ·rw [h21 L (by omega), h16 L (by omega)]
    ·rw [upd_append] at hL
     rcases h22 L x hL with e1 | ⟨mv, e1, e2, e3⟩
     ·rcases h17 L x e1 with e3 | ⟨mv, e3, e4, e6⟩
      ·exact .inl e3
      ·exact .inr ⟨mv, by simp [e3], e4, e6⟩
     ·exact .inr ⟨mv, by simp [e1], e2, e3⟩
theorem calls_in {cx : Cx} {f n : Nat} {args : Array Value} {w : World} {R : Ending → World → Prop} (h : Calls cx.P f args w R) : CallsIn cx.F n cx.P f args w R := by
 have h' : CallsIn Fence.wide n cx.P f args w R := callsIn_wide.2 h
 cases hr : cx.r with
 | none => simpa [Cx.F, hr, Fence.wide] using h'
 | some l =>
  have := CallsIn.inRound l h'
  simpa [Cx.F, hr, Fence.wide, Fence.inRound] using this
theorem findCS_mem {k : Nat} : ∀ {l : List (CS E.G)} {c : CS E.G}, findCS k l = some c → c ∈ l ∧ c.k = k := by
 intro l
 induction l with
 | nil => intro c h; cases h
 | cons x l ih =>
  intro c h
  simp only [findCS] at h
  cases e : Nat.beq x.k k with
  | true => rw [e, cond_true] at h; cases h; exact ⟨by simp, Nat.eq_of_beq_eq_true e⟩
  | false => rw [e, cond_false] at h; obtain ⟨h1, h2⟩ := ih h; exact ⟨by simp [h1], h2⟩
variable {d : Option Nat} {type : TypeId} {pos : String} {after : Array Edge} {guard : Option (Nat × Bool)}
theorem op_callC {fx : Fix} {gl : List (Nat × Val E.G.car)} {cs : CS E.G} {fo : Operand} {fv : SV} {fs caps xs : List SV} {ags : Array Operand} {ts : Array TypeId} {ks : List Key} {args : AT E.G.car cs.ps} {rr : RT E.G.car cs.rs} {ws : List SV} {us : St E.G.car} {nl nl' : Nat}
  (hok : CSok E gl cs) (hg : Good E gl fx b) (hf : Ev E M fo fv) (hk : (fv = .v (.func (.func cs.k) #[] #[]) ∧ fs = [] ∧ caps = []) ∨ fv = .f (.func cs.k) fs caps) (hx : EvL E M ags.toList xs)
  (hargs : ArgRead M ks fun A1 w m => okL m (fs ++ (xs ++ caps)) → ArgsAre E A1 w cs.ps args (denL m (fs ++ (xs ++ caps)))) (hr : cs.f args = some rr)
  (hres : ResTaken E (!ks.any isO) nl nl' ws us fun A sz w vs ms => ResAre E.G A sz w cs.rs rr vs ms) (hwl : ws.length = cs.rs.length) (hd : ∀ d', d = some d' → d' < b.N) :
  OpRun (cxOf E b) ⟨d, .call ⟨.value fo, ags, ts⟩, type, pos, after, guard⟩ M ⟨okeys fo ++ okeysL ags.toList ++ ks, dstUp d ws ++ us, newL nl nl'⟩ := by
 intro m A a w g hrd hfree hrel K Q hK
 obtain ⟨h1, k1⟩ := hf.eval hrel (fun k hk => hrd k (reads_mem (by simp [hk])))
 obtain ⟨h2, k2⟩ := hx.eval hrel (fun k hk => hrd k (reads_mem (by simp [hk])))
 have h2' : ags.map a.eval = (denL m xs).toArray := by rw [← h2]; exact Array.ext' (by rw [Array.toList_map])
 have hfn : den m fv = .func (.func cs.k) (denL m fs).toArray (denL m caps).toArray := by
  rcases hk with ⟨rfl, rfl, rfl⟩ | rfl
  ·rfl
  ·rfl
 refine ⟨fun _ _ => trivial, ?_⟩
 rw [semAt_of _ _ (fun _ h => by cases h)]
 have hrun : (execOp a.eval ⟨d, .call ⟨.value fo, ags, ts⟩, type, pos, after, guard⟩).run E.P w = .ok (.enter cs.k ((denL m (fs ++ (xs ++ caps))).toArray)) w := by
  have he := hok.enters ((denL m fs).toArray ++ (denL m xs).toArray ++ (denL m caps).toArray) w
  rw [denL_append, denL_append]
  have e : (denL m fs).toArray ++ (denL m xs).toArray ++ (denL m caps).toArray = (denL m fs ++ (denL m xs ++ denL m caps)).toArray := by simp
  rw [e] at he
  simp only [execOp, resolve, h1, h2', hfn, Deferred.ofValue, Sem.run_bind, Sem.run_pure, Result.andThen_ok, invoke, e]
  exact he
 rw [hrun, Oper.uponIn_enter]
 refine ⟨fun h => by simp [Cx.F] at h, ?_⟩
 let A1 : Nat → Prop := fun x => A x ∨ ∃ L, .o L ∈ ks ∧ Owns m L (g (.o L)) x
 have hA1 : ∀ x, A x → A1 x := fun x hx => .inl hx
 have hA1lt : ∀ x, A1 x → IsCells w x := fun x hx => hx.elim (hrel.frzc x) fun ⟨L, _, h3⟩ => hrel.blk h3
 have hokxs : okL m (fs ++ (xs ++ caps)) := by
  have app : ∀ {l l' : List SV}, okL m l → okL m l' → okL m (l ++ l') := fun h h' => okL_iff.2 fun x hx => (List.mem_append.1 hx).elim (okL_iff.1 h x) (okL_iff.1 h' x)
  rcases hk with ⟨rfl, rfl, rfl⟩ | rfl
  ·exact app trivial (app k2 trivial)
  ·exact app k1.1 (app k2 k1.2)
 have hcall := hok.ok A1 w _ args (hrel.gw hg hA1) hA1lt (hargs b m A g a w hrel (fun k hk => hrd k (reads_mem (by simp [hk]))) A1 hA1 (fun L x h3 h4 => .inr ⟨L, h3, h4⟩) hokxs) rr hr
 refine (calls_in (cx := cxOf E b) hcall).mono fun e w' ⟨vs, ms, A', he, hbel, hA', hlt', hnew', hra, hap⟩ => ?_
 subst he
 have hw := hrel.world hbel
 obtain ⟨h3, h4, h5, h6⟩ := hres
 have hrowsNew : ∀ mv ∈ ms, mv.c ≠ 0 → w.heap.size ≤ mv.b := by
  have hc : ∀ (cvs : List (CV E.G.car)) (es : List Nat) (vs : List Value) (ms : List MV), ResCells E.G A' w.heap.size w' cvs es vs ms → ∀ mv ∈ ms, mv.c ≠ 0 → w.heap.size ≤ mv.b := by
   intro cvs
   induction cvs with
   | nil => intro es vs ms h mv hmv; obtain ⟨_, rfl⟩ := h; cases hmv
   | cons cv cvs ih =>
    intro es vs ms h mv hmv hc
    cases cv with
    | v x => obtain ⟨_, _, h7⟩ := h; exact ih _ _ _ h7 mv hmv hc
    | sl t l =>
     cases es with
     | nil => exact h.elim
     | cons e es =>
      obtain ⟨mv', us', ms', _, rfl, h7, h8⟩ := h
      rcases List.mem_cons.1 hmv with rfl | hmv
      ·rcases h7.2 with ⟨h9, _⟩ | ⟨_, _, h9, _⟩
       ·exact absurd h9 hc
       ·exact h9
      ·exact ih _ _ _ h8 mv hmv hc
  have hri : ∀ (k : RK) (x : k.T E.G.car) (v : Value) (ms : List MV), ResIs E.G A' w.heap.size w' k x v ms → ∀ mv ∈ ms, mv.c ≠ 0 → w.heap.size ≤ mv.b := by
   intro k x v ms h mv hmv hc'
   cases k with
   | v t agg es => obtain ⟨us', h7, _⟩ := h; exact hc _ _ _ _ h7 mv hmv hc'
   | sl t e =>
    obtain ⟨mv', rfl, _, h7⟩ := h
    simp only [List.mem_singleton] at hmv
    subst hmv
    rcases h7.2 with ⟨h9, _⟩ | ⟨_, _, h9, _⟩
    ·exact absurd h9 hc'
    ·exact h9
   | r t agg => obtain ⟨rfl, _⟩ := h; cases hmv
  have hrs : ∀ (ks : List RK) (x : RT E.G.car ks) (vs : List Value) (ms : List MV), ResAre E.G A' w.heap.size w' ks x vs ms → ∀ mv ∈ ms, mv.c ≠ 0 → w.heap.size ≤ mv.b := by
   intro ks
   induction ks with
   | nil => intro x vs ms h mv hmv; obtain ⟨_, rfl⟩ := h; cases hmv
   | cons k ks ih =>
    cases ks with
    | nil => intro x vs ms h; obtain ⟨v, _, h7⟩ := h; exact hri _ _ _ _ h7
    | cons k' ks =>
     intro x vs ms h mv hmv hc'
     obtain ⟨v, us', m1, m2, _, rfl, h7, h8⟩ := h
     rcases List.mem_append.1 hmv with hmv | hmv
     ·exact hri _ _ _ _ h7 mv hmv hc'
     ·exact ih _ _ _ h8 mv hmv hc'
  exact hrs _ _ _ _ hra
 have hlen : ∀ (ks : List RK) (x : RT E.G.car ks) (vs : List Value) (ms : List MV), ResAre E.G A' w.heap.size w' ks x vs ms → vs.length = ks.length := by
  intro ks
  induction ks with
  | nil => intro x vs ms h; obtain ⟨rfl, _⟩ := h; rfl
  | cons k ks ih =>
   cases ks with
   | nil => intro x vs ms h; obtain ⟨v, rfl, _⟩ := h; rfl
   | cons k' ks => intro x vs ms h; obtain ⟨v, us', m1, m2, rfl, _, _, h8⟩ := h; simp [ih _ _ _ h8]
 have hown2 : ∀ mv ∈ ms, mv.c ≠ 0 → ∀ L, ¬ Owns m L (g (.o L)) mv.b := fun mv hmv hc L hL => Nat.lt_irrefl _ (Nat.lt_of_lt_of_le (hrel.blt hL) (hrowsNew mv hmv hc))
 have fin : ∀ (A2 : Nat → Prop), Rel (cxOf E b) m A2 g a w' → (∀ x, A2 x → A' x) → ((!ks.any isO) = true → ∀ x, A' x → A2 x) → K (a.put d (resV vs)) w' := by
  intro A2 hrel2 hA2 hn
  obtain ⟨m', h7, h8, h9, _, _⟩ := h6 b m A2 A' g a w' w.heap.size vs ms hrel2 hA2 hn hrel.top (fun L e1 e2 => hfree L (mem_newL.2 ⟨e1, e2⟩)) hown2 hap hra
  have hrv : resV vs = den m' (resVal ws) ∧ (resVal ws).ok m' := by
   rw [← h8]
   cases ws with
   | nil => exact ⟨rfl, trivial⟩
   | cons y ws =>
    cases ws with
    | nil => exact ⟨rfl, h9.1⟩
    | cons z ws => exact ⟨rfl, h9⟩
  cases d with
  | none => exact hK m' A2 _ w' h7
  | some d' =>
   refine hK m' A2 _ w' ((h7.put (hd d' rfl) hrv.1 hrv.2).congr fun k => ?_)
   rw [upd_one]
   exact (upd_cons _ k).symm
 by_cases hno : ks.any isO = true
 ·exact fin A hw (fun x hx => hA' x (hA1 x hx)) (fun h => by rw [hno] at h; cases h)
 ·have hno' : ks.any isO = false := by simpa using hno
  have hsame : ∀ x, A1 x → A x := fun x hx => hx.elim id fun ⟨L, h7, _⟩ => by
   have := List.any_eq_false.1 hno' _ h7
   simp [isO] at this
  refine fin A' (hw.grow (fun x hx => hA' x (hA1 x hx)) hlt' fun x hx => ?_) (fun _ h => h) (fun _ _ h => h)
  rcases hnew' x hx with h7 | h7
  ·exact .inl (hsame x h7)
  ·exact .inr ⟨.inl (Nat.le_trans hrel.top h7), fun L hL => Nat.lt_irrefl _ (Nat.lt_of_lt_of_le (hrel.blt hL) h7)⟩
end
end
end Go.KX

namespace Go.KX
open Go Go.RowKit
noncomputable section
def Key.lab : Key → Option Nat
 | .c L _ => some L
 | .o L => some L
 | .x L => some L
 | _ => none
def inBase {car : Nat → Type} (b : Base) (n : Nat) (m : Nat → MV) (A : Nat → Prop) (g0 : Map car) (w : World) : Base :=
 { r := none, B := w.heap.size, w0 := w, N := 0, ds := false, sus := fun _ => #[], kob := b.kob, A0 := A, bor := fun x => ∃ L, Owns m L (g0 (.o L)) x, pn := n, pm := m }
section
variable {E : Env} {b : Base} {m m' : Nat → MV} {A A' : Nat → Prop} {g g0 g' gf : Map E.G.car} {a : Act} {w w' : World}
theorem at_lab {b b' : Base} {T T' : Array Value} {k : Key} {v : Val E.G.car} {L : Nat} (hk : k.lab = some L) (h : At (cxOf E b) m A T w k v) : At (cxOf E b') m A T' w k v := by
 cases k <;> first | (cases hk; done) | (cases v <;> exact h)
theorem Rel.sub {n : Nat} (h : Rel (cxOf E b) m A g a w) (hs : ∀ k v, g0 k = some v → g k = some v ∧ ∃ L, k.lab = some L) (hc : ∀ L o v, g0 (.c L o) = some v → ∃ v', g0 (.o L) = some v') :
  Rel (cxOf E (inBase b n m A g0 w)) m A g0 ⟨#[], []⟩ w := by
 have how : ∀ {L x}, Owns m L (g0 (.o L)) x → Owns m L (g (.o L)) x := fun {L x} ho => by
  cases e : g0 (.o L) with
  | none => rw [e] at ho; exact ho.elim
  | some v => rw [(hs _ _ e).1, ← e]; exact ho
 refine ⟨rfl, marks_nil, fun k v hk => ?_, fun L o v hv => ?_, fun L x ho => ⟨.inr ⟨L, ho⟩, (h.own L x (how ho)).2⟩, fun L L' x h1 h2 => h.inj L L' x (how h1) (how h2), h.frzc, ⟨rfl, rfl, .rfl, Nat.le_refl _, fun _ _ _ => rfl⟩, Nat.le_refl _, h.fix, h.ko, fun b hb => .inl hb, fun b hb => hb, fun _ _ => rfl⟩
 ·obtain ⟨h1, L, hL⟩ := hs k v hk
  exact at_lab hL (h.ent k v h1)
 ·obtain ⟨v', hv'⟩ := hc L o v hv
  obtain ⟨ty, n, h1⟩ := h.cell L o v (hs _ _ hv).1
  rw [(hs _ _ hv').1] at h1
  exact ⟨ty, n, hv'.trans h1⟩
def Mine (S : Nat → Prop) (n n' L : Nat) : Prop := S L ∨ (n ≤ L ∧ L < n')
theorem Rel.back {n n' : Nat} {S : Nat → Prop} (h : Rel (cxOf E b) m A g a w) (h' : Rel (cxOf E (inBase b n m A g0 w)) m' A' g' ⟨#[], []⟩ w')
  (hS : ∀ L v, g0 (.o L) = some v → S L) (hO : ∀ L v, g0 (.o L) = some v → g (.o L) = some v) (hSn : ∀ L, S L → L < n) (hSo : ∀ L, S L → g (.o L) = g0 (.o L)) (hnn : n ≤ n')
  (hf1 : ∀ k L, k.lab = some L → Mine S n n' L → gf k = g' k) (hf2 : ∀ k L, k.lab = some L → ¬ Mine S n n' L → gf k = g k) (hf3 : ∀ k, k.lab = none → gf k = g k)
  (hnew : ∀ L, n ≤ L → L < n' → Free (cxOf E b) L g) (hmen : ∀ k v L L', g' k = some v → k.lab = some L → Mine S n n' L → mentions L' k (some v) = true → L' < n') :
  ∃ m'', (∀ L, L < n' → m'' L = m' L) ∧ (∀ L, ¬ (n ≤ L ∧ L < n') → m'' L = m L) ∧ Rel (cxOf E b) m'' A' gf a w' := by
 classical
 have hpin : ∀ L, L < n → m' L = m L := fun L hL => h'.pins L hL
 obtain ⟨m'', hm''⟩ : ∃ m'' : Nat → MV, m'' = fun L => if n ≤ L ∧ L < n' then m' L else m L := ⟨_, rfl⟩
 have e1 : ∀ L, L < n' → m'' L = m' L := fun L hL => by
  rw [hm'']
  by_cases e : n ≤ L
  ·simp [e, hL]
  ·simp [e, hpin L (by omega)]
 have e2 : ∀ L, ¬ (n ≤ L ∧ L < n') → m'' L = m L := fun L hL => by rw [hm'']; simp only [if_neg hL]
 have hMlt : ∀ {L}, Mine S n n' L → L < n' := fun {L} hL => hL.elim (fun h => Nat.lt_of_lt_of_le (hSn L h) hnn) (fun h => h.2)
 let bor : Nat → Prop := fun x => ∃ L, Owns m L (g0 (.o L)) x
 have hbor : ∀ {L x}, Owns m L (g0 (.o L)) x → S L ∧ Owns m L (g (.o L)) x := fun {L x} ho => by
  cases e : g0 (.o L) with
  | none => rw [e] at ho; exact ho.elim
  | some v => exact ⟨hS L v e, by rw [hO L v e, ← e]; exact ho⟩
 have hold : ∀ k, k < w.heap.size → ¬ bor k → w'.heap[k]? = w.heap[k]? := fun k hk hn => h'.held.block k hk hn
 have hnb : ∀ {L x}, ¬ S L → Owns m L (g (.o L)) x → ¬ bor x := fun {L x} hL ho ⟨L1, h1⟩ => by
  obtain ⟨h3, h4⟩ := hbor h1
  have := h.inj L1 L x h4 ho
  subst this
  exact hL h3
 have hnc : ∀ {k : Nat} {o : Obj}, w.heap[k]? = some o → o.isDat = false → w'.heap[k]? = some o := fun {k o} h1 h2 => by
  rw [hold k (Array.getElem?_eq_some_iff.1 h1).1 fun ⟨L1, h3⟩ => ?_]
  ·exact h1
  ·obtain ⟨ob, h5, h6⟩ := h.blk (hbor h3).2
   rw [h1] at h5; cases h5; rw [h6] at h2; cases h2
 have hA : ∀ x, A x → A' x := h'.frzA
 have hAw : ∀ x, A x → w'.heap[x]? = w.heap[x]? := fun x hx => hold x (h.frz x hx) fun ⟨L1, h3⟩ => (h.own L1 x (hbor h3).2).2 hx
 have hmineS : ∀ {x}, (cxOf E (inBase b n m A g0 w)).mine x → (cxOf E b).mine x := fun {x} hx => hx.elim (fun h1 => .inl (Nat.le_trans h.top h1)) fun ⟨L1, h3⟩ => (h.own L1 x (hbor h3).2).1
 have hA' : ∀ {L x}, ¬ S L → Owns m L (g (.o L)) x → ¬ A' x := fun {L x} hL ho ha => by
  rcases h'.frz0 _ ha with h1 | h1 | h1
  ·exact (h.own L x ho).2 h1
  ·exact absurd (h.blt ho) (Nat.not_lt.2 h1)
  ·exact hnb hL ho h1
 have hnl : ∀ {L}, ¬ Mine S n n' L → ¬ (n ≤ L ∧ L < n') := fun hL h1 => hL (.inr h1)
 have how : ∀ {L x}, Owns m'' L (gf (.o L)) x → (Mine S n n' L ∧ Owns m' L (g' (.o L)) x) ∨ (¬ Mine S n n' L ∧ Owns m L (g (.o L)) x) := fun {L x} ho => by
  by_cases hL : Mine S n n' L
  ·refine .inl ⟨hL, ?_⟩
   rw [hf1 (.o L) L rfl hL] at ho
   exact (owns_congr fun l' hl' => by
    cases e : g' (.o L) with
    | none => rw [e] at hl'; cases hl'
    | some v => rw [e] at hl'; exact e1 l' (hmen (.o L) v L l' e rfl hL hl')).1 ho
  ·refine .inr ⟨hL, ?_⟩
   rw [hf2 (.o L) L rfl hL] at ho
   exact (owns_congr fun l' hl' => e2 l' fun hn => by rw [(hnew l' hn.1 hn.2).1] at hl'; cases hl').1 ho
 refine ⟨m'', e1, e2, h.size, h.defers.step (fun k o h1 h2 => hnc h1 h2), fun k v hk => ?_, fun L o v hv => ?_, fun L x ho => ?_, fun L L' x h1 h2 => ?_, h'.frzc, ?_, Nat.le_trans h.top h'.held.size, fun p hp => ?_, fun k o hk => ?_, fun x hx => ?_, fun x hx => hA x (h.frzA x hx), fun L hL => ?_⟩
 ·have other : gf k = g k → (∀ L, k.lab = some L → ¬ Mine S n n' L) → At (cxOf E b) m'' A' a.tmps w' k v := fun hgk hL => by
   rw [hgk] at hk
   refine (h.ent k v hk).change (fun L' hm => ?_) hA hAw (fun _ _ => rfl) (fun L x e ho => ?_) (fun L o e => ?_)
   ·refine e2 L' fun hn => ?_
    have := (hnew L' hn.1 hn.2).1 k
    rw [hk, hm] at this; cases this
   ·subst e
    rw [← hk] at ho
    exact hold _ (h.blt ho) (hnb (fun hs => hL L rfl (.inl hs)) ho)
   ·subst e
    have ho := h.cOwn hk
    exact hold _ (h.blt ho) (hnb (fun hs => hL L rfl (.inl hs)) ho)
  cases hl : k.lab with
  | none => exact other (hf3 k hl) (fun L h1 => by rw [hl] at h1; cases h1)
  | some L =>
   by_cases hL : Mine S n n' L
   ·have hk' := hk
    rw [hf1 k L hl hL] at hk'
    refine at_lab (b := inBase b n m A g0 w) (T := #[]) hl ?_
    exact (h'.ent k v hk').change (fun L' hm => e1 L' (hmen k v L L' hk' hl hL hm)) (fun _ h => h) (fun _ _ => rfl) (fun _ _ => rfl) (fun _ _ _ _ => rfl) (fun _ _ _ => rfl)
   ·exact other (hf2 k L hl hL) (fun L' h1 => by rw [hl] at h1; cases h1; exact hL)
 ·by_cases hL : Mine S n n' L
  ·rw [hf1 (.c L o) L rfl hL] at hv
   obtain ⟨ty, k, h1⟩ := h'.cell L o v hv
   exact ⟨ty, k, by rw [hf1 (.o L) L rfl hL]; exact h1⟩
  ·rw [hf2 (.c L o) L rfl hL] at hv
   obtain ⟨ty, k, h1⟩ := h.cell L o v hv
   exact ⟨ty, k, by rw [hf2 (.o L) L rfl hL]; exact h1⟩
 ·rcases how ho with ⟨h1, h3⟩ | ⟨h1, h3⟩
  ·obtain ⟨h4, h5⟩ := h'.own L x h3
   exact ⟨hmineS h4, h5⟩
  ·exact ⟨(h.own L x h3).1, hA' (fun hs => h1 (.inl hs)) h3⟩
 ·have cross : ∀ {L L'}, Mine S n n' L → Owns m' L (g' (.o L)) x → ¬ Mine S n n' L' → Owns m L' (g (.o L')) x → False := fun {L L'} h1 h2 h3 h4 => by
   rcases (h'.own L x h2).1 with h5 | h5
   ·exact absurd (h.blt h4) (Nat.not_lt.2 h5)
   ·exact hnb (fun hs => h3 (.inl hs)) h4 h5
  rcases how h1 with ⟨h3, h5⟩ | ⟨h3, h5⟩ <;> rcases how h2 with ⟨h6, h8⟩ | ⟨h6, h8⟩
  ·exact h'.inj L L' x h5 h8
  ·exact (cross h3 h5 h6 h8).elim
  ·exact (cross h6 h8 h3 h5).elim
  ·exact h.inj L L' x h5 h8
 ·refine h.held.step h'.held.os h'.held.tape h'.held.output h'.held.size fun k hk hn => hold k (Nat.lt_of_lt_of_le hk h.top) fun ⟨L1, h3⟩ => ?_
  exact not_mine hk hn (h.own L1 k (hbor h3).2).1 rfl
 ·rw [e2 p.1 fun hn => (hnew p.1 hn.1 hn.2).2.1 p hp rfl]
  exact h.fix p hp
 ·obtain ⟨h1, h2⟩ := h.ko k o hk
  exact ⟨hnc h1 h2, h2⟩
 ·rcases h'.frz0 x hx with h1 | h1
  ·exact h.frz0 x h1
  ·exact .inr (hmineS h1)
 ·rw [e2 L fun hn => absurd hL (Nat.not_lt.2 (hnew L hn.1 hn.2).2.2)]
  exact h.pins L hL
end
end
end Go.KX

namespace Go.KX
open Go Go.RowKit
noncomputable section
def nilMV : MV := { b := 0, p := none, n := 0, c := 0 }
def sig (ρ : Rho) (L : Nat) : Option Nat :=
 match rhoFind L ρ with
 | some (o, _) => o
 | none => some L
def trM (ρ : Rho) (m : Nat → MV) (L : Nat) : MV :=
 match sig ρ L with
 | some L1 => m L1
 | none => nilMV
def SameV (ρ : Rho) (n : Nat) (x v : SV) : Prop := x.lt n = true ∧ ∀ m, den (trM ρ m) x = den m v ∧ (v.ok m → x.ok (trM ρ m))
def OwnL (kl : List Nat) (ρ : Rho) (L L1 : Nat) : Prop := (L ∈ kl ∧ L1 = L ∧ rhoFind L ρ = none) ∨ rhoFind L ρ = some (some L1, 1)
theorem OwnL.sig {kl : List Nat} {ρ : Rho} {L L1 : Nat} (h : OwnL kl ρ L L1) : sig ρ L = some L1 := by
 rcases h with ⟨_, h1, h2⟩ | h1
 ·simp only [KX.sig, h2, h1]
 ·simp only [KX.sig, h1]
def sig0 (ρ : Rho) (a : Nat) : Nat := (sig ρ a).getD 0
def Val.deep {car : Nat → Type} : Val car → Bool
 | .dp .. => true
 | .dm .. => true
 | _ => false
inductive SameO {car : Nat → Type} (ρ : Rho) : Val car → Val car → Prop
 | same {v} : v.deep = false → SameO ρ v v
 | dp {ety t es l hs S S'} : sig ρ S' = some S → (∀ q ∈ hs, ∃ a, sig ρ q.2.2 = some a) → SameO ρ (.dp ety t es l hs S') (.dp ety t es l (hs.map fun q => (q.1, q.2.1, sig0 ρ q.2.2)) S)
 | dm {kt t e l hs zs S S'} : sig ρ S' = some S → (∀ q ∈ hs, ∃ a, sig ρ q.2 = some a) → (∀ q ∈ zs, ∃ a, sig ρ q.2 = some a) → SameO ρ (.dm kt t e l hs zs S') (.dm kt t e l (hs.map fun q => (q.1, sig0 ρ q.2)) (zs.map fun q => (q.1, sig0 ρ q.2)) S)
theorem holeAt_map {f : Nat → Nat} {i j : Nat} : ∀ {hs : List (Int × Nat × Nat)}, holeAt i j (hs.map fun q => (q.1, q.2.1, f q.2.2)) = (holeAt i j hs).map f
 | [] => rfl
 | (i', j', a) :: r => by
  simp only [List.map_cons, holeAt]
  split
  ·rfl
  ·exact holeAt_map
theorem holeK_map {G : Reg} {f : Nat → Nat} {kt : Nat} {x : G.car kt} : ∀ {hs : List (G.car kt × Nat)}, holeK x (hs.map fun q => (q.1, f q.2)) = (holeK x hs).map f
 | [] => rfl
 | (y, a) :: r => by
  simp only [List.map_cons, holeK]
  split
  ·rfl
  ·exact holeK_map
inductive SrcO {car : Nat → Type} (kl : List Nat) (ρ : Rho) (n : Nat) (g : Map car) (L : Nat) : Nat → Val car → Prop
 | own {L1 v v'} : OwnL kl ρ L L1 → g (.o L1) = some v → SameO ρ v' v → SrcO kl ρ n g L 0 v'
 | none {ety t} : sig ρ L = none → SrcO kl ρ n g L 0 (.row ety t [])
 | noneD {ety t es S} : sig ρ L = none → sig ρ S = none → SrcO kl ρ n g L 0 (.dp ety t es [] [] S)
 | ext {L1 v} : sig ρ L = some L1 → g (.x L1) = some v → (∀ cs, v = .rb cs → ∀ l, hasL l cs = true → sig ρ l = some l) → SrcO kl ρ n g L 1 v
 | frz {L1 ety t l} : rhoFind L ρ = some (some L1, 2) → g (.o L1) = some (.row ety t l) → SrcO kl ρ n g L 1 (.ext t l)
 | nil {t} : sig ρ L = none → SrcO kl ρ n g L 1 (.ext t [])
 | cell {L1 q x v} : OwnL kl ρ L L1 → g (.c L1 q) = some (.x v) → SameV ρ n x v → SrcO kl ρ n g L (q + 2) (.x x)
 | raw {L1 q v} : OwnL kl ρ L L1 → g (.c L1 q) = some v → (∀ x, v ≠ .x x) → SrcO kl ρ n g L (q + 2) v
structure Comes {car : Nat → Type} (kl : List Nat) (ρ : Rho) (n : Nat) (g g' : Map car) : Prop where
 t : ∀ i v, g' (.t i) = some v → ∃ x y, v = .x x ∧ g (.t i) = some (.x y) ∧ SameV ρ n x y
 u : ∀ l i v, g' (.u l i) = some v → ∃ x y, v = .x x ∧ g (.u l i) = some (.x y) ∧ SameV ρ n x y
 o : ∀ L v, g' (.o L) = some v → SrcO kl ρ n g L 0 v
 x : ∀ L v, g' (.x L) = some v → SrcO kl ρ n g L 1 v
 c : ∀ L q v, g' (.c L q) = some v → SrcO kl ρ n g L (q + 2) v
 a : g' .a = none
structure RhoIs (kl : List Nat) (ρ : Rho) : Prop where
 one : ∀ L L' L1 k k', rhoFind L ρ = some (some L1, k) → rhoFind L' ρ = some (some L1, k') → k ≠ 0 → k' ≠ 0 → L = L'
 kl : ∀ L L1 k, rhoFind L ρ = some (some L1, k) → k ≠ 0 → L1 ∉ kl
theorem OwnL.one {kl : List Nat} {ρ : Rho} (hρ : RhoIs kl ρ) {L L' L1 : Nat} (h : OwnL kl ρ L L1) (h' : OwnL kl ρ L' L1) : L = L' := by
 rcases h with ⟨h1, rfl, h3⟩ | h1 <;> rcases h' with ⟨h4, h5, h6⟩ | h4
 ·exact h5
 ·exact absurd h1 (hρ.kl _ _ _ h4 (by simp))
 ·subst h5; exact absurd h4 (hρ.kl _ _ _ h1 (by simp))
 ·exact hρ.one _ _ _ _ _ h1 h4 (by simp) (by simp)
section
variable {cx : Cx} {m : Nat → MV} {A : Nat → Prop} {g g' : CMap cx} {a : Act} {w : World}
theorem Rel.rebuild {kl : List Nat} {ρ : Rho} {n : Nat} (h : Rel cx m A g a w) (hρ : RhoIs kl ρ) (hglo : ∀ p ∈ cx.glo, rhoFind p.1 ρ = none) (hpn : ∀ L, L < cx.pn → rhoFind L ρ = none) (hc : Comes kl ρ n g g')
  (hcell : ∀ L q v, g' (.c L q) = some v → ∃ v, g' (.o L) = some v) : ∃ m' A', Rel cx m' A' g' a w := by
 have hA0 : ∀ b, A b → (A b ∨ ∃ L L1, rhoFind L ρ = some (some L1, 2) ∧ Owns m L1 (g (.o L1)) b) := fun b hb => .inl hb
 refine ⟨trM ρ m, fun b => A b ∨ ∃ L L1, rhoFind L ρ = some (some L1, 2) ∧ Owns m L1 (g (.o L1)) b, ?_⟩
 have hm : ∀ {L L1}, sig ρ L = some L1 → trM ρ m L = m L1 := fun {L L1} e => by simp only [trM, e]
 have hn : ∀ {L}, sig ρ L = none → trM ρ m L = nilMV := fun {L} e => by simp only [trM, e]
 have how : ∀ L x, Owns (trM ρ m) L (g' (.o L)) x → ∃ L1, OwnL kl ρ L L1 ∧ Owns m L1 (g (.o L1)) x := by
  intro L x ho
  cases hv : g' (.o L) with
  | none => rw [hv] at ho; exact ho.elim
  | some v =>
   rw [hv] at ho
   cases hc.o L v hv with
   | own h1 h2 h3 =>
    rename_i L1 v1
    refine ⟨L1, h1, ?_⟩
    rw [h2]
    cases h3 with
    | same h3 => cases v <;> first | exact ho | (simp only [Owns, hm h1.sig] at ho ⊢; exact ho) | (cases h3)
    | dp h3 h4 => simp only [Owns, hm h1.sig, hm h3] at ho ⊢; exact ho
    | dm h3 h4 h5 => simp only [Owns, hm h1.sig, hm h3] at ho ⊢; exact ho
   | none h1 => exact absurd (by rw [hn h1]; rfl) ho.1
   | noneD h1 h2 =>
    rcases ho with ⟨ho, _⟩ | ⟨k, ho, _⟩
    ·exact absurd (by rw [hn h1]; rfl) ho
    ·exact absurd (by rw [hn h2]; rfl) ho
 refine ⟨h.size, h.defers, fun k v hk => ?_, fun L q v hv => ?_, fun L x ho => ?_, fun L L' x ho ho' => ?_, fun b hb => ?_, h.held, h.top, fun p hp => ?_, h.ko, fun b hb => ?_, fun b hb => .inl (h.frzA b hb), fun L hL => ?_⟩
 ·cases k with
  | t i =>
   obtain ⟨x, y, rfl, h1, h2, h3⟩ := hc.t i v hk
   obtain ⟨h4, h5⟩ := h.ent _ _ h1
   exact ⟨by rw [h4, (h3 m).1], (h3 m).2 h5⟩
  | u l i =>
   obtain ⟨x, y, rfl, h1, h2, h3⟩ := hc.u l i v hk
   obtain ⟨h4, h5⟩ := h.ent _ _ h1
   exact ⟨by rw [h4, (h3 m).1], (h3 m).2 h5⟩
  | c L q =>
   cases hc.c L q v hk with
   | cell h1 h2 h3 =>
    obtain ⟨⟨cur, ty, h4, h5⟩, h6⟩ := h.ent _ _ h2
    exact ⟨⟨cur, ty, by rw [hm h1.sig]; exact h4, by rw [h5, (h3.2 m).1]⟩, (h3.2 m).2 h6⟩
   | raw h1 h2 h3 =>
    have h4 := h.ent _ _ h2
    cases v with
    | x y => exact absurd rfl (h3 y)
    | _ => exact h4
  | o L =>
   cases hc.o L v hk with
   | own h1 h2 h0 =>
    have h3 := h.ent _ _ h2
    cases h0 with
    | dp h4 h5 =>
     obtain ⟨⟨h6, h7⟩, h8, h20⟩ := h3
     refine ⟨⟨by rw [hm h1.sig]; exact h6, ?_⟩, by rw [hm h1.sig, hm h4]; exact h8, fun q hq => h20.lt (q.1, q.2.1, sig0 ρ q.2.2) (List.mem_map.2 ⟨q, hq, rfl⟩), by have := h20.ne; rw [List.pairwise_map] at this; exact this⟩
     rw [hm h1.sig, hm h4]
     refine h7.imp_right fun ⟨h9, h10, cur, h11, h12, h13, h14⟩ => ⟨h9, h10, cur, h11, h12, h13, fun i x hx j cv hcv => ?_⟩
     obtain ⟨u, h15, h16⟩ := h14 i x hx j cv hcv
     refine ⟨u, h15, ?_⟩
     rw [holeAt_map] at h16
     cases e : holeAt i j _ with
     | none =>
      rw [e] at h16
      exact h16.step (fun b hb => .inl hb) (fun _ _ => rfl) (fun a ha => nomatch ha) (fun _ => rfl)
     | some a =>
      rw [e] at h16
      obtain ⟨q, hq, _, _, rfl⟩ := holeAt_mem e
      obtain ⟨a', ha'⟩ := h5 q hq
      obtain ⟨h17, h18, h19⟩ := h16
      refine ⟨?_, h18, h19⟩
      rw [h17]
      simp only [sig0, ha', den, hm ha', Option.getD_some]
    | dm h4 h5 h50 =>
     obtain ⟨es, cl, h6, h7, h8⟩ := h3
     refine ⟨es, cl, by rw [hm h1.sig]; exact h6, ?_, by rw [hm h1.sig, hm h4]; exact h8⟩
     rw [hm h4]
     refine ⟨h7.size, h7.nodup, fun k p hp => ?_, fun q hq hn => ?_, ?_, h7.born, h7.clock, fun q hq => ?_⟩
     ·obtain ⟨en, h9, h10, h11⟩ := h7.ent k p hp
      refine ⟨en, h9, h10, ?_⟩
      rw [holeK_map] at h11
      cases e : holeK p.1 _ with
      | none =>
       rw [e] at h11
       exact h11.step (fun b hb => .inl hb) (fun _ _ => rfl) (fun a ha => nomatch ha) (fun _ => rfl)
      | some a =>
       rw [e] at h11
       have hq := holeK_mem e
       obtain ⟨a', ha'⟩ := h5 _ hq
       obtain ⟨h17, h18, h19⟩ := h11
       refine ⟨?_, h18, h19⟩
       rw [h17]
       simp only [sig0, ha', den, hm ha', Option.getD_some]
     ·obtain ⟨a', ha'⟩ := h5 q hq
      have h9 := h7.nil (q.1, sig0 ρ q.2) (List.mem_map.2 ⟨q, hq, rfl⟩) hn
      rw [← h9]
      simp only [sig0, ha', den, hm ha', Option.getD_some]
     ·have := h7.holes; rw [List.map_map] at this; exact this
     ·obtain ⟨a', ha'⟩ := h50 q hq
      obtain ⟨k, p, en, g1, g2, g3, g4⟩ := h7.stamp (q.1, sig0 ρ q.2) (List.mem_map.2 ⟨q, hq, rfl⟩)
      refine ⟨k, p, en, g1, g2, g3, ?_⟩
      rw [g4]
      simp only [sig0, ha', hm ha', Option.getD_some]
    | same h0 =>
     cases v with
     | dp ety t es l hs S => cases h0
     | dm kt t e l hs zs S => cases h0
     | mr l => simpa only [At, hm h1.sig] using h3
     | sh ty k => simpa only [At, hm h1.sig] using h3
     | mp l => simpa only [At, hm h1.sig] using h3
     | mi l => simpa only [At, hm h1.sig] using h3
     | row ety t l =>
      obtain ⟨h4, h5⟩ := h3
      refine ⟨by rw [hm h1.sig]; exact h4, ?_⟩
      rw [hm h1.sig]
      rcases h5 with h5 | ⟨h5, h6, cur, h7, h8, h9, h10⟩
      ·exact .inl h5
      ·exact .inr ⟨h5, h6, cur, h7, h8, h9, h10.change (fun b hb => .inl hb) (fun _ _ => rfl)⟩
     | _ => exact h3
   | none h1 => exact ⟨by rw [hn h1]; rfl, .inl ⟨by rw [hn h1]; rfl, rfl, 0, by rw [hn h1]; rfl⟩⟩
   | noneD h1 h2 =>
    have hz : ∀ k, ¬ ((trM ρ m _).sub k).c ≠ 0 := fun k hk => hk (by rw [hn h2]; rfl)
    exact ⟨⟨by rw [hn h1]; rfl, .inl ⟨by rw [hn h1]; rfl, rfl, 0, by rw [hn h1]; rfl⟩⟩, ⟨fun k _ hk => absurd hk (hz k), fun k hk => absurd hk (hz k), fun k hk => absurd hk (hz k), fun k hk => absurd hk (hz k)⟩, ⟨fun q hq => (nomatch hq), List.Pairwise.nil⟩⟩
  | x L =>
   cases hc.x L v hk with
   | ext h1 h2 h0 =>
    have h3 := h.ent _ _ h2
    cases v with
    | ext t l =>
     have h4 : Hd cx.G A w (.sl t l) (den m (.h _)) := h3
     show Hd cx.G _ w (.sl t l) (den (trM ρ m) (.h L))
     simp only [den, hm h1] at h4 ⊢
     exact h4.mono hA0 (fun _ _ => rfl)
    | ro cs =>
     obtain ⟨h4, h5⟩ := h3
     refine ⟨by rw [hm h1]; exact .inl h4, fun j cv hj => ?_⟩
     obtain ⟨u, h6, h7⟩ := h5 j cv hj
     exact ⟨u, by rw [hm h1]; exact h6, h7.mono hA0 (fun _ _ => rfl)⟩
    | ln n => show (trM ρ m L).n = n ∧ (n ≠ 0 → (trM ρ m L).p = some ⟨(trM ρ m L).b, 0, none⟩); rw [hm h1]; exact h3
    | rb cs =>
     obtain ⟨h4, h5, h6⟩ := h3
     have hcs : ∀ l, hasL l cs = true → trM ρ m l = m l := fun l hl => hm (h0 cs rfl l hl)
     refine ⟨by rw [hm h1]; exact .inl h4, okL_congr cs hcs h5, fun j y hy => ?_⟩
     rw [hm h1, h6 j y hy]
     exact congrArg some (den_congr y fun l hl => (hcs l (by
      cases e : hasL l cs with
      | true => rfl
      | false => rw [hasL_mem' e y (List.mem_of_getElem? hy)] at hl; cases hl)).symm)
    | mr l =>
     obtain ⟨h4, h5⟩ := h3
     exact ⟨by rw [hm h1]; exact .inl h4, by rw [hm h1]; exact h5⟩
    | _ => exact h3
   | frz h1 h2 =>
    rename_i L1 ety t l
    have h3 := h.ent _ _ h2
    have h4 := h3.rowHd (A' := fun b => A b ∨ ∃ L L1, rhoFind L ρ = some (some L1, 2) ∧ Owns m L1 (g (.o L1)) b) hA0 (fun hne => .inr ⟨L, L1, h1, by rw [h2]; exact ⟨hne, rfl⟩⟩)
    have h5 : sig ρ L = some L1 := by simp only [sig, h1]
    show Hd cx.G _ w (.sl t l) (den (trM ρ m) (.h L))
    simp only [den, hm h5] at h4 ⊢
    exact h4
   | nil h1 =>
    show Hd cx.G _ w (.sl _ []) (den (trM ρ m) (.h L))
    simp only [den, hn h1, nilMV]
    exact Hd.mk (b := 0) (o := 0) rfl (Nat.le_refl _) (fun h => absurd rfl h) (fun i x hx => by simp at hx)
  | a => rw [hc.a] at hk; cases hk
 ·obtain ⟨v', hv'⟩ := hcell L q v hv
  have hsrc : ∃ L1 v1, OwnL kl ρ L L1 ∧ g (.c L1 q) = some v1 := by
   cases hc.c L q v hv with
   | cell h1 h2 h3 => exact ⟨_, _, h1, h2⟩
   | raw h1 h2 h3 => exact ⟨_, _, h1, h2⟩
  ·obtain ⟨L1, v1, h1, h2⟩ := hsrc
   obtain ⟨ty, k, h4⟩ := h.cell _ _ _ h2
   refine ⟨ty, k, ?_⟩
   rw [hv']
   cases hc.o L v' hv' with
   | own h5 h6 h7 =>
    have e := h5.sig.symm.trans h1.sig
    cases e
    rw [h4] at h6
    cases h6
    cases h7
    rfl
   | none h5 => rw [h1.sig] at h5; cases h5
   | noneD h5 _ => rw [h1.sig] at h5; cases h5
 ·obtain ⟨L1, h1, h2⟩ := how L x ho
  obtain ⟨h3, h4⟩ := h.own L1 x h2
  refine ⟨h3, fun hb => hb.elim h4 fun ⟨L', L2, h5, h6⟩ => ?_⟩
  have := h.inj L1 L2 x h2 h6
  subst this
  rcases h1 with ⟨h8, rfl, _⟩ | h8
  ·exact hρ.kl _ _ _ h5 (by simp) h8
  ·have := hρ.one _ _ _ _ _ h8 h5 (by simp) (by simp)
   subst this
   rw [h8] at h5; cases h5
 ·obtain ⟨L1, h1, h2⟩ := how L x ho
  obtain ⟨L2, h3, h4⟩ := how L' x ho'
  have := h.inj L1 L2 x h2 h4
  subst this
  exact h1.one hρ h3
 ·rcases hb with hb | ⟨L, L1, h1, h2⟩
  ·exact h.frzc b hb
  ·exact h.blk h2
 ·have : sig ρ p.1 = some p.1 := by simp only [sig, hglo p hp]
  rw [hm this]
  exact h.fix p hp
 ·rcases hb with hb | ⟨L, L1, h1, h2⟩
  ·exact h.frz0 b hb
  ·exact .inr (h.own L1 b h2).1
 ·have : sig ρ L = some L := by simp only [sig, hpn L hL]
  rw [hm this]
  exact h.pins L hL
end
end
end Go.KX

namespace Go.KX
open Go Go.RowKit
noncomputable section
section
variable {car : Nat → Type} {R : Type} {r : R}
theorem rhoFind_cons (L : Nat) (x : Nat × Option Nat × Nat) (ρ : Rho) : rhoFind L (x :: ρ) = bif Nat.beq x.1 L then some x.2 else rhoFind L ρ := rfl
theorem rhoFind_mem {L : Nat} {x : Option Nat × Nat} : ∀ {ρ : Rho}, rhoFind L ρ = some x → (L, x) ∈ ρ := by
 intro ρ
 induction ρ with
 | nil => intro h; cases h
 | cons y ρ ih =>
  intro h
  rw [rhoFind_cons] at h
  cases e : Nat.beq y.1 L with
  | true => rw [e, cond_true] at h; cases h; rw [← Nat.eq_of_beq_eq_true e]; simp
  | false => rw [e, cond_false] at h; simp [ih h]
theorem nodupN_cons {x : Nat} {l : List Nat} (h : nodupN (x :: l) = true) : x ∉ l ∧ nodupN l = true := by
 simp only [nodupN, Bool.and_eq_true, Bool.not_eq_true'] at h
 refine ⟨fun hx => ?_, h.2⟩
 have := List.any_eq_false.1 h.1 x hx
 simp at this
theorem memN_iff {l : List Nat} {L : Nat} : memN l L = true ↔ L ∈ l := by
 simp only [memN, List.any_eq_true, Nat.beq_eq]
 exact ⟨fun ⟨x, h, e⟩ => e ▸ h, fun h => ⟨L, h, rfl⟩⟩
theorem rhoFind_of : ∀ {ρ : Rho}, nodupN (ρ.map (·.1)) = true → ∀ {L : Nat} {x : Option Nat × Nat}, (L, x) ∈ ρ → rhoFind L ρ = some x := by
 intro ρ
 induction ρ with
 | nil => intro _ L x h; cases h
 | cons y ρ ih =>
  intro hn L x h
  obtain ⟨h1, h2⟩ := nodupN_cons hn
  rw [rhoFind_cons]
  rcases List.mem_cons.1 h with rfl | h
  ·simp
  ·have : y.1 ≠ L := fun e => h1 (List.mem_map.2 ⟨_, h, e.symm⟩)
   rw [beq_ne this, cond_false]
   exact ih h2 h
theorem ownsOf_mem {L L1 k : Nat} : ∀ {ρ : Rho}, (L, some L1, k) ∈ ρ → k ≠ 0 → L1 ∈ ownsOf ρ := by
 intro ρ
 induction ρ with
 | nil => intro h; cases h
 | cons y ρ ih =>
  intro h hk
  obtain ⟨a, o, n⟩ := y
  rcases List.mem_cons.1 h with e | h9
  ·cases e
   simp only [ownsOf, beq_ne hk, cond_false]
   simp
  ·cases o with
   | none => simp only [ownsOf]; exact ih h9 hk
   | some L2 =>
    simp only [ownsOf]
    cases Nat.beq n 0 with
    | true => exact ih h9 hk
    | false => exact List.mem_cons_of_mem _ (ih h9 hk)
theorem ownsOf_one : ∀ {ρ : Rho}, nodupN (ρ.map (·.1)) = true → nodupN (ownsOf ρ) = true → ∀ {L L' L1 k k' : Nat}, (L, some L1, k) ∈ ρ → (L', some L1, k') ∈ ρ → k ≠ 0 → k' ≠ 0 → L = L' := by
 intro ρ
 induction ρ with
 | nil => intro _ _ L L' L1 k k' h; cases h
 | cons y ρ ih =>
  intro hn ho L L' L1 k k' h h' hk hk'
  obtain ⟨hn1, hn2⟩ := nodupN_cons hn
  obtain ⟨a, o, n⟩ := y
  have tail : nodupN (ownsOf ρ) = true := by
   cases o with
   | none => exact ho
   | some L2 =>
    simp only [ownsOf] at ho
    cases e : Nat.beq n 0 with
    | true => rw [e, cond_true] at ho; exact ho
    | false => rw [e, cond_false] at ho; exact (nodupN_cons ho).2
  have head : ∀ {L2 : Nat}, o = some L2 → n ≠ 0 → L2 ∉ ownsOf ρ := fun {L2} e hne => by
   subst e
   simp only [ownsOf, beq_ne hne, cond_false] at ho
   exact (nodupN_cons ho).1
  rcases List.mem_cons.1 h with e | h8 <;> rcases List.mem_cons.1 h' with e' | h9
  ·cases e; cases e'; rfl
  ·cases e
   exact absurd (ownsOf_mem h9 hk') (head rfl hk)
  ·cases e'
   exact absurd (ownsOf_mem h8 hk) (head rfl hk')
  ·exact ih hn2 tail h8 h9 hk hk'
structure Final (T : Tpl) (nl0 : Nat) (ρ : Rho) : Prop where
 find : ∀ {L : Nat} {x : Option Nat × Nat}, (L, x) ∈ ρ → rhoFind L ρ = some x
 lt : ∀ {L : Nat} {x : Option Nat × Nat}, (L, x) ∈ ρ → nl0 ≤ L ∧ L < T.nl
 is : RhoIs T.kl ρ
 kl : ∀ {L : Nat}, L ∈ T.kl → L < nl0
 nl : nl0 ≤ T.nl
 tm : ∀ q ∈ T.tm, q.1 ∉ T.kt
 cl : ∀ q ∈ T.cl, q.1 ∈ T.kl
 rw : ∀ q ∈ T.rw, q.1 ∈ T.kl
theorem Final.mk' {T : Tpl} {nl0 : Nat} {ρ : Rho} (h1 : tplOK T nl0 = true) (h2 : rhoOK T nl0 ρ = true) : Final T nl0 ρ := by
 simp only [tplOK, Bool.and_eq_true, List.all_eq_true, Nat.ble_eq, Nat.blt_eq, Bool.not_eq_true'] at h1
 simp only [rhoOK, Bool.and_eq_true, List.all_eq_true, Nat.ble_eq, Nat.blt_eq, Bool.not_eq_true'] at h2
 obtain ⟨⟨⟨⟨a1, a2⟩, a3⟩, a4⟩, a5⟩ := h1
 obtain ⟨⟨⟨b1, b2⟩, b3⟩, b4⟩ := h2
 refine ⟨fun h => rhoFind_of b1 h, fun h => b4 _ h, ⟨fun L L' L1 k k' e e' hk hk' => ownsOf_one b1 b2 (rhoFind_mem e) (rhoFind_mem e') hk hk', fun L L1 k e hk hmem => ?_⟩, fun h => a2 _ h, a1, fun q hq hm => ?_, fun q hq => memN_iff.1 (a4 q hq), fun q hq => memN_iff.1 (a5 q hq)⟩
 ·have := b3 _ (ownsOf_mem (rhoFind_mem e) hk)
  rw [memN_iff.2 hmem] at this; cases this
 ·have := a3 q hq
  rw [memN_iff.2 hm] at this; cases this
theorem Final.old {T : Tpl} {nl0 : Nat} {ρ : Rho} (h : Final T nl0 ρ) {L : Nat} (hL : L < nl0) : rhoFind L ρ = none := by
 cases e : rhoFind L ρ with
 | none => rfl
 | some x => have := (h.lt (rhoFind_mem e)).1; omega
def Named (T : Tpl) (L q : Nat) : Prop := (∃ c ∈ T.cl, c.1 = L ∧ c.2.1 + 2 = q) ∨ (q = 0 ∧ ∃ c ∈ T.rw, c.1 = L)
structure StOK (T : Tpl) (d : Nat) (s s2 : XS car) (ρ : Rho) (P : Nat → Nat → Prop) (s' : XS car) : Prop where
 t : ∀ k e, s'.t.get k = some e → (e.1 < d → s.t.get k = some e) ∧ ∀ x, e.2 = some x → ∃ a v, s2.t.get k = some (a, some v) ∧ SameV ρ T.nl x v
 o : ∀ L q e, s'.rec? L q = some e → L < T.nl ∧ (e.at_ < d → s.rec? L q = some e) ∧ (∀ v, e.v = some v → v.lt T.nl = true) ∧ ∀ v, e.v = some v → ¬ P L q → SrcO T.kl ρ T.nl (s2.map 0) L q v
 nl : s'.nl = T.nl
 kt : ∀ k ∈ T.kt, s'.t.get k = s.t.get k
 kl : ∀ L ∈ T.kl, ∀ q, ¬ Named T L q → s'.rec? L q = s.rec? L q
 hd : ∀ L q v, s'.lab L (q + 2) = some v → ∃ v, s'.lab L 0 = some v
def Heads (s s' : XS car) : Prop := ∀ L v, s.lab L 0 = some v → ∃ v, s'.lab L 0 = some v
theorem Heads.refl (s : XS car) : Heads s s := fun _ v h => ⟨v, h⟩
theorem Heads.trans {s s' s'' : XS car} (h : Heads s s') (h' : Heads s' s'') : Heads s s'' := fun L v hv => by
 obtain ⟨v', h1⟩ := h L v hv
 exact h' L v' h1
variable {T : Tpl} {d nl0 : Nat} {s s2 s' : XS car} {ρ : Rho} {P : Nat → Nat → Prop}
theorem StOK.mono {P' : Nat → Nat → Prop} (h : StOK T d s s2 ρ P s') (hP : ∀ L q, P L q → P' L q) : StOK T d s s2 ρ P' s' :=
 ⟨h.t, fun L q e he => (h.o L q e he).imp id (And.imp id (And.imp id fun h6 v hv hn => h6 v hv (fun hp => hn (hP L q hp)))), h.nl, h.kt, h.kl, h.hd⟩
theorem StOK.lab' (h : StOK T d s s2 ρ P s') {L q : Nat} {v : Val car} (hL : L < T.nl) (hk : L ∈ T.kl → Named T L q) (hx : v.lt T.nl = true)
  (hsrc : SrcO T.kl ρ T.nl (s2.map 0) L q v) (hhd : 2 ≤ q → ∃ v, s'.lab L 0 = some v) : StOK T d s s2 ρ (fun L' q' => P L' q' ∧ ¬ (L = L' ∧ q = q')) (s'.labF d L q (some v)) ∧ Heads s' (s'.labF d L q (some v)) ∧ (s'.labF d L q (some v)).lab L q = some v := by
 obtain ⟨e1, e2⟩ := XS.labF_t d s' L q (some v)
 have heads : Heads s' (s'.labF d L q (some v)) := fun L' v' hv' => by
  rw [XS.lab_labF]
  split
  ·exact ⟨v, rfl⟩
  ·exact ⟨v', hv'⟩
 refine ⟨⟨fun k e he => h.t k e (by rw [← e1]; exact he), fun L' q' e he => ?_, e2.trans h.nl, fun k hk' => by rw [e1]; exact h.kt k hk', fun L' hL' q' hn => ?_, fun L' q' v' hv' => ?_⟩, heads, by rw [XS.lab_labF, if_pos ⟨rfl, rfl⟩]⟩
 ·rw [XS.rec_labF] at he
  split at he
  ·rename_i hc
   obtain ⟨rfl, rfl⟩ := hc
   cases he
   exact ⟨hL, fun hlt => absurd hlt (Nat.lt_irrefl d), fun v' hv' => by cases hv'; exact hx, fun v' hv' _ => by cases hv'; exact hsrc⟩
  ·rename_i hne
   obtain ⟨h1, h2, h3, h5⟩ := h.o L' q' e he
   exact ⟨h1, h2, h3, fun v hv hn => h5 v hv (fun hp => hn ⟨hp, hne⟩)⟩
 ·rw [XS.rec_labF, if_neg]
  ·exact h.kl L' hL' q' hn
  ·rintro ⟨rfl, rfl⟩
   exact hn (hk hL')
 ·rw [XS.lab_labF] at hv'
  split at hv'
  ·rename_i hc
   obtain ⟨rfl, rfl⟩ := hc
   obtain ⟨v1, h1⟩ := hhd (by omega)
   exact heads L v1 h1
  ·obtain ⟨v1, h1⟩ := h.hd L' q' v' hv'
   exact heads L' v1 h1
theorem StOK.lab (h : StOK T d s s2 ρ P s') {L q : Nat} {v : Val car} (hL : L < T.nl) (hk : L ∈ T.kl → Named T L q) (hx : v.lt T.nl = true)
  (hsrc : SrcO T.kl ρ T.nl (s2.map 0) L q v) (hhd : 2 ≤ q → ∃ v, s'.lab L 0 = some v) : StOK T d s s2 ρ P (s'.labF d L q (some v)) ∧ Heads s' (s'.labF d L q (some v)) ∧ (s'.labF d L q (some v)).lab L q = some v :=
 (h.lab' hL hk hx hsrc hhd).imp (fun h => h.mono fun _ _ h => h.1) id
theorem StOK.tmp (h : StOK T d s s2 ρ P s') {k a : Nat} {x v : SV} (hk : k ∉ T.kt) (hv : s2.t.get k = some (a, some v)) (hs : SameV ρ T.nl x v) : StOK T d s s2 ρ P ⟨s'.t.set k (d, some x), s'.o, s'.nl⟩ := by
 refine ⟨fun k' e he => ?_, h.o, h.nl, fun k' hk' => ?_, h.kl, h.hd⟩
 ·simp only [PT.get_set] at he
  split at he
  ·rename_i hc
   subst hc
   cases he
   exact ⟨fun hlt => absurd hlt (Nat.lt_irrefl d), fun y hy => by cases hy; exact ⟨a, v, hv, hs⟩⟩
  ·exact h.t k' e he
 ·simp only [PT.get_set]
  rw [if_neg (fun e => hk (by rw [e]; exact hk'))]
  exact h.kt k' hk'
def InstOK (T : Tpl) (d : Nat) (s s2 : XS car) (R : Type) (ρ : Rho) (p : Pat) (v : SV) (xs : List (VV car)) : Prop :=
 ∀ (P : Nat → Nat → Prop) (vs : List (VV car)) (s' : XS car) (r : R) (K : SV → List (VV car) → XS car → Option R), StOK T d s s2 ρ P s' → instP d p (xs ++ vs) s' K = some r →
  ∃ x s'', K x vs s'' = some r ∧ StOK T d s s2 ρ P s'' ∧ Heads s' s'' ∧ SameV ρ T.nl x v
def InstsOK (T : Tpl) (d : Nat) (s s2 : XS car) (R : Type) (ρ : Rho) (p : List Pat) (v : List SV) (xs : List (VV car)) : Prop :=
 ∀ (P : Nat → Nat → Prop) (vs : List (VV car)) (s' : XS car) (r : R) (K : List SV → List (VV car) → XS car → Option R), StOK T d s s2 ρ P s' → instP.instPs d p (xs ++ vs) s' K = some r →
  ∃ x s'', K x vs s'' = some r ∧ StOK T d s s2 ρ P s'' ∧ Heads s' s'' ∧ ltL T.nl x = true ∧ ∀ m, denL (trM ρ m) x = denL m v ∧ (okL m v → okL (trM ρ m) x)
theorem sameV_h {L L1 k : Nat} (hf : rhoFind L ρ = some (some L1, k)) (hn : L < T.nl) : SameV ρ T.nl (.h L) (.h L1) := by
 refine ⟨by simpa [SV.lt] using hn, fun m => ⟨?_, fun _ => trivial⟩⟩
 simp only [den, trM, sig, hf]
theorem sameV_nil {L k : Nat} (hf : rhoFind L ρ = some (none, k)) (hn : L < T.nl) : SameV ρ T.nl (.h L) (.v (.slice none 0 0)) := by
 refine ⟨by simpa [SV.lt] using hn, fun m => ⟨?_, fun _ => trivial⟩⟩
 simp only [den, trM, sig, hf, nilMV]
def MatIs (T : Tpl) (nl0 : Nat) (R : Type) (r : R) (ρ0 : Rho) (K : List (VV car) → Rho → Option R) (I : Rho → List (VV car) → Prop) : Prop :=
 ∃ xs ρ1, K xs ρ1 = some r ∧ (∀ q ∈ ρ0, q ∈ ρ1) ∧ ∀ ρ, Final T nl0 ρ → (∀ q ∈ ρ1, q ∈ ρ) → I ρ xs
theorem instH {L ety t : Nat} {l : List (car t)} {v : SV} (hL : L < T.nl) (hk : L ∉ T.kl) (hsrc : SrcO T.kl ρ T.nl (s2.map 0) L 0 (.row ety t l)) (hs : SameV ρ T.nl (.h L) v) : InstOK T d s s2 R ρ (.h L ety t) v [.l t l] := by
 intro P vs s' r K hst hi
 simp only [List.cons_append, List.nil_append, instP, dite_true, XS.setLab_eq] at hi
 obtain ⟨h1, h2, _⟩ := hst.lab (q := 0) hL (fun h => absurd h hk) rfl hsrc (fun h => by omega)
 exact ⟨_, _, hi, h1, h2, hs⟩
theorem instX {L t : Nat} {l : List (car t)} {v : SV} (hL : L < T.nl) (hk : L ∉ T.kl) (hsrc : SrcO T.kl ρ T.nl (s2.map 0) L 1 (.ext t l)) (hs : SameV ρ T.nl (.h L) v) : InstOK T d s s2 R ρ (.x L t) v [.l t l] := by
 intro P vs s' r K hst hi
 simp only [List.cons_append, List.nil_append, instP, dite_true, XS.setLab_eq] at hi
 obtain ⟨h1, h2, _⟩ := hst.lab (q := 1) hL (fun h => absurd h hk) rfl hsrc (fun h => by omega)
 exact ⟨_, _, hi, h1, h2, hs⟩
theorem instD {L S ety t ety' t' : Nat} {es es' : List (Option Nat)} {l : List (car t')} {v : SV} (hL : L < T.nl) (hS : S < T.nl) (hk : L ∉ T.kl) (hsrc : SrcO T.kl ρ T.nl (s2.map 0) L 0 (.dp ety' t' es' l [] S)) (hs : SameV ρ T.nl (.h L) v) : InstOK T d s s2 R ρ (.d L S ety t es) v [.d ety' t' es' l] := by
 intro P vs s' r K hst hi
 simp only [List.cons_append, List.nil_append, instP, XS.setLab_eq] at hi
 obtain ⟨h1, h2, _⟩ := hst.lab (q := 0) hL (fun h => absurd h hk) (by simp [Val.lt, hS]) hsrc (fun h => by omega)
 exact ⟨_, _, hi, h1, h2, hs⟩
theorem Final.notkl (h : Final T nl0 ρ) {L : Nat} {x : Option Nat × Nat} (hx : (L, x) ∈ ρ) : L ∉ T.kl := fun hk => by
 have := h.kl hk
 have := (h.lt hx).1
 omega
theorem instH_any {L ety t t' : Nat} {l : List (car t')} {v : SV} (h : ∀ e : t' = t, InstOK T d s s2 R ρ (.h L ety t) v [.l t (e ▸ l)]) : InstOK T d s s2 R ρ (.h L ety t) v [.l t' l] := by
 by_cases e : t' = t
 ·subst e; exact h rfl
 ·intro P vs s' r K hst hi
  simp only [List.cons_append, List.nil_append, instP, e, dite_false] at hi
  cases hi
theorem instX_any {L t t' : Nat} {l : List (car t')} {v : SV} (h : ∀ e : t' = t, InstOK T d s s2 R ρ (.x L t) v [.l t (e ▸ l)]) : InstOK T d s s2 R ρ (.x L t) v [.l t' l] := by
 by_cases e : t' = t
 ·subst e; exact h rfl
 ·intro P vs s' r K hst hi
  simp only [List.cons_append, List.nil_append, instP, e, dite_false] at hi
  cases hi
theorem lab0 {s2 : XS car} {L : Nat} {v : Option (Val car)} (h : s2.lab L 0 = v) : s2.map 0 (.o L) = v := h
theorem lab1 {s2 : XS car} {L : Nat} {v : Option (Val car)} (h : s2.lab L 1 = v) : s2.map 0 (.x L) = v := h
mutual
theorem matP_sound : ∀ (p : Pat) {v : SV} {ρ0 : Rho} {K : List (VV car) → Rho → Option R}, matP s2 nl0 p v ρ0 K = some r → MatIs T nl0 R r ρ0 K (fun ρ xs => InstOK T d s s2 R ρ p v xs)
 | .i k, v, ρ0, K, h => by
  unfold matP at h
  obtain ⟨k', n, l, h1, h2⟩ := intK_sound h
  obtain ⟨h3, h4⟩ := bif_some h1
  have h3 := of_decide_eq_true h3
  subst h3
  refine ⟨_, _, h4, fun _ h => h, fun ρ hF _ P vs s' r K hst hi => ⟨_, _, hi, hst, Heads.refl _, rfl, fun m => ⟨(h2 m).symm, fun _ => trivial⟩⟩⟩
 | .b, v, ρ0, K, h => by
  unfold matP at h
  obtain ⟨e, l, h1, h2⟩ := boolK_sound h
  refine ⟨_, _, h1, fun _ h => h, fun ρ hF _ P vs s' r K hst hi => ⟨_, _, hi, hst, Heads.refl _, rfl, fun m => ⟨(h2 m).symm, fun _ => trivial⟩⟩⟩
 | .h L ety t, v, ρ0, K, h => by
  unfold matP at h
  split at h
  ·rename_i L1
   split at h
   ·rename_i ety' t' l hl
    obtain ⟨h1, h2⟩ := bif_some h
    have h1 := Nat.eq_of_beq_eq_true h1
    subst h1
    refine ⟨_, _, h2, fun _ h => by simp [h], fun ρ hF hsub => instH_any fun e => ?_⟩
    subst e
    have hm := hsub (L, some L1, 1) (by simp)
    exact instH (hF.lt hm).2 (hF.notkl hm) (.own (.inr (hF.find hm)) (lab0 hl) (.same rfl)) (sameV_h (hF.find hm) (hF.lt hm).2)
   ·cases h
  ·refine ⟨_, _, h, fun _ h => by simp [h], fun ρ hF hsub => ?_⟩
   have hm := hsub (L, none, 0) (by simp)
   exact instH (hF.lt hm).2 (hF.notkl hm) (.none (by simp only [sig, hF.find hm])) (sameV_nil (hF.find hm) (hF.lt hm).2)
  ·cases h
 | .x L t, v, ρ0, K, h => by
  unfold matP at h
  split at h
  ·rename_i L1
   split at h
   ·rename_i t' l hl
    refine ⟨_, _, h, fun _ h => by simp [h], fun ρ hF hsub => instX_any fun e => ?_⟩
    subst e
    have hm := hsub (L, some L1, 0) (by simp)
    exact instX (hF.lt hm).2 (hF.notkl hm) (.ext (by simp only [sig, hF.find hm]) (lab1 hl) (fun cs e => nomatch e)) (sameV_h (hF.find hm) (hF.lt hm).2)
   ·split at h
    ·rename_i ety t' l hl
     refine ⟨_, _, h, fun _ h => by simp [h], fun ρ hF hsub => instX_any fun e => ?_⟩
     subst e
     have hm := hsub (L, some L1, 2) (by simp)
     exact instX (hF.lt hm).2 (hF.notkl hm) (.frz (hF.find hm) (lab0 hl)) (sameV_h (hF.find hm) (hF.lt hm).2)
    ·cases h
  ·refine ⟨_, _, h, fun _ h => by simp [h], fun ρ hF hsub => ?_⟩
   have hm := hsub (L, none, 0) (by simp)
   exact instX (hF.lt hm).2 (hF.notkl hm) (.nil (by simp only [sig, hF.find hm])) (sameV_nil (hF.find hm) (hF.lt hm).2)
  ·cases h
 | .p L off, v, ρ0, K, h => by
  unfold matP at h
  split at h
  ·rename_i L1 off'
   obtain ⟨h1, h2⟩ := bif_some h
   have h1 := Nat.eq_of_beq_eq_true h1
   subst h1
   have fin : ∀ {ρ1 : Rho} (ρ : Rho), K [] ρ1 = some r → (L < T.nl) → sig ρ L = some L1 → InstOK T d s s2 R ρ (.p L off) (.p L1 off) [] := fun ρ h3 h4 h5 P vs s' r K hst hi =>
    ⟨_, _, hi, hst, Heads.refl _, by simpa [SV.lt] using h4, fun m => ⟨by simp only [den, trM, h5], fun _ => trivial⟩⟩
   cases e1 : Nat.blt L nl0 with
   | true =>
    rw [e1, cond_true] at h2
    obtain ⟨h3, h4⟩ := bif_some h2
    have h3 := Nat.eq_of_beq_eq_true h3
    rw [Nat.blt_eq] at e1
    refine ⟨_, _, h4, fun _ h => h, fun ρ hF _ => fin ρ h4 (Nat.lt_of_lt_of_le e1 hF.nl) ?_⟩
    rw [← h3]
    simp only [sig, hF.old e1]
   | false =>
    rw [e1, cond_false] at h2
    split at h2
    ·rename_i L2 k hf
     obtain ⟨h3, h4⟩ := bif_some h2
     have h3 := Nat.eq_of_beq_eq_true h3
     refine ⟨_, _, h4, fun _ h => h, fun ρ hF hsub => ?_⟩
     have hm := hsub _ (rhoFind_mem hf)
     exact fin ρ h4 (hF.lt hm).2 (by simp only [sig, hF.find hm, h3])
    ·cases h2
    ·refine ⟨_, _, h2, fun _ h => by simp [h], fun ρ hF hsub => ?_⟩
     have hm := hsub (L, some L1, 1) (by simp)
     exact fin ρ h2 (hF.lt hm).2 (by simp only [sig, hF.find hm])
  ·cases h
 | .r L, v, ρ0, K, h => by
  unfold matP at h
  split at h
  ·rename_i L1 L2 k hf
   obtain ⟨h3, h4⟩ := bif_some h
   have h3 := Nat.eq_of_beq_eq_true h3
   subst h3
   refine ⟨_, _, h4, fun _ h => h, fun ρ hF hsub P vs s' r K hst hi => ?_⟩
   have hm := hsub _ (rhoFind_mem hf)
   exact ⟨_, _, hi, hst, Heads.refl _, sameV_h (hF.find hm) (hF.lt hm).2⟩
  ·rename_i k hf
   refine ⟨_, _, h, fun _ h => h, fun ρ hF hsub P vs s' r K hst hi => ?_⟩
   have hm := hsub _ (rhoFind_mem hf)
   exact ⟨_, _, hi, hst, Heads.refl _, sameV_nil (hF.find hm) (hF.lt hm).2⟩
  ·cases h
 | .d L S ety t es, v, ρ0, K, h => by
  unfold matP at h
  split at h
  ·rename_i L1
   split at h
   ·rename_i ety' t' es' l S1 hl
    refine ⟨_, _, h, fun _ h => by simp [h], fun ρ hF hsub => ?_⟩
    have hm := hsub (L, some L1, 1) (by simp)
    have hm2 := hsub (S, some S1, 0) (by simp)
    exact instD (hF.lt hm).2 (hF.lt hm2).2 (hF.notkl hm) (.own (.inr (hF.find hm)) (lab0 hl) (.dp (hs := []) (by simp only [sig, hF.find hm2]) (fun q hq => nomatch hq))) (sameV_h (hF.find hm) (hF.lt hm).2)
   ·cases h
  ·refine ⟨_, _, h, fun _ h => by simp [h], fun ρ hF hsub => ?_⟩
   have hm := hsub (L, none, 0) (by simp)
   have hm2 := hsub (S, none, 0) (by simp)
   exact instD (hF.lt hm).2 (hF.lt hm2).2 (hF.notkl hm) (.noneD (by simp only [sig, hF.find hm]) (by simp only [sig, hF.find hm2])) (sameV_nil (hF.find hm) (hF.lt hm).2)
  ·cases h
 | .v x, v, ρ0, K, h => by
  unfold matP at h
  split at h
  ·obtain ⟨h1, h2⟩ := bif_some h
   have h1 := litEq_eq h1
   subst h1
   exact ⟨_, _, h2, fun _ h => h, fun ρ hF _ P vs s' r K hst hi => ⟨_, _, hi, hst, Heads.refl _, rfl, fun m => ⟨rfl, fun _ => trivial⟩⟩⟩
  ·cases h
 | .g ps, v, ρ0, K, h => by
  unfold matP at h
  split at h
  ·obtain ⟨xs, ρ1, h1, h2, h3⟩ := matPs_sound ps h
   refine ⟨xs, ρ1, h1, h2, fun ρ hF hsub P vs s' r K hst hi => ?_⟩
   obtain ⟨x, s'', h4, h5, h6, h7, h8⟩ := h3 ρ hF hsub P vs s' r (fun xs vs s => K (.g xs) vs s) hst hi
   exact ⟨_, _, h4, h5, h6, h7, fun m => ⟨by simp only [den, (h8 m).1], (h8 m).2⟩⟩
  ·cases h
 | .t ps, v, ρ0, K, h => by
  unfold matP at h
  split at h
  ·obtain ⟨xs, ρ1, h1, h2, h3⟩ := matPs_sound ps h
   refine ⟨xs, ρ1, h1, h2, fun ρ hF hsub P vs s' r K hst hi => ?_⟩
   obtain ⟨x, s'', h4, h5, h6, h7, h8⟩ := h3 ρ hF hsub P vs s' r (fun xs vs s => K (.t xs) vs s) hst hi
   exact ⟨_, _, h4, h5, h6, h7, fun m => ⟨by simp only [den, (h8 m).1], (h8 m).2⟩⟩
  ·cases h
theorem matPs_sound : ∀ (ps : List Pat) {vs : List SV} {ρ0 : Rho} {K : List (VV car) → Rho → Option R}, matP.matPs s2 nl0 ps vs ρ0 K = some r → MatIs T nl0 R r ρ0 K (fun ρ xs => InstsOK T d s s2 R ρ ps vs xs)
 | [], [], ρ0, K, h => ⟨_, _, h, fun _ h => h, fun ρ hF _ P vs s' r K hst hi => ⟨_, _, hi, hst, Heads.refl _, rfl, fun m => ⟨rfl, fun _ => trivial⟩⟩⟩
 | p :: ps, v :: vs, ρ0, K, h => by
  unfold matP.matPs at h
  obtain ⟨xs, ρ1, h1, h2, h3⟩ := matP_sound p h
  obtain ⟨ys, ρ2, h4, h5, h6⟩ := matPs_sound ps h1
  refine ⟨_, _, h4, fun q hq => h5 q (h2 q hq), fun ρ hF hsub P us s' r K hst hi => ?_⟩
  unfold instP.instPs at hi
  rw [List.append_assoc] at hi
  obtain ⟨x, s1, g1, g2, g3, g4⟩ := h3 ρ hF (fun q hq => hsub q (h5 q hq)) P (ys ++ us) s' r _ hst hi
  obtain ⟨x', s2', g5, g6, g7, g8, g9⟩ := h6 ρ hF hsub P us s1 r _ g2 g1
  refine ⟨_, _, g5, g6, g3.trans g7, ?_, fun m => ⟨?_, fun ho => ?_⟩⟩
  ·simp only [ltL, Bool.and_eq_true]; exact ⟨g4.1, g8⟩
  ·simp only [denL, (g4.2 m).1, (g9 m).1]
  ·exact ⟨(g4.2 m).2 ho.1, (g9 m).2 ho.2⟩
 | [], _ :: _, ρ0, K, h => by cases h
 | _ :: _, [], ρ0, K, h => by cases h
end
end
end
end Go.KX

namespace Go.KX
open Go Go.RowKit
noncomputable section
section
variable {car : Nat → Type} {R : Type} {r : R} {T : Tpl} {d nl0 : Nat} {s s2 s' : XS car} {ρ : Rho} {P : Nat → Nat → Prop}
def PartOK (T : Tpl) (d : Nat) (s s2 : XS car) (R : Type) (ρ : Rho) (P P' : Nat → Nat → Prop) (pre post : XS car → Prop) (xs : List (VV car)) (f : List (VV car) → XS car → (List (VV car) → XS car → Option R) → Option R) : Prop :=
 ∀ (vs : List (VV car)) (s' : XS car) (r : R) (K : List (VV car) → XS car → Option R), StOK T d s s2 ρ P s' → pre s' → f (xs ++ vs) s' K = some r → ∃ s'', K vs s'' = some r ∧ StOK T d s s2 ρ P' s'' ∧ Heads s' s'' ∧ post s''
theorem matTm_sound : ∀ (l : List (Nat × Pat)) {ρ0 : Rho} {K : List (VV car) → Rho → Option R}, matTm s2 nl0 l ρ0 K = some r → (∀ q ∈ l, q ∈ T.tm) →
  MatIs T nl0 R r ρ0 K (fun ρ xs => ∀ P, PartOK T d s s2 R ρ P P (fun _ => True) (fun _ => True) xs (instTm d l)) := by
 intro l
 induction l with
 | nil =>
  intro ρ0 K h hl
  exact ⟨_, _, h, fun _ h => h, fun ρ hF _ P vs s' r K hst _ hi => ⟨_, hi, hst, Heads.refl _, trivial⟩⟩
 | cons x l ih =>
  intro ρ0 K h hl
  obtain ⟨k, p⟩ := x
  unfold matTm at h
  split at h
  ·rename_i a v hv
   obtain ⟨xs, ρ1, h1, h2, h3⟩ := matP_sound (T := T) (d := d) (s := s) p h
   obtain ⟨ys, ρ2, h4, h5, h6⟩ := ih h1 (fun q hq => hl q (List.mem_cons_of_mem _ hq))
   refine ⟨_, _, h4, fun q hq => h5 q (h2 q hq), fun ρ hF hsub P us s' r K hst _ hi => ?_⟩
   unfold instTm at hi
   rw [List.append_assoc] at hi
   obtain ⟨x, s1, g1, g2, g3, g4⟩ := h3 ρ hF (fun q hq => hsub q (h5 q hq)) P (ys ++ us) s' r _ hst hi
   simp only [PT.setK_set] at g1
   have hk : k ∉ T.kt := hF.tm _ (hl (k, p) (by simp))
   obtain ⟨s'', g5, g6, g7, g8⟩ := h6 ρ hF hsub P us _ r K (g2.tmp hk hv g4) trivial g1
   exact ⟨s'', g5, g6, g3.trans (Heads.trans (Heads.refl _) g7), trivial⟩
  ·cases h
theorem matCells_sound {L L1 : Nat} : ∀ (ps : List Pat) (q : Nat) {ρ0 : Rho} {K : List (VV car) → Rho → Option R}, matCells s2 nl0 L1 q ps ρ0 K = some r →
  MatIs T nl0 R r ρ0 K (fun ρ xs => rhoFind L ρ = some (some L1, 1) → ∀ P, PartOK T d s s2 R ρ P P (fun s' => ∃ v, s'.lab L 0 = some v) (fun _ => True) xs (instCells d L q ps)) := by
 intro ps
 induction ps with
 | nil =>
  intro q ρ0 K h
  exact ⟨_, _, h, fun _ h => h, fun ρ hF _ _ P vs s' r K hst _ hi => ⟨_, hi, hst, Heads.refl _, trivial⟩⟩
 | cons p ps ih =>
  intro q ρ0 K h
  unfold matCells at h
  split at h
  ·rename_i v hv
   obtain ⟨xs, ρ1, h1, h2, h3⟩ := matP_sound (T := T) (d := d) (s := s) p h
   obtain ⟨ys, ρ2, h4, h5, h6⟩ := ih (q + 1) h1
   refine ⟨_, _, h4, fun q hq => h5 q (h2 q hq), fun ρ hF hsub hL P us s' r K hst hhd hi => ?_⟩
   unfold instCells at hi
   rw [List.append_assoc] at hi
   obtain ⟨x, s1, g1, g2, g3, g4⟩ := h3 ρ hF (fun q hq => hsub q (h5 q hq)) P (ys ++ us) s' r _ hst hi
   simp only [XS.setLab_eq] at g1
   have hm := rhoFind_mem hL
   obtain ⟨v0, hv0⟩ := hhd
   obtain ⟨a1, a2, a3⟩ := g2.lab (L := L) (q := q + 2) (v := .x x) (hF.lt hm).2 (fun h => absurd h (hF.notkl hm)) g4.1 (.cell (.inr hL) (by exact hv) g4) (fun _ => g3 L v0 hv0)
   obtain ⟨s'', g5, g6, g7, g8⟩ := h6 ρ hF hsub hL P us _ r K a1 (by obtain ⟨v1, hv1⟩ := g3 L v0 hv0; exact a2 L v1 hv1) g1
   exact ⟨s'', g5, g6, (g3.trans a2).trans g7, trivial⟩
  ·cases h
theorem matBx_sound : ∀ (l : List (Nat × Nat × List Pat)) {ρ0 : Rho} {K : List (VV car) → Rho → Option R}, matBx s2 nl0 l ρ0 K = some r →
  MatIs T nl0 R r ρ0 K (fun ρ xs => ∀ P, PartOK T d s s2 R ρ P P (fun _ => True) (fun _ => True) xs (instBx d l)) := by
 intro l
 induction l with
 | nil =>
  intro ρ0 K h
  exact ⟨_, _, h, fun _ h => h, fun ρ hF _ P vs s' r K hst _ hi => ⟨_, hi, hst, Heads.refl _, trivial⟩⟩
 | cons x l ih =>
  intro ρ0 K h
  obtain ⟨L, ty, ps⟩ := x
  unfold matBx at h
  split at h
  ·rename_i L1 hL
   split at h
   ·rename_i ty' n hv
    obtain ⟨h0, h⟩ := bif_some h
    simp only [Bool.and_eq_true, Nat.beq_eq] at h0
    obtain ⟨e1, e2⟩ := h0
    obtain ⟨xs, ρ1, h1, h2, h3⟩ := matCells_sound (T := T) (d := d) (s := s) (L := L) ps 0 h
    obtain ⟨ys, ρ2, h4, h5, h6⟩ := ih h1
    refine ⟨_, _, h4, fun q hq => h5 q (h2 q hq), fun ρ hF hsub P us s' r K hst _ hi => ?_⟩
    have hm := hsub _ (h5 _ (h2 _ (rhoFind_mem hL)))
    have hf := hF.find hm
    unfold instBx at hi
    simp only [XS.setLab_eq] at hi
    obtain ⟨a1, a2, a3⟩ := hst.lab (L := L) (q := 0) (v := .sh ty ps.length) (hF.lt hm).2 (fun h => absurd h (hF.notkl hm)) rfl (.own (.inr hf) (show s2.map 0 (.o L1) = some (.sh ty ps.length) by rw [e1, ← e2]; exact hv) (.same rfl)) (fun h => by omega)
    rw [List.append_assoc] at hi
    obtain ⟨s1, g1, g2, g3, _⟩ := h3 ρ hF (fun q hq => hsub q (h5 q hq)) hf P (ys ++ us) _ r _ a1 ⟨_, a3⟩ hi
    obtain ⟨s'', g5, g6, g7, g8⟩ := h6 ρ hF hsub P us _ r K g2 trivial g1
    exact ⟨s'', g5, g6, (a2.trans g3).trans g7, trivial⟩
   ·cases h
  ·cases h
theorem matCl_sound : ∀ (l : List (Nat × Nat × Pat)) {ρ0 : Rho} {K : List (VV car) → Rho → Option R}, matCl s2 nl0 l ρ0 K = some r → (∀ q ∈ l, q ∈ T.cl) →
  MatIs T nl0 R r ρ0 K (fun ρ xs => ∀ P, PartOK T d s s2 R ρ P (fun L q => P L q ∧ ∀ c ∈ l, ¬ (c.1 = L ∧ c.2.1 + 2 = q)) (fun s' => ∀ c ∈ T.cl, ∃ v, s'.lab c.1 0 = some v) (fun _ => True) xs (instCl d l)) := by
 intro l
 induction l with
 | nil =>
  intro ρ0 K h hl
  exact ⟨_, _, h, fun _ h => h, fun ρ hF _ P vs s' r K hst _ hi => ⟨_, hi, hst.mono (fun _ _ hp => ⟨hp, fun c hc => by cases hc⟩), Heads.refl _, trivial⟩⟩
 | cons x l ih =>
  intro ρ0 K h hl
  obtain ⟨L, q, p⟩ := x
  unfold matCl at h
  split at h
  ·rename_i v hv
   obtain ⟨xs, ρ1, h1, h2, h3⟩ := matP_sound (T := T) (d := d) (s := s) p h
   obtain ⟨ys, ρ2, h4, h5, h6⟩ := ih h1 (fun q hq => hl q (List.mem_cons_of_mem _ hq))
   refine ⟨_, _, h4, fun q hq => h5 q (h2 q hq), fun ρ hF hsub P us s' r K hst hhd hi => ?_⟩
   unfold instCl at hi
   rw [List.append_assoc] at hi
   obtain ⟨x, s1, g1, g2, g3, g4⟩ := h3 ρ hF (fun q hq => hsub q (h5 q hq)) P (ys ++ us) s' r _ hst hi
   simp only [XS.setLab_eq] at g1
   have hc : (L, q, p) ∈ T.cl := hl _ (by simp)
   have hk := hF.cl _ hc
   have hlt := hF.kl hk
   obtain ⟨a1, a2, a3⟩ := g2.lab' (L := L) (q := q + 2) (v := .x x) (Nat.lt_of_lt_of_le hlt hF.nl) (fun _ => .inl ⟨_, hc, rfl, rfl⟩) g4.1 (.cell (.inl ⟨hk, rfl, hF.old hlt⟩) (by exact hv) g4) (fun _ => by obtain ⟨v0, hv0⟩ := hhd _ hc; exact g3 L v0 hv0)
   obtain ⟨s'', g5, g6, g7, g8⟩ := h6 ρ hF hsub _ us _ r K a1 (fun c hc => by obtain ⟨v0, hv0⟩ := hhd c hc; exact (g3.trans a2) c.1 v0 hv0) g1
   refine ⟨s'', g5, g6.mono (fun L' q' hp => ⟨hp.1.1, fun c hc => ?_⟩), (g3.trans a2).trans g7, trivial⟩
   rcases List.mem_cons.1 hc with rfl | hc
   ·exact hp.1.2
   ·exact hp.2 c hc
  ·cases h
theorem matRw_sound : ∀ (l : List (Nat × Nat × Nat)) {ρ0 : Rho} {K : List (VV car) → Rho → Option R}, matRw s2 nl0 l ρ0 K = some r → (∀ q ∈ l, q ∈ T.rw) →
  ∃ xs ρ1, K xs ρ1 = some r ∧ (∀ q ∈ ρ0, q ∈ ρ1) ∧ ∀ ρ, Final T nl0 ρ → (∀ q ∈ ρ1, q ∈ ρ) → ∀ P, ∀ (s' : XS car) (r : R) (K : XS car → Option R), StOK T d s s2 ρ P s' → instRw d l xs s' K = some r →
   ∃ s'', K s'' = some r ∧ StOK T d s s2 ρ (fun L q => P L q ∧ ¬ (q = 0 ∧ ∃ c ∈ l, c.1 = L)) s'' ∧ Heads s' s'' ∧ ∀ c ∈ l, ∃ v, s''.lab c.1 0 = some v := by
 intro l
 induction l with
 | nil =>
  intro ρ0 K h hl
  exact ⟨_, ρ0, h, fun _ h => h, fun ρ hF _ P s' r K hst hi => ⟨_, hi, hst.mono (fun _ _ hp => ⟨hp, fun ⟨_, c, hc, _⟩ => by cases hc⟩), Heads.refl _, fun c hc => by cases hc⟩⟩
 | cons x l ih =>
  intro ρ0 K h hl
  obtain ⟨L, ety, t⟩ := x
  have one : ∀ {v v' : Val car} {ρ0' : Rho} {K' : List (VV car) → Rho → Option R} {y : VV car}, matRw s2 nl0 l ρ0' K' = some r → (∀ q ∈ ρ0, q ∈ ρ0') → s2.lab L 0 = some v → (K' = fun xs ρ => K (y :: xs) ρ) →
    (∀ ρ, Final T nl0 ρ → (∀ q ∈ ρ0', q ∈ ρ) → v'.lt T.nl = true ∧ SameO ρ v' v) → (∀ (xs : List (VV car)) (s' : XS car) {r : R} {K : XS car → Option R}, instRw d ((L, ety, t) :: l) (y :: xs) s' K = some r → instRw d l xs (s'.labF d L 0 (some v')) K = some r) →
    ∃ xs ρ1, K xs ρ1 = some r ∧ (∀ q ∈ ρ0, q ∈ ρ1) ∧ ∀ ρ, Final T nl0 ρ → (∀ q ∈ ρ1, q ∈ ρ) → ∀ P, ∀ (s' : XS car) (r : R) (K : XS car → Option R), StOK T d s s2 ρ P s' → instRw d ((L, ety, t) :: l) xs s' K = some r →
     ∃ s'', K s'' = some r ∧ StOK T d s s2 ρ (fun L' q => P L' q ∧ ¬ (q = 0 ∧ ∃ c ∈ (L, ety, t) :: l, c.1 = L')) s'' ∧ Heads s' s'' ∧ ∀ c ∈ (L, ety, t) :: l, ∃ v, s''.lab c.1 0 = some v := by
   intro v v' ρ0' K' y h9 hρ hv hK' hso hin
   subst hK'
   obtain ⟨xs, ρ1, h1, hρ1, h2⟩ := ih h9 (fun q hq => hl q (List.mem_cons_of_mem _ hq))
   refine ⟨_, ρ1, h1, fun q hq => hρ1 q (hρ q hq), fun ρ hF hsub P s' r K hst hi => ?_⟩
   have hi := hin _ _ hi
   have hc := hl (L, ety, t) (by simp)
   have hk := hF.rw _ hc
   have hlt := hF.kl hk
   obtain ⟨hso1, hso2⟩ := hso ρ hF (fun q hq => hsub q (hρ1 q hq))
   obtain ⟨a1, a2, a3⟩ := hst.lab' (L := L) (q := 0) (v := v') (Nat.lt_of_lt_of_le hlt hF.nl) (fun _ => .inr ⟨rfl, _, hc, rfl⟩) hso1 (.own (.inl ⟨hk, rfl, hF.old hlt⟩) hv hso2) (fun h => by omega)
   obtain ⟨s'', g5, g6, g7, g8⟩ := h2 ρ hF hsub _ _ r K a1 hi
   refine ⟨s'', g5, g6.mono (fun L' q' hp => ⟨hp.1.1, ?_⟩), a2.trans g7, fun c hc => ?_⟩
   ·rintro ⟨rfl, c, hc, rfl⟩
    rcases List.mem_cons.1 hc with rfl | hc
    ·exact hp.1.2 ⟨rfl, rfl⟩
    ·exact hp.2 ⟨rfl, c, hc, rfl⟩
   ·rcases List.mem_cons.1 hc with rfl | hc
    ·exact g7 L _ a3
    ·exact g8 c hc
  unfold matRw at h
  split at h
  ·rename_i ety' t' q hv
   obtain ⟨h0, h9⟩ := bif_some h
   simp only [Bool.and_eq_true, Nat.beq_eq] at h0
   obtain ⟨e1, e2⟩ := h0
   subst e1; subst e2
   exact one (v' := .row ety t q) h9 (fun _ h => h) hv rfl (fun ρ hF _ => ⟨rfl, .same rfl⟩) (fun xs s' r K hi => by simpa only [instRw, dite_true, XS.setLab_eq] using hi)
  ·rename_i q hv
   exact one (v' := .mp q) h (fun _ h => h) hv rfl (fun ρ hF _ => ⟨rfl, .same rfl⟩) (fun xs s' r K hi => by simpa only [instRw, XS.setLab_eq] using hi)
  ·rename_i q hv
   exact one (v' := .mi q) h (fun _ h => h) hv rfl (fun ρ hF _ => ⟨rfl, .same rfl⟩) (fun xs s' r K hi => by simpa only [instRw, XS.setLab_eq] using hi)
  ·rename_i ety' t' es q S hv
   refine one (v' := .dp ety' t' es q [] ety) h (fun q hq => List.mem_cons_of_mem _ hq) hv rfl (fun ρ hF hsub => ?_) (fun xs s' r K hi => by simpa only [instRw, XS.setLab_eq] using hi)
   have hmem := hsub (ety, some S, 0) (by simp)
   have hlt := (hF.lt hmem).2
   refine ⟨by simp [Val.lt, hlt], ?_⟩
   exact .dp (hs := []) (by simp only [sig, hF.find hmem]) (fun q hq => nomatch hq)
  ·rename_i ety' t' es q i j a S hv
   obtain ⟨h0, h9⟩ := bif_some h
   rw [Nat.blt_eq] at h0
   refine one (v' := .dp ety' t' es q [(i, j, a)] ety) h9 (fun q hq => List.mem_cons_of_mem _ hq) hv rfl (fun ρ hF hsub => ?_) (fun xs s' r K hi => by simpa only [instRw, XS.setLab_eq] using hi)
   have hmem := hsub (ety, some S, 0) (by simp)
   have hlt := (hF.lt hmem).2
   have ha : sig ρ a = some a := by simp only [sig, hF.old h0]
   have hanl := Nat.lt_of_lt_of_le h0 hF.nl
   refine ⟨by simp [Val.lt, hlt, hanl], ?_⟩
   have := SameO.dp (car := car) (ρ := ρ) (ety := ety') (t := t') (es := es) (l := q) (hs := [(i, j, a)]) (S := S) (S' := ety) (by simp only [sig, hF.find hmem]) (fun q hq => by
    simp only [List.mem_singleton] at hq
    subst hq
    exact ⟨a, ha⟩)
   simpa [sig0, ha] using this
  ·rename_i kt t' e q S hv
   refine one (v' := .dm kt t' e q [] [] ety) h (fun q hq => List.mem_cons_of_mem _ hq) hv rfl (fun ρ hF hsub => ?_) (fun xs s' r K hi => by simpa only [instRw, XS.setLab_eq] using hi)
   have hmem := hsub (ety, some S, 0) (by simp)
   have hlt := (hF.lt hmem).2
   refine ⟨by simp [Val.lt, hlt], ?_⟩
   exact .dm (hs := []) (zs := []) (by simp only [sig, hF.find hmem]) (fun q hq => nomatch hq) (fun q hq => nomatch hq)
  ·cases h
theorem VK.get_inj {k : VK} {v : VV car} {x : k.T car} (h : k.get v = some x) : k.inj x = v := by
 cases k with
 | i => cases v with
  | i n => cases h; rfl
  | _ => cases h
 | b => cases v with
  | b n => cases h; rfl
  | _ => cases h
 | l t =>
  cases v with
  | l t' q =>
   simp only [VK.get] at h
   split at h
   ·rename_i e; subst e; cases h; rfl
   ·cases h
  | _ => simp [VK.get] at h
 | m => cases v with
  | m q => cases h; rfl
  | _ => cases h
 | im => cases v with
  | im q => cases h; rfl
  | _ => cases h
 | d ety t es =>
  cases v with
  | d ety' t' es' q =>
   simp only [VK.get] at h
   split at h
   ·rename_i e
    subst e
    obtain ⟨h1, h2⟩ := bif_some h
    simp only [Bool.and_eq_true] at h1
    cases h2
    rw [← Nat.eq_of_beq_eq_true h1.1, ← eqEs_eq h1.2]
    rfl
   ·cases h
  | _ => simp [VK.get] at h
 | dh ety t es a j =>
  cases v with
  | dh ety' t' es' a' j' q i =>
   simp only [VK.get] at h
   split at h
   ·rename_i e
    subst e
    obtain ⟨h1, h2⟩ := bif_some h
    simp only [Bool.and_eq_true] at h1
    cases h2
    rw [← Nat.eq_of_beq_eq_true h1.1.1.1, ← eqEs_eq h1.1.1.2, ← Nat.eq_of_beq_eq_true h1.1.2, ← Nat.eq_of_beq_eq_true h1.2]
    rfl
   ·cases h
  | _ => simp [VK.get] at h
 | dm kt t e =>
  cases v with
  | dm kt' t' e' q =>
   simp only [VK.get] at h
   split at h
   ·rename_i e
    obtain ⟨e1, e2⟩ := e
    subst e1; subst e2
    obtain ⟨h1, h2⟩ := bif_some h
    cases h2
    rw [← Nat.eq_of_beq_eq_true h1]
    rfl
   ·cases h
  | _ => simp [VK.get] at h
theorem mkK_sound : ∀ (ks : List VK) (vs : List (VV car)) {K : VT car ks → Option R}, VT.mkK ks vs K = some r → ∃ y, K y = some r ∧ VT.vals ks y = vs
 | [], [], K, h => ⟨(), h, rfl⟩
 | [], _ :: _, K, h => by cases h
 | [k], [v], K, h => by
  unfold VT.mkK at h
  split at h
  ·rename_i x hx
   exact ⟨x, h, by simp only [VT.vals, VK.get_inj hx]⟩
  ·cases h
 | [k], [], K, h => by cases h
 | [k], _ :: _ :: _, K, h => by cases h
 | k :: k' :: ks, [], K, h => by cases h
 | k :: k' :: ks, v :: vs, K, h => by
  unfold VT.mkK at h
  split at h
  ·rename_i x hx
   obtain ⟨y, h1, h2⟩ := mkK_sound (k' :: ks) vs h
   exact ⟨(x, y), h1, by simp only [VT.vals, VK.get_inj hx, h2]⟩
  ·cases h
theorem keepT_sound : ∀ (l : List Nat) (t : PT (Nat × Option SV)) {K : PT (Nat × Option SV) → Option R}, keepT s l t K = some r → ∃ t', K t' = some r ∧ ∀ k, t'.get k = if k ∈ l then s.t.get k else t.get k := by
 intro l
 induction l with
 | nil => intro t K h; exact ⟨t, h, fun k => by simp⟩
 | cons k0 l ih =>
  intro t K h
  unfold keepT at h
  split at h
  ·rename_i x hx
   simp only [PT.setK_set] at h
   obtain ⟨t', h1, h2⟩ := ih _ h
   refine ⟨t', h1, fun k => ?_⟩
   rw [h2, PT.get_set]
   by_cases e : k0 = k
   ·subst e; simp [hx]
   ·simp [e, Ne.symm e]
  ·cases h
theorem keepL_sound : ∀ (l : List Nat) (t : PT (List (LE car))) {K : PT (List (LE car)) → Option R}, keepL s l t K = some r → ∃ t', K t' = some r ∧ ∀ k, t'.get k = if k ∈ l then s.o.get k else t.get k := by
 intro l
 induction l with
 | nil => intro t K h; exact ⟨t, h, fun k => by simp⟩
 | cons k0 l ih =>
  intro t K h
  unfold keepL at h
  split at h
  ·rename_i x hx
   simp only [PT.setK_set] at h
   obtain ⟨t', h1, h2⟩ := ih _ h
   refine ⟨t', h1, fun k => ?_⟩
   rw [h2, PT.get_set]
   by_cases e : k0 = k
   ·subst e; simp [hx]
   ·simp [e, Ne.symm e]
  ·cases h
theorem leFind_mem {q : Nat} : ∀ {l : List (LE car)} {e : LE car}, leFind q l = some e → e ∈ l ∧ e.sub = q := by
 intro l
 induction l with
 | nil => intro e h; cases h
 | cons x l ih =>
  intro e h
  rw [leFind_cons] at h
  cases c : Nat.beq x.sub q with
  | true => rw [c, cond_true] at h; cases h; exact ⟨by simp, Nat.eq_of_beq_eq_true c⟩
  | false => rw [c, cond_false] at h; exact ⟨List.mem_cons_of_mem _ (ih h).1, (ih h).2⟩
theorem namedB_iff {T : Tpl} {L q : Nat} : namedB T.cl T.rw L q = true ↔ Named T L q := by
 simp only [namedB, Named, Bool.or_eq_true, Bool.and_eq_true, List.any_eq_true, Nat.beq_eq]
structure OldS (T : Tpl) (d : Nat) (s s2 : XS car) : Prop where
 t : ∀ k ∈ T.kt, ∀ e, s2.t.get k = some e → e.1 ≤ d → s.t.get k = some e
 o : ∀ L ∈ T.kl, ∀ q e, ¬ Named T L q → s2.rec? L q = some e → e.at_ ≤ d → s.rec? L q = some e
def Arr (T : Tpl) (d : Nat) (s s2 : XS car) (R : Type) (y : VT car T.ks) : Prop :=
 ∀ (r : R) (K : XS car → Option R), stK T d s y K = some r → ∃ s' ρ, K s' = some r ∧ Final T s.nl ρ ∧ StOK T d s s2 ρ (fun _ _ => False) s'
theorem sameV_old {ρ : Rho} (hF : Final T s.nl ρ) {x : SV} (h : x.lt s.nl = true) : SameV ρ T.nl x x := by
 have hm : ∀ (m : Nat → MV) L, x.has L = true → trM ρ m L = m L := fun m L hL => by
  have hlt : L < s.nl := by
   rcases Nat.lt_or_ge L s.nl with h1 | h1
   ·exact h1
   ·rw [has_lt h1 x h] at hL; cases hL
  simp only [trM, sig, hF.old hlt]
 exact ⟨lt_mono hF.nl h, fun m => ⟨den_congr x (fun L hL => hm m L hL), ok_congr x (fun L hL => hm m L hL)⟩⟩
theorem sameO_old {ρ : Rho} (hF : Final T s.nl ρ) {v : Val car} (h : v.lt s.nl = true) : SameO ρ v v := by
 have hs : ∀ L, L < s.nl → sig ρ L = some L := fun L hL => by simp only [sig, hF.old hL]
 cases v with
 | dp ety t es l hs' S =>
  simp only [Val.lt, Bool.and_eq_true, Nat.blt_eq, List.all_eq_true] at h
  have e : (hs'.map fun q => (q.1, q.2.1, sig0 ρ q.2.2)) = hs' := by
   rw [List.map_congr_left (g := id) fun q hq => by simp only [sig0, hs _ (h.2 q hq), Option.getD_some, id], List.map_id]
  have := SameO.dp (car := car) (ety := ety) (t := t) (es := es) (l := l) (hs := hs') (hs S h.1) (fun q hq => ⟨_, hs _ (h.2 q hq)⟩)
  rw [e] at this; exact this
 | dm kt t en l hs' zs S =>
  simp only [Val.lt, Bool.and_eq_true, Nat.blt_eq, List.all_eq_true] at h
  have e : (hs'.map fun q => (q.1, sig0 ρ q.2)) = hs' := by
   rw [List.map_congr_left (g := id) fun q hq => by simp only [sig0, hs _ (h.1.2 q hq), Option.getD_some, id], List.map_id]
  have e2 : (zs.map fun q => (q.1, sig0 ρ q.2)) = zs := by
   rw [List.map_congr_left (g := id) fun q hq => by simp only [sig0, hs _ (h.2 q hq), Option.getD_some, id], List.map_id]
  have := SameO.dm (car := car) (kt := kt) (t := t) (e := en) (l := l) (hs := hs') (zs := zs) (hs S h.1.1) (fun q hq => ⟨_, hs _ (h.1.2 q hq)⟩) (fun q hq => ⟨_, hs _ (h.2 q hq)⟩)
  rw [e, e2] at this; exact this
 | _ => exact .same rfl
theorem arr_sound {T : Tpl} {d d' : Nat} {s s2 : XS car} (hs : Inv s) (hold : OldS T d' s s2) {K : VT car T.ks → Option R} (h : arrK T d' s s2 K = some r) : ∃ y, K y = some r ∧ Arr T d s s2 R y := by
 unfold arrK at h
 obtain ⟨h0, h⟩ := bif_some h
 simp only [Bool.and_eq_true, List.all_eq_true] at h0
 obtain ⟨⟨hkt, hkl⟩, htpl⟩ := h0
 obtain ⟨xs, ρ1, h1, _, i1⟩ := matTm_sound (T := T) (d := d) (s := s) T.tm h (fun _ h => h)
 obtain ⟨ys, ρ2, h2, s2', i2⟩ := matBx_sound (T := T) (d := d) (s := s) T.bx h1
 obtain ⟨zs, ρ3, h3, s3', i3⟩ := matCl_sound (T := T) (d := d) (s := s) T.cl h2 (fun _ h => h)
 obtain ⟨ws, ρ4, h4, s4', i4⟩ := matRw_sound (T := T) (d := d) (s := s) (nl0 := s.nl) T.rw h3 (fun _ h => h)
 obtain ⟨hrho, h5⟩ := bif_some h4
 obtain ⟨y, h6, h7⟩ := mkK_sound _ _ h5
 have hF := Final.mk' htpl hrho
 refine ⟨y, h6, fun r' K' hk => ?_⟩
 unfold stK at hk
 obtain ⟨t, hk, ht⟩ := keepT_sound _ _ hk
 obtain ⟨o, hk, ho⟩ := keepL_sound _ _ hk
 rw [h7] at hk
 have kt : ∀ k ∈ T.kt, ∃ e, s2.t.get k = some e ∧ s.t.get k = some e := fun k hk' => by
  have := hkt k hk'
  unfold oldT at this
  split at this
  ·rename_i a v hv
   exact ⟨_, hv, hold.t k hk' _ hv (by simpa using this)⟩
  ·cases this
 have recE : ∀ L q, XS.rec? (⟨t, o, T.nl⟩ : XS car) L q = if L ∈ T.kl then s.rec? L q else none := fun L q => by
  simp only [XS.rec?, ho]
  by_cases e : L ∈ T.kl
  ·rw [if_pos e, if_pos e]
  ·rw [if_neg e, if_neg e]; rfl
 have kl : ∀ L ∈ T.kl, ∃ l0, s.o.get L = some l0 ∧ headOK T.cl L l0 = true ∧ ∀ q e, s.rec? L q = some e → ¬ Named T L q → s2.rec? L q = some e := fun L hL => by
  have := hkl L hL
  unfold oldL at this
  split at this
  ·rename_i l0 l e0 e1
   simp only [Bool.and_eq_true, List.all_eq_true, Bool.or_eq_true] at this
   obtain ⟨a1, a2⟩ := this
   refine ⟨l0, e0, a1, fun q e he hn => ?_⟩
   have he0 := he
   simp only [XS.rec?, e0] at he
   obtain ⟨b1, b2⟩ := leFind_mem he
   rcases a2 e b1 with b3 | b3
   ·rw [b2] at b3; exact absurd (namedB_iff.1 b3) hn
   ·rw [b2] at b3
    split at b3
    ·rename_i e2 he2
     have c1 : s2.rec? L q = some e2 := by simp only [XS.rec?, e1]; exact he2
     have c2 := hold.o L hL q e2 hn c1 (by simpa using b3)
     rw [he0] at c2
     cases c2
     exact c1
    ·cases b3
  ·cases this
 have head : ∀ L ∈ T.kl, (∃ v, s.lab L 0 = some v) ∨ ((∀ q v, s.lab L (q + 2) = some v → False) ∧ ∀ c ∈ T.cl, c.1 ≠ L) := fun L hL => by
  obtain ⟨l0, e0, a1, _⟩ := kl L hL
  unfold headOK at a1
  split at a1
  ·rename_i q a v hv
   exact .inl ⟨v, by simp only [XS.lab, XS.rec?, e0, hv]⟩
  ·simp only [Bool.and_eq_true, List.all_eq_true, Bool.not_eq_true', List.any_eq_false, Nat.beq_eq, Nat.blt_eq] at a1
   refine .inr ⟨fun q v hv => ?_, a1.2⟩
   simp only [XS.lab, XS.rec?, e0] at hv
   split at hv
   ·rename_i e he
    obtain ⟨b1, b2⟩ := leFind_mem he
    have := a1.1 e b1
    omega
   ·cases hv
 have start : StOK T d s s2 ρ4 (Named T) (⟨t, o, T.nl⟩ : XS car) := by
  refine ⟨fun k e he => ?_, fun L q e he => ?_, rfl, fun k hk' => by rw [ht, if_pos hk'], fun L hL q _ => by rw [recE, if_pos hL], fun L q v hv => ?_⟩
  ·simp only [ht] at he
   split at he
   ·rename_i hk'
    refine ⟨fun _ => he, fun x hx => ?_⟩
    obtain ⟨e2, g1, g2⟩ := kt k hk'
    rw [he] at g2
    cases g2
    obtain ⟨a, v⟩ := e
    cases hx
    exact ⟨a, x, g1, sameV_old hF (hs.t _ _ _ he)⟩
   ·cases he
  ·rw [recE] at he
   split at he
   ·rename_i hL
    obtain ⟨b1, b2⟩ := hs.o L q e he
    refine ⟨Nat.lt_of_lt_of_le b1 hF.nl, fun _ => he, fun x hx => Val.lt_mono hF.nl (b2 x hx), fun v hv hn => ?_⟩
    obtain ⟨l0, _, _, g⟩ := kl L hL
    have g1 := g q e he hn
    have g2 : s2.lab L q = some v := by simp only [XS.lab, g1, hv]
    have hown : OwnL T.kl ρ4 L L := .inl ⟨hL, rfl, hF.old b1⟩
    have hrb : ∀ cs, v = .rb cs → ∀ l, hasL l cs = true → sig ρ4 l = some l := by
     intro cs hcs l hl
     subst hcs
     have hlt : l < s.nl := Nat.lt_of_not_le fun h => by have := hasL_lt h cs (b2 _ hv); rw [hl] at this; cases this
     simp only [sig, hF.old hlt]
    match q, g2 with
    | 0, g2 => exact .own hown g2 (sameO_old hF (b2 v hv))
    | 1, g2 => exact .ext hown.sig g2 hrb
    | q + 2, g2 =>
     cases v with
     | x y => exact .cell hown g2 (sameV_old hF (b2 _ hv))
     | _ => exact .raw hown g2 (fun x e => by cases e)
   ·cases he
  ·have hv' := hv
   simp only [XS.lab, recE] at hv
   split at hv
   ·rename_i e he
    split at he
    ·rename_i hL
     rcases head L hL with ⟨v1, g1⟩ | ⟨g1, _⟩
     ·refine ⟨v1, ?_⟩
      simp only [XS.lab, recE, if_pos hL]
      exact g1
     ·exact (g1 q v (by simp only [XS.lab, he, hv])).elim
    ·cases he
   ·cases hv
 obtain ⟨s3, hk, g1, g2, _⟩ := i1 ρ4 hF (fun q hq => s4' q (s3' q (s2' q hq))) _ _ _ r' _ start trivial hk
 obtain ⟨s4, hk, g3, g4, _⟩ := i2 ρ4 hF (fun q hq => s4' q (s3' q hq)) _ _ _ r' _ g1 trivial hk
 obtain ⟨s5, hk, g5, g6, _⟩ := i3 ρ4 hF s4' _ _ _ r' _ g3 (fun c hc => by
  have hL := hF.cl c hc
  rcases head c.1 hL with ⟨v1, e1⟩ | ⟨_, e1⟩
  ·exact (g2.trans g4) c.1 v1 (by simp only [XS.lab, recE, if_pos hL]; exact e1)
  ·exact absurd rfl (e1 c hc)) hk
 obtain ⟨s6, hk, g7, g8, _⟩ := i4 ρ4 hF (fun _ h => h) _ _ r' _ g5 hk
 refine ⟨s6, ρ4, hk, hF, g7.mono ?_⟩
 rintro L q ⟨⟨hn, n1⟩, n2⟩
 rcases hn with ⟨c, hc, e1, e2⟩ | ⟨rfl, hr⟩
 ·exact n1 c hc ⟨e1, e2⟩
 ·exact n2 ⟨rfl, hr⟩
end
end
end Go.KX

namespace Go.KX
open Go Go.RowKit
noncomputable section
section
variable {E : Env} {R : Type} {r : R} {gl : List (Nat × Val E.G.car)} {fx : Fix}
structure OKS (E : Env) (fx : Fix) (s : XS E.G.car) : Prop where
 inv : Inv s
 glo : ∀ p ∈ E.glo, p.1 < s.nl
 pn : fx.pn ≤ s.nl
section
variable {T : Tpl} {d : Nat} {s s2 s' : XS E.G.car} {ρ : Rho}
theorem StOK.oks (hs : OKS E fx s) (hF : Final T s.nl ρ) (h : StOK T d s s2 ρ (fun _ _ => False) s') : OKS E fx s' := by
 refine ⟨⟨fun k a v hv => ?_, fun L q e he => ?_⟩, fun p hp => ?_, by rw [h.nl]; exact Nat.le_trans hs.pn hF.nl⟩
 ·obtain ⟨_, h1⟩ := h.t k _ hv
  obtain ⟨_, _, _, h2⟩ := h1 v rfl
  rw [h.nl]; exact h2.1
 ·obtain ⟨h1, _, h2, _⟩ := h.o L q e he
  rw [h.nl]; exact ⟨h1, h2⟩
 ·rw [h.nl]; exact Nat.lt_of_lt_of_le (hs.glo p hp) hF.nl
theorem StOK.ext (hF : Final T s.nl ρ) (h : StOK T d s s2 ρ (fun _ _ => False) s') : Ext d s s' :=
 ⟨fun k x hx hd => (h.t k x hx).1 hd, fun L q e he hd => (h.o L q e he).2.1 hd, by rw [h.nl]; exact hF.nl⟩
theorem OldS.of_ext {s3 : XS E.G.car} (h : Ext (Nat.succ d) s s3) : OldS T d s s3 :=
 ⟨fun k _ e he hd => h.t k e he (Nat.lt_succ_of_le hd), fun L _ q e _ he hd => h.o L q e he (Nat.lt_succ_of_le hd)⟩
theorem StOK.old {s3 : XS E.G.car} (h : StOK T d s s2 ρ (fun _ _ => False) s') (he : Ext (Nat.succ d) s' s3) : OldS T d s s3 :=
 ⟨fun k hk e h1 hd => by rw [← h.kt k hk]; exact he.t k e h1 (Nat.lt_succ_of_le hd), fun L hL q e hn h1 hd => by rw [← h.kl L hL q hn]; exact he.o L q e h1 (Nat.lt_succ_of_le hd)⟩
theorem SrcO.congr {car : Nat → Type} {kl : List Nat} {n L q : Nat} {g g' : Map car} {v : Val car} (h : SrcO kl ρ n g L q v) (ho : ∀ L, g' (.o L) = g (.o L)) (hx : ∀ L, g' (.x L) = g (.x L)) (hc : ∀ L q, g' (.c L q) = g (.c L q)) : SrcO kl ρ n g' L q v := by
 cases h with
 | own h1 h2 h3 => exact .own h1 (by rw [ho]; exact h2) h3
 | none h1 => exact .none h1
 | noneD h1 h2 => exact .noneD h1 h2
 | ext h1 h2 h3 => exact .ext h1 (by rw [hx]; exact h2) h3
 | frz h1 h2 => exact .frz h1 (by rw [ho]; exact h2)
 | nil h1 => exact .nil h1
 | cell h1 h2 h3 => exact .cell h1 (by rw [hc]; exact h2) h3
 | raw h1 h2 h3 => exact .raw h1 (by rw [hc]; exact h2) h3
theorem StOK.rel (hs : OKS E fx s) (hF : Final T s.nl ρ) (h : StOK T d s s2 ρ (fun _ _ => False) s') {b : Base} {f : Nat} {m : Nat → MV} {A : Nat → Prop} {a : Act} {w : World} (hb : b.pn ≤ fx.pn) (hr : Rel (cxOf E b) m A (s2.map f) a w) :
  ∃ m' A', Rel (cxOf E b) m' A' (s'.map f) a w := by
 have src : ∀ L q v, s'.lab L q = some v → SrcO T.kl ρ T.nl (s2.map f) L q v := fun L q v hv => by
  simp only [XS.lab] at hv
  split at hv
  ·rename_i e he
   exact ((h.o L q e he).2.2.2 v hv (fun h => h)).congr (fun _ => rfl) (fun _ => rfl) (fun _ _ => rfl)
  ·cases hv
 have tmp : ∀ l i v, s'.tmp l i = some v → ∃ y, s2.tmp l i = some y ∧ SameV ρ T.nl v y := fun l i v hv => by
  simp only [XS.tmp] at hv
  split at hv
  ·rename_i a v' he
   subst hv
   obtain ⟨a', y, h1, h2⟩ := (h.t _ _ he).2 v rfl
   exact ⟨y, by simp only [XS.tmp, h1], h2⟩
  ·cases hv
 refine hr.rebuild hF.is (fun p hp => hF.old (hs.glo p hp)) (fun L hL => hF.old (Nat.lt_of_lt_of_le hL (Nat.le_trans hb hs.pn))) ⟨fun i v hv => ?_, fun l i v hv => ?_, fun L v hv => src L 0 v hv, fun L v hv => src L 1 v hv, fun L q v hv => src L (q + 2) v hv, rfl⟩ (fun L q v hv => h.hd L q v hv)
 ·obtain ⟨x, h1, rfl⟩ := Option.map_eq_some_iff.1 (show (s'.tmp f i).map Val.x = some v from hv)
  obtain ⟨y, h2, h3⟩ := tmp f i x h1
  exact ⟨x, y, rfl, by simp only [XS.map, h2, Option.map_some], h3⟩
 ·cases hv
end
theorem restT_sound {d : Nat} : ∀ (l : List Nat) (s : XS E.G.car) {K : XS E.G.car → Option R}, OKS E fx s → restT d l s K = some r → ∃ s', K s' = some r ∧ OKS E fx s' ∧ Ext d s s' ∧ ∀ f, s'.map f = s.map f := by
 intro l
 induction l with
 | nil => intro s K hs h; exact ⟨s, h, hs, Ext.refl _ _, fun _ => rfl⟩
 | cons k l ih =>
  intro s K hs h
  unfold restT at h
  split at h
  ·rename_i a v hv
   cases e : Nat.ble a d with
   | true => rw [e, cond_true] at h; exact ih s hs h
   | false =>
    rw [e, cond_false] at h
    simp only [PT.setK_set] at h
    have get : ∀ k', (s.t.set k (d, v)).get k' = if k = k' then some (d, v) else s.t.get k' := fun k' => PT.get_set _ _ _ _
    have tm : ∀ l i, XS.tmp (⟨s.t.set k (d, v), s.o, s.nl⟩ : XS E.G.car) l i = s.tmp l i := fun l i => by
     simp only [XS.tmp, get]
     by_cases e1 : k = tk l i
     ·rw [if_pos e1, ← e1, hv]
     ·rw [if_neg e1]
    have hok : OKS E fx (⟨s.t.set k (d, v), s.o, s.nl⟩ : XS E.G.car) := by
     refine ⟨⟨fun k' a' v' hv' => ?_, hs.inv.o⟩, hs.glo, hs.pn⟩
     have hv' : (s.t.set k (d, v)).get k' = some (a', some v') := hv'
     rw [get] at hv'
     split at hv'
     ·cases hv'; exact hs.inv.t k a v' hv
     ·exact hs.inv.t _ _ _ hv'
    have hex : Ext d s (⟨s.t.set k (d, v), s.o, s.nl⟩ : XS E.G.car) := by
     refine ⟨fun k' x hx hd => ?_, fun _ _ _ h _ => h, Nat.le_refl _⟩
     have hx : (s.t.set k (d, v)).get k' = some x := hx
     rw [get] at hx
     split at hx
     ·cases hx; exact absurd hd (Nat.lt_irrefl d)
     ·exact hx
    obtain ⟨s', h1, h2, h3, h4⟩ := ih _ hok h
    refine ⟨s', h1, h2, hex.trans h3, fun f => (h4 f).trans ?_⟩
    funext k'
    cases k' with
    | t i => simp only [XS.map, tm]
    | u l i => simp only [XS.map, tm]
    | _ => rfl
  ·cases h
theorem leFind_map {car : Nat → Type} {d q : Nat} : ∀ (l : List (LE car)), leFind q (l.map fun x => ⟨x.sub, d, x.v⟩) = (leFind q l).map fun x => ⟨x.sub, d, x.v⟩ := by
 intro l
 induction l with
 | nil => rfl
 | cons x l ih =>
  rw [List.map_cons, leFind_cons, leFind_cons, ih]
  cases Nat.beq x.sub q <;> rfl
theorem restL_sound' {d : Nat} : ∀ (l : List Nat) (s : XS E.G.car) {K : XS E.G.car → Option R}, OKS E fx s → restL d l s K = some r → ∃ s', K s' = some r ∧ OKS E fx s' ∧ Ext d s s' ∧ (∀ f, s'.map f = s.map f) ∧ s'.t = s.t ∧ s'.nl = s.nl := by
 intro l
 induction l with
 | nil => intro s K hs h; exact ⟨s, h, hs, Ext.refl _ _, fun _ => rfl, rfl, rfl⟩
 | cons L l ih =>
  intro s K hs h
  unfold restL at h
  split at h
  ·rename_i l0 hv
   cases e : (l0.all fun x => Nat.ble x.at_ d) with
   | true => rw [e, cond_true] at h; exact ih s hs h
   | false =>
    rw [e, cond_false] at h
    simp only [PT.setK_set] at h
    have rc : ∀ L' q, XS.rec? (⟨s.t, s.o.set L (l0.map fun x => ⟨x.sub, d, x.v⟩), s.nl⟩ : XS E.G.car) L' q = if L = L' then (s.rec? L' q).map (fun x => ⟨x.sub, d, x.v⟩) else s.rec? L' q := fun L' q => by
     simp only [XS.rec?, PT.get_set]
     by_cases e1 : L = L'
     ·subst e1
      rw [if_pos rfl, if_pos rfl, hv]
      exact leFind_map l0
     ·rw [if_neg e1, if_neg e1]
    have hok : OKS E fx (⟨s.t, s.o.set L (l0.map fun x => ⟨x.sub, d, x.v⟩), s.nl⟩ : XS E.G.car) := by
     refine ⟨⟨hs.inv.t, fun L' q e he => ?_⟩, hs.glo, hs.pn⟩
     rw [rc] at he
     split at he
     ·obtain ⟨e2, he2, rfl⟩ := Option.map_eq_some_iff.1 he
      exact hs.inv.o L' q e2 he2
     ·exact hs.inv.o L' q e he
    have hex : Ext d s (⟨s.t, s.o.set L (l0.map fun x => ⟨x.sub, d, x.v⟩), s.nl⟩ : XS E.G.car) := by
     refine ⟨fun _ _ h _ => h, fun L' q e he hd => ?_, Nat.le_refl _⟩
     rw [rc] at he
     split at he
     ·obtain ⟨e2, _, rfl⟩ := Option.map_eq_some_iff.1 he
      exact absurd hd (Nat.lt_irrefl d)
     ·exact he
    have lb : ∀ L' q, XS.lab (⟨s.t, s.o.set L (l0.map fun x => ⟨x.sub, d, x.v⟩), s.nl⟩ : XS E.G.car) L' q = s.lab L' q := fun L' q => by
     simp only [XS.lab, rc]
     by_cases e1 : L = L'
     ·rw [if_pos e1]; cases s.rec? L' q <;> rfl
     ·rw [if_neg e1]
    obtain ⟨s', h1, h2, h3, h4, h5, h6⟩ := ih _ hok h
    refine ⟨s', h1, h2, hex.trans h3, fun f => (h4 f).trans ?_, h5, h6⟩
    funext k'
    cases k' with
    | o L => exact lb L 0
    | x L => exact lb L 1
    | c L q => exact lb L (q + 2)
    | _ => rfl
  ·cases h
theorem restL_sound {d : Nat} (l : List Nat) (s : XS E.G.car) {K : XS E.G.car → Option R} (hs : OKS E fx s) (h : restL d l s K = some r) : ∃ s', K s' = some r ∧ OKS E fx s' ∧ Ext d s s' ∧ ∀ f, s'.map f = s.map f := by
 obtain ⟨s', h1, h2, h3, h4, _⟩ := restL_sound' l s hs h
 exact ⟨s', h1, h2, h3, h4⟩
end
end
end Go.KX

namespace Go.KX
open Go Go.RowKit
noncomputable section
section
variable {car : Nat → Type}
theorem map_rec {s : XS car} {k : Key} {L : Nat} (hk : k.lab = some L) : s.map 0 k = match recK s k with | some e => e.v | none => none := by
 cases k <;> first | (cases hk; done) | rfl
def diffV (d : Nat) (s0 s' : XS car) (k : Key) (v : Option (Val car)) : Option (Val car) :=
 match recK s' k with
 | some e => if e.at_ ≤ d then v else e.v
 | none => match recK s0 k with
  | some _ => none
  | none => v
def newV (s' : XS car) (k : Key) (v : Option (Val car)) : Option (Val car) :=
 match recK s' k with
 | some e => e.v
 | none => v
theorem diffK_get {d : Nat} {s0 s' : XS car} {g : Map car} {k : Key} : ∀ {ks : List Key}, upd (diffK d s0 s' ks) g k =
  if k ∈ ks then diffV d s0 s' k (g k) else g k := by
 intro ks
 induction ks with
 | nil => rfl
 | cons x r ih =>
  by_cases hx : x = k
  ·subst hx
   rw [if_pos List.mem_cons_self]
   simp only [diffK, diffV]
   simp only [diffV] at ih
   cases he : recK s' x with
   | some e =>
    simp only [he] at ih ⊢
    cases hd : Nat.ble e.at_ d with
    | true =>
     have hd' : e.at_ ≤ d := Nat.le_of_ble_eq_true hd
     simp only [cond_true, ih, if_pos hd', ite_self]
    | false =>
     have hd' : ¬ e.at_ ≤ d := fun h => by rw [Nat.ble_eq_true_of_le h] at hd; cases hd
     simp only [cond_false, upd_cons, if_true, if_neg hd']
   | none =>
    simp only [he] at ih ⊢
    cases h0 : recK s0 x with
    | some e => simp only [upd_cons, if_true]
    | none => simp only [h0] at ih ⊢; rw [ih, ite_self]
  ·have hm : (k ∈ x :: r) = (k ∈ r) := by simp [Ne.symm hx]
   simp only [hm]
   rw [← ih]
   simp only [diffK]
   split
   ·cases hd : Nat.ble _ d with
    | true => rfl
    | false => simp only [cond_false, upd_cons, if_neg hx]
   ·split
    ·simp only [upd_cons, if_neg hx]
    ·rfl
theorem newK_get {s' : XS car} {g : Map car} {k : Key} : ∀ {ks : List Key}, upd (newK s' ks) g k = if k ∈ ks then newV s' k (g k) else g k := by
 intro ks
 induction ks with
 | nil => rfl
 | cons x r ih =>
  by_cases hx : x = k
  ·subst hx
   rw [if_pos List.mem_cons_self]
   simp only [newK, newV]
   simp only [newV] at ih
   cases he : recK s' x with
   | some e => simp only [upd_cons, if_true]
   | none => simp only [he] at ih ⊢; rw [ih, ite_self]
  ·have hm : (k ∈ x :: r) = (k ∈ r) := by simp [Ne.symm hx]
   simp only [hm]
   rw [← ih]
   simp only [newK]
   split
   ·simp only [upd_cons, if_neg hx]
   ·rfl
theorem mem_cellKeys' {L : Nat} {k : Key} : ∀ {n o : Nat}, k ∈ cellKeys L o n ↔ ∃ q, o ≤ q ∧ q < o + n ∧ k = .c L q := by
 intro n
 induction n with
 | zero => intro o; simp [cellKeys]; intros; omega
 | succ n ih =>
  intro o
  simp only [cellKeys, List.mem_cons, ih]
  constructor
  ·rintro (rfl | ⟨q, h1, h2, rfl⟩)
   ·exact ⟨o, by omega, by omega, rfl⟩
   ·exact ⟨q, by omega, by omega, rfl⟩
  ·rintro ⟨q, h1, h2, rfl⟩
   by_cases e : q = o
   ·subst e; exact .inl rfl
   ·exact .inr ⟨q, by omega, by omega, rfl⟩
theorem mem_keysN {L n : Nat} {k : Key} : k ∈ keysN L n ↔ k = .o L ∨ k = .x L ∨ ∃ q, q < n ∧ k = .c L q := by
 simp only [keysN, List.mem_cons, mem_cellKeys']
 constructor
 ·rintro (h | h | ⟨q, _, h2, h3⟩)
  ·exact .inl h
  ·exact .inr (.inl h)
  ·exact .inr (.inr ⟨q, by omega, h3⟩)
 ·rintro (h | h | ⟨q, h2, h3⟩)
  ·exact .inl h
  ·exact .inr (.inl h)
  ·exact .inr (.inr ⟨q, by omega, by omega, h3⟩)
theorem keysN_lab {L n : Nat} {k : Key} (h : k ∈ keysN L n) : k.lab = some L := by
 rcases mem_keysN.1 h with rfl | rfl | ⟨q, _, rfl⟩ <;> rfl
theorem le_maxN {a b : Nat} : a ≤ maxN a b ∧ b ≤ maxN a b := by
 unfold maxN
 cases e : Nat.ble a b with
 | true => exact ⟨Nat.le_of_ble_eq_true e, Nat.le_refl _⟩
 | false =>
  refine ⟨Nat.le_refl _, ?_⟩
  rcases Nat.le_total a b with h | h
  ·rw [Nat.ble_eq_true_of_le h] at e; cases e
  ·exact h
theorem mem_rangeN {L : Nat} : ∀ {k n : Nat}, L ∈ rangeN n k ↔ n ≤ L ∧ L < n + k := by
 intro k
 induction k with
 | zero => intro n; simp [rangeN]
 | succ k ih => intro n; simp only [rangeN, List.mem_cons, ih]; omega
theorem mem_keysA {s0 s' : XS car} {ls : List Nat} {k : Key} : k ∈ keysA s0 s' ls ↔ ∃ L ∈ ls, k ∈ keysN L (maxN (szL s0 L) (szL s' L)) := by
 simp [keysA, List.mem_flatMap]
theorem mem_keysW {s' : XS car} {n j : Nat} {k : Key} : k ∈ keysW s' n j ↔ ∃ L, (n ≤ L ∧ L < n + j) ∧ k ∈ keysN L (szL s' L) := by
 simp [keysW, List.mem_flatMap, mem_rangeN]
end
section
variable {E : Env} {b : Base} {m m' : Nat → MV} {A A' : Nat → Prop} {g : Map E.G.car} {a : Act} {w w' : World} {s0 s' : XS E.G.car} {ls : List Nat}
theorem Rel.cellLt (h : Rel (cxOf E b) m A g a w) {L q : Nat} {v : Val E.G.car} (hv : g (.c L q) = some v) : ∃ ty n, g (.o L) = some (.sh ty n) ∧ q < n := by
 obtain ⟨ty, n, h1⟩ := h.cell L q v hv
 refine ⟨ty, n, h1, ?_⟩
 have h2 := h.ent _ _ hv
 obtain ⟨cur, h3, h4⟩ := h.ent _ _ h1
 cases v with
 | x y =>
  obtain ⟨⟨cur', ty', h5, h6⟩, _⟩ := h2
  rw [h4] at h5; cases h5
  rw [← h3]; exact (Array.getElem?_eq_some_iff.1 h6).1
 | _ => exact h2.elim
structure PartOf (M : Map E.G.car) (n : Nat) (ls : List Nat) (s0 : XS E.G.car) : Prop where
 t : s0.t = .e
 nl : s0.nl = n
 o : ∀ k L, k.lab = some L → L ∈ ls → s0.map 0 k = M k
 out : ∀ k L, k.lab = some L → L ∉ ls → s0.map 0 k = none
 ok : okLabs s0 ls = true
theorem PartOf.lt {M : Map E.G.car} {n : Nat} (hp : PartOf M n ls s0) (hi : Inv s0) {L q : Nat} {v : Val E.G.car} (hv : s0.lab L q = some v) : L < n := by
 simp only [XS.lab] at hv
 split at hv
 ·rename_i e he
  have := (hi.o L q e he).1
  rw [hp.nl] at this; exact this
 ·cases hv
theorem PartOf.cell {M : Map E.G.car} {n : Nat} (hp : PartOf M n ls s0) {L q : Nat} {v : Val E.G.car} (hv : s0.map 0 (.c L q) = some v) : L ∈ ls ∧ ∃ ty k, s0.map 0 (.o L) = some (.sh ty k) ∧ q < k ∧ szL s0 L = k := by
 have hL : L ∈ ls := by
  apply Classical.byContradiction
  intro h
  rw [hp.out _ L rfl h] at hv; cases hv
 refine ⟨hL, ?_⟩
 have h1 := List.all_eq_true.1 hp.ok L hL
 have hv' : s0.lab L (q + 2) = some v := hv
 simp only [XS.lab, XS.rec?] at hv'
 cases hg : s0.o.get L with
 | none => rw [hg] at hv'; cases hv'
 | some l =>
  rw [hg] at hv' h1
  simp only at hv' h1
  cases he : leFind (q + 2) l with
  | none => rw [he] at hv'; cases hv'
  | some e =>
   obtain ⟨h2, h3⟩ := leFind_mem he
   have h4 := List.all_eq_true.1 h1 e h2
   rw [h3] at h4
   have h5 : q + 2 < 2 + szL s0 L := by
    simp only [Nat.blt_eq] at h4
    exact h4
   have h6 : q < szL s0 L := by omega
   have h7 : s0.map 0 (.o L) = s0.lab L 0 := rfl
   rw [h7]
   cases h8 : s0.lab L 0 with
   | none => simp only [szL, h8] at h6; omega
   | some u =>
    cases u with
    | sh ty k => exact ⟨ty, k, rfl, by simpa only [szL, h8] using h6, by simp only [szL, h8]⟩
    | _ => simp only [szL, h8] at h6; omega
theorem PartOf.key {M : Map E.G.car} {n : Nat} (hp : PartOf M n ls s0) {k : Key} {v : Val E.G.car} (hv : s0.map 0 k = some v) : ∃ L, k.lab = some L ∧ L ∈ ls ∧ ∀ s' : XS E.G.car, k ∈ keysA s0 s' ls := by
 have hk : ∃ L, k.lab = some L := by
  cases k with
  | t i => simp only [XS.map, XS.tmp, hp.t] at hv; cases hv
  | u l i => cases hv
  | a => cases hv
  | c L q => exact ⟨L, rfl⟩
  | o L => exact ⟨L, rfl⟩
  | x L => exact ⟨L, rfl⟩
 obtain ⟨L, hL⟩ := hk
 have hm : L ∈ ls := by
  apply Classical.byContradiction
  intro h
  rw [hp.out _ L hL h] at hv; cases hv
 refine ⟨L, hL, hm, fun s' => mem_keysA.2 ⟨L, hm, mem_keysN.2 ?_⟩⟩
 cases k with
 | o L' => cases hL; exact .inl rfl
 | x L' => cases hL; exact .inr (.inl rfl)
 | c L' q =>
  cases hL
  obtain ⟨_, ty, k, _, h2, h3⟩ := hp.cell hv
  exact .inr (.inr ⟨q, Nat.lt_of_lt_of_le (by rw [h3]; exact h2) le_maxN.1, rfl⟩)
 | _ => cases hL
theorem PartOf.enter {M : Map E.G.car} {n : Nat} (hp : PartOf M n ls s0) (h : Rel (cxOf E b) m A g a w) (hr : ∀ k ∈ keysA s0 s' ls, g k = M k) :
  Rel (cxOf E (inBase b n m A (s0.map 0) w)) m A (s0.map 0) ⟨#[], []⟩ w := by
 refine h.sub (fun k v hv => ?_) (fun L o v hv => ?_)
 ·obtain ⟨L, h1, h2, h3⟩ := hp.key hv
  exact ⟨by rw [hr k (h3 s'), ← hp.o k L h1 h2]; exact hv, L, h1⟩
 ·obtain ⟨_, ty, k, h1, _⟩ := hp.cell hv
  exact ⟨_, h1⟩
theorem PartOf.leave {M : Map E.G.car} {n d : Nat} (hp : PartOf M n ls s0) (hi0 : Inv s0) (hi : Inv s') (hx : Ext (Nat.succ d) s0 s') (hls : ∀ L ∈ ls, L < n) (h : Rel (cxOf E b) m A g a w)
  (h' : Rel (cxOf E (inBase b n m A (s0.map 0) w)) m' A' (s'.map 0) ⟨#[], []⟩ w') (hr : ∀ k ∈ keysA s0 s' ls, g k = M k) (hnew : ∀ L, n ≤ L → L < s'.nl → Free (cxOf E b) L g) :
  ∃ m'', (∀ L, L < s'.nl → m'' L = m' L) ∧ (∀ L, ¬ (n ≤ L ∧ L < s'.nl) → m'' L = m L) ∧ Rel (cxOf E b) m'' A' (upd (diffK d s0 s' (keysA s0 s' ls) ++ newK s' (keysW s' s0.nl (s'.nl - s0.nl))) g) a w' := by
 have hnn : n ≤ s'.nl := by rw [← hp.nl]; exact hx.nl
 have hg0 : ∀ k L, k.lab = some L → L ∈ ls → k ∈ keysA s0 s' ls → g k = s0.map 0 k := fun k L h1 h2 h3 => by rw [hr k h3, hp.o k L h1 h2]
 have hup : ∀ k, upd (diffK d s0 s' (keysA s0 s' ls) ++ newK s' (keysW s' s0.nl (s'.nl - s0.nl))) g k =
   if k ∈ keysA s0 s' ls then diffV d s0 s' k (upd (newK s' (keysW s' s0.nl (s'.nl - s0.nl))) g k) else upd (newK s' (keysW s' s0.nl (s'.nl - s0.nl))) g k := fun k => by
  rw [upd_append, diffK_get]
 have hW : ∀ {k L}, k.lab = some L → k ∈ keysW s' s0.nl (s'.nl - s0.nl) → n ≤ L ∧ L < s'.nl := fun {k L} h1 h2 => by
  obtain ⟨L', h3, h4⟩ := mem_keysW.1 h2
  rw [keysN_lab h4] at h1; cases h1
  rw [hp.nl] at h3
  omega
 have hAk : ∀ {k L}, k.lab = some L → k ∈ keysA s0 s' ls → L ∈ ls := fun {k L} h1 h2 => by
  obtain ⟨L', h3, h4⟩ := mem_keysA.1 h2
  rw [keysN_lab h4] at h1; cases h1
  exact h3
 have hgc : ∀ {L q}, L ∈ ls → szL s0 L ≤ q → g (.c L q) = none := fun {L q} h1 h2 => by
  cases e : g (.c L q) with
  | none => rfl
  | some v =>
   obtain ⟨ty, k, h3, h4⟩ := h.cellLt e
   have h5 : Key.o L ∈ keysA s0 s' ls := mem_keysA.2 ⟨L, h1, mem_keysN.2 (.inl rfl)⟩
   rw [hg0 _ L rfl h1 h5] at h3
   have h6 : s0.lab L 0 = some (.sh ty k) := h3
   simp only [szL, h6] at h2
   omega
 have hsc : ∀ {L q}, szL s' L ≤ q → s'.map 0 (.c L q) = none := fun {L q} h2 => by
  cases e : s'.map 0 (.c L q) with
  | none => rfl
  | some v =>
   obtain ⟨ty, k, h3, h4⟩ := h'.cellLt e
   have h6 : s'.lab L 0 = some (.sh ty k) := h3
   simp only [szL, h6] at h2
   omega
 have hgn : ∀ {k L}, k.lab = some L → n ≤ L → L < s'.nl → g k = none := fun {k L} h1 h2 h3 => by
  cases e : g k with
  | none => rfl
  | some v =>
   have := (hnew L h2 h3).1 k
   rw [e] at this
   cases k <;> first | (cases h1; done) | (cases h1; simp [mentions, keyHas] at this)
 refine h.back h' (S := fun L => L ∈ ls) (n' := s'.nl) (fun L v hv => ?_) (fun L v hv => ?_) hls (fun L hL => ?_) hnn (fun k L hk hM => ?_) (fun k L hk hM => ?_) (fun k hk => ?_) hnew (fun k v L L' hv hk _ hm => ?_)
 ·apply Classical.byContradiction
  intro hn
  rw [hp.out _ L rfl hn] at hv; cases hv
 ·obtain ⟨L', h1, h2, h3⟩ := hp.key hv
  cases h1
  rw [hg0 _ L rfl h2 (h3 s')]; exact hv
 ·exact hg0 _ L rfl hL (mem_keysA.2 ⟨L, hL, mem_keysN.2 (.inl rfl)⟩)
 ·rw [hup]
  rcases hM with hM | ⟨h1, h2⟩
  ·have hnW : k ∉ keysW s' s0.nl (s'.nl - s0.nl) := fun h3 => by
    have := (hW hk h3).1
    have := hls L hM
    omega
   rw [newK_get, if_neg hnW]
   by_cases hA : k ∈ keysA s0 s' ls
   ·rw [if_pos hA, hg0 k L hk hM hA, map_rec hk, map_rec hk, diffV]
    cases he : recK s' k with
    | some e =>
     simp only
     by_cases hd : e.at_ ≤ d
     ·rw [if_pos hd]
      have : recK s0 k = some e := by
       cases k with
       | o L' => exact hx.o L' 0 e he (by omega)
       | x L' => exact hx.o L' 1 e he (by omega)
       | c L' q => exact hx.o L' (q + 2) e he (by omega)
       | _ => cases hk
      rw [this]
     ·rw [if_neg hd]
    | none =>
     simp only
     cases h0 : recK s0 k with
     | some e => rfl
     | none => rfl
   ·rw [if_neg hA]
    have : ∃ q, k = .c L q ∧ maxN (szL s0 L) (szL s' L) ≤ q := by
     cases k with
     | o L' => cases hk; exact absurd (mem_keysA.2 ⟨L, hM, mem_keysN.2 (.inl rfl)⟩) hA
     | x L' => cases hk; exact absurd (mem_keysA.2 ⟨L, hM, mem_keysN.2 (.inr (.inl rfl))⟩) hA
     | c L' q =>
      cases hk
      refine ⟨q, rfl, ?_⟩
      rcases Nat.lt_or_ge q (maxN (szL s0 L) (szL s' L)) with h3 | h3
      ·exact absurd (mem_keysA.2 ⟨L, hM, mem_keysN.2 (.inr (.inr ⟨q, h3, rfl⟩))⟩) hA
      ·exact h3
     | _ => cases hk
    obtain ⟨q, rfl, h3⟩ := this
    have := le_maxN (a := szL s0 L) (b := szL s' L)
    rw [hgc hM (by omega), hsc (by omega)]
  ·have hnA : k ∉ keysA s0 s' ls := fun h3 => by
    have := hls L (hAk hk h3)
    omega
   rw [if_neg hnA, newK_get]
   by_cases hw : k ∈ keysW s' s0.nl (s'.nl - s0.nl)
   ·rw [if_pos hw, map_rec hk, newV]
    cases he : recK s' k with
    | some e => rfl
    | none => exact hgn hk h1 h2
   ·rw [if_neg hw, hgn hk h1 h2]
    have hr' : s0.nl ≤ L ∧ L < s0.nl + (s'.nl - s0.nl) := by rw [hp.nl]; omega
    cases k with
    | o L' => cases hk; exact absurd (mem_keysW.2 ⟨L, hr', mem_keysN.2 (.inl rfl)⟩) hw
    | x L' => cases hk; exact absurd (mem_keysW.2 ⟨L, hr', mem_keysN.2 (.inr (.inl rfl))⟩) hw
    | c L' q =>
     cases hk
     refine (hsc ?_).symm
     rcases Nat.lt_or_ge q (szL s' L) with h3 | h3
     ·exact absurd (mem_keysW.2 ⟨L, hr', mem_keysN.2 (.inr (.inr ⟨q, h3, rfl⟩))⟩) hw
     ·exact h3
    | _ => cases hk
 ·rw [hup, newK_get, if_neg (fun h3 => hM (.inl (hAk hk h3))), if_neg (fun h3 => hM (.inr (hW hk h3)))]
 ·have h1 : k ∉ keysA s0 s' ls := fun h3 => by
   obtain ⟨L', _, h4⟩ := mem_keysA.1 h3
   rw [keysN_lab h4] at hk; cases hk
  have h2 : k ∉ keysW s' s0.nl (s'.nl - s0.nl) := fun h3 => by
   obtain ⟨L', _, h4⟩ := mem_keysW.1 h3
   rw [keysN_lab h4] at hk; cases hk
  rw [hup, newK_get, if_neg h1, if_neg h2]
 ·rcases Nat.lt_or_ge L' s'.nl with h1 | h1
  ·exact h1
  ·have := hi.free (f := 0) h1 k
   rw [hv, hm] at this; cases this
end
end
end Go.KX

namespace Go.KX
open Go Go.RowKit
section
variable {cx : Cx} {m m' : Nat → MV} {A : Nat → Prop} {g g' : CMap cx} {a : Act} {w : World}
theorem Rel.regive (h : Rel cx m A g a w) {T : Nat → Prop} (hg : ∀ k, (∀ l, T l → k ≠ .o l) → g' k = g k) (hm : ∀ k, (∀ l, T l → k ≠ .o l) → ∀ l, mentions l k (g k) = true → m' l = m l)
  (hc : ∀ l o, T l → g (.c l o) = none) (ho : ∀ l v, T l → g' (.o l) = some v → At cx m' A a.tmps w (.o l) v)
  (hB : ∀ l b, T l → Owns m' l (g' (.o l)) b → ∃ l0, T l0 ∧ Owns m l0 (g (.o l0)) b) (hI : ∀ l l' b, T l → T l' → Owns m' l (g' (.o l)) b → Owns m' l' (g' (.o l')) b → l = l')
  (hfix : ∀ p ∈ cx.glo, m' p.1 = m p.1) (hpin : ∀ L, L < cx.pn → m' L = m L) : Rel cx m' A g' a w := by
 have hno : ∀ {l}, ¬ T l → ∀ l0, T l0 → Key.o l ≠ .o l0 := fun {l} hl l0 hl0 e => by cases e; exact hl hl0
 have how : ∀ {l b}, ¬ T l → Owns m' l (g' (.o l)) b → Owns m l (g (.o l)) b := fun {l b} hl ho => by
  rw [hg _ (hno hl)] at ho
  exact (owns_congr fun l' hl' => hm _ (hno hl) l' hl').1 ho
 have cross : ∀ {l l' b}, T l → Owns m' l (g' (.o l)) b → ¬ T l' → Owns m' l' (g' (.o l')) b → False := fun {l l' b} h1 h2 h3 h4 => by
  obtain ⟨l0, h5, h6⟩ := hB l b h1 h2
  have := h.inj l0 l' b h6 (how h3 h4)
  subst this
  exact h3 h5
 refine ⟨h.size, h.defers, fun k v hk => ?_, fun l o v hv => ?_, fun l b hl => ?_, fun l l' b hl hl' => ?_, h.frzc, h.held, h.top, fun p hp => by rw [hfix p hp]; exact h.fix p hp, h.ko, h.frz0, h.frzA, fun L hL => by rw [hpin L hL]; exact h.pins L hL⟩
 ·by_cases e : ∃ l, T l ∧ k = .o l
  ·obtain ⟨l, h1, rfl⟩ := e
   exact ho l v h1 hk
  ·have hn : ∀ l, T l → k ≠ .o l := fun l h1 h2 => e ⟨l, h1, h2⟩
   rw [hg k hn] at hk
   exact (h.ent k v hk).change (fun l hl => hm k hn l (by rw [hk]; exact hl)) (fun _ h => h) (fun _ _ => rfl) (fun _ _ => rfl) (fun _ _ _ _ => rfl) (fun _ _ _ => rfl)
 ·rw [hg _ (fun l0 _ e => by cases e)] at hv
  obtain ⟨ty, n, h1⟩ := h.cell l o v hv
  by_cases hT : T l
  ·rw [hc l o hT] at hv; cases hv
  ·exact ⟨ty, n, by rw [hg _ (hno hT)]; exact h1⟩
 ·by_cases hT : T l
  ·obtain ⟨l0, _, h1⟩ := hB l b hT hl
   exact h.own l0 b h1
  ·exact h.own l b (how hT hl)
 ·by_cases hT : T l <;> by_cases hT' : T l'
  ·exact hI l l' b hT hT' hl hl'
  ·exact (cross hT hl hT' hl').elim
  ·exact (cross hT' hl' hT hl).elim
  ·exact h.inj l l' b (how hT hl) (how hT' hl')
end
def nilHV : HV := ⟨0, none, 0, 0⟩
def hvOf (mv : MV) : HV := ⟨mv.b, mv.p, mv.n, mv.c⟩
def mvOfH (h : HV) : MV := { b := h.b, p := h.p, n := h.n, c := h.c }
def setSub (sub : Nat → HV) (k : Nat) (h : HV) : Nat → HV := fun k' => if k' = k then h else sub k'
def subMV (sub : Nat → HV) : MV := { b := 0, p := none, n := 0, c := 0, sub := sub }
theorem setSub_self (sub : Nat → HV) (k : Nat) (h : HV) : setSub sub k h k = h := by simp [setSub]
theorem setSub_ne (sub : Nat → HV) {k k' : Nat} (h : HV) (e : k' ≠ k) : setSub sub k h k' = sub k' := by simp [setSub, e]
theorem flat_ne {i j i' j' sz : Nat} (hj : j < sz) (hj' : j' < sz) (h : ¬ (i = i' ∧ j = j')) : i * sz + j ≠ i' * sz + j' := fun e => by
 rcases Nat.lt_trichotomy i i' with h1 | h1 | h1
 ·have : (i + 1) * sz ≤ i' * sz := Nat.mul_le_mul_right _ h1
  rw [Nat.add_mul, Nat.one_mul] at this
  omega
 ·subst h1; exact h ⟨rfl, by omega⟩
 ·have : (i' + 1) * sz ≤ i * sz := Nat.mul_le_mul_right _ h1
  rw [Nat.add_mul, Nat.one_mul] at this
  omega
theorem SubsOK.out {w : World} {sub : Nat → HV} {b : Nat} {real : Nat → Prop} (h : SubsOK w sub b real) (k : Nat) : SubsOK w (setSub sub k nilHV) b real := by
 have key : ∀ {k'}, (setSub sub k nilHV k').c ≠ 0 → k' ≠ k ∧ setSub sub k nilHV k' = sub k' := fun {k'} hc => by
  by_cases e : k' = k
  ·subst e; rw [setSub_self] at hc; exact absurd rfl hc
  ·exact ⟨e, setSub_ne _ _ e⟩
 refine ⟨fun k1 k2 h1 h2 he => ?_, fun k1 h1 => ?_, fun k1 h1 => ?_, fun k1 h1 => ?_⟩
 ·obtain ⟨_, e1⟩ := key h1; obtain ⟨_, e2⟩ := key h2
  rw [e1] at h1 he; rw [e2] at h2 he
  exact h.inj k1 k2 h1 h2 he
 ·obtain ⟨_, e1⟩ := key h1; rw [e1] at h1 ⊢; exact h.ne k1 h1
 ·obtain ⟨_, e1⟩ := key h1; rw [e1] at h1; exact h.real k1 h1
 ·obtain ⟨_, e1⟩ := key h1; rw [e1] at h1 ⊢; exact h.dat k1 h1
theorem SubsOK.into {w : World} {sub : Nat → HV} {b k : Nat} {real : Nat → Prop} {h0 : HV} (h : SubsOK w sub b real) (hr : real k) (hne : h0.c ≠ 0 → h0.b ≠ b) (hd : h0.c ≠ 0 → ∃ o : Obj, w.heap[h0.b]? = some o ∧ o.isDat = true) (hx : h0.c ≠ 0 → ∀ k', (sub k').c ≠ 0 → (sub k').b ≠ h0.b) :
  SubsOK w (setSub sub k h0) b real := by
 refine ⟨fun k1 k2 h1 h2 he => ?_, fun k1 h1 => ?_, fun k1 h1 => ?_, fun k1 h1 => ?_⟩
 ·by_cases e1 : k1 = k <;> by_cases e2 : k2 = k
  ·rw [e1, e2]
  ·subst e1
   rw [setSub_self] at h1 he; rw [setSub_ne _ _ e2] at h2 he
   exact absurd he.symm (hx h1 k2 h2)
  ·subst e2
   rw [setSub_self] at h2 he; rw [setSub_ne _ _ e1] at h1 he
   exact absurd he (hx h2 k1 h1)
  ·rw [setSub_ne _ _ e1] at h1 he; rw [setSub_ne _ _ e2] at h2 he
   exact h.inj k1 k2 h1 h2 he
 ·by_cases e1 : k1 = k
  ·subst e1; rw [setSub_self] at h1 ⊢; exact hne h1
  ·rw [setSub_ne _ _ e1] at h1 ⊢; exact h.ne k1 h1
 ·by_cases e1 : k1 = k
  ·subst e1; exact hr
  ·rw [setSub_ne _ _ e1] at h1; exact h.real k1 h1
 ·by_cases e1 : k1 = k
  ·subst e1; rw [setSub_self] at h1 ⊢; exact hd h1
  ·rw [setSub_ne _ _ e1] at h1 ⊢; exact h.dat k1 h1
section
variable {cx : Cx} {m : Nat → MV} {A : Nat → Prop} {g g' : CMap cx} {a : Act} {w : World}
theorem free_ne {L : Nat} {k : Key} {v : Val cx.G.car} (hf : Free cx L g) (hk : g k = some v) : ∀ l, mentions l k (some v) = true → l ≠ L := fun l hl e => by
 subst e
 have := hf.1 k
 rw [hk, hl] at this; cases this
theorem free_none {L : Nat} {k : Key} (hf : Free cx L g) (hk : keyHas L k = true) : g k = none := by
 cases e : g k with
 | none => rfl
 | some v => have := hf.1 k; rw [e] at this; simp [mentions, hk] at this
def openU {car : Nat → Type} (L N S' ety t e' t' : Nat) (es : List (Option Nat)) (l : List (car t)) (hs : List (Int × Nat × Nat)) (idx : Int) (j : Nat) (q : List (car t')) : St car :=
 [(.o N, some (.row e' t' q)), (.o L, some (.dp ety t es l ((idx, j, N) :: hs) S'))]
theorem Rel.openRow {L N S S' ety t e' t' j : Nat} {idx : Int} {es : List (Option Nat)} {l : List (cx.G.car t)} {hs : List (Int × Nat × Nat)} {x : cx.G.car t} {q : List (cx.G.car t')} (h : Rel cx m A g a w) (hL : g (.o L) = some (.dp ety t es l hs S))
  (hx : l[idx.toNat]? = some x) (h0 : 0 ≤ idx) (hcv : (cx.G.enc t x)[j]? = some (.sl t' q)) (hno : ∀ p ∈ hs, ¬ (p.1.toNat = idx.toNat ∧ p.2.1 = j)) (he : es.getD j none = some e') (hN : Free cx N g) (hS : Free cx S' g) (hNS : N ≠ S') :
  ∃ m', Rel cx m' A (upd (openU L N S' ety t e' t' es l hs idx j q) g) a w ∧ (∀ l, l ≠ N → l ≠ S' → m' l = m l) ∧
   ∃ cur : Array Value, w.heap[(m L).b]? = some (.cells cur ety (0, 0)) ∧ (m L).p = some ⟨(m L).b, 0, none⟩ ∧ cur[idx.toNat * cx.G.sz t + j]? = some (den m' (.h N)) := by
 have hLN : L ≠ N := fun e => by subst e; rw [free_none hN (by simp [keyHas])] at hL; cases hL
 have hLS : L ≠ S' := fun e => by subst e; rw [free_none hS (by simp [keyHas])] at hL; cases hL
 have hi : idx.toNat < l.length := (List.getElem?_eq_some_iff.1 hx).1
 have hj : j < cx.G.sz t := by rw [← cx.G.hsz t x]; exact (List.getElem?_eq_some_iff.1 hcv).1
 obtain ⟨⟨h1, h2⟩, h3, h4⟩ := h.ent _ _ hL
 rcases h2 with ⟨_, hl, _⟩ | ⟨hc, hp, cur, hh, hsz, hle, hin⟩
 ·subst hl; simp at hx
 have hhole : holeAt idx.toNat j hs = none := by
  cases e : holeAt idx.toNat j hs with
  | none => rfl
  | some a' => obtain ⟨p, h5, h6, h7, _⟩ := holeAt_mem e; exact absurd ⟨h6, h7⟩ (hno p h5)
 obtain ⟨u, hu, hsub⟩ := hin _ x hx j _ hcv
 rw [hhole, he] at hsub
 obtain ⟨e1, he1, hflat, hue, hrow⟩ := hsub
 cases he1
 generalize hk : idx.toNat * cx.G.sz t + j = k at *
 generalize hm' : setL (setL m N (mvOfH ((m S).sub k))) S' (subMV (setSub (m S).sub k nilHV)) = m'
 have eN : m' N = mvOfH ((m S).sub k) := by rw [← hm', setL_ne _ _ hNS, setL_self]
 have eS : m' S' = subMV (setSub (m S).sub k nilHV) := by rw [← hm', setL_self]
 have eo : ∀ l, l ≠ N → l ≠ S' → m' l = m l := fun l h5 h6 => by rw [← hm', setL_ne _ _ h6, setL_ne _ _ h5]
 have hgk : ∀ k, upd (openU L N S' ety t e' t' es l hs idx j q) g k = if k = .o N then some (.row e' t' q) else if k = .o L then some (.dp ety t es l ((idx, j, N) :: hs) S') else g k := fun k => by
  rw [openU, upd_cons, upd_one]
  by_cases e1 : k = .o N
  ·subst e1; simp
  ·rw [if_neg (Ne.symm e1), if_neg e1]
   by_cases e2 : k = .o L
   ·subst e2; simp
   ·rw [if_neg (Ne.symm e2), if_neg e2]
 have gN : upd (openU L N S' ety t e' t' es l hs idx j q) g (.o N) = some (.row e' t' q) := by rw [hgk, if_pos rfl]
 have gL : upd (openU L N S' ety t e' t' es l hs idx j q) g (.o L) = some (.dp ety t es l ((idx, j, N) :: hs) S') := by rw [hgk, if_neg (by simpa using hLN), if_pos rfl]
 have gN0 : g (.o N) = none := free_none hN (by simp [keyHas])
 have ownL : ∀ b, Owns m' L (some (.dp ety t es l ((idx, j, N) :: hs) S' : Val cx.G.car)) b → Owns m L (g (.o L)) b ∧ (((m S).sub k).c ≠ 0 → b ≠ ((m S).sub k).b) := fun b hb => by
  rw [hL]
  simp only [Owns, eo L hLN hLS, eS, subMV] at hb
  rcases hb with hb | ⟨k', hk', rfl⟩
  ·refine ⟨.inl hb, fun h5 => ?_⟩
   rw [hb.2]; exact (h3.ne k h5).symm
  ·by_cases e : k' = k
   ·subst e; rw [setSub_self] at hk'; exact absurd rfl hk'
   ·rw [setSub_ne _ _ e] at hk' ⊢
    exact ⟨.inr ⟨k', hk', rfl⟩, fun h5 h6 => e (h3.inj _ _ hk' h5 h6)⟩
 have ownN : ∀ b, Owns m' N (some (.row e' t' q : Val cx.G.car)) b → ((m S).sub k).c ≠ 0 ∧ b = ((m S).sub k).b := fun b hb => by
  simp only [Owns, eN, mvOfH] at hb; exact hb
 have hment : ∀ k', (∀ l', (l' = L ∨ l' = N) → k' ≠ .o l') → ∀ l', mentions l' k' (g k') = true → m' l' = m l' := fun k' _ l' hl' => by
  cases e : g k' with
  | none => rw [e] at hl'; cases hl'
  | some v => rw [e] at hl'; exact eo l' (free_ne hN e l' hl') (free_ne hS e l' hl')
 refine ⟨m', h.regive (T := fun l' => l' = L ∨ l' = N) (fun k' hk' => ?_) hment (fun l' o hT => ?_) (fun l' v hT hv => ?_) (fun l' b hT hb => ?_) (fun l1 l2 b hT1 hT2 hb1 hb2 => ?_) (fun p hp => eo _ (hN.2.1 p hp) (hS.2.1 p hp)) (fun L' hL' => eo _ (fun e => ?_) (fun e => ?_)), eo, cur, hh, hp, ?_⟩
 ·rw [hgk, if_neg (fun e => hk' N (.inr rfl) e), if_neg (fun e => hk' L (.inl rfl) e)]
 ·rcases hT with rfl | rfl
  ·cases e : g (.c l' o) with
   | none => rfl
   | some v => obtain ⟨ty, n, h5⟩ := h.cell _ _ _ e; rw [hL] at h5; cases h5
  ·exact free_none hN (by simp [keyHas])
 ·rcases hT with rfl | rfl
  ·rw [gL] at hv; cases hv
   show (_ ∧ _) ∧ _
   rw [eo l' hLN hLS, eS]
   refine ⟨⟨h1, .inr ⟨hc, hp, cur, hh, hsz, hle, fun i1 x1 hx1 j1 cv1 hcv1 => ?_⟩⟩, h3.out k, fun p hp => ?_, ?_⟩
   ·obtain ⟨u1, hu1, hs1⟩ := hin i1 x1 hx1 j1 cv1 hcv1
    refine ⟨u1, hu1, ?_⟩
    have hj1 : j1 < cx.G.sz t := by rw [← cx.G.hsz t x1]; exact (List.getElem?_eq_some_iff.1 hcv1).1
    simp only [holeAt]
    by_cases e : idx.toNat = i1 ∧ j = j1
    ·obtain ⟨e1, e2⟩ := e
     subst e1; subst e2
     rw [if_pos ⟨rfl, rfl⟩]
     rw [hk] at hu1 ⊢
     rw [hu] at hu1; cases hu1
     rw [hx] at hx1; cases hx1
     rw [hcv] at hcv1; cases hcv1
     refine ⟨?_, by show (setSub _ _ _ _).c = 0; rw [setSub_self]; rfl, _, _, rfl⟩
     rw [hue]; simp only [den, eN, mvOfH]
    ·rw [if_neg e]
     have hne : i1 * cx.G.sz t + j1 ≠ k := by rw [← hk]; exact flat_ne hj1 hj (fun h => e ⟨h.1.symm, h.2.symm⟩)
     rw [show (subMV (setSub (m S).sub k nilHV)).sub (i1 * cx.G.sz t + j1) = (m S).sub (i1 * cx.G.sz t + j1) from setSub_ne _ _ hne]
     refine hs1.step (fun _ h => h) (fun _ _ => rfl) (fun a' ha' => ?_) (fun _ => rfl)
     obtain ⟨p, h5, _, _, rfl⟩ := holeAt_mem ha'
     have hmm : mentions p.2.2 (.o l') (some (.dp ety t es l hs S : Val cx.G.car)) = true := by
      simp only [mentions, valHas, keyHas, Bool.or_eq_true, List.any_eq_true]
      exact .inl (.inr ⟨p, h5, by simp⟩)
     exact eo _ (free_ne hN hL _ hmm) (free_ne hS hL _ hmm)
   ·rcases List.mem_cons.1 hp with rfl | hp
    ·exact ⟨h0, by omega⟩
    ·exact h4.lt p hp
   ·exact List.pairwise_cons.2 ⟨fun p hp h5 => hno p hp ⟨h5.1.symm, h5.2.symm⟩, h4.ne⟩
  ·rw [gN] at hv; cases hv
   show (m' l').n = _ ∧ _
   rw [eN]
   exact hrow
 ·rcases hT with rfl | rfl
  ·rw [gL] at hb; exact ⟨l', .inl rfl, (ownL b hb).1⟩
  ·rw [gN] at hb
   obtain ⟨h5, rfl⟩ := ownN b hb
   exact ⟨L, .inl rfl, by rw [hL]; exact .inr ⟨k, h5, rfl⟩⟩
 ·rcases hT1 with rfl | rfl <;> rcases hT2 with rfl | rfl
  ·rfl
  ·rw [gL] at hb1; rw [gN] at hb2
   obtain ⟨h5, rfl⟩ := ownN b hb2
   exact absurd rfl ((ownL _ hb1).2 h5)
  ·rw [gN] at hb1; rw [gL] at hb2
   obtain ⟨h5, rfl⟩ := ownN b hb1
   exact absurd rfl ((ownL _ hb2).2 h5)
  ·rfl
 ·subst e; exact absurd hL' (Nat.not_lt.2 hN.2.2)
 ·subst e; exact absurd hL' (Nat.not_lt.2 hS.2.2)
 ·rw [hu, hue]; simp only [den, eN, mvOfH]
end
section
variable {cx : Cx} {m : Nat → MV} {A : Nat → Prop} {g g' : CMap cx} {a : Act} {w : World}
theorem holeAt_none {i j : Nat} : ∀ {hs : List (Int × Nat × Nat)}, (∀ p ∈ hs, ¬ (p.1.toNat = i ∧ p.2.1 = j)) → holeAt i j hs = none
 | [], _ => rfl
 | (i', j', a) :: r, h => by
  simp only [holeAt]
  rw [if_neg (h (i', j', a) List.mem_cons_self)]
  exact holeAt_none fun p hp => h p (List.mem_cons_of_mem _ hp)
theorem holeAt_append {i j : Nat} : ∀ {h1 h2 : List (Int × Nat × Nat)}, holeAt i j (h1 ++ h2) = match holeAt i j h1 with | some a => some a | none => holeAt i j h2
 | [], _ => rfl
 | (i', j', a) :: r, h2 => by
  simp only [List.cons_append, holeAt]
  split
  ·rfl
  ·exact holeAt_append
theorem holeAt_mid {i j i0 j0 a : Nat} {idx : Int} {h1 h2 : List (Int × Nat × Nat)} (hi : idx.toNat = i0) (hne : ¬ (i0 = i ∧ j0 = j)) : holeAt i j (h1 ++ (idx, j0, a) :: h2) = holeAt i j (h1 ++ h2) := by
 rw [holeAt_append, holeAt_append]
 simp only [holeAt, hi, if_neg hne]
theorem pairwise_mid {α : Type} {R : α → α → Prop} {h1 h2 : List α} {p : α} (h : (h1 ++ p :: h2).Pairwise R) : (h1 ++ h2).Pairwise R ∧ (∀ q ∈ h1, R q p) ∧ ∀ q ∈ h2, R p q := by
 obtain ⟨a1, a2, a3⟩ := List.pairwise_append.1 h
 obtain ⟨b1, b2⟩ := List.pairwise_cons.1 a2
 exact ⟨List.pairwise_append.2 ⟨a1, b2, fun x hx y hy => a3 x hx y (List.mem_cons_of_mem _ hy)⟩, fun q hq => a3 q hq p List.mem_cons_self, b1⟩
def closeU {car : Nat → Type} (L N S' ety t : Nat) (es : List (Option Nat)) (l : List (car t)) (hs : List (Int × Nat × Nat)) : St car :=
 [(.o N, none), (.o L, some (.dp ety t es l hs S'))]
theorem putAt_one {α : Type} {j : Nat} {y : α} {l : List α} {i : Nat} : (putAt j [y] l)[i]? = if i = j ∧ j < l.length then some y else l[i]? := by
 simp only [putAt, List.getElem?_set]
 by_cases e : j = i
 ·subst e
  by_cases e2 : j < l.length
  ·simp [e2]
  ·simp [e2]
 ·simp [e, Ne.symm e]
theorem Rel.closeRow {L N S S' ety t e' t' j : Nat} {idx : Int} {es : List (Option Nat)} {l : List (cx.G.car t)} {h1 h2 : List (Int × Nat × Nat)} {x x' : cx.G.car t} {q : List (cx.G.car t')} (h : Rel cx m A g a w)
  (hL : g (.o L) = some (.dp ety t es l (h1 ++ (idx, j, N) :: h2) S)) (hgN : g (.o N) = some (.row e' t' q)) (hx : l[idx.toNat]? = some x) (hj : j < cx.G.sz t) (henc : cx.G.enc t x' = putAt j [.sl t' q] (cx.G.enc t x)) (he : es.getD j none = some e')
  (hfl : cx.G.flat t' = true) (hS : Free cx S' g) :
  ∃ m', Rel cx m' A (upd (closeU L N S' ety t es (l.set idx.toNat x') (h1 ++ h2)) g) a w ∧ ∀ l, l ≠ S' → m' l = m l := by
 have hLN : L ≠ N := fun e => by subst e; rw [hL] at hgN; cases hgN
 have hLS : L ≠ S' := fun e => by subst e; rw [free_none hS (by simp [keyHas])] at hL; cases hL
 have hNS : N ≠ S' := fun e => by subst e; rw [free_none hS (by simp [keyHas])] at hgN; cases hgN
 have hi : idx.toNat < l.length := (List.getElem?_eq_some_iff.1 hx).1
 obtain ⟨⟨h3, h4⟩, h5, h6⟩ := h.ent _ _ hL
 have hrow : RowAt cx.G A w (hvOf (m N)) e' t' q := h.ent _ _ hgN
 rcases h4 with ⟨_, hl, _⟩ | ⟨hc, hp, cur, hh, hsz, hle, hin⟩
 ·subst hl; simp at hx
 obtain ⟨hpw, hpw1, hpw2⟩ := pairwise_mid h6.ne
 have hnone : holeAt idx.toNat j (h1 ++ h2) = none := holeAt_none fun p hp h7 => by
  rcases List.mem_append.1 hp with hp | hp
  ·exact hpw1 p hp h7
  ·exact hpw2 p hp ⟨h7.1.symm, h7.2.symm⟩
 have hsome : holeAt idx.toNat j (h1 ++ (idx, j, N) :: h2) = some N := by
  rw [holeAt_append, show holeAt idx.toNat j h1 = none from holeAt_none fun p hp h7 => hpw1 p hp h7]
  simp [holeAt]
 generalize hk : idx.toNat * cx.G.sz t + j = k at *
 generalize hm' : setL m S' (subMV (setSub (m S).sub k (hvOf (m N)))) = m'
 have eS : m' S' = subMV (setSub (m S).sub k (hvOf (m N))) := by rw [← hm', setL_self]
 have eo : ∀ l, l ≠ S' → m' l = m l := fun l h5 => by rw [← hm', setL_ne _ _ h5]
 have hgk : ∀ k, upd (closeU L N S' ety t es (l.set idx.toNat x') (h1 ++ h2)) g k = if k = .o N then none else if k = .o L then some (.dp ety t es (l.set idx.toNat x') (h1 ++ h2) S') else g k := fun k => by
  rw [closeU, upd_cons, upd_one]
  by_cases e1 : k = .o N
  ·subst e1; simp
  ·rw [if_neg (Ne.symm e1), if_neg e1]
   by_cases e2 : k = .o L
   ·subst e2; simp
   ·rw [if_neg (Ne.symm e2), if_neg e2]
 have gN : upd (closeU L N S' ety t es (l.set idx.toNat x') (h1 ++ h2)) g (.o N) = none := by rw [hgk, if_pos rfl]
 have gL : upd (closeU L N S' ety t es (l.set idx.toNat x') (h1 ++ h2)) g (.o L) = some (.dp ety t es (l.set idx.toNat x') (h1 ++ h2) S') := by rw [hgk, if_neg (by simpa using hLN), if_pos rfl]
 have ownN : (m N).c ≠ 0 → Owns m N (g (.o N)) (m N).b := fun h7 => by rw [hgN]; exact ⟨h7, rfl⟩
 have hNb : (m N).c ≠ 0 → ∀ b, Owns m L (g (.o L)) b → b ≠ (m N).b := fun h7 b h8 e => by
  subst e; exact hLN (h.inj L N _ h8 (ownN h7))
 have hment : ∀ k', ∀ l', mentions l' k' (g k') = true → m' l' = m l' := fun k' l' hl' => by
  cases e : g k' with
  | none => rw [e] at hl'; cases hl'
  | some v => rw [e] at hl'; exact eo l' (free_ne hS e l' hl')
 have hsub0 : ((m S).sub k).c = 0 := by
  obtain ⟨cv0, hcv0⟩ : ∃ cv, (cx.G.enc t x)[j]? = some cv := ⟨_, List.getElem?_eq_getElem (by rw [cx.G.hsz]; exact hj)⟩
  obtain ⟨u, _, h7⟩ := hin _ x hx j _ hcv0
  rw [hsome, hk] at h7
  exact h7.2.1
 refine ⟨m', h.regive (T := fun l' => l' = L ∨ l' = N) (fun k' hk' => ?_) (fun k' _ => hment k') (fun l' o hT => ?_) (fun l' v hT hv => ?_) (fun l' b hT hb => ?_) (fun l1 l2 b hT1 hT2 hb1 hb2 => ?_) (fun p hp => eo _ (hS.2.1 p hp)) (fun L' hL' => eo _ (fun e => ?_)), eo⟩
 ·rw [hgk, if_neg (fun e => hk' N (.inr rfl) e), if_neg (fun e => hk' L (.inl rfl) e)]
 ·cases e : g (.c l' o) with
  | none => rfl
  | some v =>
   obtain ⟨ty, n, h7⟩ := h.cell _ _ _ e
   rcases hT with rfl | rfl
   ·rw [hL] at h7; cases h7
   ·rw [hgN] at h7; cases h7
 ·rcases hT with rfl | rfl
  ·rw [gL] at hv; cases hv
   show (_ ∧ _) ∧ _
   rw [eo l' hLS, eS]
   refine ⟨⟨by rw [List.length_set]; exact h3, .inr ⟨hc, hp, cur, hh, hsz, by rw [List.length_set]; exact hle, fun i1 x1 hx1 j1 cv1 hcv1 => ?_⟩⟩, ?_, fun p hp => ?_, hpw⟩
   ·have hj1 : j1 < cx.G.sz t := by rw [← cx.G.hsz t x1]; exact (List.getElem?_eq_some_iff.1 hcv1).1
    by_cases e : idx.toNat = i1 ∧ j = j1
    ·obtain ⟨e1, e2⟩ := e
     subst e1; subst e2
     rw [List.getElem?_set_self hi] at hx1
     cases hx1
     rw [henc, putAt_one, if_pos ⟨rfl, by rw [cx.G.hsz]; exact hj⟩] at hcv1
     cases hcv1
     obtain ⟨cv0, hcv0⟩ : ∃ cv, (cx.G.enc t x)[j]? = some cv := ⟨_, List.getElem?_eq_getElem (by rw [cx.G.hsz]; exact hj)⟩
     obtain ⟨u, hu, h7⟩ := hin _ x hx j _ hcv0
     rw [hsome] at h7
     refine ⟨u, hu, ?_⟩
     rw [hnone, hk, show (subMV (setSub (m S).sub k (hvOf (m N)))).sub k = hvOf (m N) from setSub_self _ _ _]
     exact ⟨e', he, hfl, by rw [h7.1]; rfl, hrow⟩
    ·have hne : i1 * cx.G.sz t + j1 ≠ k := by rw [← hk]; exact flat_ne hj1 hj (fun h => e ⟨h.1.symm, h.2.symm⟩)
     have old : ∃ x0, l[i1]? = some x0 ∧ (cx.G.enc t x0)[j1]? = some cv1 := by
      by_cases e1 : idx.toNat = i1
      ·subst e1
       rw [List.getElem?_set_self hi] at hx1
       cases hx1
       refine ⟨x, hx, ?_⟩
       rw [henc, putAt_one, if_neg (fun h7 => e ⟨rfl, h7.1.symm⟩)] at hcv1
       exact hcv1
      ·rw [List.getElem?_set_ne e1] at hx1; exact ⟨x1, hx1, hcv1⟩
     obtain ⟨x0, hx0, hcv0⟩ := old
     obtain ⟨u1, hu1, hs1⟩ := hin i1 x0 hx0 j1 cv1 hcv0
     refine ⟨u1, hu1, ?_⟩
     rw [holeAt_mid rfl e] at hs1
     rw [show (subMV (setSub (m S).sub k (hvOf (m N)))).sub (i1 * cx.G.sz t + j1) = (m S).sub (i1 * cx.G.sz t + j1) from setSub_ne _ _ hne]
     refine hs1.step (fun _ h => h) (fun _ _ => rfl) (fun a' ha' => ?_) (fun _ => rfl)
     obtain ⟨p, h7, _, _, rfl⟩ := holeAt_mem ha'
     refine hment (.o l') _ ?_
     rw [hL]
     simp only [mentions, valHas, keyHas, Bool.or_eq_true, List.any_eq_true]
     exact .inl (.inr ⟨p, by rcases List.mem_append.1 h7 with h8 | h8 <;> simp [h8], by simp⟩)
   ·rw [List.length_set]
    refine h5.into ?_ (fun h7 e => hNb h7 (m l').b (by rw [hL]; exact .inl ⟨hc, rfl⟩) e.symm) (fun h7 => h.blk (ownN h7)) (fun h7 k' h8 e => hNb h7 _ (by rw [hL]; exact .inr ⟨k', h8, rfl⟩) e)
    show k < _
    have : (idx.toNat + 1) * cx.G.sz t ≤ l.length * cx.G.sz t := Nat.mul_le_mul_right _ hi
    rw [Nat.add_mul, Nat.one_mul] at this
    omega
   ·rw [List.length_set]; exact h6.lt p (by rcases List.mem_append.1 hp with h8 | h8 <;> simp [h8])
  ·rw [gN] at hv; cases hv
 ·rcases hT with rfl | rfl
  ·rw [gL] at hb
   simp only [Owns, eo l' hLS, eS, subMV] at hb
   rcases hb with hb | ⟨k', hk', rfl⟩
   ·exact ⟨l', .inl rfl, by rw [hL]; exact .inl hb⟩
   ·by_cases e : k' = k
    ·subst e
     rw [setSub_self] at hk' ⊢
     exact ⟨N, .inr rfl, ownN hk'⟩
    ·rw [setSub_ne _ _ e] at hk' ⊢
     exact ⟨l', .inl rfl, by rw [hL]; exact .inr ⟨k', hk', rfl⟩⟩
  ·rw [gN] at hb; exact hb.elim
 ·rcases hT1 with rfl | rfl <;> rcases hT2 with rfl | rfl
  ·rfl
  ·rw [gN] at hb2; exact hb2.elim
  ·rw [gN] at hb1; exact hb1.elim
  ·rfl
 ·subst e; exact absurd hL' (Nat.not_lt.2 hS.2.2)
end
section
variable {cx : Cx} {m : Nat → MV} {A : Nat → Prop} {g g' : CMap cx} {a : Act} {w : World}
theorem upd_two {car : Nat → Type} {L N : Nat} {v v' : Option (Val car)} {g : Map car} (h : L ≠ N) (k : Key) : upd [(.o N, v), (.o L, v')] g k = if k = .o N then v else if k = .o L then v' else g k := by
 rw [upd_cons, upd_one]
 by_cases e1 : k = .o N
 ·subst e1; simp
 ·rw [if_neg (Ne.symm e1), if_neg e1]
  by_cases e2 : k = .o L
  ·subst e2; simp
  ·rw [if_neg (Ne.symm e2), if_neg e2]
theorem Rel.writeRow {L N N0 S ety t j : Nat} {idx : Int} {es : List (Option Nat)} {l : List (cx.G.car t)} {h1 h2 : List (Int × Nat × Nat)} {x : cx.G.car t} (h : Rel cx m A g a w)
  (hL : g (.o L) = some (.dp ety t es l (h1 ++ (idx, j, N0) :: h2) S)) (hx : l[idx.toNat]? = some x) (hj : j < cx.G.sz t) :
  ∃ w', (m L).p = some ⟨(m L).b, 0, none⟩ ∧ (storeCells ⟨(m L).b, idx.toNat * cx.G.sz t + j, none⟩ [den m (.h N)]).run cx.P w = .ok () w' ∧ Rel cx m A (upd [(.o L, some (.dp ety t es l (h1 ++ (idx, j, N) :: h2) S))] g) a w' := by
 have hi : idx.toNat < l.length := (List.getElem?_eq_some_iff.1 hx).1
 obtain ⟨⟨h3, h4⟩, h5, h6⟩ := h.ent _ _ hL
 rcases h4 with ⟨_, hl, _⟩ | ⟨hc, hp, cur, hh, hsz, hle, hin⟩
 ·subst hl; simp at hx
 have hfit : idx.toNat * cx.G.sz t + j < cur.size := by
  rw [hsz]
  have : (idx.toNat + 1) * cx.G.sz t ≤ (m L).c * cx.G.sz t := Nat.mul_le_mul_right _ (by omega)
  rw [Nat.add_mul, Nat.one_mul] at this
  omega
 have hown : Owns m L (g (.o L)) (m L).b := by rw [hL]; exact .inl ⟨hc, rfl⟩
 obtain ⟨w', cur', h7, h8, h9, h10, h11, h12, h13, h14, h15⟩ := run_storeCellsW (P := cx.P) (o := idx.toNat * cx.G.sz t + j) [den m (.h N)] 0 w cur hh (by intro v hv; rw [List.mem_singleton.1 hv]; rfl) (by simp; omega)
 have hAw : ∀ b, A b → w'.heap[b]? = w.heap[b]? := fun b hb => h15 b fun e => (h.own L _ hown).2 (e ▸ hb)
 obtain ⟨hpw, hpw1, hpw2⟩ := pairwise_mid h6.ne
 have hsub : ∀ k, ((m S).sub k).c ≠ 0 → w'.heap[((m S).sub k).b]? = w.heap[((m S).sub k).b]? := fun k hk => h15 _ (h5.ne k hk)
 refine ⟨w', hp, h7, h.wrote hown h11 h12 h13 (by omega) (fun k _ hk => h15 k hk) (fun _ _ => rfl) h.fix h.pins (fun k e1 e2 => by rw [upd_one, if_neg (Ne.symm e2)]) (fun _ _ _ _ => rfl) (fun v hv => ?_) (fun o' v hv => ?_) (fun b hv => ?_)⟩
 ·rw [upd_one, if_pos rfl] at hv
  cases hv
  refine ⟨⟨h3, .inr ⟨hc, hp, cur', h8, by rw [h9, hsz], hle, fun i1 x1 hx1 j1 cv1 hcv1 => ?_⟩⟩, h5.step hsub, fun p hp => ?_, ?_⟩
  ·obtain ⟨u1, hu1, hs1⟩ := hin i1 x1 hx1 j1 cv1 hcv1
   have hj1 : j1 < cx.G.sz t := by rw [← cx.G.hsz t x1]; exact (List.getElem?_eq_some_iff.1 hcv1).1
   by_cases e : idx.toNat = i1 ∧ j = j1
   ·obtain ⟨e1, e2⟩ := e
    subst e1; subst e2
    have hs0 : ∀ a', holeAt idx.toNat j (h1 ++ (idx, j, a') :: h2) = some a' := fun a' => by
     rw [holeAt_append, show holeAt idx.toNat j h1 = none from holeAt_none fun p hp h16 => hpw1 p hp h16]
     simp [holeAt]
    rw [hs0] at hs1 ⊢
    exact ⟨den m (.h N), by rw [h10, if_pos ⟨by omega, by simp⟩]; simp, rfl, hs1.2⟩
   ·refine ⟨u1, ?_, ?_⟩
    ·rw [h10, if_neg]
     ·exact hu1
     ·have := flat_ne hj1 hj (fun h => e ⟨h.1.symm, h.2.symm⟩)
      simp only [List.length_singleton]
      omega
    ·rw [holeAt_mid rfl e] at hs1 ⊢
     exact hs1.step (fun _ h => h) hAw (fun _ _ => rfl) (hsub _)
  ·rcases List.mem_append.1 hp with hp | hp
   ·exact h6.lt p (by simp [hp])
   ·rcases List.mem_cons.1 hp with rfl | hp
    ·exact h6.lt (idx, j, N0) (by simp)
    ·exact h6.lt p (by simp [hp])
  ·obtain ⟨a1, a2, a3⟩ := List.pairwise_append.1 h6.ne
   obtain ⟨b1, b2⟩ := List.pairwise_cons.1 a2
   refine List.pairwise_append.2 ⟨a1, List.pairwise_cons.2 ⟨b1, b2⟩, fun p hp q hq => ?_⟩
   rcases List.mem_cons.1 hq with rfl | hq
   ·exact a3 p hp (idx, j, N0) (by simp)
   ·exact a3 p hp q (by simp [hq])
 ·rw [upd_one, if_neg (by simp)] at hv
  obtain ⟨ty, n, h16⟩ := h.cell L o' v hv
  rw [hL] at h16; cases h16
 ·rw [upd_one, if_pos rfl] at hv
  rw [hL]; exact hv
end
end Go.KX

namespace Go.KX
open Go Go.RowKit
noncomputable section
def keyFs (P : Program) (rec : TypeId → Value → Bool) (xs : List Value) (fs : List Field) : Bool :=
 fs.all fun f => !decide (f.name = "_") && (match partL P f.type xs f.offset with | some a => rec f.type a | none => false)
def keyIts (P : Program) (rec : TypeId → Value → Bool) (e sz : Nat) (xs : List Value) (is : List Nat) : Bool :=
 is.all fun i => match partL P e xs (i * sz) with | some a => rec e a | none => false
def keyB (P : Program) : Nat → TypeId → Value → Bool
 | 0, _, _ => false
 | d + 1, t, v =>
  match P.underlying t, v with
  | some .bool, .bool _ => true
  | some (.int _), .int _ _ => true
  | some (.struct fs), .agg xs => keyFs P (keyB P d) xs.toList fs.toList
  | some (.array n e), .agg xs => match P.info? e with
   | some _ => keyIts P (keyB P d) e (P.cellsOf e) xs.toList (List.range n)
   | none => false
  | _, _ => false
theorem run_keyB {P : Program} {em : Bool} {w : World} : ∀ (d d' : Nat) (t : TypeId) (v : Value), keyB P d t v = true → (Instr.checkKey em (d + d') t v).run P w = .ok () w := by
 intro d
 induction d with
 | zero => intro d' t v h; cases h
 | succ d ih =>
  intro d' t v h
  rw [show d + 1 + d' = (d + d') + 1 by omega, Instr.checkKey]
  unfold keyB at h
  split at h
  ·rename_i hu
   simp [run_underlying hu, Result.andThen]
  ·rename_i hu
   simp [run_underlying hu, Result.andThen]
  ·rename_i fs xs hu
   simp only [Sem.run_bind, run_underlying hu, Result.andThen_ok]
   rw [← Array.forIn_toList]
   unfold keyFs at h
   simp only [List.all_eq_true] at h
   generalize fs.toList = L at h
   induction L with
   | nil => simp
   | cons f L ihL =>
    have h1 := h f (by simp)
    simp only [Bool.and_eq_true, Bool.not_eq_true', decide_eq_false_iff_not] at h1
    obtain ⟨hn, h2⟩ := h1
    split at h2
    ·rename_i a ha
     have p1 := run_partL (w := w) ha
     have p2 := ih d' _ _ h2
     simp only [List.forIn_cons, Sem.run_bind, hn, ne_eq, not_false_eq_true, if_true, Result.andThen_ok, p1, p2, Sem.run_pure]
     exact ihL (fun y hy => h y (by simp [hy]))
    ·cases h2
  ·rename_i n e xs hu
   split at h
   ·rename_i i hi
    simp only [Sem.run_bind, run_underlying hu, Result.andThen_ok]
    simp only [Std.Legacy.Range.forIn_eq_forIn_range', Std.Legacy.Range.size, Nat.sub_zero, Nat.add_one_sub_one, Nat.div_one]
    unfold keyIts at h
    simp only [List.all_eq_true] at h
    rw [List.range_eq_range'] at h
    have hsz : (sizeOf e).run P w = .ok (P.cellsOf e) w := by simp [sizeOf, typeInfo, hi, Program.cellsOf]
    generalize List.range' 0 n = is at h
    induction is with
    | nil => simp
    | cons j is ihL =>
     have h2 := h j (by simp)
     split at h2
     ·rename_i a ha
      have p1 := run_partL (w := w) ha
      have p2 := ih d' _ _ h2
      simp only [List.forIn_cons, Sem.run_bind, hsz, Result.andThen_ok, p1, p2, Sem.run_pure]
      exact ihL (fun y hy => h y (by simp [hy]))
     ·cases h2
   ·cases h
  ·cases h
section
variable {α β : Type} [DecidableEq α]
theorem getK_none {x : α} : ∀ {l : List (α × List β)}, x ∉ l.map (·.1) → getK l x = []
 | [], _ => rfl
 | p :: l, h => by
  simp only [List.map_cons, List.mem_cons, not_or] at h
  simp only [getK, if_neg (Ne.symm h.1), getK_none h.2]
theorem getK_at {x : α} : ∀ {l : List (α × List β)} {i : Nat} {p : α × List β}, (l.map (·.1)).Nodup → l[i]? = some p → p.1 = x → getK l x = p.2
 | [], i, p, _, h, _ => by simp at h
 | q :: l, 0, p, _, h, e => by simp at h; subst h; simp [getK, e]
 | q :: l, i + 1, p, hn, h, e => by
  simp only [List.map_cons, List.nodup_cons] at hn
  have h' : l[i]? = some p := by simpa using h
  have : q.1 ≠ x := fun e' => hn.1 (List.mem_map.2 ⟨p, List.mem_of_getElem? h', by rw [e, e']⟩)
  simp only [getK, if_neg this]
  exact getK_at hn.2 h' e
theorem updK_none {x : α} {v : List β} : ∀ {l : List (α × List β)}, x ∉ l.map (·.1) → updK l x v = l
 | [], _ => rfl
 | p :: l, h => by
  simp only [List.map_cons, List.mem_cons, not_or] at h
  simp only [updK, if_neg (Ne.symm h.1), updK_none h.2]
theorem updK_at {x : α} {v : List β} : ∀ {l : List (α × List β)} {i : Nat} {p : α × List β}, (l.map (·.1)).Nodup → l[i]? = some p → p.1 = x → updK l x v = l.set i (x, v)
 | [], i, p, _, h, _ => by simp at h
 | q :: l, 0, p, _, h, e => by simp at h; subst h; simp [updK, e]
 | q :: l, i + 1, p, hn, h, e => by
  simp only [List.map_cons, List.nodup_cons] at hn
  have h' : l[i]? = some p := by simpa using h
  have : q.1 ≠ x := fun e' => hn.1 (List.mem_map.2 ⟨p, List.mem_of_getElem? h', by rw [e, e']⟩)
  simp only [updK, if_neg this, updK_at hn.2 h' e, List.set_cons_succ]
theorem setK_at {x : α} {v : List β} {l : List (α × List β)} {i : Nat} {p : α × List β} (hn : (l.map (·.1)).Nodup) (h : l[i]? = some p) (e : p.1 = x) : setK l x v = updK l x v := by
 have hm : x ∈ l.map (·.1) := List.mem_map.2 ⟨p, List.mem_of_getElem? h, e⟩
 clear h e hn
 induction l with
 | nil => cases hm
 | cons q l ih =>
  simp only [setK, updK]
  split
  ·rfl
  ·rename_i hne
   simp only [List.map_cons, List.mem_cons] at hm
   rw [ih (hm.resolve_left (Ne.symm hne))]
theorem updK_keys {x : α} {v : List β} : ∀ {l : List (α × List β)}, (updK l x v).map (·.1) = l.map (·.1)
 | [] => rfl
 | p :: l => by
  simp only [updK]
  split
  ·rfl
  ·simp only [List.map_cons, updK_keys]
end
def isKC : Value → Bool
 | .int _ _ => true
 | .bool _ => true
 | _ => false
structure KeyOK (P : Program) (G : Reg) (ty kt : Nat) : Prop where
 ex : ∃ k e, P.underlying ty = some (.map k e) ∧ (match P.underlying k with | some (.array _ _) | some (.struct _) => true | _ => false) = true ∧ ∀ x : G.car kt, ∃ vs : List Value, G.enc kt x = vs.map CV.v ∧ vs.all isKC = true ∧ keyB P 8 k (.agg vs.toArray) = true ∧
  ∀ (y : G.car kt) (us : List Value), G.enc kt y = us.map CV.v → eqB P 8 k (.agg vs.toArray) (.agg us.toArray) = some (match G.deq kt x y with | isTrue _ => true | isFalse _ => false)
section
variable {P : Program} {G : Reg} {w : World} {ty kt : Nat}
theorem mapV_inj {car : Nat → Type} {vs us : List Value} (h : vs.map (CV.v (car := car)) = us.map CV.v) : vs = us := by
 induction vs generalizing us with
 | nil => cases us with
  | nil => rfl
  | cons _ _ => cases h
 | cons v vs ih => cases us with
  | nil => cases h
  | cons u us => simp only [List.map_cons, List.cons.injEq, CV.v.injEq] at h; rw [h.1, ih h.2]
theorem find_keys {k : TypeId} {x : G.car kt} {vx : Value} (heq : ∀ (y : G.car kt) (vy : Value), KeyIs G kt y vy → ∀ w, (Op.equal k vx vy).run P w = .ok (match G.deq kt x y with | isTrue _ => true | isFalse _ => false) w) :
  ∀ (es : List MapEntry) (ks : List (G.car kt)) (i0 : Nat), es.length = ks.length → (∀ (i : Nat) (y : G.car kt), ks[i]? = some y → ∃ en : MapEntry, es[i]? = some en ∧ KeyIs G kt y en.key) →
   (∃ (i : Nat) (en : MapEntry), ks[i]? = some x ∧ es[i]? = some en ∧ (Instr.findAsking k vx es i0).run P w = .ok (some (i0 + i, en.val)) w) ∨ (x ∉ ks ∧ (Instr.findAsking k vx es i0).run P w = .ok none w)
 | [], [], i0, _, _ => .inr ⟨by simp, by simp [Instr.findAsking]⟩
 | [], _ :: _, _, h, _ => by simp at h
 | _ :: _, [], _, h, _ => by simp at h
 | e :: es, y :: ks, i0, hl, h => by
  obtain ⟨en, h1, h2⟩ := h 0 y rfl
  have h1 : e = en := by simpa using h1
  subst h1
  have hr := heq y e.key h2 w
  cases hd : G.deq kt x y with
  | isTrue hxy =>
   rw [hd] at hr
   subst hxy
   exact .inl ⟨0, e, rfl, rfl, by simp [Instr.findAsking, hr]⟩
  | isFalse hxy =>
   rw [hd] at hr
   rcases find_keys heq es ks (i0 + 1) (by simpa using hl) (fun i z hz => h (i + 1) z (by simpa using hz)) with ⟨i, en, h3, h4, h5⟩ | ⟨h3, h4⟩
   ·exact .inl ⟨i + 1, en, by simpa using h3, by simpa using h4, by simp [Instr.findAsking, hr, h5, Nat.add_assoc, Nat.add_comm 1 i]⟩
   ·exact .inr ⟨by simp [hxy, h3], by simp [Instr.findAsking, hr, h4]⟩
theorem sameBits_keys : ∀ {vs : List Value}, vs.all isKC = true → Instr.sameBits 10000 (.agg vs.toArray) (.agg vs.toArray) = true := by
 intro vs h
 show Instr.sameBits (9999 + 1) _ _ = true
 simp only [Instr.sameBits, beq_self_eq_true, Bool.true_and, List.all_eq_true]
 intro p hp
 have : p.1 = p.2 ∧ p.1 ∈ vs := by
  clear h
  induction vs with
  | nil => simp at hp
  | cons v vs ih =>
   simp only [List.zip_cons_cons, List.mem_cons] at hp
   rcases hp with rfl | hp
   ·simp
   ·obtain ⟨h1, h2⟩ := ih hp; exact ⟨h1, by simp [h2]⟩
 obtain ⟨h1, h2⟩ := this
 have := List.all_eq_true.1 h p.1 h2
 obtain ⟨a, b⟩ := p
 simp only at h1 this
 subst h1
 cases a <;> simp [isKC, Instr.sameBits] at this ⊢
theorem KeyOK.find (h : KeyOK P G ty kt) : ∃ k e, P.underlying ty = some (.map k e) ∧ ∀ (x : G.car kt) (vx : Value), KeyIs G kt x vx → (∀ em w, (Instr.checkKey em 10000 k vx).run P w = .ok () w) ∧ (∀ w, (Instr.keyThatStays vx vx).run P w = .ok vx w) ∧
  ∀ (w : World) (es : List MapEntry) (ks : List (G.car kt)), es.length = ks.length → (∀ (i : Nat) (y : G.car kt), ks[i]? = some y → ∃ en : MapEntry, es[i]? = some en ∧ KeyIs G kt y en.key) →
   (∃ (i : Nat) (en : MapEntry), ks[i]? = some x ∧ es[i]? = some en ∧ en.key = vx ∧ (Instr.findKey k vx es).run P w = .ok (some (i, en.val)) w) ∨ (x ∉ ks ∧ (Instr.findKey k vx es).run P w = .ok none w) := by
 obtain ⟨k, e, h1, hwide, h2⟩ := h.ex
 refine ⟨k, e, h1, fun x vx hx => ?_⟩
 obtain ⟨vs, h3, h4, h5, h6⟩ := h2 x
 obtain ⟨vs', h7, rfl⟩ := hx
 have := mapV_inj (h3.symm.trans h7)
 subst this
 refine ⟨fun em w => run_keyB 8 9992 _ _ h5, fun w => by simp [Instr.keyThatStays, sameBits_keys h4], fun w es ks hl hk => ?_⟩
 have hfk : (Instr.findKey k (.agg vs.toArray) es).run P w = (Instr.findAsking k (.agg vs.toArray) es).run P w := by
  cases hu : P.underlying k with
  | none => rw [hu] at hwide; cases hwide
  | some d =>
   have hnow : ∀ (es : List MapEntry) (i : Nat), es ≠ [] → Instr.findNow d (.agg vs.toArray) es i = none := fun es i hne => by
    cases es with
    | nil => exact absurd rfl hne
    | cons e es => cases d <;> simp [Instr.findNow, Instr.sameNow]
   cases es with
   | nil => simp [Instr.findKey, run_underlying hu, Result.andThen, Instr.findNow, Instr.findAsking]
   | cons e es => simp [Instr.findKey, run_underlying hu, Result.andThen, hnow (e :: es) 0 (by simp)]
 rw [hfk]
 have hq := find_keys (w := w) (k := k) (x := x) (vx := .agg vs.toArray) (fun y vy hy w => by
  obtain ⟨us, h8, rfl⟩ := hy
  exact run_eqB 8 9992 _ _ _ _ (h6 y us h8) w) es ks 0 hl hk
 rcases hq with ⟨i, en, h8, h9, h10⟩ | h8
 ·refine .inl ⟨i, en, h8, h9, ?_, by simpa using h10⟩
  obtain ⟨en', h11, us, h12, h13⟩ := hk i x h8
  rw [h9] at h11; cases h11
  have := mapV_inj (h3.symm.trans h12)
  subst this
  exact h13
 ·exact .inr h8
end
section
variable {cx : Cx} {m : Nat → MV} {A : Nat → Prop} {g g' : CMap cx} {a : Act} {w : World}
theorem nodup_idx {α : Type} {x : α} : ∀ {l : List α} {i j : Nat}, l.Nodup → l[i]? = some x → l[j]? = some x → i = j
 | [], _, _, _, h, _ => by simp at h
 | y :: l, 0, 0, _, _, _ => rfl
 | y :: l, 0, j + 1, hn, hi, hj => by
  simp only [List.nodup_cons] at hn
  simp at hi hj
  subst hi
  exact absurd (List.mem_of_getElem? hj) hn.1
 | y :: l, i + 1, 0, hn, hi, hj => by
  simp only [List.nodup_cons] at hn
  simp at hi hj
  subst hj
  exact absurd (List.mem_of_getElem? hi) hn.1
 | y :: l, i + 1, j + 1, hn, hi, hj => by
  simp only [List.nodup_cons] at hn
  have := nodup_idx (i := i) (j := j) hn.2 (by simpa using hi) (by simpa using hj)
  rw [this]
theorem holeK_none {G : Reg} {kt : Nat} {x : G.car kt} : ∀ {hs : List (G.car kt × Nat)}, (∀ p ∈ hs, p.1 ≠ x) → holeK x hs = none
 | [], _ => rfl
 | (y, a) :: r, h => by
  have h0 := h (y, a) List.mem_cons_self
  simp only [holeK]
  cases G.deq kt y x with
  | isTrue e => exact absurd e h0
  | isFalse _ => exact holeK_none fun p hp => h p (List.mem_cons_of_mem _ hp)
open Classical in
theorem holeK_cons {G : Reg} {kt a : Nat} {x y : G.car kt} {r : List (G.car kt × Nat)} : holeK x ((y, a) :: r) = if y = x then some a else holeK x r := by
 simp only [holeK]
 cases G.deq kt y x with
 | isTrue e => simp [e]
 | isFalse e => simp [e]
open Classical in
theorem holeK_append {G : Reg} {kt : Nat} {x : G.car kt} : ∀ {h1 h2 : List (G.car kt × Nat)}, holeK x (h1 ++ h2) = match holeK x h1 with | some a => some a | none => holeK x h2
 | [], _ => rfl
 | (y, a) :: r, h2 => by
  rw [List.cons_append, holeK_cons, holeK_cons]
  split
  ·rfl
  ·exact holeK_append
open Classical in
theorem holeK_mid {G : Reg} {kt a : Nat} {x y : G.car kt} {h1 h2 : List (G.car kt × Nat)} (hne : y ≠ x) : holeK x (h1 ++ (y, a) :: h2) = holeK x (h1 ++ h2) := by
 rw [holeK_append, holeK_append, holeK_cons, if_neg hne]
theorem nodup_mid {α : Type} {h1 h2 : List α} {p : α} (h : (h1 ++ p :: h2).Nodup) : (h1 ++ h2).Nodup ∧ p ∉ h1 ++ h2 := by
 obtain ⟨b, b1, b2⟩ := pairwise_mid h
 refine ⟨b, fun hp => ?_⟩
 rcases List.mem_append.1 hp with h5 | h5
 ·exact b1 p h5 rfl
 ·exact b2 p h5 rfl
def openMU {car : Nat → Type} (L N S' kt t e : Nat) (l : List (car kt × List (car t))) (hs zs : List (car kt × Nat)) (x : car kt) (q : List (car t)) : St car :=
 [(.o N, some (.row e t q)), (.o L, some (.dm kt t e l ((x, N) :: hs) zs S'))]
open Classical in
theorem Rel.openMap {L N S S' kt t e : Nat} {l : List (cx.G.car kt × List (cx.G.car t))} {hs zs : List (cx.G.car kt × Nat)} {x : cx.G.car kt} (h : Rel cx m A g a w) (hL : g (.o L) = some (.dm kt t e l hs zs S)) (hno : ∀ p ∈ hs, p.1 ≠ x)
  (hN : Free cx N g) (hS : Free cx S' g) (hNS : N ≠ S') :
  ∃ m', Rel cx m' A (upd (openMU L N S' kt t e l hs zs x (@getK _ _ (cx.G.deq kt) l x)) g) a w ∧ (∀ l, l ≠ N → l ≠ S' → m' l = m l) ∧
   ∃ (es : Array MapEntry) (cl : Nat), w.heap[(m L).b]? = some (.map es cl) ∧ es.size = l.length ∧ (∀ (i : Nat) (p : cx.G.car kt × List (cx.G.car t)), l[i]? = some p → ∃ en, es[i]? = some en ∧ KeyIs cx.G kt p.1 en.key ∧ (p.1 = x → en.val = den m' (.h N))) ∧
    (x ∉ l.map (·.1) → den m' (.h N) = .slice none 0 0) := by
 have hLN : L ≠ N := fun e => by subst e; rw [free_none hN (by simp [keyHas])] at hL; cases hL
 have hLS : L ≠ S' := fun e => by subst e; rw [free_none hS (by simp [keyHas])] at hL; cases hL
 obtain ⟨es, cl, hh, hdm, h3⟩ := h.ent _ _ hL
 have hhole : holeK x hs = none := holeK_none hno
 have hk : ∃ (k : Option Nat) (hv : HV), RowAt cx.G A w hv e t (@getK _ _ (cx.G.deq kt) l x) ∧ (match k with | some k => hv = (m S).sub k ∧ (∃ p, l[k]? = some p ∧ p.1 = x ∧ ∃ en, es[k]? = some en ∧ en.val = .slice hv.p hv.n hv.c) | none => hv = nilHV ∧ x ∉ l.map (·.1)) := by
  by_cases hm : x ∈ l.map (·.1)
  ·obtain ⟨p, hp, hpx⟩ := List.mem_map.1 hm
   obtain ⟨k, hk⟩ := List.getElem?_of_mem hp
   obtain ⟨en, h5, h6, h7⟩ := hdm.ent k p hk
   rw [hpx, hhole] at h7
   obtain ⟨e', he', hfl, hval, hrow⟩ := h7
   cases he'
   refine ⟨some k, (m S).sub k, ?_, rfl, p, hk, hpx, en, h5, hval⟩
   rw [@getK_at _ _ (cx.G.deq kt) x l k p hdm.nodup hk hpx]
   exact hrow
  ·refine ⟨none, nilHV, ?_, rfl, hm⟩
   rw [@getK_none _ _ (cx.G.deq kt) x l hm]
   exact ⟨rfl, .inl ⟨rfl, rfl, 0, rfl⟩⟩
 obtain ⟨k, hv, hrow, hkv⟩ := hk
 obtain ⟨sub', hsub'⟩ : ∃ sub' : Nat → HV, sub' = match k with | some k => setSub (m S).sub k nilHV | none => (m S).sub := ⟨_, rfl⟩
 have sub_old : ∀ k', (sub' k').c ≠ 0 → sub' k' = (m S).sub k' ∧ k ≠ some k' := fun k' hc => by
  subst hsub'
  cases k with
  | none => exact ⟨rfl, by simp⟩
  | some k0 =>
   by_cases e : k' = k0
   ·subst e; simp only [setSub_self] at hc; exact absurd rfl hc
   ·exact ⟨setSub_ne _ _ e, by simp [Ne.symm e]⟩
 have sub_ne : ∀ k', k ≠ some k' → sub' k' = (m S).sub k' := fun k' hne => by
  subst hsub'
  cases k with
  | none => rfl
  | some k0 => exact setSub_ne _ _ fun e => hne (by rw [e])
 have hvb : hv.c ≠ 0 → ∃ k0, k = some k0 ∧ hv = (m S).sub k0 := fun hc => by
  cases k with
  | none => rw [hkv.1] at hc; exact absurd rfl hc
  | some k0 => exact ⟨k0, rfl, hkv.1⟩
 generalize hm' : setL (setL m N (mvOfH hv)) S' (subMV sub') = m'
 have eN : m' N = mvOfH hv := by rw [← hm', setL_ne _ _ hNS, setL_self]
 have eS : m' S' = subMV sub' := by rw [← hm', setL_self]
 have eo : ∀ l, l ≠ N → l ≠ S' → m' l = m l := fun l h5 h6 => by rw [← hm', setL_ne _ _ h6, setL_ne _ _ h5]
 have denN : den m' (.h N) = .slice hv.p hv.n hv.c := by simp only [den, eN, mvOfH]
 generalize hq : @getK _ _ (cx.G.deq kt) l x = q at *
 have hgk : ∀ k, upd (openMU L N S' kt t e l hs zs x q) g k = if k = .o N then some (.row e t q) else if k = .o L then some (.dm kt t e l ((x, N) :: hs) zs S') else g k := upd_two hLN
 have gN : upd (openMU L N S' kt t e l hs zs x q) g (.o N) = some (.row e t q) := by rw [hgk, if_pos rfl]
 have gL : upd (openMU L N S' kt t e l hs zs x q) g (.o L) = some (.dm kt t e l ((x, N) :: hs) zs S') := by rw [hgk, if_neg (by simpa using hLN), if_pos rfl]
 have ownL : ∀ b, Owns m' L (some (.dm kt t e l ((x, N) :: hs) zs S' : Val cx.G.car)) b → Owns m L (g (.o L)) b ∧ (hv.c ≠ 0 → b ≠ hv.b) := fun b hb => by
  rw [hL]
  simp only [Owns, eo L hLN hLS, eS, subMV] at hb
  rcases hb with hb | ⟨k', hk', rfl⟩
  ·refine ⟨.inl hb, fun h5 => ?_⟩
   obtain ⟨k0, _, h6⟩ := hvb h5
   rw [hb, h6]; rw [h6] at h5; exact (h3.ne k0 h5).symm
  ·obtain ⟨h6, h7⟩ := sub_old k' hk'
   rw [h6] at hk' ⊢
   refine ⟨.inr ⟨k', hk', rfl⟩, fun h5 h8 => ?_⟩
   obtain ⟨k0, h9, h10⟩ := hvb h5
   rw [h10] at h5 h8
   exact h7 (by rw [h9, h3.inj _ _ hk' h5 h8])
 have ownN : ∀ b, Owns m' N (some (.row e t q : Val cx.G.car)) b → hv.c ≠ 0 ∧ b = hv.b := fun b hb => by
  simp only [Owns, eN, mvOfH] at hb; exact hb
 have hment : ∀ k' l', mentions l' k' (g k') = true → m' l' = m l' := fun k' l' hl' => by
  cases e : g k' with
  | none => rw [e] at hl'; cases hl'
  | some v => rw [e] at hl'; exact eo l' (free_ne hN e l' hl') (free_ne hS e l' hl')
 have hholes : ∀ p ∈ hs, m' p.2 = m p.2 := fun p hp => hment (.o L) _ (by
  rw [hL]
  simp only [mentions, valHas, keyHas, Bool.or_eq_true, List.any_eq_true]
  exact .inl (.inl (.inr ⟨p, hp, by simp⟩)))
 have hzs : ∀ p ∈ zs, m' p.2 = m p.2 := fun p hp => hment (.o L) _ (by
  rw [hL]
  simp only [mentions, valHas, keyHas, Bool.or_eq_true, List.any_eq_true]
  exact .inl (.inr ⟨p, hp, by simp⟩))
 refine ⟨m', h.regive (T := fun l' => l' = L ∨ l' = N) (fun k' hk' => ?_) (fun k' _ => hment k') (fun l' o hT => ?_) (fun l' v hT hv => ?_) (fun l' b hT hb => ?_) (fun l1 l2 b hT1 hT2 hb1 hb2 => ?_) (fun p hp => eo _ (hN.2.1 p hp) (hS.2.1 p hp)) (fun L' hL' => eo _ (fun e => ?_) (fun e => ?_)), eo, es, cl, hh, hdm.size, fun i p hp => ?_, fun hm => ?_⟩
 ·rw [hgk, if_neg (fun e => hk' N (.inr rfl) e), if_neg (fun e => hk' L (.inl rfl) e)]
 ·rcases hT with rfl | rfl
  ·cases e : g (.c l' o) with
   | none => rfl
   | some v => obtain ⟨ty, n, h5⟩ := h.cell _ _ _ e; rw [hL] at h5; cases h5
  ·exact free_none hN (by simp [keyHas])
 ·rcases hT with rfl | rfl
  ·rw [gL] at hv; cases hv
   show ∃ es cl, w.heap[(m' l').b]? = some (.map es cl) ∧ _
   rw [eo l' hLN hLS]
   refine ⟨es, cl, hh, ?_, ?_⟩
   ·rw [eS]
    refine ⟨hdm.size, hdm.nodup, fun i p hp => ?_, fun p hp hn => ?_, List.nodup_cons.2 ⟨fun h5 => ?_, hdm.holes⟩, hdm.born, hdm.clock, fun q hq => by rw [hzs q hq]; exact hdm.stamp q hq⟩
    ·obtain ⟨en, h5, h6, h7⟩ := hdm.ent i p hp
     refine ⟨en, h5, h6, ?_⟩
     rw [holeK_cons]
     by_cases e0 : x = p.1
     ·rw [if_pos e0]
      cases k with
      | none => exact absurd (List.mem_map.2 ⟨p, List.mem_of_getElem? hp, e0.symm⟩) hkv.2
      | some k0 =>
       obtain ⟨hkv1, p0, h8, h9, en0, h10, h11⟩ := hkv
       have hik : i = k0 := by
        have h12 : (l.map (·.1))[i]? = some x := by rw [List.getElem?_map, hp]; simp [e0]
        have h13 : (l.map (·.1))[k0]? = some x := by rw [List.getElem?_map, h8]; simp [h9]
        exact nodup_idx hdm.nodup h12 h13
       subst hik
       rw [h10] at h5; cases h5
       refine ⟨by rw [denN, h11], ?_, _, _, rfl⟩
       show (sub' i).c = 0
       subst hsub'
       simp only [setSub_self]; rfl
     ·rw [if_neg e0]
      have hne : k ≠ some i := fun e1 => by
       subst e1
       obtain ⟨_, p0, h8, h9, _⟩ := hkv
       rw [hp] at h8; cases h8
       exact e0 h9.symm
      show SubIs _ _ _ _ (sub' i) _ _ _ _
      rw [sub_ne i hne]
      exact h7.step (fun _ h => h) (fun _ _ => rfl) (fun a' ha' => hholes _ (holeK_mem ha')) (fun _ => rfl)
    ·rcases List.mem_cons.1 hp with rfl | hp
     ·rw [denN]
      cases k with
      | none => rw [hkv.1]; rfl
      | some k0 =>
       obtain ⟨_, p0, h8, h9, _⟩ := hkv
       exact absurd (List.mem_map.2 ⟨p0, List.mem_of_getElem? h8, h9⟩) hn
     ·simp only [den, hholes p hp]; exact hdm.nil p hp hn
    ·obtain ⟨p, hp, h6⟩ := List.mem_map.1 h5
     exact hno p hp h6
   ·rw [eS]
    show SubsOK w sub' _ _
    subst hsub'
    cases k with
    | none => exact h3
    | some k0 => exact h3.out k0
  ·rw [gN] at hv; cases hv
   show (m' l').n = _ ∧ _
   rw [eN]
   exact hrow
 ·rcases hT with rfl | rfl
  ·rw [gL] at hb; exact ⟨l', .inl rfl, (ownL b hb).1⟩
  ·rw [gN] at hb
   obtain ⟨h5, rfl⟩ := ownN b hb
   obtain ⟨k0, _, h6⟩ := hvb h5
   rw [h6] at h5 ⊢
   exact ⟨L, .inl rfl, by rw [hL]; exact .inr ⟨k0, h5, rfl⟩⟩
 ·rcases hT1 with rfl | rfl <;> rcases hT2 with rfl | rfl
  ·rfl
  ·rw [gL] at hb1; rw [gN] at hb2
   obtain ⟨h5, rfl⟩ := ownN b hb2
   exact absurd rfl ((ownL _ hb1).2 h5)
  ·rw [gN] at hb1; rw [gL] at hb2
   obtain ⟨h5, rfl⟩ := ownN b hb1
   exact absurd rfl ((ownL _ hb2).2 h5)
  ·rfl
 ·subst e; exact absurd hL' (Nat.not_lt.2 hN.2.2)
 ·subst e; exact absurd hL' (Nat.not_lt.2 hS.2.2)
 ·obtain ⟨en, h5, h6, h7⟩ := hdm.ent i p hp
  refine ⟨en, h5, h6, fun hpx => ?_⟩
  rw [hpx, hhole] at h7
  obtain ⟨e', _, _, hval, _⟩ := h7
  rw [hval, denN]
  cases k with
  | none => exact absurd (List.mem_map.2 ⟨p, List.mem_of_getElem? hp, hpx⟩) hkv.2
  | some k0 =>
   obtain ⟨hkv1, p0, h8, h9, _⟩ := hkv
   have hik : i = k0 := by
    have h12 : (l.map (·.1))[i]? = some x := by rw [List.getElem?_map, hp]; simp [hpx]
    have h13 : (l.map (·.1))[k0]? = some x := by rw [List.getElem?_map, h8]; simp [h9]
    exact nodup_idx hdm.nodup h12 h13
   subst hik
   rw [hkv1]
 ·rw [denN]
  cases k with
  | none => rw [hkv.1]; rfl
  | some k0 =>
   obtain ⟨_, p0, h8, h9, _⟩ := hkv
   exact absurd (List.mem_map.2 ⟨p0, List.mem_of_getElem? h8, h9⟩) hm
end
section
variable {α β : Type} [DecidableEq α]
theorem insK_mem {x : α} : ∀ {l : List (α × List β)}, x ∈ l.map (·.1) → insK l x = l
 | [], h => by cases h
 | p :: l, h => by
  simp only [insK]
  split
  ·rfl
  ·rename_i hne
   simp only [List.map_cons, List.mem_cons] at h
   rw [insK_mem (h.resolve_left (Ne.symm hne))]
theorem insK_none {x : α} : ∀ {l : List (α × List β)}, x ∉ l.map (·.1) → insK l x = l ++ [(x, [])]
 | [], _ => rfl
 | p :: l, h => by
  simp only [List.map_cons, List.mem_cons, not_or] at h
  simp only [insK, if_neg (Ne.symm h.1), insK_none h.2, List.cons_append]
theorem updK_insK {x : α} {v : List β} : ∀ {l : List (α × List β)}, updK (insK l x) x v = setK l x v
 | [] => by simp [insK, updK, setK]
 | p :: l => by
  simp only [insK, setK]
  split
  ·rename_i e; simp [updK, e]
  ·rename_i e; simp [updK, e, updK_insK]
end
section
variable {cx : Cx} {m : Nat → MV} {A : Nat → Prop} {g g' : CMap cx} {a : Act} {w : World}
theorem Rel.mapWrote {m' : Nat → MV} {L N N0 S kt t e cl cl' : Nat} {l l' : List (cx.G.car kt × List (cx.G.car t))} {h1 h2 zs zs' : List (cx.G.car kt × Nat)} {x : cx.G.car kt} {es es' : Array MapEntry} (h : Rel cx m A g a w)
  (hL : g (.o L) = some (.dm kt t e l (h1 ++ (x, N0) :: h2) zs S)) (hh : w.heap[(m L).b]? = some (.map es cl)) (hdm : DmIn cx.G A w m (m S).sub es kt t e l (h1 ++ (x, N0) :: h2) zs cl) (h3 : SubsOK w (m S).sub (m L).b (fun k => k < l.length))
  (hZ : ∃ Z, (∀ l, l ≠ Z → m' l = m l) ∧ (Free cx Z g ∨ m' = m))
  (hsz : es'.size = l'.length) (hnd' : (l'.map (·.1)).Nodup) (hold : ∀ y, y ∈ l.map (·.1) → y ∈ l'.map (·.1)) (hxl : x ∈ l'.map (·.1)) (hle : l.length ≤ l'.length)
  (hbn : (es'.toList.map (·.born)).Nodup) (hck : ∀ en ∈ es'.toList, en.born < cl') (hst : ∀ q ∈ zs', ∃ (k : Nat) (p : cx.G.car kt × List (cx.G.car t)) (en : MapEntry), l'[k]? = some p ∧ p.1 = q.1 ∧ es'[k]? = some en ∧ en.born = (m' q.2).n)
  (hN : den m' (.h N) = den m (.h N))
  (hent : ∀ (k : Nat) (p : cx.G.car kt × List (cx.G.car t)), l'[k]? = some p → ∃ en : MapEntry, es'[k]? = some en ∧ KeyIs cx.G kt p.1 en.key ∧ ((p.1 = x → en.val = den m (.h N) ∧ ((m S).sub k).c = 0) ∧ (p.1 ≠ x → l[k]? = some p ∧ ∃ en0, es[k]? = some en0 ∧ en.val = en0.val))) :
  Rel cx m' A (upd [(.o L, some (.dm kt t e l' (h1 ++ (x, N) :: h2) zs' S))] g) a { w with heap := w.heap.setIfInBounds (m L).b (.map es' cl') } := by
 have hown : Owns m L (g (.o L)) (m L).b := by rw [hL]; exact .inl rfl
 obtain ⟨Z, hZ1, hZ2⟩ := hZ
 have hment : ∀ k' l', mentions l' k' (g k') = true → m' l' = m l' := fun k' l' hl' => by
  rcases hZ2 with hf | rfl
  ·cases e : g k' with
   | none => rw [e] at hl'; cases hl'
   | some v => rw [e] at hl'; exact hZ1 l' (free_ne hf e l' hl')
  ·rfl
 have mL : m' L = m L := hment (.o L) L (by rw [hL]; simp [mentions, keyHas])
 have mS : m' S = m S := hment (.o L) S (by rw [hL]; simp [mentions, valHas])
 have hho : ∀ p ∈ h1 ++ (x, N0) :: h2, m' p.2 = m p.2 := fun p hp => hment (.o L) _ (by
  rw [hL]
  simp only [mentions, valHas, keyHas, Bool.or_eq_true, List.any_eq_true]
  exact .inl (.inl (.inr ⟨p, hp, by simp⟩)))
 obtain ⟨hnd, hnot⟩ := nodup_mid (by have := hdm.holes; rw [List.map_append, List.map_cons] at this; exact this)
 have hh1 : holeK x h1 = none := holeK_none fun p hp e => hnot (by simp only [List.mem_append, List.mem_map]; exact .inl ⟨p, hp, e⟩)
 have hhole : ∀ N, holeK x (h1 ++ (x, N) :: h2) = some N := fun N => by rw [holeK_append, hh1, holeK_cons, if_pos rfl]
 have hsubs : ∀ k, ((m S).sub k).c ≠ 0 → (m L).b ≠ ((m S).sub k).b := fun k hk => (h3.ne k hk).symm
 have hlt : (m L).b < w.heap.size := (Array.getElem?_eq_some_iff.1 hh).1
 have hoth : ∀ k, k ≠ (m L).b → (w.heap.setIfInBounds (m L).b (.map es' cl'))[k]? = w.heap[k]? := fun k hk => by simp [Ne.symm hk]
 have hglo : ∀ p ∈ cx.glo, (m' p.1).b = p.2 := fun p hp => by
  rcases hZ2 with hf | rfl
  ·rw [hZ1 _ (hf.2.1 p hp)]; exact h.fix p hp
  ·exact h.fix p hp
 have hpin : ∀ L, L < cx.pn → m' L = cx.pm L := fun L' hL' => by
  rcases hZ2 with hf | rfl
  ·rw [hZ1 _ (fun e => by subst e; exact absurd hL' (Nat.not_lt.2 hf.2.2))]; exact h.pins L' hL'
  ·exact h.pins L' hL'
 have hr : Rel cx m' A g a w := by
  refine h.regive (T := fun _ => False) (fun _ _ => rfl) (fun k' _ => hment k') (fun _ _ h => h.elim) (fun _ _ h => h.elim) (fun _ _ h => h.elim) (fun _ _ _ h => h.elim) (fun p hp => ?_) (fun L' hL' => ?_)
  ·rcases hZ2 with hf | rfl
   ·exact hZ1 _ (hf.2.1 p hp)
   ·rfl
  ·rcases hZ2 with hf | rfl
   ·exact hZ1 _ (fun e => by subst e; exact absurd hL' (Nat.not_lt.2 hf.2.2))
   ·rfl
 have hown' : Owns m' L (g (.o L)) (m' L).b := by rw [hL]; exact .inl rfl
 refine hr.wrote hown' rfl rfl .rfl (by simp) (fun k _ hk => hoth k (by rw [← mL]; exact hk)) (fun _ _ => rfl) hglo hpin (fun k e1 e2 => by rw [upd_one, if_neg (Ne.symm e2)]) (fun _ _ _ _ => rfl) (fun v hv => ?_) (fun o v hv => ?_) (fun b hv => ?_)
 ·rw [upd_one, if_pos rfl] at hv
  cases hv
  show ∃ es cl, _ ∧ DmIn _ _ _ _ (m' S).sub _ _ _ _ _ _ _ _ ∧ SubsOK _ (m' S).sub (m' L).b _
  rw [mL, mS]
  refine ⟨es', cl', by simp [hlt], ⟨hsz, hnd', fun k p hp => ?_, fun q hq hn => ?_, ?_, hbn, hck, hst⟩, ?_⟩
  ·obtain ⟨en, h5, h6, h7, h7'⟩ := hent k p hp
   refine ⟨en, h5, h6, ?_⟩
   by_cases e0 : p.1 = x
   ·obtain ⟨h8, h9⟩ := h7 e0
    rw [e0, hhole]
    exact ⟨h8.trans hN.symm, h9, _, _, rfl⟩
   ·obtain ⟨h8, en0, h9, h10⟩ := h7' e0
    obtain ⟨en1, h11, _, h12⟩ := hdm.ent k p h8
    rw [h9] at h11; cases h11
    rw [holeK_mid (Ne.symm e0)] at h12 ⊢
    rw [h10]
    refine h12.step (fun _ h => h) (fun b hb => hoth b fun e => (h.own L _ hown).2 (e ▸ hb)) (fun a' ha' => ?_) (fun hc => hoth _ (hsubs k hc).symm)
    have := holeK_mem ha'
    exact hho (p.1, a') (by rcases List.mem_append.1 this with h13 | h13 <;> simp [h13])
  ·have hq' : q.1 ≠ x → q ∈ h1 ++ (x, N0) :: h2 := fun hne => by
    rcases List.mem_append.1 hq with h5 | h5
    ·exact List.mem_append.2 (.inl h5)
    ·rcases List.mem_cons.1 h5 with rfl | h5
     ·exact absurd rfl hne
     ·exact List.mem_append.2 (.inr (List.mem_cons_of_mem _ h5))
   by_cases e0 : q.1 = x
   ·rw [e0] at hn; exact absurd hxl hn
   ·simp only [den, hho q (hq' e0)]
    exact hdm.nil q (hq' e0) fun h5 => hn (hold _ h5)
  ·have := hdm.holes
   simp only [List.map_append, List.map_cons] at this ⊢
   exact this
  ·exact ⟨h3.inj, h3.ne, fun k hk => Nat.lt_of_lt_of_le (h3.real k hk) hle, fun k hk => by
    show ∃ o, (w.heap.setIfInBounds (m L).b (.map es' cl'))[((m S).sub k).b]? = some o ∧ _
    rw [hoth _ (hsubs k hk).symm]; exact h3.dat k hk⟩
 ·rw [upd_one, if_neg (by simp)] at hv
  obtain ⟨ty, n, h5⟩ := h.cell L o v hv
  rw [hL] at h5; cases h5
 ·rw [upd_one, if_pos rfl] at hv
  rw [hL]; exact hv
theorem dm_find {S ty kt t e cl : Nat} {l : List (cx.G.car kt × List (cx.G.car t))} {hs zs : List (cx.G.car kt × Nat)} {x : cx.G.car kt} {vx : Value} {es : Array MapEntry} (hk : KeyOK cx.P cx.G ty kt) (hdm : DmIn cx.G A w m (m S).sub es kt t e l hs zs cl) (hx : KeyIs cx.G kt x vx) :
  ∃ k el, cx.P.underlying ty = some (.map k el) ∧ (∀ em w, (Instr.checkKey em 10000 k vx).run cx.P w = .ok () w) ∧
   ((∃ (i : Nat) (p : cx.G.car kt × List (cx.G.car t)) (en : MapEntry), l[i]? = some p ∧ p.1 = x ∧ es[i]? = some en ∧ en.key = vx ∧ (Instr.findKey k vx es.toList).run cx.P w = .ok (some (i, en.val)) w ∧ (∀ w, (Instr.keyThatStays (((es[i]?).map (·.key)).getD vx) vx).run cx.P w = .ok vx w)) ∨
    (x ∉ l.map (·.1) ∧ (Instr.findKey k vx es.toList).run cx.P w = .ok none w)) := by
 obtain ⟨k, el, hty, hfind⟩ := hk.find
 obtain ⟨hcheck, hstay, hfk⟩ := hfind x vx hx
 have hkeys : ∀ (i : Nat) (y : cx.G.car kt), (l.map (·.1))[i]? = some y → ∃ en : MapEntry, es.toList[i]? = some en ∧ KeyIs cx.G kt y en.key := fun i y hy => by
  rw [List.getElem?_map] at hy
  obtain ⟨p, hp, rfl⟩ := Option.map_eq_some_iff.1 hy
  obtain ⟨en, h5, h6, _⟩ := hdm.ent i p hp
  exact ⟨en, by simpa using h5, h6⟩
 refine ⟨k, el, hty, hcheck, ?_⟩
 rcases hfk w es.toList (l.map (·.1)) (by simpa using hdm.size) hkeys with ⟨i, en, h5, h6, h7, h8⟩ | h5
 ·rw [List.getElem?_map] at h5
  obtain ⟨p, hp, hpx⟩ := Option.map_eq_some_iff.1 h5
  have hes : es[i]? = some en := by simpa using h6
  exact .inl ⟨i, p, en, hp, hpx, hes, h7, h8, fun w => by rw [hes]; show (Instr.keyThatStays en.key vx).run _ _ = _; rw [h7]; exact hstay w⟩
 ·exact .inr h5
theorem born_modify {es : Array MapEntry} {i : Nat} {f : MapEntry → MapEntry} (hf : ∀ e, (f e).born = e.born) : (es.modify i f).toList.map (·.born) = es.toList.map (·.born) := by
 apply List.ext_getElem?
 intro j
 simp only [List.getElem?_map, Array.getElem?_toList, Array.getElem?_modify]
 by_cases e : i = j
 ·subst e
  cases es[i]? with
  | none => simp
  | some en => simp [hf]
 ·simp [e]
theorem clock_modify {es : Array MapEntry} {i cl : Nat} {f : MapEntry → MapEntry} (hf : ∀ e, (f e).born = e.born) (h : ∀ en ∈ es.toList, en.born < cl) : ∀ en ∈ (es.modify i f).toList, en.born < cl := by
 intro en hen
 have : en.born ∈ (es.modify i f).toList.map (·.born) := List.mem_map.2 ⟨en, hen, rfl⟩
 rw [born_modify hf] at this
 obtain ⟨en', h1, h2⟩ := List.mem_map.1 this
 rw [← h2]; exact h en' h1
open Classical in
theorem dm_put {kt t e cl S L N N0 : Nat} {l : List (cx.G.car kt × List (cx.G.car t))} {h1 h2 zs : List (cx.G.car kt × Nat)} {x : cx.G.car kt} {vx : Value} {es : Array MapEntry} (hdm : DmIn cx.G A w m (m S).sub es kt t e l (h1 ++ (x, N0) :: h2) zs cl) (h3 : SubsOK w (m S).sub (m L).b (fun k => k < l.length))
  (hx : KeyIs cx.G kt x vx) {i : Nat} {p : cx.G.car kt × List (cx.G.car t)} {en : MapEntry} (hp : l[i]? = some p) (hpx : p.1 = x) (hes : es[i]? = some en) :
  ∀ (k : Nat) (p : cx.G.car kt × List (cx.G.car t)), l[k]? = some p → ∃ en : MapEntry, (es.modify i fun e => { e with key := vx, val := den m (.h N) })[k]? = some en ∧ KeyIs cx.G kt p.1 en.key ∧ ((p.1 = x → en.val = den m (.h N) ∧ ((m S).sub k).c = 0) ∧ (p.1 ≠ x → l[k]? = some p ∧ ∃ en0, es[k]? = some en0 ∧ en.val = en0.val)) := by
 intro k' p' hp'
 obtain ⟨en1, h9, h10, h11⟩ := hdm.ent k' p' hp'
 obtain ⟨hnd, hnot⟩ := nodup_mid (by have := hdm.holes; rw [List.map_append, List.map_cons] at this; exact this)
 have hh1 : holeK x h1 = none := holeK_none fun p hp e => hnot (by simp only [List.mem_append, List.mem_map]; exact .inl ⟨p, hp, e⟩)
 have hhole : ∀ N, holeK x (h1 ++ (x, N) :: h2) = some N := fun N => by rw [holeK_append, hh1, holeK_cons, if_pos rfl]
 by_cases e0 : p'.1 = x
 ·have hki : k' = i := nodup_idx hdm.nodup (x := x) (by rw [List.getElem?_map, hp']; simp [e0]) (by rw [List.getElem?_map, hp]; simp [hpx])
  subst hki
  refine ⟨{ en with key := vx, val := den m (.h N) }, by simp [Array.getElem?_modify, hes], by rw [e0]; exact hx, fun _ => ⟨rfl, ?_⟩, fun h => absurd e0 h⟩
  rw [e0, hhole] at h11
  exact h11.2.1
 ·have hki : i ≠ k' := fun e => by
   subst e
   rw [hp] at hp'; cases hp'
   exact e0 hpx
  exact ⟨en1, by simp [Array.getElem?_modify, hki, h9], h10, fun h => absurd h e0, fun _ => ⟨hp', en1, h9, rfl⟩⟩
theorem dm_push {kt t e cl S L N N0 : Nat} {l : List (cx.G.car kt × List (cx.G.car t))} {h1 h2 zs : List (cx.G.car kt × Nat)} {x : cx.G.car kt} {vx : Value} {es : Array MapEntry} (hdm : DmIn cx.G A w m (m S).sub es kt t e l (h1 ++ (x, N0) :: h2) zs cl) (h3 : SubsOK w (m S).sub (m L).b (fun k => k < l.length))
  (hx : KeyIs cx.G kt x vx) (h5 : x ∉ l.map (·.1)) {q : List (cx.G.car t)} :
  ∀ (k : Nat) (p : cx.G.car kt × List (cx.G.car t)), (l ++ [(x, q)])[k]? = some p → ∃ en : MapEntry, (es.push { key := vx, val := den m (.h N), born := cl })[k]? = some en ∧ KeyIs cx.G kt p.1 en.key ∧ ((p.1 = x → en.val = den m (.h N) ∧ ((m S).sub k).c = 0) ∧ (p.1 ≠ x → l[k]? = some p ∧ ∃ en0, es[k]? = some en0 ∧ en.val = en0.val)) := by
 intro k' p hp
 rcases Nat.lt_or_ge k' l.length with hlt | hge
 ·rw [List.getElem?_append_left hlt] at hp
  obtain ⟨en1, h9, h10, h11⟩ := hdm.ent k' p hp
  have hlt' : k' < es.size := by rw [hdm.size]; exact hlt
  have e0 : p.1 ≠ x := fun e => h5 (List.mem_map.2 ⟨p, List.mem_of_getElem? hp, e⟩)
  exact ⟨en1, by rw [Array.getElem?_push_lt hlt']; rw [Array.getElem?_eq_getElem hlt'] at h9; exact h9, h10, fun h => absurd h e0, fun _ => ⟨hp, en1, h9, rfl⟩⟩
 ·have hk' : k' = l.length := by
   have := (List.getElem?_eq_some_iff.1 hp).1
   simp at this; omega
  subst hk'
  simp at hp
  subst hp
  refine ⟨⟨vx, den m (.h N), cl⟩, by rw [← hdm.size]; simp, hx, fun _ => ⟨rfl, ?_⟩, fun h => absurd rfl h⟩
  apply Classical.byContradiction
  intro hc
  exact Nat.lt_irrefl _ (h3.real _ hc)
theorem stamp_put {kt t : Nat} {l l' : List (cx.G.car kt × List (cx.G.car t))} {es es' : Array MapEntry} {zs : List (cx.G.car kt × Nat)} (h : ∀ q ∈ zs, ∃ (k : Nat) (p : cx.G.car kt × List (cx.G.car t)) (en : MapEntry), l[k]? = some p ∧ p.1 = q.1 ∧ es[k]? = some en ∧ en.born = (m q.2).n)
  (hl : ∀ (k : Nat) (p : cx.G.car kt × List (cx.G.car t)), l[k]? = some p → ∃ p', l'[k]? = some p' ∧ p'.1 = p.1) (hes : ∀ (k : Nat) (en : MapEntry), es[k]? = some en → ∃ en' : MapEntry, es'[k]? = some en' ∧ en'.born = en.born) :
  ∀ q ∈ zs, ∃ (k : Nat) (p : cx.G.car kt × List (cx.G.car t)) (en : MapEntry), l'[k]? = some p ∧ p.1 = q.1 ∧ es'[k]? = some en ∧ en.born = (m q.2).n := by
 intro q hq
 obtain ⟨k, p, en, h1, h2, h3, h4⟩ := h q hq
 obtain ⟨p', h5, h6⟩ := hl k p h1
 obtain ⟨en', h7, h8⟩ := hes k en h3
 exact ⟨k, p', en', h5, h6.trans h2, h7, h8.trans h4⟩
theorem modify_born {es : Array MapEntry} {i : Nat} {f : MapEntry → MapEntry} (hf : ∀ e, (f e).born = e.born) (k : Nat) (en : MapEntry) (h : es[k]? = some en) : ∃ en' : MapEntry, (es.modify i f)[k]? = some en' ∧ en'.born = en.born := by
 rw [Array.getElem?_modify]
 by_cases e : i = k
 ·subst e; rw [h]; exact ⟨f en, by simp, hf en⟩
 ·rw [if_neg e]; exact ⟨en, h, rfl⟩
theorem push_born {es : Array MapEntry} {x : MapEntry} (k : Nat) (en : MapEntry) (h : es[k]? = some en) : ∃ en' : MapEntry, (es.push x)[k]? = some en' ∧ en'.born = en.born := by
 have hlt := (Array.getElem?_eq_some_iff.1 h).1
 exact ⟨en, by rw [Array.getElem?_push_lt hlt]; rw [Array.getElem?_eq_getElem hlt] at h; exact h, rfl⟩
theorem nodup_push {es : Array MapEntry} {cl : Nat} {k v : Value} (hn : (es.toList.map (·.born)).Nodup) (hc : ∀ en ∈ es.toList, en.born < cl) : ((es.push ⟨k, v, cl⟩).toList.map (·.born)).Nodup ∧ ∀ en ∈ (es.push ⟨k, v, cl⟩).toList, en.born < cl + 1 := by
 constructor
 ·simp only [Array.toList_push, List.map_append, List.map_cons, List.map_nil]
  refine List.nodup_append.2 ⟨hn, by simp, fun y hy z hz => ?_⟩
  simp only [List.mem_singleton] at hz
  subst hz
  obtain ⟨en, h1, rfl⟩ := List.mem_map.1 hy
  exact Nat.ne_of_lt (hc en h1)
 ·intro en hen
  simp only [Array.toList_push, List.mem_append, List.mem_singleton] at hen
  rcases hen with hen | rfl
  ·exact Nat.lt_succ_of_lt (hc en hen)
  ·exact Nat.lt_succ_self _
theorem snoc_keys {kt t : Nat} {l : List (cx.G.car kt × List (cx.G.car t))} {x : cx.G.car kt} {q : List (cx.G.car t)} (hn : (l.map (·.1)).Nodup) (h : x ∉ l.map (·.1)) : ((l ++ [(x, q)]).map (·.1)).Nodup := by
 rw [List.map_append]
 refine List.nodup_append.2 ⟨hn, by simp, fun y hy z hz => ?_⟩
 simp only [List.map_cons, List.map_nil, List.mem_singleton] at hz
 subst hz
 exact fun e => h (e ▸ hy)
open Classical in
theorem Rel.writeMap {L N N0 S ty kt t e : Nat} {l : List (cx.G.car kt × List (cx.G.car t))} {h1 h2 zs : List (cx.G.car kt × Nat)} {x : cx.G.car kt} {vx : Value} (h : Rel cx m A g a w) (hk : KeyOK cx.P cx.G ty kt)
  (hL : g (.o L) = some (.dm kt t e l (h1 ++ (x, N0) :: h2) zs S)) (hx : KeyIs cx.G kt x vx) :
  ∃ w', (Instr.mapUpdate ty (.map (some (m L).b)) vx (den m (.h N))).run cx.P w = .ok () w' ∧ Rel cx m A (upd [(.o L, some (.dm kt t e (@insK _ _ (cx.G.deq kt) l x) (h1 ++ (x, N) :: h2) zs S))] g) a w' := by
 obtain ⟨es, cl, hh, hdm, h3⟩ := h.ent _ _ hL
 obtain ⟨k, el, hty, hcheck, hf⟩ := dm_find (w := w) hk hdm hx
 rcases hf with ⟨i, p, en, hp, hpx, hes, h7, h8, hkst⟩ | ⟨h5, h6⟩
 ·have hmem : x ∈ l.map (·.1) := List.mem_map.2 ⟨p, List.mem_of_getElem? hp, hpx⟩
  rw [@insK_mem _ _ (cx.G.deq kt) x l hmem]
  refine ⟨{ w with heap := w.heap.setIfInBounds (m L).b (.map (es.modify i fun e => { e with key := vx, val := den m (.h N) }) cl) }, ?_,
   h.mapWrote hL hh hdm h3 ⟨0, fun _ _ => rfl, .inr rfl⟩ (by simpa using hdm.size) hdm.nodup (fun _ h => h) hmem (Nat.le_refl _) (by rw [born_modify (f := fun e => ({ e with key := vx, val := den m (.h N) } : MapEntry)) (fun _ => rfl)]; exact hdm.born) (clock_modify (fun _ => rfl) hdm.clock) (stamp_put hdm.stamp (fun k p hp => ⟨p, hp, rfl⟩) (modify_born fun _ => rfl)) rfl (dm_put hdm h3 hx hp hpx hes)⟩
  simp only [Instr.mapUpdate, run_underlying hty, MapKept.run_getObj_map hh, hcheck, h8, Result.andThen, Sem.run_bind, hkst, MapKept.run_setObj_map _ hh]
 ·rw [@insK_none _ _ (cx.G.deq kt) x l h5]
  obtain ⟨hb1, hb2⟩ := nodup_push (k := vx) (v := den m (.h N)) hdm.born hdm.clock
  refine ⟨{ w with heap := w.heap.setIfInBounds (m L).b (.map (es.push { key := vx, val := den m (.h N), born := cl }) (cl + 1)) }, ?_,
   h.mapWrote hL hh hdm h3 ⟨0, fun _ _ => rfl, .inr rfl⟩ (by simp [hdm.size]) (snoc_keys hdm.nodup h5) (fun y hy => by simp only [List.map_append, List.mem_append]; exact .inl hy) (by simp) (by simp) hb1 hb2 (stamp_put hdm.stamp (fun k p hp => ⟨p, by rw [List.getElem?_append_left (List.getElem?_eq_some_iff.1 hp).1]; exact hp, rfl⟩) push_born) rfl (dm_push hdm h3 hx h5)⟩
  simp [Instr.mapUpdate, run_underlying hty, MapKept.run_getObj_map hh, hcheck, h6, Result.andThen, MapKept.run_setObj_map _ hh]
end
def subAt (sub : Nat → HV) (k : Option Nat) (h : HV) : Nat → HV := match k with
 | some k => setSub sub k h
 | none => sub
section
variable {cx : Cx} {m : Nat → MV} {A : Nat → Prop} {g g' : CMap cx} {a : Act} {w : World}
def closeMU {car : Nat → Type} (L N S' kt t e : Nat) (l : List (car kt × List (car t))) (hs zs : List (car kt × Nat)) : St car :=
 [(.o N, none), (.o L, some (.dm kt t e l hs zs S'))]
open Classical in
theorem Rel.closeMap {L N S S' kt t e : Nat} {l : List (cx.G.car kt × List (cx.G.car t))} {h1 h2 zs : List (cx.G.car kt × Nat)} {x : cx.G.car kt} {q : List (cx.G.car t)} (h : Rel cx m A g a w)
  (hL : g (.o L) = some (.dm kt t e l (h1 ++ (x, N) :: h2) zs S)) (hgN : g (.o N) = some (.row e t q)) (hfl : cx.G.flat t = true) (hS : Free cx S' g) :
  ∃ m', Rel cx m' A (upd (closeMU L N S' kt t e (@updK _ _ (cx.G.deq kt) l x q) (h1 ++ h2) zs) g) a w ∧ ∀ l, l ≠ S' → m' l = m l := by
 have hLN : L ≠ N := fun e => by subst e; rw [hL] at hgN; cases hgN
 have hLS : L ≠ S' := fun e => by subst e; rw [free_none hS (by simp [keyHas])] at hL; cases hL
 have hNS : N ≠ S' := fun e => by subst e; rw [free_none hS (by simp [keyHas])] at hgN; cases hgN
 obtain ⟨es, cl, hh, hdm, h3⟩ := h.ent _ _ hL
 have hrow : RowAt cx.G A w (hvOf (m N)) e t q := h.ent _ _ hgN
 have hholes := hdm.holes
 rw [List.map_append, List.map_cons] at hholes
 obtain ⟨hnd, hnot⟩ := nodup_mid hholes
 have hno : ∀ p ∈ h1 ++ h2, p.1 ≠ x := fun p hp e => hnot (by rw [← List.map_append]; exact List.mem_map.2 ⟨p, hp, e⟩)
 have hnone : holeK x (h1 ++ h2) = none := holeK_none hno
 have hsome : holeK x (h1 ++ (x, N) :: h2) = some N := by
  rw [holeK_append, show holeK x h1 = none from holeK_none fun p hp => hno p (List.mem_append.2 (.inl hp)), holeK_cons, if_pos rfl]
 obtain ⟨k, hk⟩ : ∃ k : Option Nat, match k with | some k => ∃ p, l[k]? = some p ∧ p.1 = x | none => x ∉ l.map (·.1) := by
  by_cases hm : x ∈ l.map (·.1)
  ·obtain ⟨p, hp, hpx⟩ := List.mem_map.1 hm
   obtain ⟨k, hk⟩ := List.getElem?_of_mem hp
   exact ⟨some k, p, hk, hpx⟩
  ·exact ⟨none, hm⟩
 obtain ⟨sub', hsub'⟩ : ∃ sub' : Nat → HV, sub' = subAt (m S).sub k (hvOf (m N)) := ⟨_, rfl⟩
 have sub_ne : ∀ k', k ≠ some k' → sub' k' = (m S).sub k' := fun k' hne => by
  subst hsub'
  cases k with
  | none => rfl
  | some k0 => exact setSub_ne _ _ fun e => hne (by rw [e])
 generalize hm' : setL m S' (subMV sub') = m'
 have eS : m' S' = subMV sub' := by rw [← hm', setL_self]
 have eo : ∀ l, l ≠ S' → m' l = m l := fun l h5 => by rw [← hm', setL_ne _ _ h5]
 have hl' : (∃ k0, k = some k0 ∧ k0 < l.length ∧ @updK _ _ (cx.G.deq kt) l x q = l.set k0 (x, q)) ∨ (k = none ∧ @updK _ _ (cx.G.deq kt) l x q = l) := by
  cases k with
  | some k0 =>
   obtain ⟨p, hp, hpx⟩ := hk
   exact .inl ⟨k0, rfl, (List.getElem?_eq_some_iff.1 hp).1, @updK_at _ _ (cx.G.deq kt) x q l k0 p hdm.nodup hp hpx⟩
  | none => exact .inr ⟨rfl, @updK_none _ _ (cx.G.deq kt) x q l hk⟩
 have hkeys : (@updK _ _ (cx.G.deq kt) l x q).map (·.1) = l.map (·.1) := @updK_keys _ _ (cx.G.deq kt) x q l
 have hlen : (@updK _ _ (cx.G.deq kt) l x q).length = l.length := by have := congrArg List.length hkeys; simpa using this
 generalize hq' : @updK _ _ (cx.G.deq kt) l x q = l' at *
 have hgk : ∀ k, upd (closeMU L N S' kt t e l' (h1 ++ h2) zs) g k = if k = .o N then none else if k = .o L then some (.dm kt t e l' (h1 ++ h2) zs S') else g k := upd_two hLN
 have gN : upd (closeMU L N S' kt t e l' (h1 ++ h2) zs) g (.o N) = none := by rw [hgk, if_pos rfl]
 have gL : upd (closeMU L N S' kt t e l' (h1 ++ h2) zs) g (.o L) = some (.dm kt t e l' (h1 ++ h2) zs S') := by rw [hgk, if_neg (by simpa using hLN), if_pos rfl]
 have ownN : (m N).c ≠ 0 → Owns m N (g (.o N)) (m N).b := fun h7 => by rw [hgN]; exact ⟨h7, rfl⟩
 have hNb : (m N).c ≠ 0 → ∀ b, Owns m L (g (.o L)) b → b ≠ (m N).b := fun h7 b h8 e => by
  subst e; exact hLN (h.inj L N _ h8 (ownN h7))
 have hment : ∀ k' l', mentions l' k' (g k') = true → m' l' = m l' := fun k' l' hl' => by
  cases e : g k' with
  | none => rw [e] at hl'; cases hl'
  | some v => rw [e] at hl'; exact eo l' (free_ne hS e l' hl')
 have hho : ∀ p ∈ h1 ++ h2, m' p.2 = m p.2 := fun p hp => hment (.o L) _ (by
  rw [hL]
  simp only [mentions, valHas, keyHas, Bool.or_eq_true, List.any_eq_true]
  exact .inl (.inl (.inr ⟨p, by rcases List.mem_append.1 hp with h8 | h8 <;> simp [h8], by simp⟩)))
 have hzs : ∀ p ∈ zs, m' p.2 = m p.2 := fun p hp => hment (.o L) _ (by
  rw [hL]
  simp only [mentions, valHas, keyHas, Bool.or_eq_true, List.any_eq_true]
  exact .inl (.inr ⟨p, hp, by simp⟩))
 refine ⟨m', h.regive (T := fun l' => l' = L ∨ l' = N) (fun k' hk' => ?_) (fun k' _ => hment k') (fun l' o hT => ?_) (fun l0 v hT hv => ?_) (fun l0 b hT hb => ?_) (fun l1 l2 b hT1 hT2 hb1 hb2 => ?_) (fun p hp => eo _ (hS.2.1 p hp)) (fun L' hL' => eo _ (fun e => ?_)), eo⟩
 ·rw [hgk, if_neg (fun e => hk' N (.inr rfl) e), if_neg (fun e => hk' L (.inl rfl) e)]
 ·cases e : g (.c l' o) with
  | none => rfl
  | some v =>
   obtain ⟨ty, n, h7⟩ := h.cell _ _ _ e
   rcases hT with rfl | rfl
   ·rw [hL] at h7; cases h7
   ·rw [hgN] at h7; cases h7
 ·rcases hT with rfl | rfl
  ·rw [gL] at hv; cases hv
   show ∃ es cl, w.heap[(m' l0).b]? = some (.map es cl) ∧ _
   rw [eo l0 hLS]
   refine ⟨es, cl, hh, ?_, ?_⟩
   ·rw [eS]
    refine ⟨hdm.size.trans hlen.symm, by rw [hkeys]; exact hdm.nodup, fun i p hp => ?_, fun p hp hn => ?_, by rw [List.map_append]; exact hnd, hdm.born, hdm.clock, fun q hq => by
     obtain ⟨k, p, en, g1, g2, g3, g4⟩ := hdm.stamp q hq
     have : (l'.map (·.1))[k]? = some q.1 := by rw [hkeys, List.getElem?_map, g1]; simp [g2]
     rw [List.getElem?_map] at this
     obtain ⟨p', g5, g6⟩ := Option.map_eq_some_iff.1 this
     exact ⟨k, p', en, g5, g6, g3, by rw [hzs q hq]; exact g4⟩⟩
    ·show ∃ en, es[i]? = some en ∧ _ ∧ SubIs _ _ _ _ (sub' i) _ _ _ _
     by_cases ei : k = some i
     ·rcases hl' with ⟨k0, h5, h6, h7⟩ | ⟨h5, _⟩
      ·rw [ei] at h5; cases h5
       rw [h7, List.getElem?_set_self h6] at hp
       cases hp
       rw [ei] at hk
       obtain ⟨p0, hp0, hpx⟩ := hk
       obtain ⟨en, h8, h9, h10⟩ := hdm.ent i p0 hp0
       rw [hpx, hsome] at h10
       refine ⟨en, h8, by rw [hpx] at h9; exact h9, ?_⟩
       rw [hnone, hsub', ei]
       show SubIs _ _ _ _ (setSub _ _ _ _) _ _ _ _
       rw [setSub_self]
       exact ⟨e, rfl, hfl, by rw [h10.1]; rfl, hrow⟩
      ·rw [ei] at h5; cases h5
     ·have hp0 : l[i]? = some p := by
       rcases hl' with ⟨k0, h5, h6, h7⟩ | ⟨_, h6⟩
       ·rw [h7, List.getElem?_set_ne (fun e => ei (by rw [h5, e]))] at hp; exact hp
       ·rw [h6] at hp; exact hp
      obtain ⟨en, h8, h9, h10⟩ := hdm.ent i p hp0
      refine ⟨en, h8, h9, ?_⟩
      have e0 : p.1 ≠ x := fun e0 => by
       cases k with
       | none => exact hk (List.mem_map.2 ⟨p, List.mem_of_getElem? hp0, e0⟩)
       | some k0 =>
        obtain ⟨p0, hp1, hpx⟩ := hk
        exact ei (by rw [nodup_idx (x := x) hdm.nodup (i := k0) (j := i) (by rw [List.getElem?_map, hp1]; simp [hpx]) (by rw [List.getElem?_map, hp0]; simp [e0])])
      rw [sub_ne i ei]
      rw [holeK_mid (Ne.symm e0)] at h10
      exact h10.step (fun _ h => h) (fun _ _ => rfl) (fun a' ha' => hho _ (holeK_mem ha')) (fun _ => rfl)
    ·simp only [den, hho p hp]
     exact hdm.nil p (by rcases List.mem_append.1 hp with h8 | h8 <;> simp [h8]) (by rw [← hkeys]; exact hn)
   ·rw [eS]
    show SubsOK w sub' _ _
    rw [hlen]
    subst hsub'
    cases k with
    | none => exact h3
    | some k0 =>
     obtain ⟨p0, hp0, _⟩ := hk
     exact h3.into (List.getElem?_eq_some_iff.1 hp0).1 (fun h7 e => hNb h7 (m l0).b (by rw [hL]; exact .inl rfl) e.symm) (fun h7 => h.blk (ownN h7)) (fun h7 k' h8 e => hNb h7 _ (by rw [hL]; exact .inr ⟨k', h8, rfl⟩) e)
  ·rw [gN] at hv; cases hv
 ·rcases hT with rfl | rfl
  ·rw [gL] at hb
   simp only [Owns, eo l0 hLS, eS, subMV] at hb
   rcases hb with hb | ⟨k', hk', rfl⟩
   ·exact ⟨l0, .inl rfl, by rw [hL]; exact .inl hb⟩
   ·by_cases e : k = some k'
    ·subst hsub'
     subst e
     simp only [subAt, setSub_self] at hk' ⊢
     exact ⟨N, .inr rfl, ownN hk'⟩
    ·rw [sub_ne _ e] at hk' ⊢
     exact ⟨l0, .inl rfl, by rw [hL]; exact .inr ⟨k', hk', rfl⟩⟩
  ·rw [gN] at hb; exact hb.elim
 ·rcases hT1 with rfl | rfl <;> rcases hT2 with rfl | rfl
  ·rfl
  ·rw [gN] at hb2; exact hb2.elim
  ·rw [gN] at hb1; exact hb1.elim
  ·rfl
 ·subst e; exact absurd hL' (Nat.not_lt.2 hS.2.2)
end
section
variable {cx : Cx} {m : Nat → MV} {A : Nat → Prop} {g g' : CMap cx} {a : Act} {w : World}
def stampMV (n : Nat) : MV := { b := 0, p := none, n := n, c := 0 }
open Classical in
theorem Rel.entryMap {L N Z S ty kt t e : Nat} {l : List (cx.G.car kt × List (cx.G.car t))} {h1 h2 zs : List (cx.G.car kt × Nat)} {x : cx.G.car kt} {vx : Value} (h : Rel cx m A g a w) (hk : KeyOK cx.P cx.G ty kt)
  (hL : g (.o L) = some (.dm kt t e l (h1 ++ (x, N) :: h2) zs S)) (hx : KeyIs cx.G kt x vx) (hZ : Free cx Z g) (hNZ : N ≠ Z) (hzero : ∀ k el, cx.P.underlying ty = some (.map k el) → ∀ w, (zeroValue el).run cx.P w = .ok (.slice none 0 0) w) :
  ∃ w' m', (Instr.mapEntry ty (.map (some (m L).b)) vx).run cx.P w = .ok (.tuple #[den m (.h N), .int .i64 ((m' Z).n : Int)]) w' ∧ Rel cx m' A (upd [(.o L, some (.dm kt t e (@insK _ _ (cx.G.deq kt) l x) (h1 ++ (x, N) :: h2) ((x, Z) :: zs) S))] g) a w' ∧ ∀ l, l ≠ Z → m' l = m l := by
 obtain ⟨es, cl, hh, hdm, h3⟩ := h.ent _ _ hL
 obtain ⟨k, el, hty, hcheck, hf⟩ := dm_find (w := w) hk hdm hx
 have hz0 := hzero k el hty
 obtain ⟨hnd, hnot⟩ := nodup_mid (by have := hdm.holes; rw [List.map_append, List.map_cons] at this; exact this)
 have hhole : holeK x (h1 ++ (x, N) :: h2) = some N := by
  rw [holeK_append, show holeK x h1 = none from holeK_none fun p hp e => hnot (by simp only [List.mem_append, List.mem_map]; exact .inl ⟨p, hp, e⟩), holeK_cons, if_pos rfl]
 have hzs : ∀ n, ∀ q ∈ zs, (setL m Z (stampMV n)) q.2 = m q.2 := fun n q hq => setL_ne _ _ (free_ne hZ hL q.2 (by
  simp only [mentions, valHas, keyHas, Bool.or_eq_true, List.any_eq_true]
  exact .inl (.inr ⟨q, hq, by simp⟩)))
 have hst : ∀ n, (∃ (k : Nat) (p : cx.G.car kt × List (cx.G.car t)) (en : MapEntry), l[k]? = some p ∧ p.1 = x ∧ es[k]? = some en ∧ en.born = n) → ∀ q ∈ (x, Z) :: zs, ∃ (k : Nat) (p : cx.G.car kt × List (cx.G.car t)) (en : MapEntry), l[k]? = some p ∧ p.1 = q.1 ∧ es[k]? = some en ∧ en.born = ((setL m Z (stampMV n)) q.2).n := fun n hn q hq => by
  rcases List.mem_cons.1 hq with rfl | hq
  ·obtain ⟨k, p, en, g1, g2, g3, g4⟩ := hn
   exact ⟨k, p, en, g1, g2, g3, by rw [setL_self]; exact g4⟩
  ·rw [hzs n q hq]; exact hdm.stamp q hq
 have hdN : ∀ n, den (setL m Z (stampMV n)) (.h N) = den m (.h N) := fun n => by simp only [den, setL_ne _ _ hNZ]
 rcases hf with ⟨i, p, en, hp, hpx, hes, h7, h8, hkst⟩ | ⟨h5, h6⟩
 ·have hmem : x ∈ l.map (·.1) := List.mem_map.2 ⟨p, List.mem_of_getElem? hp, hpx⟩
  have hval : en.val = den m (.h N) := by
   obtain ⟨en1, g1, _, g2⟩ := hdm.ent i p hp
   rw [hes] at g1; cases g1
   rw [hpx, hhole] at g2
   exact g2.1
  have hmod : (es.modify i fun e => { e with key := vx }) = es.modify i fun e => { e with key := vx, val := den m (.h N) } := by
   apply Array.ext'
   apply List.ext_getElem?
   intro j
   simp only [Array.getElem?_toList, Array.getElem?_modify]
   by_cases ej : i = j
   ·subst ej; simp [hes, hval]
   ·simp [ej]
  rw [@insK_mem _ _ (cx.G.deq kt) x l hmem]
  refine ⟨{ w with heap := w.heap.setIfInBounds (m L).b (.map (es.modify i fun e => { e with key := vx, val := den m (.h N) }) cl) }, setL m Z (stampMV en.born), ?_,
   h.mapWrote (N := N) hL hh hdm h3 ⟨Z, fun l hl => setL_ne _ _ hl, .inl hZ⟩ (by simpa using hdm.size) hdm.nodup (fun _ h => h) hmem (Nat.le_refl _) (by rw [born_modify (f := fun e => ({ e with key := vx, val := den m (.h N) } : MapEntry)) (fun _ => rfl)]; exact hdm.born) (clock_modify (fun _ => rfl) hdm.clock)
    (stamp_put (m := setL m Z (stampMV en.born)) (hst en.born ⟨i, p, en, hp, hpx, hes, rfl⟩) (fun k p hp => ⟨p, hp, rfl⟩) (modify_born fun _ => rfl)) (hdN _) (dm_put hdm h3 hx hp hpx hes), fun l hl => setL_ne _ _ hl⟩
  rw [← hmod]
  have hkst' := hkst w
  rw [hes] at hkst'
  simp only [Option.map_some, Option.getD_some] at hkst'
  simp [Instr.mapEntry, run_underlying hty, MapKept.run_getObj_map hh, hcheck, h8, Result.andThen, Sem.run_bind, hkst', MapKept.run_setObj_map _ hh, setL_self, stampMV, hval, hes, goInt]
 ·have hval : den m (.h N) = .slice none 0 0 := hdm.nil (x, N) (by simp) h5
  rw [@insK_none _ _ (cx.G.deq kt) x l h5]
  obtain ⟨hb1, hb2⟩ := nodup_push (k := vx) (v := den m (.h N)) hdm.born hdm.clock
  refine ⟨{ w with heap := w.heap.setIfInBounds (m L).b (.map (es.push { key := vx, val := den m (.h N), born := cl }) (cl + 1)) }, setL m Z (stampMV cl), ?_,
   h.mapWrote (N := N) hL hh hdm h3 ⟨Z, fun l hl => setL_ne _ _ hl, .inl hZ⟩ (by simp [hdm.size]) (snoc_keys hdm.nodup h5) (fun y hy => by simp only [List.map_append, List.mem_append]; exact .inl hy) (by simp) (by simp) hb1 hb2 (fun q hq => ?_) (hdN _) (dm_push hdm h3 hx h5), fun l hl => setL_ne _ _ hl⟩
  ·rw [hval]
   simp [Instr.mapEntry, run_underlying hty, MapKept.run_getObj_map hh, hcheck, h6, Result.andThen, MapKept.run_setObj_map _ hh, hz0, setL_self, stampMV, goInt]
  ·rcases List.mem_cons.1 hq with rfl | hq
   ·exact ⟨l.length, (x, []), _, by simp, rfl, by rw [← hdm.size]; exact Array.getElem?_push_size, by rw [setL_self]; rfl⟩
   ·obtain ⟨k, p, en, g1, g2, g3, g4⟩ := hdm.stamp q hq
    obtain ⟨en', g5, g6⟩ := push_born (x := { key := vx, val := den m (.h N), born := cl }) k en g3
    exact ⟨k, p, en', by rw [List.getElem?_append_left (List.getElem?_eq_some_iff.1 g1).1]; exact g1, g2, g5, by rw [hzs _ q hq]; exact g6.trans g4⟩
open Classical in
theorem Rel.storeEntry {L N N0 Z S ty kt t e : Nat} {l : List (cx.G.car kt × List (cx.G.car t))} {h1 h2 zs : List (cx.G.car kt × Nat)} {x : cx.G.car kt} (h : Rel cx m A g a w)
  (hL : g (.o L) = some (.dm kt t e l (h1 ++ (x, N0) :: h2) zs S)) (hZ : (x, Z) ∈ zs) :
  ∃ w', (Instr.entryStore ty (.map (some (m L).b)) (.int .i64 ((m Z).n : Int)) (den m (.h N))).run cx.P w = .ok () w' ∧ Rel cx m A (upd [(.o L, some (.dm kt t e l (h1 ++ (x, N) :: h2) zs S))] g) a w' := by
 obtain ⟨es, cl, hh, hdm, h3⟩ := h.ent _ _ hL
 obtain ⟨i, p, en, hp, hpx, hes, hborn⟩ := hdm.stamp _ hZ
 have hborn : en.born = (m Z).n := hborn
 obtain ⟨en1, g1, hkey, _⟩ := hdm.ent i p hp
 rw [hes] at g1; cases g1
 rw [hpx] at hkey
 have hmem : x ∈ l.map (·.1) := List.mem_map.2 ⟨p, List.mem_of_getElem? hp, hpx⟩
 have hfi : es.findIdx? (fun e => (e.born : Int) == ((m Z).n : Int)) = some i := by
  rw [Array.findIdx?_eq_some_iff_getElem]
  obtain ⟨hi, hi2⟩ := Array.getElem?_eq_some_iff.1 hes
  refine ⟨hi, by rw [hi2, hborn]; simp, fun j hj => ?_⟩
  have hjlt : j < es.size := Nat.lt_trans hj hi
  intro e
  have e : (es[j]'hjlt).born = (m Z).n := by
   have e2 : (((es[j]'hjlt).born : Nat) : Int) = ((m Z).n : Int) := by simpa using e
   omega
  have h8 : (es.toList.map (·.born))[j]? = some (m Z).n := by rw [List.getElem?_map, Array.getElem?_toList, Array.getElem?_eq_getElem hjlt]; simp [e]
  have h9 : (es.toList.map (·.born))[i]? = some (m Z).n := by rw [List.getElem?_map, Array.getElem?_toList, hes]; simp [hborn]
  have := nodup_idx hdm.born h8 h9
  omega
 have hmod : (es.modify i fun e => { e with val := den m (.h N) }) = es.modify i fun e => { e with key := en.key, val := den m (.h N) } := by
  apply Array.ext'
  apply List.ext_getElem?
  intro j
  simp only [Array.getElem?_toList, Array.getElem?_modify]
  by_cases ej : i = j
  ·subst ej; simp [hes]
  ·simp [ej]
 refine ⟨{ w with heap := w.heap.setIfInBounds (m L).b (.map (es.modify i fun e => { e with key := en.key, val := den m (.h N) }) cl) }, ?_,
  h.mapWrote hL hh hdm h3 ⟨0, fun _ _ => rfl, .inr rfl⟩ (by simpa using hdm.size) hdm.nodup (fun _ h => h) hmem (Nat.le_refl _) (by rw [born_modify (f := fun e => ({ e with key := en.key, val := den m (.h N) } : MapEntry)) (fun _ => rfl)]; exact hdm.born) (clock_modify (fun _ => rfl) hdm.clock) (stamp_put hdm.stamp (fun k p hp => ⟨p, hp, rfl⟩) (modify_born fun _ => rfl)) rfl (dm_put hdm h3 hkey hp hpx hes)⟩
 rw [← hmod]
 simp [Instr.entryStore, MapKept.run_getObj_map hh, asInt, asIntOf, hfi, Result.andThen, MapKept.run_setObj_map _ hh]
end
end
end Go.KX
