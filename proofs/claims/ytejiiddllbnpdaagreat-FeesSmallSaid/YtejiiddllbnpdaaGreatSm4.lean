/- Texts KY, KZ, KZB, FzGrow, FnA, FzAw, KLW, KLX, KLN: own work; each part says what it is. -/
import Derived.Test.YtejiiddllbnpdaaGreatSm3
import Derived.KernelRfl
import Derived.Shelf.RegionOpenPlain
import Derived.WalkKit
import Derived.Lib.Walk
import Derived.Lib.SliceRun
import Derived.Lib.AppendZeros
import Derived.Laws.NewBlocks
namespace Go.KX
open Go Go.RowKit
noncomputable section
theorem stepR_scope {P : Program} {b : Frame} {a : Act} {k : List Item} {cs : List Frame} {w : World} {c : Code} : step P (lone (b.atR a (.code (.scope c) :: k)) cs w) = .next (lone (b.atR a (.code c :: .inScope c :: k)) cs w) :=
 step_lone_go (by simp [stepG, stepG.exec, Frame.atR])
theorem stepR_inScope {P : Program} {b : Frame} {a : Act} {k : List Item} {cs : List Frame} {w : World} {c : Code} : step P (lone (b.atR a (.inScope c :: k)) cs w) = .next (lone (b.atR a k) cs w) :=
 step_lone_go (by simp [stepG, stepG.exec, Frame.atR])
def noGoto (Q : Exit → Act → World → Prop) : Exit → Act → World → Prop
 | .goto _, _, _ => False
 | e, a, w => Q e a w
theorem wpIn_scope {F : Fence} {n : Nat} {P : Program} {Q : Exit → Act → World → Prop} {a : Act} {w : World} {c : Code} (h : c.wpIn F n P (noGoto Q) a w) : (Code.scope c).wpIn F n P Q a w := by
 intro b k cs hro hb hr
 have h0 : (lone (b.atR a (.code (.scope c) :: k)) cs w).fenced P F := fenced_calm hb hr rfl
 obtain ⟨e, a₁, w₁, hq, harr⟩ := h b (.inScope c :: k) cs hro hb hr
 cases e with
 | normal => exact ⟨.normal, a₁, w₁, hq, .head h0 stepR_scope (StepsIn.trans harr (.one (fenced_calm hb hr rfl) stepR_inScope))⟩
 | exit id =>
  have hx : exitTo id (.inScope c :: k) = exitTo id k := by simp [exitTo]
  exact ⟨.exit id, a₁, w₁, hq, fun k' hk => .head h0 stepR_scope (harr.1 k' (by rw [hx]; exact hk)),
   fun hr' hk => let ⟨k₁, h1, h2⟩ := harr.2 hr' (by rw [hx]; exact hk); ⟨k₁, h1, .head h0 stepR_scope h2⟩⟩
 | goto l => exact hq.elim
 | ret => exact ⟨_, a₁, w₁, hq, .of_steps (.one h0 stepR_scope) harr⟩
 | panic ch => exact ⟨_, a₁, w₁, hq, .of_steps (.one h0 stepR_scope) harr⟩
 | outgrown => exact ⟨_, a₁, w₁, hq, .of_steps (.one h0 stepR_scope) harr⟩
section
variable {E : Env} {R : Type} {r : R} {gl : List (Nat × Val E.G.car)} {fx : Fix}
theorem Does.seq {fr : Fr} {x y : Code} {s s1 s2 : XS E.G.car} {e : Ex} (h1 : Does E gl fx fr x s s1 .normal) (h2 : Does E gl fx fr y s1 s2 e) : Does E gl fx fr (.seq x y) s s2 e :=
 fun b m A a w Q hg hN hr hq => wpIn_seq (h1 b m A a w _ hg hN hr fun m' A' a' w' hr' => h2 b m' A' a' w' Q hg hN hr' hq)
theorem Does.seqX {fr : Fr} {x y : Code} {s s1 : XS E.G.car} {e : Ex} (h1 : Does E gl fx fr x s s1 e) (he : e ≠ .normal) : Does E gl fx fr (.seq x y) s s1 e :=
 fun b m A a w Q hg hN hr hq => wpIn_seq (h1 b m A a w _ hg hN hr fun m' A' a' w' hr' => by
  cases e with
  | normal => exact absurd rfl he
  | _ => exact hq m' A' a' w' hr')
theorem Does.from {fr : Fr} {x : Code} {s s0 s1 : XS E.G.car} {e : Ex} (h1 : Does E gl fx fr x s s1 e) (hm : ∀ f, s.map f = s0.map f) : Does E gl fx fr x s0 s1 e :=
 fun b m A a w Q hg hN hr hq => h1 b m A a w Q hg hN (by rw [hm]; exact hr) hq
theorem Does.arr {fr : Fr} {x : Code} {T : Tpl} {d : Nat} {s s2 s' s1 : XS E.G.car} {ρ : Rho} {e : Ex} (hs : OKS E fx s) (hF : Final T s.nl ρ) (hst : StOK T d s s2 ρ (fun _ _ => False) s') (h1 : Does E gl fx fr x s' s1 e) : Does E gl fx fr x s2 s1 e :=
 fun b m A a w Q hg hN hr hq => by
  obtain ⟨m', A', hr'⟩ := hst.rel hs hF hg.pn hr
  exact h1 b m' A' a w Q hg hN hr' hq
theorem Does.close {fr : Fr} {x : Code} {s s0 s1 : XS E.G.car} {e : Ex} (h1 : Does E gl fx fr x s s1 e) (hf : fr.f = 0) (hm : Same0 E fx s0 s) : Does E gl fx fr x s0 s1 e :=
 fun b m A a w Q hg hN hr hq => by
  rw [hf] at hr
  obtain ⟨m', hr'⟩ := hm b m A a w hg.pn hr
  exact h1 b m' A a w Q hg hN (by rw [hf]; exact hr') hq
theorem seq_sound {cx : Ctx E} {x0 : Ex1 E R} {x y : Code} (hx : CodeOK E gl x (exec1 cx x0 x)) (hy : CodeOK E gl y (exec1 cx x0 y)) {Y : YS E R} (hY : YOK E gl fx.ys Y) {fr : Fr} {h : Hint} {s : XS E.G.car} {K : KT E R} (hf : fr.f = 0) (hs : OKS E fx s)
  (hk : exec1 cx x0 x Y fr h s (fun h e s => match e with | .normal => exec1 cx x0 y Y fr h s K | e => K h e s) = some r) : ∃ h' e s', K h' e s' = some r ∧ OKS E fx s' ∧ Ext fr.d s s' ∧ Does E gl fx fr (.seq x y) s s' e := by
 obtain ⟨h1, e1, s1, k1, o1, x1, d1⟩ := hx fx Y fr h s r _ hY hf hs hk
 cases e1 with
 | normal =>
  obtain ⟨h2, e2, s2, k2, o2, x2, d2⟩ := hy fx Y fr h1 s1 r K hY hf o1 k1
  exact ⟨h2, e2, s2, k2, o2, x1.trans x2, d1.seq d2⟩
 | ret => exact ⟨h1, _, s1, k1, o1, x1, d1.seqX (by simp)⟩
 | exit id => exact ⟨h1, _, s1, k1, o1, x1, d1.seqX (by simp)⟩
theorem runOf_ok {cx : Ctx E} (hin : InlS E gl cx) {x0 : Ex1 E R} (hx0 : ∀ c, CodeOK E gl c (x0 c)) {ys : List YI} {Y : YS E R} (hY : YOK E gl ys Y) {roots : Nat → List Nat} : RunOK E gl ys (runOf cx roots x0 Y) := by
 intro c d xs s0 h K r o ht hl hk
 cases c with
 | fn k =>
  have hk : (match findFn k cx.inl with | some fn => goFn roots x0 Y fn d xs s0 h K | none => match findSrt k cx.srt with | some q => sortR q d xs s0 h K | none => none) = some r := hk
  split at hk
  ·rename_i fn hfn
   obtain ⟨hP, hen⟩ := hin.1 k fn hfn
   obtain ⟨h', v, s', h1, h2, h3, h4, h5⟩ := goFn_sound hx0 hP hY o ht hl hk
   exact ⟨h', v, s', h1, h2, h3, h4, hen, h5⟩
  ·split at hk
   ·rename_i q hq
    obtain ⟨hq1, hq2⟩ := findSrt_mem hq
    obtain ⟨h', v, s', h1, h2, h3, h4, h5⟩ := sortR_sound (hin.2 q hq1) o ht hl hk
    subst hq2
    exact ⟨h', v, s', h1, h2, h3, h4, (hin.2 q hq1).enters, h5⟩
   ·cases hk
 | y L =>
  have hk : (match findY L Y with | some y => y d xs s0 h K | none => none) = some r := hk
  split at hk
  ·rename_i f hf
   obtain ⟨y, hy, hyL, hh⟩ := hY L f hf
   obtain ⟨h', s', h1, h2, h3, h4, h5, h6⟩ := hh ys d xs s0 h K r o ht hl hk
   exact ⟨h', _, s', h1, h2, h3, h4, y, hy, hyL, rfl, h5, h6⟩
  ·cases hk
theorem exec1_sound {cx : Ctx E} (hmix : E.P.follows .mixedOrders = true) (ht : ∀ c ∈ cx.tbl, CSok E gl c) (hin : InlS E gl cx) (hkeys : ∀ p ∈ E.keys, KeyOK E.P E.G p.1 p.2) {x0 : Ex1 E R} (hx0 : ∀ c, CodeOK E gl c (x0 c)) : ∀ c : Code, CodeOK E gl c (exec1 cx x0 c) := by
 intro c
 induction c with
 | skip => intro fx Y fr h s r K hY hf hs hk; exact ⟨h, .normal, s, hk, hs, Ext.refl _ _, fun b m A a w Q _ _ hr hq => wpIn_skip (hq m A a w hr)⟩
 | region id ops draw =>
  intro fx Y fr h s r K hY hf hs hk
  obtain ⟨rs, h', h1, h2, h3, h4⟩ := region_sound (K := fun rs h => K h .normal rs.s) hmix ⟨ht, runOf_ok hin hx0 hY, hs.glo, hs.pn, hkeys⟩ (by omega) hs hk
  exact ⟨h', .normal, rs.s, h1, h2, h3, h4⟩
 | seq x y hx hy =>
  intro fx Y fr h s r K hY hf hs hk
  cases h with
  | j T ha hb =>
   obtain ⟨s1, hk, o1, x1, m1⟩ := restT_sound T.kt s hs hk
   obtain ⟨s2, hk, o2, x2, m2⟩ := restL_sound T.kl s1 o1 hk
   have hk : exec1 cx x0 x Y ⟨fr.f, Nat.succ fr.d, fr.N, fr.ds, fr.roots⟩ ha s2 (fun h e s' => match e with
    | .normal => closeC (Nat.succ fr.d) T.rw s' fun s' => arrK T fr.d s2 s' (fun x => stK T fr.d s2 x fun s => exec1 cx x0 y Y fr hb s K)
    | e => K h e s') = some r := join_some hk
   obtain ⟨h3, e3, s3, k3, o3, x3, d3⟩ := hx fx Y ⟨fr.f, Nat.succ fr.d, fr.N, fr.ds, fr.roots⟩ ha s2 r _ hY hf o2 hk
   have d3 : Does E gl fx fr x s2 s3 e3 := d3
   have x3' : Ext fr.d s2 s3 := x3.mono (Nat.le_succ _)
   have d3' : Does E gl fx fr x s s3 e3 := d3.from (fun f => (m2 f).trans (m1 f))
   cases e3 with
   | normal =>
    obtain ⟨s3c, k3, _, x3c, e3c⟩ := closeC_sound T.rw s3 o3 k3
    obtain ⟨y0, k4, harr⟩ := arr_sound (d := fr.d) o2.inv (OldS.of_ext (x3.trans x3c)) k3
    obtain ⟨s4, ρ, k5, hF, hst⟩ := harr r _ k4
    obtain ⟨h6, e6, s6, k6, o6, x6, d6⟩ := hy fx Y fr hb s4 r K hY hf (hst.oks o2 hF) k5
    exact ⟨h6, e6, s6, k6, o6, ((x1.trans x2).trans (hst.ext hF)).trans x6, d3'.seq ((d6.arr o2 hF hst).close hf e3c)⟩
   | ret => exact ⟨h3, _, s3, k3, o3, (x1.trans x2).trans x3', d3'.seqX (by simp)⟩
   | exit id => exact ⟨h3, _, s3, k3, o3, (x1.trans x2).trans x3', d3'.seqX (by simp)⟩
  | _ => exact seq_sound hx hy hY hf hs hk
 | cond v x y hx hy =>
  intro fx Y fr h s r K hY hf hs hk
  have hS : Sees (E := E) ⟨fun t => s.tmp fr.f t, s, none⟩ (s.map fr.f) := ⟨fun i v hv => by
   have hv' : s.tmp fr.f i = some v := hv
   simp only [XS.map, hv', Option.map_some], fun _ => rfl, fun _ => rfl, fun _ _ => rfl⟩
  obtain ⟨u, h1, hu⟩ := evK_sound hS hk
  have ev : ∀ {c : Bool}, (∀ m, den m u = .bool c) → ∀ {b : Base} {m A a w}, Rel (cxOf E b) m A (s.map fr.f) a w → a.eval v = .bool c := fun hc _ _ _ _ _ hr => by
   rw [(hu.eval hr (fun _ _ => rfl)).1, hc]
  have go : ∀ (c : Bool), (∀ m, den m u = .bool c) → ∀ hh, (match c with | true => exec1 cx x0 x Y fr hh s K | false => exec1 cx x0 y Y fr hh s K) = some r → ∃ h' e s', K h' e s' = some r ∧ OKS E fx s' ∧ Ext fr.d s s' ∧ Does E gl fx fr (.cond v x y) s s' e := by
   intro c hc hh hk
   cases c with
   | true =>
    obtain ⟨h2, e2, s2, k2, o2, x2, d2⟩ := hx fx Y fr hh s r K hY hf hs hk
    exact ⟨h2, e2, s2, k2, o2, x2, fun b m A a w Q hg hN hr hq => wpIn_cond_split (ev hc hr) (fun _ => d2 b m A a w Q hg hN hr hq) (fun h => by cases h)⟩
   | false =>
    obtain ⟨h2, e2, s2, k2, o2, x2, d2⟩ := hy fx Y fr hh s r K hY hf hs hk
    exact ⟨h2, e2, s2, k2, o2, x2, fun b m A a w Q hg hN hr hq => wpIn_cond_split (ev hc hr) (fun h => by cases h) (fun _ => d2 b m A a w Q hg hN hr hq)⟩
  split at h1
  ·rename_i e
   refine go e (fun _ => rfl) h ?_
   cases e <;> exact h1
  ·rename_i c
   cases c with
   | true => exact go true (fun _ => rfl) h.l1 (cutK_some h1)
   | false => exact go false (fun _ => rfl) h.l2 (cutK_some h1)
  ·cases h1
 | block id x hx =>
  intro fx Y fr h s r K hY hf hs hk
  obtain ⟨h1, e1, s1, k1, o1, x1, d1⟩ := hx fx Y fr h s r _ hY hf hs hk
  cases e1 with
  | normal => exact ⟨h1, .normal, s1, k1, o1, x1, fun b m A a w Q hg hN hr hq => wpIn_block (d1 b m A a w _ hg hN hr fun m' A' a' w' hr' => hq m' A' a' w' hr')⟩
  | ret => exact ⟨h1, .ret, s1, k1, o1, x1, fun b m A a w Q hg hN hr hq => wpIn_block (d1 b m A a w _ hg hN hr fun m' A' a' w' hr' => hq m' A' a' w' hr')⟩
  | exit id' =>
   have k1 : (bif Nat.beq id' id then K h1 .normal s1 else K h1 (.exit id') s1) = some r := k1
   cases e : Nat.beq id' id with
   | true =>
    rw [e, cond_true] at k1
    have e := Nat.eq_of_beq_eq_true e
    exact ⟨h1, .normal, s1, k1, o1, x1, fun b m A a w Q hg hN hr hq => wpIn_block (d1 b m A a w _ hg hN hr fun m' A' a' w' hr' => by
     simp only [Ex.to, Exit.inBlock, if_pos e]
     exact hq m' A' a' w' hr')⟩
   | false =>
    rw [e, cond_false] at k1
    have e : ¬ id' = id := fun h => by rw [h] at e; simp at e
    exact ⟨h1, .exit id', s1, k1, o1, x1, fun b m A a w Q hg hN hr hq => wpIn_block (d1 b m A a w _ hg hN hr fun m' A' a' w' hr' => by
     simp only [Ex.to, Exit.inBlock, if_neg e]
     exact hq m' A' a' w' hr')⟩
 | loop x hx =>
  intro fx Y fr h s r K hY hf hs hk
  cases h with
  | l T hb =>
   obtain ⟨sc, hk, oc, xc, ec⟩ := closeC_sound T.rw s hs hk
   obtain ⟨s1, hk, o1, x1, m1⟩ := restT_sound T.kt sc oc hk
   obtain ⟨s2, hk, o2, x2, m2⟩ := restL_sound T.kl s1 o1 hk
   obtain ⟨y0, hk, harr⟩ := arr_sound (d := fr.d) (d' := 1000000) o2.inv ⟨fun _ _ _ h _ => h, fun _ _ _ _ _ h _ => h⟩ hk
   have key : ∀ (n : Nat) (y : VT E.G.car T.ks) (s3 : XS E.G.car), Arr T fr.d s2 s3 R y → loopC (fun y next => stK T fr.d s2 y fun s' => exec1 cx x0 x Y ⟨fr.f, Nat.succ fr.d, fr.N, fr.ds, fr.roots⟩ hb s' fun h e s2' => match e with
      | .normal => closeC (Nat.succ fr.d) T.rw s2' fun s2' => arrK T fr.d s2 s2' next
      | e => K h e s2') n y = some r →
     ∃ h' e s', K h' e s' = some r ∧ OKS E fx s' ∧ Ext fr.d s2 s' ∧ ∀ (b : Base) (m : Nat → MV) (A : Nat → Prop) (a : Act) (w : World) (Q : Exit → Act → World → Prop), Good E gl fx b → FrOK fr b → Rel (cxOf E b) m A (s3.map fr.f) a w →
      (∀ m' A' a' w', Rel (cxOf E b) m' A' (s'.map fr.f) a' w' → Q e.to a' w') → Code.roundsIn (cxOf E b).F 0 E.P x Q n a w := by
    intro n
    induction n with
    | zero => intro y s3 _ h; cases h
    | succ n ih =>
     intro y s3 harr h
     obtain ⟨s4, ρ, k5, hF, hst⟩ := harr r _ h
     obtain ⟨h6, e6, s6, k6, o6, x6, d6⟩ := hx fx Y ⟨fr.f, Nat.succ fr.d, fr.N, fr.ds, fr.roots⟩ hb s4 r _ hY hf (hst.oks o2 hF) k5
     have d6 : Does E gl fx fr x s3 s6 e6 := Does.arr (fr := fr) o2 hF hst d6
     have x6' : Ext fr.d s2 s6 := (hst.ext hF).trans (x6.mono (Nat.le_succ _))
     cases e6 with
     | normal =>
      obtain ⟨s6c, k6, _, x6c, e6c⟩ := closeC_sound T.rw s6 o6 k6
      obtain ⟨y1, k7, harr1⟩ := arr_sound (d := fr.d) o2.inv (hst.old (x6.trans x6c)) k6
      obtain ⟨h8, e8, s8, k8, o8, x8, d8⟩ := ih y1 s6c harr1 k7
      exact ⟨h8, e8, s8, k8, o8, x8, fun b m A a w Q hg hN hr hq => d6 b m A a w _ hg hN hr fun m' A' a' w' hr' => by
       rw [hf] at hr'
       obtain ⟨m2, hr2⟩ := e6c b m' A' a' w' hg.pn hr'
       exact d8 b m2 A' a' w' Q hg hN (by rw [hf]; exact hr2) hq⟩
     | ret => exact ⟨h6, _, s6, k6, o6, x6', fun b m A a w Q hg hN hr hq => d6 b m A a w _ hg hN hr fun m' A' a' w' hr' => hq m' A' a' w' hr'⟩
     | exit id => exact ⟨h6, _, s6, k6, o6, x6', fun b m A a w Q hg hN hr hq => d6 b m A a w _ hg hN hr fun m' A' a' w' hr' => hq m' A' a' w' hr'⟩
   obtain ⟨h3, e3, s3, k3, o3, x3, d3⟩ := key cx.F y0 s2 harr hk
   exact ⟨h3, e3, s3, k3, o3, ((xc.trans x1).trans x2).trans x3, fun b m A a w Q hg hN hr hq => by
    rw [hf] at hr
    obtain ⟨m2', hr2⟩ := ec b m A a w hg.pn hr
    exact wpIn_loop_rounds cx.F (d3 b m2' A a w Q hg hN (by rw [m2, m1, hf]; exact hr2) hq)⟩
  | u n hb =>
   have key : ∀ (n : Nat) (h : Hint) (s : XS E.G.car), OKS E fx s → roundsK (fun h s K => exec1 cx x0 x Y fr h s K) K n h s = some r →
     ∃ h' e s', K h' e s' = some r ∧ OKS E fx s' ∧ Ext fr.d s s' ∧ ∀ (b : Base) (m : Nat → MV) (A : Nat → Prop) (a : Act) (w : World) (Q : Exit → Act → World → Prop), Good E gl fx b → FrOK fr b → Rel (cxOf E b) m A (s.map fr.f) a w →
      (∀ m' A' a' w', Rel (cxOf E b) m' A' (s'.map fr.f) a' w' → Q e.to a' w') → Code.roundsIn (cxOf E b).F 0 E.P x Q n a w := by
    intro n
    induction n with
    | zero => intro h s _ hk; cases hk
    | succ n ih =>
     intro h s hs hk
     obtain ⟨h6, e6, s6, k6, o6, x6, d6⟩ := hx fx Y fr h s r _ hY hf hs hk
     cases e6 with
     | normal =>
      obtain ⟨h8, e8, s8, k8, o8, x8, d8⟩ := ih h6 s6 o6 k6
      exact ⟨h8, e8, s8, k8, o8, x6.trans x8, fun b m A a w Q hg hN hr hq => d6 b m A a w _ hg hN hr fun m' A' a' w' hr' => d8 b m' A' a' w' Q hg hN hr' hq⟩
     | ret => exact ⟨h6, _, s6, k6, o6, x6, fun b m A a w Q hg hN hr hq => d6 b m A a w _ hg hN hr fun m' A' a' w' hr' => hq m' A' a' w' hr'⟩
     | exit id => exact ⟨h6, _, s6, k6, o6, x6, fun b m A a w Q hg hN hr hq => d6 b m A a w _ hg hN hr fun m' A' a' w' hr' => hq m' A' a' w' hr'⟩
   obtain ⟨h3, e3, s3, k3, o3, x3, d3⟩ := key n hb s hs hk
   exact ⟨h3, e3, s3, k3, o3, x3, fun b m A a w Q hg hN hr hq => wpIn_loop_rounds n (d3 b m A a w Q hg hN hr hq)⟩
  | _ => cases hk
 | rangeFunc g ps assign body ha hb => intro fx Y fr h s r K hY hf hs hk; exact range_sound hx0 hin.1 ha hb hY hf hs hk
 | exit id => intro fx Y fr h s r K hY hf hs hk; exact ⟨h, .exit id, s, hk, hs, Ext.refl _ _, fun b m A a w Q _ _ hr hq => wpIn_exit (hq m A a w hr)⟩
 | scope x hx =>
  intro fx Y fr h s r K hY hf hs hk
  obtain ⟨h1, e1, s1, k1, o1, x1, d1⟩ := hx fx Y fr h s r _ hY hf hs hk
  exact ⟨h1, e1, s1, k1, o1, x1, fun b m A a w Q hg hN hr hq => wpIn_scope (d1 b m A a w _ hg hN hr fun m' A' a' w' hr' => by cases e1 <;> exact hq m' A' a' w' hr')⟩
 | label l => intro fx Y fr h s r K hY hf hs hk; exact ⟨h, .normal, s, hk, hs, Ext.refl _ _, fun b m A a w Q _ _ hr hq => wpIn_label (hq m A a w hr)⟩
 | ret => intro fx Y fr h s r K hY hf hs hk; exact ⟨h, .ret, s, hk, hs, Ext.refl _ _, fun b m A a w Q _ _ hr hq => wpIn_ret (hq m A a w hr)⟩
 | _ => intro fx Y fr h s r K hY hf hs hk; cases hk
theorem exec_sound {cx : Ctx E} (hmix : E.P.follows .mixedOrders = true) (ht : ∀ c ∈ cx.tbl, CSok E gl c) (hin : InlS E gl cx) (hkeys : ∀ p ∈ E.keys, KeyOK E.P E.G p.1 p.2) : ∀ (n : Nat) (c : Code), CodeOK E gl c (exec (R := R) cx n c) := by
 intro n
 induction n with
 | zero => intro c fx Y fr h s r K _ _ _ hk; cases hk
 | succ n ih => exact exec1_sound hmix ht hin hkeys ih
end
end
end Go.KX

namespace Go.KX
open Go Go.RowKit
noncomputable section
section
variable {E : Env} {R : Type} {r : R} {gl : List (Nat × Val E.G.car)} {fx : Fix}
def mvOf (m : Nat → MV) : Option Nat → MV
 | some L => m L
 | none => nilMV
theorem seesOf (s : XS E.G.car) (f : Nat) : Sees (E := E) ⟨fun _ => none, s, none⟩ (s.map f) :=
 ⟨(fun i v hv => nomatch hv), fun _ => rfl, fun _ => rfl, fun _ _ => rfl⟩
def RelF (E : Env) (b : Base) (m : Nat → MV) (A : Nat → Prop) (g : Map E.G.car) (a : Act) (w : World) : Prop := Rel (cxOf E b) m A g a w ∧ ∀ x, ¬ b.bor x
theorem newRow_of {b : Base} {m : Nat → MV} {A : Nat → Prop} {g : Map E.G.car} {a : Act} {w : World} (h : RelF E b m A g a w) {L e t : Nat} {l : List (E.G.car t)} (hL : g (.o L) = some (.row e t l)) : NewRowAt E.G A b.B w (m L) e t l := by
 obtain ⟨h, hb⟩ := h
 obtain ⟨h1, h2⟩ := h.ent _ _ hL
 refine ⟨h1, ?_⟩
 rcases h2 with h2 | ⟨h2, h3, h4⟩
 ·exact .inl h2
 ·obtain ⟨h5, h6⟩ := h.own L _ (by rw [hL]; exact ⟨h2, rfl⟩)
  exact .inr ⟨h2, h3, h5.resolve_right (hb _), h6, h4⟩
theorem nilRow (G : Reg) (A : Nat → Prop) (sz : Nat) (w : World) (e t : Nat) : NewRowAt G A sz w nilMV e t ([] : List (G.car t)) := ⟨rfl, .inl ⟨rfl, rfl, 0, rfl⟩⟩
def RowsOf (s : XS E.G.car) (ls : List (Option Nat)) : Prop := ∀ L, some L ∈ ls → ∃ e t l, s.lab L 0 = some (.row e t l)
theorem ownsK_sound {s : XS E.G.car} : ∀ {vs : List SV} {cs : List (CV E.G.car)} {ks : List Key} {us : St E.G.car}, SvCases (s.map 0) vs cs ks us → ∀ {es : List Nat} {K : List (Option Nat) → Option R}, outK.ownsK s es cs vs K = some r →
  ∃ ls, K ls = some r ∧ RowsOf s ls ∧ ∀ (b : Base) (m : Nat → MV) (A : Nat → Prop) (a : Act) (w : World), RelF E b m A (s.map 0) a w → ResCells E.G A b.B w cs es (denL m vs) (ls.map (mvOf m)) := by
 intro vs cs ks us h
 induction h with
 | nil =>
  intro es K hk
  cases es <;> exact ⟨[], hk, (fun L h => nomatch h), fun b m A a w _ => ⟨rfl, rfl⟩⟩
 | cons hc hs ih =>
  intro es K hk
  rename_i v vs cv cs k ks u us
  cases cv with
  | v x =>
   have hk : outK.ownsK s es cs vs K = some r := by cases es <;> exact hk
   obtain ⟨ls, h1, h2, h3⟩ := ih hk
   refine ⟨ls, h1, h2, fun b m A a w hr => ?_⟩
   have hv : den m v = x := by cases hc with | plain h4 _ => exact h4 m
   have := h3 b m A a w hr
   cases es <;> exact ⟨_, by rw [denL, hv], this⟩
  | sl t l =>
   cases es with
   | nil => cases v <;> simp [outK.ownsK] at hk
   | cons e es =>
    cases hc with
    | nil =>
     have hk : outK.ownsK s es cs vs (fun ls => K (none :: ls)) = some r := hk
     obtain ⟨ls, h1, h2, h3⟩ := ih hk
     refine ⟨_, h1, fun L hL => h2 L (by simpa using hL), fun b m A a w hr => ⟨nilMV, denL m vs, ls.map (mvOf m), ?_, rfl, nilRow _ _ _ _ _ _, h3 b m A a w hr⟩⟩
     simp only [denL, den, nilMV]
    | ext h4 h5 =>
     rename_i L
     have hk : (match s.lab L 0 with
      | some (.row e' _ _) => bif Nat.beq e e' then outK.ownsK s es cs vs fun ls => K (some L :: ls) else none
      | _ => none) = some r := hk
     split at hk
     ·rename_i e' t' l' hl
      exact absurd hl (h5 _ _ _)
     ·cases hk
    | row h4 =>
     rename_i L ety
     have h4' : s.lab L 0 = some (.row ety t l) := h4
     have hk : (match s.lab L 0 with
      | some (.row e' _ _) => bif Nat.beq e e' then outK.ownsK s es cs vs fun ls => K (some L :: ls) else none
      | _ => none) = some r := hk
     rw [h4'] at hk
     obtain ⟨h5, hk9⟩ := bif_some hk
     have h5 := Nat.eq_of_beq_eq_true h5
     subst h5
     obtain ⟨ls, h1, h2, h3⟩ := ih hk9
     refine ⟨_, h1, fun L' hL => ?_, fun b m A a w hr => ⟨m L, denL m vs, ls.map (mvOf m), ?_, rfl, newRow_of hr h4, h3 b m A a w hr⟩⟩
     ·rcases List.mem_cons.1 hL with h6 | h6
      ·cases h6; exact ⟨_, _, _, h4'⟩
      ·exact h2 L' h6
     ·simp only [denL, den]
    | part => simp [outK.ownsK] at hk
    | partR => simp [outK.ownsK] at hk
theorem SvCases.noRow {M : Map E.G.car} {vs : List SV} {cs : List (CV E.G.car)} {ks : List Key} {us : St E.G.car} (h : SvCases M vs cs ks us) (he : us = []) : ∀ L, .o L ∉ ks := by
 induction h with
 | nil => intro L hL; cases hL
 | cons hc hs ih =>
  intro L hL
  have h2 := List.append_eq_nil_iff.1 he
  rcases List.mem_append.1 hL with hL | hL
  ·cases hc with
   | plain => cases hL
   | nil => cases hL
   | ext => simp at hL
   | row => cases h2.2
   | part => simp at hL
   | partR => cases h2.2
  ·exact ih h2.1 L hL
theorem outK_sound {s : XS E.G.car} {k : RK} {v : SV} {K : k.T E.G.car → List (Option Nat) → Option R} (h : outK s k v K = some r) :
  ∃ x ls, K x ls = some r ∧ RowsOf s ls ∧ ∀ (b : Base) (m : Nat → MV) (A : Nat → Prop) (a : Act) (w : World), RelF E b m A (s.map 0) a w → ResIs E.G A b.B w k x (den m v) (ls.map (mvOf m)) := by
 cases k with
 | v t agg es =>
  unfold outK at h
  simp only at h
  obtain ⟨cs, ks, us, h1, h2⟩ := svCVs_sound (c := ⟨fun _ => none, s, none⟩) (seesOf s 0) h
  split at h1
  ·rename_i x hx
   obtain ⟨h3, h4⟩ := bif_some h1
   obtain ⟨ls, h5, h6, h7⟩ := ownsK_sound h2 h4
   refine ⟨x, ls, h5, h6, fun b m A a w hr => ⟨denL m (svCells v), by rw [E.G.hdec t cs x hx]; exact h7 b m A a w hr, ?_⟩⟩
   cases v with
   | g ys => simp only at h3; rw [h3]; rfl
   | _ => simp only [Bool.not_eq_true'] at h3; rw [h3]; rfl
  ·cases h1
 | sl t e =>
  unfold outK at h
  simp only at h
  split at h
  ·exact ⟨[], [none], h, (fun L hL => by simp at hL), fun b m A a w hr => ⟨nilMV, rfl, rfl, nilRow _ _ _ _ _ _⟩⟩
  ·rename_i L
   split at h
   ·rename_i e' t' l hl
    split at h
    ·rename_i ht
     subst ht
     obtain ⟨h3, h4⟩ := bif_some h
     have h3 := Nat.eq_of_beq_eq_true h3
     subst h3
     refine ⟨l, [some L], h4, fun L' hL => ?_, fun b m A a w hr => ⟨m L, rfl, rfl, newRow_of hr hl⟩⟩
     have : L' = L := by simpa using hL
     subst this
     exact ⟨_, _, _, hl⟩
    ·cases h
   ·cases h
  ·cases h
 | r t agg =>
  unfold outK at h
  simp only at h
  obtain ⟨cs, ks, us, h1, h2⟩ := svCVs_sound (c := ⟨fun _ => none, s, none⟩) (seesOf s 0) h
  split at h1
  ·rename_i x hx
   obtain ⟨h3, h4⟩ := bif_some h1
   refine ⟨x, [], h4, (fun L hL => nomatch hL), fun b m A a w hr => ⟨rfl, denL m (svCells v), ?_, ?_⟩⟩
   ·rw [E.G.hdec t cs x hx]
    exact h2.read hr.1 (fun _ _ => rfl) (fun _ h => h) (fun L x hL => absurd hL (h2.noRow rfl L))
   ·cases v with
    | g ys => simp only at h3; rw [h3]; rfl
    | _ => simp only [Bool.not_eq_true'] at h3; rw [h3]; rfl
  ·cases h1
theorem frzOne_sound : ∀ (vs : List SV) {s : XS E.G.car} {K : XS E.G.car → Option R}, frzOne vs s K = some r →
  ∃ s', K s' = some r ∧ ∀ (b : Base) (m : Nat → MV) (A : Nat → Prop) (a : Act) (w : World), RelF E b m A (s.map 0) a w → ∃ A', RelF E b m A' (s'.map 0) a w := by
 intro vs
 induction vs with
 | nil => intro s K h; exact ⟨s, h, fun b m A a w hr => ⟨A, hr⟩⟩
 | cons v vs ih =>
  intro s K h
  simp only [frzOne] at h
  split at h
  ·rename_i L
   split at h
   ·rename_i ety t l hl
    rw [XS.upd_eq] at h
    obtain ⟨hmap, _, _⟩ := XS.map_updF 0 (f := 0) (by omega) s (u := [(.o L, none), (.x L, some (.ext t l))]) rfl
    obtain ⟨s', h1, h2⟩ := ih h
    refine ⟨s', h1, fun b m A a w hr => ?_⟩
    have h3 := hr.1.freeze (show s.map 0 (.o L) = some (.row ety t l) from hl)
    rw [← hmap] at h3
    exact h2 b m _ a w ⟨h3, hr.2⟩
   ·exact ih h
  ·exact ih h
theorem frzR_sound : ∀ (ks : List RK) {vs : List SV} {s : XS E.G.car} {K : XS E.G.car → Option R}, frzR ks vs s K = some r →
  ∃ s', K s' = some r ∧ ∀ (b : Base) (m : Nat → MV) (A : Nat → Prop) (a : Act) (w : World), RelF E b m A (s.map 0) a w → ∃ A', RelF E b m A' (s'.map 0) a w := by
 intro ks
 induction ks with
 | nil => intro vs s K h; exact ⟨s, by simpa [frzR] using h, fun b m A a w hr => ⟨A, hr⟩⟩
 | cons k ks ih =>
  intro vs s K h
  cases vs with
  | nil => exact ⟨s, h, fun b m A a w hr => ⟨A, hr⟩⟩
  | cons v vs =>
   cases k with
   | r t agg =>
    have h : frzOne (svCells v) s (fun s => frzR ks vs s K) = some r := h
    obtain ⟨s1, h1, h2⟩ := frzOne_sound _ h
    obtain ⟨s2, h3, h4⟩ := ih h1
    exact ⟨s2, h3, fun b m A a w hr => by obtain ⟨A1, hr1⟩ := h2 b m A a w hr; exact h4 b m A1 a w hr1⟩
   | v _ _ _ => exact ih h
   | sl _ _ => exact ih h
theorem outsK_sound {s : XS E.G.car} : ∀ (ks : List RK) {vs : List SV} {K : RT E.G.car ks → List (Option Nat) → Option R}, outsK s ks vs K = some r →
  ∃ x ls, K x ls = some r ∧ RowsOf s ls ∧ ∀ (b : Base) (m : Nat → MV) (A : Nat → Prop) (a : Act) (w : World), RelF E b m A (s.map 0) a w → ResAre E.G A b.B w ks x (denL m vs) (ls.map (mvOf m))
 | [], [], K, h => ⟨(), [], h, (fun L hL => nomatch hL), fun _ _ _ _ _ _ => ⟨rfl, rfl⟩⟩
 | [], _ :: _, K, h => by cases h
 | [k], [v], K, h => by
  obtain ⟨x, ls, h1, h2, h3⟩ := outK_sound (k := k) (v := v) (K := K) h
  exact ⟨x, ls, h1, h2, fun b m A a w hr => ⟨_, rfl, h3 b m A a w hr⟩⟩
 | [k], [], K, h => by cases h
 | [k], _ :: _ :: _, K, h => by cases h
 | k :: k' :: ks, [], K, h => by cases h
 | k :: k' :: ks, v :: vs, K, h => by
  have h : (outK s k v fun x ls => outsK s (k' :: ks) vs fun y ls' => K (x, y) (ls ++ ls')) = some r := h
  obtain ⟨x, ls, h1, h2, h3⟩ := outK_sound h
  obtain ⟨y, ls', h4, h5, h6⟩ := outsK_sound (k' :: ks) h1
  refine ⟨(x, y), ls ++ ls', h4, fun L hL => (List.mem_append.1 hL).elim (h2 L) (h5 L), fun b m A a w hr => ⟨_, _, ls.map (mvOf m), ls'.map (mvOf m), rfl, by simp, h3 b m A a w hr, h6 b m A a w hr⟩⟩
theorem apart_of {s : XS E.G.car} {b : Base} {m : Nat → MV} {A : Nat → Prop} {a : Act} {w : World} (hr : Rel (cxOf E b) m A (s.map 0) a w) : ∀ {ls : List (Option Nat)}, RowsOf s ls → nodupN (ls.filterMap id) = true → Apart (ls.map (mvOf m)) := by
 intro ls
 induction ls with
 | nil => intro _ _; trivial
 | cons o ls ih =>
  intro h hn
  have hls : RowsOf s ls := fun L hL => h L (List.mem_cons_of_mem _ hL)
  cases o with
  | none => exact ⟨fun mv' _ hc => absurd rfl hc, ih hls hn⟩
  | some L =>
   obtain ⟨h1, h2⟩ := nodupN_cons (x := L) (l := ls.filterMap id) hn
   refine ⟨fun mv' hmv hc hc' hb => ?_, ih hls h2⟩
   obtain ⟨o', ho', rfl⟩ := List.mem_map.1 hmv
   cases o' with
   | none => exact absurd rfl hc'
   | some L' =>
    obtain ⟨e, t, l, e1⟩ := h L (by simp)
    obtain ⟨e', t', l', e2⟩ := hls L' ho'
    have e1 : s.map 0 (.o L) = some (.row e t l) := e1
    have e2 : s.map 0 (.o L') = some (.row e' t' l') := e2
    have := hr.inj L L' (m L).b (by rw [e1]; exact ⟨hc, rfl⟩) (by rw [e2]; exact ⟨hc', hb⟩)
    subst this
    exact h1 (List.mem_filterMap.2 ⟨some L, ho', rfl⟩)
end
end
end Go.KX

namespace Go.KX
open Go Go.RowKit
noncomputable section
section
variable {cx : Cx} {m : Nat → MV} {A : Nat → Prop} {g : CMap cx} {a : Act} {w : World}
theorem Rel.know {i : Nat} {x : SV} (h : Rel cx m A g a w) (hv : a.tmps[i]? = some (den m x)) (hk : x.ok m) : Rel cx m A (upd [(.t i, some (.x x))] g) a w := by
 have hg : ∀ k, k ≠ .t i → upd [(.t i, some (.x x))] g k = g k := fun k hk => by rw [upd_one, if_neg (Ne.symm hk)]
 refine ⟨h.size, h.defers, fun k v hkv => ?_, fun L o v hv => ?_, fun L x ho => ?_, fun L L' x h1 h2 => ?_, h.frzc, h.held, h.top, h.fix, h.ko, h.frz0, h.frzA, h.pins⟩
 ·by_cases e : k = .t i
  ·subst e
   rw [upd_one, if_pos rfl] at hkv
   cases hkv
   exact ⟨hv, hk⟩
  ·rw [hg k e] at hkv
   exact h.ent k v hkv
 ·rw [hg _ (by simp)] at hv ⊢
  exact h.cell L o v hv
 ·rw [hg _ (by simp)] at ho
  exact h.own L _ ho
 ·rw [hg _ (by simp)] at h1 h2
  exact h.inj L L' _ h1 h2
theorem Rel.addRo {L blk : Nat} {cs : List (CV cx.G.car)} (h : Rel cx m A g a w) (hf : Free cx L g) (hA : A blk) (hd : ∀ (j : Nat) (cv : CV cx.G.car), cs[j]? = some cv → ∃ u, w.cell? ⟨blk, j, none⟩ = some u ∧ Hd cx.G A w cv u) :
  Rel cx (setL m L { b := blk, p := none, n := 0, c := 0 }) A (upd [(.x L, some (.ro cs))] g) a w := by
 have hg : ∀ k, k ≠ .x L → upd [(.x L, some (.ro cs))] g k = g k := fun k hk => by rw [upd_one, if_neg (Ne.symm hk)]
 refine h.fresh hf (fun k hk => ?_) (fun k v hk hv => ?_) (fun o v hv => ?_) (fun bb ho => ?_)
 ·simp only [touches, Bool.or_false] at hk
  exact .inr (.inl (Key.eqb_iff.1 hk).symm)
 ·rcases hk with rfl | rfl | ⟨o, rfl⟩
  ·rw [hg _ (by simp)] at hv
   have := hf.1 (.o L); rw [hv] at this; simp [mentions, keyHas] at this
  ·rw [upd_one, if_pos rfl] at hv
   cases hv
   exact ⟨by rw [setL_self]; exact hA, fun j cv hj => by rw [setL_self]; exact hd j cv hj⟩
  ·rw [hg _ (by simp)] at hv
   have := hf.1 (.c L o); rw [hv] at this; simp [mentions, keyHas] at this
 ·rw [hg _ (by simp)] at hv
  have := hf.1 (.c L o); rw [hv] at this; simp [mentions, keyHas] at this
 ·rw [hg _ (by simp)] at ho
  cases e : g (.o L) with
  | none => rw [e] at ho; exact ho.elim
  | some v => have := hf.1 (.o L); rw [e] at this; simp [mentions, keyHas] at this
end
section
variable {cx : Cx} {m : Nat → MV} {A : Nat → Prop} {g : CMap cx} {a : Act} {w : World}
theorem Rel.addX {L : Nat} {mv : MV} {v : Val cx.G.car} (h : Rel cx m A g a w) (hf : Free cx L g) (hat : At cx (setL m L mv) A a.tmps w (.x L) v) : Rel cx (setL m L mv) A (upd [(.x L, some v)] g) a w := by
 have hg : ∀ k, k ≠ .x L → upd [(.x L, some v)] g k = g k := fun k hk => by rw [upd_one, if_neg (Ne.symm hk)]
 refine h.fresh hf (fun k hk => ?_) (fun k v' hk hv => ?_) (fun o v hv => ?_) (fun bb ho => ?_)
 ·simp only [touches, Bool.or_false] at hk
  exact .inr (.inl (Key.eqb_iff.1 hk).symm)
 ·rcases hk with rfl | rfl | ⟨o, rfl⟩
  ·rw [hg _ (by simp)] at hv
   have := hf.1 (.o L); rw [hv] at this; simp [mentions, keyHas] at this
  ·rw [upd_one, if_pos rfl] at hv
   cases hv
   exact hat
  ·rw [hg _ (by simp)] at hv
   have := hf.1 (.c L o); rw [hv] at this; simp [mentions, keyHas] at this
 ·rw [hg _ (by simp)] at hv
  have := hf.1 (.c L o); rw [hv] at this; simp [mentions, keyHas] at this
 ·rw [hg _ (by simp)] at ho
  cases e : g (.o L) with
  | none => rw [e] at ho; exact ho.elim
  | some v => have := hf.1 (.o L); rw [e] at this; simp [mentions, keyHas] at this
end
section
variable {E : Env} {R : Type} {r : R} {gl : List (Nat × Val E.G.car)}
def f0 : Fix := ⟨0, []⟩
variable {fx : Fix}
theorem setT_ok {s : XS E.G.car} (hs : OKS E fx s) {i : Nat} {y : SV} (hy : y.lt s.nl = true) : OKS E fx (s.setF 0 0 (.t i) (some (.x y))) ∧ (s.setF 0 0 (.t i) (some (.x y))).map 0 = upd [(.t i, some (.x y))] (s.map 0) := by
 have e : (s.setF 0 0 (.t i) (some (.x y))).nl = s.nl := XS.setF_nl
 have h := hs.inv.setF (d := 0) (f := 0) (nl := s.nl) (Nat.le_refl _) (k := .t i) (v := some (.x y)) (fun L hL => by simp [keyHas] at hL) (fun x hx => by cases hx; exact hy)
 refine ⟨⟨?_, fun p hp => by rw [e]; exact hs.glo p hp, by rw [e]; exact hs.pn⟩, XS.map_setF 0 (by omega) s rfl⟩
 rw [← e] at h
 exact h
theorem setX_ok {s : XS E.G.car} (hs : OKS E fx s) {v : Val E.G.car} (hv : v.lt (Nat.succ s.nl) = true) : OKS E fx (⟨(s.setF 0 0 (.x s.nl) (some v)).t, (s.setF 0 0 (.x s.nl) (some v)).o, Nat.succ (s.setF 0 0 (.x s.nl) (some v)).nl⟩ : XS E.G.car) ∧
  XS.map (⟨(s.setF 0 0 (.x s.nl) (some v)).t, (s.setF 0 0 (.x s.nl) (some v)).o, Nat.succ (s.setF 0 0 (.x s.nl) (some v)).nl⟩ : XS E.G.car) 0 = upd [(.x s.nl, some v)] (s.map 0) := by
 have e : (s.setF 0 0 (.x s.nl) (some v)).nl = s.nl := XS.setF_nl
 rw [e]
 refine ⟨⟨hs.inv.setF (Nat.le_succ _) (fun L hL => by simp only [keyHas] at hL; have := Nat.eq_of_beq_eq_true hL; omega) (fun x hx => by cases hx; exact hv), fun p hp => Nat.lt_succ_of_lt (hs.glo p hp), Nat.le_succ_of_le hs.pn⟩, ?_⟩
 exact XS.map_setF 0 (by omega) s rfl
theorem setO_ok {s : XS E.G.car} (hs : OKS E fx s) {v : Val E.G.car} (hv : v.lt (Nat.succ s.nl) = true) : OKS E fx (⟨(s.setF 0 0 (.o s.nl) (some v)).t, (s.setF 0 0 (.o s.nl) (some v)).o, Nat.succ (s.setF 0 0 (.o s.nl) (some v)).nl⟩ : XS E.G.car) ∧
  XS.map (⟨(s.setF 0 0 (.o s.nl) (some v)).t, (s.setF 0 0 (.o s.nl) (some v)).o, Nat.succ (s.setF 0 0 (.o s.nl) (some v)).nl⟩ : XS E.G.car) 0 = upd [(.o s.nl, some v)] (s.map 0) := by
 have e : (s.setF 0 0 (.o s.nl) (some v)).nl = s.nl := XS.setF_nl
 rw [e]
 refine ⟨⟨hs.inv.setF (Nat.le_succ _) (fun L hL => by simp only [keyHas] at hL; have := Nat.eq_of_beq_eq_true hL; omega) (fun x hx => by cases hx; exact hv), fun p hp => Nat.lt_succ_of_lt (hs.glo p hp), Nat.le_succ_of_le hs.pn⟩, ?_⟩
 exact XS.map_setF 0 (by omega) s rfl
def ParOK (E : Env) (fx : Fix) (s s' : XS E.G.car) (P : (Nat → Prop) → Act → World → Prop) : Prop :=
 OKS E fx s' ∧ ∀ (b : Base) (m : Nat → MV) (A : Nat → Prop) (a : Act) (w : World), b.pn ≤ fx.pn → Rel (cxOf E b) m A (s.map 0) a w → P A a w → ∃ m', Rel (cxOf E b) m' A (s'.map 0) a w
theorem free_nl {s : XS E.G.car} (hs : OKS E fx s) {b : Base} (hpn : b.pn ≤ fx.pn) {L : Nat} (hL : s.nl ≤ L) : Free (cxOf E b) L (s.map 0) :=
 ⟨hs.inv.free hL, fun p hp => by have := hs.glo p hp; omega, by show b.pn ≤ L; have := hs.pn; omega⟩
def labS (s : XS E.G.car) (v : Val E.G.car) : XS E.G.car := ⟨(s.labF 0 s.nl 1 (some v)).t, (s.labF 0 s.nl 1 (some v)).o, Nat.succ (s.labF 0 s.nl 1 (some v)).nl⟩
theorem labS_nl {s : XS E.G.car} {v : Val E.G.car} : (labS s v).nl = s.nl + 1 := by
 show Nat.succ (s.labF 0 s.nl 1 (some v)).nl = s.nl + 1
 rw [(XS.labF_t 0 s s.nl 1 _).2]
theorem labS_ok {s : XS E.G.car} (hs : OKS E fx s) {v : Val E.G.car} (hv : v.lt (s.nl + 1) = true) : OKS E fx (labS s v) ∧ (labS s v).map 0 = upd [(.x s.nl, some v)] (s.map 0) := setX_ok hs hv
theorem parWk_sound {s : XS E.G.car} (hs : OKS E fx s) {i tM tA : Nat} {rr : List (Int × List Value)} {x : (PK.wk tM tA rr).T E.G.car} {K : XS E.G.car → Option R} (h : parK s i (.wk tM tA rr) x K = some r) :
  ∃ s', K s' = some r ∧ ParOK E fx s s' fun A a w => ∃ v, a.tmps[i]? = some v ∧ ArgIs E A w (.wk tM tA rr) x v := by
 have h : s.setLab 0 s.nl 1 (some (.ro (E.G.enc tM x.1))) (fun s1 =>
   XS.setLab 0 ⟨s1.t, s1.o, Nat.succ s1.nl⟩ (Nat.succ s1.nl) 1 (some (.ro (E.G.enc tA x.2))) fun s2 =>
   XS.setLab 0 ⟨s2.t, s2.o, Nat.succ s2.nl⟩ (Nat.succ s2.nl) 1 (some (.mr rr)) fun s3 =>
   XS.setLab 0 ⟨s3.t, s3.o, Nat.succ s3.nl⟩ (Nat.succ s3.nl) 1 (some (.rb [.p s1.nl 0, .p s2.nl 0, .m s3.nl])) fun s4 =>
   XS.setTmp 0 0 ⟨s4.t, s4.o, Nat.succ s4.nl⟩ i (some (.p s4.nl 0)) K) = some r := h
 simp only [XS.setLab_eq] at h
 have e1 : (s.labF 0 s.nl 1 (some (.ro (E.G.enc tM x.1)))).nl = s.nl := (XS.labF_t 0 s s.nl 1 _).2
 have hl : ∀ (s : XS E.G.car) (v : Val E.G.car), XS.labF 0 (labS s v) (labS s v).nl 1 = XS.labF 0 (labS s v) (Nat.succ (s.labF 0 s.nl 1 (some v)).nl) 1 := fun _ _ => rfl
 let s1 := labS s (.ro (E.G.enc tM x.1))
 let s2 := labS s1 (.ro (E.G.enc tA x.2))
 let s3 := labS s2 (.mr rr)
 let s4 := labS s3 (.rb [.p s.nl 0, .p s1.nl 0, .m s2.nl])
 have n1 : s1.nl = s.nl + 1 := labS_nl
 have n2 : s2.nl = s1.nl + 1 := labS_nl
 have n3 : s3.nl = s2.nl + 1 := labS_nl
 have n4 : s4.nl = s3.nl + 1 := labS_nl
 obtain ⟨o1, m1⟩ := labS_ok hs (v := .ro (E.G.enc tM x.1)) rfl
 obtain ⟨o2, m2⟩ := labS_ok o1 (v := .ro (E.G.enc tA x.2)) rfl
 obtain ⟨o3, m3⟩ := labS_ok o2 (v := .mr rr) rfl
 obtain ⟨o4, m4⟩ := labS_ok o3 (v := .rb [.p s.nl 0, .p s1.nl 0, .m s2.nl]) (by
  simp only [Val.lt, ltL, SV.lt, Bool.and_true, Bool.and_eq_true, Nat.blt_eq]
  refine ⟨?_, ?_, ?_⟩ <;> (change _ < s3.nl + 1; omega))
 have h : XS.setTmp 0 0 s4 i (some (.p s3.nl 0)) K = some r := by
  have q1 : (s1.labF 0 s1.nl 1 (some (.ro (E.G.enc tA x.2)))).nl = s1.nl := (XS.labF_t 0 _ _ 1 _).2
  have q2 : (s2.labF 0 s2.nl 1 (some (.mr rr))).nl = s2.nl := (XS.labF_t 0 _ _ 1 _).2
  have q3 : (s3.labF 0 s3.nl 1 (some (.rb [.p s.nl 0, .p s1.nl 0, .m s2.nl]))).nl = s3.nl := (XS.labF_t 0 _ _ 1 _).2
  have h : XS.setTmp 0 0 (labS s3 (.rb [.p (s.labF 0 s.nl 1 (some (.ro (E.G.enc tM x.1)))).nl 0, .p (s1.labF 0 s1.nl 1 (some (.ro (E.G.enc tA x.2)))).nl 0, .m (s2.labF 0 s2.nl 1 (some (.mr rr))).nl])) i
    (some (.p (s3.labF 0 s3.nl 1 (some (.rb [.p (s.labF 0 s.nl 1 (some (.ro (E.G.enc tM x.1)))).nl 0, .p (s1.labF 0 s1.nl 1 (some (.ro (E.G.enc tA x.2)))).nl 0, .m (s2.labF 0 s2.nl 1 (some (.mr rr))).nl]))).nl 0)) K = some r := h
  rw [e1, q1, q2, q3] at h
  exact h
 rw [XS.setTmp_eq] at h
 obtain ⟨o5, m5⟩ := setT_ok o4 (i := i) (y := .p s3.nl 0) (by
  simp only [SV.lt, Nat.blt_eq]
  change s3.nl < s4.nl
  omega)
 refine ⟨_, h, o5, fun b m A a w hpn hr ⟨v, hv, blk, pM, pA, bR, hb, hA, c0, c1, c2, hM, hAr, hAR, es, cl, hes, hmr⟩ => ?_⟩
 obtain ⟨bM, rfl, hAM, hdM⟩ := hM
 obtain ⟨bA, rfl, hAA, hdA⟩ := hAr
 have r1 := hr.addRo (free_nl hs hpn (Nat.le_refl _)) hAM hdM
 rw [← m1] at r1
 have r2 := r1.addRo (free_nl o1 hpn (Nat.le_refl _)) hAA hdA
 rw [← m2] at r2
 have r3 := r2.addX (mv := { b := bR, p := none, n := 0, c := 0 }) (v := .mr rr) (free_nl o2 hpn (Nat.le_refl _)) ⟨by rw [setL_self]; exact hAR, es, cl, by rw [setL_self]; exact hes, hmr⟩
 rw [← m3] at r3
 have d1 : ∀ mv mv' mv'' mv''' : MV, setL (setL (setL (setL m s.nl mv) s1.nl mv') s2.nl mv'') s3.nl mv''' s.nl = mv := fun mv mv' mv'' mv''' => by
  rw [setL_ne _ _ (by omega), setL_ne _ _ (by omega), setL_ne _ _ (by omega), setL_self]
 have d2 : ∀ mv mv' mv'' mv''' : MV, setL (setL (setL (setL m s.nl mv) s1.nl mv') s2.nl mv'') s3.nl mv''' s1.nl = mv' := fun mv mv' mv'' mv''' => by
  rw [setL_ne _ _ (by omega), setL_ne _ _ (by omega), setL_self]
 have d3 : ∀ mv mv' mv'' mv''' : MV, setL (setL (setL (setL m s.nl mv) s1.nl mv') s2.nl mv'') s3.nl mv''' s2.nl = mv'' := fun mv mv' mv'' mv''' => by
  rw [setL_ne _ _ (by omega), setL_self]
 have r4 := r3.addX (mv := { b := blk, p := none, n := 0, c := 0 }) (v := .rb [.p s.nl 0, .p s1.nl 0, .m s2.nl]) (free_nl o3 hpn (Nat.le_refl _)) (by
  refine ⟨by rw [setL_self]; exact hA, ⟨trivial, trivial, trivial, trivial⟩, fun j y hy => ?_⟩
  rw [setL_self]
  match j, hy with
  | 0, hy => cases hy; rw [show den _ (SV.p s.nl 0) = _ from rfl]; simp only [den]; rw [d1]; exact c0
  | 1, hy => cases hy; simp only [den]; rw [d2]; exact c1
  | 2, hy => cases hy; simp only [den]; rw [d3]; exact c2
  | j + 3, hy => simp at hy)
 rw [← m4] at r4
 have r5 := r4.know (i := i) (x := .p s3.nl 0) (by
  rw [hv, hb]
  show _ = some (Value.pointer (some ⟨(setL _ s3.nl _ s3.nl).b, 0, none⟩))
  rw [setL_self]) trivial
 rw [← m5] at r5
 exact ⟨_, r5⟩
theorem parK_sound {s : XS E.G.car} (hs : OKS E fx s) {i : Nat} {p : PK} {x : p.T E.G.car} {K : XS E.G.car → Option R} (h : parK s i p x K = some r) :
  ∃ s', K s' = some r ∧ ParOK E fx s s' fun A a w => ∃ v, a.tmps[i]? = some v ∧ ArgIs E A w p x v := by
 have lab : ∀ (v : Val E.G.car) (y : SV) (K : XS E.G.car → Option R), v.lt (Nat.succ s.nl) = true → y.lt (s.nl + 1) = true → (s.setLab 0 s.nl 1 (some v) fun s => XS.setTmp 0 0 ⟨s.t, s.o, Nat.succ s.nl⟩ i (some y) K) = some r →
   ∃ s', K s' = some r ∧ OKS E fx s' ∧ s'.map 0 = upd [(.t i, some (.x y))] (upd [(.x s.nl, some v)] (s.map 0)) := by
  intro v y K h1 hy h
  rw [XS.setLab_eq, XS.setTmp_eq] at h
  obtain ⟨o1, m1⟩ := setX_ok hs h1
  obtain ⟨o2, m2⟩ := setT_ok o1 (i := i) (y := y) (by
   show y.lt (Nat.succ (s.setF 0 0 (.x s.nl) (some v)).nl) = true
   rw [XS.setF_nl]; exact hy)
  exact ⟨_, h, o2, by rw [← m1]; exact m2⟩
 cases p with
 | wk tM tA rr => exact parWk_sound hs h
 | v t agg =>
  unfold parK at h
  obtain ⟨ys, us, nl', h1, h2, h3, h4, h5, h6⟩ := cvsK_sound h
  cases hup : upBelow nl' us with
  | false => rw [hup] at h1; cases h1
  | true =>
   rw [hup] at h1
   simp only [Bool.not_true, cond_false, XS.upd_eq] at h1
   obtain ⟨g1, g2, _⟩ := XS.map_updF 0 (f := 0) (by omega) s (upBelow_ups hup)
   have o1 : OKS E fx (⟨(XS.updF 0 0 us s).t, (XS.updF 0 0 us s).o, nl'⟩ : XS E.G.car) := ⟨hs.inv.updF h2 hup, fun p hp => Nat.lt_of_lt_of_le (hs.glo p hp) h2, Nat.le_trans hs.pn h2⟩
   have m1 : XS.map (⟨(XS.updF 0 0 us s).t, (XS.updF 0 0 us s).o, nl'⟩ : XS E.G.car) 0 = upd us (s.map 0) := g1
   cases agg with
   | true =>
    simp only [XS.setTmp_eq] at h1
    obtain ⟨o2, m2⟩ := setT_ok o1 (i := i) (y := .g ys) (by simpa [SV.lt] using h4)
    refine ⟨_, h1, o2, fun b m A a w hpn hr ⟨v, hv, us', hd, he⟩ => ?_⟩
    obtain ⟨m', hr', e1, e2, _⟩ := h6 b m A (s.map 0) a w us' hr (fun L hL _ => free_nl hs hpn hL) hd
    refine ⟨m', ?_⟩
    show Rel _ _ _ (XS.map (XS.setF 0 0 _ (.t i) (some (.x (.g ys)))) 0) _ _
    rw [m2, m1]
    simp only [if_true] at he
    exact hr'.know (by rw [hv, he, den, e1]) e2
   | false =>
    simp only at h1
    split at h1
    ·rename_i y
     simp only [XS.setTmp_eq] at h1
     obtain ⟨o2, m2⟩ := setT_ok o1 (i := i) (y := y) (by simp only [ltL, Bool.and_true] at h4; exact h4)
     refine ⟨_, h1, o2, fun b m A a w hpn hr ⟨v, hv, us', hd, he⟩ => ?_⟩
     obtain ⟨m', hr', e1, e2, _⟩ := h6 b m A (s.map 0) a w us' hr (fun L hL _ => free_nl hs hpn hL) hd
     refine ⟨m', ?_⟩
     show Rel _ _ _ (XS.map (XS.setF 0 0 _ (.t i) (some (.x y))) 0) _ _
     rw [m2, m1]
     simp only [Bool.false_eq_true, if_false] at he
     subst he
     have e1 : den m' y = v := by simpa [denL] using e1
     exact hr'.know (by rw [hv, e1]) e2.1
    ·cases h1
 | sl t =>
  obtain ⟨s', h1, o1, m1⟩ := lab (.ext t x) (.h s.nl) K rfl (by simp [SV.lt]) (by
   have h : (s.setLab 0 s.nl 1 (some (.ext t x)) fun s => XS.setTmp 0 0 ⟨s.t, s.o, Nat.succ s.nl⟩ i (some (.h s.nl)) K) = some r := h
   rw [XS.setLab_eq] at h ⊢
   rw [XS.setTmp_eq] at h ⊢
   rw [(XS.labF_t 0 s s.nl 1 (some (.ext t x))).2] at h ⊢
   exact h)
  refine ⟨s', h1, o1, fun b m A a w hpn hr ⟨v, hv, hd⟩ => ?_⟩
  have hd : Hd E.G A w (.sl t x) v := hd
  obtain ⟨p, n, c, rfl⟩ := hd.slice
  have h2 := hr.addExt (free_nl hs hpn (Nat.le_refl _)) hd
  exact ⟨_, by rw [m1]; exact h2.know (by rw [hv]; simp only [den, setL_self]) trivial⟩
 | ptr t =>
  obtain ⟨s', h1, o1, m1⟩ := lab (.ro (E.G.enc t x)) (.p s.nl 0) K rfl (by simp [SV.lt]) (by
   have h : (s.setLab 0 s.nl 1 (some (.ro (E.G.enc t x))) fun s => XS.setTmp 0 0 ⟨s.t, s.o, Nat.succ s.nl⟩ i (some (.p s.nl 0)) K) = some r := h
   rw [XS.setLab_eq] at h ⊢
   rw [XS.setTmp_eq] at h ⊢
   rw [(XS.labF_t 0 s s.nl 1 _).2] at h ⊢
   exact h)
  refine ⟨s', h1, o1, fun b m A a w hpn hr ⟨v, hv, blk, hb, hA, hd⟩ => ?_⟩
  have h2 := hr.addRo (free_nl hs hpn (Nat.le_refl _)) hA hd
  exact ⟨_, by rw [m1]; exact h2.know (by rw [hv, hb]; simp only [den, setL_self]) trivial⟩
 | gp t =>
  obtain ⟨s', h1, o1, m1⟩ := lab (.ro (E.G.enc t x)) (.g [.p s.nl 0]) K rfl (by simp [SV.lt, ltL]) (by
   have h : (s.setLab 0 s.nl 1 (some (.ro (E.G.enc t x))) fun s => XS.setTmp 0 0 ⟨s.t, s.o, Nat.succ s.nl⟩ i (some (.g [.p s.nl 0])) K) = some r := h
   rw [XS.setLab_eq] at h ⊢
   rw [XS.setTmp_eq] at h ⊢
   rw [(XS.labF_t 0 s s.nl 1 _).2] at h ⊢
   exact h)
  refine ⟨s', h1, o1, fun b m A a w hpn hr ⟨v, hv, u, hu, blk, hb, hA, hd⟩ => ?_⟩
  have h2 := hr.addRo (free_nl hs hpn (Nat.le_refl _)) hA hd
  exact ⟨_, by rw [m1]; exact h2.know (by rw [hv, hu, hb]; simp only [den, denL, setL_self]) ⟨trivial, trivial⟩⟩
 | nl =>
  change Nat at x
  have h : XS.setTmp 0 0 s i (some (.v (.slice none 0 x))) K = some r := h
  rw [XS.setTmp_eq] at h
  obtain ⟨o2, m2⟩ := setT_ok hs (i := i) (y := .v (.slice none 0 x)) rfl
  refine ⟨_, h, o2, fun b m A a w hpn hr ⟨v, hv, hd⟩ => ⟨m, ?_⟩⟩
  have hd : v = .slice none 0 x := hd
  have h3 : Rel (cxOf E b) m A ((XS.setF 0 0 s (.t i) (some (.x (.v (.slice none 0 x))))).map 0) a w := by
   rw [m2]
   exact hr.know (by rw [hv, hd]; rfl) trivial
  exact h3
 | ow ety t =>
  have h : s.setLab 0 s.nl 0 (some (.row ety t x)) (fun s => XS.setTmp 0 0 ⟨s.t, s.o, Nat.succ s.nl⟩ i (some (.h s.nl)) K) = some r := h
  rw [XS.setLab_eq, XS.setTmp_eq] at h
  obtain ⟨o1, m1⟩ := setO_ok hs (v := .row ety t x) rfl
  obtain ⟨o2, m2⟩ := setT_ok o1 (i := i) (y := .h (s.setF 0 0 (.o s.nl) (some (.row ety t x))).nl) (by
   show (SV.h _).lt (Nat.succ _) = true
   simp [SV.lt])
  exact ⟨_, h, o2, fun b m A a w hpn hr ⟨v, hv, hd⟩ => hd.elim⟩
 | fv f =>
  have h : XS.setTmp 0 0 s i (some (.v (.func (.func f) #[] #[]))) K = some r := h
  rw [XS.setTmp_eq] at h
  obtain ⟨o2, m2⟩ := setT_ok hs (i := i) (y := .v (.func (.func f) #[] #[])) rfl
  refine ⟨_, h, o2, fun b m A a w hpn hr ⟨v, hv, hd⟩ => ⟨m, ?_⟩⟩
  have hd : v = .func (.func f) #[] #[] := hd
  have h3 : Rel (cxOf E b) m A ((XS.setF 0 0 s (.t i) (some (.x (.v (.func (.func f) #[] #[]))))).map 0) a w := by
   rw [m2]
   exact hr.know (by rw [hv, hd]; rfl) trivial
  exact h3
 | sn t =>
  obtain ⟨s', h1, o1, m1⟩ := lab (.ext t x) (.n s.nl) K rfl (by simp [SV.lt]) (by
   have h : (s.setLab 0 s.nl 1 (some (.ext t x)) fun s => XS.setTmp 0 0 ⟨s.t, s.o, Nat.succ s.nl⟩ i (some (.n s.nl)) K) = some r := h
   rw [XS.setLab_eq] at h ⊢
   rw [XS.setTmp_eq] at h ⊢
   rw [(XS.labF_t 0 s s.nl 1 (some (.ext t x))).2] at h ⊢
   exact h)
  refine ⟨s', h1, o1, fun b m A a w hpn hr ⟨v, hv, hd, p, n, c, he⟩ => ?_⟩
  subst he
  have h2 := hr.addExt (free_nl hs hpn (Nat.le_refl _)) hd
  exact ⟨_, by rw [m1]; exact h2.know (by rw [hv]; simp only [den, setL_self]) (by simp only [SV.ok, setL_self]; rfl)⟩
theorem parsK_sound : ∀ (ps : List PK) {x : AT E.G.car ps} {i : Nat} {s : XS E.G.car} {K : XS E.G.car → Option R}, OKS E fx s → parsK ps x i s K = some r →
  ∃ s', K s' = some r ∧ ParOK E fx s s' fun A a w => ∃ vs, (∀ j v, vs[j]? = some v → a.tmps[i + j]? = some v) ∧ ArgsAre E A w ps x vs := by
 intro ps
 induction ps with
 | nil => intro x i s K hs h; exact ⟨s, h, hs, fun b m A a w _ hr _ => ⟨m, hr⟩⟩
 | cons p ps ih =>
  intro x i s K hs h
  have h : parK s i p x.1 (fun s => parsK ps x.2 (Nat.succ i) s K) = some r := h
  obtain ⟨s1, h1, o1, f1⟩ := parK_sound hs h
  obtain ⟨s2, h2, o2, f2⟩ := ih o1 h1
  refine ⟨s2, h2, o2, fun b m A a w hpn hr ⟨vs, hvs, v, us, e, ha, has⟩ => ?_⟩
  subst e
  obtain ⟨m1, r1⟩ := f1 b m A a w hpn hr ⟨v, hvs 0 v rfl, ha⟩
  exact f2 b m1 A a w hpn r1 ⟨us, fun j u hj => by have := hvs (j + 1) u (by simpa using hj); rwa [show Nat.succ i + j = i + (j + 1) by omega], has⟩
theorem argsAre_len {A : Nat → Prop} {w : World} : ∀ {ps : List PK} {x : AT E.G.car ps} {vs : List Value}, ArgsAre E A w ps x vs → vs.length = ps.length := by
 intro ps
 induction ps with
 | nil => intro x vs h; rw [show vs = [] from h]; rfl
 | cons p ps ih => intro x vs ⟨v, us, e, _, h⟩; rw [e]; simp [ih h]
theorem upd_mem {car : Nat → Type} {k : Key} {v : Val car} {g : Map car} : ∀ {u : St car}, upd u g k = some v → (∃ x ∈ u, x.1 = k ∧ x.2 = some v) ∨ g k = some v := by
 intro u
 induction u with
 | nil => intro h; exact .inr h
 | cons x u ih =>
  intro h
  rw [upd_cons] at h
  split at h
  ·rename_i e
   exact .inl ⟨x, by simp, e, h⟩
  ·rcases ih h with ⟨y, hy, h1⟩ | h1
   ·exact .inl ⟨y, List.mem_cons_of_mem _ hy, h1⟩
   ·exact .inr h1
theorem rel_start {A : Nat → Prop} {w : World} {N : Nat} {args : List Value} (hn : args.length ≤ N) (hA : ∀ x, A x → IsCells w x) {mg : Nat → MV} (h1 : ∀ p ∈ E.glo, (mg p.1).b = p.2) (h2 : ∀ q ∈ gl, ExtAt E.G A w (mg q.1) q.2)
  {g : Map E.G.car} (hg : ∀ k v, g k = some v → ∃ q ∈ gl, k = .x q.1 ∧ v = q.2) : Rel (cxOf E ⟨none, w.heap.size, w, N, true, fun _ => #[], [], A, fun _ => False, 0, mg⟩) mg A g { tmps := args.toArray ++ Array.replicate (N - args.toArray.size) undef, defers := [] } w := by
 refine ⟨by simp [cxOf]; omega, marks_nil, fun k v hk => ?_, fun L o v hv => ?_, fun L x ho => ?_, fun L L' x ho _ => ?_, hA, ⟨rfl, rfl, .rfl, Nat.le_refl _, fun _ _ _ => rfl⟩, Nat.le_refl _, h1, (fun k o hk => nomatch hk), fun b hb => .inl hb, fun b hb => hb, fun L hL => absurd hL (Nat.not_lt_zero _)⟩
 ·obtain ⟨q, hq, rfl, rfl⟩ := hg k v hk
  exact (h2 q hq).at
 ·obtain ⟨q, _, e, _⟩ := hg _ _ hv; cases e
 ·cases e : g (.o L) with
  | none => rw [e] at ho; exact ho.elim
  | some v => obtain ⟨q, _, e', _⟩ := hg _ _ e; cases e'
 ·cases e : g (.o L) with
  | none => rw [e] at ho; exact ho.elim
  | some v => obtain ⟨q, _, e', _⟩ := hg _ _ e; cases e'
theorem fn_sound {cx : Ctx E} (hmix : E.P.follows .mixedOrders = true) (ht : ∀ c ∈ cx.tbl, CSok E gl c) (hin : InlS E gl cx) (hkeys : ∀ p ∈ E.keys, KeyOK E.P E.G p.1 p.2) (hgl : upBelow gl.length (gl.map fun q => (Key.x q.1, some q.2)) = true) (hglo : ∀ p ∈ E.glo, p.1 < gl.length) {fk : Nat} {fn : Func} (hf : E.P.funcs[fk]? = some fn)
  {ps : List PK} {rs : List RK} (hps : ps.length ≤ fn.ntmps) (h : Hint) : Contract E gl ⟨fk, ps, rs, fnK cx fn gl ps rs h⟩ := by
 intro A w vs xs hgw hA hargs r hr
 have hr : fnK cx fn gl ps rs h xs = some r := hr
 unfold fnK at hr
 split at hr
 ·cases hr
 ·rename_i c hc
  rw [XS.upd_eq] at hr
  have o0 : OKS E f0 (XS.updF 0 0 (gl.map fun q => (Key.x q.1, some q.2)) ⟨.e, .e, gl.length⟩ : XS E.G.car) := by
   have e : (XS.updF 0 0 (gl.map fun q => (Key.x q.1, some q.2)) (⟨.e, .e, gl.length⟩ : XS E.G.car)).nl = gl.length := (XS.map_updF 0 (f := 0) (by omega) _ (upBelow_ups hgl)).2.1
   have h1 := Inv.updF (d := 0) (f := 0) (s := (⟨.e, .e, gl.length⟩ : XS E.G.car)) ⟨(fun k a v hk => nomatch hk), (fun L q e he => nomatch he)⟩ (Nat.le_refl _) hgl
   refine ⟨?_, (fun p hp => by rw [e]; exact hglo p hp), Nat.zero_le _⟩
   have key : ∀ (s' : XS E.G.car) (n : Nat), s'.nl = n → Inv (⟨s'.t, s'.o, n⟩ : XS E.G.car) → Inv s' := fun s' n e h => by subst e; exact h
   exact key _ _ e h1
  obtain ⟨s1, h1, o1, f1⟩ := parsK_sound ps o0 hr
  obtain ⟨h', e, s2, h2, o2, _, hdoes⟩ := exec_sound (gl := gl) hmix ht hin hkeys 12 c f0 [] ⟨0, 0, fn.ntmps, true, fun _ => []⟩ h s1 r _ (fun L f hf => nomatch hf) rfl o1 h1
  have hfin : e ≠ .normal → e ≠ .ret → False := fun h3 h4 => by cases e <;> first | exact absurd rfl h3 | exact absurd rfl h4 | cases h2
  have h2 : retK s2 fn.results.toList (fun vs => frzR rs vs s2 fun s => outsK s rs vs fun r ls => bif nodupN (ls.filterMap id) then some r else none) = some r := by
   cases e <;> first | exact h2 | cases h2
  obtain ⟨us, h3, hres⟩ := retK_sound _ h2
  obtain ⟨s3, h3, hfrz⟩ := frzR_sound rs h3
  obtain ⟨x, ls, h4, hrows, hout⟩ := outsK_sound rs h3
  obtain ⟨h5, h6⟩ := bif_some h4
  cases h6
  refine (callsIn_wide (n := 0)).1 ?_
  refine callsIn_of_wp_marks hf hc trivial ?_
  obtain ⟨mg, g1, g2⟩ := hgw
  have hlen := argsAre_len hargs
  have hstart := rel_start (E := E) (gl := gl) (A := A) (w := w) (N := fn.ntmps) (args := vs) (by rw [hlen]; exact hps) hA g1 g2 (g := (XS.updF 0 0 (gl.map fun q => (Key.x q.1, some q.2)) (⟨.e, .e, gl.length⟩ : XS E.G.car)).map 0) (fun k v hk => by
   rw [(XS.map_updF 0 (f := 0) (by omega) _ (upBelow_ups hgl)).1] at hk
   rcases upd_mem hk with ⟨y, hy, h7, h8⟩ | h7
   ·obtain ⟨q, hq, rfl⟩ := List.mem_map.1 hy
    exact ⟨q, hq, h7.symm, by cases h8; rfl⟩
   ·exfalso
    cases k with
    | _ => cases h7)
  obtain ⟨m1, hr1⟩ := f1 _ mg A _ w (Nat.le_refl _) hstart ⟨vs, fun j v hj => by
   have hlt : j < vs.length := (List.getElem?_eq_some_iff.1 hj).1
   rw [Nat.zero_add, Array.getElem?_append_left (by simpa using hlt)]
   simpa using hj, hargs⟩
  let b0 : Base := ⟨none, w.heap.size, w, fn.ntmps, true, fun _ => #[], [], A, fun _ => False, 0, mg⟩
  have hg0 : Good E gl f0 b0 := ⟨⟨mg, g1, g2⟩, fun x hx => (hA x hx).lt, fun _ _ h => h, (fun p hp => nomatch hp), Nat.le_refl _, (fun y hy => nomatch hy), fun h => absurd rfl h⟩
  refine hdoes b0 m1 A _ w _ hg0 ⟨rfl, rfl, fun _ => rfl⟩ hr1 fun m' A' a' w' hr' => ?_
  have hpost : LeavesInM Fence.wide 0 E.P fn a'.tmps (fun e w' => ∃ us ms A', e = .returned (resV us) ∧ Bel w.heap.size w w' ∧ (∀ b, A b → A' b) ∧ (∀ b, A' b → IsCells w' b) ∧ (∀ b, A' b → A b ∨ w.heap.size ≤ b) ∧
    ResAre E.G A' w.heap.size w' rs r us ms ∧ Apart ms) a'.defers .returning w' := by
   obtain ⟨ms, h7, _, h8, h9⟩ := hr'.defers
   rw [h7]
   refine leaves (b := b0) rfl hg0.kb (fun m A a w hr => results_run (hres b0 m A a w hr).1) (fun m A2 a w2 hr2 => ?_) ms w' a' m' A' h8 h9 hr'
   obtain ⟨A3, hr3⟩ := hfrz b0 m A2 a w2 ⟨hr2, fun _ h => h⟩
   have hrf := hr3
   obtain ⟨hr2, _⟩ := hr3
   exact ⟨_, _, A3, rfl, ⟨hr2.held.os, hr2.held.tape, hr2.held.output, hr2.held.size, fun k hk => hr2.held.block k hk (fun h => h)⟩, hr2.frzA, hr2.frzc, fun x hx => (hr2.frz0 x hx).imp_right fun h => h.resolve_right (fun h => h),
    hout b0 m A3 a w2 hrf, apart_of hr2 hrows h5⟩
  cases e with
  | normal => exact hpost
  | ret => exact hpost
  | exit id => exact (hfin (by simp) (by simp)).elim
theorem contract_nil {k t : Nat} {rs : List RK} {f : List (E.G.car t) → Option (RT E.G.car rs)} {f0 : Nat → Option (RT E.G.car rs)} {f1 : List (E.G.car t) → Option (RT E.G.car rs)}
  (h0 : Contract E gl ⟨k, [.nl], rs, fun x => f0 x.1⟩) (h1 : Contract E gl ⟨k, [.sn t], rs, fun x => f1 x.1⟩) (e0 : ∀ c r, f [] = some r → f0 c = some r) (e1 : ∀ l r, f l = some r → f1 l = some r) : Contract E gl ⟨k, [.sl t], rs, fun x => f x.1⟩ := by
 intro A w vs xs hgw hA hargs r hr
 obtain ⟨v, us, rfl, ha, hu⟩ := hargs
 have hu : us = [] := hu
 subst hu
 have ha : Hd E.G A w (.sl t xs.1) v := ha
 obtain ⟨p, n, c, rfl⟩ := ha.slice
 have hr : f xs.1 = some r := hr
 cases p with
 | some p => exact h1 A w [.slice (some p) n c] (xs.1, ()) hgw hA ⟨_, _, rfl, ⟨ha, p, n, c, rfl⟩, rfl⟩ r (e1 _ _ hr)
 | none =>
  have hl : xs.1 = [] := by
   cases hx : xs.1 with
   | nil => rfl
   | cons y ys =>
    rw [hx] at ha
    obtain ⟨b, o, hp, _⟩ := ha.at (i := 0) (x := y) rfl
    cases hp
  have hn : n = 0 := by rw [ha.len.1, hl]; rfl
  subst hn
  rw [hl] at hr
  exact h0 A w [.slice none 0 c] (c, ()) hgw hA ⟨_, _, rfl, rfl, rfl⟩ r (e0 c r hr)
end
end
end Go.KX

namespace Go.Proofs.Fz
open Go Go.KX Go.RowKit Go.Shelf Go.Lib
set_option linter.unusedVariables false
set_option maxRecDepth 100000
noncomputable section
def slices_Grow_Lint (F : Nat) (a0 : Nat) (a1 : Int) : Option (List (List Int)) := chk (a0 = 0 ∧ 0 ≤ a1 ∧ a1 ≤ 1000000) (some [])
def s85 (F : Nat) : CS E.G := ⟨85, [.nl, .v 0 false], [.sl 6 22], fun x => slices_Grow_Lint F x.1 x.2.1⟩
set_option maxHeartbeats 4000000 in
theorem grow_none (w : World) : Calls Tryz.prog 85 #[.slice none 0 0, .int .i64 0] w fun e w' => e = .returned (.slice none 0 0) ∧ w' = w := by
 go_enter Tryz.func85, Tryz.ntmps85
 go_wp2
 go_ret
 exact ⟨rfl, rfl⟩
set_option maxHeartbeats 4000000 in
theorem grow_some (w : World) (n : Nat) (hn : 1 ≤ n) (hb : n ≤ 1000000) : Calls Tryz.prog 85 #[.slice none 0 0, .int .i64 (n : Int)] w fun e w' => ∃ (c : Nat) (cur : Array Value), e = .returned (.slice (some ⟨w.heap.size, 0, none⟩) 0 c) ∧ c ≠ 0 ∧ cur.size = c ∧ w' = w.drew.alloc (.cells cur 22) := by
 obtain ⟨i0, z0, hu0, hi0, hz0, hzs, his, _, hby⟩ := appFact_spec (show appFact Tryz.prog 36 = some (22, 1, 24) by kernel_rfl)
 have hrun : ∀ ty, (Builtin.append_ #[36, 3] ty #[.slice none 0 0, .int .i64 (n : Int)]).run Tryz.prog w = _ := fun ty => Lib.run_append_nil_zeros w 36 3 ty 22 i0 z0 .i64 .i64 hu0 (by kernel_rfl) hi0 hz0 n (by omega) (by omega) (by omega) (by rw [hby]; omega)
 have hge := grownCap_ge w n 0 22
 have hG63 : grownCap w n 0 22 ≤ 9223372036854775807 := by
  have := grownCap_le_maxLen w n 0 22 (by unfold maxLen; omega)
  unfold maxLen at this
  omega
 generalize hG : grownCap w n 0 22 = G at *
 generalize hR : Builtin.zeroCells z0.cells n ++ Builtin.zeroCells z0.cells (G - n) = ROW at *
 have hRs : ROW.size = G := by
  rw [← hR]
  simp only [Array.size_append, size_zeroCells, hzs]
  omega
 obtain ⟨W, hW⟩ : ∃ W, W = w.drew.alloc (.cells ROW 22) := ⟨_, rfl⟩
 rw [← hW] at hrun
 obtain ⟨P', hP⟩ : ∃ P' : Ending → World → Prop, P' = fun e w' => ∃ (c : Nat) (cur : Array Value), e = .returned (.slice (some ⟨w.heap.size, 0, none⟩) 0 c) ∧ c ≠ 0 ∧ cur.size = c ∧ w' = w.drew.alloc (.cells cur 22) := ⟨_, rfl⟩
 rw [← hP]
 have hend : P' (.returned (.slice (some ⟨w.heap.size, 0, none⟩) 0 G)) W := by rw [hP]; exact ⟨G, ROW, rfl, by omega, hRs, hW⟩
 clear hP hW hRs hR hu0 hi0 hz0 hzs his hby
 have h1 : ¬ ((n : Int) < 0) := by omega
 have h2 : (0 : Int) < (n : Int) := by omega
 have h3 : ¬ (G = 0) := by omega
 have h4 : IntKind.i64.wrap (n : Int) = (n : Int) := by rw [IntKind.wrap_i64]; omega
 go_enter Tryz.func85, Tryz.ntmps85
 go_wp2_with (at_builtin; refine Lib.wpList_append_run _ rfl _ _ _ _ rfl _ _ rfl rfl _ _ (hrun _) ?_)
 all_goals exact hend
theorem c85 (F : Nat) : CSok E [] (s85 F) := ⟨Proofs.enters_of (show Tryz.prog.funcs[85]? = some Tryz.f85 by kernel_rfl) (by kernel_rfl) rfl, by
 intro A w vs xs hgw hA hargs r hr
 obtain ⟨v, us, rfl, ha, v2, us2, rfl, ⟨us3, hn, hv2⟩, rfl⟩ := hargs
 obtain ⟨(c : Nat), (n : Int), (u : Unit)⟩ := xs
 have ha : v = .slice none 0 c := ha
 have hr : chk (c = 0 ∧ 0 ≤ n ∧ n ≤ 1000000) (some []) = some r := hr
 obtain ⟨⟨e0, h0, h1⟩, hr2⟩ := chk_so hr
 clear hr
 subst e0
 have hr3 := Option.some.inj hr2
 subst hr3
 have hv2 : us3 = [v2] := hv2
 subst hv2
 have hn : HdL E.G A w [CV.v (.int .i64 n)] [v2] := hn
 obtain ⟨u1, us4, e1, h2, h3⟩ := hn
 cases e1
 cases h2
 subst ha
 obtain ⟨k, rfl⟩ : ∃ k : Nat, n = k := ⟨n.toNat, by omega⟩
 rcases Nat.eq_zero_or_pos k with rfl | hk
 ·refine (grow_none w).mono ?_
  rintro e w' ⟨rfl, rfl⟩
  exact ⟨[.slice none 0 0], [{ b := 0, p := none, n := 0, c := 0 }], A, rfl, ⟨rfl, rfl, .rfl, Nat.le_refl _, fun _ _ => rfl⟩, fun _ h => h, hA, fun _ h => .inl h, ⟨_, rfl, _, rfl, rfl, rfl, .inl ⟨rfl, rfl, 0, rfl⟩⟩, fun _ h => (nomatch h), trivial⟩
 ·refine (grow_some w k hk (by omega)).mono ?_
  rintro e w' ⟨c, cur, rfl, hc, hcs, rfl⟩
  have hnew : (w.drew.alloc (.cells cur 22)).heap[w.heap.size]? = some (.cells cur 22 (0, 0)) := by show (w.heap.push _)[w.heap.size]? = _; simp
  have hold : ∀ l, l < w.heap.size → (w.drew.alloc (.cells cur 22)).heap[l]? = w.heap[l]? := fun l hl => by show (w.heap.push _)[l]? = _; rw [Array.getElem?_push, if_neg (by omega)]
  exact ⟨[.slice (some ⟨w.heap.size, 0, none⟩) 0 c], [{ b := w.heap.size, p := some ⟨w.heap.size, 0, none⟩, n := 0, c := c }], A, rfl, ⟨rfl, rfl, ⟨rfl, Nat.le_succ _⟩, by show w.heap.size ≤ (w.heap.push _).size; simp, fun l hl => hold l hl⟩, fun _ h => h, fun b hb => (hA b hb).of (hold b (hA b hb).lt), fun _ h => .inl h,
   ⟨_, rfl, _, rfl, rfl, rfl, .inr ⟨hc, rfl, Nat.le_refl _, fun h => Nat.lt_irrefl _ (hA _ h).lt, cur, hnew, by rw [hcs]; show c = c * 1; omega, Nat.zero_le _, fun i x hx => by simp at hx⟩⟩, fun _ h => (nomatch h), trivial⟩⟩
end
end Go.Proofs.Fz

namespace Go.Proofs.Fz
open Go Go.KX Go.RowKit
set_option linter.unusedVariables false
set_option maxRecDepth 100000
theorem all0 {α : Type} {P : α → Prop} : ∀ c ∈ ([] : List α), P c := fun _ h => nomatch h
theorem allC {α : Type} {P : α → Prop} {a : α} {l : List α} (h : P a) (t : ∀ c ∈ l, P c) : ∀ c ∈ a :: l, P c := fun c hc => (List.mem_cons.1 hc).elim (fun e => e ▸ h) (t c)
theorem inl0 : InlOK E [] := fun _ _ h => nomatch h
theorem inlC {k : Nat} {fn : Func} {l : List (Nat × Func)} (h : E.P.funcs[k]? = some fn) (e : Proofs.Enters E.P k) (t : InlOK E l) : InlOK E ((k, fn) :: l) := by
 intro k2 fn2 hf
 simp only [findFn] at hf
 cases hb : Nat.beq k k2 with
 | true => rw [hb, cond_true] at hf; cases hf; rw [← Nat.eq_of_beq_eq_true hb]; exact ⟨h, e⟩
 | false => rw [hb, cond_false] at hf; exact t k2 fn2 hf
theorem mix : Tryz.prog.follows .mixedOrders = true := by rfl
theorem keys0 : ∀ p ∈ E.keys, KeyOK E.P E.G p.1 p.2 := fun _ h => nomatch h
abbrev HF (k : Nat) (f : Func) : Prop := Tryz.prog.funcs[k]? = some f
theorem hK {k : Nat} {f : Func} (h : Tryz.prog.funcs[k]? = some f) : HF k f := h
theorem mkE {k : Nat} {f : Func} {c : Code} (h : HF k f) (a : (f.name == "runtime.NumGoroutine") = false) (b : f.body = some c) : Proofs.Enters Tryz.prog k := Proofs.enters_of h a b
theorem mkC {k : Nat} {f : Func} {c : Code} {cx : Ctx E} {ps : List PK} {rs : List RK} {m : AT E.G.car ps → Option (RT E.G.car rs)} (hf : HF k f) (a : (f.name == "runtime.NumGoroutine") = false) (b : f.body = some c) (t : ∀ c ∈ cx.tbl, CSok E [] c) (i : InlS E [] cx) (h : Hint) (n : Nat.ble ps.length f.ntmps = true) (e : fnK cx f [] ps rs h = m) : CSok E [] ⟨k, ps, rs, m⟩ := ⟨mkE hf a b, e ▸ fn_sound mix t i keys0 rfl (fun _ h => nomatch h) hf (Nat.le_of_ble_eq_true n) h⟩
noncomputable section
def nums : List Int := [(-1 : Int), (0 : Int), (1 : Int), (2 : Int), (3 : Int), (6 : Int), (7 : Int), (50 : Int), (99 : Int), (100 : Int), (101 : Int), (120 : Int), (121 : Int), (300 : Int), (301 : Int), (999 : Int), (1000 : Int), (1001 : Int), (2000 : Int), (2001 : Int), (128000 : Int), (499999 : Int), (500000 : Int), (500001 : Int), (1000000 : Int), (1000001 : Int), (100000 : Int), (100001 : Int), (1000000000 : Int), (1000000001 : Int), (1000000000000 : Int), (1000000000001 : Int), (9223372036854775807 : Int), (-9223372036854775808 : Int)]
def vA : Voyage := ⟨4, 0, 70, 0, 0, 0, 0⟩
def vX : Voyage := ⟨4, 3, 5001, 123, 2, 3, 1⟩
def vB : Voyage := ⟨4, 1, 700, 0, 0, 0, 0⟩
def vC : Voyage := ⟨5, 0, 70, 0, 0, 0, 0⟩
def vD : Voyage := ⟨4, 0, 7000, 0, 0, 0, 0⟩
def vl (x : Voyage) : List Voyage := [vA, x, vB, vC, vD]
def nv (x : Int) : Int := nums.getD x.toNat 0
def lN : List Int := [90, 30, 60]
def lS : List Int := [55, 10, 25]
def lC : List Int := [30, 10, 50]
def lD : List Int := [61, 5]
def lO : List Int := [30, 10]
def lQ : List Int := [0, 7]
def lP : List Int := [9, 0]
def lR : List Int := [0, 5]
def lT : List Int := [1, 1]
abbrev bI (i : Int) (t : Tariff) : Prop := 0 ≤ i ∧ i < (↑t.Bands.length : Int)
abbrev lI (i : Int) (l : List Int) : Prop := 0 ≤ i ∧ i < (↑l.length : Int)
theorem hf4 : HF 4 Tryz.f4 := hK (by kernel_rfl)
def law12_Example (F : Nat) : Option (Tariff) :=
 some (Tariff.mk [Band.mk (2000 : Int) (50 : Int), Band.mk (500000 : Int) (20 : Int)] (A7ofInt.mk 150 120 100 80 70 60 50) (1000 : Int) (1000000000 : Int) (3 : Int) (7 : Int) (900 : Int) (2000 : Int) (3000 : Int))
def s4 (F : Nat) : CS E.G := ⟨4, [], [.v 10 true [32]], fun x => law12_Example F⟩
theorem c4 (F : Nat) : CSok E [] (s4 F) := mkC (cx := ⟨[], [], F, [], []⟩) hf4 (by kernel_rfl) rfl all0 ⟨inl0, all0⟩ .n rfl (by kernel_rfl)
theorem hf59 : HF 59 Tryz.f59 := hK (by kernel_rfl)
def fees_within (F : Nat) (a0 : Int) (a1 : Int) (a2 : Int) : Option (Bool) :=
 some (decide (a0 ≥ a1) && decide (a0 ≤ a2))
def s59 (F : Nat) : CS E.G := ⟨59, [.v 0 false, .v 0 false, .v 0 false], [.v 1 false []], fun x => fees_within F x.1 x.2.1 x.2.2.1⟩
theorem c59 (F : Nat) : CSok E [] (s59 F) := mkC (cx := ⟨[], [], F, [], []⟩) hf59 (by kernel_rfl) rfl all0 ⟨inl0, all0⟩ .n rfl (by kernel_rfl)
theorem hf99 : HF 99 Tryz.f99 := hK (by kernel_rfl)
theorem en99 : Proofs.Enters Tryz.prog 99 := mkE hf99 (by kernel_rfl) rfl
theorem hf60 : HF 60 Tryz.f60 := hK (by kernel_rfl)
theorem en60 : Proofs.Enters Tryz.prog 60 := mkE hf60 (by kernel_rfl) rfl
theorem hf61 : HF 61 Tryz.f61 := hK (by kernel_rfl)
def fees_Check_1 (F : Nat) (a0 : Int) : Option (Bool) :=
 bnd (fees_within F a0 0 1000000) (fun x => some (!x))
def s61 (F : Nat) : CS E.G := ⟨61, [.v 0 false], [.v 1 false []], fun x => fees_Check_1 F x.1⟩
theorem c61 (F : Nat) : CSok E [] (s61 F) := mkC (cx := ⟨[s59 F], [], F, [], []⟩) hf61 (by kernel_rfl) rfl (allC (c59 F) all0) ⟨inl0, all0⟩ .n rfl (by kernel_rfl)
theorem hf17 : HF 17 Tryz.f17 := hK (by kernel_rfl)
def fees_Check (F : Nat) (a0 : Tariff) : Option (Int) :=
 bnd (fees_within F (↑a0.Bands.length : Int) 1 8) (fun x => brk (!x) (some ((2 : Int))) (loopC (fun (x_1 : Int × Int) => fun x_2 => brk (decide (x_1.1 < (↑a0.Bands.length : Int))) (chk (0 ≤ x_1.1 ∧ x_1.1 < (↑a0.Bands.length : Int)) (chk (InR (x_1.2 + 1)) (bnd (fees_within F (a0.Bands.getD (Int.toNat x_1.1) (Band.mk 0 0)).Upto (x_1.2 + 1) 500000) (fun x_3 => bnd (brk (!!x_3) (fees_within F (a0.Bands.getD (Int.toNat x_1.1) (Band.mk 0 0)).Rate 0 1000) (some false)) (fun x_4 => brk (!x_3 || !x_4) (some ((130 : Int))) (chk (InR (x_1.1 + 1)) (x_2 ((x_1.1 + 1, (a0.Bands.getD (Int.toNat x_1.1) (Band.mk 0 0)).Upto))))))))) (loopC (fun (x_3 : Int × Int) => fun x_4 => brk (decide (x_3.2 < 7)) (chk (0 ≤ x_3.2 ∧ x_3.2 < (↑(7 : Nat) : Int)) (bnd (fees_within F ([a0.Class.a0, a0.Class.a1, a0.Class.a2, a0.Class.a3, a0.Class.a4, a0.Class.a5, a0.Class.a6].getD (Int.toNat x_3.2) 0) 0 x_3.1) (fun x_5 => brk (!x_5) (some ((130 : Int))) (chk (InR (x_3.2 + 1)) (x_4 (([a0.Class.a0, a0.Class.a1, a0.Class.a2, a0.Class.a3, a0.Class.a4, a0.Class.a5, a0.Class.a6].getD (Int.toNat x_3.2) 0, x_3.2 + 1))))))) (brk (x_1.2 != (500000 : Int)) (some ((130 : Int))) (bnd (fees_within F a0.Most 0 1000000000) (fun x_5 => brk (!x_5) (some ((130 : Int))) (bnd (fees_within F a0.Least 0 a0.Most) (fun x_6 => brk (!x_6) (some ((130 : Int))) (bnd (fees_within F a0.Paid 1 1000) (fun x_7 => brk (!x_7) (some ((130 : Int))) (bnd (fees_within F a0.Mile 0 100000) (fun x_8 => brk (!x_8) (some ((130 : Int))) (join (F) (fun (x_9 : Int) => brk (decide (x_9 ≥ (0 : Int))) (some ((130 : Int))) (some ((0 : Int)))) (fun x_9 => loopC (fun (x_10 : Int) => fun x_11 => brk (decide (x_10 < (↑[a0.Escort, a0.Cut, a0.Tow].length : Int))) (chk (0 ≤ x_10 ∧ x_10 < (↑[a0.Escort, a0.Cut, a0.Tow].length : Int)) (bnd (fees_Check_1 F ([a0.Escort, a0.Cut, a0.Tow].getD (Int.toNat x_10) 0)) (fun x_12 => brk (x_12) (x_9 (x_10)) (chk (InR (x_10 + 1)) (x_11 (x_10 + 1)))))) (x_9 ((-1 : Int)))) (F) ((0 : Int)))))))))))))) (F) (((300 : Int), (0 : Int))))) (F) (((0 : Int), (0 : Int)))))
def s17 (F : Nat) : CS E.G := ⟨17, [.v 10 true], [.v 0 false []], fun x => fees_Check F x.1⟩
theorem c17 (F : Nat) : CSok E [] (s17 F) := mkC (cx := ⟨[s59 F, s61 F], [(60, Tryz.f60), (99, Tryz.f99)], F, [], []⟩) hf17 (by kernel_rfl) rfl (allC (c59 F) (allC (c61 F) all0)) ⟨(inlC hf60 en60 (inlC hf99 en99 inl0)), all0⟩ (.c .n (.l ⟨[.i, .i], [16, 256, 272], [1, 0], [(288, .i IntKind.i64), (48, .i IntKind.i64)], [], [], [], 2⟩ (.c .n (.l ⟨[.i, .i], [16, 608, 48], [1, 0], [(96, .i IntKind.i64), (624, .i IntKind.i64)], [], [], [], 2⟩ (.c .n (.s .n (.s .n (.s .n (.s .n (.s .n (.p (.w ⟨[.i], [], [2], [(0, .i IntKind.i64)], [], [], [], 3⟩ (.l ⟨[.i], [0, 16, 112], [2], [(128, .i IntKind.i64)], [], [], [], 3⟩ (.c .n .n)) .n)))))))))))) rfl (by kernel_rfl)
theorem hf97 : HF 97 Tryz.f97 := hK (by kernel_rfl)
def fees_Voyage_right_1 (F : Nat) (a0 : Int) : Option (Bool) :=
 bnd (fees_within F a0 0 1000) (fun x => some (!x))
def s97 (F : Nat) : CS E.G := ⟨97, [.v 0 false], [.v 1 false []], fun x => fees_Voyage_right_1 F x.1⟩
theorem c97 (F : Nat) : CSok E [] (s97 F) := mkC (cx := ⟨[s59 F], [], F, [], []⟩) hf97 (by kernel_rfl) rfl (allC (c59 F) all0) ⟨inl0, all0⟩ .n rfl (by kernel_rfl)
theorem hf55 : HF 55 Tryz.f55 := hK (by kernel_rfl)
def fees_Voyage_right (F : Nat) (a0 : Voyage) : Option (Bool) :=
 bnd (fees_within F a0.Ship 0 1000000) (fun x => brk (x) (bnd (fees_within F a0.Class 0 6) (fun x_1 => brk (x_1) (bnd (fees_within F a0.Tonnes 1 500000) (fun x_2 => brk (x_2) (bnd (fees_within F a0.Tenths 0 100000) (fun x_3 => brk (x_3) (join (F) (fun (x_4 : Int) => some (!decide (x_4 ≥ (0 : Int)))) (fun x_4 => loopC (fun (x_5 : Int) => fun x_6 => brk (decide (x_5 < (↑[a0.Escort, a0.Cut, a0.Tow].length : Int))) (chk (0 ≤ x_5 ∧ x_5 < (↑[a0.Escort, a0.Cut, a0.Tow].length : Int)) (bnd (fees_Voyage_right_1 F ([a0.Escort, a0.Cut, a0.Tow].getD (Int.toNat x_5) 0)) (fun x_7 => brk (x_7) (x_4 (x_5)) (chk (InR (x_5 + 1)) (x_6 (x_5 + 1)))))) (x_4 ((-1 : Int)))) (F) ((0 : Int)))) (some (false)))) (some (false)))) (some (false)))) (some (false)))
def s55 (F : Nat) : CS E.G := ⟨55, [.v 11 true], [.v 1 false []], fun x => fees_Voyage_right F x.1⟩
theorem c55 (F : Nat) : CSok E [] (s55 F) := mkC (cx := ⟨[s59 F, s97 F], [(60, Tryz.f60), (99, Tryz.f99)], F, [], []⟩) hf55 (by kernel_rfl) rfl (allC (c59 F) (allC (c97 F) all0)) ⟨(inlC hf60 en60 (inlC hf99 en99 inl0)), all0⟩ (.s (.s (.s (.s (.p (.w ⟨[.i], [], [1], [(0, .i IntKind.i64)], [], [], [], 2⟩ (.l ⟨[.i], [0, 16, 112], [1], [(128, .i IntKind.i64)], [], [], [], 2⟩ (.c .n .n)) .n)) .n) .n) .n) .n) rfl (by kernel_rfl)
theorem hf63 : HF 63 Tryz.f63 := hK (by kernel_rfl)
def fees_Tariff_dues (F : Nat) (a0 : Tariff) (a1 : Int) (a2 : Int) : Option (Int) :=
 loopC (fun (x : Int × Int × Int) => fun x_1 => brk (decide (x.2.1 < (↑a0.Bands.length : Int))) (chk (0 ≤ x.2.1 ∧ x.2.1 < (↑a0.Bands.length : Int)) (chk (InR ((if (a0.Bands.getD (Int.toNat x.2.1) (Band.mk 0 0)).Upto < a2 then (a0.Bands.getD (Int.toNat x.2.1) (Band.mk 0 0)).Upto else a2) - x.1)) (chk (InR ((a0.Bands.getD (Int.toNat x.2.1) (Band.mk 0 0)).Rate * if (if (a0.Bands.getD (Int.toNat x.2.1) (Band.mk 0 0)).Upto < a2 then (a0.Bands.getD (Int.toNat x.2.1) (Band.mk 0 0)).Upto else a2) - x.1 > (0 : Int) then (if (a0.Bands.getD (Int.toNat x.2.1) (Band.mk 0 0)).Upto < a2 then (a0.Bands.getD (Int.toNat x.2.1) (Band.mk 0 0)).Upto else a2) - x.1 else (0 : Int))) (chk (InR (x.2.2 + (a0.Bands.getD (Int.toNat x.2.1) (Band.mk 0 0)).Rate * if (if (a0.Bands.getD (Int.toNat x.2.1) (Band.mk 0 0)).Upto < a2 then (a0.Bands.getD (Int.toNat x.2.1) (Band.mk 0 0)).Upto else a2) - x.1 > (0 : Int) then (if (a0.Bands.getD (Int.toNat x.2.1) (Band.mk 0 0)).Upto < a2 then (a0.Bands.getD (Int.toNat x.2.1) (Band.mk 0 0)).Upto else a2) - x.1 else (0 : Int))) (chk (InR (x.2.1 + 1)) (x_1 (((a0.Bands.getD (Int.toNat x.2.1) (Band.mk 0 0)).Upto, x.2.1 + 1, x.2.2 + (a0.Bands.getD (Int.toNat x.2.1) (Band.mk 0 0)).Rate * if (if (a0.Bands.getD (Int.toNat x.2.1) (Band.mk 0 0)).Upto < a2 then (a0.Bands.getD (Int.toNat x.2.1) (Band.mk 0 0)).Upto else a2) - x.1 > (0 : Int) then (if (a0.Bands.getD (Int.toNat x.2.1) (Band.mk 0 0)).Upto < a2 then (a0.Bands.getD (Int.toNat x.2.1) (Band.mk 0 0)).Upto else a2) - x.1 else (0 : Int))))))))) (chk (0 ≤ a1 ∧ a1 < (↑(7 : Nat) : Int)) (chk (InR (x.2.2 * [a0.Class.a0, a0.Class.a1, a0.Class.a2, a0.Class.a3, a0.Class.a4, a0.Class.a5, a0.Class.a6].getD a1.toNat 0)) (chk (InR (x.2.2 * [a0.Class.a0, a0.Class.a1, a0.Class.a2, a0.Class.a3, a0.Class.a4, a0.Class.a5, a0.Class.a6].getD a1.toNat 0 + (50 : Int))) (chk (0 ≤ x.2.2 * [a0.Class.a0, a0.Class.a1, a0.Class.a2, a0.Class.a3, a0.Class.a4, a0.Class.a5, a0.Class.a6].getD a1.toNat 0 + (50 : Int) ∧ x.2.2 * [a0.Class.a0, a0.Class.a1, a0.Class.a2, a0.Class.a3, a0.Class.a4, a0.Class.a5, a0.Class.a6].getD a1.toNat 0 + (50 : Int) ≤ (9223372036854775807 : Int)) (some (if (if (x.2.2 * [a0.Class.a0, a0.Class.a1, a0.Class.a2, a0.Class.a3, a0.Class.a4, a0.Class.a5, a0.Class.a6].getD a1.toNat 0 + (50 : Int)) / (100 : Int) > a0.Least then (x.2.2 * [a0.Class.a0, a0.Class.a1, a0.Class.a2, a0.Class.a3, a0.Class.a4, a0.Class.a5, a0.Class.a6].getD a1.toNat 0 + (50 : Int)) / (100 : Int) else a0.Least) < a0.Most then if (x.2.2 * [a0.Class.a0, a0.Class.a1, a0.Class.a2, a0.Class.a3, a0.Class.a4, a0.Class.a5, a0.Class.a6].getD a1.toNat 0 + (50 : Int)) / (100 : Int) > a0.Least then (x.2.2 * [a0.Class.a0, a0.Class.a1, a0.Class.a2, a0.Class.a3, a0.Class.a4, a0.Class.a5, a0.Class.a6].getD a1.toNat 0 + (50 : Int)) / (100 : Int) else a0.Least else a0.Most))))))) (F) (((0 : Int), (0 : Int), (0 : Int)))
def s63 (F : Nat) : CS E.G := ⟨63, [.ptr 10, .v 0 false, .v 0 false], [.v 0 false []], fun x => fees_Tariff_dues F x.1 x.2.1 x.2.2.1⟩
theorem c63 (F : Nat) : CSok E [] (s63 F) := mkC (cx := ⟨[], [], F, [], []⟩) hf63 (by kernel_rfl) rfl all0 ⟨inl0, all0⟩ (.l ⟨[.i, .i, .i], [0, 16, 32, 224, 240], [0, 1], [(128, .i IntKind.i64), (256, .i IntKind.i64), (112, .i IntKind.i64)], [], [], [], 2⟩ .n) rfl (by kernel_rfl)
theorem hf98 : HF 98 Tryz.f98 := hK (by kernel_rfl)
def fees_account (F : Nat) (a0 : List Int) : Option (Account) :=
 loopC (fun (x : Int × Int × Int × Int × Int × Int × Int) => fun x_1 => brk (decide (x.1 < (↑a0.length : Int))) (chk (0 ≤ x.1 ∧ x.1 < (↑a0.length : Int)) (chk (0 ≤ x.1 ∧ x.1 < (↑(5 : Nat) : Int)) (chk (InR (x.2.1 + a0.getD (Int.toNat x.1) 0)) (chk (InR (x.1 + 1)) (x_1 ((x.1 + 1, x.2.1 + a0.getD (Int.toNat x.1) 0, if x.1 = (↑(Nat.succ (0 : Nat)).succ.succ.succ : Int) then a0.getD (Int.toNat x.1) 0 else x.2.2.1, if x.1 = (↑(Nat.succ (0 : Nat)).succ.succ : Int) then a0.getD (Int.toNat x.1) 0 else x.2.2.2.1, if x.1 = (↑(Nat.succ (0 : Nat)).succ : Int) then a0.getD (Int.toNat x.1) 0 else x.2.2.2.2.1, if x.1 = (↑(Nat.succ (0 : Nat)) : Int) then a0.getD (Int.toNat x.1) 0 else x.2.2.2.2.2.1, if x.1 = (↑(0 : Nat) : Int) then a0.getD (Int.toNat x.1) 0 else x.2.2.2.2.2.2))))))) (some (Account.mk (A5ofInt.mk x.2.2.2.2.2.2 x.2.2.2.2.2.1 x.2.2.2.2.1 x.2.2.2.1 x.2.2.1) x.2.1))) (F) (((0 : Int), (0 : Int), (0 : Int), (0 : Int), (0 : Int), (0 : Int), (0 : Int)))
def s98 (F : Nat) : CS E.G := ⟨98, [.sl 0], [.v 16 true []], fun x => fees_account F x.1⟩
theorem c98 (F : Nat) : CSok E [] (s98 F) := mkC (cx := ⟨[], [], F, [], []⟩) hf98 (by kernel_rfl) rfl all0 ⟨inl0, all0⟩ (.l ⟨[.i, .i, .i, .i, .i, .i, .i], [32, 96, 48, 112], [1, 0, 2], [(128, .i IntKind.i64)], [], [(2, 5, .i IntKind.i64), (2, 4, .i IntKind.i64), (2, 3, .i IntKind.i64), (2, 2, .i IntKind.i64), (2, 1, .i IntKind.i64), (2, 0, .i IntKind.i64)], [], 3⟩ .n) rfl (by kernel_rfl)
theorem hf56 : HF 56 Tryz.f56 := hK (by kernel_rfl)
def fees_Tariff_bill (F : Nat) (a0 : Tariff) (a1 : Voyage) (a2 : Int) : Option (Account) :=
 join (F) (fun (x : Int) => chk (InR (a1.Tonnes + 999)) (chk (0 ≤ a1.Tonnes + 999 ∧ a1.Tonnes + 999 ≤ (9223372036854775807 : Int)) (chk (InR (a0.Mile * a1.Tenths)) (chk (InR (a0.Mile * a1.Tenths * ((a1.Tonnes + 999) / (1000 : Int)))) (chk (InR (a0.Mile * a1.Tenths * ((a1.Tonnes + 999) / (1000 : Int)) + 9)) (chk (0 ≤ a0.Mile * a1.Tenths * ((a1.Tonnes + 999) / (1000 : Int)) + 9 ∧ a0.Mile * a1.Tenths * ((a1.Tonnes + 999) / (1000 : Int)) + 9 ≤ (9223372036854775807 : Int)) (chk (InR (a0.Escort * a1.Escort)) (chk (InR (a0.Cut * a1.Cut)) (chk (InR (a0.Tow * a1.Tow)) (bnd (fees_account F [x, (a0.Mile * a1.Tenths * ((a1.Tonnes + 999) / (1000 : Int)) + 9) / (10 : Int), a0.Escort * a1.Escort, a0.Cut * a1.Cut, a0.Tow * a1.Tow]) (fun x_1 => some (x_1)))))))))))) (fun x => brk (decide (a2 < a0.Paid)) (bnd (fees_Tariff_dues F a0 a1.Class a1.Tonnes) (fun x_1 => x (x_1))) (x ((0 : Int))))
def s56 (F : Nat) : CS E.G := ⟨56, [.ptr 10, .v 11 true, .v 0 false], [.v 16 true []], fun x => fees_Tariff_bill F x.1 x.2.1 x.2.2.1⟩
theorem c56 (F : Nat) : CSok E [] (s56 F) := mkC (cx := ⟨[s63 F, s98 F], [], F, [], []⟩) hf56 (by kernel_rfl) rfl (allC (c63 F) (allC (c98 F) all0)) ⟨inl0, all0⟩ (.k (.k (.j ⟨[.i], [0, 64, 96], [0, 1, 2], [(112, .i IntKind.i64)], [], [], [], 3⟩ .n .n))) rfl (by kernel_rfl)
theorem hf11 : HF 11 Tryz.f11 := hK (by kernel_rfl)
def fees_Season (F : Nat) (a0 : Tariff) (a1 : List Voyage) : Option ((List Account) × Int × Int) :=
 bnd (fees_Check F a0) (fun x => brk (x != (0 : Int)) (some (([], (0 : Int), x))) (brk (decide ((↑a1.length : Int) > (500 : Int))) (some (([], (0 : Int), (2 : Int)))) (loopC (fun (x_1 : Int × List Account × Int × List (Int × Int)) => fun x_2 => brk (decide (x_1.2.2.1 < (↑a1.length : Int))) (join (F) (fun (x_3 : Int × List Account × List (Int × Int)) => chk (InR (x_1.2.2.1 + 1)) (x_2 ((x_3.1, x_3.2.1, x_1.2.2.1 + 1, x_3.2.2)))) (fun x_3 => chk (0 ≤ x_1.2.2.1 ∧ x_1.2.2.1 < (↑a1.length : Int)) (bnd (fees_Voyage_right F (a1.getD (Int.toNat x_1.2.2.1) (Voyage.mk 0 0 0 0 0 0 0))) (fun x_4 => brk (!x_4) (some (([], (0 : Int), (1 : Int)))) (bnd (fees_Tariff_bill F a0 (a1.getD (Int.toNat x_1.2.2.1) (Voyage.mk 0 0 0 0 0 0 0)) (getM x_1.2.2.2 (a1.getD (Int.toNat x_1.2.2.1) (Voyage.mk 0 0 0 0 0 0 0)).Ship)) (fun x_5 => chk (InR (getM x_1.2.2.2 (a1.getD (Int.toNat x_1.2.2.1) (Voyage.mk 0 0 0 0 0 0 0)).Ship + 1)) (chk (List.length x_1.2.1 + [x_5].length ≤ (1000000000 : Nat)) (brk (!(x_5.Lines.a0 == (0 : Int) && (x_5.Lines.a1 == (0 : Int) && (x_5.Lines.a2 == (0 : Int) && (x_5.Lines.a3 == (0 : Int) && (x_5.Lines.a4 == (0 : Int) && true)))) && (x_5.Sum == (0 : Int) && true))) (chk (InR (x_1.1 + x_5.Sum)) (x_3 ((x_1.1 + x_5.Sum, x_1.2.1 ++ [x_5], setM x_1.2.2.2 (a1.getD (Int.toNat x_1.2.2.1) (Voyage.mk 0 0 0 0 0 0 0)).Ship (getM x_1.2.2.2 (a1.getD (Int.toNat x_1.2.2.1) (Voyage.mk 0 0 0 0 0 0 0)).Ship + 1))))) (x_3 ((x_1.1, x_1.2.1 ++ [x_5], setM x_1.2.2.2 (a1.getD (Int.toNat x_1.2.2.1) (Voyage.mk 0 0 0 0 0 0 0)).Ship (getM x_1.2.2.2 (a1.getD (Int.toNat x_1.2.2.1) (Voyage.mk 0 0 0 0 0 0 0)).Ship + 1)))))))))))) (some ((x_1.2.1, x_1.1, (0 : Int))))) (F) (((0 : Int), [], (0 : Int), [])))))
def s11 (F : Nat) : CS E.G := ⟨11, [.v 10 true, .sl 11], [.sl 16 63, .v 0 false [], .v 0 false []], fun x => fees_Season F x.1 x.2.1⟩
theorem c11 (F : Nat) : CSok E [] (s11 F) := mkC (cx := ⟨[s17 F, s55 F, s56 F], [], F, [], []⟩) hf11 (by kernel_rfl) rfl (allC (c17 F) (allC (c55 F) (allC (c56 F) all0))) ⟨inl0, all0⟩ (.c .n (.c .n (.l ⟨[.i, .l 16, .i, .im], [32, 128, 384, 368], [2, 3, 1, 0], [(160, .i IntKind.i64), (144, .h 4 63 16), (400, .i IntKind.i64)], [], [], [(3, 0, 1000001)], 5⟩ (.c (.j ⟨[.i, .l 16, .im], [32, 128, 384, 400, 368], [2, 3, 1, 0], [(160, .i IntKind.i64), (144, .h 5 63 16)], [], [], [(3, 0, 1000001)], 6⟩ (.c .n .n) .n) .n)))) rfl (by kernel_rfl)
theorem hf19 : HF 19 Tryz.f19 := hK (by kernel_rfl)
def fees_Dues (F : Nat) (a0 : Tariff) (a1 : Int) (a2 : Int) : Option (Int × Int) :=
 bnd (fees_Check F a0) (fun x => brk (x != (0 : Int)) (some (((0 : Int), x))) (bnd (fees_within F a1 0 6) (fun x_1 => bnd (brk (!!x_1) (fees_within F a2 1 500000) (some false)) (fun x_2 => brk (!x_1 || !x_2) (some (((0 : Int), (1 : Int)))) (bnd (fees_Tariff_dues F a0 a1 a2) (fun x_3 => some ((x_3, (0 : Int)))))))))
def s19 (F : Nat) : CS E.G := ⟨19, [.v 10 true, .v 0 false, .v 0 false], [.v 0 false [], .v 0 false []], fun x => fees_Dues F x.1 x.2.1 x.2.2.1⟩
theorem c19 (F : Nat) : CSok E [] (s19 F) := mkC (cx := ⟨[s17 F, s59 F, s63 F], [], F, [], []⟩) hf19 (by kernel_rfl) rfl (allC (c17 F) (allC (c59 F) (allC (c63 F) all0))) ⟨inl0, all0⟩ (.c .n .n) rfl (by kernel_rfl)
theorem hf23 : HF 23 Tryz.f23 := hK (by kernel_rfl)
def fees_Bill (F : Nat) (a0 : Tariff) (a1 : Voyage) (a2 : Int) : Option (Account × Int) :=
 bnd (fees_Check F a0) (fun x => brk (x != (0 : Int)) (some ((Account.mk (A5ofInt.mk 0 0 0 0 0) (0 : Int), x))) (bnd (fees_Voyage_right F a1) (fun x_1 => brk (!x_1) (some ((Account.mk (A5ofInt.mk 0 0 0 0 0) (0 : Int), (1 : Int)))) (brk (decide (a2 < 0)) (some ((Account.mk (A5ofInt.mk 0 0 0 0 0) (0 : Int), (6 : Int)))) (bnd (fees_Tariff_bill F a0 a1 a2) (fun x_2 => some ((x_2, (0 : Int)))))))))
def s23 (F : Nat) : CS E.G := ⟨23, [.v 10 true, .v 11 true, .v 0 false], [.v 16 true [], .v 0 false []], fun x => fees_Bill F x.1 x.2.1 x.2.2.1⟩
theorem c23 (F : Nat) : CSok E [] (s23 F) := mkC (cx := ⟨[s17 F, s55 F, s56 F], [], F, [], []⟩) hf23 (by kernel_rfl) rfl (allC (c17 F) (allC (c55 F) (allC (c56 F) all0))) ⟨inl0, all0⟩ (.c .n (.c .n .n)) rfl (by kernel_rfl)
theorem hf100 : HF 100 Tryz.f100 := hK (by kernel_rfl)
def fees_asked_1 (F : Nat) (a0 : Int) : Option (Bool) :=
 bnd (fees_within F a0 0 1000000000) (fun x => some (!x))
def s100 (F : Nat) : CS E.G := ⟨100, [.v 0 false], [.v 1 false []], fun x => fees_asked_1 F x.1⟩
theorem c100 (F : Nat) : CSok E [] (s100 F) := mkC (cx := ⟨[s59 F], [], F, [], []⟩) hf100 (by kernel_rfl) rfl (allC (c59 F) all0) ⟨inl0, all0⟩ .n rfl (by kernel_rfl)
theorem hf69 : HF 69 Tryz.f69 := hK (by kernel_rfl)
def fees_asked (F : Nat) (a0 : List Int) : Option (Int) :=
 bnd (fees_within F (↑a0.length : Int) 1 12) (fun x => brk (!x) (some ((2 : Int))) (join (F) (fun (x_1 : Int) => brk (decide (x_1 ≥ (0 : Int))) (some ((6 : Int))) (some ((0 : Int)))) (fun x_1 => loopC (fun (x_2 : Int) => fun x_3 => brk (decide (x_2 < (↑a0.length : Int))) (chk (0 ≤ x_2 ∧ x_2 < (↑a0.length : Int)) (bnd (fees_asked_1 F (a0.getD (Int.toNat x_2) 0)) (fun x_4 => brk (x_4) (x_1 (x_2)) (chk (InR (x_2 + 1)) (x_3 (x_2 + 1)))))) (x_1 ((-1 : Int)))) (F) ((0 : Int)))))
def s69 (F : Nat) : CS E.G := ⟨69, [.sl 0], [.v 0 false []], fun x => fees_asked F x.1⟩
theorem c69 (F : Nat) : CSok E [] (s69 F) := mkC (cx := ⟨[s59 F, s100 F], [(60, Tryz.f60), (99, Tryz.f99)], F, [], []⟩) hf69 (by kernel_rfl) rfl (allC (c59 F) (allC (c100 F) all0)) ⟨(inlC hf60 en60 (inlC hf99 en99 inl0)), all0⟩ (.c .n (.p (.w ⟨[.i], [], [0], [(0, .i IntKind.i64)], [], [], [], 1⟩ (.l ⟨[.i], [0, 16, 112], [0], [(128, .i IntKind.i64)], [], [], [], 1⟩ (.c .n .n)) .n))) rfl (by kernel_rfl)
theorem hf111 : HF 111 Tryz.f111 := hK (by kernel_rfl)
theorem en111 : Proofs.Enters Tryz.prog 111 := mkE hf111 (by kernel_rfl) rfl
theorem hf114 : HF 114 Tryz.f114 := hK (by kernel_rfl)
theorem en114 : Proofs.Enters Tryz.prog 114 := mkE hf114 (by kernel_rfl) rfl
theorem hf113 : HF 113 Tryz.f113 := hK (by kernel_rfl)
theorem en113 : Proofs.Enters Tryz.prog 113 := mkE hf113 (by kernel_rfl) rfl
theorem hf112 : HF 112 Tryz.f112 := hK (by kernel_rfl)
theorem en112 : Proofs.Enters Tryz.prog 112 := mkE hf112 (by kernel_rfl) rfl
theorem hf102 : HF 102 Tryz.f102 := hK (by kernel_rfl)
theorem en102 : Proofs.Enters Tryz.prog 102 := mkE hf102 (by kernel_rfl) rfl
theorem hf75 : HF 75 Tryz.f75 := hK (by kernel_rfl)
theorem en75 : Proofs.Enters Tryz.prog 75 := mkE hf75 (by kernel_rfl) rfl
theorem hf109 : HF 109 Tryz.f109 := hK (by kernel_rfl)
theorem en109 : Proofs.Enters Tryz.prog 109 := mkE hf109 (by kernel_rfl) rfl
theorem hf110 : HF 110 Tryz.f110 := hK (by kernel_rfl)
theorem en110 : Proofs.Enters Tryz.prog 110 := mkE hf110 (by kernel_rfl) rfl
theorem hf101 : HF 101 Tryz.f101 := hK (by kernel_rfl)
theorem en101 : Proofs.Enters Tryz.prog 101 := mkE hf101 (by kernel_rfl) rfl
theorem hf70 : HF 70 Tryz.f70 := hK (by kernel_rfl)
def fees_exact (F : Nat) (a0 : List Int) : Option ((List Int)) :=
 chk (0 ≤ (↑a0.length : Int) ∧ (↑a0.length : Int) ≤ (↑a0.length : Int) ∧ (↑a0.length : Int) ≤ (100000 : Int)) (chk (0 ≤ (↑a0.length : Int) ∧ (↑a0.length : Int) ≤ (↑a0.length : Int) ∧ (↑a0.length : Int) ≤ (100000 : Int)) (loopC (fun (x : Int × List Int) => fun x_1 => brk (decide (x.1 < (↑(List.replicate (↑a0.length : Int).toNat (0 : Int)).length : Int))) (chk (0 ≤ x.1 ∧ x.1 < (↑(List.length x.2) : Int)) (chk (InR (x.1 + 1)) (x_1 ((x.1 + 1, List.set x.2 (Int.toNat x.1) x.1))))) (loopC (fun (x_2 : Int × Int) => fun x_3 => brk (decide (x_2.1 ≤ (↑(List.length x.2) : Int))) (none) (chk (InR (x_2.2 + 1)) (loopC (fun (x_4 : Int × List Int) => fun x_5 => brk (decide (x_4.1 < (↑(List.length x.2) : Int))) (loopC (fun (x_6 : Int × List Int) => fun x_7 => brk (decide (x_6.1 > x_2.2)) (chk (0 ≤ x_6.1 ∧ x_6.1 < (↑(List.length x_6.2) : Int)) (chk (InR (x_6.1 - 1)) (chk (0 ≤ x_6.1 - 1 ∧ x_6.1 - 1 < (↑(List.length x_6.2) : Int)) (chk ((0 : Int) ≤ List.getD x_6.2 (Int.toNat x_6.1) (0 : Int) ∧ List.getD x_6.2 (Int.toNat x_6.1) (0 : Int) < (↑a0.length : Int)) (chk ((0 : Int) ≤ List.getD x_6.2 (x_6.1 - 1).toNat (0 : Int) ∧ List.getD x_6.2 (x_6.1 - 1).toNat (0 : Int) < (↑a0.length : Int)) (chk (InR (a0.getD (Int.toNat (List.getD x_6.2 (Int.toNat x_6.1) (0 : Int))) (0 : Int) - a0.getD (Int.toNat (List.getD x_6.2 (x_6.1 - 1).toNat (0 : Int))) (0 : Int))) (brk (decide (a0.getD (Int.toNat (List.getD x_6.2 (Int.toNat x_6.1) (0 : Int))) (0 : Int) - a0.getD (Int.toNat (List.getD x_6.2 (x_6.1 - 1).toNat (0 : Int))) (0 : Int) < (0 : Int))) (chk (InR (x_6.1 - 1)) (chk (InR (x_6.1 - 1)) (chk (0 ≤ x_6.1 - 1 ∧ x_6.1 - 1 < (↑(List.length x_6.2) : Int)) (chk (0 ≤ x_6.1 ∧ x_6.1 < (↑(List.length x_6.2) : Int)) (chk (0 ≤ x_6.1 ∧ x_6.1 < (↑(List.length x_6.2) : Int)) (chk (0 ≤ x_6.1 - 1 ∧ x_6.1 - 1 < (↑(List.set x_6.2 (Int.toNat x_6.1) (List.getD x_6.2 (x_6.1 - 1).toNat (0 : Int))).length : Int)) (chk (InR (x_6.1 - 1)) (x_7 ((x_6.1 - 1, (List.set x_6.2 (Int.toNat x_6.1) (List.getD x_6.2 (x_6.1 - 1).toNat (0 : Int))).set (x_6.1 - 1).toNat (List.getD x_6.2 (Int.toNat x_6.1) (0 : Int)))))))))))) (chk (InR (x_4.1 + 1)) (x_5 ((x_4.1 + 1, x_6.2))))))))))) (chk (InR (x_4.1 + 1)) (x_5 ((x_4.1 + 1, x_6.2))))) (F) (x_4)) (loopC (fun (x_6 : Int) => fun x_7 => brk (decide (x_6 < (↑(List.length x.2) : Int))) (none) (loopC (fun (x_8 : Int × Int × List Int) => fun x_9 => brk (decide (x_8.2.1 < (↑(List.length x_4.2) : Int))) (chk (0 ≤ x_8.2.1 ∧ x_8.2.1 < (↑(List.length x_4.2) : Int)) (chk ((0 : Int) ≤ List.getD x_4.2 (Int.toNat x_8.2.1) (0 : Int) ∧ List.getD x_4.2 (Int.toNat x_8.2.1) (0 : Int) < (↑a0.length : Int)) (chk (InR (a0.getD (Int.toNat (List.getD x_4.2 (Int.toNat x_8.2.1) (0 : Int))) (0 : Int) - x_8.1)) (chk (0 ≤ x_8.2.1 ∧ x_8.2.1 ≤ (↑(List.length x_4.2) : Int) ∧ (↑(List.length x_4.2) : Int) ≤ (↑(List.length x_4.2) : Int)) (loopC (fun (x_10 : Int × List Int) => fun x_11 => brk (decide (x_10.1 < (↑(List.length x_4.2) : Int) - x_8.2.1)) (chk (0 ≤ x_10.1 ∧ x_10.1 < (↑(List.length x_4.2) : Int) - x_8.2.1) (chk ((0 : Int) ≤ List.getD x_4.2 (x_8.2.1 + x_10.1).toNat (0 : Int) ∧ List.getD x_4.2 (x_8.2.1 + x_10.1).toNat (0 : Int) < (↑(List.length x_10.2) : Int)) (chk ((0 ≤ (27720 : Int) ∧ (27720 : Int) ≤ (9223372036854775807 : Int)) ∧ (0 : Int) < (↑(List.length x_4.2) : Int) - x_8.2.1) (chk (InR ((a0.getD (Int.toNat (List.getD x_4.2 (Int.toNat x_8.2.1) (0 : Int))) (0 : Int) - x_8.1) * ((27720 : Int) / ((↑(List.length x_4.2) : Int) - x_8.2.1)))) (chk (InR (List.getD x_10.2 (Int.toNat (List.getD x_4.2 (x_8.2.1 + x_10.1).toNat (0 : Int))) (0 : Int) + (a0.getD (Int.toNat (List.getD x_4.2 (Int.toNat x_8.2.1) (0 : Int))) (0 : Int) - x_8.1) * ((27720 : Int) / ((↑(List.length x_4.2) : Int) - x_8.2.1)))) (chk ((0 : Int) ≤ List.getD x_4.2 (x_8.2.1 + x_10.1).toNat (0 : Int) ∧ List.getD x_4.2 (x_8.2.1 + x_10.1).toNat (0 : Int) < (↑(List.length x_10.2) : Int)) (chk (InR (x_10.1 + 1)) (x_11 ((x_10.1 + 1, List.set x_10.2 (Int.toNat (List.getD x_4.2 (x_8.2.1 + x_10.1).toNat (0 : Int))) (List.getD x_10.2 (Int.toNat (List.getD x_4.2 (x_8.2.1 + x_10.1).toNat (0 : Int))) (0 : Int) + (a0.getD (Int.toNat (List.getD x_4.2 (Int.toNat x_8.2.1) (0 : Int))) (0 : Int) - x_8.1) * ((27720 : Int) / ((↑(List.length x_4.2) : Int) - x_8.2.1))))))))))))) (chk ((0 : Int) ≤ List.getD x_4.2 (Int.toNat x_8.2.1) (0 : Int) ∧ List.getD x_4.2 (Int.toNat x_8.2.1) (0 : Int) < (↑a0.length : Int)) (chk (InR (x_8.2.1 + 1)) (x_9 ((a0.getD (Int.toNat (List.getD x_4.2 (Int.toNat x_8.2.1) (0 : Int))) (0 : Int), x_8.2.1 + 1, x_10.2)))))) (F) (((0 : Int), x_8.2.2))))))) (some (x_8.2.2))) (F) (((0 : Int), (0 : Int), List.replicate (↑a0.length : Int).toNat (0 : Int))))) (F) ((20 : Int)))) (F) ((x_2.2 + 1, x.2))))) (F) (((20 : Int), (0 : Int))))) (F) (((0 : Int), List.replicate (↑a0.length : Int).toNat (0 : Int)))))
def s70 (F : Nat) : CS E.G := ⟨70, [.sl 0], [.sl 0 3], fun x => fees_exact F x.1⟩
theorem c70 (F : Nat) : CSok E [] (s70 F) := mkC (cx := ⟨[], [(101, Tryz.f101), (75, Tryz.f75), (102, Tryz.f102), (111, Tryz.f111), (112, Tryz.f112), (113, Tryz.f113), (114, Tryz.f114), (109, Tryz.f109), (110, Tryz.f110)], F, [], []⟩) hf70 (by kernel_rfl) rfl all0 ⟨(inlC hf101 en101 (inlC hf75 en75 (inlC hf102 en102 (inlC hf111 en111 (inlC hf112 en112 (inlC hf113 en113 (inlC hf114 en114 (inlC hf109 en109 (inlC hf110 en110 inl0))))))))), all0⟩ (.p (.l ⟨[.i, .l 0], [16, 48, 144], [0, 3, 5, 4], [(160, .i IntKind.i64)], [], [], [(4, 3, 0)], 6⟩ (.c .n (.p (.p (.l ⟨[.i, .i], [0, 16, 32, 96], [0, 3, 4], [(128, .i IntKind.i64), (112, .i IntKind.i64)], [], [], [], 6⟩ (.c (.u 0 .n) (.p (.l ⟨[.i, .l 0], [0, 16, 32, 48], [0, 3, 4], [(128, .i IntKind.i64)], [], [], [(4, 3, 0)], 6⟩ (.c (.l ⟨[.i, .l 0], [0, 16, 32, 128, 48], [0, 3, 4], [(144, .i IntKind.i64)], [], [], [(4, 3, 0)], 6⟩ (.s (.p .n) .n)) (.l ⟨[.i], [0, 16, 32], [0, 3, 4], [(96, .i IntKind.i64)], [], [], [], 6⟩ (.c (.u 0 .n) (.l ⟨[.i, .i, .l 0], [0, 16, 32, 128, 112], [0, 1, 3, 5, 2, 4], [(64, .i IntKind.i64), (144, .i IntKind.i64)], [], [], [(1, 3, 0)], 7⟩ (.c (.p (.l ⟨[.i, .l 0], [64, 256, 48, 80, 240], [0, 1, 3, 5, 2, 4], [(272, .i IntKind.i64)], [], [], [(1, 3, 0)], 7⟩ .n)) .n)))))))))))))) rfl (by kernel_rfl)
theorem hf31 : HF 31 Tryz.f31 := hK (by kernel_rfl)
def fees_Exact (F : Nat) (a0 : List Int) : Option ((List Ratio) × Int) :=
 bnd (fees_asked F a0) (fun x => brk (x != (0 : Int)) (some (([], x))) (bnd (fees_exact F a0) (fun x_1 => loopC (fun (x_2 : Int × List Ratio) => fun x_3 => brk (decide (x_2.1 < (↑(List.length x_1) : Int))) (chk (0 ≤ x_2.1 ∧ x_2.1 < (↑(List.length x_1) : Int)) (loopC (fun (x_4 : Int × Int) => fun x_5 => brk (x_4.2 != (0 : Int)) (chk ((0 ≤ x_4.1 ∧ x_4.1 ≤ 9223372036854775807) ∧ (0 : Int) < x_4.2) (x_5 ((x_4.2, x_4.1 % x_4.2)))) (chk (((0 : Int) ≤ List.getD x_1 (Int.toNat x_2.1) (0 : Int) ∧ List.getD x_1 (Int.toNat x_2.1) 0 ≤ (9223372036854775807 : Int)) ∧ (0 : Int) < x_4.1) (chk ((0 ≤ (27720 : Int) ∧ (27720 : Int) ≤ (9223372036854775807 : Int)) ∧ (0 : Int) < x_4.1) (chk (List.length x_2.2 + [Ratio.mk (List.getD x_1 (Int.toNat x_2.1) (0 : Int) / x_4.1) ((27720 : Int) / x_4.1)].length ≤ (1000000000 : Nat)) (chk (InR (x_2.1 + 1)) (x_3 ((x_2.1 + 1, x_2.2 ++ [Ratio.mk (List.getD x_1 (Int.toNat x_2.1) (0 : Int) / x_4.1) ((27720 : Int) / x_4.1)])))))))) (F) ((List.getD x_1 (Int.toNat x_2.1) (0 : Int), (27720 : Int))))) (some ((x_2.2, (0 : Int))))) (F) (((0 : Int), [])))))
def s31 (F : Nat) : CS E.G := ⟨31, [.sl 0], [.sl 22 110, .v 0 false []], fun x => fees_Exact F x.1⟩
theorem c31 (F : Nat) : CSok E [] (s31 F) := mkC (cx := ⟨[s69 F, s70 F], [], F, [], []⟩) hf31 (by kernel_rfl) rfl (allC (c69 F) (allC (c70 F) all0)) ⟨inl0, all0⟩ (.c .n (.l ⟨[.i, .l 22], [256, 272], [1], [(288, .i IntKind.i64), (80, .h 2 110 22)], [], [], [], 3⟩ (.c (.l ⟨[.i, .i], [256, 288, 80, 272, 112], [1, 2], [(128, .i IntKind.i64), (144, .i IntKind.i64)], [], [], [], 3⟩ .n) .n))) rfl (by kernel_rfl)
theorem hf74 : HF 74 Tryz.f74 := hK (by kernel_rfl)
def slices_Max_int (F : Nat) (a0 : List Int) : Option (Int) :=
 brk (decide ((↑a0.length : Int) < (1 : Int))) (none) (chk (0 ≤ (0 : Int) ∧ (0 : Int) < (↑a0.length : Int)) (loopC (fun (x : Int × Int) => fun x_1 => brk (decide (x.1 < (↑a0.length : Int))) (chk (0 ≤ x.1 ∧ x.1 < (↑a0.length : Int)) (chk (InR (x.1 + 1)) (x_1 ((x.1 + 1, if a0.getD (Int.toNat x.1) 0 > x.2 then a0.getD (Int.toNat x.1) 0 else x.2))))) (some (x.2))) (F) (((1 : Int), a0.getD (Int.toNat (0 : Int)) (0 : Int)))))
def s74 (F : Nat) : CS E.G := ⟨74, [.sl 0], [.v 0 false []], fun x => slices_Max_int F x.1⟩
theorem c74 (F : Nat) : CSok E [] (s74 F) := mkC (cx := ⟨[], [], F, [], []⟩) hf74 (by kernel_rfl) rfl all0 ⟨inl0, all0⟩ (.c .n (.l ⟨[.i, .i], [0], [0], [(64, .i IntKind.i64), (48, .i IntKind.i64)], [], [], [], 1⟩ .n)) rfl (by kernel_rfl)
theorem hf76 : HF 76 Tryz.f76 := hK (by kernel_rfl)
theorem en76 : Proofs.Enters Tryz.prog 76 := mkE hf76 (by kernel_rfl) rfl
theorem hf34 : HF 34 Tryz.f34 := hK (by kernel_rfl)
def fees_Share (F : Nat) (a0 : List Int) : Option ((List Int) × Int) :=
 bnd (fees_asked F a0) (fun x => brk (x != (0 : Int)) (some (([], x))) (bnd (fees_exact F a0) (fun x_1 => bnd (slices_Max_int F a0) (fun x_2 => chk (0 ≤ (↑(List.length x_1) : Int) ∧ (↑(List.length x_1) : Int) ≤ (↑(List.length x_1) : Int) ∧ (↑(List.length x_1) : Int) ≤ (100000 : Int)) (chk (0 ≤ (↑(List.length x_1) : Int) ∧ (↑(List.length x_1) : Int) ≤ (↑(List.length x_1) : Int) ∧ (↑(List.length x_1) : Int) ≤ (100000 : Int)) (loopC (fun (x_3 : Int × Int × List Int × List Int) => fun x_4 => brk (decide (x_3.2.1 < (↑(List.length x_1) : Int))) (chk (0 ≤ x_3.2.1 ∧ x_3.2.1 < (↑(List.length x_1) : Int)) (chk ((0 : Int) ≤ List.getD x_1 (Int.toNat x_3.2.1) (0 : Int) ∧ List.getD x_1 (Int.toNat x_3.2.1) 0 ≤ (9223372036854775807 : Int)) (chk (0 ≤ x_3.2.1 ∧ x_3.2.1 < (↑(List.length x_3.2.2.2) : Int)) (chk (0 ≤ x_3.2.1 ∧ x_3.2.1 < (↑(List.length x_3.2.2.1) : Int)) (chk (0 ≤ x_3.2.1 ∧ x_3.2.1 < (↑(List.set x_3.2.2.2 (Int.toNat x_3.2.1) (List.getD x_1 (Int.toNat x_3.2.1) (0 : Int) / (27720 : Int))).length : Int)) (chk (InR (x_3.1 - (List.set x_3.2.2.2 (Int.toNat x_3.2.1) (List.getD x_1 (Int.toNat x_3.2.1) (0 : Int) / (27720 : Int))).getD (Int.toNat x_3.2.1) 0)) (chk (InR (x_3.2.1 + 1)) (x_4 ((x_3.1 - (List.set x_3.2.2.2 (Int.toNat x_3.2.1) (List.getD x_1 (Int.toNat x_3.2.1) (0 : Int) / (27720 : Int))).getD (Int.toNat x_3.2.1) 0, x_3.2.1 + 1, List.set x_3.2.2.1 (Int.toNat x_3.2.1) x_3.2.1, List.set x_3.2.2.2 (Int.toNat x_3.2.1) (List.getD x_1 (Int.toNat x_3.2.1) (0 : Int) / (27720 : Int)))))))))))) (loopC (fun (x_5 : Int × Int) => fun x_6 => brk (decide (x_5.1 ≤ (↑(List.length x_3.2.2.1) : Int))) (none) (chk (InR (x_5.2 + 1)) (loopC (fun (x_7 : Int × List Int) => fun x_8 => brk (decide (x_7.1 < (↑(List.length x_3.2.2.1) : Int))) (loopC (fun (x_9 : Int × List Int) => fun x_10 => brk (decide (x_9.1 > x_5.2)) (chk (0 ≤ x_9.1 ∧ x_9.1 < (↑(List.length x_9.2) : Int)) (chk (InR (x_9.1 - 1)) (chk (0 ≤ x_9.1 - 1 ∧ x_9.1 - 1 < (↑(List.length x_9.2) : Int)) (chk ((0 : Int) ≤ List.getD x_9.2 (x_9.1 - 1).toNat (0 : Int) ∧ List.getD x_9.2 (x_9.1 - 1).toNat (0 : Int) < (↑(List.length x_1) : Int)) (chk ((0 : Int) ≤ List.getD x_1 (Int.toNat (List.getD x_9.2 (x_9.1 - 1).toNat (0 : Int))) (0 : Int) ∧ List.getD x_1 (Int.toNat (List.getD x_9.2 (x_9.1 - 1).toNat (0 : Int))) 0 ≤ (9223372036854775807 : Int)) (chk ((0 : Int) ≤ List.getD x_9.2 (Int.toNat x_9.1) (0 : Int) ∧ List.getD x_9.2 (Int.toNat x_9.1) (0 : Int) < (↑(List.length x_1) : Int)) (chk ((0 : Int) ≤ List.getD x_1 (Int.toNat (List.getD x_9.2 (Int.toNat x_9.1) (0 : Int))) (0 : Int) ∧ List.getD x_1 (Int.toNat (List.getD x_9.2 (Int.toNat x_9.1) (0 : Int))) 0 ≤ (9223372036854775807 : Int)) (chk (InR (List.getD x_1 (Int.toNat (List.getD x_9.2 (x_9.1 - 1).toNat (0 : Int))) (0 : Int) % (27720 : Int) - List.getD x_1 (Int.toNat (List.getD x_9.2 (Int.toNat x_9.1) (0 : Int))) (0 : Int) % (27720 : Int))) (brk (decide (List.getD x_1 (Int.toNat (List.getD x_9.2 (x_9.1 - 1).toNat (0 : Int))) (0 : Int) % (27720 : Int) - List.getD x_1 (Int.toNat (List.getD x_9.2 (Int.toNat x_9.1) (0 : Int))) (0 : Int) % (27720 : Int) < (0 : Int))) (chk (InR (x_9.1 - 1)) (chk (InR (x_9.1 - 1)) (chk (0 ≤ x_9.1 - 1 ∧ x_9.1 - 1 < (↑(List.length x_9.2) : Int)) (chk (0 ≤ x_9.1 ∧ x_9.1 < (↑(List.length x_9.2) : Int)) (chk (0 ≤ x_9.1 ∧ x_9.1 < (↑(List.length x_9.2) : Int)) (chk (0 ≤ x_9.1 - 1 ∧ x_9.1 - 1 < (↑(List.set x_9.2 (Int.toNat x_9.1) (List.getD x_9.2 (x_9.1 - 1).toNat (0 : Int))).length : Int)) (chk (InR (x_9.1 - 1)) (x_10 ((x_9.1 - 1, (List.set x_9.2 (Int.toNat x_9.1) (List.getD x_9.2 (x_9.1 - 1).toNat (0 : Int))).set (x_9.1 - 1).toNat (List.getD x_9.2 (Int.toNat x_9.1) (0 : Int)))))))))))) (chk (InR (x_7.1 + 1)) (x_8 ((x_7.1 + 1, x_9.2))))))))))))) (chk (InR (x_7.1 + 1)) (x_8 ((x_7.1 + 1, x_9.2))))) (F) (x_7)) (loopC (fun (x_9 : Int) => fun x_10 => brk (decide (x_9 < (↑(List.length x_3.2.2.1) : Int))) (none) (chk (0 ≤ (0 : Int) ∧ 0 ≤ x_3.1 ∧ x_3.1 ≤ (↑(List.length x_7.2) : Int)) (loopC (fun (x_11 : Int × List Int) => fun x_12 => brk (decide (x_11.1 < x_3.1 - 0)) (chk (0 ≤ x_11.1 ∧ x_11.1 < x_3.1 - 0) (chk ((0 : Int) ≤ List.getD x_7.2 ((0 : Int) + x_11.1).toNat (0 : Int) ∧ List.getD x_7.2 ((0 : Int) + x_11.1).toNat (0 : Int) < (↑(List.length x_11.2) : Int)) (chk (InR (List.getD x_11.2 (Int.toNat (List.getD x_7.2 ((0 : Int) + x_11.1).toNat (0 : Int))) (0 : Int) + (1 : Int))) (chk ((0 : Int) ≤ List.getD x_7.2 ((0 : Int) + x_11.1).toNat (0 : Int) ∧ List.getD x_7.2 ((0 : Int) + x_11.1).toNat (0 : Int) < (↑(List.length x_11.2) : Int)) (chk (InR (x_11.1 + 1)) (x_12 ((x_11.1 + 1, List.set x_11.2 (Int.toNat (List.getD x_7.2 ((0 : Int) + x_11.1).toNat (0 : Int))) (List.getD x_11.2 (Int.toNat (List.getD x_7.2 ((0 : Int) + x_11.1).toNat (0 : Int))) (0 : Int) + (1 : Int)))))))))) (some ((x_11.2, (0 : Int))))) (F) (((0 : Int), x_3.2.2.2))))) (F) ((20 : Int)))) (F) ((x_5.2 + 1, x_3.2.2.1))))) (F) (((20 : Int), (0 : Int))))) (F) ((x_2, (0 : Int), List.replicate (↑(List.length x_1) : Int).toNat (0 : Int), List.replicate (↑(List.length x_1) : Int).toNat (0 : Int)))))))))
def s34 (F : Nat) : CS E.G := ⟨34, [.sl 0], [.sl 0 3, .v 0 false []], fun x => fees_Share F x.1⟩
theorem c34 (F : Nat) : CSok E [] (s34 F) := mkC (cx := ⟨[s69 F, s70 F, s74 F], [(75, Tryz.f75), (102, Tryz.f102), (111, Tryz.f111), (112, Tryz.f112), (113, Tryz.f113), (114, Tryz.f114), (76, Tryz.f76)], F, [], []⟩) hf34 (by kernel_rfl) rfl (allC (c69 F) (allC (c70 F) (allC (c74 F) all0))) ⟨(inlC hf75 en75 (inlC hf102 en102 (inlC hf111 en111 (inlC hf112 en112 (inlC hf113 en113 (inlC hf114 en114 (inlC hf76 en76 inl0))))))), all0⟩ (.c .n (.l ⟨[.i, .i, .l 0, .l 0], [128, 448, 80, 464, 112], [4, 1, 2, 3], [(96, .i IntKind.i64), (480, .i IntKind.i64)], [], [], [(4, 3, 0), (3, 3, 0)], 5⟩ (.c .n (.p (.p (.l ⟨[.i, .i], [0, 16, 32, 96], [1, 2, 4], [(128, .i IntKind.i64), (112, .i IntKind.i64)], [], [], [], 5⟩ (.c (.u 0 .n) (.p (.l ⟨[.i, .l 0], [0, 16, 32, 48], [1, 2, 4], [(128, .i IntKind.i64)], [], [], [(4, 3, 0)], 5⟩ (.c (.l ⟨[.i, .l 0], [0, 16, 32, 128, 48], [1, 2, 4], [(144, .i IntKind.i64)], [], [], [(4, 3, 0)], 5⟩ (.s (.p .n) .n)) (.l ⟨[.i], [0, 16, 32], [1, 2, 4], [(96, .i IntKind.i64)], [], [], [], 5⟩ (.c (.u 0 .n) (.l ⟨[.i, .l 0], [896, 912, 112], [4, 3], [(928, .i IntKind.i64)], [], [], [(3, 3, 0)], 5⟩ .n))))))))))))) rfl (by kernel_rfl)
theorem hf103 : HF 103 Tryz.f103 := hK (by kernel_rfl)
def fees_claimed_1 (F : Nat) (a0 : Int) : Option (Bool) :=
 bnd (fees_within F a0 0 1000000000000) (fun x => some (!x))
def s103 (F : Nat) : CS E.G := ⟨103, [.v 0 false], [.v 1 false []], fun x => fees_claimed_1 F x.1⟩
theorem c103 (F : Nat) : CSok E [] (s103 F) := mkC (cx := ⟨[s59 F], [], F, [], []⟩) hf103 (by kernel_rfl) rfl (allC (c59 F) all0) ⟨inl0, all0⟩ .n rfl (by kernel_rfl)
theorem hf78 : HF 78 Tryz.f78 := hK (by kernel_rfl)
def fees_claimed (F : Nat) (a0 : List Int) (a1 : Int) : Option (Int) :=
 bnd (fees_within F (↑a0.length : Int) 1 40) (fun x => brk (!x) (some ((2 : Int))) (join (F) (fun (x_1 : Int) => bnd (brk (!decide (x_1 ≥ (0 : Int))) (fees_within F a1 0 1000000000000) (some false)) (fun x_2 => brk (decide (x_1 ≥ (0 : Int)) || !x_2) (some ((6 : Int))) (some ((0 : Int))))) (fun x_1 => loopC (fun (x_2 : Int) => fun x_3 => brk (decide (x_2 < (↑a0.length : Int))) (chk (0 ≤ x_2 ∧ x_2 < (↑a0.length : Int)) (bnd (fees_claimed_1 F (a0.getD (Int.toNat x_2) 0)) (fun x_4 => brk (x_4) (x_1 (x_2)) (chk (InR (x_2 + 1)) (x_3 (x_2 + 1)))))) (x_1 ((-1 : Int)))) (F) ((0 : Int)))))
def s78 (F : Nat) : CS E.G := ⟨78, [.sl 0, .v 0 false], [.v 0 false []], fun x => fees_claimed F x.1 x.2.1⟩
theorem c78 (F : Nat) : CSok E [] (s78 F) := mkC (cx := ⟨[s59 F, s103 F], [(60, Tryz.f60), (99, Tryz.f99)], F, [], []⟩) hf78 (by kernel_rfl) rfl (allC (c59 F) (allC (c103 F) all0)) ⟨(inlC hf60 en60 (inlC hf99 en99 inl0)), all0⟩ (.c .n (.p (.w ⟨[.i], [], [0], [(0, .i IntKind.i64)], [], [], [], 1⟩ (.l ⟨[.i], [0, 16, 112], [0], [(128, .i IntKind.i64)], [], [], [], 1⟩ (.c .n .n)) .n))) rfl (by kernel_rfl)
theorem hf65 : HF 65 Tryz.f65 := hK (by kernel_rfl)
theorem en65 : Proofs.Enters Tryz.prog 65 := mkE hf65 (by kernel_rfl) rfl
theorem hf105 : HF 105 Tryz.f105 := hK (by kernel_rfl)
def fees_cut (F : Nat) (a0 : List Int) (a1 : Int) : Option (Int) :=
 loopC (fun (x : Int × Int) => fun x_1 => brk (decide (x.1 < (↑a0.length : Int))) (chk (0 ≤ x.1 ∧ x.1 < (↑a0.length : Int)) (chk (InR (x.2 + if a1 < a0.getD (Int.toNat x.1) 0 then a1 else a0.getD (Int.toNat x.1) 0)) (chk (InR (x.1 + 1)) (x_1 ((x.1 + 1, x.2 + if a1 < a0.getD (Int.toNat x.1) 0 then a1 else a0.getD (Int.toNat x.1) 0)))))) (some (x.2))) (F) (((0 : Int), (0 : Int)))
def s105 (F : Nat) : CS E.G := ⟨105, [.sl 0, .v 0 false], [.v 0 false []], fun x => fees_cut F x.1 x.2.1⟩
theorem c105 (F : Nat) : CSok E [] (s105 F) := mkC (cx := ⟨[], [], F, [], []⟩) hf105 (by kernel_rfl) rfl all0 ⟨inl0, all0⟩ (.l ⟨[.i, .i], [16, 128, 144], [0], [(160, .i IntKind.i64), (80, .i IntKind.i64)], [], [], [], 1⟩ .n) rfl (by kernel_rfl)
theorem hf104 : HF 104 Tryz.f104 := hK (by kernel_rfl)
theorem en104 : Proofs.Enters Tryz.prog 104 := mkE hf104 (by kernel_rfl) rfl
theorem hf79 : HF 79 Tryz.f79 := hK (by kernel_rfl)
def fees_level (F : Nat) (a0 : List Int) (a1 : Int) : Option (Int × Int) :=
 bnd (slices_Max_int F a0) (fun x => loopC (fun (x_1 : Int × Int) => fun x_2 => brk (decide (x_1.2 < x_1.1)) (chk (InR (x_1.1 - x_1.2)) (chk (InR (x_1.1 - x_1.2 + 1)) (chk (0 ≤ x_1.1 - x_1.2 + 1 ∧ x_1.1 - x_1.2 + 1 ≤ (9223372036854775807 : Int)) (chk (InR (x_1.2 + (x_1.1 - x_1.2 + 1) / (2 : Int))) (bnd (fees_cut F a0 (x_1.2 + (x_1.1 - x_1.2 + 1) / (2 : Int))) (fun x_3 => brk (decide (x_3 ≤ a1)) (x_2 ((x_1.1, x_1.2 + (x_1.1 - x_1.2 + 1) / (2 : Int)))) (chk (InR (x_1.2 + (x_1.1 - x_1.2 + 1) / (2 : Int) - (1 : Int))) (x_2 ((x_1.2 + (x_1.1 - x_1.2 + 1) / (2 : Int) - (1 : Int), x_1.2)))))))))) (bnd (fees_cut F a0 x_1.2) (fun x_3 => chk (InR (a1 - x_3)) (some ((x_1.2, a1 - x_3)))))) (F) ((x, IntKind.i64.wrap ((0 : Int) - (1 : Int)))))
def s79 (F : Nat) : CS E.G := ⟨79, [.sl 0, .v 0 false], [.v 0 false [], .v 0 false []], fun x => fees_level F x.1 x.2.1⟩
theorem c79 (F : Nat) : CSok E [] (s79 F) := mkC (cx := ⟨[s74 F, s105 F], [(65, Tryz.f65), (104, Tryz.f104)], F, [], []⟩) hf79 (by kernel_rfl) rfl (allC (c74 F) (allC (c105 F) all0)) ⟨(inlC hf65 en65 (inlC hf104 en104 inl0)), all0⟩ (.p (.l ⟨[.i, .i], [32], [0, 1, 2], [(16, .i IntKind.i64), (112, .i IntKind.i64)], [], [], [], 3⟩ (.c (.p .n) .n))) rfl (by kernel_rfl)
theorem hf82 : HF 82 Tryz.f82 := hK (by kernel_rfl)
def fees_awards (F : Nat) (a0 : List Int) (a1 : Int) : Option ((List Int)) :=
 bnd (fees_level F a0 a1) (fun x => loopC (fun (x_1 : Int × List Int × Int) => fun x_2 => brk (decide (x_1.2.2 < (↑a0.length : Int))) (chk (0 ≤ x_1.2.2 ∧ x_1.2.2 < (↑a0.length : Int)) (join (F) (fun (x_3 : Int × Int) => chk (List.length x_1.2.1 + [x_3.2].length ≤ (1000000000 : Nat)) (chk (InR (x_1.2.2 + 1)) (x_2 ((x_3.1, x_1.2.1 ++ [x_3.2], x_1.2.2 + 1))))) (fun x_3 => brk (decide (a0.getD (Int.toNat x_1.2.2) 0 > x.1) && decide (x_1.1 > (0 : Int))) (chk (InR ((if x.1 < a0.getD (Int.toNat x_1.2.2) 0 then x.1 else a0.getD (Int.toNat x_1.2.2) 0) + 1)) (chk (InR (x_1.1 - 1)) (x_3 ((x_1.1 - 1, (if x.1 < a0.getD (Int.toNat x_1.2.2) 0 then x.1 else a0.getD (Int.toNat x_1.2.2) 0) + 1))))) (x_3 ((x_1.1, if x.1 < a0.getD (Int.toNat x_1.2.2) 0 then x.1 else a0.getD (Int.toNat x_1.2.2) 0)))))) (some (x_1.2.1))) (F) ((x.2, [], (0 : Int))))
def s82 (F : Nat) : CS E.G := ⟨82, [.sl 0, .v 0 false], [.sl 0 3], fun x => fees_awards F x.1 x.2.1⟩
theorem c82 (F : Nat) : CSok E [] (s82 F) := mkC (cx := ⟨[s79 F], [], F, [], []⟩) hf82 (by kernel_rfl) rfl (allC (c79 F) all0) ⟨inl0, all0⟩ (.l ⟨[.i, .l 0, .i], [288, 80, 272], [0], [(96, .i IntKind.i64), (112, .h 1 3 0), (304, .i IntKind.i64)], [], [], [], 2⟩ (.c (.k (.k (.k (.j ⟨[.i, .i], [288, 80, 272, 112, 304], [0, 1], [(96, .i IntKind.i64), (160, .i IntKind.i64)], [], [], [], 2⟩ .n .n)))) .n)) rfl (by kernel_rfl)
theorem hf41 : HF 41 Tryz.f41 := hK (by kernel_rfl)
def fees_Awards (F : Nat) (a0 : List Int) (a1 : Int) : Option ((List Int) × Int) :=
 bnd (fees_claimed F a0 a1) (fun x => brk (x != (0 : Int)) (some (([], x))) (bnd (fees_awards F a0 a1) (fun x_1 => some ((x_1, (0 : Int))))))
def s41 (F : Nat) : CS E.G := ⟨41, [.sl 0, .v 0 false], [.sl 0 3, .v 0 false []], fun x => fees_Awards F x.1 x.2.1⟩
theorem c41 (F : Nat) : CSok E [] (s41 F) := mkC (cx := ⟨[s78 F, s82 F], [], F, [], []⟩) hf41 (by kernel_rfl) rfl (allC (c78 F) (allC (c82 F) all0)) ⟨inl0, all0⟩ .n rfl (by kernel_rfl)
theorem hf84 : HF 84 Tryz.f84 := hK (by kernel_rfl)
theorem en84 : Proofs.Enters Tryz.prog 84 := mkE hf84 (by kernel_rfl) rfl
theorem hf43 : HF 43 Tryz.f43 := hK (by kernel_rfl)
theorem en43 : Proofs.Enters Tryz.prog 43 := mkE hf43 (by kernel_rfl) rfl
theorem hf107 : HF 107 Tryz.f107 := hK (by kernel_rfl)
theorem en107 : Proofs.Enters Tryz.prog 107 := mkE hf107 (by kernel_rfl) rfl
theorem hf92 : HF 92 Tryz.f92 := hK (by kernel_rfl)
def fees_table (F : Nat) (a0 : List (List Int)) (a1 : Int) (a2 : Int) : Option (Int) :=
 brk ((↑a0.length : Int) != a1) (some ((1 : Int))) (join (F) (fun (x : Int) => brk (decide (x ≥ (0 : Int))) (some ((1 : Int))) (some ((0 : Int)))) (fun x => loopC (fun (x_1 : Int) => fun x_2 => brk (decide (x_1 < (↑a0.length : Int))) (chk (0 ≤ x_1 ∧ x_1 < (↑a0.length : Int)) (brk ((↑(List.length (a0.getD (Int.toNat x_1) [])) : Int) != a2) (x (x_1)) (chk (InR (x_1 + 1)) (x_2 (x_1 + 1))))) (x ((-1 : Int)))) (F) ((0 : Int))))
def s92 (F : Nat) : CS E.G := ⟨92, [.sl 6, .v 0 false, .v 0 false], [.v 0 false []], fun x => fees_table F x.1 x.2.1 x.2.2.1⟩
theorem c92 (F : Nat) : CSok E [] (s92 F) := mkC (cx := ⟨[], [(43, Tryz.f43), (84, Tryz.f84), (107, Tryz.f107)], F, [], []⟩) hf92 (by kernel_rfl) rfl all0 ⟨(inlC hf43 en43 (inlC hf84 en84 (inlC hf107 en107 inl0))), all0⟩ (.s .n (.p (.w ⟨[.i], [], [0, 1], [(0, .i IntKind.i64)], [], [], [], 2⟩ (.l ⟨[.i], [0, 16, 112], [0, 1], [(128, .i IntKind.i64)], [], [], [], 2⟩ (.c (.p .n) .n)) .n))) rfl (by kernel_rfl)
theorem hf108 : HF 108 Tryz.f108 := hK (by kernel_rfl)
def fees_amounts_1 (F : Nat) (a0 : Int) : Option (Bool) :=
 bnd (fees_within F a0 0 1000000000000) (fun x => some (!x))
def s108 (F : Nat) : CS E.G := ⟨108, [.v 0 false], [.v 1 false []], fun x => fees_amounts_1 F x.1⟩
theorem c108 (F : Nat) : CSok E [] (s108 F) := mkC (cx := ⟨[s59 F], [], F, [], []⟩) hf108 (by kernel_rfl) rfl (allC (c59 F) all0) ⟨inl0, all0⟩ .n rfl (by kernel_rfl)
theorem hf93 : HF 93 Tryz.f93 := hK (by kernel_rfl)
def fees_amounts (F : Nat) (a0 : List (List Int)) : Option (Int) :=
 loopC (fun (x : Int) => fun x_1 => brk (decide (x < (↑a0.length : Int))) (chk (0 ≤ x ∧ x < (↑a0.length : Int)) (join (F) (fun (x_2 : Int) => brk (decide (x_2 ≥ (0 : Int))) (some ((6 : Int))) (chk (InR (x + 1)) (x_1 (x + 1)))) (fun x_2 => loopC (fun (x_3 : Int) => fun x_4 => brk (decide (x_3 < (↑(List.length (a0.getD (Int.toNat x) [])) : Int))) (chk (0 ≤ x_3 ∧ x_3 < (↑(List.length (a0.getD (Int.toNat x) [])) : Int)) (bnd (fees_amounts_1 F (List.getD (a0.getD (Int.toNat x) []) (Int.toNat x_3) (0 : Int))) (fun x_5 => brk (x_5) (x_2 (x_3)) (chk (InR (x_3 + 1)) (x_4 (x_3 + 1)))))) (x_2 ((-1 : Int)))) (F) ((0 : Int))))) (some ((0 : Int)))) (F) ((0 : Int))
def s93 (F : Nat) : CS E.G := ⟨93, [.sl 6], [.v 0 false []], fun x => fees_amounts F x.1⟩
theorem c93 (F : Nat) : CSok E [] (s93 F) := mkC (cx := ⟨[s108 F], [(60, Tryz.f60), (99, Tryz.f99)], F, [], []⟩) hf93 (by kernel_rfl) rfl (allC (c108 F) all0) ⟨(inlC hf60 en60 (inlC hf99 en99 inl0)), all0⟩ (.l ⟨[.i], [96, 80], [0], [(112, .i IntKind.i64)], [], [], [], 1⟩ (.c (.p (.w ⟨[.i], [], [1], [(0, .i IntKind.i64)], [], [], [], 2⟩ (.l ⟨[.i], [0, 16, 112], [1], [(128, .i IntKind.i64)], [], [], [], 2⟩ (.c .n .n)) .n)) .n)) rfl (by kernel_rfl)
theorem hf94 : HF 94 Tryz.f94 := hK (by kernel_rfl)
theorem en94 : Proofs.Enters Tryz.prog 94 := mkE hf94 (by kernel_rfl) rfl
def slices_Clone_Lint (F : Nat) (a0 : List (List Int)) : Option ((List (List Int))) :=
 chk ((0 : Nat) + a0.length ≤ (1000000000 : Nat)) (some ([] ++ a0))
def s94 (F : Nat) : CS E.G := ⟨94, [.sl 6], [.sl 6 22], fun x => slices_Clone_Lint F x.1⟩
def cx94 (F : Nat) : Ctx E := ⟨[], [], F, [], []⟩
def h94 : Hint := .n
theorem e94n (F : Nat) (c : Nat) : fnK (E := E) (cx94 F) Tryz.f94 [] [.nl] [.sl 6 22] .n (c, ()) = some ([]) := by kernel_rfl
theorem e94s (F : Nat) (a0 : List (List Int)) : fnK (E := E) (cx94 F) Tryz.f94 [] [.sn 6] [.sl 6 22] h94 (a0, ()) = slices_Clone_Lint F a0 := by kernel_rfl
theorem c94 (F : Nat) : CSok E [] (s94 F) := ⟨en94, by
 have h0 := fn_sound (E := E) (gl := []) (cx := cx94 F) mix all0 ⟨inl0, all0⟩ keys0 rfl (fun _ h => nomatch h) hf94 (ps := [.nl]) (rs := [.sl 6 22]) (by decide) .n
 have h1 := fn_sound (E := E) (gl := []) (cx := cx94 F) mix all0 ⟨inl0, all0⟩ keys0 rfl (fun _ h => nomatch h) hf94 (ps := [.sn 6]) (rs := [.sl 6 22]) (by decide) h94
 rw [show fnK (E := E) (cx94 F) Tryz.f94 [] [.nl] [.sl 6 22] .n = (fun x : AT E.G.car [.nl] => some ([])) from funext fun x => e94n F x.1] at h0
 rw [show fnK (E := E) (cx94 F) Tryz.f94 [] [.sn 6] [.sl 6 22] h94 = (fun x : AT E.G.car [.sn 6] => slices_Clone_Lint F x.1) from funext fun x => e94s F x.1] at h1
 exact contract_nil (E := E) (t := 6) (rs := [.sl 6 22]) (f := slices_Clone_Lint F) (f0 := fun _ => some ([])) (f1 := slices_Clone_Lint F) h0 h1 (fun _ _ h => (show slices_Clone_Lint F [] = some [] by kernel_rfl).symm.trans h) (fun _ _ h => h)⟩
theorem hf87 : HF 87 Tryz.f87 := hK (by kernel_rfl)
def fees_State_check (F : Nat) (a0 : State) : Option (Int) :=
 bnd (fees_within F (↑a0.Deposits.length : Int) 1 10) (fun x => brk (!x) (some ((2 : Int))) (brk ((↑a0.Owed.length : Int) == (0 : Int)) (some ((1 : Int))) (chk (0 ≤ (0 : Int) ∧ (0 : Int) < (↑a0.Owed.length : Int)) (bnd (fees_within F (↑(List.length (a0.Owed.getD (Int.toNat (0 : Int)) [])) : Int) 1 6) (fun x_1 => brk (!x_1) (some ((2 : Int))) (chk (0 ≤ (0 : Int) ∧ (0 : Int) < (↑a0.Owed.length : Int)) (bnd (fees_table F a0.Owed (↑a0.Deposits.length : Int) (↑(List.length (a0.Owed.getD (Int.toNat (0 : Int)) [])) : Int)) (fun x_2 => brk (x_2 != (0 : Int)) (some (x_2)) (bnd (slices_Clone_Lint F a0.Owed) (fun x_3 => chk (List.length x_3 + [a0.Deposits].length ≤ (1000000000 : Nat)) (bnd (fees_amounts F (x_3 ++ [a0.Deposits])) (fun x_4 => some (x_4)))))))))))))
def s87 (F : Nat) : CS E.G := ⟨87, [.v 14 true], [.v 0 false []], fun x => fees_State_check F x.1⟩
theorem c87 (F : Nat) : CSok E [] (s87 F) := mkC (cx := ⟨[s59 F, s92 F, s93 F, s94 F], [], F, [], []⟩) hf87 (by kernel_rfl) rfl (allC (c59 F) (allC (c92 F) (allC (c93 F) (allC (c94 F) all0)))) ⟨inl0, all0⟩ (.c .n (.c .n (.c .n .n))) rfl (by kernel_rfl)
theorem hf106 : HF 106 Tryz.f106 := hK (by kernel_rfl)
theorem en106 : Proofs.Enters Tryz.prog 106 := mkE hf106 (by kernel_rfl) rfl
def slices_Clone_int (F : Nat) (a0 : List Int) : Option ((List Int)) :=
 chk ((0 : Nat) + a0.length ≤ (1000000000 : Nat)) (some ([] ++ a0))
def s106 (F : Nat) : CS E.G := ⟨106, [.sl 0], [.sl 0 3], fun x => slices_Clone_int F x.1⟩
def cx106 (F : Nat) : Ctx E := ⟨[], [], F, [], []⟩
def h106 : Hint := .n
theorem e106n (F : Nat) (c : Nat) : fnK (E := E) (cx106 F) Tryz.f106 [] [.nl] [.sl 0 3] .n (c, ()) = some ([]) := by kernel_rfl
theorem e106s (F : Nat) (a0 : List Int) : fnK (E := E) (cx106 F) Tryz.f106 [] [.sn 0] [.sl 0 3] h106 (a0, ()) = slices_Clone_int F a0 := by kernel_rfl
theorem c106 (F : Nat) : CSok E [] (s106 F) := ⟨en106, by
 have h0 := fn_sound (E := E) (gl := []) (cx := cx106 F) mix all0 ⟨inl0, all0⟩ keys0 rfl (fun _ h => nomatch h) hf106 (ps := [.nl]) (rs := [.sl 0 3]) (by decide) .n
 have h1 := fn_sound (E := E) (gl := []) (cx := cx106 F) mix all0 ⟨inl0, all0⟩ keys0 rfl (fun _ h => nomatch h) hf106 (ps := [.sn 0]) (rs := [.sl 0 3]) (by decide) h106
 rw [show fnK (E := E) (cx106 F) Tryz.f106 [] [.nl] [.sl 0 3] .n = (fun x : AT E.G.car [.nl] => some ([])) from funext fun x => e106n F x.1] at h0
 rw [show fnK (E := E) (cx106 F) Tryz.f106 [] [.sn 0] [.sl 0 3] h106 = (fun x : AT E.G.car [.sn 0] => slices_Clone_int F x.1) from funext fun x => e106s F x.1] at h1
 exact contract_nil (E := E) (t := 0) (rs := [.sl 0 3]) (f := slices_Clone_int F) (f0 := fun _ => some ([])) (f1 := slices_Clone_int F) h0 h1 (fun _ _ h => (show slices_Clone_int F [] = some [] by kernel_rfl).symm.trans h) (fun _ _ h => h)⟩
theorem hf88 : HF 88 Tryz.f88 := hK (by kernel_rfl)
theorem en88 : Proofs.Enters Tryz.prog 88 := mkE hf88 (by kernel_rfl) rfl
theorem hf50 : HF 50 Tryz.f50 := hK (by kernel_rfl)
def fees_Month (F : Nat) (a0 : State) (a1 : List Int) (a2 : List (List Int)) (a3 : Int) : Option (State × (List (List Int)) × Int) :=
 bnd (fees_State_check F a0) (fun x => brk (x != (0 : Int)) (some ((State.mk [] [], [], x))) (chk (0 ≤ (0 : Int) ∧ (0 : Int) < (↑a0.Owed.length : Int)) (bnd (fees_table F a2 (↑a0.Deposits.length : Int) (↑(List.length (a0.Owed.getD (Int.toNat (0 : Int)) [])) : Int)) (fun x_1 => join (F) (fun (x_2 : Int) => join (F) (fun (x_3 : Int) => join (F) (fun (x_4 : Int) => brk (x_4 != (0 : Int)) (some ((State.mk [] [], [], x_4))) (loopC (fun (x_5 : Int × List (List Int) × List Int) => fun x_6 => brk (decide (x_5.1 < (↑a0.Owed.length : Int))) (chk (0 ≤ x_5.1 ∧ x_5.1 < (↑a0.Owed.length : Int)) (chk (0 ≤ x_5.1 ∧ x_5.1 < (↑a0.Deposits.length : Int)) (chk (0 ≤ x_5.1 ∧ x_5.1 < (↑a1.length : Int)) (chk (InR (a0.Deposits.getD (Int.toNat x_5.1) 0 + a1.getD (Int.toNat x_5.1) 0)) (chk (List.length x_5.2.2 + [a0.Deposits.getD (Int.toNat x_5.1) 0 + a1.getD (Int.toNat x_5.1) 0].length ≤ (1000000000 : Nat)) (loopC (fun (x_7 : List Int × Int) => fun x_8 => brk (decide (x_7.2 < (↑(List.length (a0.Owed.getD (Int.toNat x_5.1) [])) : Int))) (chk (0 ≤ x_7.2 ∧ x_7.2 < (↑(List.length (a0.Owed.getD (Int.toNat x_5.1) [])) : Int)) (chk (InR (List.getD (a0.Owed.getD (Int.toNat x_5.1) []) (Int.toNat x_7.2) (0 : Int) * a3)) (chk (InR (List.getD (a0.Owed.getD (Int.toNat x_5.1) []) (Int.toNat x_7.2) (0 : Int) * a3 + 99)) (chk ((0 : Int) ≤ List.getD (a0.Owed.getD (Int.toNat x_5.1) []) (Int.toNat x_7.2) (0 : Int) * a3 + 99 ∧ List.getD (a0.Owed.getD (Int.toNat x_5.1) []) (Int.toNat x_7.2) (0 : Int) * a3 + 99 ≤ (9223372036854775807 : Int)) (chk (InR (List.getD (a0.Owed.getD (Int.toNat x_5.1) []) (Int.toNat x_7.2) (0 : Int) + (List.getD (a0.Owed.getD (Int.toNat x_5.1) []) (Int.toNat x_7.2) (0 : Int) * a3 + 99) / (100 : Int))) (chk (0 ≤ x_5.1 ∧ x_5.1 < (↑a2.length : Int)) (chk (0 ≤ x_7.2 ∧ x_7.2 < (↑(List.length (a2.getD (Int.toNat x_5.1) [])) : Int)) (chk (InR (List.getD (a0.Owed.getD (Int.toNat x_5.1) []) (Int.toNat x_7.2) (0 : Int) + (List.getD (a0.Owed.getD (Int.toNat x_5.1) []) (Int.toNat x_7.2) (0 : Int) * a3 + 99) / (100 : Int) + List.getD (a2.getD (Int.toNat x_5.1) []) (Int.toNat x_7.2) (0 : Int))) (chk (List.length x_7.1 + [List.getD (a0.Owed.getD (Int.toNat x_5.1) []) (Int.toNat x_7.2) (0 : Int) + (List.getD (a0.Owed.getD (Int.toNat x_5.1) []) (Int.toNat x_7.2) (0 : Int) * a3 + 99) / (100 : Int) + List.getD (a2.getD (Int.toNat x_5.1) []) (Int.toNat x_7.2) (0 : Int)].length ≤ (1000000000 : Nat)) (chk (InR (x_7.2 + 1)) (x_8 ((x_7.1 ++ [List.getD (a0.Owed.getD (Int.toNat x_5.1) []) (Int.toNat x_7.2) (0 : Int) + (List.getD (a0.Owed.getD (Int.toNat x_5.1) []) (Int.toNat x_7.2) (0 : Int) * a3 + 99) / (100 : Int) + List.getD (a2.getD (Int.toNat x_5.1) []) (Int.toNat x_7.2) (0 : Int)], x_7.2 + 1))))))))))))) (chk (List.length x_5.2.1 + [x_7.1].length ≤ (1000000000 : Nat)) (chk (InR (x_5.1 + 1)) (x_6 ((x_5.1 + 1, x_5.2.1 ++ [x_7.1], x_5.2.2 ++ [a0.Deposits.getD (Int.toNat x_5.1) 0 + a1.getD (Int.toNat x_5.1) 0])))))) (F) (([], (0 : Int))))))))) (bnd (slices_Clone_Lint F x_5.2.1) (fun x_7 => chk (List.length x_7 + [x_5.2.2].length ≤ (1000000000 : Nat)) (bnd (fees_amounts F (x_7 ++ [x_5.2.2])) (fun x_8 => brk (x_8 != (0 : Int)) (some ((State.mk [] [], [], (8 : Int)))) (bnd (slices_Clone_int F x_5.2.2) (fun x_9 => loopC (fun (x_10 : List (List Int) × Int × List (List Int) × List Int) => fun x_11 => brk (decide (x_10.2.1 < (↑(List.length x_5.2.1) : Int))) (chk (0 ≤ x_10.2.1 ∧ x_10.2.1 < (↑(List.length x_5.2.1) : Int)) (chk (0 ≤ x_10.2.1 ∧ x_10.2.1 < (↑(List.length x_5.2.2) : Int)) (bnd (fees_awards F (List.getD x_5.2.1 (Int.toNat x_10.2.1) []) (List.getD x_5.2.2 (Int.toNat x_10.2.1) (0 : Int))) (fun x_12 => bnd (slices_Clone_int F (List.getD x_5.2.1 (Int.toNat x_10.2.1) [])) (fun x_13 => loopC (fun (x_14 : Int × List Int × List Int) => fun x_15 => brk (decide (x_14.1 < (↑(List.length x_12) : Int))) (chk (0 ≤ x_14.1 ∧ x_14.1 < (↑(List.length x_12) : Int)) (chk (0 ≤ x_14.1 ∧ x_14.1 < (↑(List.length x_14.2.1) : Int)) (chk (InR (List.getD x_14.2.1 (Int.toNat x_14.1) (0 : Int) - List.getD x_12 (Int.toNat x_14.1) (0 : Int))) (chk (0 ≤ x_14.1 ∧ x_14.1 < (↑(List.length x_14.2.1) : Int)) (chk (0 ≤ x_10.2.1 ∧ x_10.2.1 < (↑(List.length x_14.2.2) : Int)) (chk (InR (List.getD x_14.2.2 (Int.toNat x_10.2.1) (0 : Int) - List.getD x_12 (Int.toNat x_14.1) (0 : Int))) (chk (0 ≤ x_10.2.1 ∧ x_10.2.1 < (↑(List.length x_14.2.2) : Int)) (chk (InR (x_14.1 + 1)) (x_15 ((x_14.1 + 1, List.set x_14.2.1 (Int.toNat x_14.1) (List.getD x_14.2.1 (Int.toNat x_14.1) (0 : Int) - List.getD x_12 (Int.toNat x_14.1) (0 : Int)), List.set x_14.2.2 (Int.toNat x_10.2.1) (List.getD x_14.2.2 (Int.toNat x_10.2.1) (0 : Int) - List.getD x_12 (Int.toNat x_14.1) (0 : Int))))))))))))) (chk (List.length x_10.2.2.1 + [x_14.2.1].length ≤ (1000000000 : Nat)) (chk (List.length x_10.1 + [x_12].length ≤ (1000000000 : Nat)) (chk (InR (x_10.2.1 + 1)) (x_11 ((x_10.1 ++ [x_12], x_10.2.1 + 1, x_10.2.2.1 ++ [x_14.2.1], x_14.2.2))))))) (F) (((0 : Int), x_13, x_10.2.2.2))))))) (some ((State.mk x_10.2.2.2 x_10.2.2.1, x_10.1, (0 : Int))))) (F) (([], (0 : Int), [], x_9))))))))) (F) (((0 : Int), [], [])))) (fun x_4 => brk (x_3 == (0 : Int)) (bnd (slices_Clone_Lint F a2) (fun x_5 => chk (List.length x_5 + [a1].length ≤ (1000000000 : Nat)) (bnd (fees_amounts F (x_5 ++ [a1])) (fun x_6 => x_4 (x_6))))) (x_4 (x_3)))) (fun x_3 => bnd (brk (x_2 == (0 : Int)) (fees_within F a3 0 100) (some false)) (fun x_4 => brk (x_2 == (0 : Int) && !x_4) (x_3 ((6 : Int))) (x_3 (x_2))))) (fun x_2 => brk ((↑a1.length : Int) != (↑a0.Deposits.length : Int)) (x_2 ((1 : Int))) (x_2 (x_1)))))))
def s50 (F : Nat) : CS E.G := ⟨50, [.v 14 true, .sl 0, .sl 6, .v 0 false], [.v 14 true [3, 22], .sl 6 22, .v 0 false []], fun x => fees_Month F x.1 x.2.1 x.2.2.1 x.2.2.2.1⟩
theorem c50 (F : Nat) : CSok E [] (s50 F) := mkC (cx := ⟨[s59 F, s87 F, s82 F, s106 F, s92 F, s93 F, s94 F], [(88, Tryz.f88)], F, [], []⟩) hf50 (by kernel_rfl) rfl (allC (c59 F) (allC (c87 F) (allC (c82 F) (allC (c106 F) (allC (c92 F) (allC (c93 F) (allC (c94 F) all0))))))) ⟨(inlC hf88 en88 inl0), all0⟩ (.c .n (.k (.j ⟨[.i], [16, 32, 64, 128, 48], [2, 3, 4, 5, 1, 0], [(192, .i IntKind.i64)], [], [], [], 7⟩ .n (.j ⟨[.i], [16, 32, 64, 128, 48], [2, 3, 4, 5, 1, 0], [(192, .i IntKind.i64)], [], [], [], 7⟩ .n (.j ⟨[.i], [16, 32, 64, 128, 48], [2, 3, 4, 5, 1, 0], [(192, .i IntKind.i64)], [], [], [], 7⟩ .n (.c .n (.l ⟨[.i, .l 6, .l 0], [16, 32, 64, 128, 1024, 48, 1040, 208], [2, 3, 4, 5, 1, 7, 0], [(1056, .i IntKind.i64)], [], [(7, 1, .h 8 22 6), (7, 0, .h 9 3 0)], [], 10⟩ (.c (.l ⟨[.l 0, .i], [16, 32, 64, 128, 1024, 1056, 224, 1376, 48, 1040, 208, 1392], [2, 3, 4, 5, 1, 10, 7, 0, 8, 12], [(256, .h 13 3 0), (1408, .i IntKind.i64)], [], [], [], 14⟩ .n) (.c .n (.p (.l ⟨[.l 6, .i, .l 6, .l 0], [16, 32, 64, 288, 272], [9, 8, 13, 14, 16, 15], [(80, .h 17 22 6), (304, .i IntKind.i64)], [], [(16, 1, .h 18 22 6)], [(15, 3, 0)], 19⟩ (.c (.l ⟨[.i, .l 0, .l 0], [16, 32, 64, 128, 96, 288, 544, 80, 144, 272, 528, 304], [9, 8, 13, 14, 16, 20, 17, 21, 18, 15], [(560, .i IntKind.i64)], [], [], [(21, 3, 0), (15, 3, 0)], 22⟩ .n) .n)))))))))))) rfl (by kernel_rfl)
theorem hf57 : HF 57 Tryz.f57 := hK (by kernel_rfl)
def slices_Equal_api_Ratio (F : Nat) (a0 : List Ratio) (a1 : List Ratio) : Option (Bool) :=
 brk ((↑a0.length : Int) != (↑a1.length : Int)) (some (false)) (loopC (fun (x : Int) => fun x_1 => brk (decide (x < (↑a0.length : Int))) (chk (0 ≤ x ∧ x < (↑a0.length : Int)) (chk (0 ≤ x ∧ x < (↑a1.length : Int)) (brk (!((a0.getD (Int.toNat x) (Ratio.mk 0 0)).N == (a1.getD (Int.toNat x) (Ratio.mk 0 0)).N && ((a0.getD (Int.toNat x) (Ratio.mk 0 0)).D == (a1.getD (Int.toNat x) (Ratio.mk 0 0)).D && true))) (some (false)) (chk (InR (x + 1)) (x_1 (x + 1)))))) (some (true))) (F) ((0 : Int)))
def s57 (F : Nat) : CS E.G := ⟨57, [.sl 22, .sl 22], [.v 1 false []], fun x => slices_Equal_api_Ratio F x.1 x.2.1⟩
theorem c57 (F : Nat) : CSok E [] (s57 F) := mkC (cx := ⟨[], [], F, [], []⟩) hf57 (by kernel_rfl) rfl all0 ⟨inl0, all0⟩ (.c .n (.l ⟨[.i], [0, 16, 192], [0, 1], [(208, .i IntKind.i64)], [], [], [], 2⟩ (.c .n .n))) rfl (by kernel_rfl)
theorem hf58 : HF 58 Tryz.f58 := hK (by kernel_rfl)
def slices_Equal_int (F : Nat) (a0 : List Int) (a1 : List Int) : Option (Bool) :=
 brk ((↑a0.length : Int) != (↑a1.length : Int)) (some (false)) (loopC (fun (x : Int) => fun x_1 => brk (decide (x < (↑a0.length : Int))) (chk (0 ≤ x ∧ x < (↑a0.length : Int)) (chk (0 ≤ x ∧ x < (↑a1.length : Int)) (brk (a0.getD (Int.toNat x) 0 != a1.getD (Int.toNat x) 0) (some (false)) (chk (InR (x + 1)) (x_1 (x + 1)))))) (some (true))) (F) ((0 : Int)))
def s58 (F : Nat) : CS E.G := ⟨58, [.sl 0, .sl 0], [.v 1 false []], fun x => slices_Equal_int F x.1 x.2.1⟩
theorem c58 (F : Nat) : CSok E [] (s58 F) := mkC (cx := ⟨[], [], F, [], []⟩) hf58 (by kernel_rfl) rfl all0 ⟨inl0, all0⟩ (.c .n (.l ⟨[.i], [0, 16, 192], [0, 1], [(208, .i IntKind.i64)], [], [], [], 2⟩ (.c .n .n))) rfl (by kernel_rfl)
theorem hf13 : HF 13 Tryz.f13 := hK (by kernel_rfl)
def law12_awake (F : Nat) : Option (Bool) :=
 bnd (law12_Example F) (fun x => bnd (fees_Dues F x 3 5000) (fun x_1 => bnd (law12_Example F) (fun x_2 => bnd (fees_Bill F x_2 (Voyage.mk 0 3 5000 123 0 0 0) 3) (fun x_3 => bnd (fees_Exact F [(10 : Int), (10 : Int), (11 : Int)]) (fun x_4 => bnd (fees_Share F [(90 : Int), (30 : Int), (60 : Int)]) (fun x_5 => bnd (fees_Awards F [(30 : Int), (10 : Int), (50 : Int)] 61) (fun x_6 => bnd (fees_Month F (State.mk [(61 : Int)] [[(30 : Int), (10 : Int), (50 : Int)]]) [(9 : Int)] [[(0 : Int), (5 : Int), (0 : Int)]] 10) (fun x_7 => brk (x_1.2 != (0 : Int) || x_3.2 != (0 : Int) || x_4.2 != (0 : Int) || x_5.2 != (0 : Int) || x_6.2 != (0 : Int) || x_7.2.2 != (0 : Int) || x_1.1 != (128000 : Int) || !(x_3.1.Lines.a0 == (0 : Int) && (x_3.1.Lines.a1 == (431 : Int) && (x_3.1.Lines.a2 == (0 : Int) && (x_3.1.Lines.a3 == (0 : Int) && (x_3.1.Lines.a4 == (0 : Int) && true)))) && (x_3.1.Sum == (431 : Int) && true)) || (↑x_7.1.Owed.length : Int) != (1 : Int) || (↑(List.length x_7.2.1) : Int) != (1 : Int)) (some (false)) (bnd (slices_Equal_api_Ratio F x_4.1 [Ratio.mk (10 : Int) (3 : Int), Ratio.mk (10 : Int) (3 : Int), Ratio.mk (13 : Int) (3 : Int)]) (fun x_8 => brk (x_8) (bnd (slices_Equal_int F x_5.1 [(55 : Int), (10 : Int), (25 : Int)]) (fun x_9 => brk (x_9) (bnd (slices_Equal_int F x_6.1 [(26 : Int), (10 : Int), (25 : Int)]) (fun x_10 => brk (x_10) (bnd (slices_Equal_int F x_7.1.Deposits [(0 : Int)]) (fun x_11 => brk (x_11) (chk (0 ≤ (0 : Int) ∧ (0 : Int) < (↑x_7.1.Owed.length : Int)) (bnd (slices_Equal_int F (x_7.1.Owed.getD (Int.toNat (0 : Int)) []) [(6 : Int), (0 : Int), (28 : Int)]) (fun x_12 => brk (x_12) (chk (0 ≤ (0 : Int) ∧ (0 : Int) < (↑(List.length x_7.2.1) : Int)) (bnd (slices_Equal_int F (List.getD x_7.2.1 (Int.toNat (0 : Int)) []) [(27 : Int), (16 : Int), (27 : Int)]) (fun x_13 => some (x_13)))) (some (false))))) (some (false)))) (some (false)))) (some (false)))) (some (false))))))))))))
def s13 (F : Nat) : CS E.G := ⟨13, [], [.v 1 false []], fun x => law12_awake F⟩
theorem c13 (F : Nat) : CSok E [] (s13 F) := mkC (cx := ⟨[s4 F, s19 F, s23 F, s31 F, s34 F, s41 F, s50 F, s57 F, s58 F], [], F, [], []⟩) hf13 (by kernel_rfl) rfl (allC (c4 F) (allC (c19 F) (allC (c23 F) (allC (c31 F) (allC (c34 F) (allC (c41 F) (allC (c50 F) (allC (c57 F) (allC (c58 F) all0))))))))) ⟨inl0, all0⟩ (.c .n (.s (.s (.s (.s (.s .n .n) .n) .n) .n) .n)) rfl (by kernel_rfl)
theorem hf14 : HF 14 Tryz.f14 := hK (by kernel_rfl)
def law12_Tariff (F : Nat) (a0 : Tariff) : Option (Tariff2) :=
 loopC (fun (x : Int × List Band) => fun x_1 => brk (decide (x.1 < (↑a0.Bands.length : Int))) (chk (0 ≤ x.1 ∧ x.1 < (↑a0.Bands.length : Int)) (chk (List.length x.2 + [a0.Bands.getD (Int.toNat x.1) (Band.mk 0 0)].length ≤ (1000000000 : Nat)) (chk (InR (x.1 + 1)) (x_1 ((x.1 + 1, x.2 ++ [a0.Bands.getD (Int.toNat x.1) (Band.mk 0 0)])))))) (some (Tariff2.mk x.2 a0.Class a0.Least a0.Most a0.Paid a0.Mile a0.Escort a0.Cut a0.Tow))) (F) (((0 : Int), []))
def s14 (F : Nat) : CS E.G := ⟨14, [.v 10 true], [.v 19 true [111]], fun x => law12_Tariff F x.1⟩
theorem c14 (F : Nat) : CSok E [] (s14 F) := mkC (cx := ⟨[], [], F, [], []⟩) hf14 (by kernel_rfl) rfl all0 ⟨inl0, all0⟩ (.l ⟨[.i, .l 7], [32, 384, 48, 400], [2, 0, 3], [(416, .i IntKind.i64)], [], [(3, 0, .h 4 111 7)], [], 5⟩ .n) rfl (by kernel_rfl)
theorem hf15 : HF 15 Tryz.f15 := hK (by kernel_rfl)
theorem en15 : Proofs.Enters Tryz.prog 15 := mkE hf15 (by kernel_rfl) rfl
def slices_Clone_fees_Band (F : Nat) (a0 : List Band) : Option ((List Band)) :=
 chk ((0 : Nat) + a0.length ≤ (1000000000 : Nat)) (some ([] ++ a0))
def s15 (F : Nat) : CS E.G := ⟨15, [.sl 7], [.sl 7 32], fun x => slices_Clone_fees_Band F x.1⟩
def cx15 (F : Nat) : Ctx E := ⟨[], [], F, [], []⟩
def h15 : Hint := .n
theorem e15n (F : Nat) (c : Nat) : fnK (E := E) (cx15 F) Tryz.f15 [] [.nl] [.sl 7 32] .n (c, ()) = some ([]) := by kernel_rfl
theorem e15s (F : Nat) (a0 : List Band) : fnK (E := E) (cx15 F) Tryz.f15 [] [.sn 7] [.sl 7 32] h15 (a0, ()) = slices_Clone_fees_Band F a0 := by kernel_rfl
theorem c15 (F : Nat) : CSok E [] (s15 F) := ⟨en15, by
 have h0 := fn_sound (E := E) (gl := []) (cx := cx15 F) mix all0 ⟨inl0, all0⟩ keys0 rfl (fun _ h => nomatch h) hf15 (ps := [.nl]) (rs := [.sl 7 32]) (by decide) .n
 have h1 := fn_sound (E := E) (gl := []) (cx := cx15 F) mix all0 ⟨inl0, all0⟩ keys0 rfl (fun _ h => nomatch h) hf15 (ps := [.sn 7]) (rs := [.sl 7 32]) (by decide) h15
 rw [show fnK (E := E) (cx15 F) Tryz.f15 [] [.nl] [.sl 7 32] .n = (fun x : AT E.G.car [.nl] => some ([])) from funext fun x => e15n F x.1] at h0
 rw [show fnK (E := E) (cx15 F) Tryz.f15 [] [.sn 7] [.sl 7 32] h15 = (fun x : AT E.G.car [.sn 7] => slices_Clone_fees_Band F x.1) from funext fun x => e15s F x.1] at h1
 exact contract_nil (E := E) (t := 7) (rs := [.sl 7 32]) (f := slices_Clone_fees_Band F) (f0 := fun _ => some ([])) (f1 := slices_Clone_fees_Band F) h0 h1 (fun _ _ h => (show slices_Clone_fees_Band F [] = some [] by kernel_rfl).symm.trans h) (fun _ _ h => h)⟩
theorem hf16 : HF 16 Tryz.f16 := hK (by kernel_rfl)
theorem en16 : Proofs.Enters Tryz.prog 16 := mkE hf16 (by kernel_rfl) rfl
def slices_Clone_fees_Voyage (F : Nat) (a0 : List Voyage) : Option ((List Voyage)) :=
 chk ((0 : Nat) + a0.length ≤ (1000000000 : Nat)) (some ([] ++ a0))
def s16 (F : Nat) : CS E.G := ⟨16, [.sl 11], [.sl 11 29], fun x => slices_Clone_fees_Voyage F x.1⟩
def cx16 (F : Nat) : Ctx E := ⟨[], [], F, [], []⟩
def h16 : Hint := .n
theorem e16n (F : Nat) (c : Nat) : fnK (E := E) (cx16 F) Tryz.f16 [] [.nl] [.sl 11 29] .n (c, ()) = some ([]) := by kernel_rfl
theorem e16s (F : Nat) (a0 : List Voyage) : fnK (E := E) (cx16 F) Tryz.f16 [] [.sn 11] [.sl 11 29] h16 (a0, ()) = slices_Clone_fees_Voyage F a0 := by kernel_rfl
theorem c16 (F : Nat) : CSok E [] (s16 F) := ⟨en16, by
 have h0 := fn_sound (E := E) (gl := []) (cx := cx16 F) mix all0 ⟨inl0, all0⟩ keys0 rfl (fun _ h => nomatch h) hf16 (ps := [.nl]) (rs := [.sl 11 29]) (by decide) .n
 have h1 := fn_sound (E := E) (gl := []) (cx := cx16 F) mix all0 ⟨inl0, all0⟩ keys0 rfl (fun _ h => nomatch h) hf16 (ps := [.sn 11]) (rs := [.sl 11 29]) (by decide) h16
 rw [show fnK (E := E) (cx16 F) Tryz.f16 [] [.nl] [.sl 11 29] .n = (fun x : AT E.G.car [.nl] => some ([])) from funext fun x => e16n F x.1] at h0
 rw [show fnK (E := E) (cx16 F) Tryz.f16 [] [.sn 11] [.sl 11 29] h16 = (fun x : AT E.G.car [.sn 11] => slices_Clone_fees_Voyage F x.1) from funext fun x => e16s F x.1] at h1
 exact contract_nil (E := E) (t := 11) (rs := [.sl 11 29]) (f := slices_Clone_fees_Voyage F) (f0 := fun _ => some ([])) (f1 := slices_Clone_fees_Voyage F) h0 h1 (fun _ _ h => (show slices_Clone_fees_Voyage F [] = some [] by kernel_rfl).symm.trans h) (fun _ _ h => h)⟩
theorem hf62 : HF 62 Tryz.f62 := hK (by kernel_rfl)
def ref12_in (F : Nat) (a0 : Int) (a1 : Int) (a2 : Int) : Option (Bool) :=
 some (decide (a0 ≥ a1) && decide (a0 ≤ a2))
def s62 (F : Nat) : CS E.G := ⟨62, [.v 0 false, .v 0 false, .v 0 false], [.v 1 false []], fun x => ref12_in F x.1 x.2.1 x.2.2.1⟩
theorem c62 (F : Nat) : CSok E [] (s62 F) := mkC (cx := ⟨[], [], F, [], []⟩) hf62 (by kernel_rfl) rfl all0 ⟨inl0, all0⟩ .n rfl (by kernel_rfl)
theorem hf18 : HF 18 Tryz.f18 := hK (by kernel_rfl)
def ref12_Check (F : Nat) (a0 : Tariff2) : Option (Int) :=
 brk (decide ((↑a0.Bands.length : Int) < (1 : Int)) || decide ((↑a0.Bands.length : Int) > (8 : Int))) (some ((2 : Int))) (loopC (fun (x : Int) => fun x_1 => brk (decide (x < (↑a0.Bands.length : Int))) (chk (0 ≤ x ∧ x < (↑a0.Bands.length : Int)) (bnd (ref12_in F (a0.Bands.getD (Int.toNat x) (Band.mk 0 0)).Upto 1 500000) (fun x_2 => bnd (brk (!!x_2) (ref12_in F (a0.Bands.getD (Int.toNat x) (Band.mk 0 0)).Rate 0 1000) (some false)) (fun x_3 => chk ((!(!x_2 || !x_3) && decide (x > (0 : Int))) = true → InR (x - 1)) (chk ((!(!x_2 || !x_3) && decide (x > (0 : Int))) = true → 0 ≤ x - 1 ∧ x - 1 < (↑a0.Bands.length : Int)) (brk (!x_2 || !x_3 || decide (x > (0 : Int)) && decide ((a0.Bands.getD (Int.toNat x) (Band.mk 0 0)).Upto ≤ (a0.Bands.getD (x - 1).toNat (Band.mk 0 0)).Upto)) (some ((130 : Int))) (chk (InR (x + 1)) (x_1 (x + 1))))))))) (chk (InR ((↑a0.Bands.length : Int) - (1 : Int))) (chk (0 ≤ (↑a0.Bands.length : Int) - (1 : Int) ∧ (↑a0.Bands.length : Int) - (1 : Int) < (↑a0.Bands.length : Int)) (brk ((a0.Bands.getD ((↑a0.Bands.length : Int) - (1 : Int)).toNat (Band.mk 0 0)).Upto != (500000 : Int)) (some ((130 : Int))) (loopC (fun (x_2 : Int) => fun x_3 => brk (decide (x_2 < 7)) (chk (0 ≤ x_2 ∧ x_2 < (↑(7 : Nat) : Int)) (bnd (ref12_in F ([a0.Class.a0, a0.Class.a1, a0.Class.a2, a0.Class.a3, a0.Class.a4, a0.Class.a5, a0.Class.a6].getD (Int.toNat x_2) 0) 0 300) (fun x_4 => chk ((!!x_4 && decide (x_2 > (0 : Int))) = true → 0 ≤ x_2 ∧ x_2 < (↑(7 : Nat) : Int)) (chk ((!!x_4 && decide (x_2 > (0 : Int))) = true → InR (x_2 - 1)) (chk ((!!x_4 && decide (x_2 > (0 : Int))) = true → 0 ≤ x_2 - 1 ∧ x_2 - 1 < (↑(7 : Nat) : Int)) (brk (!x_4 || decide (x_2 > (0 : Int)) && decide ([a0.Class.a0, a0.Class.a1, a0.Class.a2, a0.Class.a3, a0.Class.a4, a0.Class.a5, a0.Class.a6].getD (Int.toNat x_2) 0 > [a0.Class.a0, a0.Class.a1, a0.Class.a2, a0.Class.a3, a0.Class.a4, a0.Class.a5, a0.Class.a6].getD (x_2 - 1).toNat (0 : Int))) (some ((130 : Int))) (chk (InR (x_2 + 1)) (x_3 (x_2 + 1))))))))) (bnd (ref12_in F a0.Least 0 1000000000) (fun x_4 => bnd (brk (!!x_4) (ref12_in F a0.Most 0 1000000000) (some false)) (fun x_5 => bnd (brk (!(!x_4 || !x_5 || decide (a0.Least > a0.Most))) (ref12_in F a0.Paid 1 1000) (some false)) (fun x_6 => brk (!x_4 || !x_5 || decide (a0.Least > a0.Most) || !x_6) (some ((130 : Int))) (bnd (ref12_in F a0.Mile 0 100000) (fun x_7 => bnd (brk (!!x_7) (ref12_in F a0.Escort 0 1000000) (some false)) (fun x_8 => bnd (brk (!(!x_7 || !x_8)) (ref12_in F a0.Cut 0 1000000) (some false)) (fun x_9 => bnd (brk (!(!x_7 || !x_8 || !x_9)) (ref12_in F a0.Tow 0 1000000) (some false)) (fun x_10 => brk (!x_7 || !x_8 || !x_9 || !x_10) (some ((130 : Int))) (some ((0 : Int))))))))))))) (F) ((0 : Int))))))) (F) ((0 : Int)))
def s18 (F : Nat) : CS E.G := ⟨18, [.v 19 true], [.v 0 false []], fun x => ref12_Check F x.1⟩
theorem c18 (F : Nat) : CSok E [] (s18 F) := mkC (cx := ⟨[s62 F], [], F, [], []⟩) hf18 (by kernel_rfl) rfl (allC (c62 F) all0) ⟨inl0, all0⟩ (.c .n (.l ⟨[.i], [16], [1, 0], [(48, .i IntKind.i64)], [], [], [], 2⟩ (.c .n (.c .n (.l ⟨[.i], [16], [1, 0], [(80, .i IntKind.i64)], [], [], [], 2⟩ (.c .n (.c .n .n))))))) rfl (by kernel_rfl)
theorem hf64 : HF 64 Tryz.f64 := hK (by kernel_rfl)
def ref12_dues (F : Nat) (a0 : Tariff2) (a1 : Int) (a2 : Int) : Option (Int) :=
 loopC (fun (x : Int × Int × Int) => fun x_1 => brk (decide (x.2.1 < (↑a0.Bands.length : Int))) (chk (0 ≤ x.2.1 ∧ x.2.1 < (↑a0.Bands.length : Int)) (join (F) (fun (x_2 : Int) => join (F) (fun (x_3 : Int) => chk (0 ≤ x.2.1 ∧ x.2.1 < (↑a0.Bands.length : Int)) (chk (InR (x.2.1 + 1)) (x_1 (((a0.Bands.getD (Int.toNat x.2.1) (Band.mk 0 0)).Upto, x.2.1 + 1, x_3))))) (fun x_3 => brk (decide (x_2 > x.1)) (chk (InR (x_2 - x.1)) (chk (0 ≤ x.2.1 ∧ x.2.1 < (↑a0.Bands.length : Int)) (chk (InR ((x_2 - x.1) * (a0.Bands.getD (Int.toNat x.2.1) (Band.mk 0 0)).Rate)) (chk (InR (x.2.2 + (x_2 - x.1) * (a0.Bands.getD (Int.toNat x.2.1) (Band.mk 0 0)).Rate)) (x_3 (x.2.2 + (x_2 - x.1) * (a0.Bands.getD (Int.toNat x.2.1) (Band.mk 0 0)).Rate)))))) (x_3 (x.2.2)))) (fun x_2 => brk (decide (a2 < (a0.Bands.getD (Int.toNat x.2.1) (Band.mk 0 0)).Upto)) (x_2 (a2)) (x_2 ((a0.Bands.getD (Int.toNat x.2.1) (Band.mk 0 0)).Upto))))) (chk (0 ≤ a1 ∧ a1 < (↑(7 : Nat) : Int)) (chk (InR (x.2.2 * [a0.Class.a0, a0.Class.a1, a0.Class.a2, a0.Class.a3, a0.Class.a4, a0.Class.a5, a0.Class.a6].getD a1.toNat 0)) (chk (0 ≤ x.2.2 * [a0.Class.a0, a0.Class.a1, a0.Class.a2, a0.Class.a3, a0.Class.a4, a0.Class.a5, a0.Class.a6].getD a1.toNat 0 ∧ x.2.2 * [a0.Class.a0, a0.Class.a1, a0.Class.a2, a0.Class.a3, a0.Class.a4, a0.Class.a5, a0.Class.a6].getD a1.toNat 0 ≤ (9223372036854775807 : Int)) (join (F) (fun (x_2 : Int) => join (F) (fun (x_3 : Int) => join (F) (fun (x_4 : Int) => some (x_4)) (fun x_4 => brk (decide (x_3 > a0.Most)) (x_4 (a0.Most)) (x_4 (x_3)))) (fun x_3 => brk (decide (x_2 < a0.Least)) (x_3 (a0.Least)) (x_3 (x_2)))) (fun x_2 => chk (0 ≤ x.2.2 * [a0.Class.a0, a0.Class.a1, a0.Class.a2, a0.Class.a3, a0.Class.a4, a0.Class.a5, a0.Class.a6].getD a1.toNat 0 ∧ x.2.2 * [a0.Class.a0, a0.Class.a1, a0.Class.a2, a0.Class.a3, a0.Class.a4, a0.Class.a5, a0.Class.a6].getD a1.toNat 0 ≤ (9223372036854775807 : Int)) (brk (decide (x.2.2 * [a0.Class.a0, a0.Class.a1, a0.Class.a2, a0.Class.a3, a0.Class.a4, a0.Class.a5, a0.Class.a6].getD a1.toNat 0 % (100 : Int) ≥ (50 : Int))) (chk (InR (x.2.2 * [a0.Class.a0, a0.Class.a1, a0.Class.a2, a0.Class.a3, a0.Class.a4, a0.Class.a5, a0.Class.a6].getD a1.toNat 0 / (100 : Int) + (1 : Int))) (x_2 (x.2.2 * [a0.Class.a0, a0.Class.a1, a0.Class.a2, a0.Class.a3, a0.Class.a4, a0.Class.a5, a0.Class.a6].getD a1.toNat 0 / (100 : Int) + (1 : Int)))) (x_2 (x.2.2 * [a0.Class.a0, a0.Class.a1, a0.Class.a2, a0.Class.a3, a0.Class.a4, a0.Class.a5, a0.Class.a6].getD a1.toNat 0 / (100 : Int)))))))))) (F) (((0 : Int), (0 : Int), (0 : Int)))
def s64 (F : Nat) : CS E.G := ⟨64, [.v 19 true, .v 0 false, .v 0 false], [.v 0 false []], fun x => ref12_dues F x.1 x.2.1 x.2.2.1⟩
theorem c64 (F : Nat) : CSok E [] (s64 F) := mkC (cx := ⟨[], [], F, [], []⟩) hf64 (by kernel_rfl) rfl all0 ⟨inl0, all0⟩ (.l ⟨[.i, .i, .i], [16, 32, 48], [1, 0], [(128, .i IntKind.i64), (144, .i IntKind.i64), (112, .i IntKind.i64)], [], [], [], 2⟩ (.c (.k (.k (.j ⟨[.i], [16, 32, 128, 48, 144, 112], [1, 0], [(160, .i IntKind.i64)], [], [], [], 2⟩ .n (.j ⟨[.i], [16, 32, 48, 144], [1, 0], [(112, .i IntKind.i64)], [], [], [], 2⟩ .n .n)))) (.k (.k (.j ⟨[.i], [48], [1, 0], [(176, .i IntKind.i64)], [], [], [], 2⟩ .n (.j ⟨[.i], [48], [1, 0], [(176, .i IntKind.i64)], [], [], [], 2⟩ .n (.j ⟨[.i], [], [], [(176, .i IntKind.i64)], [], [], [], 2⟩ .n .n))))))) rfl (by kernel_rfl)
theorem hf20 : HF 20 Tryz.f20 := hK (by kernel_rfl)
def ref12_Dues (F : Nat) (a0 : Tariff2) (a1 : Int) (a2 : Int) : Option (Int × Int) :=
 bnd (ref12_Check F a0) (fun x => brk (x != (0 : Int)) (some (((0 : Int), x))) (bnd (ref12_in F a1 0 6) (fun x_1 => bnd (brk (!!x_1) (ref12_in F a2 1 500000) (some false)) (fun x_2 => brk (!x_1 || !x_2) (some (((0 : Int), (1 : Int)))) (bnd (ref12_dues F a0 a1 a2) (fun x_3 => some ((x_3, (0 : Int)))))))))
def s20 (F : Nat) : CS E.G := ⟨20, [.v 19 true, .v 0 false, .v 0 false], [.v 0 false [], .v 0 false []], fun x => ref12_Dues F x.1 x.2.1 x.2.2.1⟩
theorem c20 (F : Nat) : CSok E [] (s20 F) := mkC (cx := ⟨[s18 F, s62 F, s64 F], [], F, [], []⟩) hf20 (by kernel_rfl) rfl (allC (c18 F) (allC (c62 F) (allC (c64 F) all0))) ⟨inl0, all0⟩ (.c .n .n) rfl (by kernel_rfl)
theorem hf66 : HF 66 Tryz.f66 := hK (by kernel_rfl)
theorem en66 : Proofs.Enters Tryz.prog 66 := mkE hf66 (by kernel_rfl) rfl
theorem hf21 : HF 21 Tryz.f21 := hK (by kernel_rfl)
def fees_Largest (F : Nat) (a0 : Tariff) (a1 : Int) (a2 : Int) : Option (Int × Int) :=
 bnd (fees_Check F a0) (fun x => brk (x != (0 : Int)) (some (((0 : Int), x))) (bnd (fees_within F a1 0 6) (fun x_1 => brk (!x_1) (some (((0 : Int), (1 : Int)))) (loopC (fun (x_2 : Int × Int) => fun x_3 => brk (decide (x_2.2 < x_2.1)) (chk (InR (x_2.1 - x_2.2)) (chk (InR (x_2.1 - x_2.2 + 1)) (chk (0 ≤ x_2.1 - x_2.2 + 1 ∧ x_2.1 - x_2.2 + 1 ≤ (9223372036854775807 : Int)) (chk (InR (x_2.2 + (x_2.1 - x_2.2 + 1) / (2 : Int))) (bnd (fees_Tariff_dues F a0 a1 (x_2.2 + (x_2.1 - x_2.2 + 1) / (2 : Int))) (fun x_4 => brk (decide (x_4 ≤ a2)) (x_3 ((x_2.1, x_2.2 + (x_2.1 - x_2.2 + 1) / (2 : Int)))) (chk (InR (x_2.2 + (x_2.1 - x_2.2 + 1) / (2 : Int) - (1 : Int))) (x_3 ((x_2.2 + (x_2.1 - x_2.2 + 1) / (2 : Int) - (1 : Int), x_2.2)))))))))) (brk (decide (x_2.2 < 1)) (some (((0 : Int), (4 : Int)))) (some ((x_2.2, (0 : Int)))))) (F) (((500000 : Int), IntKind.i64.wrap ((1 : Int) - (1 : Int))))))))
def s21 (F : Nat) : CS E.G := ⟨21, [.v 10 true, .v 0 false, .v 0 false], [.v 0 false [], .v 0 false []], fun x => fees_Largest F x.1 x.2.1 x.2.2.1⟩
theorem c21 (F : Nat) : CSok E [] (s21 F) := mkC (cx := ⟨[s17 F, s59 F, s63 F], [(65, Tryz.f65), (66, Tryz.f66)], F, [], []⟩) hf21 (by kernel_rfl) rfl (allC (c17 F) (allC (c59 F) (allC (c63 F) all0))) ⟨(inlC hf65 en65 (inlC hf66 en66 inl0)), all0⟩ (.c .n (.c .n (.p (.l ⟨[.i, .i], [32], [0, 1, 3, 2], [(16, .i IntKind.i64), (112, .i IntKind.i64)], [], [], [], 4⟩ (.c (.p .n) .n))))) rfl (by kernel_rfl)
theorem hf22 : HF 22 Tryz.f22 := hK (by kernel_rfl)
def ref12_Largest (F : Nat) (a0 : Tariff2) (a1 : Int) (a2 : Int) : Option (Int × Int) :=
 bnd (ref12_Check F a0) (fun x => brk (x != (0 : Int)) (some (((0 : Int), x))) (bnd (ref12_in F a1 0 6) (fun x_1 => brk (!x_1) (some (((0 : Int), (1 : Int)))) (loopC (fun (x_2 : Int) => fun x_3 => chk (decide (x_2 > (1000 : Int)) = true → InR (x_2 - 1000)) (bnd (brk (decide (x_2 > (1000 : Int))) (ref12_dues F a0 a1 (x_2 - 1000)) (some (0 : Int))) (fun x_4 => brk (decide (x_2 > (1000 : Int)) && decide (x_4 > a2)) (chk (InR (x_2 - 1000)) (x_3 (x_2 - 1000))) (loopC (fun (x_5 : Int) => fun x_6 => bnd (brk (decide (x_5 > (0 : Int))) (ref12_dues F a0 a1 x_5) (some (0 : Int))) (fun x_7 => brk (decide (x_5 > (0 : Int)) && decide (x_7 > a2)) (chk (InR (x_5 - 1)) (x_6 (x_5 - 1))) (brk (x_5 == (0 : Int)) (some (((0 : Int), (4 : Int)))) (some ((x_5, (0 : Int))))))) (F) (x_2))))) (F) ((500000 : Int))))))
def s22 (F : Nat) : CS E.G := ⟨22, [.v 19 true, .v 0 false, .v 0 false], [.v 0 false [], .v 0 false []], fun x => ref12_Largest F x.1 x.2.1 x.2.2.1⟩
theorem c22 (F : Nat) : CSok E [] (s22 F) := mkC (cx := ⟨[s18 F, s62 F, s64 F], [], F, [], []⟩) hf22 (by kernel_rfl) rfl (allC (c18 F) (allC (c62 F) (allC (c64 F) all0))) ⟨inl0, all0⟩ (.c .n (.c .n (.l ⟨[.i], [16, 32, 48], [1, 0], [(144, .i IntKind.i64)], [], [], [], 2⟩ (.c .n (.l ⟨[.i], [16, 32, 48], [1, 0], [(144, .i IntKind.i64)], [], [], [], 2⟩ (.c .n .n)))))) rfl (by kernel_rfl)
theorem hf67 : HF 67 Tryz.f67 := hK (by kernel_rfl)
def ref12_right (F : Nat) (a0 : Voyage) : Option (Bool) :=
 bnd (ref12_in F a0.Ship 0 1000000) (fun x => bnd (brk x (ref12_in F a0.Class 0 6) (some false)) (fun x_1 => bnd (brk (x && x_1) (ref12_in F a0.Tonnes 1 500000) (some false)) (fun x_2 => bnd (brk (x && x_1 && x_2) (ref12_in F a0.Tenths 0 100000) (some false)) (fun x_3 => bnd (brk (x && x_1 && x_2 && x_3) (ref12_in F a0.Escort 0 1000) (some false)) (fun x_4 => bnd (brk (x && x_1 && x_2 && x_3 && x_4) (ref12_in F a0.Cut 0 1000) (some false)) (fun x_5 => bnd (brk (x && x_1 && x_2 && x_3 && x_4 && x_5) (ref12_in F a0.Tow 0 1000) (some false)) (fun x_6 => some (x && x_1 && x_2 && x_3 && x_4 && x_5 && x_6))))))))
def s67 (F : Nat) : CS E.G := ⟨67, [.v 11 true], [.v 1 false []], fun x => ref12_right F x.1⟩
theorem c67 (F : Nat) : CSok E [] (s67 F) := mkC (cx := ⟨[s62 F], [], F, [], []⟩) hf67 (by kernel_rfl) rfl (allC (c62 F) all0) ⟨inl0, all0⟩ .n rfl (by kernel_rfl)
theorem hf68 : HF 68 Tryz.f68 := hK (by kernel_rfl)
def ref12_bill (F : Nat) (a0 : Tariff2) (a1 : Voyage) (a2 : Int) : Option (Account) :=
 join (F) (fun (x : Int) => chk (0 ≤ a1.Tonnes ∧ a1.Tonnes ≤ 9223372036854775807) (join (F) (fun (x_1 : Int) => chk (InR (a0.Mile * a1.Tenths)) (chk (InR (a0.Mile * a1.Tenths * x_1)) (chk (0 ≤ a0.Mile * a1.Tenths * x_1 ∧ a0.Mile * a1.Tenths * x_1 ≤ 9223372036854775807) (join (F) (fun (x_2 : Int) => chk (InR (a0.Escort * a1.Escort)) (chk (InR (a0.Cut * a1.Cut)) (chk (InR (a0.Tow * a1.Tow)) (loopC (fun (x_3 : Int × Int) => fun x_4 => brk (decide (x_3.1 < 5)) (chk (0 ≤ x_3.1 ∧ x_3.1 < (↑(5 : Nat) : Int)) (chk (InR (x_3.2 + [x, x_2, a0.Escort * a1.Escort, a0.Cut * a1.Cut, a0.Tow * a1.Tow].getD (Int.toNat x_3.1) 0)) (chk (InR (x_3.1 + 1)) (x_4 ((x_3.1 + 1, x_3.2 + [x, x_2, a0.Escort * a1.Escort, a0.Cut * a1.Cut, a0.Tow * a1.Tow].getD (Int.toNat x_3.1) 0)))))) (some (Account.mk (A5ofInt.mk x x_2 (a0.Escort * a1.Escort) (a0.Cut * a1.Cut) (a0.Tow * a1.Tow)) x_3.2))) (F) (((0 : Int), (0 : Int))))))) (fun x_2 => chk (0 ≤ a0.Mile * a1.Tenths * x_1 ∧ a0.Mile * a1.Tenths * x_1 ≤ 9223372036854775807) (brk (decide (a0.Mile * a1.Tenths * x_1 % (10 : Int) > (0 : Int))) (chk (InR (a0.Mile * a1.Tenths * x_1 / (10 : Int) + (1 : Int))) (x_2 (a0.Mile * a1.Tenths * x_1 / (10 : Int) + (1 : Int)))) (x_2 (a0.Mile * a1.Tenths * x_1 / (10 : Int))))))))) (fun x_1 => chk (0 ≤ a1.Tonnes ∧ a1.Tonnes ≤ 9223372036854775807) (brk (decide (a1.Tonnes % (1000 : Int) > (0 : Int))) (chk (InR (a1.Tonnes / (1000 : Int) + (1 : Int))) (x_1 (a1.Tonnes / (1000 : Int) + (1 : Int)))) (x_1 (a1.Tonnes / (1000 : Int))))))) (fun x => brk (decide (a2 < a0.Paid)) (bnd (ref12_dues F a0 a1.Class a1.Tonnes) (fun x_1 => x (x_1))) (x ((0 : Int))))
def s68 (F : Nat) : CS E.G := ⟨68, [.v 19 true, .v 11 true, .v 0 false], [.v 16 true []], fun x => ref12_bill F x.1 x.2.1 x.2.2.1⟩
theorem c68 (F : Nat) : CSok E [] (s68 F) := mkC (cx := ⟨[s64 F], [], F, [], []⟩) hf68 (by kernel_rfl) rfl (allC (c64 F) all0) ⟨inl0, all0⟩ (.k (.k (.j ⟨[.i], [64, 96, 48, 112], [2, 3, 1, 4, 0], [], [], [(4, 0, .i IntKind.i64)], [], 5⟩ .n (.k (.j ⟨[.i], [64, 96, 48, 112], [2, 3, 1, 4, 0], [(128, .i IntKind.i64)], [], [], [], 5⟩ .n (.k (.k (.j ⟨[.i], [64, 96, 48, 112], [2, 3, 1, 4, 0], [], [], [(4, 1, .i IntKind.i64)], [], 5⟩ .n (.l ⟨[.i, .i], [96, 112], [3, 4], [(160, .i IntKind.i64)], [], [(4, 5, .i IntKind.i64)], [], 5⟩ .n))))))))) rfl (by kernel_rfl)
theorem hf24 : HF 24 Tryz.f24 := hK (by kernel_rfl)
def ref12_Bill (F : Nat) (a0 : Tariff2) (a1 : Voyage) (a2 : Int) : Option (Account × Int) :=
 bnd (ref12_Check F a0) (fun x => brk (x != (0 : Int)) (some ((Account.mk (A5ofInt.mk 0 0 0 0 0) (0 : Int), x))) (bnd (ref12_right F a1) (fun x_1 => brk (!x_1) (some ((Account.mk (A5ofInt.mk 0 0 0 0 0) (0 : Int), (1 : Int)))) (brk (decide (a2 < 0)) (some ((Account.mk (A5ofInt.mk 0 0 0 0 0) (0 : Int), (6 : Int)))) (bnd (ref12_bill F a0 a1 a2) (fun x_2 => some ((x_2, (0 : Int)))))))))
def s24 (F : Nat) : CS E.G := ⟨24, [.v 19 true, .v 11 true, .v 0 false], [.v 16 true [], .v 0 false []], fun x => ref12_Bill F x.1 x.2.1 x.2.2.1⟩
theorem c24 (F : Nat) : CSok E [] (s24 F) := mkC (cx := ⟨[s18 F, s67 F, s68 F], [], F, [], []⟩) hf24 (by kernel_rfl) rfl (allC (c18 F) (allC (c67 F) (allC (c68 F) all0))) ⟨inl0, all0⟩ (.c .n (.c .n .n)) rfl (by kernel_rfl)
theorem hf25 : HF 25 Tryz.f25 := hK (by kernel_rfl)
def ref12_Season (F : Nat) (a0 : Tariff2) (a1 : List Voyage) : Option ((List Account) × Int × Int) :=
 bnd (ref12_Check F a0) (fun x => brk (x != (0 : Int)) (some (([], (0 : Int), x))) (brk (decide ((↑a1.length : Int) > (500 : Int))) (some (([], (0 : Int), (2 : Int)))) (loopC (fun (x_1 : List Account × Int × Int) => fun x_2 => brk (decide (x_1.2.1 < (↑a1.length : Int))) (chk (0 ≤ x_1.2.1 ∧ x_1.2.1 < (↑a1.length : Int)) (bnd (ref12_right F (a1.getD (Int.toNat x_1.2.1) (Voyage.mk 0 0 0 0 0 0 0))) (fun x_3 => brk (!x_3) (some (([], (0 : Int), (1 : Int)))) (loopC (fun (x_4 : Int × Int) => fun x_5 => brk (decide (x_4.1 < x_1.2.1)) (join (F) (fun (x_6 : Int) => chk (InR (x_4.1 + 1)) (x_5 ((x_4.1 + 1, x_6)))) (fun x_6 => chk (0 ≤ x_4.1 ∧ x_4.1 < (↑a1.length : Int)) (chk (0 ≤ x_1.2.1 ∧ x_1.2.1 < (↑a1.length : Int)) (brk ((a1.getD (Int.toNat x_4.1) (Voyage.mk 0 0 0 0 0 0 0)).Ship == (a1.getD (Int.toNat x_1.2.1) (Voyage.mk 0 0 0 0 0 0 0)).Ship) (chk (InR (x_4.2 + 1)) (x_6 (x_4.2 + 1))) (x_6 (x_4.2)))))) (chk (0 ≤ x_1.2.1 ∧ x_1.2.1 < (↑a1.length : Int)) (bnd (ref12_bill F a0 (a1.getD (Int.toNat x_1.2.1) (Voyage.mk 0 0 0 0 0 0 0)) x_4.2) (fun x_6 => chk (List.length x_1.1 + [x_6].length ≤ (1000000000 : Nat)) (chk (InR (x_1.2.2 + x_6.Sum)) (chk (InR (x_1.2.1 + 1)) (x_2 ((x_1.1 ++ [x_6], x_1.2.1 + 1, x_1.2.2 + x_6.Sum))))))))) (F) (((0 : Int), (0 : Int))))))) (some ((x_1.1, x_1.2.2, (0 : Int))))) (F) (([], (0 : Int), (0 : Int))))))
def s25 (F : Nat) : CS E.G := ⟨25, [.v 19 true, .sl 11], [.sl 16 66, .v 0 false [], .v 0 false []], fun x => ref12_Season F x.1 x.2.1⟩
theorem c25 (F : Nat) : CSok E [] (s25 F) := mkC (cx := ⟨[s18 F, s67 F, s68 F], [], F, [], []⟩) hf25 (by kernel_rfl) rfl (allC (c18 F) (allC (c67 F) (allC (c68 F) all0))) ⟨inl0, all0⟩ (.c .n (.c .n (.l ⟨[.l 16, .i, .i], [16, 32], [1, 2, 0], [(128, .h 3 66 16), (160, .i IntKind.i64), (144, .i IntKind.i64)], [], [], [], 4⟩ (.c (.c .n (.l ⟨[.i, .i], [16, 32, 128, 160, 144], [1, 2, 3, 0], [(192, .i IntKind.i64), (176, .i IntKind.i64)], [], [], [], 4⟩ (.c (.j ⟨[.i], [16, 32, 128, 192, 160, 144], [1, 2, 3, 0], [(176, .i IntKind.i64)], [], [], [], 4⟩ .n .n) .n))) .n)))) rfl (by kernel_rfl)
theorem hf26 : HF 26 Tryz.f26 := hK (by kernel_rfl)
theorem en26 : Proofs.Enters Tryz.prog 26 := mkE hf26 (by kernel_rfl) rfl
theorem hf27 : HF 27 Tryz.f27 := hK (by kernel_rfl)
def law12_FeesBills_1 (F : Nat) (a0 : Account) (a1 : Account) : Option (Bool) :=
 some (a0.Lines.a0 == a1.Lines.a0 && (a0.Lines.a1 == a1.Lines.a1 && (a0.Lines.a2 == a1.Lines.a2 && (a0.Lines.a3 == a1.Lines.a3 && (a0.Lines.a4 == a1.Lines.a4 && true)))) && (a0.Sum == a1.Sum && true))
def s27 (F : Nat) : CS E.G := ⟨27, [.v 16 true, .v 16 true], [.v 1 false []], fun x => law12_FeesBills_1 F x.1 x.2.1⟩
theorem c27 (F : Nat) : CSok E [] (s27 F) := mkC (cx := ⟨[], [], F, [], []⟩) hf27 (by kernel_rfl) rfl all0 ⟨inl0, all0⟩ .n rfl (by kernel_rfl)
theorem hf28 : HF 28 Tryz.f28 := hK (by kernel_rfl)
def slices_Equal_fees_Band (F : Nat) (a0 : List Band) (a1 : List Band) : Option (Bool) :=
 brk ((↑a0.length : Int) != (↑a1.length : Int)) (some (false)) (loopC (fun (x : Int) => fun x_1 => brk (decide (x < (↑a0.length : Int))) (chk (0 ≤ x ∧ x < (↑a0.length : Int)) (chk (0 ≤ x ∧ x < (↑a1.length : Int)) (brk (!((a0.getD (Int.toNat x) (Band.mk 0 0)).Upto == (a1.getD (Int.toNat x) (Band.mk 0 0)).Upto && ((a0.getD (Int.toNat x) (Band.mk 0 0)).Rate == (a1.getD (Int.toNat x) (Band.mk 0 0)).Rate && true))) (some (false)) (chk (InR (x + 1)) (x_1 (x + 1)))))) (some (true))) (F) ((0 : Int)))
def s28 (F : Nat) : CS E.G := ⟨28, [.sl 7, .sl 7], [.v 1 false []], fun x => slices_Equal_fees_Band F x.1 x.2.1⟩
theorem c28 (F : Nat) : CSok E [] (s28 F) := mkC (cx := ⟨[], [], F, [], []⟩) hf28 (by kernel_rfl) rfl all0 ⟨inl0, all0⟩ (.c .n (.l ⟨[.i], [0, 16, 192], [0, 1], [(208, .i IntKind.i64)], [], [], [], 2⟩ (.c .n .n))) rfl (by kernel_rfl)
theorem hf29 : HF 29 Tryz.f29 := hK (by kernel_rfl)
def slices_Equal_fees_Voyage (F : Nat) (a0 : List Voyage) (a1 : List Voyage) : Option (Bool) :=
 brk ((↑a0.length : Int) != (↑a1.length : Int)) (some (false)) (loopC (fun (x : Int) => fun x_1 => brk (decide (x < (↑a0.length : Int))) (chk (0 ≤ x ∧ x < (↑a0.length : Int)) (chk (0 ≤ x ∧ x < (↑a1.length : Int)) (brk (!((a0.getD (Int.toNat x) (Voyage.mk 0 0 0 0 0 0 0)).Ship == (a1.getD (Int.toNat x) (Voyage.mk 0 0 0 0 0 0 0)).Ship && ((a0.getD (Int.toNat x) (Voyage.mk 0 0 0 0 0 0 0)).Class == (a1.getD (Int.toNat x) (Voyage.mk 0 0 0 0 0 0 0)).Class && ((a0.getD (Int.toNat x) (Voyage.mk 0 0 0 0 0 0 0)).Tonnes == (a1.getD (Int.toNat x) (Voyage.mk 0 0 0 0 0 0 0)).Tonnes && ((a0.getD (Int.toNat x) (Voyage.mk 0 0 0 0 0 0 0)).Tenths == (a1.getD (Int.toNat x) (Voyage.mk 0 0 0 0 0 0 0)).Tenths && ((a0.getD (Int.toNat x) (Voyage.mk 0 0 0 0 0 0 0)).Escort == (a1.getD (Int.toNat x) (Voyage.mk 0 0 0 0 0 0 0)).Escort && ((a0.getD (Int.toNat x) (Voyage.mk 0 0 0 0 0 0 0)).Cut == (a1.getD (Int.toNat x) (Voyage.mk 0 0 0 0 0 0 0)).Cut && ((a0.getD (Int.toNat x) (Voyage.mk 0 0 0 0 0 0 0)).Tow == (a1.getD (Int.toNat x) (Voyage.mk 0 0 0 0 0 0 0)).Tow && true)))))))) (some (false)) (chk (InR (x + 1)) (x_1 (x + 1)))))) (some (true))) (F) ((0 : Int)))
def s29 (F : Nat) : CS E.G := ⟨29, [.sl 11, .sl 11], [.v 1 false []], fun x => slices_Equal_fees_Voyage F x.1 x.2.1⟩
theorem c29 (F : Nat) : CSok E [] (s29 F) := mkC (cx := ⟨[], [], F, [], []⟩) hf29 (by kernel_rfl) rfl all0 ⟨inl0, all0⟩ (.c .n (.l ⟨[.i], [0, 16, 192], [0, 1], [(208, .i IntKind.i64)], [], [], [], 2⟩ (.c .n .n))) rfl (by kernel_rfl)
theorem hf5 : HF 5 Tryz.f5 := hK (by kernel_rfl)
def law12_FeesBills (F : Nat) (a0 : Tariff) (a1 : Int) (a2 : Int) (a3 : Int) (a4 : Int) (a5 : Voyage) (a6 : List Voyage) : Option (Bool) :=
 brk (decide ((↑a0.Bands.length : Int) > (20 : Int)) || decide ((↑a6.length : Int) > (40 : Int)) && decide ((↑a6.length : Int) ≤ (500 : Int)) || decide ((↑a6.length : Int) > (520 : Int))) (bnd (law12_awake F) (fun x => some (x))) (bnd (law12_Tariff F a0) (fun x => bnd (slices_Clone_fees_Band F a0.Bands) (fun x_1 => bnd (slices_Clone_fees_Voyage F a6) (fun x_2 => bnd (fees_Check F (Tariff.mk x_1 a0.Class a0.Least a0.Most a0.Paid a0.Mile a0.Escort a0.Cut a0.Tow)) (fun x_3 => bnd (ref12_Check F x) (fun x_4 => brk (x_3 != x_4) (some (false)) (bnd (fees_Dues F (Tariff.mk x_1 a0.Class a0.Least a0.Most a0.Paid a0.Mile a0.Escort a0.Cut a0.Tow) a1 a2) (fun x_5 => bnd (ref12_Dues F x a1 a2) (fun x_6 => brk (x_5.1 != x_6.1 || x_5.2 != x_6.2) (some (false)) (bnd (fees_Largest F (Tariff.mk x_1 a0.Class a0.Least a0.Most a0.Paid a0.Mile a0.Escort a0.Cut a0.Tow) a1 a3) (fun x_7 => bnd (ref12_Largest F x a1 a3) (fun x_8 => brk (x_7.1 != x_8.1 || x_7.2 != x_8.2) (some (false)) (bnd (fees_Bill F (Tariff.mk x_1 a0.Class a0.Least a0.Most a0.Paid a0.Mile a0.Escort a0.Cut a0.Tow) a5 a4) (fun x_9 => bnd (ref12_Bill F x a5 a4) (fun x_10 => brk (!(x_9.1.Lines.a0 == x_10.1.Lines.a0 && (x_9.1.Lines.a1 == x_10.1.Lines.a1 && (x_9.1.Lines.a2 == x_10.1.Lines.a2 && (x_9.1.Lines.a3 == x_10.1.Lines.a3 && (x_9.1.Lines.a4 == x_10.1.Lines.a4 && true)))) && (x_9.1.Sum == x_10.1.Sum && true)) || x_9.2 != x_10.2) (some (false)) (loopC (fun (x_11 : List Voyage × Int) => fun x_12 => brk (decide (x_11.2 < (↑a6.length : Int))) (chk (0 ≤ x_11.2 ∧ x_11.2 < (↑a6.length : Int)) (chk (List.length x_11.1 + [a6.getD (Int.toNat x_11.2) (Voyage.mk 0 0 0 0 0 0 0)].length ≤ (1000000000 : Nat)) (chk (InR (x_11.2 + 1)) (x_12 ((x_11.1 ++ [a6.getD (Int.toNat x_11.2) (Voyage.mk 0 0 0 0 0 0 0)], x_11.2 + 1)))))) (bnd (fees_Season F (Tariff.mk x_1 a0.Class a0.Least a0.Most a0.Paid a0.Mile a0.Escort a0.Cut a0.Tow) x_2) (fun x_13 => bnd (ref12_Season F x x_11.1) (fun x_14 => brk (x_13.2.1 == x_14.2.1) (brk (x_13.2.2 == x_14.2.2) (join (F) (fun (x_15 : Bool) => brk (x_15) (bnd (slices_Equal_fees_Band F x_1 a0.Bands) (fun x_16 => brk (x_16) (bnd (slices_Equal_fees_Voyage F x_2 a6) (fun x_17 => brk (x_17) (bnd (law12_awake F) (fun x_18 => some (x_18))) (some (false)))) (some (false)))) (some (false))) (fun x_15 => brk ((↑(List.length x_13.1) : Int) != (↑(List.length x_14.1) : Int)) (x_15 (false)) (loopC (fun (x_16 : Int) => fun x_17 => brk (decide (x_16 < (↑(List.length x_13.1) : Int))) (chk (0 ≤ x_16 ∧ x_16 < (↑(List.length x_13.1) : Int)) (chk (0 ≤ x_16 ∧ x_16 < (↑(List.length x_14.1) : Int)) (bnd (law12_FeesBills_1 F (List.getD x_13.1 (Int.toNat x_16) (Account.mk (A5ofInt.mk 0 0 0 0 0) 0)) (List.getD x_14.1 (Int.toNat x_16) (Account.mk (A5ofInt.mk 0 0 0 0 0) 0))) (fun x_18 => brk (!x_18) (x_15 (false)) (chk (InR (x_16 + 1)) (x_17 (x_16 + 1))))))) (x_15 (true))) (F) ((0 : Int))))) (some (false))) (some (false)))))) (F) (([], (0 : Int)))))))))))))))))))
def s5 (F : Nat) : CS E.G := ⟨5, [.v 10 true, .v 0 false, .v 0 false, .v 0 false, .v 0 false, .v 11 true, .sl 11], [.v 1 false []], fun x => law12_FeesBills F x.1 x.2.1 x.2.2.1 x.2.2.2.1 x.2.2.2.2.1 x.2.2.2.2.2.1 x.2.2.2.2.2.2.1⟩
theorem c5 (F : Nat) : CSok E [] (s5 F) := mkC (cx := ⟨[s11 F, s13 F, s14 F, s15 F, s16 F, s17 F, s18 F, s19 F, s20 F, s21 F, s22 F, s23 F, s24 F, s25 F, s27 F, s28 F, s29 F], [(26, Tryz.f26)], F, [], []⟩) hf5 (by kernel_rfl) rfl (allC (c11 F) (allC (c13 F) (allC (c14 F) (allC (c15 F) (allC (c16 F) (allC (c17 F) (allC (c18 F) (allC (c19 F) (allC (c20 F) (allC (c21 F) (allC (c22 F) (allC (c23 F) (allC (c24 F) (allC (c25 F) (allC (c27 F) (allC (c28 F) (allC (c29 F) all0))))))))))))))))) ⟨(inlC hf26 en26 inl0), all0⟩ (.c .n (.c .n (.c .n (.c .n (.c .n (.l ⟨[.l 11, .i], [256, 96, 2080, 272, 2064, 112, 240], [6, 1, 8, 2, 5, 4, 0, 7], [(384, .h 11 69 11), (2096, .i IntKind.i64)], [], [], [], 12⟩ (.c .n (.s (.s (.w ⟨[.b], [], [13, 12], [(0, .b)], [], [], [], 14⟩ (.c .n (.l ⟨[.i], [16, 32, 256, 240], [13, 12], [(272, .i IntKind.i64)], [], [], [], 14⟩ (.c .n .n))) (.s (.s (.s .n .n) .n) .n)) .n) .n)))))))) rfl (by kernel_rfl)
theorem hf30 : HF 30 Tryz.f30 := hK (by kernel_rfl)
def kit_CopyInts (F : Nat) (a0 : List Int) : Option ((List Int)) :=
 chk (a0.length ≤ (1000000000 : Nat)) (some (a0))
def s30 (F : Nat) : CS E.G := ⟨30, [.sl 0], [.sl 0 3], fun x => kit_CopyInts F x.1⟩
theorem c30 (F : Nat) : CSok E [] (s30 F) := mkC (cx := ⟨[], [], F, [], []⟩) hf30 (by kernel_rfl) rfl all0 ⟨inl0, all0⟩ .n rfl (by kernel_rfl)
theorem hf71 : HF 71 Tryz.f71 := hK (by kernel_rfl)
def ref12_needed (F : Nat) (a0 : List Int) : Option (Int) :=
 brk (decide ((↑a0.length : Int) < (1 : Int)) || decide ((↑a0.length : Int) > (12 : Int))) (some ((2 : Int))) (loopC (fun (x : Int) => fun x_1 => brk (decide (x < (↑a0.length : Int))) (chk (0 ≤ x ∧ x < (↑a0.length : Int)) (bnd (ref12_in F (a0.getD (Int.toNat x) 0) 0 1000000000) (fun x_2 => brk (!x_2) (some ((6 : Int))) (chk (InR (x + 1)) (x_1 (x + 1)))))) (some ((0 : Int)))) (F) ((0 : Int)))
def s71 (F : Nat) : CS E.G := ⟨71, [.sl 0], [.v 0 false []], fun x => ref12_needed F x.1⟩
theorem c71 (F : Nat) : CSok E [] (s71 F) := mkC (cx := ⟨[s62 F], [], F, [], []⟩) hf71 (by kernel_rfl) rfl (allC (c62 F) all0) ⟨inl0, all0⟩ (.c .n (.l ⟨[.i], [0], [0], [(48, .i IntKind.i64)], [], [], [], 1⟩ (.c .n .n))) rfl (by kernel_rfl)
theorem hf72 : HF 72 Tryz.f72 := hK (by kernel_rfl)
def ref12_share (F : Nat) (a0 : List Int) (a1 : Int) : Option (Int) :=
 loopC (fun (x : Int × Int) => fun x_1 => chk (0 ≤ a1 ∧ a1 < (↑a0.length : Int)) (brk (decide (x.1 < a0.getD a1.toNat 0)) (loopC (fun (x_2 : Int × Int × Int) => fun x_3 => brk (decide (x_2.2.1 < (↑a0.length : Int))) (join (F) (fun (x_4 : Int × Int) => chk (InR (x_2.2.1 + 1)) (x_3 ((x_4.1, x_2.2.1 + 1, x_4.2)))) (fun x_4 => chk (0 ≤ x_2.2.1 ∧ x_2.2.1 < (↑a0.length : Int)) (brk (decide (a0.getD (Int.toNat x_2.2.1) 0 > x.1)) (chk (InR (x_2.1 + 1)) (chk ((!decide (x_2.2.2 < 0)) = true → 0 ≤ x_2.2.1 ∧ x_2.2.1 < (↑a0.length : Int)) (brk (decide (x_2.2.2 < 0) || decide (a0.getD (Int.toNat x_2.2.1) 0 < x_2.2.2)) (chk (0 ≤ x_2.2.1 ∧ x_2.2.1 < (↑a0.length : Int)) (x_4 ((x_2.1 + 1, a0.getD (Int.toNat x_2.2.1) 0)))) (x_4 ((x_2.1 + 1, x_2.2.2)))))) (x_4 ((x_2.1, x_2.2.2)))))) (chk (InR (x_2.2.2 - x.1)) (chk ((0 ≤ (27720 : Int) ∧ (27720 : Int) ≤ (9223372036854775807 : Int)) ∧ (0 : Int) < if (1 : Int) > x_2.1 then (1 : Int) else x_2.1) (chk (InR ((x_2.2.2 - x.1) * ((27720 : Int) / if (1 : Int) > x_2.1 then (1 : Int) else x_2.1))) (chk (InR (x.2 + (x_2.2.2 - x.1) * ((27720 : Int) / if (1 : Int) > x_2.1 then (1 : Int) else x_2.1))) (x_1 ((x_2.2.2, x.2 + (x_2.2.2 - x.1) * ((27720 : Int) / if (1 : Int) > x_2.1 then (1 : Int) else x_2.1))))))))) (F) (((0 : Int), (0 : Int), (-1 : Int)))) (some (x.2)))) (F) (((0 : Int), (0 : Int)))
def s72 (F : Nat) : CS E.G := ⟨72, [.sl 0, .v 0 false], [.v 0 false []], fun x => ref12_share F x.1 x.2.1⟩
theorem c72 (F : Nat) : CSok E [] (s72 F) := mkC (cx := ⟨[], [], F, [], []⟩) hf72 (by kernel_rfl) rfl all0 ⟨inl0, all0⟩ (.l ⟨[.i, .i], [0, 16], [0], [(96, .i IntKind.i64), (80, .i IntKind.i64)], [], [], [], 1⟩ (.c (.l ⟨[.i, .i, .i], [0, 16, 96, 80], [0], [(128, .i IntKind.i64), (144, .i IntKind.i64), (112, .i IntKind.i64)], [], [], [], 1⟩ (.c (.j ⟨[.i, .i], [0, 16, 96, 80, 144], [0], [(128, .i IntKind.i64), (112, .i IntKind.i64)], [], [], [], 1⟩ (.c .n .n) .n) .n)) .n)) rfl (by kernel_rfl)
theorem hf73 : HF 73 Tryz.f73 := hK (by kernel_rfl)
theorem en73 : Proofs.Enters Tryz.prog 73 := mkE hf73 (by kernel_rfl) rfl
def ref12_gcdR (F : Nat) : Nat → Int → Int → Option (Int)
 | 0, _, _ => none
 | n + 1, a0, a1 =>
 brk (a1 == (0 : Int)) (some (a0)) (chk ((0 ≤ a0 ∧ a0 ≤ 9223372036854775807) ∧ (0 : Int) < a1) (bnd (ref12_gcdR F n a1 (a0 % a1)) (fun x => some (x))))
def ref12_gcd (F : Nat) (a0 : Int) (a1 : Int) : Option (Int) := ref12_gcdR F F a0 a1
def s73R (F n : Nat) : CS E.G := ⟨73, [.v 0 false, .v 0 false], [.v 0 false []], fun x => ref12_gcdR F n x.1 x.2.1⟩
def s73 (F : Nat) : CS E.G := ⟨73, [.v 0 false, .v 0 false], [.v 0 false []], fun x => ref12_gcd F x.1 x.2.1⟩
def cx73 (F n : Nat) : Ctx E := ⟨[s73R F n], [], F, [], []⟩
def h73 : Hint := .n
theorem e73 (F n : Nat) (a0 : Int) (a1 : Int) : fnK (E := E) (cx73 F n) Tryz.f73 [] [.v 0 false, .v 0 false] [.v 0 false []] h73 (a0, a1, ()) = ref12_gcdR F (n + 1) a0 a1 := by kernel_rfl
theorem c73R (F : Nat) : ∀ n, CSok E [] (s73R F n)
 | 0 => ⟨en73, fun _ _ _ _ _ _ _ _ h => nomatch h⟩
 | n + 1 => ⟨en73, by
 have ih := c73R F n
 have h := fn_sound (E := E) (gl := []) (cx := cx73 F n) mix (allC (ih) all0) ⟨inl0, all0⟩ keys0 rfl (fun _ h => nomatch h) hf73 (ps := [.v 0 false, .v 0 false]) (rs := [.v 0 false []]) (by decide) h73
 rwa [show fnK (E := E) (cx73 F n) Tryz.f73 [] [.v 0 false, .v 0 false] [.v 0 false []] h73 = (fun x : AT E.G.car [.v 0 false, .v 0 false] => ref12_gcdR F (n + 1) x.1 x.2.1) from funext fun x => e73 F n x.1 x.2.1] at h⟩
theorem c73 (F : Nat) : CSok E [] (s73 F) := c73R F F
theorem hf32 : HF 32 Tryz.f32 := hK (by kernel_rfl)
def ref12_Exact (F : Nat) (a0 : List Int) : Option ((List Ratio) × Int) :=
 bnd (ref12_needed F a0) (fun x => brk (x != (0 : Int)) (some (([], x))) (loopC (fun (x_1 : Int × List Ratio) => fun x_2 => brk (decide (x_1.1 < (↑a0.length : Int))) (bnd (ref12_share F a0 x_1.1) (fun x_3 => bnd (ref12_gcd F x_3 27720) (fun x_4 => chk ((0 ≤ x_3 ∧ x_3 ≤ 9223372036854775807) ∧ (0 : Int) < x_4) (chk ((0 ≤ (27720 : Int) ∧ (27720 : Int) ≤ (9223372036854775807 : Int)) ∧ (0 : Int) < x_4) (chk (List.length x_1.2 + [Ratio.mk (x_3 / x_4) ((27720 : Int) / x_4)].length ≤ (1000000000 : Nat)) (chk (InR (x_1.1 + 1)) (x_2 ((x_1.1 + 1, x_1.2 ++ [Ratio.mk (x_3 / x_4) ((27720 : Int) / x_4)]))))))))) (some ((x_1.2, (0 : Int))))) (F) (((0 : Int), []))))
def s32 (F : Nat) : CS E.G := ⟨32, [.sl 0], [.sl 22 110, .v 0 false []], fun x => ref12_Exact F x.1⟩
theorem c32 (F : Nat) : CSok E [] (s32 F) := mkC (cx := ⟨[s71 F, s72 F, s73 F], [], F, [], []⟩) hf32 (by kernel_rfl) rfl (allC (c71 F) (allC (c72 F) (allC (c73 F) all0))) ⟨inl0, all0⟩ (.c .n (.l ⟨[.i, .l 22], [0], [0], [(96, .i IntKind.i64), (80, .h 1 110 22)], [], [], [], 2⟩ .n)) rfl (by kernel_rfl)
theorem hf33 : HF 33 Tryz.f33 := hK (by kernel_rfl)
def kit_SameRatios (F : Nat) (a0 : List Ratio) (a1 : List Ratio) : Option (Bool) :=
 brk ((↑a0.length : Int) != (↑a1.length : Int)) (some (false)) (loopC (fun (x : Int) => fun x_1 => brk (decide (x < (↑a0.length : Int))) (chk (0 ≤ x ∧ x < (↑a0.length : Int)) (chk (0 ≤ x ∧ x < (↑a1.length : Int)) (brk (!((a0.getD (Int.toNat x) (Ratio.mk 0 0)).N == (a1.getD (Int.toNat x) (Ratio.mk 0 0)).N && ((a0.getD (Int.toNat x) (Ratio.mk 0 0)).D == (a1.getD (Int.toNat x) (Ratio.mk 0 0)).D && true))) (some (false)) (chk (InR (x + 1)) (x_1 (x + 1)))))) (some (true))) (F) ((0 : Int)))
def s33 (F : Nat) : CS E.G := ⟨33, [.sl 22, .sl 22], [.v 1 false []], fun x => kit_SameRatios F x.1 x.2.1⟩
theorem c33 (F : Nat) : CSok E [] (s33 F) := mkC (cx := ⟨[], [], F, [], []⟩) hf33 (by kernel_rfl) rfl all0 ⟨inl0, all0⟩ (.c .n (.l ⟨[.i], [0, 16], [0, 1], [(80, .i IntKind.i64)], [], [], [], 2⟩ (.c .n .n))) rfl (by kernel_rfl)
theorem hf35 : HF 35 Tryz.f35 := hK (by kernel_rfl)
def ref12_Share (F : Nat) (a0 : List Int) : Option ((List Int) × Int) :=
 bnd (ref12_needed F a0) (fun x => brk (x != (0 : Int)) (some (([], x))) (loopC (fun (x_1 : Int × Int) => fun x_2 => brk (decide (x_1.1 < (↑a0.length : Int))) (chk (0 ≤ x_1.1 ∧ x_1.1 < (↑a0.length : Int)) (chk (InR (x_1.1 + 1)) (x_2 ((x_1.1 + 1, if a0.getD (Int.toNat x_1.1) 0 > x_1.2 then a0.getD (Int.toNat x_1.1) 0 else x_1.2))))) (loopC (fun (x_3 : List Int × Int × Int × List Int) => fun x_4 => brk (decide (x_3.2.2.1 < (↑a0.length : Int))) (bnd (ref12_share F a0 x_3.2.2.1) (fun x_5 => chk (0 ≤ x_5 ∧ x_5 ≤ 9223372036854775807) (chk (List.length x_3.2.2.2 + [x_5 / (27720 : Int)].length ≤ (1000000000 : Nat)) (chk (0 ≤ x_5 ∧ x_5 ≤ 9223372036854775807) (chk (List.length x_3.1 + [x_5 % (27720 : Int)].length ≤ (1000000000 : Nat)) (chk (0 ≤ x_5 ∧ x_5 ≤ 9223372036854775807) (chk (InR (x_3.2.1 - x_5 / (27720 : Int))) (chk (InR (x_3.2.2.1 + 1)) (x_4 ((x_3.1 ++ [x_5 % (27720 : Int)], x_3.2.1 - x_5 / (27720 : Int), x_3.2.2.1 + 1, x_3.2.2.2 ++ [x_5 / (27720 : Int)]))))))))))) (loopC (fun (x_5 : Int × List Int × List Int) => fun x_6 => brk (decide (x_5.1 > (0 : Int))) (loopC (fun (x_7 : Int × Int) => fun x_8 => brk (decide (x_7.1 < (↑(List.length x_5.2.1) : Int))) (join (F) (fun (x_9 : Int) => chk (InR (x_7.1 + 1)) (x_8 ((x_7.1 + 1, x_9)))) (fun x_9 => chk (0 ≤ x_7.1 ∧ x_7.1 < (↑(List.length x_5.2.1) : Int)) (chk (0 ≤ x_7.2 ∧ x_7.2 < (↑(List.length x_5.2.1) : Int)) (brk (decide (List.getD x_5.2.1 (Int.toNat x_7.1) (0 : Int) > List.getD x_5.2.1 (Int.toNat x_7.2) (0 : Int))) (x_9 (x_7.1)) (x_9 (x_7.2)))))) (chk (0 ≤ x_7.2 ∧ x_7.2 < (↑(List.length x_5.2.2) : Int)) (chk (InR (List.getD x_5.2.2 (Int.toNat x_7.2) (0 : Int) + (1 : Int))) (chk (0 ≤ x_7.2 ∧ x_7.2 < (↑(List.length x_5.2.2) : Int)) (chk (0 ≤ x_7.2 ∧ x_7.2 < (↑(List.length x_5.2.1) : Int)) (chk (InR (x_5.1 - 1)) (x_6 ((x_5.1 - 1, List.set x_5.2.1 (Int.toNat x_7.2) (-1 : Int), List.set x_5.2.2 (Int.toNat x_7.2) (List.getD x_5.2.2 (Int.toNat x_7.2) (0 : Int) + (1 : Int))))))))))) (F) (((0 : Int), (0 : Int)))) (some ((x_5.2.2, (0 : Int))))) (F) ((x_3.2.1, x_3.1, x_3.2.2.2)))) (F) (([], x_1.2, (0 : Int), [])))) (F) (((0 : Int), (0 : Int)))))
def s35 (F : Nat) : CS E.G := ⟨35, [.sl 0], [.sl 0 3, .v 0 false []], fun x => ref12_Share F x.1⟩
theorem c35 (F : Nat) : CSok E [] (s35 F) := mkC (cx := ⟨[s71 F, s72 F], [], F, [], []⟩) hf35 (by kernel_rfl) rfl (allC (c71 F) (allC (c72 F) all0)) ⟨inl0, all0⟩ (.c .n (.l ⟨[.i, .i], [0], [0], [(96, .i IntKind.i64), (80, .i IntKind.i64)], [], [], [], 1⟩ (.c .n (.l ⟨[.l 0, .i, .i, .l 0], [0], [0], [(128, .h 1 3 0), (80, .i IntKind.i64), (144, .i IntKind.i64), (112, .h 2 3 0)], [], [], [], 3⟩ (.c .n (.l ⟨[.i, .l 0, .l 0], [128, 112], [1, 2], [(80, .i IntKind.i64)], [], [], [(1, 3, 0), (2, 3, 0)], 3⟩ (.c (.l ⟨[.i, .i], [128, 80, 112], [1, 2], [(192, .i IntKind.i64), (176, .i IntKind.i64)], [], [], [], 3⟩ (.c (.j ⟨[.i], [128, 192, 80, 112], [1, 2], [(176, .i IntKind.i64)], [], [], [], 3⟩ .n .n) .n)) .n))))))) rfl (by kernel_rfl)
theorem hf36 : HF 36 Tryz.f36 := hK (by kernel_rfl)
def kit_SameInts (F : Nat) (a0 : List Int) (a1 : List Int) : Option (Bool) :=
 brk ((↑a0.length : Int) != (↑a1.length : Int)) (some (false)) (loopC (fun (x : Int) => fun x_1 => brk (decide (x < (↑a0.length : Int))) (chk (0 ≤ x ∧ x < (↑a0.length : Int)) (chk (0 ≤ x ∧ x < (↑a1.length : Int)) (brk (a0.getD (Int.toNat x) 0 != a1.getD (Int.toNat x) 0) (some (false)) (chk (InR (x + 1)) (x_1 (x + 1)))))) (some (true))) (F) ((0 : Int)))
def s36 (F : Nat) : CS E.G := ⟨36, [.sl 0, .sl 0], [.v 1 false []], fun x => kit_SameInts F x.1 x.2.1⟩
theorem c36 (F : Nat) : CSok E [] (s36 F) := mkC (cx := ⟨[], [], F, [], []⟩) hf36 (by kernel_rfl) rfl all0 ⟨inl0, all0⟩ (.c .n (.l ⟨[.i], [0, 16], [0, 1], [(80, .i IntKind.i64)], [], [], [], 2⟩ (.c .n .n))) rfl (by kernel_rfl)
theorem hf77 : HF 77 Tryz.f77 := hK (by kernel_rfl)
def fees_Core_1 (F : Nat) (a0 : Int) : Option (Bool) :=
 bnd (fees_within F a0 0 1000000000) (fun x => some (!x))
def s77 (F : Nat) : CS E.G := ⟨77, [.v 0 false], [.v 1 false []], fun x => fees_Core_1 F x.1⟩
theorem c77 (F : Nat) : CSok E [] (s77 F) := mkC (cx := ⟨[s59 F], [], F, [], []⟩) hf77 (by kernel_rfl) rfl (allC (c59 F) all0) ⟨inl0, all0⟩ .n rfl (by kernel_rfl)
theorem hf37 : HF 37 Tryz.f37 := hK (by kernel_rfl)
def fees_Core (F : Nat) (a0 : List Int) (a1 : List Int) : Option (Bool × Int) :=
 bnd (fees_asked F a0) (fun x => brk (x != (0 : Int)) (some ((false, x))) (brk ((↑a1.length : Int) != (↑a0.length : Int)) (some ((false, (1 : Int)))) (join (F) (fun (x_1 : Int) => brk (decide (x_1 ≥ (0 : Int))) (some ((false, (6 : Int)))) (loopC (fun (x_2 : Int) => fun x_3 => brk (decide (x_2 < (↑a0.length : Int))) (chk (0 ≤ x_2 ∧ x_2 < (↑a0.length : Int)) (loopC (fun (x_4 : Int × Int) => fun x_5 => brk (decide (x_4.1 < (↑a0.length : Int))) (join (F) (fun (x_6 : Int) => chk (InR (x_4.1 + 1)) (x_5 ((x_4.1 + 1, x_6)))) (fun x_6 => chk (0 ≤ x_4.1 ∧ x_4.1 < (↑a0.length : Int)) (brk (decide (a0.getD (Int.toNat x_4.1) 0 ≤ a0.getD (Int.toNat x_2) 0)) (chk (0 ≤ x_4.1 ∧ x_4.1 < (↑a1.length : Int)) (chk (InR (x_4.2 + a1.getD (Int.toNat x_4.1) 0)) (x_6 (x_4.2 + a1.getD (Int.toNat x_4.1) 0)))) (x_6 (x_4.2))))) (bnd (brk (!decide (x_4.2 > a0.getD (Int.toNat x_2) 0)) (slices_Max_int F a0) (some (0 : Int))) (fun x_6 => brk (decide (x_4.2 > a0.getD (Int.toNat x_2) 0) || a0.getD (Int.toNat x_2) 0 == x_6 && x_4.2 != a0.getD (Int.toNat x_2) 0) (some ((false, (0 : Int)))) (chk (InR (x_2 + 1)) (x_3 (x_2 + 1)))))) (F) (((0 : Int), (0 : Int))))) (some ((true, (0 : Int))))) (F) ((0 : Int)))) (fun x_1 => loopC (fun (x_2 : Int) => fun x_3 => brk (decide (x_2 < (↑a1.length : Int))) (chk (0 ≤ x_2 ∧ x_2 < (↑a1.length : Int)) (bnd (fees_Core_1 F (a1.getD (Int.toNat x_2) 0)) (fun x_4 => brk (x_4) (x_1 (x_2)) (chk (InR (x_2 + 1)) (x_3 (x_2 + 1)))))) (x_1 ((-1 : Int)))) (F) ((0 : Int))))))
def s37 (F : Nat) : CS E.G := ⟨37, [.sl 0, .sl 0], [.v 1 false [], .v 0 false []], fun x => fees_Core F x.1 x.2.1⟩
theorem c37 (F : Nat) : CSok E [] (s37 F) := mkC (cx := ⟨[s69 F, s74 F, s77 F], [(60, Tryz.f60), (99, Tryz.f99)], F, [], []⟩) hf37 (by kernel_rfl) rfl (allC (c69 F) (allC (c74 F) (allC (c77 F) all0))) ⟨(inlC hf60 en60 (inlC hf99 en99 inl0)), all0⟩ (.c .n (.c .n (.p (.w ⟨[.i], [], [1], [(0, .i IntKind.i64)], [], [], [], 2⟩ (.l ⟨[.i], [0, 16, 112], [1], [(128, .i IntKind.i64)], [], [], [], 2⟩ (.c .n .n)) (.c .n (.l ⟨[.i], [0, 16, 416, 432], [0, 1], [(448, .i IntKind.i64)], [], [], [], 2⟩ (.c (.l ⟨[.i, .i], [0, 16, 128, 512, 448, 416, 528, 432], [0, 1], [(544, .i IntKind.i64), (144, .i IntKind.i64)], [], [], [], 2⟩ (.c (.j ⟨[.i], [0, 16, 128, 512, 448, 544, 416, 528, 432], [0, 1], [(144, .i IntKind.i64)], [], [], [], 2⟩ .n .n) .n)) .n))))))) rfl (by kernel_rfl)
theorem hf38 : HF 38 Tryz.f38 := hK (by kernel_rfl)
def ref12_Core (F : Nat) (a0 : List Int) (a1 : List Int) : Option (Bool × Int) :=
 bnd (ref12_needed F a0) (fun x => brk (x != (0 : Int)) (some ((false, x))) (brk ((↑a1.length : Int) != (↑a0.length : Int)) (some ((false, (1 : Int)))) (loopC (fun (x_1 : Int) => fun x_2 => brk (decide (x_1 < (↑a1.length : Int))) (chk (0 ≤ x_1 ∧ x_1 < (↑a1.length : Int)) (bnd (ref12_in F (a1.getD (Int.toNat x_1) 0) 0 1000000000) (fun x_3 => brk (!x_3) (some ((false, (6 : Int)))) (chk (InR (x_1 + 1)) (x_2 (x_1 + 1)))))) (chk ((0 ≤ (↑a0.length : Int) ∧ (↑a0.length : Int) ≤ (62 : Int)) ∧ InR ((1 : Int) * (2 : Int) ^ (↑a0.length : Int).toNat)) (chk (InR ((1 : Int) * (2 : Int) ^ (↑a0.length : Int).toNat - 1)) (loopC (fun (x_3 : Int) => fun x_4 => brk (decide (x_3 ≤ (1 : Int) * (2 : Int) ^ (↑a0.length : Int).toNat - 1)) (loopC (fun (x_5 : Int × Int × Int × Int) => fun x_6 => brk (decide (x_5.2.2.1 < (↑a0.length : Int))) (join (F) (fun (x_7 : Int × Int) => chk (0 ≤ x_5.1 ∧ x_5.1 ≤ 9223372036854775807) (chk (InR (x_5.2.2.1 + 1)) (x_6 ((x_5.1 / (2 : Int), x_7.1, x_5.2.2.1 + 1, x_7.2))))) (fun x_7 => chk (0 ≤ x_5.1 ∧ x_5.1 ≤ 9223372036854775807) (brk (x_5.1 % (2 : Int) == (1 : Int)) (chk (0 ≤ x_5.2.2.1 ∧ x_5.2.2.1 < (↑a1.length : Int)) (chk (InR (x_5.2.1 + a1.getD (Int.toNat x_5.2.2.1) 0)) (chk (0 ≤ x_5.2.2.1 ∧ x_5.2.2.1 < (↑a0.length : Int)) (x_7 ((x_5.2.1 + a1.getD (Int.toNat x_5.2.2.1) 0, if a0.getD (Int.toNat x_5.2.2.1) 0 > x_5.2.2.2 then a0.getD (Int.toNat x_5.2.2.1) 0 else x_5.2.2.2)))))) (x_7 ((x_5.2.1, x_5.2.2.2)))))) (brk (decide (x_5.2.1 > x_5.2.2.2) || x_3 == (1 : Int) * (2 : Int) ^ (↑a0.length : Int).toNat - 1 && x_5.2.1 != x_5.2.2.2) (some ((false, (0 : Int)))) (chk (InR (x_3 + 1)) (x_4 (x_3 + 1))))) (F) ((x_3, (0 : Int), (0 : Int), (0 : Int)))) (some ((true, (0 : Int))))) (F) ((1 : Int)))))) (F) ((0 : Int)))))
def s38 (F : Nat) : CS E.G := ⟨38, [.sl 0, .sl 0], [.v 1 false [], .v 0 false []], fun x => ref12_Core F x.1 x.2.1⟩
theorem c38 (F : Nat) : CSok E [] (s38 F) := mkC (cx := ⟨[s62 F, s71 F], [], F, [], []⟩) hf38 (by kernel_rfl) rfl (allC (c62 F) (allC (c71 F) all0)) ⟨inl0, all0⟩ (.c .n (.c .n (.l ⟨[.i], [0, 16], [0, 1], [(112, .i IntKind.i64)], [], [], [], 2⟩ (.c .n (.l ⟨[.i], [0, 16, 128], [0, 1], [(144, .i IntKind.i64)], [], [], [], 2⟩ (.c (.l ⟨[.i, .i, .i, .i], [0, 16, 128, 144], [0, 1], [(192, .i IntKind.i64), (160, .i IntKind.i64), (208, .i IntKind.i64), (176, .i IntKind.i64)], [], [], [], 2⟩ (.c (.k (.j ⟨[.i, .i], [0, 16, 128, 192, 144, 208], [0, 1], [(160, .i IntKind.i64), (176, .i IntKind.i64)], [], [], [], 2⟩ .n .n)) .n)) .n)))))) rfl (by kernel_rfl)
theorem hf6 : HF 6 Tryz.f6 := hK (by kernel_rfl)
def law12_FeesShares (F : Nat) (a0 : List Int) (a1 : List Int) : Option (Bool) :=
 brk (decide ((↑a0.length : Int) > (20 : Int)) || decide ((↑a1.length : Int) > (20 : Int))) (bnd (law12_awake F) (fun x => some (x))) (bnd (kit_CopyInts F a0) (fun x => bnd (kit_CopyInts F a1) (fun x_1 => bnd (fees_Exact F x) (fun x_2 => bnd (ref12_Exact F a0) (fun x_3 => bnd (brk (!x_2.2 != x_3.2) (kit_SameRatios F x_2.1 x_3.1) (some false)) (fun x_4 => brk (x_2.2 != x_3.2 || !x_4) (some (false)) (bnd (fees_Share F x) (fun x_5 => bnd (ref12_Share F a0) (fun x_6 => bnd (brk (!x_5.2 != x_6.2) (kit_SameInts F x_5.1 x_6.1) (some false)) (fun x_7 => brk (x_5.2 != x_6.2 || !x_7) (some (false)) (bnd (fees_Core F x x_1) (fun x_8 => bnd (ref12_Core F a0 a1) (fun x_9 => bnd (brk (x_8.1 == x_9.1 && x_8.2 == x_9.2) (kit_SameInts F x a0) (some false)) (fun x_10 => bnd (brk (x_8.1 == x_9.1 && x_8.2 == x_9.2 && x_10) (kit_SameInts F x_1 a1) (some false)) (fun x_11 => bnd (brk (x_8.1 == x_9.1 && x_8.2 == x_9.2 && x_10 && x_11) (law12_awake F) (some false)) (fun x_12 => some (x_8.1 == x_9.1 && x_8.2 == x_9.2 && x_10 && x_11 && x_12)))))))))))))))))
def s6 (F : Nat) : CS E.G := ⟨6, [.sl 0, .sl 0], [.v 1 false []], fun x => law12_FeesShares F x.1 x.2.1⟩
theorem c6 (F : Nat) : CSok E [] (s6 F) := mkC (cx := ⟨[s13 F, s30 F, s31 F, s32 F, s33 F, s34 F, s35 F, s36 F, s37 F, s38 F], [], F, [], []⟩) hf6 (by kernel_rfl) rfl (allC (c13 F) (allC (c30 F) (allC (c31 F) (allC (c32 F) (allC (c33 F) (allC (c34 F) (allC (c35 F) (allC (c36 F) (allC (c37 F) (allC (c38 F) all0)))))))))) ⟨inl0, all0⟩ (.c .n (.c .n .n)) rfl (by kernel_rfl)
theorem hf39 : HF 39 Tryz.f39 := hK (by kernel_rfl)
def fees_Level (F : Nat) (a0 : List Int) (a1 : Int) : Option (Int × Int × Int) :=
 bnd (fees_claimed F a0 a1) (fun x => brk (x != (0 : Int)) (some (((0 : Int), (0 : Int), x))) (bnd (fees_level F a0 a1) (fun x_1 => some ((x_1.1, x_1.2, (0 : Int))))))
def s39 (F : Nat) : CS E.G := ⟨39, [.sl 0, .v 0 false], [.v 0 false [], .v 0 false [], .v 0 false []], fun x => fees_Level F x.1 x.2.1⟩
theorem c39 (F : Nat) : CSok E [] (s39 F) := mkC (cx := ⟨[s78 F, s79 F], [], F, [], []⟩) hf39 (by kernel_rfl) rfl (allC (c78 F) (allC (c79 F) all0)) ⟨inl0, all0⟩ .n rfl (by kernel_rfl)
theorem hf80 : HF 80 Tryz.f80 := hK (by kernel_rfl)
def ref12_claimed (F : Nat) (a0 : List Int) (a1 : Int) : Option (Int) :=
 brk (decide ((↑a0.length : Int) < (1 : Int)) || decide ((↑a0.length : Int) > (40 : Int))) (some ((2 : Int))) (loopC (fun (x : Int) => fun x_1 => brk (decide (x < (↑a0.length : Int))) (chk (0 ≤ x ∧ x < (↑a0.length : Int)) (bnd (ref12_in F (a0.getD (Int.toNat x) 0) 0 1000000000000) (fun x_2 => brk (!x_2) (some ((6 : Int))) (chk (InR (x + 1)) (x_1 (x + 1)))))) (bnd (ref12_in F a1 0 1000000000000) (fun x_2 => brk (!x_2) (some ((6 : Int))) (some ((0 : Int)))))) (F) ((0 : Int)))
def s80 (F : Nat) : CS E.G := ⟨80, [.sl 0, .v 0 false], [.v 0 false []], fun x => ref12_claimed F x.1 x.2.1⟩
theorem c80 (F : Nat) : CSok E [] (s80 F) := mkC (cx := ⟨[s62 F], [], F, [], []⟩) hf80 (by kernel_rfl) rfl (allC (c62 F) all0) ⟨inl0, all0⟩ (.c .n (.l ⟨[.i], [0, 16], [0], [(80, .i IntKind.i64)], [], [], [], 1⟩ (.c .n .n))) rfl (by kernel_rfl)
theorem hf81 : HF 81 Tryz.f81 := hK (by kernel_rfl)
def ref12_level (F : Nat) (a0 : List Int) (a1 : Int) : Option (Int × Int) :=
 loopC (fun (x : Int × Int) => fun x_1 => loopC (fun (x_2 : Int × Int × Int) => fun x_3 => brk (decide (x_2.2.1 < (↑a0.length : Int))) (join (F) (fun (x_4 : Int × Int) => chk (InR (x_2.2.1 + 1)) (x_3 ((x_4.1, x_2.2.1 + 1, x_4.2)))) (fun x_4 => chk (0 ≤ x_2.2.1 ∧ x_2.2.1 < (↑a0.length : Int)) (brk (decide (a0.getD (Int.toNat x_2.2.1) 0 > x.2)) (chk (InR (x_2.1 + 1)) (chk ((!decide (x_2.2.2 < 0)) = true → 0 ≤ x_2.2.1 ∧ x_2.2.1 < (↑a0.length : Int)) (brk (decide (x_2.2.2 < 0) || decide (a0.getD (Int.toNat x_2.2.1) 0 < x_2.2.2)) (chk (0 ≤ x_2.2.1 ∧ x_2.2.1 < (↑a0.length : Int)) (x_4 ((x_2.1 + 1, a0.getD (Int.toNat x_2.2.1) 0)))) (x_4 ((x_2.1 + 1, x_2.2.2)))))) (x_4 ((x_2.1, x_2.2.2)))))) (brk (x_2.1 == (0 : Int)) (some ((x.2, x.1))) (chk (InR (x_2.2.2 - x.2)) (chk (InR ((x_2.2.2 - x.2) * x_2.1)) (brk (decide ((x_2.2.2 - x.2) * x_2.1 > x.1)) (chk ((0 ≤ x.1 ∧ x.1 ≤ 9223372036854775807) ∧ (0 : Int) < x_2.1) (chk (InR (x.2 + x.1 / x_2.1)) (chk ((0 ≤ x.1 ∧ x.1 ≤ 9223372036854775807) ∧ (0 : Int) < x_2.1) (some ((x.2 + x.1 / x_2.1, x.1 % x_2.1)))))) (chk (InR (x_2.2.2 - x.2)) (chk (InR ((x_2.2.2 - x.2) * x_2.1)) (chk (InR (x.1 - (x_2.2.2 - x.2) * x_2.1)) (x_1 ((x.1 - (x_2.2.2 - x.2) * x_2.1, x_2.2.2))))))))))) (F) (((0 : Int), (0 : Int), (-1 : Int)))) (F) ((a1, (0 : Int)))
def s81 (F : Nat) : CS E.G := ⟨81, [.sl 0, .v 0 false], [.v 0 false [], .v 0 false []], fun x => ref12_level F x.1 x.2.1⟩
theorem c81 (F : Nat) : CSok E [] (s81 F) := mkC (cx := ⟨[], [], F, [], []⟩) hf81 (by kernel_rfl) rfl all0 ⟨inl0, all0⟩ (.l ⟨[.i, .i], [0], [0], [(16, .i IntKind.i64), (96, .i IntKind.i64)], [], [], [], 1⟩ (.l ⟨[.i, .i, .i], [0, 16, 96], [0], [(128, .i IntKind.i64), (144, .i IntKind.i64), (112, .i IntKind.i64)], [], [], [], 1⟩ (.c (.j ⟨[.i, .i], [0, 16, 96, 144], [0], [(128, .i IntKind.i64), (112, .i IntKind.i64)], [], [], [], 1⟩ (.c .n .n) .n) (.c .n .n)))) rfl (by kernel_rfl)
theorem hf40 : HF 40 Tryz.f40 := hK (by kernel_rfl)
def ref12_Level (F : Nat) (a0 : List Int) (a1 : Int) : Option (Int × Int × Int) :=
 bnd (ref12_claimed F a0 a1) (fun x => brk (x != (0 : Int)) (some (((0 : Int), (0 : Int), x))) (bnd (ref12_level F a0 a1) (fun x_1 => some ((x_1.1, x_1.2, (0 : Int))))))
def s40 (F : Nat) : CS E.G := ⟨40, [.sl 0, .v 0 false], [.v 0 false [], .v 0 false [], .v 0 false []], fun x => ref12_Level F x.1 x.2.1⟩
theorem c40 (F : Nat) : CSok E [] (s40 F) := mkC (cx := ⟨[s80 F, s81 F], [], F, [], []⟩) hf40 (by kernel_rfl) rfl (allC (c80 F) (allC (c81 F) all0)) ⟨inl0, all0⟩ .n rfl (by kernel_rfl)
theorem hf83 : HF 83 Tryz.f83 := hK (by kernel_rfl)
def ref12_awards (F : Nat) (a0 : List Int) (a1 : Int) : Option ((List Int)) :=
 bnd (ref12_level F a0 a1) (fun x => loopC (fun (x_1 : Int × Int × List Int) => fun x_2 => brk (decide (x_1.1 < (↑a0.length : Int))) (chk (0 ≤ x_1.1 ∧ x_1.1 < (↑a0.length : Int)) (join (F) (fun (x_3 : Int × Int) => chk (List.length x_1.2.2 + [x_3.2].length ≤ (1000000000 : Nat)) (chk (InR (x_1.1 + 1)) (x_2 ((x_1.1 + 1, x_3.1, x_1.2.2 ++ [x_3.2]))))) (fun x_3 => brk (decide (a0.getD (Int.toNat x_1.1) 0 > x.1)) (brk (decide (x_1.2.1 > (0 : Int))) (chk (InR (x.1 + 1)) (chk (InR (x_1.2.1 - 1)) (x_3 ((x_1.2.1 - 1, x.1 + 1))))) (x_3 ((x_1.2.1, x.1)))) (x_3 ((x_1.2.1, a0.getD (Int.toNat x_1.1) 0)))))) (some (x_1.2.2))) (F) (((0 : Int), x.2, [])))
def s83 (F : Nat) : CS E.G := ⟨83, [.sl 0, .v 0 false], [.sl 0 3], fun x => ref12_awards F x.1 x.2.1⟩
theorem c83 (F : Nat) : CSok E [] (s83 F) := mkC (cx := ⟨[s81 F], [], F, [], []⟩) hf83 (by kernel_rfl) rfl (allC (c81 F) all0) ⟨inl0, all0⟩ (.l ⟨[.i, .i, .l 0], [0, 80], [0], [(128, .i IntKind.i64), (96, .i IntKind.i64), (112, .h 1 3 0)], [], [], [], 2⟩ (.c (.k (.k (.j ⟨[.i, .i], [0, 128, 80, 112], [0, 1], [(96, .i IntKind.i64), (144, .i IntKind.i64)], [], [], [], 2⟩ (.c .n .n) .n))) .n)) rfl (by kernel_rfl)
theorem hf42 : HF 42 Tryz.f42 := hK (by kernel_rfl)
def ref12_Awards (F : Nat) (a0 : List Int) (a1 : Int) : Option ((List Int) × Int) :=
 bnd (ref12_claimed F a0 a1) (fun x => brk (x != (0 : Int)) (some (([], x))) (bnd (ref12_awards F a0 a1) (fun x_1 => some ((x_1, (0 : Int))))))
def s42 (F : Nat) : CS E.G := ⟨42, [.sl 0, .v 0 false], [.sl 0 3, .v 0 false []], fun x => ref12_Awards F x.1 x.2.1⟩
theorem c42 (F : Nat) : CSok E [] (s42 F) := mkC (cx := ⟨[s80 F, s83 F], [], F, [], []⟩) hf42 (by kernel_rfl) rfl (allC (c80 F) (allC (c83 F) all0)) ⟨inl0, all0⟩ .n rfl (by kernel_rfl)
theorem hf7 : HF 7 Tryz.f7 := hK (by kernel_rfl)
def law12_FeesAwards (F : Nat) (a0 : List Int) (a1 : Int) : Option (Bool) :=
 brk (decide ((↑a0.length : Int) > (50 : Int))) (bnd (law12_awake F) (fun x => some (x))) (bnd (kit_CopyInts F a0) (fun x => bnd (fees_Level F x a1) (fun x_1 => bnd (ref12_Level F a0 a1) (fun x_2 => brk (x_1.1 != x_2.1 || x_1.2.1 != x_2.2.1 || x_1.2.2 != x_2.2.2) (some (false)) (bnd (fees_Awards F x a1) (fun x_3 => bnd (ref12_Awards F a0 a1) (fun x_4 => bnd (brk (x_3.2 == x_4.2) (kit_SameInts F x_3.1 x_4.1) (some false)) (fun x_5 => bnd (brk (x_3.2 == x_4.2 && x_5) (kit_SameInts F x a0) (some false)) (fun x_6 => bnd (brk (x_3.2 == x_4.2 && x_5 && x_6) (law12_awake F) (some false)) (fun x_7 => some (x_3.2 == x_4.2 && x_5 && x_6 && x_7)))))))))))
def s7 (F : Nat) : CS E.G := ⟨7, [.sl 0, .v 0 false], [.v 1 false []], fun x => law12_FeesAwards F x.1 x.2.1⟩
theorem c7 (F : Nat) : CSok E [] (s7 F) := mkC (cx := ⟨[s13 F, s30 F, s36 F, s39 F, s40 F, s41 F, s42 F], [], F, [], []⟩) hf7 (by kernel_rfl) rfl (allC (c13 F) (allC (c30 F) (allC (c36 F) (allC (c39 F) (allC (c40 F) (allC (c41 F) (allC (c42 F) all0))))))) ⟨inl0, all0⟩ (.c .n .n) rfl (by kernel_rfl)
theorem hf44 : HF 44 Tryz.f44 := hK (by kernel_rfl)
def slices_Concat_Lint (F : Nat) (a0 : List (List (List Int))) : Option ((List (List Int))) :=
 loopC (fun (x : Int × Int) => fun x_1 => brk (decide (x.2 < (↑a0.length : Int))) (chk (0 ≤ x.2 ∧ x.2 < (↑a0.length : Int)) (chk (InR (x.1 + (↑(List.length (a0.getD (Int.toNat x.2) [])) : Int))) (brk (decide (x.1 + (↑(List.length (a0.getD (Int.toNat x.2) [])) : Int) < (0 : Int))) (none) (chk (InR (x.2 + 1)) (x_1 ((x.1 + (↑(List.length (a0.getD (Int.toNat x.2) [])) : Int), x.2 + 1))))))) (bnd (slices_Grow_Lint F (0 : Nat) x.1) (fun x_2 => loopC (fun (x_3 : List (List Int) × Int) => fun x_4 => brk (decide (x_3.2 < (↑a0.length : Int))) (chk (0 ≤ x_3.2 ∧ x_3.2 < (↑a0.length : Int)) (chk (List.length x_3.1 + List.length (a0.getD (Int.toNat x_3.2) []) ≤ (1000000000 : Nat)) (chk (InR (x_3.2 + 1)) (x_4 ((x_3.1 ++ a0.getD (Int.toNat x_3.2) [], x_3.2 + 1)))))) (some (x_3.1))) (F) ((x_2, (0 : Int)))))) (F) (((0 : Int), (0 : Int)))
def s44 (F : Nat) : CS E.G := ⟨44, [.sl 13], [.sl 6 22], fun x => slices_Concat_Lint F x.1⟩
theorem c44 (F : Nat) : CSok E [] (s44 F) := mkC (cx := ⟨[s85 F], [], F, [], []⟩) hf44 (by kernel_rfl) rfl (allC (c85 F) all0) ⟨inl0, all0⟩ (.l ⟨[.i, .i], [0, 160, 144], [0], [(48, .i IntKind.i64), (176, .i IntKind.i64)], [], [], [], 1⟩ (.c .n (.l ⟨[.l 6, .i], [416, 400], [0], [(96, .h 2 22 6), (432, .i IntKind.i64)], [], [], [], 3⟩ .n))) rfl (by kernel_rfl)
theorem hf45 : HF 45 Tryz.f45 := hK (by kernel_rfl)
def law12_FeesMonths_1 (F : Nat) (a0 : List Int) : Option (Bool) :=
 some (decide ((↑a0.length : Int) > (10 : Int)))
def s45 (F : Nat) : CS E.G := ⟨45, [.sl 0], [.v 1 false []], fun x => law12_FeesMonths_1 F x.1⟩
theorem c45 (F : Nat) : CSok E [] (s45 F) := mkC (cx := ⟨[], [], F, [], []⟩) hf45 (by kernel_rfl) rfl all0 ⟨inl0, all0⟩ .n rfl (by kernel_rfl)
theorem hf86 : HF 86 Tryz.f86 := hK (by kernel_rfl)
def kit_CopyList (F : Nat) (a0 : List Int) : Option ((List Int)) :=
 bnd (kit_CopyInts F a0) (fun x => some (x))
def s86 (F : Nat) : CS E.G := ⟨86, [.sl 0], [.sl 0 3], fun x => kit_CopyList F x.1⟩
theorem c86 (F : Nat) : CSok E [] (s86 F) := mkC (cx := ⟨[s30 F], [], F, [], []⟩) hf86 (by kernel_rfl) rfl (allC (c30 F) all0) ⟨inl0, all0⟩ .n rfl (by kernel_rfl)
theorem hf46 : HF 46 Tryz.f46 := hK (by kernel_rfl)
def kit_CopyLists (F : Nat) (a0 : List (List Int)) : Option ((List (List Int))) :=
 loopC (fun (x : Int × List (List Int)) => fun x_1 => brk (decide (x.1 < (↑a0.length : Int))) (chk (0 ≤ x.1 ∧ x.1 < (↑a0.length : Int)) (bnd (kit_CopyList F (a0.getD (Int.toNat x.1) [])) (fun x_2 => chk (List.length x.2 + [x_2].length ≤ (1000000000 : Nat)) (chk (InR (x.1 + 1)) (x_1 ((x.1 + 1, x.2 ++ [x_2]))))))) (some (x.2))) (F) (((0 : Int), []))
def s46 (F : Nat) : CS E.G := ⟨46, [.sl 6], [.sl 6 22], fun x => kit_CopyLists F x.1⟩
theorem c46 (F : Nat) : CSok E [] (s46 F) := mkC (cx := ⟨[s86 F], [], F, [], []⟩) hf46 (by kernel_rfl) rfl (allC (c86 F) all0) ⟨inl0, all0⟩ (.l ⟨[.i, .l 6], [0], [0], [(64, .i IntKind.i64), (48, .h 1 22 6)], [], [], [], 2⟩ .n) rfl (by kernel_rfl)
theorem hf47 : HF 47 Tryz.f47 := hK (by kernel_rfl)
theorem en47 : Proofs.Enters Tryz.prog 47 := mkE hf47 (by kernel_rfl) rfl
theorem hf89 : HF 89 Tryz.f89 := hK (by kernel_rfl)
def ref12_check (F : Nat) (a0 : State) : Option (Int) :=
 brk (decide ((↑a0.Deposits.length : Int) < (1 : Int)) || decide ((↑a0.Deposits.length : Int) > (10 : Int))) (some ((2 : Int))) (brk ((↑a0.Owed.length : Int) == (0 : Int)) (some ((1 : Int))) (chk (0 ≤ (0 : Int) ∧ (0 : Int) < (↑a0.Owed.length : Int)) (brk (decide ((↑(List.length (a0.Owed.getD (Int.toNat (0 : Int)) [])) : Int) < (1 : Int)) || decide ((↑(List.length (a0.Owed.getD (Int.toNat (0 : Int)) [])) : Int) > (6 : Int))) (some ((2 : Int))) (brk ((↑a0.Owed.length : Int) != (↑a0.Deposits.length : Int)) (some ((1 : Int))) (loopC (fun (x : Int) => fun x_1 => brk (decide (x < (↑a0.Owed.length : Int))) (chk (0 ≤ x ∧ x < (↑a0.Owed.length : Int)) (brk ((↑(List.length (a0.Owed.getD (Int.toNat x) [])) : Int) != (↑(List.length (a0.Owed.getD (Int.toNat (0 : Int)) [])) : Int)) (some ((1 : Int))) (chk (InR (x + 1)) (x_1 (x + 1))))) (loopC (fun (x_2 : Int) => fun x_3 => brk (decide (x_2 < (↑a0.Owed.length : Int))) (chk (0 ≤ x_2 ∧ x_2 < (↑a0.Deposits.length : Int)) (bnd (ref12_in F (a0.Deposits.getD (Int.toNat x_2) 0) 0 1000000000000) (fun x_4 => brk (!x_4) (some ((6 : Int))) (loopC (fun (x_5 : Int) => fun x_6 => brk (decide (x_5 < (↑(List.length (a0.Owed.getD (Int.toNat (0 : Int)) [])) : Int))) (chk (0 ≤ x_2 ∧ x_2 < (↑a0.Owed.length : Int)) (chk (0 ≤ x_5 ∧ x_5 < (↑(List.length (a0.Owed.getD (Int.toNat x_2) [])) : Int)) (bnd (ref12_in F (List.getD (a0.Owed.getD (Int.toNat x_2) []) (Int.toNat x_5) (0 : Int)) 0 1000000000000) (fun x_7 => brk (!x_7) (some ((6 : Int))) (chk (InR (x_5 + 1)) (x_6 (x_5 + 1))))))) (chk (InR (x_2 + 1)) (x_3 (x_2 + 1)))) (F) ((0 : Int)))))) (some ((0 : Int)))) (F) ((0 : Int)))) (F) ((0 : Int)))))))
def s89 (F : Nat) : CS E.G := ⟨89, [.v 14 true], [.v 0 false []], fun x => ref12_check F x.1⟩
theorem c89 (F : Nat) : CSok E [] (s89 F) := mkC (cx := ⟨[s62 F], [], F, [], []⟩) hf89 (by kernel_rfl) rfl (allC (c62 F) all0) ⟨inl0, all0⟩ (.c .n (.c .n (.c .n (.c .n (.l ⟨[.i], [16, 48], [2, 1, 0], [(64, .i IntKind.i64)], [], [], [], 4⟩ (.c .n (.l ⟨[.i], [16, 48], [2, 1, 0], [(80, .i IntKind.i64)], [], [], [], 4⟩ (.c (.c .n (.l ⟨[.i], [16, 48, 80], [2, 1, 0], [(96, .i IntKind.i64)], [], [], [], 4⟩ (.c .n .n))) .n)))))))) rfl (by kernel_rfl)
theorem hf90 : HF 90 Tryz.f90 := hK (by kernel_rfl)
def ref12_settle (F : Nat) (a0 : State) : Option (State × (List (List Int))) :=
 loopC (fun (x : Int × List (List Int) × List (List Int) × List Int) => fun x_1 => brk (decide (x.1 < (↑a0.Deposits.length : Int))) (chk (0 ≤ x.1 ∧ x.1 < (↑a0.Owed.length : Int)) (chk (0 ≤ x.1 ∧ x.1 < (↑a0.Deposits.length : Int)) (bnd (ref12_awards F (a0.Owed.getD (Int.toNat x.1) []) (a0.Deposits.getD (Int.toNat x.1) 0)) (fun x_2 => chk (0 ≤ x.1 ∧ x.1 < (↑a0.Deposits.length : Int)) (loopC (fun (x_3 : Int × Int × List Int) => fun x_4 => brk (decide (x_3.2.1 < (↑(List.length x_2) : Int))) (chk (0 ≤ x_3.2.1 ∧ x_3.2.1 < (↑(List.length x_2) : Int)) (chk (InR (x_3.1 - List.getD x_2 (Int.toNat x_3.2.1) (0 : Int))) (chk (0 ≤ x.1 ∧ x.1 < (↑a0.Owed.length : Int)) (chk (0 ≤ x_3.2.1 ∧ x_3.2.1 < (↑(List.length (a0.Owed.getD (Int.toNat x.1) [])) : Int)) (chk (0 ≤ x_3.2.1 ∧ x_3.2.1 < (↑(List.length x_2) : Int)) (chk (InR (List.getD (a0.Owed.getD (Int.toNat x.1) []) (Int.toNat x_3.2.1) (0 : Int) - List.getD x_2 (Int.toNat x_3.2.1) (0 : Int))) (chk (List.length x_3.2.2 + [List.getD (a0.Owed.getD (Int.toNat x.1) []) (Int.toNat x_3.2.1) (0 : Int) - List.getD x_2 (Int.toNat x_3.2.1) (0 : Int)].length ≤ (1000000000 : Nat)) (chk (InR (x_3.2.1 + 1)) (x_4 ((x_3.1 - List.getD x_2 (Int.toNat x_3.2.1) (0 : Int), x_3.2.1 + 1, x_3.2.2 ++ [List.getD (a0.Owed.getD (Int.toNat x.1) []) (Int.toNat x_3.2.1) (0 : Int) - List.getD x_2 (Int.toNat x_3.2.1) (0 : Int)]))))))))))) (chk (List.length x.2.2.2 + [x_3.1].length ≤ (1000000000 : Nat)) (chk (List.length x.2.2.1 + [x_3.2.2].length ≤ (1000000000 : Nat)) (chk (List.length x.2.1 + [x_2].length ≤ (1000000000 : Nat)) (chk (InR (x.1 + 1)) (x_1 ((x.1 + 1, x.2.1 ++ [x_2], x.2.2.1 ++ [x_3.2.2], x.2.2.2 ++ [x_3.1])))))))) (F) ((a0.Deposits.getD (Int.toNat x.1) 0, (0 : Int), []))))))) (some ((State.mk x.2.2.2 x.2.2.1, x.2.1)))) (F) (((0 : Int), [], [], []))
def s90 (F : Nat) : CS E.G := ⟨90, [.v 14 true], [.v 14 true [3, 22], .sl 6 22], fun x => ref12_settle F x.1⟩
theorem c90 (F : Nat) : CSok E [] (s90 F) := mkC (cx := ⟨[s83 F], [], F, [], []⟩) hf90 (by kernel_rfl) rfl (allC (c83 F) all0) ⟨inl0, all0⟩ (.l ⟨[.i, .l 6, .l 6, .l 0], [16, 32, 64], [2, 3, 4, 1, 0], [(96, .i IntKind.i64), (80, .h 5 22 6)], [], [(4, 1, .h 6 22 6), (4, 0, .h 7 3 0)], [], 8⟩ (.c (.l ⟨[.i, .i, .l 0], [16, 32, 64, 96, 80, 112], [2, 3, 4, 5, 9, 1, 0, 6, 7], [(128, .i IntKind.i64), (160, .i IntKind.i64), (144, .h 10 3 0)], [], [], [], 11⟩ .n) .n)) rfl (by kernel_rfl)
theorem hf48 : HF 48 Tryz.f48 := hK (by kernel_rfl)
def ref12_Settle (F : Nat) (a0 : State) : Option (State × (List (List Int)) × Int) :=
 bnd (ref12_check F a0) (fun x => brk (x != (0 : Int)) (some ((State.mk [] [], [], x))) (bnd (ref12_settle F a0) (fun x_1 => some ((x_1.1, x_1.2, (0 : Int))))))
def s48 (F : Nat) : CS E.G := ⟨48, [.v 14 true], [.v 14 true [3, 22], .sl 6 22, .v 0 false []], fun x => ref12_Settle F x.1⟩
theorem c48 (F : Nat) : CSok E [] (s48 F) := mkC (cx := ⟨[s89 F, s90 F], [], F, [], []⟩) hf48 (by kernel_rfl) rfl (allC (c89 F) (allC (c90 F) all0)) ⟨inl0, all0⟩ .n rfl (by kernel_rfl)
theorem hf91 : HF 91 Tryz.f91 := hK (by kernel_rfl)
def kit_SameList (F : Nat) (a0 : List Int) (a1 : List Int) : Option (Bool) :=
 bnd (kit_SameInts F a0 a1) (fun x => some (x))
def s91 (F : Nat) : CS E.G := ⟨91, [.sl 0, .sl 0], [.v 1 false []], fun x => kit_SameList F x.1 x.2.1⟩
theorem c91 (F : Nat) : CSok E [] (s91 F) := mkC (cx := ⟨[s36 F], [], F, [], []⟩) hf91 (by kernel_rfl) rfl (allC (c36 F) all0) ⟨inl0, all0⟩ .n rfl (by kernel_rfl)
theorem hf49 : HF 49 Tryz.f49 := hK (by kernel_rfl)
theorem en49 : Proofs.Enters Tryz.prog 49 := mkE hf49 (by kernel_rfl) rfl
theorem hf51 : HF 51 Tryz.f51 := hK (by kernel_rfl)
def ref12_Month (F : Nat) (a0 : State) (a1 : List Int) (a2 : List (List Int)) (a3 : Int) : Option (State × (List (List Int)) × Int) :=
 bnd (ref12_check F a0) (fun x => brk (x != (0 : Int)) (some ((State.mk [] [], [], x))) (brk ((↑a1.length : Int) != (↑a0.Deposits.length : Int) || (↑a2.length : Int) != (↑a0.Deposits.length : Int)) (some ((State.mk [] [], [], (1 : Int)))) (loopC (fun (x_1 : Int) => fun x_2 => brk (decide (x_1 < (↑a2.length : Int))) (chk (0 ≤ x_1 ∧ x_1 < (↑a2.length : Int)) (chk (0 ≤ (0 : Int) ∧ (0 : Int) < (↑a0.Owed.length : Int)) (brk ((↑(List.length (a2.getD (Int.toNat x_1) [])) : Int) != (↑(List.length (a0.Owed.getD (Int.toNat (0 : Int)) [])) : Int)) (some ((State.mk [] [], [], (1 : Int)))) (chk (InR (x_1 + 1)) (x_2 (x_1 + 1)))))) (bnd (ref12_in F a3 0 100) (fun x_3 => brk (!x_3) (some ((State.mk [] [], [], (6 : Int)))) (loopC (fun (x_4 : Int) => fun x_5 => brk (decide (x_4 < (↑a2.length : Int))) (chk (0 ≤ x_4 ∧ x_4 < (↑a1.length : Int)) (bnd (ref12_in F (a1.getD (Int.toNat x_4) 0) 0 1000000000000) (fun x_6 => brk (!x_6) (some ((State.mk [] [], [], (6 : Int)))) (loopC (fun (x_7 : Int) => fun x_8 => chk (0 ≤ x_4 ∧ x_4 < (↑a2.length : Int)) (brk (decide (x_7 < (↑(List.length (a2.getD (Int.toNat x_4) [])) : Int))) (chk (0 ≤ x_4 ∧ x_4 < (↑a2.length : Int)) (chk (0 ≤ x_7 ∧ x_7 < (↑(List.length (a2.getD (Int.toNat x_4) [])) : Int)) (bnd (ref12_in F (List.getD (a2.getD (Int.toNat x_4) []) (Int.toNat x_7) (0 : Int)) 0 1000000000000) (fun x_9 => brk (!x_9) (some ((State.mk [] [], [], (6 : Int)))) (chk (InR (x_7 + 1)) (x_8 (x_7 + 1))))))) (chk (InR (x_4 + 1)) (x_5 (x_4 + 1))))) (F) ((0 : Int)))))) (loopC (fun (x_6 : Int × List (List Int) × List Int) => fun x_7 => brk (decide (x_6.1 < (↑a2.length : Int))) (chk (0 ≤ x_6.1 ∧ x_6.1 < (↑a0.Deposits.length : Int)) (chk (0 ≤ x_6.1 ∧ x_6.1 < (↑a1.length : Int)) (chk (InR (a0.Deposits.getD (Int.toNat x_6.1) 0 + a1.getD (Int.toNat x_6.1) 0)) (brk (decide (a0.Deposits.getD (Int.toNat x_6.1) 0 + a1.getD (Int.toNat x_6.1) 0 > (1000000000000 : Int))) (some ((State.mk [] [], [], (8 : Int)))) (chk (List.length x_6.2.2 + [a0.Deposits.getD (Int.toNat x_6.1) 0 + a1.getD (Int.toNat x_6.1) 0].length ≤ (1000000000 : Nat)) (loopC (fun (x_8 : List Int × Int) => fun x_9 => chk (0 ≤ x_6.1 ∧ x_6.1 < (↑a2.length : Int)) (brk (decide (x_8.2 < (↑(List.length (a2.getD (Int.toNat x_6.1) [])) : Int))) (chk (0 ≤ x_6.1 ∧ x_6.1 < (↑a0.Owed.length : Int)) (chk (0 ≤ x_8.2 ∧ x_8.2 < (↑(List.length (a0.Owed.getD (Int.toNat x_6.1) [])) : Int)) (chk (InR (List.getD (a0.Owed.getD (Int.toNat x_6.1) []) (Int.toNat x_8.2) (0 : Int) * a3)) (chk ((0 : Int) ≤ List.getD (a0.Owed.getD (Int.toNat x_6.1) []) (Int.toNat x_8.2) (0 : Int) * a3 ∧ List.getD (a0.Owed.getD (Int.toNat x_6.1) []) (Int.toNat x_8.2) (0 : Int) * a3 ≤ 9223372036854775807) (join (F) (fun (x_10 : Int) => chk (0 ≤ x_6.1 ∧ x_6.1 < (↑a0.Owed.length : Int)) (chk (0 ≤ x_8.2 ∧ x_8.2 < (↑(List.length (a0.Owed.getD (Int.toNat x_6.1) [])) : Int)) (chk (InR (List.getD (a0.Owed.getD (Int.toNat x_6.1) []) (Int.toNat x_8.2) (0 : Int) + x_10)) (chk (0 ≤ x_6.1 ∧ x_6.1 < (↑a2.length : Int)) (chk (0 ≤ x_8.2 ∧ x_8.2 < (↑(List.length (a2.getD (Int.toNat x_6.1) [])) : Int)) (chk (InR (List.getD (a0.Owed.getD (Int.toNat x_6.1) []) (Int.toNat x_8.2) (0 : Int) + x_10 + List.getD (a2.getD (Int.toNat x_6.1) []) (Int.toNat x_8.2) (0 : Int))) (brk (decide (List.getD (a0.Owed.getD (Int.toNat x_6.1) []) (Int.toNat x_8.2) (0 : Int) + x_10 + List.getD (a2.getD (Int.toNat x_6.1) []) (Int.toNat x_8.2) (0 : Int) > (1000000000000 : Int))) (some ((State.mk [] [], [], (8 : Int)))) (chk (List.length x_8.1 + [List.getD (a0.Owed.getD (Int.toNat x_6.1) []) (Int.toNat x_8.2) (0 : Int) + x_10 + List.getD (a2.getD (Int.toNat x_6.1) []) (Int.toNat x_8.2) (0 : Int)].length ≤ (1000000000 : Nat)) (chk (InR (x_8.2 + 1)) (x_9 ((x_8.1 ++ [List.getD (a0.Owed.getD (Int.toNat x_6.1) []) (Int.toNat x_8.2) (0 : Int) + x_10 + List.getD (a2.getD (Int.toNat x_6.1) []) (Int.toNat x_8.2) (0 : Int)], x_8.2 + 1)))))))))))) (fun x_10 => chk (InR (List.getD (a0.Owed.getD (Int.toNat x_6.1) []) (Int.toNat x_8.2) (0 : Int) * a3 / (100 : Int) * (100 : Int))) (chk (0 ≤ x_6.1 ∧ x_6.1 < (↑a0.Owed.length : Int)) (chk (0 ≤ x_8.2 ∧ x_8.2 < (↑(List.length (a0.Owed.getD (Int.toNat x_6.1) [])) : Int)) (chk (InR (List.getD (a0.Owed.getD (Int.toNat x_6.1) []) (Int.toNat x_8.2) (0 : Int) * a3)) (brk (decide (List.getD (a0.Owed.getD (Int.toNat x_6.1) []) (Int.toNat x_8.2) (0 : Int) * a3 / (100 : Int) * (100 : Int) < List.getD (a0.Owed.getD (Int.toNat x_6.1) []) (Int.toNat x_8.2) (0 : Int) * a3)) (chk (InR (List.getD (a0.Owed.getD (Int.toNat x_6.1) []) (Int.toNat x_8.2) (0 : Int) * a3 / (100 : Int) + (1 : Int))) (x_10 (List.getD (a0.Owed.getD (Int.toNat x_6.1) []) (Int.toNat x_8.2) (0 : Int) * a3 / (100 : Int) + (1 : Int)))) (x_10 (List.getD (a0.Owed.getD (Int.toNat x_6.1) []) (Int.toNat x_8.2) (0 : Int) * a3 / (100 : Int))))))))))))) (chk (List.length x_6.2.1 + [x_8.1].length ≤ (1000000000 : Nat)) (chk (InR (x_6.1 + 1)) (x_7 ((x_6.1 + 1, x_6.2.1 ++ [x_8.1], x_6.2.2 ++ [a0.Deposits.getD (Int.toNat x_6.1) 0 + a1.getD (Int.toNat x_6.1) 0]))))))) (F) (([], (0 : Int))))))))) (bnd (ref12_settle F (State.mk x_6.2.2 x_6.2.1)) (fun x_8 => some ((x_8.1, x_8.2, (0 : Int)))))) (F) (((0 : Int), [], [])))) (F) ((0 : Int)))))) (F) ((0 : Int)))))
def s51 (F : Nat) : CS E.G := ⟨51, [.v 14 true, .sl 0, .sl 6, .v 0 false], [.v 14 true [3, 22], .sl 6 22, .v 0 false []], fun x => ref12_Month F x.1 x.2.1 x.2.2.1 x.2.2.2.1⟩
theorem c51 (F : Nat) : CSok E [] (s51 F) := mkC (cx := ⟨[s62 F, s89 F, s90 F], [], F, [], []⟩) hf51 (by kernel_rfl) rfl (allC (c62 F) (allC (c89 F) (allC (c90 F) all0))) ⟨inl0, all0⟩ (.c .n (.c .n (.l ⟨[.i], [16, 32, 64, 128, 48], [2, 3, 4, 5, 1, 0], [(192, .i IntKind.i64)], [], [], [], 6⟩ (.c .n (.c .n (.l ⟨[.i], [16, 32, 64, 128, 48], [2, 3, 4, 5, 1, 0], [(208, .i IntKind.i64)], [], [], [], 6⟩ (.c (.c .n (.l ⟨[.i], [16, 32, 64, 128, 48, 208], [2, 3, 4, 5, 1, 0], [(224, .i IntKind.i64)], [], [], [], 6⟩ (.c .n .n))) (.l ⟨[.i, .l 6, .l 0], [16, 32, 64, 128, 48, 240], [2, 3, 4, 5, 6, 1, 0], [(256, .i IntKind.i64)], [], [(6, 1, .h 7 22 6), (6, 0, .h 8 3 0)], [], 9⟩ (.c (.c .n (.l ⟨[.l 0, .i], [16, 32, 64, 128, 256, 48, 240], [2, 3, 4, 5, 6, 1, 0, 7, 10], [(288, .h 11 3 0), (304, .i IntKind.i64)], [], [], [], 12⟩ (.c (.k (.k (.j ⟨[.i], [16, 32, 64, 128, 256, 288, 48, 304, 240], [2, 3, 4, 5, 11, 6, 1, 0, 7, 10], [(320, .i IntKind.i64)], [], [], [], 14⟩ .n .n))) .n))) .n))))))))) rfl (by kernel_rfl)
theorem hf52 : HF 52 Tryz.f52 := hK (by kernel_rfl)
def fees_Sum (F : Nat) (a0 : State) : Option (Int × Int × Int) :=
 bnd (fees_State_check F a0) (fun x => brk (x != (0 : Int)) (some (((0 : Int), (0 : Int), x))) (loopC (fun (x_1 : Int × Int × Int) => fun x_2 => brk (decide (x_1.1 < (↑a0.Deposits.length : Int))) (chk (0 ≤ x_1.1 ∧ x_1.1 < (↑a0.Deposits.length : Int)) (chk (InR (x_1.2.1 + a0.Deposits.getD (Int.toNat x_1.1) 0)) (chk (0 ≤ x_1.1 ∧ x_1.1 < (↑a0.Owed.length : Int)) (loopC (fun (x_3 : Int × Int) => fun x_4 => brk (decide (x_3.1 < (↑(List.length (a0.Owed.getD (Int.toNat x_1.1) [])) : Int))) (chk (0 ≤ x_3.1 ∧ x_3.1 < (↑(List.length (a0.Owed.getD (Int.toNat x_1.1) [])) : Int)) (chk (InR (x_3.2 + List.getD (a0.Owed.getD (Int.toNat x_1.1) []) (Int.toNat x_3.1) (0 : Int))) (chk (InR (x_3.1 + 1)) (x_4 ((x_3.1 + 1, x_3.2 + List.getD (a0.Owed.getD (Int.toNat x_1.1) []) (Int.toNat x_3.1) (0 : Int))))))) (chk (InR (x_1.1 + 1)) (x_2 ((x_1.1 + 1, x_1.2.1 + a0.Deposits.getD (Int.toNat x_1.1) 0, x_3.2))))) (F) (((0 : Int), x_1.2.2)))))) (some ((x_1.2.1, x_1.2.2, (0 : Int))))) (F) (((0 : Int), (0 : Int), (0 : Int)))))
def s52 (F : Nat) : CS E.G := ⟨52, [.v 14 true], [.v 0 false [], .v 0 false [], .v 0 false []], fun x => fees_Sum F x.1⟩
theorem c52 (F : Nat) : CSok E [] (s52 F) := mkC (cx := ⟨[s87 F], [], F, [], []⟩) hf52 (by kernel_rfl) rfl (allC (c87 F) all0) ⟨inl0, all0⟩ (.c .n (.l ⟨[.i, .i, .i], [16, 288, 304], [2, 0, 1], [(320, .i IntKind.i64), (96, .i IntKind.i64), (112, .i IntKind.i64)], [], [], [], 3⟩ (.c (.l ⟨[.i, .i], [16, 512, 320, 96, 288, 528, 304], [2, 3, 0, 1], [(544, .i IntKind.i64), (112, .i IntKind.i64)], [], [], [], 4⟩ .n) .n))) rfl (by kernel_rfl)
theorem hf53 : HF 53 Tryz.f53 := hK (by kernel_rfl)
def ref12_Sum (F : Nat) (a0 : State) : Option (Int × Int × Int) :=
 bnd (ref12_check F a0) (fun x => brk (x != (0 : Int)) (some (((0 : Int), (0 : Int), x))) (loopC (fun (x_1 : Int × Int × Int) => fun x_2 => brk (decide (x_1.1 < (↑a0.Deposits.length : Int))) (chk (0 ≤ x_1.1 ∧ x_1.1 < (↑a0.Deposits.length : Int)) (chk (InR (x_1.2.1 + a0.Deposits.getD (Int.toNat x_1.1) 0)) (loopC (fun (x_3 : Int × Int) => fun x_4 => chk (0 ≤ x_1.1 ∧ x_1.1 < (↑a0.Owed.length : Int)) (brk (decide (x_3.1 < (↑(List.length (a0.Owed.getD (Int.toNat x_1.1) [])) : Int))) (chk (0 ≤ x_1.1 ∧ x_1.1 < (↑a0.Owed.length : Int)) (chk (0 ≤ x_3.1 ∧ x_3.1 < (↑(List.length (a0.Owed.getD (Int.toNat x_1.1) [])) : Int)) (chk (InR (x_3.2 + List.getD (a0.Owed.getD (Int.toNat x_1.1) []) (Int.toNat x_3.1) (0 : Int))) (chk (InR (x_3.1 + 1)) (x_4 ((x_3.1 + 1, x_3.2 + List.getD (a0.Owed.getD (Int.toNat x_1.1) []) (Int.toNat x_3.1) (0 : Int)))))))) (chk (InR (x_1.1 + 1)) (x_2 ((x_1.1 + 1, x_1.2.1 + a0.Deposits.getD (Int.toNat x_1.1) 0, x_3.2)))))) (F) (((0 : Int), x_1.2.2))))) (some ((x_1.2.1, x_1.2.2, (0 : Int))))) (F) (((0 : Int), (0 : Int), (0 : Int)))))
def s53 (F : Nat) : CS E.G := ⟨53, [.v 14 true], [.v 0 false [], .v 0 false [], .v 0 false []], fun x => ref12_Sum F x.1⟩
theorem c53 (F : Nat) : CSok E [] (s53 F) := mkC (cx := ⟨[s89 F], [], F, [], []⟩) hf53 (by kernel_rfl) rfl (allC (c89 F) all0) ⟨inl0, all0⟩ (.c .n (.l ⟨[.i, .i, .i], [16], [2, 1, 0], [(128, .i IntKind.i64), (96, .i IntKind.i64), (112, .i IntKind.i64)], [], [], [], 3⟩ (.c (.l ⟨[.i, .i], [16, 128, 96], [2, 1, 0], [(144, .i IntKind.i64), (112, .i IntKind.i64)], [], [], [], 3⟩ .n) .n))) rfl (by kernel_rfl)
theorem hf8 : HF 8 Tryz.f8 := hK (by kernel_rfl)
def law12_FeesMonths (F : Nat) (a0 : State) (a1 : List Int) (a2 : List (List Int)) (a3 : Int) : Option (Bool) :=
 brk (decide ((↑a0.Deposits.length : Int) > (14 : Int))) (bnd (law12_awake F) (fun x => some (x))) (brk (decide ((↑a0.Owed.length : Int) > (14 : Int))) (bnd (law12_awake F) (fun x => some (x))) (brk (decide ((↑a1.length : Int) > (14 : Int))) (bnd (law12_awake F) (fun x => some (x))) (brk (decide ((↑a2.length : Int) > (14 : Int))) (bnd (law12_awake F) (fun x => some (x))) (bnd (slices_Concat_Lint F [a0.Owed, a2]) (fun x => join (F) (fun (x_1 : Int) => brk (decide (x_1 ≥ (0 : Int))) (bnd (law12_awake F) (fun x_2 => some (x_2))) (bnd (kit_CopyInts F a0.Deposits) (fun x_2 => bnd (kit_CopyLists F a0.Owed) (fun x_3 => bnd (kit_CopyInts F a1) (fun x_4 => bnd (kit_CopyLists F a2) (fun x_5 => bnd (kit_CopyInts F a0.Deposits) (fun x_6 => bnd (kit_CopyLists F a0.Owed) (fun x_7 => join (F) (fun (x_8 : List Int × List (List Int) × List (List Int) × Int) => bnd (ref12_Settle F (State.mk x_6 x_7)) (fun x_9 => brk (x_8.2.2.2 != x_9.2.2) (some (false)) (bnd (kit_SameInts F x_8.1 x_9.1.Deposits) (fun x_10 => brk (!x_10) (some (false)) (join (F) (fun (x_11 : Bool × List (List Int)) => brk (!x_11.1) (some (false)) (join (F) (fun (x_12 : Bool) => brk (!x_12) (some (false)) (loopC (fun (x_13 : Int × List (List Int)) => fun x_14 => brk (decide (x_13.1 < (↑(List.length x_11.2) : Int))) (chk (0 ≤ x_13.1 ∧ x_13.1 < (↑(List.length x_13.2) : Int)) (loopC (fun (x_15 : Int × List (List Int)) => fun x_16 => brk (decide (x_15.1 < (↑(List.length (List.getD x_13.2 (Int.toNat x_13.1) [])) : Int))) (chk (0 ≤ x_13.1 ∧ x_13.1 < (↑(List.length x_15.2) : Int)) (chk (0 ≤ x_15.1 ∧ x_15.1 < (↑(List.length (List.getD x_15.2 (Int.toNat x_13.1) [])) : Int)) (chk (InR (List.getD (List.getD x_15.2 (Int.toNat x_13.1) []) (Int.toNat x_15.1) (0 : Int) + (1 : Int))) (chk (0 ≤ x_15.1 ∧ x_15.1 < (↑(List.length (List.getD x_15.2 (Int.toNat x_13.1) [])) : Int)) (chk (InR (x_15.1 + 1)) (x_16 ((x_15.1 + 1, List.set x_15.2 (Int.toNat x_13.1) (List.set (List.getD x_15.2 (Int.toNat x_13.1) []) (Int.toNat x_15.1) (List.getD (List.getD x_15.2 (Int.toNat x_13.1) []) (Int.toNat x_15.1) (0 : Int) + (1 : Int))))))))))) (chk (InR (x_13.1 + 1)) (x_14 ((x_13.1 + 1, x_15.2))))) (F) (((0 : Int), List.set x_13.2 (Int.toNat x_13.1) (List.getD x_13.2 (Int.toNat x_13.1) []))))) (bnd (fees_Month F (State.mk x_2 x_3) x_4 x_5 a3) (fun x_15 => bnd (ref12_Month F (State.mk x_6 x_7) a1 a2 a3) (fun x_16 => brk (x_15.2.2 != x_16.2.2) (some (false)) (bnd (kit_SameInts F x_15.1.Deposits x_16.1.Deposits) (fun x_17 => brk (!x_17) (some (false)) (join (F) (fun (x_18 : Bool) => brk (!x_18) (some (false)) (join (F) (fun (x_19 : Bool) => brk (!x_19) (some (false)) (bnd (fees_Sum F (State.mk x_2 x_3)) (fun x_20 => bnd (ref12_Sum F (State.mk x_6 x_7)) (fun x_21 => brk (x_20.1 == x_21.1 && x_20.2.1 == x_21.2.1) (brk (x_20.2.2 == x_21.2.2) (bnd (kit_SameInts F x_2 a0.Deposits) (fun x_22 => brk (x_22) (join (F) (fun (x_23 : Bool) => brk (x_23) (bnd (kit_SameInts F x_4 a1) (fun x_24 => brk (x_24) (join (F) (fun (x_25 : Bool) => bnd (brk x_25 (law12_awake F) (some false)) (fun x_26 => some (x_25 && x_26))) (fun x_25 => brk ((↑(List.length x_5) : Int) != (↑a2.length : Int)) (x_25 (false)) (loopC (fun (x_26 : Int) => fun x_27 => brk (decide (x_26 < (↑(List.length x_5) : Int))) (chk (0 ≤ x_26 ∧ x_26 < (↑(List.length x_5) : Int)) (chk (0 ≤ x_26 ∧ x_26 < (↑a2.length : Int)) (bnd (kit_SameList F (List.getD x_5 (Int.toNat x_26) []) (a2.getD (Int.toNat x_26) [])) (fun x_28 => brk (!x_28) (x_25 (false)) (chk (InR (x_26 + 1)) (x_27 (x_26 + 1))))))) (x_25 (true))) (F) ((0 : Int))))) (some (false)))) (some (false))) (fun x_23 => brk ((↑(List.length x_3) : Int) != (↑a0.Owed.length : Int)) (x_23 (false)) (loopC (fun (x_24 : Int) => fun x_25 => brk (decide (x_24 < (↑(List.length x_3) : Int))) (chk (0 ≤ x_24 ∧ x_24 < (↑(List.length x_3) : Int)) (chk (0 ≤ x_24 ∧ x_24 < (↑a0.Owed.length : Int)) (bnd (kit_SameList F (List.getD x_3 (Int.toNat x_24) []) (a0.Owed.getD (Int.toNat x_24) [])) (fun x_26 => brk (!x_26) (x_23 (false)) (chk (InR (x_24 + 1)) (x_25 (x_24 + 1))))))) (x_23 (true))) (F) ((0 : Int))))) (some (false)))) (some (false))) (some (false)))))) (fun x_19 => brk ((↑(List.length x_15.2.1) : Int) != (↑(List.length x_16.2.1) : Int)) (x_19 (false)) (loopC (fun (x_20 : Int) => fun x_21 => brk (decide (x_20 < (↑(List.length x_15.2.1) : Int))) (chk (0 ≤ x_20 ∧ x_20 < (↑(List.length x_15.2.1) : Int)) (chk (0 ≤ x_20 ∧ x_20 < (↑(List.length x_16.2.1) : Int)) (bnd (kit_SameList F (List.getD x_15.2.1 (Int.toNat x_20) []) (List.getD x_16.2.1 (Int.toNat x_20) [])) (fun x_22 => brk (!x_22) (x_19 (false)) (chk (InR (x_20 + 1)) (x_21 (x_20 + 1))))))) (x_19 (true))) (F) ((0 : Int)))))) (fun x_18 => brk ((↑x_15.1.Owed.length : Int) != (↑x_16.1.Owed.length : Int)) (x_18 (false)) (loopC (fun (x_19 : Int) => fun x_20 => brk (decide (x_19 < (↑x_15.1.Owed.length : Int))) (chk (0 ≤ x_19 ∧ x_19 < (↑x_15.1.Owed.length : Int)) (chk (0 ≤ x_19 ∧ x_19 < (↑x_16.1.Owed.length : Int)) (bnd (kit_SameList F (x_15.1.Owed.getD (Int.toNat x_19) []) (x_16.1.Owed.getD (Int.toNat x_19) [])) (fun x_21 => brk (!x_21) (x_18 (false)) (chk (InR (x_19 + 1)) (x_20 (x_19 + 1))))))) (x_18 (true))) (F) ((0 : Int))))))))))) (F) (((0 : Int), x_11.2)))) (fun x_12 => brk ((↑(List.length x_8.2.2.1) : Int) != (↑(List.length x_9.2.1) : Int)) (x_12 (false)) (loopC (fun (x_13 : Int) => fun x_14 => brk (decide (x_13 < (↑(List.length x_8.2.2.1) : Int))) (chk (0 ≤ x_13 ∧ x_13 < (↑(List.length x_8.2.2.1) : Int)) (chk (0 ≤ x_13 ∧ x_13 < (↑(List.length x_9.2.1) : Int)) (bnd (kit_SameList F (List.getD x_8.2.2.1 (Int.toNat x_13) []) (List.getD x_9.2.1 (Int.toNat x_13) [])) (fun x_15 => brk (!x_15) (x_12 (false)) (chk (InR (x_13 + 1)) (x_14 (x_13 + 1))))))) (x_12 (true))) (F) ((0 : Int)))))) (fun x_11 => brk ((↑(List.length x_8.2.1) : Int) != (↑x_9.1.Owed.length : Int)) (x_11 ((false, x_8.2.1))) (loopC (fun (x_12 : Int × List (List Int)) => fun x_13 => brk (decide (x_12.1 < (↑(List.length x_12.2) : Int))) (chk (0 ≤ x_12.1 ∧ x_12.1 < (↑(List.length x_12.2) : Int)) (chk (0 ≤ x_12.1 ∧ x_12.1 < (↑x_9.1.Owed.length : Int)) (bnd (kit_SameList F (List.getD x_12.2 (Int.toNat x_12.1) []) (x_9.1.Owed.getD (Int.toNat x_12.1) [])) (fun x_14 => brk (!x_14) (x_11 ((false, List.set x_12.2 (Int.toNat x_12.1) (List.getD x_12.2 (Int.toNat x_12.1) [])))) (chk (InR (x_12.1 + 1)) (x_13 ((x_12.1 + 1, List.set x_12.2 (Int.toNat x_12.1) (List.getD x_12.2 (Int.toNat x_12.1) []))))))))) (x_11 ((true, x_12.2)))) (F) (((0 : Int), x_8.2.1))))))))) (fun x_8 => bnd (fees_State_check F (State.mk x_2 x_3)) (fun x_9 => brk (x_9 != (0 : Int)) (x_8 (([], [], [], x_9))) (bnd (slices_Clone_int F x_2) (fun x_10 => loopC (fun (x_11 : List (List Int) × Int × List (List Int) × List Int) => fun x_12 => brk (decide (x_11.2.1 < (↑(List.length x_3) : Int))) (chk (0 ≤ x_11.2.1 ∧ x_11.2.1 < (↑(List.length x_3) : Int)) (chk (0 ≤ x_11.2.1 ∧ x_11.2.1 < (↑(List.length x_2) : Int)) (bnd (fees_awards F (List.getD x_3 (Int.toNat x_11.2.1) []) (List.getD x_2 (Int.toNat x_11.2.1) (0 : Int))) (fun x_13 => bnd (slices_Clone_int F (List.getD x_3 (Int.toNat x_11.2.1) [])) (fun x_14 => loopC (fun (x_15 : Int × List Int × List Int) => fun x_16 => brk (decide (x_15.1 < (↑(List.length x_13) : Int))) (chk (0 ≤ x_15.1 ∧ x_15.1 < (↑(List.length x_13) : Int)) (chk (0 ≤ x_15.1 ∧ x_15.1 < (↑(List.length x_15.2.1) : Int)) (chk (InR (List.getD x_15.2.1 (Int.toNat x_15.1) (0 : Int) - List.getD x_13 (Int.toNat x_15.1) (0 : Int))) (chk (0 ≤ x_15.1 ∧ x_15.1 < (↑(List.length x_15.2.1) : Int)) (chk (0 ≤ x_11.2.1 ∧ x_11.2.1 < (↑(List.length x_15.2.2) : Int)) (chk (InR (List.getD x_15.2.2 (Int.toNat x_11.2.1) (0 : Int) - List.getD x_13 (Int.toNat x_15.1) (0 : Int))) (chk (0 ≤ x_11.2.1 ∧ x_11.2.1 < (↑(List.length x_15.2.2) : Int)) (chk (InR (x_15.1 + 1)) (x_16 ((x_15.1 + 1, List.set x_15.2.1 (Int.toNat x_15.1) (List.getD x_15.2.1 (Int.toNat x_15.1) (0 : Int) - List.getD x_13 (Int.toNat x_15.1) (0 : Int)), List.set x_15.2.2 (Int.toNat x_11.2.1) (List.getD x_15.2.2 (Int.toNat x_11.2.1) (0 : Int) - List.getD x_13 (Int.toNat x_15.1) (0 : Int))))))))))))) (chk (List.length x_11.2.2.1 + (1 : Nat) ≤ (1000000 : Nat)) (chk (List.length x_11.1 + [x_13].length ≤ (1000000000 : Nat)) (chk (InR (x_11.2.1 + 1)) (x_12 ((x_11.1 ++ [x_13], x_11.2.1 + 1, x_11.2.2.1 ++ [x_15.2.1], x_15.2.2))))))) (F) (((0 : Int), x_14, x_11.2.2.2))))))) (x_8 ((x_11.2.2.2, x_11.2.2.1, x_11.1, (0 : Int))))) (F) (([], (0 : Int), [], x_10)))))))))))))) (fun x_1 => loopC (fun (x_2 : Int) => fun x_3 => brk (decide (x_2 < (↑(List.length x) : Int))) (chk (0 ≤ x_2 ∧ x_2 < (↑(List.length x) : Int)) (bnd (law12_FeesMonths_1 F (List.getD x (Int.toNat x_2) [])) (fun x_4 => brk (x_4) (x_1 (x_2)) (chk (InR (x_2 + 1)) (x_3 (x_2 + 1)))))) (x_1 ((-1 : Int)))) (F) ((0 : Int))))))))
def s8 (F : Nat) : CS E.G := ⟨8, [.v 14 true, .sl 0, .sl 6, .v 0 false], [.v 1 false []], fun x => law12_FeesMonths F x.1 x.2.1 x.2.2.1 x.2.2.2.1⟩
theorem c8 (F : Nat) : CSok E [] (s8 F) := mkC (cx := ⟨[s13 F, s30 F, s36 F, s44 F, s45 F, s46 F, s87 F, s82 F, s106 F, s48 F, s91 F, s50 F, s51 F, s52 F, s53 F], [(43, Tryz.f43), (84, Tryz.f84), (47, Tryz.f47), (88, Tryz.f88), (49, Tryz.f49)], F, [(14, 3), (14, 4)], []⟩) hf8 (by kernel_rfl) rfl (allC (c13 F) (allC (c30 F) (allC (c36 F) (allC (c44 F) (allC (c45 F) (allC (c46 F) (allC (c87 F) (allC (c82 F) (allC (c106 F) (allC (c48 F) (allC (c91 F) (allC (c50 F) (allC (c51 F) (allC (c52 F) (allC (c53 F) all0))))))))))))))) ⟨(inlC hf43 en43 (inlC hf84 en84 (inlC hf47 en47 (inlC hf88 en88 (inlC hf49 en49 inl0))))), all0⟩ (.s .n (.s .n (.s .n (.s .n (.p (.w ⟨[.i], [], [6], [(0, .i IntKind.i64)], [], [], [], 7⟩ (.l ⟨[.i], [0, 16, 112], [6], [(128, .i IntKind.i64)], [], [], [], 7⟩ (.c .n .n)) (.c .n (.w ⟨[.l 0, .d 22 6 [some 3], .l 6, .i], [], [7, 8], [(0, .t [.g [.h 15 3 0, .d 16 17 22 6 [some 3]], .h 18 22 6, .i IntKind.i64])], [], [], [], 19⟩ (.c .n (.p (.l ⟨[.l 6, .i, .d 22 6 [some 3], .l 0], [16, 32, 64, 288, 272], [7, 8, 17, 18, 20, 19], [(80, .h 21 22 6), (304, .i IntKind.i64)], [], [(20, 1, .d 22 23 22 6 [some 3])], [(19, 3, 0)], 24⟩ (.c (.l ⟨[.i, .l 0, .l 0], [16, 32, 64, 128, 96, 288, 544, 80, 144, 272, 528, 304], [7, 8, 17, 18, 20, 25, 21, 26, 22, 19], [(560, .i IntKind.i64)], [], [], [(26, 3, 0), (19, 3, 0)], 27⟩ .n) .n)))) (.s .n (.s .n (.w ⟨[.b, .d 22 6 [some 3]], [], [21, 16], [(0, .b)], [], [], [(16, 24, 0)], 25⟩ (.c .n (.l ⟨[.i, .d 22 6 [some 3]], [0, 16], [21, 16], [(80, .i IntKind.i64)], [], [], [(16, 24, 0)], 25⟩ (.c .n .n))) (.s .n (.w ⟨[.b], [], [18, 22], [(0, .b)], [], [], [], 25⟩ (.c .n (.l ⟨[.i], [0, 16], [18, 22], [(80, .i IntKind.i64)], [], [], [], 25⟩ (.c .n .n))) (.c .n (.l ⟨[.i, .d 22 6 [some 3]], [16, 32, 64, 256, 192, 160, 48, 144, 208, 176, 1776], [2, 3, 4, 23, 14, 10, 9, 19, 11, 1, 0, 21, 20, 13, 12, 8, 7, 16, 15], [(1792, .i IntKind.i64)], [], [], [(16, 25, 0)], 26⟩ (.c (.l ⟨[.i, .d 22 6 [some 3]], [16, 32, 64, 256, 1792, 1920, 192, 160, 48, 144, 208, 176, 304, 1776], [2, 3, 4, 23, 14, 10, 9, 19, 11, 1, 0, 21, 20, 13, 12, 8, 7, 16, 15], [(1936, .i IntKind.i64)], [], [], [(16, 29, 0)], 30⟩ .n) (.s .n (.s .n (.w ⟨[.b], [], [27, 30], [(0, .b)], [], [], [], 32⟩ (.c .n (.l ⟨[.i], [0, 16], [27, 30], [(80, .i IntKind.i64)], [], [], [], 32⟩ (.c .n .n))) (.s .n (.w ⟨[.b], [], [31, 28], [(0, .b)], [], [], [], 32⟩ (.c .n (.l ⟨[.i], [0, 16], [31, 28], [(80, .i IntKind.i64)], [], [], [], 32⟩ (.c .n .n))) (.c .n (.k (.k (.k (.k (.k (.k (.s (.s (.s (.w ⟨[.b], [], [1, 8], [(0, .b)], [], [], [], 32⟩ (.c .n (.l ⟨[.i], [0, 16], [1, 8], [(80, .i IntKind.i64)], [], [], [], 32⟩ (.c .n .n))) (.s (.s (.w ⟨[.b], [], [3, 11], [(0, .b)], [], [], [], 32⟩ (.c .n (.l ⟨[.i], [0, 16], [3, 11], [(80, .i IntKind.i64)], [], [], [], 32⟩ (.c .n .n))) .n) .n) .n)) .n) .n) .n))))))))))))))))))))))))))))) rfl (by kernel_rfl)
theorem hf95 : HF 95 Tryz.f95 := hK (by kernel_rfl)
def math_bits_Mul32 (F : Nat) (a0 : Int) (a1 : Int) : Option (Int × Int) :=
 chk (0 ≤ (32 : Int) ∧ (32 : Int) ≤ (↑IntKind.u64.bits : Int)) (some ((IntKind.u32.wrap ((IntKind.u64.wrap (IntKind.u64.wrap a0 * IntKind.u64.wrap a1)).fdiv ((2 : Int) ^ Int.toNat (32 : Int))), IntKind.u32.wrap (IntKind.u64.wrap (IntKind.u64.wrap a0 * IntKind.u64.wrap a1)))))
def s95 (F : Nat) : CS E.G := ⟨95, [.v 25 false, .v 25 false], [.v 25 false [], .v 25 false []], fun x => math_bits_Mul32 F x.1 x.2.1⟩
theorem c95 (F : Nat) : CSok E [] (s95 F) := mkC (cx := ⟨[], [], F, [], []⟩) hf95 (by kernel_rfl) rfl all0 ⟨inl0, all0⟩ .n rfl (by kernel_rfl)
theorem hf96 : HF 96 Tryz.f96 := hK (by kernel_rfl)
def math_bits_Mul64 (F : Nat) (a0 : Int) (a1 : Int) : Option (Int × Int) :=
 chk (0 ≤ a0 ∧ a0 ≤ 18446744073709551615) (chk (0 ≤ (32 : Int) ∧ (32 : Int) ≤ (↑IntKind.u64.bits : Int)) (chk (0 ≤ a1 ∧ a1 ≤ 18446744073709551615) (chk (0 ≤ (32 : Int) ∧ (32 : Int) ≤ (↑IntKind.u64.bits : Int)) (chk (0 ≤ (32 : Int) ∧ (32 : Int) ≤ (↑IntKind.u64.bits : Int)) (chk ((0 : Int) ≤ IntKind.u64.wrap (IntKind.u64.wrap (a0.fdiv ((2 : Int) ^ Int.toNat (32 : Int)) * landI a1 (4294967295 : Int)) + (IntKind.u64.wrap (landI a0 (4294967295 : Int) * landI a1 (4294967295 : Int))).fdiv ((2 : Int) ^ Int.toNat (32 : Int))) ∧ IntKind.u64.wrap (IntKind.u64.wrap (a0.fdiv ((2 : Int) ^ Int.toNat (32 : Int)) * landI a1 (4294967295 : Int)) + (IntKind.u64.wrap (landI a0 (4294967295 : Int) * landI a1 (4294967295 : Int))).fdiv ((2 : Int) ^ Int.toNat (32 : Int))) ≤ 18446744073709551615) (chk (0 ≤ (32 : Int) ∧ (32 : Int) ≤ (↑IntKind.u64.bits : Int)) (chk (0 ≤ (32 : Int) ∧ (32 : Int) ≤ (↑IntKind.u64.bits : Int)) (some ((IntKind.u64.wrap (IntKind.u64.wrap (IntKind.u64.wrap (a0.fdiv ((2 : Int) ^ Int.toNat (32 : Int)) * a1.fdiv ((2 : Int) ^ Int.toNat (32 : Int))) + (IntKind.u64.wrap (IntKind.u64.wrap (a0.fdiv ((2 : Int) ^ Int.toNat (32 : Int)) * landI a1 (4294967295 : Int)) + (IntKind.u64.wrap (landI a0 (4294967295 : Int) * landI a1 (4294967295 : Int))).fdiv ((2 : Int) ^ Int.toNat (32 : Int)))).fdiv ((2 : Int) ^ Int.toNat (32 : Int))) + (IntKind.u64.wrap (landI (IntKind.u64.wrap (IntKind.u64.wrap (a0.fdiv ((2 : Int) ^ Int.toNat (32 : Int)) * landI a1 (4294967295 : Int)) + (IntKind.u64.wrap (landI a0 (4294967295 : Int) * landI a1 (4294967295 : Int))).fdiv ((2 : Int) ^ Int.toNat (32 : Int)))) (4294967295 : Int) + IntKind.u64.wrap (landI a0 (4294967295 : Int) * a1.fdiv ((2 : Int) ^ Int.toNat (32 : Int))))).fdiv ((2 : Int) ^ Int.toNat (32 : Int))), IntKind.u64.wrap (a0 * a1)))))))))))
def s96 (F : Nat) : CS E.G := ⟨96, [.v 4 false, .v 4 false], [.v 4 false [], .v 4 false []], fun x => math_bits_Mul64 F x.1 x.2.1⟩
theorem c96 (F : Nat) : CSok E [] (s96 F) := mkC (cx := ⟨[], [], F, [], []⟩) hf96 (by kernel_rfl) rfl all0 ⟨inl0, all0⟩ .n rfl (by kernel_rfl)
theorem hf54 : HF 54 Tryz.f54 := hK (by kernel_rfl)
def math_bits_Mul (F : Nat) (a0 : Int) (a1 : Int) : Option (Int × Int) :=
 bnd (math_bits_Mul64 F a0 a1) (fun x => some (x))
def s54 (F : Nat) : CS E.G := ⟨54, [.v 4 false, .v 4 false], [.v 4 false [], .v 4 false []], fun x => math_bits_Mul F x.1 x.2.1⟩
theorem c54 (F : Nat) : CSok E [] (s54 F) := mkC (cx := ⟨[s95 F, s96 F], [], F, [], []⟩) hf54 (by kernel_rfl) rfl (allC (c95 F) (allC (c96 F) all0)) ⟨inl0, all0⟩ .n rfl (by kernel_rfl)
theorem hf9 : HF 9 Tryz.f9 := hK (by kernel_rfl)
def slices_Repeat_Lint (F : Nat) (a0 : List (List Int)) (a1 : Int) : Option ((List (List Int))) :=
 brk (decide (a1 < 0)) (none) (bnd (math_bits_Mul F (IntKind.u64.wrap (↑a0.length : Int)) (IntKind.u64.wrap a1)) (fun x => brk (decide (x.1 > (0 : Int)) || decide (x.2 > (9223372036854775807 : Int))) (none) (chk (InR x.2) (chk (0 ≤ x.2 ∧ x.2 ≤ x.2 ∧ x.2 ≤ 100000) (loopC (fun (x_1 : Int × List (List Int)) => fun x_2 => brk (decide (x_1.1 < (↑(List.length x_1.2) : Int))) (chk (0 ≤ x_1.1 ∧ x_1.1 ≤ (↑(List.length x_1.2) : Int) ∧ (↑(List.length x_1.2) : Int) ≤ (↑(List.length x_1.2) : Int)) (chk (0 ≤ (0 : Int) ∧ 0 ≤ x_1.1 ∧ x_1.1 ≤ (↑(List.length x_1.2) : Int)) (chk (InR (x_1.1 + (↑(List.take ((↑(List.length x_1.2) : Int) - x_1.1).toNat (List.take (x_1.1 - 0).toNat (List.drop (Int.toNat (0 : Int)) x_1.2))).length : Int))) (x_2 ((x_1.1 + (↑(List.take ((↑(List.length x_1.2) : Int) - x_1.1).toNat (List.take (x_1.1 - 0).toNat (List.drop (Int.toNat (0 : Int)) x_1.2))).length : Int), copyL x_1.2 (Int.toNat x_1.1) (List.take ((↑(List.length x_1.2) : Int) - x_1.1).toNat (List.take (x_1.1 - 0).toNat (List.drop (Int.toNat (0 : Int)) x_1.2))))))))) (some (x_1.2))) (F) (((↑(List.take (↑(List.replicate (Int.toNat x.2) ([] : List Int)).length : Int).toNat a0).length : Int), copyL (List.replicate (Int.toNat x.2) ([] : List Int)) (Int.toNat (0 : Int)) (List.take (↑(List.replicate (Int.toNat x.2) ([] : List Int)).length : Int).toNat a0))))))))
def s9 (F : Nat) : CS E.G := ⟨9, [.sl 6, .v 0 false], [.sl 6 22], fun x => slices_Repeat_Lint F x.1 x.2.1⟩
theorem c9 (F : Nat) : CSok E [] (s9 F) := mkC (cx := ⟨[s54 F], [], F, [], []⟩) hf9 (by kernel_rfl) rfl (allC (c54 F) all0) ⟨inl0, all0⟩ (.c .n (.c .n (.l ⟨[.i, .l 6], [112], [1], [(128, .i IntKind.i64)], [], [], [(1, 22, 6)], 2⟩ .n))) rfl (by kernel_rfl)
theorem hf10 : HF 10 Tryz.f10 := hK (by kernel_rfl)
def slices_Repeat_int (F : Nat) (a0 : List Int) (a1 : Int) : Option ((List Int)) :=
 brk (decide (a1 < 0)) (none) (bnd (math_bits_Mul F (IntKind.u64.wrap (↑a0.length : Int)) (IntKind.u64.wrap a1)) (fun x => brk (decide (x.1 > (0 : Int)) || decide (x.2 > (9223372036854775807 : Int))) (none) (chk (InR x.2) (chk (0 ≤ x.2 ∧ x.2 ≤ x.2 ∧ x.2 ≤ 100000) (loopC (fun (x_1 : Int × List Int) => fun x_2 => brk (decide (x_1.1 < (↑(List.length x_1.2) : Int))) (chk (0 ≤ x_1.1 ∧ x_1.1 ≤ (↑(List.length x_1.2) : Int) ∧ (↑(List.length x_1.2) : Int) ≤ (↑(List.length x_1.2) : Int)) (chk (0 ≤ (0 : Int) ∧ 0 ≤ x_1.1 ∧ x_1.1 ≤ (↑(List.length x_1.2) : Int)) (chk (InR (x_1.1 + (↑(List.take ((↑(List.length x_1.2) : Int) - x_1.1).toNat (List.take (x_1.1 - 0).toNat (List.drop (Int.toNat (0 : Int)) x_1.2))).length : Int))) (x_2 ((x_1.1 + (↑(List.take ((↑(List.length x_1.2) : Int) - x_1.1).toNat (List.take (x_1.1 - 0).toNat (List.drop (Int.toNat (0 : Int)) x_1.2))).length : Int), copyL x_1.2 (Int.toNat x_1.1) (List.take ((↑(List.length x_1.2) : Int) - x_1.1).toNat (List.take (x_1.1 - 0).toNat (List.drop (Int.toNat (0 : Int)) x_1.2))))))))) (some (x_1.2))) (F) (((↑(List.take (↑(List.replicate (Int.toNat x.2) (0 : Int)).length : Int).toNat a0).length : Int), copyL (List.replicate (Int.toNat x.2) (0 : Int)) (Int.toNat (0 : Int)) (List.take (↑(List.replicate (Int.toNat x.2) (0 : Int)).length : Int).toNat a0))))))))
def s10 (F : Nat) : CS E.G := ⟨10, [.sl 0, .v 0 false], [.sl 0 3], fun x => slices_Repeat_int F x.1 x.2.1⟩
theorem c10 (F : Nat) : CSok E [] (s10 F) := mkC (cx := ⟨[s54 F], [], F, [], []⟩) hf10 (by kernel_rfl) rfl (allC (c54 F) all0) ⟨inl0, all0⟩ (.c .n (.c .n (.l ⟨[.i, .l 0], [112], [1], [(128, .i IntKind.i64)], [], [], [(1, 3, 0)], 2⟩ .n))) rfl (by kernel_rfl)
theorem hf12 : HF 12 Tryz.f12 := hK (by kernel_rfl)
def slices_Repeat_fees_Voyage (F : Nat) (a0 : List Voyage) (a1 : Int) : Option ((List Voyage)) :=
 brk (decide (a1 < 0)) (none) (bnd (math_bits_Mul F (IntKind.u64.wrap (↑a0.length : Int)) (IntKind.u64.wrap a1)) (fun x => brk (decide (x.1 > (0 : Int)) || decide (x.2 > (9223372036854775807 : Int))) (none) (chk (InR x.2) (chk (0 ≤ x.2 ∧ x.2 ≤ x.2 ∧ x.2 ≤ 100000) (loopC (fun (x_1 : Int × List Voyage) => fun x_2 => brk (decide (x_1.1 < (↑(List.length x_1.2) : Int))) (chk (0 ≤ x_1.1 ∧ x_1.1 ≤ (↑(List.length x_1.2) : Int) ∧ (↑(List.length x_1.2) : Int) ≤ (↑(List.length x_1.2) : Int)) (chk (0 ≤ (0 : Int) ∧ 0 ≤ x_1.1 ∧ x_1.1 ≤ (↑(List.length x_1.2) : Int)) (chk (InR (x_1.1 + (↑(List.take ((↑(List.length x_1.2) : Int) - x_1.1).toNat (List.take (x_1.1 - 0).toNat (List.drop (Int.toNat (0 : Int)) x_1.2))).length : Int))) (x_2 ((x_1.1 + (↑(List.take ((↑(List.length x_1.2) : Int) - x_1.1).toNat (List.take (x_1.1 - 0).toNat (List.drop (Int.toNat (0 : Int)) x_1.2))).length : Int), copyL x_1.2 (Int.toNat x_1.1) (List.take ((↑(List.length x_1.2) : Int) - x_1.1).toNat (List.take (x_1.1 - 0).toNat (List.drop (Int.toNat (0 : Int)) x_1.2))))))))) (some (x_1.2))) (F) (((↑(List.take (↑(List.replicate (Int.toNat x.2) (Voyage.mk 0 0 0 0 0 0 0)).length : Int).toNat a0).length : Int), copyL (List.replicate (Int.toNat x.2) (Voyage.mk 0 0 0 0 0 0 0)) (Int.toNat (0 : Int)) (List.take (↑(List.replicate (Int.toNat x.2) (Voyage.mk 0 0 0 0 0 0 0)).length : Int).toNat a0))))))))
def s12 (F : Nat) : CS E.G := ⟨12, [.sl 11, .v 0 false], [.sl 11 29], fun x => slices_Repeat_fees_Voyage F x.1 x.2.1⟩
theorem c12 (F : Nat) : CSok E [] (s12 F) := mkC (cx := ⟨[s54 F], [], F, [], []⟩) hf12 (by kernel_rfl) rfl (allC (c54 F) all0) ⟨inl0, all0⟩ (.c .n (.c .n (.l ⟨[.i, .l 11], [112], [1], [(128, .i IntKind.i64)], [], [], [(1, 29, 11)], 2⟩ .n))) rfl (by kernel_rfl)
theorem hf3 : HF 3 Tryz.f3 := hK (by kernel_rfl)
def law12_FeesSmall (F : Nat) : Option (Bool) :=
 loopC (fun (x : Int) => fun x_1 => brk (decide (x < (↑nums.length : Int))) (chk (0 ≤ x ∧ x < (↑nums.length : Int)) (bnd (law12_Example F) (fun x_2 => chk (bI 0 x_2) (chk (bI 0 x_2) (chk (bI 1 x_2) (bnd (law12_FeesBills F (Tariff.mk (x_2.Bands.set (Int.toNat (0 : Int)) (Band.mk (nv x) (x_2.Bands.getD (Int.toNat (0 : Int)) (Band.mk 0 0)).Rate)) x_2.Class x_2.Least x_2.Most x_2.Paid x_2.Mile x_2.Escort x_2.Cut x_2.Tow) 2 2500 200000 2 vX (vl vX)) (fun x_3 => brk (!x_3) (some (false)) (bnd (law12_Example F) (fun x_4 => chk (bI 0 x_4) (chk (bI 0 x_4) (chk (bI 1 x_4) (bnd (law12_FeesBills F (Tariff.mk (x_4.Bands.set (Int.toNat (0 : Int)) (Band.mk (x_4.Bands.getD (Int.toNat (0 : Int)) (Band.mk 0 0)).Upto (nv x))) x_4.Class x_4.Least x_4.Most x_4.Paid x_4.Mile x_4.Escort x_4.Cut x_4.Tow) 2 2500 200000 2 vX (vl vX)) (fun x_5 => brk (!x_5) (some (false)) (bnd (law12_Example F) (fun x_6 => chk (bI 0 x_6) (chk (bI 0 x_6) (chk (bI 1 x_6) (bnd (law12_FeesBills F (Tariff.mk (x_6.Bands.set (Int.toNat (1 : Int)) (Band.mk (nv x) (x_6.Bands.getD (Int.toNat (1 : Int)) (Band.mk 0 0)).Rate)) x_6.Class x_6.Least x_6.Most x_6.Paid x_6.Mile x_6.Escort x_6.Cut x_6.Tow) 2 2500 200000 2 vX (vl vX)) (fun x_7 => brk (!x_7) (some (false)) (bnd (law12_Example F) (fun x_8 => chk (bI 0 x_8) (chk (bI 0 x_8) (chk (bI 1 x_8) (bnd (law12_FeesBills F (Tariff.mk x_8.Bands (A7ofInt.mk (nv x) x_8.Class.a1 x_8.Class.a2 x_8.Class.a3 x_8.Class.a4 x_8.Class.a5 x_8.Class.a6) x_8.Least x_8.Most x_8.Paid x_8.Mile x_8.Escort x_8.Cut x_8.Tow) 2 2500 200000 2 vX (vl vX)) (fun x_9 => brk (!x_9) (some (false)) (bnd (law12_Example F) (fun x_10 => chk (bI 0 x_10) (chk (bI 0 x_10) (chk (bI 1 x_10) (bnd (law12_FeesBills F (Tariff.mk x_10.Bands (A7ofInt.mk x_10.Class.a0 x_10.Class.a1 x_10.Class.a2 (nv x) x_10.Class.a4 x_10.Class.a5 x_10.Class.a6) x_10.Least x_10.Most x_10.Paid x_10.Mile x_10.Escort x_10.Cut x_10.Tow) 2 2500 200000 2 vX (vl vX)) (fun x_11 => brk (!x_11) (some (false)) (bnd (law12_Example F) (fun x_12 => chk (bI 0 x_12) (chk (bI 0 x_12) (chk (bI 1 x_12) (bnd (law12_FeesBills F (Tariff.mk x_12.Bands (A7ofInt.mk x_12.Class.a0 x_12.Class.a1 x_12.Class.a2 x_12.Class.a3 x_12.Class.a4 x_12.Class.a5 (nv x)) x_12.Least x_12.Most x_12.Paid x_12.Mile x_12.Escort x_12.Cut x_12.Tow) 2 2500 200000 2 vX (vl vX)) (fun x_13 => brk (!x_13) (some (false)) (bnd (law12_Example F) (fun x_14 => chk (bI 0 x_14) (chk (bI 0 x_14) (chk (bI 1 x_14) (bnd (law12_FeesBills F (Tariff.mk x_14.Bands x_14.Class (nv x) x_14.Most x_14.Paid x_14.Mile x_14.Escort x_14.Cut x_14.Tow) 2 2500 200000 2 vX (vl vX)) (fun x_15 => brk (!x_15) (some (false)) (bnd (law12_Example F) (fun x_16 => chk (bI 0 x_16) (chk (bI 0 x_16) (chk (bI 1 x_16) (bnd (law12_FeesBills F (Tariff.mk x_16.Bands x_16.Class x_16.Least (nv x) x_16.Paid x_16.Mile x_16.Escort x_16.Cut x_16.Tow) 2 2500 200000 2 vX (vl vX)) (fun x_17 => brk (!x_17) (some (false)) (bnd (law12_Example F) (fun x_18 => chk (bI 0 x_18) (chk (bI 0 x_18) (chk (bI 1 x_18) (bnd (law12_FeesBills F (Tariff.mk x_18.Bands x_18.Class x_18.Least x_18.Most (nv x) x_18.Mile x_18.Escort x_18.Cut x_18.Tow) 2 2500 200000 2 vX (vl vX)) (fun x_19 => brk (!x_19) (some (false)) (bnd (law12_Example F) (fun x_20 => chk (bI 0 x_20) (chk (bI 0 x_20) (chk (bI 1 x_20) (bnd (law12_FeesBills F (Tariff.mk x_20.Bands x_20.Class x_20.Least x_20.Most x_20.Paid (nv x) x_20.Escort x_20.Cut x_20.Tow) 2 2500 200000 2 vX (vl vX)) (fun x_21 => brk (!x_21) (some (false)) (bnd (law12_Example F) (fun x_22 => chk (bI 0 x_22) (chk (bI 0 x_22) (chk (bI 1 x_22) (bnd (law12_FeesBills F (Tariff.mk x_22.Bands x_22.Class x_22.Least x_22.Most x_22.Paid x_22.Mile (nv x) x_22.Cut x_22.Tow) 2 2500 200000 2 vX (vl vX)) (fun x_23 => brk (!x_23) (some (false)) (bnd (law12_Example F) (fun x_24 => chk (bI 0 x_24) (chk (bI 0 x_24) (chk (bI 1 x_24) (bnd (law12_FeesBills F (Tariff.mk x_24.Bands x_24.Class x_24.Least x_24.Most x_24.Paid x_24.Mile x_24.Escort (nv x) x_24.Tow) 2 2500 200000 2 vX (vl vX)) (fun x_25 => brk (!x_25) (some (false)) (bnd (law12_Example F) (fun x_26 => chk (bI 0 x_26) (chk (bI 0 x_26) (chk (bI 1 x_26) (bnd (law12_FeesBills F (Tariff.mk x_26.Bands x_26.Class x_26.Least x_26.Most x_26.Paid x_26.Mile x_26.Escort x_26.Cut (nv x)) 2 2500 200000 2 vX (vl vX)) (fun x_27 => brk (!x_27) (some (false)) (bnd (law12_Example F) (fun x_28 => chk (bI 0 x_28) (chk (bI 0 x_28) (chk (bI 1 x_28) (bnd (law12_FeesBills F x_28 2 2500 200000 2 (Voyage.mk (nv x) (3 : Int) (5001 : Int) (123 : Int) (2 : Int) (3 : Int) (1 : Int)) (vl (Voyage.mk (nv x) (3 : Int) (5001 : Int) (123 : Int) (2 : Int) (3 : Int) (1 : Int)))) (fun x_29 => brk (!x_29) (some (false)) (bnd (law12_Example F) (fun x_30 => chk (bI 0 x_30) (chk (bI 0 x_30) (chk (bI 1 x_30) (bnd (law12_FeesBills F x_30 2 2500 200000 2 (Voyage.mk (4 : Int) (nv x) (5001 : Int) (123 : Int) (2 : Int) (3 : Int) (1 : Int)) (vl (Voyage.mk (4 : Int) (nv x) (5001 : Int) (123 : Int) (2 : Int) (3 : Int) (1 : Int)))) (fun x_31 => brk (!x_31) (some (false)) (bnd (law12_Example F) (fun x_32 => chk (bI 0 x_32) (chk (bI 0 x_32) (chk (bI 1 x_32) (bnd (law12_FeesBills F x_32 2 2500 200000 2 (Voyage.mk (4 : Int) (3 : Int) (nv x) (123 : Int) (2 : Int) (3 : Int) (1 : Int)) (vl (Voyage.mk (4 : Int) (3 : Int) (nv x) (123 : Int) (2 : Int) (3 : Int) (1 : Int)))) (fun x_33 => brk (!x_33) (some (false)) (bnd (law12_Example F) (fun x_34 => chk (bI 0 x_34) (chk (bI 0 x_34) (chk (bI 1 x_34) (bnd (law12_FeesBills F x_34 2 2500 200000 2 (Voyage.mk (4 : Int) (3 : Int) (5001 : Int) (nv x) (2 : Int) (3 : Int) (1 : Int)) (vl (Voyage.mk (4 : Int) (3 : Int) (5001 : Int) (nv x) (2 : Int) (3 : Int) (1 : Int)))) (fun x_35 => brk (!x_35) (some (false)) (bnd (law12_Example F) (fun x_36 => chk (bI 0 x_36) (chk (bI 0 x_36) (chk (bI 1 x_36) (bnd (law12_FeesBills F x_36 2 2500 200000 2 (Voyage.mk (4 : Int) (3 : Int) (5001 : Int) (123 : Int) (nv x) (3 : Int) (1 : Int)) (vl (Voyage.mk (4 : Int) (3 : Int) (5001 : Int) (123 : Int) (nv x) (3 : Int) (1 : Int)))) (fun x_37 => brk (!x_37) (some (false)) (bnd (law12_Example F) (fun x_38 => chk (bI 0 x_38) (chk (bI 0 x_38) (chk (bI 1 x_38) (bnd (law12_FeesBills F x_38 2 2500 200000 2 (Voyage.mk (4 : Int) (3 : Int) (5001 : Int) (123 : Int) (2 : Int) (nv x) (1 : Int)) (vl (Voyage.mk (4 : Int) (3 : Int) (5001 : Int) (123 : Int) (2 : Int) (nv x) (1 : Int)))) (fun x_39 => brk (!x_39) (some (false)) (bnd (law12_Example F) (fun x_40 => chk (bI 0 x_40) (chk (bI 0 x_40) (chk (bI 1 x_40) (bnd (law12_FeesBills F x_40 2 2500 200000 2 (Voyage.mk (4 : Int) (3 : Int) (5001 : Int) (123 : Int) (2 : Int) (3 : Int) (nv x)) (vl (Voyage.mk (4 : Int) (3 : Int) (5001 : Int) (123 : Int) (2 : Int) (3 : Int) (nv x)))) (fun x_41 => brk (!x_41) (some (false)) (bnd (law12_Example F) (fun x_42 => chk (bI 0 x_42) (chk (bI 0 x_42) (chk (bI 1 x_42) (bnd (law12_FeesBills F x_42 (nv x) 2500 200000 2 vX (vl vX)) (fun x_43 => brk (!x_43) (some (false)) (bnd (law12_Example F) (fun x_44 => chk (bI 0 x_44) (chk (bI 0 x_44) (chk (bI 1 x_44) (bnd (law12_FeesBills F x_44 2 (nv x) 200000 2 vX (vl vX)) (fun x_45 => brk (!x_45) (some (false)) (bnd (law12_Example F) (fun x_46 => chk (bI 0 x_46) (chk (bI 0 x_46) (chk (bI 1 x_46) (bnd (law12_FeesBills F x_46 2 2500 (nv x) 2 vX (vl vX)) (fun x_47 => brk (!x_47) (some (false)) (bnd (law12_Example F) (fun x_48 => chk (bI 0 x_48) (chk (bI 0 x_48) (chk (bI 1 x_48) (bnd (law12_FeesBills F x_48 2 2500 200000 (nv x) vX (vl vX)) (fun x_49 => brk (!x_49) (some (false)) (chk (lI 1 lN) (chk (lI 0 lS) (chk (lI 2 lC) (chk (lI 1 lD) (chk (lI 1 lO) (chk (lI 0 lP) (chk (lI 0 lT) (bnd (law12_FeesShares F (lN.set (Int.toNat (1 : Int)) (nv x)) lS) (fun x_50 => bnd (brk (!!x_50) (law12_FeesAwards F lC 61) (some false)) (fun x_51 => bnd (brk (!(!x_50 || !x_51)) (law12_FeesMonths F (State.mk lD [lO, lQ]) lP [lR, lT] 10) (some false)) (fun x_52 => brk (!x_50 || !x_51 || !x_52) (some (false)) (chk (lI 1 lN) (chk (lI 0 lS) (chk (lI 2 lC) (chk (lI 1 lD) (chk (lI 1 lO) (chk (lI 0 lP) (chk (lI 0 lT) (bnd (law12_FeesShares F lN (lS.set (Int.toNat (0 : Int)) (nv x))) (fun x_53 => bnd (brk (!!x_53) (law12_FeesAwards F lC 61) (some false)) (fun x_54 => bnd (brk (!(!x_53 || !x_54)) (law12_FeesMonths F (State.mk lD [lO, lQ]) lP [lR, lT] 10) (some false)) (fun x_55 => brk (!x_53 || !x_54 || !x_55) (some (false)) (chk (lI 1 lN) (chk (lI 0 lS) (chk (lI 2 lC) (chk (lI 1 lD) (chk (lI 1 lO) (chk (lI 0 lP) (chk (lI 0 lT) (bnd (law12_FeesShares F lN lS) (fun x_56 => bnd (brk (!!x_56) (law12_FeesAwards F (lC.set (Int.toNat (2 : Int)) (nv x)) 61) (some false)) (fun x_57 => bnd (brk (!(!x_56 || !x_57)) (law12_FeesMonths F (State.mk lD [lO, lQ]) lP [lR, lT] 10) (some false)) (fun x_58 => brk (!x_56 || !x_57 || !x_58) (some (false)) (chk (lI 1 lN) (chk (lI 0 lS) (chk (lI 2 lC) (chk (lI 1 lD) (chk (lI 1 lO) (chk (lI 0 lP) (chk (lI 0 lT) (bnd (law12_FeesShares F lN lS) (fun x_59 => bnd (brk (!!x_59) (law12_FeesAwards F lC (nv x)) (some false)) (fun x_60 => bnd (brk (!(!x_59 || !x_60)) (law12_FeesMonths F (State.mk lD [lO, lQ]) lP [lR, lT] 10) (some false)) (fun x_61 => brk (!x_59 || !x_60 || !x_61) (some (false)) (chk (lI 1 lN) (chk (lI 0 lS) (chk (lI 2 lC) (chk (lI 1 lD) (chk (lI 1 lO) (chk (lI 0 lP) (chk (lI 0 lT) (bnd (law12_FeesShares F lN lS) (fun x_62 => bnd (brk (!!x_62) (law12_FeesAwards F lC 61) (some false)) (fun x_63 => bnd (brk (!(!x_62 || !x_63)) (law12_FeesMonths F (State.mk (lD.set (Int.toNat (1 : Int)) (nv x)) [lO, lQ]) lP [lR, lT] 10) (some false)) (fun x_64 => brk (!x_62 || !x_63 || !x_64) (some (false)) (chk (lI 1 lN) (chk (lI 0 lS) (chk (lI 2 lC) (chk (lI 1 lD) (chk (lI 1 lO) (chk (lI 0 lP) (chk (lI 0 lT) (bnd (law12_FeesShares F lN lS) (fun x_65 => bnd (brk (!!x_65) (law12_FeesAwards F lC 61) (some false)) (fun x_66 => bnd (brk (!(!x_65 || !x_66)) (law12_FeesMonths F (State.mk lD [lO.set (Int.toNat (1 : Int)) (nv x), lQ]) lP [lR, lT] 10) (some false)) (fun x_67 => brk (!x_65 || !x_66 || !x_67) (some (false)) (chk (lI 1 lN) (chk (lI 0 lS) (chk (lI 2 lC) (chk (lI 1 lD) (chk (lI 1 lO) (chk (lI 0 lP) (chk (lI 0 lT) (bnd (law12_FeesShares F lN lS) (fun x_68 => bnd (brk (!!x_68) (law12_FeesAwards F lC 61) (some false)) (fun x_69 => bnd (brk (!(!x_68 || !x_69)) (law12_FeesMonths F (State.mk lD [lO, lQ]) (lP.set (Int.toNat (0 : Int)) (nv x)) [lR, lT] 10) (some false)) (fun x_70 => brk (!x_68 || !x_69 || !x_70) (some (false)) (chk (lI 1 lN) (chk (lI 0 lS) (chk (lI 2 lC) (chk (lI 1 lD) (chk (lI 1 lO) (chk (lI 0 lP) (chk (lI 0 lT) (bnd (law12_FeesShares F lN lS) (fun x_71 => bnd (brk (!!x_71) (law12_FeesAwards F lC 61) (some false)) (fun x_72 => bnd (brk (!(!x_71 || !x_72)) (law12_FeesMonths F (State.mk lD [lO, lQ]) lP [lR, lT.set (Int.toNat (0 : Int)) (nv x)] 10) (some false)) (fun x_73 => brk (!x_71 || !x_72 || !x_73) (some (false)) (chk (lI 1 lN) (chk (lI 0 lS) (chk (lI 2 lC) (chk (lI 1 lD) (chk (lI 1 lO) (chk (lI 0 lP) (chk (lI 0 lT) (bnd (law12_FeesShares F lN lS) (fun x_74 => bnd (brk (!!x_74) (law12_FeesAwards F lC 61) (some false)) (fun x_75 => bnd (brk (!(!x_74 || !x_75)) (law12_FeesMonths F (State.mk lD [lO, lQ]) lP [lR, lT] (nv x)) (some false)) (fun x_76 => brk (!x_74 || !x_75 || !x_76) (some (false)) (chk (InR (x + 1)) (x_1 (x + 1))))))))))))))))))))))))))))))))))))))))))))))))))))))))))))))))))))))))))))))))))))))))))))))))))))))))))))))))))))))))))))))))))))))))))))))))))))))))))))))))))))))))))))))))))))))))))))))))))))))))))))))))))))))))))))))))))))))))))))))))))))))) (loopC (fun (x_2 : Int) => fun x_3 => brk (decide (x_2 < 4320)) (chk (0 ≤ x_2 ∧ x_2 ≤ 9223372036854775807) (chk (0 ≤ x_2 ∧ x_2 ≤ 9223372036854775807) (chk (0 ≤ x_2 / (6 : Int) ∧ x_2 / (6 : Int) ≤ (9223372036854775807 : Int)) (chk (0 ≤ x_2 ∧ x_2 ≤ 9223372036854775807) (chk (0 ≤ x_2 / (36 : Int) ∧ x_2 / (36 : Int) ≤ (9223372036854775807 : Int)) (chk (0 ≤ x_2 ∧ x_2 ≤ 9223372036854775807) (bnd (law12_FeesAwards F [x_2 % (6 : Int), x_2 / (6 : Int) % (6 : Int), x_2 / (36 : Int) % (6 : Int)] (x_2 / (216 : Int))) (fun x_4 => brk (!x_4) (some (false)) (chk (0 ≤ x_2 ∧ x_2 ≤ 9223372036854775807) (brk (decide (x_2 / (216 : Int) < (6 : Int))) (chk (0 ≤ x_2 ∧ x_2 ≤ 9223372036854775807) (chk (0 ≤ x_2 / (6 : Int) % (6 : Int) ∧ x_2 / (6 : Int) % (6 : Int) ≤ (9223372036854775807 : Int)) (chk (0 ≤ x_2 / (36 : Int) % (6 : Int) ∧ x_2 / (36 : Int) % (6 : Int) ≤ (9223372036854775807 : Int)) (bnd (law12_FeesShares F [x_2 % (6 : Int), x_2 / (6 : Int) % (6 : Int), x_2 / (36 : Int) % (6 : Int)] [x_2 / (216 : Int), x_2 / (6 : Int) % (6 : Int) / (2 : Int), x_2 / (36 : Int) % (6 : Int) / (2 : Int)]) (fun x_5 => brk (!x_5) (some (false)) (chk (InR (x_2 + 1)) (x_3 (x_2 + 1)))))))) (chk (InR (x_2 + 1)) (x_3 (x_2 + 1))))))))))))) (loopC (fun (x_4 : Int) => fun x_5 => brk (decide (x_4 < 14)) (bnd (law12_Example F) (fun x_6 => loopC (fun (x_7 : Int × List Band) => fun x_8 => brk (decide (x_7.1 < x_4)) (chk (InR (x_7.1 + 1)) (chk (InR ((500000 : Int) * (x_7.1 + 1))) (chk ((0 ≤ (500000 : Int) * (x_7.1 + 1) ∧ (500000 : Int) * (x_7.1 + 1) ≤ 9223372036854775807) ∧ (0 : Int) < if (1 : Int) > x_4 then (1 : Int) else x_4) (chk (0 ≤ x_7.1 ∧ x_7.1 ≤ 9223372036854775807) (chk (InR ((10 : Int) - x_7.1 / (2 : Int))) (chk (List.length x_7.2 + [Band.mk ((500000 : Int) * (x_7.1 + 1) / if (1 : Int) > x_4 then (1 : Int) else x_4) ((10 : Int) - x_7.1 / (2 : Int))].length ≤ (1000000000 : Nat)) (chk (InR (x_7.1 + 1)) (x_8 ((x_7.1 + 1, x_7.2 ++ [Band.mk ((500000 : Int) * (x_7.1 + 1) / if (1 : Int) > x_4 then (1 : Int) else x_4) ((10 : Int) - x_7.1 / (2 : Int))])))))))))) (chk (0 ≤ x_4 ∧ x_4 ≤ x_4 ∧ x_4 ≤ 100000) (chk (0 ≤ x_4 ∧ x_4 ≤ 9223372036854775807) (chk (0 ≤ x_4 / (2 : Int) ∧ x_4 / (2 : Int) ≤ x_4 / (2 : Int) ∧ x_4 / (2 : Int) ≤ (100000 : Int)) (bnd (slices_Repeat_Lint F [List.replicate (x_4 / (2 : Int)).toNat (0 : Int)] x_4) (fun x_9 => bnd (law12_FeesBills F (Tariff.mk x_7.2 x_6.Class x_6.Least x_6.Most x_6.Paid x_6.Mile x_6.Escort x_6.Cut x_6.Tow) 1 300000 1000000 0 (Voyage.mk 0 0 9 0 0 0 0) []) (fun x_10 => brk (!x_10) (some (false)) (chk (InR ((7 : Int) * x_4)) (bnd (slices_Repeat_int F [(7 : Int) * x_4] x_4) (fun x_11 => chk (0 ≤ x_4 ∧ x_4 ≤ x_4 ∧ x_4 ≤ 100000) (bnd (law12_FeesShares F x_11 (List.replicate (Int.toNat x_4) (0 : Int))) (fun x_12 => brk (!x_12) (some (false)) (chk (InR ((29 : Int) + x_4)) (bnd (slices_Repeat_int F [x_4] ((29 : Int) + x_4)) (fun x_13 => bnd (law12_FeesAwards F x_13 100) (fun x_14 => brk (!x_14) (some (false)) (chk (0 ≤ x_4 ∧ x_4 ≤ x_4 ∧ x_4 ≤ 100000) (chk (0 ≤ x_4 ∧ x_4 ≤ 9223372036854775807) (chk (0 ≤ x_4 / (2 : Int) ∧ x_4 / (2 : Int) ≤ x_4 / (2 : Int) ∧ x_4 / (2 : Int) ≤ (100000 : Int)) (bnd (slices_Repeat_Lint F [List.replicate (x_4 / (2 : Int)).toNat (0 : Int)] x_4) (fun x_15 => bnd (law12_FeesMonths F (State.mk (List.replicate (Int.toNat x_4) (0 : Int)) x_9) (List.replicate (Int.toNat x_4) (0 : Int)) x_15 3) (fun x_16 => brk (!x_16) (some (false)) (chk (0 ≤ x_4 ∧ x_4 ≤ x_4 ∧ x_4 ≤ 100000) (bnd (law12_FeesMonths F (State.mk (List.replicate (Int.toNat x_4) (0 : Int)) x_9) (List.replicate (Int.toNat x_4) (0 : Int)) [] 3) (fun x_17 => brk (!x_17) (some (false)) (chk (0 ≤ (2 : Int) ∧ (2 : Int) ≤ (2 : Int) ∧ (2 : Int) ≤ (100000 : Int)) (chk (0 ≤ x_4 ∧ x_4 ≤ x_4 ∧ x_4 ≤ 100000) (bnd (law12_FeesMonths F (State.mk (List.replicate (Int.toNat (2 : Int)) (0 : Int)) (List.replicate (Int.toNat x_4) [])) [] [] 0) (fun x_18 => brk (!x_18) (some (false)) (chk (InR (x_4 + 1)) (x_5 (x_4 + 1)))))))))))))))))))))))))))))))) (F) (((0 : Int), [])))) (bnd (law12_Example F) (fun x_6 => bnd (slices_Repeat_fees_Voyage F [Voyage.mk (0 : Int) (0 : Int) (1 : Int) (0 : Int) (0 : Int) (0 : Int) (0 : Int)] 501) (fun x_7 => bnd (fees_Season F x_6 x_7) (fun x_8 => bnd (law12_Example F) (fun x_9 => bnd (slices_Repeat_fees_Voyage F [Voyage.mk (0 : Int) (0 : Int) (1 : Int) (0 : Int) (0 : Int) (0 : Int) (0 : Int)] 500) (fun x_10 => bnd (fees_Season F x_9 x_10) (fun x_11 => bnd (brk (x_8.2.2 == (2 : Int) && x_11.2.2 == (0 : Int) && (↑(List.length x_11.1) : Int) == (500 : Int) && x_11.2.1 == (3000 : Int)) (law12_awake F) (some false)) (fun x_12 => some (x_8.2.2 == (2 : Int) && x_11.2.2 == (0 : Int) && (↑(List.length x_11.1) : Int) == (500 : Int) && x_11.2.1 == (3000 : Int) && x_12)))))))))) (F) ((0 : Int)))) (F) ((0 : Int)))) (F) ((0 : Int))
def s3 (F : Nat) : CS E.G := ⟨3, [], [.v 1 false []], fun x => law12_FeesSmall F⟩
theorem c3 (F : Nat) : CSok E [] (s3 F) := mkC (cx := ⟨[s4 F, s5 F, s6 F, s7 F, s8 F, s9 F, s10 F, s11 F, s12 F, s13 F], [], F, [(17, 3), (17, 8)], []⟩) hf3 (by kernel_rfl) rfl (allC (c4 F) (allC (c5 F) (allC (c6 F) (allC (c7 F) (allC (c8 F) (allC (c9 F) (allC (c10 F) (allC (c11 F) (allC (c12 F) (allC (c13 F) all0)))))))))) ⟨inl0, all0⟩ (.l ⟨[.i], [576, 560], [0], [(592, .i IntKind.i64)], [], [], [], 1⟩ (.c (.u 25 (.c .n (.c .n (.c .n (.c .n (.c .n (.c .n (.c .n (.c .n (.c .n (.c .n (.c .n (.c .n (.c .n (.c .n (.c .n (.c .n (.c .n (.c .n (.c .n (.c .n (.c .n (.c .n (.c .n (.c .n (.u 10 (.c .n (.c .n (.c .n (.c .n (.c .n (.c .n (.c .n (.c .n .n)))))))))))))))))))))))))))))))))) (.l ⟨[.i], [], [], [(2592, .i IntKind.i64)], [], [], [], 1⟩ (.c (.s .n (.s .n .n)) (.l ⟨[.i], [], [], [(400, .i IntKind.i64)], [], [], [], 1⟩ (.c (.l ⟨[.i, .l 7], [3328, 416, 400], [2], [(3344, .i IntKind.i64)], [], [(2, 0, .h 3 32 7)], [], 4⟩ (.c .n (.s .n (.s .n (.s .n (.s .n (.s .n .n))))))) .n)))))) rfl (by kernel_rfl)
end
end Go.Proofs.Fz

namespace Go.Proofs.Fz
open Go Go.KX
theorem awake_eq : law12_awake 1000000000000000 = some true := by kernel_rfl
end Go.Proofs.Fz

namespace Go.KX
def Ok {α : Type} (post : α → Prop) (o : Option α) : Prop := ∃ r, o = some r ∧ post r
section
variable {α β ι σ R : Type} {post : α → Prop}
theorem chk_pos {p : Prop} [Decidable p] {x : Option α} (h : p) : chk p x = x := if_pos h
theorem brk_true {x y : Option α} : brk true x y = x := rfl
theorem brk_false {x y : Option α} : brk false x y = y := rfl
theorem bnd_so {x : β} {f : β → Option α} : bnd (some x) f = f x := rfl
theorem loopC_succ {body : σ → (σ → Option α) → Option α} {n : Nat} {x : σ} : loopC body (n + 1) x = body x (loopC body n) := rfl
theorem ok_some {r : α} (h : post r) : Ok post (some r) := ⟨r, rfl, h⟩
theorem ok_chk {p : Prop} [Decidable p] {x : Option α} (h : p) (hx : Ok post x) : Ok post (chk p x) := by rw [chk_pos h]; exact hx
theorem ok_brk {c : Bool} {x y : Option α} (ht : c = true → Ok post x) (hf : c = false → Ok post y) : Ok post (brk c x y) := by
 cases c with
 | true => exact ht rfl
 | false => exact hf rfl
theorem ok_brkT {c : Bool} {x y : Option α} (hc : c = true) (ht : Ok post x) : Ok post (brk c x y) := by subst hc; exact ht
theorem ok_brkF {c : Bool} {x y : Option α} (hc : c = false) (hf : Ok post y) : Ok post (brk c x y) := by subst hc; exact hf
theorem ok_bnd {x : Option β} {f : β → Option α} (q : β → Prop) (hx : Ok q x) (hf : ∀ b, q b → Ok post (f b)) : Ok post (bnd x f) := by
 obtain ⟨b, rfl, hb⟩ := hx
 exact hf b hb
theorem ok_bnde {x : Option β} {f : β → Option α} {b : β} (hx : x = some b) (hf : Ok post (f b)) : Ok post (bnd x f) := by subst hx; exact hf
theorem ok_join {F : Nat} (hF : 0 < F) {K : ι → Option α} {body : (ι → Option α) → Option α} (J : ι → Prop) (hK : ∀ i, J i → Ok post (K i)) (hb : ∀ k : ι → Option α, (∀ i, J i → Ok post (k i)) → Ok post (body k)) : Ok post (join F K body) := by
 obtain ⟨n, rfl⟩ := Nat.exists_eq_succ_of_ne_zero (Nat.ne_of_gt hF)
 exact hb K hK
theorem ok_loop {body : σ → (σ → Option α) → Option α} (I : σ → Prop) (μ : σ → Nat) {n : Nat} {x0 : σ} (h0 : I x0) (hn : μ x0 < n)
  (h : ∀ x (next : σ → Option α), I x → (∀ y, I y → μ y < μ x → Ok post (next y)) → Ok post (body x next)) : Ok post (loopC body n x0) := by
 induction n generalizing x0 with
 | zero => omega
 | succ n ih => exact h x0 _ h0 fun y hy hlt => ih hy (by omega)
theorem Ok.mono {post' : α → Prop} {o : Option α} (h : Ok post o) (hp : ∀ r, post r → post' r) : Ok post' o := by obtain ⟨r, h1, h2⟩ := h; exact ⟨r, h1, hp r h2⟩
theorem Ok.eq {o : Option α} {r : α} (h : Ok (fun x => x = r) o) : o = some r := by obtain ⟨r, h1, rfl⟩ := h; exact h1
end
theorem getD_mem {α : Type} {l : List α} {i : Nat} {d : α} (h : i < l.length) : l.getD i d ∈ l := by
 rw [List.getD_eq_getElem?_getD, List.getElem?_eq_getElem h]; exact List.getElem_mem h
theorem getD_get {α : Type} {l : List α} {i : Nat} {d : α} (h : i < l.length) : l.getD i d = l[i] := by
 rw [List.getD_eq_getElem?_getD, List.getElem?_eq_getElem h]; rfl
theorem getD_append_left' {α : Type} {l r : List α} {i : Nat} {d : α} (h : i < l.length) : (l ++ r).getD i d = l.getD i d := by
 rw [List.getD_eq_getElem?_getD, List.getElem?_append_left h, ← List.getD_eq_getElem?_getD]
theorem getD_set' {α : Type} {l : List α} {i j : Nat} {x d : α} (h : i < l.length) : (l.set i x).getD j d = if i = j then x else l.getD j d := by
 simp only [List.getD_eq_getElem?_getD, List.getElem?_set]
 by_cases e : i = j
 ·subst e; simp [h]
 ·simp [e]
theorem list_ext {α : Type} {l r : List α} (d : α) (h : l.length = r.length) (hx : ∀ i, i < l.length → l.getD i d = r.getD i d) : l = r := by
 apply List.ext_getElem h
 intro i h1 h2
 have := hx i h1
 rwa [getD_get h1, getD_get h2] at this
theorem take_succ' {α : Type} {l : List α} {i : Nat} {d : α} (h : i < l.length) : l.take (i + 1) = l.take i ++ [l.getD i d] := by
 rw [getD_get h, List.take_add_one, List.getElem?_eq_getElem h]; rfl
def sumL : List Int → Int
 | [] => 0
 | x :: r => x + sumL r
theorem sumL_append : ∀ l r : List Int, sumL (l ++ r) = sumL l + sumL r
 | [], r => by simp [sumL]
 | x :: l, r => by simp only [List.cons_append, sumL, sumL_append l r]; omega
theorem sumL_set : ∀ (l : List Int) (i : Nat) (v : Int), i < l.length → sumL (l.set i v) = sumL l - l.getD i 0 + v
 | x :: l, 0, v, _ => by simp only [List.set_cons_zero, sumL, List.getD_cons_zero]; omega
 | x :: l, i + 1, v, h => by
  simp only [List.set_cons_succ, sumL, List.getD_cons_succ]
  rw [sumL_set l i v (by simpa using h)]; omega
theorem sumL_nonneg : ∀ (l : List Int), (∀ x ∈ l, 0 ≤ x) → 0 ≤ sumL l
 | [], _ => by simp [sumL]
 | x :: l, h => by
  have h1 := h x (by simp); have h2 := sumL_nonneg l fun y hy => h y (by simp [hy])
  simp only [sumL]; omega
theorem mem_le_sumL : ∀ (l : List Int), (∀ x ∈ l, 0 ≤ x) → ∀ x ∈ l, x ≤ sumL l
 | y :: l, h, x, hx => by
  have h1 := h y (by simp); have h2 := sumL_nonneg l fun y hy => h y (by simp [hy])
  simp only [sumL]
  rcases List.mem_cons.1 hx with rfl | hx
  ·omega
  ·have := mem_le_sumL l (fun y hy => h y (by simp [hy])) x hx; omega
theorem sumL_le {B : Int} : ∀ (l : List Int), (∀ x ∈ l, x ≤ B) → sumL l ≤ B * l.length
 | [], _ => by simp [sumL]
 | x :: l, h => by
  have h1 := h x (by simp); have h2 := sumL_le l fun y hy => h y (by simp [hy])
  simp only [sumL, List.length_cons, Int.natCast_add, Int.mul_add]; omega
end Go.KX

namespace Go.KX
section
variable {α β : Type} {post : α → Prop}
theorem nd_true {p : Prop} [Decidable p] (h : (!decide p) = true) : ¬ p := fun q => by rw [decide_eq_true q] at h; cases h
theorem nd_false {p : Prop} [Decidable p] (h : (!decide p) = false) : p := by
 by_cases q : p
 ·exact q
 ·rw [decide_eq_false q] at h; cases h
theorem ndT {p : Prop} [Decidable p] (h : ¬ p) : (!decide p) = true := by rw [decide_eq_false h]; rfl
theorem ndF {p : Prop} [Decidable p] (h : p) : (!decide p) = false := by rw [decide_eq_true h]; rfl
theorem drop_get {l : List β} {i : Nat} {d : β} (h : i < l.length) : l.drop i = l.getD i d :: l.drop (i + 1) := by
 rw [getD_get h, List.drop_eq_getElem_cons h]
theorem ok_find {F : Nat} {l : List β} {d : β} {p : β → Bool} {g : β → Option Bool} {hit : Int → Option α} {miss : Option α} (hF : l.length < F) (hl : l.length ≤ 1000000) (hg : ∀ x ∈ l, g x = some (p x))
  (h1 : ∀ i : Nat, i < l.length → p (l.getD i d) = true → Ok post (hit i)) (h2 : (∀ x ∈ l, p x = false) → Ok post miss) :
  Ok post (loopC (fun (x : Int) next => brk (decide (x < (l.length : Int))) (chk (0 ≤ x ∧ x < (l.length : Int)) (bnd (g (l.getD x.toNat d)) fun b => brk b (hit x) (chk (InR (x + 1)) (next (x + 1))))) miss) F 0) := by
 refine ok_loop (fun x : Int => 0 ≤ x ∧ x ≤ l.length ∧ ∀ j : Nat, (j : Int) < x → p (l.getD j d) = false) (fun x : Int => l.length - x.toNat) ⟨by simp, by simp, fun j hj => by omega⟩ (by simp; omega) ?_
 rintro i next ⟨i1, i2, i3⟩ hn
 refine ok_brk (fun hc => ?_) (fun hc => h2 fun x hx => ?_)
 ·have hc : i < l.length := of_decide_eq_true hc
  have hi : i.toNat < l.length := by omega
  refine ok_chk ⟨i1, hc⟩ (ok_bnde (hg _ (getD_mem hi)) (ok_brk (fun hb => ?_) (fun hb => ok_chk (show InR _ from ⟨by omega, by omega⟩) (hn _ ⟨by omega, by omega, fun j hj => ?_⟩ (by show l.length - (i + 1).toNat < l.length - i.toNat; omega)))))
  ·have := h1 i.toNat hi hb
   rwa [Int.toNat_of_nonneg i1] at this
  ·by_cases e : (j : Int) < i
   ·exact i3 j e
   ·obtain rfl : j = i.toNat := by omega
    exact hb
 ·have hc : ¬ i < l.length := of_decide_eq_false hc
  obtain ⟨j, hj, rfl⟩ := List.getElem_of_mem hx
  have := i3 j (by omega)
  rwa [getD_get hj] at this
end
end Go.KX

namespace Go.KX
structure Bytes (l : List Int) : Prop where
 b : ∀ x ∈ l, 0 ≤ x ∧ x ≤ 255
 len : l.length ≤ 9223372036854775807
section
variable {α : Type} {post : α → Prop} {l : List Int} {pos n : Int}
end
end Go.KX
