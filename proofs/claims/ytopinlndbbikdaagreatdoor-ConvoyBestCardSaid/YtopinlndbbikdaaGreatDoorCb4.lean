/- Texts KY, KZ, KZB, CbLen, CbW, CbIns, FnA, KLW, KLX, KLN: own work; each part says what it is. -/
import Derived.Test.YtopinlndbbikdaaGreatDoorCb3
import Derived.KernelRfl
import Derived.Lib.Strings
import Derived.Lib.Slices
import Derived.Lib.Small
import Derived.Lib.Walk
import Derived.Lib.BitFns
import Derived.Shelf.RegionOpenPlain
import Derived.WalkKit
import Derived.Lib.SliceRun
import Derived.Lib.AppendZeros
import Derived.Lib.AppendZerosOnto
import Derived.Lib.Overlaps
import Derived.Shelf.Spec.SlicesInsert
import Derived.Laws.Externs
import Derived.Laws.IdiomCopy
import Derived.Laws.NewBlocks
namespace Go.KX
open Go Go.RowKit
noncomputable section
theorem stepR_scope {P : Program} {b : Frame} {a : Act} {k : List Item} {cs : List Frame} {w : World} {c : Code} : step P (lone (b.atR a (.code (.scope c) :: k)) cs w) = .next (lone (b.atR a (.code c :: .inScope c :: k)) cs w) :=
 step_lone_go (by simp [stepG, stepG.exec, Frame.atR])
theorem stepR_inScope {P : Program} {b : Frame} {a : Act} {k : List Item} {cs : List Frame} {w : World} {c : Code} : step P (lone (b.atR a (.inScope c :: k)) cs w) = .next (lone (b.atR a k) cs w) :=
 step_lone_go (by simp [stepG, stepG.exec, Frame.atR])
def noGoto (Q : Exit → Act → World → Prop) : Exit → Act → World → Prop
 | .goto _, _, _ => False
 | e, a, w => Q e a w
theorem wpIn_scope {F : Fence} {n : Nat} {P : Program} {Q : Exit → Act → World → Prop} {a : Act} {w : World} {c : Code} (h : c.wpIn F n P (noGoto Q) a w) : (Code.scope c).wpIn F n P Q a w := by
 intro b k cs hro hb hr
 have h0 : (lone (b.atR a (.code (.scope c) :: k)) cs w).fenced P F := fenced_calm hb hr rfl
 obtain ⟨e, a₁, w₁, hq, harr⟩ := h b (.inScope c :: k) cs hro hb hr
 cases e with
 | normal => exact ⟨.normal, a₁, w₁, hq, .head h0 stepR_scope (StepsIn.trans harr (.one (fenced_calm hb hr rfl) stepR_inScope))⟩
 | exit id =>
  have hx : exitTo id (.inScope c :: k) = exitTo id k := by simp [exitTo]
  exact ⟨.exit id, a₁, w₁, hq, fun k' hk => .head h0 stepR_scope (harr.1 k' (by rw [hx]; exact hk)),
   fun hr' hk => let ⟨k₁, h1, h2⟩ := harr.2 hr' (by rw [hx]; exact hk); ⟨k₁, h1, .head h0 stepR_scope h2⟩⟩
 | goto l => exact hq.elim
 | ret => exact ⟨_, a₁, w₁, hq, .of_steps (.one h0 stepR_scope) harr⟩
 | panic ch => exact ⟨_, a₁, w₁, hq, .of_steps (.one h0 stepR_scope) harr⟩
 | outgrown => exact ⟨_, a₁, w₁, hq, .of_steps (.one h0 stepR_scope) harr⟩
section
variable {E : Env} {R : Type} {r : R} {gl : List (Nat × Val E.G.car)} {fx : Fix}
theorem Does.seq {fr : Fr} {x y : Code} {s s1 s2 : XS E.G.car} {e : Ex} (h1 : Does E gl fx fr x s s1 .normal) (h2 : Does E gl fx fr y s1 s2 e) : Does E gl fx fr (.seq x y) s s2 e :=
 fun b m A a w Q hg hN hr hq => wpIn_seq (h1 b m A a w _ hg hN hr fun m' A' a' w' hr' => h2 b m' A' a' w' Q hg hN hr' hq)
theorem Does.seqX {fr : Fr} {x y : Code} {s s1 : XS E.G.car} {e : Ex} (h1 : Does E gl fx fr x s s1 e) (he : e ≠ .normal) : Does E gl fx fr (.seq x y) s s1 e :=
 fun b m A a w Q hg hN hr hq => wpIn_seq (h1 b m A a w _ hg hN hr fun m' A' a' w' hr' => by
  cases e with
  | normal => exact absurd rfl he
  | _ => exact hq m' A' a' w' hr')
theorem Does.from {fr : Fr} {x : Code} {s s0 s1 : XS E.G.car} {e : Ex} (h1 : Does E gl fx fr x s s1 e) (hm : ∀ f, s.map f = s0.map f) : Does E gl fx fr x s0 s1 e :=
 fun b m A a w Q hg hN hr hq => h1 b m A a w Q hg hN (by rw [hm]; exact hr) hq
theorem Does.arr {fr : Fr} {x : Code} {T : Tpl} {d : Nat} {s s2 s' s1 : XS E.G.car} {ρ : Rho} {e : Ex} (hs : OKS E fx s) (hF : Final T s.nl ρ) (hst : StOK T d s s2 ρ (fun _ _ => False) s') (h1 : Does E gl fx fr x s' s1 e) : Does E gl fx fr x s2 s1 e :=
 fun b m A a w Q hg hN hr hq => by
  obtain ⟨m', A', hr'⟩ := hst.rel hs hF hg.pn hr
  exact h1 b m' A' a w Q hg hN hr' hq
theorem Does.close {fr : Fr} {x : Code} {s s0 s1 : XS E.G.car} {e : Ex} (h1 : Does E gl fx fr x s s1 e) (hf : fr.f = 0) (hm : Same0 E fx s0 s) : Does E gl fx fr x s0 s1 e :=
 fun b m A a w Q hg hN hr hq => by
  rw [hf] at hr
  obtain ⟨m', hr'⟩ := hm b m A a w hg.pn hr
  exact h1 b m' A a w Q hg hN (by rw [hf]; exact hr') hq
theorem seq_sound {cx : Ctx E} {x0 : Ex1 E R} {x y : Code} (hx : CodeOK E gl x (exec1 cx x0 x)) (hy : CodeOK E gl y (exec1 cx x0 y)) {Y : YS E R} (hY : YOK E gl fx.ys Y) {fr : Fr} {h : Hint} {s : XS E.G.car} {K : KT E R} (hf : fr.f = 0) (hs : OKS E fx s)
  (hk : exec1 cx x0 x Y fr h s (fun h e s => match e with | .normal => exec1 cx x0 y Y fr h s K | e => K h e s) = some r) : ∃ h' e s', K h' e s' = some r ∧ OKS E fx s' ∧ Ext fr.d s s' ∧ Does E gl fx fr (.seq x y) s s' e := by
 obtain ⟨h1, e1, s1, k1, o1, x1, d1⟩ := hx fx Y fr h s r _ hY hf hs hk
 cases e1 with
 | normal =>
  obtain ⟨h2, e2, s2, k2, o2, x2, d2⟩ := hy fx Y fr h1 s1 r K hY hf o1 k1
  exact ⟨h2, e2, s2, k2, o2, x1.trans x2, d1.seq d2⟩
 | ret => exact ⟨h1, _, s1, k1, o1, x1, d1.seqX (by simp)⟩
 | exit id => exact ⟨h1, _, s1, k1, o1, x1, d1.seqX (by simp)⟩
theorem runOf_ok {cx : Ctx E} (hin : InlS E gl cx) {x0 : Ex1 E R} (hx0 : ∀ c, CodeOK E gl c (x0 c)) {ys : List YI} {Y : YS E R} (hY : YOK E gl ys Y) {roots : Nat → List Nat} : RunOK E gl ys (runOf cx roots x0 Y) := by
 intro c d xs s0 h K r o ht hl hk
 cases c with
 | fn k =>
  have hk : (match findFn k cx.inl with | some fn => goFn roots x0 Y fn d xs s0 h K | none => match findSrt k cx.srt with | some q => sortR q d xs s0 h K | none => none) = some r := hk
  split at hk
  ·rename_i fn hfn
   obtain ⟨hP, hen⟩ := hin.1 k fn hfn
   obtain ⟨h', v, s', h1, h2, h3, h4, h5⟩ := goFn_sound hx0 hP hY o ht hl hk
   exact ⟨h', v, s', h1, h2, h3, h4, hen, h5⟩
  ·split at hk
   ·rename_i q hq
    obtain ⟨hq1, hq2⟩ := findSrt_mem hq
    obtain ⟨h', v, s', h1, h2, h3, h4, h5⟩ := sortR_sound (hin.2 q hq1) o ht hl hk
    subst hq2
    exact ⟨h', v, s', h1, h2, h3, h4, (hin.2 q hq1).enters, h5⟩
   ·cases hk
 | y L =>
  have hk : (match findY L Y with | some y => y d xs s0 h K | none => none) = some r := hk
  split at hk
  ·rename_i f hf
   obtain ⟨y, hy, hyL, hh⟩ := hY L f hf
   obtain ⟨h', s', h1, h2, h3, h4, h5, h6⟩ := hh ys d xs s0 h K r o ht hl hk
   exact ⟨h', _, s', h1, h2, h3, h4, y, hy, hyL, rfl, h5, h6⟩
  ·cases hk
theorem exec1_sound {cx : Ctx E} (hmix : E.P.follows .mixedOrders = true) (ht : ∀ c ∈ cx.tbl, CSok E gl c) (hin : InlS E gl cx) (hkeys : ∀ p ∈ E.keys, KeyOK E.P E.G p.1 p.2) {x0 : Ex1 E R} (hx0 : ∀ c, CodeOK E gl c (x0 c)) : ∀ c : Code, CodeOK E gl c (exec1 cx x0 c) := by
 intro c
 induction c with
 | skip => intro fx Y fr h s r K hY hf hs hk; exact ⟨h, .normal, s, hk, hs, Ext.refl _ _, fun b m A a w Q _ _ hr hq => wpIn_skip (hq m A a w hr)⟩
 | region id ops draw =>
  intro fx Y fr h s r K hY hf hs hk
  obtain ⟨rs, h', h1, h2, h3, h4⟩ := region_sound (K := fun rs h => K h .normal rs.s) hmix ⟨ht, runOf_ok hin hx0 hY, hs.glo, hs.pn, hkeys⟩ (by omega) hs hk
  exact ⟨h', .normal, rs.s, h1, h2, h3, h4⟩
 | seq x y hx hy =>
  intro fx Y fr h s r K hY hf hs hk
  cases h with
  | j T ha hb =>
   obtain ⟨s1, hk, o1, x1, m1⟩ := restT_sound T.kt s hs hk
   obtain ⟨s2, hk, o2, x2, m2⟩ := restL_sound T.kl s1 o1 hk
   have hk : exec1 cx x0 x Y ⟨fr.f, Nat.succ fr.d, fr.N, fr.ds, fr.roots⟩ ha s2 (fun h e s' => match e with
    | .normal => closeC (Nat.succ fr.d) T.rw s' fun s' => arrK T fr.d s2 s' (fun x => stK T fr.d s2 x fun s => exec1 cx x0 y Y fr hb s K)
    | e => K h e s') = some r := join_some hk
   obtain ⟨h3, e3, s3, k3, o3, x3, d3⟩ := hx fx Y ⟨fr.f, Nat.succ fr.d, fr.N, fr.ds, fr.roots⟩ ha s2 r _ hY hf o2 hk
   have d3 : Does E gl fx fr x s2 s3 e3 := d3
   have x3' : Ext fr.d s2 s3 := x3.mono (Nat.le_succ _)
   have d3' : Does E gl fx fr x s s3 e3 := d3.from (fun f => (m2 f).trans (m1 f))
   cases e3 with
   | normal =>
    obtain ⟨s3c, k3, _, x3c, e3c⟩ := closeC_sound T.rw s3 o3 k3
    obtain ⟨y0, k4, harr⟩ := arr_sound (d := fr.d) o2.inv (OldS.of_ext (x3.trans x3c)) k3
    obtain ⟨s4, ρ, k5, hF, hst⟩ := harr r _ k4
    obtain ⟨h6, e6, s6, k6, o6, x6, d6⟩ := hy fx Y fr hb s4 r K hY hf (hst.oks o2 hF) k5
    exact ⟨h6, e6, s6, k6, o6, ((x1.trans x2).trans (hst.ext hF)).trans x6, d3'.seq ((d6.arr o2 hF hst).close hf e3c)⟩
   | ret => exact ⟨h3, _, s3, k3, o3, (x1.trans x2).trans x3', d3'.seqX (by simp)⟩
   | exit id => exact ⟨h3, _, s3, k3, o3, (x1.trans x2).trans x3', d3'.seqX (by simp)⟩
  | _ => exact seq_sound hx hy hY hf hs hk
 | cond v x y hx hy =>
  intro fx Y fr h s r K hY hf hs hk
  have hS : Sees (E := E) ⟨fun t => s.tmp fr.f t, s, none⟩ (s.map fr.f) := ⟨fun i v hv => by
   have hv' : s.tmp fr.f i = some v := hv
   simp only [XS.map, hv', Option.map_some], fun _ => rfl, fun _ => rfl, fun _ _ => rfl⟩
  obtain ⟨u, h1, hu⟩ := evK_sound hS hk
  have ev : ∀ {c : Bool}, (∀ m, den m u = .bool c) → ∀ {b : Base} {m A a w}, Rel (cxOf E b) m A (s.map fr.f) a w → a.eval v = .bool c := fun hc _ _ _ _ _ hr => by
   rw [(hu.eval hr (fun _ _ => rfl)).1, hc]
  have go : ∀ (c : Bool), (∀ m, den m u = .bool c) → ∀ hh, (match c with | true => exec1 cx x0 x Y fr hh s K | false => exec1 cx x0 y Y fr hh s K) = some r → ∃ h' e s', K h' e s' = some r ∧ OKS E fx s' ∧ Ext fr.d s s' ∧ Does E gl fx fr (.cond v x y) s s' e := by
   intro c hc hh hk
   cases c with
   | true =>
    obtain ⟨h2, e2, s2, k2, o2, x2, d2⟩ := hx fx Y fr hh s r K hY hf hs hk
    exact ⟨h2, e2, s2, k2, o2, x2, fun b m A a w Q hg hN hr hq => wpIn_cond_split (ev hc hr) (fun _ => d2 b m A a w Q hg hN hr hq) (fun h => by cases h)⟩
   | false =>
    obtain ⟨h2, e2, s2, k2, o2, x2, d2⟩ := hy fx Y fr hh s r K hY hf hs hk
    exact ⟨h2, e2, s2, k2, o2, x2, fun b m A a w Q hg hN hr hq => wpIn_cond_split (ev hc hr) (fun h => by cases h) (fun _ => d2 b m A a w Q hg hN hr hq)⟩
  split at h1
  ·rename_i e
   refine go e (fun _ => rfl) h ?_
   cases e <;> exact h1
  ·rename_i c
   cases c with
   | true => exact go true (fun _ => rfl) h.l1 (cutK_some h1)
   | false => exact go false (fun _ => rfl) h.l2 (cutK_some h1)
  ·cases h1
 | block id x hx =>
  intro fx Y fr h s r K hY hf hs hk
  obtain ⟨h1, e1, s1, k1, o1, x1, d1⟩ := hx fx Y fr h s r _ hY hf hs hk
  cases e1 with
  | normal => exact ⟨h1, .normal, s1, k1, o1, x1, fun b m A a w Q hg hN hr hq => wpIn_block (d1 b m A a w _ hg hN hr fun m' A' a' w' hr' => hq m' A' a' w' hr')⟩
  | ret => exact ⟨h1, .ret, s1, k1, o1, x1, fun b m A a w Q hg hN hr hq => wpIn_block (d1 b m A a w _ hg hN hr fun m' A' a' w' hr' => hq m' A' a' w' hr')⟩
  | exit id' =>
   have k1 : (bif Nat.beq id' id then K h1 .normal s1 else K h1 (.exit id') s1) = some r := k1
   cases e : Nat.beq id' id with
   | true =>
    rw [e, cond_true] at k1
    have e := Nat.eq_of_beq_eq_true e
    exact ⟨h1, .normal, s1, k1, o1, x1, fun b m A a w Q hg hN hr hq => wpIn_block (d1 b m A a w _ hg hN hr fun m' A' a' w' hr' => by
     simp only [Ex.to, Exit.inBlock, if_pos e]
     exact hq m' A' a' w' hr')⟩
   | false =>
    rw [e, cond_false] at k1
    have e : ¬ id' = id := fun h => by rw [h] at e; simp at e
    exact ⟨h1, .exit id', s1, k1, o1, x1, fun b m A a w Q hg hN hr hq => wpIn_block (d1 b m A a w _ hg hN hr fun m' A' a' w' hr' => by
     simp only [Ex.to, Exit.inBlock, if_neg e]
     exact hq m' A' a' w' hr')⟩
 | loop x hx =>
  intro fx Y fr h s r K hY hf hs hk
  cases h with
  | l T hb =>
   obtain ⟨sc, hk, oc, xc, ec⟩ := closeC_sound T.rw s hs hk
   obtain ⟨s1, hk, o1, x1, m1⟩ := restT_sound T.kt sc oc hk
   obtain ⟨s2, hk, o2, x2, m2⟩ := restL_sound T.kl s1 o1 hk
   obtain ⟨y0, hk, harr⟩ := arr_sound (d := fr.d) (d' := 1000000) o2.inv ⟨fun _ _ _ h _ => h, fun _ _ _ _ _ h _ => h⟩ hk
   have key : ∀ (n : Nat) (y : VT E.G.car T.ks) (s3 : XS E.G.car), Arr T fr.d s2 s3 R y → loopC (fun y next => stK T fr.d s2 y fun s' => exec1 cx x0 x Y ⟨fr.f, Nat.succ fr.d, fr.N, fr.ds, fr.roots⟩ hb s' fun h e s2' => match e with
      | .normal => closeC (Nat.succ fr.d) T.rw s2' fun s2' => arrK T fr.d s2 s2' next
      | e => K h e s2') n y = some r →
     ∃ h' e s', K h' e s' = some r ∧ OKS E fx s' ∧ Ext fr.d s2 s' ∧ ∀ (b : Base) (m : Nat → MV) (A : Nat → Prop) (a : Act) (w : World) (Q : Exit → Act → World → Prop), Good E gl fx b → FrOK fr b → Rel (cxOf E b) m A (s3.map fr.f) a w →
      (∀ m' A' a' w', Rel (cxOf E b) m' A' (s'.map fr.f) a' w' → Q e.to a' w') → Code.roundsIn (cxOf E b).F 0 E.P x Q n a w := by
    intro n
    induction n with
    | zero => intro y s3 _ h; cases h
    | succ n ih =>
     intro y s3 harr h
     obtain ⟨s4, ρ, k5, hF, hst⟩ := harr r _ h
     obtain ⟨h6, e6, s6, k6, o6, x6, d6⟩ := hx fx Y ⟨fr.f, Nat.succ fr.d, fr.N, fr.ds, fr.roots⟩ hb s4 r _ hY hf (hst.oks o2 hF) k5
     have d6 : Does E gl fx fr x s3 s6 e6 := Does.arr (fr := fr) o2 hF hst d6
     have x6' : Ext fr.d s2 s6 := (hst.ext hF).trans (x6.mono (Nat.le_succ _))
     cases e6 with
     | normal =>
      obtain ⟨s6c, k6, _, x6c, e6c⟩ := closeC_sound T.rw s6 o6 k6
      obtain ⟨y1, k7, harr1⟩ := arr_sound (d := fr.d) o2.inv (hst.old (x6.trans x6c)) k6
      obtain ⟨h8, e8, s8, k8, o8, x8, d8⟩ := ih y1 s6c harr1 k7
      exact ⟨h8, e8, s8, k8, o8, x8, fun b m A a w Q hg hN hr hq => d6 b m A a w _ hg hN hr fun m' A' a' w' hr' => by
       rw [hf] at hr'
       obtain ⟨m2, hr2⟩ := e6c b m' A' a' w' hg.pn hr'
       exact d8 b m2 A' a' w' Q hg hN (by rw [hf]; exact hr2) hq⟩
     | ret => exact ⟨h6, _, s6, k6, o6, x6', fun b m A a w Q hg hN hr hq => d6 b m A a w _ hg hN hr fun m' A' a' w' hr' => hq m' A' a' w' hr'⟩
     | exit id => exact ⟨h6, _, s6, k6, o6, x6', fun b m A a w Q hg hN hr hq => d6 b m A a w _ hg hN hr fun m' A' a' w' hr' => hq m' A' a' w' hr'⟩
   obtain ⟨h3, e3, s3, k3, o3, x3, d3⟩ := key cx.F y0 s2 harr hk
   exact ⟨h3, e3, s3, k3, o3, ((xc.trans x1).trans x2).trans x3, fun b m A a w Q hg hN hr hq => by
    rw [hf] at hr
    obtain ⟨m2', hr2⟩ := ec b m A a w hg.pn hr
    exact wpIn_loop_rounds cx.F (d3 b m2' A a w Q hg hN (by rw [m2, m1, hf]; exact hr2) hq)⟩
  | u n hb =>
   have key : ∀ (n : Nat) (h : Hint) (s : XS E.G.car), OKS E fx s → roundsK (fun h s K => exec1 cx x0 x Y fr h s K) K n h s = some r →
     ∃ h' e s', K h' e s' = some r ∧ OKS E fx s' ∧ Ext fr.d s s' ∧ ∀ (b : Base) (m : Nat → MV) (A : Nat → Prop) (a : Act) (w : World) (Q : Exit → Act → World → Prop), Good E gl fx b → FrOK fr b → Rel (cxOf E b) m A (s.map fr.f) a w →
      (∀ m' A' a' w', Rel (cxOf E b) m' A' (s'.map fr.f) a' w' → Q e.to a' w') → Code.roundsIn (cxOf E b).F 0 E.P x Q n a w := by
    intro n
    induction n with
    | zero => intro h s _ hk; cases hk
    | succ n ih =>
     intro h s hs hk
     obtain ⟨h6, e6, s6, k6, o6, x6, d6⟩ := hx fx Y fr h s r _ hY hf hs hk
     cases e6 with
     | normal =>
      obtain ⟨h8, e8, s8, k8, o8, x8, d8⟩ := ih h6 s6 o6 k6
      exact ⟨h8, e8, s8, k8, o8, x6.trans x8, fun b m A a w Q hg hN hr hq => d6 b m A a w _ hg hN hr fun m' A' a' w' hr' => d8 b m' A' a' w' Q hg hN hr' hq⟩
     | ret => exact ⟨h6, _, s6, k6, o6, x6, fun b m A a w Q hg hN hr hq => d6 b m A a w _ hg hN hr fun m' A' a' w' hr' => hq m' A' a' w' hr'⟩
     | exit id => exact ⟨h6, _, s6, k6, o6, x6, fun b m A a w Q hg hN hr hq => d6 b m A a w _ hg hN hr fun m' A' a' w' hr' => hq m' A' a' w' hr'⟩
   obtain ⟨h3, e3, s3, k3, o3, x3, d3⟩ := key n hb s hs hk
   exact ⟨h3, e3, s3, k3, o3, x3, fun b m A a w Q hg hN hr hq => wpIn_loop_rounds n (d3 b m A a w Q hg hN hr hq)⟩
  | _ => cases hk
 | rangeFunc g ps assign body ha hb => intro fx Y fr h s r K hY hf hs hk; exact range_sound hx0 hin.1 ha hb hY hf hs hk
 | exit id => intro fx Y fr h s r K hY hf hs hk; exact ⟨h, .exit id, s, hk, hs, Ext.refl _ _, fun b m A a w Q _ _ hr hq => wpIn_exit (hq m A a w hr)⟩
 | scope x hx =>
  intro fx Y fr h s r K hY hf hs hk
  obtain ⟨h1, e1, s1, k1, o1, x1, d1⟩ := hx fx Y fr h s r _ hY hf hs hk
  exact ⟨h1, e1, s1, k1, o1, x1, fun b m A a w Q hg hN hr hq => wpIn_scope (d1 b m A a w _ hg hN hr fun m' A' a' w' hr' => by cases e1 <;> exact hq m' A' a' w' hr')⟩
 | label l => intro fx Y fr h s r K hY hf hs hk; exact ⟨h, .normal, s, hk, hs, Ext.refl _ _, fun b m A a w Q _ _ hr hq => wpIn_label (hq m A a w hr)⟩
 | ret => intro fx Y fr h s r K hY hf hs hk; exact ⟨h, .ret, s, hk, hs, Ext.refl _ _, fun b m A a w Q _ _ hr hq => wpIn_ret (hq m A a w hr)⟩
 | _ => intro fx Y fr h s r K hY hf hs hk; cases hk
theorem exec_sound {cx : Ctx E} (hmix : E.P.follows .mixedOrders = true) (ht : ∀ c ∈ cx.tbl, CSok E gl c) (hin : InlS E gl cx) (hkeys : ∀ p ∈ E.keys, KeyOK E.P E.G p.1 p.2) : ∀ (n : Nat) (c : Code), CodeOK E gl c (exec (R := R) cx n c) := by
 intro n
 induction n with
 | zero => intro c fx Y fr h s r K _ _ _ hk; cases hk
 | succ n ih => exact exec1_sound hmix ht hin hkeys ih
end
end
end Go.KX

namespace Go.KX
open Go Go.RowKit
noncomputable section
section
variable {E : Env} {R : Type} {r : R} {gl : List (Nat × Val E.G.car)} {fx : Fix}
def mvOf (m : Nat → MV) : Option Nat → MV
 | some L => m L
 | none => nilMV
theorem seesOf (s : XS E.G.car) (f : Nat) : Sees (E := E) ⟨fun _ => none, s, none⟩ (s.map f) :=
 ⟨(fun i v hv => nomatch hv), fun _ => rfl, fun _ => rfl, fun _ _ => rfl⟩
def RelF (E : Env) (b : Base) (m : Nat → MV) (A : Nat → Prop) (g : Map E.G.car) (a : Act) (w : World) : Prop := Rel (cxOf E b) m A g a w ∧ ∀ x, ¬ b.bor x
theorem newRow_of {b : Base} {m : Nat → MV} {A : Nat → Prop} {g : Map E.G.car} {a : Act} {w : World} (h : RelF E b m A g a w) {L e t : Nat} {l : List (E.G.car t)} (hL : g (.o L) = some (.row e t l)) : NewRowAt E.G A b.B w (m L) e t l := by
 obtain ⟨h, hb⟩ := h
 obtain ⟨h1, h2⟩ := h.ent _ _ hL
 refine ⟨h1, ?_⟩
 rcases h2 with h2 | ⟨h2, h3, h4⟩
 ·exact .inl h2
 ·obtain ⟨h5, h6⟩ := h.own L _ (by rw [hL]; exact ⟨h2, rfl⟩)
  exact .inr ⟨h2, h3, h5.resolve_right (hb _), h6, h4⟩
theorem nilRow (G : Reg) (A : Nat → Prop) (sz : Nat) (w : World) (e t : Nat) : NewRowAt G A sz w nilMV e t ([] : List (G.car t)) := ⟨rfl, .inl ⟨rfl, rfl, 0, rfl⟩⟩
def RowsOf (s : XS E.G.car) (ls : List (Option Nat)) : Prop := ∀ L, some L ∈ ls → ∃ e t l, s.lab L 0 = some (.row e t l)
theorem ownsK_sound {s : XS E.G.car} : ∀ {vs : List SV} {cs : List (CV E.G.car)} {ks : List Key} {us : St E.G.car}, SvCases (s.map 0) vs cs ks us → ∀ {es : List Nat} {K : List (Option Nat) → Option R}, outK.ownsK s es cs vs K = some r →
  ∃ ls, K ls = some r ∧ RowsOf s ls ∧ ∀ (b : Base) (m : Nat → MV) (A : Nat → Prop) (a : Act) (w : World), RelF E b m A (s.map 0) a w → ResCells E.G A b.B w cs es (denL m vs) (ls.map (mvOf m)) := by
 intro vs cs ks us h
 induction h with
 | nil =>
  intro es K hk
  cases es <;> exact ⟨[], hk, (fun L h => nomatch h), fun b m A a w _ => ⟨rfl, rfl⟩⟩
 | cons hc hs ih =>
  intro es K hk
  rename_i v vs cv cs k ks u us
  cases cv with
  | v x =>
   have hk : outK.ownsK s es cs vs K = some r := by cases es <;> exact hk
   obtain ⟨ls, h1, h2, h3⟩ := ih hk
   refine ⟨ls, h1, h2, fun b m A a w hr => ?_⟩
   have hv : den m v = x := by cases hc with | plain h4 _ => exact h4 m
   have := h3 b m A a w hr
   cases es <;> exact ⟨_, by rw [denL, hv], this⟩
  | sl t l =>
   cases es with
   | nil => cases v <;> simp [outK.ownsK] at hk
   | cons e es =>
    cases hc with
    | nil =>
     have hk : outK.ownsK s es cs vs (fun ls => K (none :: ls)) = some r := hk
     obtain ⟨ls, h1, h2, h3⟩ := ih hk
     refine ⟨_, h1, fun L hL => h2 L (by simpa using hL), fun b m A a w hr => ⟨nilMV, denL m vs, ls.map (mvOf m), ?_, rfl, nilRow _ _ _ _ _ _, h3 b m A a w hr⟩⟩
     simp only [denL, den, nilMV]
    | ext h4 h5 =>
     rename_i L
     have hk : (match s.lab L 0 with
      | some (.row e' _ _) => bif Nat.beq e e' then outK.ownsK s es cs vs fun ls => K (some L :: ls) else none
      | _ => none) = some r := hk
     split at hk
     ·rename_i e' t' l' hl
      exact absurd hl (h5 _ _ _)
     ·cases hk
    | row h4 =>
     rename_i L ety
     have h4' : s.lab L 0 = some (.row ety t l) := h4
     have hk : (match s.lab L 0 with
      | some (.row e' _ _) => bif Nat.beq e e' then outK.ownsK s es cs vs fun ls => K (some L :: ls) else none
      | _ => none) = some r := hk
     rw [h4'] at hk
     obtain ⟨h5, hk9⟩ := bif_some hk
     have h5 := Nat.eq_of_beq_eq_true h5
     subst h5
     obtain ⟨ls, h1, h2, h3⟩ := ih hk9
     refine ⟨_, h1, fun L' hL => ?_, fun b m A a w hr => ⟨m L, denL m vs, ls.map (mvOf m), ?_, rfl, newRow_of hr h4, h3 b m A a w hr⟩⟩
     ·rcases List.mem_cons.1 hL with h6 | h6
      ·cases h6; exact ⟨_, _, _, h4'⟩
      ·exact h2 L' h6
     ·simp only [denL, den]
    | part => simp [outK.ownsK] at hk
    | partR => simp [outK.ownsK] at hk
theorem SvCases.noRow {M : Map E.G.car} {vs : List SV} {cs : List (CV E.G.car)} {ks : List Key} {us : St E.G.car} (h : SvCases M vs cs ks us) (he : us = []) : ∀ L, .o L ∉ ks := by
 induction h with
 | nil => intro L hL; cases hL
 | cons hc hs ih =>
  intro L hL
  have h2 := List.append_eq_nil_iff.1 he
  rcases List.mem_append.1 hL with hL | hL
  ·cases hc with
   | plain => cases hL
   | nil => cases hL
   | ext => simp at hL
   | row => cases h2.2
   | part => simp at hL
   | partR => cases h2.2
  ·exact ih h2.1 L hL
theorem outK_sound {s : XS E.G.car} {k : RK} {v : SV} {K : k.T E.G.car → List (Option Nat) → Option R} (h : outK s k v K = some r) :
  ∃ x ls, K x ls = some r ∧ RowsOf s ls ∧ ∀ (b : Base) (m : Nat → MV) (A : Nat → Prop) (a : Act) (w : World), RelF E b m A (s.map 0) a w → ResIs E.G A b.B w k x (den m v) (ls.map (mvOf m)) := by
 cases k with
 | v t agg es =>
  unfold outK at h
  simp only at h
  obtain ⟨cs, ks, us, h1, h2⟩ := svCVs_sound (c := ⟨fun _ => none, s, none⟩) (seesOf s 0) h
  split at h1
  ·rename_i x hx
   obtain ⟨h3, h4⟩ := bif_some h1
   obtain ⟨ls, h5, h6, h7⟩ := ownsK_sound h2 h4
   refine ⟨x, ls, h5, h6, fun b m A a w hr => ⟨denL m (svCells v), by rw [E.G.hdec t cs x hx]; exact h7 b m A a w hr, ?_⟩⟩
   cases v with
   | g ys => simp only at h3; rw [h3]; rfl
   | _ => simp only [Bool.not_eq_true'] at h3; rw [h3]; rfl
  ·cases h1
 | sl t e =>
  unfold outK at h
  simp only at h
  split at h
  ·exact ⟨[], [none], h, (fun L hL => by simp at hL), fun b m A a w hr => ⟨nilMV, rfl, rfl, nilRow _ _ _ _ _ _⟩⟩
  ·rename_i L
   split at h
   ·rename_i e' t' l hl
    split at h
    ·rename_i ht
     subst ht
     obtain ⟨h3, h4⟩ := bif_some h
     have h3 := Nat.eq_of_beq_eq_true h3
     subst h3
     refine ⟨l, [some L], h4, fun L' hL => ?_, fun b m A a w hr => ⟨m L, rfl, rfl, newRow_of hr hl⟩⟩
     have : L' = L := by simpa using hL
     subst this
     exact ⟨_, _, _, hl⟩
    ·cases h
   ·cases h
  ·cases h
 | r t agg =>
  unfold outK at h
  simp only at h
  obtain ⟨cs, ks, us, h1, h2⟩ := svCVs_sound (c := ⟨fun _ => none, s, none⟩) (seesOf s 0) h
  split at h1
  ·rename_i x hx
   obtain ⟨h3, h4⟩ := bif_some h1
   refine ⟨x, [], h4, (fun L hL => nomatch hL), fun b m A a w hr => ⟨rfl, denL m (svCells v), ?_, ?_⟩⟩
   ·rw [E.G.hdec t cs x hx]
    exact h2.read hr.1 (fun _ _ => rfl) (fun _ h => h) (fun L x hL => absurd hL (h2.noRow rfl L))
   ·cases v with
    | g ys => simp only at h3; rw [h3]; rfl
    | _ => simp only [Bool.not_eq_true'] at h3; rw [h3]; rfl
  ·cases h1
theorem frzOne_sound : ∀ (vs : List SV) {s : XS E.G.car} {K : XS E.G.car → Option R}, frzOne vs s K = some r →
  ∃ s', K s' = some r ∧ ∀ (b : Base) (m : Nat → MV) (A : Nat → Prop) (a : Act) (w : World), RelF E b m A (s.map 0) a w → ∃ A', RelF E b m A' (s'.map 0) a w := by
 intro vs
 induction vs with
 | nil => intro s K h; exact ⟨s, h, fun b m A a w hr => ⟨A, hr⟩⟩
 | cons v vs ih =>
  intro s K h
  simp only [frzOne] at h
  split at h
  ·rename_i L
   split at h
   ·rename_i ety t l hl
    rw [XS.upd_eq] at h
    obtain ⟨hmap, _, _⟩ := XS.map_updF 0 (f := 0) (by omega) s (u := [(.o L, none), (.x L, some (.ext t l))]) rfl
    obtain ⟨s', h1, h2⟩ := ih h
    refine ⟨s', h1, fun b m A a w hr => ?_⟩
    have h3 := hr.1.freeze (show s.map 0 (.o L) = some (.row ety t l) from hl)
    rw [← hmap] at h3
    exact h2 b m _ a w ⟨h3, hr.2⟩
   ·exact ih h
  ·exact ih h
theorem frzR_sound : ∀ (ks : List RK) {vs : List SV} {s : XS E.G.car} {K : XS E.G.car → Option R}, frzR ks vs s K = some r →
  ∃ s', K s' = some r ∧ ∀ (b : Base) (m : Nat → MV) (A : Nat → Prop) (a : Act) (w : World), RelF E b m A (s.map 0) a w → ∃ A', RelF E b m A' (s'.map 0) a w := by
 intro ks
 induction ks with
 | nil => intro vs s K h; exact ⟨s, by simpa [frzR] using h, fun b m A a w hr => ⟨A, hr⟩⟩
 | cons k ks ih =>
  intro vs s K h
  cases vs with
  | nil => exact ⟨s, h, fun b m A a w hr => ⟨A, hr⟩⟩
  | cons v vs =>
   cases k with
   | r t agg =>
    have h : frzOne (svCells v) s (fun s => frzR ks vs s K) = some r := h
    obtain ⟨s1, h1, h2⟩ := frzOne_sound _ h
    obtain ⟨s2, h3, h4⟩ := ih h1
    exact ⟨s2, h3, fun b m A a w hr => by obtain ⟨A1, hr1⟩ := h2 b m A a w hr; exact h4 b m A1 a w hr1⟩
   | v _ _ _ => exact ih h
   | sl _ _ => exact ih h
theorem outsK_sound {s : XS E.G.car} : ∀ (ks : List RK) {vs : List SV} {K : RT E.G.car ks → List (Option Nat) → Option R}, outsK s ks vs K = some r →
  ∃ x ls, K x ls = some r ∧ RowsOf s ls ∧ ∀ (b : Base) (m : Nat → MV) (A : Nat → Prop) (a : Act) (w : World), RelF E b m A (s.map 0) a w → ResAre E.G A b.B w ks x (denL m vs) (ls.map (mvOf m))
 | [], [], K, h => ⟨(), [], h, (fun L hL => nomatch hL), fun _ _ _ _ _ _ => ⟨rfl, rfl⟩⟩
 | [], _ :: _, K, h => by cases h
 | [k], [v], K, h => by
  obtain ⟨x, ls, h1, h2, h3⟩ := outK_sound (k := k) (v := v) (K := K) h
  exact ⟨x, ls, h1, h2, fun b m A a w hr => ⟨_, rfl, h3 b m A a w hr⟩⟩
 | [k], [], K, h => by cases h
 | [k], _ :: _ :: _, K, h => by cases h
 | k :: k' :: ks, [], K, h => by cases h
 | k :: k' :: ks, v :: vs, K, h => by
  have h : (outK s k v fun x ls => outsK s (k' :: ks) vs fun y ls' => K (x, y) (ls ++ ls')) = some r := h
  obtain ⟨x, ls, h1, h2, h3⟩ := outK_sound h
  obtain ⟨y, ls', h4, h5, h6⟩ := outsK_sound (k' :: ks) h1
  refine ⟨(x, y), ls ++ ls', h4, fun L hL => (List.mem_append.1 hL).elim (h2 L) (h5 L), fun b m A a w hr => ⟨_, _, ls.map (mvOf m), ls'.map (mvOf m), rfl, by simp, h3 b m A a w hr, h6 b m A a w hr⟩⟩
theorem apart_of {s : XS E.G.car} {b : Base} {m : Nat → MV} {A : Nat → Prop} {a : Act} {w : World} (hr : Rel (cxOf E b) m A (s.map 0) a w) : ∀ {ls : List (Option Nat)}, RowsOf s ls → nodupN (ls.filterMap id) = true → Apart (ls.map (mvOf m)) := by
 intro ls
 induction ls with
 | nil => intro _ _; trivial
 | cons o ls ih =>
  intro h hn
  have hls : RowsOf s ls := fun L hL => h L (List.mem_cons_of_mem _ hL)
  cases o with
  | none => exact ⟨fun mv' _ hc => absurd rfl hc, ih hls hn⟩
  | some L =>
   obtain ⟨h1, h2⟩ := nodupN_cons (x := L) (l := ls.filterMap id) hn
   refine ⟨fun mv' hmv hc hc' hb => ?_, ih hls h2⟩
   obtain ⟨o', ho', rfl⟩ := List.mem_map.1 hmv
   cases o' with
   | none => exact absurd rfl hc'
   | some L' =>
    obtain ⟨e, t, l, e1⟩ := h L (by simp)
    obtain ⟨e', t', l', e2⟩ := hls L' ho'
    have e1 : s.map 0 (.o L) = some (.row e t l) := e1
    have e2 : s.map 0 (.o L') = some (.row e' t' l') := e2
    have := hr.inj L L' (m L).b (by rw [e1]; exact ⟨hc, rfl⟩) (by rw [e2]; exact ⟨hc', hb⟩)
    subst this
    exact h1 (List.mem_filterMap.2 ⟨some L, ho', rfl⟩)
end
end
end Go.KX

namespace Go.KX
open Go Go.RowKit
noncomputable section
section
variable {cx : Cx} {m : Nat → MV} {A : Nat → Prop} {g : CMap cx} {a : Act} {w : World}
theorem Rel.know {i : Nat} {x : SV} (h : Rel cx m A g a w) (hv : a.tmps[i]? = some (den m x)) (hk : x.ok m) : Rel cx m A (upd [(.t i, some (.x x))] g) a w := by
 have hg : ∀ k, k ≠ .t i → upd [(.t i, some (.x x))] g k = g k := fun k hk => by rw [upd_one, if_neg (Ne.symm hk)]
 refine ⟨h.size, h.defers, fun k v hkv => ?_, fun L o v hv => ?_, fun L x ho => ?_, fun L L' x h1 h2 => ?_, h.frzc, h.held, h.top, h.fix, h.ko, h.frz0, h.frzA, h.pins⟩
 ·by_cases e : k = .t i
  ·subst e
   rw [upd_one, if_pos rfl] at hkv
   cases hkv
   exact ⟨hv, hk⟩
  ·rw [hg k e] at hkv
   exact h.ent k v hkv
 ·rw [hg _ (by simp)] at hv ⊢
  exact h.cell L o v hv
 ·rw [hg _ (by simp)] at ho
  exact h.own L _ ho
 ·rw [hg _ (by simp)] at h1 h2
  exact h.inj L L' _ h1 h2
theorem Rel.addRo {L blk : Nat} {cs : List (CV cx.G.car)} (h : Rel cx m A g a w) (hf : Free cx L g) (hA : A blk) (hd : ∀ (j : Nat) (cv : CV cx.G.car), cs[j]? = some cv → ∃ u, w.cell? ⟨blk, j, none⟩ = some u ∧ Hd cx.G A w cv u) :
  Rel cx (setL m L { b := blk, p := none, n := 0, c := 0 }) A (upd [(.x L, some (.ro cs))] g) a w := by
 have hg : ∀ k, k ≠ .x L → upd [(.x L, some (.ro cs))] g k = g k := fun k hk => by rw [upd_one, if_neg (Ne.symm hk)]
 refine h.fresh hf (fun k hk => ?_) (fun k v hk hv => ?_) (fun o v hv => ?_) (fun bb ho => ?_)
 ·simp only [touches, Bool.or_false] at hk
  exact .inr (.inl (Key.eqb_iff.1 hk).symm)
 ·rcases hk with rfl | rfl | ⟨o, rfl⟩
  ·rw [hg _ (by simp)] at hv
   have := hf.1 (.o L); rw [hv] at this; simp [mentions, keyHas] at this
  ·rw [upd_one, if_pos rfl] at hv
   cases hv
   exact ⟨by rw [setL_self]; exact hA, fun j cv hj => by rw [setL_self]; exact hd j cv hj⟩
  ·rw [hg _ (by simp)] at hv
   have := hf.1 (.c L o); rw [hv] at this; simp [mentions, keyHas] at this
 ·rw [hg _ (by simp)] at hv
  have := hf.1 (.c L o); rw [hv] at this; simp [mentions, keyHas] at this
 ·rw [hg _ (by simp)] at ho
  cases e : g (.o L) with
  | none => rw [e] at ho; exact ho.elim
  | some v => have := hf.1 (.o L); rw [e] at this; simp [mentions, keyHas] at this
end
section
variable {cx : Cx} {m : Nat → MV} {A : Nat → Prop} {g : CMap cx} {a : Act} {w : World}
theorem Rel.addX {L : Nat} {mv : MV} {v : Val cx.G.car} (h : Rel cx m A g a w) (hf : Free cx L g) (hat : At cx (setL m L mv) A a.tmps w (.x L) v) : Rel cx (setL m L mv) A (upd [(.x L, some v)] g) a w := by
 have hg : ∀ k, k ≠ .x L → upd [(.x L, some v)] g k = g k := fun k hk => by rw [upd_one, if_neg (Ne.symm hk)]
 refine h.fresh hf (fun k hk => ?_) (fun k v' hk hv => ?_) (fun o v hv => ?_) (fun bb ho => ?_)
 ·simp only [touches, Bool.or_false] at hk
  exact .inr (.inl (Key.eqb_iff.1 hk).symm)
 ·rcases hk with rfl | rfl | ⟨o, rfl⟩
  ·rw [hg _ (by simp)] at hv
   have := hf.1 (.o L); rw [hv] at this; simp [mentions, keyHas] at this
  ·rw [upd_one, if_pos rfl] at hv
   cases hv
   exact hat
  ·rw [hg _ (by simp)] at hv
   have := hf.1 (.c L o); rw [hv] at this; simp [mentions, keyHas] at this
 ·rw [hg _ (by simp)] at hv
  have := hf.1 (.c L o); rw [hv] at this; simp [mentions, keyHas] at this
 ·rw [hg _ (by simp)] at ho
  cases e : g (.o L) with
  | none => rw [e] at ho; exact ho.elim
  | some v => have := hf.1 (.o L); rw [e] at this; simp [mentions, keyHas] at this
end
section
variable {E : Env} {R : Type} {r : R} {gl : List (Nat × Val E.G.car)}
def f0 : Fix := ⟨0, []⟩
variable {fx : Fix}
theorem setT_ok {s : XS E.G.car} (hs : OKS E fx s) {i : Nat} {y : SV} (hy : y.lt s.nl = true) : OKS E fx (s.setF 0 0 (.t i) (some (.x y))) ∧ (s.setF 0 0 (.t i) (some (.x y))).map 0 = upd [(.t i, some (.x y))] (s.map 0) := by
 have e : (s.setF 0 0 (.t i) (some (.x y))).nl = s.nl := XS.setF_nl
 have h := hs.inv.setF (d := 0) (f := 0) (nl := s.nl) (Nat.le_refl _) (k := .t i) (v := some (.x y)) (fun L hL => by simp [keyHas] at hL) (fun x hx => by cases hx; exact hy)
 refine ⟨⟨?_, fun p hp => by rw [e]; exact hs.glo p hp, by rw [e]; exact hs.pn⟩, XS.map_setF 0 (by omega) s rfl⟩
 rw [← e] at h
 exact h
theorem setX_ok {s : XS E.G.car} (hs : OKS E fx s) {v : Val E.G.car} (hv : v.lt (Nat.succ s.nl) = true) : OKS E fx (⟨(s.setF 0 0 (.x s.nl) (some v)).t, (s.setF 0 0 (.x s.nl) (some v)).o, Nat.succ (s.setF 0 0 (.x s.nl) (some v)).nl⟩ : XS E.G.car) ∧
  XS.map (⟨(s.setF 0 0 (.x s.nl) (some v)).t, (s.setF 0 0 (.x s.nl) (some v)).o, Nat.succ (s.setF 0 0 (.x s.nl) (some v)).nl⟩ : XS E.G.car) 0 = upd [(.x s.nl, some v)] (s.map 0) := by
 have e : (s.setF 0 0 (.x s.nl) (some v)).nl = s.nl := XS.setF_nl
 rw [e]
 refine ⟨⟨hs.inv.setF (Nat.le_succ _) (fun L hL => by simp only [keyHas] at hL; have := Nat.eq_of_beq_eq_true hL; omega) (fun x hx => by cases hx; exact hv), fun p hp => Nat.lt_succ_of_lt (hs.glo p hp), Nat.le_succ_of_le hs.pn⟩, ?_⟩
 exact XS.map_setF 0 (by omega) s rfl
theorem setO_ok {s : XS E.G.car} (hs : OKS E fx s) {v : Val E.G.car} (hv : v.lt (Nat.succ s.nl) = true) : OKS E fx (⟨(s.setF 0 0 (.o s.nl) (some v)).t, (s.setF 0 0 (.o s.nl) (some v)).o, Nat.succ (s.setF 0 0 (.o s.nl) (some v)).nl⟩ : XS E.G.car) ∧
  XS.map (⟨(s.setF 0 0 (.o s.nl) (some v)).t, (s.setF 0 0 (.o s.nl) (some v)).o, Nat.succ (s.setF 0 0 (.o s.nl) (some v)).nl⟩ : XS E.G.car) 0 = upd [(.o s.nl, some v)] (s.map 0) := by
 have e : (s.setF 0 0 (.o s.nl) (some v)).nl = s.nl := XS.setF_nl
 rw [e]
 refine ⟨⟨hs.inv.setF (Nat.le_succ _) (fun L hL => by simp only [keyHas] at hL; have := Nat.eq_of_beq_eq_true hL; omega) (fun x hx => by cases hx; exact hv), fun p hp => Nat.lt_succ_of_lt (hs.glo p hp), Nat.le_succ_of_le hs.pn⟩, ?_⟩
 exact XS.map_setF 0 (by omega) s rfl
def ParOK (E : Env) (fx : Fix) (s s' : XS E.G.car) (P : (Nat → Prop) → Act → World → Prop) : Prop :=
 OKS E fx s' ∧ ∀ (b : Base) (m : Nat → MV) (A : Nat → Prop) (a : Act) (w : World), b.pn ≤ fx.pn → Rel (cxOf E b) m A (s.map 0) a w → P A a w → ∃ m', Rel (cxOf E b) m' A (s'.map 0) a w
theorem free_nl {s : XS E.G.car} (hs : OKS E fx s) {b : Base} (hpn : b.pn ≤ fx.pn) {L : Nat} (hL : s.nl ≤ L) : Free (cxOf E b) L (s.map 0) :=
 ⟨hs.inv.free hL, fun p hp => by have := hs.glo p hp; omega, by show b.pn ≤ L; have := hs.pn; omega⟩
def labS (s : XS E.G.car) (v : Val E.G.car) : XS E.G.car := ⟨(s.labF 0 s.nl 1 (some v)).t, (s.labF 0 s.nl 1 (some v)).o, Nat.succ (s.labF 0 s.nl 1 (some v)).nl⟩
theorem labS_nl {s : XS E.G.car} {v : Val E.G.car} : (labS s v).nl = s.nl + 1 := by
 show Nat.succ (s.labF 0 s.nl 1 (some v)).nl = s.nl + 1
 rw [(XS.labF_t 0 s s.nl 1 _).2]
theorem labS_ok {s : XS E.G.car} (hs : OKS E fx s) {v : Val E.G.car} (hv : v.lt (s.nl + 1) = true) : OKS E fx (labS s v) ∧ (labS s v).map 0 = upd [(.x s.nl, some v)] (s.map 0) := setX_ok hs hv
theorem parWk_sound {s : XS E.G.car} (hs : OKS E fx s) {i tM tA : Nat} {rr : List (Int × List Value)} {x : (PK.wk tM tA rr).T E.G.car} {K : XS E.G.car → Option R} (h : parK s i (.wk tM tA rr) x K = some r) :
  ∃ s', K s' = some r ∧ ParOK E fx s s' fun A a w => ∃ v, a.tmps[i]? = some v ∧ ArgIs E A w (.wk tM tA rr) x v := by
 have h : s.setLab 0 s.nl 1 (some (.ro (E.G.enc tM x.1))) (fun s1 =>
   XS.setLab 0 ⟨s1.t, s1.o, Nat.succ s1.nl⟩ (Nat.succ s1.nl) 1 (some (.ro (E.G.enc tA x.2))) fun s2 =>
   XS.setLab 0 ⟨s2.t, s2.o, Nat.succ s2.nl⟩ (Nat.succ s2.nl) 1 (some (.mr rr)) fun s3 =>
   XS.setLab 0 ⟨s3.t, s3.o, Nat.succ s3.nl⟩ (Nat.succ s3.nl) 1 (some (.rb [.p s1.nl 0, .p s2.nl 0, .m s3.nl])) fun s4 =>
   XS.setTmp 0 0 ⟨s4.t, s4.o, Nat.succ s4.nl⟩ i (some (.p s4.nl 0)) K) = some r := h
 simp only [XS.setLab_eq] at h
 have e1 : (s.labF 0 s.nl 1 (some (.ro (E.G.enc tM x.1)))).nl = s.nl := (XS.labF_t 0 s s.nl 1 _).2
 have hl : ∀ (s : XS E.G.car) (v : Val E.G.car), XS.labF 0 (labS s v) (labS s v).nl 1 = XS.labF 0 (labS s v) (Nat.succ (s.labF 0 s.nl 1 (some v)).nl) 1 := fun _ _ => rfl
 let s1 := labS s (.ro (E.G.enc tM x.1))
 let s2 := labS s1 (.ro (E.G.enc tA x.2))
 let s3 := labS s2 (.mr rr)
 let s4 := labS s3 (.rb [.p s.nl 0, .p s1.nl 0, .m s2.nl])
 have n1 : s1.nl = s.nl + 1 := labS_nl
 have n2 : s2.nl = s1.nl + 1 := labS_nl
 have n3 : s3.nl = s2.nl + 1 := labS_nl
 have n4 : s4.nl = s3.nl + 1 := labS_nl
 obtain ⟨o1, m1⟩ := labS_ok hs (v := .ro (E.G.enc tM x.1)) rfl
 obtain ⟨o2, m2⟩ := labS_ok o1 (v := .ro (E.G.enc tA x.2)) rfl
 obtain ⟨o3, m3⟩ := labS_ok o2 (v := .mr rr) rfl
 obtain ⟨o4, m4⟩ := labS_ok o3 (v := .rb [.p s.nl 0, .p s1.nl 0, .m s2.nl]) (by
  simp only [Val.lt, ltL, SV.lt, Bool.and_true, Bool.and_eq_true, Nat.blt_eq]
  refine ⟨?_, ?_, ?_⟩ <;> (change _ < s3.nl + 1; omega))
 have h : XS.setTmp 0 0 s4 i (some (.p s3.nl 0)) K = some r := by
  have q1 : (s1.labF 0 s1.nl 1 (some (.ro (E.G.enc tA x.2)))).nl = s1.nl := (XS.labF_t 0 _ _ 1 _).2
  have q2 : (s2.labF 0 s2.nl 1 (some (.mr rr))).nl = s2.nl := (XS.labF_t 0 _ _ 1 _).2
  have q3 : (s3.labF 0 s3.nl 1 (some (.rb [.p s.nl 0, .p s1.nl 0, .m s2.nl]))).nl = s3.nl := (XS.labF_t 0 _ _ 1 _).2
  have h : XS.setTmp 0 0 (labS s3 (.rb [.p (s.labF 0 s.nl 1 (some (.ro (E.G.enc tM x.1)))).nl 0, .p (s1.labF 0 s1.nl 1 (some (.ro (E.G.enc tA x.2)))).nl 0, .m (s2.labF 0 s2.nl 1 (some (.mr rr))).nl])) i
    (some (.p (s3.labF 0 s3.nl 1 (some (.rb [.p (s.labF 0 s.nl 1 (some (.ro (E.G.enc tM x.1)))).nl 0, .p (s1.labF 0 s1.nl 1 (some (.ro (E.G.enc tA x.2)))).nl 0, .m (s2.labF 0 s2.nl 1 (some (.mr rr))).nl]))).nl 0)) K = some r := h
  rw [e1, q1, q2, q3] at h
  exact h
 rw [XS.setTmp_eq] at h
 obtain ⟨o5, m5⟩ := setT_ok o4 (i := i) (y := .p s3.nl 0) (by
  simp only [SV.lt, Nat.blt_eq]
  change s3.nl < s4.nl
  omega)
 refine ⟨_, h, o5, fun b m A a w hpn hr ⟨v, hv, blk, pM, pA, bR, hb, hA, c0, c1, c2, hM, hAr, hAR, es, cl, hes, hmr⟩ => ?_⟩
 obtain ⟨bM, rfl, hAM, hdM⟩ := hM
 obtain ⟨bA, rfl, hAA, hdA⟩ := hAr
 have r1 := hr.addRo (free_nl hs hpn (Nat.le_refl _)) hAM hdM
 rw [← m1] at r1
 have r2 := r1.addRo (free_nl o1 hpn (Nat.le_refl _)) hAA hdA
 rw [← m2] at r2
 have r3 := r2.addX (mv := { b := bR, p := none, n := 0, c := 0 }) (v := .mr rr) (free_nl o2 hpn (Nat.le_refl _)) ⟨by rw [setL_self]; exact hAR, es, cl, by rw [setL_self]; exact hes, hmr⟩
 rw [← m3] at r3
 have d1 : ∀ mv mv' mv'' mv''' : MV, setL (setL (setL (setL m s.nl mv) s1.nl mv') s2.nl mv'') s3.nl mv''' s.nl = mv := fun mv mv' mv'' mv''' => by
  rw [setL_ne _ _ (by omega), setL_ne _ _ (by omega), setL_ne _ _ (by omega), setL_self]
 have d2 : ∀ mv mv' mv'' mv''' : MV, setL (setL (setL (setL m s.nl mv) s1.nl mv') s2.nl mv'') s3.nl mv''' s1.nl = mv' := fun mv mv' mv'' mv''' => by
  rw [setL_ne _ _ (by omega), setL_ne _ _ (by omega), setL_self]
 have d3 : ∀ mv mv' mv'' mv''' : MV, setL (setL (setL (setL m s.nl mv) s1.nl mv') s2.nl mv'') s3.nl mv''' s2.nl = mv'' := fun mv mv' mv'' mv''' => by
  rw [setL_ne _ _ (by omega), setL_self]
 have r4 := r3.addX (mv := { b := blk, p := none, n := 0, c := 0 }) (v := .rb [.p s.nl 0, .p s1.nl 0, .m s2.nl]) (free_nl o3 hpn (Nat.le_refl _)) (by
  refine ⟨by rw [setL_self]; exact hA, ⟨trivial, trivial, trivial, trivial⟩, fun j y hy => ?_⟩
  rw [setL_self]
  match j, hy with
  | 0, hy => cases hy; rw [show den _ (SV.p s.nl 0) = _ from rfl]; simp only [den]; rw [d1]; exact c0
  | 1, hy => cases hy; simp only [den]; rw [d2]; exact c1
  | 2, hy => cases hy; simp only [den]; rw [d3]; exact c2
  | j + 3, hy => simp at hy)
 rw [← m4] at r4
 have r5 := r4.know (i := i) (x := .p s3.nl 0) (by
  rw [hv, hb]
  show _ = some (Value.pointer (some ⟨(setL _ s3.nl _ s3.nl).b, 0, none⟩))
  rw [setL_self]) trivial
 rw [← m5] at r5
 exact ⟨_, r5⟩
theorem parK_sound {s : XS E.G.car} (hs : OKS E fx s) {i : Nat} {p : PK} {x : p.T E.G.car} {K : XS E.G.car → Option R} (h : parK s i p x K = some r) :
  ∃ s', K s' = some r ∧ ParOK E fx s s' fun A a w => ∃ v, a.tmps[i]? = some v ∧ ArgIs E A w p x v := by
 have lab : ∀ (v : Val E.G.car) (y : SV) (K : XS E.G.car → Option R), v.lt (Nat.succ s.nl) = true → y.lt (s.nl + 1) = true → (s.setLab 0 s.nl 1 (some v) fun s => XS.setTmp 0 0 ⟨s.t, s.o, Nat.succ s.nl⟩ i (some y) K) = some r →
   ∃ s', K s' = some r ∧ OKS E fx s' ∧ s'.map 0 = upd [(.t i, some (.x y))] (upd [(.x s.nl, some v)] (s.map 0)) := by
  intro v y K h1 hy h
  rw [XS.setLab_eq, XS.setTmp_eq] at h
  obtain ⟨o1, m1⟩ := setX_ok hs h1
  obtain ⟨o2, m2⟩ := setT_ok o1 (i := i) (y := y) (by
   show y.lt (Nat.succ (s.setF 0 0 (.x s.nl) (some v)).nl) = true
   rw [XS.setF_nl]; exact hy)
  exact ⟨_, h, o2, by rw [← m1]; exact m2⟩
 cases p with
 | wk tM tA rr => exact parWk_sound hs h
 | v t agg =>
  unfold parK at h
  obtain ⟨ys, us, nl', h1, h2, h3, h4, h5, h6⟩ := cvsK_sound h
  cases hup : upBelow nl' us with
  | false => rw [hup] at h1; cases h1
  | true =>
   rw [hup] at h1
   simp only [Bool.not_true, cond_false, XS.upd_eq] at h1
   obtain ⟨g1, g2, _⟩ := XS.map_updF 0 (f := 0) (by omega) s (upBelow_ups hup)
   have o1 : OKS E fx (⟨(XS.updF 0 0 us s).t, (XS.updF 0 0 us s).o, nl'⟩ : XS E.G.car) := ⟨hs.inv.updF h2 hup, fun p hp => Nat.lt_of_lt_of_le (hs.glo p hp) h2, Nat.le_trans hs.pn h2⟩
   have m1 : XS.map (⟨(XS.updF 0 0 us s).t, (XS.updF 0 0 us s).o, nl'⟩ : XS E.G.car) 0 = upd us (s.map 0) := g1
   cases agg with
   | true =>
    simp only [XS.setTmp_eq] at h1
    obtain ⟨o2, m2⟩ := setT_ok o1 (i := i) (y := .g ys) (by simpa [SV.lt] using h4)
    refine ⟨_, h1, o2, fun b m A a w hpn hr ⟨v, hv, us', hd, he⟩ => ?_⟩
    obtain ⟨m', hr', e1, e2, _⟩ := h6 b m A (s.map 0) a w us' hr (fun L hL _ => free_nl hs hpn hL) hd
    refine ⟨m', ?_⟩
    show Rel _ _ _ (XS.map (XS.setF 0 0 _ (.t i) (some (.x (.g ys)))) 0) _ _
    rw [m2, m1]
    simp only [if_true] at he
    exact hr'.know (by rw [hv, he, den, e1]) e2
   | false =>
    simp only at h1
    split at h1
    ·rename_i y
     simp only [XS.setTmp_eq] at h1
     obtain ⟨o2, m2⟩ := setT_ok o1 (i := i) (y := y) (by simp only [ltL, Bool.and_true] at h4; exact h4)
     refine ⟨_, h1, o2, fun b m A a w hpn hr ⟨v, hv, us', hd, he⟩ => ?_⟩
     obtain ⟨m', hr', e1, e2, _⟩ := h6 b m A (s.map 0) a w us' hr (fun L hL _ => free_nl hs hpn hL) hd
     refine ⟨m', ?_⟩
     show Rel _ _ _ (XS.map (XS.setF 0 0 _ (.t i) (some (.x y))) 0) _ _
     rw [m2, m1]
     simp only [Bool.false_eq_true, if_false] at he
     subst he
     have e1 : den m' y = v := by simpa [denL] using e1
     exact hr'.know (by rw [hv, e1]) e2.1
    ·cases h1
 | sl t =>
  obtain ⟨s', h1, o1, m1⟩ := lab (.ext t x) (.h s.nl) K rfl (by simp [SV.lt]) (by
   have h : (s.setLab 0 s.nl 1 (some (.ext t x)) fun s => XS.setTmp 0 0 ⟨s.t, s.o, Nat.succ s.nl⟩ i (some (.h s.nl)) K) = some r := h
   rw [XS.setLab_eq] at h ⊢
   rw [XS.setTmp_eq] at h ⊢
   rw [(XS.labF_t 0 s s.nl 1 (some (.ext t x))).2] at h ⊢
   exact h)
  refine ⟨s', h1, o1, fun b m A a w hpn hr ⟨v, hv, hd⟩ => ?_⟩
  have hd : Hd E.G A w (.sl t x) v := hd
  obtain ⟨p, n, c, rfl⟩ := hd.slice
  have h2 := hr.addExt (free_nl hs hpn (Nat.le_refl _)) hd
  exact ⟨_, by rw [m1]; exact h2.know (by rw [hv]; simp only [den, setL_self]) trivial⟩
 | ptr t =>
  obtain ⟨s', h1, o1, m1⟩ := lab (.ro (E.G.enc t x)) (.p s.nl 0) K rfl (by simp [SV.lt]) (by
   have h : (s.setLab 0 s.nl 1 (some (.ro (E.G.enc t x))) fun s => XS.setTmp 0 0 ⟨s.t, s.o, Nat.succ s.nl⟩ i (some (.p s.nl 0)) K) = some r := h
   rw [XS.setLab_eq] at h ⊢
   rw [XS.setTmp_eq] at h ⊢
   rw [(XS.labF_t 0 s s.nl 1 _).2] at h ⊢
   exact h)
  refine ⟨s', h1, o1, fun b m A a w hpn hr ⟨v, hv, blk, hb, hA, hd⟩ => ?_⟩
  have h2 := hr.addRo (free_nl hs hpn (Nat.le_refl _)) hA hd
  exact ⟨_, by rw [m1]; exact h2.know (by rw [hv, hb]; simp only [den, setL_self]) trivial⟩
 | gp t =>
  obtain ⟨s', h1, o1, m1⟩ := lab (.ro (E.G.enc t x)) (.g [.p s.nl 0]) K rfl (by simp [SV.lt, ltL]) (by
   have h : (s.setLab 0 s.nl 1 (some (.ro (E.G.enc t x))) fun s => XS.setTmp 0 0 ⟨s.t, s.o, Nat.succ s.nl⟩ i (some (.g [.p s.nl 0])) K) = some r := h
   rw [XS.setLab_eq] at h ⊢
   rw [XS.setTmp_eq] at h ⊢
   rw [(XS.labF_t 0 s s.nl 1 _).2] at h ⊢
   exact h)
  refine ⟨s', h1, o1, fun b m A a w hpn hr ⟨v, hv, u, hu, blk, hb, hA, hd⟩ => ?_⟩
  have h2 := hr.addRo (free_nl hs hpn (Nat.le_refl _)) hA hd
  exact ⟨_, by rw [m1]; exact h2.know (by rw [hv, hu, hb]; simp only [den, denL, setL_self]) ⟨trivial, trivial⟩⟩
 | nl =>
  change Nat at x
  have h : XS.setTmp 0 0 s i (some (.v (.slice none 0 x))) K = some r := h
  rw [XS.setTmp_eq] at h
  obtain ⟨o2, m2⟩ := setT_ok hs (i := i) (y := .v (.slice none 0 x)) rfl
  refine ⟨_, h, o2, fun b m A a w hpn hr ⟨v, hv, hd⟩ => ⟨m, ?_⟩⟩
  have hd : v = .slice none 0 x := hd
  have h3 : Rel (cxOf E b) m A ((XS.setF 0 0 s (.t i) (some (.x (.v (.slice none 0 x))))).map 0) a w := by
   rw [m2]
   exact hr.know (by rw [hv, hd]; rfl) trivial
  exact h3
 | ow ety t =>
  have h : s.setLab 0 s.nl 0 (some (.row ety t x)) (fun s => XS.setTmp 0 0 ⟨s.t, s.o, Nat.succ s.nl⟩ i (some (.h s.nl)) K) = some r := h
  rw [XS.setLab_eq, XS.setTmp_eq] at h
  obtain ⟨o1, m1⟩ := setO_ok hs (v := .row ety t x) rfl
  obtain ⟨o2, m2⟩ := setT_ok o1 (i := i) (y := .h (s.setF 0 0 (.o s.nl) (some (.row ety t x))).nl) (by
   show (SV.h _).lt (Nat.succ _) = true
   simp [SV.lt])
  exact ⟨_, h, o2, fun b m A a w hpn hr ⟨v, hv, hd⟩ => hd.elim⟩
 | fv f =>
  have h : XS.setTmp 0 0 s i (some (.v (.func (.func f) #[] #[]))) K = some r := h
  rw [XS.setTmp_eq] at h
  obtain ⟨o2, m2⟩ := setT_ok hs (i := i) (y := .v (.func (.func f) #[] #[])) rfl
  refine ⟨_, h, o2, fun b m A a w hpn hr ⟨v, hv, hd⟩ => ⟨m, ?_⟩⟩
  have hd : v = .func (.func f) #[] #[] := hd
  have h3 : Rel (cxOf E b) m A ((XS.setF 0 0 s (.t i) (some (.x (.v (.func (.func f) #[] #[]))))).map 0) a w := by
   rw [m2]
   exact hr.know (by rw [hv, hd]; rfl) trivial
  exact h3
 | sn t =>
  obtain ⟨s', h1, o1, m1⟩ := lab (.ext t x) (.n s.nl) K rfl (by simp [SV.lt]) (by
   have h : (s.setLab 0 s.nl 1 (some (.ext t x)) fun s => XS.setTmp 0 0 ⟨s.t, s.o, Nat.succ s.nl⟩ i (some (.n s.nl)) K) = some r := h
   rw [XS.setLab_eq] at h ⊢
   rw [XS.setTmp_eq] at h ⊢
   rw [(XS.labF_t 0 s s.nl 1 (some (.ext t x))).2] at h ⊢
   exact h)
  refine ⟨s', h1, o1, fun b m A a w hpn hr ⟨v, hv, hd, p, n, c, he⟩ => ?_⟩
  subst he
  have h2 := hr.addExt (free_nl hs hpn (Nat.le_refl _)) hd
  exact ⟨_, by rw [m1]; exact h2.know (by rw [hv]; simp only [den, setL_self]) (by simp only [SV.ok, setL_self]; rfl)⟩
theorem parsK_sound : ∀ (ps : List PK) {x : AT E.G.car ps} {i : Nat} {s : XS E.G.car} {K : XS E.G.car → Option R}, OKS E fx s → parsK ps x i s K = some r →
  ∃ s', K s' = some r ∧ ParOK E fx s s' fun A a w => ∃ vs, (∀ j v, vs[j]? = some v → a.tmps[i + j]? = some v) ∧ ArgsAre E A w ps x vs := by
 intro ps
 induction ps with
 | nil => intro x i s K hs h; exact ⟨s, h, hs, fun b m A a w _ hr _ => ⟨m, hr⟩⟩
 | cons p ps ih =>
  intro x i s K hs h
  have h : parK s i p x.1 (fun s => parsK ps x.2 (Nat.succ i) s K) = some r := h
  obtain ⟨s1, h1, o1, f1⟩ := parK_sound hs h
  obtain ⟨s2, h2, o2, f2⟩ := ih o1 h1
  refine ⟨s2, h2, o2, fun b m A a w hpn hr ⟨vs, hvs, v, us, e, ha, has⟩ => ?_⟩
  subst e
  obtain ⟨m1, r1⟩ := f1 b m A a w hpn hr ⟨v, hvs 0 v rfl, ha⟩
  exact f2 b m1 A a w hpn r1 ⟨us, fun j u hj => by have := hvs (j + 1) u (by simpa using hj); rwa [show Nat.succ i + j = i + (j + 1) by omega], has⟩
theorem argsAre_len {A : Nat → Prop} {w : World} : ∀ {ps : List PK} {x : AT E.G.car ps} {vs : List Value}, ArgsAre E A w ps x vs → vs.length = ps.length := by
 intro ps
 induction ps with
 | nil => intro x vs h; rw [show vs = [] from h]; rfl
 | cons p ps ih => intro x vs ⟨v, us, e, _, h⟩; rw [e]; simp [ih h]
theorem upd_mem {car : Nat → Type} {k : Key} {v : Val car} {g : Map car} : ∀ {u : St car}, upd u g k = some v → (∃ x ∈ u, x.1 = k ∧ x.2 = some v) ∨ g k = some v := by
 intro u
 induction u with
 | nil => intro h; exact .inr h
 | cons x u ih =>
  intro h
  rw [upd_cons] at h
  split at h
  ·rename_i e
   exact .inl ⟨x, by simp, e, h⟩
  ·rcases ih h with ⟨y, hy, h1⟩ | h1
   ·exact .inl ⟨y, List.mem_cons_of_mem _ hy, h1⟩
   ·exact .inr h1
theorem rel_start {A : Nat → Prop} {w : World} {N : Nat} {args : List Value} (hn : args.length ≤ N) (hA : ∀ x, A x → IsCells w x) {mg : Nat → MV} (h1 : ∀ p ∈ E.glo, (mg p.1).b = p.2) (h2 : ∀ q ∈ gl, ExtAt E.G A w (mg q.1) q.2)
  {g : Map E.G.car} (hg : ∀ k v, g k = some v → ∃ q ∈ gl, k = .x q.1 ∧ v = q.2) : Rel (cxOf E ⟨none, w.heap.size, w, N, true, fun _ => #[], [], A, fun _ => False, 0, mg⟩) mg A g { tmps := args.toArray ++ Array.replicate (N - args.toArray.size) undef, defers := [] } w := by
 refine ⟨by simp [cxOf]; omega, marks_nil, fun k v hk => ?_, fun L o v hv => ?_, fun L x ho => ?_, fun L L' x ho _ => ?_, hA, ⟨rfl, rfl, .rfl, Nat.le_refl _, fun _ _ _ => rfl⟩, Nat.le_refl _, h1, (fun k o hk => nomatch hk), fun b hb => .inl hb, fun b hb => hb, fun L hL => absurd hL (Nat.not_lt_zero _)⟩
 ·obtain ⟨q, hq, rfl, rfl⟩ := hg k v hk
  exact (h2 q hq).at
 ·obtain ⟨q, _, e, _⟩ := hg _ _ hv; cases e
 ·cases e : g (.o L) with
  | none => rw [e] at ho; exact ho.elim
  | some v => obtain ⟨q, _, e', _⟩ := hg _ _ e; cases e'
 ·cases e : g (.o L) with
  | none => rw [e] at ho; exact ho.elim
  | some v => obtain ⟨q, _, e', _⟩ := hg _ _ e; cases e'
theorem fn_sound {cx : Ctx E} (hmix : E.P.follows .mixedOrders = true) (ht : ∀ c ∈ cx.tbl, CSok E gl c) (hin : InlS E gl cx) (hkeys : ∀ p ∈ E.keys, KeyOK E.P E.G p.1 p.2) (hgl : upBelow gl.length (gl.map fun q => (Key.x q.1, some q.2)) = true) (hglo : ∀ p ∈ E.glo, p.1 < gl.length) {fk : Nat} {fn : Func} (hf : E.P.funcs[fk]? = some fn)
  {ps : List PK} {rs : List RK} (hps : ps.length ≤ fn.ntmps) (h : Hint) : Contract E gl ⟨fk, ps, rs, fnK cx fn gl ps rs h⟩ := by
 intro A w vs xs hgw hA hargs r hr
 have hr : fnK cx fn gl ps rs h xs = some r := hr
 unfold fnK at hr
 split at hr
 ·cases hr
 ·rename_i c hc
  rw [XS.upd_eq] at hr
  have o0 : OKS E f0 (XS.updF 0 0 (gl.map fun q => (Key.x q.1, some q.2)) ⟨.e, .e, gl.length⟩ : XS E.G.car) := by
   have e : (XS.updF 0 0 (gl.map fun q => (Key.x q.1, some q.2)) (⟨.e, .e, gl.length⟩ : XS E.G.car)).nl = gl.length := (XS.map_updF 0 (f := 0) (by omega) _ (upBelow_ups hgl)).2.1
   have h1 := Inv.updF (d := 0) (f := 0) (s := (⟨.e, .e, gl.length⟩ : XS E.G.car)) ⟨(fun k a v hk => nomatch hk), (fun L q e he => nomatch he)⟩ (Nat.le_refl _) hgl
   refine ⟨?_, (fun p hp => by rw [e]; exact hglo p hp), Nat.zero_le _⟩
   have key : ∀ (s' : XS E.G.car) (n : Nat), s'.nl = n → Inv (⟨s'.t, s'.o, n⟩ : XS E.G.car) → Inv s' := fun s' n e h => by subst e; exact h
   exact key _ _ e h1
  obtain ⟨s1, h1, o1, f1⟩ := parsK_sound ps o0 hr
  obtain ⟨h', e, s2, h2, o2, _, hdoes⟩ := exec_sound (gl := gl) hmix ht hin hkeys 12 c f0 [] ⟨0, 0, fn.ntmps, true, fun _ => []⟩ h s1 r _ (fun L f hf => nomatch hf) rfl o1 h1
  have hfin : e ≠ .normal → e ≠ .ret → False := fun h3 h4 => by cases e <;> first | exact absurd rfl h3 | exact absurd rfl h4 | cases h2
  have h2 : retK s2 fn.results.toList (fun vs => frzR rs vs s2 fun s => outsK s rs vs fun r ls => bif nodupN (ls.filterMap id) then some r else none) = some r := by
   cases e <;> first | exact h2 | cases h2
  obtain ⟨us, h3, hres⟩ := retK_sound _ h2
  obtain ⟨s3, h3, hfrz⟩ := frzR_sound rs h3
  obtain ⟨x, ls, h4, hrows, hout⟩ := outsK_sound rs h3
  obtain ⟨h5, h6⟩ := bif_some h4
  cases h6
  refine (callsIn_wide (n := 0)).1 ?_
  refine callsIn_of_wp_marks hf hc trivial ?_
  obtain ⟨mg, g1, g2⟩ := hgw
  have hlen := argsAre_len hargs
  have hstart := rel_start (E := E) (gl := gl) (A := A) (w := w) (N := fn.ntmps) (args := vs) (by rw [hlen]; exact hps) hA g1 g2 (g := (XS.updF 0 0 (gl.map fun q => (Key.x q.1, some q.2)) (⟨.e, .e, gl.length⟩ : XS E.G.car)).map 0) (fun k v hk => by
   rw [(XS.map_updF 0 (f := 0) (by omega) _ (upBelow_ups hgl)).1] at hk
   rcases upd_mem hk with ⟨y, hy, h7, h8⟩ | h7
   ·obtain ⟨q, hq, rfl⟩ := List.mem_map.1 hy
    exact ⟨q, hq, h7.symm, by cases h8; rfl⟩
   ·exfalso
    cases k with
    | _ => cases h7)
  obtain ⟨m1, hr1⟩ := f1 _ mg A _ w (Nat.le_refl _) hstart ⟨vs, fun j v hj => by
   have hlt : j < vs.length := (List.getElem?_eq_some_iff.1 hj).1
   rw [Nat.zero_add, Array.getElem?_append_left (by simpa using hlt)]
   simpa using hj, hargs⟩
  let b0 : Base := ⟨none, w.heap.size, w, fn.ntmps, true, fun _ => #[], [], A, fun _ => False, 0, mg⟩
  have hg0 : Good E gl f0 b0 := ⟨⟨mg, g1, g2⟩, fun x hx => (hA x hx).lt, fun _ _ h => h, (fun p hp => nomatch hp), Nat.le_refl _, (fun y hy => nomatch hy), fun h => absurd rfl h⟩
  refine hdoes b0 m1 A _ w _ hg0 ⟨rfl, rfl, fun _ => rfl⟩ hr1 fun m' A' a' w' hr' => ?_
  have hpost : LeavesInM Fence.wide 0 E.P fn a'.tmps (fun e w' => ∃ us ms A', e = .returned (resV us) ∧ Bel w.heap.size w w' ∧ (∀ b, A b → A' b) ∧ (∀ b, A' b → IsCells w' b) ∧ (∀ b, A' b → A b ∨ w.heap.size ≤ b) ∧
    ResAre E.G A' w.heap.size w' rs r us ms ∧ Apart ms) a'.defers .returning w' := by
   obtain ⟨ms, h7, _, h8, h9⟩ := hr'.defers
   rw [h7]
   refine leaves (b := b0) rfl hg0.kb (fun m A a w hr => results_run (hres b0 m A a w hr).1) (fun m A2 a w2 hr2 => ?_) ms w' a' m' A' h8 h9 hr'
   obtain ⟨A3, hr3⟩ := hfrz b0 m A2 a w2 ⟨hr2, fun _ h => h⟩
   have hrf := hr3
   obtain ⟨hr2, _⟩ := hr3
   exact ⟨_, _, A3, rfl, ⟨hr2.held.os, hr2.held.tape, hr2.held.output, hr2.held.size, fun k hk => hr2.held.block k hk (fun h => h)⟩, hr2.frzA, hr2.frzc, fun x hx => (hr2.frz0 x hx).imp_right fun h => h.resolve_right (fun h => h),
    hout b0 m A3 a w2 hrf, apart_of hr2 hrows h5⟩
  cases e with
  | normal => exact hpost
  | ret => exact hpost
  | exit id => exact (hfin (by simp) (by simp)).elim
theorem contract_nil {k t : Nat} {rs : List RK} {f : List (E.G.car t) → Option (RT E.G.car rs)} {f0 : Nat → Option (RT E.G.car rs)} {f1 : List (E.G.car t) → Option (RT E.G.car rs)}
  (h0 : Contract E gl ⟨k, [.nl], rs, fun x => f0 x.1⟩) (h1 : Contract E gl ⟨k, [.sn t], rs, fun x => f1 x.1⟩) (e0 : ∀ c r, f [] = some r → f0 c = some r) (e1 : ∀ l r, f l = some r → f1 l = some r) : Contract E gl ⟨k, [.sl t], rs, fun x => f x.1⟩ := by
 intro A w vs xs hgw hA hargs r hr
 obtain ⟨v, us, rfl, ha, hu⟩ := hargs
 have hu : us = [] := hu
 subst hu
 have ha : Hd E.G A w (.sl t xs.1) v := ha
 obtain ⟨p, n, c, rfl⟩ := ha.slice
 have hr : f xs.1 = some r := hr
 cases p with
 | some p => exact h1 A w [.slice (some p) n c] (xs.1, ()) hgw hA ⟨_, _, rfl, ⟨ha, p, n, c, rfl⟩, rfl⟩ r (e1 _ _ hr)
 | none =>
  have hl : xs.1 = [] := by
   cases hx : xs.1 with
   | nil => rfl
   | cons y ys =>
    rw [hx] at ha
    obtain ⟨b, o, hp, _⟩ := ha.at (i := 0) (x := y) rfl
    cases hp
  have hn : n = 0 := by rw [ha.len.1, hl]; rfl
  subst hn
  rw [hl] at hr
  exact h0 A w [.slice none 0 c] (c, ()) hgw hA ⟨_, _, rfl, rfl, rfl⟩ r (e0 c r hr)
end
end
end Go.KX

namespace Go.Proofs.Cb
open Go Go.KX Go.RowKit Go.Shelf
set_option linter.unusedVariables false
set_option maxRecDepth 100000
noncomputable section
def math_bits_Len (F : Nat) (x : Int) : Option Int := chk (0 ≤ x ∧ x ≤ 255) (some (Lib.bitLen x.toNat))
def s82 (F : Nat) : CS E.G := ⟨82, [.v 4 false], [.v 0 false []], fun x => math_bits_Len F x.1⟩
set_option maxHeartbeats 4000000 in
theorem len64 (x : Int) (w : World) (h0 : 0 ≤ x) (h1 : x ≤ 255) : Calls Tryz.prog 102 #[.int .u64 x] w fun e w' => e = .returned (.int .i64 (Lib.bitLen x.toNat)) ∧ w' = w := by
 have n1 : ¬ 4294967296 ≤ x := by omega
 have n2 : ¬ 65536 ≤ x := by omega
 have n3 : ¬ 256 ≤ x := by omega
 go_enter Tryz.func102, Tryz.ntmps102
 go_wp2
 all_goals (go_ret; refine ⟨congrArg Ending.returned (congrArg (Value.int IntKind.i64) ?_), rfl⟩)
 all_goals first
  | omega
  | (rw [Lib.len8_of x h0 h1]; have l := Lib.bitLen_le8' x h0 h1; simp only [wrap64]; omega)
theorem len (x : Int) (w : World) (h0 : 0 ≤ x) (h1 : x ≤ 255) : Calls Tryz.prog 82 #[.int .u64 x] w fun e w' => e = .returned (.int .i64 (Lib.bitLen x.toNat)) ∧ w' = w := by
 go_enter Tryz.func82, Tryz.ntmps82
 go_wp2_with (go_at_call 102; refine (len64 x _ h0 h1).mono ?_; rintro e w' ⟨rfl, rfl⟩)
 go_ret
 exact ⟨rfl, rfl⟩
theorem c82 (F : Nat) : CSok E gl (s82 F) := ⟨Proofs.enters_of (show Tryz.prog.funcs[82]? = some Tryz.f82 by kernel_rfl) (by kernel_rfl) rfl, by
 intro A w vs xs hgw hA hargs r hr
 obtain ⟨v, us, rfl, ⟨us3, hn, hv2⟩, rfl⟩ := hargs
 obtain ⟨(n : Int), (u : Unit)⟩ := xs
 have hr : chk (0 ≤ n ∧ n ≤ 255) (some ((Lib.bitLen n.toNat : Nat) : Int)) = some r := hr
 obtain ⟨⟨h0, h1⟩, hr2⟩ := chk_so hr
 clear hr
 have hr3 := Option.some.inj hr2
 subst hr3
 have hv2 : us3 = [v] := hv2
 subst hv2
 have hn : HdL E.G A w [CV.v (.int .u64 n)] [v] := hn
 obtain ⟨u1, us4, e1, h2, h3⟩ := hn
 cases e1
 cases h2
 refine (len n w h0 h1).mono ?_
 rintro e w' ⟨rfl, rfl⟩
 exact ⟨[.int .i64 (Lib.bitLen n.toNat)], [], A, rfl, ⟨rfl, rfl, .rfl, Nat.le_refl _, fun _ _ => rfl⟩, fun _ h => h, hA, fun _ h => .inl h, ⟨_, rfl, [.int .i64 (Lib.bitLen n.toNat)], ⟨[], rfl, rfl, rfl⟩, rfl⟩, trivial⟩⟩
end
end Go.Proofs.Cb

namespace Go.Proofs.Cb
open Go Go.KX Go.RowKit Go.Shelf Go.Lib
set_option linter.unusedVariables false
set_option maxRecDepth 100000
def InsP (w : World) (b c : Nat) (cs : List Value) (n : Nat) (e : Ending) (w' : World) : Prop :=
 ∃ b' c', e = .returned (.slice (some ⟨b', 0, none⟩) n c') ∧ c' ≠ 0 ∧ VecAt b' c' 3 1 cs w' ∧
   ((c ≠ 0 ∧ b' = b) ∨ w.heap.size ≤ b') ∧ w.heap.size ≤ w'.heap.size ∧ w'.os = w.os ∧ w'.tape = w.tape ∧ Out w w' ∧ ∀ l, l < w.heap.size → (c ≠ 0 → l ≠ b) → w'.heap[l]? = w.heap[l]?
set_option maxHeartbeats 4000000 in
theorem ins_end (b c n q b2 c2 : Nat) (cs vs : List Value) (w : World) (hv : VecAt b c 3 1 cs w) (hnc : n ≤ c) (hcs : cs.length = n * 1) (hvs : vs.length = q * 1)
  (hnews : ∀ j u, vs[j]? = some u → w.cell? ((⟨b2, 0, none⟩ : Addr).add j) = some u) (h1 : ∀ u ∈ vs, u.oneCell' = true) (hq : 1 ≤ q) (hb : n + q ≤ 1000000) :
  Calls Tryz.prog 8 #[.slice (ptr0 b c) n c, .int .i64 n, .slice (some ⟨b2, 0, none⟩) q c2] w (InsP w b c (cs ++ vs) (n + q)) := by
 have hf : appFact Tryz.prog 38 = some (3, 1, 8) := by kernel_rfl
 obtain ⟨b', c', w', hr, hp⟩ := append_core (ty := 38) (c2 := c2) hf hv hcs hvs hnews h1 hq (by omega) (by omega)
 clear hv hcs hvs hnews h1 hf
 have hz1 : ¬ ((q : Int) = 0) := by omega
 obtain ⟨P', hP⟩ : ∃ P', P' = InsP w b c (cs ++ vs) (n + q) := ⟨_, rfl⟩
 rw [← hP]
 have hend : P' (.returned (.slice (some ⟨b', 0, none⟩) (n + q) c')) w' := by rw [hP]; exact ⟨b', c', rfl, hp⟩
 clear hP hp
 go_enter Tryz.func8, Tryz.ntmps8
 rcases Nat.eq_zero_or_pos c with rfl | hc
 ·rcases ptr0_cases b with h0 | ⟨b0, h0⟩
  ·rw [h0] at hr ⊢
   clear h0
   go_wp2_with (at_builtin; refine Lib.wpList_append_run _ rfl _ _ _ _ rfl _ _ rfl rfl _ _ hr ?_)
   exact hend
  ·rw [h0] at hr ⊢
   clear h0
   go_wp2_with (at_builtin; refine Lib.wpList_append_run _ rfl _ _ _ _ rfl _ _ rfl rfl _ _ hr ?_)
   exact hend
 ·rw [ptr0_ne (by omega)] at hr ⊢
  go_wp2_with (at_builtin; refine Lib.wpList_append_run _ rfl _ _ _ _ rfl _ _ rfl rfl _ _ hr ?_)
  all_goals exact hend
theorem cpW (w : World) {b o dl b2 o2 sl : Nat} {cur cur2 : Array Value} {xs : List Value} (hh : w.heap[b]? = some (.cells cur 3 (0, 0))) (hh2 : w.heap[b2]? = some (.cells cur2 3 (0, 0))) (hx : xs.length = Nat.min sl dl * 1)
  (hsrc : ∀ (j : Nat) (v : Value), xs[j]? = some v → cur2[o2 + j]? = some v) (h1 : ∀ v ∈ xs, oneC v = true) (hfit : o + xs.length ≤ cur.size) :
  ∃ w' cur', (∀ ty dc sc, (Builtin.copy_ #[38, 38] ty #[.slice (some ⟨b, o, none⟩) dl dc, .slice (some ⟨b2, o2, none⟩) sl sc]).run Tryz.prog w = .ok (goInt (Nat.min sl dl)) w') ∧ w'.heap[b]? = some (.cells cur' 3 (0, 0)) ∧ cur'.size = cur.size ∧
   (∀ j, cur'[j]? = if o ≤ j ∧ j < o + xs.length then xs[j - o]? else cur[j]?) ∧ w'.os = w.os ∧ w'.tape = w.tape ∧ Out w w' ∧ w'.heap.size = w.heap.size ∧ ∀ k, k ≠ b → w'.heap[k]? = w.heap[k]? := by
 obtain ⟨w', cur', h3, h4⟩ := run_storeCellsW (P := Tryz.prog) (o := o) xs 0 w cur hh h1 (by omega)
 refine ⟨w', cur', fun ty dc sc => copy_run (sz := 1) (vs := xs) (by kernel_rfl) ?_ (fun ad had => ?_) (fun h => nomatch h), h4⟩
 ·refine run_firstCells_some w _ _ _ _ sc xs hx (fun j v hj => ?_)
  rw [addr_add]
  simp only [World.cell?, hh2]
  exact hsrc j v hj
 ·cases had; exact h3
def insC (cs vs : List Value) (i : Nat) : List Value := cs.take (i * 1) ++ vs ++ cs.drop (i * 1)
theorem insC_get {cs vs : List Value} {i n q : Nat} (hcs : cs.length = n * 1) (hvs : vs.length = q * 1) (hi : i ≤ n) (j : Nat) :
  (insC cs vs i)[j]? = if j < i * 1 then cs[j]? else if j < (i + q) * 1 then vs[j - i * 1]? else cs[j - q * 1]? := by
 have hl : (cs.take (i * 1)).length = i * 1 := by rw [List.length_take]; omega
 unfold insC
 by_cases h1 : j < i * 1
 ·rw [if_pos h1, List.append_assoc, List.getElem?_append_left (by omega), List.getElem?_take, if_pos h1]
 ·rw [if_neg h1]
  by_cases h2 : j < (i + q) * 1
  ·rw [if_pos h2, List.getElem?_append_left (by rw [List.length_append, hl, hvs]; omega), List.getElem?_append_right (by omega), hl]
  ·rw [if_neg h2, List.getElem?_append_right (by rw [List.length_append, hl, hvs]; omega), List.length_append, hl, hvs, List.getElem?_drop]
   congr 1
   omega
set_option maxHeartbeats 4000000 in
theorem ins_room (b c n i q b2 c2 : Nat) (cs vs : List Value) (cur cur2 : Array Value) (w : World) (hh : w.heap[b]? = some (.cells cur 3 (0, 0))) (hcur : cur.size = c * 1) (hpre : ∀ (j : Nat) (v : Value), cs[j]? = some v → cur[j]? = some v)
  (hh2 : w.heap[b2]? = some (.cells cur2 3 (0, 0))) (hpre2 : ∀ (j : Nat) (v : Value), vs[j]? = some v → cur2[j]? = some v) (hcs : cs.length = n * 1) (hvs : vs.length = q * 1) (h1c : ∀ v ∈ cs, oneC v = true) (h1v : ∀ v ∈ vs, oneC v = true)
  (hi : i < n) (hnc : n + q ≤ c) (hq : 1 ≤ q) (hb : n + q ≤ 1000000) (hne : b2 ≠ b) :
  Calls Tryz.prog 8 #[.slice (some ⟨b, 0, none⟩) n c, .int .i64 i, .slice (some ⟨b2, 0, none⟩) q c2] w (InsP w b c (insC cs vs i) (n + q)) := by
 have hget := insC_get hcs hvs (Nat.le_of_lt hi)
 have hs2 : 0 < cur2.size := by
  have := hpre2 0 _ (List.getElem?_eq_getElem (by omega))
  exact (Array.getElem?_eq_some_iff.1 this).1
 obtain ⟨W1, cur1, hcp1, a1, a2, a3, a4, a5, a6, a7, a8⟩ := cpW w.drew (b := b) (o := i + q) (dl := n + q - (i + q)) (b2 := b) (o2 := i) (sl := n + q - i) (cur := cur) (cur2 := cur) (xs := cs.drop (i * 1)) hh hh
  (by rw [List.length_drop, hcs, ← Nat.sub_mul]; congr 1; simp only [Nat.min_def]; split <;> omega) (fun j v hj => hpre _ v (by rw [List.getElem?_drop, Nat.mul_one] at hj; exact hj)) (fun v hv => h1c v (List.mem_of_mem_drop hv)) (by rw [List.length_drop]; omega)
 have hd : (cs.drop (i * 1)).length = (n - i) * 1 := by rw [List.length_drop]; omega
 rw [hd] at a3
 obtain ⟨W2, curT, hcp2, e1, e2, e3, e4, e5, e6, e7, e8⟩ := cpW W1 (b := b) (o := i) (dl := n + q - i) (b2 := b2) (o2 := 0) (sl := q) (cur := cur1) (cur2 := cur2) (xs := vs) a1 ((a8 b2 hne).trans hh2)
  (by rw [hvs]; congr 1; simp only [Nat.min_def]; split <;> omega) (fun j v hj => by rw [Nat.zero_add]; exact hpre2 _ v hj) h1v (by omega)
 rw [hvs] at e3
 have hf := appFact_spec (show appFact Tryz.prog 38 = some (3, 1, 8) by kernel_rfl)
 have hov : ∀ o lb cb, (callFunc 25 #[.slice (some ⟨b2, 0, none⟩) q c2, .slice (some ⟨b, o, none⟩) lb cb]).run Tryz.prog w = .ok (.value (.bool false)) w := fun o lb cb => by
  rw [run_callFunc_extern Tryz.func25 (by kernel_rfl) (by kernel_rfl) (by kernel_rfl) (e := Extern.SlicesOverlaps.overlaps #[38, 38] #[4]) (by kernel_rfl),
   Lib.run_overlaps_apart w 38 4 3 (by kernel_rfl) 1 (fun w => by obtain ⟨i, z, _, h1, _, _, h2, _⟩ := hf; simp [sizeOf, typeInfo, h1, h2]) ⟨b2, 0, none⟩ ⟨b, o, none⟩ q c2 lb cb hne 3 3 cur2.size cur.size (by simp [World.shape?, hh2]) (by simp [World.shape?, hh]) (by omega) (by simp [World.frozen?, hh2]) (by simp [World.frozen?, hh2])]
  rfl
 obtain ⟨P', hP⟩ : ∃ P', P' = InsP w b c (insC cs vs i) (n + q) := ⟨_, rfl⟩
 rw [← hP]
 have hend : P' (.returned (.slice (some ⟨b, 0, none⟩) (n + q) c)) W2 := by
  rw [hP]
  refine ⟨b, c, rfl, by omega, .inr ⟨by omega, curT, e1, by rw [e2, a2, hcur], fun j v hj => ?_⟩, .inl ⟨by omega, rfl⟩, by rw [e7, a7]; exact Nat.le_refl _, by rw [e4, a4]; rfl, by rw [e5, a5]; rfl, ⟨by rw [e6.1, a6.1]; rfl, Nat.le_trans (Nat.le_succ _) (Nat.le_trans a6.2 e6.2)⟩,
   fun k _ hk => by rw [e8 k (hk (by omega)), a8 k (hk (by omega))]; rfl⟩
  rw [hget] at hj
  rw [e3]
  split at hj
  ·rw [if_neg (by omega), a3, if_neg (by omega)]; exact hpre j v hj
  ·split at hj
   ·rw [if_pos (by omega)]; rw [Nat.mul_one] at hj; exact hj
   ·have hjl := (List.getElem?_eq_some_iff.1 hj).1
    rw [if_neg (by omega), a3, if_pos (by omega), List.getElem?_drop, ← hj]
    congr 1
    omega
 clear hf a1 a2 a3 a4 a5 a6 a7 a8 e1 e2 e3 e4 e5 e6 e7 e8 hP hget hd hs2 hcs hvs h1c h1v hpre hpre2 hh hh2 hcur
 have hz1 : ¬ ((q : Int) = 0) := by omega
 have hz2 : ¬ ((i : Int) = (n : Int)) := by omega
 have hw1 : IntKind.i64.wrap ((i : Int) + (q : Int)) = (i : Int) + (q : Int) := by rw [IntKind.wrap_i64]; omega
 have hb1 : (0 : Int) ≤ (i : Int) + (q : Int) := by omega
 have hin : i ≤ n := by omega
 have htn : ((i : Int) + (q : Int)).toNat = i + q := by omega
 have hb2 : ¬ (c = i + q) := by omega
 have hb3 : (i : Int) ≤ (n : Int) + (q : Int) := by omega
 have hb4 : ¬ (c = i) := by omega
 have mixed : Tryz.prog.follows .mixedOrders = true := by kernel_rfl
 go_enter Tryz.func8, Tryz.ntmps8
 go_wp2_with (simp only [hov])
 go_region_law_o (refine step_copy_runI rfl _ _ 38 38 rfl _ _ (by simp [Act.eval, Act.put]) (by simp [Act.eval, Act.put]) (hcp1 _ _ _) ?_)
 go_wp2_with (at_builtin; refine wpList_copy_runI _ rfl _ _ 38 38 rfl _ _ rfl rfl (hcp2 _ _ _) ?_)
 all_goals exact hend
set_option maxHeartbeats 4000000 in
theorem ins_grow (b c n i q b2 c2 : Nat) (cs vs : List Value) (cur cur2 : Array Value) (w : World) (hh : w.heap[b]? = some (.cells cur 3 (0, 0))) (hcur : cur.size = c * 1) (hpre : ∀ (j : Nat) (v : Value), cs[j]? = some v → cur[j]? = some v)
  (hh2 : w.heap[b2]? = some (.cells cur2 3 (0, 0))) (hpre2 : ∀ (j : Nat) (v : Value), vs[j]? = some v → cur2[j]? = some v) (hcs : cs.length = n * 1) (hvs : vs.length = q * 1) (h1c : ∀ v ∈ cs, oneC v = true) (h1v : ∀ v ∈ vs, oneC v = true)
  (hi : i < n) (hnc : n ≤ c) (hroom : c < n + q) (hq : 1 ≤ q) (hb : n + q ≤ 1000000) :
  Calls Tryz.prog 8 #[.slice (some ⟨b, 0, none⟩) n c, .int .i64 i, .slice (some ⟨b2, 0, none⟩) q c2] w (InsP w b c (insC cs vs i) (n + q)) := by
 have hget := insC_get hcs hvs (Nat.le_of_lt hi)
 obtain ⟨i0, z0, hu0, hi0, hz0, hzs, his, _, hby⟩ := appFact_spec (show appFact Tryz.prog 38 = some (3, 1, 8) by kernel_rfl)
 have hold : (Builtin.firstCells i0.size i (.slice (some ⟨b, 0, none⟩) i c)).run Tryz.prog w.drew = .ok (cs.take (i * 1)).toArray w.drew := by
  rw [his]
  refine run_firstCells_some w.drew 1 i ⟨b, 0, none⟩ i c (cs.take (i * 1)) (by rw [List.length_take]; omega) (fun j v hj => ?_)
  rw [List.getElem?_take] at hj
  rw [addr_add]
  simp only [World.cell?, show w.drew.heap[b]? = some (.cells cur 3 (0, 0)) from hh, Nat.zero_add]
  split at hj
  ·exact hpre j v hj
  ·cases hj
 have hkk : (n : Int) + (q : Int) - (i : Int) = ((n + q - i : Nat) : Int) := by omega
 have hik : i + (n + q - i) = n + q := by omega
 obtain ⟨G, hG⟩ : ∃ G, G = grownCap w (n + q) c 3 := ⟨_, rfl⟩
 have hGn : n + q ≤ G := by rw [hG]; exact grownCap_ge w _ _ _
 have hG63 : G ≤ 9223372036854775807 := by
  have := grownCap_le_maxLen w (n + q) c 3 (by unfold maxLen; omega)
  rw [← hG] at this
  unfold maxLen at this
  omega
 obtain ⟨ROW, hROW⟩ : ∃ ROW : Array Value, ROW = (cs.take (i * 1)).toArray ++ Builtin.zeroCells z0.cells (n + q - i) ++ Builtin.zeroCells z0.cells (G - (n + q)) := ⟨_, rfl⟩
 have hRs : ROW.size = G * 1 := by
  rw [hROW]
  simp only [Array.size_append, List.size_toArray, List.length_take, size_zeroCells, hzs, hcs]
  omega
 obtain ⟨W0, hW0⟩ : ∃ W0, W0 = w.drew.alloc (.cells ROW 3) := ⟨_, rfl⟩
 have hrz : ∀ ty, (Builtin.append_ #[38, 3] ty #[.slice (some ⟨b, 0, none⟩) i c, .int .i64 ((n : Int) + (q : Int) - (i : Int))]).run Tryz.prog w = .ok (.slice (some ⟨w.heap.size, 0, none⟩) (n + q) G) W0 := fun ty => by
  have h := Lib.run_append_grow_zeros w 38 3 ty 3 i0 z0 .i64 .i64 hu0 (by kernel_rfl) hi0 hz0 (some ⟨b, 0, none⟩) i c (cs.take (i * 1)) hold (n + q - i) (by omega) (by omega) (by omega) (by omega) (by rw [hby]; omega) (by rw [hby, hik]; exact growslice_fits hroom (by omega))
  rw [hik, ← hG, ← hROW, ← hW0] at h
  rw [hkk]
  exact h
 have hbw : b < w.heap.size := (Array.getElem?_eq_some_iff.1 hh).1
 have hb2w : b2 < w.heap.size := (Array.getElem?_eq_some_iff.1 hh2).1
 have hWh : W0.heap[w.heap.size]? = some (.cells ROW 3 (0, 0)) := by rw [hW0]; show (w.heap.push _)[w.heap.size]? = _; simp
 have hWo : ∀ l, l < w.heap.size → W0.heap[l]? = w.heap[l]? := fun l hl => by rw [hW0]; show (w.heap.push _)[l]? = _; rw [Array.getElem?_push, if_neg (by omega)]
 have hWs : W0.heap.size = w.heap.size + 1 := by rw [hW0]; show (w.heap.push _).size = _; simp
 have hWos : W0.os = w.os ∧ W0.tape = w.tape ∧ Out w W0 := by rw [hW0]; exact ⟨rfl, rfl, rfl, Nat.le_succ _⟩
 obtain ⟨W1, cur1, hcp1, a1, a2, a3, a4, a5, a6, a7, a8⟩ := cpW W0 (b := w.heap.size) (o := i) (dl := n + q - i) (b2 := b2) (o2 := 0) (sl := q) (cur := ROW) (cur2 := cur2) (xs := vs) hWh ((hWo b2 hb2w).trans hh2)
  (by rw [hvs]; congr 1; simp only [Nat.min_def]; split <;> omega) (fun j v hj => by rw [Nat.zero_add]; exact hpre2 _ v hj) h1v (by omega)
 rw [hvs] at a3
 obtain ⟨W2, curT, hcp2, e1, e2, e3, e4, e5, e6, e7, e8⟩ := cpW W1.drew (b := w.heap.size) (o := i + q) (dl := n + q - (i + q)) (b2 := b) (o2 := i) (sl := n - i) (cur := cur1) (cur2 := cur) (xs := cs.drop (i * 1)) a1 ((a8 b (by omega)).trans ((hWo b hbw).trans hh))
  (by rw [List.length_drop, hcs, ← Nat.sub_mul]; congr 1; simp only [Nat.min_def]; split <;> omega) (fun j v hj => hpre _ v (by rw [List.getElem?_drop, Nat.mul_one] at hj; exact hj)) (fun v hv => h1c v (List.mem_of_mem_drop hv)) (by rw [List.length_drop]; omega)
 have hd : (cs.drop (i * 1)).length = (n - i) * 1 := by rw [List.length_drop]; omega
 rw [hd] at e3
 obtain ⟨P', hP⟩ : ∃ P', P' = InsP w b c (insC cs vs i) (n + q) := ⟨_, rfl⟩
 rw [← hP]
 have hend : P' (.returned (.slice (some ⟨w.heap.size, 0, none⟩) (n + q) G)) W2 := by
  rw [hP]
  refine ⟨w.heap.size, G, rfl, by omega, .inr ⟨by omega, curT, e1, by rw [e2, a2, hRs], fun j v hj => ?_⟩, .inr (Nat.le_refl _), by rw [e7]; show _ ≤ W1.heap.size; rw [a7, hWs]; omega, by rw [e4]; show W1.os = _; rw [a4, hWos.1], by rw [e5]; show W1.tape = _; rw [a5, hWos.2.1],
   ⟨by rw [e6.1]; show W1.output = _; rw [a6.1, hWos.2.2.1], Nat.le_trans hWos.2.2.2 (Nat.le_trans a6.2 (Nat.le_trans (Nat.le_succ _) e6.2))⟩,
   fun k hk _ => by rw [e8 k (by omega)]; show W1.heap[k]? = _; rw [a8 k (by omega), hWo k hk]⟩
  rw [hget] at hj
  rw [e3]
  split at hj
  ·rw [if_neg (by omega), a3, if_neg (by omega), hROW, Array.append_assoc, Array.getElem?_append_left (by simp only [List.size_toArray, List.length_take]; omega), List.getElem?_toArray, List.getElem?_take, if_pos (by omega)]; exact hj
  ·split at hj
   ·rw [if_neg (by omega), a3, if_pos (by omega)]; rw [Nat.mul_one] at hj; exact hj
   ·have hjl := (List.getElem?_eq_some_iff.1 hj).1
    rw [if_pos (by omega), List.getElem?_drop, ← hj]
    congr 1
    omega
 clear a1 a2 a3 a4 a5 a6 a7 a8 e1 e2 e3 e4 e5 e6 e7 e8 hP hget hd hcs hvs h1c h1v hpre hpre2 hh hh2 hcur hWh hWo hWs hWos hbw hb2w hold hRs hROW hG hkk hik hu0 hi0 hz0 hzs his hby hW0
 have hz1 : ¬ ((q : Int) = 0) := by omega
 have hz2 : ¬ ((i : Int) = (n : Int)) := by omega
 have hz3 : (c : Int) < (n : Int) + (q : Int) := by omega
 have hGi : ¬ (G = i) := by omega
 have hGim : ¬ (G = i + q) := by omega
 have hci : ¬ (c = i) := by omega
 have hw1 : IntKind.i64.wrap ((i : Int) + (q : Int)) = (i : Int) + (q : Int) := by rw [IntKind.wrap_i64]; omega
 have hb1 : (0 : Int) ≤ (i : Int) + (q : Int) := by omega
 have hin : i ≤ n := by omega
 have htn : ((i : Int) + (q : Int)).toNat = i + q := by omega
 have hb3 : (i : Int) ≤ (n : Int) := by omega
 have mixed : Tryz.prog.follows .mixedOrders = true := by kernel_rfl
 go_enter Tryz.func8, Tryz.ntmps8
 go_wp2_with (first
  | (at_builtin; refine Lib.wpList_append_run _ rfl _ _ _ _ rfl _ _ rfl rfl _ _ (hrz _) ?_)
  | (at_builtin; refine wpList_copy_runI _ rfl _ _ 38 38 rfl _ _ rfl rfl (hcp1 _ _ _) ?_))
 go_region_law_o (refine step_copy_runI rfl _ _ 38 38 rfl _ _ (by simp [Act.eval, Act.put]) (by simp [Act.eval, Act.put]) (hcp2 _ _ _) ?_)
 go_wp2
 all_goals exact hend
end Go.Proofs.Cb

namespace Go.Proofs.Cb
open Go Go.KX Go.RowKit
set_option linter.unusedVariables false
set_option maxRecDepth 100000
noncomputable section
theorem sz0 : E.G.sz 0 = 1 := rfl
theorem rowVals {A : Nat → Prop} {w : World} {cur : Array Value} {l : List (E.G.car 0)} (h : RowIn E.G A w cur 0 l) :
  ∃ cs : List Value, cs.length = l.length * 1 ∧ HdL E.G A w (l.flatMap (E.G.enc 0)) cs ∧ (∀ (j : Nat) (v : Value), cs[j]? = some v → cur[j]? = some v) ∧ ∀ v ∈ cs, oneC v = true := by
 obtain ⟨cs, h1, h2⟩ := HdL.of (cs := l.flatMap (E.G.enc 0)) (fun z u => cur[z]? = some u) (fun z cv hz => by
  obtain ⟨i, j, x, rfl, h3, h4⟩ := flat_inv (E.G.hsz 0) hz
  exact h i x h3 j cv h4)
 refine ⟨cs, by rw [h1.length, flat_length (E.G.hsz 0)]; rfl, h1, h2, fun v hv => h1.one ?_ v hv⟩
 rw [List.all_eq_true]
 intro cv hcv
 obtain ⟨x, _, hx⟩ := List.mem_flatMap.1 hcv
 exact List.all_eq_true.1 (E.G.one 0 x) cv hx
theorem insL_get {α : Type} {l v : List α} {i : Nat} (hi : i ≤ l.length) (k : Nat) : (insL l i v)[k]? = if k < i then l[k]? else if k < i + v.length then v[k - i]? else l[k - v.length]? := by
 have hl : (l.take i).length = i := by rw [List.length_take]; omega
 unfold insL
 by_cases h1 : k < i
 ·rw [if_pos h1, List.getElem?_append_left (by omega), List.getElem?_take, if_pos h1]
 ·rw [if_neg h1, List.getElem?_append_right (by omega), hl]
  by_cases h2 : k < i + v.length
  ·rw [if_pos h2, List.getElem?_append_left (by omega)]
  ·rw [if_neg h2, List.getElem?_append_right (by omega), List.getElem?_drop]
   congr 1
   omega
theorem insL_length {α : Type} {l v : List α} {i : Nat} (hi : i ≤ l.length) : (insL l i v).length = l.length + v.length := by
 simp only [insL, List.length_append, List.length_take, List.length_drop]
 omega
theorem rowIns {A : Nat → Prop} {w w' : World} {cur' : Array Value} {l v : List (E.G.car 0)} {cs vs : List Value} {i : Nat} (hi : i ≤ l.length) (h1 : HdL E.G A w (l.flatMap (E.G.enc 0)) cs) (h2 : HdL E.G A w (v.flatMap (E.G.enc 0)) vs)
  (hcs : cs.length = l.length * 1) (hvs : vs.length = v.length * 1) (hp : ∀ (j : Nat) (u : Value), (insC cs vs i)[j]? = some u → cur'[j]? = some u) (hA : ∀ b, A b → w'.heap[b]? = w.heap[b]?) : RowIn E.G A w' cur' 0 (insL l i v) := by
 intro k x hx j cv hcv
 have hj : j < 1 := by have := (List.getElem?_eq_some_iff.1 hcv).1; rw [E.G.hsz 0 x] at this; exact this
 have hg := insC_get hcs hvs hi (k * 1 + j)
 rw [insL_get hi] at hx
 rw [sz0]
 split at hx
 ·obtain ⟨u, h3, h4⟩ := h1.get _ cv (flat_get (E.G.hsz 0) hx hcv)
  rw [sz0] at h3
  rw [if_pos (by omega), h3] at hg
  exact ⟨u, hp _ _ hg, h4.mono (fun _ h => h) hA⟩
 ·split at hx
  ·obtain ⟨u, h3, h4⟩ := h2.get _ cv (flat_get (E.G.hsz 0) hx hcv)
   rw [sz0] at h3
   rw [if_neg (by omega), if_pos (by omega), show k * 1 + j - i * 1 = (k - i) * 1 + j by omega, h3] at hg
   exact ⟨u, hp _ _ hg, h4.mono (fun _ h => h) hA⟩
  ·obtain ⟨u, h3, h4⟩ := h1.get _ cv (flat_get (E.G.hsz 0) hx hcv)
   rw [sz0] at h3
   rw [if_neg (by omega), if_neg (by omega), show k * 1 + j - v.length * 1 = (k - v.length) * 1 + j by omega, h3] at hg
   exact ⟨u, hp _ _ hg, h4.mono (fun _ h => h) hA⟩
theorem insOK8 : InsOK E gl 8 0 3 where
 enters := Proofs.enters_of (show Tryz.prog.funcs[8]? = some Tryz.f8 by kernel_rfl) (by kernel_rfl) rfl
 row A w b1 c1 b2 c2 p1 p2 l v i _ hA hn1 hn2 hne h1 h2 hi hv hlen := by
  have hq : 1 ≤ v.length := List.length_pos_iff.2 hv
  rcases h2 with ⟨_, h, _⟩ | ⟨hc2, rfl, cur2, hh2, hs2, hle2, hr2⟩
  ·exact absurd h hv
  obtain ⟨vs, hvs, hdv, hpv, honv⟩ := rowVals hr2
  have fin : ∀ (b : Nat) (cs : List Value), HdL E.G A w (l.flatMap (E.G.enc 0)) cs → cs.length = l.length * 1 → (c1 ≠ 0 → b = b1) → ∀ e w', InsP w b c1 (insC cs vs i) (l.length + v.length) e w' →
    ∃ (b' c' : Nat) (cur' : Array Value), e = .returned (.slice (some ⟨b', 0, none⟩) (insL l i v).length c') ∧
    w'.os = w.os ∧ w'.tape = w.tape ∧ Out w w' ∧ w.heap.size ≤ w'.heap.size ∧ ((c1 ≠ 0 ∧ b' = b1) ∨ w.heap.size ≤ b') ∧ (∀ k, k < w.heap.size → (c1 ≠ 0 → k ≠ b1) → w'.heap[k]? = w.heap[k]?) ∧
    c' ≠ 0 ∧ w'.heap[b']? = some (.cells cur' 3 (0, 0)) ∧ cur'.size = c' * E.G.sz 0 ∧ (insL l i v).length ≤ c' ∧ RowIn E.G A w' cur' 0 (insL l i v) := by
   rintro b cs hd hcs hbb e w' ⟨b', c', he, hc', hvec, hb', hsz, hos, htp, hout, hold⟩
   rcases hvec with ⟨h0, _⟩ | ⟨_, cur', hh', hsz', hp'⟩
   ·exact absurd h0 hc'
   have hAw : ∀ b, A b → w'.heap[b]? = w.heap[b]? := fun k hk => by
    obtain ⟨ob, hob, _⟩ := hA k hk
    refine hold k (Array.getElem?_eq_some_iff.1 hob).1 (fun hc e => ?_)
    rw [hbb hc] at e
    exact hn1 hc (e ▸ hk)
   refine ⟨b', c', cur', by rw [insL_length hi]; exact he, hos, htp, hout, hsz, hb'.imp (fun h => ⟨h.1, h.2.trans (hbb h.1)⟩) id, fun k h3 h4 => hold k h3 (fun hc => by rw [hbb hc]; exact h4 hc), hc', hh', hsz', ?_, rowIns hi hd hdv hcs hvs hp' hAw⟩
   have hil : (insC cs vs i).length = (l.length + v.length) * 1 := by simp only [insC, List.length_append, List.length_take, List.length_drop]; omega
   have := hp' _ _ (List.getElem?_eq_getElem (show (insC cs vs i).length - 1 < (insC cs vs i).length by omega))
   have := (Array.getElem?_eq_some_iff.1 this).1
   rw [insL_length hi]
   omega
  rcases h1 with ⟨rfl, rfl, b', rfl⟩ | ⟨hc1, rfl, cur, hh, hs, hle, hr⟩
  ·have hi0 : i = 0 := by simpa using hi
   subst hi0
   have := ins_end b' 0 0 v.length b2 c2 [] vs w (.inl ⟨rfl, rfl⟩) (Nat.le_refl _) (by simp) hvs (fun j u hj => by rw [addr_add]; simp only [World.cell?, hh2, Nat.zero_add]; exact hpv j u hj) (fun u hu => oneC_eq (honv u hu)) hq (by simpa using hlen)
   refine this.mono fun e w' h => fin b' [] rfl (by simp) (fun h => absurd rfl h) e w' ?_
   have e1 : insC [] vs 0 = [] ++ vs := by simp [insC]
   rw [e1]
   simpa using h
  ·obtain ⟨cs, hcs, hdc, hpc, honc⟩ := rowVals hr
   have hb2 : b2 ≠ b1 := fun e => hne hc1 hc2 e.symm
   rcases Nat.lt_or_ge i l.length with hlt | hge
   ·rcases Nat.lt_or_ge c1 (l.length + v.length) with hg | hg
    ·exact (ins_grow b1 c1 l.length i v.length b2 c2 cs vs cur cur2 w hh hs hpc hh2 hpv hcs hvs honc honv hlt hle hg hq hlen).mono fun e w' h => fin b1 cs hdc hcs (fun _ => rfl) e w' h
    ·exact (ins_room b1 c1 l.length i v.length b2 c2 cs vs cur cur2 w hh hs hpc hh2 hpv hcs hvs honc honv hlt hg hq hlen hb2).mono fun e w' h => fin b1 cs hdc hcs (fun _ => rfl) e w' h
   ·have hil : i = l.length := by omega
    subst hil
    have := ins_end b1 c1 l.length v.length b2 c2 cs vs w (.inr ⟨hc1, cur, hh, hs, hpc⟩) hle hcs hvs (fun j u hj => by rw [addr_add]; simp only [World.cell?, hh2, Nat.zero_add]; exact hpv j u hj) (fun u hu => oneC_eq (honv u hu)) hq hlen
    rw [ptr0_ne hc1] at this
    refine this.mono fun e w' h => fin b1 cs hdc hcs (fun _ => rfl) e w' ?_
    have e1 : insC cs vs l.length = cs ++ vs := by unfold insC; rw [List.take_of_length_le (by omega), List.drop_eq_nil_of_le (by omega), List.append_nil]
    rw [e1]
    exact h
theorem sok8 (F : Nat) : SrtOK E gl ⟨8, 0, 3, fun _ _ => none, true, 0, none⟩ where
 enters := insOK8.enters
 run h := nomatch h
 isIns _ := insOK8
end
end Go.Proofs.Cb

namespace Go.Proofs.Cb
open Go Go.KX Go.RowKit
set_option linter.unusedVariables false
set_option maxRecDepth 100000
theorem all0 {α : Type} {P : α → Prop} : ∀ c ∈ ([] : List α), P c := fun _ h => nomatch h
theorem allC {α : Type} {P : α → Prop} {a : α} {l : List α} (h : P a) (t : ∀ c ∈ l, P c) : ∀ c ∈ a :: l, P c := fun c hc => (List.mem_cons.1 hc).elim (fun e => e ▸ h) (t c)
theorem inl0 : InlOK E [] := fun _ _ h => nomatch h
theorem inlC {k : Nat} {fn : Func} {l : List (Nat × Func)} (h : E.P.funcs[k]? = some fn) (e : Proofs.Enters E.P k) (t : InlOK E l) : InlOK E ((k, fn) :: l) := by
 intro k2 fn2 hf
 simp only [findFn] at hf
 cases hb : Nat.beq k k2 with
 | true => rw [hb, cond_true] at hf; cases hf; rw [← Nat.eq_of_beq_eq_true hb]; exact ⟨h, e⟩
 | false => rw [hb, cond_false] at hf; exact t k2 fn2 hf
theorem mix : Tryz.prog.follows .mixedOrders = true := by rfl
theorem keys0 : ∀ p ∈ E.keys, KeyOK E.P E.G p.1 p.2 := fun _ h => nomatch h
abbrev HF (k : Nat) (f : Func) : Prop := Tryz.prog.funcs[k]? = some f
theorem hK {k : Nat} {f : Func} (h : Tryz.prog.funcs[k]? = some f) : HF k f := h
theorem mkE {k : Nat} {f : Func} {c : Code} (h : HF k f) (a : (f.name == "runtime.NumGoroutine") = false) (b : f.body = some c) : Proofs.Enters Tryz.prog k := Proofs.enters_of h a b
theorem mkC {k : Nat} {f : Func} {c : Code} {cx : Ctx E} {ps : List PK} {rs : List RK} {m : AT E.G.car ps → Option (RT E.G.car rs)} (hf : HF k f) (a : (f.name == "runtime.NumGoroutine") = false) (b : f.body = some c) (t : ∀ c ∈ cx.tbl, CSok E gl c) (i : InlS E gl cx) (h : Hint) (n : Nat.ble ps.length f.ntmps = true) (e : fnK cx f gl ps rs h = m) : CSok E gl ⟨k, ps, rs, m⟩ := ⟨mkE hf a b, e ▸ fn_sound mix t i keys0 gl_up gl_lt hf (Nat.le_of_ble_eq_true n) h⟩
noncomputable section
theorem hf24 : HF 24 Tryz.f24 := hK (by kernel_rfl)
theorem en24 : Proofs.Enters Tryz.prog 24 := mkE hf24 (by kernel_rfl) rfl
theorem hf7 : HF 7 Tryz.f7 := hK (by kernel_rfl)
theorem en7 : Proofs.Enters Tryz.prog 7 := mkE hf7 (by kernel_rfl) rfl
theorem hf15 : HF 15 Tryz.f15 := hK (by kernel_rfl)
def law03_Made (F : Nat) (a0 : List Int) : Option (Ship) :=
 join (F) (fun (x : Int × Int) => chk (InR ((1 : Int) + x.1)) (join (F) (fun (x_1 : Int × Int) => chk (InR ((390 : Int) * x_1.1)) (chk (InR ((100 : Int) + (390 : Int) * x_1.1)) (join (F) (fun (x_2 : Int × Int) => chk (InR ((7 : Int) * x_2.1)) (chk (InR ((10 : Int) + (7 : Int) * x_2.1)) (join (F) (fun (x_3 : Int × Int) => chk (InR ((1900 : Int) * x_3.1)) (chk (InR ((10 : Int) + (1900 : Int) * x_3.1)) (join (F) (fun (x_4 : Int × Int) => join (F) (fun (x_5 : Int × Int) => join (F) (fun (x_6 : Int × Int) => chk (InR ((2 : Int) * x_6.1)) (join (F) (fun (x_7 : Int × Int) => chk (InR ((4 : Int) * x_7.1)) (join (F) (fun (x_8 : Int × Int) => chk (InR ((20 : Int) * x_8.1)) (chk (InR ((200 : Int) + (20 : Int) * x_8.1)) (join (F) (fun (x_9 : Int × Int) => chk (InR ((1 : Int) + x_9.1)) (loopC (fun (x_10 : Int × Int × Int × List Point × Int) => fun x_11 => brk (decide (x_10.2.1 < (1 : Int) + x_9.1)) (chk (InR (x_10.2.2.1 + 10)) (join (F) (fun (x_12 : Int × Int) => chk (InR (x_10.2.2.1 + (10 : Int) + x_12.1)) (join (F) (fun (x_13 : Int × Int) => chk (InR (x_10.1 * x_13.1)) (chk (0 ≤ x_10.1 * x_13.1 ∧ x_10.1 * x_13.1 ≤ 9223372036854775807) (chk (List.length x_10.2.2.2.1 + [Point.mk (x_10.2.2.1 + (10 : Int) + x_12.1) (x_10.1 * x_13.1 / (100 : Int))].length ≤ (1000000000 : Nat)) (chk (InR (x_10.2.1 + 1)) (x_11 ((x_10.1 * x_13.1 / (100 : Int), x_10.2.1 + 1, x_10.2.2.1 + (10 : Int) + x_12.1, x_10.2.2.2.1 ++ [Point.mk (x_10.2.2.1 + (10 : Int) + x_12.1) (x_10.1 * x_13.1 / (100 : Int))], x_13.2))))))) (fun x_13 => brk (decide (x_12.2 ≥ (↑a0.length : Int))) (x_13 (((0 : Int), x_12.2))) (chk (InR (x_12.2 + 1)) (chk (InR (x_12.2 + (1 : Int) - (1 : Int))) (chk (0 ≤ x_12.2 + (1 : Int) - (1 : Int) ∧ x_12.2 + (1 : Int) - (1 : Int) < (↑a0.length : Int)) (chk (InR (a0.getD (x_12.2 + (1 : Int) - (1 : Int)).toNat (0 : Int))) (chk (0 ≤ a0.getD (x_12.2 + (1 : Int) - (1 : Int)).toNat (0 : Int) ∧ a0.getD (x_12.2 + (1 : Int) - (1 : Int)).toNat 0 ≤ (9223372036854775807 : Int)) (x_13 ((a0.getD (x_12.2 + (1 : Int) - (1 : Int)).toNat (0 : Int) % (101 : Int), x_12.2 + 1))))))))))) (fun x_12 => brk (decide (x_10.2.2.2.2 ≥ (↑a0.length : Int))) (x_12 (((0 : Int), x_10.2.2.2.2))) (chk (InR (x_10.2.2.2.2 + 1)) (chk (InR (x_10.2.2.2.2 + (1 : Int) - (1 : Int))) (chk (0 ≤ x_10.2.2.2.2 + (1 : Int) - (1 : Int) ∧ x_10.2.2.2.2 + (1 : Int) - (1 : Int) < (↑a0.length : Int)) (chk (InR (a0.getD (x_10.2.2.2.2 + (1 : Int) - (1 : Int)).toNat (0 : Int))) (chk (0 ≤ a0.getD (x_10.2.2.2.2 + (1 : Int) - (1 : Int)).toNat (0 : Int) ∧ a0.getD (x_10.2.2.2.2 + (1 : Int) - (1 : Int)).toNat 0 ≤ (9223372036854775807 : Int)) (x_12 ((a0.getD (x_10.2.2.2.2 + (1 : Int) - (1 : Int)).toNat (0 : Int) % (40 : Int), x_10.2.2.2.2 + 1))))))))))) (join (F) (fun (x_12 : Int × Int) => join (F) (fun (x_13 : Int × Int) => chk (InR ((1 : Int) + x_13.1)) (loopC (fun (x_14 : Int × Int × Int × List Point × Int) => fun x_15 => brk (decide (x_14.1 < (1 : Int) + x_13.1)) (chk (InR (x_14.2.2.1 + 1)) (join (F) (fun (x_16 : Int × Int) => chk (InR (x_14.2.2.1 + (1 : Int) + x_16.1)) (join (F) (fun (x_17 : Int × Int) => chk (InR ((3 : Int) * x_17.1)) (chk (InR (x_14.2.1 + (3 : Int) * x_17.1)) (chk (List.length x_14.2.2.2.1 + [Point.mk (x_14.2.2.1 + (1 : Int) + x_16.1) (x_14.2.1 + (3 : Int) * x_17.1)].length ≤ (1000000000 : Nat)) (chk (InR (x_14.1 + 1)) (x_15 ((x_14.1 + 1, x_14.2.1 + (3 : Int) * x_17.1, x_14.2.2.1 + (1 : Int) + x_16.1, x_14.2.2.2.1 ++ [Point.mk (x_14.2.2.1 + (1 : Int) + x_16.1) (x_14.2.1 + (3 : Int) * x_17.1)], x_17.2))))))) (fun x_17 => brk (decide (x_16.2 ≥ (↑a0.length : Int))) (x_17 (((0 : Int), x_16.2))) (chk (InR (x_16.2 + 1)) (chk (InR (x_16.2 + (1 : Int) - (1 : Int))) (chk (0 ≤ x_16.2 + (1 : Int) - (1 : Int) ∧ x_16.2 + (1 : Int) - (1 : Int) < (↑a0.length : Int)) (chk (InR (a0.getD (x_16.2 + (1 : Int) - (1 : Int)).toNat (0 : Int))) (chk (0 ≤ a0.getD (x_16.2 + (1 : Int) - (1 : Int)).toNat (0 : Int) ∧ a0.getD (x_16.2 + (1 : Int) - (1 : Int)).toNat 0 ≤ (9223372036854775807 : Int)) (x_17 ((a0.getD (x_16.2 + (1 : Int) - (1 : Int)).toNat (0 : Int) % (256 : Int), x_16.2 + 1))))))))))) (fun x_16 => brk (decide (x_14.2.2.2.2 ≥ (↑a0.length : Int))) (x_16 (((0 : Int), x_14.2.2.2.2))) (chk (InR (x_14.2.2.2.2 + 1)) (chk (InR (x_14.2.2.2.2 + (1 : Int) - (1 : Int))) (chk (0 ≤ x_14.2.2.2.2 + (1 : Int) - (1 : Int) ∧ x_14.2.2.2.2 + (1 : Int) - (1 : Int) < (↑a0.length : Int)) (chk (InR (a0.getD (x_14.2.2.2.2 + (1 : Int) - (1 : Int)).toNat (0 : Int))) (chk (0 ≤ a0.getD (x_14.2.2.2.2 + (1 : Int) - (1 : Int)).toNat (0 : Int) ∧ a0.getD (x_14.2.2.2.2 + (1 : Int) - (1 : Int)).toNat 0 ≤ (9223372036854775807 : Int)) (x_16 ((a0.getD (x_14.2.2.2.2 + (1 : Int) - (1 : Int)).toNat (0 : Int) % (80 : Int), x_14.2.2.2.2 + 1))))))))))) (join (F) (fun (x_16 : Int × Int) => loopC (fun (x_17 : Int × Int × Int × List Point × Int) => fun x_18 => brk (decide (x_17.2.1 < x_16.1)) (chk (InR (x_17.2.2.1 + 1)) (join (F) (fun (x_19 : Int × Int) => chk (InR (x_17.2.2.1 + (1 : Int) + x_19.1)) (join (F) (fun (x_20 : Int × Int) => chk (InR ((3 : Int) * x_20.1)) (chk (InR (x_17.1 + (3 : Int) * x_20.1)) (chk (List.length x_17.2.2.2.1 + [Point.mk (x_17.2.2.1 + (1 : Int) + x_19.1) (x_17.1 + (3 : Int) * x_20.1)].length ≤ (1000000000 : Nat)) (chk (InR (x_17.2.1 + 1)) (x_18 ((x_17.1 + (3 : Int) * x_20.1, x_17.2.1 + 1, x_17.2.2.1 + (1 : Int) + x_19.1, x_17.2.2.2.1 ++ [Point.mk (x_17.2.2.1 + (1 : Int) + x_19.1) (x_17.1 + (3 : Int) * x_20.1)], x_20.2))))))) (fun x_20 => brk (decide (x_19.2 ≥ (↑a0.length : Int))) (x_20 (((0 : Int), x_19.2))) (chk (InR (x_19.2 + 1)) (chk (InR (x_19.2 + (1 : Int) - (1 : Int))) (chk (0 ≤ x_19.2 + (1 : Int) - (1 : Int) ∧ x_19.2 + (1 : Int) - (1 : Int) < (↑a0.length : Int)) (chk (InR (a0.getD (x_19.2 + (1 : Int) - (1 : Int)).toNat (0 : Int))) (chk (0 ≤ a0.getD (x_19.2 + (1 : Int) - (1 : Int)).toNat (0 : Int) ∧ a0.getD (x_19.2 + (1 : Int) - (1 : Int)).toNat 0 ≤ (9223372036854775807 : Int)) (x_20 ((a0.getD (x_19.2 + (1 : Int) - (1 : Int)).toNat (0 : Int) % (256 : Int), x_19.2 + 1))))))))))) (fun x_19 => brk (decide (x_17.2.2.2.2 ≥ (↑a0.length : Int))) (x_19 (((0 : Int), x_17.2.2.2.2))) (chk (InR (x_17.2.2.2.2 + 1)) (chk (InR (x_17.2.2.2.2 + (1 : Int) - (1 : Int))) (chk (0 ≤ x_17.2.2.2.2 + (1 : Int) - (1 : Int) ∧ x_17.2.2.2.2 + (1 : Int) - (1 : Int) < (↑a0.length : Int)) (chk (InR (a0.getD (x_17.2.2.2.2 + (1 : Int) - (1 : Int)).toNat (0 : Int))) (chk (0 ≤ a0.getD (x_17.2.2.2.2 + (1 : Int) - (1 : Int)).toNat (0 : Int) ∧ a0.getD (x_17.2.2.2.2 + (1 : Int) - (1 : Int)).toNat 0 ≤ (9223372036854775807 : Int)) (x_19 ((a0.getD (x_17.2.2.2.2 + (1 : Int) - (1 : Int)).toNat (0 : Int) % (90 : Int), x_17.2.2.2.2 + 1))))))))))) (join (F) (fun (x_19 : Int × Int) => chk (InR ((4 : Int) * x_19.1)) (chk (InR (x_17.1 + (4 : Int) * x_19.1)) (chk (List.length x_17.2.2.2.1 + [Point.mk (400 : Int) (x_17.1 + (4 : Int) * x_19.1)].length ≤ (1000000000 : Nat)) (some (Ship.mk ((1 : Int) + x.1) ((100 : Int) + (390 : Int) * x_1.1) ((10 : Int) + (7 : Int) * x_2.1) ((10 : Int) + (1900 : Int) * x_3.1) x_10.2.2.2.1 x_14.2.2.2.1 (x_17.2.2.2.1 ++ [Point.mk (400 : Int) (x_17.1 + (4 : Int) * x_19.1)]) x_4.1 x_5.1 ((2 : Int) * x_6.1) ((4 : Int) * x_7.1)))))) (fun x_19 => brk (decide (x_17.2.2.2.2 ≥ (↑a0.length : Int))) (x_19 (((0 : Int), x_17.2.2.2.2))) (chk (InR (x_17.2.2.2.2 + 1)) (chk (InR (x_17.2.2.2.2 + (1 : Int) - (1 : Int))) (chk (0 ≤ x_17.2.2.2.2 + (1 : Int) - (1 : Int) ∧ x_17.2.2.2.2 + (1 : Int) - (1 : Int) < (↑a0.length : Int)) (chk (InR (a0.getD (x_17.2.2.2.2 + (1 : Int) - (1 : Int)).toNat (0 : Int))) (chk (0 ≤ a0.getD (x_17.2.2.2.2 + (1 : Int) - (1 : Int)).toNat (0 : Int) ∧ a0.getD (x_17.2.2.2.2 + (1 : Int) - (1 : Int)).toNat 0 ≤ (9223372036854775807 : Int)) (x_19 ((a0.getD (x_17.2.2.2.2 + (1 : Int) - (1 : Int)).toNat (0 : Int) % (256 : Int), x_17.2.2.2.2 + 1))))))))))) (F) (((0 : Int), (0 : Int), (0 : Int), [Point.mk (0 : Int) (0 : Int)], x_16.2))) (fun x_16 => brk (decide (x_14.2.2.2.2 ≥ (↑a0.length : Int))) (x_16 (((0 : Int), x_14.2.2.2.2))) (chk (InR (x_14.2.2.2.2 + 1)) (chk (InR (x_14.2.2.2.2 + (1 : Int) - (1 : Int))) (chk (0 ≤ x_14.2.2.2.2 + (1 : Int) - (1 : Int) ∧ x_14.2.2.2.2 + (1 : Int) - (1 : Int) < (↑a0.length : Int)) (chk (InR (a0.getD (x_14.2.2.2.2 + (1 : Int) - (1 : Int)).toNat (0 : Int))) (chk (0 ≤ a0.getD (x_14.2.2.2.2 + (1 : Int) - (1 : Int)).toNat (0 : Int) ∧ a0.getD (x_14.2.2.2.2 + (1 : Int) - (1 : Int)).toNat 0 ≤ (9223372036854775807 : Int)) (x_16 ((a0.getD (x_14.2.2.2.2 + (1 : Int) - (1 : Int)).toNat (0 : Int) % (4 : Int), x_14.2.2.2.2 + 1))))))))))) (F) (((0 : Int), x_12.1, (0 : Int), [Point.mk (0 : Int) x_12.1], x_13.2)))) (fun x_13 => brk (decide (x_12.2 ≥ (↑a0.length : Int))) (x_13 (((0 : Int), x_12.2))) (chk (InR (x_12.2 + 1)) (chk (InR (x_12.2 + (1 : Int) - (1 : Int))) (chk (0 ≤ x_12.2 + (1 : Int) - (1 : Int) ∧ x_12.2 + (1 : Int) - (1 : Int) < (↑a0.length : Int)) (chk (InR (a0.getD (x_12.2 + (1 : Int) - (1 : Int)).toNat (0 : Int))) (chk (0 ≤ a0.getD (x_12.2 + (1 : Int) - (1 : Int)).toNat (0 : Int) ∧ a0.getD (x_12.2 + (1 : Int) - (1 : Int)).toNat 0 ≤ (9223372036854775807 : Int)) (x_13 ((a0.getD (x_12.2 + (1 : Int) - (1 : Int)).toNat (0 : Int) % (3 : Int), x_12.2 + 1)))))))))) (fun x_12 => brk (decide (x_10.2.2.2.2 ≥ (↑a0.length : Int))) (x_12 (((0 : Int), x_10.2.2.2.2))) (chk (InR (x_10.2.2.2.2 + 1)) (chk (InR (x_10.2.2.2.2 + (1 : Int) - (1 : Int))) (chk (0 ≤ x_10.2.2.2.2 + (1 : Int) - (1 : Int) ∧ x_10.2.2.2.2 + (1 : Int) - (1 : Int) < (↑a0.length : Int)) (chk (InR (a0.getD (x_10.2.2.2.2 + (1 : Int) - (1 : Int)).toNat (0 : Int))) (chk (0 ≤ a0.getD (x_10.2.2.2.2 + (1 : Int) - (1 : Int)).toNat (0 : Int) ∧ a0.getD (x_10.2.2.2.2 + (1 : Int) - (1 : Int)).toNat 0 ≤ (9223372036854775807 : Int)) (x_12 ((a0.getD (x_10.2.2.2.2 + (1 : Int) - (1 : Int)).toNat (0 : Int) % (50 : Int), x_10.2.2.2.2 + 1))))))))))) (F) (((200 : Int) + (20 : Int) * x_8.1, (0 : Int), (0 : Int), [Point.mk (0 : Int) ((200 : Int) + (20 : Int) * x_8.1)], x_9.2)))) (fun x_9 => brk (decide (x_8.2 ≥ (↑a0.length : Int))) (x_9 (((0 : Int), x_8.2))) (chk (InR (x_8.2 + 1)) (chk (InR (x_8.2 + (1 : Int) - (1 : Int))) (chk (0 ≤ x_8.2 + (1 : Int) - (1 : Int) ∧ x_8.2 + (1 : Int) - (1 : Int) < (↑a0.length : Int)) (chk (InR (a0.getD (x_8.2 + (1 : Int) - (1 : Int)).toNat (0 : Int))) (chk (0 ≤ a0.getD (x_8.2 + (1 : Int) - (1 : Int)).toNat (0 : Int) ∧ a0.getD (x_8.2 + (1 : Int) - (1 : Int)).toNat 0 ≤ (9223372036854775807 : Int)) (x_9 ((a0.getD (x_8.2 + (1 : Int) - (1 : Int)).toNat (0 : Int) % (4 : Int), x_8.2 + 1)))))))))))) (fun x_8 => brk (decide (x_7.2 ≥ (↑a0.length : Int))) (x_8 (((0 : Int), x_7.2))) (chk (InR (x_7.2 + 1)) (chk (InR (x_7.2 + (1 : Int) - (1 : Int))) (chk (0 ≤ x_7.2 + (1 : Int) - (1 : Int) ∧ x_7.2 + (1 : Int) - (1 : Int) < (↑a0.length : Int)) (chk (InR (a0.getD (x_7.2 + (1 : Int) - (1 : Int)).toNat (0 : Int))) (chk (0 ≤ a0.getD (x_7.2 + (1 : Int) - (1 : Int)).toNat (0 : Int) ∧ a0.getD (x_7.2 + (1 : Int) - (1 : Int)).toNat 0 ≤ (9223372036854775807 : Int)) (x_8 ((a0.getD (x_7.2 + (1 : Int) - (1 : Int)).toNat (0 : Int) % (256 : Int), x_7.2 + 1))))))))))) (fun x_7 => brk (decide (x_6.2 ≥ (↑a0.length : Int))) (x_7 (((0 : Int), x_6.2))) (chk (InR (x_6.2 + 1)) (chk (InR (x_6.2 + (1 : Int) - (1 : Int))) (chk (0 ≤ x_6.2 + (1 : Int) - (1 : Int) ∧ x_6.2 + (1 : Int) - (1 : Int) < (↑a0.length : Int)) (chk (InR (a0.getD (x_6.2 + (1 : Int) - (1 : Int)).toNat (0 : Int))) (chk (0 ≤ a0.getD (x_6.2 + (1 : Int) - (1 : Int)).toNat (0 : Int) ∧ a0.getD (x_6.2 + (1 : Int) - (1 : Int)).toNat 0 ≤ (9223372036854775807 : Int)) (x_7 ((a0.getD (x_6.2 + (1 : Int) - (1 : Int)).toNat (0 : Int) % (256 : Int), x_6.2 + 1))))))))))) (fun x_6 => brk (decide (x_5.2 ≥ (↑a0.length : Int))) (x_6 (((0 : Int), x_5.2))) (chk (InR (x_5.2 + 1)) (chk (InR (x_5.2 + (1 : Int) - (1 : Int))) (chk (0 ≤ x_5.2 + (1 : Int) - (1 : Int) ∧ x_5.2 + (1 : Int) - (1 : Int) < (↑a0.length : Int)) (chk (InR (a0.getD (x_5.2 + (1 : Int) - (1 : Int)).toNat (0 : Int))) (chk (0 ≤ a0.getD (x_5.2 + (1 : Int) - (1 : Int)).toNat (0 : Int) ∧ a0.getD (x_5.2 + (1 : Int) - (1 : Int)).toNat 0 ≤ (9223372036854775807 : Int)) (x_6 ((a0.getD (x_5.2 + (1 : Int) - (1 : Int)).toNat (0 : Int) % (240 : Int), x_5.2 + 1)))))))))) (fun x_5 => brk (decide (x_4.2 ≥ (↑a0.length : Int))) (x_5 (((0 : Int), x_4.2))) (chk (InR (x_4.2 + 1)) (chk (InR (x_4.2 + (1 : Int) - (1 : Int))) (chk (0 ≤ x_4.2 + (1 : Int) - (1 : Int) ∧ x_4.2 + (1 : Int) - (1 : Int) < (↑a0.length : Int)) (chk (InR (a0.getD (x_4.2 + (1 : Int) - (1 : Int)).toNat (0 : Int))) (chk (0 ≤ a0.getD (x_4.2 + (1 : Int) - (1 : Int)).toNat (0 : Int) ∧ a0.getD (x_4.2 + (1 : Int) - (1 : Int)).toNat 0 ≤ (9223372036854775807 : Int)) (x_5 ((a0.getD (x_4.2 + (1 : Int) - (1 : Int)).toNat (0 : Int) % (101 : Int), x_4.2 + 1)))))))))) (fun x_4 => brk (decide (x_3.2 ≥ (↑a0.length : Int))) (x_4 (((0 : Int), x_3.2))) (chk (InR (x_3.2 + 1)) (chk (InR (x_3.2 + (1 : Int) - (1 : Int))) (chk (0 ≤ x_3.2 + (1 : Int) - (1 : Int) ∧ x_3.2 + (1 : Int) - (1 : Int) < (↑a0.length : Int)) (chk (InR (a0.getD (x_3.2 + (1 : Int) - (1 : Int)).toNat (0 : Int))) (chk (0 ≤ a0.getD (x_3.2 + (1 : Int) - (1 : Int)).toNat (0 : Int) ∧ a0.getD (x_3.2 + (1 : Int) - (1 : Int)).toNat 0 ≤ (9223372036854775807 : Int)) (x_4 ((a0.getD (x_3.2 + (1 : Int) - (1 : Int)).toNat (0 : Int) % (21 : Int), x_3.2 + 1)))))))))))) (fun x_3 => brk (decide (x_2.2 ≥ (↑a0.length : Int))) (x_3 (((0 : Int), x_2.2))) (chk (InR (x_2.2 + 1)) (chk (InR (x_2.2 + (1 : Int) - (1 : Int))) (chk (0 ≤ x_2.2 + (1 : Int) - (1 : Int) ∧ x_2.2 + (1 : Int) - (1 : Int) < (↑a0.length : Int)) (chk (InR (a0.getD (x_2.2 + (1 : Int) - (1 : Int)).toNat (0 : Int))) (chk (0 ≤ a0.getD (x_2.2 + (1 : Int) - (1 : Int)).toNat (0 : Int) ∧ a0.getD (x_2.2 + (1 : Int) - (1 : Int)).toNat 0 ≤ (9223372036854775807 : Int)) (x_3 ((a0.getD (x_2.2 + (1 : Int) - (1 : Int)).toNat (0 : Int) % (256 : Int), x_2.2 + 1)))))))))))) (fun x_2 => brk (decide (x_1.2 ≥ (↑a0.length : Int))) (x_2 (((0 : Int), x_1.2))) (chk (InR (x_1.2 + 1)) (chk (InR (x_1.2 + (1 : Int) - (1 : Int))) (chk (0 ≤ x_1.2 + (1 : Int) - (1 : Int) ∧ x_1.2 + (1 : Int) - (1 : Int) < (↑a0.length : Int)) (chk (InR (a0.getD (x_1.2 + (1 : Int) - (1 : Int)).toNat (0 : Int))) (chk (0 ≤ a0.getD (x_1.2 + (1 : Int) - (1 : Int)).toNat (0 : Int) ∧ a0.getD (x_1.2 + (1 : Int) - (1 : Int)).toNat 0 ≤ (9223372036854775807 : Int)) (x_2 ((a0.getD (x_1.2 + (1 : Int) - (1 : Int)).toNat (0 : Int) % (256 : Int), x_1.2 + 1)))))))))))) (fun x_1 => brk (decide (x.2 ≥ (↑a0.length : Int))) (x_1 (((0 : Int), x.2))) (chk (InR (x.2 + 1)) (chk (InR (x.2 + (1 : Int) - (1 : Int))) (chk (0 ≤ x.2 + (1 : Int) - (1 : Int) ∧ x.2 + (1 : Int) - (1 : Int) < (↑a0.length : Int)) (chk (InR (a0.getD (x.2 + (1 : Int) - (1 : Int)).toNat (0 : Int))) (chk (0 ≤ a0.getD (x.2 + (1 : Int) - (1 : Int)).toNat (0 : Int) ∧ a0.getD (x.2 + (1 : Int) - (1 : Int)).toNat 0 ≤ (9223372036854775807 : Int)) (x_1 ((a0.getD (x.2 + (1 : Int) - (1 : Int)).toNat (0 : Int) % (256 : Int), x.2 + 1))))))))))) (fun x => brk (decide ((0 : Int) ≥ (↑a0.length : Int))) (x (((0 : Int), (0 : Int)))) (chk ((0 : Int) ≤ IntKind.i64.wrap (IntKind.i64.wrap ((0 : Int) + (1 : Int)) - 1) ∧ IntKind.i64.wrap (IntKind.i64.wrap ((0 : Int) + (1 : Int)) - 1) < (↑a0.length : Int)) (chk (InR (a0.getD (IntKind.i64.wrap (IntKind.i64.wrap ((0 : Int) + (1 : Int)) - 1)).toNat (0 : Int))) (chk (0 ≤ a0.getD (IntKind.i64.wrap (IntKind.i64.wrap ((0 : Int) + (1 : Int)) - 1)).toNat (0 : Int) ∧ a0.getD (IntKind.i64.wrap (IntKind.i64.wrap ((0 : Int) + (1 : Int)) - 1)).toNat 0 ≤ (9223372036854775807 : Int)) (x ((a0.getD (IntKind.i64.wrap (IntKind.i64.wrap ((0 : Int) + (1 : Int)) - 1)).toNat (0 : Int) % (6 : Int), IntKind.i64.wrap ((0 : Int) + (1 : Int)))))))))
def s15 (F : Nat) : CS E.G := ⟨15, [.sl 2], [.v 9 true [55, 55, 55]], fun x => law03_Made F x.1⟩
theorem c15 (F : Nat) : CSok E gl (s15 F) := mkC (cx := ⟨[], [(7, Tryz.f7), (24, Tryz.f24)], F, [], []⟩) hf15 (by kernel_rfl) rfl all0 ⟨(inlC hf7 en7 (inlC hf24 en24 inl0)), all0⟩ (.p (.w ⟨[.i, .i], [], [0, 1, 3, 4], [(0, .i IntKind.i64)], [], [(4, 0, .i IntKind.i64)], [], 5⟩ .n (.w ⟨[.i, .i], [], [0, 1, 3, 4], [(0, .i IntKind.i64)], [], [(4, 0, .i IntKind.i64)], [], 5⟩ .n (.w ⟨[.i, .i], [], [0, 1, 3, 4], [(0, .i IntKind.i64)], [], [(4, 0, .i IntKind.i64)], [], 5⟩ .n (.w ⟨[.i, .i], [], [0, 1, 3, 4], [(0, .i IntKind.i64)], [], [(4, 0, .i IntKind.i64)], [], 5⟩ .n (.w ⟨[.i, .i], [], [0, 1, 3, 4], [(0, .i IntKind.i64)], [], [(4, 0, .i IntKind.i64)], [], 5⟩ .n (.w ⟨[.i, .i], [], [0, 1, 3, 4], [(0, .i IntKind.i64)], [], [(4, 0, .i IntKind.i64)], [], 5⟩ .n (.w ⟨[.i, .i], [], [0, 1, 3, 4], [(0, .i IntKind.i64)], [], [(4, 0, .i IntKind.i64)], [], 5⟩ .n (.w ⟨[.i, .i], [], [0, 1, 3, 4], [(0, .i IntKind.i64)], [], [(4, 0, .i IntKind.i64)], [], 5⟩ .n (.w ⟨[.i, .i], [], [0, 1, 3, 4], [(0, .i IntKind.i64)], [], [(4, 0, .i IntKind.i64)], [], 6⟩ .n (.w ⟨[.i, .i], [], [0, 1, 3, 4], [(0, .i IntKind.i64)], [], [(4, 0, .i IntKind.i64)], [], 7⟩ .n (.l ⟨[.i, .i, .i, .l 7, .i], [32, 64, 48, 720], [0, 2, 5, 4, 3, 1], [(96, .i IntKind.i64), (736, .i IntKind.i64), (80, .i IntKind.i64)], [], [(5, 4, .h 7 55 7), (4, 0, .i IntKind.i64)], [], 8⟩ (.c (.w ⟨[.i, .i], [], [0, 1, 3, 4], [(0, .i IntKind.i64)], [], [(4, 0, .i IntKind.i64)], [], 8⟩ .n (.w ⟨[.i, .i], [], [0, 1, 3, 4], [(0, .i IntKind.i64)], [], [(4, 0, .i IntKind.i64)], [], 8⟩ .n .n)) (.w ⟨[.i, .i], [], [0, 1, 3, 4], [(0, .i IntKind.i64)], [], [(4, 0, .i IntKind.i64)], [], 8⟩ .n (.w ⟨[.i, .i], [], [0, 1, 3, 4], [(0, .i IntKind.i64)], [], [(4, 0, .i IntKind.i64)], [], 9⟩ .n (.l ⟨[.i, .i, .i, .l 7, .i], [32, 64, 48, 1200], [0, 2, 5, 4, 3, 7, 1], [(1216, .i IntKind.i64), (96, .i IntKind.i64), (80, .i IntKind.i64)], [], [(5, 5, .h 9 55 7), (4, 0, .i IntKind.i64)], [], 10⟩ (.c (.w ⟨[.i, .i], [], [0, 1, 3, 4], [(0, .i IntKind.i64)], [], [(4, 0, .i IntKind.i64)], [], 10⟩ .n (.w ⟨[.i, .i], [], [0, 1, 3, 4], [(0, .i IntKind.i64)], [], [(4, 0, .i IntKind.i64)], [], 10⟩ .n .n)) (.w ⟨[.i, .i], [], [0, 1, 3, 4], [(0, .i IntKind.i64)], [], [(4, 0, .i IntKind.i64)], [], 11⟩ .n (.l ⟨[.i, .i, .i, .l 7, .i], [32, 64, 48, 1616], [0, 2, 5, 4, 3, 9, 7, 1], [(96, .i IntKind.i64), (1632, .i IntKind.i64), (80, .i IntKind.i64)], [], [(5, 6, .h 11 55 7), (4, 0, .i IntKind.i64)], [], 12⟩ (.c (.w ⟨[.i, .i], [], [0, 1, 3, 4], [(0, .i IntKind.i64)], [], [(4, 0, .i IntKind.i64)], [], 12⟩ .n (.w ⟨[.i, .i], [], [0, 1, 3, 4], [(0, .i IntKind.i64)], [], [(4, 0, .i IntKind.i64)], [], 12⟩ .n .n)) (.w ⟨[.i, .i], [], [0, 1, 3, 4], [(0, .i IntKind.i64)], [], [(4, 0, .i IntKind.i64)], [], 12⟩ .n .n))))))))))))))))))))) rfl (by kernel_rfl)
theorem hf14 : HF 14 Tryz.f14 := hK (by kernel_rfl)
theorem en14 : Proofs.Enters Tryz.prog 14 := mkE hf14 (by kernel_rfl) rfl
theorem hf4 : HF 4 Tryz.f4 := hK (by kernel_rfl)
def law05_Made (F : Nat) (a0 : List Int) (a1 : Int) : Option (Convoy) :=
 join (F) (fun (x : Int × Int) => chk (InR ((3 : Int) * x.1)) (join (F) (fun (x_1 : Int × Int) => chk (InR ((2 : Int) * x_1.1)) (chk (0 ≤ (2 : Int) * x_1.1 ∧ (2 : Int) * x_1.1 ≤ 9223372036854775807) (join (F) (fun (x_2 : Int × Int) => chk (InR ((2 : Int) * x_2.1)) (chk (0 ≤ (2 : Int) * x_2.1 ∧ (2 : Int) * x_2.1 ≤ 9223372036854775807) (join (F) (fun (x_3 : Int × Int) => chk (InR ((2 : Int) * x_3.1)) (chk (0 ≤ (2 : Int) * x_3.1 ∧ (2 : Int) * x_3.1 ≤ 9223372036854775807) (join (F) (fun (x_4 : Int × Int) => chk (InR ((2 : Int) * x_4.1)) (chk (0 ≤ (2 : Int) * x_4.1 ∧ (2 : Int) * x_4.1 ≤ 9223372036854775807) (chk (InR (a1 + 1)) (join (F) (fun (x_5 : Int × Int) => loopC (fun (x_6 : List Int × Int × Int) => fun x_7 => brk (decide (x_6.2.1 < 24)) (join (F) (fun (x_8 : Int × Int) => chk (List.length x_6.1 + [IntKind.u8.wrap x_8.1].length ≤ (140737488355328 : Nat)) (chk (InR (x_6.2.1 + 1)) (x_7 ((x_6.1 ++ [IntKind.u8.wrap x_8.1], x_6.2.1 + 1, x_8.2))))) (fun x_8 => brk (decide (x_6.2.2 ≥ (↑a0.length : Int))) (x_8 (((0 : Int), x_6.2.2))) (chk (InR (x_6.2.2 + 1)) (chk (InR (x_6.2.2 + (1 : Int) - (1 : Int))) (chk (0 ≤ x_6.2.2 + (1 : Int) - (1 : Int) ∧ x_6.2.2 + (1 : Int) - (1 : Int) < (↑a0.length : Int)) (chk (InR (a0.getD (x_6.2.2 + (1 : Int) - (1 : Int)).toNat (0 : Int))) (chk (0 ≤ a0.getD (x_6.2.2 + (1 : Int) - (1 : Int)).toNat (0 : Int) ∧ a0.getD (x_6.2.2 + (1 : Int) - (1 : Int)).toNat 0 ≤ (9223372036854775807 : Int)) (x_8 ((a0.getD (x_6.2.2 + (1 : Int) - (1 : Int)).toNat (0 : Int) % (256 : Int), x_6.2.2 + 1)))))))))) (chk (0 ≤ (7 : Int) ∧ (7 : Int) < (↑(List.length x_6.1) : Int)) (chk (0 ≤ (7 : Int) ∧ (7 : Int) < (↑(List.length x_6.1) : Int)) (chk (0 ≤ (8 : Int) ∧ (8 : Int) < (↑(List.set x_6.1 (Int.toNat (7 : Int)) (IntKind.u8.wrap (Int.tdiv (List.getD x_6.1 (Int.toNat (7 : Int)) (0 : Int)) (8 : Int)))).length : Int)) (chk (0 ≤ (8 : Int) ∧ (8 : Int) < (↑(List.set x_6.1 (Int.toNat (7 : Int)) (IntKind.u8.wrap (Int.tdiv (List.getD x_6.1 (Int.toNat (7 : Int)) (0 : Int)) (8 : Int)))).length : Int)) (bnd (law03_Made F ((List.set x_6.1 (Int.toNat (7 : Int)) (IntKind.u8.wrap (Int.tdiv (List.getD x_6.1 (Int.toNat (7 : Int)) (0 : Int)) (8 : Int)))).set (Int.toNat (8 : Int)) ((128 : Int) + (List.set x_6.1 (Int.toNat (7 : Int)) (IntKind.u8.wrap (Int.tdiv (List.getD x_6.1 (Int.toNat (7 : Int)) (0 : Int)) (8 : Int)))).getD (Int.toNat (8 : Int)) (0 : Int) % (128 : Int)))) (fun x_8 => join (F) (fun (x_9 : Int × Int) => chk (InR ((2 : Int) * x_9.1)) (chk (InR ((10 : Int) + (2 : Int) * x_9.1)) (join (F) (fun (x_10 : Int × Int) => chk (InR ((3 : Int) * x_10.1)) (join (F) (fun (x_11 : Int × Int) => chk (InR ((5 : Int) * x_11.1)) (join (F) (fun (x_12 : Int × Int) => loopC (fun (x_13 : Int × Int × Int × Int × List Point) => fun x_14 => brk (decide (x_13.2.2.1 < x_12.1)) (chk (InR (x_13.1 + 1)) (join (F) (fun (x_15 : Int × Int) => chk (InR (x_13.1 + (1 : Int) + x_15.1)) (join (F) (fun (x_16 : Int × Int) => chk (InR ((2 : Int) * x_16.1)) (chk (InR (x_13.2.1 + (2 : Int) * x_16.1)) (chk (List.length x_13.2.2.2.2 + [Point.mk (x_13.1 + (1 : Int) + x_15.1) (x_13.2.1 + (2 : Int) * x_16.1)].length ≤ (1000000000 : Nat)) (chk (InR (x_13.2.2.1 + 1)) (x_14 ((x_13.1 + (1 : Int) + x_15.1, x_13.2.1 + (2 : Int) * x_16.1, x_13.2.2.1 + 1, x_16.2, x_13.2.2.2.2 ++ [Point.mk (x_13.1 + (1 : Int) + x_15.1) (x_13.2.1 + (2 : Int) * x_16.1)]))))))) (fun x_16 => brk (decide (x_15.2 ≥ (↑a0.length : Int))) (x_16 (((0 : Int), x_15.2))) (chk (InR (x_15.2 + 1)) (chk (InR (x_15.2 + (1 : Int) - (1 : Int))) (chk (0 ≤ x_15.2 + (1 : Int) - (1 : Int) ∧ x_15.2 + (1 : Int) - (1 : Int) < (↑a0.length : Int)) (chk (InR (a0.getD (x_15.2 + (1 : Int) - (1 : Int)).toNat (0 : Int))) (chk (0 ≤ a0.getD (x_15.2 + (1 : Int) - (1 : Int)).toNat (0 : Int) ∧ a0.getD (x_15.2 + (1 : Int) - (1 : Int)).toNat 0 ≤ (9223372036854775807 : Int)) (x_16 ((a0.getD (x_15.2 + (1 : Int) - (1 : Int)).toNat (0 : Int) % (256 : Int), x_15.2 + 1))))))))))) (fun x_15 => brk (decide (x_13.2.2.2.1 ≥ (↑a0.length : Int))) (x_15 (((0 : Int), x_13.2.2.2.1))) (chk (InR (x_13.2.2.2.1 + 1)) (chk (InR (x_13.2.2.2.1 + (1 : Int) - (1 : Int))) (chk (0 ≤ x_13.2.2.2.1 + (1 : Int) - (1 : Int) ∧ x_13.2.2.2.1 + (1 : Int) - (1 : Int) < (↑a0.length : Int)) (chk (InR (a0.getD (x_13.2.2.2.1 + (1 : Int) - (1 : Int)).toNat (0 : Int))) (chk (0 ≤ a0.getD (x_13.2.2.2.1 + (1 : Int) - (1 : Int)).toNat (0 : Int) ∧ a0.getD (x_13.2.2.2.1 + (1 : Int) - (1 : Int)).toNat 0 ≤ (9223372036854775807 : Int)) (x_15 ((a0.getD (x_13.2.2.2.1 + (1 : Int) - (1 : Int)).toNat (0 : Int) % (40 : Int), x_13.2.2.2.1 + 1))))))))))) (join (F) (fun (x_15 : Int × Int) => chk (InR ((4 : Int) * x_15.1)) (chk (InR (x_13.2.1 + (4 : Int) * x_15.1)) (chk (List.length x_13.2.2.2.2 + [Point.mk (260 : Int) (x_13.2.1 + (4 : Int) * x_15.1)].length ≤ (1000000000 : Nat)) (loopC (fun (x_16 : Int × List Member × Int) => fun x_17 => brk (decide (x_16.1 < x_5.1)) (loopC (fun (x_18 : List Int × Int × Int) => fun x_19 => brk (decide (x_18.2.1 < 24)) (join (F) (fun (x_20 : Int × Int) => chk (List.length x_18.1 + [IntKind.u8.wrap x_20.1].length ≤ (140737488355328 : Nat)) (chk (InR (x_18.2.1 + 1)) (x_19 ((x_18.1 ++ [IntKind.u8.wrap x_20.1], x_18.2.1 + 1, x_20.2))))) (fun x_20 => brk (decide (x_18.2.2 ≥ (↑a0.length : Int))) (x_20 (((0 : Int), x_18.2.2))) (chk (InR (x_18.2.2 + 1)) (chk (InR (x_18.2.2 + (1 : Int) - (1 : Int))) (chk (0 ≤ x_18.2.2 + (1 : Int) - (1 : Int) ∧ x_18.2.2 + (1 : Int) - (1 : Int) < (↑a0.length : Int)) (chk (InR (a0.getD (x_18.2.2 + (1 : Int) - (1 : Int)).toNat (0 : Int))) (chk (0 ≤ a0.getD (x_18.2.2 + (1 : Int) - (1 : Int)).toNat (0 : Int) ∧ a0.getD (x_18.2.2 + (1 : Int) - (1 : Int)).toNat 0 ≤ (9223372036854775807 : Int)) (x_20 ((a0.getD (x_18.2.2 + (1 : Int) - (1 : Int)).toNat (0 : Int) % (256 : Int), x_18.2.2 + 1)))))))))) (chk (0 ≤ (7 : Int) ∧ (7 : Int) < (↑(List.length x_18.1) : Int)) (chk (0 ≤ (7 : Int) ∧ (7 : Int) < (↑(List.length x_18.1) : Int)) (chk (0 ≤ (8 : Int) ∧ (8 : Int) < (↑(List.set x_18.1 (Int.toNat (7 : Int)) (IntKind.u8.wrap (Int.tdiv (List.getD x_18.1 (Int.toNat (7 : Int)) (0 : Int)) (8 : Int)))).length : Int)) (chk (0 ≤ (8 : Int) ∧ (8 : Int) < (↑(List.set x_18.1 (Int.toNat (7 : Int)) (IntKind.u8.wrap (Int.tdiv (List.getD x_18.1 (Int.toNat (7 : Int)) (0 : Int)) (8 : Int)))).length : Int)) (bnd (law03_Made F ((List.set x_18.1 (Int.toNat (7 : Int)) (IntKind.u8.wrap (Int.tdiv (List.getD x_18.1 (Int.toNat (7 : Int)) (0 : Int)) (8 : Int)))).set (Int.toNat (8 : Int)) ((128 : Int) + (List.set x_18.1 (Int.toNat (7 : Int)) (IntKind.u8.wrap (Int.tdiv (List.getD x_18.1 (Int.toNat (7 : Int)) (0 : Int)) (8 : Int)))).getD (Int.toNat (8 : Int)) (0 : Int) % (128 : Int)))) (fun x_20 => join (F) (fun (x_21 : Int × Int) => chk (InR ((2 : Int) * x_21.1)) (chk (InR ((10 : Int) + (2 : Int) * x_21.1)) (join (F) (fun (x_22 : Int × Int) => chk (InR ((3 : Int) * x_22.1)) (join (F) (fun (x_23 : Int × Int) => chk (InR ((5 : Int) * x_23.1)) (join (F) (fun (x_24 : Int × Int) => loopC (fun (x_25 : Int × Int × Int × Int × List Point) => fun x_26 => brk (decide (x_25.2.2.1 < x_24.1)) (chk (InR (x_25.1 + 1)) (join (F) (fun (x_27 : Int × Int) => chk (InR (x_25.1 + (1 : Int) + x_27.1)) (join (F) (fun (x_28 : Int × Int) => chk (InR ((2 : Int) * x_28.1)) (chk (InR (x_25.2.1 + (2 : Int) * x_28.1)) (chk (List.length x_25.2.2.2.2 + [Point.mk (x_25.1 + (1 : Int) + x_27.1) (x_25.2.1 + (2 : Int) * x_28.1)].length ≤ (1000000000 : Nat)) (chk (InR (x_25.2.2.1 + 1)) (x_26 ((x_25.1 + (1 : Int) + x_27.1, x_25.2.1 + (2 : Int) * x_28.1, x_25.2.2.1 + 1, x_28.2, x_25.2.2.2.2 ++ [Point.mk (x_25.1 + (1 : Int) + x_27.1) (x_25.2.1 + (2 : Int) * x_28.1)]))))))) (fun x_28 => brk (decide (x_27.2 ≥ (↑a0.length : Int))) (x_28 (((0 : Int), x_27.2))) (chk (InR (x_27.2 + 1)) (chk (InR (x_27.2 + (1 : Int) - (1 : Int))) (chk (0 ≤ x_27.2 + (1 : Int) - (1 : Int) ∧ x_27.2 + (1 : Int) - (1 : Int) < (↑a0.length : Int)) (chk (InR (a0.getD (x_27.2 + (1 : Int) - (1 : Int)).toNat (0 : Int))) (chk (0 ≤ a0.getD (x_27.2 + (1 : Int) - (1 : Int)).toNat (0 : Int) ∧ a0.getD (x_27.2 + (1 : Int) - (1 : Int)).toNat 0 ≤ (9223372036854775807 : Int)) (x_28 ((a0.getD (x_27.2 + (1 : Int) - (1 : Int)).toNat (0 : Int) % (256 : Int), x_27.2 + 1))))))))))) (fun x_27 => brk (decide (x_25.2.2.2.1 ≥ (↑a0.length : Int))) (x_27 (((0 : Int), x_25.2.2.2.1))) (chk (InR (x_25.2.2.2.1 + 1)) (chk (InR (x_25.2.2.2.1 + (1 : Int) - (1 : Int))) (chk (0 ≤ x_25.2.2.2.1 + (1 : Int) - (1 : Int) ∧ x_25.2.2.2.1 + (1 : Int) - (1 : Int) < (↑a0.length : Int)) (chk (InR (a0.getD (x_25.2.2.2.1 + (1 : Int) - (1 : Int)).toNat (0 : Int))) (chk (0 ≤ a0.getD (x_25.2.2.2.1 + (1 : Int) - (1 : Int)).toNat (0 : Int) ∧ a0.getD (x_25.2.2.2.1 + (1 : Int) - (1 : Int)).toNat 0 ≤ (9223372036854775807 : Int)) (x_27 ((a0.getD (x_25.2.2.2.1 + (1 : Int) - (1 : Int)).toNat (0 : Int) % (40 : Int), x_25.2.2.2.1 + 1))))))))))) (join (F) (fun (x_27 : Int × Int) => chk (InR ((4 : Int) * x_27.1)) (chk (InR (x_25.2.1 + (4 : Int) * x_27.1)) (chk (List.length x_25.2.2.2.2 + [Point.mk (260 : Int) (x_25.2.1 + (4 : Int) * x_27.1)].length ≤ (1000000000 : Nat)) (chk (List.length x_16.2.1 + [Member.mk x_20 (x_25.2.2.2.2 ++ [Point.mk (260 : Int) (x_25.2.1 + (4 : Int) * x_27.1)]) ((10 : Int) + (2 : Int) * x_21.1) ((3 : Int) * x_22.1) ((5 : Int) * x_23.1)].length ≤ (1000000000 : Nat)) (chk (InR (x_16.1 + 1)) (x_17 ((x_16.1 + 1, x_16.2.1 ++ [Member.mk x_20 (x_25.2.2.2.2 ++ [Point.mk (260 : Int) (x_25.2.1 + (4 : Int) * x_27.1)]) ((10 : Int) + (2 : Int) * x_21.1) ((3 : Int) * x_22.1) ((5 : Int) * x_23.1)], x_27.2)))))))) (fun x_27 => brk (decide (x_25.2.2.2.1 ≥ (↑a0.length : Int))) (x_27 (((0 : Int), x_25.2.2.2.1))) (chk (InR (x_25.2.2.2.1 + 1)) (chk (InR (x_25.2.2.2.1 + (1 : Int) - (1 : Int))) (chk (0 ≤ x_25.2.2.2.1 + (1 : Int) - (1 : Int) ∧ x_25.2.2.2.1 + (1 : Int) - (1 : Int) < (↑a0.length : Int)) (chk (InR (a0.getD (x_25.2.2.2.1 + (1 : Int) - (1 : Int)).toNat (0 : Int))) (chk (0 ≤ a0.getD (x_25.2.2.2.1 + (1 : Int) - (1 : Int)).toNat (0 : Int) ∧ a0.getD (x_25.2.2.2.1 + (1 : Int) - (1 : Int)).toNat 0 ≤ (9223372036854775807 : Int)) (x_27 ((a0.getD (x_25.2.2.2.1 + (1 : Int) - (1 : Int)).toNat (0 : Int) % (256 : Int), x_25.2.2.2.1 + 1))))))))))) (F) (((0 : Int), (0 : Int), (0 : Int), x_24.2, [Point.mk (0 : Int) (0 : Int)]))) (fun x_24 => brk (decide (x_23.2 ≥ (↑a0.length : Int))) (x_24 (((0 : Int), x_23.2))) (chk (InR (x_23.2 + 1)) (chk (InR (x_23.2 + (1 : Int) - (1 : Int))) (chk (0 ≤ x_23.2 + (1 : Int) - (1 : Int) ∧ x_23.2 + (1 : Int) - (1 : Int) < (↑a0.length : Int)) (chk (InR (a0.getD (x_23.2 + (1 : Int) - (1 : Int)).toNat (0 : Int))) (chk (0 ≤ a0.getD (x_23.2 + (1 : Int) - (1 : Int)).toNat (0 : Int) ∧ a0.getD (x_23.2 + (1 : Int) - (1 : Int)).toNat 0 ≤ (9223372036854775807 : Int)) (x_24 ((a0.getD (x_23.2 + (1 : Int) - (1 : Int)).toNat (0 : Int) % (4 : Int), x_23.2 + 1))))))))))) (fun x_23 => brk (decide (x_22.2 ≥ (↑a0.length : Int))) (x_23 (((0 : Int), x_22.2))) (chk (InR (x_22.2 + 1)) (chk (InR (x_22.2 + (1 : Int) - (1 : Int))) (chk (0 ≤ x_22.2 + (1 : Int) - (1 : Int) ∧ x_22.2 + (1 : Int) - (1 : Int) < (↑a0.length : Int)) (chk (InR (a0.getD (x_22.2 + (1 : Int) - (1 : Int)).toNat (0 : Int))) (chk (0 ≤ a0.getD (x_22.2 + (1 : Int) - (1 : Int)).toNat (0 : Int) ∧ a0.getD (x_22.2 + (1 : Int) - (1 : Int)).toNat 0 ≤ (9223372036854775807 : Int)) (x_23 ((a0.getD (x_22.2 + (1 : Int) - (1 : Int)).toNat (0 : Int) % (200 : Int), x_22.2 + 1))))))))))) (fun x_22 => brk (decide (x_21.2 ≥ (↑a0.length : Int))) (x_22 (((0 : Int), x_21.2))) (chk (InR (x_21.2 + 1)) (chk (InR (x_21.2 + (1 : Int) - (1 : Int))) (chk (0 ≤ x_21.2 + (1 : Int) - (1 : Int) ∧ x_21.2 + (1 : Int) - (1 : Int) < (↑a0.length : Int)) (chk (InR (a0.getD (x_21.2 + (1 : Int) - (1 : Int)).toNat (0 : Int))) (chk (0 ≤ a0.getD (x_21.2 + (1 : Int) - (1 : Int)).toNat (0 : Int) ∧ a0.getD (x_21.2 + (1 : Int) - (1 : Int)).toNat 0 ≤ (9223372036854775807 : Int)) (x_22 ((a0.getD (x_21.2 + (1 : Int) - (1 : Int)).toNat (0 : Int) % (60 : Int), x_21.2 + 1)))))))))))) (fun x_21 => brk (decide (x_18.2.2 ≥ (↑a0.length : Int))) (x_21 (((0 : Int), x_18.2.2))) (chk (InR (x_18.2.2 + 1)) (chk (InR (x_18.2.2 + (1 : Int) - (1 : Int))) (chk (0 ≤ x_18.2.2 + (1 : Int) - (1 : Int) ∧ x_18.2.2 + (1 : Int) - (1 : Int) < (↑a0.length : Int)) (chk (InR (a0.getD (x_18.2.2 + (1 : Int) - (1 : Int)).toNat (0 : Int))) (chk (0 ≤ a0.getD (x_18.2.2 + (1 : Int) - (1 : Int)).toNat (0 : Int) ∧ a0.getD (x_18.2.2 + (1 : Int) - (1 : Int)).toNat 0 ≤ (9223372036854775807 : Int)) (x_21 ((a0.getD (x_18.2.2 + (1 : Int) - (1 : Int)).toNat (0 : Int) % (240 : Int), x_18.2.2 + 1)))))))))))))))) (F) (([], (0 : Int), x_16.2.2))) (some (Convoy.mk (Member.mk x_8 (x_13.2.2.2.2 ++ [Point.mk (260 : Int) (x_13.2.1 + (4 : Int) * x_15.1)]) ((10 : Int) + (2 : Int) * x_9.1) ((3 : Int) * x_10.1) ((5 : Int) * x_11.1)) x_16.2.1 ((3 : Int) * x.1) (Numbers.mk (if (2 : Int) * x_1.1 / IntKind.i64.wrap ((1 : Int) + (0 : Int)) < 1440 then (2 : Int) * x_1.1 / IntKind.i64.wrap ((1 : Int) + (0 : Int)) else (1440 : Int)) (if (2 : Int) * x_2.1 / IntKind.i64.wrap ((1 : Int) + IntKind.i64.wrap ((0 : Int) + (1 : Int))) < if (2 : Int) * x_1.1 / IntKind.i64.wrap ((1 : Int) + (0 : Int)) < 1440 then (2 : Int) * x_1.1 / IntKind.i64.wrap ((1 : Int) + (0 : Int)) else (1440 : Int) then (2 : Int) * x_2.1 / IntKind.i64.wrap ((1 : Int) + IntKind.i64.wrap ((0 : Int) + (1 : Int))) else if (2 : Int) * x_1.1 / IntKind.i64.wrap ((1 : Int) + (0 : Int)) < 1440 then (2 : Int) * x_1.1 / IntKind.i64.wrap ((1 : Int) + (0 : Int)) else (1440 : Int)) (if (2 : Int) * x_3.1 / IntKind.i64.wrap ((1 : Int) + IntKind.i64.wrap (IntKind.i64.wrap ((0 : Int) + (1 : Int)) + 1)) < if (2 : Int) * x_2.1 / IntKind.i64.wrap ((1 : Int) + IntKind.i64.wrap ((0 : Int) + (1 : Int))) < if (2 : Int) * x_1.1 / IntKind.i64.wrap ((1 : Int) + (0 : Int)) < 1440 then (2 : Int) * x_1.1 / IntKind.i64.wrap ((1 : Int) + (0 : Int)) else (1440 : Int) then (2 : Int) * x_2.1 / IntKind.i64.wrap ((1 : Int) + IntKind.i64.wrap ((0 : Int) + (1 : Int))) else if (2 : Int) * x_1.1 / IntKind.i64.wrap ((1 : Int) + (0 : Int)) < 1440 then (2 : Int) * x_1.1 / IntKind.i64.wrap ((1 : Int) + (0 : Int)) else (1440 : Int) then (2 : Int) * x_3.1 / IntKind.i64.wrap ((1 : Int) + IntKind.i64.wrap (IntKind.i64.wrap ((0 : Int) + (1 : Int)) + 1)) else if (2 : Int) * x_2.1 / IntKind.i64.wrap ((1 : Int) + IntKind.i64.wrap ((0 : Int) + (1 : Int))) < if (2 : Int) * x_1.1 / IntKind.i64.wrap ((1 : Int) + (0 : Int)) < 1440 then (2 : Int) * x_1.1 / IntKind.i64.wrap ((1 : Int) + (0 : Int)) else (1440 : Int) then (2 : Int) * x_2.1 / IntKind.i64.wrap ((1 : Int) + IntKind.i64.wrap ((0 : Int) + (1 : Int))) else if (2 : Int) * x_1.1 / IntKind.i64.wrap ((1 : Int) + (0 : Int)) < 1440 then (2 : Int) * x_1.1 / IntKind.i64.wrap ((1 : Int) + (0 : Int)) else (1440 : Int)) (if (2 : Int) * x_4.1 / IntKind.i64.wrap ((1 : Int) + IntKind.i64.wrap (IntKind.i64.wrap (IntKind.i64.wrap ((0 : Int) + (1 : Int)) + 1) + 1)) < if (2 : Int) * x_3.1 / IntKind.i64.wrap ((1 : Int) + IntKind.i64.wrap (IntKind.i64.wrap ((0 : Int) + (1 : Int)) + 1)) < if (2 : Int) * x_2.1 / IntKind.i64.wrap ((1 : Int) + IntKind.i64.wrap ((0 : Int) + (1 : Int))) < if (2 : Int) * x_1.1 / IntKind.i64.wrap ((1 : Int) + (0 : Int)) < 1440 then (2 : Int) * x_1.1 / IntKind.i64.wrap ((1 : Int) + (0 : Int)) else (1440 : Int) then (2 : Int) * x_2.1 / IntKind.i64.wrap ((1 : Int) + IntKind.i64.wrap ((0 : Int) + (1 : Int))) else if (2 : Int) * x_1.1 / IntKind.i64.wrap ((1 : Int) + (0 : Int)) < 1440 then (2 : Int) * x_1.1 / IntKind.i64.wrap ((1 : Int) + (0 : Int)) else (1440 : Int) then (2 : Int) * x_3.1 / IntKind.i64.wrap ((1 : Int) + IntKind.i64.wrap (IntKind.i64.wrap ((0 : Int) + (1 : Int)) + 1)) else if (2 : Int) * x_2.1 / IntKind.i64.wrap ((1 : Int) + IntKind.i64.wrap ((0 : Int) + (1 : Int))) < if (2 : Int) * x_1.1 / IntKind.i64.wrap ((1 : Int) + (0 : Int)) < 1440 then (2 : Int) * x_1.1 / IntKind.i64.wrap ((1 : Int) + (0 : Int)) else (1440 : Int) then (2 : Int) * x_2.1 / IntKind.i64.wrap ((1 : Int) + IntKind.i64.wrap ((0 : Int) + (1 : Int))) else if (2 : Int) * x_1.1 / IntKind.i64.wrap ((1 : Int) + (0 : Int)) < 1440 then (2 : Int) * x_1.1 / IntKind.i64.wrap ((1 : Int) + (0 : Int)) else (1440 : Int) then (2 : Int) * x_4.1 / IntKind.i64.wrap ((1 : Int) + IntKind.i64.wrap (IntKind.i64.wrap (IntKind.i64.wrap ((0 : Int) + (1 : Int)) + 1) + 1)) else if (2 : Int) * x_3.1 / IntKind.i64.wrap ((1 : Int) + IntKind.i64.wrap (IntKind.i64.wrap ((0 : Int) + (1 : Int)) + 1)) < if (2 : Int) * x_2.1 / IntKind.i64.wrap ((1 : Int) + IntKind.i64.wrap ((0 : Int) + (1 : Int))) < if (2 : Int) * x_1.1 / IntKind.i64.wrap ((1 : Int) + (0 : Int)) < 1440 then (2 : Int) * x_1.1 / IntKind.i64.wrap ((1 : Int) + (0 : Int)) else (1440 : Int) then (2 : Int) * x_2.1 / IntKind.i64.wrap ((1 : Int) + IntKind.i64.wrap ((0 : Int) + (1 : Int))) else if (2 : Int) * x_1.1 / IntKind.i64.wrap ((1 : Int) + (0 : Int)) < 1440 then (2 : Int) * x_1.1 / IntKind.i64.wrap ((1 : Int) + (0 : Int)) else (1440 : Int) then (2 : Int) * x_3.1 / IntKind.i64.wrap ((1 : Int) + IntKind.i64.wrap (IntKind.i64.wrap ((0 : Int) + (1 : Int)) + 1)) else if (2 : Int) * x_2.1 / IntKind.i64.wrap ((1 : Int) + IntKind.i64.wrap ((0 : Int) + (1 : Int))) < if (2 : Int) * x_1.1 / IntKind.i64.wrap ((1 : Int) + (0 : Int)) < 1440 then (2 : Int) * x_1.1 / IntKind.i64.wrap ((1 : Int) + (0 : Int)) else (1440 : Int) then (2 : Int) * x_2.1 / IntKind.i64.wrap ((1 : Int) + IntKind.i64.wrap ((0 : Int) + (1 : Int))) else if (2 : Int) * x_1.1 / IntKind.i64.wrap ((1 : Int) + (0 : Int)) < 1440 then (2 : Int) * x_1.1 / IntKind.i64.wrap ((1 : Int) + (0 : Int)) else (1440 : Int)))))) (F) (((0 : Int), [], x_15.2)))))) (fun x_15 => brk (decide (x_13.2.2.2.1 ≥ (↑a0.length : Int))) (x_15 (((0 : Int), x_13.2.2.2.1))) (chk (InR (x_13.2.2.2.1 + 1)) (chk (InR (x_13.2.2.2.1 + (1 : Int) - (1 : Int))) (chk (0 ≤ x_13.2.2.2.1 + (1 : Int) - (1 : Int) ∧ x_13.2.2.2.1 + (1 : Int) - (1 : Int) < (↑a0.length : Int)) (chk (InR (a0.getD (x_13.2.2.2.1 + (1 : Int) - (1 : Int)).toNat (0 : Int))) (chk (0 ≤ a0.getD (x_13.2.2.2.1 + (1 : Int) - (1 : Int)).toNat (0 : Int) ∧ a0.getD (x_13.2.2.2.1 + (1 : Int) - (1 : Int)).toNat 0 ≤ (9223372036854775807 : Int)) (x_15 ((a0.getD (x_13.2.2.2.1 + (1 : Int) - (1 : Int)).toNat (0 : Int) % (256 : Int), x_13.2.2.2.1 + 1))))))))))) (F) (((0 : Int), (0 : Int), (0 : Int), x_12.2, [Point.mk (0 : Int) (0 : Int)]))) (fun x_12 => brk (decide (x_11.2 ≥ (↑a0.length : Int))) (x_12 (((0 : Int), x_11.2))) (chk (InR (x_11.2 + 1)) (chk (InR (x_11.2 + (1 : Int) - (1 : Int))) (chk (0 ≤ x_11.2 + (1 : Int) - (1 : Int) ∧ x_11.2 + (1 : Int) - (1 : Int) < (↑a0.length : Int)) (chk (InR (a0.getD (x_11.2 + (1 : Int) - (1 : Int)).toNat (0 : Int))) (chk (0 ≤ a0.getD (x_11.2 + (1 : Int) - (1 : Int)).toNat (0 : Int) ∧ a0.getD (x_11.2 + (1 : Int) - (1 : Int)).toNat 0 ≤ (9223372036854775807 : Int)) (x_12 ((a0.getD (x_11.2 + (1 : Int) - (1 : Int)).toNat (0 : Int) % (4 : Int), x_11.2 + 1))))))))))) (fun x_11 => brk (decide (x_10.2 ≥ (↑a0.length : Int))) (x_11 (((0 : Int), x_10.2))) (chk (InR (x_10.2 + 1)) (chk (InR (x_10.2 + (1 : Int) - (1 : Int))) (chk (0 ≤ x_10.2 + (1 : Int) - (1 : Int) ∧ x_10.2 + (1 : Int) - (1 : Int) < (↑a0.length : Int)) (chk (InR (a0.getD (x_10.2 + (1 : Int) - (1 : Int)).toNat (0 : Int))) (chk (0 ≤ a0.getD (x_10.2 + (1 : Int) - (1 : Int)).toNat (0 : Int) ∧ a0.getD (x_10.2 + (1 : Int) - (1 : Int)).toNat 0 ≤ (9223372036854775807 : Int)) (x_11 ((a0.getD (x_10.2 + (1 : Int) - (1 : Int)).toNat (0 : Int) % (200 : Int), x_10.2 + 1))))))))))) (fun x_10 => brk (decide (x_9.2 ≥ (↑a0.length : Int))) (x_10 (((0 : Int), x_9.2))) (chk (InR (x_9.2 + 1)) (chk (InR (x_9.2 + (1 : Int) - (1 : Int))) (chk (0 ≤ x_9.2 + (1 : Int) - (1 : Int) ∧ x_9.2 + (1 : Int) - (1 : Int) < (↑a0.length : Int)) (chk (InR (a0.getD (x_9.2 + (1 : Int) - (1 : Int)).toNat (0 : Int))) (chk (0 ≤ a0.getD (x_9.2 + (1 : Int) - (1 : Int)).toNat (0 : Int) ∧ a0.getD (x_9.2 + (1 : Int) - (1 : Int)).toNat 0 ≤ (9223372036854775807 : Int)) (x_10 ((a0.getD (x_9.2 + (1 : Int) - (1 : Int)).toNat (0 : Int) % (60 : Int), x_9.2 + 1)))))))))))) (fun x_9 => brk (decide (x_6.2.2 ≥ (↑a0.length : Int))) (x_9 (((0 : Int), x_6.2.2))) (chk (InR (x_6.2.2 + 1)) (chk (InR (x_6.2.2 + (1 : Int) - (1 : Int))) (chk (0 ≤ x_6.2.2 + (1 : Int) - (1 : Int) ∧ x_6.2.2 + (1 : Int) - (1 : Int) < (↑a0.length : Int)) (chk (InR (a0.getD (x_6.2.2 + (1 : Int) - (1 : Int)).toNat (0 : Int))) (chk (0 ≤ a0.getD (x_6.2.2 + (1 : Int) - (1 : Int)).toNat (0 : Int) ∧ a0.getD (x_6.2.2 + (1 : Int) - (1 : Int)).toNat 0 ≤ (9223372036854775807 : Int)) (x_9 ((a0.getD (x_6.2.2 + (1 : Int) - (1 : Int)).toNat (0 : Int) % (240 : Int), x_6.2.2 + 1)))))))))))))))) (F) (([], (0 : Int), x_5.2))) (fun x_5 => brk (decide (x_4.2 ≥ (↑a0.length : Int))) (x_5 (((0 : Int), x_4.2))) (chk (InR (x_4.2 + 1)) (chk (InR (x_4.2 + (1 : Int) - (1 : Int))) (chk (0 ≤ x_4.2 + (1 : Int) - (1 : Int) ∧ x_4.2 + (1 : Int) - (1 : Int) < (↑a0.length : Int)) (chk (InR (a0.getD (x_4.2 + (1 : Int) - (1 : Int)).toNat (0 : Int))) (chk ((0 ≤ a0.getD (x_4.2 + (1 : Int) - (1 : Int)).toNat (0 : Int) ∧ a0.getD (x_4.2 + (1 : Int) - (1 : Int)).toNat 0 ≤ (9223372036854775807 : Int)) ∧ (0 : Int) < a1 + 1) (x_5 ((a0.getD (x_4.2 + (1 : Int) - (1 : Int)).toNat (0 : Int) % (a1 + 1), x_4.2 + 1))))))))))))) (fun x_4 => brk (decide (x_3.2 ≥ (↑a0.length : Int))) (x_4 (((0 : Int), x_3.2))) (chk (InR (x_3.2 + 1)) (chk (InR (x_3.2 + (1 : Int) - (1 : Int))) (chk (0 ≤ x_3.2 + (1 : Int) - (1 : Int) ∧ x_3.2 + (1 : Int) - (1 : Int) < (↑a0.length : Int)) (chk (InR (a0.getD (x_3.2 + (1 : Int) - (1 : Int)).toNat (0 : Int))) (chk (0 ≤ a0.getD (x_3.2 + (1 : Int) - (1 : Int)).toNat (0 : Int) ∧ a0.getD (x_3.2 + (1 : Int) - (1 : Int)).toNat 0 ≤ (9223372036854775807 : Int)) (x_4 ((a0.getD (x_3.2 + (1 : Int) - (1 : Int)).toNat (0 : Int) % (256 : Int), x_3.2 + 1)))))))))))) (fun x_3 => brk (decide (x_2.2 ≥ (↑a0.length : Int))) (x_3 (((0 : Int), x_2.2))) (chk (InR (x_2.2 + 1)) (chk (InR (x_2.2 + (1 : Int) - (1 : Int))) (chk (0 ≤ x_2.2 + (1 : Int) - (1 : Int) ∧ x_2.2 + (1 : Int) - (1 : Int) < (↑a0.length : Int)) (chk (InR (a0.getD (x_2.2 + (1 : Int) - (1 : Int)).toNat (0 : Int))) (chk (0 ≤ a0.getD (x_2.2 + (1 : Int) - (1 : Int)).toNat (0 : Int) ∧ a0.getD (x_2.2 + (1 : Int) - (1 : Int)).toNat 0 ≤ (9223372036854775807 : Int)) (x_3 ((a0.getD (x_2.2 + (1 : Int) - (1 : Int)).toNat (0 : Int) % (256 : Int), x_2.2 + 1)))))))))))) (fun x_2 => brk (decide (x_1.2 ≥ (↑a0.length : Int))) (x_2 (((0 : Int), x_1.2))) (chk (InR (x_1.2 + 1)) (chk (InR (x_1.2 + (1 : Int) - (1 : Int))) (chk (0 ≤ x_1.2 + (1 : Int) - (1 : Int) ∧ x_1.2 + (1 : Int) - (1 : Int) < (↑a0.length : Int)) (chk (InR (a0.getD (x_1.2 + (1 : Int) - (1 : Int)).toNat (0 : Int))) (chk (0 ≤ a0.getD (x_1.2 + (1 : Int) - (1 : Int)).toNat (0 : Int) ∧ a0.getD (x_1.2 + (1 : Int) - (1 : Int)).toNat 0 ≤ (9223372036854775807 : Int)) (x_2 ((a0.getD (x_1.2 + (1 : Int) - (1 : Int)).toNat (0 : Int) % (256 : Int), x_1.2 + 1)))))))))))) (fun x_1 => brk (decide (x.2 ≥ (↑a0.length : Int))) (x_1 (((0 : Int), x.2))) (chk (InR (x.2 + 1)) (chk (InR (x.2 + (1 : Int) - (1 : Int))) (chk (0 ≤ x.2 + (1 : Int) - (1 : Int) ∧ x.2 + (1 : Int) - (1 : Int) < (↑a0.length : Int)) (chk (InR (a0.getD (x.2 + (1 : Int) - (1 : Int)).toNat (0 : Int))) (chk (0 ≤ a0.getD (x.2 + (1 : Int) - (1 : Int)).toNat (0 : Int) ∧ a0.getD (x.2 + (1 : Int) - (1 : Int)).toNat 0 ≤ (9223372036854775807 : Int)) (x_1 ((a0.getD (x.2 + (1 : Int) - (1 : Int)).toNat (0 : Int) % (256 : Int), x.2 + 1))))))))))) (fun x => brk (decide ((0 : Int) ≥ (↑a0.length : Int))) (x (((0 : Int), (0 : Int)))) (chk ((0 : Int) ≤ IntKind.i64.wrap (IntKind.i64.wrap ((0 : Int) + (1 : Int)) - 1) ∧ IntKind.i64.wrap (IntKind.i64.wrap ((0 : Int) + (1 : Int)) - 1) < (↑a0.length : Int)) (chk (InR (a0.getD (IntKind.i64.wrap (IntKind.i64.wrap ((0 : Int) + (1 : Int)) - 1)).toNat (0 : Int))) (chk (0 ≤ a0.getD (IntKind.i64.wrap (IntKind.i64.wrap ((0 : Int) + (1 : Int)) - 1)).toNat (0 : Int) ∧ a0.getD (IntKind.i64.wrap (IntKind.i64.wrap ((0 : Int) + (1 : Int)) - 1)).toNat 0 ≤ (9223372036854775807 : Int)) (x ((a0.getD (IntKind.i64.wrap (IntKind.i64.wrap ((0 : Int) + (1 : Int)) - 1)).toNat (0 : Int) % (80 : Int), IntKind.i64.wrap ((0 : Int) + (1 : Int)))))))))
def s4 (F : Nat) : CS E.G := ⟨4, [.sl 2, .v 0 false], [.v 13 true [55, 55, 55, 55, 27]], fun x => law05_Made F x.1 x.2.1⟩
theorem c4 (F : Nat) : CSok E gl (s4 F) := mkC (cx := ⟨[s15 F], [(7, Tryz.f7), (24, Tryz.f24), (14, Tryz.f14)], F, [], []⟩) hf4 (by kernel_rfl) rfl (allC (c15 F) all0) ⟨(inlC hf7 en7 (inlC hf24 en24 (inlC hf14 en14 inl0))), all0⟩ (.p (.w ⟨[.i, .i], [], [0, 1, 3, 4], [(0, .i IntKind.i64)], [], [(4, 0, .i IntKind.i64)], [], 6⟩ .n (.u 5 (.w ⟨[.i, .i], [], [0, 1, 3, 4], [(0, .i IntKind.i64)], [], [(4, 0, .i IntKind.i64)], [], 7⟩ .n (.w ⟨[.i, .i], [], [0, 1, 3, 4], [(0, .i IntKind.i64)], [], [(4, 0, .i IntKind.i64)], [], 7⟩ .n (.w ⟨[.i, .i], [], [0, 1, 3, 4], [(0, .i IntKind.i64)], [], [(4, 0, .i IntKind.i64)], [], 7⟩ .n (.w ⟨[.i, .i], [], [0, 1, 3, 4], [(0, .i IntKind.i64)], [], [(4, 0, .i IntKind.i64)], [], 7⟩ .n (.w ⟨[.i, .i], [], [0, 1, 3, 4], [(0, .i IntKind.i64)], [], [(4, 0, .i IntKind.i64)], [], 7⟩ .n (.p (.l ⟨[.l 2, .i, .i], [0, 16], [0, 1, 3, 5, 4, 7], [(32, .h 8 5 2), (96, .i IntKind.i64)], [], [(4, 0, .i IntKind.i64)], [], 9⟩ (.c (.w ⟨[.i, .i], [], [0, 1, 3, 4], [(0, .i IntKind.i64)], [], [(4, 0, .i IntKind.i64)], [], 9⟩ .n .n) (.w ⟨[.i, .i], [], [0, 1, 3, 4], [(0, .i IntKind.i64)], [], [(4, 0, .i IntKind.i64)], [], 12⟩ .n (.w ⟨[.i, .i], [], [0, 1, 3, 4], [(0, .i IntKind.i64)], [], [(4, 0, .i IntKind.i64)], [], 12⟩ .n (.w ⟨[.i, .i], [], [0, 1, 3, 4], [(0, .i IntKind.i64)], [], [(4, 0, .i IntKind.i64)], [], 12⟩ .n (.w ⟨[.i, .i], [], [0, 1, 3, 4], [(0, .i IntKind.i64)], [], [(4, 0, .i IntKind.i64)], [], 14⟩ .n (.l ⟨[.i, .i, .i, .i, .l 7], [0, 16, 672, 48], [0, 1, 3, 5, 4, 7, 12, 11, 10, 9], [(64, .i IntKind.i64), (80, .i IntKind.i64), (688, .i IntKind.i64)], [], [(4, 0, .i IntKind.i64), (12, 11, .h 14 55 7)], [], 15⟩ (.c (.w ⟨[.i, .i], [], [0, 1, 3, 4], [(0, .i IntKind.i64)], [], [(4, 0, .i IntKind.i64)], [], 15⟩ .n (.w ⟨[.i, .i], [], [0, 1, 3, 4], [(0, .i IntKind.i64)], [], [(4, 0, .i IntKind.i64)], [], 15⟩ .n .n)) (.w ⟨[.i, .i], [], [0, 1, 3, 4], [(0, .i IntKind.i64)], [], [(4, 0, .i IntKind.i64)], [], 15⟩ .n (.l ⟨[.i, .l 10, .i], [64, 704, 96, 112], [0, 2, 5, 6, 4, 3, 16, 11, 10, 9, 1], [(720, .i IntKind.i64)], [], [(6, 15, .h 17 27 10), (4, 0, .i IntKind.i64)], [], 18⟩ (.c (.p (.l ⟨[.l 2, .i, .i], [0, 16], [0, 1, 3, 5, 4, 18], [(32, .h 19 5 2), (96, .i IntKind.i64)], [], [(4, 0, .i IntKind.i64)], [], 20⟩ (.c (.w ⟨[.i, .i], [], [0, 1, 3, 4], [(0, .i IntKind.i64)], [], [(4, 0, .i IntKind.i64)], [], 20⟩ .n .n) (.w ⟨[.i, .i], [], [0, 1, 3, 4], [(0, .i IntKind.i64)], [], [(4, 0, .i IntKind.i64)], [], 23⟩ .n (.w ⟨[.i, .i], [], [0, 1, 3, 4], [(0, .i IntKind.i64)], [], [(4, 0, .i IntKind.i64)], [], 23⟩ .n (.w ⟨[.i, .i], [], [0, 1, 3, 4], [(0, .i IntKind.i64)], [], [(4, 0, .i IntKind.i64)], [], 23⟩ .n (.w ⟨[.i, .i], [], [0, 1, 3, 4], [(0, .i IntKind.i64)], [], [(4, 0, .i IntKind.i64)], [], 25⟩ .n (.l ⟨[.i, .i, .i, .i, .l 7], [0, 16, 672, 48], [0, 1, 3, 5, 4, 18, 23, 22, 21, 20], [(64, .i IntKind.i64), (80, .i IntKind.i64), (688, .i IntKind.i64)], [], [(4, 0, .i IntKind.i64), (23, 11, .h 25 55 7)], [], 26⟩ (.c (.w ⟨[.i, .i], [], [0, 1, 3, 4], [(0, .i IntKind.i64)], [], [(4, 0, .i IntKind.i64)], [], 26⟩ .n (.w ⟨[.i, .i], [], [0, 1, 3, 4], [(0, .i IntKind.i64)], [], [(4, 0, .i IntKind.i64)], [], 26⟩ .n .n)) (.w ⟨[.i, .i], [], [0, 1, 3, 4], [(0, .i IntKind.i64)], [], [(4, 0, .i IntKind.i64)], [], 26⟩ .n .n)))))))))) .n)))))))))))))))))))) rfl (by kernel_rfl)
theorem hf16 : HF 16 Tryz.f16 := hK (by kernel_rfl)
theorem en16 : Proofs.Enters Tryz.prog 16 := mkE hf16 (by kernel_rfl) rfl
theorem hf5 : HF 5 Tryz.f5 := hK (by kernel_rfl)
def law03_Frozen (F : Nat) (a0 : List Int) : Option (Cell) :=
 join (F) (fun (x : Int × Int) => chk (InR ((1 : Int) * x.1)) (chk (InR ((0 : Int) + (1 : Int) * x.1)) (join (F) (fun (x_1 : Int × Int) => chk (InR ((0 : Int) + (1 : Int) * x.1 + x_1.1)) (join (F) (fun (x_2 : Int × Int) => chk (InR ((2 : Int) * x_2.1)) (chk (InR ((0 : Int) + (2 : Int) * x_2.1)) (join (F) (fun (x_3 : Int × Int) => chk (InR ((0 : Int) + (2 : Int) * x_2.1 + x_3.1)) (join (F) (fun (x_4 : Int × Int) => chk (InR ((1 : Int) * x_4.1)) (chk (InR ((0 : Int) + (1 : Int) * x_4.1)) (join (F) (fun (x_5 : Int × Int) => chk (InR ((0 : Int) + (1 : Int) * x_4.1 + x_5.1)) (join (F) (fun (x_6 : Int × Int) => chk (InR ((1 : Int) * x_6.1)) (chk (InR ((0 : Int) + (1 : Int) * x_6.1)) (join (F) (fun (x_7 : Int × Int) => chk (InR ((0 : Int) + (1 : Int) * x_6.1 + x_7.1)) (some (Cell.mk (Span.mk ((0 : Int) + (1 : Int) * x.1) (if (0 : Int) + (1 : Int) * x.1 + x_1.1 < 100 then (0 : Int) + (1 : Int) * x.1 + x_1.1 else (100 : Int))) (Span.mk ((0 : Int) + (2 : Int) * x_2.1) (if (0 : Int) + (2 : Int) * x_2.1 + x_3.1 < 400 then (0 : Int) + (2 : Int) * x_2.1 + x_3.1 else (400 : Int))) (Span.mk ((0 : Int) + (1 : Int) * x_4.1) (if (0 : Int) + (1 : Int) * x_4.1 + x_5.1 < 100 then (0 : Int) + (1 : Int) * x_4.1 + x_5.1 else (100 : Int))) (Span.mk ((0 : Int) + (1 : Int) * x_6.1) (if (0 : Int) + (1 : Int) * x_6.1 + x_7.1 < 3 then (0 : Int) + (1 : Int) * x_6.1 + x_7.1 else (3 : Int)))))) (fun x_7 => brk (decide (x_6.2 ≥ (↑a0.length : Int))) (x_7 (((0 : Int), x_6.2))) (chk (InR (x_6.2 + 1)) (chk (InR (x_6.2 + (1 : Int) - (1 : Int))) (chk (0 ≤ x_6.2 + (1 : Int) - (1 : Int) ∧ x_6.2 + (1 : Int) - (1 : Int) < (↑a0.length : Int)) (chk (InR (a0.getD (x_6.2 + (1 : Int) - (1 : Int)).toNat (0 : Int))) (chk (0 ≤ a0.getD (x_6.2 + (1 : Int) - (1 : Int)).toNat (0 : Int) ∧ a0.getD (x_6.2 + (1 : Int) - (1 : Int)).toNat 0 ≤ (9223372036854775807 : Int)) (x_7 ((a0.getD (x_6.2 + (1 : Int) - (1 : Int)).toNat (0 : Int) % (4 : Int), x_6.2 + 1)))))))))))) (fun x_6 => brk (decide (x_5.2 ≥ (↑a0.length : Int))) (x_6 (((0 : Int), x_5.2))) (chk (InR (x_5.2 + 1)) (chk (InR (x_5.2 + (1 : Int) - (1 : Int))) (chk (0 ≤ x_5.2 + (1 : Int) - (1 : Int) ∧ x_5.2 + (1 : Int) - (1 : Int) < (↑a0.length : Int)) (chk (InR (a0.getD (x_5.2 + (1 : Int) - (1 : Int)).toNat (0 : Int))) (chk (0 ≤ a0.getD (x_5.2 + (1 : Int) - (1 : Int)).toNat (0 : Int) ∧ a0.getD (x_5.2 + (1 : Int) - (1 : Int)).toNat 0 ≤ (9223372036854775807 : Int)) (x_6 ((a0.getD (x_5.2 + (1 : Int) - (1 : Int)).toNat (0 : Int) % IntKind.i64.wrap (IntKind.i64.wrap (IntKind.i64.wrap (Int.tdiv (3 : Int) (1 : Int)) + 1) - IntKind.i64.wrap (Int.tdiv (0 : Int) (1 : Int))), x_5.2 + 1))))))))))) (fun x_5 => brk (decide (x_4.2 ≥ (↑a0.length : Int))) (x_5 (((0 : Int), x_4.2))) (chk (InR (x_4.2 + 1)) (chk (InR (x_4.2 + (1 : Int) - (1 : Int))) (chk (0 ≤ x_4.2 + (1 : Int) - (1 : Int) ∧ x_4.2 + (1 : Int) - (1 : Int) < (↑a0.length : Int)) (chk (InR (a0.getD (x_4.2 + (1 : Int) - (1 : Int)).toNat (0 : Int))) (chk (0 ≤ a0.getD (x_4.2 + (1 : Int) - (1 : Int)).toNat (0 : Int) ∧ a0.getD (x_4.2 + (1 : Int) - (1 : Int)).toNat 0 ≤ (9223372036854775807 : Int)) (x_5 ((a0.getD (x_4.2 + (1 : Int) - (1 : Int)).toNat (0 : Int) % (20 : Int), x_4.2 + 1)))))))))))) (fun x_4 => brk (decide (x_3.2 ≥ (↑a0.length : Int))) (x_4 (((0 : Int), x_3.2))) (chk (InR (x_3.2 + 1)) (chk (InR (x_3.2 + (1 : Int) - (1 : Int))) (chk (0 ≤ x_3.2 + (1 : Int) - (1 : Int) ∧ x_3.2 + (1 : Int) - (1 : Int) < (↑a0.length : Int)) (chk (InR (a0.getD (x_3.2 + (1 : Int) - (1 : Int)).toNat (0 : Int))) (chk (0 ≤ a0.getD (x_3.2 + (1 : Int) - (1 : Int)).toNat (0 : Int) ∧ a0.getD (x_3.2 + (1 : Int) - (1 : Int)).toNat 0 ≤ (9223372036854775807 : Int)) (x_4 ((a0.getD (x_3.2 + (1 : Int) - (1 : Int)).toNat (0 : Int) % IntKind.i64.wrap (IntKind.i64.wrap (IntKind.i64.wrap (Int.tdiv (100 : Int) (1 : Int)) + 1) - IntKind.i64.wrap (Int.tdiv (0 : Int) (1 : Int))), x_3.2 + 1))))))))))) (fun x_3 => brk (decide (x_2.2 ≥ (↑a0.length : Int))) (x_3 (((0 : Int), x_2.2))) (chk (InR (x_2.2 + 1)) (chk (InR (x_2.2 + (1 : Int) - (1 : Int))) (chk (0 ≤ x_2.2 + (1 : Int) - (1 : Int) ∧ x_2.2 + (1 : Int) - (1 : Int) < (↑a0.length : Int)) (chk (InR (a0.getD (x_2.2 + (1 : Int) - (1 : Int)).toNat (0 : Int))) (chk (0 ≤ a0.getD (x_2.2 + (1 : Int) - (1 : Int)).toNat (0 : Int) ∧ a0.getD (x_2.2 + (1 : Int) - (1 : Int)).toNat 0 ≤ (9223372036854775807 : Int)) (x_3 ((a0.getD (x_2.2 + (1 : Int) - (1 : Int)).toNat (0 : Int) % (120 : Int), x_2.2 + 1)))))))))))) (fun x_2 => brk (decide (x_1.2 ≥ (↑a0.length : Int))) (x_2 (((0 : Int), x_1.2))) (chk (InR (x_1.2 + 1)) (chk (InR (x_1.2 + (1 : Int) - (1 : Int))) (chk (0 ≤ x_1.2 + (1 : Int) - (1 : Int) ∧ x_1.2 + (1 : Int) - (1 : Int) < (↑a0.length : Int)) (chk (InR (a0.getD (x_1.2 + (1 : Int) - (1 : Int)).toNat (0 : Int))) (chk (0 ≤ a0.getD (x_1.2 + (1 : Int) - (1 : Int)).toNat (0 : Int) ∧ a0.getD (x_1.2 + (1 : Int) - (1 : Int)).toNat 0 ≤ (9223372036854775807 : Int)) (x_2 ((a0.getD (x_1.2 + (1 : Int) - (1 : Int)).toNat (0 : Int) % IntKind.i64.wrap (IntKind.i64.wrap (IntKind.i64.wrap (Int.tdiv (400 : Int) (2 : Int)) + 1) - IntKind.i64.wrap (Int.tdiv (0 : Int) (2 : Int))), x_1.2 + 1))))))))))) (fun x_1 => brk (decide (x.2 ≥ (↑a0.length : Int))) (x_1 (((0 : Int), x.2))) (chk (InR (x.2 + 1)) (chk (InR (x.2 + (1 : Int) - (1 : Int))) (chk (0 ≤ x.2 + (1 : Int) - (1 : Int) ∧ x.2 + (1 : Int) - (1 : Int) < (↑a0.length : Int)) (chk (InR (a0.getD (x.2 + (1 : Int) - (1 : Int)).toNat (0 : Int))) (chk (0 ≤ a0.getD (x.2 + (1 : Int) - (1 : Int)).toNat (0 : Int) ∧ a0.getD (x.2 + (1 : Int) - (1 : Int)).toNat 0 ≤ (9223372036854775807 : Int)) (x_1 ((a0.getD (x.2 + (1 : Int) - (1 : Int)).toNat (0 : Int) % (40 : Int), x.2 + 1)))))))))))) (fun x => brk (decide ((0 : Int) ≥ (↑a0.length : Int))) (x (((0 : Int), (0 : Int)))) (chk ((0 : Int) ≤ IntKind.i64.wrap (IntKind.i64.wrap ((0 : Int) + (1 : Int)) - 1) ∧ IntKind.i64.wrap (IntKind.i64.wrap ((0 : Int) + (1 : Int)) - 1) < (↑a0.length : Int)) (chk (InR (a0.getD (IntKind.i64.wrap (IntKind.i64.wrap ((0 : Int) + (1 : Int)) - 1)).toNat (0 : Int))) (chk (0 ≤ a0.getD (IntKind.i64.wrap (IntKind.i64.wrap ((0 : Int) + (1 : Int)) - 1)).toNat (0 : Int) ∧ a0.getD (IntKind.i64.wrap (IntKind.i64.wrap ((0 : Int) + (1 : Int)) - 1)).toNat 0 ≤ (9223372036854775807 : Int)) (x ((a0.getD (IntKind.i64.wrap (IntKind.i64.wrap ((0 : Int) + (1 : Int)) - 1)).toNat (0 : Int) % IntKind.i64.wrap (IntKind.i64.wrap (IntKind.i64.wrap (Int.tdiv (100 : Int) (1 : Int)) + 1) - IntKind.i64.wrap (Int.tdiv (0 : Int) (1 : Int))), IntKind.i64.wrap ((0 : Int) + (1 : Int)))))))))
def s5 (F : Nat) : CS E.G := ⟨5, [.sl 2], [.v 15 true []], fun x => law03_Frozen F x.1⟩
theorem c5 (F : Nat) : CSok E gl (s5 F) := mkC (cx := ⟨[], [(7, Tryz.f7), (24, Tryz.f24), (16, Tryz.f16)], F, [], []⟩) hf5 (by kernel_rfl) rfl all0 ⟨(inlC hf7 en7 (inlC hf24 en24 (inlC hf16 en16 inl0))), all0⟩ (.p (.p (.w ⟨[.i, .i], [], [0, 1, 3, 4], [(0, .i IntKind.i64)], [], [(4, 0, .i IntKind.i64)], [], 7⟩ .n (.w ⟨[.i, .i], [], [0, 1, 3, 4], [(0, .i IntKind.i64)], [], [(4, 0, .i IntKind.i64)], [], 8⟩ .n (.p (.w ⟨[.i, .i], [], [0, 1, 3, 4], [(0, .i IntKind.i64)], [], [(4, 0, .i IntKind.i64)], [], 9⟩ .n (.w ⟨[.i, .i], [], [0, 1, 3, 4], [(0, .i IntKind.i64)], [], [(4, 0, .i IntKind.i64)], [], 10⟩ .n (.p (.w ⟨[.i, .i], [], [0, 1, 3, 4], [(0, .i IntKind.i64)], [], [(4, 0, .i IntKind.i64)], [], 11⟩ .n (.w ⟨[.i, .i], [], [0, 1, 3, 4], [(0, .i IntKind.i64)], [], [(4, 0, .i IntKind.i64)], [], 12⟩ .n (.p (.w ⟨[.i, .i], [], [0, 1, 3, 4], [(0, .i IntKind.i64)], [], [(4, 0, .i IntKind.i64)], [], 13⟩ .n (.w ⟨[.i, .i], [], [0, 1, 3, 4], [(0, .i IntKind.i64)], [], [(4, 0, .i IntKind.i64)], [], 14⟩ .n .n))))))))))))) rfl (by kernel_rfl)
theorem hf20 : HF 20 Tryz.f20 := hK (by kernel_rfl)
theorem en20 : Proofs.Enters Tryz.prog 20 := mkE hf20 (by kernel_rfl) rfl
theorem hf72 : HF 72 Tryz.f72 := hK (by kernel_rfl)
def hull_within (F : Nat) (a0 : Int) (a1 : Int) (a2 : Int) : Option (Bool) :=
 some (decide (a0 ≥ a1) && decide (a0 ≤ a2))
def s72 (F : Nat) : CS E.G := ⟨72, [.v 0 false, .v 0 false, .v 0 false], [.v 1 false []], fun x => hull_within F x.1 x.2.1 x.2.2.1⟩
theorem c72 (F : Nat) : CSok E gl (s72 F) := mkC (cx := ⟨[], [], F, [], []⟩) hf72 (by kernel_rfl) rfl all0 ⟨inl0, all0⟩ .n rfl (by kernel_rfl)
theorem hf71 : HF 71 Tryz.f71 := hK (by kernel_rfl)
def hull_curve (F : Nat) (a0 : List Point) : Option (Bool) :=
 bnd (hull_within F (↑a0.length : Int) 2 8) (fun x => chk ((!!x) = true → 0 ≤ (0 : Int) ∧ (0 : Int) < (↑a0.length : Int)) (brk (!x || (a0.getD (Int.toNat (0 : Int)) (Point.mk 0 0)).X != (0 : Int)) (some (false)) (loopC (fun (x_1 : Int) => fun x_2 => brk (decide (x_1 < (↑a0.length : Int))) (chk (0 ≤ x_1 ∧ x_1 < (↑a0.length : Int)) (bnd (hull_within F (a0.getD (Int.toNat x_1) (Point.mk 0 0)).X 0 400) (fun x_3 => bnd (brk (!!x_3) (hull_within F (a0.getD (Int.toNat x_1) (Point.mk 0 0)).Y 0 20000) (some false)) (fun x_4 => chk ((!(!x_3 || !x_4) && decide (x_1 > (0 : Int))) = true → InR (x_1 - 1)) (chk ((!(!x_3 || !x_4) && decide (x_1 > (0 : Int))) = true → 0 ≤ x_1 - 1 ∧ x_1 - 1 < (↑a0.length : Int)) (brk (!x_3 || !x_4 || decide (x_1 > (0 : Int)) && decide ((a0.getD (Int.toNat x_1) (Point.mk 0 0)).X ≤ (a0.getD (x_1 - 1).toNat (Point.mk 0 0)).X)) (some (false)) (chk (InR (x_1 + 1)) (x_2 (x_1 + 1))))))))) (some (true))) (F) ((0 : Int)))))
def s71 (F : Nat) : CS E.G := ⟨71, [.sl 7], [.v 1 false []], fun x => hull_curve F x.1⟩
theorem c71 (F : Nat) : CSok E gl (s71 F) := mkC (cx := ⟨[s72 F], [], F, [], []⟩) hf71 (by kernel_rfl) rfl (allC (c72 F) all0) ⟨inl0, all0⟩ (.c .n (.l ⟨[.i], [0, 256, 272], [0, 1], [(288, .i IntKind.i64)], [], [], [], 2⟩ (.c .n .n))) rfl (by kernel_rfl)
theorem hf73 : HF 73 Tryz.f73 := hK (by kernel_rfl)
def hull_lowest (F : Nat) (a0 : Int) (a1 : Int) : Option (Ratio) :=
 loopC (fun (x : Int × Int) => fun x_1 => brk (x.1 != (0 : Int)) (chk ((0 ≤ x.2 ∧ x.2 ≤ 9223372036854775807) ∧ (0 : Int) < x.1) (x_1 ((x.2 % x.1, x.1)))) (chk ((0 ≤ a0 ∧ a0 ≤ 9223372036854775807) ∧ (0 : Int) < x.2) (chk ((0 ≤ a1 ∧ a1 ≤ 9223372036854775807) ∧ (0 : Int) < x.2) (some (Ratio.mk (a0 / x.2) (a1 / x.2)))))) (F) ((a1, a0))
def s73 (F : Nat) : CS E.G := ⟨73, [.v 0 false, .v 0 false], [.v 19 true []], fun x => hull_lowest F x.1 x.2.1⟩
theorem c73 (F : Nat) : CSok E gl (s73 F) := mkC (cx := ⟨[], [], F, [], []⟩) hf73 (by kernel_rfl) rfl all0 ⟨inl0, all0⟩ (.l ⟨[.i, .i], [0, 16, 64], [0, 1], [(96, .i IntKind.i64), (80, .i IntKind.i64)], [], [], [], 2⟩ .n) rfl (by kernel_rfl)
theorem hf74 : HF 74 Tryz.f74 := hK (by kernel_rfl)
def hull_value (F : Nat) (a0 : List Point) (a1 : Int) : Option (Int × Int) :=
 loopC (fun (x : Int) => fun x_1 => brk (decide (x < (↑a0.length : Int))) (chk (InR (x - 1)) (chk (0 ≤ x - 1 ∧ x - 1 < (↑a0.length : Int)) (chk (0 ≤ x ∧ x < (↑a0.length : Int)) (brk (decide (a1 ≤ (a0.getD (Int.toNat x) (Point.mk 0 0)).X)) (chk (InR ((a0.getD (Int.toNat x) (Point.mk 0 0)).X - (a0.getD (x - 1).toNat (Point.mk 0 0)).X)) (chk (InR ((a0.getD (x - 1).toNat (Point.mk 0 0)).Y * ((a0.getD (Int.toNat x) (Point.mk 0 0)).X - (a0.getD (x - 1).toNat (Point.mk 0 0)).X))) (chk (InR ((a0.getD (Int.toNat x) (Point.mk 0 0)).Y - (a0.getD (x - 1).toNat (Point.mk 0 0)).Y)) (chk (InR (a1 - (a0.getD (x - 1).toNat (Point.mk 0 0)).X)) (chk (InR (((a0.getD (Int.toNat x) (Point.mk 0 0)).Y - (a0.getD (x - 1).toNat (Point.mk 0 0)).Y) * (a1 - (a0.getD (x - 1).toNat (Point.mk 0 0)).X))) (chk (InR ((a0.getD (x - 1).toNat (Point.mk 0 0)).Y * ((a0.getD (Int.toNat x) (Point.mk 0 0)).X - (a0.getD (x - 1).toNat (Point.mk 0 0)).X) + ((a0.getD (Int.toNat x) (Point.mk 0 0)).Y - (a0.getD (x - 1).toNat (Point.mk 0 0)).Y) * (a1 - (a0.getD (x - 1).toNat (Point.mk 0 0)).X))) (chk (InR ((a0.getD (Int.toNat x) (Point.mk 0 0)).X - (a0.getD (x - 1).toNat (Point.mk 0 0)).X)) (some (((a0.getD (x - 1).toNat (Point.mk 0 0)).Y * ((a0.getD (Int.toNat x) (Point.mk 0 0)).X - (a0.getD (x - 1).toNat (Point.mk 0 0)).X) + ((a0.getD (Int.toNat x) (Point.mk 0 0)).Y - (a0.getD (x - 1).toNat (Point.mk 0 0)).Y) * (a1 - (a0.getD (x - 1).toNat (Point.mk 0 0)).X), (a0.getD (Int.toNat x) (Point.mk 0 0)).X - (a0.getD (x - 1).toNat (Point.mk 0 0)).X)))))))))) (chk (InR (x + 1)) (x_1 (x + 1))))))) (chk (InR ((↑a0.length : Int) - (1 : Int))) (chk (0 ≤ (↑a0.length : Int) - (1 : Int) ∧ (↑a0.length : Int) - (1 : Int) < (↑a0.length : Int)) (some (((a0.getD ((↑a0.length : Int) - (1 : Int)).toNat (Point.mk 0 0)).Y, (1 : Int))))))) (F) ((1 : Int))
def s74 (F : Nat) : CS E.G := ⟨74, [.sl 7, .v 0 false], [.v 0 false [], .v 0 false []], fun x => hull_value F x.1 x.2.1⟩
theorem c74 (F : Nat) : CSok E gl (s74 F) := mkC (cx := ⟨[], [], F, [], []⟩) hf74 (by kernel_rfl) rfl all0 ⟨inl0, all0⟩ (.l ⟨[.i], [0, 16], [0, 1], [(96, .i IntKind.i64)], [], [], [], 2⟩ (.c .n .n)) rfl (by kernel_rfl)
theorem hf50 : HF 50 Tryz.f50 := hK (by kernel_rfl)
def hull_At (F : Nat) (a0 : List Point) (a1 : Int) : Option (Ratio × Int) :=
 bnd (hull_curve F a0) (fun x => brk (!x) (some ((Ratio.mk (0 : Int) (0 : Int), (40 : Int)))) (bnd (hull_within F a1 0 1000) (fun x_1 => brk (!x_1) (some ((Ratio.mk (0 : Int) (0 : Int), (6 : Int)))) (bnd (hull_value F a0 a1) (fun x_2 => bnd (hull_lowest F x_2.1 x_2.2) (fun x_3 => some ((x_3, (0 : Int)))))))))
def s50 (F : Nat) : CS E.G := ⟨50, [.sl 7, .v 0 false], [.v 19 true [], .v 0 false []], fun x => hull_At F x.1 x.2.1⟩
theorem c50 (F : Nat) : CSok E gl (s50 F) := mkC (cx := ⟨[s71 F, s72 F, s73 F, s74 F], [], F, [], []⟩) hf50 (by kernel_rfl) rfl (allC (c71 F) (allC (c72 F) (allC (c73 F) (allC (c74 F) all0)))) ⟨inl0, all0⟩ (.c .n .n) rfl (by kernel_rfl)
theorem hf54 : HF 54 Tryz.f54 := hK (by kernel_rfl)
def convoy_within (F : Nat) (a0 : Int) (a1 : Int) (a2 : Int) : Option (Bool) :=
 some (decide (a0 ≥ a1) && decide (a0 ≤ a2))
def s54 (F : Nat) : CS E.G := ⟨54, [.v 0 false, .v 0 false, .v 0 false], [.v 1 false []], fun x => convoy_within F x.1 x.2.1 x.2.2.1⟩
theorem c54 (F : Nat) : CSok E gl (s54 F) := mkC (cx := ⟨[], [], F, [], []⟩) hf54 (by kernel_rfl) rfl all0 ⟨inl0, all0⟩ .n rfl (by kernel_rfl)
theorem hf108 : HF 108 Tryz.f108 := hK (by kernel_rfl)
def hull_rules_1 (F : Nat) (a0 : Ship) : Option (Bool) :=
 bnd (hull_within F a0.Class 1 6) (fun x => some (x))
def s108 (F : Nat) : CS E.G := ⟨108, [.v 9 true], [.v 1 false []], fun x => hull_rules_1 F x.1⟩
theorem c108 (F : Nat) : CSok E gl (s108 F) := mkC (cx := ⟨[s72 F], [], F, [], []⟩) hf108 (by kernel_rfl) rfl (allC (c72 F) all0) ⟨inl0, all0⟩ .n rfl (by kernel_rfl)
theorem hf109 : HF 109 Tryz.f109 := hK (by kernel_rfl)
def hull_rules_2 (F : Nat) (a0 : Ship) : Option (Bool) :=
 bnd (hull_within F a0.Power 100 100000) (fun x => bnd (brk x (hull_within F a0.Draught 10 2000) (some false)) (fun x_1 => bnd (brk (x && x_1) (hull_within F a0.Tonnes 10 500000) (some false)) (fun x_2 => some (x && x_1 && x_2))))
def s109 (F : Nat) : CS E.G := ⟨109, [.v 9 true], [.v 1 false []], fun x => hull_rules_2 F x.1⟩
theorem c109 (F : Nat) : CSok E gl (s109 F) := mkC (cx := ⟨[s72 F], [], F, [], []⟩) hf109 (by kernel_rfl) rfl (allC (c72 F) all0) ⟨inl0, all0⟩ .n rfl (by kernel_rfl)
theorem hf110 : HF 110 Tryz.f110 := hK (by kernel_rfl)
def hull_rules_3 (F : Nat) (a0 : Ship) : Option (Bool) :=
 bnd (hull_within F a0.Slow 0 20) (fun x => bnd (brk x (hull_within F a0.Brash 0 100) (some false)) (fun x_1 => bnd (brk (x && x_1) (hull_within F a0.Ridge 0 500) (some false)) (fun x_2 => bnd (brk (x && x_1 && x_2) (hull_within F a0.Press 0 5000) (some false)) (fun x_3 => some (x && x_1 && x_2 && x_3)))))
def s110 (F : Nat) : CS E.G := ⟨110, [.v 9 true], [.v 1 false []], fun x => hull_rules_3 F x.1⟩
theorem c110 (F : Nat) : CSok E gl (s110 F) := mkC (cx := ⟨[s72 F], [], F, [], []⟩) hf110 (by kernel_rfl) rfl (allC (c72 F) all0) ⟨inl0, all0⟩ .n rfl (by kernel_rfl)
theorem hf112 : HF 112 Tryz.f112 := hK (by kernel_rfl)
def hull_steady (F : Nat) (a0 : List Point) (a1 : Int) : Option (Bool) :=
 bnd (hull_curve F a0) (fun x => brk (!x) (some (false)) (loopC (fun (x_1 : Int) => fun x_2 => brk (decide (x_1 < (↑a0.length : Int))) (chk (0 ≤ x_1 ∧ x_1 < (↑a0.length : Int)) (chk (InR (x_1 - 1)) (chk (0 ≤ x_1 - 1 ∧ x_1 - 1 < (↑a0.length : Int)) (chk (InR ((a0.getD (Int.toNat x_1) (Point.mk 0 0)).Y - (a0.getD (x_1 - 1).toNat (Point.mk 0 0)).Y)) (chk (InR (((a0.getD (Int.toNat x_1) (Point.mk 0 0)).Y - (a0.getD (x_1 - 1).toNat (Point.mk 0 0)).Y) * a1)) (brk (decide (((a0.getD (Int.toNat x_1) (Point.mk 0 0)).Y - (a0.getD (x_1 - 1).toNat (Point.mk 0 0)).Y) * a1 < 0)) (some (false)) (chk (InR (x_1 + 1)) (x_2 (x_1 + 1))))))))) (some (true))) (F) ((1 : Int))))
def s112 (F : Nat) : CS E.G := ⟨112, [.sl 7, .v 0 false], [.v 1 false []], fun x => hull_steady F x.1 x.2.1⟩
theorem c112 (F : Nat) : CSok E gl (s112 F) := mkC (cx := ⟨[s71 F], [], F, [], []⟩) hf112 (by kernel_rfl) rfl (allC (c71 F) all0) ⟨inl0, all0⟩ (.c .n (.l ⟨[.i], [0, 16], [0, 1], [(80, .i IntKind.i64)], [], [], [], 2⟩ (.c .n .n))) rfl (by kernel_rfl)
theorem hf113 : HF 113 Tryz.f113 := hK (by kernel_rfl)
def hull_end (F : Nat) (a0 : List Point) : Option (Int) :=
 chk (InR ((↑a0.length : Int) - (1 : Int))) (chk (0 ≤ (↑a0.length : Int) - (1 : Int) ∧ (↑a0.length : Int) - (1 : Int) < (↑a0.length : Int)) (some ((a0.getD ((↑a0.length : Int) - (1 : Int)).toNat (Point.mk 0 0)).X)))
def s113 (F : Nat) : CS E.G := ⟨113, [.sl 7], [.v 0 false []], fun x => hull_end F x.1⟩
theorem c113 (F : Nat) : CSok E gl (s113 F) := mkC (cx := ⟨[], [], F, [], []⟩) hf113 (by kernel_rfl) rfl all0 ⟨inl0, all0⟩ .n rfl (by kernel_rfl)
theorem hf111 : HF 111 Tryz.f111 := hK (by kernel_rfl)
def hull_rules_4 (F : Nat) (a0 : Ship) : Option (Bool) :=
 bnd (hull_steady F a0.Thrust (-1 : Int)) (fun x => bnd (brk x (hull_end F a0.Thrust) (some (0 : Int))) (fun x_1 => bnd (brk x (hull_within F x_1 10 250) (some false)) (fun x_2 => some (x && x_2))))
def s111 (F : Nat) : CS E.G := ⟨111, [.v 9 true], [.v 1 false []], fun x => hull_rules_4 F x.1⟩
theorem c111 (F : Nat) : CSok E gl (s111 F) := mkC (cx := ⟨[s72 F, s112 F, s113 F], [], F, [], []⟩) hf111 (by kernel_rfl) rfl (allC (c72 F) (allC (c112 F) (allC (c113 F) all0))) ⟨inl0, all0⟩ .n rfl (by kernel_rfl)
theorem hf114 : HF 114 Tryz.f114 := hK (by kernel_rfl)
def hull_rules_5 (F : Nat) (a0 : Ship) : Option (Bool) :=
 bnd (hull_steady F a0.Water 1) (fun x => bnd (brk x (hull_end F a0.Water) (some (0 : Int))) (fun x_1 => some (x && decide (x_1 ≤ 250))))
def s114 (F : Nat) : CS E.G := ⟨114, [.v 9 true], [.v 1 false []], fun x => hull_rules_5 F x.1⟩
theorem c114 (F : Nat) : CSok E gl (s114 F) := mkC (cx := ⟨[s112 F, s113 F], [], F, [], []⟩) hf114 (by kernel_rfl) rfl (allC (c112 F) (allC (c113 F) all0)) ⟨inl0, all0⟩ .n rfl (by kernel_rfl)
theorem hf115 : HF 115 Tryz.f115 := hK (by kernel_rfl)
def hull_rules_6 (F : Nat) (a0 : Ship) : Option (Bool) :=
 bnd (hull_steady F a0.Ice 1) (fun x => chk (x = true → 0 ≤ (0 : Int) ∧ (0 : Int) < (↑a0.Ice.length : Int)) (bnd (brk (x && (a0.Ice.getD (Int.toNat (0 : Int)) (Point.mk 0 0)).Y == (0 : Int)) (hull_end F a0.Ice) (some (0 : Int))) (fun x_1 => some (x && (a0.Ice.getD (Int.toNat (0 : Int)) (Point.mk 0 0)).Y == (0 : Int) && x_1 == (400 : Int)))))
def s115 (F : Nat) : CS E.G := ⟨115, [.v 9 true], [.v 1 false []], fun x => hull_rules_6 F x.1⟩
theorem c115 (F : Nat) : CSok E gl (s115 F) := mkC (cx := ⟨[s112 F, s113 F], [], F, [], []⟩) hf115 (by kernel_rfl) rfl (allC (c112 F) (allC (c113 F) all0)) ⟨inl0, all0⟩ .n rfl (by kernel_rfl)
theorem hf91 : HF 91 Tryz.f91 := hK (by kernel_rfl)
theorem en91 : Proofs.Enters Tryz.prog 91 := mkE hf91 (by kernel_rfl) rfl
theorem hf76 : HF 76 Tryz.f76 := hK (by kernel_rfl)
def hull_Check (F : Nat) (a0 : Ship) : Option (Int) :=
 bnd (hull_rules_1 F a0) (fun x => brk (!x) (some ((41 : Int))) (bnd (hull_rules_2 F a0) (fun x_1 => brk (!x_1) (some ((40 : Int))) (bnd (hull_rules_3 F a0) (fun x_2 => brk (!x_2) (some ((40 : Int))) (bnd (hull_rules_4 F a0) (fun x_3 => brk (!x_3) (some ((40 : Int))) (bnd (hull_rules_5 F a0) (fun x_4 => brk (!x_4) (some ((40 : Int))) (bnd (hull_rules_6 F a0) (fun x_5 => brk (!x_5) (some ((40 : Int))) (some ((0 : Int))))))))))))))
def s76 (F : Nat) : CS E.G := ⟨76, [.v 9 true], [.v 0 false []], fun x => hull_Check F x.1⟩
theorem c76 (F : Nat) : CSok E gl (s76 F) := mkC (cx := ⟨[s108 F, s109 F, s110 F, s111 F, s114 F, s115 F], [(91, Tryz.f91)], F, [], []⟩) hf76 (by kernel_rfl) rfl (allC (c108 F) (allC (c109 F) (allC (c110 F) (allC (c111 F) (allC (c114 F) (allC (c115 F) all0)))))) ⟨(inlC hf91 en91 inl0), all0⟩ (.p (.u 7 (.c .n (.c .n (.c .n (.c .n (.c .n .n))))))) rfl (by kernel_rfl)
theorem hf77 : HF 77 Tryz.f77 := hK (by kernel_rfl)
def convoy_top (F : Nat) (a0 : List Point) : Option (Int) :=
 chk (InR ((↑a0.length : Int) - (1 : Int))) (chk (0 ≤ (↑a0.length : Int) - (1 : Int) ∧ (↑a0.length : Int) - (1 : Int) < (↑a0.length : Int)) (some ((a0.getD ((↑a0.length : Int) - (1 : Int)).toNat (Point.mk 0 0)).X)))
def s77 (F : Nat) : CS E.G := ⟨77, [.sl 7], [.v 0 false []], fun x => convoy_top F x.1⟩
theorem c77 (F : Nat) : CSok E gl (s77 F) := mkC (cx := ⟨[], [], F, [], []⟩) hf77 (by kernel_rfl) rfl all0 ⟨inl0, all0⟩ .n rfl (by kernel_rfl)
theorem hf78 : HF 78 Tryz.f78 := hK (by kernel_rfl)
theorem en78 : Proofs.Enters Tryz.prog 78 := mkE hf78 (by kernel_rfl) rfl
theorem hf79 : HF 79 Tryz.f79 := hK (by kernel_rfl)
def convoy_right_1 (F : Nat) (a0 : Point) (a1 : Point) : Option (Int) :=
 chk (InR (a0.Y - a1.Y)) (some (a0.Y - a1.Y))
def s79 (F : Nat) : CS E.G := ⟨79, [.v 7 true, .v 7 true], [.v 0 false []], fun x => convoy_right_1 F x.1 x.2.1⟩
theorem c79 (F : Nat) : CSok E gl (s79 F) := mkC (cx := ⟨[], [], F, [], []⟩) hf79 (by kernel_rfl) rfl all0 ⟨inl0, all0⟩ .n rfl (by kernel_rfl)
theorem hf53 : HF 53 Tryz.f53 := hK (by kernel_rfl)
def convoy_right (F : Nat) (a0 : Member) : Option (Int) :=
 bnd (hull_Check F a0.Ship) (fun x => brk (x != (0 : Int)) (some (x)) (bnd (convoy_within F a0.Length 10 500) (fun x_1 => bnd (brk (!!x_1) (convoy_within F a0.Delay 0 600) (some false)) (fun x_2 => bnd (brk (!(!x_1 || !x_2)) (convoy_within F a0.Short 0 20000) (some false)) (fun x_3 => brk (!x_1 || !x_2 || !x_3) (some ((60 : Int))) (bnd (hull_At F a0.Stop 0) (fun x_4 => chk ((!x_4.2 != (0 : Int)) = true → 0 ≤ (0 : Int) ∧ (0 : Int) < (↑a0.Stop.length : Int)) (bnd (brk (!(x_4.2 != (0 : Int) || (a0.Stop.getD (Int.toNat (0 : Int)) (Point.mk 0 0)).Y != (0 : Int))) (convoy_top F a0.Stop) (some (0 : Int))) (fun x_5 => bnd (brk (!(x_4.2 != (0 : Int) || (a0.Stop.getD (Int.toNat (0 : Int)) (Point.mk 0 0)).Y != (0 : Int))) (convoy_top F a0.Ship.Thrust) (some (0 : Int))) (fun x_6 => brk (x_4.2 != (0 : Int) || (a0.Stop.getD (Int.toNat (0 : Int)) (Point.mk 0 0)).Y != (0 : Int) || decide (x_5 < x_6)) (some ((60 : Int))) (join (F) (fun (x_7 : Bool) => brk (!x_7) (some ((60 : Int))) (some ((0 : Int)))) (fun x_7 => chk (InR ((↑a0.Stop.length : Int) - (1 : Int))) (loopC (fun (x_8 : Int) => fun x_9 => brk (decide (x_8 > (0 : Int))) (chk (0 ≤ x_8 ∧ x_8 < (↑a0.Stop.length : Int)) (chk (InR (x_8 - 1)) (chk (0 ≤ x_8 - 1 ∧ x_8 - 1 < (↑a0.Stop.length : Int)) (bnd (convoy_right_1 F (a0.Stop.getD (Int.toNat x_8) (Point.mk 0 0)) (a0.Stop.getD (x_8 - 1).toNat (Point.mk 0 0))) (fun x_10 => brk (decide (x_10 < 0)) (x_7 (false)) (chk (InR (x_8 - 1)) (x_9 (x_8 - 1)))))))) (x_7 (true))) (F) ((↑a0.Stop.length : Int) - (1 : Int)))))))))))))))
def s53 (F : Nat) : CS E.G := ⟨53, [.v 10 true], [.v 0 false []], fun x => convoy_right F x.1⟩
theorem c53 (F : Nat) : CSok E gl (s53 F) := mkC (cx := ⟨[s50 F, s54 F, s76 F, s77 F, s79 F], [(78, Tryz.f78)], F, [], []⟩) hf53 (by kernel_rfl) rfl (allC (c50 F) (allC (c54 F) (allC (c76 F) (allC (c77 F) (allC (c79 F) all0))))) ⟨(inlC hf78 en78 inl0), all0⟩ (.c .n (.c .n (.c .n (.w ⟨[.b], [], [0, 4], [(0, .b)], [], [], [], 7⟩ (.l ⟨[.i], [0, 16], [0, 4], [(80, .i IntKind.i64)], [], [], [], 7⟩ (.c .n .n)) .n)))) rfl (by kernel_rfl)
theorem hf27 : HF 27 Tryz.f27 := hK (by kernel_rfl)
def convoy_Check (F : Nat) (a0 : Convoy) : Option (Int) :=
 brk (decide ((↑a0.Ships.length : Int) > (6 : Int))) (some ((2 : Int))) (chk ([a0.Breaker].length + a0.Ships.length ≤ (1000000000 : Nat)) (loopC (fun (x : Int) => fun x_1 => brk (decide (x < (↑([a0.Breaker] ++ a0.Ships).length : Int))) (chk (0 ≤ x ∧ x < (↑([a0.Breaker] ++ a0.Ships).length : Int)) (bnd (convoy_right F (([a0.Breaker] ++ a0.Ships).getD (Int.toNat x) (Member.mk (Ship.mk 0 0 0 0 [] [] [] 0 0 0 0) [] (0 : Int) (0 : Int) (0 : Int)))) (fun x_2 => brk (x_2 != (0 : Int)) (some (x_2)) (chk (InR (x + 1)) (x_1 (x + 1)))))) (bnd (convoy_within F a0.Clear 0 2000) (fun x_2 => brk (!x_2) (some ((61 : Int))) (loopC (fun (x_3 : Int × Int) => fun x_4 => brk (decide (x_3.2 < 4)) (chk (0 ≤ x_3.2 ∧ x_3.2 < (↑(4 : Nat) : Int)) (bnd (convoy_within F ([a0.Close.a0, a0.Close.a1, a0.Close.a2, a0.Close.a3].getD (Int.toNat x_3.2) 0) 0 x_3.1) (fun x_5 => brk (!x_5) (some ((61 : Int))) (chk (InR (x_3.2 + 1)) (x_4 (([a0.Close.a0, a0.Close.a1, a0.Close.a2, a0.Close.a3].getD (Int.toNat x_3.2) 0, x_3.2 + 1))))))) (some ((0 : Int)))) (F) (((1440 : Int), (0 : Int))))))) (F) ((0 : Int))))
def s27 (F : Nat) : CS E.G := ⟨27, [.v 13 true], [.v 0 false []], fun x => convoy_Check F x.1⟩
theorem c27 (F : Nat) : CSok E gl (s27 F) := mkC (cx := ⟨[s53 F, s54 F], [(20, Tryz.f20)], F, [], []⟩) hf27 (by kernel_rfl) rfl (allC (c53 F) (allC (c54 F) all0)) ⟨(inlC hf20 en20 inl0), all0⟩ (.c .n (.p (.l ⟨[.i], [16, 224, 208], [0, 6, 8, 5, 4, 3, 2, 1], [(240, .i IntKind.i64)], [], [], [], 9⟩ (.c .n (.c .n (.l ⟨[.i, .i], [480], [0], [(96, .i IntKind.i64), (496, .i IntKind.i64)], [], [], [], 9⟩ (.c .n .n))))))) rfl (by kernel_rfl)
theorem hf64 : HF 64 Tryz.f64 := hK (by kernel_rfl)
def ice_Cell_spans (F : Nat) (a0 : Cell) : Option (Spans) :=
 some (Spans.mk a0.Conc a0.Thick a0.Ridge a0.Press)
def s64 (F : Nat) : CS E.G := ⟨64, [.v 15 true], [.v 20 true []], fun x => ice_Cell_spans F x.1⟩
theorem c64 (F : Nat) : CSok E gl (s64 F) := mkC (cx := ⟨[], [], F, [], []⟩) hf64 (by kernel_rfl) rfl all0 ⟨inl0, all0⟩ .n rfl (by kernel_rfl)
theorem hf86 : HF 86 Tryz.f86 := hK (by kernel_rfl)
def ice_most (F : Nat) : Option (Numbers) :=
 some (Numbers.mk 100 400 100 3)
def s86 (F : Nat) : CS E.G := ⟨86, [], [.v 12 true []], fun x => ice_most F⟩
theorem c86 (F : Nat) : CSok E gl (s86 F) := mkC (cx := ⟨[], [], F, [], []⟩) hf86 (by kernel_rfl) rfl all0 ⟨inl0, all0⟩ .n rfl (by kernel_rfl)
theorem hf65 : HF 65 Tryz.f65 := hK (by kernel_rfl)
theorem en65 : Proofs.Enters Tryz.prog 65 := mkE hf65 (by kernel_rfl) rfl
theorem hf87 : HF 87 Tryz.f87 := hK (by kernel_rfl)
def ice_in (F : Nat) (a0 : Int) (a1 : Int) (a2 : Int) : Option (Bool) :=
 some (decide (a0 ≥ a1) && decide (a0 ≤ a2))
def s87 (F : Nat) : CS E.G := ⟨87, [.v 0 false, .v 0 false, .v 0 false], [.v 1 false []], fun x => ice_in F x.1 x.2.1 x.2.2.1⟩
theorem c87 (F : Nat) : CSok E gl (s87 F) := mkC (cx := ⟨[], [], F, [], []⟩) hf87 (by kernel_rfl) rfl all0 ⟨inl0, all0⟩ .n rfl (by kernel_rfl)
theorem hf67 : HF 67 Tryz.f67 := hK (by kernel_rfl)
def ice_right (F : Nat) (a0 : Span) (a1 : Int) : Option (Bool) :=
 bnd (ice_most F) (fun x => chk (0 ≤ a1 ∧ a1 < (↑(4 : Nat) : Int)) (bnd (ice_in F a0.Lo 0 ([x.a0, x.a1, x.a2, x.a3].getD a1.toNat 0)) (fun x_1 => bnd (brk x_1 (ice_most F) (some (Numbers.mk 0 0 0 0))) (fun x_2 => chk (x_1 = true → 0 ≤ a1 ∧ a1 < (↑(4 : Nat) : Int)) (bnd (brk x_1 (ice_in F a0.Hi a0.Lo ([x_2.a0, x_2.a1, x_2.a2, x_2.a3].getD a1.toNat 0)) (some false)) (fun x_3 => some (x_1 && x_3)))))))
def s67 (F : Nat) : CS E.G := ⟨67, [.v 14 true, .v 0 false], [.v 1 false []], fun x => ice_right F x.1 x.2.1⟩
theorem c67 (F : Nat) : CSok E gl (s67 F) := mkC (cx := ⟨[s86 F, s87 F], [], F, [], []⟩) hf67 (by kernel_rfl) rfl (allC (c86 F) (allC (c87 F) all0)) ⟨inl0, all0⟩ .n rfl (by kernel_rfl)
theorem hf66 : HF 66 Tryz.f66 := hK (by kernel_rfl)
theorem en66 : Proofs.Enters Tryz.prog 66 := mkE hf66 (by kernel_rfl) rfl
theorem hf44 : HF 44 Tryz.f44 := hK (by kernel_rfl)
def ice_CheckCell (F : Nat) (a0 : Cell) : Option (Int) :=
 bnd (ice_Cell_spans F a0) (fun x => join (F) (fun (x_1 : Bool) => brk (!x_1) (some ((20 : Int))) (some ((0 : Int)))) (fun x_1 => bnd (ice_most F) (fun x_2 => loopC (fun (x_3 : Int) => fun x_4 => brk (decide (x_3 < 4)) (chk (0 ≤ x_3 ∧ x_3 < (↑(4 : Nat) : Int)) (bnd (ice_right F ([x.a0, x.a1, x.a2, x.a3].getD (Int.toNat x_3) (Span.mk 0 0)) x_3) (fun x_5 => brk (!x_5) (x_1 (false)) (chk (InR (x_3 + 1)) (x_4 (x_3 + 1)))))) (x_1 (true))) (F) ((0 : Int)))))
def s44 (F : Nat) : CS E.G := ⟨44, [.v 15 true], [.v 0 false []], fun x => ice_CheckCell F x.1⟩
theorem c44 (F : Nat) : CSok E gl (s44 F) := mkC (cx := ⟨[s64 F, s86 F, s67 F], [(65, Tryz.f65), (66, Tryz.f66)], F, [], []⟩) hf44 (by kernel_rfl) rfl (allC (c64 F) (allC (c86 F) (allC (c67 F) all0))) ⟨(inlC hf65 en65 (inlC hf66 en66 inl0)), all0⟩ (.w ⟨[.b], [], [0, 2], [(0, .b)], [], [], [], 3⟩ (.l ⟨[.i], [0], [0, 2], [(80, .i IntKind.i64)], [], [], [], 3⟩ (.c (.p .n) .n)) .n) rfl (by kernel_rfl)
theorem hf17 : HF 17 Tryz.f17 := hK (by kernel_rfl)
def convoy_met (F : Nat) (a0 : Convoy) (a1 : Cell) : Option (Int) :=
 bnd (convoy_Check F a0) (fun x => brk (x != (0 : Int)) (some (x)) (bnd (ice_CheckCell F a1) (fun x_1 => some (x_1))))
def s17 (F : Nat) : CS E.G := ⟨17, [.v 13 true, .v 15 true], [.v 0 false []], fun x => convoy_met F x.1 x.2.1⟩
theorem c17 (F : Nat) : CSok E gl (s17 F) := mkC (cx := ⟨[s27 F, s44 F], [], F, [], []⟩) hf17 (by kernel_rfl) rfl (allC (c27 F) (allC (c44 F) all0)) ⟨inl0, all0⟩ .n rfl (by kernel_rfl)
theorem hf68 : HF 68 Tryz.f68 := hK (by kernel_rfl)
def slices_Index_int (F : Nat) (a0 : List Int) (a1 : Int) : Option (Int) :=
 loopC (fun (x : Int) => fun x_1 => brk (decide (x < (↑a0.length : Int))) (chk (0 ≤ x ∧ x < (↑a0.length : Int)) (brk (a1 == a0.getD (Int.toNat x) 0) (some (x)) (chk (InR (x + 1)) (x_1 (x + 1))))) (some ((-1 : Int)))) (F) ((0 : Int))
def s68 (F : Nat) : CS E.G := ⟨68, [.sl 0, .v 0 false], [.v 0 false []], fun x => slices_Index_int F x.1 x.2.1⟩
theorem c68 (F : Nat) : CSok E gl (s68 F) := mkC (cx := ⟨[], [], F, [], []⟩) hf68 (by kernel_rfl) rfl all0 ⟨inl0, all0⟩ (.l ⟨[.i], [0, 16, 112], [0, 1], [(128, .i IntKind.i64)], [], [], [], 2⟩ (.c .n .n)) rfl (by kernel_rfl)
theorem hf47 : HF 47 Tryz.f47 := hK (by kernel_rfl)
def slices_Contains_int (F : Nat) (a0 : List Int) (a1 : Int) : Option (Bool) :=
 bnd (slices_Index_int F a0 a1) (fun x => some (decide (x ≥ (0 : Int))))
def s47 (F : Nat) : CS E.G := ⟨47, [.sl 0, .v 0 false], [.v 1 false []], fun x => slices_Contains_int F x.1 x.2.1⟩
theorem c47 (F : Nat) : CSok E gl (s47 F) := mkC (cx := ⟨[s68 F], [], F, [], []⟩) hf47 (by kernel_rfl) rfl (allC (c68 F) all0) ⟨inl0, all0⟩ .n rfl (by kernel_rfl)
theorem hf48 : HF 48 Tryz.f48 := hK (by kernel_rfl)
theorem en48 : Proofs.Enters Tryz.prog 48 := mkE hf48 (by kernel_rfl) rfl
def slices_Clone_int (F : Nat) (a0 : List Int) : Option ((List Int)) :=
 chk ((0 : Nat) + a0.length ≤ (1000000000 : Nat)) (some ([] ++ a0))
def s48 (F : Nat) : CS E.G := ⟨48, [.sl 0], [.sl 0 3], fun x => slices_Clone_int F x.1⟩
def cx48 (F : Nat) : Ctx E := ⟨[], [], F, [], []⟩
def h48 : Hint := .n
theorem e48n (F : Nat) (c : Nat) : fnK (E := E) (cx48 F) Tryz.f48 gl [.nl] [.sl 0 3] .n (c, ()) = some ([]) := by kernel_rfl
theorem e48s (F : Nat) (a0 : List Int) : fnK (E := E) (cx48 F) Tryz.f48 gl [.sn 0] [.sl 0 3] h48 (a0, ()) = slices_Clone_int F a0 := by kernel_rfl
theorem c48 (F : Nat) : CSok E gl (s48 F) := ⟨en48, by
 have h0 := fn_sound (E := E) (gl := gl) (cx := cx48 F) mix all0 ⟨inl0, all0⟩ keys0 gl_up gl_lt hf48 (ps := [.nl]) (rs := [.sl 0 3]) (by decide) .n
 have h1 := fn_sound (E := E) (gl := gl) (cx := cx48 F) mix all0 ⟨inl0, all0⟩ keys0 gl_up gl_lt hf48 (ps := [.sn 0]) (rs := [.sl 0 3]) (by decide) h48
 rw [show fnK (E := E) (cx48 F) Tryz.f48 gl [.nl] [.sl 0 3] .n = (fun x : AT E.G.car [.nl] => some ([])) from funext fun x => e48n F x.1] at h0
 rw [show fnK (E := E) (cx48 F) Tryz.f48 gl [.sn 0] [.sl 0 3] h48 = (fun x : AT E.G.car [.sn 0] => slices_Clone_int F x.1) from funext fun x => e48s F x.1] at h1
 exact contract_nil (E := E) (t := 0) (rs := [.sl 0 3]) (f := slices_Clone_int F) (f0 := fun _ => some ([])) (f1 := slices_Clone_int F) h0 h1 (fun _ _ h => (show slices_Clone_int F [] = some [] by kernel_rfl).symm.trans h) (fun _ _ h => h)⟩
theorem hf46 : HF 46 Tryz.f46 := hK (by kernel_rfl)
theorem en46 : Proofs.Enters Tryz.prog 46 := mkE hf46 (by kernel_rfl) rfl
theorem hf45 : HF 45 Tryz.f45 := hK (by kernel_rfl)
theorem en45 : Proofs.Enters Tryz.prog 45 := mkE hf45 (by kernel_rfl) rfl
theorem hf18 : HF 18 Tryz.f18 := hK (by kernel_rfl)
theorem en18 : Proofs.Enters Tryz.prog 18 := mkE hf18 (by kernel_rfl) rfl
theorem hf69 : HF 69 Tryz.f69 := hK (by kernel_rfl)
def hull_met (F : Nat) (a0 : Ship) (a1 : Cell) : Option (Int) :=
 bnd (hull_Check F a0) (fun x => brk (x != (0 : Int)) (some (x)) (bnd (ice_CheckCell F a1) (fun x_1 => some (x_1))))
def s69 (F : Nat) : CS E.G := ⟨69, [.v 9 true, .v 15 true], [.v 0 false []], fun x => hull_met F x.1 x.2.1⟩
theorem c69 (F : Nat) : CSok E gl (s69 F) := mkC (cx := ⟨[s44 F, s76 F], [], F, [], []⟩) hf69 (by kernel_rfl) rfl (allC (c44 F) (allC (c76 F) all0)) ⟨inl0, all0⟩ .n rfl (by kernel_rfl)
theorem hf88 : HF 88 Tryz.f88 := hK (by kernel_rfl)
def hull_last (F : Nat) (a0 : Cell) : Option (Ice) :=
 some (Ice.mk a0.Conc.Hi a0.Thick.Hi a0.Ridge.Hi a0.Press.Hi)
def s88 (F : Nat) : CS E.G := ⟨88, [.v 15 true], [.v 21 true []], fun x => hull_last F x.1⟩
theorem c88 (F : Nat) : CSok E gl (s88 F) := mkC (cx := ⟨[], [], F, [], []⟩) hf88 (by kernel_rfl) rfl all0 ⟨inl0, all0⟩ .n rfl (by kernel_rfl)
theorem hf104 : HF 104 Tryz.f104 := hK (by kernel_rfl)
theorem en104 : Proofs.Enters Tryz.prog 104 := mkE hf104 (by kernel_rfl) rfl
theorem hf121 : HF 121 Tryz.f121 := hK (by kernel_rfl)
def hull_Ship_thrust (F : Nat) (a0 : Ship) (a1 : Int) : Option (Int) :=
 bnd (hull_value F a0.Thrust a1) (fun x => chk ((0 ≤ x.1 ∧ x.1 ≤ 9223372036854775807) ∧ (0 : Int) < x.2) (some (x.1 / x.2)))
def s121 (F : Nat) : CS E.G := ⟨121, [.ptr 9, .v 0 false], [.v 0 false []], fun x => hull_Ship_thrust F x.1 x.2.1⟩
theorem c121 (F : Nat) : CSok E gl (s121 F) := mkC (cx := ⟨[s74 F], [], F, [], []⟩) hf121 (by kernel_rfl) rfl (allC (c74 F) all0) ⟨inl0, all0⟩ .n rfl (by kernel_rfl)
theorem hf122 : HF 122 Tryz.f122 := hK (by kernel_rfl)
theorem en122 : Proofs.Enters Tryz.prog 122 := mkE hf122 (by kernel_rfl) rfl
theorem hf105 : HF 105 Tryz.f105 := hK (by kernel_rfl)
theorem en105 : Proofs.Enters Tryz.prog 105 := mkE hf105 (by kernel_rfl) rfl
theorem hf89 : HF 89 Tryz.f89 := hK (by kernel_rfl)
theorem en89 : Proofs.Enters Tryz.prog 89 := mkE hf89 (by kernel_rfl) rfl
theorem hf123 : HF 123 Tryz.f123 := hK (by kernel_rfl)
def hull_load (F : Nat) (a0 : Ice) (a1 : Int) (a2 : Bool) : Option (Int) :=
 chk (InR ((100 : Int) + a1)) (chk (InR (a0.Thick * ((100 : Int) + a1))) (join (F) (fun (x : Int × Int) => brk (a0.Conc == (0 : Int)) (some ((0 : Int))) (chk (InR ((300 : Int) * x.1)) (chk (InR (x.2 + (300 : Int) * x.1)) (chk (InR ((2000 : Int) * a0.Press)) (chk (InR (x.2 + (300 : Int) * x.1 + (2000 : Int) * a0.Press)) (some (x.2 + (300 : Int) * x.1 + (2000 : Int) * a0.Press))))))) (fun x => brk (a2) (chk (InR (a0.Thick * ((100 : Int) + a1) + 1)) (chk (0 ≤ a0.Thick * ((100 : Int) + a1) + 1 ∧ a0.Thick * ((100 : Int) + a1) + 1 ≤ (9223372036854775807 : Int)) (x (((0 : Int), (a0.Thick * ((100 : Int) + a1) + 1) / (2 : Int)))))) (x ((a0.Ridge, a0.Thick * ((100 : Int) + a1)))))))
def s123 (F : Nat) : CS E.G := ⟨123, [.v 21 true, .v 0 false, .v 1 false], [.v 0 false []], fun x => hull_load F x.1 x.2.1 x.2.2.1⟩
theorem c123 (F : Nat) : CSok E gl (s123 F) := mkC (cx := ⟨[], [], F, [], []⟩) hf123 (by kernel_rfl) rfl all0 ⟨inl0, all0⟩ (.k (.k (.j ⟨[.i, .i], [48], [0, 1], [(128, .i IntKind.i64), (112, .i IntKind.i64)], [], [], [], 2⟩ .n .n))) rfl (by kernel_rfl)
theorem hf107 : HF 107 Tryz.f107 := hK (by kernel_rfl)
theorem en107 : Proofs.Enters Tryz.prog 107 := mkE hf107 (by kernel_rfl) rfl
theorem hf106 : HF 106 Tryz.f106 := hK (by kernel_rfl)
theorem en106 : Proofs.Enters Tryz.prog 106 := mkE hf106 (by kernel_rfl) rfl
theorem hf90 : HF 90 Tryz.f90 := hK (by kernel_rfl)
theorem en90 : Proofs.Enters Tryz.prog 90 := mkE hf90 (by kernel_rfl) rfl
theorem hf70 : HF 70 Tryz.f70 := hK (by kernel_rfl)
def hull_Ship_safe (F : Nat) (a0 : Ship) (a1 : Cell) (a2 : Bool) : Option (Int × Int) :=
 bnd (hull_last F a1) (fun x => join (F) (fun (x_1 : Int × Bool) => brk (decide (x_1.1 < 10)) (some (((0 : Int), (4 : Int)))) (join (F) (fun (x_2 : Int × Bool) => brk (!x_2.2) (some (((0 : Int), (41 : Int)))) (some ((x_2.1, (0 : Int))))) (fun x_2 => join (F) (fun (x_3 : Bool) => brk (!x_3) (x_2 (((0 : Int), false))) (loopC (fun (x_4 : Int × Int) => fun x_5 => brk (decide (x_4.1 < x_4.2)) (chk (InR (x_4.2 - x_4.1)) (chk (InR (x_4.2 - x_4.1 + 1)) (chk (0 ≤ x_4.2 - x_4.1 + 1 ∧ x_4.2 - x_4.1 + 1 ≤ (9223372036854775807 : Int)) (chk (InR (x_4.1 + (x_4.2 - x_4.1 + 1) / (2 : Int))) (join (F) (fun (x_6 : Bool) => brk (x_6) (x_5 ((x_4.1 + (x_4.2 - x_4.1 + 1) / (2 : Int), x_4.2))) (chk (InR (x_4.1 + (x_4.2 - x_4.1 + 1) / (2 : Int) - (1 : Int))) (x_5 ((x_4.1, x_4.1 + (x_4.2 - x_4.1 + 1) / (2 : Int) - (1 : Int)))))) (fun x_6 => join (F) (fun (x_7 : Bool) => brk (x_7) (bnd (hull_load F x (x_4.1 + (x_4.2 - x_4.1 + 1) / (2 : Int)) a2) (fun x_8 => chk (InR (a0.Class - 1)) (chk (0 ≤ a0.Class - 1 ∧ a0.Class - 1 < (↑(6 : Nat) : Int)) (x_6 (decide (x_8 ≤ [(4000 : Int), (8000 : Int), (14000 : Int), (24000 : Int), (40000 : Int), (90000 : Int)].getD (a0.Class - 1).toNat (0 : Int))))))) (x_6 (false))) (fun x_7 => bnd (hull_end F a0.Thrust) (fun x_8 => brk (decide (x_4.1 + (x_4.2 - x_4.1 + 1) / (2 : Int) ≤ x_8)) (bnd (hull_Ship_thrust F a0 (x_4.1 + (x_4.2 - x_4.1 + 1) / (2 : Int))) (fun x_9 => bnd (hull_value F a0.Water (x_4.1 + (x_4.2 - x_4.1 + 1) / (2 : Int))) (fun x_10 => bnd (hull_value F a0.Ice x.Thick) (fun x_11 => join (F) (fun (x_12 : Int × Int) => chk (InR (a0.Slow * (x_4.1 + (x_4.2 - x_4.1 + 1) / (2 : Int)))) (chk (InR ((1000 : Int) + a0.Slow * (x_4.1 + (x_4.2 - x_4.1 + 1) / (2 : Int)))) (chk (InR (x_11.1 * ((1000 : Int) + a0.Slow * (x_4.1 + (x_4.2 - x_4.1 + 1) / (2 : Int))))) (chk (InR (x_11.1 * ((1000 : Int) + a0.Slow * (x_4.1 + (x_4.2 - x_4.1 + 1) / (2 : Int))) * x_12.2)) (chk (InR (a0.Ridge * x_12.1)) (chk (InR (a0.Ridge * x_12.1 * x_11.2)) (chk (InR (a0.Ridge * x_12.1 * x_11.2 * 100000)) (chk (InR (x_11.1 * ((1000 : Int) + a0.Slow * (x_4.1 + (x_4.2 - x_4.1 + 1) / (2 : Int))) * x_12.2 + a0.Ridge * x_12.1 * x_11.2 * 100000)) (chk (InR (x.Conc * (x_11.1 * ((1000 : Int) + a0.Slow * (x_4.1 + (x_4.2 - x_4.1 + 1) / (2 : Int))) * x_12.2 + a0.Ridge * x_12.1 * x_11.2 * 100000))) (chk (InR (x_11.2 * 10000000)) (chk (InR (x_10.1 * (x_11.2 * 10000000))) (chk (InR (x.Conc * (x_11.1 * ((1000 : Int) + a0.Slow * (x_4.1 + (x_4.2 - x_4.1 + 1) / (2 : Int))) * x_12.2 + a0.Ridge * x_12.1 * x_11.2 * 100000) * x_10.2)) (chk (InR (x_10.1 * (x_11.2 * 10000000) + x.Conc * (x_11.1 * ((1000 : Int) + a0.Slow * (x_4.1 + (x_4.2 - x_4.1 + 1) / (2 : Int))) * x_12.2 + a0.Ridge * x_12.1 * x_11.2 * 100000) * x_10.2)) (chk (InR (a0.Press * x.Press)) (chk (InR (a0.Press * x.Press * x_10.2)) (chk (InR (a0.Press * x.Press * x_10.2 * (x_11.2 * 10000000))) (chk (InR (x_10.1 * (x_11.2 * 10000000) + x.Conc * (x_11.1 * ((1000 : Int) + a0.Slow * (x_4.1 + (x_4.2 - x_4.1 + 1) / (2 : Int))) * x_12.2 + a0.Ridge * x_12.1 * x_11.2 * 100000) * x_10.2 + a0.Press * x.Press * x_10.2 * (x_11.2 * 10000000))) (chk (InR (x_10.2 * (x_11.2 * 10000000))) (chk (InR (x_10.1 * (x_11.2 * 10000000) + x.Conc * (x_11.1 * ((1000 : Int) + a0.Slow * (x_4.1 + (x_4.2 - x_4.1 + 1) / (2 : Int))) * x_12.2 + a0.Ridge * x_12.1 * x_11.2 * 100000) * x_10.2 + a0.Press * x.Press * x_10.2 * (x_11.2 * 10000000) + x_10.2 * (x_11.2 * 10000000))) (chk (InR (x_10.1 * (x_11.2 * 10000000) + x.Conc * (x_11.1 * ((1000 : Int) + a0.Slow * (x_4.1 + (x_4.2 - x_4.1 + 1) / (2 : Int))) * x_12.2 + a0.Ridge * x_12.1 * x_11.2 * 100000) * x_10.2 + a0.Press * x.Press * x_10.2 * (x_11.2 * 10000000) + x_10.2 * (x_11.2 * 10000000) - 1)) (chk (InR (x_10.2 * (x_11.2 * 10000000))) (chk ((0 ≤ x_10.1 * (x_11.2 * 10000000) + x.Conc * (x_11.1 * ((1000 : Int) + a0.Slow * (x_4.1 + (x_4.2 - x_4.1 + 1) / (2 : Int))) * x_12.2 + a0.Ridge * x_12.1 * x_11.2 * 100000) * x_10.2 + a0.Press * x.Press * x_10.2 * (x_11.2 * 10000000) + x_10.2 * (x_11.2 * 10000000) - 1 ∧ x_10.1 * (x_11.2 * 10000000) + x.Conc * (x_11.1 * ((1000 : Int) + a0.Slow * (x_4.1 + (x_4.2 - x_4.1 + 1) / (2 : Int))) * x_12.2 + a0.Ridge * x_12.1 * x_11.2 * 100000) * x_10.2 + a0.Press * x.Press * x_10.2 * (x_11.2 * 10000000) + x_10.2 * (x_11.2 * 10000000) - 1 ≤ (9223372036854775807 : Int)) ∧ (0 : Int) < x_10.2 * (x_11.2 * 10000000)) (x_7 (decide (x_9 ≥ (x_10.1 * (x_11.2 * 10000000) + x.Conc * (x_11.1 * ((1000 : Int) + a0.Slow * (x_4.1 + (x_4.2 - x_4.1 + 1) / (2 : Int))) * x_12.2 + a0.Ridge * x_12.1 * x_11.2 * 100000) * x_10.2 + a0.Press * x.Press * x_10.2 * (x_11.2 * 10000000) + x_10.2 * (x_11.2 * 10000000) - 1) / (x_10.2 * (x_11.2 * 10000000))))))))))))))))))))))))))) (fun x_12 => brk (a2) (x_12 (((0 : Int), a0.Brash))) (x_12 ((x.Ridge, (100 : Int))))))))) (x_7 (false)))))))))) (x_2 ((x_4.1, true)))) (F) (((10 : Int), (250 : Int))))) (fun x_3 => join (F) (fun (x_4 : Bool) => brk (x_4) (bnd (hull_load F x 10 a2) (fun x_5 => chk (InR (a0.Class - 1)) (chk (0 ≤ a0.Class - 1 ∧ a0.Class - 1 < (↑(6 : Nat) : Int)) (x_3 (decide (x_5 ≤ [(4000 : Int), (8000 : Int), (14000 : Int), (24000 : Int), (40000 : Int), (90000 : Int)].getD (a0.Class - 1).toNat (0 : Int))))))) (x_3 (false))) (fun x_4 => bnd (hull_end F a0.Thrust) (fun x_5 => brk (decide ((10 : Int) ≤ x_5)) (bnd (hull_Ship_thrust F a0 10) (fun x_6 => bnd (hull_value F a0.Water 10) (fun x_7 => bnd (hull_value F a0.Ice x.Thick) (fun x_8 => join (F) (fun (x_9 : Int × Int) => chk (InR (a0.Slow * 10)) (chk (InR ((1000 : Int) + a0.Slow * 10)) (chk (InR (x_8.1 * ((1000 : Int) + a0.Slow * 10))) (chk (InR (x_8.1 * ((1000 : Int) + a0.Slow * 10) * x_9.2)) (chk (InR (a0.Ridge * x_9.1)) (chk (InR (a0.Ridge * x_9.1 * x_8.2)) (chk (InR (a0.Ridge * x_9.1 * x_8.2 * 100000)) (chk (InR (x_8.1 * ((1000 : Int) + a0.Slow * 10) * x_9.2 + a0.Ridge * x_9.1 * x_8.2 * 100000)) (chk (InR (x.Conc * (x_8.1 * ((1000 : Int) + a0.Slow * 10) * x_9.2 + a0.Ridge * x_9.1 * x_8.2 * 100000))) (chk (InR (x_8.2 * 10000000)) (chk (InR (x_7.1 * (x_8.2 * 10000000))) (chk (InR (x.Conc * (x_8.1 * ((1000 : Int) + a0.Slow * 10) * x_9.2 + a0.Ridge * x_9.1 * x_8.2 * 100000) * x_7.2)) (chk (InR (x_7.1 * (x_8.2 * 10000000) + x.Conc * (x_8.1 * ((1000 : Int) + a0.Slow * 10) * x_9.2 + a0.Ridge * x_9.1 * x_8.2 * 100000) * x_7.2)) (chk (InR (a0.Press * x.Press)) (chk (InR (a0.Press * x.Press * x_7.2)) (chk (InR (a0.Press * x.Press * x_7.2 * (x_8.2 * 10000000))) (chk (InR (x_7.1 * (x_8.2 * 10000000) + x.Conc * (x_8.1 * ((1000 : Int) + a0.Slow * 10) * x_9.2 + a0.Ridge * x_9.1 * x_8.2 * 100000) * x_7.2 + a0.Press * x.Press * x_7.2 * (x_8.2 * 10000000))) (chk (InR (x_7.2 * (x_8.2 * 10000000))) (chk (InR (x_7.1 * (x_8.2 * 10000000) + x.Conc * (x_8.1 * ((1000 : Int) + a0.Slow * 10) * x_9.2 + a0.Ridge * x_9.1 * x_8.2 * 100000) * x_7.2 + a0.Press * x.Press * x_7.2 * (x_8.2 * 10000000) + x_7.2 * (x_8.2 * 10000000))) (chk (InR (x_7.1 * (x_8.2 * 10000000) + x.Conc * (x_8.1 * ((1000 : Int) + a0.Slow * 10) * x_9.2 + a0.Ridge * x_9.1 * x_8.2 * 100000) * x_7.2 + a0.Press * x.Press * x_7.2 * (x_8.2 * 10000000) + x_7.2 * (x_8.2 * 10000000) - 1)) (chk (InR (x_7.2 * (x_8.2 * 10000000))) (chk ((0 ≤ x_7.1 * (x_8.2 * 10000000) + x.Conc * (x_8.1 * ((1000 : Int) + a0.Slow * 10) * x_9.2 + a0.Ridge * x_9.1 * x_8.2 * 100000) * x_7.2 + a0.Press * x.Press * x_7.2 * (x_8.2 * 10000000) + x_7.2 * (x_8.2 * 10000000) - 1 ∧ x_7.1 * (x_8.2 * 10000000) + x.Conc * (x_8.1 * ((1000 : Int) + a0.Slow * 10) * x_9.2 + a0.Ridge * x_9.1 * x_8.2 * 100000) * x_7.2 + a0.Press * x.Press * x_7.2 * (x_8.2 * 10000000) + x_7.2 * (x_8.2 * 10000000) - 1 ≤ (9223372036854775807 : Int)) ∧ (0 : Int) < x_7.2 * (x_8.2 * 10000000)) (x_4 (decide (x_6 ≥ (x_7.1 * (x_8.2 * 10000000) + x.Conc * (x_8.1 * ((1000 : Int) + a0.Slow * 10) * x_9.2 + a0.Ridge * x_9.1 * x_8.2 * 100000) * x_7.2 + a0.Press * x.Press * x_7.2 * (x_8.2 * 10000000) + x_7.2 * (x_8.2 * 10000000) - 1) / (x_7.2 * (x_8.2 * 10000000))))))))))))))))))))))))))) (fun x_9 => brk (a2) (x_9 (((0 : Int), a0.Brash))) (x_9 ((x.Ridge, (100 : Int))))))))) (x_4 (false)))))))) (fun x_1 => join (F) (fun (x_2 : Bool) => brk (!x_2) (x_1 (((0 : Int), false))) (loopC (fun (x_3 : Int × Int) => fun x_4 => brk (decide (x_3.1 < x_3.2)) (chk (InR (x_3.2 - x_3.1)) (chk (InR (x_3.2 - x_3.1 + 1)) (chk (0 ≤ x_3.2 - x_3.1 + 1 ∧ x_3.2 - x_3.1 + 1 ≤ (9223372036854775807 : Int)) (chk (InR (x_3.1 + (x_3.2 - x_3.1 + 1) / (2 : Int))) (join (F) (fun (x_5 : Bool) => brk (x_5) (x_4 ((x_3.1 + (x_3.2 - x_3.1 + 1) / (2 : Int), x_3.2))) (chk (InR (x_3.1 + (x_3.2 - x_3.1 + 1) / (2 : Int) - (1 : Int))) (x_4 ((x_3.1, x_3.1 + (x_3.2 - x_3.1 + 1) / (2 : Int) - (1 : Int)))))) (fun x_5 => bnd (hull_end F a0.Thrust) (fun x_6 => brk (decide (x_3.1 + (x_3.2 - x_3.1 + 1) / (2 : Int) ≤ x_6)) (bnd (hull_Ship_thrust F a0 (x_3.1 + (x_3.2 - x_3.1 + 1) / (2 : Int))) (fun x_7 => bnd (hull_value F a0.Water (x_3.1 + (x_3.2 - x_3.1 + 1) / (2 : Int))) (fun x_8 => bnd (hull_value F a0.Ice x.Thick) (fun x_9 => join (F) (fun (x_10 : Int × Int) => chk (InR (a0.Slow * (x_3.1 + (x_3.2 - x_3.1 + 1) / (2 : Int)))) (chk (InR ((1000 : Int) + a0.Slow * (x_3.1 + (x_3.2 - x_3.1 + 1) / (2 : Int)))) (chk (InR (x_9.1 * ((1000 : Int) + a0.Slow * (x_3.1 + (x_3.2 - x_3.1 + 1) / (2 : Int))))) (chk (InR (x_9.1 * ((1000 : Int) + a0.Slow * (x_3.1 + (x_3.2 - x_3.1 + 1) / (2 : Int))) * x_10.2)) (chk (InR (a0.Ridge * x_10.1)) (chk (InR (a0.Ridge * x_10.1 * x_9.2)) (chk (InR (a0.Ridge * x_10.1 * x_9.2 * 100000)) (chk (InR (x_9.1 * ((1000 : Int) + a0.Slow * (x_3.1 + (x_3.2 - x_3.1 + 1) / (2 : Int))) * x_10.2 + a0.Ridge * x_10.1 * x_9.2 * 100000)) (chk (InR (x.Conc * (x_9.1 * ((1000 : Int) + a0.Slow * (x_3.1 + (x_3.2 - x_3.1 + 1) / (2 : Int))) * x_10.2 + a0.Ridge * x_10.1 * x_9.2 * 100000))) (chk (InR (x_9.2 * 10000000)) (chk (InR (x_8.1 * (x_9.2 * 10000000))) (chk (InR (x.Conc * (x_9.1 * ((1000 : Int) + a0.Slow * (x_3.1 + (x_3.2 - x_3.1 + 1) / (2 : Int))) * x_10.2 + a0.Ridge * x_10.1 * x_9.2 * 100000) * x_8.2)) (chk (InR (x_8.1 * (x_9.2 * 10000000) + x.Conc * (x_9.1 * ((1000 : Int) + a0.Slow * (x_3.1 + (x_3.2 - x_3.1 + 1) / (2 : Int))) * x_10.2 + a0.Ridge * x_10.1 * x_9.2 * 100000) * x_8.2)) (chk (InR (a0.Press * x.Press)) (chk (InR (a0.Press * x.Press * x_8.2)) (chk (InR (a0.Press * x.Press * x_8.2 * (x_9.2 * 10000000))) (chk (InR (x_8.1 * (x_9.2 * 10000000) + x.Conc * (x_9.1 * ((1000 : Int) + a0.Slow * (x_3.1 + (x_3.2 - x_3.1 + 1) / (2 : Int))) * x_10.2 + a0.Ridge * x_10.1 * x_9.2 * 100000) * x_8.2 + a0.Press * x.Press * x_8.2 * (x_9.2 * 10000000))) (chk (InR (x_8.2 * (x_9.2 * 10000000))) (chk (InR (x_8.1 * (x_9.2 * 10000000) + x.Conc * (x_9.1 * ((1000 : Int) + a0.Slow * (x_3.1 + (x_3.2 - x_3.1 + 1) / (2 : Int))) * x_10.2 + a0.Ridge * x_10.1 * x_9.2 * 100000) * x_8.2 + a0.Press * x.Press * x_8.2 * (x_9.2 * 10000000) + x_8.2 * (x_9.2 * 10000000))) (chk (InR (x_8.1 * (x_9.2 * 10000000) + x.Conc * (x_9.1 * ((1000 : Int) + a0.Slow * (x_3.1 + (x_3.2 - x_3.1 + 1) / (2 : Int))) * x_10.2 + a0.Ridge * x_10.1 * x_9.2 * 100000) * x_8.2 + a0.Press * x.Press * x_8.2 * (x_9.2 * 10000000) + x_8.2 * (x_9.2 * 10000000) - 1)) (chk (InR (x_8.2 * (x_9.2 * 10000000))) (chk ((0 ≤ x_8.1 * (x_9.2 * 10000000) + x.Conc * (x_9.1 * ((1000 : Int) + a0.Slow * (x_3.1 + (x_3.2 - x_3.1 + 1) / (2 : Int))) * x_10.2 + a0.Ridge * x_10.1 * x_9.2 * 100000) * x_8.2 + a0.Press * x.Press * x_8.2 * (x_9.2 * 10000000) + x_8.2 * (x_9.2 * 10000000) - 1 ∧ x_8.1 * (x_9.2 * 10000000) + x.Conc * (x_9.1 * ((1000 : Int) + a0.Slow * (x_3.1 + (x_3.2 - x_3.1 + 1) / (2 : Int))) * x_10.2 + a0.Ridge * x_10.1 * x_9.2 * 100000) * x_8.2 + a0.Press * x.Press * x_8.2 * (x_9.2 * 10000000) + x_8.2 * (x_9.2 * 10000000) - 1 ≤ (9223372036854775807 : Int)) ∧ (0 : Int) < x_8.2 * (x_9.2 * 10000000)) (x_5 (decide (x_7 ≥ (x_8.1 * (x_9.2 * 10000000) + x.Conc * (x_9.1 * ((1000 : Int) + a0.Slow * (x_3.1 + (x_3.2 - x_3.1 + 1) / (2 : Int))) * x_10.2 + a0.Ridge * x_10.1 * x_9.2 * 100000) * x_8.2 + a0.Press * x.Press * x_8.2 * (x_9.2 * 10000000) + x_8.2 * (x_9.2 * 10000000) - 1) / (x_8.2 * (x_9.2 * 10000000))))))))))))))))))))))))))) (fun x_10 => brk (a2) (x_10 (((0 : Int), a0.Brash))) (x_10 ((x.Ridge, (100 : Int))))))))) (x_5 (false))))))))) (x_1 ((x_3.1, true)))) (F) (((0 : Int), (250 : Int))))) (fun x_2 => bnd (hull_end F a0.Thrust) (fun x_3 => brk (decide (0 ≤ x_3)) (bnd (hull_Ship_thrust F a0 0) (fun x_4 => bnd (hull_value F a0.Water 0) (fun x_5 => bnd (hull_value F a0.Ice x.Thick) (fun x_6 => join (F) (fun (x_7 : Int × Int) => chk (InR (a0.Slow * 0)) (chk (InR ((1000 : Int) + a0.Slow * 0)) (chk (InR (x_6.1 * ((1000 : Int) + a0.Slow * 0))) (chk (InR (x_6.1 * ((1000 : Int) + a0.Slow * 0) * x_7.2)) (chk (InR (a0.Ridge * x_7.1)) (chk (InR (a0.Ridge * x_7.1 * x_6.2)) (chk (InR (a0.Ridge * x_7.1 * x_6.2 * 100000)) (chk (InR (x_6.1 * ((1000 : Int) + a0.Slow * 0) * x_7.2 + a0.Ridge * x_7.1 * x_6.2 * 100000)) (chk (InR (x.Conc * (x_6.1 * ((1000 : Int) + a0.Slow * 0) * x_7.2 + a0.Ridge * x_7.1 * x_6.2 * 100000))) (chk (InR (x_6.2 * 10000000)) (chk (InR (x_5.1 * (x_6.2 * 10000000))) (chk (InR (x.Conc * (x_6.1 * ((1000 : Int) + a0.Slow * 0) * x_7.2 + a0.Ridge * x_7.1 * x_6.2 * 100000) * x_5.2)) (chk (InR (x_5.1 * (x_6.2 * 10000000) + x.Conc * (x_6.1 * ((1000 : Int) + a0.Slow * 0) * x_7.2 + a0.Ridge * x_7.1 * x_6.2 * 100000) * x_5.2)) (chk (InR (a0.Press * x.Press)) (chk (InR (a0.Press * x.Press * x_5.2)) (chk (InR (a0.Press * x.Press * x_5.2 * (x_6.2 * 10000000))) (chk (InR (x_5.1 * (x_6.2 * 10000000) + x.Conc * (x_6.1 * ((1000 : Int) + a0.Slow * 0) * x_7.2 + a0.Ridge * x_7.1 * x_6.2 * 100000) * x_5.2 + a0.Press * x.Press * x_5.2 * (x_6.2 * 10000000))) (chk (InR (x_5.2 * (x_6.2 * 10000000))) (chk (InR (x_5.1 * (x_6.2 * 10000000) + x.Conc * (x_6.1 * ((1000 : Int) + a0.Slow * 0) * x_7.2 + a0.Ridge * x_7.1 * x_6.2 * 100000) * x_5.2 + a0.Press * x.Press * x_5.2 * (x_6.2 * 10000000) + x_5.2 * (x_6.2 * 10000000))) (chk (InR (x_5.1 * (x_6.2 * 10000000) + x.Conc * (x_6.1 * ((1000 : Int) + a0.Slow * 0) * x_7.2 + a0.Ridge * x_7.1 * x_6.2 * 100000) * x_5.2 + a0.Press * x.Press * x_5.2 * (x_6.2 * 10000000) + x_5.2 * (x_6.2 * 10000000) - 1)) (chk (InR (x_5.2 * (x_6.2 * 10000000))) (chk ((0 ≤ x_5.1 * (x_6.2 * 10000000) + x.Conc * (x_6.1 * ((1000 : Int) + a0.Slow * 0) * x_7.2 + a0.Ridge * x_7.1 * x_6.2 * 100000) * x_5.2 + a0.Press * x.Press * x_5.2 * (x_6.2 * 10000000) + x_5.2 * (x_6.2 * 10000000) - 1 ∧ x_5.1 * (x_6.2 * 10000000) + x.Conc * (x_6.1 * ((1000 : Int) + a0.Slow * 0) * x_7.2 + a0.Ridge * x_7.1 * x_6.2 * 100000) * x_5.2 + a0.Press * x.Press * x_5.2 * (x_6.2 * 10000000) + x_5.2 * (x_6.2 * 10000000) - 1 ≤ (9223372036854775807 : Int)) ∧ (0 : Int) < x_5.2 * (x_6.2 * 10000000)) (x_2 (decide (x_4 ≥ (x_5.1 * (x_6.2 * 10000000) + x.Conc * (x_6.1 * ((1000 : Int) + a0.Slow * 0) * x_7.2 + a0.Ridge * x_7.1 * x_6.2 * 100000) * x_5.2 + a0.Press * x.Press * x_5.2 * (x_6.2 * 10000000) + x_5.2 * (x_6.2 * 10000000) - 1) / (x_5.2 * (x_6.2 * 10000000))))))))))))))))))))))))))) (fun x_7 => brk (a2) (x_7 (((0 : Int), a0.Brash))) (x_7 ((x.Ridge, (100 : Int))))))))) (x_2 (false))))))
def s70 (F : Nat) : CS E.G := ⟨70, [.ptr 9, .v 15 true, .v 1 false], [.v 0 false [], .v 0 false []], fun x => hull_Ship_safe F x.1 x.2.1 x.2.2.1⟩
theorem c70 (F : Nat) : CSok E gl (s70 F) := mkC (cx := ⟨[s88 F, s113 F, s121 F, s74 F, s123 F], [(89, Tryz.f89), (104, Tryz.f104), (105, Tryz.f105), (122, Tryz.f122), (90, Tryz.f90), (106, Tryz.f106), (107, Tryz.f107)], F, [], []⟩) hf70 (by kernel_rfl) rfl (allC (c88 F) (allC (c113 F) (allC (c121 F) (allC (c74 F) (allC (c123 F) all0))))) ⟨(inlC hf89 en89 (inlC hf104 en104 (inlC hf105 en105 (inlC hf122 en122 (inlC hf90 en90 (inlC hf106 en106 (inlC hf107 en107 inl0))))))), all0⟩ (.p (.w ⟨[.i, .b], [], [0, 1], [(0, .t [.i IntKind.i64, .b])], [], [], [], 5⟩ (.w ⟨[.b], [], [0, 1], [(0, .b)], [], [], [], 5⟩ (.s (.p (.k (.k (.k (.k (.j ⟨[.i, .i], [16, 32, 128, 96, 80, 112], [0, 1, 7], [(160, .i IntKind.i64), (144, .i IntKind.i64)], [], [], [], 10⟩ .n .n)))))) .n) (.c .n (.l ⟨[.i, .i], [32], [0, 1], [(0, .i IntKind.i64), (16, .i IntKind.i64)], [], [], [], 5⟩ (.c (.w ⟨[.b], [], [0, 1], [(0, .b)], [], [], [], 5⟩ (.s (.p (.k (.k (.k (.k (.j ⟨[.i, .i], [16, 32, 128, 96, 80, 112], [0, 1, 7], [(160, .i IntKind.i64), (144, .i IntKind.i64)], [], [], [], 10⟩ .n .n)))))) .n) .n) .n)))) (.c .n (.p (.w ⟨[.i, .b], [], [0, 1, 5], [(0, .t [.i IntKind.i64, .b])], [], [], [], 6⟩ (.w ⟨[.b], [], [0, 1, 5], [(0, .b)], [], [], [], 6⟩ (.w ⟨[.b], [], [0, 1], [(0, .b)], [], [], [], 6⟩ (.s (.p (.k (.k (.k (.k (.j ⟨[.i, .i], [16, 32, 128, 96, 80, 112], [0, 1, 8], [(160, .i IntKind.i64), (144, .i IntKind.i64)], [], [], [], 11⟩ .n .n)))))) .n) (.s (.p .n) .n)) (.c .n (.l ⟨[.i, .i], [32], [0, 1, 5], [(0, .i IntKind.i64), (16, .i IntKind.i64)], [], [], [], 6⟩ (.c (.w ⟨[.b], [], [0, 1, 5], [(0, .b)], [], [], [], 6⟩ (.w ⟨[.b], [], [0, 1], [(0, .b)], [], [], [], 6⟩ (.s (.p (.k (.k (.k (.k (.j ⟨[.i, .i], [16, 32, 128, 96, 80, 112], [0, 1, 8], [(160, .i IntKind.i64), (144, .i IntKind.i64)], [], [], [], 11⟩ .n .n)))))) .n) (.s (.p .n) .n)) .n) .n)))) .n))))) rfl (by kernel_rfl)
theorem hf49 : HF 49 Tryz.f49 := hK (by kernel_rfl)
def hull_Safe (F : Nat) (a0 : Ship) (a1 : Cell) (a2 : Bool) : Option (Int × Int) :=
 bnd (hull_met F a0 a1) (fun x => brk (x != (0 : Int)) (some (((0 : Int), x))) (bnd (hull_Ship_safe F a0 a1 a2) (fun x_1 => some (x_1))))
def s49 (F : Nat) : CS E.G := ⟨49, [.v 9 true, .v 15 true, .v 1 false], [.v 0 false [], .v 0 false []], fun x => hull_Safe F x.1 x.2.1 x.2.2.1⟩
theorem c49 (F : Nat) : CSok E gl (s49 F) := mkC (cx := ⟨[s69 F, s70 F], [], F, [], []⟩) hf49 (by kernel_rfl) rfl (allC (c69 F) (allC (c70 F) all0)) ⟨inl0, all0⟩ .n rfl (by kernel_rfl)
theorem hf19 : HF 19 Tryz.f19 := hK (by kernel_rfl)
def convoy_Convoy_most (F : Nat) (a0 : Convoy) (a1 : Cell) : Option (Int) :=
 chk ([a0.Breaker].length + a0.Ships.length ≤ (1000000000 : Nat)) (loopC (fun (x : Int × Int) => fun x_1 => brk (decide (x.2 < (↑([a0.Breaker] ++ a0.Ships).length : Int))) (chk (0 ≤ x.2 ∧ x.2 < (↑([a0.Breaker] ++ a0.Ships).length : Int)) (bnd (hull_Safe F (([a0.Breaker] ++ a0.Ships).getD (Int.toNat x.2) (Member.mk (Ship.mk 0 0 0 0 [] [] [] 0 0 0 0) [] (0 : Int) (0 : Int) (0 : Int))).Ship a1 (decide (x.2 > (0 : Int)))) (fun x_2 => brk (x_2.2 != (0 : Int)) (some ((0 : Int))) (chk (InR (x.2 + 1)) (x_1 ((if x_2.1 < x.1 then x_2.1 else x.1, x.2 + 1))))))) (some (x.1))) (F) (((250 : Int), (0 : Int))))
def s19 (F : Nat) : CS E.G := ⟨19, [.ptr 13, .v 15 true], [.v 0 false []], fun x => convoy_Convoy_most F x.1 x.2.1⟩
theorem c19 (F : Nat) : CSok E gl (s19 F) := mkC (cx := ⟨[s49 F], [(20, Tryz.f20)], F, [], []⟩) hf19 (by kernel_rfl) rfl (allC (c49 F) all0) ⟨(inlC hf20 en20 inl0), all0⟩ (.p (.l ⟨[.i, .i], [192, 48, 176], [0, 2, 9], [(80, .i IntKind.i64), (208, .i IntKind.i64)], [], [], [], 10⟩ (.c .n .n))) rfl (by kernel_rfl)
theorem hf51 : HF 51 Tryz.f51 := hK (by kernel_rfl)
def convoy_way (F : Nat) (a0 : Int) (a1 : Int) : Option (Int × Int) :=
 chk (InR ((463 : Int) * a0)) (chk (InR ((463 : Int) * a0 * a1)) (chk (0 ≤ (463 : Int) * a0 * a1 ∧ (463 : Int) * a0 * a1 ≤ 9223372036854775807) (chk (InR ((463 : Int) * a0 * a1 + 8999)) (chk (0 ≤ (463 : Int) * a0 * a1 + 8999 ∧ (463 : Int) * a0 * a1 + 8999 ≤ (9223372036854775807 : Int)) (some (((463 : Int) * a0 * a1 / (9000 : Int), ((463 : Int) * a0 * a1 + 8999) / (9000 : Int))))))))
def s51 (F : Nat) : CS E.G := ⟨51, [.v 0 false, .v 0 false], [.v 0 false [], .v 0 false []], fun x => convoy_way F x.1 x.2.1⟩
theorem c51 (F : Nat) : CSok E gl (s51 F) := mkC (cx := ⟨[], [], F, [], []⟩) hf51 (by kernel_rfl) rfl all0 ⟨inl0, all0⟩ .n rfl (by kernel_rfl)
theorem hf21 : HF 21 Tryz.f21 := hK (by kernel_rfl)
def convoy_Member_halt (F : Nat) (a0 : Member) (a1 : Int) : Option (Span) :=
 bnd (hull_At F a0.Stop a1) (fun x => bnd (convoy_way F a1 a0.Delay) (fun x_1 => chk ((0 ≤ x.1.N ∧ x.1.N ≤ 9223372036854775807) ∧ (0 : Int) < x.1.D) (chk (InR (x.1.N + x.1.D)) (chk (InR (x.1.N + x.1.D - 1)) (chk ((0 ≤ x.1.N + x.1.D - 1 ∧ x.1.N + x.1.D - 1 ≤ (9223372036854775807 : Int)) ∧ (0 : Int) < x.1.D) (chk (InR (x_1.2 + (x.1.N + x.1.D - 1) / x.1.D)) (some (Span.mk (if x.1.N / x.1.D < a0.Short then x.1.N / x.1.D else a0.Short) (x_1.2 + (x.1.N + x.1.D - 1) / x.1.D)))))))))
def s21 (F : Nat) : CS E.G := ⟨21, [.v 10 true, .v 0 false], [.v 14 true []], fun x => convoy_Member_halt F x.1 x.2.1⟩
theorem c21 (F : Nat) : CSok E gl (s21 F) := mkC (cx := ⟨[s50 F, s51 F], [], F, [], []⟩) hf21 (by kernel_rfl) rfl (allC (c50 F) (allC (c51 F) all0)) ⟨inl0, all0⟩ .n rfl (by kernel_rfl)
theorem hf22 : HF 22 Tryz.f22 := hK (by kernel_rfl)
theorem en22 : Proofs.Enters Tryz.prog 22 := mkE hf22 (by kernel_rfl) rfl
theorem hf23 : HF 23 Tryz.f23 := hK (by kernel_rfl)
theorem en23 : Proofs.Enters Tryz.prog 23 := mkE hf23 (by kernel_rfl) rfl
theorem hf6 : HF 6 Tryz.f6 := hK (by kernel_rfl)
def convoy_Best (F : Nat) (a0 : Convoy) (a1 : Cell) : Option ((List Int) × Int × Int) :=
 bnd (convoy_met F a0 a1) (fun x => brk (x != (0 : Int)) (some (([], (0 : Int), x))) (join (F) (fun (x_1 : List (List Int)) => bnd (convoy_Convoy_most F a0 a1) (fun x_2 => join (F) (fun (x_3 : Int × List Int × Int) => brk (decide (x_3.2.2 < 0)) (some (([], (0 : Int), (4 : Int)))) (some ((x_3.2.1, x_3.1, (0 : Int))))) (fun x_3 => loopC (fun (x_4 : Int × List Int × Int) => fun x_5 => brk (decide (x_4.1 ≥ (10 : Int))) (chk ([a0.Breaker].length + a0.Ships.length ≤ (1000000000 : Nat)) (loopC (fun (x_6 : Int × List Span) => fun x_7 => brk (decide (x_6.1 < (↑([a0.Breaker] ++ a0.Ships).length : Int))) (chk (0 ≤ x_6.1 ∧ x_6.1 < (↑([a0.Breaker] ++ a0.Ships).length : Int)) (bnd (convoy_Member_halt F (([a0.Breaker] ++ a0.Ships).getD (Int.toNat x_6.1) (Member.mk (Ship.mk 0 0 0 0 [] [] [] 0 0 0 0) [] (0 : Int) (0 : Int) (0 : Int))) x_4.1) (fun x_8 => chk (List.length x_6.2 + [x_8].length ≤ (1000000000 : Nat)) (chk (InR (x_6.1 + 1)) (x_7 ((x_6.1 + 1, x_6.2 ++ [x_8]))))))) (chk (0 ≤ a1.Press.Hi ∧ a1.Press.Hi < (↑(4 : Nat) : Int)) (chk (InR ((60 : Int) * [a0.Close.a0, a0.Close.a1, a0.Close.a2, a0.Close.a3].getD a1.Press.Hi.toNat 0)) (bnd (convoy_way F x_4.1 ((60 : Int) * [a0.Close.a0, a0.Close.a1, a0.Close.a2, a0.Close.a3].getD a1.Press.Hi.toNat 0)) (fun x_8 => loopC (fun (x_9 : List Int × Int × Int) => fun x_10 => brk (decide (x_9.2.2 < (↑(List.length x_1) : Int))) (join (F) (fun (x_11 : List Int × Int) => chk (InR (x_9.2.2 + 1)) (x_10 ((x_11.1, x_11.2, x_9.2.2 + 1)))) (fun x_11 => chk (0 ≤ x_9.2.2 ∧ x_9.2.2 < (↑(List.length x_1) : Int)) (loopC (fun (x_12 : Int × Int × Int) => fun x_13 => brk (decide (x_12.2.1 < (↑(List.length (List.getD x_1 (Int.toNat x_9.2.2) [])) : Int))) (chk (0 ≤ x_12.2.1 ∧ x_12.2.1 < (↑(List.length (List.getD x_1 (Int.toNat x_9.2.2) [])) : Int)) (chk (InR (List.getD (List.getD x_1 (Int.toNat x_9.2.2) []) (Int.toNat x_12.2.1) (0 : Int) + (1 : Int))) (chk ((0 : Int) ≤ List.getD (List.getD x_1 (Int.toNat x_9.2.2) []) (Int.toNat x_12.2.1) (0 : Int) + (1 : Int) ∧ List.getD (List.getD x_1 (Int.toNat x_9.2.2) []) (Int.toNat x_12.2.1) (0 : Int) + (1 : Int) < (↑(List.length x_6.2) : Int)) (chk (InR (x_12.2.2 + 1)) (chk (0 ≤ x_12.2.2 + 1 ∧ x_12.2.2 + 1 < (↑(List.length x_6.2) : Int)) (chk (InR ((List.getD x_6.2 (List.getD (List.getD x_1 (Int.toNat x_9.2.2) []) (Int.toNat x_12.2.1) (0 : Int) + (1 : Int)).toNat (Span.mk 0 0)).Hi - (List.getD x_6.2 (x_12.2.2 + 1).toNat (Span.mk 0 0)).Lo)) (chk (InR (a0.Clear + if (List.getD x_6.2 (List.getD (List.getD x_1 (Int.toNat x_9.2.2) []) (Int.toNat x_12.2.1) (0 : Int) + (1 : Int)).toNat (Span.mk 0 0)).Hi - (List.getD x_6.2 (x_12.2.2 + 1).toNat (Span.mk 0 0)).Lo > (0 : Int) then (List.getD x_6.2 (List.getD (List.getD x_1 (Int.toNat x_9.2.2) []) (Int.toNat x_12.2.1) (0 : Int) + (1 : Int)).toNat (Span.mk 0 0)).Hi - (List.getD x_6.2 (x_12.2.2 + 1).toNat (Span.mk 0 0)).Lo else (0 : Int))) (chk ((0 : Int) ≤ List.getD (List.getD x_1 (Int.toNat x_9.2.2) []) (Int.toNat x_12.2.1) (0 : Int) ∧ List.getD (List.getD x_1 (Int.toNat x_9.2.2) []) (Int.toNat x_12.2.1) (0 : Int) < (↑a0.Ships.length : Int)) (chk (InR ((a0.Clear + if (List.getD x_6.2 (List.getD (List.getD x_1 (Int.toNat x_9.2.2) []) (Int.toNat x_12.2.1) (0 : Int) + (1 : Int)).toNat (Span.mk 0 0)).Hi - (List.getD x_6.2 (x_12.2.2 + 1).toNat (Span.mk 0 0)).Lo > (0 : Int) then (List.getD x_6.2 (List.getD (List.getD x_1 (Int.toNat x_9.2.2) []) (Int.toNat x_12.2.1) (0 : Int) + (1 : Int)).toNat (Span.mk 0 0)).Hi - (List.getD x_6.2 (x_12.2.2 + 1).toNat (Span.mk 0 0)).Lo else (0 : Int)) + (a0.Ships.getD (Int.toNat (List.getD (List.getD x_1 (Int.toNat x_9.2.2) []) (Int.toNat x_12.2.1) (0 : Int))) (Member.mk (Ship.mk 0 0 0 0 [] [] [] 0 0 0 0) [] (0 : Int) (0 : Int) (0 : Int))).Length)) (chk (InR (x_12.1 + ((a0.Clear + if (List.getD x_6.2 (List.getD (List.getD x_1 (Int.toNat x_9.2.2) []) (Int.toNat x_12.2.1) (0 : Int) + (1 : Int)).toNat (Span.mk 0 0)).Hi - (List.getD x_6.2 (x_12.2.2 + 1).toNat (Span.mk 0 0)).Lo > (0 : Int) then (List.getD x_6.2 (List.getD (List.getD x_1 (Int.toNat x_9.2.2) []) (Int.toNat x_12.2.1) (0 : Int) + (1 : Int)).toNat (Span.mk 0 0)).Hi - (List.getD x_6.2 (x_12.2.2 + 1).toNat (Span.mk 0 0)).Lo else (0 : Int)) + (a0.Ships.getD (Int.toNat (List.getD (List.getD x_1 (Int.toNat x_9.2.2) []) (Int.toNat x_12.2.1) (0 : Int))) (Member.mk (Ship.mk 0 0 0 0 [] [] [] 0 0 0 0) [] (0 : Int) (0 : Int) (0 : Int))).Length))) (chk (InR (x_12.2.1 + 1)) (x_13 ((x_12.1 + ((a0.Clear + if (List.getD x_6.2 (List.getD (List.getD x_1 (Int.toNat x_9.2.2) []) (Int.toNat x_12.2.1) (0 : Int) + (1 : Int)).toNat (Span.mk 0 0)).Hi - (List.getD x_6.2 (x_12.2.2 + 1).toNat (Span.mk 0 0)).Lo > (0 : Int) then (List.getD x_6.2 (List.getD (List.getD x_1 (Int.toNat x_9.2.2) []) (Int.toNat x_12.2.1) (0 : Int) + (1 : Int)).toNat (Span.mk 0 0)).Hi - (List.getD x_6.2 (x_12.2.2 + 1).toNat (Span.mk 0 0)).Lo else (0 : Int)) + (a0.Ships.getD (Int.toNat (List.getD (List.getD x_1 (Int.toNat x_9.2.2) []) (Int.toNat x_12.2.1) (0 : Int))) (Member.mk (Ship.mk 0 0 0 0 [] [] [] 0 0 0 0) [] (0 : Int) (0 : Int) (0 : Int))).Length), x_12.2.1 + 1, List.getD (List.getD x_1 (Int.toNat x_9.2.2) []) (Int.toNat x_12.2.1) (0 : Int))))))))))))))) (brk (decide (x_12.1 ≤ x_8.1) && (decide (x_9.2.1 < 0) || decide (x_12.1 < x_9.2.1))) (x_11 ((List.getD x_1 (Int.toNat x_9.2.2) [], x_12.1))) (x_11 ((x_9.1, x_9.2.1))))) (F) (((0 : Int), (0 : Int), (-1 : Int)))))) (brk (decide (x_9.2.1 ≥ (0 : Int))) (x_3 ((x_4.1, x_9.1, x_9.2.1))) (chk (InR (x_4.1 - 1)) (x_5 ((x_4.1 - 1, x_9.1, x_9.2.1)))))) (F) ((x_4.2.1, x_4.2.2, (0 : Int)))))))) (F) (((0 : Int), [])))) (x_3 (x_4))) (F) ((x_2, [], (-1 : Int)))))) (fun x_1 => brk ((↑(0 : Nat) : Int) == (↑a0.Ships.length : Int)) (chk (([[]] : List (List Int)).length ≤ (1000000000 : Nat)) (x_1 ([[]]))) (loopC (fun (x_2 : Int × List (List Int)) => fun x_3 => brk (decide (x_2.1 < (↑a0.Ships.length : Int))) (bnd (slices_Contains_int F [] x_2.1) (fun x_4 => brk (!x_4) (bnd (slices_Clone_int F []) (fun x_5 => chk (List.length x_5 + [x_2.1].length ≤ (1000000000 : Nat)) (join (F) (fun (x_6 : List (List Int)) => chk (InR (x_2.1 + 1)) (x_3 ((x_2.1 + 1, x_6)))) (fun x_6 => brk ((↑(x_5 ++ [x_2.1]).length : Int) == (↑a0.Ships.length : Int)) (chk (List.length x_2.2 + [x_5 ++ [x_2.1]].length ≤ (1000000000 : Nat)) (x_6 (x_2.2 ++ [x_5 ++ [x_2.1]]))) (loopC (fun (x_7 : Int × List (List Int)) => fun x_8 => brk (decide (x_7.1 < (↑a0.Ships.length : Int))) (bnd (slices_Contains_int F (x_5 ++ [x_2.1]) x_7.1) (fun x_9 => brk (!x_9) (bnd (slices_Clone_int F (x_5 ++ [x_2.1])) (fun x_10 => chk (List.length x_10 + [x_7.1].length ≤ (1000000000 : Nat)) (join (F) (fun (x_11 : List (List Int)) => chk (InR (x_7.1 + 1)) (x_8 ((x_7.1 + 1, x_11)))) (fun x_11 => brk ((↑(x_10 ++ [x_7.1]).length : Int) == (↑a0.Ships.length : Int)) (chk (List.length x_7.2 + [x_10 ++ [x_7.1]].length ≤ (1000000000 : Nat)) (x_11 (x_7.2 ++ [x_10 ++ [x_7.1]]))) (loopC (fun (x_12 : Int × List (List Int)) => fun x_13 => brk (decide (x_12.1 < (↑a0.Ships.length : Int))) (bnd (slices_Contains_int F (x_10 ++ [x_7.1]) x_12.1) (fun x_14 => brk (!x_14) (bnd (slices_Clone_int F (x_10 ++ [x_7.1])) (fun x_15 => chk (List.length x_15 + [x_12.1].length ≤ (1000000000 : Nat)) (join (F) (fun (x_16 : List (List Int)) => chk (InR (x_12.1 + 1)) (x_13 ((x_12.1 + 1, x_16)))) (fun x_16 => brk ((↑(x_15 ++ [x_12.1]).length : Int) == (↑a0.Ships.length : Int)) (chk (List.length x_12.2 + [x_15 ++ [x_12.1]].length ≤ (1000000000 : Nat)) (x_16 (x_12.2 ++ [x_15 ++ [x_12.1]]))) (loopC (fun (x_17 : Int × List (List Int)) => fun x_18 => brk (decide (x_17.1 < (↑a0.Ships.length : Int))) (bnd (slices_Contains_int F (x_15 ++ [x_12.1]) x_17.1) (fun x_19 => brk (!x_19) (bnd (slices_Clone_int F (x_15 ++ [x_12.1])) (fun x_20 => chk (List.length x_20 + [x_17.1].length ≤ (1000000000 : Nat)) (join (F) (fun (x_21 : List (List Int)) => chk (InR (x_17.1 + 1)) (x_18 ((x_17.1 + 1, x_21)))) (fun x_21 => brk ((↑(x_20 ++ [x_17.1]).length : Int) == (↑a0.Ships.length : Int)) (chk (List.length x_17.2 + [x_20 ++ [x_17.1]].length ≤ (1000000000 : Nat)) (x_21 (x_17.2 ++ [x_20 ++ [x_17.1]]))) (loopC (fun (x_22 : Int × List (List Int)) => fun x_23 => brk (decide (x_22.1 < (↑a0.Ships.length : Int))) (bnd (slices_Contains_int F (x_20 ++ [x_17.1]) x_22.1) (fun x_24 => brk (!x_24) (bnd (slices_Clone_int F (x_20 ++ [x_17.1])) (fun x_25 => chk (List.length x_25 + [x_22.1].length ≤ (1000000000 : Nat)) (brk ((↑(x_25 ++ [x_22.1]).length : Int) == (↑a0.Ships.length : Int)) (chk (List.length x_22.2 + [x_25 ++ [x_22.1]].length ≤ (1000000000 : Nat)) (chk (InR (x_22.1 + 1)) (x_23 ((x_22.1 + 1, x_22.2 ++ [x_25 ++ [x_22.1]]))))) (none)))) (chk (InR (x_22.1 + 1)) (x_23 ((x_22.1 + 1, x_22.2)))))) (x_21 (x_22.2))) (F) (((0 : Int), x_17.2))))))) (chk (InR (x_17.1 + 1)) (x_18 ((x_17.1 + 1, x_17.2)))))) (x_16 (x_17.2))) (F) (((0 : Int), x_12.2))))))) (chk (InR (x_12.1 + 1)) (x_13 ((x_12.1 + 1, x_12.2)))))) (x_11 (x_12.2))) (F) (((0 : Int), x_7.2))))))) (chk (InR (x_7.1 + 1)) (x_8 ((x_7.1 + 1, x_7.2)))))) (x_6 (x_7.2))) (F) (((0 : Int), x_2.2))))))) (chk (InR (x_2.1 + 1)) (x_3 ((x_2.1 + 1, x_2.2)))))) (x_1 (x_2.2))) (F) (((0 : Int), []))))))
def s6 (F : Nat) : CS E.G := ⟨6, [.v 13 true, .v 15 true], [.r 16 false, .v 0 false [], .v 0 false []], fun x => convoy_Best F x.1 x.2.1⟩
theorem c6 (F : Nat) : CSok E gl (s6 F) := mkC (cx := ⟨[s17 F, s47 F, s48 F, s19 F, s21 F, s51 F], [(18, Tryz.f18), (45, Tryz.f45), (46, Tryz.f46), (20, Tryz.f20), (22, Tryz.f22), (23, Tryz.f23)], F, [], []⟩) hf6 (by kernel_rfl) rfl (allC (c17 F) (allC (c47 F) (allC (c48 F) (allC (c19 F) (allC (c21 F) (allC (c51 F) all0)))))) ⟨(inlC hf18 en18 (inlC hf45 en45 (inlC hf46 en46 (inlC hf20 en20 (inlC hf22 en22 (inlC hf23 en23 inl0)))))), all0⟩ (.c .n (.p (.w ⟨[.l 16], [], [0, 1, 3, 7, 11, 5, 9, 2, 4, 8, 12, 6], [(0, .v (.bool true))], [], [(8, 0, .h 13 38 16)], [], 14⟩ (.c (.p .n) (.l ⟨[.i, .l 16], [0, 224, 48], [0, 1, 3, 7, 11, 5, 9, 2, 4, 8, 12, 6], [(240, .i IntKind.i64)], [], [(8, 0, .h 13 38 16)], [], 14⟩ (.c (.s (.w ⟨[.l 16], [], [0, 1, 3, 7, 11, 5, 9, 2, 4, 8, 12, 6], [(0, .v (.bool true))], [], [(8, 0, .h 17 38 16)], [], 18⟩ (.c (.p .n) (.l ⟨[.i, .l 16], [0, 224, 48], [0, 1, 3, 7, 11, 5, 9, 2, 4, 8, 16, 12, 6], [(240, .i IntKind.i64)], [], [(8, 0, .h 17 38 16)], [], 18⟩ (.c (.s (.w ⟨[.l 16], [], [0, 1, 3, 7, 11, 5, 9, 2, 4, 8, 12, 6], [(0, .v (.bool true))], [], [(8, 0, .h 21 38 16)], [], 22⟩ (.c (.p .n) (.l ⟨[.i, .l 16], [0, 224, 48], [0, 1, 3, 7, 11, 5, 9, 2, 4, 8, 12, 20, 6], [(240, .i IntKind.i64)], [], [(8, 0, .h 21 38 16)], [], 22⟩ (.c (.s (.w ⟨[.l 16], [], [0, 1, 3, 7, 11, 5, 9, 2, 4, 8, 12, 6], [(0, .v (.bool true))], [], [(8, 0, .h 25 38 16)], [], 26⟩ (.c (.p .n) (.l ⟨[.i, .l 16], [0, 224, 48], [0, 1, 3, 7, 11, 5, 9, 2, 4, 8, 24, 12, 6], [(240, .i IntKind.i64)], [], [(8, 0, .h 25 38 16)], [], 26⟩ (.c (.s (.w ⟨[.l 16], [], [0, 1, 3, 7, 11, 5, 9, 2, 4, 8, 12, 6], [(0, .v (.bool true))], [], [(8, 0, .h 29 38 16)], [], 30⟩ (.c (.p .n) (.l ⟨[.i, .l 16], [0, 224, 48], [0, 1, 3, 7, 11, 5, 9, 2, 4, 8, 12, 28, 6], [(240, .i IntKind.i64)], [], [(8, 0, .h 29 38 16)], [], 30⟩ (.c (.s (.p (.c (.p .n) (.u 0 .n))) .n) .n))) .n) .n) .n))) .n) .n) .n))) .n) .n) .n))) .n) .n) .n))) (.k (.k (.k (.k (.j ⟨[.i, .l 0, .i], [], [0], [(192, .i IntKind.i64), (160, .x 14 0), (176, .i IntKind.i64)], [], [], [], 15⟩ (.l ⟨[.i, .l 0, .i], [32, 128, 48], [0, 6, 8, 7, 5, 4, 3, 2, 1, 13], [(192, .i IntKind.i64), (160, .x 14 0), (176, .i IntKind.i64)], [], [], [], 15⟩ (.c (.p (.l ⟨[.i, .l 14], [32, 128, 192, 160, 736, 48, 208, 720, 176], [0, 6, 8, 14, 7, 15, 17, 5, 4, 3, 2, 1, 13], [(752, .i IntKind.i64)], [], [(15, 0, .h 18 34 14)], [], 19⟩ (.c .n (.p (.l ⟨[.l 0, .i, .i], [32, 128, 256, 192, 1056, 48, 272, 1040], [0, 6, 8, 15, 7, 13, 5, 4, 3, 2, 1, 18], [(160, .x 20 0), (176, .i IntKind.i64), (1072, .i IntKind.i64)], [], [], [], 21⟩ (.c (.j ⟨[.l 0, .i], [32, 128, 256, 192, 1056, 48, 272, 1040, 1072], [0, 6, 8, 15, 7, 13, 5, 4, 3, 2, 1, 18], [(160, .x 21 0), (176, .i IntKind.i64)], [], [], [], 22⟩ (.l ⟨[.i, .i, .i], [32, 128, 256, 1152, 192, 160, 1056, 48, 272, 1040, 176, 304, 1072, 1136], [0, 6, 8, 15, 20, 7, 13, 21, 5, 4, 3, 2, 1, 18], [(320, .i IntKind.i64), (1168, .i IntKind.i64), (336, .i IntKind.i64)], [], [], [], 22⟩ (.c (.p .n) .n)) .n) .n)))))) .n)) .n)))))))) rfl (by kernel_rfl)
theorem hf80 : HF 80 Tryz.f80 := hK (by kernel_rfl)
theorem en80 : Proofs.Enters Tryz.prog 80 := mkE hf80 (by kernel_rfl) rfl
theorem hf55 : HF 55 Tryz.f55 := hK (by kernel_rfl)
theorem en55 : Proofs.Enters Tryz.prog 55 := mkE hf55 (by kernel_rfl) rfl
theorem hf63 : HF 63 Tryz.f63 := hK (by kernel_rfl)
def cmp_isNaN_int (F : Nat) (a0 : Int) : Option (Bool) :=
 some (a0 != a0)
def s63 (F : Nat) : CS E.G := ⟨63, [.v 0 false], [.v 1 false []], fun x => cmp_isNaN_int F x.1⟩
theorem c63 (F : Nat) : CSok E gl (s63 F) := mkC (cx := ⟨[], [], F, [], []⟩) hf63 (by kernel_rfl) rfl all0 ⟨inl0, all0⟩ .n rfl (by kernel_rfl)
theorem hf98 : HF 98 Tryz.f98 := hK (by kernel_rfl)
def cmp_Less_int (F : Nat) (a0 : Int) (a1 : Int) : Option (Bool) :=
 bnd (cmp_isNaN_int F a0) (fun x => bnd (brk x (cmp_isNaN_int F a1) (some false)) (fun x_1 => some (x && !x_1 || decide (a0 < a1))))
def s98 (F : Nat) : CS E.G := ⟨98, [.v 0 false, .v 0 false], [.v 1 false []], fun x => cmp_Less_int F x.1 x.2.1⟩
theorem c98 (F : Nat) : CSok E gl (s98 F) := mkC (cx := ⟨[s63 F], [], F, [], []⟩) hf98 (by kernel_rfl) rfl (allC (c63 F) all0) ⟨inl0, all0⟩ .n rfl (by kernel_rfl)
theorem hf92 : HF 92 Tryz.f92 := hK (by kernel_rfl)
theorem en92 : Proofs.Enters Tryz.prog 92 := mkE hf92 (by kernel_rfl) rfl
theorem hf81 : HF 81 Tryz.f81 := hK (by kernel_rfl)
theorem en81 : Proofs.Enters Tryz.prog 81 := mkE hf81 (by kernel_rfl) rfl
theorem hf56 : HF 56 Tryz.f56 := hK (by kernel_rfl)
theorem en56 : Proofs.Enters Tryz.prog 56 := mkE hf56 (by kernel_rfl) rfl
theorem hf28 : HF 28 Tryz.f28 := hK (by kernel_rfl)
theorem en28 : Proofs.Enters Tryz.prog 28 := mkE hf28 (by kernel_rfl) rfl
theorem hf57 : HF 57 Tryz.f57 := hK (by kernel_rfl)
theorem en57 : Proofs.Enters Tryz.prog 57 := mkE hf57 (by kernel_rfl) rfl
theorem hf29 : HF 29 Tryz.f29 := hK (by kernel_rfl)
theorem en29 : Proofs.Enters Tryz.prog 29 := mkE hf29 (by kernel_rfl) rfl
theorem hf30 : HF 30 Tryz.f30 := hK (by kernel_rfl)
def slices_Equal_int (F : Nat) (a0 : List Int) (a1 : List Int) : Option (Bool) :=
 brk ((↑a0.length : Int) != (↑a1.length : Int)) (some (false)) (loopC (fun (x : Int) => fun x_1 => brk (decide (x < (↑a0.length : Int))) (chk (0 ≤ x ∧ x < (↑a0.length : Int)) (chk (0 ≤ x ∧ x < (↑a1.length : Int)) (brk (a0.getD (Int.toNat x) 0 != a1.getD (Int.toNat x) 0) (some (false)) (chk (InR (x + 1)) (x_1 (x + 1)))))) (some (true))) (F) ((0 : Int)))
def s30 (F : Nat) : CS E.G := ⟨30, [.sl 0, .sl 0], [.v 1 false []], fun x => slices_Equal_int F x.1 x.2.1⟩
theorem c30 (F : Nat) : CSok E gl (s30 F) := mkC (cx := ⟨[], [], F, [], []⟩) hf30 (by kernel_rfl) rfl all0 ⟨inl0, all0⟩ (.c .n (.l ⟨[.i], [0, 16, 192], [0, 1, 2], [(208, .i IntKind.i64)], [], [], [], 3⟩ (.c .n .n))) rfl (by kernel_rfl)
theorem hf31 : HF 31 Tryz.f31 := hK (by kernel_rfl)
def convoy_numbers (F : Nat) (a0 : Int) : Option ((List Int)) :=
 chk (0 ≤ a0 ∧ a0 ≤ a0 ∧ a0 ≤ 100000) (loopC (fun (x : Int × List Int) => fun x_1 => brk (decide (x.1 < (↑(List.replicate a0.toNat (0 : Int)).length : Int))) (chk (0 ≤ x.1 ∧ x.1 < (↑(List.length x.2) : Int)) (chk (InR (x.1 + 1)) (x_1 ((x.1 + 1, List.set x.2 (Int.toNat x.1) x.1))))) (some (x.2))) (F) (((0 : Int), List.replicate a0.toNat (0 : Int))))
def s31 (F : Nat) : CS E.G := ⟨31, [.v 0 false], [.sl 0 3], fun x => convoy_numbers F x.1⟩
theorem c31 (F : Nat) : CSok E gl (s31 F) := mkC (cx := ⟨[], [], F, [], []⟩) hf31 (by kernel_rfl) rfl all0 ⟨inl0, all0⟩ (.l ⟨[.i, .l 0], [128, 48], [0, 1], [(144, .i IntKind.i64)], [], [], [(1, 3, 0)], 2⟩ .n) rfl (by kernel_rfl)
theorem hf83 : HF 83 Tryz.f83 := hK (by kernel_rfl)
theorem en83 : Proofs.Enters Tryz.prog 83 := mkE hf83 (by kernel_rfl) rfl
def slices_Clone_hull_Point (F : Nat) (a0 : List Point) : Option ((List Point)) :=
 chk ((0 : Nat) + a0.length ≤ (1000000000 : Nat)) (some ([] ++ a0))
def s83 (F : Nat) : CS E.G := ⟨83, [.sl 7], [.sl 7 55], fun x => slices_Clone_hull_Point F x.1⟩
def cx83 (F : Nat) : Ctx E := ⟨[], [], F, [], []⟩
def h83 : Hint := .n
theorem e83n (F : Nat) (c : Nat) : fnK (E := E) (cx83 F) Tryz.f83 gl [.nl] [.sl 7 55] .n (c, ()) = some ([]) := by kernel_rfl
theorem e83s (F : Nat) (a0 : List Point) : fnK (E := E) (cx83 F) Tryz.f83 gl [.sn 7] [.sl 7 55] h83 (a0, ()) = slices_Clone_hull_Point F a0 := by kernel_rfl
theorem c83 (F : Nat) : CSok E gl (s83 F) := ⟨en83, by
 have h0 := fn_sound (E := E) (gl := gl) (cx := cx83 F) mix all0 ⟨inl0, all0⟩ keys0 gl_up gl_lt hf83 (ps := [.nl]) (rs := [.sl 7 55]) (by decide) .n
 have h1 := fn_sound (E := E) (gl := gl) (cx := cx83 F) mix all0 ⟨inl0, all0⟩ keys0 gl_up gl_lt hf83 (ps := [.sn 7]) (rs := [.sl 7 55]) (by decide) h83
 rw [show fnK (E := E) (cx83 F) Tryz.f83 gl [.nl] [.sl 7 55] .n = (fun x : AT E.G.car [.nl] => some ([])) from funext fun x => e83n F x.1] at h0
 rw [show fnK (E := E) (cx83 F) Tryz.f83 gl [.sn 7] [.sl 7 55] h83 = (fun x : AT E.G.car [.sn 7] => slices_Clone_hull_Point F x.1) from funext fun x => e83s F x.1] at h1
 exact contract_nil (E := E) (t := 7) (rs := [.sl 7 55]) (f := slices_Clone_hull_Point F) (f0 := fun _ => some ([])) (f1 := slices_Clone_hull_Point F) h0 h1 (fun _ _ h => (show slices_Clone_hull_Point F [] = some [] by kernel_rfl).symm.trans h) (fun _ _ h => h)⟩
theorem hf58 : HF 58 Tryz.f58 := hK (by kernel_rfl)
def convoy_Member_own (F : Nat) (a0 : Member) : Option (Member) :=
 bnd (slices_Clone_hull_Point F a0.Stop) (fun x => bnd (slices_Clone_hull_Point F a0.Ship.Thrust) (fun x_1 => bnd (slices_Clone_hull_Point F a0.Ship.Water) (fun x_2 => bnd (slices_Clone_hull_Point F a0.Ship.Ice) (fun x_3 => some (Member.mk (Ship.mk a0.Ship.Class a0.Ship.Power a0.Ship.Draught a0.Ship.Tonnes x_1 x_2 x_3 a0.Ship.Slow a0.Ship.Brash a0.Ship.Ridge a0.Ship.Press) x a0.Length a0.Delay a0.Short)))))
def s58 (F : Nat) : CS E.G := ⟨58, [.v 10 true], [.v 10 true [55, 55, 55, 55]], fun x => convoy_Member_own F x.1⟩
theorem c58 (F : Nat) : CSok E gl (s58 F) := mkC (cx := ⟨[s83 F], [], F, [], []⟩) hf58 (by kernel_rfl) rfl (allC (c83 F) all0) ⟨inl0, all0⟩ .n rfl (by kernel_rfl)
theorem hf32 : HF 32 Tryz.f32 := hK (by kernel_rfl)
theorem en32 : Proofs.Enters Tryz.prog 32 := mkE hf32 (by kernel_rfl) rfl
theorem hf9 : HF 9 Tryz.f9 := hK (by kernel_rfl)
def convoy_Ordered (F : Nat) (a0 : Convoy) (a1 : List Int) : Option (Convoy × Int) :=
 bnd (convoy_Check F a0) (fun x => brk (x != (0 : Int)) (some ((Convoy.mk (Member.mk (Ship.mk 0 0 0 0 [] [] [] 0 0 0 0) [] (0 : Int) (0 : Int) (0 : Int)) [] (0 : Int) (Numbers.mk 0 0 0 0), x))) (loopC (fun (x_1 : Int × List Int) => fun x_2 => brk (decide (x_1.1 < (↑a1.length : Int))) (chk (0 ≤ x_1.1 ∧ x_1.1 < (↑a1.length : Int)) (chk (List.length x_1.2 + [a1.getD (Int.toNat x_1.1) 0].length ≤ (1000000000 : Nat)) (chk (InR (x_1.1 + 1)) (x_2 ((x_1.1 + 1, x_1.2 ++ [a1.getD (Int.toNat x_1.1) 0])))))) (bnd (math_bits_Len F (IntKind.u64.wrap (↑(List.length x_1.2) : Int))) (fun x_3 => loopC (fun (x_4 : Int × Bool × Bool) => fun x_5 => chk (InR ((↑(List.length x_1.2) : Int) - x_4.1)) (brk (decide ((↑(List.length x_1.2) : Int) - x_4.1 ≤ 12)) (chk (InR (x_4.1 + 1)) (loopC (fun (x_6 : Int × List Int) => fun x_7 => brk (decide (x_6.1 < (↑(List.length x_1.2) : Int))) (loopC (fun (x_8 : Int × List Int) => fun x_9 => chk (decide (x_8.1 > x_4.1) = true → 0 ≤ x_8.1 ∧ x_8.1 < (↑(List.length x_8.2) : Int)) (chk (decide (x_8.1 > x_4.1) = true → InR (x_8.1 - 1)) (chk (decide (x_8.1 > x_4.1) = true → 0 ≤ x_8.1 - 1 ∧ x_8.1 - 1 < (↑(List.length x_8.2) : Int)) (bnd (brk (decide (x_8.1 > x_4.1)) (cmp_Less_int F (List.getD x_8.2 (Int.toNat x_8.1) (0 : Int)) (List.getD x_8.2 (x_8.1 - 1).toNat (0 : Int))) (some false)) (fun x_10 => brk (decide (x_8.1 > x_4.1) && x_10) (chk (InR (x_8.1 - 1)) (chk (InR (x_8.1 - 1)) (chk (0 ≤ x_8.1 - 1 ∧ x_8.1 - 1 < (↑(List.length x_8.2) : Int)) (chk (0 ≤ x_8.1 ∧ x_8.1 < (↑(List.length x_8.2) : Int)) (chk (0 ≤ x_8.1 ∧ x_8.1 < (↑(List.length x_8.2) : Int)) (chk (0 ≤ x_8.1 - 1 ∧ x_8.1 - 1 < (↑(List.set x_8.2 (Int.toNat x_8.1) (List.getD x_8.2 (x_8.1 - 1).toNat (0 : Int))).length : Int)) (chk (InR (x_8.1 - 1)) (x_9 ((x_8.1 - 1, (List.set x_8.2 (Int.toNat x_8.1) (List.getD x_8.2 (x_8.1 - 1).toNat (0 : Int))).set (x_8.1 - 1).toNat (List.getD x_8.2 (Int.toNat x_8.1) (0 : Int)))))))))))) (chk (InR (x_6.1 + 1)) (x_7 ((x_6.1 + 1, x_8.2))))))))) (F) (x_6)) (bnd (convoy_numbers F (↑a0.Ships.length : Int)) (fun x_8 => bnd (slices_Equal_int F x_6.2 x_8) (fun x_9 => brk (!x_9) (some ((Convoy.mk (Member.mk (Ship.mk 0 0 0 0 [] [] [] 0 0 0 0) [] (0 : Int) (0 : Int) (0 : Int)) [] (0 : Int) (Numbers.mk 0 0 0 0), (1 : Int)))) (bnd (convoy_Member_own F a0.Breaker) (fun x_10 => loopC (fun (x_11 : Int × List Member) => fun x_12 => brk (decide (x_11.1 < (↑a1.length : Int))) (chk (0 ≤ x_11.1 ∧ x_11.1 < (↑a1.length : Int)) (chk (0 ≤ a1.getD (Int.toNat x_11.1) 0 ∧ a1.getD (Int.toNat x_11.1) 0 < (↑a0.Ships.length : Int)) (bnd (convoy_Member_own F (a0.Ships.getD (Int.toNat (a1.getD (Int.toNat x_11.1) 0)) (Member.mk (Ship.mk 0 0 0 0 [] [] [] 0 0 0 0) [] (0 : Int) (0 : Int) (0 : Int)))) (fun x_13 => chk (List.length x_11.2 + [x_13].length ≤ (1000000000 : Nat)) (chk (InR (x_11.1 + 1)) (x_12 ((x_11.1 + 1, x_11.2 ++ [x_13])))))))) (some ((Convoy.mk x_10 x_11.2 a0.Clear a0.Close, (0 : Int))))) (F) (((0 : Int), [])))))))) (F) ((x_4.1 + 1, x_1.2)))) (none))) (F) (((0 : Int), true, true))))) (F) (((0 : Int), []))))
def s9 (F : Nat) : CS E.G := ⟨9, [.v 13 true, .sl 0], [.v 13 true [55, 55, 55, 55, 27], .v 0 false []], fun x => convoy_Ordered F x.1 x.2.1⟩
theorem c9 (F : Nat) : CSok E gl (s9 F) := mkC (cx := ⟨[s27 F, s98 F, s82 F, s30 F, s31 F, s58 F], [(28, Tryz.f28), (55, Tryz.f55), (80, Tryz.f80), (56, Tryz.f56), (81, Tryz.f81), (92, Tryz.f92), (29, Tryz.f29), (57, Tryz.f57), (32, Tryz.f32)], F, [], []⟩) hf9 (by kernel_rfl) rfl (allC (c27 F) (allC (c98 F) (allC (c82 F) (allC (c30 F) (allC (c31 F) (allC (c58 F) all0)))))) ⟨(inlC hf28 en28 (inlC hf55 en55 (inlC hf80 en80 (inlC hf56 en56 (inlC hf81 en81 (inlC hf92 en92 (inlC hf29 en29 (inlC hf57 en57 (inlC hf32 en32 inl0))))))))), all0⟩ (.c .n (.p (.p (.p (.p (.l ⟨[.i, .l 0], [0, 96, 80], [0, 9, 6, 10], [(112, .i IntKind.i64)], [], [(10, 0, .h 12 3 0)], [], 13⟩ (.c (.p .n) (.p (.p (.l ⟨[.i, .b, .b], [0, 32, 48], [0, 12], [(16, .i IntKind.i64), (128, .b), (144, .b)], [], [], [], 13⟩ (.c (.p (.l ⟨[.i, .l 0], [0, 16, 32], [0, 12], [(96, .i IntKind.i64)], [], [], [(12, 3, 0)], 13⟩ (.c (.l ⟨[.i, .l 0], [0, 16, 32, 96], [0, 12], [(112, .i IntKind.i64)], [], [], [(12, 3, 0)], 13⟩ .n) (.c .n (.p (.l ⟨[.i, .l 10], [0, 64, 288, 80, 304], [0, 1, 3, 7, 5, 2, 4, 6, 14, 15, 19, 18, 17, 16], [(320, .i IntKind.i64)], [], [(15, 15, .h 20 27 10)], [], 21⟩ .n)))))) (.u 0 .n)))))))))))) rfl (by kernel_rfl)
theorem hf62 : HF 62 Tryz.f62 := hK (by kernel_rfl)
theorem en62 : Proofs.Enters Tryz.prog 62 := mkE hf62 (by kernel_rfl) rfl
theorem hf42 : HF 42 Tryz.f42 := hK (by kernel_rfl)
theorem en42 : Proofs.Enters Tryz.prog 42 := mkE hf42 (by kernel_rfl) rfl
theorem hf59 : HF 59 Tryz.f59 := hK (by kernel_rfl)
theorem en59 : Proofs.Enters Tryz.prog 59 := mkE hf59 (by kernel_rfl) rfl
theorem hf33 : HF 33 Tryz.f33 := hK (by kernel_rfl)
def convoy_Convoy_fastest (F : Nat) (a0 : Convoy) (a1 : Int) (a2 : Int) : Option (Int) :=
 loopC (fun (x : Int) => fun x_1 => brk (decide (x ≥ (10 : Int))) (bnd (convoy_Member_halt F a0.Breaker x) (fun x_2 => loopC (fun (x_3 : Int × List Int × Int × Int) => fun x_4 => brk (decide (x_3.1 < (↑a0.Ships.length : Int))) (chk (0 ≤ x_3.1 ∧ x_3.1 < (↑a0.Ships.length : Int)) (bnd (convoy_Member_halt F (a0.Ships.getD (Int.toNat x_3.1) (Member.mk (Ship.mk 0 0 0 0 [] [] [] 0 0 0 0) [] (0 : Int) (0 : Int) (0 : Int))) x) (fun x_5 => chk (InR (x_5.Hi - x_3.2.2.2)) (chk (InR (a0.Clear + if x_5.Hi - x_3.2.2.2 > (0 : Int) then x_5.Hi - x_3.2.2.2 else (0 : Int))) (chk (List.length x_3.2.1 + [a0.Clear + if x_5.Hi - x_3.2.2.2 > (0 : Int) then x_5.Hi - x_3.2.2.2 else (0 : Int)].length ≤ (1000000000 : Nat)) (chk (InR (x_3.1 + 1)) (x_4 ((x_3.1 + 1, x_3.2.1 ++ [a0.Clear + if x_5.Hi - x_3.2.2.2 > (0 : Int) then x_5.Hi - x_3.2.2.2 else (0 : Int)], x_5.Hi, x_5.Lo))))))))) (loopC (fun (x_5 : Int × Int) => fun x_6 => brk (decide (x_5.2 < (↑(List.length x_3.2.1) : Int))) (chk (0 ≤ x_5.2 ∧ x_5.2 < (↑(List.length x_3.2.1) : Int)) (chk (0 ≤ x_5.2 ∧ x_5.2 < (↑a0.Ships.length : Int)) (chk (InR (List.getD x_3.2.1 (Int.toNat x_5.2) (0 : Int) + (a0.Ships.getD (Int.toNat x_5.2) (Member.mk (Ship.mk 0 0 0 0 [] [] [] 0 0 0 0) [] (0 : Int) (0 : Int) (0 : Int))).Length)) (chk (InR (x_5.1 + (List.getD x_3.2.1 (Int.toNat x_5.2) (0 : Int) + (a0.Ships.getD (Int.toNat x_5.2) (Member.mk (Ship.mk 0 0 0 0 [] [] [] 0 0 0 0) [] (0 : Int) (0 : Int) (0 : Int))).Length))) (chk (InR (x_5.2 + 1)) (x_6 ((x_5.1 + (List.getD x_3.2.1 (Int.toNat x_5.2) (0 : Int) + (a0.Ships.getD (Int.toNat x_5.2) (Member.mk (Ship.mk 0 0 0 0 [] [] [] 0 0 0 0) [] (0 : Int) (0 : Int) (0 : Int))).Length), x_5.2 + 1)))))))) (chk (0 ≤ a2 ∧ a2 < (↑(4 : Nat) : Int)) (chk (InR ((60 : Int) * [a0.Close.a0, a0.Close.a1, a0.Close.a2, a0.Close.a3].getD a2.toNat 0)) (bnd (convoy_way F x ((60 : Int) * [a0.Close.a0, a0.Close.a1, a0.Close.a2, a0.Close.a3].getD a2.toNat 0)) (fun x_7 => brk (decide (x_5.1 ≤ x_7.1)) (some (x)) (chk (InR (x - 1)) (x_1 (x - 1)))))))) (F) (((0 : Int), (0 : Int))))) (F) (((0 : Int), [], x_2.Hi, x_2.Lo)))) (some ((0 : Int)))) (F) (a1)
def s33 (F : Nat) : CS E.G := ⟨33, [.ptr 13, .v 0 false, .v 0 false], [.v 0 false []], fun x => convoy_Convoy_fastest F x.1 x.2.1 x.2.2.1⟩
theorem c33 (F : Nat) : CSok E gl (s33 F) := mkC (cx := ⟨[s51 F, s21 F], [(59, Tryz.f59), (23, Tryz.f23), (42, Tryz.f42), (62, Tryz.f62)], F, [], []⟩) hf33 (by kernel_rfl) rfl (allC (c51 F) (allC (c21 F) all0)) ⟨(inlC hf59 en59 (inlC hf23 en23 (inlC hf42 en42 (inlC hf62 en62 inl0)))), all0⟩ (.l ⟨[.i], [0, 32], [0, 1], [(112, .i IntKind.i64)], [], [], [], 2⟩ (.c (.p (.p (.p (.l ⟨[.i, .l 0, .i, .i], [16, 64, 320, 336], [0, 1, 4, 9, 10], [(352, .i IntKind.i64), (48, .h 11 3 0)], [], [(9, 1, .i IntKind.i64), (9, 0, .i IntKind.i64)], [], 12⟩ (.c .n (.l ⟨[.i, .i], [16, 128, 112], [0, 1, 3, 11], [(48, .i IntKind.i64), (144, .i IntKind.i64)], [], [], [], 12⟩ (.c .n (.p .n)))))))) .n)) rfl (by kernel_rfl)
theorem hf10 : HF 10 Tryz.f10 := hK (by kernel_rfl)
def convoy_Fastest (F : Nat) (a0 : Convoy) (a1 : Cell) : Option (Int × Int) :=
 bnd (convoy_met F a0 a1) (fun x => brk (x != (0 : Int)) (some (((0 : Int), x))) (bnd (convoy_Convoy_most F a0 a1) (fun x_1 => bnd (convoy_Convoy_fastest F a0 x_1 a1.Press.Hi) (fun x_2 => brk (x_2 == (0 : Int)) (some (((0 : Int), (4 : Int)))) (some ((x_2, (0 : Int))))))))
def s10 (F : Nat) : CS E.G := ⟨10, [.v 13 true, .v 15 true], [.v 0 false [], .v 0 false []], fun x => convoy_Fastest F x.1 x.2.1⟩
theorem c10 (F : Nat) : CSok E gl (s10 F) := mkC (cx := ⟨[s17 F, s19 F, s33 F], [], F, [], []⟩) hf10 (by kernel_rfl) rfl (allC (c17 F) (allC (c19 F) (allC (c33 F) all0))) ⟨inl0, all0⟩ (.c .n .n) rfl (by kernel_rfl)
theorem hf41 : HF 41 Tryz.f41 := hK (by kernel_rfl)
def convoy_asked (F : Nat) (a0 : Convoy) (a1 : Int) : Option (Int) :=
 bnd (convoy_Check F a0) (fun x => brk (x != (0 : Int)) (some (x)) (bnd (convoy_within F a1 0 250) (fun x_1 => brk (!x_1) (some ((6 : Int))) (some ((0 : Int))))))
def s41 (F : Nat) : CS E.G := ⟨41, [.v 13 true, .v 0 false], [.v 0 false []], fun x => convoy_asked F x.1 x.2.1⟩
theorem c41 (F : Nat) : CSok E gl (s41 F) := mkC (cx := ⟨[s27 F, s54 F], [], F, [], []⟩) hf41 (by kernel_rfl) rfl (allC (c27 F) (allC (c54 F) all0)) ⟨inl0, all0⟩ (.c .n .n) rfl (by kernel_rfl)
theorem hf12 : HF 12 Tryz.f12 := hK (by kernel_rfl)
def convoy_Tail (F : Nat) (a0 : Convoy) (a1 : Int) : Option (Int × Int) :=
 bnd (convoy_asked F a0 a1) (fun x => brk (x != (0 : Int)) (some (((0 : Int), x))) (bnd (convoy_Member_halt F a0.Breaker a1) (fun x_1 => loopC (fun (x_2 : Int × List Int × Int × Int) => fun x_3 => brk (decide (x_2.1 < (↑a0.Ships.length : Int))) (chk (0 ≤ x_2.1 ∧ x_2.1 < (↑a0.Ships.length : Int)) (bnd (convoy_Member_halt F (a0.Ships.getD (Int.toNat x_2.1) (Member.mk (Ship.mk 0 0 0 0 [] [] [] 0 0 0 0) [] (0 : Int) (0 : Int) (0 : Int))) a1) (fun x_4 => chk (InR (x_4.Hi - x_2.2.2.2)) (chk (InR (a0.Clear + if x_4.Hi - x_2.2.2.2 > (0 : Int) then x_4.Hi - x_2.2.2.2 else (0 : Int))) (chk (List.length x_2.2.1 + [a0.Clear + if x_4.Hi - x_2.2.2.2 > (0 : Int) then x_4.Hi - x_2.2.2.2 else (0 : Int)].length ≤ (1000000000 : Nat)) (chk (InR (x_2.1 + 1)) (x_3 ((x_2.1 + 1, x_2.2.1 ++ [a0.Clear + if x_4.Hi - x_2.2.2.2 > (0 : Int) then x_4.Hi - x_2.2.2.2 else (0 : Int)], x_4.Hi, x_4.Lo))))))))) (loopC (fun (x_4 : Int × Int) => fun x_5 => brk (decide (x_4.2 < (↑(List.length x_2.2.1) : Int))) (chk (0 ≤ x_4.2 ∧ x_4.2 < (↑(List.length x_2.2.1) : Int)) (chk (0 ≤ x_4.2 ∧ x_4.2 < (↑a0.Ships.length : Int)) (chk (InR (List.getD x_2.2.1 (Int.toNat x_4.2) (0 : Int) + (a0.Ships.getD (Int.toNat x_4.2) (Member.mk (Ship.mk 0 0 0 0 [] [] [] 0 0 0 0) [] (0 : Int) (0 : Int) (0 : Int))).Length)) (chk (InR (x_4.1 + (List.getD x_2.2.1 (Int.toNat x_4.2) (0 : Int) + (a0.Ships.getD (Int.toNat x_4.2) (Member.mk (Ship.mk 0 0 0 0 [] [] [] 0 0 0 0) [] (0 : Int) (0 : Int) (0 : Int))).Length))) (chk (InR (x_4.2 + 1)) (x_5 ((x_4.1 + (List.getD x_2.2.1 (Int.toNat x_4.2) (0 : Int) + (a0.Ships.getD (Int.toNat x_4.2) (Member.mk (Ship.mk 0 0 0 0 [] [] [] 0 0 0 0) [] (0 : Int) (0 : Int) (0 : Int))).Length), x_4.2 + 1)))))))) (some ((x_4.1, (0 : Int))))) (F) (((0 : Int), (0 : Int))))) (F) (((0 : Int), [], x_1.Hi, x_1.Lo)))))
def s12 (F : Nat) : CS E.G := ⟨12, [.v 13 true, .v 0 false], [.v 0 false [], .v 0 false []], fun x => convoy_Tail F x.1 x.2.1⟩
theorem c12 (F : Nat) : CSok E gl (s12 F) := mkC (cx := ⟨[s41 F, s21 F], [(42, Tryz.f42), (62, Tryz.f62)], F, [], []⟩) hf12 (by kernel_rfl) rfl (allC (c41 F) (allC (c21 F) all0)) ⟨(inlC hf42 en42 (inlC hf62 en62 inl0)), all0⟩ (.c .n (.p (.p (.l ⟨[.i, .l 0, .i, .i], [16, 64, 320, 336], [0, 1, 3, 5, 2, 4, 6, 8, 9], [(352, .i IntKind.i64), (48, .h 10 3 0)], [], [(9, 1, .i IntKind.i64), (9, 0, .i IntKind.i64)], [], 11⟩ (.c .n (.l ⟨[.i, .i], [16, 128, 112], [0, 1, 3, 5, 2, 4, 6, 7, 10], [(48, .i IntKind.i64), (144, .i IntKind.i64)], [], [], [], 11⟩ .n)))))) rfl (by kernel_rfl)
theorem hf60 : HF 60 Tryz.f60 := hK (by kernel_rfl)
def law03_Example (F : Nat) : Option (Ship) :=
 some (Ship.mk (3 : Int) (6000 : Int) (800 : Int) (9000 : Int) [Point.mk (0 : Int) (1000 : Int), Point.mk (100 : Int) (800 : Int), Point.mk (200 : Int) (0 : Int)] [Point.mk (0 : Int) (0 : Int), Point.mk (200 : Int) (400 : Int)] [Point.mk (0 : Int) (0 : Int), Point.mk (400 : Int) (2000 : Int)] (0 : Int) (20 : Int) (10 : Int) (100 : Int))
def s60 (F : Nat) : CS E.G := ⟨60, [], [.v 9 true [55, 55, 55]], fun x => law03_Example F⟩
theorem c60 (F : Nat) : CSok E gl (s60 F) := mkC (cx := ⟨[], [], F, [], []⟩) hf60 (by kernel_rfl) rfl all0 ⟨inl0, all0⟩ .n rfl (by kernel_rfl)
theorem hf103 : HF 103 Tryz.f103 := hK (by kernel_rfl)
def law03_CopyShip (F : Nat) (a0 : Ship) : Option (Ship) :=
 bnd (slices_Clone_hull_Point F a0.Thrust) (fun x => bnd (slices_Clone_hull_Point F a0.Water) (fun x_1 => bnd (slices_Clone_hull_Point F a0.Ice) (fun x_2 => some (Ship.mk a0.Class a0.Power a0.Draught a0.Tonnes x x_1 x_2 a0.Slow a0.Brash a0.Ridge a0.Press))))
def s103 (F : Nat) : CS E.G := ⟨103, [.v 9 true], [.v 9 true [55, 55, 55]], fun x => law03_CopyShip F x.1⟩
theorem c103 (F : Nat) : CSok E gl (s103 F) := mkC (cx := ⟨[s83 F], [], F, [], []⟩) hf103 (by kernel_rfl) rfl (allC (c83 F) all0) ⟨inl0, all0⟩ .n rfl (by kernel_rfl)
theorem hf84 : HF 84 Tryz.f84 := hK (by kernel_rfl)
def law05_copyMember (F : Nat) (a0 : Member) : Option (Member) :=
 bnd (law03_CopyShip F a0.Ship) (fun x => bnd (slices_Clone_hull_Point F a0.Stop) (fun x_1 => some (Member.mk x x_1 a0.Length a0.Delay a0.Short)))
def s84 (F : Nat) : CS E.G := ⟨84, [.v 10 true], [.v 10 true [55, 55, 55, 55]], fun x => law05_copyMember F x.1⟩
theorem c84 (F : Nat) : CSok E gl (s84 F) := mkC (cx := ⟨[s83 F, s103 F], [], F, [], []⟩) hf84 (by kernel_rfl) rfl (allC (c83 F) (allC (c103 F) all0)) ⟨inl0, all0⟩ .n rfl (by kernel_rfl)
theorem hf85 : HF 85 Tryz.f85 := hK (by kernel_rfl)
theorem en85 : Proofs.Enters Tryz.prog 85 := mkE hf85 (by kernel_rfl) rfl
def slices_Clone_convoy_Member (F : Nat) (a0 : List Member) : Option ((List Member)) :=
 chk ((0 : Nat) + a0.length ≤ (1000000000 : Nat)) (some ([] ++ a0))
def s85 (F : Nat) : CS E.G := ⟨85, [.sl 10], [.sl 10 27], fun x => slices_Clone_convoy_Member F x.1⟩
def cx85 (F : Nat) : Ctx E := ⟨[], [], F, [], []⟩
def h85 : Hint := .n
theorem e85n (F : Nat) (c : Nat) : fnK (E := E) (cx85 F) Tryz.f85 gl [.nl] [.sl 10 27] .n (c, ()) = some ([]) := by kernel_rfl
theorem e85s (F : Nat) (a0 : List Member) : fnK (E := E) (cx85 F) Tryz.f85 gl [.sn 10] [.sl 10 27] h85 (a0, ()) = slices_Clone_convoy_Member F a0 := by kernel_rfl
theorem c85 (F : Nat) : CSok E gl (s85 F) := ⟨en85, by
 have h0 := fn_sound (E := E) (gl := gl) (cx := cx85 F) mix all0 ⟨inl0, all0⟩ keys0 gl_up gl_lt hf85 (ps := [.nl]) (rs := [.sl 10 27]) (by decide) .n
 have h1 := fn_sound (E := E) (gl := gl) (cx := cx85 F) mix all0 ⟨inl0, all0⟩ keys0 gl_up gl_lt hf85 (ps := [.sn 10]) (rs := [.sl 10 27]) (by decide) h85
 rw [show fnK (E := E) (cx85 F) Tryz.f85 gl [.nl] [.sl 10 27] .n = (fun x : AT E.G.car [.nl] => some ([])) from funext fun x => e85n F x.1] at h0
 rw [show fnK (E := E) (cx85 F) Tryz.f85 gl [.sn 10] [.sl 10 27] h85 = (fun x : AT E.G.car [.sn 10] => slices_Clone_convoy_Member F x.1) from funext fun x => e85s F x.1] at h1
 exact contract_nil (E := E) (t := 10) (rs := [.sl 10 27]) (f := slices_Clone_convoy_Member F) (f0 := fun _ => some ([])) (f1 := slices_Clone_convoy_Member F) h0 h1 (fun _ _ h => (show slices_Clone_convoy_Member F [] = some [] by kernel_rfl).symm.trans h) (fun _ _ h => h)⟩
theorem hf61 : HF 61 Tryz.f61 := hK (by kernel_rfl)
def law05_CopyConvoy (F : Nat) (a0 : Convoy) : Option (Convoy) :=
 bnd (law05_copyMember F a0.Breaker) (fun x => bnd (slices_Clone_convoy_Member F a0.Ships) (fun x_1 => loopC (fun (x_2 : Int × List Member) => fun x_3 => brk (decide (x_2.1 < (↑(List.length x_1) : Int))) (chk (0 ≤ x_2.1 ∧ x_2.1 < (↑(List.length x_2.2) : Int)) (bnd (law05_copyMember F (List.getD x_2.2 (Int.toNat x_2.1) (Member.mk (Ship.mk 0 0 0 0 [] [] [] 0 0 0 0) [] (0 : Int) (0 : Int) (0 : Int)))) (fun x_4 => chk (0 ≤ x_2.1 ∧ x_2.1 < (↑(List.length x_2.2) : Int)) (chk (InR (x_2.1 + 1)) (x_3 ((x_2.1 + 1, List.set x_2.2 (Int.toNat x_2.1) x_4))))))) (some (Convoy.mk x x_2.2 a0.Clear a0.Close))) (F) (((0 : Int), x_1))))
def s61 (F : Nat) : CS E.G := ⟨61, [.v 13 true], [.v 13 true [55, 55, 55, 55, 27]], fun x => law05_CopyConvoy F x.1⟩
theorem c61 (F : Nat) : CSok E gl (s61 F) := mkC (cx := ⟨[s84 F, s85 F], [], F, [], []⟩) hf61 (by kernel_rfl) rfl (allC (c84 F) (allC (c85 F) all0)) ⟨inl0, all0⟩ (.l ⟨[.i, .l 10], [16, 32, 224], [0, 6, 7, 12, 11, 10, 9, 8], [(240, .i IntKind.i64)], [], [], [(12, 27, 10)], 13⟩ .n) rfl (by kernel_rfl)
theorem hf34 : HF 34 Tryz.f34 := hK (by kernel_rfl)
def law05_Example (F : Nat) (a0 : Int) : Option (Convoy) :=
 bnd (law03_Example F) (fun x => loopC (fun (x_1 : Int × List Member × List Point × List Point × List Point × List Point) => fun x_2 => brk (decide (x_1.1 < a0)) (chk (List.length x_1.2.1 + [Member.mk (Ship.mk x.Class x.Power x.Draught x.Tonnes x_1.2.2.2.2.2 x_1.2.2.2.2.1 x_1.2.2.2.1 x.Slow x.Brash x.Ridge x.Press) x_1.2.2.1 (120 : Int) (30 : Int) (100 : Int)].length ≤ (1000000000 : Nat)) (chk (InR (x_1.1 + 1)) (x_2 ((x_1.1 + 1, x_1.2.1 ++ [Member.mk (Ship.mk x.Class x.Power x.Draught x.Tonnes x_1.2.2.2.2.2 x_1.2.2.2.2.1 x_1.2.2.2.1 x.Slow x.Brash x.Ridge x.Press) x_1.2.2.1 (120 : Int) (30 : Int) (100 : Int)], x_1.2.2))))) (bnd (law05_CopyConvoy F (Convoy.mk (Member.mk (Ship.mk x.Class x.Power x.Draught x.Tonnes x_1.2.2.2.2.2 x_1.2.2.2.2.1 x_1.2.2.2.1 x.Slow x.Brash x.Ridge x.Press) x_1.2.2.1 (120 : Int) (30 : Int) (100 : Int)) x_1.2.1 (50 : Int) (Numbers.mk 60 4 2 0))) (fun x_3 => some (x_3)))) (F) (((0 : Int), [], [Point.mk (0 : Int) (0 : Int), Point.mk (200 : Int) (1000 : Int)], x.Ice, x.Water, x.Thrust)))
def s34 (F : Nat) : CS E.G := ⟨34, [.v 0 false], [.v 13 true [55, 55, 55, 55, 27]], fun x => law05_Example F x.1⟩
theorem c34 (F : Nat) : CSok E gl (s34 F) := mkC (cx := ⟨[s60 F, s61 F], [], F, [], []⟩) hf34 (by kernel_rfl) rfl (allC (c60 F) (allC (c61 F) all0)) ⟨inl0, all0⟩ (.l ⟨[.i, .l 10, .l 7, .l 7, .l 7, .l 7], [32, 64, 48, 208], [0, 1, 7, 6], [(224, .i IntKind.i64)], [], [(7, 15, .h 8 27 10), (7, 11, .x 9 7), (7, 6, .x 10 7), (7, 5, .x 11 7), (7, 4, .x 12 7), (6, 11, .r 9), (6, 6, .r 10), (6, 5, .r 11), (6, 4, .r 12)], [], 13⟩ .n) rfl (by kernel_rfl)
theorem hf35 : HF 35 Tryz.f35 := hK (by kernel_rfl)
def convoy_Way (F : Nat) (a0 : Int) (a1 : Int) : Option (Int × Int × Int) :=
 bnd (convoy_within F a0 0 250) (fun x => bnd (brk (!!x) (convoy_within F a1 0 100000) (some false)) (fun x_1 => brk (!x || !x_1) (some (((0 : Int), (0 : Int), (6 : Int)))) (bnd (convoy_way F a0 a1) (fun x_2 => some ((x_2.1, x_2.2, (0 : Int)))))))
def s35 (F : Nat) : CS E.G := ⟨35, [.v 0 false, .v 0 false], [.v 0 false [], .v 0 false [], .v 0 false []], fun x => convoy_Way F x.1 x.2.1⟩
theorem c35 (F : Nat) : CSok E gl (s35 F) := mkC (cx := ⟨[s51 F, s54 F], [], F, [], []⟩) hf35 (by kernel_rfl) rfl (allC (c51 F) (allC (c54 F) all0)) ⟨inl0, all0⟩ .n rfl (by kernel_rfl)
theorem hf36 : HF 36 Tryz.f36 := hK (by kernel_rfl)
def convoy_Halt (F : Nat) (a0 : Member) (a1 : Int) : Option (Span × Int) :=
 bnd (convoy_right F a0) (fun x => brk (x != (0 : Int)) (some ((Span.mk (0 : Int) (0 : Int), x))) (bnd (convoy_within F a1 0 250) (fun x_1 => brk (!x_1) (some ((Span.mk (0 : Int) (0 : Int), (6 : Int)))) (bnd (convoy_Member_halt F a0 a1) (fun x_2 => some ((x_2, (0 : Int))))))))
def s36 (F : Nat) : CS E.G := ⟨36, [.v 10 true, .v 0 false], [.v 14 true [], .v 0 false []], fun x => convoy_Halt F x.1 x.2.1⟩
theorem c36 (F : Nat) : CSok E gl (s36 F) := mkC (cx := ⟨[s21 F, s53 F, s54 F], [], F, [], []⟩) hf36 (by kernel_rfl) rfl (allC (c21 F) (allC (c53 F) (allC (c54 F) all0))) ⟨inl0, all0⟩ (.c .n .n) rfl (by kernel_rfl)
theorem hf37 : HF 37 Tryz.f37 := hK (by kernel_rfl)
def convoy_Gaps (F : Nat) (a0 : Convoy) (a1 : Int) : Option ((List Int) × Int) :=
 bnd (convoy_asked F a0 a1) (fun x => brk (x != (0 : Int)) (some (([], x))) (bnd (convoy_Member_halt F a0.Breaker a1) (fun x_1 => loopC (fun (x_2 : Int × List Int × Int × Int) => fun x_3 => brk (decide (x_2.1 < (↑a0.Ships.length : Int))) (chk (0 ≤ x_2.1 ∧ x_2.1 < (↑a0.Ships.length : Int)) (bnd (convoy_Member_halt F (a0.Ships.getD (Int.toNat x_2.1) (Member.mk (Ship.mk 0 0 0 0 [] [] [] 0 0 0 0) [] (0 : Int) (0 : Int) (0 : Int))) a1) (fun x_4 => chk (InR (x_4.Hi - x_2.2.2.2)) (chk (InR (a0.Clear + if x_4.Hi - x_2.2.2.2 > (0 : Int) then x_4.Hi - x_2.2.2.2 else (0 : Int))) (chk (List.length x_2.2.1 + [a0.Clear + if x_4.Hi - x_2.2.2.2 > (0 : Int) then x_4.Hi - x_2.2.2.2 else (0 : Int)].length ≤ (1000000000 : Nat)) (chk (InR (x_2.1 + 1)) (x_3 ((x_2.1 + 1, x_2.2.1 ++ [a0.Clear + if x_4.Hi - x_2.2.2.2 > (0 : Int) then x_4.Hi - x_2.2.2.2 else (0 : Int)], x_4.Hi, x_4.Lo))))))))) (some ((x_2.2.1, (0 : Int))))) (F) (((0 : Int), [], x_1.Hi, x_1.Lo)))))
def s37 (F : Nat) : CS E.G := ⟨37, [.v 13 true, .v 0 false], [.sl 0 3, .v 0 false []], fun x => convoy_Gaps F x.1 x.2.1⟩
theorem c37 (F : Nat) : CSok E gl (s37 F) := mkC (cx := ⟨[s41 F, s21 F], [(62, Tryz.f62)], F, [], []⟩) hf37 (by kernel_rfl) rfl (allC (c41 F) (allC (c21 F) all0)) ⟨(inlC hf62 en62 inl0), all0⟩ (.c .n (.p (.l ⟨[.i, .l 0, .i, .i], [16, 64, 320, 336], [0, 1, 3, 5, 2, 4, 6, 7, 8], [(352, .i IntKind.i64), (48, .h 9 3 0)], [], [(8, 1, .i IntKind.i64), (8, 0, .i IntKind.i64)], [], 10⟩ .n))) rfl (by kernel_rfl)
theorem hf38 : HF 38 Tryz.f38 := hK (by kernel_rfl)
def convoy_Open (F : Nat) (a0 : Convoy) (a1 : Int) (a2 : Int) : Option (Int × Int) :=
 bnd (convoy_asked F a0 a1) (fun x => brk (x != (0 : Int)) (some (((0 : Int), x))) (bnd (convoy_within F a2 0 3) (fun x_1 => brk (!x_1) (some (((0 : Int), (6 : Int)))) (chk (0 ≤ a2 ∧ a2 < (↑(4 : Nat) : Int)) (chk (InR ((60 : Int) * [a0.Close.a0, a0.Close.a1, a0.Close.a2, a0.Close.a3].getD a2.toNat 0)) (bnd (convoy_way F a1 ((60 : Int) * [a0.Close.a0, a0.Close.a1, a0.Close.a2, a0.Close.a3].getD a2.toNat 0)) (fun x_2 => some ((x_2.1, (0 : Int))))))))))
def s38 (F : Nat) : CS E.G := ⟨38, [.v 13 true, .v 0 false, .v 0 false], [.v 0 false [], .v 0 false []], fun x => convoy_Open F x.1 x.2.1 x.2.2.1⟩
theorem c38 (F : Nat) : CSok E gl (s38 F) := mkC (cx := ⟨[s51 F, s41 F, s54 F], [(23, Tryz.f23)], F, [], []⟩) hf38 (by kernel_rfl) rfl (allC (c51 F) (allC (c41 F) (allC (c54 F) all0))) ⟨(inlC hf23 en23 inl0), all0⟩ (.c .n (.c .n (.p .n))) rfl (by kernel_rfl)
theorem hf39 : HF 39 Tryz.f39 := hK (by kernel_rfl)
def convoy_Rest (F : Nat) (a0 : Convoy) (a1 : Int) (a2 : List Int) (a3 : Int) (a4 : List Int) : Option ((List Int) × Int) :=
 bnd (convoy_asked F a0 a1) (fun x => brk (x != (0 : Int)) (some (([], x))) (bnd (brk (!(↑a2.length : Int) != (↑a0.Ships.length : Int)) (convoy_within F a3 0 (↑a0.Ships.length : Int)) (some false)) (fun x_1 => chk ((!((↑a2.length : Int) != (↑a0.Ships.length : Int) || !x_1)) = true → InR ((↑a0.Ships.length : Int) - a3)) (chk ((!((↑a2.length : Int) != (↑a0.Ships.length : Int) || !x_1)) = true → InR ((↑a0.Ships.length : Int) - a3 + 1)) (brk ((↑a2.length : Int) != (↑a0.Ships.length : Int) || !x_1 || (↑a4.length : Int) != (↑a0.Ships.length : Int) - a3 + 1) (some (([], (1 : Int)))) (loopC (fun (x_2 : Int) => fun x_3 => brk (decide (x_2 < (↑a2.length : Int))) (chk (0 ≤ x_2 ∧ x_2 < (↑a2.length : Int)) (bnd (convoy_within F (a2.getD (Int.toNat x_2) 0) 0 1000000) (fun x_4 => brk (!x_4) (some (([], (6 : Int)))) (chk (InR (x_2 + 1)) (x_3 (x_2 + 1)))))) (chk ([a0.Breaker].length + a0.Ships.length ≤ (1000000000 : Nat)) (chk (0 ≤ a3 ∧ a3 ≤ (↑([a0.Breaker] ++ a0.Ships).length : Int) ∧ (↑([a0.Breaker] ++ a0.Ships).length : Int) ≤ (↑([a0.Breaker] ++ a0.Ships).length : Int)) (loopC (fun (x_4 : Int) => fun x_5 => brk (decide (x_4 < (↑a4.length : Int))) (chk (0 ≤ x_4 ∧ x_4 < (↑a4.length : Int)) (chk (0 ≤ x_4 ∧ x_4 < (↑([a0.Breaker] ++ a0.Ships).length : Int) - a3) (bnd (convoy_Member_halt F (([a0.Breaker] ++ a0.Ships).getD (a3 + x_4).toNat (Member.mk (Ship.mk 0 0 0 0 [] [] [] 0 0 0 0) [] (0 : Int) (0 : Int) (0 : Int))) a1) (fun x_6 => brk (decide (a4.getD (Int.toNat x_4) 0 < x_6.Lo) || decide (a4.getD (Int.toNat x_4) 0 > x_6.Hi)) (some (([], (61 : Int)))) (chk (InR (x_4 + 1)) (x_5 (x_4 + 1))))))) (loopC (fun (x_6 : Int × List Int) => fun x_7 => brk (decide (x_6.1 < (↑a4.length : Int))) (chk (InR (a3 + x_6.1)) (chk (InR (a3 + x_6.1 - 1)) (chk (0 ≤ a3 + x_6.1 - 1 ∧ a3 + x_6.1 - 1 < (↑a2.length : Int)) (chk (InR (x_6.1 - 1)) (chk (0 ≤ x_6.1 - 1 ∧ x_6.1 - 1 < (↑a4.length : Int)) (chk (InR (a2.getD (a3 + x_6.1 - 1).toNat (0 : Int) + a4.getD (x_6.1 - 1).toNat (0 : Int))) (chk (0 ≤ x_6.1 ∧ x_6.1 < (↑a4.length : Int)) (chk (InR (a2.getD (a3 + x_6.1 - 1).toNat (0 : Int) + a4.getD (x_6.1 - 1).toNat (0 : Int) - a4.getD (Int.toNat x_6.1) 0)) (chk (List.length x_6.2 + [a2.getD (a3 + x_6.1 - 1).toNat (0 : Int) + a4.getD (x_6.1 - 1).toNat (0 : Int) - a4.getD (Int.toNat x_6.1) 0].length ≤ (1000000000 : Nat)) (chk (InR (x_6.1 + 1)) (x_7 ((x_6.1 + 1, x_6.2 ++ [a2.getD (a3 + x_6.1 - 1).toNat (0 : Int) + a4.getD (x_6.1 - 1).toNat (0 : Int) - a4.getD (Int.toNat x_6.1) 0]))))))))))))) (some ((x_6.2, (0 : Int))))) (F) (((1 : Int), [])))) (F) ((0 : Int)))))) (F) ((0 : Int))))))))
def s39 (F : Nat) : CS E.G := ⟨39, [.v 13 true, .v 0 false, .sl 0, .v 0 false, .sl 0], [.sl 0 3, .v 0 false []], fun x => convoy_Rest F x.1 x.2.1 x.2.2.1 x.2.2.2.1 x.2.2.2.2.1⟩
theorem c39 (F : Nat) : CSok E gl (s39 F) := mkC (cx := ⟨[s21 F, s41 F, s54 F], [(20, Tryz.f20)], F, [], []⟩) hf39 (by kernel_rfl) rfl (allC (c21 F) (allC (c41 F) (allC (c54 F) all0))) ⟨(inlC hf20 en20 inl0), all0⟩ (.c .n (.c .n (.l ⟨[.i], [16, 32, 64, 832, 48, 80, 848], [0, 6, 7, 8, 5, 4, 3, 2, 1], [(864, .i IntKind.i64)], [], [], [], 9⟩ (.c .n (.p (.l ⟨[.i], [16, 32, 64, 1056, 48, 1040, 240], [0, 6, 7, 10], [(1072, .i IntKind.i64)], [], [], [], 11⟩ (.c .n (.l ⟨[.i, .l 0], [32, 64, 48], [0, 6, 7], [(320, .i IntKind.i64), (304, .h 11 3 0)], [], [], [], 12⟩ .n)))))))) rfl (by kernel_rfl)
theorem hf40 : HF 40 Tryz.f40 := hK (by kernel_rfl)
def law03_Level (F : Nat) (a0 : Int) (a1 : Int) : Option (Cell) :=
 some (Cell.mk (Span.mk 100 100) (Span.mk a0 a1) (Span.mk 0 0) (Span.mk 0 0))
def s40 (F : Nat) : CS E.G := ⟨40, [.v 0 false, .v 0 false], [.v 15 true []], fun x => law03_Level F x.1 x.2.1⟩
theorem c40 (F : Nat) : CSok E gl (s40 F) := mkC (cx := ⟨[], [], F, [], []⟩) hf40 (by kernel_rfl) rfl all0 ⟨inl0, all0⟩ .n rfl (by kernel_rfl)
theorem hf11 : HF 11 Tryz.f11 := hK (by kernel_rfl)
def law05_awake (F : Nat) : Option (Bool) :=
 bnd (law05_Example F 2) (fun x => bnd (convoy_Way F 100 60) (fun x_1 => bnd (convoy_Halt F x.Breaker 10) (fun x_2 => bnd (convoy_Gaps F x 100) (fun x_3 => bnd (convoy_Tail F x 100) (fun x_4 => bnd (convoy_Open F x 100 1) (fun x_5 => bnd (convoy_Rest F x 100 [(605 : Int), (605 : Int)] 0 [(100 : Int), (655 : Int), (300 : Int)]) (fun x_6 => bnd (law03_Level F 40 60) (fun x_7 => bnd (convoy_Fastest F x x_7) (fun x_8 => brk (x_1.2.2 == (0 : Int) && x_2.2 == (0 : Int) && x_3.2 == (0 : Int) && x_4.2 == (0 : Int) && x_5.2 == (0 : Int) && x_6.2 == (0 : Int) && x_8.2 == (0 : Int) && x_1.1 == (308 : Int) && x_1.2.1 == (309 : Int)) (brk (x_2.1.Lo == (50 : Int) && (x_2.1.Hi == (66 : Int) && true)) (bnd (slices_Equal_int F x_3.1 [(605 : Int), (605 : Int)]) (fun x_9 => brk (x_9) (brk (x_4.1 == (1450 : Int)) (brk (x_5.1 == (1234 : Int)) (bnd (slices_Equal_int F x_6.1 [(50 : Int), (960 : Int)]) (fun x_10 => some (x_10 && x_8.1 == (130 : Int)))) (some (false))) (some (false))) (some (false)))) (some (false))) (some (false)))))))))))
def s11 (F : Nat) : CS E.G := ⟨11, [], [.v 1 false []], fun x => law05_awake F⟩
theorem c11 (F : Nat) : CSok E gl (s11 F) := mkC (cx := ⟨[s10 F, s12 F, s30 F, s34 F, s35 F, s36 F, s37 F, s38 F, s39 F, s40 F], [], F, [], []⟩) hf11 (by kernel_rfl) rfl (allC (c10 F) (allC (c12 F) (allC (c30 F) (allC (c34 F) (allC (c35 F) (allC (c36 F) (allC (c37 F) (allC (c38 F) (allC (c39 F) (allC (c40 F) all0)))))))))) ⟨inl0, all0⟩ (.k (.k (.k (.k (.k (.k (.k (.k (.k (.k (.k (.k (.k (.k (.k (.k (.k (.k (.k (.k (.k (.k (.k (.k (.k (.k (.s (.s (.s (.s (.s .n .n) .n) .n) .n) .n))))))))))))))))))))))))))) rfl (by kernel_rfl)
theorem hf43 : HF 43 Tryz.f43 := hK (by kernel_rfl)
def cmp_Compare_int (F : Nat) (a0 : Int) (a1 : Int) : Option (Int) :=
 bnd (cmp_isNaN_int F a0) (fun x => bnd (cmp_isNaN_int F a1) (fun x_1 => brk (x) (brk (x_1) (some ((0 : Int))) (some ((-1 : Int)))) (brk (x_1) (some ((1 : Int))) (brk (decide (a0 < a1)) (some ((-1 : Int))) (brk (decide (a0 > a1)) (some ((1 : Int))) (some ((0 : Int))))))))
def s43 (F : Nat) : CS E.G := ⟨43, [.v 0 false, .v 0 false], [.v 0 false []], fun x => cmp_Compare_int F x.1 x.2.1⟩
theorem c43 (F : Nat) : CSok E gl (s43 F) := mkC (cx := ⟨[s63 F], [], F, [], []⟩) hf43 (by kernel_rfl) rfl (allC (c63 F) all0) ⟨inl0, all0⟩ (.c .n (.c .n (.c .n .n))) rfl (by kernel_rfl)
theorem hf13 : HF 13 Tryz.f13 := hK (by kernel_rfl)
def slices_Compare_int (F : Nat) (a0 : List Int) (a1 : List Int) : Option (Int) :=
 loopC (fun (x : Int) => fun x_1 => brk (decide (x < (↑a0.length : Int))) (chk (0 ≤ x ∧ x < (↑a0.length : Int)) (brk (decide (x ≥ (↑a1.length : Int))) (some ((1 : Int))) (chk (0 ≤ x ∧ x < (↑a1.length : Int)) (bnd (cmp_Compare_int F (a0.getD (Int.toNat x) 0) (a1.getD (Int.toNat x) 0)) (fun x_2 => brk (x_2 != (0 : Int)) (some (x_2)) (chk (InR (x + 1)) (x_1 (x + 1)))))))) (brk (decide ((↑a0.length : Int) < (↑a1.length : Int))) (some ((-1 : Int))) (some ((0 : Int))))) (F) ((0 : Int))
def s13 (F : Nat) : CS E.G := ⟨13, [.sl 0, .sl 0], [.v 0 false []], fun x => slices_Compare_int F x.1 x.2.1⟩
theorem c13 (F : Nat) : CSok E gl (s13 F) := mkC (cx := ⟨[s43 F], [], F, [], []⟩) hf13 (by kernel_rfl) rfl (allC (c43 F) all0) ⟨inl0, all0⟩ (.l ⟨[.i], [0, 16, 160, 144], [0, 1, 2], [(176, .i IntKind.i64)], [], [], [], 3⟩ (.c (.c .n .n) .n)) rfl (by kernel_rfl)
theorem hf3 : HF 3 Tryz.f3 := hK (by kernel_rfl)
def law05_ConvoyBest (F : Nat) (a0 : List Int) (a1 : List Int) (a2 : List Int) : Option (Bool) :=
 bnd (law05_Made F a0 5) (fun x => bnd (law03_Frozen F a1) (fun x_1 => bnd (convoy_Best F x x_1) (fun x_2 => loopC (fun (x_3 : Int × List Int × Int) => fun x_4 => brk (decide (x_3.1 < (↑x.Ships.length : Int))) (chk (InR (x_3.1 + 1)) (join (F) (fun (x_5 : Int × Int) => chk (0 ≤ x_5.1 ∧ x_5.1 ≤ (↑(List.length x_3.2.1) : Int) ∧ (0 : Nat) < [x_3.1].length ∧ List.length x_3.2.1 + [x_3.1].length ≤ (1000000 : Nat)) (chk (InR (x_3.1 + 1)) (x_4 ((x_3.1 + 1, insL x_3.2.1 (Int.toNat x_5.1) [x_3.1], x_5.2))))) (fun x_5 => brk (decide (x_3.2.2 ≥ (↑a2.length : Int))) (x_5 (((0 : Int), x_3.2.2))) (chk (InR (x_3.2.2 + 1)) (chk (InR (x_3.2.2 + (1 : Int) - (1 : Int))) (chk (0 ≤ x_3.2.2 + (1 : Int) - (1 : Int) ∧ x_3.2.2 + (1 : Int) - (1 : Int) < (↑a2.length : Int)) (chk (InR (a2.getD (x_3.2.2 + (1 : Int) - (1 : Int)).toNat (0 : Int))) (chk ((0 ≤ a2.getD (x_3.2.2 + (1 : Int) - (1 : Int)).toNat (0 : Int) ∧ a2.getD (x_3.2.2 + (1 : Int) - (1 : Int)).toNat 0 ≤ (9223372036854775807 : Int)) ∧ (0 : Int) < x_3.1 + 1) (x_5 ((a2.getD (x_3.2.2 + (1 : Int) - (1 : Int)).toNat (0 : Int) % (x_3.1 + 1), x_3.2.2 + 1))))))))))) (bnd (convoy_Ordered F x x_3.2.1) (fun x_5 => brk (x_5.2 != (0 : Int)) (some (false)) (bnd (convoy_Fastest F x_5.1 x_1) (fun x_6 => brk (x_2.2.2 != (0 : Int)) (bnd (brk (x_2.2.2 == (4 : Int) && x_6.2 == (4 : Int)) (law05_awake F) (some false)) (fun x_7 => some (x_2.2.2 == (4 : Int) && x_6.2 == (4 : Int) && x_7))) (bnd (convoy_Ordered F x x_2.1) (fun x_7 => bnd (convoy_Fastest F x_7.1 x_1) (fun x_8 => brk (x_7.2 != (0 : Int) || x_8.2 != (0 : Int) || x_8.1 != x_2.2.1 || x_6.2 == (0 : Int) && decide (x_6.1 > x_2.2.1)) (some (false)) (join (F) (fun (x_9 : PUnit) => bnd (law05_awake F) (fun x_10 => some (x_10))) (fun x_9 => brk (x_6.2 == (0 : Int) && x_6.1 == x_2.2.1) (bnd (convoy_Tail F x_5.1 x_2.2.1) (fun x_10 => bnd (convoy_Tail F x_7.1 x_2.2.1) (fun x_11 => bnd (brk (!(x_10.2 != (0 : Int) || x_11.2 != (0 : Int) || decide (x_10.1 < x_11.1)) && x_10.1 == x_11.1) (slices_Compare_int F x_3.2.1 x_2.1) (some (0 : Int))) (fun x_12 => brk (x_10.2 != (0 : Int) || x_11.2 != (0 : Int) || decide (x_10.1 < x_11.1) || x_10.1 == x_11.1 && decide (x_12 < 0)) (some (false)) (x_9 (())))))) (x_9 (())))))))))))) (F) (((0 : Int), [], (0 : Int))))))
def s3 (F : Nat) : CS E.G := ⟨3, [.sl 2, .sl 2, .sl 2], [.v 1 false []], fun x => law05_ConvoyBest F x.1 x.2.1 x.2.2.1⟩
theorem c3 (F : Nat) : CSok E gl (s3 F) := mkC (cx := ⟨[s4 F, s5 F, s6 F, s9 F, s10 F, s11 F, s12 F, s13 F], [(7, Tryz.f7), (24, Tryz.f24)], F, [], [⟨8, 0, 3, fun _ _ => none, true, 0, none⟩]⟩) hf3 (by kernel_rfl) rfl (allC (c4 F) (allC (c5 F) (allC (c6 F) (allC (c9 F) (allC (c10 F) (allC (c11 F) (allC (c12 F) (allC (c13 F) all0)))))))) ⟨(inlC hf7 en7 (inlC hf24 en24 inl0)), (allC (sok8 F) all0)⟩ (.p (.l ⟨[.i, .l 0, .i], [128, 192, 160, 144, 656, 112, 176], [0, 10, 13, 12, 11, 9, 3, 8, 7, 6, 5, 4], [(672, .i IntKind.i64), (208, .h 14 3 0)], [], [(13, 0, .i IntKind.i64)], [], 15⟩ (.c (.w ⟨[.i, .i], [], [0, 3, 13, 12], [(0, .i IntKind.i64)], [], [(13, 0, .i IntKind.i64)], [], 15⟩ .n (.p .n)) (.c .n (.c .n (.c .n (.j ⟨[], [], [0], [], [], [], [], 27⟩ (.c .n .n) .n))))))) rfl (by kernel_rfl)
end
end Go.Proofs.Cb

namespace Go.KX
def Ok {α : Type} (post : α → Prop) (o : Option α) : Prop := ∃ r, o = some r ∧ post r
section
variable {α β ι σ R : Type} {post : α → Prop}
theorem chk_pos {p : Prop} [Decidable p] {x : Option α} (h : p) : chk p x = x := if_pos h
theorem brk_true {x y : Option α} : brk true x y = x := rfl
theorem loopC_succ {body : σ → (σ → Option α) → Option α} {n : Nat} {x : σ} : loopC body (n + 1) x = body x (loopC body n) := rfl
theorem ok_some {r : α} (h : post r) : Ok post (some r) := ⟨r, rfl, h⟩
theorem ok_chk {p : Prop} [Decidable p] {x : Option α} (h : p) (hx : Ok post x) : Ok post (chk p x) := by rw [chk_pos h]; exact hx
theorem ok_brk {c : Bool} {x y : Option α} (ht : c = true → Ok post x) (hf : c = false → Ok post y) : Ok post (brk c x y) := by
 cases c with
 | true => exact ht rfl
 | false => exact hf rfl
theorem ok_brkT {c : Bool} {x y : Option α} (hc : c = true) (ht : Ok post x) : Ok post (brk c x y) := by subst hc; exact ht
theorem ok_brkF {c : Bool} {x y : Option α} (hc : c = false) (hf : Ok post y) : Ok post (brk c x y) := by subst hc; exact hf
theorem ok_bnd {x : Option β} {f : β → Option α} (q : β → Prop) (hx : Ok q x) (hf : ∀ b, q b → Ok post (f b)) : Ok post (bnd x f) := by
 obtain ⟨b, rfl, hb⟩ := hx
 exact hf b hb
theorem ok_bnde {x : Option β} {f : β → Option α} {b : β} (hx : x = some b) (hf : Ok post (f b)) : Ok post (bnd x f) := by subst hx; exact hf
theorem ok_join {F : Nat} (hF : 0 < F) {K : ι → Option α} {body : (ι → Option α) → Option α} (J : ι → Prop) (hK : ∀ i, J i → Ok post (K i)) (hb : ∀ k : ι → Option α, (∀ i, J i → Ok post (k i)) → Ok post (body k)) : Ok post (join F K body) := by
 obtain ⟨n, rfl⟩ := Nat.exists_eq_succ_of_ne_zero (Nat.ne_of_gt hF)
 exact hb K hK
theorem ok_loop {body : σ → (σ → Option α) → Option α} (I : σ → Prop) (μ : σ → Nat) {n : Nat} {x0 : σ} (h0 : I x0) (hn : μ x0 < n)
  (h : ∀ x (next : σ → Option α), I x → (∀ y, I y → μ y < μ x → Ok post (next y)) → Ok post (body x next)) : Ok post (loopC body n x0) := by
 induction n generalizing x0 with
 | zero => omega
 | succ n ih => exact h x0 _ h0 fun y hy hlt => ih hy (by omega)
theorem Ok.mono {post' : α → Prop} {o : Option α} (h : Ok post o) (hp : ∀ r, post r → post' r) : Ok post' o := by obtain ⟨r, h1, h2⟩ := h; exact ⟨r, h1, hp r h2⟩
theorem Ok.eq {o : Option α} {r : α} (h : Ok (fun x => x = r) o) : o = some r := by obtain ⟨r, h1, rfl⟩ := h; exact h1
end
theorem getD_mem {α : Type} {l : List α} {i : Nat} {d : α} (h : i < l.length) : l.getD i d ∈ l := by
 rw [List.getD_eq_getElem?_getD, List.getElem?_eq_getElem h]; exact List.getElem_mem h
theorem getD_get {α : Type} {l : List α} {i : Nat} {d : α} (h : i < l.length) : l.getD i d = l[i] := by
 rw [List.getD_eq_getElem?_getD, List.getElem?_eq_getElem h]; rfl
end Go.KX

namespace Go.KX
section
variable {α β : Type} {post : α → Prop}
theorem drop_get {l : List β} {i : Nat} {d : β} (h : i < l.length) : l.drop i = l.getD i d :: l.drop (i + 1) := by
 rw [getD_get h, List.drop_eq_getElem_cons h]
theorem ok_rest {σ : Type} {F : Nat} {l : List β} {d : β} {body : σ → (σ → Option α) → Option α} {x0 : σ} (idx : σ → Int) (Q : σ → List β → Prop) (hl : l.length < F) (hi0 : idx x0 = 0) (h0 : Q x0 l)
  (hb : ∀ x next, 0 ≤ idx x → idx x < l.length → Q x (l.getD (idx x).toNat d :: l.drop ((idx x).toNat + 1)) → l.getD (idx x).toNat d ∈ l → (∀ y, idx y = idx x + 1 → Q y (l.drop ((idx x).toNat + 1)) → Ok post (next y)) → Ok post (body x next))
  (he : ∀ x next, idx x = l.length → Q x [] → Ok post (body x next)) : Ok post (loopC body F x0) := by
 refine ok_loop (fun x => 0 ≤ idx x ∧ idx x ≤ l.length ∧ Q x (l.drop (idx x).toNat)) (fun x => l.length - (idx x).toNat) ⟨by omega, by omega, by rw [hi0]; exact h0⟩ (by rw [hi0]; simp; omega) ?_
 rintro x next ⟨i1, i2, i3⟩ hn
 by_cases hc : idx x < l.length
 ·have hi : (idx x).toNat < l.length := by omega
  rw [drop_get (d := d) hi] at i3
  refine hb x next i1 hc i3 (getD_mem hi) fun y hy hq => hn y ⟨by omega, by omega, ?_⟩ (by omega)
  rw [hy, show (idx x + 1).toNat = (idx x).toNat + 1 by omega]; exact hq
 ·rw [List.drop_eq_nil_of_le (by omega)] at i3
  exact he x next (by omega) i3
end
end Go.KX

namespace Go.KX
structure Bytes (l : List Int) : Prop where
 b : ∀ x ∈ l, 0 ≤ x ∧ x ≤ 255
 len : l.length ≤ 9223372036854775807
section
variable {α : Type} {post : α → Prop} {l : List Int} {pos n : Int}
theorem next_gen (hl : Bytes l) (h0 : 0 ≤ pos) (hp : pos < l.length) (hn : 0 < n) :
  0 ≤ l.getD pos.toNat 0 ∧ l.getD pos.toNat 0 ≤ 255 ∧ 0 ≤ l.getD pos.toNat 0 % n ∧ l.getD pos.toNat 0 % n < n ∧ l.getD pos.toNat 0 % n ≤ 255 := by
 have h := hl.b _ (getD_mem (i := pos.toNat) (d := 0) (by omega))
 have h1 := Int.emod_nonneg (l.getD pos.toNat 0) (by omega : n ≠ 0)
 have h2 := Int.emod_lt_of_pos (l.getD pos.toNat 0) hn
 have h3 : l.getD pos.toNat 0 % n ≤ l.getD pos.toNat 0 := by
  have e := Int.emod_add_mul_ediv (l.getD pos.toNat 0) n
  have e2 := Int.mul_nonneg (by omega : 0 ≤ n) (Int.ediv_nonneg h.1 (by omega : 0 ≤ n))
  omega
 exact ⟨h.1, h.2, h1, h2, by omega⟩
theorem next_ok (hl : Bytes l) (h0 : 0 ≤ pos) (hp : pos ≤ l.length) (hn : 0 < n) (k : Int × Int → Option α) (hk : ∀ v p : Int, 0 ≤ v → v < n → v ≤ 255 → 0 ≤ p → p ≤ l.length → Ok post (k (v, p))) :
  Ok post (brk (decide (pos ≥ (l.length : Int))) (k (0, pos)) (chk (InR (pos + 1)) (chk (InR (pos + 1 - 1)) (chk (0 ≤ pos + 1 - 1 ∧ pos + 1 - 1 < (l.length : Int)) (chk (InR (l.getD (pos + 1 - 1).toNat 0)) (chk (0 ≤ l.getD (pos + 1 - 1).toNat 0 ∧ l.getD (pos + 1 - 1).toNat 0 ≤ 9223372036854775807) (k (l.getD (pos + 1 - 1).toNat 0 % n, pos + 1)))))))) := by
 have hlen := hl.len
 refine ok_brk (fun _ => hk 0 pos (by omega) hn (by omega) h0 hp) (fun hc => ?_)
 have hc : pos < l.length := by simpa using hc
 rw [show pos + 1 - 1 = pos by omega]
 obtain ⟨h1, h2, h3, h4, h5⟩ := next_gen hl h0 hc hn
 exact ok_chk ⟨by omega, by omega⟩ (ok_chk ⟨by omega, by omega⟩ (ok_chk ⟨h0, hc⟩ (ok_chk ⟨by omega, by omega⟩ (ok_chk ⟨h1, by omega⟩ (hk _ _ h3 h4 h5 (by omega) (by omega))))))
theorem next_okS (hl : Bytes l) (h0 : 0 ≤ pos) (hp : pos ≤ l.length) (hn : 0 < n) (k : Int × Int → Option α) (hk : ∀ v p : Int, 0 ≤ v → v < n → v ≤ 255 → 0 ≤ p → p ≤ l.length → Ok post (k (v, p))) :
  Ok post (brk (decide (pos ≥ (l.length : Int))) (k (0, pos)) (chk (InR (pos + 1)) (chk (InR (pos + 1 - 1)) (chk (0 ≤ pos + 1 - 1 ∧ pos + 1 - 1 < (l.length : Int)) (chk (InR (l.getD (pos + 1 - 1).toNat 0)) (chk ((0 ≤ l.getD (pos + 1 - 1).toNat 0 ∧ l.getD (pos + 1 - 1).toNat 0 ≤ 9223372036854775807) ∧ 0 < n) (k (l.getD (pos + 1 - 1).toNat 0 % n, pos + 1)))))))) := by
 have hlen := hl.len
 refine ok_brk (fun _ => hk 0 pos (by omega) hn (by omega) h0 hp) (fun hc => ?_)
 have hc : pos < l.length := by simpa using hc
 rw [show pos + 1 - 1 = pos by omega]
 obtain ⟨h1, h2, h3, h4, h5⟩ := next_gen hl h0 hc hn
 exact ok_chk ⟨by omega, by omega⟩ (ok_chk ⟨by omega, by omega⟩ (ok_chk ⟨h0, hc⟩ (ok_chk ⟨by omega, by omega⟩ (ok_chk ⟨⟨h1, by omega⟩, hn⟩ (hk _ _ h3 h4 h5 (by omega) (by omega))))))
theorem next_ok0 {w0 w1 : Int} (e0 : w0 = 0) (e1 : w1 = 1) (hl : Bytes l) (hn : 0 < n) (k : Int × Int → Option α) (hk : ∀ v p : Int, 0 ≤ v → v < n → v ≤ 255 → 0 ≤ p → p ≤ l.length → Ok post (k (v, p))) :
  Ok post (brk (decide (0 ≥ (l.length : Int))) (k (0, 0)) (chk (0 ≤ w0 ∧ w0 < (l.length : Int)) (chk (InR (l.getD w0.toNat 0)) (chk (0 ≤ l.getD w0.toNat 0 ∧ l.getD w0.toNat 0 ≤ 9223372036854775807) (k (l.getD w0.toNat 0 % n, w1)))))) := by
 subst e0; subst e1
 refine ok_brk (fun _ => hk 0 0 (by omega) hn (by omega) (by omega) (by omega)) (fun hc => ?_)
 have hc : (0 : Int) < l.length := by have := of_decide_eq_false hc; omega
 obtain ⟨h1, h2, h3, h4, h5⟩ := next_gen hl (Int.le_refl 0) hc hn
 exact ok_chk ⟨by omega, hc⟩ (ok_chk ⟨by omega, by omega⟩ (ok_chk ⟨h1, by omega⟩ (hk _ _ h3 h4 h5 (by omega) (by omega))))
theorem ok_next {F : Nat} (hF : 0 < F) (hl : Bytes l) (h0 : 0 ≤ pos) (hp : pos ≤ l.length) (hn : 0 < n) {K : Int × Int → Option α} (hk : ∀ v p : Int, 0 ≤ v → v < n → v ≤ 255 → 0 ≤ p → p ≤ l.length → Ok post (K (v, p))) :
  Ok post (join F K fun k => brk (decide (pos ≥ (l.length : Int))) (k (0, pos)) (chk (InR (pos + 1)) (chk (InR (pos + 1 - 1)) (chk (0 ≤ pos + 1 - 1 ∧ pos + 1 - 1 < (l.length : Int)) (chk (InR (l.getD (pos + 1 - 1).toNat 0)) (chk (0 ≤ l.getD (pos + 1 - 1).toNat 0 ∧ l.getD (pos + 1 - 1).toNat 0 ≤ 9223372036854775807) (k (l.getD (pos + 1 - 1).toNat 0 % n, pos + 1)))))))) :=
 ok_join hF (fun x : Int × Int => 0 ≤ x.1 ∧ x.1 < n ∧ x.1 ≤ 255 ∧ 0 ≤ x.2 ∧ x.2 ≤ l.length) (fun x ⟨a, b, c, d, e⟩ => hk x.1 x.2 a b c d e) fun k hk => next_ok hl h0 hp hn k fun v p a b c d e => hk (v, p) ⟨a, b, c, d, e⟩
theorem ok_nextS {F : Nat} (hF : 0 < F) (hl : Bytes l) (h0 : 0 ≤ pos) (hp : pos ≤ l.length) (hn : 0 < n) {K : Int × Int → Option α} (hk : ∀ v p : Int, 0 ≤ v → v < n → v ≤ 255 → 0 ≤ p → p ≤ l.length → Ok post (K (v, p))) :
  Ok post (join F K fun k => brk (decide (pos ≥ (l.length : Int))) (k (0, pos)) (chk (InR (pos + 1)) (chk (InR (pos + 1 - 1)) (chk (0 ≤ pos + 1 - 1 ∧ pos + 1 - 1 < (l.length : Int)) (chk (InR (l.getD (pos + 1 - 1).toNat 0)) (chk ((0 ≤ l.getD (pos + 1 - 1).toNat 0 ∧ l.getD (pos + 1 - 1).toNat 0 ≤ 9223372036854775807) ∧ 0 < n) (k (l.getD (pos + 1 - 1).toNat 0 % n, pos + 1)))))))) :=
 ok_join hF (fun x : Int × Int => 0 ≤ x.1 ∧ x.1 < n ∧ x.1 ≤ 255 ∧ 0 ≤ x.2 ∧ x.2 ≤ l.length) (fun x ⟨a, b, c, d, e⟩ => hk x.1 x.2 a b c d e) fun k hk => next_okS hl h0 hp hn k fun v p a b c d e => hk (v, p) ⟨a, b, c, d, e⟩
theorem ok_next0 {F : Nat} (hF : 0 < F) (hl : Bytes l) (hn : 0 < n) {K : Int × Int → Option α} (hk : ∀ v p : Int, 0 ≤ v → v < n → v ≤ 255 → 0 ≤ p → p ≤ l.length → Ok post (K (v, p))) :
  Ok post (join F K fun k => brk (decide ((0 : Int) ≥ (l.length : Int))) (k (0, 0)) (chk (0 ≤ IntKind.i64.wrap (IntKind.i64.wrap (0 + 1) - 1) ∧ IntKind.i64.wrap (IntKind.i64.wrap (0 + 1) - 1) < (l.length : Int)) (chk (InR (l.getD (IntKind.i64.wrap (IntKind.i64.wrap (0 + 1) - 1)).toNat 0)) (chk (0 ≤ l.getD (IntKind.i64.wrap (IntKind.i64.wrap (0 + 1) - 1)).toNat 0 ∧ l.getD (IntKind.i64.wrap (IntKind.i64.wrap (0 + 1) - 1)).toNat 0 ≤ 9223372036854775807) (k (l.getD (IntKind.i64.wrap (IntKind.i64.wrap (0 + 1) - 1)).toNat 0 % n, IntKind.i64.wrap (0 + 1))))))) :=
 ok_join hF (fun x : Int × Int => 0 ≤ x.1 ∧ x.1 < n ∧ x.1 ≤ 255 ∧ 0 ≤ x.2 ∧ x.2 ≤ l.length) (fun x ⟨a, b, c, d, e⟩ => hk x.1 x.2 a b c d e) fun k hk => next_ok0 rfl rfl hl hn k fun v p a b c d e => hk (v, p) ⟨a, b, c, d, e⟩
end
end Go.KX
