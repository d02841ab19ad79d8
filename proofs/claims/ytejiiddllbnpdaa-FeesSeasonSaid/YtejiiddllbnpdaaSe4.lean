/- Texts KY, KZ, KZB, KZO, FnA, KLW, KLX, KLN, FsF, FsM, FsT, FsS, FsN, FsAw: own work; each part says what it is. -/
import Derived.Test.YtejiiddllbnpdaaSe3
import Derived.KernelRfl
namespace Go.KX
open Go Go.RowKit
noncomputable section
theorem stepR_scope {P : Program} {b : Frame} {a : Act} {k : List Item} {cs : List Frame} {w : World} {c : Code} : step P (lone (b.atR a (.code (.scope c) :: k)) cs w) = .next (lone (b.atR a (.code c :: .inScope c :: k)) cs w) :=
 step_lone_go (by simp [stepG, stepG.exec, Frame.atR])
theorem stepR_inScope {P : Program} {b : Frame} {a : Act} {k : List Item} {cs : List Frame} {w : World} {c : Code} : step P (lone (b.atR a (.inScope c :: k)) cs w) = .next (lone (b.atR a k) cs w) :=
 step_lone_go (by simp [stepG, stepG.exec, Frame.atR])
def noGoto (Q : Exit → Act → World → Prop) : Exit → Act → World → Prop
 | .goto _, _, _ => False
 | e, a, w => Q e a w
theorem wpIn_scope {F : Fence} {n : Nat} {P : Program} {Q : Exit → Act → World → Prop} {a : Act} {w : World} {c : Code} (h : c.wpIn F n P (noGoto Q) a w) : (Code.scope c).wpIn F n P Q a w := by
 intro b k cs hro hb hr
 have h0 : (lone (b.atR a (.code (.scope c) :: k)) cs w).fenced P F := fenced_calm hb hr rfl
 obtain ⟨e, a₁, w₁, hq, harr⟩ := h b (.inScope c :: k) cs hro hb hr
 cases e with
 | normal => exact ⟨.normal, a₁, w₁, hq, .head h0 stepR_scope (StepsIn.trans harr (.one (fenced_calm hb hr rfl) stepR_inScope))⟩
 | exit id =>
  have hx : exitTo id (.inScope c :: k) = exitTo id k := by simp [exitTo]
  exact ⟨.exit id, a₁, w₁, hq, fun k' hk => .head h0 stepR_scope (harr.1 k' (by rw [hx]; exact hk)),
   fun hr' hk => let ⟨k₁, h1, h2⟩ := harr.2 hr' (by rw [hx]; exact hk); ⟨k₁, h1, .head h0 stepR_scope h2⟩⟩
 | goto l => exact hq.elim
 | ret => exact ⟨_, a₁, w₁, hq, .of_steps (.one h0 stepR_scope) harr⟩
 | panic ch => exact ⟨_, a₁, w₁, hq, .of_steps (.one h0 stepR_scope) harr⟩
 | outgrown => exact ⟨_, a₁, w₁, hq, .of_steps (.one h0 stepR_scope) harr⟩
section
variable {E : Env} {R : Type} {r : R} {gl : List (Nat × Val E.G.car)} {fx : Fix}
theorem Does.seq {fr : Fr} {x y : Code} {s s1 s2 : XS E.G.car} {e : Ex} (h1 : Does E gl fx fr x s s1 .normal) (h2 : Does E gl fx fr y s1 s2 e) : Does E gl fx fr (.seq x y) s s2 e :=
 fun b m A a w Q hg hN hr hq => wpIn_seq (h1 b m A a w _ hg hN hr fun m' A' a' w' hr' => h2 b m' A' a' w' Q hg hN hr' hq)
theorem Does.seqX {fr : Fr} {x y : Code} {s s1 : XS E.G.car} {e : Ex} (h1 : Does E gl fx fr x s s1 e) (he : e ≠ .normal) : Does E gl fx fr (.seq x y) s s1 e :=
 fun b m A a w Q hg hN hr hq => wpIn_seq (h1 b m A a w _ hg hN hr fun m' A' a' w' hr' => by
  cases e with
  | normal => exact absurd rfl he
  | _ => exact hq m' A' a' w' hr')
theorem Does.from {fr : Fr} {x : Code} {s s0 s1 : XS E.G.car} {e : Ex} (h1 : Does E gl fx fr x s s1 e) (hm : ∀ f, s.map f = s0.map f) : Does E gl fx fr x s0 s1 e :=
 fun b m A a w Q hg hN hr hq => h1 b m A a w Q hg hN (by rw [hm]; exact hr) hq
theorem Does.arr {fr : Fr} {x : Code} {T : Tpl} {d : Nat} {s s2 s' s1 : XS E.G.car} {ρ : Rho} {e : Ex} (hs : OKS E fx s) (hF : Final T s.nl ρ) (hst : StOK T d s s2 ρ (fun _ _ => False) s') (h1 : Does E gl fx fr x s' s1 e) : Does E gl fx fr x s2 s1 e :=
 fun b m A a w Q hg hN hr hq => by
  obtain ⟨m', A', hr'⟩ := hst.rel hs hF hg.pn hr
  exact h1 b m' A' a w Q hg hN hr' hq
theorem Does.close {fr : Fr} {x : Code} {s s0 s1 : XS E.G.car} {e : Ex} (h1 : Does E gl fx fr x s s1 e) (hf : fr.f = 0) (hm : Same0 E fx s0 s) : Does E gl fx fr x s0 s1 e :=
 fun b m A a w Q hg hN hr hq => by
  rw [hf] at hr
  obtain ⟨m', hr'⟩ := hm b m A a w hg.pn hr
  exact h1 b m' A a w Q hg hN (by rw [hf]; exact hr') hq
theorem seq_sound {cx : Ctx E} {x0 : Ex1 E R} {x y : Code} (hx : CodeOK E gl x (exec1 cx x0 x)) (hy : CodeOK E gl y (exec1 cx x0 y)) {Y : YS E R} (hY : YOK E gl fx.ys Y) {fr : Fr} {h : Hint} {s : XS E.G.car} {K : KT E R} (hf : fr.f = 0) (hs : OKS E fx s)
  (hk : exec1 cx x0 x Y fr h s (fun h e s => match e with | .normal => exec1 cx x0 y Y fr h s K | e => K h e s) = some r) : ∃ h' e s', K h' e s' = some r ∧ OKS E fx s' ∧ Ext fr.d s s' ∧ Does E gl fx fr (.seq x y) s s' e := by
 obtain ⟨h1, e1, s1, k1, o1, x1, d1⟩ := hx fx Y fr h s r _ hY hf hs hk
 cases e1 with
 | normal =>
  obtain ⟨h2, e2, s2, k2, o2, x2, d2⟩ := hy fx Y fr h1 s1 r K hY hf o1 k1
  exact ⟨h2, e2, s2, k2, o2, x1.trans x2, d1.seq d2⟩
 | ret => exact ⟨h1, _, s1, k1, o1, x1, d1.seqX (by simp)⟩
 | exit id => exact ⟨h1, _, s1, k1, o1, x1, d1.seqX (by simp)⟩
theorem runOf_ok {cx : Ctx E} (hin : InlS E gl cx) {x0 : Ex1 E R} (hx0 : ∀ c, CodeOK E gl c (x0 c)) {ys : List YI} {Y : YS E R} (hY : YOK E gl ys Y) {roots : Nat → List Nat} : RunOK E gl ys (runOf cx roots x0 Y) := by
 intro c d xs s0 h K r o ht hl hk
 cases c with
 | fn k =>
  have hk : (match findFn k cx.inl with | some fn => goFn roots x0 Y fn d xs s0 h K | none => match findSrt k cx.srt with | some q => sortR q d xs s0 h K | none => none) = some r := hk
  split at hk
  ·rename_i fn hfn
   obtain ⟨hP, hen⟩ := hin.1 k fn hfn
   obtain ⟨h', v, s', h1, h2, h3, h4, h5⟩ := goFn_sound hx0 hP hY o ht hl hk
   exact ⟨h', v, s', h1, h2, h3, h4, hen, h5⟩
  ·split at hk
   ·rename_i q hq
    obtain ⟨hq1, hq2⟩ := findSrt_mem hq
    obtain ⟨h', v, s', h1, h2, h3, h4, h5⟩ := sortR_sound (hin.2 q hq1) o ht hl hk
    subst hq2
    exact ⟨h', v, s', h1, h2, h3, h4, (hin.2 q hq1).enters, h5⟩
   ·cases hk
 | y L =>
  have hk : (match findY L Y with | some y => y d xs s0 h K | none => none) = some r := hk
  split at hk
  ·rename_i f hf
   obtain ⟨y, hy, hyL, hh⟩ := hY L f hf
   obtain ⟨h', s', h1, h2, h3, h4, h5, h6⟩ := hh ys d xs s0 h K r o ht hl hk
   exact ⟨h', _, s', h1, h2, h3, h4, y, hy, hyL, rfl, h5, h6⟩
  ·cases hk
theorem exec1_sound {cx : Ctx E} (hmix : E.P.follows .mixedOrders = true) (ht : ∀ c ∈ cx.tbl, CSok E gl c) (hin : InlS E gl cx) (hkeys : ∀ p ∈ E.keys, KeyOK E.P E.G p.1 p.2) {x0 : Ex1 E R} (hx0 : ∀ c, CodeOK E gl c (x0 c)) : ∀ c : Code, CodeOK E gl c (exec1 cx x0 c) := by
 intro c
 induction c with
 | skip => intro fx Y fr h s r K hY hf hs hk; exact ⟨h, .normal, s, hk, hs, Ext.refl _ _, fun b m A a w Q _ _ hr hq => wpIn_skip (hq m A a w hr)⟩
 | region id ops draw =>
  intro fx Y fr h s r K hY hf hs hk
  obtain ⟨rs, h', h1, h2, h3, h4⟩ := region_sound (K := fun rs h => K h .normal rs.s) hmix ⟨ht, runOf_ok hin hx0 hY, hs.glo, hs.pn, hkeys⟩ (by omega) hs hk
  exact ⟨h', .normal, rs.s, h1, h2, h3, h4⟩
 | seq x y hx hy =>
  intro fx Y fr h s r K hY hf hs hk
  cases h with
  | j T ha hb =>
   obtain ⟨s1, hk, o1, x1, m1⟩ := restT_sound T.kt s hs hk
   obtain ⟨s2, hk, o2, x2, m2⟩ := restL_sound T.kl s1 o1 hk
   have hk : exec1 cx x0 x Y ⟨fr.f, Nat.succ fr.d, fr.N, fr.ds, fr.roots⟩ ha s2 (fun h e s' => match e with
    | .normal => closeC (Nat.succ fr.d) T.rw s' fun s' => arrK T fr.d s2 s' (fun x => stK T fr.d s2 x fun s => exec1 cx x0 y Y fr hb s K)
    | e => K h e s') = some r := join_some hk
   obtain ⟨h3, e3, s3, k3, o3, x3, d3⟩ := hx fx Y ⟨fr.f, Nat.succ fr.d, fr.N, fr.ds, fr.roots⟩ ha s2 r _ hY hf o2 hk
   have d3 : Does E gl fx fr x s2 s3 e3 := d3
   have x3' : Ext fr.d s2 s3 := x3.mono (Nat.le_succ _)
   have d3' : Does E gl fx fr x s s3 e3 := d3.from (fun f => (m2 f).trans (m1 f))
   cases e3 with
   | normal =>
    obtain ⟨s3c, k3, _, x3c, e3c⟩ := closeC_sound T.rw s3 o3 k3
    obtain ⟨y0, k4, harr⟩ := arr_sound (d := fr.d) o2.inv (OldS.of_ext (x3.trans x3c)) k3
    obtain ⟨s4, ρ, k5, hF, hst⟩ := harr r _ k4
    obtain ⟨h6, e6, s6, k6, o6, x6, d6⟩ := hy fx Y fr hb s4 r K hY hf (hst.oks o2 hF) k5
    exact ⟨h6, e6, s6, k6, o6, ((x1.trans x2).trans (hst.ext hF)).trans x6, d3'.seq ((d6.arr o2 hF hst).close hf e3c)⟩
   | ret => exact ⟨h3, _, s3, k3, o3, (x1.trans x2).trans x3', d3'.seqX (by simp)⟩
   | exit id => exact ⟨h3, _, s3, k3, o3, (x1.trans x2).trans x3', d3'.seqX (by simp)⟩
  | _ => exact seq_sound hx hy hY hf hs hk
 | cond v x y hx hy =>
  intro fx Y fr h s r K hY hf hs hk
  have hS : Sees (E := E) ⟨fun t => s.tmp fr.f t, s, none⟩ (s.map fr.f) := ⟨fun i v hv => by
   have hv' : s.tmp fr.f i = some v := hv
   simp only [XS.map, hv', Option.map_some], fun _ => rfl, fun _ => rfl, fun _ _ => rfl⟩
  obtain ⟨u, h1, hu⟩ := evK_sound hS hk
  have ev : ∀ {c : Bool}, (∀ m, den m u = .bool c) → ∀ {b : Base} {m A a w}, Rel (cxOf E b) m A (s.map fr.f) a w → a.eval v = .bool c := fun hc _ _ _ _ _ hr => by
   rw [(hu.eval hr (fun _ _ => rfl)).1, hc]
  have go : ∀ (c : Bool), (∀ m, den m u = .bool c) → ∀ hh, (match c with | true => exec1 cx x0 x Y fr hh s K | false => exec1 cx x0 y Y fr hh s K) = some r → ∃ h' e s', K h' e s' = some r ∧ OKS E fx s' ∧ Ext fr.d s s' ∧ Does E gl fx fr (.cond v x y) s s' e := by
   intro c hc hh hk
   cases c with
   | true =>
    obtain ⟨h2, e2, s2, k2, o2, x2, d2⟩ := hx fx Y fr hh s r K hY hf hs hk
    exact ⟨h2, e2, s2, k2, o2, x2, fun b m A a w Q hg hN hr hq => wpIn_cond_split (ev hc hr) (fun _ => d2 b m A a w Q hg hN hr hq) (fun h => by cases h)⟩
   | false =>
    obtain ⟨h2, e2, s2, k2, o2, x2, d2⟩ := hy fx Y fr hh s r K hY hf hs hk
    exact ⟨h2, e2, s2, k2, o2, x2, fun b m A a w Q hg hN hr hq => wpIn_cond_split (ev hc hr) (fun h => by cases h) (fun _ => d2 b m A a w Q hg hN hr hq)⟩
  split at h1
  ·rename_i e
   refine go e (fun _ => rfl) h ?_
   cases e <;> exact h1
  ·rename_i c
   cases c with
   | true => exact go true (fun _ => rfl) h.l1 (cutK_some h1)
   | false => exact go false (fun _ => rfl) h.l2 (cutK_some h1)
  ·cases h1
 | block id x hx =>
  intro fx Y fr h s r K hY hf hs hk
  obtain ⟨h1, e1, s1, k1, o1, x1, d1⟩ := hx fx Y fr h s r _ hY hf hs hk
  cases e1 with
  | normal => exact ⟨h1, .normal, s1, k1, o1, x1, fun b m A a w Q hg hN hr hq => wpIn_block (d1 b m A a w _ hg hN hr fun m' A' a' w' hr' => hq m' A' a' w' hr')⟩
  | ret => exact ⟨h1, .ret, s1, k1, o1, x1, fun b m A a w Q hg hN hr hq => wpIn_block (d1 b m A a w _ hg hN hr fun m' A' a' w' hr' => hq m' A' a' w' hr')⟩
  | exit id' =>
   have k1 : (bif Nat.beq id' id then K h1 .normal s1 else K h1 (.exit id') s1) = some r := k1
   cases e : Nat.beq id' id with
   | true =>
    rw [e, cond_true] at k1
    have e := Nat.eq_of_beq_eq_true e
    exact ⟨h1, .normal, s1, k1, o1, x1, fun b m A a w Q hg hN hr hq => wpIn_block (d1 b m A a w _ hg hN hr fun m' A' a' w' hr' => by
     simp only [Ex.to, Exit.inBlock, if_pos e]
     exact hq m' A' a' w' hr')⟩
   | false =>
    rw [e, cond_false] at k1
    have e : ¬ id' = id := fun h => by rw [h] at e; simp at e
    exact ⟨h1, .exit id', s1, k1, o1, x1, fun b m A a w Q hg hN hr hq => wpIn_block (d1 b m A a w _ hg hN hr fun m' A' a' w' hr' => by
     simp only [Ex.to, Exit.inBlock, if_neg e]
     exact hq m' A' a' w' hr')⟩
 | loop x hx =>
  intro fx Y fr h s r K hY hf hs hk
  cases h with
  | l T hb =>
   obtain ⟨sc, hk, oc, xc, ec⟩ := closeC_sound T.rw s hs hk
   obtain ⟨s1, hk, o1, x1, m1⟩ := restT_sound T.kt sc oc hk
   obtain ⟨s2, hk, o2, x2, m2⟩ := restL_sound T.kl s1 o1 hk
   obtain ⟨y0, hk, harr⟩ := arr_sound (d := fr.d) (d' := 1000000) o2.inv ⟨fun _ _ _ h _ => h, fun _ _ _ _ _ h _ => h⟩ hk
   have key : ∀ (n : Nat) (y : VT E.G.car T.ks) (s3 : XS E.G.car), Arr T fr.d s2 s3 R y → loopC (fun y next => stK T fr.d s2 y fun s' => exec1 cx x0 x Y ⟨fr.f, Nat.succ fr.d, fr.N, fr.ds, fr.roots⟩ hb s' fun h e s2' => match e with
      | .normal => closeC (Nat.succ fr.d) T.rw s2' fun s2' => arrK T fr.d s2 s2' next
      | e => K h e s2') n y = some r →
     ∃ h' e s', K h' e s' = some r ∧ OKS E fx s' ∧ Ext fr.d s2 s' ∧ ∀ (b : Base) (m : Nat → MV) (A : Nat → Prop) (a : Act) (w : World) (Q : Exit → Act → World → Prop), Good E gl fx b → FrOK fr b → Rel (cxOf E b) m A (s3.map fr.f) a w →
      (∀ m' A' a' w', Rel (cxOf E b) m' A' (s'.map fr.f) a' w' → Q e.to a' w') → Code.roundsIn (cxOf E b).F 0 E.P x Q n a w := by
    intro n
    induction n with
    | zero => intro y s3 _ h; cases h
    | succ n ih =>
     intro y s3 harr h
     obtain ⟨s4, ρ, k5, hF, hst⟩ := harr r _ h
     obtain ⟨h6, e6, s6, k6, o6, x6, d6⟩ := hx fx Y ⟨fr.f, Nat.succ fr.d, fr.N, fr.ds, fr.roots⟩ hb s4 r _ hY hf (hst.oks o2 hF) k5
     have d6 : Does E gl fx fr x s3 s6 e6 := Does.arr (fr := fr) o2 hF hst d6
     have x6' : Ext fr.d s2 s6 := (hst.ext hF).trans (x6.mono (Nat.le_succ _))
     cases e6 with
     | normal =>
      obtain ⟨s6c, k6, _, x6c, e6c⟩ := closeC_sound T.rw s6 o6 k6
      obtain ⟨y1, k7, harr1⟩ := arr_sound (d := fr.d) o2.inv (hst.old (x6.trans x6c)) k6
      obtain ⟨h8, e8, s8, k8, o8, x8, d8⟩ := ih y1 s6c harr1 k7
      exact ⟨h8, e8, s8, k8, o8, x8, fun b m A a w Q hg hN hr hq => d6 b m A a w _ hg hN hr fun m' A' a' w' hr' => by
       rw [hf] at hr'
       obtain ⟨m2, hr2⟩ := e6c b m' A' a' w' hg.pn hr'
       exact d8 b m2 A' a' w' Q hg hN (by rw [hf]; exact hr2) hq⟩
     | ret => exact ⟨h6, _, s6, k6, o6, x6', fun b m A a w Q hg hN hr hq => d6 b m A a w _ hg hN hr fun m' A' a' w' hr' => hq m' A' a' w' hr'⟩
     | exit id => exact ⟨h6, _, s6, k6, o6, x6', fun b m A a w Q hg hN hr hq => d6 b m A a w _ hg hN hr fun m' A' a' w' hr' => hq m' A' a' w' hr'⟩
   obtain ⟨h3, e3, s3, k3, o3, x3, d3⟩ := key cx.F y0 s2 harr hk
   exact ⟨h3, e3, s3, k3, o3, ((xc.trans x1).trans x2).trans x3, fun b m A a w Q hg hN hr hq => by
    rw [hf] at hr
    obtain ⟨m2', hr2⟩ := ec b m A a w hg.pn hr
    exact wpIn_loop_rounds cx.F (d3 b m2' A a w Q hg hN (by rw [m2, m1, hf]; exact hr2) hq)⟩
  | u n hb =>
   have key : ∀ (n : Nat) (h : Hint) (s : XS E.G.car), OKS E fx s → roundsK (fun h s K => exec1 cx x0 x Y fr h s K) K n h s = some r →
     ∃ h' e s', K h' e s' = some r ∧ OKS E fx s' ∧ Ext fr.d s s' ∧ ∀ (b : Base) (m : Nat → MV) (A : Nat → Prop) (a : Act) (w : World) (Q : Exit → Act → World → Prop), Good E gl fx b → FrOK fr b → Rel (cxOf E b) m A (s.map fr.f) a w →
      (∀ m' A' a' w', Rel (cxOf E b) m' A' (s'.map fr.f) a' w' → Q e.to a' w') → Code.roundsIn (cxOf E b).F 0 E.P x Q n a w := by
    intro n
    induction n with
    | zero => intro h s _ hk; cases hk
    | succ n ih =>
     intro h s hs hk
     obtain ⟨h6, e6, s6, k6, o6, x6, d6⟩ := hx fx Y fr h s r _ hY hf hs hk
     cases e6 with
     | normal =>
      obtain ⟨h8, e8, s8, k8, o8, x8, d8⟩ := ih h6 s6 o6 k6
      exact ⟨h8, e8, s8, k8, o8, x6.trans x8, fun b m A a w Q hg hN hr hq => d6 b m A a w _ hg hN hr fun m' A' a' w' hr' => d8 b m' A' a' w' Q hg hN hr' hq⟩
     | ret => exact ⟨h6, _, s6, k6, o6, x6, fun b m A a w Q hg hN hr hq => d6 b m A a w _ hg hN hr fun m' A' a' w' hr' => hq m' A' a' w' hr'⟩
     | exit id => exact ⟨h6, _, s6, k6, o6, x6, fun b m A a w Q hg hN hr hq => d6 b m A a w _ hg hN hr fun m' A' a' w' hr' => hq m' A' a' w' hr'⟩
   obtain ⟨h3, e3, s3, k3, o3, x3, d3⟩ := key n hb s hs hk
   exact ⟨h3, e3, s3, k3, o3, x3, fun b m A a w Q hg hN hr hq => wpIn_loop_rounds n (d3 b m A a w Q hg hN hr hq)⟩
  | _ => cases hk
 | rangeFunc g ps assign body ha hb => intro fx Y fr h s r K hY hf hs hk; exact range_sound hx0 hin.1 ha hb hY hf hs hk
 | exit id => intro fx Y fr h s r K hY hf hs hk; exact ⟨h, .exit id, s, hk, hs, Ext.refl _ _, fun b m A a w Q _ _ hr hq => wpIn_exit (hq m A a w hr)⟩
 | scope x hx =>
  intro fx Y fr h s r K hY hf hs hk
  obtain ⟨h1, e1, s1, k1, o1, x1, d1⟩ := hx fx Y fr h s r _ hY hf hs hk
  exact ⟨h1, e1, s1, k1, o1, x1, fun b m A a w Q hg hN hr hq => wpIn_scope (d1 b m A a w _ hg hN hr fun m' A' a' w' hr' => by cases e1 <;> exact hq m' A' a' w' hr')⟩
 | label l => intro fx Y fr h s r K hY hf hs hk; exact ⟨h, .normal, s, hk, hs, Ext.refl _ _, fun b m A a w Q _ _ hr hq => wpIn_label (hq m A a w hr)⟩
 | ret => intro fx Y fr h s r K hY hf hs hk; exact ⟨h, .ret, s, hk, hs, Ext.refl _ _, fun b m A a w Q _ _ hr hq => wpIn_ret (hq m A a w hr)⟩
 | _ => intro fx Y fr h s r K hY hf hs hk; cases hk
theorem exec_sound {cx : Ctx E} (hmix : E.P.follows .mixedOrders = true) (ht : ∀ c ∈ cx.tbl, CSok E gl c) (hin : InlS E gl cx) (hkeys : ∀ p ∈ E.keys, KeyOK E.P E.G p.1 p.2) : ∀ (n : Nat) (c : Code), CodeOK E gl c (exec (R := R) cx n c) := by
 intro n
 induction n with
 | zero => intro c fx Y fr h s r K _ _ _ hk; cases hk
 | succ n ih => exact exec1_sound hmix ht hin hkeys ih
end
end
end Go.KX

namespace Go.KX
open Go Go.RowKit
noncomputable section
section
variable {E : Env} {R : Type} {r : R} {gl : List (Nat × Val E.G.car)} {fx : Fix}
def mvOf (m : Nat → MV) : Option Nat → MV
 | some L => m L
 | none => nilMV
theorem seesOf (s : XS E.G.car) (f : Nat) : Sees (E := E) ⟨fun _ => none, s, none⟩ (s.map f) :=
 ⟨(fun i v hv => nomatch hv), fun _ => rfl, fun _ => rfl, fun _ _ => rfl⟩
def RelF (E : Env) (b : Base) (m : Nat → MV) (A : Nat → Prop) (g : Map E.G.car) (a : Act) (w : World) : Prop := Rel (cxOf E b) m A g a w ∧ ∀ x, ¬ b.bor x
theorem newRow_of {b : Base} {m : Nat → MV} {A : Nat → Prop} {g : Map E.G.car} {a : Act} {w : World} (h : RelF E b m A g a w) {L e t : Nat} {l : List (E.G.car t)} (hL : g (.o L) = some (.row e t l)) : NewRowAt E.G A b.B w (m L) e t l := by
 obtain ⟨h, hb⟩ := h
 obtain ⟨h1, h2⟩ := h.ent _ _ hL
 refine ⟨h1, ?_⟩
 rcases h2 with h2 | ⟨h2, h3, h4⟩
 ·exact .inl h2
 ·obtain ⟨h5, h6⟩ := h.own L _ (by rw [hL]; exact ⟨h2, rfl⟩)
  exact .inr ⟨h2, h3, h5.resolve_right (hb _), h6, h4⟩
theorem nilRow (G : Reg) (A : Nat → Prop) (sz : Nat) (w : World) (e t : Nat) : NewRowAt G A sz w nilMV e t ([] : List (G.car t)) := ⟨rfl, .inl ⟨rfl, rfl, 0, rfl⟩⟩
def RowsOf (s : XS E.G.car) (ls : List (Option Nat)) : Prop := ∀ L, some L ∈ ls → ∃ e t l, s.lab L 0 = some (.row e t l)
theorem ownsK_sound {s : XS E.G.car} : ∀ {vs : List SV} {cs : List (CV E.G.car)} {ks : List Key} {us : St E.G.car}, SvCases (s.map 0) vs cs ks us → ∀ {es : List Nat} {K : List (Option Nat) → Option R}, outK.ownsK s es cs vs K = some r →
  ∃ ls, K ls = some r ∧ RowsOf s ls ∧ ∀ (b : Base) (m : Nat → MV) (A : Nat → Prop) (a : Act) (w : World), RelF E b m A (s.map 0) a w → ResCells E.G A b.B w cs es (denL m vs) (ls.map (mvOf m)) := by
 intro vs cs ks us h
 induction h with
 | nil =>
  intro es K hk
  cases es <;> exact ⟨[], hk, (fun L h => nomatch h), fun b m A a w _ => ⟨rfl, rfl⟩⟩
 | cons hc hs ih =>
  intro es K hk
  rename_i v vs cv cs k ks u us
  cases cv with
  | v x =>
   have hk : outK.ownsK s es cs vs K = some r := by cases es <;> exact hk
   obtain ⟨ls, h1, h2, h3⟩ := ih hk
   refine ⟨ls, h1, h2, fun b m A a w hr => ?_⟩
   have hv : den m v = x := by cases hc with | plain h4 _ => exact h4 m
   have := h3 b m A a w hr
   cases es <;> exact ⟨_, by rw [denL, hv], this⟩
  | sl t l =>
   cases es with
   | nil => cases v <;> simp [outK.ownsK] at hk
   | cons e es =>
    cases hc with
    | nil =>
     have hk : outK.ownsK s es cs vs (fun ls => K (none :: ls)) = some r := hk
     obtain ⟨ls, h1, h2, h3⟩ := ih hk
     refine ⟨_, h1, fun L hL => h2 L (by simpa using hL), fun b m A a w hr => ⟨nilMV, denL m vs, ls.map (mvOf m), ?_, rfl, nilRow _ _ _ _ _ _, h3 b m A a w hr⟩⟩
     simp only [denL, den, nilMV]
    | ext h4 h5 =>
     rename_i L
     have hk : (match s.lab L 0 with
      | some (.row e' _ _) => bif Nat.beq e e' then outK.ownsK s es cs vs fun ls => K (some L :: ls) else none
      | _ => none) = some r := hk
     split at hk
     ·rename_i e' t' l' hl
      exact absurd hl (h5 _ _ _)
     ·cases hk
    | row h4 =>
     rename_i L ety
     have h4' : s.lab L 0 = some (.row ety t l) := h4
     have hk : (match s.lab L 0 with
      | some (.row e' _ _) => bif Nat.beq e e' then outK.ownsK s es cs vs fun ls => K (some L :: ls) else none
      | _ => none) = some r := hk
     rw [h4'] at hk
     obtain ⟨h5, hk9⟩ := bif_some hk
     have h5 := Nat.eq_of_beq_eq_true h5
     subst h5
     obtain ⟨ls, h1, h2, h3⟩ := ih hk9
     refine ⟨_, h1, fun L' hL => ?_, fun b m A a w hr => ⟨m L, denL m vs, ls.map (mvOf m), ?_, rfl, newRow_of hr h4, h3 b m A a w hr⟩⟩
     ·rcases List.mem_cons.1 hL with h6 | h6
      ·cases h6; exact ⟨_, _, _, h4'⟩
      ·exact h2 L' h6
     ·simp only [denL, den]
    | part => simp [outK.ownsK] at hk
    | partR => simp [outK.ownsK] at hk
theorem SvCases.noRow {M : Map E.G.car} {vs : List SV} {cs : List (CV E.G.car)} {ks : List Key} {us : St E.G.car} (h : SvCases M vs cs ks us) (he : us = []) : ∀ L, .o L ∉ ks := by
 induction h with
 | nil => intro L hL; cases hL
 | cons hc hs ih =>
  intro L hL
  have h2 := List.append_eq_nil_iff.1 he
  rcases List.mem_append.1 hL with hL | hL
  ·cases hc with
   | plain => cases hL
   | nil => cases hL
   | ext => simp at hL
   | row => cases h2.2
   | part => simp at hL
   | partR => cases h2.2
  ·exact ih h2.1 L hL
theorem outK_sound {s : XS E.G.car} {k : RK} {v : SV} {K : k.T E.G.car → List (Option Nat) → Option R} (h : outK s k v K = some r) :
  ∃ x ls, K x ls = some r ∧ RowsOf s ls ∧ ∀ (b : Base) (m : Nat → MV) (A : Nat → Prop) (a : Act) (w : World), RelF E b m A (s.map 0) a w → ResIs E.G A b.B w k x (den m v) (ls.map (mvOf m)) := by
 cases k with
 | v t agg es =>
  unfold outK at h
  simp only at h
  obtain ⟨cs, ks, us, h1, h2⟩ := svCVs_sound (c := ⟨fun _ => none, s, none⟩) (seesOf s 0) h
  split at h1
  ·rename_i x hx
   obtain ⟨h3, h4⟩ := bif_some h1
   obtain ⟨ls, h5, h6, h7⟩ := ownsK_sound h2 h4
   refine ⟨x, ls, h5, h6, fun b m A a w hr => ⟨denL m (svCells v), by rw [E.G.hdec t cs x hx]; exact h7 b m A a w hr, ?_⟩⟩
   cases v with
   | g ys => simp only at h3; rw [h3]; rfl
   | _ => simp only [Bool.not_eq_true'] at h3; rw [h3]; rfl
  ·cases h1
 | sl t e =>
  unfold outK at h
  simp only at h
  split at h
  ·exact ⟨[], [none], h, (fun L hL => by simp at hL), fun b m A a w hr => ⟨nilMV, rfl, rfl, nilRow _ _ _ _ _ _⟩⟩
  ·rename_i L
   split at h
   ·rename_i e' t' l hl
    split at h
    ·rename_i ht
     subst ht
     obtain ⟨h3, h4⟩ := bif_some h
     have h3 := Nat.eq_of_beq_eq_true h3
     subst h3
     refine ⟨l, [some L], h4, fun L' hL => ?_, fun b m A a w hr => ⟨m L, rfl, rfl, newRow_of hr hl⟩⟩
     have : L' = L := by simpa using hL
     subst this
     exact ⟨_, _, _, hl⟩
    ·cases h
   ·cases h
  ·cases h
 | r t agg =>
  unfold outK at h
  simp only at h
  obtain ⟨cs, ks, us, h1, h2⟩ := svCVs_sound (c := ⟨fun _ => none, s, none⟩) (seesOf s 0) h
  split at h1
  ·rename_i x hx
   obtain ⟨h3, h4⟩ := bif_some h1
   refine ⟨x, [], h4, (fun L hL => nomatch hL), fun b m A a w hr => ⟨rfl, denL m (svCells v), ?_, ?_⟩⟩
   ·rw [E.G.hdec t cs x hx]
    exact h2.read hr.1 (fun _ _ => rfl) (fun _ h => h) (fun L x hL => absurd hL (h2.noRow rfl L))
   ·cases v with
    | g ys => simp only at h3; rw [h3]; rfl
    | _ => simp only [Bool.not_eq_true'] at h3; rw [h3]; rfl
  ·cases h1
theorem frzOne_sound : ∀ (vs : List SV) {s : XS E.G.car} {K : XS E.G.car → Option R}, frzOne vs s K = some r →
  ∃ s', K s' = some r ∧ ∀ (b : Base) (m : Nat → MV) (A : Nat → Prop) (a : Act) (w : World), RelF E b m A (s.map 0) a w → ∃ A', RelF E b m A' (s'.map 0) a w := by
 intro vs
 induction vs with
 | nil => intro s K h; exact ⟨s, h, fun b m A a w hr => ⟨A, hr⟩⟩
 | cons v vs ih =>
  intro s K h
  simp only [frzOne] at h
  split at h
  ·rename_i L
   split at h
   ·rename_i ety t l hl
    rw [XS.upd_eq] at h
    obtain ⟨hmap, _, _⟩ := XS.map_updF 0 (f := 0) (by omega) s (u := [(.o L, none), (.x L, some (.ext t l))]) rfl
    obtain ⟨s', h1, h2⟩ := ih h
    refine ⟨s', h1, fun b m A a w hr => ?_⟩
    have h3 := hr.1.freeze (show s.map 0 (.o L) = some (.row ety t l) from hl)
    rw [← hmap] at h3
    exact h2 b m _ a w ⟨h3, hr.2⟩
   ·exact ih h
  ·exact ih h
theorem frzR_sound : ∀ (ks : List RK) {vs : List SV} {s : XS E.G.car} {K : XS E.G.car → Option R}, frzR ks vs s K = some r →
  ∃ s', K s' = some r ∧ ∀ (b : Base) (m : Nat → MV) (A : Nat → Prop) (a : Act) (w : World), RelF E b m A (s.map 0) a w → ∃ A', RelF E b m A' (s'.map 0) a w := by
 intro ks
 induction ks with
 | nil => intro vs s K h; exact ⟨s, by simpa [frzR] using h, fun b m A a w hr => ⟨A, hr⟩⟩
 | cons k ks ih =>
  intro vs s K h
  cases vs with
  | nil => exact ⟨s, h, fun b m A a w hr => ⟨A, hr⟩⟩
  | cons v vs =>
   cases k with
   | r t agg =>
    have h : frzOne (svCells v) s (fun s => frzR ks vs s K) = some r := h
    obtain ⟨s1, h1, h2⟩ := frzOne_sound _ h
    obtain ⟨s2, h3, h4⟩ := ih h1
    exact ⟨s2, h3, fun b m A a w hr => by obtain ⟨A1, hr1⟩ := h2 b m A a w hr; exact h4 b m A1 a w hr1⟩
   | v _ _ _ => exact ih h
   | sl _ _ => exact ih h
theorem outsK_sound {s : XS E.G.car} : ∀ (ks : List RK) {vs : List SV} {K : RT E.G.car ks → List (Option Nat) → Option R}, outsK s ks vs K = some r →
  ∃ x ls, K x ls = some r ∧ RowsOf s ls ∧ ∀ (b : Base) (m : Nat → MV) (A : Nat → Prop) (a : Act) (w : World), RelF E b m A (s.map 0) a w → ResAre E.G A b.B w ks x (denL m vs) (ls.map (mvOf m))
 | [], [], K, h => ⟨(), [], h, (fun L hL => nomatch hL), fun _ _ _ _ _ _ => ⟨rfl, rfl⟩⟩
 | [], _ :: _, K, h => by cases h
 | [k], [v], K, h => by
  obtain ⟨x, ls, h1, h2, h3⟩ := outK_sound (k := k) (v := v) (K := K) h
  exact ⟨x, ls, h1, h2, fun b m A a w hr => ⟨_, rfl, h3 b m A a w hr⟩⟩
 | [k], [], K, h => by cases h
 | [k], _ :: _ :: _, K, h => by cases h
 | k :: k' :: ks, [], K, h => by cases h
 | k :: k' :: ks, v :: vs, K, h => by
  have h : (outK s k v fun x ls => outsK s (k' :: ks) vs fun y ls' => K (x, y) (ls ++ ls')) = some r := h
  obtain ⟨x, ls, h1, h2, h3⟩ := outK_sound h
  obtain ⟨y, ls', h4, h5, h6⟩ := outsK_sound (k' :: ks) h1
  refine ⟨(x, y), ls ++ ls', h4, fun L hL => (List.mem_append.1 hL).elim (h2 L) (h5 L), fun b m A a w hr => ⟨_, _, ls.map (mvOf m), ls'.map (mvOf m), rfl, by simp, h3 b m A a w hr, h6 b m A a w hr⟩⟩
theorem apart_of {s : XS E.G.car} {b : Base} {m : Nat → MV} {A : Nat → Prop} {a : Act} {w : World} (hr : Rel (cxOf E b) m A (s.map 0) a w) : ∀ {ls : List (Option Nat)}, RowsOf s ls → nodupN (ls.filterMap id) = true → Apart (ls.map (mvOf m)) := by
 intro ls
 induction ls with
 | nil => intro _ _; trivial
 | cons o ls ih =>
  intro h hn
  have hls : RowsOf s ls := fun L hL => h L (List.mem_cons_of_mem _ hL)
  cases o with
  | none => exact ⟨fun mv' _ hc => absurd rfl hc, ih hls hn⟩
  | some L =>
   obtain ⟨h1, h2⟩ := nodupN_cons (x := L) (l := ls.filterMap id) hn
   refine ⟨fun mv' hmv hc hc' hb => ?_, ih hls h2⟩
   obtain ⟨o', ho', rfl⟩ := List.mem_map.1 hmv
   cases o' with
   | none => exact absurd rfl hc'
   | some L' =>
    obtain ⟨e, t, l, e1⟩ := h L (by simp)
    obtain ⟨e', t', l', e2⟩ := hls L' ho'
    have e1 : s.map 0 (.o L) = some (.row e t l) := e1
    have e2 : s.map 0 (.o L') = some (.row e' t' l') := e2
    have := hr.inj L L' (m L).b (by rw [e1]; exact ⟨hc, rfl⟩) (by rw [e2]; exact ⟨hc', hb⟩)
    subst this
    exact h1 (List.mem_filterMap.2 ⟨some L, ho', rfl⟩)
end
end
end Go.KX

namespace Go.KX
open Go Go.RowKit
noncomputable section
section
variable {cx : Cx} {m : Nat → MV} {A : Nat → Prop} {g : CMap cx} {a : Act} {w : World}
theorem Rel.know {i : Nat} {x : SV} (h : Rel cx m A g a w) (hv : a.tmps[i]? = some (den m x)) (hk : x.ok m) : Rel cx m A (upd [(.t i, some (.x x))] g) a w := by
 have hg : ∀ k, k ≠ .t i → upd [(.t i, some (.x x))] g k = g k := fun k hk => by rw [upd_one, if_neg (Ne.symm hk)]
 refine ⟨h.size, h.defers, fun k v hkv => ?_, fun L o v hv => ?_, fun L x ho => ?_, fun L L' x h1 h2 => ?_, h.frzc, h.held, h.top, h.fix, h.ko, h.frz0, h.frzA, h.pins⟩
 ·by_cases e : k = .t i
  ·subst e
   rw [upd_one, if_pos rfl] at hkv
   cases hkv
   exact ⟨hv, hk⟩
  ·rw [hg k e] at hkv
   exact h.ent k v hkv
 ·rw [hg _ (by simp)] at hv ⊢
  exact h.cell L o v hv
 ·rw [hg _ (by simp)] at ho
  exact h.own L _ ho
 ·rw [hg _ (by simp)] at h1 h2
  exact h.inj L L' _ h1 h2
theorem Rel.addRo {L blk : Nat} {cs : List (CV cx.G.car)} (h : Rel cx m A g a w) (hf : Free cx L g) (hA : A blk) (hd : ∀ (j : Nat) (cv : CV cx.G.car), cs[j]? = some cv → ∃ u, w.cell? ⟨blk, j, none⟩ = some u ∧ Hd cx.G A w cv u) :
  Rel cx (setL m L { b := blk, p := none, n := 0, c := 0 }) A (upd [(.x L, some (.ro cs))] g) a w := by
 have hg : ∀ k, k ≠ .x L → upd [(.x L, some (.ro cs))] g k = g k := fun k hk => by rw [upd_one, if_neg (Ne.symm hk)]
 refine h.fresh hf (fun k hk => ?_) (fun k v hk hv => ?_) (fun o v hv => ?_) (fun bb ho => ?_)
 ·simp only [touches, Bool.or_false] at hk
  exact .inr (.inl (Key.eqb_iff.1 hk).symm)
 ·rcases hk with rfl | rfl | ⟨o, rfl⟩
  ·rw [hg _ (by simp)] at hv
   have := hf.1 (.o L); rw [hv] at this; simp [mentions, keyHas] at this
  ·rw [upd_one, if_pos rfl] at hv
   cases hv
   exact ⟨by rw [setL_self]; exact hA, fun j cv hj => by rw [setL_self]; exact hd j cv hj⟩
  ·rw [hg _ (by simp)] at hv
   have := hf.1 (.c L o); rw [hv] at this; simp [mentions, keyHas] at this
 ·rw [hg _ (by simp)] at hv
  have := hf.1 (.c L o); rw [hv] at this; simp [mentions, keyHas] at this
 ·rw [hg _ (by simp)] at ho
  cases e : g (.o L) with
  | none => rw [e] at ho; exact ho.elim
  | some v => have := hf.1 (.o L); rw [e] at this; simp [mentions, keyHas] at this
end
section
variable {cx : Cx} {m : Nat → MV} {A : Nat → Prop} {g : CMap cx} {a : Act} {w : World}
theorem Rel.addX {L : Nat} {mv : MV} {v : Val cx.G.car} (h : Rel cx m A g a w) (hf : Free cx L g) (hat : At cx (setL m L mv) A a.tmps w (.x L) v) : Rel cx (setL m L mv) A (upd [(.x L, some v)] g) a w := by
 have hg : ∀ k, k ≠ .x L → upd [(.x L, some v)] g k = g k := fun k hk => by rw [upd_one, if_neg (Ne.symm hk)]
 refine h.fresh hf (fun k hk => ?_) (fun k v' hk hv => ?_) (fun o v hv => ?_) (fun bb ho => ?_)
 ·simp only [touches, Bool.or_false] at hk
  exact .inr (.inl (Key.eqb_iff.1 hk).symm)
 ·rcases hk with rfl | rfl | ⟨o, rfl⟩
  ·rw [hg _ (by simp)] at hv
   have := hf.1 (.o L); rw [hv] at this; simp [mentions, keyHas] at this
  ·rw [upd_one, if_pos rfl] at hv
   cases hv
   exact hat
  ·rw [hg _ (by simp)] at hv
   have := hf.1 (.c L o); rw [hv] at this; simp [mentions, keyHas] at this
 ·rw [hg _ (by simp)] at hv
  have := hf.1 (.c L o); rw [hv] at this; simp [mentions, keyHas] at this
 ·rw [hg _ (by simp)] at ho
  cases e : g (.o L) with
  | none => rw [e] at ho; exact ho.elim
  | some v => have := hf.1 (.o L); rw [e] at this; simp [mentions, keyHas] at this
end
section
variable {E : Env} {R : Type} {r : R} {gl : List (Nat × Val E.G.car)}
def f0 : Fix := ⟨0, []⟩
variable {fx : Fix}
theorem setT_ok {s : XS E.G.car} (hs : OKS E fx s) {i : Nat} {y : SV} (hy : y.lt s.nl = true) : OKS E fx (s.setF 0 0 (.t i) (some (.x y))) ∧ (s.setF 0 0 (.t i) (some (.x y))).map 0 = upd [(.t i, some (.x y))] (s.map 0) := by
 have e : (s.setF 0 0 (.t i) (some (.x y))).nl = s.nl := XS.setF_nl
 have h := hs.inv.setF (d := 0) (f := 0) (nl := s.nl) (Nat.le_refl _) (k := .t i) (v := some (.x y)) (fun L hL => by simp [keyHas] at hL) (fun x hx => by cases hx; exact hy)
 refine ⟨⟨?_, fun p hp => by rw [e]; exact hs.glo p hp, by rw [e]; exact hs.pn⟩, XS.map_setF 0 (by omega) s rfl⟩
 rw [← e] at h
 exact h
theorem setX_ok {s : XS E.G.car} (hs : OKS E fx s) {v : Val E.G.car} (hv : v.lt (Nat.succ s.nl) = true) : OKS E fx (⟨(s.setF 0 0 (.x s.nl) (some v)).t, (s.setF 0 0 (.x s.nl) (some v)).o, Nat.succ (s.setF 0 0 (.x s.nl) (some v)).nl⟩ : XS E.G.car) ∧
  XS.map (⟨(s.setF 0 0 (.x s.nl) (some v)).t, (s.setF 0 0 (.x s.nl) (some v)).o, Nat.succ (s.setF 0 0 (.x s.nl) (some v)).nl⟩ : XS E.G.car) 0 = upd [(.x s.nl, some v)] (s.map 0) := by
 have e : (s.setF 0 0 (.x s.nl) (some v)).nl = s.nl := XS.setF_nl
 rw [e]
 refine ⟨⟨hs.inv.setF (Nat.le_succ _) (fun L hL => by simp only [keyHas] at hL; have := Nat.eq_of_beq_eq_true hL; omega) (fun x hx => by cases hx; exact hv), fun p hp => Nat.lt_succ_of_lt (hs.glo p hp), Nat.le_succ_of_le hs.pn⟩, ?_⟩
 exact XS.map_setF 0 (by omega) s rfl
theorem setO_ok {s : XS E.G.car} (hs : OKS E fx s) {v : Val E.G.car} (hv : v.lt (Nat.succ s.nl) = true) : OKS E fx (⟨(s.setF 0 0 (.o s.nl) (some v)).t, (s.setF 0 0 (.o s.nl) (some v)).o, Nat.succ (s.setF 0 0 (.o s.nl) (some v)).nl⟩ : XS E.G.car) ∧
  XS.map (⟨(s.setF 0 0 (.o s.nl) (some v)).t, (s.setF 0 0 (.o s.nl) (some v)).o, Nat.succ (s.setF 0 0 (.o s.nl) (some v)).nl⟩ : XS E.G.car) 0 = upd [(.o s.nl, some v)] (s.map 0) := by
 have e : (s.setF 0 0 (.o s.nl) (some v)).nl = s.nl := XS.setF_nl
 rw [e]
 refine ⟨⟨hs.inv.setF (Nat.le_succ _) (fun L hL => by simp only [keyHas] at hL; have := Nat.eq_of_beq_eq_true hL; omega) (fun x hx => by cases hx; exact hv), fun p hp => Nat.lt_succ_of_lt (hs.glo p hp), Nat.le_succ_of_le hs.pn⟩, ?_⟩
 exact XS.map_setF 0 (by omega) s rfl
def ParOK (E : Env) (fx : Fix) (s s' : XS E.G.car) (P : (Nat → Prop) → Act → World → Prop) : Prop :=
 OKS E fx s' ∧ ∀ (b : Base) (m : Nat → MV) (A : Nat → Prop) (a : Act) (w : World), b.pn ≤ fx.pn → Rel (cxOf E b) m A (s.map 0) a w → P A a w → ∃ m', Rel (cxOf E b) m' A (s'.map 0) a w
theorem free_nl {s : XS E.G.car} (hs : OKS E fx s) {b : Base} (hpn : b.pn ≤ fx.pn) {L : Nat} (hL : s.nl ≤ L) : Free (cxOf E b) L (s.map 0) :=
 ⟨hs.inv.free hL, fun p hp => by have := hs.glo p hp; omega, by show b.pn ≤ L; have := hs.pn; omega⟩
def labS (s : XS E.G.car) (v : Val E.G.car) : XS E.G.car := ⟨(s.labF 0 s.nl 1 (some v)).t, (s.labF 0 s.nl 1 (some v)).o, Nat.succ (s.labF 0 s.nl 1 (some v)).nl⟩
theorem labS_nl {s : XS E.G.car} {v : Val E.G.car} : (labS s v).nl = s.nl + 1 := by
 show Nat.succ (s.labF 0 s.nl 1 (some v)).nl = s.nl + 1
 rw [(XS.labF_t 0 s s.nl 1 _).2]
theorem labS_ok {s : XS E.G.car} (hs : OKS E fx s) {v : Val E.G.car} (hv : v.lt (s.nl + 1) = true) : OKS E fx (labS s v) ∧ (labS s v).map 0 = upd [(.x s.nl, some v)] (s.map 0) := setX_ok hs hv
theorem parWk_sound {s : XS E.G.car} (hs : OKS E fx s) {i tM tA : Nat} {rr : List (Int × List Value)} {x : (PK.wk tM tA rr).T E.G.car} {K : XS E.G.car → Option R} (h : parK s i (.wk tM tA rr) x K = some r) :
  ∃ s', K s' = some r ∧ ParOK E fx s s' fun A a w => ∃ v, a.tmps[i]? = some v ∧ ArgIs E A w (.wk tM tA rr) x v := by
 have h : s.setLab 0 s.nl 1 (some (.ro (E.G.enc tM x.1))) (fun s1 =>
   XS.setLab 0 ⟨s1.t, s1.o, Nat.succ s1.nl⟩ (Nat.succ s1.nl) 1 (some (.ro (E.G.enc tA x.2))) fun s2 =>
   XS.setLab 0 ⟨s2.t, s2.o, Nat.succ s2.nl⟩ (Nat.succ s2.nl) 1 (some (.mr rr)) fun s3 =>
   XS.setLab 0 ⟨s3.t, s3.o, Nat.succ s3.nl⟩ (Nat.succ s3.nl) 1 (some (.rb [.p s1.nl 0, .p s2.nl 0, .m s3.nl])) fun s4 =>
   XS.setTmp 0 0 ⟨s4.t, s4.o, Nat.succ s4.nl⟩ i (some (.p s4.nl 0)) K) = some r := h
 simp only [XS.setLab_eq] at h
 have e1 : (s.labF 0 s.nl 1 (some (.ro (E.G.enc tM x.1)))).nl = s.nl := (XS.labF_t 0 s s.nl 1 _).2
 have hl : ∀ (s : XS E.G.car) (v : Val E.G.car), XS.labF 0 (labS s v) (labS s v).nl 1 = XS.labF 0 (labS s v) (Nat.succ (s.labF 0 s.nl 1 (some v)).nl) 1 := fun _ _ => rfl
 let s1 := labS s (.ro (E.G.enc tM x.1))
 let s2 := labS s1 (.ro (E.G.enc tA x.2))
 let s3 := labS s2 (.mr rr)
 let s4 := labS s3 (.rb [.p s.nl 0, .p s1.nl 0, .m s2.nl])
 have n1 : s1.nl = s.nl + 1 := labS_nl
 have n2 : s2.nl = s1.nl + 1 := labS_nl
 have n3 : s3.nl = s2.nl + 1 := labS_nl
 have n4 : s4.nl = s3.nl + 1 := labS_nl
 obtain ⟨o1, m1⟩ := labS_ok hs (v := .ro (E.G.enc tM x.1)) rfl
 obtain ⟨o2, m2⟩ := labS_ok o1 (v := .ro (E.G.enc tA x.2)) rfl
 obtain ⟨o3, m3⟩ := labS_ok o2 (v := .mr rr) rfl
 obtain ⟨o4, m4⟩ := labS_ok o3 (v := .rb [.p s.nl 0, .p s1.nl 0, .m s2.nl]) (by
  simp only [Val.lt, ltL, SV.lt, Bool.and_true, Bool.and_eq_true, Nat.blt_eq]
  refine ⟨?_, ?_, ?_⟩ <;> (change _ < s3.nl + 1; omega))
 have h : XS.setTmp 0 0 s4 i (some (.p s3.nl 0)) K = some r := by
  have q1 : (s1.labF 0 s1.nl 1 (some (.ro (E.G.enc tA x.2)))).nl = s1.nl := (XS.labF_t 0 _ _ 1 _).2
  have q2 : (s2.labF 0 s2.nl 1 (some (.mr rr))).nl = s2.nl := (XS.labF_t 0 _ _ 1 _).2
  have q3 : (s3.labF 0 s3.nl 1 (some (.rb [.p s.nl 0, .p s1.nl 0, .m s2.nl]))).nl = s3.nl := (XS.labF_t 0 _ _ 1 _).2
  have h : XS.setTmp 0 0 (labS s3 (.rb [.p (s.labF 0 s.nl 1 (some (.ro (E.G.enc tM x.1)))).nl 0, .p (s1.labF 0 s1.nl 1 (some (.ro (E.G.enc tA x.2)))).nl 0, .m (s2.labF 0 s2.nl 1 (some (.mr rr))).nl])) i
    (some (.p (s3.labF 0 s3.nl 1 (some (.rb [.p (s.labF 0 s.nl 1 (some (.ro (E.G.enc tM x.1)))).nl 0, .p (s1.labF 0 s1.nl 1 (some (.ro (E.G.enc tA x.2)))).nl 0, .m (s2.labF 0 s2.nl 1 (some (.mr rr))).nl]))).nl 0)) K = some r := h
  rw [e1, q1, q2, q3] at h
  exact h
 rw [XS.setTmp_eq] at h
 obtain ⟨o5, m5⟩ := setT_ok o4 (i := i) (y := .p s3.nl 0) (by
  simp only [SV.lt, Nat.blt_eq]
  change s3.nl < s4.nl
  omega)
 refine ⟨_, h, o5, fun b m A a w hpn hr ⟨v, hv, blk, pM, pA, bR, hb, hA, c0, c1, c2, hM, hAr, hAR, es, cl, hes, hmr⟩ => ?_⟩
 obtain ⟨bM, rfl, hAM, hdM⟩ := hM
 obtain ⟨bA, rfl, hAA, hdA⟩ := hAr
 have r1 := hr.addRo (free_nl hs hpn (Nat.le_refl _)) hAM hdM
 rw [← m1] at r1
 have r2 := r1.addRo (free_nl o1 hpn (Nat.le_refl _)) hAA hdA
 rw [← m2] at r2
 have r3 := r2.addX (mv := { b := bR, p := none, n := 0, c := 0 }) (v := .mr rr) (free_nl o2 hpn (Nat.le_refl _)) ⟨by rw [setL_self]; exact hAR, es, cl, by rw [setL_self]; exact hes, hmr⟩
 rw [← m3] at r3
 have d1 : ∀ mv mv' mv'' mv''' : MV, setL (setL (setL (setL m s.nl mv) s1.nl mv') s2.nl mv'') s3.nl mv''' s.nl = mv := fun mv mv' mv'' mv''' => by
  rw [setL_ne _ _ (by omega), setL_ne _ _ (by omega), setL_ne _ _ (by omega), setL_self]
 have d2 : ∀ mv mv' mv'' mv''' : MV, setL (setL (setL (setL m s.nl mv) s1.nl mv') s2.nl mv'') s3.nl mv''' s1.nl = mv' := fun mv mv' mv'' mv''' => by
  rw [setL_ne _ _ (by omega), setL_ne _ _ (by omega), setL_self]
 have d3 : ∀ mv mv' mv'' mv''' : MV, setL (setL (setL (setL m s.nl mv) s1.nl mv') s2.nl mv'') s3.nl mv''' s2.nl = mv'' := fun mv mv' mv'' mv''' => by
  rw [setL_ne _ _ (by omega), setL_self]
 have r4 := r3.addX (mv := { b := blk, p := none, n := 0, c := 0 }) (v := .rb [.p s.nl 0, .p s1.nl 0, .m s2.nl]) (free_nl o3 hpn (Nat.le_refl _)) (by
  refine ⟨by rw [setL_self]; exact hA, ⟨trivial, trivial, trivial, trivial⟩, fun j y hy => ?_⟩
  rw [setL_self]
  match j, hy with
  | 0, hy => cases hy; rw [show den _ (SV.p s.nl 0) = _ from rfl]; simp only [den]; rw [d1]; exact c0
  | 1, hy => cases hy; simp only [den]; rw [d2]; exact c1
  | 2, hy => cases hy; simp only [den]; rw [d3]; exact c2
  | j + 3, hy => simp at hy)
 rw [← m4] at r4
 have r5 := r4.know (i := i) (x := .p s3.nl 0) (by
  rw [hv, hb]
  show _ = some (Value.pointer (some ⟨(setL _ s3.nl _ s3.nl).b, 0, none⟩))
  rw [setL_self]) trivial
 rw [← m5] at r5
 exact ⟨_, r5⟩
theorem parK_sound {s : XS E.G.car} (hs : OKS E fx s) {i : Nat} {p : PK} {x : p.T E.G.car} {K : XS E.G.car → Option R} (h : parK s i p x K = some r) :
  ∃ s', K s' = some r ∧ ParOK E fx s s' fun A a w => ∃ v, a.tmps[i]? = some v ∧ ArgIs E A w p x v := by
 have lab : ∀ (v : Val E.G.car) (y : SV) (K : XS E.G.car → Option R), v.lt (Nat.succ s.nl) = true → y.lt (s.nl + 1) = true → (s.setLab 0 s.nl 1 (some v) fun s => XS.setTmp 0 0 ⟨s.t, s.o, Nat.succ s.nl⟩ i (some y) K) = some r →
   ∃ s', K s' = some r ∧ OKS E fx s' ∧ s'.map 0 = upd [(.t i, some (.x y))] (upd [(.x s.nl, some v)] (s.map 0)) := by
  intro v y K h1 hy h
  rw [XS.setLab_eq, XS.setTmp_eq] at h
  obtain ⟨o1, m1⟩ := setX_ok hs h1
  obtain ⟨o2, m2⟩ := setT_ok o1 (i := i) (y := y) (by
   show y.lt (Nat.succ (s.setF 0 0 (.x s.nl) (some v)).nl) = true
   rw [XS.setF_nl]; exact hy)
  exact ⟨_, h, o2, by rw [← m1]; exact m2⟩
 cases p with
 | wk tM tA rr => exact parWk_sound hs h
 | v t agg =>
  unfold parK at h
  obtain ⟨ys, us, nl', h1, h2, h3, h4, h5, h6⟩ := cvsK_sound h
  cases hup : upBelow nl' us with
  | false => rw [hup] at h1; cases h1
  | true =>
   rw [hup] at h1
   simp only [Bool.not_true, cond_false, XS.upd_eq] at h1
   obtain ⟨g1, g2, _⟩ := XS.map_updF 0 (f := 0) (by omega) s (upBelow_ups hup)
   have o1 : OKS E fx (⟨(XS.updF 0 0 us s).t, (XS.updF 0 0 us s).o, nl'⟩ : XS E.G.car) := ⟨hs.inv.updF h2 hup, fun p hp => Nat.lt_of_lt_of_le (hs.glo p hp) h2, Nat.le_trans hs.pn h2⟩
   have m1 : XS.map (⟨(XS.updF 0 0 us s).t, (XS.updF 0 0 us s).o, nl'⟩ : XS E.G.car) 0 = upd us (s.map 0) := g1
   cases agg with
   | true =>
    simp only [XS.setTmp_eq] at h1
    obtain ⟨o2, m2⟩ := setT_ok o1 (i := i) (y := .g ys) (by simpa [SV.lt] using h4)
    refine ⟨_, h1, o2, fun b m A a w hpn hr ⟨v, hv, us', hd, he⟩ => ?_⟩
    obtain ⟨m', hr', e1, e2, _⟩ := h6 b m A (s.map 0) a w us' hr (fun L hL _ => free_nl hs hpn hL) hd
    refine ⟨m', ?_⟩
    show Rel _ _ _ (XS.map (XS.setF 0 0 _ (.t i) (some (.x (.g ys)))) 0) _ _
    rw [m2, m1]
    simp only [if_true] at he
    exact hr'.know (by rw [hv, he, den, e1]) e2
   | false =>
    simp only at h1
    split at h1
    ·rename_i y
     simp only [XS.setTmp_eq] at h1
     obtain ⟨o2, m2⟩ := setT_ok o1 (i := i) (y := y) (by simp only [ltL, Bool.and_true] at h4; exact h4)
     refine ⟨_, h1, o2, fun b m A a w hpn hr ⟨v, hv, us', hd, he⟩ => ?_⟩
     obtain ⟨m', hr', e1, e2, _⟩ := h6 b m A (s.map 0) a w us' hr (fun L hL _ => free_nl hs hpn hL) hd
     refine ⟨m', ?_⟩
     show Rel _ _ _ (XS.map (XS.setF 0 0 _ (.t i) (some (.x y))) 0) _ _
     rw [m2, m1]
     simp only [Bool.false_eq_true, if_false] at he
     subst he
     have e1 : den m' y = v := by simpa [denL] using e1
     exact hr'.know (by rw [hv, e1]) e2.1
    ·cases h1
 | sl t =>
  obtain ⟨s', h1, o1, m1⟩ := lab (.ext t x) (.h s.nl) K rfl (by simp [SV.lt]) (by
   have h : (s.setLab 0 s.nl 1 (some (.ext t x)) fun s => XS.setTmp 0 0 ⟨s.t, s.o, Nat.succ s.nl⟩ i (some (.h s.nl)) K) = some r := h
   rw [XS.setLab_eq] at h ⊢
   rw [XS.setTmp_eq] at h ⊢
   rw [(XS.labF_t 0 s s.nl 1 (some (.ext t x))).2] at h ⊢
   exact h)
  refine ⟨s', h1, o1, fun b m A a w hpn hr ⟨v, hv, hd⟩ => ?_⟩
  have hd : Hd E.G A w (.sl t x) v := hd
  obtain ⟨p, n, c, rfl⟩ := hd.slice
  have h2 := hr.addExt (free_nl hs hpn (Nat.le_refl _)) hd
  exact ⟨_, by rw [m1]; exact h2.know (by rw [hv]; simp only [den, setL_self]) trivial⟩
 | ptr t =>
  obtain ⟨s', h1, o1, m1⟩ := lab (.ro (E.G.enc t x)) (.p s.nl 0) K rfl (by simp [SV.lt]) (by
   have h : (s.setLab 0 s.nl 1 (some (.ro (E.G.enc t x))) fun s => XS.setTmp 0 0 ⟨s.t, s.o, Nat.succ s.nl⟩ i (some (.p s.nl 0)) K) = some r := h
   rw [XS.setLab_eq] at h ⊢
   rw [XS.setTmp_eq] at h ⊢
   rw [(XS.labF_t 0 s s.nl 1 _).2] at h ⊢
   exact h)
  refine ⟨s', h1, o1, fun b m A a w hpn hr ⟨v, hv, blk, hb, hA, hd⟩ => ?_⟩
  have h2 := hr.addRo (free_nl hs hpn (Nat.le_refl _)) hA hd
  exact ⟨_, by rw [m1]; exact h2.know (by rw [hv, hb]; simp only [den, setL_self]) trivial⟩
 | gp t =>
  obtain ⟨s', h1, o1, m1⟩ := lab (.ro (E.G.enc t x)) (.g [.p s.nl 0]) K rfl (by simp [SV.lt, ltL]) (by
   have h : (s.setLab 0 s.nl 1 (some (.ro (E.G.enc t x))) fun s => XS.setTmp 0 0 ⟨s.t, s.o, Nat.succ s.nl⟩ i (some (.g [.p s.nl 0])) K) = some r := h
   rw [XS.setLab_eq] at h ⊢
   rw [XS.setTmp_eq] at h ⊢
   rw [(XS.labF_t 0 s s.nl 1 _).2] at h ⊢
   exact h)
  refine ⟨s', h1, o1, fun b m A a w hpn hr ⟨v, hv, u, hu, blk, hb, hA, hd⟩ => ?_⟩
  have h2 := hr.addRo (free_nl hs hpn (Nat.le_refl _)) hA hd
  exact ⟨_, by rw [m1]; exact h2.know (by rw [hv, hu, hb]; simp only [den, denL, setL_self]) ⟨trivial, trivial⟩⟩
 | nl =>
  change Nat at x
  have h : XS.setTmp 0 0 s i (some (.v (.slice none 0 x))) K = some r := h
  rw [XS.setTmp_eq] at h
  obtain ⟨o2, m2⟩ := setT_ok hs (i := i) (y := .v (.slice none 0 x)) rfl
  refine ⟨_, h, o2, fun b m A a w hpn hr ⟨v, hv, hd⟩ => ⟨m, ?_⟩⟩
  have hd : v = .slice none 0 x := hd
  have h3 : Rel (cxOf E b) m A ((XS.setF 0 0 s (.t i) (some (.x (.v (.slice none 0 x))))).map 0) a w := by
   rw [m2]
   exact hr.know (by rw [hv, hd]; rfl) trivial
  exact h3
 | ow ety t =>
  have h : s.setLab 0 s.nl 0 (some (.row ety t x)) (fun s => XS.setTmp 0 0 ⟨s.t, s.o, Nat.succ s.nl⟩ i (some (.h s.nl)) K) = some r := h
  rw [XS.setLab_eq, XS.setTmp_eq] at h
  obtain ⟨o1, m1⟩ := setO_ok hs (v := .row ety t x) rfl
  obtain ⟨o2, m2⟩ := setT_ok o1 (i := i) (y := .h (s.setF 0 0 (.o s.nl) (some (.row ety t x))).nl) (by
   show (SV.h _).lt (Nat.succ _) = true
   simp [SV.lt])
  exact ⟨_, h, o2, fun b m A a w hpn hr ⟨v, hv, hd⟩ => hd.elim⟩
 | fv f =>
  have h : XS.setTmp 0 0 s i (some (.v (.func (.func f) #[] #[]))) K = some r := h
  rw [XS.setTmp_eq] at h
  obtain ⟨o2, m2⟩ := setT_ok hs (i := i) (y := .v (.func (.func f) #[] #[])) rfl
  refine ⟨_, h, o2, fun b m A a w hpn hr ⟨v, hv, hd⟩ => ⟨m, ?_⟩⟩
  have hd : v = .func (.func f) #[] #[] := hd
  have h3 : Rel (cxOf E b) m A ((XS.setF 0 0 s (.t i) (some (.x (.v (.func (.func f) #[] #[]))))).map 0) a w := by
   rw [m2]
   exact hr.know (by rw [hv, hd]; rfl) trivial
  exact h3
 | sn t =>
  obtain ⟨s', h1, o1, m1⟩ := lab (.ext t x) (.n s.nl) K rfl (by simp [SV.lt]) (by
   have h : (s.setLab 0 s.nl 1 (some (.ext t x)) fun s => XS.setTmp 0 0 ⟨s.t, s.o, Nat.succ s.nl⟩ i (some (.n s.nl)) K) = some r := h
   rw [XS.setLab_eq] at h ⊢
   rw [XS.setTmp_eq] at h ⊢
   rw [(XS.labF_t 0 s s.nl 1 (some (.ext t x))).2] at h ⊢
   exact h)
  refine ⟨s', h1, o1, fun b m A a w hpn hr ⟨v, hv, hd, p, n, c, he⟩ => ?_⟩
  subst he
  have h2 := hr.addExt (free_nl hs hpn (Nat.le_refl _)) hd
  exact ⟨_, by rw [m1]; exact h2.know (by rw [hv]; simp only [den, setL_self]) (by simp only [SV.ok, setL_self]; rfl)⟩
theorem parsK_sound : ∀ (ps : List PK) {x : AT E.G.car ps} {i : Nat} {s : XS E.G.car} {K : XS E.G.car → Option R}, OKS E fx s → parsK ps x i s K = some r →
  ∃ s', K s' = some r ∧ ParOK E fx s s' fun A a w => ∃ vs, (∀ j v, vs[j]? = some v → a.tmps[i + j]? = some v) ∧ ArgsAre E A w ps x vs := by
 intro ps
 induction ps with
 | nil => intro x i s K hs h; exact ⟨s, h, hs, fun b m A a w _ hr _ => ⟨m, hr⟩⟩
 | cons p ps ih =>
  intro x i s K hs h
  have h : parK s i p x.1 (fun s => parsK ps x.2 (Nat.succ i) s K) = some r := h
  obtain ⟨s1, h1, o1, f1⟩ := parK_sound hs h
  obtain ⟨s2, h2, o2, f2⟩ := ih o1 h1
  refine ⟨s2, h2, o2, fun b m A a w hpn hr ⟨vs, hvs, v, us, e, ha, has⟩ => ?_⟩
  subst e
  obtain ⟨m1, r1⟩ := f1 b m A a w hpn hr ⟨v, hvs 0 v rfl, ha⟩
  exact f2 b m1 A a w hpn r1 ⟨us, fun j u hj => by have := hvs (j + 1) u (by simpa using hj); rwa [show Nat.succ i + j = i + (j + 1) by omega], has⟩
theorem argsAre_len {A : Nat → Prop} {w : World} : ∀ {ps : List PK} {x : AT E.G.car ps} {vs : List Value}, ArgsAre E A w ps x vs → vs.length = ps.length := by
 intro ps
 induction ps with
 | nil => intro x vs h; rw [show vs = [] from h]; rfl
 | cons p ps ih => intro x vs ⟨v, us, e, _, h⟩; rw [e]; simp [ih h]
theorem upd_mem {car : Nat → Type} {k : Key} {v : Val car} {g : Map car} : ∀ {u : St car}, upd u g k = some v → (∃ x ∈ u, x.1 = k ∧ x.2 = some v) ∨ g k = some v := by
 intro u
 induction u with
 | nil => intro h; exact .inr h
 | cons x u ih =>
  intro h
  rw [upd_cons] at h
  split at h
  ·rename_i e
   exact .inl ⟨x, by simp, e, h⟩
  ·rcases ih h with ⟨y, hy, h1⟩ | h1
   ·exact .inl ⟨y, List.mem_cons_of_mem _ hy, h1⟩
   ·exact .inr h1
theorem rel_start {A : Nat → Prop} {w : World} {N : Nat} {args : List Value} (hn : args.length ≤ N) (hA : ∀ x, A x → IsCells w x) {mg : Nat → MV} (h1 : ∀ p ∈ E.glo, (mg p.1).b = p.2) (h2 : ∀ q ∈ gl, ExtAt E.G A w (mg q.1) q.2)
  {g : Map E.G.car} (hg : ∀ k v, g k = some v → ∃ q ∈ gl, k = .x q.1 ∧ v = q.2) : Rel (cxOf E ⟨none, w.heap.size, w, N, true, fun _ => #[], [], A, fun _ => False, 0, mg⟩) mg A g { tmps := args.toArray ++ Array.replicate (N - args.toArray.size) undef, defers := [] } w := by
 refine ⟨by simp [cxOf]; omega, marks_nil, fun k v hk => ?_, fun L o v hv => ?_, fun L x ho => ?_, fun L L' x ho _ => ?_, hA, ⟨rfl, rfl, .rfl, Nat.le_refl _, fun _ _ _ => rfl⟩, Nat.le_refl _, h1, (fun k o hk => nomatch hk), fun b hb => .inl hb, fun b hb => hb, fun L hL => absurd hL (Nat.not_lt_zero _)⟩
 ·obtain ⟨q, hq, rfl, rfl⟩ := hg k v hk
  exact (h2 q hq).at
 ·obtain ⟨q, _, e, _⟩ := hg _ _ hv; cases e
 ·cases e : g (.o L) with
  | none => rw [e] at ho; exact ho.elim
  | some v => obtain ⟨q, _, e', _⟩ := hg _ _ e; cases e'
 ·cases e : g (.o L) with
  | none => rw [e] at ho; exact ho.elim
  | some v => obtain ⟨q, _, e', _⟩ := hg _ _ e; cases e'
theorem fn_sound {cx : Ctx E} (hmix : E.P.follows .mixedOrders = true) (ht : ∀ c ∈ cx.tbl, CSok E gl c) (hin : InlS E gl cx) (hkeys : ∀ p ∈ E.keys, KeyOK E.P E.G p.1 p.2) (hgl : upBelow gl.length (gl.map fun q => (Key.x q.1, some q.2)) = true) (hglo : ∀ p ∈ E.glo, p.1 < gl.length) {fk : Nat} {fn : Func} (hf : E.P.funcs[fk]? = some fn)
  {ps : List PK} {rs : List RK} (hps : ps.length ≤ fn.ntmps) (h : Hint) : Contract E gl ⟨fk, ps, rs, fnK cx fn gl ps rs h⟩ := by
 intro A w vs xs hgw hA hargs r hr
 have hr : fnK cx fn gl ps rs h xs = some r := hr
 unfold fnK at hr
 split at hr
 ·cases hr
 ·rename_i c hc
  rw [XS.upd_eq] at hr
  have o0 : OKS E f0 (XS.updF 0 0 (gl.map fun q => (Key.x q.1, some q.2)) ⟨.e, .e, gl.length⟩ : XS E.G.car) := by
   have e : (XS.updF 0 0 (gl.map fun q => (Key.x q.1, some q.2)) (⟨.e, .e, gl.length⟩ : XS E.G.car)).nl = gl.length := (XS.map_updF 0 (f := 0) (by omega) _ (upBelow_ups hgl)).2.1
   have h1 := Inv.updF (d := 0) (f := 0) (s := (⟨.e, .e, gl.length⟩ : XS E.G.car)) ⟨(fun k a v hk => nomatch hk), (fun L q e he => nomatch he)⟩ (Nat.le_refl _) hgl
   refine ⟨?_, (fun p hp => by rw [e]; exact hglo p hp), Nat.zero_le _⟩
   have key : ∀ (s' : XS E.G.car) (n : Nat), s'.nl = n → Inv (⟨s'.t, s'.o, n⟩ : XS E.G.car) → Inv s' := fun s' n e h => by subst e; exact h
   exact key _ _ e h1
  obtain ⟨s1, h1, o1, f1⟩ := parsK_sound ps o0 hr
  obtain ⟨h', e, s2, h2, o2, _, hdoes⟩ := exec_sound (gl := gl) hmix ht hin hkeys 12 c f0 [] ⟨0, 0, fn.ntmps, true, fun _ => []⟩ h s1 r _ (fun L f hf => nomatch hf) rfl o1 h1
  have hfin : e ≠ .normal → e ≠ .ret → False := fun h3 h4 => by cases e <;> first | exact absurd rfl h3 | exact absurd rfl h4 | cases h2
  have h2 : retK s2 fn.results.toList (fun vs => frzR rs vs s2 fun s => outsK s rs vs fun r ls => bif nodupN (ls.filterMap id) then some r else none) = some r := by
   cases e <;> first | exact h2 | cases h2
  obtain ⟨us, h3, hres⟩ := retK_sound _ h2
  obtain ⟨s3, h3, hfrz⟩ := frzR_sound rs h3
  obtain ⟨x, ls, h4, hrows, hout⟩ := outsK_sound rs h3
  obtain ⟨h5, h6⟩ := bif_some h4
  cases h6
  refine (callsIn_wide (n := 0)).1 ?_
  refine callsIn_of_wp_marks hf hc trivial ?_
  obtain ⟨mg, g1, g2⟩ := hgw
  have hlen := argsAre_len hargs
  have hstart := rel_start (E := E) (gl := gl) (A := A) (w := w) (N := fn.ntmps) (args := vs) (by rw [hlen]; exact hps) hA g1 g2 (g := (XS.updF 0 0 (gl.map fun q => (Key.x q.1, some q.2)) (⟨.e, .e, gl.length⟩ : XS E.G.car)).map 0) (fun k v hk => by
   rw [(XS.map_updF 0 (f := 0) (by omega) _ (upBelow_ups hgl)).1] at hk
   rcases upd_mem hk with ⟨y, hy, h7, h8⟩ | h7
   ·obtain ⟨q, hq, rfl⟩ := List.mem_map.1 hy
    exact ⟨q, hq, h7.symm, by cases h8; rfl⟩
   ·exfalso
    cases k with
    | _ => cases h7)
  obtain ⟨m1, hr1⟩ := f1 _ mg A _ w (Nat.le_refl _) hstart ⟨vs, fun j v hj => by
   have hlt : j < vs.length := (List.getElem?_eq_some_iff.1 hj).1
   rw [Nat.zero_add, Array.getElem?_append_left (by simpa using hlt)]
   simpa using hj, hargs⟩
  let b0 : Base := ⟨none, w.heap.size, w, fn.ntmps, true, fun _ => #[], [], A, fun _ => False, 0, mg⟩
  have hg0 : Good E gl f0 b0 := ⟨⟨mg, g1, g2⟩, fun x hx => (hA x hx).lt, fun _ _ h => h, (fun p hp => nomatch hp), Nat.le_refl _, (fun y hy => nomatch hy), fun h => absurd rfl h⟩
  refine hdoes b0 m1 A _ w _ hg0 ⟨rfl, rfl, fun _ => rfl⟩ hr1 fun m' A' a' w' hr' => ?_
  have hpost : LeavesInM Fence.wide 0 E.P fn a'.tmps (fun e w' => ∃ us ms A', e = .returned (resV us) ∧ Bel w.heap.size w w' ∧ (∀ b, A b → A' b) ∧ (∀ b, A' b → IsCells w' b) ∧ (∀ b, A' b → A b ∨ w.heap.size ≤ b) ∧
    ResAre E.G A' w.heap.size w' rs r us ms ∧ Apart ms) a'.defers .returning w' := by
   obtain ⟨ms, h7, _, h8, h9⟩ := hr'.defers
   rw [h7]
   refine leaves (b := b0) rfl hg0.kb (fun m A a w hr => results_run (hres b0 m A a w hr).1) (fun m A2 a w2 hr2 => ?_) ms w' a' m' A' h8 h9 hr'
   obtain ⟨A3, hr3⟩ := hfrz b0 m A2 a w2 ⟨hr2, fun _ h => h⟩
   have hrf := hr3
   obtain ⟨hr2, _⟩ := hr3
   exact ⟨_, _, A3, rfl, ⟨hr2.held.os, hr2.held.tape, hr2.held.output, hr2.held.size, fun k hk => hr2.held.block k hk (fun h => h)⟩, hr2.frzA, hr2.frzc, fun x hx => (hr2.frz0 x hx).imp_right fun h => h.resolve_right (fun h => h),
    hout b0 m A3 a w2 hrf, apart_of hr2 hrows h5⟩
  cases e with
  | normal => exact hpost
  | ret => exact hpost
  | exit id => exact (hfin (by simp) (by simp)).elim
theorem contract_nil {k t : Nat} {rs : List RK} {f : List (E.G.car t) → Option (RT E.G.car rs)} {f0 : Nat → Option (RT E.G.car rs)} {f1 : List (E.G.car t) → Option (RT E.G.car rs)}
  (h0 : Contract E gl ⟨k, [.nl], rs, fun x => f0 x.1⟩) (h1 : Contract E gl ⟨k, [.sn t], rs, fun x => f1 x.1⟩) (e0 : ∀ c r, f [] = some r → f0 c = some r) (e1 : ∀ l r, f l = some r → f1 l = some r) : Contract E gl ⟨k, [.sl t], rs, fun x => f x.1⟩ := by
 intro A w vs xs hgw hA hargs r hr
 obtain ⟨v, us, rfl, ha, hu⟩ := hargs
 have hu : us = [] := hu
 subst hu
 have ha : Hd E.G A w (.sl t xs.1) v := ha
 obtain ⟨p, n, c, rfl⟩ := ha.slice
 have hr : f xs.1 = some r := hr
 cases p with
 | some p => exact h1 A w [.slice (some p) n c] (xs.1, ()) hgw hA ⟨_, _, rfl, ⟨ha, p, n, c, rfl⟩, rfl⟩ r (e1 _ _ hr)
 | none =>
  have hl : xs.1 = [] := by
   cases hx : xs.1 with
   | nil => rfl
   | cons y ys =>
    rw [hx] at ha
    obtain ⟨b, o, hp, _⟩ := ha.at (i := 0) (x := y) rfl
    cases hp
  have hn : n = 0 := by rw [ha.len.1, hl]; rfl
  subst hn
  rw [hl] at hr
  exact h0 A w [.slice none 0 c] (c, ()) hgw hA ⟨_, _, rfl, rfl, rfl⟩ r (e0 c r hr)
end
end
end Go.KX

namespace Go.KX
open Go Go.RowKit
noncomputable section
section
variable {E : Env} {gl : List (Nat × Val E.G.car)}
theorem rel_startO {A : Nat → Prop} {w : World} {N : Nat} {args : List Value} {bor : Nat → Prop} (hn : args.length ≤ N) (hA : ∀ x, A x → IsCells w x) {mg : Nat → MV} (h1 : ∀ p ∈ E.glo, (mg p.1).b = p.2) (h2 : ∀ q ∈ gl, ExtAt E.G A w (mg q.1) q.2)
  {g : Map E.G.car} (hg : ∀ k v, g k = some v → ∃ q ∈ gl, k = .x q.1 ∧ v = q.2) : Rel (cxOf E ⟨none, w.heap.size, w, N, true, fun _ => #[], [], A, bor, 0, mg⟩) mg A g { tmps := args.toArray ++ Array.replicate (N - args.toArray.size) undef, defers := [] } w := by
 refine ⟨by simp [cxOf]; omega, marks_nil, fun k v hk => ?_, fun L o v hv => ?_, fun L x ho => ?_, fun L L' x ho _ => ?_, hA, ⟨rfl, rfl, .rfl, Nat.le_refl _, fun _ _ _ => rfl⟩, Nat.le_refl _, h1, (fun k o hk => nomatch hk), fun b hb => .inl hb, fun b hb => hb, fun L hL => absurd hL (Nat.not_lt_zero _)⟩
 ·obtain ⟨q, hq, rfl, rfl⟩ := hg k v hk
  exact (h2 q hq).at
 ·obtain ⟨q, _, e, _⟩ := hg _ _ hv; cases e
 ·cases e : g (.o L) with
  | none => rw [e] at ho; exact ho.elim
  | some v => obtain ⟨q, _, e', _⟩ := hg _ _ e; cases e'
 ·cases e : g (.o L) with
  | none => rw [e] at ho; exact ho.elim
  | some v => obtain ⟨q, _, e', _⟩ := hg _ _ e; cases e'
theorem Rel.pin {r : Option Nat} {B N : Nat} {w0 : World} {ds : Bool} {sus : Nat → Array Value} {kob : List (Nat × Obj)} {A0 bor : Nat → Prop} {pm : Nat → MV} {m : Nat → MV} {A : Nat → Prop} {g : Map E.G.car} {a : Act} {w : World}
  (h : Rel (cxOf E ⟨r, B, w0, N, ds, sus, kob, A0, bor, 0, pm⟩) m A g a w) (n : Nat) : Rel (cxOf E ⟨r, B, w0, N, ds, sus, kob, A0, bor, n, m⟩) m A g a w :=
 ⟨h.size, h.defers, fun k v hk => by have h1 := h.ent k v hk; cases k <;> cases v <;> exact h1, h.cell, h.own, h.inj, h.frzc, ⟨h.held.os, h.held.tape, h.held.output, h.held.size, h.held.block⟩, h.top, h.fix, h.ko, h.frz0, h.frzA, fun _ _ => rfl⟩
theorem RowAt.flat {A A' : Nat → Prop} {w : World} {hv : HV} {e t : Nat} {l : List (E.G.car t)} (hf : E.G.flat t = true) (h : RowAt E.G A' w hv e t l) : RowAt E.G A w hv e t l := by
 refine ⟨h.1, h.2.imp_right fun ⟨h1, h2, cur, h5, h6, h7, h8⟩ => ⟨h1, h2, cur, h5, h6, h7, fun i x hx j cv hcv => ?_⟩⟩
 obtain ⟨u, h9, h10⟩ := h8 i x hx j cv hcv
 obtain ⟨v, rfl⟩ := E.G.hflat t hf x cv (List.mem_of_getElem? hcv)
 exact ⟨u, h9, by rw [h10.plain]; exact .v _⟩
theorem fnO_sound {cx : Ctx E} (hmix : E.P.follows .mixedOrders = true) (ht : ∀ c ∈ cx.tbl, CSok E gl c) (hin : InlS E gl cx) (hkeys : ∀ p ∈ E.keys, KeyOK E.P E.G p.1 p.2) (hgl : upBelow gl.length (gl.map fun q => (Key.x q.1, some q.2)) = true) (hglo : ∀ p ∈ E.glo, p.1 < gl.length) {fk : Nat} {fn : Func} (hf : E.P.funcs[fk]? = some fn)
  {ety t : Nat} {ps : List PK} (hps : ps.length + 1 ≤ fn.ntmps) (hfl : E.G.flat t = true) (h : Hint) {A : Nat → Prop} {w : World} {hv : HV} {vs : List Value} {xs : AT E.G.car ps} {l l' : List (E.G.car t)} (hgw : GW E gl A w) (hA : ∀ b, A b → IsCells w b) (hnA : hv.c ≠ 0 → ¬ A hv.b)
  (hrow : RowAt E.G A w hv ety t l) (hargs : ArgsAre E A w ps xs vs) (hr : fnO cx fn gl ety t ps h l xs = some l') :
  Calls E.P fk (.slice hv.p hv.n hv.c :: vs).toArray w fun e w' => e = .returned (.tuple #[]) ∧ RowAt E.G A w' hv ety t l' ∧
   w'.os = w.os ∧ w'.tape = w.tape ∧ Out w w' ∧ w.heap.size ≤ w'.heap.size ∧ ∀ k, k < w.heap.size → (hv.c ≠ 0 → k ≠ hv.b) → w'.heap[k]? = w.heap[k]? := by
 unfold fnO at hr
 split at hr
 ·cases hr
 ·rename_i c hc
  rw [XS.upd_eq] at hr
  generalize hs0 : (XS.updF 0 0 (gl.map fun q => (Key.x q.1, some q.2)) ⟨.e, .e, gl.length⟩ : XS E.G.car) = s0 at hr
  have n0 : s0.nl = gl.length := by rw [← hs0]; exact (XS.map_updF 0 (f := 0) (by omega) _ (upBelow_ups hgl)).2.1
  have o0 : OKS E f0 s0 := by
   have h1 := Inv.updF (d := 0) (f := 0) (s := (⟨.e, .e, gl.length⟩ : XS E.G.car)) ⟨(fun k a v hk => nomatch hk), (fun L q e he => nomatch he)⟩ (Nat.le_refl _) hgl
   refine ⟨?_, (fun p hp => by rw [n0]; exact hglo p hp), Nat.zero_le _⟩
   have key : ∀ (s' : XS E.G.car) (n : Nat), s'.nl = n → Inv (⟨s'.t, s'.o, n⟩ : XS E.G.car) → Inv s' := fun s' n e h => by subst e; exact h
   rw [hs0] at h1
   exact key _ _ n0 h1
  have hr : s0.setLab 0 s0.nl 0 (some (.row ety t l)) (fun s => XS.setTmp 0 0 ⟨s.t, s.o, Nat.succ s.nl⟩ 0 (some (.h s.nl)) fun s => parsK ps xs 1 s fun s => exec cx 12 c [] ⟨0, 0, fn.ntmps, true, fun _ => []⟩ h s fun _ e s => match e with
    | .exit _ => none
    | _ => retK s fn.results.toList fun vs => match vs with
     | [] => match s.lab gl.length 0 with
      | some (.row e' t' l') => if ht : t' = t then bif Nat.beq e' ety then some (ht ▸ l') else none else none
      | _ => none
     | _ => none) = some l' := hr
  rw [XS.setLab_eq, XS.setTmp_eq] at hr
  obtain ⟨o1, m1⟩ := setO_ok o0 (v := .row ety t l) rfl
  have hn1 : (s0.setF 0 0 (.o s0.nl) (some (.row ety t l))).nl = s0.nl := XS.setF_nl
  have hlabF : s0.labF 0 s0.nl 0 (some (.row ety t l)) = s0.setF 0 0 (.o s0.nl) (some (.row ety t l)) := rfl
  rw [hlabF, hn1] at hr
  rw [hn1] at o1 m1
  generalize hs1 : (⟨(s0.setF 0 0 (.o s0.nl) (some (.row ety t l))).t, (s0.setF 0 0 (.o s0.nl) (some (.row ety t l))).o, Nat.succ s0.nl⟩ : XS E.G.car) = s1 at hr o1 m1
  have n1 : s1.nl = gl.length + 1 := by rw [← hs1]; show s0.nl + 1 = _; rw [n0]
  obtain ⟨o2, m2⟩ := setT_ok o1 (i := 0) (y := .h s0.nl) (by simp only [SV.lt, Nat.blt_eq]; omega)
  have htf : XS.tmpF 0 0 s1 0 (some (.h s0.nl)) = s1.setF 0 0 (.t 0) (some (.x (.h s0.nl))) := rfl
  rw [htf] at hr
  generalize hs2 : s1.setF 0 0 (.t 0) (some (.x (.h s0.nl))) = s2 at hr o2 m2
  have n2 : s2.nl = gl.length + 1 := by rw [← hs2, XS.setF_nl, n1]
  have o3 : OKS E ⟨gl.length + 1, []⟩ s2 := ⟨o2.inv, o2.glo, by show gl.length + 1 ≤ s2.nl; omega⟩
  obtain ⟨s3, h1, o4, f4⟩ := parsK_sound ps o3 hr
  obtain ⟨h', e, s4, h2, o5, _, hdoes⟩ := exec_sound (gl := gl) hmix ht hin hkeys 12 c ⟨gl.length + 1, []⟩ [] ⟨0, 0, fn.ntmps, true, fun _ => []⟩ h s3 l' _ (fun L f hf => nomatch hf) rfl o4 h1
  have hfin : e ≠ .normal → e ≠ .ret → False := fun h3 h4 => by cases e <;> first | exact absurd rfl h3 | exact absurd rfl h4 | cases h2
  have h2 : retK s4 fn.results.toList (fun vs => match vs with
     | [] => match s4.lab gl.length 0 with
      | some (.row e' t' l') => if ht : t' = t then bif Nat.beq e' ety then some (ht ▸ l') else none else none
      | _ => none
     | _ => none) = some l' := by
   cases e <;> first | exact h2 | cases h2
  obtain ⟨us, h3, hres⟩ := retK_sound _ h2
  have hus : us = [] ∧ s4.map 0 (.o gl.length) = some (.row ety t l') := by
   cases us with
   | cons u us => cases h3
   | nil =>
    simp only at h3
    split at h3
    ·rename_i e' t' l1 hl1
     split at h3
     ·rename_i heq
      subst heq
      obtain ⟨h4, h5⟩ := bif_some h3
      have h4 := Nat.eq_of_beq_eq_true h4
      subst h4
      cases h5
      exact ⟨rfl, hl1⟩
     ·cases h3
    ·cases h3
  obtain ⟨rfl, hlast⟩ := hus
  refine (callsIn_wide (n := 0)).1 ?_
  refine callsIn_of_wp_marks hf hc trivial ?_
  obtain ⟨mg, g1, g2⟩ := hgw
  have hlen := argsAre_len hargs
  have hg0' : ∀ k v, s0.map 0 k = some v → ∃ q ∈ gl, k = .x q.1 ∧ v = q.2 := fun k v hk => by
   rw [← hs0, (XS.map_updF 0 (f := 0) (by omega) _ (upBelow_ups hgl)).1] at hk
   rcases upd_mem hk with ⟨y, hy, h7, h8⟩ | h7
   ·obtain ⟨q, hq, rfl⟩ := List.mem_map.1 hy
    exact ⟨q, hq, h7.symm, by cases h8; rfl⟩
   ·exfalso
    cases k with
    | _ => cases h7
  have hstart := rel_startO (E := E) (gl := gl) (A := A) (w := w) (N := fn.ntmps) (args := .slice hv.p hv.n hv.c :: vs) (bor := fun x => hv.c ≠ 0 ∧ x = hv.b) (by rw [List.length_cons, hlen]; exact hps) hA g1 g2 (g := s0.map 0) hg0'
  have hr1 := hstart.addRow (L := s0.nl) (mv := mvOfH hv) (ety := ety) (t := t) (l := l) ⟨o0.inv.free (Nat.le_refl _), fun p hp => by have := o0.glo p hp; omega, Nat.zero_le _⟩ (by
   show (setL mg s0.nl (mvOfH hv) s0.nl).n = _ ∧ _
   rw [setL_self]
   exact hrow) (fun hcn => ⟨.inr ⟨hcn, rfl⟩, hnA hcn, fun l2 ho => by
    cases e2 : s0.map 0 (.o l2) with
    | none => rw [e2] at ho; exact ho.elim
    | some v => obtain ⟨q, _, e', _⟩ := hg0' _ _ e2; cases e'⟩)
  rw [← m1] at hr1
  have hr2 := hr1.know (i := 0) (x := .h s0.nl) (by
   show _ = some (Value.slice (setL mg s0.nl (mvOfH hv) s0.nl).p (setL mg s0.nl (mvOfH hv) s0.nl).n (setL mg s0.nl (mvOfH hv) s0.nl).c)
   rw [setL_self, Array.getElem?_append_left (by simp)]
   rfl) trivial
  rw [← m2] at hr2
  have hr3 := hr2.pin (gl.length + 1)
  obtain ⟨m4, hr4⟩ := f4 _ _ A _ w (Nat.le_refl _) hr3 ⟨vs, fun j v hj => by
   have hlt : j < vs.length := (List.getElem?_eq_some_iff.1 hj).1
   rw [Array.getElem?_append_left (by simp; omega), List.getElem?_toArray, show 1 + j = j + 1 by omega, List.getElem?_cons_succ]
   exact hj, hargs⟩
  let b0 : Base := ⟨none, w.heap.size, w, fn.ntmps, true, fun _ => #[], [], A, fun x => hv.c ≠ 0 ∧ x = hv.b, gl.length + 1, setL mg s0.nl (mvOfH hv)⟩
  have hg0 : Good E gl ⟨gl.length + 1, []⟩ b0 := ⟨⟨mg, g1, g2⟩, fun x hx => (hA x hx).lt, fun x hx hb => hnA hb.1 (hb.2 ▸ hx), (fun p hp => nomatch hp), Nat.le_refl _, (fun y hy => nomatch hy), fun h => absurd rfl h⟩
  refine hdoes b0 m4 A _ w _ hg0 ⟨rfl, rfl, fun _ => rfl⟩ hr4 fun m' A' a' w' hr' => ?_
  have hpost : LeavesInM Fence.wide 0 E.P fn a'.tmps (fun e w' => e = .returned (.tuple #[]) ∧ RowAt E.G A w' hv ety t l' ∧
    w'.os = w.os ∧ w'.tape = w.tape ∧ Out w w' ∧ w.heap.size ≤ w'.heap.size ∧ ∀ k, k < w.heap.size → (hv.c ≠ 0 → k ≠ hv.b) → w'.heap[k]? = w.heap[k]?) a'.defers .returning w' := by
   obtain ⟨ms, h7, _, h8, h9⟩ := hr'.defers
   rw [h7]
   refine leaves (b := b0) rfl hg0.kb (fun m A a w hr => results_run (hres b0 m A a w hr).1) (fun m A2 a w2 hr2 => ?_) ms w' a' m' A' h8 h9 hr'
   have hat := hr2.ent _ _ hlast
   have hpm : m gl.length = mvOfH hv := by
    rw [hr2.pins gl.length (Nat.lt_succ_self _)]
    show setL mg s0.nl (mvOfH hv) gl.length = _
    rw [← n0, setL_self]
   have hat : RowAt E.G A2 w2 (hvOf (m gl.length)) ety t l' := hat
   rw [hpm] at hat
   exact ⟨rfl, hat.flat hfl, hr2.held.os, hr2.held.tape, hr2.held.output, hr2.held.size, fun k hk hne => hr2.held.block k hk (fun hb => hne hb.1 hb.2)⟩
  cases e with
  | normal => exact hpost
  | ret => exact hpost
  | exit id => exact (hfin (by simp) (by simp)).elim
end
end
end Go.KX

namespace Go.Proofs.Fs
open Go Go.KX Go.RowKit
set_option linter.unusedVariables false
set_option maxRecDepth 100000
theorem all0 {α : Type} {P : α → Prop} : ∀ c ∈ ([] : List α), P c := fun _ h => nomatch h
theorem allC {α : Type} {P : α → Prop} {a : α} {l : List α} (h : P a) (t : ∀ c ∈ l, P c) : ∀ c ∈ a :: l, P c := fun c hc => (List.mem_cons.1 hc).elim (fun e => e ▸ h) (t c)
theorem inl0 : InlOK E [] := fun _ _ h => nomatch h
theorem inlC {k : Nat} {fn : Func} {l : List (Nat × Func)} (h : E.P.funcs[k]? = some fn) (e : Proofs.Enters E.P k) (t : InlOK E l) : InlOK E ((k, fn) :: l) := by
 intro k2 fn2 hf
 simp only [findFn] at hf
 cases hb : Nat.beq k k2 with
 | true => rw [hb, cond_true] at hf; cases hf; rw [← Nat.eq_of_beq_eq_true hb]; exact ⟨h, e⟩
 | false => rw [hb, cond_false] at hf; exact t k2 fn2 hf
theorem mix : Try.prog.follows .mixedOrders = true := by rfl
theorem keys0 : ∀ p ∈ E.keys, KeyOK E.P E.G p.1 p.2 := fun _ h => nomatch h
abbrev HF (k : Nat) (f : Func) : Prop := Try.prog.funcs[k]? = some f
theorem hK {k : Nat} {f : Func} (h : Try.prog.funcs[k]? = some f) : HF k f := h
theorem mkE {k : Nat} {f : Func} {c : Code} (h : HF k f) (a : (f.name == "runtime.NumGoroutine") = false) (b : f.body = some c) : Proofs.Enters Try.prog k := Proofs.enters_of h a b
theorem mkC {k : Nat} {f : Func} {c : Code} {cx : Ctx E} {ps : List PK} {rs : List RK} {m : AT E.G.car ps → Option (RT E.G.car rs)} (hf : HF k f) (a : (f.name == "runtime.NumGoroutine") = false) (b : f.body = some c) (t : ∀ c ∈ cx.tbl, CSok E [] c) (i : InlS E [] cx) (h : Hint) (n : Nat.ble ps.length f.ntmps = true) (e : fnK cx f [] ps rs h = m) : CSok E [] ⟨k, ps, rs, m⟩ := ⟨mkE hf a b, e ▸ fn_sound mix t i keys0 rfl (fun _ h => nomatch h) hf (Nat.le_of_ble_eq_true n) h⟩
noncomputable section
theorem hf27 : HF 27 Try.f27 := hK (by kernel_rfl)
theorem en27 : Proofs.Enters Try.prog 27 := mkE hf27 (by kernel_rfl) rfl
theorem hf5 : HF 5 Try.f5 := hK (by kernel_rfl)
theorem en5 : Proofs.Enters Try.prog 5 := mkE hf5 (by kernel_rfl) rfl
theorem hf61 : HF 61 Try.f61 := hK (by kernel_rfl)
theorem en61 : Proofs.Enters Try.prog 61 := mkE hf61 (by kernel_rfl) rfl
theorem hf42 : HF 42 Try.f42 := hK (by kernel_rfl)
def fees_table (F : Nat) (a0 : List (List Int)) (a1 : Int) (a2 : Int) : Option (Int) :=
 brk ((↑a0.length : Int) != a1) (some ((1 : Int))) (join (F) (fun (x : Int) => brk (decide (x ≥ (0 : Int))) (some ((1 : Int))) (some ((0 : Int)))) (fun x => loopC (fun (x_1 : Int) => fun x_2 => brk (decide (x_1 < (↑a0.length : Int))) (chk (0 ≤ x_1 ∧ x_1 < (↑a0.length : Int)) (brk ((↑(List.length (a0.getD (Int.toNat x_1) [])) : Int) != a2) (x (x_1)) (chk (InR (x_1 + 1)) (x_2 (x_1 + 1))))) (x ((-1 : Int)))) (F) ((0 : Int))))
def s42 (F : Nat) : CS E.G := ⟨42, [.sl 6, .v 0 false, .v 0 false], [.v 0 false []], fun x => fees_table F x.1 x.2.1 x.2.2.1⟩
theorem c42 (F : Nat) : CSok E [] (s42 F) := mkC (cx := ⟨[], [(5, Try.f5), (27, Try.f27), (61, Try.f61)], F, [], []⟩) hf42 (by kernel_rfl) rfl all0 ⟨(inlC hf5 en5 (inlC hf27 en27 (inlC hf61 en61 inl0))), all0⟩ (.s .n (.p (.w ⟨[.i], [], [0, 1], [(0, .i IntKind.i64)], [], [], [], 2⟩ (.l ⟨[.i], [0, 16, 112], [0, 1], [(128, .i IntKind.i64)], [], [], [], 2⟩ (.c (.p .n) .n)) .n))) rfl (by kernel_rfl)
theorem hf43 : HF 43 Try.f43 := hK (by kernel_rfl)
def fees_within (F : Nat) (a0 : Int) (a1 : Int) (a2 : Int) : Option (Bool) :=
 some (decide (a0 ≥ a1) && decide (a0 ≤ a2))
def s43 (F : Nat) : CS E.G := ⟨43, [.v 0 false, .v 0 false, .v 0 false], [.v 1 false []], fun x => fees_within F x.1 x.2.1 x.2.2.1⟩
theorem c43 (F : Nat) : CSok E [] (s43 F) := mkC (cx := ⟨[], [], F, [], []⟩) hf43 (by kernel_rfl) rfl all0 ⟨inl0, all0⟩ .n rfl (by kernel_rfl)
theorem hf75 : HF 75 Try.f75 := hK (by kernel_rfl)
theorem en75 : Proofs.Enters Try.prog 75 := mkE hf75 (by kernel_rfl) rfl
theorem hf62 : HF 62 Try.f62 := hK (by kernel_rfl)
theorem en62 : Proofs.Enters Try.prog 62 := mkE hf62 (by kernel_rfl) rfl
theorem hf63 : HF 63 Try.f63 := hK (by kernel_rfl)
def fees_amounts_1 (F : Nat) (a0 : Int) : Option (Bool) :=
 bnd (fees_within F a0 (0 : Int) (1000000000000 : Int)) (fun (x : Bool) => some (!x))
def s63 (F : Nat) : CS E.G := ⟨63, [.v 0 false], [.v 1 false []], fun x => fees_amounts_1 F x.1⟩
theorem c63 (F : Nat) : CSok E [] (s63 F) := mkC (cx := ⟨[s43 F], [], F, [], []⟩) hf63 (by kernel_rfl) rfl (allC (c43 F) all0) ⟨inl0, all0⟩ .n rfl (by kernel_rfl)
theorem hf44 : HF 44 Try.f44 := hK (by kernel_rfl)
def fees_amounts (F : Nat) (a0 : List (List Int)) : Option (Int) :=
 loopC (fun (x : Int) => fun x_1 => brk (decide (x < (↑a0.length : Int))) (chk (0 ≤ x ∧ x < (↑a0.length : Int)) (join (F) (fun (x_2 : Int) => brk (decide (x_2 ≥ (0 : Int))) (some ((6 : Int))) (chk (InR (x + 1)) (x_1 (x + 1)))) (fun x_2 => loopC (fun (x_3 : Int) => fun x_4 => brk (decide (x_3 < (↑(List.length (a0.getD (Int.toNat x) [])) : Int))) (chk (0 ≤ x_3 ∧ x_3 < (↑(List.length (a0.getD (Int.toNat x) [])) : Int)) (bnd (fees_amounts_1 F (List.getD (a0.getD (Int.toNat x) []) (Int.toNat x_3) (0 : Int))) (fun (x_5 : Bool) => brk (x_5) (x_2 (x_3)) (chk (InR (x_3 + 1)) (x_4 (x_3 + 1)))))) (x_2 ((-1 : Int)))) (F) ((0 : Int))))) (some ((0 : Int)))) (F) ((0 : Int))
def s44 (F : Nat) : CS E.G := ⟨44, [.sl 6], [.v 0 false []], fun x => fees_amounts F x.1⟩
theorem c44 (F : Nat) : CSok E [] (s44 F) := mkC (cx := ⟨[s63 F], [(62, Try.f62), (75, Try.f75)], F, [], []⟩) hf44 (by kernel_rfl) rfl (allC (c63 F) all0) ⟨(inlC hf62 en62 (inlC hf75 en75 inl0)), all0⟩ (.l ⟨[.i], [96, 80], [0], [(112, .i IntKind.i64)], [], [], [], 1⟩ (.c (.p (.w ⟨[.i], [], [1], [(0, .i IntKind.i64)], [], [], [], 2⟩ (.l ⟨[.i], [0, 16, 112], [1], [(128, .i IntKind.i64)], [], [], [], 2⟩ (.c .n .n)) .n)) .n)) rfl (by kernel_rfl)
theorem hf45 : HF 45 Try.f45 := hK (by kernel_rfl)
theorem en45 : Proofs.Enters Try.prog 45 := mkE hf45 (by kernel_rfl) rfl
def slices_Clone_Lint (F : Nat) (a0 : List (List Int)) : Option ((List (List Int))) :=
 chk ((0 : Nat) + a0.length ≤ (1000000000 : Nat)) (some ([] ++ a0))
def s45 (F : Nat) : CS E.G := ⟨45, [.sl 6], [.sl 6 22], fun x => slices_Clone_Lint F x.1⟩
def cx45 (F : Nat) : Ctx E := ⟨[], [], F, [], []⟩
def h45 : Hint := .n
theorem e45n (F : Nat) (c : Nat) : fnK (E := E) (cx45 F) Try.f45 [] [.nl] [.sl 6 22] .n (c, ()) = some ([]) := by kernel_rfl
theorem e45s (F : Nat) (a0 : List (List Int)) : fnK (E := E) (cx45 F) Try.f45 [] [.sn 6] [.sl 6 22] h45 (a0, ()) = slices_Clone_Lint F a0 := by kernel_rfl
theorem c45 (F : Nat) : CSok E [] (s45 F) := ⟨en45, by
 have h0 := fn_sound (E := E) (gl := []) (cx := cx45 F) mix all0 ⟨inl0, all0⟩ keys0 rfl (fun _ h => nomatch h) hf45 (ps := [.nl]) (rs := [.sl 6 22]) (by decide) .n
 have h1 := fn_sound (E := E) (gl := []) (cx := cx45 F) mix all0 ⟨inl0, all0⟩ keys0 rfl (fun _ h => nomatch h) hf45 (ps := [.sn 6]) (rs := [.sl 6 22]) (by decide) h45
 rw [show fnK (E := E) (cx45 F) Try.f45 [] [.nl] [.sl 6 22] .n = (fun x : AT E.G.car [.nl] => some ([])) from funext fun x => e45n F x.1] at h0
 rw [show fnK (E := E) (cx45 F) Try.f45 [] [.sn 6] [.sl 6 22] h45 = (fun x : AT E.G.car [.sn 6] => slices_Clone_Lint F x.1) from funext fun x => e45s F x.1] at h1
 exact contract_nil (E := E) (t := 6) (rs := [.sl 6 22]) (f := slices_Clone_Lint F) (f0 := fun _ => some ([])) (f1 := slices_Clone_Lint F) h0 h1 (fun _ _ h => (show slices_Clone_Lint F [] = some [] by kernel_rfl).symm.trans h) (fun _ _ h => h)⟩
theorem hf37 : HF 37 Try.f37 := hK (by kernel_rfl)
def fees_State_check (F : Nat) (a0 : State) : Option (Int) :=
 bnd (fees_within F (↑a0.Deposits.length : Int) (1 : Int) (10 : Int)) (fun (x : Bool) => brk (!x) (some ((2 : Int))) (brk ((↑a0.Owed.length : Int) == (0 : Int)) (some ((1 : Int))) (chk (0 ≤ (0 : Int) ∧ (0 : Int) < (↑a0.Owed.length : Int)) (bnd (fees_within F (↑(List.length (a0.Owed.getD (Int.toNat (0 : Int)) [])) : Int) (1 : Int) (6 : Int)) (fun (x_1 : Bool) => brk (!x_1) (some ((2 : Int))) (chk (0 ≤ (0 : Int) ∧ (0 : Int) < (↑a0.Owed.length : Int)) (bnd (fees_table F a0.Owed (↑a0.Deposits.length : Int) (↑(List.length (a0.Owed.getD (Int.toNat (0 : Int)) [])) : Int)) (fun (x_2 : Int) => brk (x_2 != (0 : Int)) (some (x_2)) (bnd (slices_Clone_Lint F a0.Owed) (fun (x_3 : List (List (Int))) => chk (List.length x_3 + [a0.Deposits].length ≤ (1000000000 : Nat)) (bnd (fees_amounts F (x_3 ++ [a0.Deposits])) (fun (x_4 : Int) => some (x_4)))))))))))))
def s37 (F : Nat) : CS E.G := ⟨37, [.v 8 true], [.v 0 false []], fun x => fees_State_check F x.1⟩
theorem c37 (F : Nat) : CSok E [] (s37 F) := mkC (cx := ⟨[s42 F, s43 F, s44 F, s45 F], [], F, [], []⟩) hf37 (by kernel_rfl) rfl (allC (c42 F) (allC (c43 F) (allC (c44 F) (allC (c45 F) all0)))) ⟨inl0, all0⟩ (.c .n (.c .n (.c .n .n))) rfl (by kernel_rfl)
theorem hf26 : HF 26 Try.f26 := hK (by kernel_rfl)
def slices_Max_int (F : Nat) (a0 : List Int) : Option (Int) :=
 brk (decide ((↑a0.length : Int) < (1 : Int))) (none) (chk (0 ≤ (0 : Int) ∧ (0 : Int) < (↑a0.length : Int)) (loopC (fun (x : (Int) × (Int)) => fun x_1 => brk (decide (x.1 < (↑a0.length : Int))) (chk (0 ≤ x.1 ∧ x.1 < (↑a0.length : Int)) (chk (InR (x.1 + 1)) (x_1 ((x.1 + 1, if a0.getD (Int.toNat x.1) 0 > x.2 then a0.getD (Int.toNat x.1) 0 else x.2))))) (some (x.2))) (F) (((1 : Int), a0.getD (Int.toNat (0 : Int)) (0 : Int)))))
def s26 (F : Nat) : CS E.G := ⟨26, [.sl 0], [.v 0 false []], fun x => slices_Max_int F x.1⟩
theorem c26 (F : Nat) : CSok E [] (s26 F) := mkC (cx := ⟨[], [], F, [], []⟩) hf26 (by kernel_rfl) rfl all0 ⟨inl0, all0⟩ (.c .n (.l ⟨[.i, .i], [0], [0], [(64, .i IntKind.i64), (48, .i IntKind.i64)], [], [], [], 1⟩ .n)) rfl (by kernel_rfl)
theorem hf81 : HF 81 Try.f81 := hK (by kernel_rfl)
theorem en81 : Proofs.Enters Try.prog 81 := mkE hf81 (by kernel_rfl) rfl
theorem hf83 : HF 83 Try.f83 := hK (by kernel_rfl)
def fees_cut (F : Nat) (a0 : List Int) (a1 : Int) : Option (Int) :=
 loopC (fun (x : (Int) × (Int)) => fun x_1 => brk (decide (x.1 < (↑a0.length : Int))) (chk (0 ≤ x.1 ∧ x.1 < (↑a0.length : Int)) (chk (InR (x.2 + if a1 < a0.getD (Int.toNat x.1) 0 then a1 else a0.getD (Int.toNat x.1) 0)) (chk (InR (x.1 + 1)) (x_1 ((x.1 + 1, x.2 + if a1 < a0.getD (Int.toNat x.1) 0 then a1 else a0.getD (Int.toNat x.1) 0)))))) (some (x.2))) (F) (((0 : Int), (0 : Int)))
def s83 (F : Nat) : CS E.G := ⟨83, [.sl 0, .v 0 false], [.v 0 false []], fun x => fees_cut F x.1 x.2.1⟩
theorem c83 (F : Nat) : CSok E [] (s83 F) := mkC (cx := ⟨[], [], F, [], []⟩) hf83 (by kernel_rfl) rfl all0 ⟨inl0, all0⟩ (.l ⟨[.i, .i], [16, 128, 144], [0], [(160, .i IntKind.i64), (80, .i IntKind.i64)], [], [], [], 1⟩ .n) rfl (by kernel_rfl)
theorem hf82 : HF 82 Try.f82 := hK (by kernel_rfl)
theorem en82 : Proofs.Enters Try.prog 82 := mkE hf82 (by kernel_rfl) rfl
theorem hf73 : HF 73 Try.f73 := hK (by kernel_rfl)
def fees_level (F : Nat) (a0 : List Int) (a1 : Int) : Option (Int × Int) :=
 bnd (slices_Max_int F a0) (fun (x : Int) => loopC (fun (x_1 : (Int) × (Int)) => fun x_2 => brk (decide (x_1.2 < x_1.1)) (chk (InR (x_1.1 - x_1.2)) (chk (InR (x_1.1 - x_1.2 + 1)) (chk (0 ≤ x_1.1 - x_1.2 + 1 ∧ x_1.1 - x_1.2 + 1 ≤ (9223372036854775807 : Int)) (chk (InR (x_1.2 + (x_1.1 - x_1.2 + 1) / (2 : Int))) (bnd (fees_cut F a0 (x_1.2 + (x_1.1 - x_1.2 + 1) / (2 : Int))) (fun (x_3 : Int) => brk (decide (x_3 ≤ a1)) (x_2 ((x_1.1, x_1.2 + (x_1.1 - x_1.2 + 1) / (2 : Int)))) (chk (InR (x_1.2 + (x_1.1 - x_1.2 + 1) / (2 : Int) - (1 : Int))) (x_2 ((x_1.2 + (x_1.1 - x_1.2 + 1) / (2 : Int) - (1 : Int), x_1.2)))))))))) (bnd (fees_cut F a0 x_1.2) (fun (x_3 : Int) => chk (InR (a1 - x_3)) (some ((x_1.2, a1 - x_3)))))) (F) ((x, IntKind.i64.wrap ((0 : Int) - (1 : Int)))))
def s73 (F : Nat) : CS E.G := ⟨73, [.sl 0, .v 0 false], [.v 0 false [], .v 0 false []], fun x => fees_level F x.1 x.2.1⟩
theorem c73 (F : Nat) : CSok E [] (s73 F) := mkC (cx := ⟨[s26 F, s83 F], [(81, Try.f81), (82, Try.f82)], F, [], []⟩) hf73 (by kernel_rfl) rfl (allC (c26 F) (allC (c83 F) all0)) ⟨(inlC hf81 en81 (inlC hf82 en82 inl0)), all0⟩ (.p (.l ⟨[.i, .i], [32], [0, 1, 2], [(16, .i IntKind.i64), (112, .i IntKind.i64)], [], [], [], 3⟩ (.c (.p .n) .n))) rfl (by kernel_rfl)
theorem hf58 : HF 58 Try.f58 := hK (by kernel_rfl)
def fees_awards (F : Nat) (a0 : List Int) (a1 : Int) : Option ((List Int)) :=
 bnd (fees_level F a0 a1) (fun (x : (Int) × (Int)) => loopC (fun (x_1 : (Int) × ((List (Int)) × (Int))) => fun x_2 => brk (decide (x_1.2.2 < (↑a0.length : Int))) (chk (0 ≤ x_1.2.2 ∧ x_1.2.2 < (↑a0.length : Int)) (join (F) (fun (x_3 : (Int) × (Int)) => chk (List.length x_1.2.1 + [x_3.2].length ≤ (1000000000 : Nat)) (chk (InR (x_1.2.2 + 1)) (x_2 ((x_3.1, x_1.2.1 ++ [x_3.2], x_1.2.2 + 1))))) (fun x_3 => brk (decide (a0.getD (Int.toNat x_1.2.2) 0 > x.1) && decide (x_1.1 > (0 : Int))) (chk (InR ((if x.1 < a0.getD (Int.toNat x_1.2.2) 0 then x.1 else a0.getD (Int.toNat x_1.2.2) 0) + 1)) (chk (InR (x_1.1 - 1)) (x_3 ((x_1.1 - 1, (if x.1 < a0.getD (Int.toNat x_1.2.2) 0 then x.1 else a0.getD (Int.toNat x_1.2.2) 0) + 1))))) (x_3 ((x_1.1, if x.1 < a0.getD (Int.toNat x_1.2.2) 0 then x.1 else a0.getD (Int.toNat x_1.2.2) 0)))))) (some (x_1.2.1))) (F) ((x.2, [], (0 : Int))))
def s58 (F : Nat) : CS E.G := ⟨58, [.sl 0, .v 0 false], [.sl 0 3], fun x => fees_awards F x.1 x.2.1⟩
theorem c58 (F : Nat) : CSok E [] (s58 F) := mkC (cx := ⟨[s73 F], [], F, [], []⟩) hf58 (by kernel_rfl) rfl (allC (c73 F) all0) ⟨inl0, all0⟩ (.l ⟨[.i, .l 0, .i], [288, 80, 272], [0], [(96, .i IntKind.i64), (112, .h 1 3 0), (304, .i IntKind.i64)], [], [], [], 2⟩ (.c (.k (.k (.k (.j ⟨[.i, .i], [288, 80, 272, 112, 304], [0, 1], [(96, .i IntKind.i64), (160, .i IntKind.i64)], [], [], [], 2⟩ .n .n)))) .n)) rfl (by kernel_rfl)
theorem hf59 : HF 59 Try.f59 := hK (by kernel_rfl)
theorem en59 : Proofs.Enters Try.prog 59 := mkE hf59 (by kernel_rfl) rfl
def slices_Clone_int (F : Nat) (a0 : List Int) : Option ((List Int)) :=
 chk ((0 : Nat) + a0.length ≤ (1000000000 : Nat)) (some ([] ++ a0))
def s59 (F : Nat) : CS E.G := ⟨59, [.sl 0], [.sl 0 3], fun x => slices_Clone_int F x.1⟩
def cx59 (F : Nat) : Ctx E := ⟨[], [], F, [], []⟩
def h59 : Hint := .n
theorem e59n (F : Nat) (c : Nat) : fnK (E := E) (cx59 F) Try.f59 [] [.nl] [.sl 0 3] .n (c, ()) = some ([]) := by kernel_rfl
theorem e59s (F : Nat) (a0 : List Int) : fnK (E := E) (cx59 F) Try.f59 [] [.sn 0] [.sl 0 3] h59 (a0, ()) = slices_Clone_int F a0 := by kernel_rfl
theorem c59 (F : Nat) : CSok E [] (s59 F) := ⟨en59, by
 have h0 := fn_sound (E := E) (gl := []) (cx := cx59 F) mix all0 ⟨inl0, all0⟩ keys0 rfl (fun _ h => nomatch h) hf59 (ps := [.nl]) (rs := [.sl 0 3]) (by decide) .n
 have h1 := fn_sound (E := E) (gl := []) (cx := cx59 F) mix all0 ⟨inl0, all0⟩ keys0 rfl (fun _ h => nomatch h) hf59 (ps := [.sn 0]) (rs := [.sl 0 3]) (by decide) h59
 rw [show fnK (E := E) (cx59 F) Try.f59 [] [.nl] [.sl 0 3] .n = (fun x : AT E.G.car [.nl] => some ([])) from funext fun x => e59n F x.1] at h0
 rw [show fnK (E := E) (cx59 F) Try.f59 [] [.sn 0] [.sl 0 3] h59 = (fun x : AT E.G.car [.sn 0] => slices_Clone_int F x.1) from funext fun x => e59s F x.1] at h1
 exact contract_nil (E := E) (t := 0) (rs := [.sl 0 3]) (f := slices_Clone_int F) (f0 := fun _ => some ([])) (f1 := slices_Clone_int F) h0 h1 (fun _ _ h => (show slices_Clone_int F [] = some [] by kernel_rfl).symm.trans h) (fun _ _ h => h)⟩
theorem hf38 : HF 38 Try.f38 := hK (by kernel_rfl)
theorem en38 : Proofs.Enters Try.prog 38 := mkE hf38 (by kernel_rfl) rfl
theorem hf15 : HF 15 Try.f15 := hK (by kernel_rfl)
def fees_Month (F : Nat) (a0 : State) (a1 : List Int) (a2 : List (List Int)) (a3 : Int) : Option (State × (List (List Int)) × Int) :=
 bnd (fees_State_check F a0) (fun (x : Int) => brk (x != (0 : Int)) (some ((State.mk [] [], [], x))) (chk (0 ≤ (0 : Int) ∧ (0 : Int) < (↑a0.Owed.length : Int)) (bnd (fees_table F a2 (↑a0.Deposits.length : Int) (↑(List.length (a0.Owed.getD (Int.toNat (0 : Int)) [])) : Int)) (fun (x_1 : Int) => join (F) (fun (x_2 : Int) => join (F) (fun (x_3 : Int) => join (F) (fun (x_4 : Int) => brk (x_4 != (0 : Int)) (some ((State.mk [] [], [], x_4))) (loopC (fun (x_5 : (Int) × ((List (List (Int))) × (List (Int)))) => fun x_6 => brk (decide (x_5.1 < (↑a0.Owed.length : Int))) (chk (0 ≤ x_5.1 ∧ x_5.1 < (↑a0.Owed.length : Int)) (chk (0 ≤ x_5.1 ∧ x_5.1 < (↑a0.Deposits.length : Int)) (chk (0 ≤ x_5.1 ∧ x_5.1 < (↑a1.length : Int)) (chk (InR (a0.Deposits.getD (Int.toNat x_5.1) 0 + a1.getD (Int.toNat x_5.1) 0)) (chk (List.length x_5.2.2 + [a0.Deposits.getD (Int.toNat x_5.1) 0 + a1.getD (Int.toNat x_5.1) 0].length ≤ (1000000000 : Nat)) (loopC (fun (x_7 : (List (Int)) × (Int)) => fun x_8 => brk (decide (x_7.2 < (↑(List.length (a0.Owed.getD (Int.toNat x_5.1) [])) : Int))) (chk (0 ≤ x_7.2 ∧ x_7.2 < (↑(List.length (a0.Owed.getD (Int.toNat x_5.1) [])) : Int)) (chk (InR (List.getD (a0.Owed.getD (Int.toNat x_5.1) []) (Int.toNat x_7.2) (0 : Int) * a3)) (chk (InR (List.getD (a0.Owed.getD (Int.toNat x_5.1) []) (Int.toNat x_7.2) (0 : Int) * a3 + 99)) (chk ((0 : Int) ≤ List.getD (a0.Owed.getD (Int.toNat x_5.1) []) (Int.toNat x_7.2) (0 : Int) * a3 + 99 ∧ List.getD (a0.Owed.getD (Int.toNat x_5.1) []) (Int.toNat x_7.2) (0 : Int) * a3 + 99 ≤ (9223372036854775807 : Int)) (chk (InR (List.getD (a0.Owed.getD (Int.toNat x_5.1) []) (Int.toNat x_7.2) (0 : Int) + (List.getD (a0.Owed.getD (Int.toNat x_5.1) []) (Int.toNat x_7.2) (0 : Int) * a3 + 99) / (100 : Int))) (chk (0 ≤ x_5.1 ∧ x_5.1 < (↑a2.length : Int)) (chk (0 ≤ x_7.2 ∧ x_7.2 < (↑(List.length (a2.getD (Int.toNat x_5.1) [])) : Int)) (chk (InR (List.getD (a0.Owed.getD (Int.toNat x_5.1) []) (Int.toNat x_7.2) (0 : Int) + (List.getD (a0.Owed.getD (Int.toNat x_5.1) []) (Int.toNat x_7.2) (0 : Int) * a3 + 99) / (100 : Int) + List.getD (a2.getD (Int.toNat x_5.1) []) (Int.toNat x_7.2) (0 : Int))) (chk (List.length x_7.1 + [List.getD (a0.Owed.getD (Int.toNat x_5.1) []) (Int.toNat x_7.2) (0 : Int) + (List.getD (a0.Owed.getD (Int.toNat x_5.1) []) (Int.toNat x_7.2) (0 : Int) * a3 + 99) / (100 : Int) + List.getD (a2.getD (Int.toNat x_5.1) []) (Int.toNat x_7.2) (0 : Int)].length ≤ (1000000000 : Nat)) (chk (InR (x_7.2 + 1)) (x_8 ((x_7.1 ++ [List.getD (a0.Owed.getD (Int.toNat x_5.1) []) (Int.toNat x_7.2) (0 : Int) + (List.getD (a0.Owed.getD (Int.toNat x_5.1) []) (Int.toNat x_7.2) (0 : Int) * a3 + 99) / (100 : Int) + List.getD (a2.getD (Int.toNat x_5.1) []) (Int.toNat x_7.2) (0 : Int)], x_7.2 + 1))))))))))))) (chk (List.length x_5.2.1 + [x_7.1].length ≤ (1000000000 : Nat)) (chk (InR (x_5.1 + 1)) (x_6 ((x_5.1 + 1, x_5.2.1 ++ [x_7.1], x_5.2.2 ++ [a0.Deposits.getD (Int.toNat x_5.1) 0 + a1.getD (Int.toNat x_5.1) 0])))))) (F) (([], (0 : Int))))))))) (bnd (slices_Clone_Lint F x_5.2.1) (fun (x_7 : List (List (Int))) => chk (List.length x_7 + [x_5.2.2].length ≤ (1000000000 : Nat)) (bnd (fees_amounts F (x_7 ++ [x_5.2.2])) (fun (x_8 : Int) => brk (x_8 != (0 : Int)) (some ((State.mk [] [], [], (8 : Int)))) (bnd (slices_Clone_int F x_5.2.2) (fun (x_9 : List (Int)) => loopC (fun (x_10 : (List (List (Int))) × ((Int) × ((List (List (Int))) × (List (Int))))) => fun x_11 => brk (decide (x_10.2.1 < (↑(List.length x_5.2.1) : Int))) (chk (0 ≤ x_10.2.1 ∧ x_10.2.1 < (↑(List.length x_5.2.1) : Int)) (chk (0 ≤ x_10.2.1 ∧ x_10.2.1 < (↑(List.length x_5.2.2) : Int)) (bnd (fees_awards F (List.getD x_5.2.1 (Int.toNat x_10.2.1) []) (List.getD x_5.2.2 (Int.toNat x_10.2.1) (0 : Int))) (fun (x_12 : List (Int)) => bnd (slices_Clone_int F (List.getD x_5.2.1 (Int.toNat x_10.2.1) [])) (fun (x_13 : List (Int)) => loopC (fun (x_14 : (Int) × ((List (Int)) × (List (Int)))) => fun x_15 => brk (decide (x_14.1 < (↑(List.length x_12) : Int))) (chk (0 ≤ x_14.1 ∧ x_14.1 < (↑(List.length x_12) : Int)) (chk (0 ≤ x_14.1 ∧ x_14.1 < (↑(List.length x_14.2.1) : Int)) (chk (InR (List.getD x_14.2.1 (Int.toNat x_14.1) (0 : Int) - List.getD x_12 (Int.toNat x_14.1) (0 : Int))) (chk (0 ≤ x_14.1 ∧ x_14.1 < (↑(List.length x_14.2.1) : Int)) (chk (0 ≤ x_10.2.1 ∧ x_10.2.1 < (↑(List.length x_14.2.2) : Int)) (chk (InR (List.getD x_14.2.2 (Int.toNat x_10.2.1) (0 : Int) - List.getD x_12 (Int.toNat x_14.1) (0 : Int))) (chk (0 ≤ x_10.2.1 ∧ x_10.2.1 < (↑(List.length x_14.2.2) : Int)) (chk (InR (x_14.1 + 1)) (x_15 ((x_14.1 + 1, List.set x_14.2.1 (Int.toNat x_14.1) (List.getD x_14.2.1 (Int.toNat x_14.1) (0 : Int) - List.getD x_12 (Int.toNat x_14.1) (0 : Int)), List.set x_14.2.2 (Int.toNat x_10.2.1) (List.getD x_14.2.2 (Int.toNat x_10.2.1) (0 : Int) - List.getD x_12 (Int.toNat x_14.1) (0 : Int))))))))))))) (chk (List.length x_10.2.2.1 + [x_14.2.1].length ≤ (1000000000 : Nat)) (chk (List.length x_10.1 + [x_12].length ≤ (1000000000 : Nat)) (chk (InR (x_10.2.1 + 1)) (x_11 ((x_10.1 ++ [x_12], x_10.2.1 + 1, x_10.2.2.1 ++ [x_14.2.1], x_14.2.2))))))) (F) (((0 : Int), x_13, x_10.2.2.2))))))) (some ((State.mk x_10.2.2.2 x_10.2.2.1, x_10.1, (0 : Int))))) (F) (([], (0 : Int), [], x_9))))))))) (F) (((0 : Int), [], [])))) (fun x_4 => brk (x_3 == (0 : Int)) (bnd (slices_Clone_Lint F a2) (fun (x_5 : List (List (Int))) => chk (List.length x_5 + [a1].length ≤ (1000000000 : Nat)) (bnd (fees_amounts F (x_5 ++ [a1])) (fun (x_6 : Int) => x_4 (x_6))))) (x_4 (x_3)))) (fun x_3 => bnd (brk (x_2 == (0 : Int)) (fees_within F a3 (0 : Int) (100 : Int)) (some false)) (fun (x_4 : Bool) => brk (x_2 == (0 : Int) && !x_4) (x_3 ((6 : Int))) (x_3 (x_2))))) (fun x_2 => brk ((↑a1.length : Int) != (↑a0.Deposits.length : Int)) (x_2 ((1 : Int))) (x_2 (x_1)))))))
def s15 (F : Nat) : CS E.G := ⟨15, [.v 8 true, .sl 0, .sl 6, .v 0 false], [.v 8 true [3, 22], .sl 6 22, .v 0 false []], fun x => fees_Month F x.1 x.2.1 x.2.2.1 x.2.2.2.1⟩
theorem c15 (F : Nat) : CSok E [] (s15 F) := mkC (cx := ⟨[s37 F, s58 F, s59 F, s42 F, s43 F, s44 F, s45 F], [(38, Try.f38)], F, [], []⟩) hf15 (by kernel_rfl) rfl (allC (c37 F) (allC (c58 F) (allC (c59 F) (allC (c42 F) (allC (c43 F) (allC (c44 F) (allC (c45 F) all0))))))) ⟨(inlC hf38 en38 inl0), all0⟩ (.c .n (.k (.j ⟨[.i], [16, 32, 64, 128, 48], [2, 3, 4, 5, 1, 0], [(192, .i IntKind.i64)], [], [], [], 7⟩ .n (.j ⟨[.i], [16, 32, 64, 128, 48], [2, 3, 4, 5, 1, 0], [(192, .i IntKind.i64)], [], [], [], 7⟩ .n (.j ⟨[.i], [16, 32, 64, 128, 48], [2, 3, 4, 5, 1, 0], [(192, .i IntKind.i64)], [], [], [], 7⟩ .n (.c .n (.l ⟨[.i, .l 6, .l 0], [16, 32, 64, 128, 1024, 48, 1040, 208], [2, 3, 4, 5, 1, 7, 0], [(1056, .i IntKind.i64)], [], [(7, 1, .h 8 22 6), (7, 0, .h 9 3 0)], [], 10⟩ (.c (.l ⟨[.l 0, .i], [16, 32, 64, 128, 1024, 1056, 224, 1376, 48, 1040, 208, 1392], [2, 3, 4, 5, 1, 10, 7, 0, 8, 12], [(256, .h 13 3 0), (1408, .i IntKind.i64)], [], [], [], 14⟩ .n) (.c .n (.p (.l ⟨[.l 6, .i, .l 6, .l 0], [16, 32, 64, 288, 272], [9, 8, 13, 14, 16, 15], [(80, .h 17 22 6), (304, .i IntKind.i64)], [], [(16, 1, .h 18 22 6)], [(15, 3, 0)], 19⟩ (.c (.l ⟨[.i, .l 0, .l 0], [16, 32, 64, 128, 96, 288, 544, 80, 144, 272, 528, 304], [9, 8, 13, 14, 16, 20, 17, 21, 18, 15], [(560, .i IntKind.i64)], [], [], [(21, 3, 0), (15, 3, 0)], 22⟩ .n) .n)))))))))))) rfl (by kernel_rfl)
theorem hf66 : HF 66 Try.f66 := hK (by kernel_rfl)
def fees_Check_1 (F : Nat) (a0 : Int) : Option (Bool) :=
 bnd (fees_within F a0 (0 : Int) (1000000 : Int)) (fun (x : Bool) => some (!x))
def s66 (F : Nat) : CS E.G := ⟨66, [.v 0 false], [.v 1 false []], fun x => fees_Check_1 F x.1⟩
theorem c66 (F : Nat) : CSok E [] (s66 F) := mkC (cx := ⟨[s43 F], [], F, [], []⟩) hf66 (by kernel_rfl) rfl (allC (c43 F) all0) ⟨inl0, all0⟩ .n rfl (by kernel_rfl)
theorem hf49 : HF 49 Try.f49 := hK (by kernel_rfl)
def fees_Check (F : Nat) (a0 : Tariff) : Option (Int) :=
 bnd (fees_within F (↑a0.Bands.length : Int) (1 : Int) (8 : Int)) (fun (x : Bool) => brk (!x) (some ((2 : Int))) (loopC (fun (x_1 : (Int) × (Int)) => fun x_2 => brk (decide (x_1.1 < (↑a0.Bands.length : Int))) (chk (0 ≤ x_1.1 ∧ x_1.1 < (↑a0.Bands.length : Int)) (chk (InR (x_1.2 + 1)) (bnd (fees_within F (a0.Bands.getD (Int.toNat x_1.1) (Band.mk 0 0)).Upto (x_1.2 + 1) (500000 : Int)) (fun (x_3 : Bool) => bnd (brk (!!x_3) (fees_within F (a0.Bands.getD (Int.toNat x_1.1) (Band.mk 0 0)).Rate (0 : Int) (1000 : Int)) (some false)) (fun (x_4 : Bool) => brk (!x_3 || !x_4) (some ((130 : Int))) (chk (InR (x_1.1 + 1)) (x_2 ((x_1.1 + 1, (a0.Bands.getD (Int.toNat x_1.1) (Band.mk 0 0)).Upto))))))))) (loopC (fun (x_3 : (Int) × (Int)) => fun x_4 => brk (decide (x_3.2 < 7)) (chk (0 ≤ x_3.2 ∧ x_3.2 < (↑(7 : Nat) : Int)) (bnd (fees_within F ([a0.Class.a0, a0.Class.a1, a0.Class.a2, a0.Class.a3, a0.Class.a4, a0.Class.a5, a0.Class.a6].getD (Int.toNat x_3.2) 0) (0 : Int) x_3.1) (fun (x_5 : Bool) => brk (!x_5) (some ((130 : Int))) (chk (InR (x_3.2 + 1)) (x_4 (([a0.Class.a0, a0.Class.a1, a0.Class.a2, a0.Class.a3, a0.Class.a4, a0.Class.a5, a0.Class.a6].getD (Int.toNat x_3.2) 0, x_3.2 + 1))))))) (brk (x_1.2 != (500000 : Int)) (some ((130 : Int))) (bnd (fees_within F a0.Most (0 : Int) (1000000000 : Int)) (fun (x_5 : Bool) => brk (!x_5) (some ((130 : Int))) (bnd (fees_within F a0.Least (0 : Int) a0.Most) (fun (x_6 : Bool) => brk (!x_6) (some ((130 : Int))) (bnd (fees_within F a0.Paid (1 : Int) (1000 : Int)) (fun (x_7 : Bool) => brk (!x_7) (some ((130 : Int))) (bnd (fees_within F a0.Mile (0 : Int) (100000 : Int)) (fun (x_8 : Bool) => brk (!x_8) (some ((130 : Int))) (join (F) (fun (x_9 : Int) => brk (decide (x_9 ≥ (0 : Int))) (some ((130 : Int))) (some ((0 : Int)))) (fun x_9 => loopC (fun (x_10 : Int) => fun x_11 => brk (decide (x_10 < (↑[a0.Escort, a0.Cut, a0.Tow].length : Int))) (chk (0 ≤ x_10 ∧ x_10 < (↑[a0.Escort, a0.Cut, a0.Tow].length : Int)) (bnd (fees_Check_1 F ([a0.Escort, a0.Cut, a0.Tow].getD (Int.toNat x_10) 0)) (fun (x_12 : Bool) => brk (x_12) (x_9 (x_10)) (chk (InR (x_10 + 1)) (x_11 (x_10 + 1)))))) (x_9 ((-1 : Int)))) (F) ((0 : Int)))))))))))))) (F) (((300 : Int), (0 : Int))))) (F) (((0 : Int), (0 : Int)))))
def s49 (F : Nat) : CS E.G := ⟨49, [.v 13 true], [.v 0 false []], fun x => fees_Check F x.1⟩
theorem c49 (F : Nat) : CSok E [] (s49 F) := mkC (cx := ⟨[s43 F, s66 F], [(62, Try.f62), (75, Try.f75)], F, [], []⟩) hf49 (by kernel_rfl) rfl (allC (c43 F) (allC (c66 F) all0)) ⟨(inlC hf62 en62 (inlC hf75 en75 inl0)), all0⟩ (.c .n (.l ⟨[.i, .i], [16, 256, 272], [1, 0], [(288, .i IntKind.i64), (48, .i IntKind.i64)], [], [], [], 2⟩ (.c .n (.l ⟨[.i, .i], [16, 608, 48], [1, 0], [(96, .i IntKind.i64), (624, .i IntKind.i64)], [], [], [], 2⟩ (.c .n (.s .n (.s .n (.s .n (.s .n (.s .n (.p (.w ⟨[.i], [], [2], [(0, .i IntKind.i64)], [], [], [], 3⟩ (.l ⟨[.i], [0, 16, 112], [2], [(128, .i IntKind.i64)], [], [], [], 3⟩ (.c .n .n)) .n)))))))))))) rfl (by kernel_rfl)
theorem hf67 : HF 67 Try.f67 := hK (by kernel_rfl)
def fees_Voyage_right_1 (F : Nat) (a0 : Int) : Option (Bool) :=
 bnd (fees_within F a0 (0 : Int) (1000 : Int)) (fun (x : Bool) => some (!x))
def s67 (F : Nat) : CS E.G := ⟨67, [.v 0 false], [.v 1 false []], fun x => fees_Voyage_right_1 F x.1⟩
theorem c67 (F : Nat) : CSok E [] (s67 F) := mkC (cx := ⟨[s43 F], [], F, [], []⟩) hf67 (by kernel_rfl) rfl (allC (c43 F) all0) ⟨inl0, all0⟩ .n rfl (by kernel_rfl)
theorem hf50 : HF 50 Try.f50 := hK (by kernel_rfl)
def fees_Voyage_right (F : Nat) (a0 : Voyage) : Option (Bool) :=
 bnd (fees_within F a0.Ship (0 : Int) (1000000 : Int)) (fun (x : Bool) => brk (x) (bnd (fees_within F a0.Class (0 : Int) (6 : Int)) (fun (x_1 : Bool) => brk (x_1) (bnd (fees_within F a0.Tonnes (1 : Int) (500000 : Int)) (fun (x_2 : Bool) => brk (x_2) (bnd (fees_within F a0.Tenths (0 : Int) (100000 : Int)) (fun (x_3 : Bool) => brk (x_3) (join (F) (fun (x_4 : Int) => some (!decide (x_4 ≥ (0 : Int)))) (fun x_4 => loopC (fun (x_5 : Int) => fun x_6 => brk (decide (x_5 < (↑[a0.Escort, a0.Cut, a0.Tow].length : Int))) (chk (0 ≤ x_5 ∧ x_5 < (↑[a0.Escort, a0.Cut, a0.Tow].length : Int)) (bnd (fees_Voyage_right_1 F ([a0.Escort, a0.Cut, a0.Tow].getD (Int.toNat x_5) 0)) (fun (x_7 : Bool) => brk (x_7) (x_4 (x_5)) (chk (InR (x_5 + 1)) (x_6 (x_5 + 1)))))) (x_4 ((-1 : Int)))) (F) ((0 : Int)))) (some (false)))) (some (false)))) (some (false)))) (some (false)))
def s50 (F : Nat) : CS E.G := ⟨50, [.v 14 true], [.v 1 false []], fun x => fees_Voyage_right F x.1⟩
theorem c50 (F : Nat) : CSok E [] (s50 F) := mkC (cx := ⟨[s43 F, s67 F], [(62, Try.f62), (75, Try.f75)], F, [], []⟩) hf50 (by kernel_rfl) rfl (allC (c43 F) (allC (c67 F) all0)) ⟨(inlC hf62 en62 (inlC hf75 en75 inl0)), all0⟩ (.s (.s (.s (.s (.p (.w ⟨[.i], [], [1], [(0, .i IntKind.i64)], [], [], [], 2⟩ (.l ⟨[.i], [0, 16, 112], [1], [(128, .i IntKind.i64)], [], [], [], 2⟩ (.c .n .n)) .n)) .n) .n) .n) .n) rfl (by kernel_rfl)
theorem hf52 : HF 52 Try.f52 := hK (by kernel_rfl)
def fees_Tariff_dues (F : Nat) (a0 : Tariff) (a1 : Int) (a2 : Int) : Option (Int) :=
 loopC (fun (x : (Int) × ((Int) × (Int))) => fun x_1 => brk (decide (x.2.1 < (↑a0.Bands.length : Int))) (chk (0 ≤ x.2.1 ∧ x.2.1 < (↑a0.Bands.length : Int)) (chk (InR ((if (a0.Bands.getD (Int.toNat x.2.1) (Band.mk 0 0)).Upto < a2 then (a0.Bands.getD (Int.toNat x.2.1) (Band.mk 0 0)).Upto else a2) - x.1)) (chk (InR ((a0.Bands.getD (Int.toNat x.2.1) (Band.mk 0 0)).Rate * if (if (a0.Bands.getD (Int.toNat x.2.1) (Band.mk 0 0)).Upto < a2 then (a0.Bands.getD (Int.toNat x.2.1) (Band.mk 0 0)).Upto else a2) - x.1 > (0 : Int) then (if (a0.Bands.getD (Int.toNat x.2.1) (Band.mk 0 0)).Upto < a2 then (a0.Bands.getD (Int.toNat x.2.1) (Band.mk 0 0)).Upto else a2) - x.1 else (0 : Int))) (chk (InR (x.2.2 + (a0.Bands.getD (Int.toNat x.2.1) (Band.mk 0 0)).Rate * if (if (a0.Bands.getD (Int.toNat x.2.1) (Band.mk 0 0)).Upto < a2 then (a0.Bands.getD (Int.toNat x.2.1) (Band.mk 0 0)).Upto else a2) - x.1 > (0 : Int) then (if (a0.Bands.getD (Int.toNat x.2.1) (Band.mk 0 0)).Upto < a2 then (a0.Bands.getD (Int.toNat x.2.1) (Band.mk 0 0)).Upto else a2) - x.1 else (0 : Int))) (chk (InR (x.2.1 + 1)) (x_1 (((a0.Bands.getD (Int.toNat x.2.1) (Band.mk 0 0)).Upto, x.2.1 + 1, x.2.2 + (a0.Bands.getD (Int.toNat x.2.1) (Band.mk 0 0)).Rate * if (if (a0.Bands.getD (Int.toNat x.2.1) (Band.mk 0 0)).Upto < a2 then (a0.Bands.getD (Int.toNat x.2.1) (Band.mk 0 0)).Upto else a2) - x.1 > (0 : Int) then (if (a0.Bands.getD (Int.toNat x.2.1) (Band.mk 0 0)).Upto < a2 then (a0.Bands.getD (Int.toNat x.2.1) (Band.mk 0 0)).Upto else a2) - x.1 else (0 : Int))))))))) (chk (0 ≤ a1 ∧ a1 < (↑(7 : Nat) : Int)) (chk (InR (x.2.2 * [a0.Class.a0, a0.Class.a1, a0.Class.a2, a0.Class.a3, a0.Class.a4, a0.Class.a5, a0.Class.a6].getD a1.toNat 0)) (chk (InR (x.2.2 * [a0.Class.a0, a0.Class.a1, a0.Class.a2, a0.Class.a3, a0.Class.a4, a0.Class.a5, a0.Class.a6].getD a1.toNat 0 + (50 : Int))) (chk (0 ≤ x.2.2 * [a0.Class.a0, a0.Class.a1, a0.Class.a2, a0.Class.a3, a0.Class.a4, a0.Class.a5, a0.Class.a6].getD a1.toNat 0 + (50 : Int) ∧ x.2.2 * [a0.Class.a0, a0.Class.a1, a0.Class.a2, a0.Class.a3, a0.Class.a4, a0.Class.a5, a0.Class.a6].getD a1.toNat 0 + (50 : Int) ≤ (9223372036854775807 : Int)) (some (if (if (x.2.2 * [a0.Class.a0, a0.Class.a1, a0.Class.a2, a0.Class.a3, a0.Class.a4, a0.Class.a5, a0.Class.a6].getD a1.toNat 0 + (50 : Int)) / (100 : Int) > a0.Least then (x.2.2 * [a0.Class.a0, a0.Class.a1, a0.Class.a2, a0.Class.a3, a0.Class.a4, a0.Class.a5, a0.Class.a6].getD a1.toNat 0 + (50 : Int)) / (100 : Int) else a0.Least) < a0.Most then if (x.2.2 * [a0.Class.a0, a0.Class.a1, a0.Class.a2, a0.Class.a3, a0.Class.a4, a0.Class.a5, a0.Class.a6].getD a1.toNat 0 + (50 : Int)) / (100 : Int) > a0.Least then (x.2.2 * [a0.Class.a0, a0.Class.a1, a0.Class.a2, a0.Class.a3, a0.Class.a4, a0.Class.a5, a0.Class.a6].getD a1.toNat 0 + (50 : Int)) / (100 : Int) else a0.Least else a0.Most))))))) (F) (((0 : Int), (0 : Int), (0 : Int)))
def s52 (F : Nat) : CS E.G := ⟨52, [.ptr 13, .v 0 false, .v 0 false], [.v 0 false []], fun x => fees_Tariff_dues F x.1 x.2.1 x.2.2.1⟩
theorem c52 (F : Nat) : CSok E [] (s52 F) := mkC (cx := ⟨[], [], F, [], []⟩) hf52 (by kernel_rfl) rfl all0 ⟨inl0, all0⟩ (.l ⟨[.i, .i, .i], [0, 16, 32, 224, 240], [0, 1], [(128, .i IntKind.i64), (256, .i IntKind.i64), (112, .i IntKind.i64)], [], [], [], 2⟩ .n) rfl (by kernel_rfl)
theorem hf68 : HF 68 Try.f68 := hK (by kernel_rfl)
def fees_account (F : Nat) (a0 : List Int) : Option (Account) :=
 loopC (fun (x : (Int) × ((Int) × ((Int) × ((Int) × ((Int) × ((Int) × (Int))))))) => fun x_1 => brk (decide (x.1 < (↑a0.length : Int))) (chk (0 ≤ x.1 ∧ x.1 < (↑a0.length : Int)) (chk (0 ≤ x.1 ∧ x.1 < (↑(5 : Nat) : Int)) (chk (InR (x.2.1 + a0.getD (Int.toNat x.1) 0)) (chk (InR (x.1 + 1)) (x_1 ((x.1 + 1, x.2.1 + a0.getD (Int.toNat x.1) 0, if x.1 = (↑(Nat.succ (0 : Nat)).succ.succ.succ : Int) then a0.getD (Int.toNat x.1) 0 else x.2.2.1, if x.1 = (↑(Nat.succ (0 : Nat)).succ.succ : Int) then a0.getD (Int.toNat x.1) 0 else x.2.2.2.1, if x.1 = (↑(Nat.succ (0 : Nat)).succ : Int) then a0.getD (Int.toNat x.1) 0 else x.2.2.2.2.1, if x.1 = (↑(Nat.succ (0 : Nat)) : Int) then a0.getD (Int.toNat x.1) 0 else x.2.2.2.2.2.1, if x.1 = (↑(0 : Nat) : Int) then a0.getD (Int.toNat x.1) 0 else x.2.2.2.2.2.2))))))) (some (Account.mk (A5ofInt.mk x.2.2.2.2.2.2 x.2.2.2.2.2.1 x.2.2.2.2.1 x.2.2.2.1 x.2.2.1) x.2.1))) (F) (((0 : Int), (0 : Int), (0 : Int), (0 : Int), (0 : Int), (0 : Int), (0 : Int)))
def s68 (F : Nat) : CS E.G := ⟨68, [.sl 0], [.v 17 true []], fun x => fees_account F x.1⟩
theorem c68 (F : Nat) : CSok E [] (s68 F) := mkC (cx := ⟨[], [], F, [], []⟩) hf68 (by kernel_rfl) rfl all0 ⟨inl0, all0⟩ (.l ⟨[.i, .i, .i, .i, .i, .i, .i], [32, 96, 48, 112], [1, 0, 2], [(128, .i IntKind.i64)], [], [(2, 5, .i IntKind.i64), (2, 4, .i IntKind.i64), (2, 3, .i IntKind.i64), (2, 2, .i IntKind.i64), (2, 1, .i IntKind.i64), (2, 0, .i IntKind.i64)], [], 3⟩ .n) rfl (by kernel_rfl)
theorem hf51 : HF 51 Try.f51 := hK (by kernel_rfl)
def fees_Tariff_bill (F : Nat) (a0 : Tariff) (a1 : Voyage) (a2 : Int) : Option (Account) :=
 join (F) (fun (x : Int) => chk (InR (a1.Tonnes + 999)) (chk (0 ≤ a1.Tonnes + 999 ∧ a1.Tonnes + 999 ≤ (9223372036854775807 : Int)) (chk (InR (a0.Mile * a1.Tenths)) (chk (InR (a0.Mile * a1.Tenths * ((a1.Tonnes + 999) / (1000 : Int)))) (chk (InR (a0.Mile * a1.Tenths * ((a1.Tonnes + 999) / (1000 : Int)) + 9)) (chk (0 ≤ a0.Mile * a1.Tenths * ((a1.Tonnes + 999) / (1000 : Int)) + 9 ∧ a0.Mile * a1.Tenths * ((a1.Tonnes + 999) / (1000 : Int)) + 9 ≤ (9223372036854775807 : Int)) (chk (InR (a0.Escort * a1.Escort)) (chk (InR (a0.Cut * a1.Cut)) (chk (InR (a0.Tow * a1.Tow)) (bnd (fees_account F [x, (a0.Mile * a1.Tenths * ((a1.Tonnes + 999) / (1000 : Int)) + 9) / (10 : Int), a0.Escort * a1.Escort, a0.Cut * a1.Cut, a0.Tow * a1.Tow]) (fun (x_1 : Account) => some (x_1)))))))))))) (fun x => brk (decide (a2 < a0.Paid)) (bnd (fees_Tariff_dues F a0 a1.Class a1.Tonnes) (fun (x_1 : Int) => x (x_1))) (x ((0 : Int))))
def s51 (F : Nat) : CS E.G := ⟨51, [.ptr 13, .v 14 true, .v 0 false], [.v 17 true []], fun x => fees_Tariff_bill F x.1 x.2.1 x.2.2.1⟩
theorem c51 (F : Nat) : CSok E [] (s51 F) := mkC (cx := ⟨[s52 F, s68 F], [], F, [], []⟩) hf51 (by kernel_rfl) rfl (allC (c52 F) (allC (c68 F) all0)) ⟨inl0, all0⟩ (.k (.k (.j ⟨[.i], [0, 64, 96], [0, 1, 2], [(112, .i IntKind.i64)], [], [], [], 3⟩ .n .n))) rfl (by kernel_rfl)
theorem hf25 : HF 25 Try.f25 := hK (by kernel_rfl)
def fees_Bill (F : Nat) (a0 : Tariff) (a1 : Voyage) (a2 : Int) : Option (Account × Int) :=
 bnd (fees_Check F a0) (fun (x : Int) => brk (x != (0 : Int)) (some ((Account.mk (A5ofInt.mk 0 0 0 0 0) (0 : Int), x))) (bnd (fees_Voyage_right F a1) (fun (x_1 : Bool) => brk (!x_1) (some ((Account.mk (A5ofInt.mk 0 0 0 0 0) (0 : Int), (1 : Int)))) (brk (decide (a2 < 0)) (some ((Account.mk (A5ofInt.mk 0 0 0 0 0) (0 : Int), (6 : Int)))) (bnd (fees_Tariff_bill F a0 a1 a2) (fun (x_2 : Account) => some ((x_2, (0 : Int)))))))))
def s25 (F : Nat) : CS E.G := ⟨25, [.v 13 true, .v 14 true, .v 0 false], [.v 17 true [], .v 0 false []], fun x => fees_Bill F x.1 x.2.1 x.2.2.1⟩
theorem c25 (F : Nat) : CSok E [] (s25 F) := mkC (cx := ⟨[s49 F, s50 F, s51 F], [], F, [], []⟩) hf25 (by kernel_rfl) rfl (allC (c49 F) (allC (c50 F) (allC (c51 F) all0))) ⟨inl0, all0⟩ (.c .n (.c .n .n)) rfl (by kernel_rfl)
theorem hf29 : HF 29 Try.f29 := hK (by kernel_rfl)
def fees_Dues (F : Nat) (a0 : Tariff) (a1 : Int) (a2 : Int) : Option (Int × Int) :=
 bnd (fees_Check F a0) (fun (x : Int) => brk (x != (0 : Int)) (some (((0 : Int), x))) (bnd (fees_within F a1 (0 : Int) (6 : Int)) (fun (x_1 : Bool) => bnd (brk (!!x_1) (fees_within F a2 (1 : Int) (500000 : Int)) (some false)) (fun (x_2 : Bool) => brk (!x_1 || !x_2) (some (((0 : Int), (1 : Int)))) (bnd (fees_Tariff_dues F a0 a1 a2) (fun (x_3 : Int) => some ((x_3, (0 : Int)))))))))
def s29 (F : Nat) : CS E.G := ⟨29, [.v 13 true, .v 0 false, .v 0 false], [.v 0 false [], .v 0 false []], fun x => fees_Dues F x.1 x.2.1 x.2.2.1⟩
theorem c29 (F : Nat) : CSok E [] (s29 F) := mkC (cx := ⟨[s43 F, s49 F, s52 F], [], F, [], []⟩) hf29 (by kernel_rfl) rfl (allC (c43 F) (allC (c49 F) (allC (c52 F) all0))) ⟨inl0, all0⟩ (.c .n .n) rfl (by kernel_rfl)
theorem hf30 : HF 30 Try.f30 := hK (by kernel_rfl)
def law12_Example (F : Nat) : Option (Tariff) :=
 some (Tariff.mk [Band.mk (2000 : Int) (50 : Int), Band.mk (500000 : Int) (20 : Int)] (A7ofInt.mk 150 120 100 80 70 60 50) (1000 : Int) (1000000000 : Int) (3 : Int) (7 : Int) (900 : Int) (2000 : Int) (3000 : Int))
def s30 (F : Nat) : CS E.G := ⟨30, [], [.v 13 true [96]], fun x => law12_Example F⟩
theorem c30 (F : Nat) : CSok E [] (s30 F) := mkC (cx := ⟨[], [], F, [], []⟩) hf30 (by kernel_rfl) rfl all0 ⟨inl0, all0⟩ .n rfl (by kernel_rfl)
theorem hf69 : HF 69 Try.f69 := hK (by kernel_rfl)
def fees_asked_1 (F : Nat) (a0 : Int) : Option (Bool) :=
 bnd (fees_within F a0 (0 : Int) (1000000000 : Int)) (fun (x : Bool) => some (!x))
def s69 (F : Nat) : CS E.G := ⟨69, [.v 0 false], [.v 1 false []], fun x => fees_asked_1 F x.1⟩
theorem c69 (F : Nat) : CSok E [] (s69 F) := mkC (cx := ⟨[s43 F], [], F, [], []⟩) hf69 (by kernel_rfl) rfl (allC (c43 F) all0) ⟨inl0, all0⟩ .n rfl (by kernel_rfl)
theorem hf53 : HF 53 Try.f53 := hK (by kernel_rfl)
def fees_asked (F : Nat) (a0 : List Int) : Option (Int) :=
 bnd (fees_within F (↑a0.length : Int) (1 : Int) (12 : Int)) (fun (x : Bool) => brk (!x) (some ((2 : Int))) (join (F) (fun (x_1 : Int) => brk (decide (x_1 ≥ (0 : Int))) (some ((6 : Int))) (some ((0 : Int)))) (fun x_1 => loopC (fun (x_2 : Int) => fun x_3 => brk (decide (x_2 < (↑a0.length : Int))) (chk (0 ≤ x_2 ∧ x_2 < (↑a0.length : Int)) (bnd (fees_asked_1 F (a0.getD (Int.toNat x_2) 0)) (fun (x_4 : Bool) => brk (x_4) (x_1 (x_2)) (chk (InR (x_2 + 1)) (x_3 (x_2 + 1)))))) (x_1 ((-1 : Int)))) (F) ((0 : Int)))))
def s53 (F : Nat) : CS E.G := ⟨53, [.sl 0], [.v 0 false []], fun x => fees_asked F x.1⟩
theorem c53 (F : Nat) : CSok E [] (s53 F) := mkC (cx := ⟨[s43 F, s69 F], [(62, Try.f62), (75, Try.f75)], F, [], []⟩) hf53 (by kernel_rfl) rfl (allC (c43 F) (allC (c69 F) all0)) ⟨(inlC hf62 en62 (inlC hf75 en75 inl0)), all0⟩ (.c .n (.p (.w ⟨[.i], [], [0], [(0, .i IntKind.i64)], [], [], [], 1⟩ (.l ⟨[.i], [0, 16, 112], [0], [(128, .i IntKind.i64)], [], [], [], 1⟩ (.c .n .n)) .n))) rfl (by kernel_rfl)
theorem hf79 : HF 79 Try.f79 := hK (by kernel_rfl)
theorem en79 : Proofs.Enters Try.prog 79 := mkE hf79 (by kernel_rfl) rfl
theorem hf86 : HF 86 Try.f86 := hK (by kernel_rfl)
theorem en86 : Proofs.Enters Try.prog 86 := mkE hf86 (by kernel_rfl) rfl
theorem hf85 : HF 85 Try.f85 := hK (by kernel_rfl)
theorem en85 : Proofs.Enters Try.prog 85 := mkE hf85 (by kernel_rfl) rfl
theorem hf80 : HF 80 Try.f80 := hK (by kernel_rfl)
theorem en80 : Proofs.Enters Try.prog 80 := mkE hf80 (by kernel_rfl) rfl
theorem hf71 : HF 71 Try.f71 := hK (by kernel_rfl)
theorem en71 : Proofs.Enters Try.prog 71 := mkE hf71 (by kernel_rfl) rfl
theorem hf55 : HF 55 Try.f55 := hK (by kernel_rfl)
theorem en55 : Proofs.Enters Try.prog 55 := mkE hf55 (by kernel_rfl) rfl
theorem hf77 : HF 77 Try.f77 := hK (by kernel_rfl)
theorem en77 : Proofs.Enters Try.prog 77 := mkE hf77 (by kernel_rfl) rfl
theorem hf78 : HF 78 Try.f78 := hK (by kernel_rfl)
theorem en78 : Proofs.Enters Try.prog 78 := mkE hf78 (by kernel_rfl) rfl
theorem hf70 : HF 70 Try.f70 := hK (by kernel_rfl)
theorem en70 : Proofs.Enters Try.prog 70 := mkE hf70 (by kernel_rfl) rfl
theorem hf54 : HF 54 Try.f54 := hK (by kernel_rfl)
def fees_exact (F : Nat) (a0 : List Int) : Option ((List Int)) :=
 chk (0 ≤ (↑a0.length : Int) ∧ (↑a0.length : Int) ≤ (↑a0.length : Int) ∧ (↑a0.length : Int) ≤ (100000 : Int)) (chk (0 ≤ (↑a0.length : Int) ∧ (↑a0.length : Int) ≤ (↑a0.length : Int) ∧ (↑a0.length : Int) ≤ (100000 : Int)) (loopC (fun (x : (Int) × (List (Int))) => fun x_1 => brk (decide (x.1 < (↑(List.replicate (↑a0.length : Int).toNat (0 : Int)).length : Int))) (chk (0 ≤ x.1 ∧ x.1 < (↑(List.length x.2) : Int)) (chk (InR (x.1 + 1)) (x_1 ((x.1 + 1, List.set x.2 (Int.toNat x.1) x.1))))) (loopC (fun (x_2 : (Int) × (Int)) => fun x_3 => brk (decide (x_2.1 ≤ (↑(List.length x.2) : Int))) (none) (chk (InR (x_2.2 + 1)) (loopC (fun (x_4 : (Int) × (List (Int))) => fun x_5 => brk (decide (x_4.1 < (↑(List.length x.2) : Int))) (loopC (fun (x_6 : (Int) × (List (Int))) => fun x_7 => brk (decide (x_6.1 > x_2.2)) (chk (0 ≤ x_6.1 ∧ x_6.1 < (↑(List.length x_6.2) : Int)) (chk (InR (x_6.1 - 1)) (chk (0 ≤ x_6.1 - 1 ∧ x_6.1 - 1 < (↑(List.length x_6.2) : Int)) (chk ((0 : Int) ≤ List.getD x_6.2 (Int.toNat x_6.1) (0 : Int) ∧ List.getD x_6.2 (Int.toNat x_6.1) (0 : Int) < (↑a0.length : Int)) (chk ((0 : Int) ≤ List.getD x_6.2 (x_6.1 - 1).toNat (0 : Int) ∧ List.getD x_6.2 (x_6.1 - 1).toNat (0 : Int) < (↑a0.length : Int)) (chk (InR (a0.getD (Int.toNat (List.getD x_6.2 (Int.toNat x_6.1) (0 : Int))) (0 : Int) - a0.getD (Int.toNat (List.getD x_6.2 (x_6.1 - 1).toNat (0 : Int))) (0 : Int))) (brk (decide (a0.getD (Int.toNat (List.getD x_6.2 (Int.toNat x_6.1) (0 : Int))) (0 : Int) - a0.getD (Int.toNat (List.getD x_6.2 (x_6.1 - 1).toNat (0 : Int))) (0 : Int) < (0 : Int))) (chk (InR (x_6.1 - 1)) (chk (InR (x_6.1 - 1)) (chk (0 ≤ x_6.1 - 1 ∧ x_6.1 - 1 < (↑(List.length x_6.2) : Int)) (chk (0 ≤ x_6.1 ∧ x_6.1 < (↑(List.length x_6.2) : Int)) (chk (0 ≤ x_6.1 ∧ x_6.1 < (↑(List.length x_6.2) : Int)) (chk (0 ≤ x_6.1 - 1 ∧ x_6.1 - 1 < (↑(List.set x_6.2 (Int.toNat x_6.1) (List.getD x_6.2 (x_6.1 - 1).toNat (0 : Int))).length : Int)) (chk (InR (x_6.1 - 1)) (x_7 ((x_6.1 - 1, (List.set x_6.2 (Int.toNat x_6.1) (List.getD x_6.2 (x_6.1 - 1).toNat (0 : Int))).set (x_6.1 - 1).toNat (List.getD x_6.2 (Int.toNat x_6.1) (0 : Int)))))))))))) (chk (InR (x_4.1 + 1)) (x_5 ((x_4.1 + 1, x_6.2))))))))))) (chk (InR (x_4.1 + 1)) (x_5 ((x_4.1 + 1, x_6.2))))) (F) (x_4)) (loopC (fun (x_6 : Int) => fun x_7 => brk (decide (x_6 < (↑(List.length x.2) : Int))) (none) (loopC (fun (x_8 : (Int) × ((Int) × (List (Int)))) => fun x_9 => brk (decide (x_8.2.1 < (↑(List.length x_4.2) : Int))) (chk (0 ≤ x_8.2.1 ∧ x_8.2.1 < (↑(List.length x_4.2) : Int)) (chk ((0 : Int) ≤ List.getD x_4.2 (Int.toNat x_8.2.1) (0 : Int) ∧ List.getD x_4.2 (Int.toNat x_8.2.1) (0 : Int) < (↑a0.length : Int)) (chk (InR (a0.getD (Int.toNat (List.getD x_4.2 (Int.toNat x_8.2.1) (0 : Int))) (0 : Int) - x_8.1)) (chk (0 ≤ x_8.2.1 ∧ x_8.2.1 ≤ (↑(List.length x_4.2) : Int) ∧ (↑(List.length x_4.2) : Int) ≤ (↑(List.length x_4.2) : Int)) (loopC (fun (x_10 : (Int) × (List (Int))) => fun x_11 => brk (decide (x_10.1 < (↑(List.length x_4.2) : Int) - x_8.2.1)) (chk (0 ≤ x_10.1 ∧ x_10.1 < (↑(List.length x_4.2) : Int) - x_8.2.1) (chk ((0 : Int) ≤ List.getD x_4.2 (x_8.2.1 + x_10.1).toNat (0 : Int) ∧ List.getD x_4.2 (x_8.2.1 + x_10.1).toNat (0 : Int) < (↑(List.length x_10.2) : Int)) (chk ((0 ≤ (27720 : Int) ∧ (27720 : Int) ≤ (9223372036854775807 : Int)) ∧ (0 : Int) < (↑(List.length x_4.2) : Int) - x_8.2.1) (chk (InR ((a0.getD (Int.toNat (List.getD x_4.2 (Int.toNat x_8.2.1) (0 : Int))) (0 : Int) - x_8.1) * ((27720 : Int) / ((↑(List.length x_4.2) : Int) - x_8.2.1)))) (chk (InR (List.getD x_10.2 (Int.toNat (List.getD x_4.2 (x_8.2.1 + x_10.1).toNat (0 : Int))) (0 : Int) + (a0.getD (Int.toNat (List.getD x_4.2 (Int.toNat x_8.2.1) (0 : Int))) (0 : Int) - x_8.1) * ((27720 : Int) / ((↑(List.length x_4.2) : Int) - x_8.2.1)))) (chk ((0 : Int) ≤ List.getD x_4.2 (x_8.2.1 + x_10.1).toNat (0 : Int) ∧ List.getD x_4.2 (x_8.2.1 + x_10.1).toNat (0 : Int) < (↑(List.length x_10.2) : Int)) (chk (InR (x_10.1 + 1)) (x_11 ((x_10.1 + 1, List.set x_10.2 (Int.toNat (List.getD x_4.2 (x_8.2.1 + x_10.1).toNat (0 : Int))) (List.getD x_10.2 (Int.toNat (List.getD x_4.2 (x_8.2.1 + x_10.1).toNat (0 : Int))) (0 : Int) + (a0.getD (Int.toNat (List.getD x_4.2 (Int.toNat x_8.2.1) (0 : Int))) (0 : Int) - x_8.1) * ((27720 : Int) / ((↑(List.length x_4.2) : Int) - x_8.2.1))))))))))))) (chk ((0 : Int) ≤ List.getD x_4.2 (Int.toNat x_8.2.1) (0 : Int) ∧ List.getD x_4.2 (Int.toNat x_8.2.1) (0 : Int) < (↑a0.length : Int)) (chk (InR (x_8.2.1 + 1)) (x_9 ((a0.getD (Int.toNat (List.getD x_4.2 (Int.toNat x_8.2.1) (0 : Int))) (0 : Int), x_8.2.1 + 1, x_10.2)))))) (F) (((0 : Int), x_8.2.2))))))) (some (x_8.2.2))) (F) (((0 : Int), (0 : Int), List.replicate (↑a0.length : Int).toNat (0 : Int))))) (F) ((20 : Int)))) (F) ((x_2.2 + 1, x.2))))) (F) (((20 : Int), (0 : Int))))) (F) (((0 : Int), List.replicate (↑a0.length : Int).toNat (0 : Int)))))
def s54 (F : Nat) : CS E.G := ⟨54, [.sl 0], [.sl 0 3], fun x => fees_exact F x.1⟩
theorem c54 (F : Nat) : CSok E [] (s54 F) := mkC (cx := ⟨[], [(70, Try.f70), (55, Try.f55), (71, Try.f71), (79, Try.f79), (80, Try.f80), (85, Try.f85), (86, Try.f86), (77, Try.f77), (78, Try.f78)], F, [], []⟩) hf54 (by kernel_rfl) rfl all0 ⟨(inlC hf70 en70 (inlC hf55 en55 (inlC hf71 en71 (inlC hf79 en79 (inlC hf80 en80 (inlC hf85 en85 (inlC hf86 en86 (inlC hf77 en77 (inlC hf78 en78 inl0))))))))), all0⟩ (.p (.l ⟨[.i, .l 0], [16, 48, 144], [0, 3, 5, 4], [(160, .i IntKind.i64)], [], [], [(4, 3, 0)], 6⟩ (.c .n (.p (.p (.l ⟨[.i, .i], [0, 16, 32, 96], [0, 3, 4], [(128, .i IntKind.i64), (112, .i IntKind.i64)], [], [], [], 6⟩ (.c (.u 0 .n) (.p (.l ⟨[.i, .l 0], [0, 16, 32, 48], [0, 3, 4], [(128, .i IntKind.i64)], [], [], [(4, 3, 0)], 6⟩ (.c (.l ⟨[.i, .l 0], [0, 16, 32, 128, 48], [0, 3, 4], [(144, .i IntKind.i64)], [], [], [(4, 3, 0)], 6⟩ (.s (.p .n) .n)) (.l ⟨[.i], [0, 16, 32], [0, 3, 4], [(96, .i IntKind.i64)], [], [], [], 6⟩ (.c (.u 0 .n) (.l ⟨[.i, .i, .l 0], [0, 16, 32, 128, 112], [0, 1, 3, 5, 2, 4], [(64, .i IntKind.i64), (144, .i IntKind.i64)], [], [], [(1, 3, 0)], 7⟩ (.c (.p (.l ⟨[.i, .l 0], [64, 256, 48, 80, 240], [0, 1, 3, 5, 2, 4], [(272, .i IntKind.i64)], [], [], [(1, 3, 0)], 7⟩ .n)) .n)))))))))))))) rfl (by kernel_rfl)
theorem hf31 : HF 31 Try.f31 := hK (by kernel_rfl)
def fees_Exact (F : Nat) (a0 : List Int) : Option ((List Ratio) × Int) :=
 bnd (fees_asked F a0) (fun (x : Int) => brk (x != (0 : Int)) (some (([], x))) (bnd (fees_exact F a0) (fun (x_1 : List (Int)) => loopC (fun (x_2 : (Int) × (List (Ratio))) => fun x_3 => brk (decide (x_2.1 < (↑(List.length x_1) : Int))) (chk (0 ≤ x_2.1 ∧ x_2.1 < (↑(List.length x_1) : Int)) (loopC (fun (x_4 : (Int) × (Int)) => fun x_5 => brk (x_4.2 != (0 : Int)) (chk ((0 ≤ x_4.1 ∧ x_4.1 ≤ 9223372036854775807) ∧ (0 : Int) < x_4.2) (x_5 ((x_4.2, x_4.1 % x_4.2)))) (chk (((0 : Int) ≤ List.getD x_1 (Int.toNat x_2.1) (0 : Int) ∧ List.getD x_1 (Int.toNat x_2.1) 0 ≤ (9223372036854775807 : Int)) ∧ (0 : Int) < x_4.1) (chk ((0 ≤ (27720 : Int) ∧ (27720 : Int) ≤ (9223372036854775807 : Int)) ∧ (0 : Int) < x_4.1) (chk (List.length x_2.2 + [Ratio.mk (List.getD x_1 (Int.toNat x_2.1) (0 : Int) / x_4.1) ((27720 : Int) / x_4.1)].length ≤ (1000000000 : Nat)) (chk (InR (x_2.1 + 1)) (x_3 ((x_2.1 + 1, x_2.2 ++ [Ratio.mk (List.getD x_1 (Int.toNat x_2.1) (0 : Int) / x_4.1) ((27720 : Int) / x_4.1)])))))))) (F) ((List.getD x_1 (Int.toNat x_2.1) (0 : Int), (27720 : Int))))) (some ((x_2.2, (0 : Int))))) (F) (((0 : Int), [])))))
def s31 (F : Nat) : CS E.G := ⟨31, [.sl 0], [.sl 21 85, .v 0 false []], fun x => fees_Exact F x.1⟩
theorem c31 (F : Nat) : CSok E [] (s31 F) := mkC (cx := ⟨[s53 F, s54 F], [], F, [], []⟩) hf31 (by kernel_rfl) rfl (allC (c53 F) (allC (c54 F) all0)) ⟨inl0, all0⟩ (.c .n (.l ⟨[.i, .l 21], [256, 272], [1], [(288, .i IntKind.i64), (80, .h 2 85 21)], [], [], [], 3⟩ (.c (.l ⟨[.i, .i], [256, 288, 80, 272, 112], [1, 2], [(128, .i IntKind.i64), (144, .i IntKind.i64)], [], [], [], 3⟩ .n) .n))) rfl (by kernel_rfl)
theorem hf56 : HF 56 Try.f56 := hK (by kernel_rfl)
theorem en56 : Proofs.Enters Try.prog 56 := mkE hf56 (by kernel_rfl) rfl
theorem hf32 : HF 32 Try.f32 := hK (by kernel_rfl)
def fees_Share (F : Nat) (a0 : List Int) : Option ((List Int) × Int) :=
 bnd (fees_asked F a0) (fun (x : Int) => brk (x != (0 : Int)) (some (([], x))) (bnd (fees_exact F a0) (fun (x_1 : List (Int)) => bnd (slices_Max_int F a0) (fun (x_2 : Int) => chk (0 ≤ (↑(List.length x_1) : Int) ∧ (↑(List.length x_1) : Int) ≤ (↑(List.length x_1) : Int) ∧ (↑(List.length x_1) : Int) ≤ (100000 : Int)) (chk (0 ≤ (↑(List.length x_1) : Int) ∧ (↑(List.length x_1) : Int) ≤ (↑(List.length x_1) : Int) ∧ (↑(List.length x_1) : Int) ≤ (100000 : Int)) (loopC (fun (x_3 : (Int) × ((Int) × ((List (Int)) × (List (Int))))) => fun x_4 => brk (decide (x_3.2.1 < (↑(List.length x_1) : Int))) (chk (0 ≤ x_3.2.1 ∧ x_3.2.1 < (↑(List.length x_1) : Int)) (chk ((0 : Int) ≤ List.getD x_1 (Int.toNat x_3.2.1) (0 : Int) ∧ List.getD x_1 (Int.toNat x_3.2.1) 0 ≤ (9223372036854775807 : Int)) (chk (0 ≤ x_3.2.1 ∧ x_3.2.1 < (↑(List.length x_3.2.2.2) : Int)) (chk (0 ≤ x_3.2.1 ∧ x_3.2.1 < (↑(List.length x_3.2.2.1) : Int)) (chk (0 ≤ x_3.2.1 ∧ x_3.2.1 < (↑(List.set x_3.2.2.2 (Int.toNat x_3.2.1) (List.getD x_1 (Int.toNat x_3.2.1) (0 : Int) / (27720 : Int))).length : Int)) (chk (InR (x_3.1 - (List.set x_3.2.2.2 (Int.toNat x_3.2.1) (List.getD x_1 (Int.toNat x_3.2.1) (0 : Int) / (27720 : Int))).getD (Int.toNat x_3.2.1) 0)) (chk (InR (x_3.2.1 + 1)) (x_4 ((x_3.1 - (List.set x_3.2.2.2 (Int.toNat x_3.2.1) (List.getD x_1 (Int.toNat x_3.2.1) (0 : Int) / (27720 : Int))).getD (Int.toNat x_3.2.1) 0, x_3.2.1 + 1, List.set x_3.2.2.1 (Int.toNat x_3.2.1) x_3.2.1, List.set x_3.2.2.2 (Int.toNat x_3.2.1) (List.getD x_1 (Int.toNat x_3.2.1) (0 : Int) / (27720 : Int)))))))))))) (loopC (fun (x_5 : (Int) × (Int)) => fun x_6 => brk (decide (x_5.1 ≤ (↑(List.length x_3.2.2.1) : Int))) (none) (chk (InR (x_5.2 + 1)) (loopC (fun (x_7 : (Int) × (List (Int))) => fun x_8 => brk (decide (x_7.1 < (↑(List.length x_3.2.2.1) : Int))) (loopC (fun (x_9 : (Int) × (List (Int))) => fun x_10 => brk (decide (x_9.1 > x_5.2)) (chk (0 ≤ x_9.1 ∧ x_9.1 < (↑(List.length x_9.2) : Int)) (chk (InR (x_9.1 - 1)) (chk (0 ≤ x_9.1 - 1 ∧ x_9.1 - 1 < (↑(List.length x_9.2) : Int)) (chk ((0 : Int) ≤ List.getD x_9.2 (x_9.1 - 1).toNat (0 : Int) ∧ List.getD x_9.2 (x_9.1 - 1).toNat (0 : Int) < (↑(List.length x_1) : Int)) (chk ((0 : Int) ≤ List.getD x_1 (Int.toNat (List.getD x_9.2 (x_9.1 - 1).toNat (0 : Int))) (0 : Int) ∧ List.getD x_1 (Int.toNat (List.getD x_9.2 (x_9.1 - 1).toNat (0 : Int))) 0 ≤ (9223372036854775807 : Int)) (chk ((0 : Int) ≤ List.getD x_9.2 (Int.toNat x_9.1) (0 : Int) ∧ List.getD x_9.2 (Int.toNat x_9.1) (0 : Int) < (↑(List.length x_1) : Int)) (chk ((0 : Int) ≤ List.getD x_1 (Int.toNat (List.getD x_9.2 (Int.toNat x_9.1) (0 : Int))) (0 : Int) ∧ List.getD x_1 (Int.toNat (List.getD x_9.2 (Int.toNat x_9.1) (0 : Int))) 0 ≤ (9223372036854775807 : Int)) (chk (InR (List.getD x_1 (Int.toNat (List.getD x_9.2 (x_9.1 - 1).toNat (0 : Int))) (0 : Int) % (27720 : Int) - List.getD x_1 (Int.toNat (List.getD x_9.2 (Int.toNat x_9.1) (0 : Int))) (0 : Int) % (27720 : Int))) (brk (decide (List.getD x_1 (Int.toNat (List.getD x_9.2 (x_9.1 - 1).toNat (0 : Int))) (0 : Int) % (27720 : Int) - List.getD x_1 (Int.toNat (List.getD x_9.2 (Int.toNat x_9.1) (0 : Int))) (0 : Int) % (27720 : Int) < (0 : Int))) (chk (InR (x_9.1 - 1)) (chk (InR (x_9.1 - 1)) (chk (0 ≤ x_9.1 - 1 ∧ x_9.1 - 1 < (↑(List.length x_9.2) : Int)) (chk (0 ≤ x_9.1 ∧ x_9.1 < (↑(List.length x_9.2) : Int)) (chk (0 ≤ x_9.1 ∧ x_9.1 < (↑(List.length x_9.2) : Int)) (chk (0 ≤ x_9.1 - 1 ∧ x_9.1 - 1 < (↑(List.set x_9.2 (Int.toNat x_9.1) (List.getD x_9.2 (x_9.1 - 1).toNat (0 : Int))).length : Int)) (chk (InR (x_9.1 - 1)) (x_10 ((x_9.1 - 1, (List.set x_9.2 (Int.toNat x_9.1) (List.getD x_9.2 (x_9.1 - 1).toNat (0 : Int))).set (x_9.1 - 1).toNat (List.getD x_9.2 (Int.toNat x_9.1) (0 : Int)))))))))))) (chk (InR (x_7.1 + 1)) (x_8 ((x_7.1 + 1, x_9.2))))))))))))) (chk (InR (x_7.1 + 1)) (x_8 ((x_7.1 + 1, x_9.2))))) (F) (x_7)) (loopC (fun (x_9 : Int) => fun x_10 => brk (decide (x_9 < (↑(List.length x_3.2.2.1) : Int))) (none) (chk (0 ≤ (0 : Int) ∧ 0 ≤ x_3.1 ∧ x_3.1 ≤ (↑(List.length x_7.2) : Int)) (loopC (fun (x_11 : (Int) × (List (Int))) => fun x_12 => brk (decide (x_11.1 < x_3.1 - 0)) (chk (0 ≤ x_11.1 ∧ x_11.1 < x_3.1 - 0) (chk ((0 : Int) ≤ List.getD x_7.2 ((0 : Int) + x_11.1).toNat (0 : Int) ∧ List.getD x_7.2 ((0 : Int) + x_11.1).toNat (0 : Int) < (↑(List.length x_11.2) : Int)) (chk (InR (List.getD x_11.2 (Int.toNat (List.getD x_7.2 ((0 : Int) + x_11.1).toNat (0 : Int))) (0 : Int) + (1 : Int))) (chk ((0 : Int) ≤ List.getD x_7.2 ((0 : Int) + x_11.1).toNat (0 : Int) ∧ List.getD x_7.2 ((0 : Int) + x_11.1).toNat (0 : Int) < (↑(List.length x_11.2) : Int)) (chk (InR (x_11.1 + 1)) (x_12 ((x_11.1 + 1, List.set x_11.2 (Int.toNat (List.getD x_7.2 ((0 : Int) + x_11.1).toNat (0 : Int))) (List.getD x_11.2 (Int.toNat (List.getD x_7.2 ((0 : Int) + x_11.1).toNat (0 : Int))) (0 : Int) + (1 : Int)))))))))) (some ((x_11.2, (0 : Int))))) (F) (((0 : Int), x_3.2.2.2))))) (F) ((20 : Int)))) (F) ((x_5.2 + 1, x_3.2.2.1))))) (F) (((20 : Int), (0 : Int))))) (F) ((x_2, (0 : Int), List.replicate (↑(List.length x_1) : Int).toNat (0 : Int), List.replicate (↑(List.length x_1) : Int).toNat (0 : Int)))))))))
def s32 (F : Nat) : CS E.G := ⟨32, [.sl 0], [.sl 0 3, .v 0 false []], fun x => fees_Share F x.1⟩
theorem c32 (F : Nat) : CSok E [] (s32 F) := mkC (cx := ⟨[s26 F, s53 F, s54 F], [(55, Try.f55), (71, Try.f71), (79, Try.f79), (80, Try.f80), (85, Try.f85), (86, Try.f86), (56, Try.f56)], F, [], []⟩) hf32 (by kernel_rfl) rfl (allC (c26 F) (allC (c53 F) (allC (c54 F) all0))) ⟨(inlC hf55 en55 (inlC hf71 en71 (inlC hf79 en79 (inlC hf80 en80 (inlC hf85 en85 (inlC hf86 en86 (inlC hf56 en56 inl0))))))), all0⟩ (.c .n (.l ⟨[.i, .i, .l 0, .l 0], [128, 448, 80, 464, 112], [4, 1, 2, 3], [(96, .i IntKind.i64), (480, .i IntKind.i64)], [], [], [(4, 3, 0), (3, 3, 0)], 5⟩ (.c .n (.p (.p (.l ⟨[.i, .i], [0, 16, 32, 96], [1, 2, 4], [(128, .i IntKind.i64), (112, .i IntKind.i64)], [], [], [], 5⟩ (.c (.u 0 .n) (.p (.l ⟨[.i, .l 0], [0, 16, 32, 48], [1, 2, 4], [(128, .i IntKind.i64)], [], [], [(4, 3, 0)], 5⟩ (.c (.l ⟨[.i, .l 0], [0, 16, 32, 128, 48], [1, 2, 4], [(144, .i IntKind.i64)], [], [], [(4, 3, 0)], 5⟩ (.s (.p .n) .n)) (.l ⟨[.i], [0, 16, 32], [1, 2, 4], [(96, .i IntKind.i64)], [], [], [], 5⟩ (.c (.u 0 .n) (.l ⟨[.i, .l 0], [896, 912, 112], [4, 3], [(928, .i IntKind.i64)], [], [], [(3, 3, 0)], 5⟩ .n))))))))))))) rfl (by kernel_rfl)
theorem hf72 : HF 72 Try.f72 := hK (by kernel_rfl)
def fees_claimed_1 (F : Nat) (a0 : Int) : Option (Bool) :=
 bnd (fees_within F a0 (0 : Int) (1000000000000 : Int)) (fun (x : Bool) => some (!x))
def s72 (F : Nat) : CS E.G := ⟨72, [.v 0 false], [.v 1 false []], fun x => fees_claimed_1 F x.1⟩
theorem c72 (F : Nat) : CSok E [] (s72 F) := mkC (cx := ⟨[s43 F], [], F, [], []⟩) hf72 (by kernel_rfl) rfl (allC (c43 F) all0) ⟨inl0, all0⟩ .n rfl (by kernel_rfl)
theorem hf57 : HF 57 Try.f57 := hK (by kernel_rfl)
def fees_claimed (F : Nat) (a0 : List Int) (a1 : Int) : Option (Int) :=
 bnd (fees_within F (↑a0.length : Int) (1 : Int) (40 : Int)) (fun (x : Bool) => brk (!x) (some ((2 : Int))) (join (F) (fun (x_1 : Int) => bnd (brk (!decide (x_1 ≥ (0 : Int))) (fees_within F a1 (0 : Int) (1000000000000 : Int)) (some false)) (fun (x_2 : Bool) => brk (decide (x_1 ≥ (0 : Int)) || !x_2) (some ((6 : Int))) (some ((0 : Int))))) (fun x_1 => loopC (fun (x_2 : Int) => fun x_3 => brk (decide (x_2 < (↑a0.length : Int))) (chk (0 ≤ x_2 ∧ x_2 < (↑a0.length : Int)) (bnd (fees_claimed_1 F (a0.getD (Int.toNat x_2) 0)) (fun (x_4 : Bool) => brk (x_4) (x_1 (x_2)) (chk (InR (x_2 + 1)) (x_3 (x_2 + 1)))))) (x_1 ((-1 : Int)))) (F) ((0 : Int)))))
def s57 (F : Nat) : CS E.G := ⟨57, [.sl 0, .v 0 false], [.v 0 false []], fun x => fees_claimed F x.1 x.2.1⟩
theorem c57 (F : Nat) : CSok E [] (s57 F) := mkC (cx := ⟨[s43 F, s72 F], [(62, Try.f62), (75, Try.f75)], F, [], []⟩) hf57 (by kernel_rfl) rfl (allC (c43 F) (allC (c72 F) all0)) ⟨(inlC hf62 en62 (inlC hf75 en75 inl0)), all0⟩ (.c .n (.p (.w ⟨[.i], [], [0], [(0, .i IntKind.i64)], [], [], [], 1⟩ (.l ⟨[.i], [0, 16, 112], [0], [(128, .i IntKind.i64)], [], [], [], 1⟩ (.c .n .n)) .n))) rfl (by kernel_rfl)
theorem hf33 : HF 33 Try.f33 := hK (by kernel_rfl)
def fees_Awards (F : Nat) (a0 : List Int) (a1 : Int) : Option ((List Int) × Int) :=
 bnd (fees_claimed F a0 a1) (fun (x : Int) => brk (x != (0 : Int)) (some (([], x))) (bnd (fees_awards F a0 a1) (fun (x_1 : List (Int)) => some ((x_1, (0 : Int))))))
def s33 (F : Nat) : CS E.G := ⟨33, [.sl 0, .v 0 false], [.sl 0 3, .v 0 false []], fun x => fees_Awards F x.1 x.2.1⟩
theorem c33 (F : Nat) : CSok E [] (s33 F) := mkC (cx := ⟨[s57 F, s58 F], [], F, [], []⟩) hf33 (by kernel_rfl) rfl (allC (c57 F) (allC (c58 F) all0)) ⟨inl0, all0⟩ .n rfl (by kernel_rfl)
theorem hf34 : HF 34 Try.f34 := hK (by kernel_rfl)
def slices_Equal_api_Ratio (F : Nat) (a0 : List Ratio) (a1 : List Ratio) : Option (Bool) :=
 brk ((↑a0.length : Int) != (↑a1.length : Int)) (some (false)) (loopC (fun (x : Int) => fun x_1 => brk (decide (x < (↑a0.length : Int))) (chk (0 ≤ x ∧ x < (↑a0.length : Int)) (chk (0 ≤ x ∧ x < (↑a1.length : Int)) (brk (!((a0.getD (Int.toNat x) (Ratio.mk 0 0)).N == (a1.getD (Int.toNat x) (Ratio.mk 0 0)).N && ((a0.getD (Int.toNat x) (Ratio.mk 0 0)).D == (a1.getD (Int.toNat x) (Ratio.mk 0 0)).D && true))) (some (false)) (chk (InR (x + 1)) (x_1 (x + 1)))))) (some (true))) (F) ((0 : Int)))
def s34 (F : Nat) : CS E.G := ⟨34, [.sl 21, .sl 21], [.v 1 false []], fun x => slices_Equal_api_Ratio F x.1 x.2.1⟩
theorem c34 (F : Nat) : CSok E [] (s34 F) := mkC (cx := ⟨[], [], F, [], []⟩) hf34 (by kernel_rfl) rfl all0 ⟨inl0, all0⟩ (.c .n (.l ⟨[.i], [0, 16, 192], [0, 1], [(208, .i IntKind.i64)], [], [], [], 2⟩ (.c .n .n))) rfl (by kernel_rfl)
theorem hf35 : HF 35 Try.f35 := hK (by kernel_rfl)
def slices_Equal_int (F : Nat) (a0 : List Int) (a1 : List Int) : Option (Bool) :=
 brk ((↑a0.length : Int) != (↑a1.length : Int)) (some (false)) (loopC (fun (x : Int) => fun x_1 => brk (decide (x < (↑a0.length : Int))) (chk (0 ≤ x ∧ x < (↑a0.length : Int)) (chk (0 ≤ x ∧ x < (↑a1.length : Int)) (brk (a0.getD (Int.toNat x) 0 != a1.getD (Int.toNat x) 0) (some (false)) (chk (InR (x + 1)) (x_1 (x + 1)))))) (some (true))) (F) ((0 : Int)))
def s35 (F : Nat) : CS E.G := ⟨35, [.sl 0, .sl 0], [.v 1 false []], fun x => slices_Equal_int F x.1 x.2.1⟩
theorem c35 (F : Nat) : CSok E [] (s35 F) := mkC (cx := ⟨[], [], F, [], []⟩) hf35 (by kernel_rfl) rfl all0 ⟨inl0, all0⟩ (.c .n (.l ⟨[.i], [0, 16, 192], [0, 1], [(208, .i IntKind.i64)], [], [], [], 2⟩ (.c .n .n))) rfl (by kernel_rfl)
theorem hf8 : HF 8 Try.f8 := hK (by kernel_rfl)
def law12_awake (F : Nat) : Option (Bool) :=
 bnd (law12_Example F) (fun (x : Tariff) => bnd (fees_Dues F x (3 : Int) (5000 : Int)) (fun (x_1 : (Int) × (Int)) => bnd (law12_Example F) (fun (x_2 : Tariff) => bnd (fees_Bill F x_2 (Voyage.mk 0 3 5000 123 0 0 0) (3 : Int)) (fun (x_3 : (Account) × (Int)) => bnd (fees_Exact F [(10 : Int), (10 : Int), (11 : Int)]) (fun (x_4 : (List (Ratio)) × (Int)) => bnd (fees_Share F [(90 : Int), (30 : Int), (60 : Int)]) (fun (x_5 : (List (Int)) × (Int)) => bnd (fees_Awards F [(30 : Int), (10 : Int), (50 : Int)] (61 : Int)) (fun (x_6 : (List (Int)) × (Int)) => bnd (fees_Month F (State.mk [(61 : Int)] [[(30 : Int), (10 : Int), (50 : Int)]]) [(9 : Int)] [[(0 : Int), (5 : Int), (0 : Int)]] (10 : Int)) (fun (x_7 : (State) × ((List (List (Int))) × (Int))) => brk (x_1.2 != (0 : Int) || x_3.2 != (0 : Int) || x_4.2 != (0 : Int) || x_5.2 != (0 : Int) || x_6.2 != (0 : Int) || x_7.2.2 != (0 : Int) || x_1.1 != (128000 : Int) || !(x_3.1.Lines.a0 == (0 : Int) && (x_3.1.Lines.a1 == (431 : Int) && (x_3.1.Lines.a2 == (0 : Int) && (x_3.1.Lines.a3 == (0 : Int) && (x_3.1.Lines.a4 == (0 : Int) && true)))) && (x_3.1.Sum == (431 : Int) && true)) || (↑x_7.1.Owed.length : Int) != (1 : Int) || (↑(List.length x_7.2.1) : Int) != (1 : Int)) (some (false)) (bnd (slices_Equal_api_Ratio F x_4.1 [Ratio.mk (10 : Int) (3 : Int), Ratio.mk (10 : Int) (3 : Int), Ratio.mk (13 : Int) (3 : Int)]) (fun (x_8 : Bool) => brk (x_8) (bnd (slices_Equal_int F x_5.1 [(55 : Int), (10 : Int), (25 : Int)]) (fun (x_9 : Bool) => brk (x_9) (bnd (slices_Equal_int F x_6.1 [(26 : Int), (10 : Int), (25 : Int)]) (fun (x_10 : Bool) => brk (x_10) (bnd (slices_Equal_int F x_7.1.Deposits [(0 : Int)]) (fun (x_11 : Bool) => brk (x_11) (chk (0 ≤ (0 : Int) ∧ (0 : Int) < (↑x_7.1.Owed.length : Int)) (bnd (slices_Equal_int F (x_7.1.Owed.getD (Int.toNat (0 : Int)) []) [(6 : Int), (0 : Int), (28 : Int)]) (fun (x_12 : Bool) => brk (x_12) (chk (0 ≤ (0 : Int) ∧ (0 : Int) < (↑(List.length x_7.2.1) : Int)) (bnd (slices_Equal_int F (List.getD x_7.2.1 (Int.toNat (0 : Int)) []) [(27 : Int), (16 : Int), (27 : Int)]) (fun (x_13 : Bool) => some (x_13)))) (some (false))))) (some (false)))) (some (false)))) (some (false)))) (some (false))))))))))))
def s8 (F : Nat) : CS E.G := ⟨8, [], [.v 1 false []], fun x => law12_awake F⟩
theorem c8 (F : Nat) : CSok E [] (s8 F) := mkC (cx := ⟨[s15 F, s25 F, s29 F, s30 F, s31 F, s32 F, s33 F, s34 F, s35 F], [], F, [], []⟩) hf8 (by kernel_rfl) rfl (allC (c15 F) (allC (c25 F) (allC (c29 F) (allC (c30 F) (allC (c31 F) (allC (c32 F) (allC (c33 F) (allC (c34 F) (allC (c35 F) all0))))))))) ⟨inl0, all0⟩ (.c .n (.s (.s (.s (.s (.s .n .n) .n) .n) .n) .n)) rfl (by kernel_rfl)
theorem hf47 : HF 47 Try.f47 := hK (by kernel_rfl)
theorem en47 : Proofs.Enters Try.prog 47 := mkE hf47 (by kernel_rfl) rfl
theorem hf20 : HF 20 Try.f20 := hK (by kernel_rfl)
theorem en20 : Proofs.Enters Try.prog 20 := mkE hf20 (by kernel_rfl) rfl
theorem hf19 : HF 19 Try.f19 := hK (by kernel_rfl)
def law12_Made (F : Nat) (a0 : List Int) : Option (Tariff) :=
 join (F) (fun (x : (Int) × (Int)) => chk (InR ((100 : Int) * x.1)) (join (F) (fun (x_1 : (Int) × (Int)) => chk (InR ((1 : Int) + x_1.1)) (join (F) (fun (x_2 : (Int) × (Int)) => join (F) (fun (x_3 : (Int) × (Int)) => chk (InR ((100 : Int) * x_3.1)) (join (F) (fun (x_4 : (Int) × (Int)) => chk (InR ((100 : Int) * x_4.1)) (join (F) (fun (x_5 : (Int) × (Int)) => chk (InR ((100 : Int) * x_5.1)) (join (F) (fun (x_6 : (Int) × (Int)) => chk (InR ((5000 : Int) * x_6.1)) (chk (InR ((100 : Int) * x.1 + (5000 : Int) * x_6.1)) (loopC (fun (x_7 : (Int) × ((Int) × ((Int) × ((Int) × ((Int) × ((Int) × ((Int) × ((Int) × ((Int) × (Int)))))))))) => fun x_8 => brk (decide (x_7.2.1 < 7)) (chk (InR ((if (60 : Int) < x_7.1 then (60 : Int) else x_7.1) + 1)) (join (F) (fun (x_9 : (Int) × (Int)) => chk (InR (x_7.1 - x_9.1)) (chk (0 ≤ x_7.2.1 ∧ x_7.2.1 < (↑(7 : Nat) : Int)) (chk (InR (x_7.2.1 + 1)) (x_8 ((x_7.1 - x_9.1, x_7.2.1 + 1, if x_7.2.1 = (↑(Nat.succ (0 : Nat)).succ.succ.succ.succ.succ : Int) then x_7.1 - x_9.1 else x_7.2.2.1, if x_7.2.1 = (↑(Nat.succ (0 : Nat)).succ.succ.succ.succ : Int) then x_7.1 - x_9.1 else x_7.2.2.2.1, if x_7.2.1 = (↑(Nat.succ (0 : Nat)).succ.succ.succ : Int) then x_7.1 - x_9.1 else x_7.2.2.2.2.1, if x_7.2.1 = (↑(Nat.succ (0 : Nat)).succ.succ : Int) then x_7.1 - x_9.1 else x_7.2.2.2.2.2.1, if x_7.2.1 = (↑(Nat.succ (0 : Nat)).succ : Int) then x_7.1 - x_9.1 else x_7.2.2.2.2.2.2.1, if x_7.2.1 = (↑(Nat.succ (0 : Nat)) : Int) then x_7.1 - x_9.1 else x_7.2.2.2.2.2.2.2.1, if x_7.2.1 = (↑(0 : Nat) : Int) then x_7.1 - x_9.1 else x_7.2.2.2.2.2.2.2.2.1, x_9.2)))))) (fun x_9 => brk (decide (x_7.2.2.2.2.2.2.2.2.2 ≥ (↑a0.length : Int))) (x_9 (((0 : Int), x_7.2.2.2.2.2.2.2.2.2))) (chk (InR (x_7.2.2.2.2.2.2.2.2.2 + 1)) (chk (InR (x_7.2.2.2.2.2.2.2.2.2 + (1 : Int) - (1 : Int))) (chk (0 ≤ x_7.2.2.2.2.2.2.2.2.2 + (1 : Int) - (1 : Int) ∧ x_7.2.2.2.2.2.2.2.2.2 + (1 : Int) - (1 : Int) < (↑a0.length : Int)) (chk (InR (a0.getD (x_7.2.2.2.2.2.2.2.2.2 + (1 : Int) - (1 : Int)).toNat (0 : Int))) (chk ((0 ≤ a0.getD (x_7.2.2.2.2.2.2.2.2.2 + (1 : Int) - (1 : Int)).toNat (0 : Int) ∧ a0.getD (x_7.2.2.2.2.2.2.2.2.2 + (1 : Int) - (1 : Int)).toNat 0 ≤ (9223372036854775807 : Int)) ∧ (0 : Int) < (if (60 : Int) < x_7.1 then (60 : Int) else x_7.1) + 1) (x_9 ((a0.getD (x_7.2.2.2.2.2.2.2.2.2 + (1 : Int) - (1 : Int)).toNat (0 : Int) % ((if (60 : Int) < x_7.1 then (60 : Int) else x_7.1) + 1), x_7.2.2.2.2.2.2.2.2.2 + 1))))))))))) (join (F) (fun (x_9 : (Int) × (Int)) => loopC (fun (x_10 : (Int) × ((Int) × ((List (Band)) × (Int)))) => fun x_11 => brk (decide (x_10.1 < x_9.1)) (join (F) (fun (x_12 : (Int) × (Int)) => chk (InR ((100 : Int) * x_12.1)) (chk (InR ((1 : Int) + (100 : Int) * x_12.1)) (chk (InR (x_10.2.1 + ((1 : Int) + (100 : Int) * x_12.1))) (join (F) (fun (x_13 : (Int) × (Int)) => chk (InR ((4 : Int) * x_13.1)) (chk (List.length x_10.2.2.1 + [Band.mk (x_10.2.1 + ((1 : Int) + (100 : Int) * x_12.1)) ((4 : Int) * x_13.1)].length ≤ (1000000000 : Nat)) (chk (InR (x_10.1 + 1)) (x_11 ((x_10.1 + 1, x_10.2.1 + ((1 : Int) + (100 : Int) * x_12.1), x_10.2.2.1 ++ [Band.mk (x_10.2.1 + ((1 : Int) + (100 : Int) * x_12.1)) ((4 : Int) * x_13.1)], x_13.2)))))) (fun x_13 => brk (decide (x_12.2 ≥ (↑a0.length : Int))) (x_13 (((0 : Int), x_12.2))) (chk (InR (x_12.2 + 1)) (chk (InR (x_12.2 + (1 : Int) - (1 : Int))) (chk (0 ≤ x_12.2 + (1 : Int) - (1 : Int) ∧ x_12.2 + (1 : Int) - (1 : Int) < (↑a0.length : Int)) (chk (InR (a0.getD (x_12.2 + (1 : Int) - (1 : Int)).toNat (0 : Int))) (chk (0 ≤ a0.getD (x_12.2 + (1 : Int) - (1 : Int)).toNat (0 : Int) ∧ a0.getD (x_12.2 + (1 : Int) - (1 : Int)).toNat 0 ≤ (9223372036854775807 : Int)) (x_13 ((a0.getD (x_12.2 + (1 : Int) - (1 : Int)).toNat (0 : Int) % (251 : Int), x_12.2 + 1))))))))))))) (fun x_12 => brk (decide (x_10.2.2.2 ≥ (↑a0.length : Int))) (x_12 (((0 : Int), x_10.2.2.2))) (chk (InR (x_10.2.2.2 + 1)) (chk (InR (x_10.2.2.2 + (1 : Int) - (1 : Int))) (chk (0 ≤ x_10.2.2.2 + (1 : Int) - (1 : Int) ∧ x_10.2.2.2 + (1 : Int) - (1 : Int) < (↑a0.length : Int)) (chk (InR (a0.getD (x_10.2.2.2 + (1 : Int) - (1 : Int)).toNat (0 : Int))) (chk (0 ≤ a0.getD (x_10.2.2.2 + (1 : Int) - (1 : Int)).toNat (0 : Int) ∧ a0.getD (x_10.2.2.2 + (1 : Int) - (1 : Int)).toNat 0 ≤ (9223372036854775807 : Int)) (x_12 ((a0.getD (x_10.2.2.2 + (1 : Int) - (1 : Int)).toNat (0 : Int) % (256 : Int), x_10.2.2.2 + 1)))))))))) (join (F) (fun (x_12 : (Int) × (Int)) => chk (List.length x_10.2.2.1 + [Band.mk (500000 : Int) x_12.1].length ≤ (1000000000 : Nat)) (some (Tariff.mk (x_10.2.2.1 ++ [Band.mk (500000 : Int) x_12.1]) (A7ofInt.mk x_7.2.2.2.2.2.2.2.2.1 x_7.2.2.2.2.2.2.2.1 x_7.2.2.2.2.2.2.1 x_7.2.2.2.2.2.1 x_7.2.2.2.2.1 x_7.2.2.2.1 x_7.2.2.1) ((100 : Int) * x.1) ((100 : Int) * x.1 + (5000 : Int) * x_6.1) ((1 : Int) + x_1.1) x_2.1 ((100 : Int) * x_3.1) ((100 : Int) * x_4.1) ((100 : Int) * x_5.1)))) (fun x_12 => brk (decide (x_10.2.2.2 ≥ (↑a0.length : Int))) (x_12 (((0 : Int), x_10.2.2.2))) (chk (InR (x_10.2.2.2 + 1)) (chk (InR (x_10.2.2.2 + (1 : Int) - (1 : Int))) (chk (0 ≤ x_10.2.2.2 + (1 : Int) - (1 : Int) ∧ x_10.2.2.2 + (1 : Int) - (1 : Int) < (↑a0.length : Int)) (chk (InR (a0.getD (x_10.2.2.2 + (1 : Int) - (1 : Int)).toNat (0 : Int))) (chk (0 ≤ a0.getD (x_10.2.2.2 + (1 : Int) - (1 : Int)).toNat (0 : Int) ∧ a0.getD (x_10.2.2.2 + (1 : Int) - (1 : Int)).toNat 0 ≤ (9223372036854775807 : Int)) (x_12 ((a0.getD (x_10.2.2.2 + (1 : Int) - (1 : Int)).toNat (0 : Int) % (256 : Int), x_10.2.2.2 + 1))))))))))) (F) (((0 : Int), (0 : Int), [], x_9.2))) (fun x_9 => brk (decide (x_7.2.2.2.2.2.2.2.2.2 ≥ (↑a0.length : Int))) (x_9 (((0 : Int), x_7.2.2.2.2.2.2.2.2.2))) (chk (InR (x_7.2.2.2.2.2.2.2.2.2 + 1)) (chk (InR (x_7.2.2.2.2.2.2.2.2.2 + (1 : Int) - (1 : Int))) (chk (0 ≤ x_7.2.2.2.2.2.2.2.2.2 + (1 : Int) - (1 : Int) ∧ x_7.2.2.2.2.2.2.2.2.2 + (1 : Int) - (1 : Int) < (↑a0.length : Int)) (chk (InR (a0.getD (x_7.2.2.2.2.2.2.2.2.2 + (1 : Int) - (1 : Int)).toNat (0 : Int))) (chk (0 ≤ a0.getD (x_7.2.2.2.2.2.2.2.2.2 + (1 : Int) - (1 : Int)).toNat (0 : Int) ∧ a0.getD (x_7.2.2.2.2.2.2.2.2.2 + (1 : Int) - (1 : Int)).toNat 0 ≤ (9223372036854775807 : Int)) (x_9 ((a0.getD (x_7.2.2.2.2.2.2.2.2.2 + (1 : Int) - (1 : Int)).toNat (0 : Int) % (5 : Int), x_7.2.2.2.2.2.2.2.2.2 + 1))))))))))) (F) (((300 : Int), (0 : Int), (0 : Int), (0 : Int), (0 : Int), (0 : Int), (0 : Int), (0 : Int), (0 : Int), x_6.2))))) (fun x_6 => brk (decide (x_5.2 ≥ (↑a0.length : Int))) (x_6 (((0 : Int), x_5.2))) (chk (InR (x_5.2 + 1)) (chk (InR (x_5.2 + (1 : Int) - (1 : Int))) (chk (0 ≤ x_5.2 + (1 : Int) - (1 : Int) ∧ x_5.2 + (1 : Int) - (1 : Int) < (↑a0.length : Int)) (chk (InR (a0.getD (x_5.2 + (1 : Int) - (1 : Int)).toNat (0 : Int))) (chk (0 ≤ a0.getD (x_5.2 + (1 : Int) - (1 : Int)).toNat (0 : Int) ∧ a0.getD (x_5.2 + (1 : Int) - (1 : Int)).toNat 0 ≤ (9223372036854775807 : Int)) (x_6 ((a0.getD (x_5.2 + (1 : Int) - (1 : Int)).toNat (0 : Int) % (256 : Int), x_5.2 + 1))))))))))) (fun x_5 => brk (decide (x_4.2 ≥ (↑a0.length : Int))) (x_5 (((0 : Int), x_4.2))) (chk (InR (x_4.2 + 1)) (chk (InR (x_4.2 + (1 : Int) - (1 : Int))) (chk (0 ≤ x_4.2 + (1 : Int) - (1 : Int) ∧ x_4.2 + (1 : Int) - (1 : Int) < (↑a0.length : Int)) (chk (InR (a0.getD (x_4.2 + (1 : Int) - (1 : Int)).toNat (0 : Int))) (chk (0 ≤ a0.getD (x_4.2 + (1 : Int) - (1 : Int)).toNat (0 : Int) ∧ a0.getD (x_4.2 + (1 : Int) - (1 : Int)).toNat 0 ≤ (9223372036854775807 : Int)) (x_5 ((a0.getD (x_4.2 + (1 : Int) - (1 : Int)).toNat (0 : Int) % (256 : Int), x_4.2 + 1))))))))))) (fun x_4 => brk (decide (x_3.2 ≥ (↑a0.length : Int))) (x_4 (((0 : Int), x_3.2))) (chk (InR (x_3.2 + 1)) (chk (InR (x_3.2 + (1 : Int) - (1 : Int))) (chk (0 ≤ x_3.2 + (1 : Int) - (1 : Int) ∧ x_3.2 + (1 : Int) - (1 : Int) < (↑a0.length : Int)) (chk (InR (a0.getD (x_3.2 + (1 : Int) - (1 : Int)).toNat (0 : Int))) (chk (0 ≤ a0.getD (x_3.2 + (1 : Int) - (1 : Int)).toNat (0 : Int) ∧ a0.getD (x_3.2 + (1 : Int) - (1 : Int)).toNat 0 ≤ (9223372036854775807 : Int)) (x_4 ((a0.getD (x_3.2 + (1 : Int) - (1 : Int)).toNat (0 : Int) % (256 : Int), x_3.2 + 1))))))))))) (fun x_3 => brk (decide (x_2.2 ≥ (↑a0.length : Int))) (x_3 (((0 : Int), x_2.2))) (chk (InR (x_2.2 + 1)) (chk (InR (x_2.2 + (1 : Int) - (1 : Int))) (chk (0 ≤ x_2.2 + (1 : Int) - (1 : Int) ∧ x_2.2 + (1 : Int) - (1 : Int) < (↑a0.length : Int)) (chk (InR (a0.getD (x_2.2 + (1 : Int) - (1 : Int)).toNat (0 : Int))) (chk (0 ≤ a0.getD (x_2.2 + (1 : Int) - (1 : Int)).toNat (0 : Int) ∧ a0.getD (x_2.2 + (1 : Int) - (1 : Int)).toNat 0 ≤ (9223372036854775807 : Int)) (x_3 ((a0.getD (x_2.2 + (1 : Int) - (1 : Int)).toNat (0 : Int) % (256 : Int), x_2.2 + 1)))))))))) (fun x_2 => brk (decide (x_1.2 ≥ (↑a0.length : Int))) (x_2 (((0 : Int), x_1.2))) (chk (InR (x_1.2 + 1)) (chk (InR (x_1.2 + (1 : Int) - (1 : Int))) (chk (0 ≤ x_1.2 + (1 : Int) - (1 : Int) ∧ x_1.2 + (1 : Int) - (1 : Int) < (↑a0.length : Int)) (chk (InR (a0.getD (x_1.2 + (1 : Int) - (1 : Int)).toNat (0 : Int))) (chk (0 ≤ a0.getD (x_1.2 + (1 : Int) - (1 : Int)).toNat (0 : Int) ∧ a0.getD (x_1.2 + (1 : Int) - (1 : Int)).toNat 0 ≤ (9223372036854775807 : Int)) (x_2 ((a0.getD (x_1.2 + (1 : Int) - (1 : Int)).toNat (0 : Int) % (256 : Int), x_1.2 + 1))))))))))) (fun x_1 => brk (decide (x.2 ≥ (↑a0.length : Int))) (x_1 (((0 : Int), x.2))) (chk (InR (x.2 + 1)) (chk (InR (x.2 + (1 : Int) - (1 : Int))) (chk (0 ≤ x.2 + (1 : Int) - (1 : Int) ∧ x.2 + (1 : Int) - (1 : Int) < (↑a0.length : Int)) (chk (InR (a0.getD (x.2 + (1 : Int) - (1 : Int)).toNat (0 : Int))) (chk (0 ≤ a0.getD (x.2 + (1 : Int) - (1 : Int)).toNat (0 : Int) ∧ a0.getD (x.2 + (1 : Int) - (1 : Int)).toNat 0 ≤ (9223372036854775807 : Int)) (x_1 ((a0.getD (x.2 + (1 : Int) - (1 : Int)).toNat (0 : Int) % (5 : Int), x.2 + 1))))))))))) (fun x => brk (decide ((0 : Int) ≥ (↑a0.length : Int))) (x (((0 : Int), (0 : Int)))) (chk ((0 : Int) ≤ IntKind.i64.wrap (IntKind.i64.wrap ((0 : Int) + (1 : Int)) - 1) ∧ IntKind.i64.wrap (IntKind.i64.wrap ((0 : Int) + (1 : Int)) - 1) < (↑a0.length : Int)) (chk (InR (a0.getD (IntKind.i64.wrap (IntKind.i64.wrap ((0 : Int) + (1 : Int)) - 1)).toNat (0 : Int))) (chk (0 ≤ a0.getD (IntKind.i64.wrap (IntKind.i64.wrap ((0 : Int) + (1 : Int)) - 1)).toNat (0 : Int) ∧ a0.getD (IntKind.i64.wrap (IntKind.i64.wrap ((0 : Int) + (1 : Int)) - 1)).toNat 0 ≤ (9223372036854775807 : Int)) (x ((a0.getD (IntKind.i64.wrap (IntKind.i64.wrap ((0 : Int) + (1 : Int)) - 1)).toNat (0 : Int) % (256 : Int), IntKind.i64.wrap ((0 : Int) + (1 : Int)))))))))
def s19 (F : Nat) : CS E.G := ⟨19, [.sl 2], [.v 13 true [96]], fun x => law12_Made F x.1⟩
theorem c19 (F : Nat) : CSok E [] (s19 F) := mkC (cx := ⟨[], [(20, Try.f20), (47, Try.f47)], F, [], []⟩) hf19 (by kernel_rfl) rfl all0 ⟨(inlC hf20 en20 (inlC hf47 en47 inl0)), all0⟩ (.p (.w ⟨[.i, .i], [], [0, 3, 2], [(0, .i IntKind.i64)], [], [(3, 0, .i IntKind.i64)], [], 4⟩ .n (.w ⟨[.i, .i], [], [0, 3, 2], [(0, .i IntKind.i64)], [], [(3, 0, .i IntKind.i64)], [], 4⟩ .n (.w ⟨[.i, .i], [], [0, 3, 2], [(0, .i IntKind.i64)], [], [(3, 0, .i IntKind.i64)], [], 4⟩ .n (.w ⟨[.i, .i], [], [0, 3, 2], [(0, .i IntKind.i64)], [], [(3, 0, .i IntKind.i64)], [], 4⟩ .n (.w ⟨[.i, .i], [], [0, 3, 2], [(0, .i IntKind.i64)], [], [(3, 0, .i IntKind.i64)], [], 4⟩ .n (.w ⟨[.i, .i], [], [0, 3, 2], [(0, .i IntKind.i64)], [], [(3, 0, .i IntKind.i64)], [], 4⟩ .n (.w ⟨[.i, .i], [], [0, 3, 2], [(0, .i IntKind.i64)], [], [(3, 0, .i IntKind.i64)], [], 5⟩ .n (.l ⟨[.i, .i, .i, .i, .i, .i, .i, .i, .i, .i], [32, 64, 48], [1, 4, 3, 2, 0], [(80, .i IntKind.i64), (560, .i IntKind.i64)], [], [(4, 7, .i IntKind.i64), (4, 6, .i IntKind.i64), (4, 5, .i IntKind.i64), (4, 4, .i IntKind.i64), (4, 3, .i IntKind.i64), (4, 2, .i IntKind.i64), (4, 1, .i IntKind.i64), (3, 0, .i IntKind.i64)], [], 5⟩ (.c (.w ⟨[.i, .i], [], [0, 3, 2], [(0, .i IntKind.i64)], [], [(3, 0, .i IntKind.i64)], [], 5⟩ .n .n) (.w ⟨[.i, .i], [], [0, 3, 2], [(0, .i IntKind.i64)], [], [(3, 0, .i IntKind.i64)], [], 5⟩ .n (.l ⟨[.i, .i, .l 10, .i], [32, 64, 48, 816], [1, 4, 3, 2, 0], [(832, .i IntKind.i64), (112, .i IntKind.i64)], [], [(4, 0, .h 5 96 10), (3, 0, .i IntKind.i64)], [], 6⟩ (.c (.w ⟨[.i, .i], [], [0, 3, 2], [(0, .i IntKind.i64)], [], [(3, 0, .i IntKind.i64)], [], 6⟩ .n (.w ⟨[.i, .i], [], [0, 3, 2], [(0, .i IntKind.i64)], [], [(3, 0, .i IntKind.i64)], [], 6⟩ .n .n)) (.w ⟨[.i, .i], [], [0, 3, 2], [(0, .i IntKind.i64)], [], [(3, 0, .i IntKind.i64)], [], 6⟩ .n .n)))))))))))))) rfl (by kernel_rfl)
theorem hf21 : HF 21 Try.f21 := hK (by kernel_rfl)
theorem en21 : Proofs.Enters Try.prog 21 := mkE hf21 (by kernel_rfl) rfl
def slices_Clone_fees_Voyage (F : Nat) (a0 : List Voyage) : Option ((List Voyage)) :=
 chk ((0 : Nat) + a0.length ≤ (1000000000 : Nat)) (some ([] ++ a0))
def s21 (F : Nat) : CS E.G := ⟨21, [.sl 14], [.sl 14 56], fun x => slices_Clone_fees_Voyage F x.1⟩
def cx21 (F : Nat) : Ctx E := ⟨[], [], F, [], []⟩
def h21 : Hint := .n
theorem e21n (F : Nat) (c : Nat) : fnK (E := E) (cx21 F) Try.f21 [] [.nl] [.sl 14 56] .n (c, ()) = some ([]) := by kernel_rfl
theorem e21s (F : Nat) (a0 : List Voyage) : fnK (E := E) (cx21 F) Try.f21 [] [.sn 14] [.sl 14 56] h21 (a0, ()) = slices_Clone_fees_Voyage F a0 := by kernel_rfl
theorem c21 (F : Nat) : CSok E [] (s21 F) := ⟨en21, by
 have h0 := fn_sound (E := E) (gl := []) (cx := cx21 F) mix all0 ⟨inl0, all0⟩ keys0 rfl (fun _ h => nomatch h) hf21 (ps := [.nl]) (rs := [.sl 14 56]) (by decide) .n
 have h1 := fn_sound (E := E) (gl := []) (cx := cx21 F) mix all0 ⟨inl0, all0⟩ keys0 rfl (fun _ h => nomatch h) hf21 (ps := [.sn 14]) (rs := [.sl 14 56]) (by decide) h21
 rw [show fnK (E := E) (cx21 F) Try.f21 [] [.nl] [.sl 14 56] .n = (fun x : AT E.G.car [.nl] => some ([])) from funext fun x => e21n F x.1] at h0
 rw [show fnK (E := E) (cx21 F) Try.f21 [] [.sn 14] [.sl 14 56] h21 = (fun x : AT E.G.car [.sn 14] => slices_Clone_fees_Voyage F x.1) from funext fun x => e21s F x.1] at h1
 exact contract_nil (E := E) (t := 14) (rs := [.sl 14 56]) (f := slices_Clone_fees_Voyage F) (f0 := fun _ => some ([])) (f1 := slices_Clone_fees_Voyage F) h0 h1 (fun _ _ h => (show slices_Clone_fees_Voyage F [] = some [] by kernel_rfl).symm.trans h) (fun _ _ h => h)⟩
theorem hf64 : HF 64 Try.f64 := hK (by kernel_rfl)
theorem en64 : Proofs.Enters Try.prog 64 := mkE hf64 (by kernel_rfl) rfl
theorem hf23 : HF 23 Try.f23 := hK (by kernel_rfl)
def law12_FeesSeason_1 (F : Nat) (a0 : Voyage) (a1 : Voyage) : Option (Int) :=
 chk (InR (a0.Ship - a1.Ship)) (some (a0.Ship - a1.Ship))
def s23 (F : Nat) : CS E.G := ⟨23, [.v 14 true, .v 14 true], [.v 0 false []], fun x => law12_FeesSeason_1 F x.1 x.2.1⟩
theorem c23 (F : Nat) : CSok E [] (s23 F) := mkC (cx := ⟨[], [], F, [], []⟩) hf23 (by kernel_rfl) rfl all0 ⟨inl0, all0⟩ .n rfl (by kernel_rfl)
theorem hf84 : HF 84 Try.f84 := hK (by kernel_rfl)
theorem en84 : Proofs.Enters Try.prog 84 := mkE hf84 (by kernel_rfl) rfl
theorem hf76 : HF 76 Try.f76 := hK (by kernel_rfl)
theorem en76 : Proofs.Enters Try.prog 76 := mkE hf76 (by kernel_rfl) rfl
theorem hf65 : HF 65 Try.f65 := hK (by kernel_rfl)
theorem en65 : Proofs.Enters Try.prog 65 := mkE hf65 (by kernel_rfl) rfl
def symMR (F : Nat) : Nat → List Int → List Voyage → Option (List Voyage)
 | 0, _, _ => none
 | n + 1, [a1, a2, a3], a0 =>
 chk (InR (a2 - a1)) (brk (a2 - a1 == (1 : Int)) (loopC (fun (x : (Int) × (Int)) => fun x_1 => brk (decide (x.1 < x.2)) (chk (InR (x.1 + x.2)) (chk (0 ≤ (1 : Int) ∧ (1 : Int) ≤ (↑IntKind.u64.bits : Int)) (chk (InR ((IntKind.u64.wrap (x.1 + x.2)).fdiv ((2 : Int) ^ Int.toNat (1 : Int)))) (chk (0 ≤ (IntKind.u64.wrap (x.1 + x.2)).fdiv ((2 : Int) ^ Int.toNat (1 : Int)) ∧ (IntKind.u64.wrap (x.1 + x.2)).fdiv ((2 : Int) ^ Int.toNat (1 : Int)) < (↑a0.length : Int)) (chk (0 ≤ a1 ∧ a1 < (↑a0.length : Int)) (bnd (law12_FeesSeason_1 F (a0.getD ((IntKind.u64.wrap (x.1 + x.2)).fdiv ((2 : Int) ^ Int.toNat (1 : Int))).toNat (Voyage.mk 0 0 0 0 0 0 0)) (a0.getD a1.toNat (Voyage.mk 0 0 0 0 0 0 0))) (fun (x_2 : Int) => brk (decide (x_2 < 0)) (chk (InR ((IntKind.u64.wrap (x.1 + x.2)).fdiv ((2 : Int) ^ Int.toNat (1 : Int)) + 1)) (x_1 (((IntKind.u64.wrap (x.1 + x.2)).fdiv ((2 : Int) ^ Int.toNat (1 : Int)) + 1, x.2)))) (x_1 ((x.1, (IntKind.u64.wrap (x.1 + x.2)).fdiv ((2 : Int) ^ Int.toNat (1 : Int)))))))))))) (loopC (fun (x_2 : (Int) × (List (Voyage))) => fun x_3 => chk (InR (x.1 - 1)) (brk (decide (x_2.1 < x.1 - 1)) (chk (InR (x_2.1 + 1)) (chk (InR (x_2.1 + 1)) (chk (0 ≤ x_2.1 + 1 ∧ x_2.1 + 1 < (↑(List.length x_2.2) : Int)) (chk (0 ≤ x_2.1 ∧ x_2.1 < (↑(List.length x_2.2) : Int)) (chk (0 ≤ x_2.1 ∧ x_2.1 < (↑(List.length x_2.2) : Int)) (chk (0 ≤ x_2.1 + 1 ∧ x_2.1 + 1 < (↑(List.set x_2.2 (Int.toNat x_2.1) (List.getD x_2.2 (x_2.1 + 1).toNat (Voyage.mk 0 0 0 0 0 0 0))).length : Int)) (chk (InR (x_2.1 + 1)) (x_3 ((x_2.1 + 1, (List.set x_2.2 (Int.toNat x_2.1) (List.getD x_2.2 (x_2.1 + 1).toNat (Voyage.mk 0 0 0 0 0 0 0))).set (x_2.1 + 1).toNat (List.getD x_2.2 (Int.toNat x_2.1) (Voyage.mk 0 0 0 0 0 0 0)))))))))))) (some (x_2.2)))) (F) ((a1, a0)))) (F) ((a2, a3))) (chk (InR (a3 - a2)) (brk (a3 - a2 == (1 : Int)) (loopC (fun (x : (Int) × (Int)) => fun x_1 => brk (decide (x.1 < x.2)) (chk (InR (x.1 + x.2)) (chk (0 ≤ (1 : Int) ∧ (1 : Int) ≤ (↑IntKind.u64.bits : Int)) (chk (InR ((IntKind.u64.wrap (x.1 + x.2)).fdiv ((2 : Int) ^ Int.toNat (1 : Int)))) (chk (0 ≤ a2 ∧ a2 < (↑a0.length : Int)) (chk (0 ≤ (IntKind.u64.wrap (x.1 + x.2)).fdiv ((2 : Int) ^ Int.toNat (1 : Int)) ∧ (IntKind.u64.wrap (x.1 + x.2)).fdiv ((2 : Int) ^ Int.toNat (1 : Int)) < (↑a0.length : Int)) (bnd (law12_FeesSeason_1 F (a0.getD a2.toNat (Voyage.mk 0 0 0 0 0 0 0)) (a0.getD ((IntKind.u64.wrap (x.1 + x.2)).fdiv ((2 : Int) ^ Int.toNat (1 : Int))).toNat (Voyage.mk 0 0 0 0 0 0 0))) (fun (x_2 : Int) => brk (!decide (x_2 < 0)) (chk (InR ((IntKind.u64.wrap (x.1 + x.2)).fdiv ((2 : Int) ^ Int.toNat (1 : Int)) + 1)) (x_1 (((IntKind.u64.wrap (x.1 + x.2)).fdiv ((2 : Int) ^ Int.toNat (1 : Int)) + 1, x.2)))) (x_1 ((x.1, (IntKind.u64.wrap (x.1 + x.2)).fdiv ((2 : Int) ^ Int.toNat (1 : Int)))))))))))) (loopC (fun (x_2 : (Int) × (List (Voyage))) => fun x_3 => brk (decide (x_2.1 > x.1)) (chk (InR (x_2.1 - 1)) (chk (InR (x_2.1 - 1)) (chk (0 ≤ x_2.1 - 1 ∧ x_2.1 - 1 < (↑(List.length x_2.2) : Int)) (chk (0 ≤ x_2.1 ∧ x_2.1 < (↑(List.length x_2.2) : Int)) (chk (0 ≤ x_2.1 ∧ x_2.1 < (↑(List.length x_2.2) : Int)) (chk (0 ≤ x_2.1 - 1 ∧ x_2.1 - 1 < (↑(List.set x_2.2 (Int.toNat x_2.1) (List.getD x_2.2 (x_2.1 - 1).toNat (Voyage.mk 0 0 0 0 0 0 0))).length : Int)) (chk (InR (x_2.1 - 1)) (x_3 ((x_2.1 - 1, (List.set x_2.2 (Int.toNat x_2.1) (List.getD x_2.2 (x_2.1 - 1).toNat (Voyage.mk 0 0 0 0 0 0 0))).set (x_2.1 - 1).toNat (List.getD x_2.2 (Int.toNat x_2.1) (Voyage.mk 0 0 0 0 0 0 0)))))))))))) (some (x_2.2))) (F) ((a2, a0)))) (F) ((a1, a2))) (chk (InR (a1 + a3)) (chk (0 ≤ (1 : Int) ∧ (1 : Int) ≤ (↑IntKind.u64.bits : Int)) (chk (InR ((IntKind.u64.wrap (a1 + a3)).fdiv ((2 : Int) ^ Int.toNat (1 : Int)))) (chk (InR ((IntKind.u64.wrap (a1 + a3)).fdiv ((2 : Int) ^ Int.toNat (1 : Int)) + a2)) (join (F) (fun (x : (Int) × (Int)) => chk (InR ((IntKind.u64.wrap (a1 + a3)).fdiv ((2 : Int) ^ Int.toNat (1 : Int)) + a2 - 1)) (loopC (fun (x_1 : (Int) × (Int)) => fun x_2 => brk (decide (x_1.1 < x_1.2)) (chk (InR (x_1.1 + x_1.2)) (chk (0 ≤ (1 : Int) ∧ (1 : Int) ≤ (↑IntKind.u64.bits : Int)) (chk (InR ((IntKind.u64.wrap (x_1.1 + x_1.2)).fdiv ((2 : Int) ^ Int.toNat (1 : Int)))) (chk (InR ((IntKind.u64.wrap (a1 + a3)).fdiv ((2 : Int) ^ Int.toNat (1 : Int)) + a2 - (1 : Int) - (IntKind.u64.wrap (x_1.1 + x_1.2)).fdiv ((2 : Int) ^ Int.toNat (1 : Int)))) (chk (0 ≤ (IntKind.u64.wrap (a1 + a3)).fdiv ((2 : Int) ^ Int.toNat (1 : Int)) + a2 - (1 : Int) - (IntKind.u64.wrap (x_1.1 + x_1.2)).fdiv ((2 : Int) ^ Int.toNat (1 : Int)) ∧ (IntKind.u64.wrap (a1 + a3)).fdiv ((2 : Int) ^ Int.toNat (1 : Int)) + a2 - (1 : Int) - (IntKind.u64.wrap (x_1.1 + x_1.2)).fdiv ((2 : Int) ^ Int.toNat (1 : Int)) < (↑a0.length : Int)) (chk (0 ≤ (IntKind.u64.wrap (x_1.1 + x_1.2)).fdiv ((2 : Int) ^ Int.toNat (1 : Int)) ∧ (IntKind.u64.wrap (x_1.1 + x_1.2)).fdiv ((2 : Int) ^ Int.toNat (1 : Int)) < (↑a0.length : Int)) (bnd (law12_FeesSeason_1 F (a0.getD ((IntKind.u64.wrap (a1 + a3)).fdiv ((2 : Int) ^ Int.toNat (1 : Int)) + a2 - (1 : Int) - (IntKind.u64.wrap (x_1.1 + x_1.2)).fdiv ((2 : Int) ^ Int.toNat (1 : Int))).toNat (Voyage.mk 0 0 0 0 0 0 0)) (a0.getD ((IntKind.u64.wrap (x_1.1 + x_1.2)).fdiv ((2 : Int) ^ Int.toNat (1 : Int))).toNat (Voyage.mk 0 0 0 0 0 0 0))) (fun (x_3 : Int) => brk (!decide (x_3 < 0)) (chk (InR ((IntKind.u64.wrap (x_1.1 + x_1.2)).fdiv ((2 : Int) ^ Int.toNat (1 : Int)) + 1)) (x_2 (((IntKind.u64.wrap (x_1.1 + x_1.2)).fdiv ((2 : Int) ^ Int.toNat (1 : Int)) + 1, x_1.2)))) (x_2 ((x_1.1, (IntKind.u64.wrap (x_1.1 + x_1.2)).fdiv ((2 : Int) ^ Int.toNat (1 : Int))))))))))))) (chk (InR ((IntKind.u64.wrap (a1 + a3)).fdiv ((2 : Int) ^ Int.toNat (1 : Int)) + a2 - x_1.1)) (join (F) (fun (x_3 : List (Voyage)) => join (F) (fun (x_4 : List (Voyage)) => brk (decide ((IntKind.u64.wrap (a1 + a3)).fdiv ((2 : Int) ^ Int.toNat (1 : Int)) < (IntKind.u64.wrap (a1 + a3)).fdiv ((2 : Int) ^ Int.toNat (1 : Int)) + a2 - x_1.1) && decide ((IntKind.u64.wrap (a1 + a3)).fdiv ((2 : Int) ^ Int.toNat (1 : Int)) + a2 - x_1.1 < a3)) (bnd (symMR F n [(IntKind.u64.wrap (a1 + a3)).fdiv ((2 : Int) ^ Int.toNat (1 : Int)), (IntKind.u64.wrap (a1 + a3)).fdiv ((2 : Int) ^ Int.toNat (1 : Int)) + a2 - x_1.1, a3] x_4) (fun (x_5 : List (Voyage)) => some (x_5))) (some (x_4))) (fun x_4 => brk (decide (a1 < x_1.1) && decide (x_1.1 < (IntKind.u64.wrap (a1 + a3)).fdiv ((2 : Int) ^ Int.toNat (1 : Int)))) (bnd (symMR F n [a1, x_1.1, (IntKind.u64.wrap (a1 + a3)).fdiv ((2 : Int) ^ Int.toNat (1 : Int))] x_3) (fun (x_5 : List (Voyage)) => x_4 (x_5))) (x_4 (x_3)))) (fun x_3 => brk (decide (x_1.1 < a2) && decide (a2 < (IntKind.u64.wrap (a1 + a3)).fdiv ((2 : Int) ^ Int.toNat (1 : Int)) + a2 - x_1.1)) (chk (InR (a2 - x_1.1)) (chk (InR ((IntKind.u64.wrap (a1 + a3)).fdiv ((2 : Int) ^ Int.toNat (1 : Int)) + a2 - x_1.1 - a2)) (loopC (fun (x_4 : (Int) × ((Int) × (List (Voyage)))) => fun x_5 => brk (x_4.1 != x_4.2.1) (brk (decide (x_4.1 > x_4.2.1)) (chk (InR (a2 - x_4.1)) (loopC (fun (x_6 : (Int) × (List (Voyage))) => fun x_7 => brk (decide (x_6.1 < x_4.2.1)) (chk (InR (a2 - x_4.1 + x_6.1)) (chk (InR (a2 + x_6.1)) (chk (InR (a2 + x_6.1)) (chk (0 ≤ a2 + x_6.1 ∧ a2 + x_6.1 < (↑(List.length x_6.2) : Int)) (chk (InR (a2 - x_4.1 + x_6.1)) (chk (0 ≤ a2 - x_4.1 + x_6.1 ∧ a2 - x_4.1 + x_6.1 < (↑(List.length x_6.2) : Int)) (chk (0 ≤ a2 - x_4.1 + x_6.1 ∧ a2 - x_4.1 + x_6.1 < (↑(List.length x_6.2) : Int)) (chk (0 ≤ a2 + x_6.1 ∧ a2 + x_6.1 < (↑(List.set x_6.2 (a2 - x_4.1 + x_6.1).toNat (List.getD x_6.2 (a2 + x_6.1).toNat (Voyage.mk 0 0 0 0 0 0 0))).length : Int)) (chk (InR (x_6.1 + 1)) (x_7 ((x_6.1 + 1, (List.set x_6.2 (a2 - x_4.1 + x_6.1).toNat (List.getD x_6.2 (a2 + x_6.1).toNat (Voyage.mk 0 0 0 0 0 0 0))).set (a2 + x_6.1).toNat (List.getD x_6.2 (a2 - x_4.1 + x_6.1).toNat (Voyage.mk 0 0 0 0 0 0 0)))))))))))))) (chk (InR (x_4.1 - x_4.2.1)) (x_5 ((x_4.1 - x_4.2.1, x_4.2.1, x_6.2))))) (F) (((0 : Int), x_4.2.2)))) (chk (InR (a2 - x_4.1)) (chk (InR (a2 + x_4.2.1)) (chk (InR (a2 + x_4.2.1 - x_4.1)) (loopC (fun (x_6 : (Int) × (List (Voyage))) => fun x_7 => brk (decide (x_6.1 < x_4.1)) (chk (InR (a2 - x_4.1 + x_6.1)) (chk (InR (a2 + x_4.2.1 - x_4.1 + x_6.1)) (chk (InR (a2 + x_4.2.1 - x_4.1 + x_6.1)) (chk (0 ≤ a2 + x_4.2.1 - x_4.1 + x_6.1 ∧ a2 + x_4.2.1 - x_4.1 + x_6.1 < (↑(List.length x_6.2) : Int)) (chk (InR (a2 - x_4.1 + x_6.1)) (chk (0 ≤ a2 - x_4.1 + x_6.1 ∧ a2 - x_4.1 + x_6.1 < (↑(List.length x_6.2) : Int)) (chk (0 ≤ a2 - x_4.1 + x_6.1 ∧ a2 - x_4.1 + x_6.1 < (↑(List.length x_6.2) : Int)) (chk (0 ≤ a2 + x_4.2.1 - x_4.1 + x_6.1 ∧ a2 + x_4.2.1 - x_4.1 + x_6.1 < (↑(List.set x_6.2 (a2 - x_4.1 + x_6.1).toNat (List.getD x_6.2 (a2 + x_4.2.1 - x_4.1 + x_6.1).toNat (Voyage.mk 0 0 0 0 0 0 0))).length : Int)) (chk (InR (x_6.1 + 1)) (x_7 ((x_6.1 + 1, (List.set x_6.2 (a2 - x_4.1 + x_6.1).toNat (List.getD x_6.2 (a2 + x_4.2.1 - x_4.1 + x_6.1).toNat (Voyage.mk 0 0 0 0 0 0 0))).set (a2 + x_4.2.1 - x_4.1 + x_6.1).toNat (List.getD x_6.2 (a2 - x_4.1 + x_6.1).toNat (Voyage.mk 0 0 0 0 0 0 0)))))))))))))) (chk (InR (x_4.2.1 - x_4.1)) (x_5 ((x_4.1, x_4.2.1 - x_4.1, x_6.2))))) (F) (((0 : Int), x_4.2.2))))))) (chk (InR (a2 - x_4.1)) (loopC (fun (x_6 : (Int) × (List (Voyage))) => fun x_7 => brk (decide (x_6.1 < x_4.1)) (chk (InR (a2 - x_4.1 + x_6.1)) (chk (InR (a2 + x_6.1)) (chk (InR (a2 + x_6.1)) (chk (0 ≤ a2 + x_6.1 ∧ a2 + x_6.1 < (↑(List.length x_6.2) : Int)) (chk (InR (a2 - x_4.1 + x_6.1)) (chk (0 ≤ a2 - x_4.1 + x_6.1 ∧ a2 - x_4.1 + x_6.1 < (↑(List.length x_6.2) : Int)) (chk (0 ≤ a2 - x_4.1 + x_6.1 ∧ a2 - x_4.1 + x_6.1 < (↑(List.length x_6.2) : Int)) (chk (0 ≤ a2 + x_6.1 ∧ a2 + x_6.1 < (↑(List.set x_6.2 (a2 - x_4.1 + x_6.1).toNat (List.getD x_6.2 (a2 + x_6.1).toNat (Voyage.mk 0 0 0 0 0 0 0))).length : Int)) (chk (InR (x_6.1 + 1)) (x_7 ((x_6.1 + 1, (List.set x_6.2 (a2 - x_4.1 + x_6.1).toNat (List.getD x_6.2 (a2 + x_6.1).toNat (Voyage.mk 0 0 0 0 0 0 0))).set (a2 + x_6.1).toNat (List.getD x_6.2 (a2 - x_4.1 + x_6.1).toNat (Voyage.mk 0 0 0 0 0 0 0)))))))))))))) (x_3 (x_6.2))) (F) (((0 : Int), x_4.2.2))))) (F) ((a2 - x_1.1, (IntKind.u64.wrap (a1 + a3)).fdiv ((2 : Int) ^ Int.toNat (1 : Int)) + a2 - x_1.1 - a2, a0))))) (x_3 (a0)))))) (F) (x))) (fun x => brk (decide (a2 > (IntKind.u64.wrap (a1 + a3)).fdiv ((2 : Int) ^ Int.toNat (1 : Int)))) (chk (InR ((IntKind.u64.wrap (a1 + a3)).fdiv ((2 : Int) ^ Int.toNat (1 : Int)) + a2 - a3)) (x (((IntKind.u64.wrap (a1 + a3)).fdiv ((2 : Int) ^ Int.toNat (1 : Int)) + a2 - a3, (IntKind.u64.wrap (a1 + a3)).fdiv ((2 : Int) ^ Int.toNat (1 : Int)))))) (x ((a1, a2))))))))))))
 | _ + 1, _, _ => none
def symM (F : Nat) : List Int → List Voyage → Option (List Voyage) := symMR F F
def cx65 (F n : Nat) : Ctx E := ⟨[s23 F], [(76, Try.f76), (84, Try.f84)], F, [], [⟨65, 14, 23, symMR F n, false, 3, some 56⟩]⟩
def h65 : Hint := (.c (.l ⟨[.i, .i], [0, 16, 64], [0], [(160, .i IntKind.i64), (176, .i IntKind.i64)], [], [], [], 1⟩ (.c .n (.l ⟨[.i, .l 14], [0, 160], [0], [(208, .i IntKind.i64)], [], [], [(0, 56, 14)], 1⟩ .n))) (.c (.l ⟨[.i, .i], [0, 32, 64], [0], [(224, .i IntKind.i64), (240, .i IntKind.i64)], [], [], [], 1⟩ (.c .n (.l ⟨[.i, .l 14], [0, 224], [0], [(272, .i IntKind.i64)], [], [], [(0, 56, 14)], 1⟩ .n))) (.k (.k (.k (.j ⟨[.i, .i], [0, 16, 32, 64, 288, 48, 304], [0], [(320, .i IntKind.i64), (336, .i IntKind.i64)], [], [], [], 1⟩ .n (.l ⟨[.i, .i], [0, 16, 32, 64, 288, 352, 48, 304], [0], [(320, .i IntKind.i64), (336, .i IntKind.i64)], [], [], [], 1⟩ (.c .n (.k (.j ⟨[.l 14], [0, 16, 64, 384, 320, 288, 48], [0], [], [], [], [(0, 56, 14)], 1⟩ (.c (.p (.l ⟨[.i, .i, .l 14], [0, 32, 64], [0], [(160, .i IntKind.i64), (176, .i IntKind.i64)], [], [], [(0, 56, 14)], 1⟩ (.c (.c (.p (.l ⟨[.i, .l 14], [0, 16, 32, 48], [0], [(160, .i IntKind.i64)], [], [], [(0, 56, 14)], 1⟩ .n)) (.p (.l ⟨[.i, .l 14], [0, 16, 32, 48], [0], [(160, .i IntKind.i64)], [], [], [(0, 56, 14)], 1⟩ .n))) (.p (.l ⟨[.i, .l 14], [0, 16, 32, 48], [0], [(160, .i IntKind.i64)], [], [], [(0, 56, 14)], 1⟩ .n))))) .n) (.j ⟨[.l 14], [0, 64, 384, 288, 48], [0], [], [], [], [(0, 56, 14)], 1⟩ (.c (.p .n) .n) (.c (.p .n) .n))))))))))))
theorem e65 (F n : Nat) (a0 : List Voyage) (a1 a2 a3 : Int) : fnO (cx65 F n) Try.f65 [] 56 14 [.v 0 false, .v 0 false, .v 0 false, .fv 23] h65 a0 (a1, a2, a3, (), ()) = symMR F (n + 1) [a1, a2, a3] a0 := by kernel_rfl
theorem sok65R (F : Nat) : ∀ n, SrtOK E [] ⟨65, 14, 23, symMR F n, false, 3, some 56⟩
 | 0 => ⟨en65, fun _ A w hv ety is l l' _ _ _ _ _ _ h => (nomatch h), fun h => nomatch h⟩
 | n + 1 => ⟨en65, fun _ A w hv ety is l l' hl hety hgw hA hnA hrow hr => by
  have ih := sok65R F n
  obtain rfl : ety = 56 := by rcases hety with h | h <;> cases h; rfl
  match is, hl, hr with
  | [a1, a2, a3], _, hr =>
   exact fnO_sound (E := E) (gl := []) (cx := cx65 F n) mix (allC (c23 F) all0) ⟨(inlC hf76 en76 (inlC hf84 en84 inl0)), (allC ih all0)⟩ keys0 rfl (fun _ h => nomatch h) hf65 (ety := 56) (t := 14) (ps := [.v 0 false, .v 0 false, .v 0 false, .fv 23]) (by decide) rfl h65 (vs := [.int .i64 a1, .int .i64 a2, .int .i64 a3, .func (.func 23) #[] #[]]) (xs := (a1, a2, a3, (), ())) hgw hA hnA hrow ⟨.int .i64 a1, _, rfl, ⟨[.int .i64 a1], ⟨_, _, rfl, .v _, rfl⟩, rfl⟩, ⟨.int .i64 a2, _, rfl, ⟨[.int .i64 a2], ⟨_, _, rfl, .v _, rfl⟩, rfl⟩, ⟨.int .i64 a3, _, rfl, ⟨[.int .i64 a3], ⟨_, _, rfl, .v _, rfl⟩, rfl⟩, ⟨.func (.func 23) #[] #[], _, rfl, rfl, rfl⟩⟩⟩⟩ ((e65 F n l a1 a2 a3).trans hr), fun h => nomatch h⟩
theorem sok65 (F : Nat) : SrtOK E [] ⟨65, 14, 23, symM F, false, 3, some 56⟩ := sok65R F F
theorem hf48 : HF 48 Try.f48 := hK (by kernel_rfl)
theorem en48 : Proofs.Enters Try.prog 48 := mkE hf48 (by kernel_rfl) rfl
theorem hf22 : HF 22 Try.f22 := hK (by kernel_rfl)
theorem en22 : Proofs.Enters Try.prog 22 := mkE hf22 (by kernel_rfl) rfl
theorem hf24 : HF 24 Try.f24 := hK (by kernel_rfl)
def fees_Season (F : Nat) (a0 : Tariff) (a1 : List Voyage) : Option ((List Account) × Int × Int) :=
 bnd (fees_Check F a0) (fun (x : Int) => brk (x != (0 : Int)) (some (([], (0 : Int), x))) (brk (decide ((↑a1.length : Int) > (500 : Int))) (some (([], (0 : Int), (2 : Int)))) (loopC (fun (x_1 : (Int) × ((List (Account)) × ((Int) × (List ((Int) × (Int)))))) => fun x_2 => brk (decide (x_1.2.2.1 < (↑a1.length : Int))) (join (F) (fun (x_3 : (Int) × ((List (Account)) × (List ((Int) × (Int))))) => chk (InR (x_1.2.2.1 + 1)) (x_2 ((x_3.1, x_3.2.1, x_1.2.2.1 + 1, x_3.2.2)))) (fun x_3 => chk (0 ≤ x_1.2.2.1 ∧ x_1.2.2.1 < (↑a1.length : Int)) (bnd (fees_Voyage_right F (a1.getD (Int.toNat x_1.2.2.1) (Voyage.mk 0 0 0 0 0 0 0))) (fun (x_4 : Bool) => brk (!x_4) (some (([], (0 : Int), (1 : Int)))) (bnd (fees_Tariff_bill F a0 (a1.getD (Int.toNat x_1.2.2.1) (Voyage.mk 0 0 0 0 0 0 0)) (getM x_1.2.2.2 (a1.getD (Int.toNat x_1.2.2.1) (Voyage.mk 0 0 0 0 0 0 0)).Ship)) (fun (x_5 : Account) => chk (InR (getM x_1.2.2.2 (a1.getD (Int.toNat x_1.2.2.1) (Voyage.mk 0 0 0 0 0 0 0)).Ship + 1)) (chk (List.length x_1.2.1 + [x_5].length ≤ (1000000000 : Nat)) (brk (!(x_5.Lines.a0 == (0 : Int) && (x_5.Lines.a1 == (0 : Int) && (x_5.Lines.a2 == (0 : Int) && (x_5.Lines.a3 == (0 : Int) && (x_5.Lines.a4 == (0 : Int) && true)))) && (x_5.Sum == (0 : Int) && true))) (chk (InR (x_1.1 + x_5.Sum)) (x_3 ((x_1.1 + x_5.Sum, x_1.2.1 ++ [x_5], setM x_1.2.2.2 (a1.getD (Int.toNat x_1.2.2.1) (Voyage.mk 0 0 0 0 0 0 0)).Ship (getM x_1.2.2.2 (a1.getD (Int.toNat x_1.2.2.1) (Voyage.mk 0 0 0 0 0 0 0)).Ship + 1))))) (x_3 ((x_1.1, x_1.2.1 ++ [x_5], setM x_1.2.2.2 (a1.getD (Int.toNat x_1.2.2.1) (Voyage.mk 0 0 0 0 0 0 0)).Ship (getM x_1.2.2.2 (a1.getD (Int.toNat x_1.2.2.1) (Voyage.mk 0 0 0 0 0 0 0)).Ship + 1)))))))))))) (some ((x_1.2.1, x_1.1, (0 : Int))))) (F) (((0 : Int), [], (0 : Int), [])))))
def s24 (F : Nat) : CS E.G := ⟨24, [.v 13 true, .sl 14], [.sl 17 66, .v 0 false [], .v 0 false []], fun x => fees_Season F x.1 x.2.1⟩
theorem c24 (F : Nat) : CSok E [] (s24 F) := mkC (cx := ⟨[s49 F, s50 F, s51 F], [], F, [], []⟩) hf24 (by kernel_rfl) rfl (allC (c49 F) (allC (c50 F) (allC (c51 F) all0))) ⟨inl0, all0⟩ (.c .n (.c .n (.l ⟨[.i, .l 17, .i, .im], [32, 128, 384, 368], [2, 3, 1, 0], [(160, .i IntKind.i64), (144, .h 4 66 17), (400, .i IntKind.i64)], [], [], [(3, 0, 1000001)], 5⟩ (.c (.j ⟨[.i, .l 17, .im], [32, 128, 384, 400, 368], [2, 3, 1, 0], [(160, .i IntKind.i64), (144, .h 5 66 17)], [], [], [(3, 0, 1000001)], 6⟩ (.c .n .n) .n) .n)))) rfl (by kernel_rfl)
theorem hf4 : HF 4 Try.f4 := hK (by kernel_rfl)
def law12_FeesSeason (F : Nat) (a0 : List Int) (a1 : List Int) : Option (Bool) :=
 bnd (law12_Made F a0) (fun (x : Tariff) => join (F) (fun (x_1 : (Int) × (Int)) => loopC (fun (x_2 : (List (Voyage)) × ((Int) × (Int))) => fun x_3 => brk (decide (x_2.2.1 < x_1.1)) (join (F) (fun (x_4 : (Int) × (Int)) => chk (InR (x_4.1 + 1)) (chk (InR ((900 : Int) * (x_4.1 + 1))) (join (F) (fun (x_5 : (Int) × (Int)) => join (F) (fun (x_6 : (Int) × (Int)) => join (F) (fun (x_7 : (Int) × (Int)) => join (F) (fun (x_8 : (Int) × (Int)) => chk (List.length x_2.1 + [Voyage.mk x_4.1 x_4.1 ((900 : Int) * (x_4.1 + 1)) x_5.1 x_6.1 x_7.1 x_8.1].length ≤ (1000000000 : Nat)) (chk (InR (x_2.2.1 + 1)) (x_3 ((x_2.1 ++ [Voyage.mk x_4.1 x_4.1 ((900 : Int) * (x_4.1 + 1)) x_5.1 x_6.1 x_7.1 x_8.1], x_2.2.1 + 1, x_8.2))))) (fun x_8 => brk (decide (x_7.2 ≥ (↑a1.length : Int))) (x_8 (((0 : Int), x_7.2))) (chk (InR (x_7.2 + 1)) (chk (InR (x_7.2 + (1 : Int) - (1 : Int))) (chk (0 ≤ x_7.2 + (1 : Int) - (1 : Int) ∧ x_7.2 + (1 : Int) - (1 : Int) < (↑a1.length : Int)) (chk (InR (a1.getD (x_7.2 + (1 : Int) - (1 : Int)).toNat (0 : Int))) (chk (0 ≤ a1.getD (x_7.2 + (1 : Int) - (1 : Int)).toNat (0 : Int) ∧ a1.getD (x_7.2 + (1 : Int) - (1 : Int)).toNat 0 ≤ (9223372036854775807 : Int)) (x_8 ((a1.getD (x_7.2 + (1 : Int) - (1 : Int)).toNat (0 : Int) % (9 : Int), x_7.2 + 1)))))))))) (fun x_7 => brk (decide (x_6.2 ≥ (↑a1.length : Int))) (x_7 (((0 : Int), x_6.2))) (chk (InR (x_6.2 + 1)) (chk (InR (x_6.2 + (1 : Int) - (1 : Int))) (chk (0 ≤ x_6.2 + (1 : Int) - (1 : Int) ∧ x_6.2 + (1 : Int) - (1 : Int) < (↑a1.length : Int)) (chk (InR (a1.getD (x_6.2 + (1 : Int) - (1 : Int)).toNat (0 : Int))) (chk (0 ≤ a1.getD (x_6.2 + (1 : Int) - (1 : Int)).toNat (0 : Int) ∧ a1.getD (x_6.2 + (1 : Int) - (1 : Int)).toNat 0 ≤ (9223372036854775807 : Int)) (x_7 ((a1.getD (x_6.2 + (1 : Int) - (1 : Int)).toNat (0 : Int) % (9 : Int), x_6.2 + 1)))))))))) (fun x_6 => brk (decide (x_5.2 ≥ (↑a1.length : Int))) (x_6 (((0 : Int), x_5.2))) (chk (InR (x_5.2 + 1)) (chk (InR (x_5.2 + (1 : Int) - (1 : Int))) (chk (0 ≤ x_5.2 + (1 : Int) - (1 : Int) ∧ x_5.2 + (1 : Int) - (1 : Int) < (↑a1.length : Int)) (chk (InR (a1.getD (x_5.2 + (1 : Int) - (1 : Int)).toNat (0 : Int))) (chk (0 ≤ a1.getD (x_5.2 + (1 : Int) - (1 : Int)).toNat (0 : Int) ∧ a1.getD (x_5.2 + (1 : Int) - (1 : Int)).toNat 0 ≤ (9223372036854775807 : Int)) (x_6 ((a1.getD (x_5.2 + (1 : Int) - (1 : Int)).toNat (0 : Int) % (20 : Int), x_5.2 + 1)))))))))) (fun x_5 => brk (decide (x_4.2 ≥ (↑a1.length : Int))) (x_5 (((0 : Int), x_4.2))) (chk (InR (x_4.2 + 1)) (chk (InR (x_4.2 + (1 : Int) - (1 : Int))) (chk (0 ≤ x_4.2 + (1 : Int) - (1 : Int) ∧ x_4.2 + (1 : Int) - (1 : Int) < (↑a1.length : Int)) (chk (InR (a1.getD (x_4.2 + (1 : Int) - (1 : Int)).toNat (0 : Int))) (chk (0 ≤ a1.getD (x_4.2 + (1 : Int) - (1 : Int)).toNat (0 : Int) ∧ a1.getD (x_4.2 + (1 : Int) - (1 : Int)).toNat 0 ≤ (9223372036854775807 : Int)) (x_5 ((a1.getD (x_4.2 + (1 : Int) - (1 : Int)).toNat (0 : Int) % (256 : Int), x_4.2 + 1)))))))))))) (fun x_4 => brk (decide (x_2.2.2 ≥ (↑a1.length : Int))) (x_4 (((0 : Int), x_2.2.2))) (chk (InR (x_2.2.2 + 1)) (chk (InR (x_2.2.2 + (1 : Int) - (1 : Int))) (chk (0 ≤ x_2.2.2 + (1 : Int) - (1 : Int) ∧ x_2.2.2 + (1 : Int) - (1 : Int) < (↑a1.length : Int)) (chk (InR (a1.getD (x_2.2.2 + (1 : Int) - (1 : Int)).toNat (0 : Int))) (chk (0 ≤ a1.getD (x_2.2.2 + (1 : Int) - (1 : Int)).toNat (0 : Int) ∧ a1.getD (x_2.2.2 + (1 : Int) - (1 : Int)).toNat 0 ≤ (9223372036854775807 : Int)) (x_4 ((a1.getD (x_2.2.2 + (1 : Int) - (1 : Int)).toNat (0 : Int) % (4 : Int), x_2.2.2 + 1)))))))))) (bnd (slices_Clone_fees_Voyage F x_2.1) (fun (x_4 : List (Voyage)) => loopC (fun (x_5 : (Int) × ((Int) × (List (Voyage)))) => fun x_6 => brk (decide (x_5.1 ≤ (↑(List.length x_4) : Int))) (chk (InR (x_5.2.1 + 1)) (loopC (fun (x_7 : (Int) × (List (Voyage))) => fun x_8 => brk (decide (x_7.1 < x_5.1)) (loopC (fun (x_9 : (Int) × (List (Voyage))) => fun x_10 => chk (decide (x_9.1 > x_5.2.1) = true → 0 ≤ x_9.1 ∧ x_9.1 < (↑(List.length x_9.2) : Int)) (chk (decide (x_9.1 > x_5.2.1) = true → InR (x_9.1 - 1)) (chk (decide (x_9.1 > x_5.2.1) = true → 0 ≤ x_9.1 - 1 ∧ x_9.1 - 1 < (↑(List.length x_9.2) : Int)) (bnd (brk (decide (x_9.1 > x_5.2.1)) (law12_FeesSeason_1 F (List.getD x_9.2 (Int.toNat x_9.1) (Voyage.mk 0 0 0 0 0 0 0)) (List.getD x_9.2 (x_9.1 - 1).toNat (Voyage.mk 0 0 0 0 0 0 0))) (some (0 : Int))) (fun (x_11 : Int) => brk (decide (x_9.1 > x_5.2.1) && decide (x_11 < 0)) (chk (InR (x_9.1 - 1)) (chk (InR (x_9.1 - 1)) (chk (0 ≤ x_9.1 - 1 ∧ x_9.1 - 1 < (↑(List.length x_9.2) : Int)) (chk (0 ≤ x_9.1 ∧ x_9.1 < (↑(List.length x_9.2) : Int)) (chk (0 ≤ x_9.1 ∧ x_9.1 < (↑(List.length x_9.2) : Int)) (chk (0 ≤ x_9.1 - 1 ∧ x_9.1 - 1 < (↑(List.set x_9.2 (Int.toNat x_9.1) (List.getD x_9.2 (x_9.1 - 1).toNat (Voyage.mk 0 0 0 0 0 0 0))).length : Int)) (chk (InR (x_9.1 - 1)) (x_10 ((x_9.1 - 1, (List.set x_9.2 (Int.toNat x_9.1) (List.getD x_9.2 (x_9.1 - 1).toNat (Voyage.mk 0 0 0 0 0 0 0))).set (x_9.1 - 1).toNat (List.getD x_9.2 (Int.toNat x_9.1) (Voyage.mk 0 0 0 0 0 0 0)))))))))))) (chk (InR (x_7.1 + 1)) (x_8 ((x_7.1 + 1, x_9.2))))))))) (F) (x_7)) (chk (InR (x_5.1 + 20)) (x_6 ((x_5.1 + 20, x_5.1, x_7.2))))) (F) ((x_5.2.1 + 1, x_5.2.2)))) (chk (InR (x_5.2.1 + 1)) (loopC (fun (x_7 : (Int) × (List (Voyage))) => fun x_8 => brk (decide (x_7.1 < (↑(List.length x_4) : Int))) (loopC (fun (x_9 : (Int) × (List (Voyage))) => fun x_10 => chk (decide (x_9.1 > x_5.2.1) = true → 0 ≤ x_9.1 ∧ x_9.1 < (↑(List.length x_9.2) : Int)) (chk (decide (x_9.1 > x_5.2.1) = true → InR (x_9.1 - 1)) (chk (decide (x_9.1 > x_5.2.1) = true → 0 ≤ x_9.1 - 1 ∧ x_9.1 - 1 < (↑(List.length x_9.2) : Int)) (bnd (brk (decide (x_9.1 > x_5.2.1)) (law12_FeesSeason_1 F (List.getD x_9.2 (Int.toNat x_9.1) (Voyage.mk 0 0 0 0 0 0 0)) (List.getD x_9.2 (x_9.1 - 1).toNat (Voyage.mk 0 0 0 0 0 0 0))) (some (0 : Int))) (fun (x_11 : Int) => brk (decide (x_9.1 > x_5.2.1) && decide (x_11 < 0)) (chk (InR (x_9.1 - 1)) (chk (InR (x_9.1 - 1)) (chk (0 ≤ x_9.1 - 1 ∧ x_9.1 - 1 < (↑(List.length x_9.2) : Int)) (chk (0 ≤ x_9.1 ∧ x_9.1 < (↑(List.length x_9.2) : Int)) (chk (0 ≤ x_9.1 ∧ x_9.1 < (↑(List.length x_9.2) : Int)) (chk (0 ≤ x_9.1 - 1 ∧ x_9.1 - 1 < (↑(List.set x_9.2 (Int.toNat x_9.1) (List.getD x_9.2 (x_9.1 - 1).toNat (Voyage.mk 0 0 0 0 0 0 0))).length : Int)) (chk (InR (x_9.1 - 1)) (x_10 ((x_9.1 - 1, (List.set x_9.2 (Int.toNat x_9.1) (List.getD x_9.2 (x_9.1 - 1).toNat (Voyage.mk 0 0 0 0 0 0 0))).set (x_9.1 - 1).toNat (List.getD x_9.2 (Int.toNat x_9.1) (Voyage.mk 0 0 0 0 0 0 0)))))))))))) (chk (InR (x_7.1 + 1)) (x_8 ((x_7.1 + 1, x_9.2))))))))) (F) (x_7)) (loopC (fun (x_9 : (Int) × (List (Voyage))) => fun x_10 => brk (decide (x_9.1 < (↑(List.length x_4) : Int))) (chk (InR ((2 : Int) * x_9.1)) (loopC (fun (x_11 : (Int) × ((Int) × (List (Voyage)))) => fun x_12 => brk (decide (x_11.1 ≤ (↑(List.length x_4) : Int))) (chk (InR (x_11.2.1 + x_9.1)) (bnd (symM F [x_11.2.1, x_11.2.1 + x_9.1, x_11.1] x_11.2.2) (fun (x_13 : List (Voyage)) => chk (InR ((2 : Int) * x_9.1)) (chk (InR (x_11.1 + (2 : Int) * x_9.1)) (x_12 ((x_11.1 + (2 : Int) * x_9.1, x_11.1, x_13))))))) (join (F) (fun (x_13 : List (Voyage)) => chk (InR (x_9.1 * 2)) (x_10 ((x_9.1 * 2, x_13)))) (fun x_13 => chk (InR (x_11.2.1 + x_9.1)) (brk (decide (x_11.2.1 + x_9.1 < (↑(List.length x_4) : Int))) (bnd (symM F [x_11.2.1, x_11.2.1 + x_9.1, (↑(List.length x_4) : Int)] x_11.2.2) (fun (x_14 : List (Voyage)) => x_13 (x_14))) (x_13 (x_11.2.2)))))) (F) (((2 : Int) * x_9.1, (0 : Int), x_9.2)))) (bnd (fees_Season F x x_2.1) (fun (x_11 : (List (Account)) × ((Int) × (Int))) => bnd (fees_Season F x x_9.2) (fun (x_12 : (List (Account)) × ((Int) × (Int))) => brk (x_11.2.2 != (0 : Int) || x_12.2.2 != (0 : Int) || (↑(List.length x_11.1) : Int) != (↑(List.length x_2.1) : Int) || (↑(List.length x_12.1) : Int) != (↑(List.length x_2.1) : Int) || x_11.2.1 != x_12.2.1) (some (false)) (loopC (fun (x_13 : (Int) × ((Int) × ((Int) × ((Int) × ((Int) × ((Int) × ((Int) × ((Int) × ((Int) × ((Int) × ((Int) × ((Int) × ((Int) × ((Int) × ((Int) × ((Int) × ((Int) × (Int)))))))))))))))))) => fun x_14 => brk (decide (x_13.2.1 < (↑(List.length x_2.1) : Int))) (join (F) (fun (x_15 : (Int) × ((Int) × ((Int) × ((Int) × ((Int) × ((Int) × ((Int) × ((Int) × ((Int) × ((Int) × ((Int) × ((Int) × ((Int) × ((Int) × ((Int) × ((Int) × (Int))))))))))))))))) => chk (InR (x_13.2.1 + 1)) (x_14 ((x_15.1, x_13.2.1 + 1, x_15.2)))) (fun x_15 => chk (0 ≤ x_13.2.1 ∧ x_13.2.1 < (↑(List.length x_2.1) : Int)) (chk (0 ≤ (List.getD x_2.1 (Int.toNat x_13.2.1) (Voyage.mk 0 0 0 0 0 0 0)).Ship ∧ (List.getD x_2.1 (Int.toNat x_13.2.1) (Voyage.mk 0 0 0 0 0 0 0)).Ship < (↑(4 : Nat) : Int)) (bnd (fees_Bill F x (List.getD x_2.1 (Int.toNat x_13.2.1) (Voyage.mk 0 0 0 0 0 0 0)) ([x_13.2.2.2.2.2.2.2.2.2.2.2.2.2.1, x_13.2.2.2.2.2.2.2.2.2.2.2.2.1, x_13.2.2.2.2.2.2.2.2.2.2.2.1, x_13.2.2.2.2.2.2.2.2.2.2.1].getD (List.getD x_2.1 (Int.toNat x_13.2.1) (Voyage.mk 0 0 0 0 0 0 0)).Ship.toNat (0 : Int))) (fun (x_16 : (Account) × (Int)) => chk ((!x_16.2 != (0 : Int)) = true → 0 ≤ x_13.2.1 ∧ x_13.2.1 < (↑(List.length x_11.1) : Int)) (brk (x_16.2 != (0 : Int) || !(x_16.1.Lines.a0 == (List.getD x_11.1 (Int.toNat x_13.2.1) (Account.mk (A5ofInt.mk 0 0 0 0 0) 0)).Lines.a0 && (x_16.1.Lines.a1 == (List.getD x_11.1 (Int.toNat x_13.2.1) (Account.mk (A5ofInt.mk 0 0 0 0 0) 0)).Lines.a1 && (x_16.1.Lines.a2 == (List.getD x_11.1 (Int.toNat x_13.2.1) (Account.mk (A5ofInt.mk 0 0 0 0 0) 0)).Lines.a2 && (x_16.1.Lines.a3 == (List.getD x_11.1 (Int.toNat x_13.2.1) (Account.mk (A5ofInt.mk 0 0 0 0 0) 0)).Lines.a3 && (x_16.1.Lines.a4 == (List.getD x_11.1 (Int.toNat x_13.2.1) (Account.mk (A5ofInt.mk 0 0 0 0 0) 0)).Lines.a4 && true)))) && (x_16.1.Sum == (List.getD x_11.1 (Int.toNat x_13.2.1) (Account.mk (A5ofInt.mk 0 0 0 0 0) 0)).Sum && true))) (some (false)) (chk (0 ≤ (List.getD x_2.1 (Int.toNat x_13.2.1) (Voyage.mk 0 0 0 0 0 0 0)).Ship ∧ (List.getD x_2.1 (Int.toNat x_13.2.1) (Voyage.mk 0 0 0 0 0 0 0)).Ship < (↑(4 : Nat) : Int)) (chk (InR ([x_13.2.2.2.2.2.2.2.2.2.2.2.2.2.1, x_13.2.2.2.2.2.2.2.2.2.2.2.2.1, x_13.2.2.2.2.2.2.2.2.2.2.2.1, x_13.2.2.2.2.2.2.2.2.2.2.1].getD (List.getD x_2.1 (Int.toNat x_13.2.1) (Voyage.mk 0 0 0 0 0 0 0)).Ship.toNat (0 : Int) + (1 : Int))) (chk (0 ≤ (List.getD x_2.1 (Int.toNat x_13.2.1) (Voyage.mk 0 0 0 0 0 0 0)).Ship ∧ (List.getD x_2.1 (Int.toNat x_13.2.1) (Voyage.mk 0 0 0 0 0 0 0)).Ship < (↑(4 : Nat) : Int)) (chk (InR (x_13.1 + x_16.1.Sum)) (chk (0 ≤ (List.getD x_2.1 (Int.toNat x_13.2.1) (Voyage.mk 0 0 0 0 0 0 0)).Ship ∧ (List.getD x_2.1 (Int.toNat x_13.2.1) (Voyage.mk 0 0 0 0 0 0 0)).Ship < (↑(4 : Nat) : Int)) (chk (InR ([x_13.2.2.2.2.2.2.2.2.2.1, x_13.2.2.2.2.2.2.2.2.1, x_13.2.2.2.2.2.2.2.1, x_13.2.2.2.2.2.2.1].getD (List.getD x_2.1 (Int.toNat x_13.2.1) (Voyage.mk 0 0 0 0 0 0 0)).Ship.toNat (0 : Int) + x_16.1.Sum)) (chk (0 ≤ (List.getD x_2.1 (Int.toNat x_13.2.1) (Voyage.mk 0 0 0 0 0 0 0)).Ship ∧ (List.getD x_2.1 (Int.toNat x_13.2.1) (Voyage.mk 0 0 0 0 0 0 0)).Ship < (↑(4 : Nat) : Int)) (chk (0 ≤ x_13.2.1 ∧ x_13.2.1 < (↑(List.length x_9.2) : Int)) (chk (0 ≤ (List.getD x_9.2 (Int.toNat x_13.2.1) (Voyage.mk 0 0 0 0 0 0 0)).Ship ∧ (List.getD x_9.2 (Int.toNat x_13.2.1) (Voyage.mk 0 0 0 0 0 0 0)).Ship < (↑(4 : Nat) : Int)) (chk (0 ≤ x_13.2.1 ∧ x_13.2.1 < (↑(List.length x_12.1) : Int)) (chk (InR ([x_13.2.2.2.2.2.2.2.2.2.2.2.2.2.2.2.2.2, x_13.2.2.2.2.2.2.2.2.2.2.2.2.2.2.2.2.1, x_13.2.2.2.2.2.2.2.2.2.2.2.2.2.2.2.1, x_13.2.2.2.2.2.2.2.2.2.2.2.2.2.2.1].getD (List.getD x_9.2 (Int.toNat x_13.2.1) (Voyage.mk 0 0 0 0 0 0 0)).Ship.toNat (0 : Int) + (List.getD x_12.1 (Int.toNat x_13.2.1) (Account.mk (A5ofInt.mk 0 0 0 0 0) 0)).Sum)) (chk (0 ≤ (List.getD x_9.2 (Int.toNat x_13.2.1) (Voyage.mk 0 0 0 0 0 0 0)).Ship ∧ (List.getD x_9.2 (Int.toNat x_13.2.1) (Voyage.mk 0 0 0 0 0 0 0)).Ship < (↑(4 : Nat) : Int)) (brk (decide (x_16.1.Lines.a0 > (0 : Int))) (chk (0 ≤ (List.getD x_2.1 (Int.toNat x_13.2.1) (Voyage.mk 0 0 0 0 0 0 0)).Ship ∧ (List.getD x_2.1 (Int.toNat x_13.2.1) (Voyage.mk 0 0 0 0 0 0 0)).Ship < (↑(4 : Nat) : Int)) (chk (InR ([x_13.2.2.2.2.2.1, x_13.2.2.2.2.1, x_13.2.2.2.1, x_13.2.2.1].getD (List.getD x_2.1 (Int.toNat x_13.2.1) (Voyage.mk 0 0 0 0 0 0 0)).Ship.toNat (0 : Int) + (1 : Int))) (chk (0 ≤ (List.getD x_2.1 (Int.toNat x_13.2.1) (Voyage.mk 0 0 0 0 0 0 0)).Ship ∧ (List.getD x_2.1 (Int.toNat x_13.2.1) (Voyage.mk 0 0 0 0 0 0 0)).Ship < (↑(4 : Nat) : Int)) (x_15 ((x_13.1 + x_16.1.Sum, if (List.getD x_2.1 (Int.toNat x_13.2.1) (Voyage.mk 0 0 0 0 0 0 0)).Ship = (↑(Nat.succ (0 : Nat)).succ.succ : Int) then [x_13.2.2.2.2.2.1, x_13.2.2.2.2.1, x_13.2.2.2.1, x_13.2.2.1].getD (List.getD x_2.1 (Int.toNat x_13.2.1) (Voyage.mk 0 0 0 0 0 0 0)).Ship.toNat (0 : Int) + (1 : Int) else x_13.2.2.1, if (List.getD x_2.1 (Int.toNat x_13.2.1) (Voyage.mk 0 0 0 0 0 0 0)).Ship = (↑(Nat.succ (0 : Nat)).succ : Int) then [x_13.2.2.2.2.2.1, x_13.2.2.2.2.1, x_13.2.2.2.1, x_13.2.2.1].getD (List.getD x_2.1 (Int.toNat x_13.2.1) (Voyage.mk 0 0 0 0 0 0 0)).Ship.toNat (0 : Int) + (1 : Int) else x_13.2.2.2.1, if (List.getD x_2.1 (Int.toNat x_13.2.1) (Voyage.mk 0 0 0 0 0 0 0)).Ship = (↑(Nat.succ (0 : Nat)) : Int) then [x_13.2.2.2.2.2.1, x_13.2.2.2.2.1, x_13.2.2.2.1, x_13.2.2.1].getD (List.getD x_2.1 (Int.toNat x_13.2.1) (Voyage.mk 0 0 0 0 0 0 0)).Ship.toNat (0 : Int) + (1 : Int) else x_13.2.2.2.2.1, if (List.getD x_2.1 (Int.toNat x_13.2.1) (Voyage.mk 0 0 0 0 0 0 0)).Ship = (↑(0 : Nat) : Int) then [x_13.2.2.2.2.2.1, x_13.2.2.2.2.1, x_13.2.2.2.1, x_13.2.2.1].getD (List.getD x_2.1 (Int.toNat x_13.2.1) (Voyage.mk 0 0 0 0 0 0 0)).Ship.toNat (0 : Int) + (1 : Int) else x_13.2.2.2.2.2.1, if (List.getD x_2.1 (Int.toNat x_13.2.1) (Voyage.mk 0 0 0 0 0 0 0)).Ship = (↑(Nat.succ (0 : Nat)).succ.succ : Int) then [x_13.2.2.2.2.2.2.2.2.2.1, x_13.2.2.2.2.2.2.2.2.1, x_13.2.2.2.2.2.2.2.1, x_13.2.2.2.2.2.2.1].getD (List.getD x_2.1 (Int.toNat x_13.2.1) (Voyage.mk 0 0 0 0 0 0 0)).Ship.toNat (0 : Int) + x_16.1.Sum else x_13.2.2.2.2.2.2.1, if (List.getD x_2.1 (Int.toNat x_13.2.1) (Voyage.mk 0 0 0 0 0 0 0)).Ship = (↑(Nat.succ (0 : Nat)).succ : Int) then [x_13.2.2.2.2.2.2.2.2.2.1, x_13.2.2.2.2.2.2.2.2.1, x_13.2.2.2.2.2.2.2.1, x_13.2.2.2.2.2.2.1].getD (List.getD x_2.1 (Int.toNat x_13.2.1) (Voyage.mk 0 0 0 0 0 0 0)).Ship.toNat (0 : Int) + x_16.1.Sum else x_13.2.2.2.2.2.2.2.1, if (List.getD x_2.1 (Int.toNat x_13.2.1) (Voyage.mk 0 0 0 0 0 0 0)).Ship = (↑(Nat.succ (0 : Nat)) : Int) then [x_13.2.2.2.2.2.2.2.2.2.1, x_13.2.2.2.2.2.2.2.2.1, x_13.2.2.2.2.2.2.2.1, x_13.2.2.2.2.2.2.1].getD (List.getD x_2.1 (Int.toNat x_13.2.1) (Voyage.mk 0 0 0 0 0 0 0)).Ship.toNat (0 : Int) + x_16.1.Sum else x_13.2.2.2.2.2.2.2.2.1, if (List.getD x_2.1 (Int.toNat x_13.2.1) (Voyage.mk 0 0 0 0 0 0 0)).Ship = (↑(0 : Nat) : Int) then [x_13.2.2.2.2.2.2.2.2.2.1, x_13.2.2.2.2.2.2.2.2.1, x_13.2.2.2.2.2.2.2.1, x_13.2.2.2.2.2.2.1].getD (List.getD x_2.1 (Int.toNat x_13.2.1) (Voyage.mk 0 0 0 0 0 0 0)).Ship.toNat (0 : Int) + x_16.1.Sum else x_13.2.2.2.2.2.2.2.2.2.1, if (List.getD x_2.1 (Int.toNat x_13.2.1) (Voyage.mk 0 0 0 0 0 0 0)).Ship = (↑(Nat.succ (0 : Nat)).succ.succ : Int) then [x_13.2.2.2.2.2.2.2.2.2.2.2.2.2.1, x_13.2.2.2.2.2.2.2.2.2.2.2.2.1, x_13.2.2.2.2.2.2.2.2.2.2.2.1, x_13.2.2.2.2.2.2.2.2.2.2.1].getD (List.getD x_2.1 (Int.toNat x_13.2.1) (Voyage.mk 0 0 0 0 0 0 0)).Ship.toNat (0 : Int) + (1 : Int) else x_13.2.2.2.2.2.2.2.2.2.2.1, if (List.getD x_2.1 (Int.toNat x_13.2.1) (Voyage.mk 0 0 0 0 0 0 0)).Ship = (↑(Nat.succ (0 : Nat)).succ : Int) then [x_13.2.2.2.2.2.2.2.2.2.2.2.2.2.1, x_13.2.2.2.2.2.2.2.2.2.2.2.2.1, x_13.2.2.2.2.2.2.2.2.2.2.2.1, x_13.2.2.2.2.2.2.2.2.2.2.1].getD (List.getD x_2.1 (Int.toNat x_13.2.1) (Voyage.mk 0 0 0 0 0 0 0)).Ship.toNat (0 : Int) + (1 : Int) else x_13.2.2.2.2.2.2.2.2.2.2.2.1, if (List.getD x_2.1 (Int.toNat x_13.2.1) (Voyage.mk 0 0 0 0 0 0 0)).Ship = (↑(Nat.succ (0 : Nat)) : Int) then [x_13.2.2.2.2.2.2.2.2.2.2.2.2.2.1, x_13.2.2.2.2.2.2.2.2.2.2.2.2.1, x_13.2.2.2.2.2.2.2.2.2.2.2.1, x_13.2.2.2.2.2.2.2.2.2.2.1].getD (List.getD x_2.1 (Int.toNat x_13.2.1) (Voyage.mk 0 0 0 0 0 0 0)).Ship.toNat (0 : Int) + (1 : Int) else x_13.2.2.2.2.2.2.2.2.2.2.2.2.1, if (List.getD x_2.1 (Int.toNat x_13.2.1) (Voyage.mk 0 0 0 0 0 0 0)).Ship = (↑(0 : Nat) : Int) then [x_13.2.2.2.2.2.2.2.2.2.2.2.2.2.1, x_13.2.2.2.2.2.2.2.2.2.2.2.2.1, x_13.2.2.2.2.2.2.2.2.2.2.2.1, x_13.2.2.2.2.2.2.2.2.2.2.1].getD (List.getD x_2.1 (Int.toNat x_13.2.1) (Voyage.mk 0 0 0 0 0 0 0)).Ship.toNat (0 : Int) + (1 : Int) else x_13.2.2.2.2.2.2.2.2.2.2.2.2.2.1, if (List.getD x_9.2 (Int.toNat x_13.2.1) (Voyage.mk 0 0 0 0 0 0 0)).Ship = (↑(Nat.succ (0 : Nat)).succ.succ : Int) then [x_13.2.2.2.2.2.2.2.2.2.2.2.2.2.2.2.2.2, x_13.2.2.2.2.2.2.2.2.2.2.2.2.2.2.2.2.1, x_13.2.2.2.2.2.2.2.2.2.2.2.2.2.2.2.1, x_13.2.2.2.2.2.2.2.2.2.2.2.2.2.2.1].getD (List.getD x_9.2 (Int.toNat x_13.2.1) (Voyage.mk 0 0 0 0 0 0 0)).Ship.toNat (0 : Int) + (List.getD x_12.1 (Int.toNat x_13.2.1) (Account.mk (A5ofInt.mk 0 0 0 0 0) 0)).Sum else x_13.2.2.2.2.2.2.2.2.2.2.2.2.2.2.1, if (List.getD x_9.2 (Int.toNat x_13.2.1) (Voyage.mk 0 0 0 0 0 0 0)).Ship = (↑(Nat.succ (0 : Nat)).succ : Int) then [x_13.2.2.2.2.2.2.2.2.2.2.2.2.2.2.2.2.2, x_13.2.2.2.2.2.2.2.2.2.2.2.2.2.2.2.2.1, x_13.2.2.2.2.2.2.2.2.2.2.2.2.2.2.2.1, x_13.2.2.2.2.2.2.2.2.2.2.2.2.2.2.1].getD (List.getD x_9.2 (Int.toNat x_13.2.1) (Voyage.mk 0 0 0 0 0 0 0)).Ship.toNat (0 : Int) + (List.getD x_12.1 (Int.toNat x_13.2.1) (Account.mk (A5ofInt.mk 0 0 0 0 0) 0)).Sum else x_13.2.2.2.2.2.2.2.2.2.2.2.2.2.2.2.1, if (List.getD x_9.2 (Int.toNat x_13.2.1) (Voyage.mk 0 0 0 0 0 0 0)).Ship = (↑(Nat.succ (0 : Nat)) : Int) then [x_13.2.2.2.2.2.2.2.2.2.2.2.2.2.2.2.2.2, x_13.2.2.2.2.2.2.2.2.2.2.2.2.2.2.2.2.1, x_13.2.2.2.2.2.2.2.2.2.2.2.2.2.2.2.1, x_13.2.2.2.2.2.2.2.2.2.2.2.2.2.2.1].getD (List.getD x_9.2 (Int.toNat x_13.2.1) (Voyage.mk 0 0 0 0 0 0 0)).Ship.toNat (0 : Int) + (List.getD x_12.1 (Int.toNat x_13.2.1) (Account.mk (A5ofInt.mk 0 0 0 0 0) 0)).Sum else x_13.2.2.2.2.2.2.2.2.2.2.2.2.2.2.2.2.1, if (List.getD x_9.2 (Int.toNat x_13.2.1) (Voyage.mk 0 0 0 0 0 0 0)).Ship = (↑(0 : Nat) : Int) then [x_13.2.2.2.2.2.2.2.2.2.2.2.2.2.2.2.2.2, x_13.2.2.2.2.2.2.2.2.2.2.2.2.2.2.2.2.1, x_13.2.2.2.2.2.2.2.2.2.2.2.2.2.2.2.1, x_13.2.2.2.2.2.2.2.2.2.2.2.2.2.2.1].getD (List.getD x_9.2 (Int.toNat x_13.2.1) (Voyage.mk 0 0 0 0 0 0 0)).Ship.toNat (0 : Int) + (List.getD x_12.1 (Int.toNat x_13.2.1) (Account.mk (A5ofInt.mk 0 0 0 0 0) 0)).Sum else x_13.2.2.2.2.2.2.2.2.2.2.2.2.2.2.2.2.2)))))) (x_15 ((x_13.1 + x_16.1.Sum, x_13.2.2.1, x_13.2.2.2.1, x_13.2.2.2.2.1, x_13.2.2.2.2.2.1, if (List.getD x_2.1 (Int.toNat x_13.2.1) (Voyage.mk 0 0 0 0 0 0 0)).Ship = (↑(Nat.succ (0 : Nat)).succ.succ : Int) then [x_13.2.2.2.2.2.2.2.2.2.1, x_13.2.2.2.2.2.2.2.2.1, x_13.2.2.2.2.2.2.2.1, x_13.2.2.2.2.2.2.1].getD (List.getD x_2.1 (Int.toNat x_13.2.1) (Voyage.mk 0 0 0 0 0 0 0)).Ship.toNat (0 : Int) + x_16.1.Sum else x_13.2.2.2.2.2.2.1, if (List.getD x_2.1 (Int.toNat x_13.2.1) (Voyage.mk 0 0 0 0 0 0 0)).Ship = (↑(Nat.succ (0 : Nat)).succ : Int) then [x_13.2.2.2.2.2.2.2.2.2.1, x_13.2.2.2.2.2.2.2.2.1, x_13.2.2.2.2.2.2.2.1, x_13.2.2.2.2.2.2.1].getD (List.getD x_2.1 (Int.toNat x_13.2.1) (Voyage.mk 0 0 0 0 0 0 0)).Ship.toNat (0 : Int) + x_16.1.Sum else x_13.2.2.2.2.2.2.2.1, if (List.getD x_2.1 (Int.toNat x_13.2.1) (Voyage.mk 0 0 0 0 0 0 0)).Ship = (↑(Nat.succ (0 : Nat)) : Int) then [x_13.2.2.2.2.2.2.2.2.2.1, x_13.2.2.2.2.2.2.2.2.1, x_13.2.2.2.2.2.2.2.1, x_13.2.2.2.2.2.2.1].getD (List.getD x_2.1 (Int.toNat x_13.2.1) (Voyage.mk 0 0 0 0 0 0 0)).Ship.toNat (0 : Int) + x_16.1.Sum else x_13.2.2.2.2.2.2.2.2.1, if (List.getD x_2.1 (Int.toNat x_13.2.1) (Voyage.mk 0 0 0 0 0 0 0)).Ship = (↑(0 : Nat) : Int) then [x_13.2.2.2.2.2.2.2.2.2.1, x_13.2.2.2.2.2.2.2.2.1, x_13.2.2.2.2.2.2.2.1, x_13.2.2.2.2.2.2.1].getD (List.getD x_2.1 (Int.toNat x_13.2.1) (Voyage.mk 0 0 0 0 0 0 0)).Ship.toNat (0 : Int) + x_16.1.Sum else x_13.2.2.2.2.2.2.2.2.2.1, if (List.getD x_2.1 (Int.toNat x_13.2.1) (Voyage.mk 0 0 0 0 0 0 0)).Ship = (↑(Nat.succ (0 : Nat)).succ.succ : Int) then [x_13.2.2.2.2.2.2.2.2.2.2.2.2.2.1, x_13.2.2.2.2.2.2.2.2.2.2.2.2.1, x_13.2.2.2.2.2.2.2.2.2.2.2.1, x_13.2.2.2.2.2.2.2.2.2.2.1].getD (List.getD x_2.1 (Int.toNat x_13.2.1) (Voyage.mk 0 0 0 0 0 0 0)).Ship.toNat (0 : Int) + (1 : Int) else x_13.2.2.2.2.2.2.2.2.2.2.1, if (List.getD x_2.1 (Int.toNat x_13.2.1) (Voyage.mk 0 0 0 0 0 0 0)).Ship = (↑(Nat.succ (0 : Nat)).succ : Int) then [x_13.2.2.2.2.2.2.2.2.2.2.2.2.2.1, x_13.2.2.2.2.2.2.2.2.2.2.2.2.1, x_13.2.2.2.2.2.2.2.2.2.2.2.1, x_13.2.2.2.2.2.2.2.2.2.2.1].getD (List.getD x_2.1 (Int.toNat x_13.2.1) (Voyage.mk 0 0 0 0 0 0 0)).Ship.toNat (0 : Int) + (1 : Int) else x_13.2.2.2.2.2.2.2.2.2.2.2.1, if (List.getD x_2.1 (Int.toNat x_13.2.1) (Voyage.mk 0 0 0 0 0 0 0)).Ship = (↑(Nat.succ (0 : Nat)) : Int) then [x_13.2.2.2.2.2.2.2.2.2.2.2.2.2.1, x_13.2.2.2.2.2.2.2.2.2.2.2.2.1, x_13.2.2.2.2.2.2.2.2.2.2.2.1, x_13.2.2.2.2.2.2.2.2.2.2.1].getD (List.getD x_2.1 (Int.toNat x_13.2.1) (Voyage.mk 0 0 0 0 0 0 0)).Ship.toNat (0 : Int) + (1 : Int) else x_13.2.2.2.2.2.2.2.2.2.2.2.2.1, if (List.getD x_2.1 (Int.toNat x_13.2.1) (Voyage.mk 0 0 0 0 0 0 0)).Ship = (↑(0 : Nat) : Int) then [x_13.2.2.2.2.2.2.2.2.2.2.2.2.2.1, x_13.2.2.2.2.2.2.2.2.2.2.2.2.1, x_13.2.2.2.2.2.2.2.2.2.2.2.1, x_13.2.2.2.2.2.2.2.2.2.2.1].getD (List.getD x_2.1 (Int.toNat x_13.2.1) (Voyage.mk 0 0 0 0 0 0 0)).Ship.toNat (0 : Int) + (1 : Int) else x_13.2.2.2.2.2.2.2.2.2.2.2.2.2.1, if (List.getD x_9.2 (Int.toNat x_13.2.1) (Voyage.mk 0 0 0 0 0 0 0)).Ship = (↑(Nat.succ (0 : Nat)).succ.succ : Int) then [x_13.2.2.2.2.2.2.2.2.2.2.2.2.2.2.2.2.2, x_13.2.2.2.2.2.2.2.2.2.2.2.2.2.2.2.2.1, x_13.2.2.2.2.2.2.2.2.2.2.2.2.2.2.2.1, x_13.2.2.2.2.2.2.2.2.2.2.2.2.2.2.1].getD (List.getD x_9.2 (Int.toNat x_13.2.1) (Voyage.mk 0 0 0 0 0 0 0)).Ship.toNat (0 : Int) + (List.getD x_12.1 (Int.toNat x_13.2.1) (Account.mk (A5ofInt.mk 0 0 0 0 0) 0)).Sum else x_13.2.2.2.2.2.2.2.2.2.2.2.2.2.2.1, if (List.getD x_9.2 (Int.toNat x_13.2.1) (Voyage.mk 0 0 0 0 0 0 0)).Ship = (↑(Nat.succ (0 : Nat)).succ : Int) then [x_13.2.2.2.2.2.2.2.2.2.2.2.2.2.2.2.2.2, x_13.2.2.2.2.2.2.2.2.2.2.2.2.2.2.2.2.1, x_13.2.2.2.2.2.2.2.2.2.2.2.2.2.2.2.1, x_13.2.2.2.2.2.2.2.2.2.2.2.2.2.2.1].getD (List.getD x_9.2 (Int.toNat x_13.2.1) (Voyage.mk 0 0 0 0 0 0 0)).Ship.toNat (0 : Int) + (List.getD x_12.1 (Int.toNat x_13.2.1) (Account.mk (A5ofInt.mk 0 0 0 0 0) 0)).Sum else x_13.2.2.2.2.2.2.2.2.2.2.2.2.2.2.2.1, if (List.getD x_9.2 (Int.toNat x_13.2.1) (Voyage.mk 0 0 0 0 0 0 0)).Ship = (↑(Nat.succ (0 : Nat)) : Int) then [x_13.2.2.2.2.2.2.2.2.2.2.2.2.2.2.2.2.2, x_13.2.2.2.2.2.2.2.2.2.2.2.2.2.2.2.2.1, x_13.2.2.2.2.2.2.2.2.2.2.2.2.2.2.2.1, x_13.2.2.2.2.2.2.2.2.2.2.2.2.2.2.1].getD (List.getD x_9.2 (Int.toNat x_13.2.1) (Voyage.mk 0 0 0 0 0 0 0)).Ship.toNat (0 : Int) + (List.getD x_12.1 (Int.toNat x_13.2.1) (Account.mk (A5ofInt.mk 0 0 0 0 0) 0)).Sum else x_13.2.2.2.2.2.2.2.2.2.2.2.2.2.2.2.2.1, if (List.getD x_9.2 (Int.toNat x_13.2.1) (Voyage.mk 0 0 0 0 0 0 0)).Ship = (↑(0 : Nat) : Int) then [x_13.2.2.2.2.2.2.2.2.2.2.2.2.2.2.2.2.2, x_13.2.2.2.2.2.2.2.2.2.2.2.2.2.2.2.2.1, x_13.2.2.2.2.2.2.2.2.2.2.2.2.2.2.2.1, x_13.2.2.2.2.2.2.2.2.2.2.2.2.2.2.1].getD (List.getD x_9.2 (Int.toNat x_13.2.1) (Voyage.mk 0 0 0 0 0 0 0)).Ship.toNat (0 : Int) + (List.getD x_12.1 (Int.toNat x_13.2.1) (Account.mk (A5ofInt.mk 0 0 0 0 0) 0)).Sum else x_13.2.2.2.2.2.2.2.2.2.2.2.2.2.2.2.2.2)))))))))))))))))))))) (bnd (brk (x_13.1 == x_11.2.1 && (x_13.2.2.2.2.2.2.2.2.2.1 == x_13.2.2.2.2.2.2.2.2.2.2.2.2.2.2.2.2.2 && (x_13.2.2.2.2.2.2.2.2.1 == x_13.2.2.2.2.2.2.2.2.2.2.2.2.2.2.2.2.1 && (x_13.2.2.2.2.2.2.2.1 == x_13.2.2.2.2.2.2.2.2.2.2.2.2.2.2.2.1 && (x_13.2.2.2.2.2.2.1 == x_13.2.2.2.2.2.2.2.2.2.2.2.2.2.2.1 && true))))) (slices_Max_int F [x_13.2.2.2.2.2.1, x_13.2.2.2.2.1, x_13.2.2.2.1, x_13.2.2.1]) (some (0 : Int))) (fun (x_15 : Int) => bnd (brk (x_13.1 == x_11.2.1 && (x_13.2.2.2.2.2.2.2.2.2.1 == x_13.2.2.2.2.2.2.2.2.2.2.2.2.2.2.2.2.2 && (x_13.2.2.2.2.2.2.2.2.1 == x_13.2.2.2.2.2.2.2.2.2.2.2.2.2.2.2.2.1 && (x_13.2.2.2.2.2.2.2.1 == x_13.2.2.2.2.2.2.2.2.2.2.2.2.2.2.2.1 && (x_13.2.2.2.2.2.2.1 == x_13.2.2.2.2.2.2.2.2.2.2.2.2.2.2.1 && true)))) && decide (x_15 ≤ x.Paid)) (law12_awake F) (some false)) (fun (x_16 : Bool) => some (x_13.1 == x_11.2.1 && (x_13.2.2.2.2.2.2.2.2.2.1 == x_13.2.2.2.2.2.2.2.2.2.2.2.2.2.2.2.2.2 && (x_13.2.2.2.2.2.2.2.2.1 == x_13.2.2.2.2.2.2.2.2.2.2.2.2.2.2.2.2.1 && (x_13.2.2.2.2.2.2.2.1 == x_13.2.2.2.2.2.2.2.2.2.2.2.2.2.2.2.1 && (x_13.2.2.2.2.2.2.1 == x_13.2.2.2.2.2.2.2.2.2.2.2.2.2.2.1 && true)))) && decide (x_15 ≤ x.Paid) && x_16))))) (F) (((0 : Int), (0 : Int), (0 : Int), (0 : Int), (0 : Int), (0 : Int), (0 : Int), (0 : Int), (0 : Int), (0 : Int), (0 : Int), (0 : Int), (0 : Int), (0 : Int), (0 : Int), (0 : Int), (0 : Int), (0 : Int)))))))) (F) (((20 : Int), x_7.2)))) (F) ((x_5.2.1 + 1, x_5.2.2))))) (F) (((20 : Int), (0 : Int), x_4))))) (F) (([], (0 : Int), x_1.2))) (fun x_1 => brk (decide ((0 : Int) ≥ (↑a1.length : Int))) (x_1 (((0 : Int), (0 : Int)))) (chk ((0 : Int) ≤ IntKind.i64.wrap (IntKind.i64.wrap ((0 : Int) + (1 : Int)) - 1) ∧ IntKind.i64.wrap (IntKind.i64.wrap ((0 : Int) + (1 : Int)) - 1) < (↑a1.length : Int)) (chk (InR (a1.getD (IntKind.i64.wrap (IntKind.i64.wrap ((0 : Int) + (1 : Int)) - 1)).toNat (0 : Int))) (chk (0 ≤ a1.getD (IntKind.i64.wrap (IntKind.i64.wrap ((0 : Int) + (1 : Int)) - 1)).toNat (0 : Int) ∧ a1.getD (IntKind.i64.wrap (IntKind.i64.wrap ((0 : Int) + (1 : Int)) - 1)).toNat 0 ≤ (9223372036854775807 : Int)) (x_1 ((a1.getD (IntKind.i64.wrap (IntKind.i64.wrap ((0 : Int) + (1 : Int)) - 1)).toNat (0 : Int) % (31 : Int), IntKind.i64.wrap ((0 : Int) + (1 : Int))))))))))
def s4 (F : Nat) : CS E.G := ⟨4, [.sl 2, .sl 2], [.v 1 false []], fun x => law12_FeesSeason F x.1 x.2.1⟩
theorem c4 (F : Nat) : CSok E [] (s4 F) := mkC (cx := ⟨[s8 F, s19 F, s21 F, s23 F, s24 F, s25 F, s26 F], [(20, Try.f20), (47, Try.f47), (22, Try.f22), (48, Try.f48), (64, Try.f64)], F, [], [⟨65, 14, 23, symM F, false, 3, some 56⟩]⟩) hf4 (by kernel_rfl) rfl (allC (c8 F) (allC (c19 F) (allC (c21 F) (allC (c23 F) (allC (c24 F) (allC (c25 F) (allC (c26 F) all0))))))) ⟨(inlC hf20 en20 (inlC hf47 en47 (inlC hf22 en22 (inlC hf48 en48 (inlC hf64 en64 inl0))))), (allC (sok65 F) all0)⟩ (.p (.w ⟨[.i, .i], [], [1, 5, 4], [(0, .i IntKind.i64)], [], [(5, 0, .i IntKind.i64)], [], 6⟩ .n (.l ⟨[.l 14, .i, .i], [96, 480, 80], [5, 4, 3, 1, 2], [(112, .h 6 56 14), (496, .i IntKind.i64)], [], [(5, 0, .i IntKind.i64)], [], 7⟩ (.c (.w ⟨[.i, .i], [], [1, 5, 4], [(0, .i IntKind.i64)], [], [(5, 0, .i IntKind.i64)], [], 7⟩ .n (.w ⟨[.i, .i], [], [1, 5, 4], [(0, .i IntKind.i64)], [], [(5, 0, .i IntKind.i64)], [], 7⟩ .n (.w ⟨[.i, .i], [], [1, 5, 4], [(0, .i IntKind.i64)], [], [(5, 0, .i IntKind.i64)], [], 7⟩ .n (.w ⟨[.i, .i], [], [1, 5, 4], [(0, .i IntKind.i64)], [], [(5, 0, .i IntKind.i64)], [], 7⟩ .n (.w ⟨[.i, .i], [], [1, 5, 4], [(0, .i IntKind.i64)], [], [(5, 0, .i IntKind.i64)], [], 7⟩ .n .n))))) (.p (.p (.l ⟨[.i, .i, .l 14], [0, 16, 32, 96], [7], [(128, .i IntKind.i64), (112, .i IntKind.i64)], [], [], [(7, 56, 14)], 8⟩ (.c (.p (.l ⟨[.i, .l 14], [0, 16, 32, 48], [7], [(128, .i IntKind.i64)], [], [], [(7, 56, 14)], 8⟩ (.c (.l ⟨[.i, .l 14], [0, 16, 32, 128, 48], [7], [(144, .i IntKind.i64)], [], [], [(7, 56, 14)], 8⟩ .n) .n))) (.p (.l ⟨[.i, .l 14], [0, 16, 32, 48], [7], [(128, .i IntKind.i64)], [], [], [(7, 56, 14)], 8⟩ (.c (.l ⟨[.i, .l 14], [0, 16, 32, 128, 48], [7], [(144, .i IntKind.i64)], [], [], [(7, 56, 14)], 8⟩ .n) (.l ⟨[.i, .l 14], [0, 16, 32], [7], [(96, .i IntKind.i64)], [], [], [(7, 56, 14)], 8⟩ (.c (.l ⟨[.i, .i, .l 14], [0, 16, 32, 96], [7], [(128, .i IntKind.i64), (112, .i IntKind.i64)], [], [], [(7, 56, 14)], 8⟩ (.c (.p .n) (.j ⟨[.l 14], [0, 16, 32, 96], [7], [], [], [], [(7, 56, 14)], 8⟩ (.c (.p .n) .n) .n))) (.c .n (.l ⟨[.i, .i, .i, .i, .i, .i, .i, .i, .i, .i, .i, .i, .i, .i, .i, .i, .i, .i], [128, 1536, 320, 160, 288, 80, 272, 1552, 208, 176, 304], [7, 6, 13, 8, 11, 3, 10, 9, 12, 2], [(256, .i IntKind.i64), (1568, .i IntKind.i64)], [], [(13, 3, .i IntKind.i64), (13, 2, .i IntKind.i64), (13, 1, .i IntKind.i64), (13, 0, .i IntKind.i64), (11, 3, .i IntKind.i64), (11, 2, .i IntKind.i64), (11, 1, .i IntKind.i64), (11, 0, .i IntKind.i64), (10, 3, .i IntKind.i64), (10, 2, .i IntKind.i64), (10, 1, .i IntKind.i64), (10, 0, .i IntKind.i64), (12, 3, .i IntKind.i64), (12, 2, .i IntKind.i64), (12, 1, .i IntKind.i64), (12, 0, .i IntKind.i64)], [], 14⟩ (.c (.j ⟨[.i, .i, .i, .i, .i, .i, .i, .i, .i, .i, .i, .i, .i, .i, .i, .i, .i], [128, 1536, 320, 160, 288, 1568, 80, 272, 1552, 208, 176, 304], [7, 6, 13, 8, 11, 3, 10, 9, 12, 2], [(256, .i IntKind.i64)], [], [(13, 3, .i IntKind.i64), (13, 2, .i IntKind.i64), (13, 1, .i IntKind.i64), (13, 0, .i IntKind.i64), (11, 3, .i IntKind.i64), (11, 2, .i IntKind.i64), (11, 1, .i IntKind.i64), (11, 0, .i IntKind.i64), (10, 3, .i IntKind.i64), (10, 2, .i IntKind.i64), (10, 1, .i IntKind.i64), (10, 0, .i IntKind.i64), (12, 3, .i IntKind.i64), (12, 2, .i IntKind.i64), (12, 1, .i IntKind.i64), (12, 0, .i IntKind.i64)], [], 14⟩ (.c .n .n) .n) .n)))))))))))))))) rfl (by kernel_rfl)
end
end Go.Proofs.Fs

namespace Go.KX
def Ok {α : Type} (post : α → Prop) (o : Option α) : Prop := ∃ r, o = some r ∧ post r
section
variable {α β ι σ R : Type} {post : α → Prop}
theorem chk_pos {p : Prop} [Decidable p] {x : Option α} (h : p) : chk p x = x := if_pos h
theorem brk_true {x y : Option α} : brk true x y = x := rfl
theorem brk_false {x y : Option α} : brk false x y = y := rfl
theorem loopC_succ {body : σ → (σ → Option α) → Option α} {n : Nat} {x : σ} : loopC body (n + 1) x = body x (loopC body n) := rfl
theorem ok_some {r : α} (h : post r) : Ok post (some r) := ⟨r, rfl, h⟩
theorem ok_chk {p : Prop} [Decidable p] {x : Option α} (h : p) (hx : Ok post x) : Ok post (chk p x) := by rw [chk_pos h]; exact hx
theorem ok_brk {c : Bool} {x y : Option α} (ht : c = true → Ok post x) (hf : c = false → Ok post y) : Ok post (brk c x y) := by
 cases c with
 | true => exact ht rfl
 | false => exact hf rfl
theorem ok_brkT {c : Bool} {x y : Option α} (hc : c = true) (ht : Ok post x) : Ok post (brk c x y) := by subst hc; exact ht
theorem ok_brkF {c : Bool} {x y : Option α} (hc : c = false) (hf : Ok post y) : Ok post (brk c x y) := by subst hc; exact hf
theorem ok_bnd {x : Option β} {f : β → Option α} (q : β → Prop) (hx : Ok q x) (hf : ∀ b, q b → Ok post (f b)) : Ok post (bnd x f) := by
 obtain ⟨b, rfl, hb⟩ := hx
 exact hf b hb
theorem ok_bnde {x : Option β} {f : β → Option α} {b : β} (hx : x = some b) (hf : Ok post (f b)) : Ok post (bnd x f) := by subst hx; exact hf
theorem ok_join {F : Nat} (hF : 0 < F) {K : ι → Option α} {body : (ι → Option α) → Option α} (J : ι → Prop) (hK : ∀ i, J i → Ok post (K i)) (hb : ∀ k : ι → Option α, (∀ i, J i → Ok post (k i)) → Ok post (body k)) : Ok post (join F K body) := by
 obtain ⟨n, rfl⟩ := Nat.exists_eq_succ_of_ne_zero (Nat.ne_of_gt hF)
 exact hb K hK
theorem ok_loop {body : σ → (σ → Option α) → Option α} (I : σ → Prop) (μ : σ → Nat) {n : Nat} {x0 : σ} (h0 : I x0) (hn : μ x0 < n)
  (h : ∀ x (next : σ → Option α), I x → (∀ y, I y → μ y < μ x → Ok post (next y)) → Ok post (body x next)) : Ok post (loopC body n x0) := by
 induction n generalizing x0 with
 | zero => omega
 | succ n ih => exact h x0 _ h0 fun y hy hlt => ih hy (by omega)
theorem Ok.mono {post' : α → Prop} {o : Option α} (h : Ok post o) (hp : ∀ r, post r → post' r) : Ok post' o := by obtain ⟨r, h1, h2⟩ := h; exact ⟨r, h1, hp r h2⟩
theorem Ok.eq {o : Option α} {r : α} (h : Ok (fun x => x = r) o) : o = some r := by obtain ⟨r, h1, rfl⟩ := h; exact h1
end
theorem getD_mem {α : Type} {l : List α} {i : Nat} {d : α} (h : i < l.length) : l.getD i d ∈ l := by
 rw [List.getD_eq_getElem?_getD, List.getElem?_eq_getElem h]; exact List.getElem_mem h
theorem getD_get {α : Type} {l : List α} {i : Nat} {d : α} (h : i < l.length) : l.getD i d = l[i] := by
 rw [List.getD_eq_getElem?_getD, List.getElem?_eq_getElem h]; rfl
theorem take_succ' {α : Type} {l : List α} {i : Nat} {d : α} (h : i < l.length) : l.take (i + 1) = l.take i ++ [l.getD i d] := by
 rw [getD_get h, List.take_add_one, List.getElem?_eq_getElem h]; rfl
def sumL : List Int → Int
 | [] => 0
 | x :: r => x + sumL r
theorem sumL_nonneg : ∀ (l : List Int), (∀ x ∈ l, 0 ≤ x) → 0 ≤ sumL l
 | [], _ => by simp [sumL]
 | x :: l, h => by
  have h1 := h x (by simp); have h2 := sumL_nonneg l fun y hy => h y (by simp [hy])
  simp only [sumL]; omega
theorem mem_le_sumL : ∀ (l : List Int), (∀ x ∈ l, 0 ≤ x) → ∀ x ∈ l, x ≤ sumL l
 | y :: l, h, x, hx => by
  have h1 := h y (by simp); have h2 := sumL_nonneg l fun y hy => h y (by simp [hy])
  simp only [sumL]
  rcases List.mem_cons.1 hx with rfl | hx
  ·omega
  ·have := mem_le_sumL l (fun y hy => h y (by simp [hy])) x hx; omega
end Go.KX

namespace Go.KX
section
variable {α β : Type} {post : α → Prop}
theorem nd_true {p : Prop} [Decidable p] (h : (!decide p) = true) : ¬ p := fun q => by rw [decide_eq_true q] at h; cases h
theorem nd_false {p : Prop} [Decidable p] (h : (!decide p) = false) : p := by
 by_cases q : p
 ·exact q
 ·rw [decide_eq_false q] at h; cases h
theorem drop_get {l : List β} {i : Nat} {d : β} (h : i < l.length) : l.drop i = l.getD i d :: l.drop (i + 1) := by
 rw [getD_get h, List.drop_eq_getElem_cons h]
theorem ok_find {F : Nat} {l : List β} {d : β} {p : β → Bool} {g : β → Option Bool} {hit : Int → Option α} {miss : Option α} (hF : l.length < F) (hl : l.length ≤ 1000000) (hg : ∀ x ∈ l, g x = some (p x))
  (h1 : ∀ i : Nat, i < l.length → p (l.getD i d) = true → Ok post (hit i)) (h2 : (∀ x ∈ l, p x = false) → Ok post miss) :
  Ok post (loopC (fun (x : Int) next => brk (decide (x < (l.length : Int))) (chk (0 ≤ x ∧ x < (l.length : Int)) (bnd (g (l.getD x.toNat d)) fun b => brk b (hit x) (chk (InR (x + 1)) (next (x + 1))))) miss) F 0) := by
 refine ok_loop (fun x : Int => 0 ≤ x ∧ x ≤ l.length ∧ ∀ j : Nat, (j : Int) < x → p (l.getD j d) = false) (fun x : Int => l.length - x.toNat) ⟨by simp, by simp, fun j hj => by omega⟩ (by simp; omega) ?_
 rintro i next ⟨i1, i2, i3⟩ hn
 refine ok_brk (fun hc => ?_) (fun hc => h2 fun x hx => ?_)
 ·have hc : i < l.length := of_decide_eq_true hc
  have hi : i.toNat < l.length := by omega
  refine ok_chk ⟨i1, hc⟩ (ok_bnde (hg _ (getD_mem hi)) (ok_brk (fun hb => ?_) (fun hb => ok_chk (show InR _ from ⟨by omega, by omega⟩) (hn _ ⟨by omega, by omega, fun j hj => ?_⟩ (by show l.length - (i + 1).toNat < l.length - i.toNat; omega)))))
  ·have := h1 i.toNat hi hb
   rwa [Int.toNat_of_nonneg i1] at this
  ·by_cases e : (j : Int) < i
   ·exact i3 j e
   ·obtain rfl : j = i.toNat := by omega
    exact hb
 ·have hc : ¬ i < l.length := of_decide_eq_false hc
  obtain ⟨j, hj, rfl⟩ := List.getElem_of_mem hx
  have := i3 j (by omega)
  rwa [getD_get hj] at this
end
end Go.KX

namespace Go.KX
structure Bytes (l : List Int) : Prop where
 b : ∀ x ∈ l, 0 ≤ x ∧ x ≤ 255
 len : l.length ≤ 9223372036854775807
section
variable {α : Type} {post : α → Prop} {l : List Int} {pos n : Int}
theorem next_gen (hl : Bytes l) (h0 : 0 ≤ pos) (hp : pos < l.length) (hn : 0 < n) :
  0 ≤ l.getD pos.toNat 0 ∧ l.getD pos.toNat 0 ≤ 255 ∧ 0 ≤ l.getD pos.toNat 0 % n ∧ l.getD pos.toNat 0 % n < n ∧ l.getD pos.toNat 0 % n ≤ 255 := by
 have h := hl.b _ (getD_mem (i := pos.toNat) (d := 0) (by omega))
 have h1 := Int.emod_nonneg (l.getD pos.toNat 0) (by omega : n ≠ 0)
 have h2 := Int.emod_lt_of_pos (l.getD pos.toNat 0) hn
 have h3 : l.getD pos.toNat 0 % n ≤ l.getD pos.toNat 0 := by
  have e := Int.emod_add_mul_ediv (l.getD pos.toNat 0) n
  have e2 := Int.mul_nonneg (by omega : 0 ≤ n) (Int.ediv_nonneg h.1 (by omega : 0 ≤ n))
  omega
 exact ⟨h.1, h.2, h1, h2, by omega⟩
theorem next_ok (hl : Bytes l) (h0 : 0 ≤ pos) (hp : pos ≤ l.length) (hn : 0 < n) (k : Int × Int → Option α) (hk : ∀ v p : Int, 0 ≤ v → v < n → v ≤ 255 → 0 ≤ p → p ≤ l.length → Ok post (k (v, p))) :
  Ok post (brk (decide (pos ≥ (l.length : Int))) (k (0, pos)) (chk (InR (pos + 1)) (chk (InR (pos + 1 - 1)) (chk (0 ≤ pos + 1 - 1 ∧ pos + 1 - 1 < (l.length : Int)) (chk (InR (l.getD (pos + 1 - 1).toNat 0)) (chk (0 ≤ l.getD (pos + 1 - 1).toNat 0 ∧ l.getD (pos + 1 - 1).toNat 0 ≤ 9223372036854775807) (k (l.getD (pos + 1 - 1).toNat 0 % n, pos + 1)))))))) := by
 have hlen := hl.len
 refine ok_brk (fun _ => hk 0 pos (by omega) hn (by omega) h0 hp) (fun hc => ?_)
 have hc : pos < l.length := by simpa using hc
 rw [show pos + 1 - 1 = pos by omega]
 obtain ⟨h1, h2, h3, h4, h5⟩ := next_gen hl h0 hc hn
 exact ok_chk ⟨by omega, by omega⟩ (ok_chk ⟨by omega, by omega⟩ (ok_chk ⟨h0, hc⟩ (ok_chk ⟨by omega, by omega⟩ (ok_chk ⟨h1, by omega⟩ (hk _ _ h3 h4 h5 (by omega) (by omega))))))
theorem next_okS (hl : Bytes l) (h0 : 0 ≤ pos) (hp : pos ≤ l.length) (hn : 0 < n) (k : Int × Int → Option α) (hk : ∀ v p : Int, 0 ≤ v → v < n → v ≤ 255 → 0 ≤ p → p ≤ l.length → Ok post (k (v, p))) :
  Ok post (brk (decide (pos ≥ (l.length : Int))) (k (0, pos)) (chk (InR (pos + 1)) (chk (InR (pos + 1 - 1)) (chk (0 ≤ pos + 1 - 1 ∧ pos + 1 - 1 < (l.length : Int)) (chk (InR (l.getD (pos + 1 - 1).toNat 0)) (chk ((0 ≤ l.getD (pos + 1 - 1).toNat 0 ∧ l.getD (pos + 1 - 1).toNat 0 ≤ 9223372036854775807) ∧ 0 < n) (k (l.getD (pos + 1 - 1).toNat 0 % n, pos + 1)))))))) := by
 have hlen := hl.len
 refine ok_brk (fun _ => hk 0 pos (by omega) hn (by omega) h0 hp) (fun hc => ?_)
 have hc : pos < l.length := by simpa using hc
 rw [show pos + 1 - 1 = pos by omega]
 obtain ⟨h1, h2, h3, h4, h5⟩ := next_gen hl h0 hc hn
 exact ok_chk ⟨by omega, by omega⟩ (ok_chk ⟨by omega, by omega⟩ (ok_chk ⟨h0, hc⟩ (ok_chk ⟨by omega, by omega⟩ (ok_chk ⟨⟨h1, by omega⟩, hn⟩ (hk _ _ h3 h4 h5 (by omega) (by omega))))))
theorem next_ok0 {w0 w1 : Int} (e0 : w0 = 0) (e1 : w1 = 1) (hl : Bytes l) (hn : 0 < n) (k : Int × Int → Option α) (hk : ∀ v p : Int, 0 ≤ v → v < n → v ≤ 255 → 0 ≤ p → p ≤ l.length → Ok post (k (v, p))) :
  Ok post (brk (decide (0 ≥ (l.length : Int))) (k (0, 0)) (chk (0 ≤ w0 ∧ w0 < (l.length : Int)) (chk (InR (l.getD w0.toNat 0)) (chk (0 ≤ l.getD w0.toNat 0 ∧ l.getD w0.toNat 0 ≤ 9223372036854775807) (k (l.getD w0.toNat 0 % n, w1)))))) := by
 subst e0; subst e1
 refine ok_brk (fun _ => hk 0 0 (by omega) hn (by omega) (by omega) (by omega)) (fun hc => ?_)
 have hc : (0 : Int) < l.length := by have := of_decide_eq_false hc; omega
 obtain ⟨h1, h2, h3, h4, h5⟩ := next_gen hl (Int.le_refl 0) hc hn
 exact ok_chk ⟨by omega, hc⟩ (ok_chk ⟨by omega, by omega⟩ (ok_chk ⟨h1, by omega⟩ (hk _ _ h3 h4 h5 (by omega) (by omega))))
theorem ok_next {F : Nat} (hF : 0 < F) (hl : Bytes l) (h0 : 0 ≤ pos) (hp : pos ≤ l.length) (hn : 0 < n) {K : Int × Int → Option α} (hk : ∀ v p : Int, 0 ≤ v → v < n → v ≤ 255 → 0 ≤ p → p ≤ l.length → Ok post (K (v, p))) :
  Ok post (join F K fun k => brk (decide (pos ≥ (l.length : Int))) (k (0, pos)) (chk (InR (pos + 1)) (chk (InR (pos + 1 - 1)) (chk (0 ≤ pos + 1 - 1 ∧ pos + 1 - 1 < (l.length : Int)) (chk (InR (l.getD (pos + 1 - 1).toNat 0)) (chk (0 ≤ l.getD (pos + 1 - 1).toNat 0 ∧ l.getD (pos + 1 - 1).toNat 0 ≤ 9223372036854775807) (k (l.getD (pos + 1 - 1).toNat 0 % n, pos + 1)))))))) :=
 ok_join hF (fun x : Int × Int => 0 ≤ x.1 ∧ x.1 < n ∧ x.1 ≤ 255 ∧ 0 ≤ x.2 ∧ x.2 ≤ l.length) (fun x ⟨a, b, c, d, e⟩ => hk x.1 x.2 a b c d e) fun k hk => next_ok hl h0 hp hn k fun v p a b c d e => hk (v, p) ⟨a, b, c, d, e⟩
theorem ok_nextS {F : Nat} (hF : 0 < F) (hl : Bytes l) (h0 : 0 ≤ pos) (hp : pos ≤ l.length) (hn : 0 < n) {K : Int × Int → Option α} (hk : ∀ v p : Int, 0 ≤ v → v < n → v ≤ 255 → 0 ≤ p → p ≤ l.length → Ok post (K (v, p))) :
  Ok post (join F K fun k => brk (decide (pos ≥ (l.length : Int))) (k (0, pos)) (chk (InR (pos + 1)) (chk (InR (pos + 1 - 1)) (chk (0 ≤ pos + 1 - 1 ∧ pos + 1 - 1 < (l.length : Int)) (chk (InR (l.getD (pos + 1 - 1).toNat 0)) (chk ((0 ≤ l.getD (pos + 1 - 1).toNat 0 ∧ l.getD (pos + 1 - 1).toNat 0 ≤ 9223372036854775807) ∧ 0 < n) (k (l.getD (pos + 1 - 1).toNat 0 % n, pos + 1)))))))) :=
 ok_join hF (fun x : Int × Int => 0 ≤ x.1 ∧ x.1 < n ∧ x.1 ≤ 255 ∧ 0 ≤ x.2 ∧ x.2 ≤ l.length) (fun x ⟨a, b, c, d, e⟩ => hk x.1 x.2 a b c d e) fun k hk => next_okS hl h0 hp hn k fun v p a b c d e => hk (v, p) ⟨a, b, c, d, e⟩
theorem ok_next0 {F : Nat} (hF : 0 < F) (hl : Bytes l) (hn : 0 < n) {K : Int × Int → Option α} (hk : ∀ v p : Int, 0 ≤ v → v < n → v ≤ 255 → 0 ≤ p → p ≤ l.length → Ok post (K (v, p))) :
  Ok post (join F K fun k => brk (decide ((0 : Int) ≥ (l.length : Int))) (k (0, 0)) (chk (0 ≤ IntKind.i64.wrap (IntKind.i64.wrap (0 + 1) - 1) ∧ IntKind.i64.wrap (IntKind.i64.wrap (0 + 1) - 1) < (l.length : Int)) (chk (InR (l.getD (IntKind.i64.wrap (IntKind.i64.wrap (0 + 1) - 1)).toNat 0)) (chk (0 ≤ l.getD (IntKind.i64.wrap (IntKind.i64.wrap (0 + 1) - 1)).toNat 0 ∧ l.getD (IntKind.i64.wrap (IntKind.i64.wrap (0 + 1) - 1)).toNat 0 ≤ 9223372036854775807) (k (l.getD (IntKind.i64.wrap (IntKind.i64.wrap (0 + 1) - 1)).toNat 0 % n, IntKind.i64.wrap (0 + 1))))))) :=
 ok_join hF (fun x : Int × Int => 0 ≤ x.1 ∧ x.1 < n ∧ x.1 ≤ 255 ∧ 0 ≤ x.2 ∧ x.2 ≤ l.length) (fun x ⟨a, b, c, d, e⟩ => hk x.1 x.2 a b c d e) fun k hk => next_ok0 rfl rfl hl hn k fun v p a b c d e => hk (v, p) ⟨a, b, c, d, e⟩
end
end Go.KX

namespace Go.Proofs.Fs
open Go Go.KX
theorem within_eq (F : Nat) (a b c : Int) : fees_within F a b c = some (decide (a ≥ b) && decide (a ≤ c)) := rfl
theorem wb {x lo hi : Int} : (decide (x ≥ lo) && decide (x ≤ hi)) = decide (lo ≤ x ∧ x ≤ hi) := by
 by_cases h1 : x ≥ lo <;> by_cases h2 : x ≤ hi <;> simp [h1, h2] <;> omega
def mn (n c : Int) : Int := if n < c then n else c
def cutV (l : List Int) (n : Int) : Int := sumL (l.map (mn n))
theorem mn_le {n c : Int} : mn n c ≤ n ∧ mn n c ≤ c := by unfold mn; split <;> omega
theorem mn_mono {n m c : Int} (h : n ≤ m) : mn n c ≤ mn m c := by unfold mn; split <;> split <;> omega
theorem cutV_mono : ∀ (l : List Int) {n m : Int}, n ≤ m → cutV l n ≤ cutV l m
 | [], _, _, _ => Int.le_refl _
 | c :: l, n, m, h => by
  have h1 := cutV_mono l h
  have h2 := mn_mono (c := c) h
  simp only [cutV, List.map_cons, sumL] at h1 ⊢
  omega
theorem cutV_all : ∀ (l : List Int) {n : Int}, (∀ c ∈ l, c ≤ n) → cutV l n = sumL l
 | [], _, _ => rfl
 | c :: l, n, h => by
  have h1 := cutV_all l (n := n) fun x hx => h x (List.mem_cons_of_mem _ hx)
  have h2 := h c List.mem_cons_self
  simp only [cutV, List.map_cons, sumL] at h1 ⊢
  rw [h1]
  unfold mn
  rw [if_neg (by omega)]
def MaxOK (l : List Int) (m : Int) : Prop := m ∈ l ∧ ∀ c ∈ l, c ≤ m
theorem max_ok {F : Nat} {l : List Int} (hF : l.length < F) (hl : l.length ≤ 1000000) (h : 1 ≤ l.length) : Ok (MaxOK l) (slices_Max_int F l) := by
 unfold slices_Max_int
 refine ok_brkF (by simp; omega) (ok_chk ⟨by omega, by omega⟩ ?_)
 refine ok_loop (fun x : Int × Int => 1 ≤ x.1 ∧ x.1 ≤ l.length ∧ x.2 ∈ l ∧ ∀ j : Nat, (j : Int) < x.1 → l.getD j 0 ≤ x.2) (fun x : Int × Int => l.length - x.1.toNat) ⟨by simp, by simp; omega, getD_mem (by show (0 : Nat) < _; omega), fun j hj => by
  have hj : (j : Int) < 1 := hj
  obtain rfl : j = 0 := by omega
  exact Int.le_refl _⟩ (by simp; omega) ?_
 rintro ⟨i, s⟩ next ⟨i1, i2, i3, i4⟩ hn
 simp only at i1 i2 i3 i4
 dsimp only
 refine ok_brk (fun hc => ?_) (fun hc => ok_some ⟨i3, fun c hc' => ?_⟩)
 ·have hc : i < l.length := of_decide_eq_true hc
  refine ok_chk ⟨by omega, hc⟩ (ok_chk (show InR _ from ⟨by omega, by omega⟩) (hn _ ⟨by show 1 ≤ i + 1; omega, by show i + 1 ≤ _; omega, ?_, fun j hj => ?_⟩ (by show l.length - (i + 1).toNat < l.length - i.toNat; omega)))
  ·show (if l.getD i.toNat 0 > s then l.getD i.toNat 0 else s) ∈ l
   split
   ·exact getD_mem (by omega)
   ·exact i3
  ·have hj : (j : Int) < i + 1 := hj
   show l.getD j 0 ≤ if l.getD i.toNat 0 > s then l.getD i.toNat 0 else s
   by_cases e : (j : Int) < i
   ·have := i4 j e
    split <;> omega
   ·obtain rfl : j = i.toNat := by omega
    split <;> omega
 ·have hc : ¬ i < l.length := of_decide_eq_false hc
  obtain ⟨j, hj, rfl⟩ := List.getElem_of_mem hc'
  have := i4 j (by omega)
  rw [getD_get hj] at this
  exact this
structure LevelOK (l : List Int) (e : Int) (r : Int × Int) : Prop where
 n0 : 0 ≤ r.1
 top : r.1 = 0 ∨ ∃ c ∈ l, r.1 ≤ c
 cut : cutV l r.1 ≤ e
 left : r.2 = e - cutV l r.1
 max : (∀ c ∈ l, c ≤ r.1) ∨ e < cutV l (r.1 + 1)
theorem LevelOK.left0 {l : List Int} {e : Int} {r : Int × Int} (h : LevelOK l e r) : 0 ≤ r.2 := by have := h.left; have := h.cut; omega
def abv (l : List Int) (n : Int) : Nat := (l.filter fun c => decide (n < c)).length
theorem abv_cons (c : Int) (l : List Int) (n : Int) : abv (c :: l) n = (if n < c then 1 else 0) + abv l n := by
 unfold abv
 rw [List.filter_cons]
 by_cases h : n < c
 ·rw [if_pos (decide_eq_true h), if_pos h, List.length_cons]; omega
 ·rw [if_neg (by simpa using h), if_neg h]; omega
theorem cutV_line {a x : Int} (hax : a ≤ x) : ∀ l : List Int, (∀ c ∈ l, c ≤ a ∨ x ≤ c) → cutV l x = cutV l a + (x - a) * (abv l a : Int)
 | [], _ => by simp [cutV, sumL, abv]
 | c :: l, h => by
  have h1 := cutV_line hax l fun y hy => h y (List.mem_cons_of_mem _ hy)
  have h2 := h c List.mem_cons_self
  rw [abv_cons]
  simp only [cutV, List.map_cons, sumL] at h1 ⊢
  rw [h1]
  by_cases hc : a < c
  ·rw [if_pos hc]
   have e1 : mn x c = x := by unfold mn; split <;> omega
   have e2 : mn a c = a := by unfold mn; split <;> omega
   rw [e1, e2]
   push_cast
   rw [Int.mul_add]
   omega
  ·rw [if_neg hc]
   have e1 : mn x c = c := by unfold mn; split <;> omega
   have e2 : mn a c = c := by unfold mn; split <;> omega
   rw [e1, e2, Nat.zero_add]
   omega
def awV (n : Int) : Int → List Int → List Int
 | _, [] => []
 | left, c :: l => if c > n then (if left > 0 then (n + 1) :: awV n (left - 1) l else n :: awV n left l) else c :: awV n left l
theorem awV_cons (n left c : Int) (l : List Int) : awV n left (c :: l) = if c > n then (if left > 0 then (n + 1) :: awV n (left - 1) l else n :: awV n left l) else c :: awV n left l := rfl
theorem awV_length (n : Int) : ∀ (l : List Int) (left : Int), (awV n left l).length = l.length
 | [], _ => rfl
 | c :: l, left => by
  unfold awV
  split
  ·split <;> simp [awV_length n l]
  ·simp [awV_length n l]
def AwOK (l : List Int) (e : Int) (out : List Int) : Prop := ∃ r, LevelOK l e r ∧ out = awV r.1 r.2 l
theorem AwOK.length {l : List Int} {e : Int} {a : List Int} (h : AwOK l e a) : a.length = l.length := by
 obtain ⟨r, _, rfl⟩ := h
 exact awV_length _ _ _
def In1 (n c a : Int) : Prop := mn n c ≤ a ∧ a ≤ mn (n + 1) c
theorem In1.cases {n c a : Int} (h : In1 n c a) : (c ≤ n ∧ a = c) ∨ (n < c ∧ (a = n ∨ a = n + 1)) := by
 obtain ⟨h1, h2⟩ := h
 unfold mn at h1 h2
 split at h1 <;> split at h2 <;> omega
theorem in1_low {n c : Int} : In1 n c (mn n c) := ⟨Int.le_refl _, mn_mono (by omega)⟩
theorem in1_high {n c : Int} (h : n < c) : In1 n c (n + 1) := by
 unfold In1 mn
 constructor <;> split <;> omega
inductive All2 (R : Int → Int → Prop) : List Int → List Int → Prop
 | nil : All2 R [] []
 | cons {x y : Int} {l r : List Int} : R x y → All2 R l r → All2 R (x :: l) (y :: r)
theorem All2.length {R : Int → Int → Prop} {l r : List Int} (h : All2 R l r) : l.length = r.length := by
 induction h with
 | nil => rfl
 | cons _ _ ih => simp [ih]
theorem All2.get {R : Int → Int → Prop} {l r : List Int} (h : All2 R l r) : ∀ {i : Nat}, i < l.length → R (l.getD i 0) (r.getD i 0) := by
 induction h with
 | nil => intro i hi; simp at hi
 | cons h1 _ ih =>
  intro i hi
  cases i with
  | zero => exact h1
  | succ i => exact ih (by simpa using hi)
theorem awV_in (n : Int) : ∀ (l : List Int) (left : Int), All2 (In1 n) l (awV n left l)
 | [], _ => .nil
 | c :: l, left => by
  rw [awV_cons]
  by_cases h : c > n
  ·rw [if_pos h]
   have e : mn n c = n := by unfold mn; rw [if_pos (by omega)]
   split
   ·exact .cons (in1_high h) (awV_in n l _)
   ·exact .cons (by have := in1_low (n := n) (c := c); rwa [e] at this) (awV_in n l _)
  ·rw [if_neg h]
   have e : mn n c = c := by unfold mn; rw [if_neg (by omega)]
   exact .cons (by have := in1_low (n := n) (c := c); rwa [e] at this) (awV_in n l _)
theorem awV_sum (n : Int) : ∀ (l : List Int) (left : Int), 0 ≤ left → sumL (awV n left l) = cutV l n + (if left < (abv l n : Int) then left else (abv l n : Int))
 | [], left, h => by
  have e : ((abv [] n : Nat) : Int) = 0 := rfl
  rw [e, if_neg (by omega)]; rfl
 | c :: l, left, h => by
  have h0 := awV_sum n l left h
  have hcut : cutV (c :: l) n = mn n c + cutV l n := rfl
  rw [awV_cons, hcut]
  by_cases hc : c > n
  ·have ha : (abv (c :: l) n : Int) = abv l n + 1 := by rw [abv_cons, if_pos (show n < c from hc)]; omega
   have e : mn n c = n := by unfold mn; rw [if_pos (show n < c from hc)]
   rw [if_pos hc, ha, e]
   by_cases hl : left > 0
   ·have h1 := awV_sum n l (left - 1) (by omega)
    rw [if_pos hl]
    simp only [sumL]
    rw [h1]
    split <;> split <;> omega
   ·rw [if_neg hl]
    simp only [sumL]
    rw [h0]
    split <;> split <;> omega
  ·have ha : (abv (c :: l) n : Int) = abv l n := by rw [abv_cons, if_neg (show ¬ n < c from hc)]; omega
   have e : mn n c = c := by unfold mn; rw [if_neg (show ¬ n < c from hc)]
   rw [if_neg hc, ha, e]
   simp only [sumL]
   rw [h0]; omega
theorem awV_mono (n : Int) : ∀ (l : List Int) (left left' : Int), left ≤ left' → All2 (fun a b => a ≤ b) (awV n left l) (awV n left' l)
 | [], _, _, _ => .nil
 | c :: l, left, left', h => by
  rw [awV_cons, awV_cons]
  by_cases hc : c > n
  ·rw [if_pos hc, if_pos hc]
   by_cases h1 : left > 0
   ·rw [if_pos h1, if_pos (by omega)]
    exact .cons (Int.le_refl _) (awV_mono n l _ _ (by omega))
   ·rw [if_neg h1]
    split
    ·exact .cons (by omega) (awV_mono' n l left (left' - 1) (by omega))
    ·exact .cons (Int.le_refl _) (awV_mono n l _ _ h)
  ·rw [if_neg hc, if_neg hc]
   exact .cons (Int.le_refl _) (awV_mono n l _ _ h)
where
 awV_mono' (n : Int) (l : List Int) (left left' : Int) (h : left ≤ 0 ∧ 0 ≤ left') : All2 (fun a b => a ≤ b) (awV n left l) (awV n left' l) := awV_mono n l left left' (by omega)
theorem AwOK.mono {l : List Int} {e e' : Int} {a b : List Int} (h : AwOK l e a) (h' : AwOK l e' b) (he : e ≤ e') : ∀ i, i < l.length → a.getD i 0 ≤ b.getD i 0 := by
 obtain ⟨r, hr, rfl⟩ := h
 obtain ⟨s, hs, rfl⟩ := h'
 intro i hi
 have h1 := (awV_in r.1 l r.2).get hi
 have h2 := (awV_in s.1 l s.2).get hi
 rcases Int.lt_trichotomy r.1 s.1 with q | q | q
 ·have := h1.cases
  have := h2.cases
  omega
 ·have hl : r.2 ≤ s.2 := by rw [hr.left, hs.left, q]; omega
  rw [q]
  exact (awV_mono s.1 l r.2 s.2 hl).get (by rw [awV_length]; exact hi)
 ·exfalso
  have := hs.n0
  rcases hr.top with p | ⟨c, hc, p⟩
  ·omega
  ·rcases hs.max with u | u
   ·have := u c hc; omega
   ·have h1 := cutV_mono l (n := s.1 + 1) (m := r.1) (by omega)
    have h2 := hr.cut
    omega
theorem AwOK.sum {l : List Int} {e : Int} {a : List Int} (h : AwOK l e a) : sumL a = if sumL l < e then sumL l else e := by
 obtain ⟨r, hr, rfl⟩ := h
 have h0 := hr.left0
 rw [awV_sum _ _ _ h0]
 have h1 := hr.left
 have h2 := hr.cut
 have key : (∀ c ∈ l, c ≤ r.1) → cutV l r.1 = sumL l ∧ abv l r.1 = 0 := fun q => by
  refine ⟨cutV_all l q, ?_⟩
  unfold abv
  rw [List.length_eq_zero_iff, List.filter_eq_nil_iff]
  intro c hc
  have := q c hc
  simp; omega
 rcases hr.max with q | q
 ·obtain ⟨q1, q2⟩ := key q
  rw [q1, q2]
  rw [q1] at h2 h1
  split <;> split <;> omega
 ·have hline := cutV_line (a := r.1) (x := r.1 + 1) (by omega) l fun c _ => by omega
  have hall : cutV l (r.1 + 1) ≤ sumL l := by
   have : ∀ l : List Int, ∀ m, cutV l m ≤ sumL l := by
    intro l m
    induction l with
    | nil => exact Int.le_refl _
    | cons c l ih =>
     simp only [cutV, List.map_cons, sumL] at ih ⊢
     have := (mn_le (n := m) (c := c)).2
     omega
   exact this l _
  rw [hline] at q hall
  have : (r.1 + 1 - r.1) * (abv l r.1 : Int) = (abv l r.1 : Int) := by rw [show r.1 + 1 - r.1 = 1 by omega]; omega
  rw [this] at q hall
  split <;> split <;> omega
abbrev b0 : Band := ⟨0, 0⟩
def BandsOK : Int → List Band → Prop
 | _, [] => True
 | b, x :: l => (b + 1 ≤ x.Upto ∧ x.Upto ≤ 500000) ∧ (0 ≤ x.Rate ∧ x.Rate ≤ 1000) ∧ BandsOK x.Upto l
def endB : Int → List Band → Int
 | b, [] => b
 | _, x :: l => endB x.Upto l
def ClassOK : Int → List Int → Prop
 | _, [] => True
 | m, x :: l => (0 ≤ x ∧ x ≤ m) ∧ ClassOK x l
def classes (t : Tariff) : List Int := [t.Class.a0, t.Class.a1, t.Class.a2, t.Class.a3, t.Class.a4, t.Class.a5, t.Class.a6]
structure Nums (t : Tariff) : Prop where
 most : 0 ≤ t.Most ∧ t.Most ≤ 1000000000
 least : 0 ≤ t.Least ∧ t.Least ≤ t.Most
 paid : 1 ≤ t.Paid ∧ t.Paid ≤ 1000
 mile : 0 ≤ t.Mile ∧ t.Mile ≤ 100000
 escort : 0 ≤ t.Escort ∧ t.Escort ≤ 1000000
 cut : 0 ≤ t.Cut ∧ t.Cut ≤ 1000000
 tow : 0 ≤ t.Tow ∧ t.Tow ≤ 1000000
structure TarOK (t : Tariff) : Prop where
 len : 1 ≤ t.Bands.length ∧ t.Bands.length ≤ 8
 bands : BandsOK 0 t.Bands
 last : endB 0 t.Bands = 500000
 cls : ClassOK 300 (classes t)
 nums : Nums t
open Classical in
noncomputable def checkV (t : Tariff) : Int := if 1 ≤ t.Bands.length ∧ t.Bands.length ≤ 8 then (if TarOK t then 0 else 130) else 2
theorem checkV_zero {t : Tariff} (h : checkV t = 0) : TarOK t := by
 unfold checkV at h
 split at h
 ·split at h
  ·assumption
  ·omega
 ·omega
theorem TarOK.check {t : Tariff} (h : TarOK t) : checkV t = 0 := by
 unfold checkV
 rw [if_pos h.len, if_pos h]
theorem checkV_bad {t : Tariff} (hl : 1 ≤ t.Bands.length ∧ t.Bands.length ≤ 8) (h : ¬ TarOK t) : (130 : Int) = checkV t := by
 unfold checkV
 rw [if_pos hl, if_neg h]
theorem BandsOK.split : ∀ {l : List Band} {b : Int} (i : Nat), BandsOK b l → BandsOK (endB b (l.take i)) (l.drop i)
 | _, _, 0, h => h
 | [], _, i + 1, _ => trivial
 | x :: l, _, i + 1, h => by
  show BandsOK (endB x.Upto (l.take i)) (l.drop i)
  exact BandsOK.split i h.2.2
theorem endB_snoc : ∀ (l : List Band) (b : Int) (x : Band), endB b (l ++ [x]) = x.Upto
 | [], _, _ => rfl
 | y :: l, _, x => endB_snoc l y.Upto x
theorem BandsOK.join : ∀ {l r : List Band} {b : Int}, BandsOK b l → BandsOK (endB b l) r → BandsOK b (l ++ r)
 | [], _, _, _, h => h
 | _ :: _, _, _, h, h2 => ⟨h.1, h.2.1, BandsOK.join h.2.2 h2⟩
theorem BandsOK.left : ∀ {l r : List Band} {b : Int}, BandsOK b (l ++ r) → BandsOK b l
 | [], _, _, _ => trivial
 | _ :: _, _, _, h => ⟨h.1, h.2.1, BandsOK.left h.2.2⟩
theorem ClassOK.left : ∀ {l r : List Int} {b : Int}, ClassOK b (l ++ r) → ClassOK b l
 | [], _, _, _ => trivial
 | _ :: _, _, _, h => ⟨h.1, ClassOK.left h.2⟩
def endC : Int → List Int → Int
 | b, [] => b
 | _, x :: l => endC x l
theorem endC_snoc : ∀ (l : List Int) (b : Int) (x : Int), endC b (l ++ [x]) = x
 | [], _, _ => rfl
 | y :: l, _, x => endC_snoc l y x
theorem ClassOK.join : ∀ {l r : List Int} {b : Int}, ClassOK b l → ClassOK (endC b l) r → ClassOK b (l ++ r)
 | [], _, _, _, h => h
 | _ :: _, _, _, h, h2 => ⟨h.1, ClassOK.join h.2 h2⟩
theorem ClassOK.right : ∀ {l r : List Int} {b : Int}, ClassOK b (l ++ r) → ClassOK (endC b l) r
 | [], _, _, h => h
 | _ :: l, _, _, h => ClassOK.right (l := l) h.2
theorem ClassOK.all : ∀ {l : List Int} {m : Int}, ClassOK m l → ∀ x ∈ l, 0 ≤ x ∧ x ≤ m
 | y :: l, m, h, x, hx => by
  rcases List.mem_cons.1 hx with rfl | hx
  ·exact h.1
  ·have := ClassOK.all h.2 x hx
   have := h.1
   omega
theorem take_one {α : Type} {l : List α} {i : Nat} {d : α} (h : i < l.length) : l = l.take i ++ (l.getD i d :: l.drop (i + 1)) := by
 rw [← drop_get h, List.take_append_drop]
theorem check1_eq (F : Nat) (c : Int) : fees_Check_1 F c = some (!decide (0 ≤ c ∧ c ≤ 1000000)) := by
 show some (!(decide (c ≥ 0) && decide (c ≤ 1000000))) = _
 rw [wb]
theorem Check_eq {F : Nat} (hF : 100 < F) (t : Tariff) : fees_Check F t = some (checkV t) := by
 refine Ok.eq ?_
 unfold fees_Check
 rw [within_eq, wb]
 refine ok_bnde rfl (ok_brk (fun hb => ok_some ?_) (fun hb => ?_))
 ·have := nd_true hb
  unfold checkV; rw [if_neg (by omega)]
 have hlen := nd_false hb
 have hl : 1 ≤ t.Bands.length ∧ t.Bands.length ≤ 8 := by omega
 refine ok_loop (fun x : Int × Int => 0 ≤ x.1 ∧ x.1 ≤ t.Bands.length ∧ x.2 = endB 0 (t.Bands.take x.1.toNat) ∧ 0 ≤ x.2 ∧ x.2 ≤ 500000 ∧ BandsOK 0 (t.Bands.take x.1.toNat)) (fun x : Int × Int => t.Bands.length - x.1.toNat)
  ⟨by simp, by simp, rfl, by simp, by simp, trivial⟩ (by simp; omega) ?_
 rintro ⟨i, u⟩ next ⟨i1, i2, i3, i4, i5, i6⟩ hn
 simp only at i1 i2 i3 i4 i5 i6
 dsimp only
 refine ok_brk (fun hc => ?_) (fun hc => ?_)
 ·have hc : i < t.Bands.length := of_decide_eq_true hc
  have hi : i.toNat < t.Bands.length := by omega
  rw [within_eq, within_eq, wb, wb]
  refine ok_chk ⟨i1, hc⟩ (ok_chk (show InR _ from ⟨by omega, by omega⟩) (ok_bnde rfl ?_))
  by_cases h1 : u + 1 ≤ (t.Bands.getD i.toNat ⟨0, 0⟩).Upto ∧ (t.Bands.getD i.toNat ⟨0, 0⟩).Upto ≤ 500000
  ·rw [decide_eq_true h1]
   refine ok_bnde (b := decide (0 ≤ (t.Bands.getD i.toNat ⟨0, 0⟩).Rate ∧ (t.Bands.getD i.toNat ⟨0, 0⟩).Rate ≤ 1000)) rfl (ok_brk (fun hb => ok_some ?_) (fun hb => ok_chk (show InR _ from ⟨by omega, by omega⟩) (hn _ ⟨by show 0 ≤ i + 1; omega, by show i + 1 ≤ _; omega, ?_, by show 0 ≤ (t.Bands.getD i.toNat ⟨0, 0⟩).Upto; omega, h1.2, ?_⟩ (by show t.Bands.length - (i + 1).toNat < t.Bands.length - i.toNat; omega))))
   ·refine checkV_bad hl fun hk => ?_
    have := hk.bands.split i.toNat
    rw [drop_get (d := b0) hi] at this
    rw [Bool.not_true, Bool.false_or] at hb
    exact nd_true hb this.2.1
   ·show (t.Bands.getD i.toNat ⟨0, 0⟩).Upto = _
    rw [show (i + 1).toNat = i.toNat + 1 by omega, take_succ' (d := b0) hi, endB_snoc]
   ·rw [show (i + 1).toNat = i.toNat + 1 by omega, take_succ' (d := b0) hi]
    rw [Bool.not_true, Bool.false_or] at hb
    refine i6.join ⟨?_, nd_false hb, trivial⟩
    rw [← i3]; exact h1
  ·rw [decide_eq_false h1]
   refine ok_bnde (b := false) rfl (ok_brkT rfl (ok_some (checkV_bad hl fun hk => h1 ?_)))
   have := hk.bands.split i.toNat
   rw [drop_get (d := b0) hi, ← i3] at this
   exact this.1
 have hc : ¬ i < t.Bands.length := of_decide_eq_false hc
 rw [List.take_of_length_le (by omega)] at i3 i6
 have hcl : ([t.Class.a0, t.Class.a1, t.Class.a2, t.Class.a3, t.Class.a4, t.Class.a5, t.Class.a6] : List Int) = classes t := rfl
 have h7 : (classes t).length = 7 := rfl
 rw [hcl]
 refine ok_loop (fun x : Int × Int => 0 ≤ x.2 ∧ x.2 ≤ 7 ∧ x.1 = endC 300 ((classes t).take x.2.toNat) ∧ ClassOK 300 ((classes t).take x.2.toNat)) (fun x : Int × Int => 7 - x.2.toNat)
  ⟨by simp, by simp, rfl, trivial⟩ (by simp; omega) ?_
 rintro ⟨m, j⟩ next ⟨j1, j2, j3, j4⟩ hn
 simp only at j1 j2 j3 j4
 dsimp only
 refine ok_brk (fun hc => ?_) (fun hc => ?_)
 ·have hc : j < 7 := of_decide_eq_true hc
  have hj : j.toNat < (classes t).length := by omega
  rw [within_eq, wb]
  refine ok_chk ⟨j1, hc⟩ (ok_bnde rfl (ok_brk (fun hb => ok_some (checkV_bad hl fun hk => ?_)) (fun hb => ok_chk (show InR _ from ⟨by omega, by omega⟩) (hn _ ⟨by show 0 ≤ j + 1; omega, by show j + 1 ≤ 7; omega, ?_, ?_⟩ (by show 7 - (j + 1).toNat < 7 - j.toNat; omega)))))
  ·have := hk.cls
   rw [take_one (d := 0) hj] at this
   have := this.right
   rw [← j3] at this
   exact nd_true hb this.1
  ·show (classes t).getD j.toNat 0 = _
   rw [show (j + 1).toNat = j.toNat + 1 by omega, take_succ' (d := 0) hj, endC_snoc]
  ·rw [show (j + 1).toNat = j.toNat + 1 by omega, take_succ' (d := 0) hj]
   refine j4.join ⟨?_, trivial⟩
   rw [← j3]; exact nd_false hb
 have hc : ¬ j < 7 := of_decide_eq_false hc
 rw [List.take_of_length_le (by omega)] at j4
 refine ok_brk (fun hb => ok_some (checkV_bad hl fun hk => ?_)) (fun hb => ?_)
 ·have := hk.last
  simp at hb; omega
 have hu : u = 500000 := by simpa using hb
 rw [within_eq, within_eq, within_eq, within_eq, wb, wb, wb, wb]
 refine ok_bnde rfl (ok_brk (fun hb => ok_some (checkV_bad hl fun hk => nd_true hb hk.nums.most)) (fun q1 => ?_))
 refine ok_bnde rfl (ok_brk (fun hb => ok_some (checkV_bad hl fun hk => nd_true hb hk.nums.least)) (fun q2 => ?_))
 refine ok_bnde rfl (ok_brk (fun hb => ok_some (checkV_bad hl fun hk => nd_true hb hk.nums.paid)) (fun q3 => ?_))
 refine ok_bnde rfl (ok_brk (fun hb => ok_some (checkV_bad hl fun hk => nd_true hb hk.nums.mile)) (fun q4 => ?_))
 refine ok_join (by omega) (fun x : Int => (x = -1 ∧ TarOK t) ∨ (0 ≤ x ∧ ¬ TarOK t)) (fun x hx => ok_brk (fun hb => ok_some ?_) (fun hb => ok_some ?_)) fun k hk => ?_
 ·have hb : x ≥ 0 := of_decide_eq_true hb
  rcases hx with ⟨rfl, _⟩ | ⟨_, hx⟩
  ·omega
  ·exact checkV_bad hl hx
 ·have hb : ¬ x ≥ 0 := of_decide_eq_false hb
  rcases hx with ⟨_, hx⟩ | ⟨hx, _⟩
  ·exact hx.check.symm
  ·omega
 ·refine ok_find (l := [t.Escort, t.Cut, t.Tow]) (p := fun c => !decide (0 ≤ c ∧ c ≤ 1000000)) (by simp; omega) (by simp) (fun c _ => check1_eq F c) (fun i hi hp => hk _ (.inr ⟨by omega, fun q => ?_⟩)) (fun hp => hk _ (.inl ⟨rfl, ?_⟩))
  ·have hm := getD_mem (d := 0) hi
   have hp := nd_true hp
   simp only [List.mem_cons, List.not_mem_nil, or_false] at hm
   rcases hm with e | e | e <;> rw [e] at hp
   ·exact hp q.nums.escort
   ·exact hp q.nums.cut
   ·exact hp q.nums.tow
  ·refine ⟨hl, i6, by rw [← i3]; exact hu, j4, nd_false q1, nd_false q2, nd_false q3, nd_false q4, nd_false (hp t.Escort (by simp)), nd_false (hp t.Cut (by simp)), nd_false (hp t.Tow (by simp))⟩
theorem endB_take {l : List Band} {i : Nat} (h : i < l.length) (b : Int) : endB b (l.take (i + 1)) = (l.getD i b0).Upto := by
 rw [take_succ' (d := b0) h, endB_snoc]
def part (b n u : Int) : Int := if (if u < n then u else n) - b > 0 then (if u < n then u else n) - b else 0
def bandSum (n : Int) : Int → List Band → Int
 | _, [] => 0
 | b, x :: l => x.Rate * part b n x.Upto + bandSum n x.Upto l
def roundV (t : Tariff) (s c : Int) : Int := (s * (classes t).getD c.toNat 0 + 50) / 100
def clamp (t : Tariff) (x : Int) : Int := if (if x > t.Least then x else t.Least) < t.Most then if x > t.Least then x else t.Least else t.Most
def duesV (t : Tariff) (c n : Int) : Int := clamp t (roundV t (bandSum n 0 t.Bands) c)
theorem part_le {b n u : Int} (h : b ≤ u) : 0 ≤ part b n u ∧ part b n u ≤ u - b := by
 unfold part; (repeat' split) <;> omega
theorem bandSum_bound {n : Int} : ∀ {l : List Band} {b : Int}, BandsOK b l → 0 ≤ bandSum n b l ∧ bandSum n b l ≤ 1000 * (endB b l - b)
 | [], b, _ => by simp only [bandSum, endB]; omega
 | x :: l, b, h => by
  have h1 := bandSum_bound (n := n) h.2.2
  have h2 := part_le (b := b) (n := n) (u := x.Upto) (by have := h.1.1; omega)
  have h3 : 0 ≤ x.Rate * part b n x.Upto := Int.mul_nonneg h.2.1.1 h2.1
  have h4 : x.Rate * part b n x.Upto ≤ 1000 * part b n x.Upto := Int.mul_le_mul_of_nonneg_right h.2.1.2 h2.1
  simp only [bandSum, endB]
  omega
theorem bandSum_snoc (n : Int) (x : Band) : ∀ (l : List Band) (b : Int), bandSum n b (l ++ [x]) = bandSum n b l + x.Rate * part (endB b l) n x.Upto
 | [], b => by simp only [List.nil_append, bandSum, endB]; omega
 | y :: l, b => by
  have := bandSum_snoc n x l y.Upto
  simp only [List.cons_append, bandSum, endB, this]
  omega
theorem clamp_bound {t : Tariff} {x : Int} (h : t.Least ≤ t.Most) : t.Least ≤ clamp t x ∧ clamp t x ≤ t.Most := by
 unfold clamp
 (repeat' split) <;> omega
theorem TarOK.class {t : Tariff} (h : TarOK t) {c : Int} (h0 : 0 ≤ c) (h1 : c ≤ 6) : 0 ≤ (classes t).getD c.toNat 0 ∧ (classes t).getD c.toNat 0 ≤ 300 :=
 h.cls.all _ (getD_mem (by show c.toNat < 7; omega))
theorem TarOK.sum {t : Tariff} (h : TarOK t) (n : Int) : 0 ≤ bandSum n 0 t.Bands ∧ bandSum n 0 t.Bands ≤ 500000000 := by
 have h1 := bandSum_bound (n := n) h.bands
 rw [h.last] at h1
 omega
theorem TarOK.prod {t : Tariff} (h : TarOK t) {c : Int} (h0 : 0 ≤ c) (h1 : c ≤ 6) (n : Int) : 0 ≤ bandSum n 0 t.Bands * (classes t).getD c.toNat 0 ∧ bandSum n 0 t.Bands * (classes t).getD c.toNat 0 ≤ 150000000000 := by
 have h2 := h.class h0 h1
 have h3 := h.sum n
 refine ⟨Int.mul_nonneg h3.1 h2.1, ?_⟩
 have h4 : bandSum n 0 t.Bands * (classes t).getD c.toNat 0 ≤ bandSum n 0 t.Bands * 300 := Int.mul_le_mul_of_nonneg_left h2.2 h3.1
 omega
theorem dues_eq {F : Nat} (hF : 100 < F) {t : Tariff} (h : TarOK t) {c n : Int} (h0 : 0 ≤ c) (h1 : c ≤ 6) (hn0 : 0 ≤ n) (hn1 : n ≤ 500000) : fees_Tariff_dues F t c n = some (duesV t c n) := by
 refine Ok.eq ?_
 unfold fees_Tariff_dues
 have hl := h.len
 refine ok_loop (fun x : Int × Int × Int => 0 ≤ x.2.1 ∧ x.2.1 ≤ t.Bands.length ∧ x.1 = endB 0 (t.Bands.take x.2.1.toNat) ∧ 0 ≤ x.1 ∧ x.1 ≤ 500000 ∧ x.2.2 = bandSum n 0 (t.Bands.take x.2.1.toNat) ∧ 0 ≤ x.2.2 ∧ x.2.2 ≤ 1000 * x.1) (fun x : Int × Int × Int => t.Bands.length - x.2.1.toNat)
  ⟨by simp, by simp, rfl, by simp, by simp, rfl, by simp, by simp⟩ (by simp; omega) ?_
 rintro ⟨u, i, s⟩ next ⟨i1, i2, i3, i4, i5, i6, i7, i8⟩ hn
 simp only at i1 i2 i3 i4 i5 i6 i7 i8
 dsimp only
 refine ok_brk (fun hc => ?_) (fun hc => ?_)
 ·have hc : i < t.Bands.length := of_decide_eq_true hc
  have hi : i.toNat < t.Bands.length := by omega
  have hs := h.bands.split i.toNat
  rw [drop_get (d := b0) hi, ← i3] at hs
  have e1 : endB 0 (t.Bands.take (i + 1).toNat) = (t.Bands.getD i.toNat b0).Upto := by rw [show (i + 1).toNat = i.toNat + 1 by omega, endB_take hi]
  have e2 : bandSum n 0 (t.Bands.take (i + 1).toNat) = s + (t.Bands.getD i.toNat b0).Rate * part u n (t.Bands.getD i.toNat b0).Upto := by
   rw [show (i + 1).toNat = i.toNat + 1 by omega, take_succ' (d := b0) hi, bandSum_snoc, ← i3, ← i6]
  generalize hx : t.Bands.getD i.toNat ⟨0, 0⟩ = X
  have hx' : t.Bands.getD i.toNat b0 = X := hx
  rw [hx'] at hs e1 e2
  obtain ⟨g1, g2, _⟩ := hs
  have h2 := part_le (b := u) (n := n) (u := X.Upto) (by omega)
  have h3 : 0 ≤ X.Rate * part u n X.Upto := Int.mul_nonneg g2.1 h2.1
  have h4 : X.Rate * part u n X.Upto ≤ 1000 * part u n X.Upto := Int.mul_le_mul_of_nonneg_right g2.2 h2.1
  have hp : (if (if X.Upto < n then X.Upto else n) - u > 0 then (if X.Upto < n then X.Upto else n) - u else 0) = part u n X.Upto := rfl
  rw [hp]
  have hm : -500000 ≤ (if X.Upto < n then X.Upto else n) - u ∧ (if X.Upto < n then X.Upto else n) - u ≤ 500000 := by split <;> omega
  exact ok_chk ⟨i1, hc⟩ (ok_chk (show InR _ from ⟨by omega, by omega⟩) (ok_chk (show InR _ from ⟨by omega, by omega⟩) (ok_chk (show InR _ from ⟨by omega, by omega⟩) (ok_chk (show InR _ from ⟨by omega, by omega⟩) (hn _ ⟨by show 0 ≤ i + 1; omega, by show i + 1 ≤ _; omega, e1.symm, by show 0 ≤ X.Upto; omega, g1.2, e2.symm, by show 0 ≤ s + _; omega, by show s + _ ≤ 1000 * X.Upto; omega⟩ (by show t.Bands.length - (i + 1).toNat < t.Bands.length - i.toNat; omega))))))
 ·have hc : ¬ i < t.Bands.length := of_decide_eq_false hc
  rw [List.take_of_length_le (by omega)] at i6
  have hp := h.prod h0 h1 n
  rw [← i6] at hp
  have hcl : ([t.Class.a0, t.Class.a1, t.Class.a2, t.Class.a3, t.Class.a4, t.Class.a5, t.Class.a6] : List Int) = classes t := rfl
  rw [hcl]
  refine ok_chk ⟨h0, by show c < 7; omega⟩ (ok_chk (show InR _ from ⟨by omega, by omega⟩) (ok_chk (show InR _ from ⟨by omega, by omega⟩) (ok_chk ⟨by omega, by omega⟩ (ok_some ?_))))
  show clamp t (roundV t s c) = _
  rw [i6]; rfl
structure LargeOK (t : Tariff) (c a n : Int) : Prop where
 b : 0 ≤ n ∧ n ≤ 500000
 at_ : n = 0 ∨ duesV t c n ≤ a
 next : n = 500000 ∨ a < duesV t c (n + 1)
structure VoyOK (v : Voyage) : Prop where
 ship : 0 ≤ v.Ship ∧ v.Ship ≤ 1000000
 cls : 0 ≤ v.Class ∧ v.Class ≤ 6
 tonnes : 1 ≤ v.Tonnes ∧ v.Tonnes ≤ 500000
 tenths : 0 ≤ v.Tenths ∧ v.Tenths ≤ 100000
 escort : 0 ≤ v.Escort ∧ v.Escort ≤ 1000
 cut : 0 ≤ v.Cut ∧ v.Cut ≤ 1000
 tow : 0 ≤ v.Tow ∧ v.Tow ≤ 1000
theorem right1_eq (F : Nat) (c : Int) : fees_Voyage_right_1 F c = some (!decide (0 ≤ c ∧ c ≤ 1000)) := by
 show some (!(decide (c ≥ 0) && decide (c ≤ 1000))) = _
 rw [wb]
def IsB (p : Prop) (b : Bool) : Prop := b = true ↔ p
theorem right_ok {F : Nat} (hF : 100 < F) (v : Voyage) : Ok (IsB (VoyOK v)) (fees_Voyage_right F v) := by
 unfold fees_Voyage_right
 simp only [within_eq, wb]
 have no : ¬ VoyOK v → Ok (IsB (VoyOK v)) (some false) := fun h => ok_some ⟨(fun e => nomatch e), fun q => absurd q h⟩
 refine ok_bnde rfl (ok_brk (fun h1 => ?_) (fun h1 => no fun q => (of_decide_eq_false h1) q.ship))
 refine ok_bnde rfl (ok_brk (fun h2 => ?_) (fun h1 => no fun q => (of_decide_eq_false h1) q.cls))
 refine ok_bnde rfl (ok_brk (fun h3 => ?_) (fun h1 => no fun q => (of_decide_eq_false h1) q.tonnes))
 refine ok_bnde rfl (ok_brk (fun h4 => ?_) (fun h1 => no fun q => (of_decide_eq_false h1) q.tenths))
 refine ok_join (by omega) (fun x : Int => (x = -1 ∧ VoyOK v) ∨ (0 ≤ x ∧ ¬ VoyOK v)) (fun x hx => ok_some ?_) fun k hk => ?_
 ·rcases hx with ⟨rfl, q⟩ | ⟨q1, q2⟩
  ·exact ⟨fun _ => q, fun _ => rfl⟩
  ·rw [decide_eq_true (show x ≥ 0 from q1)]
   exact ⟨(fun e => nomatch e), fun q => absurd q q2⟩
 ·refine ok_find (l := [v.Escort, v.Cut, v.Tow]) (p := fun c => !decide (0 ≤ c ∧ c ≤ 1000)) (by simp; omega) (by simp) (fun c _ => right1_eq F c) (fun i hi hp => hk _ (.inr ⟨by omega, fun q => ?_⟩)) (fun hp => hk _ (.inl ⟨rfl, ?_⟩))
  ·have hm := getD_mem (d := 0) hi
   have hp := nd_true hp
   simp only [List.mem_cons, List.not_mem_nil, or_false] at hm
   rcases hm with e | e | e <;> rw [e] at hp
   ·exact hp q.escort
   ·exact hp q.cut
   ·exact hp q.tow
  ·exact ⟨of_decide_eq_true h1, of_decide_eq_true h2, of_decide_eq_true h3, of_decide_eq_true h4, nd_false (hp v.Escort (by simp)), nd_false (hp v.Cut (by simp)), nd_false (hp v.Tow (by simp))⟩
def milesV (t : Tariff) (v : Voyage) : Int := (t.Mile * v.Tenths * ((v.Tonnes + 999) / 1000) + 9) / 10
def linesV (t : Tariff) (v : Voyage) (calls : Int) : A5ofInt := ⟨if calls < t.Paid then duesV t v.Class v.Tonnes else 0, milesV t v, t.Escort * v.Escort, t.Cut * v.Cut, t.Tow * v.Tow⟩
def sumA (l : A5ofInt) : Int := 0 + l.a0 + l.a1 + l.a2 + l.a3 + l.a4
def billV (t : Tariff) (v : Voyage) (calls : Int) : Account := ⟨linesV t v calls, sumA (linesV t v calls)⟩
theorem mul_bound {a b A B : Int} (h : 0 ≤ a ∧ a ≤ A) (h' : 0 ≤ b ∧ b ≤ B) : 0 ≤ a * b ∧ a * b ≤ A * B :=
 ⟨Int.mul_nonneg h.1 h'.1, Int.mul_le_mul h.2 h'.2 h'.1 (Int.le_trans h.1 h.2)⟩
structure BillB (t : Tariff) (v : Voyage) : Prop where
 mt : 0 ≤ t.Mile * v.Tenths ∧ t.Mile * v.Tenths ≤ 10000000000
 mg : 0 ≤ t.Mile * v.Tenths * ((v.Tonnes + 999) / 1000) ∧ t.Mile * v.Tenths * ((v.Tonnes + 999) / 1000) ≤ 5000000000000
 e : 0 ≤ t.Escort * v.Escort ∧ t.Escort * v.Escort ≤ 1000000000
 c : 0 ≤ t.Cut * v.Cut ∧ t.Cut * v.Cut ≤ 1000000000
 w : 0 ≤ t.Tow * v.Tow ∧ t.Tow * v.Tow ≤ 1000000000
 d : 0 ≤ duesV t v.Class v.Tonnes ∧ duesV t v.Class v.Tonnes ≤ 1000000000
theorem billB {t : Tariff} {v : Voyage} (ht : TarOK t) (hv : VoyOK v) : BillB t v := by
 have h1 := mul_bound ht.nums.mile hv.tenths
 have hv3 := hv.tonnes
 have h2 : 0 ≤ (v.Tonnes + 999) / 1000 ∧ (v.Tonnes + 999) / 1000 ≤ 500 := by omega
 have h3 := mul_bound h1 h2
 have h4 := clamp_bound (x := roundV t (bandSum v.Tonnes 0 t.Bands) v.Class) ht.nums.least.2
 have h5 := ht.nums.most
 have h6 := ht.nums.least
 exact ⟨h1, h3, mul_bound ht.nums.escort hv.escort, mul_bound ht.nums.cut hv.cut, mul_bound ht.nums.tow hv.tow, by show 0 ≤ clamp t _; omega, by show clamp t _ ≤ _; omega⟩
theorem billV_bound {t : Tariff} {v : Voyage} (ht : TarOK t) (hv : VoyOK v) (calls : Int) : 0 ≤ (billV t v calls).Sum ∧ (billV t v calls).Sum ≤ 600000000000 := by
 have h := billB ht hv
 have h1 := h.mg
 have h2 := h.e
 have h3 := h.c
 have h4 := h.w
 have h5 := h.d
 simp only [billV, sumA, linesV, milesV]
 split <;> omega
theorem account_eq {F : Nat} (hF : 100 < F) (a b c d e : Int) (ha : 0 ≤ a ∧ a ≤ 1000000000000) (hb : 0 ≤ b ∧ b ≤ 1000000000000) (hc : 0 ≤ c ∧ c ≤ 1000000000000) (hd : 0 ≤ d ∧ d ≤ 1000000000000) (he : 0 ≤ e ∧ e ≤ 1000000000000) :
  fees_account F [a, b, c, d, e] = some ⟨⟨a, b, c, d, e⟩, sumA ⟨a, b, c, d, e⟩⟩ := by
 obtain ⟨n, rfl⟩ : ∃ n, F = n + 6 := ⟨F - 6, by omega⟩
 unfold fees_account
 have hl : ((([a, b, c, d, e] : List Int).length : Nat) : Int) = 5 := rfl
 have s1 : ((Nat.succ (0 : Nat)) : Int) = 1 := rfl
 have s2 : ((Nat.succ (0 : Nat)).succ : Int) = 2 := rfl
 have s3 : ((Nat.succ (0 : Nat)).succ.succ : Int) = 3 := rfl
 have s4 : ((Nat.succ (0 : Nat)).succ.succ.succ : Int) = 4 := rfl
 have s5 : ((5 : Nat) : Int) = 5 := rfl
 have s0 : ((0 : Nat) : Int) = 0 := rfl
 simp only [hl]
 have g0 : ([a, b, c, d, e] : List Int).getD (Int.toNat 0) 0 = a := rfl
 have g1 : ([a, b, c, d, e] : List Int).getD (Int.toNat 1) 0 = b := rfl
 have g2 : ([a, b, c, d, e] : List Int).getD (Int.toNat 2) 0 = c := rfl
 have g3 : ([a, b, c, d, e] : List Int).getD (Int.toNat 3) 0 = d := rfl
 have g4 : ([a, b, c, d, e] : List Int).getD (Int.toNat 4) 0 = e := rfl
 have r0 : InR (0 + a) := ⟨by omega, by omega⟩
 have r1 : InR (0 + a + b) := ⟨by omega, by omega⟩
 have r2 : InR (0 + a + b + c) := ⟨by omega, by omega⟩
 have r3 : InR (0 + a + b + c + d) := ⟨by omega, by omega⟩
 have r4 : InR (0 + a + b + c + d + e) := ⟨by omega, by omega⟩
 have i1 : InR ((0 : Int) + 1) := ⟨by decide, by decide⟩
 have i2 : InR ((0 : Int) + 1 + 1) := ⟨by decide, by decide⟩
 have i3 : InR ((0 : Int) + 1 + 1 + 1) := ⟨by decide, by decide⟩
 have i4 : InR ((0 : Int) + 1 + 1 + 1 + 1) := ⟨by decide, by decide⟩
 have i5 : InR ((0 : Int) + 1 + 1 + 1 + 1 + 1) := ⟨by decide, by decide⟩
 rw [loopC_succ]
 dsimp only
 rw [show decide ((0 : Int) < 5) = true from rfl, brk_true, chk_pos (by decide), chk_pos (by decide), g0, chk_pos r0, chk_pos i1]
 rw [loopC_succ]
 dsimp only
 rw [show decide ((0 : Int) + 1 < 5) = true from rfl, brk_true, chk_pos (by decide), chk_pos (by decide), show ([a, b, c, d, e] : List Int).getD (Int.toNat (0 + 1)) 0 = b from rfl, chk_pos r1, chk_pos i2]
 rw [loopC_succ]
 dsimp only
 rw [show decide ((0 : Int) + 1 + 1 < 5) = true from rfl, brk_true, chk_pos (by decide), chk_pos (by decide), show ([a, b, c, d, e] : List Int).getD (Int.toNat (0 + 1 + 1)) 0 = c from rfl, chk_pos r2, chk_pos i3]
 rw [loopC_succ]
 dsimp only
 rw [show decide ((0 : Int) + 1 + 1 + 1 < 5) = true from rfl, brk_true, chk_pos (by decide), chk_pos (by decide), show ([a, b, c, d, e] : List Int).getD (Int.toNat (0 + 1 + 1 + 1)) 0 = d from rfl, chk_pos r3, chk_pos i4]
 rw [loopC_succ]
 dsimp only
 rw [show decide ((0 : Int) + 1 + 1 + 1 + 1 < 5) = true from rfl, brk_true, chk_pos (by decide), chk_pos (by decide), show ([a, b, c, d, e] : List Int).getD (Int.toNat (0 + 1 + 1 + 1 + 1)) 0 = e from rfl, chk_pos r4, chk_pos i5]
 rw [loopC_succ]
 dsimp only
 rw [show decide ((0 : Int) + 1 + 1 + 1 + 1 + 1 < 5) = false from rfl, brk_false]
 rfl
theorem bill_eq {F : Nat} (hF : 100 < F) {t : Tariff} {v : Voyage} (ht : TarOK t) (hv : VoyOK v) (calls : Int) : fees_Tariff_bill F t v calls = some (billV t v calls) := by
 refine Ok.eq ?_
 unfold fees_Tariff_bill
 have h := billB ht hv
 have h0 := h.mt
 have h1 := h.mg
 have h2 := h.e
 have h3 := h.c
 have h4 := h.w
 have h5 := h.d
 have hv3 := hv.tonnes
 refine ok_join (by omega) (fun x : Int => x = if calls < t.Paid then duesV t v.Class v.Tonnes else 0) (fun x hx => ?_) fun k hk => ?_
 ·have hx0 : 0 ≤ x ∧ x ≤ 1000000000 := by subst hx; split <;> omega
  refine ok_chk (show InR _ from ⟨by omega, by omega⟩) (ok_chk ⟨by omega, by omega⟩ (ok_chk (show InR _ from ⟨by omega, by omega⟩) (ok_chk (show InR _ from ⟨by omega, by omega⟩) (ok_chk (show InR _ from ⟨by omega, by omega⟩) (ok_chk ⟨by omega, by omega⟩ (ok_chk (show InR _ from ⟨by omega, by omega⟩) (ok_chk (show InR _ from ⟨by omega, by omega⟩) (ok_chk (show InR _ from ⟨by omega, by omega⟩) ?_))))))))
  refine ok_bnde (account_eq (by omega) _ _ _ _ _ (by omega) (by omega) (by omega) (by omega) (by omega)) (ok_some ?_)
  subst hx; rfl
 ·refine ok_brk (fun hb => ?_) (fun hb => hk _ ?_)
  ·have hb : calls < t.Paid := of_decide_eq_true hb
   refine ok_bnde (dues_eq hF ht hv.cls.1 hv.cls.2 (by omega) (by omega)) (hk _ ?_)
   rw [if_pos hb]
  ·have hb : ¬ calls < t.Paid := of_decide_eq_false hb
   rw [if_neg hb]
abbrev v0 : Voyage := ⟨0, 0, 0, 0, 0, 0, 0⟩
theorem getM_setM : ∀ (m : List (Int × Int)) (k v s : Int), getM (setM m k v) s = if k = s then v else getM m s
 | [], k, v, s => rfl
 | p :: m, k, v, s => by
  have ih := getM_setM m k v s
  unfold setM
  by_cases h : p.1 = k
  ·rw [if_pos h]
   unfold getM
   by_cases h2 : k = s
   ·rw [if_pos h2, if_pos h2]
   ·rw [if_neg h2, if_neg h2, if_neg (by rw [h]; exact h2)]
  ·rw [if_neg h]
   unfold getM
   rw [ih]
   by_cases h2 : p.1 = s
   ·rw [if_pos h2, if_neg (fun e => h (h2.trans e.symm)), if_pos h2]
   ·rw [if_neg h2]
    by_cases h3 : k = s
    ·rw [if_pos h3, if_pos h3]
    ·rw [if_neg h3, if_neg h3]
     cases m with
     | nil => unfold getM; rw [if_neg h2]
     | cons q m => rw [if_neg h2]
def cnt (s : Int) (l : List Voyage) : Int := ((l.filter fun v => decide (v.Ship = s)).length : Int)
theorem cnt_snoc (s : Int) (l : List Voyage) (v : Voyage) : cnt s (l ++ [v]) = cnt s l + if v.Ship = s then 1 else 0 := by
 unfold cnt
 rw [List.filter_append, List.length_append]
 by_cases h : v.Ship = s
 ·simp [h]
 ·simp [h]
theorem cnt_bound (s : Int) (l : List Voyage) : 0 ≤ cnt s l ∧ cnt s l ≤ l.length := by
 unfold cnt
 have := List.length_filter_le (fun v : Voyage => decide (v.Ship = s)) l
 omega
def seaV (t : Tariff) : List Voyage → List Voyage → List Account
 | _, [] => []
 | d, v :: l => billV t v (cnt v.Ship d) :: seaV t (d ++ [v]) l
theorem seaV_length (t : Tariff) : ∀ (l d : List Voyage), (seaV t d l).length = l.length
 | [], _ => rfl
 | v :: l, d => by simp [seaV, seaV_length t l]
def sumS : List Account → Int
 | [] => 0
 | a :: l => a.Sum + sumS l
theorem sumS_append : ∀ l r : List Account, sumS (l ++ r) = sumS l + sumS r
 | [], r => by simp [sumS]
 | x :: l, r => by simp only [List.cons_append, sumS, sumS_append l r]; omega
def SeaP (t : Tariff) (l : List Voyage) (r : List Account × Int × Int) : Prop :=
 (¬ (∀ v ∈ l, VoyOK v) ∧ r = ([], 0, 1)) ∨ ((∀ v ∈ l, VoyOK v) ∧ r = (seaV t [] l, sumS (seaV t [] l), 0))
theorem season_ok {F : Nat} (hF : 1000 < F) {t : Tariff} (ht : TarOK t) (l : List Voyage) : Ok (fun r => (500 < l.length ∧ r = ([], 0, 2)) ∨ (l.length ≤ 500 ∧ SeaP t l r)) (fees_Season F t l) := by
 unfold fees_Season
 refine ok_bnde (Check_eq (by omega) t) ?_
 rw [ht.check]
 refine ok_brkF rfl (ok_brk (fun hb => ok_some (.inl ⟨by have := of_decide_eq_true hb; omega, rfl⟩)) (fun hb => ?_))
 have hl : l.length ≤ 500 := by have := of_decide_eq_false hb; omega
 refine ok_loop (fun x : Int × List Account × Int × List (Int × Int) => 0 ≤ x.2.2.1 ∧ x.2.2.1 ≤ l.length ∧ x.2.1 ++ seaV t (l.take x.2.2.1.toNat) (l.drop x.2.2.1.toNat) = seaV t [] l ∧ x.2.1.length = x.2.2.1.toNat ∧ x.1 = sumS x.2.1 ∧ 0 ≤ x.1 ∧ x.1 ≤ 600000000000 * x.2.2.1 ∧ (∀ s, getM x.2.2.2 s = cnt s (l.take x.2.2.1.toNat)) ∧ ∀ v ∈ l.take x.2.2.1.toNat, VoyOK v)
  (fun x => l.length - x.2.2.1.toNat) ⟨by simp, by simp, rfl, rfl, rfl, by simp, by simp, fun _ => rfl, fun _ h => by (cases h)⟩ (by simp; omega) ?_
 rintro ⟨sm, out, i, m⟩ next ⟨i1, i2, i3, i4, i5, i6, i7, i8, i9⟩ hn
 simp only at i1 i2 i3 i4 i5 i6 i7 i8 i9
 dsimp only
 refine ok_brk (fun hc => ?_) (fun hc => ok_some (.inr ⟨hl, .inr ⟨?_, ?_⟩⟩))
 ·have hc : i < l.length := of_decide_eq_true hc
  have hi : i.toNat < l.length := by omega
  rw [drop_get (d := v0) hi] at i3
  have htk : l.take (i + 1).toNat = l.take i.toNat ++ [l.getD i.toNat v0] := by rw [show (i + 1).toNat = i.toNat + 1 by omega, take_succ' (d := v0) hi]
  have hmem : l.getD i.toNat v0 ∈ l := getD_mem hi
  refine ok_join (by omega) (fun x : Int × List Account × List (Int × Int) => x.2.1 ++ seaV t (l.take (i + 1).toNat) (l.drop (i + 1).toNat) = seaV t [] l ∧ x.2.1.length = (i + 1).toNat ∧ x.1 = sumS x.2.1 ∧ 0 ≤ x.1 ∧ x.1 ≤ 600000000000 * (i + 1) ∧ (∀ s, getM x.2.2 s = cnt s (l.take (i + 1).toNat)) ∧ ∀ v ∈ l.take (i + 1).toNat, VoyOK v)
   (fun x ⟨a, b, c, d, e, f, g⟩ => ok_chk (show InR _ from ⟨by omega, by omega⟩) (hn _ ⟨by show 0 ≤ i + 1; omega, by show i + 1 ≤ _; omega, a, b, c, d, e, f, g⟩ (by show l.length - (i + 1).toNat < l.length - i.toNat; omega))) fun k hk => ?_
  have hx : l.getD i.toNat ⟨0, 0, 0, 0, 0, 0, 0⟩ = l.getD i.toNat v0 := rfl
  rw [hx]
  generalize l.getD i.toNat v0 = V at i3 htk hmem ⊢
  refine ok_chk ⟨i1, hc⟩ (ok_bnd _ (right_ok (by omega) V) fun b hb => ok_brk (fun h => ok_some (.inr ⟨hl, .inl ⟨fun q => ?_, rfl⟩⟩)) (fun h => ?_))
  ·have h : b = false := by simpa using h
   have := hb.2 (q V hmem)
   rw [h] at this; cases this
  have h : b = true := by simpa using h
  have hV := hb.1 h
  have hg := i8 V.Ship
  have hcb := cnt_bound V.Ship (l.take i.toNat)
  have hlt : (l.take i.toNat).length ≤ i := by rw [List.length_take]; omega
  refine ok_bnde (bill_eq (by omega) ht hV _) ?_
  rw [hg]
  have hbb := billV_bound ht hV (cnt V.Ship (l.take i.toNat))
  have hseq : (out ++ [billV t V (cnt V.Ship (l.take i.toNat))]) ++ seaV t (l.take (i + 1).toNat) (l.drop (i + 1).toNat) = seaV t [] l := by
   rw [← i3, htk, List.append_assoc, show (i + 1).toNat = i.toNat + 1 by omega]; rfl
  generalize billV t V (cnt V.Ship (l.take i.toNat)) = A at hbb hseq ⊢
  have hsum : sumS (out ++ [A]) = sm + A.Sum := by rw [sumS_append, ← i5]; simp only [sumS]; omega
  have hlen : (out ++ [A]).length = (i + 1).toNat := by simp; omega
  have hmap : ∀ s, getM (setM m V.Ship (cnt V.Ship (l.take i.toNat) + 1)) s = cnt s (l.take (i + 1).toNat) := fun s => by
   rw [getM_setM, htk, cnt_snoc]
   by_cases e : V.Ship = s
   ·rw [if_pos e, if_pos e, e]
   ·rw [if_neg e, if_neg e, i8]; omega
  have hall : ∀ v ∈ l.take (i + 1).toNat, VoyOK v := fun v hv => by
   rw [htk] at hv
   rcases List.mem_append.1 hv with q | q
   ·exact i9 v q
   ·rw [List.mem_singleton.1 q]; exact hV
  refine ok_chk (show InR _ from ⟨by omega, by omega⟩) (ok_chk (by simp; omega) (ok_brk (fun _ => ok_chk (show InR _ from ⟨by omega, by omega⟩) (hk _ ⟨hseq, hlen, hsum.symm, by show 0 ≤ sm + A.Sum; omega, by show sm + A.Sum ≤ _; omega, hmap, hall⟩)) (fun hz => hk _ ⟨hseq, hlen, ?_, i6, by show sm ≤ _; omega, hmap, hall⟩)))
  show sm = sumS (out ++ [A])
  have hz : A.Sum = 0 := by
   simp only [Bool.not_eq_false', Bool.and_eq_true, beq_iff_eq, Bool.and_true] at hz
   exact hz.2
  rw [hsum, hz]; omega
 ·have hc : ¬ i < l.length := of_decide_eq_false hc
  rw [List.take_of_length_le (by omega)] at i9
  exact i9
 ·have hc : ¬ i < l.length := of_decide_eq_false hc
  rw [List.drop_eq_nil_of_le (by omega)] at i3
  have : out = seaV t [] l := by rw [← i3]; simp [seaV]
  rw [i5, this]
def Both {α : Type} (t : Tariff) (bad : Int → α) (P : α → Prop) (r : α) : Prop := (checkV t ≠ 0 ∧ r = bad (checkV t)) ∨ (TarOK t ∧ P r)
theorem bad_bnd {α : Type} {t : Tariff} {x : Option Int} (hx : x = some (checkV t)) {bad : Int → α} {P : α → Prop} {g : Option α} (h : TarOK t → Ok P g) : Ok (Both t bad P) (bnd x fun e => brk (e != 0) (some (bad e)) g) := by
 refine ok_bnde hx (ok_brk (fun hb => ok_some (.inl ⟨by simpa using hb, rfl⟩)) (fun hb => ?_))
 have hb : checkV t = 0 := by simpa using hb
 exact (h (checkV_zero hb)).mono fun r hr => .inr ⟨checkV_zero hb, hr⟩
abbrev zeroA : Account := ⟨⟨0, 0, 0, 0, 0⟩, 0⟩
def BillP (t : Tariff) (v : Voyage) (calls : Int) (r : Account × Int) : Prop := (¬ VoyOK v ∧ r = (zeroA, 1)) ∨ (VoyOK v ∧ ((calls < 0 ∧ r = (zeroA, 6)) ∨ (0 ≤ calls ∧ r = (billV t v calls, 0))))
theorem Bill_ok {F : Nat} (hF : 100 < F) (t : Tariff) (v : Voyage) (calls : Int) : Ok (Both t (fun e => (zeroA, e)) (BillP t v calls)) (fees_Bill F t v calls) := by
 unfold fees_Bill
 refine bad_bnd (Check_eq hF t) fun ht => ?_
 refine ok_bnd _ (right_ok hF v) fun b hb => ok_brk (fun h => ok_some (.inl ⟨fun q => ?_, rfl⟩)) (fun h => ?_)
 ·rw [hb.2 q] at h; cases h
 ·have hv := hb.1 (by simpa using h)
  refine ok_brk (fun h => ok_some (.inr ⟨hv, .inl ⟨of_decide_eq_true h, rfl⟩⟩)) (fun h => ok_bnde (bill_eq hF ht hv _) (ok_some (.inr ⟨hv, .inr ⟨?_, rfl⟩⟩)))
  have := of_decide_eq_false h; omega
theorem min60 {n : Int} (h : 0 ≤ n) : 0 < (if 60 < n then 60 else n) + 1 ∧ (if 60 < n then 60 else n) + 1 ≤ 61 ∧ (if 60 < n then 60 else n) ≤ n := by split <;> omega
def ClsI (i last : Int) (cl : List Int) : Prop := ClassOK 300 (cl.take i.toNat) ∧ endC 300 (cl.take i.toNat) = last
set_option maxRecDepth 100000 in
theorem made_ok {F : Nat} (hF : 100 < F) {l : List Int} (hl : Bytes l) : Ok TarOK (law12_Made F l) := by
 unfold law12_Made
 have F0 : 0 < F := by omega
 refine ok_next0 F0 hl (by omega) fun x1 p1 a1 a2 a3 a4 a5 => ?_
 dsimp only
 refine ok_chk (show InR _ from ⟨by omega, by omega⟩) (ok_next F0 hl a4 a5 (by omega) fun x2 p2 b1 b2 b3 b4 b5 => ?_)
 dsimp only
 refine ok_chk (show InR _ from ⟨by omega, by omega⟩) (ok_next F0 hl b4 b5 (by omega) fun x3 p3 c1 c2 c3 c4 c5 => ?_)
 dsimp only
 refine ok_next F0 hl c4 c5 (by omega) fun x4 p4 d1 d2 d3 d4 d5 => ?_
 dsimp only
 refine ok_chk (show InR _ from ⟨by omega, by omega⟩) (ok_next F0 hl d4 d5 (by omega) fun x5 p5 e1 e2 e3 e4 e5 => ?_)
 dsimp only
 refine ok_chk (show InR _ from ⟨by omega, by omega⟩) (ok_next F0 hl e4 e5 (by omega) fun x6 p6 f1 f2 f3 f4 f5 => ?_)
 dsimp only
 refine ok_chk (show InR _ from ⟨by omega, by omega⟩) (ok_next F0 hl f4 f5 (by omega) fun x7 p7 g1 g2 g3 g4 g5 => ?_)
 dsimp only
 refine ok_chk (show InR _ from ⟨by omega, by omega⟩) (ok_chk (show InR _ from ⟨by omega, by omega⟩) ?_)
 refine ok_loop (fun x : Int × Int × Int × Int × Int × Int × Int × Int × Int × Int => (0 ≤ x.2.1 ∧ x.2.1 ≤ 7) ∧ (0 ≤ x.1 ∧ x.1 ≤ 300) ∧ (0 ≤ x.2.2.2.2.2.2.2.2.2 ∧ x.2.2.2.2.2.2.2.2.2 ≤ l.length) ∧ ClsI x.2.1 x.1 [x.2.2.2.2.2.2.2.2.1, x.2.2.2.2.2.2.2.1, x.2.2.2.2.2.2.1, x.2.2.2.2.2.1, x.2.2.2.2.1, x.2.2.2.1, x.2.2.1]) (fun x => (7 - x.2.1).toNat)
  ⟨⟨by simp, by simp⟩, ⟨by simp, by simp⟩, ⟨g4, g5⟩, trivial, rfl⟩ (by show (7 - (0 : Int)).toNat < F; omega) ?_
 rintro ⟨last, i, c6, c5, c4, c3, c2, c1', c0, pos⟩ next ⟨⟨i1, i2⟩, ⟨l1, l2⟩, ⟨p1', p2'⟩, k1, k2⟩ hn
 simp only at i1 i2 l1 l2 p1' p2' k1 k2 hn
 dsimp only
 refine ok_brk (fun hc => ?_) (fun hc => ?_)
 ·have hc : i < 7 := of_decide_eq_true hc
  have m := min60 (n := last) l1
  refine ok_chk (show InR _ from ⟨by omega, by omega⟩) (ok_nextS F0 hl p1' p2' m.1 fun y q h1 h2 h3 h4 h5 => ?_)
  dsimp only
  refine ok_chk (show InR _ from ⟨by omega, by omega⟩) (ok_chk ⟨i1, hc⟩ (ok_chk (show InR _ from ⟨by omega, by omega⟩) (hn _ ⟨⟨by show 0 ≤ i + 1; omega, by show i + 1 ≤ 7; omega⟩, ⟨by show 0 ≤ last - y; omega, by show last - y ≤ 300; omega⟩, ⟨h4, h5⟩, ?_⟩ (by show (7 - (i + 1)).toNat < (7 - i).toNat; omega))))
  have hi : i = 0 ∨ i = 1 ∨ i = 2 ∨ i = 3 ∨ i = 4 ∨ i = 5 ∨ i = 6 := by omega
  have key : ∀ r : List Int, ClassOK 300 r → endC 300 r = last → ClassOK 300 (r ++ [last - y]) ∧ endC 300 (r ++ [last - y]) = last - y := fun r e1 e2 => ⟨e1.join ⟨⟨by omega, by rw [e2]; omega⟩, trivial⟩, endC_snoc _ _ _⟩
  rcases hi with rfl | rfl | rfl | rfl | rfl | rfl | rfl <;> exact key _ k1 k2
 ·have hc : ¬ i < 7 := of_decide_eq_false hc
  obtain rfl : i = 7 := by omega
  have hcls : ClassOK 300 [c0, c1', c2, c3, c4, c5, c6] := k1
  have h4 := p1'
  have h5 := p2'
  refine ok_next F0 hl h4 h5 (by omega) fun z q8 r1 r2 r3 r4 r5 => ?_
  dsimp only
  refine ok_loop (fun x : Int × Int × List Band × Int => 0 ≤ x.1 ∧ x.1 ≤ z ∧ x.2.1 = endB 0 x.2.2.1 ∧ 0 ≤ x.2.1 ∧ x.2.1 ≤ 25501 * x.1 ∧ BandsOK 0 x.2.2.1 ∧ (x.2.2.1.length : Int) = x.1 ∧ 0 ≤ x.2.2.2 ∧ x.2.2.2 ≤ l.length) (fun x => (z - x.1).toNat)
   ⟨by simp, by omega, rfl, by simp, by simp, trivial, rfl, r4, r5⟩ (by show (z - 0).toNat < F; omega) ?_
  rintro ⟨i, u, bs, p⟩ next ⟨s1, s2, s3, s4, s5, s6, s7, s8, s9⟩ hn
  simp only at s1 s2 s3 s4 s5 s6 s7 s8 s9
  dsimp only
  refine ok_brk (fun hc => ?_) (fun hc => ?_)
  ·have hc : i < z := of_decide_eq_true hc
   refine ok_next F0 hl s8 s9 (by omega) fun w1 t1 u1 u2 u3 u4 u5 => ?_
   dsimp only
   refine ok_chk (show InR _ from ⟨by omega, by omega⟩) (ok_chk (show InR _ from ⟨by omega, by omega⟩) (ok_chk (show InR _ from ⟨by omega, by omega⟩) (ok_next F0 hl u4 u5 (by omega) fun w2 t2 v1 v2 v3 v4 v5 => ?_)))
   dsimp only
   refine ok_chk (show InR _ from ⟨by omega, by omega⟩) (ok_chk (by simp; omega) (ok_chk (show InR _ from ⟨by omega, by omega⟩) (hn _ ⟨by show 0 ≤ i + 1; omega, by show i + 1 ≤ z; omega, ?_, by show 0 ≤ u + _; omega, by show u + _ ≤ 25501 * (i + 1); omega, ?_, by simp; omega, v4, v5⟩ (by show (z - (i + 1)).toNat < (z - i).toNat; omega))))
   ·show u + (1 + 100 * w1) = endB 0 (bs ++ [_])
    rw [endB_snoc]
   ·refine s6.join ⟨?_, ?_, trivial⟩
    ·show endB 0 bs + 1 ≤ u + (1 + 100 * w1) ∧ u + (1 + 100 * w1) ≤ 500000
     rw [← s3]; omega
    ·show 0 ≤ 4 * w2 ∧ 4 * w2 ≤ 1000
     omega
  ·have hc : ¬ i < z := of_decide_eq_false hc
   refine ok_next F0 hl s8 s9 (by omega) fun w1 t1 u1 u2 u3 u4 u5 => ?_
   dsimp only
   refine ok_chk (by simp; omega) (ok_some ⟨?_, ?_, ?_, ?_, ?_⟩)
   ·show 1 ≤ (bs ++ [_]).length ∧ (bs ++ [_]).length ≤ 8
    simp; omega
   ·refine s6.join ⟨?_, ?_, trivial⟩
    ·show endB 0 bs + 1 ≤ 500000 ∧ (500000 : Int) ≤ 500000
     rw [← s3]; omega
    ·show 0 ≤ w1 ∧ w1 ≤ 1000
     omega
   ·show endB 0 (bs ++ [_]) = 500000
    rw [endB_snoc]
   ·exact hcls
   ·exact ⟨⟨by show 0 ≤ 100 * x1 + 5000 * x7; omega, by show 100 * x1 + 5000 * x7 ≤ _; omega⟩, ⟨by show 0 ≤ 100 * x1; omega, by show 100 * x1 ≤ 100 * x1 + 5000 * x7; omega⟩, ⟨by show 1 ≤ 1 + x2; omega, by show 1 + x2 ≤ 1000; omega⟩, ⟨c1, by show x3 ≤ 100000; omega⟩, ⟨by show 0 ≤ 100 * x4; omega, by show 100 * x4 ≤ _; omega⟩, ⟨by show 0 ≤ 100 * x5; omega, by show 100 * x5 ≤ _; omega⟩, ⟨by show 0 ≤ 100 * x6; omega, by show 100 * x6 ≤ _; omega⟩⟩
structure Less (v w : Voyage) : Prop where
 cls : v.Class = w.Class
 tonnes : v.Tonnes ≤ w.Tonnes
 tenths : v.Tenths ≤ w.Tenths
 escort : v.Escort ≤ w.Escort
 cut : v.Cut ≤ w.Cut
 tow : v.Tow ≤ w.Tow
structure LinesLe (a b : A5ofInt) : Prop where
 a0 : 0 ≤ a.a0 ∧ a.a0 ≤ b.a0
 a1 : 0 ≤ a.a1 ∧ a.a1 ≤ b.a1
 a2 : 0 ≤ a.a2 ∧ a.a2 ≤ b.a2
 a3 : 0 ≤ a.a3 ∧ a.a3 ≤ b.a3
 a4 : 0 ≤ a.a4 ∧ a.a4 ≤ b.a4
theorem Bill_is {F : Nat} (hF : 100 < F) {t : Tariff} (ht : TarOK t) {v : Voyage} (hv : VoyOK v) {c : Int} (hc : 0 ≤ c) : fees_Bill F t v c = some (billV t v c, 0) := by
 refine Ok.eq ((Bill_ok hF t v c).mono fun r h => ?_)
 rcases h with ⟨q, _⟩ | ⟨_, ⟨q, _⟩ | ⟨_, ⟨q, _⟩ | ⟨_, q⟩⟩⟩
 ·exact absurd ht.check q
 ·exact absurd hv q
 ·omega
 ·exact q
structure DuesB (a1 a2 a3 a4 a5 : Int) : Prop where
 a : 0 ≤ a1 ∧ a1 ≤ 65535
 b : 0 ≤ a2 ∧ a2 ≤ 65535
 c : 0 ≤ a3 ∧ a3 ≤ 255
 d : 0 ≤ a4 ∧ a4 ≤ 255
 e : 0 ≤ a5 ∧ a5 ≤ 4294967295
structure StaOK (n m : Nat) (B : Int) (s : State) : Prop where
 nb : 1 ≤ n ∧ n ≤ 10
 mb : 1 ≤ m ∧ m ≤ 6
 dl : s.Deposits.length = n
 ol : s.Owed.length = n
 rl : ∀ i, i < n → (s.Owed.getD i []).length = m
 d : ∀ i, i < n → 0 ≤ s.Deposits.getD i 0 ∧ s.Deposits.getD i 0 ≤ B
 o : ∀ i, i < n → ∀ k, k < m → 0 ≤ (s.Owed.getD i []).getD k 0 ∧ (s.Owed.getD i []).getD k 0 ≤ B
structure SetP (n m : Nat) (s : State) (r : State × List (List Int)) : Prop where
 dl : r.1.Deposits.length = n
 ol : r.1.Owed.length = n
 pl : r.2.length = n
 aw : ∀ i, i < n → AwOK (s.Owed.getD i []) (s.Deposits.getD i 0) (r.2.getD i [])
 d : ∀ i, i < n → r.1.Deposits.getD i 0 = s.Deposits.getD i 0 - sumL (r.2.getD i [])
 o : ∀ i, i < n → (r.1.Owed.getD i []).length = m ∧ ∀ k, k < m → (r.1.Owed.getD i []).getD k 0 = (s.Owed.getD i []).getD k 0 - (r.2.getD i []).getD k 0
theorem AwOK.each {l : List Int} {e : Int} {a : List Int} (h : AwOK l e a) (hl : ∀ c ∈ l, 0 ≤ c) : ∀ k, k < l.length → 0 ≤ a.getD k 0 ∧ a.getD k 0 ≤ l.getD k 0 := by
 obtain ⟨r, hr, rfl⟩ := h
 intro k hk
 have h1 := ((awV_in r.1 l r.2).get hk).cases
 have h2 := hr.n0
 have h3 := hl _ (getD_mem (d := 0) hk)
 omega
structure InOK (n m : Nat) (paid : List Int) (b : List (List Int)) (late : Int) : Prop where
 pl : paid.length = n
 p : ∀ i, i < n → 0 ≤ paid.getD i 0 ∧ paid.getD i 0 ≤ 1000
 bl : b.length = n
 rl : ∀ i, i < n → (b.getD i []).length = m
 b : ∀ i, i < n → ∀ k, k < m → 0 ≤ (b.getD i []).getD k 0 ∧ (b.getD i []).getD k 0 ≤ 300
 l : 0 ≤ late ∧ late ≤ 100
theorem StaOK.mono {n m : Nat} {B C : Int} {s : State} (h : StaOK n m B s) (hB : B ≤ C) : StaOK n m C s :=
 ⟨h.nb, h.mb, h.dl, h.ol, h.rl, fun i hi => ⟨(h.d i hi).1, Int.le_trans (h.d i hi).2 hB⟩, fun i hi k hk => ⟨(h.o i hi k hk).1, Int.le_trans (h.o i hi k hk).2 hB⟩⟩
theorem AwOK.zero {l : List Int} {e : Int} {a : List Int} (h : AwOK l e a) (hl : ∀ c ∈ l, 0 ≤ c) (hz : e = 0 ∨ ∀ k, k < l.length → l.getD k 0 = 0) : ∀ k, k < l.length → a.getD k 0 = 0 := by
 have h1 := h.each hl
 rcases hz with rfl | hz
 ·have h2 := h.sum
  have h3 := sumL_nonneg l hl
  rw [if_neg (by omega)] at h2
  intro k hk
  have h4 : ∀ x ∈ a, 0 ≤ x := fun x hx => by
   obtain ⟨q, hq, rfl⟩ := List.getElem_of_mem hx
   have := h1 q (by rw [← h.length]; exact hq)
   rw [getD_get hq] at this
   exact this.1
  have h5 := mem_le_sumL a h4 _ (getD_mem (d := 0) (show k < a.length by rw [h.length]; exact hk))
  have := (h1 k hk).1
  omega
 ·intro k hk
  have := h1 k hk
  have := hz k hk
  omega
end Go.Proofs.Fs

namespace Go.Proofs.Fs
open Go Go.KX
abbrev w0 : Voyage := Voyage.mk (0 : Int) (0 : Int) (0 : Int) (0 : Int) (0 : Int) (0 : Int) (0 : Int)
theorem half {s : Int} (h : 0 ≤ s ∧ s ≤ 1000000) : (IntKind.u64.wrap s).fdiv ((2 : Int) ^ Int.toNat (1 : Int)) = s / 2 := by
 have h1 : IntKind.u64.wrap s = s := by
  unfold IntKind.wrap
  simp only [IntKind.bits, IntKind.signed]
  simp
  omega
 rw [h1, show ((2 : Int) ^ Int.toNat (1 : Int)) = 2 from rfl]
 exact Int.fdiv_eq_ediv_of_nonneg _ (by omega)
structure ShL (l : List Voyage) : Prop where
 ship : ∀ v ∈ l, 0 ≤ v.Ship ∧ v.Ship < 4
 len : l.length ≤ 1000
theorem ShL.perm {l l' : List Voyage} (h : ShL l) (p : l'.Perm l) : ShL l' := ⟨fun v hv => h.ship v (p.mem_iff.1 hv), by rw [p.length_eq]; exact h.len⟩
theorem ShL.get {l : List Voyage} (h : ShL l) {i : Int} (h0 : 0 ≤ i) (h1 : i < l.length) : 0 ≤ (l.getD i.toNat w0).Ship ∧ (l.getD i.toNat w0).Ship < 4 := h.ship _ (getD_mem (by omega))
theorem cmp_ok {F : Nat} {v w : Voyage} (hv : 0 ≤ v.Ship ∧ v.Ship < 4) (hw : 0 ≤ w.Ship ∧ w.Ship < 4) : law12_FeesSeason_1 F v w = some (v.Ship - w.Ship) := by
 unfold law12_FeesSeason_1
 exact chk_pos (show InR _ from ⟨by omega, by omega⟩)
theorem swap_perm {l : List Voyage} {i j : Nat} (hi : i < l.length) (hj : j < l.length) : ((l.set i (l.getD j w0)).set j (l.getD i w0)).Perm l := by
 have := List.set_set_perm hi hj
 rw [getD_get hi, getD_get hj]
 exact this
section
variable {α : Type} {post : α → Prop} {F : Nat} (hF : 100000 < F)
include hF
theorem swr {A B n : Int} {l : List Voyage} {exit : List Voyage → Option α} (hA : 0 ≤ A) (hB : 0 ≤ B) (hn : 0 ≤ n) (hA' : A + n ≤ l.length) (hB' : B + n ≤ l.length) (hl : l.length ≤ 1000) (he : ∀ l' : List Voyage, l'.Perm l → Ok post (exit l')) :
  Ok post (loopC (fun (x : Int × List Voyage) => fun next => brk (decide (x.fst < n)) (chk (InR (A + x.fst)) (chk (InR (B + x.fst)) (chk (InR (B + x.fst)) (chk ((0 : Int) ≤ B + x.fst ∧ B + x.fst < (↑(List.length x.snd) : Int)) (chk (InR (A + x.fst)) (chk ((0 : Int) ≤ A + x.fst ∧ A + x.fst < (↑(List.length x.snd) : Int)) (chk ((0 : Int) ≤ A + x.fst ∧ A + x.fst < (↑(List.length x.snd) : Int)) (chk ((0 : Int) ≤ B + x.fst ∧ B + x.fst < (↑(List.set x.snd (A + x.fst).toNat (List.getD x.snd (B + x.fst).toNat w0)).length : Int)) (chk (InR (x.fst + (1 : Int))) (next ((x.fst + (1 : Int), (List.set x.snd (A + x.fst).toNat (List.getD x.snd (B + x.fst).toNat w0)).set (B + x.fst).toNat (List.getD x.snd (A + x.fst).toNat w0))))))))))))) (exit x.snd)) F ((0 : Int), l)) := by
 refine ok_loop (fun x : Int × List Voyage => 0 ≤ x.1 ∧ x.1 ≤ n ∧ x.2.Perm l) (fun x => (n - x.1).toNat) ⟨Int.le_refl _, hn, .refl _⟩ (by show (n - 0).toNat < F; omega) ?_
 rintro ⟨k, m⟩ next ⟨i1, i2, i3⟩ hn
 simp only at i1 i2 i3
 dsimp only
 have hm := i3.length_eq
 refine ok_brk (fun h => ?_) (fun h => he _ i3)
 have h : k < n := of_decide_eq_true h
 refine ok_chk (show InR _ from ⟨by omega, by omega⟩) (ok_chk (show InR _ from ⟨by omega, by omega⟩) (ok_chk (show InR _ from ⟨by omega, by omega⟩) (ok_chk ⟨by omega, by omega⟩ (ok_chk (show InR _ from ⟨by omega, by omega⟩) (ok_chk ⟨by omega, by omega⟩ (ok_chk ⟨by omega, by omega⟩ (ok_chk ⟨by omega, by rw [List.length_set]; omega⟩ (ok_chk (show InR _ from ⟨by omega, by omega⟩) (hn _ ⟨by show 0 ≤ k + 1; omega, by show k + 1 ≤ n; omega, (swap_perm (by omega) (by omega)).trans i3⟩ (by show (n - (k + 1)).toNat < (n - k).toNat; omega))))))))))
end
end Go.Proofs.Fs

namespace Go.Proofs.Fs
open Go Go.KX
structure VG (v : Voyage) : Prop where
 ship : 0 ≤ v.Ship ∧ v.Ship < 4
 cls : v.Class = v.Ship
 ton : v.Tonnes = 900 * (v.Ship + 1)
 ten : 0 ≤ v.Tenths ∧ v.Tenths ≤ 255
 esc : 0 ≤ v.Escort ∧ v.Escort < 20
 cut : 0 ≤ v.Cut ∧ v.Cut < 9
 tow : 0 ≤ v.Tow ∧ v.Tow < 9
theorem VG.ok {v : Voyage} (h : VG v) : VoyOK v := by
 have := h.ship; have := h.ten; have := h.esc; have := h.cut; have := h.tow; have := h.cls; have := h.ton
 exact ⟨by omega, by omega, by omega, by omega, by omega, by omega, by omega⟩
def restV (t : Tariff) (v : Voyage) : Int := milesV t v + t.Escort * v.Escort + t.Cut * v.Cut + t.Tow * v.Tow
def restS (t : Tariff) (k : Int) : List Voyage → Int
 | [] => 0
 | v :: l => (if v.Ship = k then restV t v else 0) + restS t k l
def payS (t : Tariff) (k : Int) : List Voyage → List Voyage → Int
 | _, [] => 0
 | d, v :: l => (if v.Ship = k then (billV t v (cnt v.Ship d)).Sum else 0) + payS t k (d ++ [v]) l
def capD (t : Tariff) (n : Int) : Int := if n ≤ t.Paid then n else t.Paid
theorem pay_eq (t : Tariff) (k : Int) : ∀ (l d : List Voyage), (∀ v ∈ l, VG v) → payS t k d l = restS t k l + (capD t (cnt k (d ++ l)) - capD t (cnt k d)) * duesV t k (900 * (k + 1))
 | [], d, _ => by simp [payS, restS]
 | v :: l, d, h => by
  have ih := pay_eq t k l (d ++ [v]) fun x hx => h x (List.mem_cons_of_mem _ hx)
  have hv := h v List.mem_cons_self
  simp only [payS, restS]
  rw [ih, List.append_assoc, List.singleton_append, cnt_snoc]
  generalize capD t (cnt k (d ++ v :: l)) = X
  generalize restS t k l = R
  by_cases e : v.Ship = k
  ·rw [if_pos e, if_pos e, if_pos e]
   have h1 : (billV t v (cnt v.Ship d)).Sum = (if cnt k d < t.Paid then duesV t k (900 * (k + 1)) else 0) + restV t v := by
    show 0 + (if cnt v.Ship d < t.Paid then duesV t v.Class v.Tonnes else 0) + milesV t v + t.Escort * v.Escort + t.Cut * v.Cut + t.Tow * v.Tow = _
    rw [hv.cls, hv.ton, e]
    unfold restV
    omega
   rw [h1]
   generalize duesV t k (900 * (k + 1)) = D
   generalize cnt k d = c
   unfold capD
   by_cases hc : c < t.Paid
   ·rw [if_pos hc, if_pos (by omega), if_pos (by omega), show X - c = (X - (c + 1)) + 1 by omega, Int.add_mul, Int.one_mul]
    omega
   ·rw [if_neg hc, if_neg (by omega)]
    have : (if c ≤ t.Paid then c else t.Paid) = t.Paid := by split <;> omega
    rw [this]; omega
  ·rw [if_neg e, if_neg e, if_neg e]; simp
theorem restS_perm (t : Tariff) (k : Int) {l s : List Voyage} (h : s.Perm l) : restS t k s = restS t k l := by
 induction h with
 | nil => rfl
 | cons x _ ih => simp only [restS, ih]
 | swap x y l => simp only [restS]; omega
 | trans _ _ h1 h2 => exact h1.trans h2
theorem cnt_perm (k : Int) {l s : List Voyage} (h : s.Perm l) : cnt k s = cnt k l := by
 unfold cnt; rw [(h.filter _).length_eq]
theorem pay_perm (t : Tariff) (k : Int) {l s : List Voyage} (h : s.Perm l) (hl : ∀ v ∈ l, VG v) : payS t k [] s = payS t k [] l := by
 rw [pay_eq t k s [] fun v hv => hl v (h.mem_iff.1 hv), pay_eq t k l [] hl, restS_perm t k h, List.nil_append, List.nil_append, cnt_perm k h]
theorem sum_pay (t : Tariff) : ∀ (l d : List Voyage), (∀ v ∈ l, VG v) → sumS (seaV t d l) = payS t 0 d l + payS t 1 d l + payS t 2 d l + payS t 3 d l
 | [], d, _ => rfl
 | v :: l, d, h => by
  have ih := sum_pay t l (d ++ [v]) fun x hx => h x (List.mem_cons_of_mem _ hx)
  have hv := (h v List.mem_cons_self).ship
  simp only [seaV, sumS, payS, ih]
  rcases (show v.Ship = 0 ∨ v.Ship = 1 ∨ v.Ship = 2 ∨ v.Ship = 3 by omega) with e | e | e | e <;> simp only [e] <;> simp <;> omega
theorem sum_perm (t : Tariff) {l s : List Voyage} (h : s.Perm l) (hl : ∀ v ∈ l, VG v) : sumS (seaV t [] s) = sumS (seaV t [] l) := by
 rw [sum_pay t s [] fun v hv => hl v (h.mem_iff.1 hv), sum_pay t l [] hl, pay_perm t 0 h hl, pay_perm t 1 h hl, pay_perm t 2 h hl, pay_perm t 3 h hl]
theorem pay_snoc (t : Tariff) (k : Int) (v : Voyage) : ∀ (l d : List Voyage), payS t k d (l ++ [v]) = payS t k d l + if v.Ship = k then (billV t v (cnt v.Ship (d ++ l))).Sum else 0
 | [], d => by simp [payS]
 | x :: l, d => by
  have ih := pay_snoc t k v l (d ++ [x])
  simp only [List.cons_append, payS, ih, List.append_assoc, List.nil_append]
  omega
theorem sea_snoc (t : Tariff) (v : Voyage) : ∀ (l d : List Voyage), seaV t d (l ++ [v]) = seaV t d l ++ [billV t v (cnt v.Ship (d ++ l))]
 | [], d => by simp [seaV]
 | x :: l, d => by
  have ih := sea_snoc t v l (d ++ [x])
  simp only [List.cons_append, seaV, ih, List.append_assoc, List.nil_append]
theorem sea_get (t : Tariff) (z : Account) : ∀ (l d : List Voyage) (i : Nat), i < l.length → (seaV t d l).getD i z = billV t (l.getD i w0) (cnt (l.getD i w0).Ship (d ++ l.take i))
 | [], d, i, h => by simp at h
 | v :: l, d, 0, h => by simp [seaV]
 | v :: l, d, i + 1, h => by
  have ih := sea_get t z l (d ++ [v]) i (by simpa using h)
  simp only [seaV, List.getD_cons_succ, ih, List.take_succ_cons, List.append_assoc, List.singleton_append]
theorem get4 (f : Int → Int) {k : Int} (h : 0 ≤ k ∧ k < 4) : [f 0, f 1, f 2, f 3].getD k.toNat 0 = f k := by
 rcases (show k = 0 ∨ k = 1 ∨ k = 2 ∨ k = 3 by omega) with rfl | rfl | rfl | rfl <;> rfl
theorem upd4 (f : Int → Int) (s k e : Int) : (if s = k then f s + e else f k) = f k + if s = k then e else 0 := by
 by_cases h : s = k
 ·rw [if_pos h, if_pos h, h]
 ·rw [if_neg h, if_neg h]; omega
theorem pay_bound {t : Tariff} (ht : TarOK t) (k : Int) : ∀ (l d : List Voyage), (∀ v ∈ l, VG v) → 0 ≤ payS t k d l ∧ payS t k d l ≤ 600000000000 * l.length
 | [], d, _ => by simp [payS]
 | v :: l, d, h => by
  have ih := pay_bound ht k l (d ++ [v]) fun x hx => h x (List.mem_cons_of_mem _ hx)
  have hb := billV_bound ht (h v List.mem_cons_self).ok (cnt v.Ship d)
  simp only [payS, List.length_cons]
  split <;> omega
theorem sea_bound {t : Tariff} (ht : TarOK t) : ∀ (l d : List Voyage), (∀ v ∈ l, VG v) → 0 ≤ sumS (seaV t d l) ∧ sumS (seaV t d l) ≤ 600000000000 * l.length
 | [], d, _ => by simp [seaV, sumS]
 | v :: l, d, h => by
  have ih := sea_bound ht l (d ++ [v]) fun x hx => h x (List.mem_cons_of_mem _ hx)
  have hb := billV_bound ht (h v List.mem_cons_self).ok (cnt v.Ship d)
  simp only [seaV, sumS, List.length_cons]
  omega
end Go.Proofs.Fs

namespace Go.Proofs.Fs
open Go Go.KX
section
variable {α : Type} {post : α → Prop} {F : Nat} (hF : 100000 < F)
include hF
theorem insr {A B : Int} {l : List Voyage} {exit : Int × List Voyage → Option α} (hs : ShL l) (hA : 0 ≤ A) (hB : B ≤ l.length) (hAB : A < 1000) (he : ∀ x : Int × List Voyage, x.2.Perm l → Ok post (exit x)) :
  Ok post (loopC (fun (x_7 : (Int) × (List (Voyage))) => fun x_8 => brk (decide (x_7.fst < B)) (loopC (fun (x_9 : (Int) × (List (Voyage))) => fun x_10 => chk (decide (x_9.fst > A) = true → (0 : Int) ≤ x_9.fst ∧ x_9.fst < (↑(List.length x_9.snd) : Int)) (chk (decide (x_9.fst > A) = true → InR (x_9.fst - (1 : Int))) (chk (decide (x_9.fst > A) = true → (0 : Int) ≤ x_9.fst - (1 : Int) ∧ x_9.fst - (1 : Int) < (↑(List.length x_9.snd) : Int)) (bnd (brk (decide (x_9.fst > A)) (law12_FeesSeason_1 F (List.getD x_9.snd (Int.toNat x_9.fst) w0) (List.getD x_9.snd (x_9.fst - (1 : Int)).toNat w0)) (some (0 : Int))) (fun (x_11 : Int) => brk (decide (x_9.fst > A) && decide (x_11 < (0 : Int))) (chk (InR (x_9.fst - (1 : Int))) (chk (InR (x_9.fst - (1 : Int))) (chk ((0 : Int) ≤ x_9.fst - (1 : Int) ∧ x_9.fst - (1 : Int) < (↑(List.length x_9.snd) : Int)) (chk ((0 : Int) ≤ x_9.fst ∧ x_9.fst < (↑(List.length x_9.snd) : Int)) (chk ((0 : Int) ≤ x_9.fst ∧ x_9.fst < (↑(List.length x_9.snd) : Int)) (chk ((0 : Int) ≤ x_9.fst - (1 : Int) ∧ x_9.fst - (1 : Int) < (↑(List.set x_9.snd (Int.toNat x_9.fst) (List.getD x_9.snd (x_9.fst - (1 : Int)).toNat w0)).length : Int)) (chk (InR (x_9.fst - (1 : Int))) (x_10 ((x_9.fst - (1 : Int), (List.set x_9.snd (Int.toNat x_9.fst) (List.getD x_9.snd (x_9.fst - (1 : Int)).toNat w0)).set (x_9.fst - (1 : Int)).toNat (List.getD x_9.snd (Int.toNat x_9.fst) w0))))))))))) (chk (InR (x_7.fst + (1 : Int))) (x_8 ((x_7.fst + (1 : Int), x_9.snd))))))))) (F) (x_7)) (exit x_7))  F (A + (1 : Int), l)) := by
 have hl := hs.len
 refine ok_loop (fun x : Int × List Voyage => A + 1 ≤ x.1 ∧ x.1 ≤ 1001 ∧ x.2.Perm l) (fun x => (1001 - x.1).toNat) ⟨Int.le_refl _, by show A + 1 ≤ 1001; omega, .refl _⟩ (by show (1001 - (A + 1)).toNat < F; omega) ?_
 rintro ⟨i, m⟩ next ⟨i1, i2, i3⟩ hn
 simp only at i1 i2 i3
 dsimp only
 refine ok_brk (fun h => ?_) (fun h => he _ i3)
 have h : i < B := of_decide_eq_true h
 refine ok_loop (fun x : Int × List Voyage => A ≤ x.1 ∧ x.1 ≤ i ∧ x.2.Perm l) (fun x => x.1.toNat) ⟨by show A ≤ i; omega, Int.le_refl _, i3⟩ (by show i.toNat < F; omega) ?_
 rintro ⟨j, p⟩ next2 ⟨j1, j2, j3⟩ hn2
 simp only at j1 j2 j3
 dsimp only
 have e := j3.length_eq
 have hp := hs.perm j3
 refine ok_chk (fun hc => ⟨by omega, by omega⟩) (ok_chk (fun hc => show InR _ from ⟨by omega, by omega⟩) (ok_chk (fun hc => ?_) (ok_bnd (fun _ => True) ?_ fun c _ => ok_brk (fun hc => ?_) (fun _ => ok_chk (show InR _ from ⟨by omega, by omega⟩) (hn _ ⟨by show A + 1 ≤ i + 1; omega, by show i + 1 ≤ 1001; omega, j3⟩ (by show (1001 - (i + 1)).toNat < (1001 - i).toNat; omega))))))
 ·have hc : j > A := of_decide_eq_true hc
  exact ⟨by omega, by omega⟩
 ·refine ok_brk (fun hc => ?_) (fun _ => ok_some trivial)
  have hc : j > A := of_decide_eq_true hc
  exact ⟨_, cmp_ok (hp.get (by omega) (by omega)) (hp.get (by omega) (by omega)), trivial⟩
 ·simp only [Bool.and_eq_true, decide_eq_true_eq] at hc
  refine ok_chk (show InR _ from ⟨by omega, by omega⟩) (ok_chk (show InR _ from ⟨by omega, by omega⟩) (ok_chk ⟨by omega, by omega⟩ (ok_chk ⟨by omega, by omega⟩ (ok_chk ⟨by omega, by omega⟩ (ok_chk ⟨by omega, by rw [List.length_set]; omega⟩ (ok_chk (show InR _ from ⟨by omega, by omega⟩) (hn2 _ ⟨by show A ≤ j - 1; omega, by show j - 1 ≤ i; omega, (swap_perm (by omega) (by omega)).trans j3⟩ (by show (j - 1).toNat < j.toNat; omega))))))))
end
end Go.Proofs.Fs

namespace Go.Proofs.Fs
open Go Go.KX
set_option maxRecDepth 100000 in
set_option maxHeartbeats 4000000 in
theorem symM_ok {F : Nat} (hF : 100000 < F) : ∀ (n : Nat) (a m b : Int) (l : List Voyage), ShL l → 0 ≤ a → a < m → m < b → b ≤ l.length → b - a ≤ n → Ok (fun l' => l'.Perm l) (symMR F n [a, m, b] l)
 | 0, a, m, b, l, hs, h0, h1, h2, h3, h4 => by omega
 | n + 1, a, m, b, l, hs, h0, h1, h2, h3, h4 => by
  have hl := hs.len
  have ih := symM_ok hF n
  unfold symMR
  refine ok_chk (show InR _ from ⟨by omega, by omega⟩) (ok_brk (fun _ => ?_) (fun hma => ok_chk (show InR _ from ⟨by omega, by omega⟩) (ok_brk (fun _ => ?_) fun hbm => ?_)))
  ·refine ok_loop (fun x : Int × Int => m ≤ x.1 ∧ x.1 ≤ x.2 ∧ x.2 ≤ b) (fun x => (x.2 - x.1).toNat) ⟨Int.le_refl _, by show m ≤ b; omega, Int.le_refl _⟩ (by show (b - m).toNat < F; omega) ?_
   rintro ⟨i, j⟩ next ⟨i1, i2, i3⟩ hn
   simp only at i1 i2 i3
   dsimp only
   refine ok_brk (fun h => ?_) (fun h => ?_)
   ·have h : i < j := of_decide_eq_true h
    rw [half ⟨by omega, by omega⟩]
    refine ok_chk (show InR _ from ⟨by omega, by omega⟩) (ok_chk ⟨by decide, by decide⟩ (ok_chk (show InR _ from ⟨by omega, by omega⟩) (ok_chk ⟨by omega, by omega⟩ (ok_chk ⟨by omega, by omega⟩ (ok_bnde (cmp_ok (hs.get (by omega) (by omega)) (hs.get (by omega) (by omega))) (ok_brk (fun _ => ok_chk (show InR _ from ⟨by omega, by omega⟩) (hn _ ⟨by show m ≤ (i + j) / 2 + 1; omega, by show (i + j) / 2 + 1 ≤ j; omega, i3⟩ (by show (j - ((i + j) / 2 + 1)).toNat < (j - i).toNat; omega))) (fun _ => hn _ ⟨i1, by show i ≤ (i + j) / 2; omega, by show (i + j) / 2 ≤ b; omega⟩ (by show ((i + j) / 2 - i).toNat < (j - i).toNat; omega))))))))
   ·refine ok_loop (fun x : Int × List Voyage => a ≤ x.1 ∧ x.1 ≤ b ∧ x.2.Perm l) (fun x => (b - x.1).toNat) ⟨Int.le_refl _, by show a ≤ b; omega, .refl _⟩ (by show (b - a).toNat < F; omega) ?_
    rintro ⟨k, p⟩ next ⟨k1, k2, k3⟩ hn
    simp only at k1 k2 k3
    dsimp only
    have hm := k3.length_eq
    refine ok_chk (show InR _ from ⟨by omega, by omega⟩) (ok_brk (fun h => ?_) (fun h => ok_some k3))
    have h : k < i - 1 := of_decide_eq_true h
    refine ok_chk (show InR _ from ⟨by omega, by omega⟩) (ok_chk (show InR _ from ⟨by omega, by omega⟩) (ok_chk ⟨by omega, by omega⟩ (ok_chk ⟨by omega, by omega⟩ (ok_chk ⟨by omega, by omega⟩ (ok_chk ⟨by omega, by rw [List.length_set]; omega⟩ (ok_chk (show InR _ from ⟨by omega, by omega⟩) (hn _ ⟨by show a ≤ k + 1; omega, by show k + 1 ≤ b; omega, (swap_perm (by omega) (by omega)).trans k3⟩ (by show (b - (k + 1)).toNat < (b - k).toNat; omega))))))))
  ·refine ok_loop (fun x : Int × Int => a ≤ x.1 ∧ x.1 ≤ x.2 ∧ x.2 ≤ m) (fun x => (x.2 - x.1).toNat) ⟨Int.le_refl _, by show a ≤ m; omega, Int.le_refl _⟩ (by show (m - a).toNat < F; omega) ?_
   rintro ⟨i, j⟩ next ⟨i1, i2, i3⟩ hn
   simp only at i1 i2 i3
   dsimp only
   refine ok_brk (fun h => ?_) (fun h => ?_)
   ·have h : i < j := of_decide_eq_true h
    rw [half ⟨by omega, by omega⟩]
    refine ok_chk (show InR _ from ⟨by omega, by omega⟩) (ok_chk ⟨by decide, by decide⟩ (ok_chk (show InR _ from ⟨by omega, by omega⟩) (ok_chk ⟨by omega, by omega⟩ (ok_chk ⟨by omega, by omega⟩ (ok_bnde (cmp_ok (hs.get (by omega) (by omega)) (hs.get (by omega) (by omega))) (ok_brk (fun _ => ok_chk (show InR _ from ⟨by omega, by omega⟩) (hn _ ⟨by show a ≤ (i + j) / 2 + 1; omega, by show (i + j) / 2 + 1 ≤ j; omega, i3⟩ (by show (j - ((i + j) / 2 + 1)).toNat < (j - i).toNat; omega))) (fun _ => hn _ ⟨i1, by show i ≤ (i + j) / 2; omega, by show (i + j) / 2 ≤ m; omega⟩ (by show ((i + j) / 2 - i).toNat < (j - i).toNat; omega))))))))
   ·refine ok_loop (fun x : Int × List Voyage => a ≤ x.1 ∧ x.1 ≤ m ∧ x.2.Perm l) (fun x => x.1.toNat) ⟨by show a ≤ m; omega, Int.le_refl _, .refl _⟩ (by show m.toNat < F; omega) ?_
    rintro ⟨k, p⟩ next ⟨k1, k2, k3⟩ hn
    simp only at k1 k2 k3
    dsimp only
    have hm := k3.length_eq
    refine ok_brk (fun h => ?_) (fun h => ok_some k3)
    have h : k > i := of_decide_eq_true h
    refine ok_chk (show InR _ from ⟨by omega, by omega⟩) (ok_chk (show InR _ from ⟨by omega, by omega⟩) (ok_chk ⟨by omega, by omega⟩ (ok_chk ⟨by omega, by omega⟩ (ok_chk ⟨by omega, by omega⟩ (ok_chk ⟨by omega, by rw [List.length_set]; omega⟩ (ok_chk (show InR _ from ⟨by omega, by omega⟩) (hn _ ⟨by show a ≤ k - 1; omega, by show k - 1 ≤ m; omega, (swap_perm (by omega) (by omega)).trans k3⟩ (by show (k - 1).toNat < k.toNat; omega))))))))
  ·have hma : ¬ m - a = 1 := by simpa using hma
   have hbm : ¬ b - m = 1 := by simpa using hbm
   rw [half (s := a + b) ⟨by omega, by omega⟩]
   have q1 : 2 * ((a + b) / 2) ≤ a + b := by omega
   have q2 : a + b ≤ 2 * ((a + b) / 2) + 1 := by omega
   generalize (a + b) / 2 = mid at q1 q2 ⊢
   refine ok_chk (show InR _ from ⟨by omega, by omega⟩) (ok_chk ⟨by decide, by decide⟩ (ok_chk (show InR _ from ⟨by omega, by omega⟩) (ok_chk (show InR _ from ⟨by omega, by omega⟩) (ok_join (by omega) (fun x : Int × Int => (m > mid ∧ x.1 = mid + m - b ∧ x.2 = mid) ∨ (m ≤ mid ∧ x.1 = a ∧ x.2 = m)) ?_ ?_))))
   ·rintro ⟨s0, r0⟩ hx
    simp only at hx
    refine ok_chk (show InR _ from ⟨by omega, by omega⟩) (ok_loop (fun x : Int × Int => s0 ≤ x.1 ∧ x.1 ≤ x.2 ∧ x.2 ≤ r0) (fun x => (x.2 - x.1).toNat) ⟨Int.le_refl _, by show s0 ≤ r0; omega, Int.le_refl _⟩ (by show (r0 - s0).toNat < F; omega) ?_)
    rintro ⟨i, j⟩ next ⟨i1, i2, i3⟩ hn
    simp only at i1 i2 i3
    dsimp only
    refine ok_brk (fun h => ?_) (fun h => ?_)
    ·have h : i < j := of_decide_eq_true h
     rw [half ⟨by omega, by omega⟩]
     refine ok_chk (show InR _ from ⟨by omega, by omega⟩) (ok_chk ⟨by decide, by decide⟩ (ok_chk (show InR _ from ⟨by omega, by omega⟩) (ok_chk (show InR _ from ⟨by omega, by omega⟩) (ok_chk ⟨by omega, by omega⟩ (ok_chk ⟨by omega, by omega⟩ (ok_bnde (cmp_ok (hs.get (by omega) (by omega)) (hs.get (by omega) (by omega))) (ok_brk (fun _ => ok_chk (show InR _ from ⟨by omega, by omega⟩) (hn _ ⟨by show s0 ≤ (i + j) / 2 + 1; omega, by show (i + j) / 2 + 1 ≤ j; omega, i3⟩ (by show (j - ((i + j) / 2 + 1)).toNat < (j - i).toNat; omega))) (fun _ => hn _ ⟨i1, by show i ≤ (i + j) / 2; omega, by show (i + j) / 2 ≤ r0; omega⟩ (by show ((i + j) / 2 - i).toNat < (j - i).toNat; omega)))))))))
    ·refine ok_chk (show InR _ from ⟨by omega, by omega⟩) (ok_join (by omega) (fun x : List Voyage => x.Perm l) ?_ ?_)
     ·intro l1 p1
      refine ok_join (by omega) (fun x : List Voyage => x.Perm l) ?_ ?_
      ·intro l2 p2
       refine ok_brk (fun hc => ?_) (fun _ => ok_some p2)
       simp only [Bool.and_eq_true, decide_eq_true_eq] at hc
       have e2 := p2.length_eq
       exact ok_bnd _ (ih mid (mid + m - i) b l2 (hs.perm p2) (by omega) (by omega) (by omega) (by omega) (by omega)) fun l3 p3 => ok_some (p3.trans p2)
      ·intro k4 hk4
       refine ok_brk (fun hc => ?_) (fun _ => hk4 _ p1)
       simp only [Bool.and_eq_true, decide_eq_true_eq] at hc
       have e2 := p1.length_eq
       exact ok_bnd _ (ih a i mid l1 (hs.perm p1) (by omega) (by omega) (by omega) (by omega) (by omega)) fun l3 p3 => hk4 _ (p3.trans p1)
     ·intro k3 hk3
      refine ok_brk (fun hc => ?_) (fun _ => hk3 _ (.refl _))
      simp only [Bool.and_eq_true, decide_eq_true_eq] at hc
      refine ok_chk (show InR _ from ⟨by omega, by omega⟩) (ok_chk (show InR _ from ⟨by omega, by omega⟩) ?_)
      refine ok_loop (fun x : Int × Int × List Voyage => 0 < x.1 ∧ x.1 ≤ m - i ∧ 0 < x.2.1 ∧ x.2.1 ≤ mid + m - i - m ∧ x.2.2.Perm l) (fun x => (x.1 + x.2.1).toNat) ⟨by show 0 < m - i; omega, by show m - i ≤ _; omega, by show 0 < mid + m - i - m; omega, by show mid + m - i - m ≤ _; omega, .refl _⟩ (by show (m - i + (mid + m - i - m)).toNat < F; omega) ?_
      rintro ⟨u, v, p⟩ next ⟨j1, j2, j3, j4, j5⟩ hn
      simp only at j1 j2 j3 j4 j5
      dsimp only
      have e2 := j5.length_eq
      refine ok_brk (fun hne => ok_brk (fun hgt => ?_) (fun hgt => ?_)) (fun hne => ?_)
      ·have hgt : u > v := of_decide_eq_true hgt
       refine ok_chk (show InR _ from ⟨by omega, by omega⟩) (swr hF (A := m - u) (B := m) (n := v) (l := p) (exit := fun l' => chk (InR (u - v)) (next (u - v, v, l'))) (by omega) (by omega) (by omega) (by omega) (by omega) (by omega) fun l' p' => ?_)
       exact ok_chk (show InR _ from ⟨by omega, by omega⟩) (hn _ ⟨by show 0 < u - v; omega, by show u - v ≤ _; omega, j3, j4, p'.trans j5⟩ (by show (u - v + v).toNat < (u + v).toNat; omega))
      ·have hgt : ¬ u > v := of_decide_eq_false hgt
       have hne : u ≠ v := by simpa using hne
       refine ok_chk (show InR _ from ⟨by omega, by omega⟩) (ok_chk (show InR _ from ⟨by omega, by omega⟩) (ok_chk (show InR _ from ⟨by omega, by omega⟩) (swr hF (A := m - u) (B := m + v - u) (n := u) (l := p) (exit := fun l' => chk (InR (v - u)) (next (u, v - u, l'))) (by omega) (by omega) (by omega) (by omega) (by omega) (by omega) fun l' p' => ?_)))
       exact ok_chk (show InR _ from ⟨by omega, by omega⟩) (hn _ ⟨j1, j2, by show 0 < v - u; omega, by show v - u ≤ _; omega, p'.trans j5⟩ (by show (u + (v - u)).toNat < (u + v).toNat; omega))
      ·have hne : u = v := by simpa using hne
       refine ok_chk (show InR _ from ⟨by omega, by omega⟩) (swr hF (A := m - u) (B := m) (n := u) (l := p) (exit := fun l' => k3 l') (by omega) (by omega) (by omega) (by omega) (by omega) (by omega) fun l' p' => hk3 _ (p'.trans j5))
   ·intro k hk
    refine ok_brk (fun hgt => ?_) (fun hgt => ?_)
    ·have hgt : m > mid := of_decide_eq_true hgt
     exact ok_chk (show InR _ from ⟨by omega, by omega⟩) (hk _ (.inl ⟨hgt, rfl, rfl⟩))
    ·have hgt : ¬ m > mid := of_decide_eq_false hgt
     exact hk _ (.inr ⟨by omega, rfl, rfl⟩)
end Go.Proofs.Fs

namespace Go.Proofs.Fs
open Go Go.KX
theorem awake_eq : law12_awake 1000000000000000 = some true := by kernel_rfl
end Go.Proofs.Fs
