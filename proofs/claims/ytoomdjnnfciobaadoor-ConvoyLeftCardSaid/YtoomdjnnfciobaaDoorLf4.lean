/- Texts KY, KZ, KZB, FnA, KLW, KLX, KLN: own work; each part says what it is. -/
import Derived.Test.YtoomdjnnfciobaaDoorLf3
import Derived.KernelRfl
namespace Go.KX
open Go Go.RowKit
noncomputable section
theorem stepR_scope {P : Program} {b : Frame} {a : Act} {k : List Item} {cs : List Frame} {w : World} {c : Code} : step P (lone (b.atR a (.code (.scope c) :: k)) cs w) = .next (lone (b.atR a (.code c :: .inScope c :: k)) cs w) :=
 step_lone_go (by simp [stepG, stepG.exec, Frame.atR])
theorem stepR_inScope {P : Program} {b : Frame} {a : Act} {k : List Item} {cs : List Frame} {w : World} {c : Code} : step P (lone (b.atR a (.inScope c :: k)) cs w) = .next (lone (b.atR a k) cs w) :=
 step_lone_go (by simp [stepG, stepG.exec, Frame.atR])
def noGoto (Q : Exit → Act → World → Prop) : Exit → Act → World → Prop
 | .goto _, _, _ => False
 | e, a, w => Q e a w
theorem wpIn_scope {F : Fence} {n : Nat} {P : Program} {Q : Exit → Act → World → Prop} {a : Act} {w : World} {c : Code} (h : c.wpIn F n P (noGoto Q) a w) : (Code.scope c).wpIn F n P Q a w := by
 intro b k cs hro hb hr
 have h0 : (lone (b.atR a (.code (.scope c) :: k)) cs w).fenced P F := fenced_calm hb hr rfl
 obtain ⟨e, a₁, w₁, hq, harr⟩ := h b (.inScope c :: k) cs hro hb hr
 cases e with
 | normal => exact ⟨.normal, a₁, w₁, hq, .head h0 stepR_scope (StepsIn.trans harr (.one (fenced_calm hb hr rfl) stepR_inScope))⟩
 | exit id =>
  have hx : exitTo id (.inScope c :: k) = exitTo id k := by simp [exitTo]
  exact ⟨.exit id, a₁, w₁, hq, fun k' hk => .head h0 stepR_scope (harr.1 k' (by rw [hx]; exact hk)),
   fun hr' hk => let ⟨k₁, h1, h2⟩ := harr.2 hr' (by rw [hx]; exact hk); ⟨k₁, h1, .head h0 stepR_scope h2⟩⟩
 | goto l => exact hq.elim
 | ret => exact ⟨_, a₁, w₁, hq, .of_steps (.one h0 stepR_scope) harr⟩
 | panic ch => exact ⟨_, a₁, w₁, hq, .of_steps (.one h0 stepR_scope) harr⟩
 | outgrown => exact ⟨_, a₁, w₁, hq, .of_steps (.one h0 stepR_scope) harr⟩
section
variable {E : Env} {R : Type} {r : R} {gl : List (Nat × Val E.G.car)} {fx : Fix}
theorem Does.seq {fr : Fr} {x y : Code} {s s1 s2 : XS E.G.car} {e : Ex} (h1 : Does E gl fx fr x s s1 .normal) (h2 : Does E gl fx fr y s1 s2 e) : Does E gl fx fr (.seq x y) s s2 e :=
 fun b m A a w Q hg hN hr hq => wpIn_seq (h1 b m A a w _ hg hN hr fun m' A' a' w' hr' => h2 b m' A' a' w' Q hg hN hr' hq)
theorem Does.seqX {fr : Fr} {x y : Code} {s s1 : XS E.G.car} {e : Ex} (h1 : Does E gl fx fr x s s1 e) (he : e ≠ .normal) : Does E gl fx fr (.seq x y) s s1 e :=
 fun b m A a w Q hg hN hr hq => wpIn_seq (h1 b m A a w _ hg hN hr fun m' A' a' w' hr' => by
  cases e with
  | normal => exact absurd rfl he
  | _ => exact hq m' A' a' w' hr')
theorem Does.from {fr : Fr} {x : Code} {s s0 s1 : XS E.G.car} {e : Ex} (h1 : Does E gl fx fr x s s1 e) (hm : ∀ f, s.map f = s0.map f) : Does E gl fx fr x s0 s1 e :=
 fun b m A a w Q hg hN hr hq => h1 b m A a w Q hg hN (by rw [hm]; exact hr) hq
theorem Does.arr {fr : Fr} {x : Code} {T : Tpl} {d : Nat} {s s2 s' s1 : XS E.G.car} {ρ : Rho} {e : Ex} (hs : OKS E fx s) (hF : Final T s.nl ρ) (hst : StOK T d s s2 ρ (fun _ _ => False) s') (h1 : Does E gl fx fr x s' s1 e) : Does E gl fx fr x s2 s1 e :=
 fun b m A a w Q hg hN hr hq => by
  obtain ⟨m', A', hr'⟩ := hst.rel hs hF hg.pn hr
  exact h1 b m' A' a w Q hg hN hr' hq
theorem Does.close {fr : Fr} {x : Code} {s s0 s1 : XS E.G.car} {e : Ex} (h1 : Does E gl fx fr x s s1 e) (hf : fr.f = 0) (hm : Same0 E fx s0 s) : Does E gl fx fr x s0 s1 e :=
 fun b m A a w Q hg hN hr hq => by
  rw [hf] at hr
  obtain ⟨m', hr'⟩ := hm b m A a w hg.pn hr
  exact h1 b m' A a w Q hg hN (by rw [hf]; exact hr') hq
theorem seq_sound {cx : Ctx E} {x0 : Ex1 E R} {x y : Code} (hx : CodeOK E gl x (exec1 cx x0 x)) (hy : CodeOK E gl y (exec1 cx x0 y)) {Y : YS E R} (hY : YOK E gl fx.ys Y) {fr : Fr} {h : Hint} {s : XS E.G.car} {K : KT E R} (hf : fr.f = 0) (hs : OKS E fx s)
  (hk : exec1 cx x0 x Y fr h s (fun h e s => match e with | .normal => exec1 cx x0 y Y fr h s K | e => K h e s) = some r) : ∃ h' e s', K h' e s' = some r ∧ OKS E fx s' ∧ Ext fr.d s s' ∧ Does E gl fx fr (.seq x y) s s' e := by
 obtain ⟨h1, e1, s1, k1, o1, x1, d1⟩ := hx fx Y fr h s r _ hY hf hs hk
 cases e1 with
 | normal =>
  obtain ⟨h2, e2, s2, k2, o2, x2, d2⟩ := hy fx Y fr h1 s1 r K hY hf o1 k1
  exact ⟨h2, e2, s2, k2, o2, x1.trans x2, d1.seq d2⟩
 | ret => exact ⟨h1, _, s1, k1, o1, x1, d1.seqX (by simp)⟩
 | exit id => exact ⟨h1, _, s1, k1, o1, x1, d1.seqX (by simp)⟩
theorem runOf_ok {cx : Ctx E} (hin : InlS E gl cx) {x0 : Ex1 E R} (hx0 : ∀ c, CodeOK E gl c (x0 c)) {ys : List YI} {Y : YS E R} (hY : YOK E gl ys Y) {roots : Nat → List Nat} : RunOK E gl ys (runOf cx roots x0 Y) := by
 intro c d xs s0 h K r o ht hl hk
 cases c with
 | fn k =>
  have hk : (match findFn k cx.inl with | some fn => goFn roots x0 Y fn d xs s0 h K | none => match findSrt k cx.srt with | some q => sortR q d xs s0 h K | none => none) = some r := hk
  split at hk
  ·rename_i fn hfn
   obtain ⟨hP, hen⟩ := hin.1 k fn hfn
   obtain ⟨h', v, s', h1, h2, h3, h4, h5⟩ := goFn_sound hx0 hP hY o ht hl hk
   exact ⟨h', v, s', h1, h2, h3, h4, hen, h5⟩
  ·split at hk
   ·rename_i q hq
    obtain ⟨hq1, hq2⟩ := findSrt_mem hq
    obtain ⟨h', v, s', h1, h2, h3, h4, h5⟩ := sortR_sound (hin.2 q hq1) o ht hl hk
    subst hq2
    exact ⟨h', v, s', h1, h2, h3, h4, (hin.2 q hq1).enters, h5⟩
   ·cases hk
 | y L =>
  have hk : (match findY L Y with | some y => y d xs s0 h K | none => none) = some r := hk
  split at hk
  ·rename_i f hf
   obtain ⟨y, hy, hyL, hh⟩ := hY L f hf
   obtain ⟨h', s', h1, h2, h3, h4, h5, h6⟩ := hh ys d xs s0 h K r o ht hl hk
   exact ⟨h', _, s', h1, h2, h3, h4, y, hy, hyL, rfl, h5, h6⟩
  ·cases hk
theorem exec1_sound {cx : Ctx E} (hmix : E.P.follows .mixedOrders = true) (ht : ∀ c ∈ cx.tbl, CSok E gl c) (hin : InlS E gl cx) (hkeys : ∀ p ∈ E.keys, KeyOK E.P E.G p.1 p.2) {x0 : Ex1 E R} (hx0 : ∀ c, CodeOK E gl c (x0 c)) : ∀ c : Code, CodeOK E gl c (exec1 cx x0 c) := by
 intro c
 induction c with
 | skip => intro fx Y fr h s r K hY hf hs hk; exact ⟨h, .normal, s, hk, hs, Ext.refl _ _, fun b m A a w Q _ _ hr hq => wpIn_skip (hq m A a w hr)⟩
 | region id ops draw =>
  intro fx Y fr h s r K hY hf hs hk
  obtain ⟨rs, h', h1, h2, h3, h4⟩ := region_sound (K := fun rs h => K h .normal rs.s) hmix ⟨ht, runOf_ok hin hx0 hY, hs.glo, hs.pn, hkeys⟩ (by omega) hs hk
  exact ⟨h', .normal, rs.s, h1, h2, h3, h4⟩
 | seq x y hx hy =>
  intro fx Y fr h s r K hY hf hs hk
  cases h with
  | j T ha hb =>
   obtain ⟨s1, hk, o1, x1, m1⟩ := restT_sound T.kt s hs hk
   obtain ⟨s2, hk, o2, x2, m2⟩ := restL_sound T.kl s1 o1 hk
   have hk : exec1 cx x0 x Y ⟨fr.f, Nat.succ fr.d, fr.N, fr.ds, fr.roots⟩ ha s2 (fun h e s' => match e with
    | .normal => closeC (Nat.succ fr.d) T.rw s' fun s' => arrK T fr.d s2 s' (fun x => stK T fr.d s2 x fun s => exec1 cx x0 y Y fr hb s K)
    | e => K h e s') = some r := join_some hk
   obtain ⟨h3, e3, s3, k3, o3, x3, d3⟩ := hx fx Y ⟨fr.f, Nat.succ fr.d, fr.N, fr.ds, fr.roots⟩ ha s2 r _ hY hf o2 hk
   have d3 : Does E gl fx fr x s2 s3 e3 := d3
   have x3' : Ext fr.d s2 s3 := x3.mono (Nat.le_succ _)
   have d3' : Does E gl fx fr x s s3 e3 := d3.from (fun f => (m2 f).trans (m1 f))
   cases e3 with
   | normal =>
    obtain ⟨s3c, k3, _, x3c, e3c⟩ := closeC_sound T.rw s3 o3 k3
    obtain ⟨y0, k4, harr⟩ := arr_sound (d := fr.d) o2.inv (OldS.of_ext (x3.trans x3c)) k3
    obtain ⟨s4, ρ, k5, hF, hst⟩ := harr r _ k4
    obtain ⟨h6, e6, s6, k6, o6, x6, d6⟩ := hy fx Y fr hb s4 r K hY hf (hst.oks o2 hF) k5
    exact ⟨h6, e6, s6, k6, o6, ((x1.trans x2).trans (hst.ext hF)).trans x6, d3'.seq ((d6.arr o2 hF hst).close hf e3c)⟩
   | ret => exact ⟨h3, _, s3, k3, o3, (x1.trans x2).trans x3', d3'.seqX (by simp)⟩
   | exit id => exact ⟨h3, _, s3, k3, o3, (x1.trans x2).trans x3', d3'.seqX (by simp)⟩
  | _ => exact seq_sound hx hy hY hf hs hk
 | cond v x y hx hy =>
  intro fx Y fr h s r K hY hf hs hk
  have hS : Sees (E := E) ⟨fun t => s.tmp fr.f t, s, none⟩ (s.map fr.f) := ⟨fun i v hv => by
   have hv' : s.tmp fr.f i = some v := hv
   simp only [XS.map, hv', Option.map_some], fun _ => rfl, fun _ => rfl, fun _ _ => rfl⟩
  obtain ⟨u, h1, hu⟩ := evK_sound hS hk
  have ev : ∀ {c : Bool}, (∀ m, den m u = .bool c) → ∀ {b : Base} {m A a w}, Rel (cxOf E b) m A (s.map fr.f) a w → a.eval v = .bool c := fun hc _ _ _ _ _ hr => by
   rw [(hu.eval hr (fun _ _ => rfl)).1, hc]
  have go : ∀ (c : Bool), (∀ m, den m u = .bool c) → ∀ hh, (match c with | true => exec1 cx x0 x Y fr hh s K | false => exec1 cx x0 y Y fr hh s K) = some r → ∃ h' e s', K h' e s' = some r ∧ OKS E fx s' ∧ Ext fr.d s s' ∧ Does E gl fx fr (.cond v x y) s s' e := by
   intro c hc hh hk
   cases c with
   | true =>
    obtain ⟨h2, e2, s2, k2, o2, x2, d2⟩ := hx fx Y fr hh s r K hY hf hs hk
    exact ⟨h2, e2, s2, k2, o2, x2, fun b m A a w Q hg hN hr hq => wpIn_cond_split (ev hc hr) (fun _ => d2 b m A a w Q hg hN hr hq) (fun h => by cases h)⟩
   | false =>
    obtain ⟨h2, e2, s2, k2, o2, x2, d2⟩ := hy fx Y fr hh s r K hY hf hs hk
    exact ⟨h2, e2, s2, k2, o2, x2, fun b m A a w Q hg hN hr hq => wpIn_cond_split (ev hc hr) (fun h => by cases h) (fun _ => d2 b m A a w Q hg hN hr hq)⟩
  split at h1
  ·rename_i e
   refine go e (fun _ => rfl) h ?_
   cases e <;> exact h1
  ·rename_i c
   cases c with
   | true => exact go true (fun _ => rfl) h.l1 (cutK_some h1)
   | false => exact go false (fun _ => rfl) h.l2 (cutK_some h1)
  ·cases h1
 | block id x hx =>
  intro fx Y fr h s r K hY hf hs hk
  obtain ⟨h1, e1, s1, k1, o1, x1, d1⟩ := hx fx Y fr h s r _ hY hf hs hk
  cases e1 with
  | normal => exact ⟨h1, .normal, s1, k1, o1, x1, fun b m A a w Q hg hN hr hq => wpIn_block (d1 b m A a w _ hg hN hr fun m' A' a' w' hr' => hq m' A' a' w' hr')⟩
  | ret => exact ⟨h1, .ret, s1, k1, o1, x1, fun b m A a w Q hg hN hr hq => wpIn_block (d1 b m A a w _ hg hN hr fun m' A' a' w' hr' => hq m' A' a' w' hr')⟩
  | exit id' =>
   have k1 : (bif Nat.beq id' id then K h1 .normal s1 else K h1 (.exit id') s1) = some r := k1
   cases e : Nat.beq id' id with
   | true =>
    rw [e, cond_true] at k1
    have e := Nat.eq_of_beq_eq_true e
    exact ⟨h1, .normal, s1, k1, o1, x1, fun b m A a w Q hg hN hr hq => wpIn_block (d1 b m A a w _ hg hN hr fun m' A' a' w' hr' => by
     simp only [Ex.to, Exit.inBlock, if_pos e]
     exact hq m' A' a' w' hr')⟩
   | false =>
    rw [e, cond_false] at k1
    have e : ¬ id' = id := fun h => by rw [h] at e; simp at e
    exact ⟨h1, .exit id', s1, k1, o1, x1, fun b m A a w Q hg hN hr hq => wpIn_block (d1 b m A a w _ hg hN hr fun m' A' a' w' hr' => by
     simp only [Ex.to, Exit.inBlock, if_neg e]
     exact hq m' A' a' w' hr')⟩
 | loop x hx =>
  intro fx Y fr h s r K hY hf hs hk
  cases h with
  | l T hb =>
   obtain ⟨sc, hk, oc, xc, ec⟩ := closeC_sound T.rw s hs hk
   obtain ⟨s1, hk, o1, x1, m1⟩ := restT_sound T.kt sc oc hk
   obtain ⟨s2, hk, o2, x2, m2⟩ := restL_sound T.kl s1 o1 hk
   obtain ⟨y0, hk, harr⟩ := arr_sound (d := fr.d) (d' := 1000000) o2.inv ⟨fun _ _ _ h _ => h, fun _ _ _ _ _ h _ => h⟩ hk
   have key : ∀ (n : Nat) (y : VT E.G.car T.ks) (s3 : XS E.G.car), Arr T fr.d s2 s3 R y → loopC (fun y next => stK T fr.d s2 y fun s' => exec1 cx x0 x Y ⟨fr.f, Nat.succ fr.d, fr.N, fr.ds, fr.roots⟩ hb s' fun h e s2' => match e with
      | .normal => closeC (Nat.succ fr.d) T.rw s2' fun s2' => arrK T fr.d s2 s2' next
      | e => K h e s2') n y = some r →
     ∃ h' e s', K h' e s' = some r ∧ OKS E fx s' ∧ Ext fr.d s2 s' ∧ ∀ (b : Base) (m : Nat → MV) (A : Nat → Prop) (a : Act) (w : World) (Q : Exit → Act → World → Prop), Good E gl fx b → FrOK fr b → Rel (cxOf E b) m A (s3.map fr.f) a w →
      (∀ m' A' a' w', Rel (cxOf E b) m' A' (s'.map fr.f) a' w' → Q e.to a' w') → Code.roundsIn (cxOf E b).F 0 E.P x Q n a w := by
    intro n
    induction n with
    | zero => intro y s3 _ h; cases h
    | succ n ih =>
     intro y s3 harr h
     obtain ⟨s4, ρ, k5, hF, hst⟩ := harr r _ h
     obtain ⟨h6, e6, s6, k6, o6, x6, d6⟩ := hx fx Y ⟨fr.f, Nat.succ fr.d, fr.N, fr.ds, fr.roots⟩ hb s4 r _ hY hf (hst.oks o2 hF) k5
     have d6 : Does E gl fx fr x s3 s6 e6 := Does.arr (fr := fr) o2 hF hst d6
     have x6' : Ext fr.d s2 s6 := (hst.ext hF).trans (x6.mono (Nat.le_succ _))
     cases e6 with
     | normal =>
      obtain ⟨s6c, k6, _, x6c, e6c⟩ := closeC_sound T.rw s6 o6 k6
      obtain ⟨y1, k7, harr1⟩ := arr_sound (d := fr.d) o2.inv (hst.old (x6.trans x6c)) k6
      obtain ⟨h8, e8, s8, k8, o8, x8, d8⟩ := ih y1 s6c harr1 k7
      exact ⟨h8, e8, s8, k8, o8, x8, fun b m A a w Q hg hN hr hq => d6 b m A a w _ hg hN hr fun m' A' a' w' hr' => by
       rw [hf] at hr'
       obtain ⟨m2, hr2⟩ := e6c b m' A' a' w' hg.pn hr'
       exact d8 b m2 A' a' w' Q hg hN (by rw [hf]; exact hr2) hq⟩
     | ret => exact ⟨h6, _, s6, k6, o6, x6', fun b m A a w Q hg hN hr hq => d6 b m A a w _ hg hN hr fun m' A' a' w' hr' => hq m' A' a' w' hr'⟩
     | exit id => exact ⟨h6, _, s6, k6, o6, x6', fun b m A a w Q hg hN hr hq => d6 b m A a w _ hg hN hr fun m' A' a' w' hr' => hq m' A' a' w' hr'⟩
   obtain ⟨h3, e3, s3, k3, o3, x3, d3⟩ := key cx.F y0 s2 harr hk
   exact ⟨h3, e3, s3, k3, o3, ((xc.trans x1).trans x2).trans x3, fun b m A a w Q hg hN hr hq => by
    rw [hf] at hr
    obtain ⟨m2', hr2⟩ := ec b m A a w hg.pn hr
    exact wpIn_loop_rounds cx.F (d3 b m2' A a w Q hg hN (by rw [m2, m1, hf]; exact hr2) hq)⟩
  | u n hb =>
   have key : ∀ (n : Nat) (h : Hint) (s : XS E.G.car), OKS E fx s → roundsK (fun h s K => exec1 cx x0 x Y fr h s K) K n h s = some r →
     ∃ h' e s', K h' e s' = some r ∧ OKS E fx s' ∧ Ext fr.d s s' ∧ ∀ (b : Base) (m : Nat → MV) (A : Nat → Prop) (a : Act) (w : World) (Q : Exit → Act → World → Prop), Good E gl fx b → FrOK fr b → Rel (cxOf E b) m A (s.map fr.f) a w →
      (∀ m' A' a' w', Rel (cxOf E b) m' A' (s'.map fr.f) a' w' → Q e.to a' w') → Code.roundsIn (cxOf E b).F 0 E.P x Q n a w := by
    intro n
    induction n with
    | zero => intro h s _ hk; cases hk
    | succ n ih =>
     intro h s hs hk
     obtain ⟨h6, e6, s6, k6, o6, x6, d6⟩ := hx fx Y fr h s r _ hY hf hs hk
     cases e6 with
     | normal =>
      obtain ⟨h8, e8, s8, k8, o8, x8, d8⟩ := ih h6 s6 o6 k6
      exact ⟨h8, e8, s8, k8, o8, x6.trans x8, fun b m A a w Q hg hN hr hq => d6 b m A a w _ hg hN hr fun m' A' a' w' hr' => d8 b m' A' a' w' Q hg hN hr' hq⟩
     | ret => exact ⟨h6, _, s6, k6, o6, x6, fun b m A a w Q hg hN hr hq => d6 b m A a w _ hg hN hr fun m' A' a' w' hr' => hq m' A' a' w' hr'⟩
     | exit id => exact ⟨h6, _, s6, k6, o6, x6, fun b m A a w Q hg hN hr hq => d6 b m A a w _ hg hN hr fun m' A' a' w' hr' => hq m' A' a' w' hr'⟩
   obtain ⟨h3, e3, s3, k3, o3, x3, d3⟩ := key n hb s hs hk
   exact ⟨h3, e3, s3, k3, o3, x3, fun b m A a w Q hg hN hr hq => wpIn_loop_rounds n (d3 b m A a w Q hg hN hr hq)⟩
  | _ => cases hk
 | rangeFunc g ps assign body ha hb => intro fx Y fr h s r K hY hf hs hk; exact range_sound hx0 hin.1 ha hb hY hf hs hk
 | exit id => intro fx Y fr h s r K hY hf hs hk; exact ⟨h, .exit id, s, hk, hs, Ext.refl _ _, fun b m A a w Q _ _ hr hq => wpIn_exit (hq m A a w hr)⟩
 | scope x hx =>
  intro fx Y fr h s r K hY hf hs hk
  obtain ⟨h1, e1, s1, k1, o1, x1, d1⟩ := hx fx Y fr h s r _ hY hf hs hk
  exact ⟨h1, e1, s1, k1, o1, x1, fun b m A a w Q hg hN hr hq => wpIn_scope (d1 b m A a w _ hg hN hr fun m' A' a' w' hr' => by cases e1 <;> exact hq m' A' a' w' hr')⟩
 | label l => intro fx Y fr h s r K hY hf hs hk; exact ⟨h, .normal, s, hk, hs, Ext.refl _ _, fun b m A a w Q _ _ hr hq => wpIn_label (hq m A a w hr)⟩
 | ret => intro fx Y fr h s r K hY hf hs hk; exact ⟨h, .ret, s, hk, hs, Ext.refl _ _, fun b m A a w Q _ _ hr hq => wpIn_ret (hq m A a w hr)⟩
 | _ => intro fx Y fr h s r K hY hf hs hk; cases hk
theorem exec_sound {cx : Ctx E} (hmix : E.P.follows .mixedOrders = true) (ht : ∀ c ∈ cx.tbl, CSok E gl c) (hin : InlS E gl cx) (hkeys : ∀ p ∈ E.keys, KeyOK E.P E.G p.1 p.2) : ∀ (n : Nat) (c : Code), CodeOK E gl c (exec (R := R) cx n c) := by
 intro n
 induction n with
 | zero => intro c fx Y fr h s r K _ _ _ hk; cases hk
 | succ n ih => exact exec1_sound hmix ht hin hkeys ih
end
end
end Go.KX

namespace Go.KX
open Go Go.RowKit
noncomputable section
section
variable {E : Env} {R : Type} {r : R} {gl : List (Nat × Val E.G.car)} {fx : Fix}
def mvOf (m : Nat → MV) : Option Nat → MV
 | some L => m L
 | none => nilMV
theorem seesOf (s : XS E.G.car) (f : Nat) : Sees (E := E) ⟨fun _ => none, s, none⟩ (s.map f) :=
 ⟨(fun i v hv => nomatch hv), fun _ => rfl, fun _ => rfl, fun _ _ => rfl⟩
def RelF (E : Env) (b : Base) (m : Nat → MV) (A : Nat → Prop) (g : Map E.G.car) (a : Act) (w : World) : Prop := Rel (cxOf E b) m A g a w ∧ ∀ x, ¬ b.bor x
theorem newRow_of {b : Base} {m : Nat → MV} {A : Nat → Prop} {g : Map E.G.car} {a : Act} {w : World} (h : RelF E b m A g a w) {L e t : Nat} {l : List (E.G.car t)} (hL : g (.o L) = some (.row e t l)) : NewRowAt E.G A b.B w (m L) e t l := by
 obtain ⟨h, hb⟩ := h
 obtain ⟨h1, h2⟩ := h.ent _ _ hL
 refine ⟨h1, ?_⟩
 rcases h2 with h2 | ⟨h2, h3, h4⟩
 ·exact .inl h2
 ·obtain ⟨h5, h6⟩ := h.own L _ (by rw [hL]; exact ⟨h2, rfl⟩)
  exact .inr ⟨h2, h3, h5.resolve_right (hb _), h6, h4⟩
theorem nilRow (G : Reg) (A : Nat → Prop) (sz : Nat) (w : World) (e t : Nat) : NewRowAt G A sz w nilMV e t ([] : List (G.car t)) := ⟨rfl, .inl ⟨rfl, rfl, 0, rfl⟩⟩
def RowsOf (s : XS E.G.car) (ls : List (Option Nat)) : Prop := ∀ L, some L ∈ ls → ∃ e t l, s.lab L 0 = some (.row e t l)
theorem ownsK_sound {s : XS E.G.car} : ∀ {vs : List SV} {cs : List (CV E.G.car)} {ks : List Key} {us : St E.G.car}, SvCases (s.map 0) vs cs ks us → ∀ {es : List Nat} {K : List (Option Nat) → Option R}, outK.ownsK s es cs vs K = some r →
  ∃ ls, K ls = some r ∧ RowsOf s ls ∧ ∀ (b : Base) (m : Nat → MV) (A : Nat → Prop) (a : Act) (w : World), RelF E b m A (s.map 0) a w → ResCells E.G A b.B w cs es (denL m vs) (ls.map (mvOf m)) := by
 intro vs cs ks us h
 induction h with
 | nil =>
  intro es K hk
  cases es <;> exact ⟨[], hk, (fun L h => nomatch h), fun b m A a w _ => ⟨rfl, rfl⟩⟩
 | cons hc hs ih =>
  intro es K hk
  rename_i v vs cv cs k ks u us
  cases cv with
  | v x =>
   have hk : outK.ownsK s es cs vs K = some r := by cases es <;> exact hk
   obtain ⟨ls, h1, h2, h3⟩ := ih hk
   refine ⟨ls, h1, h2, fun b m A a w hr => ?_⟩
   have hv : den m v = x := by cases hc with | plain h4 _ => exact h4 m
   have := h3 b m A a w hr
   cases es <;> exact ⟨_, by rw [denL, hv], this⟩
  | sl t l =>
   cases es with
   | nil => cases v <;> simp [outK.ownsK] at hk
   | cons e es =>
    cases hc with
    | nil =>
     have hk : outK.ownsK s es cs vs (fun ls => K (none :: ls)) = some r := hk
     obtain ⟨ls, h1, h2, h3⟩ := ih hk
     refine ⟨_, h1, fun L hL => h2 L (by simpa using hL), fun b m A a w hr => ⟨nilMV, denL m vs, ls.map (mvOf m), ?_, rfl, nilRow _ _ _ _ _ _, h3 b m A a w hr⟩⟩
     simp only [denL, den, nilMV]
    | ext h4 h5 =>
     rename_i L
     have hk : (match s.lab L 0 with
      | some (.row e' _ _) => bif Nat.beq e e' then outK.ownsK s es cs vs fun ls => K (some L :: ls) else none
      | _ => none) = some r := hk
     split at hk
     ·rename_i e' t' l' hl
      exact absurd hl (h5 _ _ _)
     ·cases hk
    | row h4 =>
     rename_i L ety
     have h4' : s.lab L 0 = some (.row ety t l) := h4
     have hk : (match s.lab L 0 with
      | some (.row e' _ _) => bif Nat.beq e e' then outK.ownsK s es cs vs fun ls => K (some L :: ls) else none
      | _ => none) = some r := hk
     rw [h4'] at hk
     obtain ⟨h5, hk9⟩ := bif_some hk
     have h5 := Nat.eq_of_beq_eq_true h5
     subst h5
     obtain ⟨ls, h1, h2, h3⟩ := ih hk9
     refine ⟨_, h1, fun L' hL => ?_, fun b m A a w hr => ⟨m L, denL m vs, ls.map (mvOf m), ?_, rfl, newRow_of hr h4, h3 b m A a w hr⟩⟩
     ·rcases List.mem_cons.1 hL with h6 | h6
      ·cases h6; exact ⟨_, _, _, h4'⟩
      ·exact h2 L' h6
     ·simp only [denL, den]
    | part => simp [outK.ownsK] at hk
    | partR => simp [outK.ownsK] at hk
theorem SvCases.noRow {M : Map E.G.car} {vs : List SV} {cs : List (CV E.G.car)} {ks : List Key} {us : St E.G.car} (h : SvCases M vs cs ks us) (he : us = []) : ∀ L, .o L ∉ ks := by
 induction h with
 | nil => intro L hL; cases hL
 | cons hc hs ih =>
  intro L hL
  have h2 := List.append_eq_nil_iff.1 he
  rcases List.mem_append.1 hL with hL | hL
  ·cases hc with
   | plain => cases hL
   | nil => cases hL
   | ext => simp at hL
   | row => cases h2.2
   | part => simp at hL
   | partR => cases h2.2
  ·exact ih h2.1 L hL
theorem outK_sound {s : XS E.G.car} {k : RK} {v : SV} {K : k.T E.G.car → List (Option Nat) → Option R} (h : outK s k v K = some r) :
  ∃ x ls, K x ls = some r ∧ RowsOf s ls ∧ ∀ (b : Base) (m : Nat → MV) (A : Nat → Prop) (a : Act) (w : World), RelF E b m A (s.map 0) a w → ResIs E.G A b.B w k x (den m v) (ls.map (mvOf m)) := by
 cases k with
 | v t agg es =>
  unfold outK at h
  simp only at h
  obtain ⟨cs, ks, us, h1, h2⟩ := svCVs_sound (c := ⟨fun _ => none, s, none⟩) (seesOf s 0) h
  split at h1
  ·rename_i x hx
   obtain ⟨h3, h4⟩ := bif_some h1
   obtain ⟨ls, h5, h6, h7⟩ := ownsK_sound h2 h4
   refine ⟨x, ls, h5, h6, fun b m A a w hr => ⟨denL m (svCells v), by rw [E.G.hdec t cs x hx]; exact h7 b m A a w hr, ?_⟩⟩
   cases v with
   | g ys => simp only at h3; rw [h3]; rfl
   | _ => simp only [Bool.not_eq_true'] at h3; rw [h3]; rfl
  ·cases h1
 | sl t e =>
  unfold outK at h
  simp only at h
  split at h
  ·exact ⟨[], [none], h, (fun L hL => by simp at hL), fun b m A a w hr => ⟨nilMV, rfl, rfl, nilRow _ _ _ _ _ _⟩⟩
  ·rename_i L
   split at h
   ·rename_i e' t' l hl
    split at h
    ·rename_i ht
     subst ht
     obtain ⟨h3, h4⟩ := bif_some h
     have h3 := Nat.eq_of_beq_eq_true h3
     subst h3
     refine ⟨l, [some L], h4, fun L' hL => ?_, fun b m A a w hr => ⟨m L, rfl, rfl, newRow_of hr hl⟩⟩
     have : L' = L := by simpa using hL
     subst this
     exact ⟨_, _, _, hl⟩
    ·cases h
   ·cases h
  ·cases h
 | r t agg =>
  unfold outK at h
  simp only at h
  obtain ⟨cs, ks, us, h1, h2⟩ := svCVs_sound (c := ⟨fun _ => none, s, none⟩) (seesOf s 0) h
  split at h1
  ·rename_i x hx
   obtain ⟨h3, h4⟩ := bif_some h1
   refine ⟨x, [], h4, (fun L hL => nomatch hL), fun b m A a w hr => ⟨rfl, denL m (svCells v), ?_, ?_⟩⟩
   ·rw [E.G.hdec t cs x hx]
    exact h2.read hr.1 (fun _ _ => rfl) (fun _ h => h) (fun L x hL => absurd hL (h2.noRow rfl L))
   ·cases v with
    | g ys => simp only at h3; rw [h3]; rfl
    | _ => simp only [Bool.not_eq_true'] at h3; rw [h3]; rfl
  ·cases h1
theorem frzOne_sound : ∀ (vs : List SV) {s : XS E.G.car} {K : XS E.G.car → Option R}, frzOne vs s K = some r →
  ∃ s', K s' = some r ∧ ∀ (b : Base) (m : Nat → MV) (A : Nat → Prop) (a : Act) (w : World), RelF E b m A (s.map 0) a w → ∃ A', RelF E b m A' (s'.map 0) a w := by
 intro vs
 induction vs with
 | nil => intro s K h; exact ⟨s, h, fun b m A a w hr => ⟨A, hr⟩⟩
 | cons v vs ih =>
  intro s K h
  simp only [frzOne] at h
  split at h
  ·rename_i L
   split at h
   ·rename_i ety t l hl
    rw [XS.upd_eq] at h
    obtain ⟨hmap, _, _⟩ := XS.map_updF 0 (f := 0) (by omega) s (u := [(.o L, none), (.x L, some (.ext t l))]) rfl
    obtain ⟨s', h1, h2⟩ := ih h
    refine ⟨s', h1, fun b m A a w hr => ?_⟩
    have h3 := hr.1.freeze (show s.map 0 (.o L) = some (.row ety t l) from hl)
    rw [← hmap] at h3
    exact h2 b m _ a w ⟨h3, hr.2⟩
   ·exact ih h
  ·exact ih h
theorem frzR_sound : ∀ (ks : List RK) {vs : List SV} {s : XS E.G.car} {K : XS E.G.car → Option R}, frzR ks vs s K = some r →
  ∃ s', K s' = some r ∧ ∀ (b : Base) (m : Nat → MV) (A : Nat → Prop) (a : Act) (w : World), RelF E b m A (s.map 0) a w → ∃ A', RelF E b m A' (s'.map 0) a w := by
 intro ks
 induction ks with
 | nil => intro vs s K h; exact ⟨s, by simpa [frzR] using h, fun b m A a w hr => ⟨A, hr⟩⟩
 | cons k ks ih =>
  intro vs s K h
  cases vs with
  | nil => exact ⟨s, h, fun b m A a w hr => ⟨A, hr⟩⟩
  | cons v vs =>
   cases k with
   | r t agg =>
    have h : frzOne (svCells v) s (fun s => frzR ks vs s K) = some r := h
    obtain ⟨s1, h1, h2⟩ := frzOne_sound _ h
    obtain ⟨s2, h3, h4⟩ := ih h1
    exact ⟨s2, h3, fun b m A a w hr => by obtain ⟨A1, hr1⟩ := h2 b m A a w hr; exact h4 b m A1 a w hr1⟩
   | v _ _ _ => exact ih h
   | sl _ _ => exact ih h
theorem outsK_sound {s : XS E.G.car} : ∀ (ks : List RK) {vs : List SV} {K : RT E.G.car ks → List (Option Nat) → Option R}, outsK s ks vs K = some r →
  ∃ x ls, K x ls = some r ∧ RowsOf s ls ∧ ∀ (b : Base) (m : Nat → MV) (A : Nat → Prop) (a : Act) (w : World), RelF E b m A (s.map 0) a w → ResAre E.G A b.B w ks x (denL m vs) (ls.map (mvOf m))
 | [], [], K, h => ⟨(), [], h, (fun L hL => nomatch hL), fun _ _ _ _ _ _ => ⟨rfl, rfl⟩⟩
 | [], _ :: _, K, h => by cases h
 | [k], [v], K, h => by
  obtain ⟨x, ls, h1, h2, h3⟩ := outK_sound (k := k) (v := v) (K := K) h
  exact ⟨x, ls, h1, h2, fun b m A a w hr => ⟨_, rfl, h3 b m A a w hr⟩⟩
 | [k], [], K, h => by cases h
 | [k], _ :: _ :: _, K, h => by cases h
 | k :: k' :: ks, [], K, h => by cases h
 | k :: k' :: ks, v :: vs, K, h => by
  have h : (outK s k v fun x ls => outsK s (k' :: ks) vs fun y ls' => K (x, y) (ls ++ ls')) = some r := h
  obtain ⟨x, ls, h1, h2, h3⟩ := outK_sound h
  obtain ⟨y, ls', h4, h5, h6⟩ := outsK_sound (k' :: ks) h1
  refine ⟨(x, y), ls ++ ls', h4, fun L hL => (List.mem_append.1 hL).elim (h2 L) (h5 L), fun b m A a w hr => ⟨_, _, ls.map (mvOf m), ls'.map (mvOf m), rfl, by simp, h3 b m A a w hr, h6 b m A a w hr⟩⟩
theorem apart_of {s : XS E.G.car} {b : Base} {m : Nat → MV} {A : Nat → Prop} {a : Act} {w : World} (hr : Rel (cxOf E b) m A (s.map 0) a w) : ∀ {ls : List (Option Nat)}, RowsOf s ls → nodupN (ls.filterMap id) = true → Apart (ls.map (mvOf m)) := by
 intro ls
 induction ls with
 | nil => intro _ _; trivial
 | cons o ls ih =>
  intro h hn
  have hls : RowsOf s ls := fun L hL => h L (List.mem_cons_of_mem _ hL)
  cases o with
  | none => exact ⟨fun mv' _ hc => absurd rfl hc, ih hls hn⟩
  | some L =>
   obtain ⟨h1, h2⟩ := nodupN_cons (x := L) (l := ls.filterMap id) hn
   refine ⟨fun mv' hmv hc hc' hb => ?_, ih hls h2⟩
   obtain ⟨o', ho', rfl⟩ := List.mem_map.1 hmv
   cases o' with
   | none => exact absurd rfl hc'
   | some L' =>
    obtain ⟨e, t, l, e1⟩ := h L (by simp)
    obtain ⟨e', t', l', e2⟩ := hls L' ho'
    have e1 : s.map 0 (.o L) = some (.row e t l) := e1
    have e2 : s.map 0 (.o L') = some (.row e' t' l') := e2
    have := hr.inj L L' (m L).b (by rw [e1]; exact ⟨hc, rfl⟩) (by rw [e2]; exact ⟨hc', hb⟩)
    subst this
    exact h1 (List.mem_filterMap.2 ⟨some L, ho', rfl⟩)
end
end
end Go.KX

namespace Go.KX
open Go Go.RowKit
noncomputable section
section
variable {cx : Cx} {m : Nat → MV} {A : Nat → Prop} {g : CMap cx} {a : Act} {w : World}
theorem Rel.know {i : Nat} {x : SV} (h : Rel cx m A g a w) (hv : a.tmps[i]? = some (den m x)) (hk : x.ok m) : Rel cx m A (upd [(.t i, some (.x x))] g) a w := by
 have hg : ∀ k, k ≠ .t i → upd [(.t i, some (.x x))] g k = g k := fun k hk => by rw [upd_one, if_neg (Ne.symm hk)]
 refine ⟨h.size, h.defers, fun k v hkv => ?_, fun L o v hv => ?_, fun L x ho => ?_, fun L L' x h1 h2 => ?_, h.frzc, h.held, h.top, h.fix, h.ko, h.frz0, h.frzA, h.pins⟩
 ·by_cases e : k = .t i
  ·subst e
   rw [upd_one, if_pos rfl] at hkv
   cases hkv
   exact ⟨hv, hk⟩
  ·rw [hg k e] at hkv
   exact h.ent k v hkv
 ·rw [hg _ (by simp)] at hv ⊢
  exact h.cell L o v hv
 ·rw [hg _ (by simp)] at ho
  exact h.own L _ ho
 ·rw [hg _ (by simp)] at h1 h2
  exact h.inj L L' _ h1 h2
theorem Rel.addRo {L blk : Nat} {cs : List (CV cx.G.car)} (h : Rel cx m A g a w) (hf : Free cx L g) (hA : A blk) (hd : ∀ (j : Nat) (cv : CV cx.G.car), cs[j]? = some cv → ∃ u, w.cell? ⟨blk, j, none⟩ = some u ∧ Hd cx.G A w cv u) :
  Rel cx (setL m L { b := blk, p := none, n := 0, c := 0 }) A (upd [(.x L, some (.ro cs))] g) a w := by
 have hg : ∀ k, k ≠ .x L → upd [(.x L, some (.ro cs))] g k = g k := fun k hk => by rw [upd_one, if_neg (Ne.symm hk)]
 refine h.fresh hf (fun k hk => ?_) (fun k v hk hv => ?_) (fun o v hv => ?_) (fun bb ho => ?_)
 ·simp only [touches, Bool.or_false] at hk
  exact .inr (.inl (Key.eqb_iff.1 hk).symm)
 ·rcases hk with rfl | rfl | ⟨o, rfl⟩
  ·rw [hg _ (by simp)] at hv
   have := hf.1 (.o L); rw [hv] at this; simp [mentions, keyHas] at this
  ·rw [upd_one, if_pos rfl] at hv
   cases hv
   exact ⟨by rw [setL_self]; exact hA, fun j cv hj => by rw [setL_self]; exact hd j cv hj⟩
  ·rw [hg _ (by simp)] at hv
   have := hf.1 (.c L o); rw [hv] at this; simp [mentions, keyHas] at this
 ·rw [hg _ (by simp)] at hv
  have := hf.1 (.c L o); rw [hv] at this; simp [mentions, keyHas] at this
 ·rw [hg _ (by simp)] at ho
  cases e : g (.o L) with
  | none => rw [e] at ho; exact ho.elim
  | some v => have := hf.1 (.o L); rw [e] at this; simp [mentions, keyHas] at this
end
section
variable {cx : Cx} {m : Nat → MV} {A : Nat → Prop} {g : CMap cx} {a : Act} {w : World}
theorem Rel.addX {L : Nat} {mv : MV} {v : Val cx.G.car} (h : Rel cx m A g a w) (hf : Free cx L g) (hat : At cx (setL m L mv) A a.tmps w (.x L) v) : Rel cx (setL m L mv) A (upd [(.x L, some v)] g) a w := by
 have hg : ∀ k, k ≠ .x L → upd [(.x L, some v)] g k = g k := fun k hk => by rw [upd_one, if_neg (Ne.symm hk)]
 refine h.fresh hf (fun k hk => ?_) (fun k v' hk hv => ?_) (fun o v hv => ?_) (fun bb ho => ?_)
 ·simp only [touches, Bool.or_false] at hk
  exact .inr (.inl (Key.eqb_iff.1 hk).symm)
 ·rcases hk with rfl | rfl | ⟨o, rfl⟩
  ·rw [hg _ (by simp)] at hv
   have := hf.1 (.o L); rw [hv] at this; simp [mentions, keyHas] at this
  ·rw [upd_one, if_pos rfl] at hv
   cases hv
   exact hat
  ·rw [hg _ (by simp)] at hv
   have := hf.1 (.c L o); rw [hv] at this; simp [mentions, keyHas] at this
 ·rw [hg _ (by simp)] at hv
  have := hf.1 (.c L o); rw [hv] at this; simp [mentions, keyHas] at this
 ·rw [hg _ (by simp)] at ho
  cases e : g (.o L) with
  | none => rw [e] at ho; exact ho.elim
  | some v => have := hf.1 (.o L); rw [e] at this; simp [mentions, keyHas] at this
end
section
variable {E : Env} {R : Type} {r : R} {gl : List (Nat × Val E.G.car)}
def f0 : Fix := ⟨0, []⟩
theorem setT_ok {s : XS E.G.car} (hs : OKS E f0 s) {i : Nat} {y : SV} (hy : y.lt s.nl = true) : OKS E f0 (s.setF 0 0 (.t i) (some (.x y))) ∧ (s.setF 0 0 (.t i) (some (.x y))).map 0 = upd [(.t i, some (.x y))] (s.map 0) := by
 have e : (s.setF 0 0 (.t i) (some (.x y))).nl = s.nl := XS.setF_nl
 have h := hs.inv.setF (d := 0) (f := 0) (nl := s.nl) (Nat.le_refl _) (k := .t i) (v := some (.x y)) (fun L hL => by simp [keyHas] at hL) (fun x hx => by cases hx; exact hy)
 refine ⟨⟨?_, fun p hp => by rw [e]; exact hs.glo p hp, Nat.zero_le _⟩, XS.map_setF 0 (by omega) s rfl⟩
 rw [← e] at h
 exact h
theorem setX_ok {s : XS E.G.car} (hs : OKS E f0 s) {v : Val E.G.car} (hv : v.lt (Nat.succ s.nl) = true) : OKS E f0 (⟨(s.setF 0 0 (.x s.nl) (some v)).t, (s.setF 0 0 (.x s.nl) (some v)).o, Nat.succ (s.setF 0 0 (.x s.nl) (some v)).nl⟩ : XS E.G.car) ∧
  XS.map (⟨(s.setF 0 0 (.x s.nl) (some v)).t, (s.setF 0 0 (.x s.nl) (some v)).o, Nat.succ (s.setF 0 0 (.x s.nl) (some v)).nl⟩ : XS E.G.car) 0 = upd [(.x s.nl, some v)] (s.map 0) := by
 have e : (s.setF 0 0 (.x s.nl) (some v)).nl = s.nl := XS.setF_nl
 rw [e]
 refine ⟨⟨hs.inv.setF (Nat.le_succ _) (fun L hL => by simp only [keyHas] at hL; have := Nat.eq_of_beq_eq_true hL; omega) (fun x hx => by cases hx; exact hv), fun p hp => Nat.lt_succ_of_lt (hs.glo p hp), Nat.zero_le _⟩, ?_⟩
 exact XS.map_setF 0 (by omega) s rfl
def ParOK (E : Env) (s s' : XS E.G.car) (P : (Nat → Prop) → Act → World → Prop) : Prop :=
 OKS E f0 s' ∧ ∀ (b : Base) (m : Nat → MV) (A : Nat → Prop) (a : Act) (w : World), b.pn = 0 → Rel (cxOf E b) m A (s.map 0) a w → P A a w → ∃ m', Rel (cxOf E b) m' A (s'.map 0) a w
theorem free_nl {s : XS E.G.car} (hs : OKS E f0 s) {b : Base} (hpn : b.pn = 0) {L : Nat} (hL : s.nl ≤ L) : Free (cxOf E b) L (s.map 0) :=
 ⟨hs.inv.free hL, fun p hp => by have := hs.glo p hp; omega, by show b.pn ≤ L; omega⟩
def labS (s : XS E.G.car) (v : Val E.G.car) : XS E.G.car := ⟨(s.labF 0 s.nl 1 (some v)).t, (s.labF 0 s.nl 1 (some v)).o, Nat.succ (s.labF 0 s.nl 1 (some v)).nl⟩
theorem labS_nl {s : XS E.G.car} {v : Val E.G.car} : (labS s v).nl = s.nl + 1 := by
 show Nat.succ (s.labF 0 s.nl 1 (some v)).nl = s.nl + 1
 rw [(XS.labF_t 0 s s.nl 1 _).2]
theorem labS_ok {s : XS E.G.car} (hs : OKS E f0 s) {v : Val E.G.car} (hv : v.lt (s.nl + 1) = true) : OKS E f0 (labS s v) ∧ (labS s v).map 0 = upd [(.x s.nl, some v)] (s.map 0) := setX_ok hs hv
theorem parWk_sound {s : XS E.G.car} (hs : OKS E f0 s) {i tM tA : Nat} {rr : List (Int × List Value)} {x : (PK.wk tM tA rr).T E.G.car} {K : XS E.G.car → Option R} (h : parK s i (.wk tM tA rr) x K = some r) :
  ∃ s', K s' = some r ∧ ParOK E s s' fun A a w => ∃ v, a.tmps[i]? = some v ∧ ArgIs E A w (.wk tM tA rr) x v := by
 have h : s.setLab 0 s.nl 1 (some (.ro (E.G.enc tM x.1))) (fun s1 =>
   XS.setLab 0 ⟨s1.t, s1.o, Nat.succ s1.nl⟩ (Nat.succ s1.nl) 1 (some (.ro (E.G.enc tA x.2))) fun s2 =>
   XS.setLab 0 ⟨s2.t, s2.o, Nat.succ s2.nl⟩ (Nat.succ s2.nl) 1 (some (.mr rr)) fun s3 =>
   XS.setLab 0 ⟨s3.t, s3.o, Nat.succ s3.nl⟩ (Nat.succ s3.nl) 1 (some (.rb [.p s1.nl 0, .p s2.nl 0, .m s3.nl])) fun s4 =>
   XS.setTmp 0 0 ⟨s4.t, s4.o, Nat.succ s4.nl⟩ i (some (.p s4.nl 0)) K) = some r := h
 simp only [XS.setLab_eq] at h
 have e1 : (s.labF 0 s.nl 1 (some (.ro (E.G.enc tM x.1)))).nl = s.nl := (XS.labF_t 0 s s.nl 1 _).2
 have hl : ∀ (s : XS E.G.car) (v : Val E.G.car), XS.labF 0 (labS s v) (labS s v).nl 1 = XS.labF 0 (labS s v) (Nat.succ (s.labF 0 s.nl 1 (some v)).nl) 1 := fun _ _ => rfl
 let s1 := labS s (.ro (E.G.enc tM x.1))
 let s2 := labS s1 (.ro (E.G.enc tA x.2))
 let s3 := labS s2 (.mr rr)
 let s4 := labS s3 (.rb [.p s.nl 0, .p s1.nl 0, .m s2.nl])
 have n1 : s1.nl = s.nl + 1 := labS_nl
 have n2 : s2.nl = s1.nl + 1 := labS_nl
 have n3 : s3.nl = s2.nl + 1 := labS_nl
 have n4 : s4.nl = s3.nl + 1 := labS_nl
 obtain ⟨o1, m1⟩ := labS_ok hs (v := .ro (E.G.enc tM x.1)) rfl
 obtain ⟨o2, m2⟩ := labS_ok o1 (v := .ro (E.G.enc tA x.2)) rfl
 obtain ⟨o3, m3⟩ := labS_ok o2 (v := .mr rr) rfl
 obtain ⟨o4, m4⟩ := labS_ok o3 (v := .rb [.p s.nl 0, .p s1.nl 0, .m s2.nl]) (by
  simp only [Val.lt, ltL, SV.lt, Bool.and_true, Bool.and_eq_true, Nat.blt_eq]
  refine ⟨?_, ?_, ?_⟩ <;> (change _ < s3.nl + 1; omega))
 have h : XS.setTmp 0 0 s4 i (some (.p s3.nl 0)) K = some r := by
  have q1 : (s1.labF 0 s1.nl 1 (some (.ro (E.G.enc tA x.2)))).nl = s1.nl := (XS.labF_t 0 _ _ 1 _).2
  have q2 : (s2.labF 0 s2.nl 1 (some (.mr rr))).nl = s2.nl := (XS.labF_t 0 _ _ 1 _).2
  have q3 : (s3.labF 0 s3.nl 1 (some (.rb [.p s.nl 0, .p s1.nl 0, .m s2.nl]))).nl = s3.nl := (XS.labF_t 0 _ _ 1 _).2
  have h : XS.setTmp 0 0 (labS s3 (.rb [.p (s.labF 0 s.nl 1 (some (.ro (E.G.enc tM x.1)))).nl 0, .p (s1.labF 0 s1.nl 1 (some (.ro (E.G.enc tA x.2)))).nl 0, .m (s2.labF 0 s2.nl 1 (some (.mr rr))).nl])) i
    (some (.p (s3.labF 0 s3.nl 1 (some (.rb [.p (s.labF 0 s.nl 1 (some (.ro (E.G.enc tM x.1)))).nl 0, .p (s1.labF 0 s1.nl 1 (some (.ro (E.G.enc tA x.2)))).nl 0, .m (s2.labF 0 s2.nl 1 (some (.mr rr))).nl]))).nl 0)) K = some r := h
  rw [e1, q1, q2, q3] at h
  exact h
 rw [XS.setTmp_eq] at h
 obtain ⟨o5, m5⟩ := setT_ok o4 (i := i) (y := .p s3.nl 0) (by
  simp only [SV.lt, Nat.blt_eq]
  change s3.nl < s4.nl
  omega)
 refine ⟨_, h, o5, fun b m A a w hpn hr ⟨v, hv, blk, pM, pA, bR, hb, hA, c0, c1, c2, hM, hAr, hAR, es, cl, hes, hmr⟩ => ?_⟩
 obtain ⟨bM, rfl, hAM, hdM⟩ := hM
 obtain ⟨bA, rfl, hAA, hdA⟩ := hAr
 have r1 := hr.addRo (free_nl hs hpn (Nat.le_refl _)) hAM hdM
 rw [← m1] at r1
 have r2 := r1.addRo (free_nl o1 hpn (Nat.le_refl _)) hAA hdA
 rw [← m2] at r2
 have r3 := r2.addX (mv := { b := bR, p := none, n := 0, c := 0 }) (v := .mr rr) (free_nl o2 hpn (Nat.le_refl _)) ⟨by rw [setL_self]; exact hAR, es, cl, by rw [setL_self]; exact hes, hmr⟩
 rw [← m3] at r3
 have d1 : ∀ mv mv' mv'' mv''' : MV, setL (setL (setL (setL m s.nl mv) s1.nl mv') s2.nl mv'') s3.nl mv''' s.nl = mv := fun mv mv' mv'' mv''' => by
  rw [setL_ne _ _ (by omega), setL_ne _ _ (by omega), setL_ne _ _ (by omega), setL_self]
 have d2 : ∀ mv mv' mv'' mv''' : MV, setL (setL (setL (setL m s.nl mv) s1.nl mv') s2.nl mv'') s3.nl mv''' s1.nl = mv' := fun mv mv' mv'' mv''' => by
  rw [setL_ne _ _ (by omega), setL_ne _ _ (by omega), setL_self]
 have d3 : ∀ mv mv' mv'' mv''' : MV, setL (setL (setL (setL m s.nl mv) s1.nl mv') s2.nl mv'') s3.nl mv''' s2.nl = mv'' := fun mv mv' mv'' mv''' => by
  rw [setL_ne _ _ (by omega), setL_self]
 have r4 := r3.addX (mv := { b := blk, p := none, n := 0, c := 0 }) (v := .rb [.p s.nl 0, .p s1.nl 0, .m s2.nl]) (free_nl o3 hpn (Nat.le_refl _)) (by
  refine ⟨by rw [setL_self]; exact hA, ⟨trivial, trivial, trivial, trivial⟩, fun j y hy => ?_⟩
  rw [setL_self]
  match j, hy with
  | 0, hy => cases hy; rw [show den _ (SV.p s.nl 0) = _ from rfl]; simp only [den]; rw [d1]; exact c0
  | 1, hy => cases hy; simp only [den]; rw [d2]; exact c1
  | 2, hy => cases hy; simp only [den]; rw [d3]; exact c2
  | j + 3, hy => simp at hy)
 rw [← m4] at r4
 have r5 := r4.know (i := i) (x := .p s3.nl 0) (by
  rw [hv, hb]
  show _ = some (Value.pointer (some ⟨(setL _ s3.nl _ s3.nl).b, 0, none⟩))
  rw [setL_self]) trivial
 rw [← m5] at r5
 exact ⟨_, r5⟩
theorem parK_sound {s : XS E.G.car} (hs : OKS E f0 s) {i : Nat} {p : PK} {x : p.T E.G.car} {K : XS E.G.car → Option R} (h : parK s i p x K = some r) :
  ∃ s', K s' = some r ∧ ParOK E s s' fun A a w => ∃ v, a.tmps[i]? = some v ∧ ArgIs E A w p x v := by
 have lab : ∀ (v : Val E.G.car) (y : SV) (K : XS E.G.car → Option R), v.lt (Nat.succ s.nl) = true → y.lt (s.nl + 1) = true → (s.setLab 0 s.nl 1 (some v) fun s => XS.setTmp 0 0 ⟨s.t, s.o, Nat.succ s.nl⟩ i (some y) K) = some r →
   ∃ s', K s' = some r ∧ OKS E f0 s' ∧ s'.map 0 = upd [(.t i, some (.x y))] (upd [(.x s.nl, some v)] (s.map 0)) := by
  intro v y K h1 hy h
  rw [XS.setLab_eq, XS.setTmp_eq] at h
  obtain ⟨o1, m1⟩ := setX_ok hs h1
  obtain ⟨o2, m2⟩ := setT_ok o1 (i := i) (y := y) (by
   show y.lt (Nat.succ (s.setF 0 0 (.x s.nl) (some v)).nl) = true
   rw [XS.setF_nl]; exact hy)
  exact ⟨_, h, o2, by rw [← m1]; exact m2⟩
 cases p with
 | wk tM tA rr => exact parWk_sound hs h
 | v t agg =>
  unfold parK at h
  obtain ⟨ys, us, nl', h1, h2, h3, h4, h5, h6⟩ := cvsK_sound h
  cases hup : upBelow nl' us with
  | false => rw [hup] at h1; cases h1
  | true =>
   rw [hup] at h1
   simp only [Bool.not_true, cond_false, XS.upd_eq] at h1
   obtain ⟨g1, g2, _⟩ := XS.map_updF 0 (f := 0) (by omega) s (upBelow_ups hup)
   have o1 : OKS E f0 (⟨(XS.updF 0 0 us s).t, (XS.updF 0 0 us s).o, nl'⟩ : XS E.G.car) := ⟨hs.inv.updF h2 hup, fun p hp => Nat.lt_of_lt_of_le (hs.glo p hp) h2, Nat.zero_le _⟩
   have m1 : XS.map (⟨(XS.updF 0 0 us s).t, (XS.updF 0 0 us s).o, nl'⟩ : XS E.G.car) 0 = upd us (s.map 0) := g1
   cases agg with
   | true =>
    simp only [XS.setTmp_eq] at h1
    obtain ⟨o2, m2⟩ := setT_ok o1 (i := i) (y := .g ys) (by simpa [SV.lt] using h4)
    refine ⟨_, h1, o2, fun b m A a w hpn hr ⟨v, hv, us', hd, he⟩ => ?_⟩
    obtain ⟨m', hr', e1, e2, _⟩ := h6 b m A (s.map 0) a w us' hr (fun L hL _ => free_nl hs hpn hL) hd
    refine ⟨m', ?_⟩
    show Rel _ _ _ (XS.map (XS.setF 0 0 _ (.t i) (some (.x (.g ys)))) 0) _ _
    rw [m2, m1]
    simp only [if_true] at he
    exact hr'.know (by rw [hv, he, den, e1]) e2
   | false =>
    simp only at h1
    split at h1
    ·rename_i y
     simp only [XS.setTmp_eq] at h1
     obtain ⟨o2, m2⟩ := setT_ok o1 (i := i) (y := y) (by simp only [ltL, Bool.and_true] at h4; exact h4)
     refine ⟨_, h1, o2, fun b m A a w hpn hr ⟨v, hv, us', hd, he⟩ => ?_⟩
     obtain ⟨m', hr', e1, e2, _⟩ := h6 b m A (s.map 0) a w us' hr (fun L hL _ => free_nl hs hpn hL) hd
     refine ⟨m', ?_⟩
     show Rel _ _ _ (XS.map (XS.setF 0 0 _ (.t i) (some (.x y))) 0) _ _
     rw [m2, m1]
     simp only [Bool.false_eq_true, if_false] at he
     subst he
     have e1 : den m' y = v := by simpa [denL] using e1
     exact hr'.know (by rw [hv, e1]) e2.1
    ·cases h1
 | sl t =>
  obtain ⟨s', h1, o1, m1⟩ := lab (.ext t x) (.h s.nl) K rfl (by simp [SV.lt]) (by
   have h : (s.setLab 0 s.nl 1 (some (.ext t x)) fun s => XS.setTmp 0 0 ⟨s.t, s.o, Nat.succ s.nl⟩ i (some (.h s.nl)) K) = some r := h
   rw [XS.setLab_eq] at h ⊢
   rw [XS.setTmp_eq] at h ⊢
   rw [(XS.labF_t 0 s s.nl 1 (some (.ext t x))).2] at h ⊢
   exact h)
  refine ⟨s', h1, o1, fun b m A a w hpn hr ⟨v, hv, hd⟩ => ?_⟩
  have hd : Hd E.G A w (.sl t x) v := hd
  obtain ⟨p, n, c, rfl⟩ := hd.slice
  have h2 := hr.addExt (free_nl hs hpn (Nat.le_refl _)) hd
  exact ⟨_, by rw [m1]; exact h2.know (by rw [hv]; simp only [den, setL_self]) trivial⟩
 | ptr t =>
  obtain ⟨s', h1, o1, m1⟩ := lab (.ro (E.G.enc t x)) (.p s.nl 0) K rfl (by simp [SV.lt]) (by
   have h : (s.setLab 0 s.nl 1 (some (.ro (E.G.enc t x))) fun s => XS.setTmp 0 0 ⟨s.t, s.o, Nat.succ s.nl⟩ i (some (.p s.nl 0)) K) = some r := h
   rw [XS.setLab_eq] at h ⊢
   rw [XS.setTmp_eq] at h ⊢
   rw [(XS.labF_t 0 s s.nl 1 _).2] at h ⊢
   exact h)
  refine ⟨s', h1, o1, fun b m A a w hpn hr ⟨v, hv, blk, hb, hA, hd⟩ => ?_⟩
  have h2 := hr.addRo (free_nl hs hpn (Nat.le_refl _)) hA hd
  exact ⟨_, by rw [m1]; exact h2.know (by rw [hv, hb]; simp only [den, setL_self]) trivial⟩
 | gp t =>
  obtain ⟨s', h1, o1, m1⟩ := lab (.ro (E.G.enc t x)) (.g [.p s.nl 0]) K rfl (by simp [SV.lt, ltL]) (by
   have h : (s.setLab 0 s.nl 1 (some (.ro (E.G.enc t x))) fun s => XS.setTmp 0 0 ⟨s.t, s.o, Nat.succ s.nl⟩ i (some (.g [.p s.nl 0])) K) = some r := h
   rw [XS.setLab_eq] at h ⊢
   rw [XS.setTmp_eq] at h ⊢
   rw [(XS.labF_t 0 s s.nl 1 _).2] at h ⊢
   exact h)
  refine ⟨s', h1, o1, fun b m A a w hpn hr ⟨v, hv, u, hu, blk, hb, hA, hd⟩ => ?_⟩
  have h2 := hr.addRo (free_nl hs hpn (Nat.le_refl _)) hA hd
  exact ⟨_, by rw [m1]; exact h2.know (by rw [hv, hu, hb]; simp only [den, denL, setL_self]) ⟨trivial, trivial⟩⟩
 | nl =>
  change Nat at x
  have h : XS.setTmp 0 0 s i (some (.v (.slice none 0 x))) K = some r := h
  rw [XS.setTmp_eq] at h
  obtain ⟨o2, m2⟩ := setT_ok hs (i := i) (y := .v (.slice none 0 x)) rfl
  refine ⟨_, h, o2, fun b m A a w hpn hr ⟨v, hv, hd⟩ => ⟨m, ?_⟩⟩
  have hd : v = .slice none 0 x := hd
  have h3 : Rel (cxOf E b) m A ((XS.setF 0 0 s (.t i) (some (.x (.v (.slice none 0 x))))).map 0) a w := by
   rw [m2]
   exact hr.know (by rw [hv, hd]; rfl) trivial
  exact h3
 | sn t =>
  obtain ⟨s', h1, o1, m1⟩ := lab (.ext t x) (.n s.nl) K rfl (by simp [SV.lt]) (by
   have h : (s.setLab 0 s.nl 1 (some (.ext t x)) fun s => XS.setTmp 0 0 ⟨s.t, s.o, Nat.succ s.nl⟩ i (some (.n s.nl)) K) = some r := h
   rw [XS.setLab_eq] at h ⊢
   rw [XS.setTmp_eq] at h ⊢
   rw [(XS.labF_t 0 s s.nl 1 (some (.ext t x))).2] at h ⊢
   exact h)
  refine ⟨s', h1, o1, fun b m A a w hpn hr ⟨v, hv, hd, p, n, c, he⟩ => ?_⟩
  subst he
  have h2 := hr.addExt (free_nl hs hpn (Nat.le_refl _)) hd
  exact ⟨_, by rw [m1]; exact h2.know (by rw [hv]; simp only [den, setL_self]) (by simp only [SV.ok, setL_self]; rfl)⟩
theorem parsK_sound : ∀ (ps : List PK) {x : AT E.G.car ps} {i : Nat} {s : XS E.G.car} {K : XS E.G.car → Option R}, OKS E f0 s → parsK ps x i s K = some r →
  ∃ s', K s' = some r ∧ ParOK E s s' fun A a w => ∃ vs, (∀ j v, vs[j]? = some v → a.tmps[i + j]? = some v) ∧ ArgsAre E A w ps x vs := by
 intro ps
 induction ps with
 | nil => intro x i s K hs h; exact ⟨s, h, hs, fun b m A a w _ hr _ => ⟨m, hr⟩⟩
 | cons p ps ih =>
  intro x i s K hs h
  have h : parK s i p x.1 (fun s => parsK ps x.2 (Nat.succ i) s K) = some r := h
  obtain ⟨s1, h1, o1, f1⟩ := parK_sound hs h
  obtain ⟨s2, h2, o2, f2⟩ := ih o1 h1
  refine ⟨s2, h2, o2, fun b m A a w hpn hr ⟨vs, hvs, v, us, e, ha, has⟩ => ?_⟩
  subst e
  obtain ⟨m1, r1⟩ := f1 b m A a w hpn hr ⟨v, hvs 0 v rfl, ha⟩
  exact f2 b m1 A a w hpn r1 ⟨us, fun j u hj => by have := hvs (j + 1) u (by simpa using hj); rwa [show Nat.succ i + j = i + (j + 1) by omega], has⟩
theorem argsAre_len {A : Nat → Prop} {w : World} : ∀ {ps : List PK} {x : AT E.G.car ps} {vs : List Value}, ArgsAre E A w ps x vs → vs.length = ps.length := by
 intro ps
 induction ps with
 | nil => intro x vs h; rw [show vs = [] from h]; rfl
 | cons p ps ih => intro x vs ⟨v, us, e, _, h⟩; rw [e]; simp [ih h]
theorem upd_mem {car : Nat → Type} {k : Key} {v : Val car} {g : Map car} : ∀ {u : St car}, upd u g k = some v → (∃ x ∈ u, x.1 = k ∧ x.2 = some v) ∨ g k = some v := by
 intro u
 induction u with
 | nil => intro h; exact .inr h
 | cons x u ih =>
  intro h
  rw [upd_cons] at h
  split at h
  ·rename_i e
   exact .inl ⟨x, by simp, e, h⟩
  ·rcases ih h with ⟨y, hy, h1⟩ | h1
   ·exact .inl ⟨y, List.mem_cons_of_mem _ hy, h1⟩
   ·exact .inr h1
theorem rel_start {A : Nat → Prop} {w : World} {N : Nat} {args : List Value} (hn : args.length ≤ N) (hA : ∀ x, A x → IsCells w x) {mg : Nat → MV} (h1 : ∀ p ∈ E.glo, (mg p.1).b = p.2) (h2 : ∀ q ∈ gl, ExtAt E.G A w (mg q.1) q.2)
  {g : Map E.G.car} (hg : ∀ k v, g k = some v → ∃ q ∈ gl, k = .x q.1 ∧ v = q.2) : Rel (cxOf E ⟨none, w.heap.size, w, N, true, fun _ => #[], [], A, fun _ => False, 0, mg⟩) mg A g { tmps := args.toArray ++ Array.replicate (N - args.toArray.size) undef, defers := [] } w := by
 refine ⟨by simp [cxOf]; omega, marks_nil, fun k v hk => ?_, fun L o v hv => ?_, fun L x ho => ?_, fun L L' x ho _ => ?_, hA, ⟨rfl, rfl, .rfl, Nat.le_refl _, fun _ _ _ => rfl⟩, Nat.le_refl _, h1, (fun k o hk => nomatch hk), fun b hb => .inl hb, fun b hb => hb, fun L hL => absurd hL (Nat.not_lt_zero _)⟩
 ·obtain ⟨q, hq, rfl, rfl⟩ := hg k v hk
  exact (h2 q hq).at
 ·obtain ⟨q, _, e, _⟩ := hg _ _ hv; cases e
 ·cases e : g (.o L) with
  | none => rw [e] at ho; exact ho.elim
  | some v => obtain ⟨q, _, e', _⟩ := hg _ _ e; cases e'
 ·cases e : g (.o L) with
  | none => rw [e] at ho; exact ho.elim
  | some v => obtain ⟨q, _, e', _⟩ := hg _ _ e; cases e'
theorem fn_sound {cx : Ctx E} (hmix : E.P.follows .mixedOrders = true) (ht : ∀ c ∈ cx.tbl, CSok E gl c) (hin : InlS E gl cx) (hkeys : ∀ p ∈ E.keys, KeyOK E.P E.G p.1 p.2) (hgl : upBelow gl.length (gl.map fun q => (Key.x q.1, some q.2)) = true) (hglo : ∀ p ∈ E.glo, p.1 < gl.length) {fk : Nat} {fn : Func} (hf : E.P.funcs[fk]? = some fn)
  {ps : List PK} {rs : List RK} (hps : ps.length ≤ fn.ntmps) (h : Hint) : Contract E gl ⟨fk, ps, rs, fnK cx fn gl ps rs h⟩ := by
 intro A w vs xs hgw hA hargs r hr
 have hr : fnK cx fn gl ps rs h xs = some r := hr
 unfold fnK at hr
 split at hr
 ·cases hr
 ·rename_i c hc
  rw [XS.upd_eq] at hr
  have o0 : OKS E f0 (XS.updF 0 0 (gl.map fun q => (Key.x q.1, some q.2)) ⟨.e, .e, gl.length⟩ : XS E.G.car) := by
   have e : (XS.updF 0 0 (gl.map fun q => (Key.x q.1, some q.2)) (⟨.e, .e, gl.length⟩ : XS E.G.car)).nl = gl.length := (XS.map_updF 0 (f := 0) (by omega) _ (upBelow_ups hgl)).2.1
   have h1 := Inv.updF (d := 0) (f := 0) (s := (⟨.e, .e, gl.length⟩ : XS E.G.car)) ⟨(fun k a v hk => nomatch hk), (fun L q e he => nomatch he)⟩ (Nat.le_refl _) hgl
   refine ⟨?_, (fun p hp => by rw [e]; exact hglo p hp), Nat.zero_le _⟩
   have key : ∀ (s' : XS E.G.car) (n : Nat), s'.nl = n → Inv (⟨s'.t, s'.o, n⟩ : XS E.G.car) → Inv s' := fun s' n e h => by subst e; exact h
   exact key _ _ e h1
  obtain ⟨s1, h1, o1, f1⟩ := parsK_sound ps o0 hr
  obtain ⟨h', e, s2, h2, o2, _, hdoes⟩ := exec_sound (gl := gl) hmix ht hin hkeys 12 c f0 [] ⟨0, 0, fn.ntmps, true, fun _ => []⟩ h s1 r _ (fun L f hf => nomatch hf) rfl o1 h1
  have hfin : e ≠ .normal → e ≠ .ret → False := fun h3 h4 => by cases e <;> first | exact absurd rfl h3 | exact absurd rfl h4 | cases h2
  have h2 : retK s2 fn.results.toList (fun vs => frzR rs vs s2 fun s => outsK s rs vs fun r ls => bif nodupN (ls.filterMap id) then some r else none) = some r := by
   cases e <;> first | exact h2 | cases h2
  obtain ⟨us, h3, hres⟩ := retK_sound _ h2
  obtain ⟨s3, h3, hfrz⟩ := frzR_sound rs h3
  obtain ⟨x, ls, h4, hrows, hout⟩ := outsK_sound rs h3
  obtain ⟨h5, h6⟩ := bif_some h4
  cases h6
  refine (callsIn_wide (n := 0)).1 ?_
  refine callsIn_of_wp_marks hf hc trivial ?_
  obtain ⟨mg, g1, g2⟩ := hgw
  have hlen := argsAre_len hargs
  have hstart := rel_start (E := E) (gl := gl) (A := A) (w := w) (N := fn.ntmps) (args := vs) (by rw [hlen]; exact hps) hA g1 g2 (g := (XS.updF 0 0 (gl.map fun q => (Key.x q.1, some q.2)) (⟨.e, .e, gl.length⟩ : XS E.G.car)).map 0) (fun k v hk => by
   rw [(XS.map_updF 0 (f := 0) (by omega) _ (upBelow_ups hgl)).1] at hk
   rcases upd_mem hk with ⟨y, hy, h7, h8⟩ | h7
   ·obtain ⟨q, hq, rfl⟩ := List.mem_map.1 hy
    exact ⟨q, hq, h7.symm, by cases h8; rfl⟩
   ·exfalso
    cases k with
    | _ => cases h7)
  obtain ⟨m1, hr1⟩ := f1 _ mg A _ w rfl hstart ⟨vs, fun j v hj => by
   have hlt : j < vs.length := (List.getElem?_eq_some_iff.1 hj).1
   rw [Nat.zero_add, Array.getElem?_append_left (by simpa using hlt)]
   simpa using hj, hargs⟩
  let b0 : Base := ⟨none, w.heap.size, w, fn.ntmps, true, fun _ => #[], [], A, fun _ => False, 0, mg⟩
  have hg0 : Good E gl f0 b0 := ⟨⟨mg, g1, g2⟩, fun x hx => (hA x hx).lt, fun _ _ h => h, (fun p hp => nomatch hp), Nat.le_refl _, (fun y hy => nomatch hy), fun h => absurd rfl h⟩
  refine hdoes b0 m1 A _ w _ hg0 ⟨rfl, rfl, fun _ => rfl⟩ hr1 fun m' A' a' w' hr' => ?_
  have hpost : LeavesInM Fence.wide 0 E.P fn a'.tmps (fun e w' => ∃ us ms A', e = .returned (resV us) ∧ Bel w.heap.size w w' ∧ (∀ b, A b → A' b) ∧ (∀ b, A' b → IsCells w' b) ∧ (∀ b, A' b → A b ∨ w.heap.size ≤ b) ∧
    ResAre E.G A' w.heap.size w' rs r us ms ∧ Apart ms) a'.defers .returning w' := by
   obtain ⟨ms, h7, _, h8, h9⟩ := hr'.defers
   rw [h7]
   refine leaves (b := b0) rfl hg0.kb (fun m A a w hr => results_run (hres b0 m A a w hr).1) (fun m A2 a w2 hr2 => ?_) ms w' a' m' A' h8 h9 hr'
   obtain ⟨A3, hr3⟩ := hfrz b0 m A2 a w2 ⟨hr2, fun _ h => h⟩
   have hrf := hr3
   obtain ⟨hr2, _⟩ := hr3
   exact ⟨_, _, A3, rfl, ⟨hr2.held.os, hr2.held.tape, hr2.held.output, hr2.held.size, fun k hk => hr2.held.block k hk (fun h => h)⟩, hr2.frzA, hr2.frzc, fun x hx => (hr2.frz0 x hx).imp_right fun h => h.resolve_right (fun h => h),
    hout b0 m A3 a w2 hrf, apart_of hr2 hrows h5⟩
  cases e with
  | normal => exact hpost
  | ret => exact hpost
  | exit id => exact (hfin (by simp) (by simp)).elim
theorem contract_nil {k t : Nat} {rs : List RK} {f : List (E.G.car t) → Option (RT E.G.car rs)} {f0 : Nat → Option (RT E.G.car rs)} {f1 : List (E.G.car t) → Option (RT E.G.car rs)}
  (h0 : Contract E gl ⟨k, [.nl], rs, fun x => f0 x.1⟩) (h1 : Contract E gl ⟨k, [.sn t], rs, fun x => f1 x.1⟩) (e0 : ∀ c r, f [] = some r → f0 c = some r) (e1 : ∀ l r, f l = some r → f1 l = some r) : Contract E gl ⟨k, [.sl t], rs, fun x => f x.1⟩ := by
 intro A w vs xs hgw hA hargs r hr
 obtain ⟨v, us, rfl, ha, hu⟩ := hargs
 have hu : us = [] := hu
 subst hu
 have ha : Hd E.G A w (.sl t xs.1) v := ha
 obtain ⟨p, n, c, rfl⟩ := ha.slice
 have hr : f xs.1 = some r := hr
 cases p with
 | some p => exact h1 A w [.slice (some p) n c] (xs.1, ()) hgw hA ⟨_, _, rfl, ⟨ha, p, n, c, rfl⟩, rfl⟩ r (e1 _ _ hr)
 | none =>
  have hl : xs.1 = [] := by
   cases hx : xs.1 with
   | nil => rfl
   | cons y ys =>
    rw [hx] at ha
    obtain ⟨b, o, hp, _⟩ := ha.at (i := 0) (x := y) rfl
    cases hp
  have hn : n = 0 := by rw [ha.len.1, hl]; rfl
  subst hn
  rw [hl] at hr
  exact h0 A w [.slice none 0 c] (c, ()) hgw hA ⟨_, _, rfl, rfl, rfl⟩ r (e0 c r hr)
end
end
end Go.KX

namespace Go.Proofs.Cl
open Go Go.KX Go.RowKit
set_option linter.unusedVariables false
set_option maxRecDepth 100000
theorem all0 {α : Type} {P : α → Prop} : ∀ c ∈ ([] : List α), P c := fun _ h => nomatch h
theorem allC {α : Type} {P : α → Prop} {a : α} {l : List α} (h : P a) (t : ∀ c ∈ l, P c) : ∀ c ∈ a :: l, P c := fun c hc => (List.mem_cons.1 hc).elim (fun e => e ▸ h) (t c)
theorem inl0 : InlOK E [] := fun _ _ h => nomatch h
theorem inlC {k : Nat} {fn : Func} {l : List (Nat × Func)} (h : E.P.funcs[k]? = some fn) (e : Proofs.Enters E.P k) (t : InlOK E l) : InlOK E ((k, fn) :: l) := by
 intro k2 fn2 hf
 simp only [findFn] at hf
 cases hb : Nat.beq k k2 with
 | true => rw [hb, cond_true] at hf; cases hf; rw [← Nat.eq_of_beq_eq_true hb]; exact ⟨h, e⟩
 | false => rw [hb, cond_false] at hf; exact t k2 fn2 hf
theorem mix : Tryd.prog.follows .mixedOrders = true := by rfl
theorem keys0 : ∀ p ∈ E.keys, KeyOK E.P E.G p.1 p.2 := fun _ h => nomatch h
abbrev HF (k : Nat) (f : Func) : Prop := Tryd.prog.funcs[k]? = some f
theorem hK {k : Nat} {f : Func} (h : Tryd.prog.funcs[k]? = some f) : HF k f := h
theorem mkE {k : Nat} {f : Func} {c : Code} (h : HF k f) (a : (f.name == "runtime.NumGoroutine") = false) (b : f.body = some c) : Proofs.Enters Tryd.prog k := Proofs.enters_of h a b
theorem mkC {k : Nat} {f : Func} {c : Code} {cx : Ctx E} {ps : List PK} {rs : List RK} {m : AT E.G.car ps → Option (RT E.G.car rs)} (hf : HF k f) (a : (f.name == "runtime.NumGoroutine") = false) (b : f.body = some c) (t : ∀ c ∈ cx.tbl, CSok E gl c) (i : InlS E gl cx) (h : Hint) (n : Nat.ble ps.length f.ntmps = true) (e : fnK cx f gl ps rs h = m) : CSok E gl ⟨k, ps, rs, m⟩ := ⟨mkE hf a b, e ▸ fn_sound mix t i keys0 gl_up gl_lt hf (Nat.le_of_ble_eq_true n) h⟩
noncomputable section
theorem hf43 : HF 43 Tryd.f43 := hK (by kernel_rfl)
theorem en43 : Proofs.Enters Tryd.prog 43 := mkE hf43 (by kernel_rfl) rfl
theorem hf14 : HF 14 Tryd.f14 := hK (by kernel_rfl)
theorem en14 : Proofs.Enters Tryd.prog 14 := mkE hf14 (by kernel_rfl) rfl
theorem hf16 : HF 16 Tryd.f16 := hK (by kernel_rfl)
def law03_Made (F : Nat) (a0 : List Int) : Option (Ship) :=
 join (F) (fun (x : (Int) × (Int)) => chk (InR ((1 : Int) + x.1)) (join (F) (fun (x_1 : (Int) × (Int)) => chk (InR ((390 : Int) * x_1.1)) (chk (InR ((100 : Int) + (390 : Int) * x_1.1)) (join (F) (fun (x_2 : (Int) × (Int)) => chk (InR ((7 : Int) * x_2.1)) (chk (InR ((10 : Int) + (7 : Int) * x_2.1)) (join (F) (fun (x_3 : (Int) × (Int)) => chk (InR ((1900 : Int) * x_3.1)) (chk (InR ((10 : Int) + (1900 : Int) * x_3.1)) (join (F) (fun (x_4 : (Int) × (Int)) => join (F) (fun (x_5 : (Int) × (Int)) => join (F) (fun (x_6 : (Int) × (Int)) => chk (InR ((2 : Int) * x_6.1)) (join (F) (fun (x_7 : (Int) × (Int)) => chk (InR ((4 : Int) * x_7.1)) (join (F) (fun (x_8 : (Int) × (Int)) => chk (InR ((20 : Int) * x_8.1)) (chk (InR ((200 : Int) + (20 : Int) * x_8.1)) (join (F) (fun (x_9 : (Int) × (Int)) => chk (InR ((1 : Int) + x_9.1)) (loopC (fun (x_10 : (Int) × ((Int) × ((Int) × ((List (Point)) × (Int))))) => fun x_11 => brk (decide (x_10.2.1 < (1 : Int) + x_9.1)) (chk (InR (x_10.2.2.1 + 10)) (join (F) (fun (x_12 : (Int) × (Int)) => chk (InR (x_10.2.2.1 + (10 : Int) + x_12.1)) (join (F) (fun (x_13 : (Int) × (Int)) => chk (InR (x_10.1 * x_13.1)) (chk (0 ≤ x_10.1 * x_13.1 ∧ x_10.1 * x_13.1 ≤ 9223372036854775807) (chk (List.length x_10.2.2.2.1 + [Point.mk (x_10.2.2.1 + (10 : Int) + x_12.1) (x_10.1 * x_13.1 / (100 : Int))].length ≤ (1000000000 : Nat)) (chk (InR (x_10.2.1 + 1)) (x_11 ((x_10.1 * x_13.1 / (100 : Int), x_10.2.1 + 1, x_10.2.2.1 + (10 : Int) + x_12.1, x_10.2.2.2.1 ++ [Point.mk (x_10.2.2.1 + (10 : Int) + x_12.1) (x_10.1 * x_13.1 / (100 : Int))], x_13.2))))))) (fun x_13 => brk (decide (x_12.2 ≥ (↑a0.length : Int))) (x_13 (((0 : Int), x_12.2))) (chk (InR (x_12.2 + 1)) (chk (InR (x_12.2 + (1 : Int) - (1 : Int))) (chk (0 ≤ x_12.2 + (1 : Int) - (1 : Int) ∧ x_12.2 + (1 : Int) - (1 : Int) < (↑a0.length : Int)) (chk (InR (a0.getD (x_12.2 + (1 : Int) - (1 : Int)).toNat (0 : Int))) (chk (0 ≤ a0.getD (x_12.2 + (1 : Int) - (1 : Int)).toNat (0 : Int) ∧ a0.getD (x_12.2 + (1 : Int) - (1 : Int)).toNat 0 ≤ (9223372036854775807 : Int)) (x_13 ((a0.getD (x_12.2 + (1 : Int) - (1 : Int)).toNat (0 : Int) % (101 : Int), x_12.2 + 1))))))))))) (fun x_12 => brk (decide (x_10.2.2.2.2 ≥ (↑a0.length : Int))) (x_12 (((0 : Int), x_10.2.2.2.2))) (chk (InR (x_10.2.2.2.2 + 1)) (chk (InR (x_10.2.2.2.2 + (1 : Int) - (1 : Int))) (chk (0 ≤ x_10.2.2.2.2 + (1 : Int) - (1 : Int) ∧ x_10.2.2.2.2 + (1 : Int) - (1 : Int) < (↑a0.length : Int)) (chk (InR (a0.getD (x_10.2.2.2.2 + (1 : Int) - (1 : Int)).toNat (0 : Int))) (chk (0 ≤ a0.getD (x_10.2.2.2.2 + (1 : Int) - (1 : Int)).toNat (0 : Int) ∧ a0.getD (x_10.2.2.2.2 + (1 : Int) - (1 : Int)).toNat 0 ≤ (9223372036854775807 : Int)) (x_12 ((a0.getD (x_10.2.2.2.2 + (1 : Int) - (1 : Int)).toNat (0 : Int) % (40 : Int), x_10.2.2.2.2 + 1))))))))))) (join (F) (fun (x_12 : (Int) × (Int)) => join (F) (fun (x_13 : (Int) × (Int)) => chk (InR ((1 : Int) + x_13.1)) (loopC (fun (x_14 : (Int) × ((Int) × ((Int) × ((List (Point)) × (Int))))) => fun x_15 => brk (decide (x_14.1 < (1 : Int) + x_13.1)) (chk (InR (x_14.2.2.1 + 1)) (join (F) (fun (x_16 : (Int) × (Int)) => chk (InR (x_14.2.2.1 + (1 : Int) + x_16.1)) (join (F) (fun (x_17 : (Int) × (Int)) => chk (InR ((3 : Int) * x_17.1)) (chk (InR (x_14.2.1 + (3 : Int) * x_17.1)) (chk (List.length x_14.2.2.2.1 + [Point.mk (x_14.2.2.1 + (1 : Int) + x_16.1) (x_14.2.1 + (3 : Int) * x_17.1)].length ≤ (1000000000 : Nat)) (chk (InR (x_14.1 + 1)) (x_15 ((x_14.1 + 1, x_14.2.1 + (3 : Int) * x_17.1, x_14.2.2.1 + (1 : Int) + x_16.1, x_14.2.2.2.1 ++ [Point.mk (x_14.2.2.1 + (1 : Int) + x_16.1) (x_14.2.1 + (3 : Int) * x_17.1)], x_17.2))))))) (fun x_17 => brk (decide (x_16.2 ≥ (↑a0.length : Int))) (x_17 (((0 : Int), x_16.2))) (chk (InR (x_16.2 + 1)) (chk (InR (x_16.2 + (1 : Int) - (1 : Int))) (chk (0 ≤ x_16.2 + (1 : Int) - (1 : Int) ∧ x_16.2 + (1 : Int) - (1 : Int) < (↑a0.length : Int)) (chk (InR (a0.getD (x_16.2 + (1 : Int) - (1 : Int)).toNat (0 : Int))) (chk (0 ≤ a0.getD (x_16.2 + (1 : Int) - (1 : Int)).toNat (0 : Int) ∧ a0.getD (x_16.2 + (1 : Int) - (1 : Int)).toNat 0 ≤ (9223372036854775807 : Int)) (x_17 ((a0.getD (x_16.2 + (1 : Int) - (1 : Int)).toNat (0 : Int) % (256 : Int), x_16.2 + 1))))))))))) (fun x_16 => brk (decide (x_14.2.2.2.2 ≥ (↑a0.length : Int))) (x_16 (((0 : Int), x_14.2.2.2.2))) (chk (InR (x_14.2.2.2.2 + 1)) (chk (InR (x_14.2.2.2.2 + (1 : Int) - (1 : Int))) (chk (0 ≤ x_14.2.2.2.2 + (1 : Int) - (1 : Int) ∧ x_14.2.2.2.2 + (1 : Int) - (1 : Int) < (↑a0.length : Int)) (chk (InR (a0.getD (x_14.2.2.2.2 + (1 : Int) - (1 : Int)).toNat (0 : Int))) (chk (0 ≤ a0.getD (x_14.2.2.2.2 + (1 : Int) - (1 : Int)).toNat (0 : Int) ∧ a0.getD (x_14.2.2.2.2 + (1 : Int) - (1 : Int)).toNat 0 ≤ (9223372036854775807 : Int)) (x_16 ((a0.getD (x_14.2.2.2.2 + (1 : Int) - (1 : Int)).toNat (0 : Int) % (80 : Int), x_14.2.2.2.2 + 1))))))))))) (join (F) (fun (x_16 : (Int) × (Int)) => loopC (fun (x_17 : (Int) × ((Int) × ((Int) × ((List (Point)) × (Int))))) => fun x_18 => brk (decide (x_17.2.1 < x_16.1)) (chk (InR (x_17.2.2.1 + 1)) (join (F) (fun (x_19 : (Int) × (Int)) => chk (InR (x_17.2.2.1 + (1 : Int) + x_19.1)) (join (F) (fun (x_20 : (Int) × (Int)) => chk (InR ((3 : Int) * x_20.1)) (chk (InR (x_17.1 + (3 : Int) * x_20.1)) (chk (List.length x_17.2.2.2.1 + [Point.mk (x_17.2.2.1 + (1 : Int) + x_19.1) (x_17.1 + (3 : Int) * x_20.1)].length ≤ (1000000000 : Nat)) (chk (InR (x_17.2.1 + 1)) (x_18 ((x_17.1 + (3 : Int) * x_20.1, x_17.2.1 + 1, x_17.2.2.1 + (1 : Int) + x_19.1, x_17.2.2.2.1 ++ [Point.mk (x_17.2.2.1 + (1 : Int) + x_19.1) (x_17.1 + (3 : Int) * x_20.1)], x_20.2))))))) (fun x_20 => brk (decide (x_19.2 ≥ (↑a0.length : Int))) (x_20 (((0 : Int), x_19.2))) (chk (InR (x_19.2 + 1)) (chk (InR (x_19.2 + (1 : Int) - (1 : Int))) (chk (0 ≤ x_19.2 + (1 : Int) - (1 : Int) ∧ x_19.2 + (1 : Int) - (1 : Int) < (↑a0.length : Int)) (chk (InR (a0.getD (x_19.2 + (1 : Int) - (1 : Int)).toNat (0 : Int))) (chk (0 ≤ a0.getD (x_19.2 + (1 : Int) - (1 : Int)).toNat (0 : Int) ∧ a0.getD (x_19.2 + (1 : Int) - (1 : Int)).toNat 0 ≤ (9223372036854775807 : Int)) (x_20 ((a0.getD (x_19.2 + (1 : Int) - (1 : Int)).toNat (0 : Int) % (256 : Int), x_19.2 + 1))))))))))) (fun x_19 => brk (decide (x_17.2.2.2.2 ≥ (↑a0.length : Int))) (x_19 (((0 : Int), x_17.2.2.2.2))) (chk (InR (x_17.2.2.2.2 + 1)) (chk (InR (x_17.2.2.2.2 + (1 : Int) - (1 : Int))) (chk (0 ≤ x_17.2.2.2.2 + (1 : Int) - (1 : Int) ∧ x_17.2.2.2.2 + (1 : Int) - (1 : Int) < (↑a0.length : Int)) (chk (InR (a0.getD (x_17.2.2.2.2 + (1 : Int) - (1 : Int)).toNat (0 : Int))) (chk (0 ≤ a0.getD (x_17.2.2.2.2 + (1 : Int) - (1 : Int)).toNat (0 : Int) ∧ a0.getD (x_17.2.2.2.2 + (1 : Int) - (1 : Int)).toNat 0 ≤ (9223372036854775807 : Int)) (x_19 ((a0.getD (x_17.2.2.2.2 + (1 : Int) - (1 : Int)).toNat (0 : Int) % (90 : Int), x_17.2.2.2.2 + 1))))))))))) (join (F) (fun (x_19 : (Int) × (Int)) => chk (InR ((4 : Int) * x_19.1)) (chk (InR (x_17.1 + (4 : Int) * x_19.1)) (chk (List.length x_17.2.2.2.1 + [Point.mk (400 : Int) (x_17.1 + (4 : Int) * x_19.1)].length ≤ (1000000000 : Nat)) (some (Ship.mk ((1 : Int) + x.1) ((100 : Int) + (390 : Int) * x_1.1) ((10 : Int) + (7 : Int) * x_2.1) ((10 : Int) + (1900 : Int) * x_3.1) x_10.2.2.2.1 x_14.2.2.2.1 (x_17.2.2.2.1 ++ [Point.mk (400 : Int) (x_17.1 + (4 : Int) * x_19.1)]) x_4.1 x_5.1 ((2 : Int) * x_6.1) ((4 : Int) * x_7.1)))))) (fun x_19 => brk (decide (x_17.2.2.2.2 ≥ (↑a0.length : Int))) (x_19 (((0 : Int), x_17.2.2.2.2))) (chk (InR (x_17.2.2.2.2 + 1)) (chk (InR (x_17.2.2.2.2 + (1 : Int) - (1 : Int))) (chk (0 ≤ x_17.2.2.2.2 + (1 : Int) - (1 : Int) ∧ x_17.2.2.2.2 + (1 : Int) - (1 : Int) < (↑a0.length : Int)) (chk (InR (a0.getD (x_17.2.2.2.2 + (1 : Int) - (1 : Int)).toNat (0 : Int))) (chk (0 ≤ a0.getD (x_17.2.2.2.2 + (1 : Int) - (1 : Int)).toNat (0 : Int) ∧ a0.getD (x_17.2.2.2.2 + (1 : Int) - (1 : Int)).toNat 0 ≤ (9223372036854775807 : Int)) (x_19 ((a0.getD (x_17.2.2.2.2 + (1 : Int) - (1 : Int)).toNat (0 : Int) % (256 : Int), x_17.2.2.2.2 + 1))))))))))) (F) (((0 : Int), (0 : Int), (0 : Int), [Point.mk (0 : Int) (0 : Int)], x_16.2))) (fun x_16 => brk (decide (x_14.2.2.2.2 ≥ (↑a0.length : Int))) (x_16 (((0 : Int), x_14.2.2.2.2))) (chk (InR (x_14.2.2.2.2 + 1)) (chk (InR (x_14.2.2.2.2 + (1 : Int) - (1 : Int))) (chk (0 ≤ x_14.2.2.2.2 + (1 : Int) - (1 : Int) ∧ x_14.2.2.2.2 + (1 : Int) - (1 : Int) < (↑a0.length : Int)) (chk (InR (a0.getD (x_14.2.2.2.2 + (1 : Int) - (1 : Int)).toNat (0 : Int))) (chk (0 ≤ a0.getD (x_14.2.2.2.2 + (1 : Int) - (1 : Int)).toNat (0 : Int) ∧ a0.getD (x_14.2.2.2.2 + (1 : Int) - (1 : Int)).toNat 0 ≤ (9223372036854775807 : Int)) (x_16 ((a0.getD (x_14.2.2.2.2 + (1 : Int) - (1 : Int)).toNat (0 : Int) % (4 : Int), x_14.2.2.2.2 + 1))))))))))) (F) (((0 : Int), x_12.1, (0 : Int), [Point.mk (0 : Int) x_12.1], x_13.2)))) (fun x_13 => brk (decide (x_12.2 ≥ (↑a0.length : Int))) (x_13 (((0 : Int), x_12.2))) (chk (InR (x_12.2 + 1)) (chk (InR (x_12.2 + (1 : Int) - (1 : Int))) (chk (0 ≤ x_12.2 + (1 : Int) - (1 : Int) ∧ x_12.2 + (1 : Int) - (1 : Int) < (↑a0.length : Int)) (chk (InR (a0.getD (x_12.2 + (1 : Int) - (1 : Int)).toNat (0 : Int))) (chk (0 ≤ a0.getD (x_12.2 + (1 : Int) - (1 : Int)).toNat (0 : Int) ∧ a0.getD (x_12.2 + (1 : Int) - (1 : Int)).toNat 0 ≤ (9223372036854775807 : Int)) (x_13 ((a0.getD (x_12.2 + (1 : Int) - (1 : Int)).toNat (0 : Int) % (3 : Int), x_12.2 + 1)))))))))) (fun x_12 => brk (decide (x_10.2.2.2.2 ≥ (↑a0.length : Int))) (x_12 (((0 : Int), x_10.2.2.2.2))) (chk (InR (x_10.2.2.2.2 + 1)) (chk (InR (x_10.2.2.2.2 + (1 : Int) - (1 : Int))) (chk (0 ≤ x_10.2.2.2.2 + (1 : Int) - (1 : Int) ∧ x_10.2.2.2.2 + (1 : Int) - (1 : Int) < (↑a0.length : Int)) (chk (InR (a0.getD (x_10.2.2.2.2 + (1 : Int) - (1 : Int)).toNat (0 : Int))) (chk (0 ≤ a0.getD (x_10.2.2.2.2 + (1 : Int) - (1 : Int)).toNat (0 : Int) ∧ a0.getD (x_10.2.2.2.2 + (1 : Int) - (1 : Int)).toNat 0 ≤ (9223372036854775807 : Int)) (x_12 ((a0.getD (x_10.2.2.2.2 + (1 : Int) - (1 : Int)).toNat (0 : Int) % (50 : Int), x_10.2.2.2.2 + 1))))))))))) (F) (((200 : Int) + (20 : Int) * x_8.1, (0 : Int), (0 : Int), [Point.mk (0 : Int) ((200 : Int) + (20 : Int) * x_8.1)], x_9.2)))) (fun x_9 => brk (decide (x_8.2 ≥ (↑a0.length : Int))) (x_9 (((0 : Int), x_8.2))) (chk (InR (x_8.2 + 1)) (chk (InR (x_8.2 + (1 : Int) - (1 : Int))) (chk (0 ≤ x_8.2 + (1 : Int) - (1 : Int) ∧ x_8.2 + (1 : Int) - (1 : Int) < (↑a0.length : Int)) (chk (InR (a0.getD (x_8.2 + (1 : Int) - (1 : Int)).toNat (0 : Int))) (chk (0 ≤ a0.getD (x_8.2 + (1 : Int) - (1 : Int)).toNat (0 : Int) ∧ a0.getD (x_8.2 + (1 : Int) - (1 : Int)).toNat 0 ≤ (9223372036854775807 : Int)) (x_9 ((a0.getD (x_8.2 + (1 : Int) - (1 : Int)).toNat (0 : Int) % (4 : Int), x_8.2 + 1)))))))))))) (fun x_8 => brk (decide (x_7.2 ≥ (↑a0.length : Int))) (x_8 (((0 : Int), x_7.2))) (chk (InR (x_7.2 + 1)) (chk (InR (x_7.2 + (1 : Int) - (1 : Int))) (chk (0 ≤ x_7.2 + (1 : Int) - (1 : Int) ∧ x_7.2 + (1 : Int) - (1 : Int) < (↑a0.length : Int)) (chk (InR (a0.getD (x_7.2 + (1 : Int) - (1 : Int)).toNat (0 : Int))) (chk (0 ≤ a0.getD (x_7.2 + (1 : Int) - (1 : Int)).toNat (0 : Int) ∧ a0.getD (x_7.2 + (1 : Int) - (1 : Int)).toNat 0 ≤ (9223372036854775807 : Int)) (x_8 ((a0.getD (x_7.2 + (1 : Int) - (1 : Int)).toNat (0 : Int) % (256 : Int), x_7.2 + 1))))))))))) (fun x_7 => brk (decide (x_6.2 ≥ (↑a0.length : Int))) (x_7 (((0 : Int), x_6.2))) (chk (InR (x_6.2 + 1)) (chk (InR (x_6.2 + (1 : Int) - (1 : Int))) (chk (0 ≤ x_6.2 + (1 : Int) - (1 : Int) ∧ x_6.2 + (1 : Int) - (1 : Int) < (↑a0.length : Int)) (chk (InR (a0.getD (x_6.2 + (1 : Int) - (1 : Int)).toNat (0 : Int))) (chk (0 ≤ a0.getD (x_6.2 + (1 : Int) - (1 : Int)).toNat (0 : Int) ∧ a0.getD (x_6.2 + (1 : Int) - (1 : Int)).toNat 0 ≤ (9223372036854775807 : Int)) (x_7 ((a0.getD (x_6.2 + (1 : Int) - (1 : Int)).toNat (0 : Int) % (256 : Int), x_6.2 + 1))))))))))) (fun x_6 => brk (decide (x_5.2 ≥ (↑a0.length : Int))) (x_6 (((0 : Int), x_5.2))) (chk (InR (x_5.2 + 1)) (chk (InR (x_5.2 + (1 : Int) - (1 : Int))) (chk (0 ≤ x_5.2 + (1 : Int) - (1 : Int) ∧ x_5.2 + (1 : Int) - (1 : Int) < (↑a0.length : Int)) (chk (InR (a0.getD (x_5.2 + (1 : Int) - (1 : Int)).toNat (0 : Int))) (chk (0 ≤ a0.getD (x_5.2 + (1 : Int) - (1 : Int)).toNat (0 : Int) ∧ a0.getD (x_5.2 + (1 : Int) - (1 : Int)).toNat 0 ≤ (9223372036854775807 : Int)) (x_6 ((a0.getD (x_5.2 + (1 : Int) - (1 : Int)).toNat (0 : Int) % (240 : Int), x_5.2 + 1)))))))))) (fun x_5 => brk (decide (x_4.2 ≥ (↑a0.length : Int))) (x_5 (((0 : Int), x_4.2))) (chk (InR (x_4.2 + 1)) (chk (InR (x_4.2 + (1 : Int) - (1 : Int))) (chk (0 ≤ x_4.2 + (1 : Int) - (1 : Int) ∧ x_4.2 + (1 : Int) - (1 : Int) < (↑a0.length : Int)) (chk (InR (a0.getD (x_4.2 + (1 : Int) - (1 : Int)).toNat (0 : Int))) (chk (0 ≤ a0.getD (x_4.2 + (1 : Int) - (1 : Int)).toNat (0 : Int) ∧ a0.getD (x_4.2 + (1 : Int) - (1 : Int)).toNat 0 ≤ (9223372036854775807 : Int)) (x_5 ((a0.getD (x_4.2 + (1 : Int) - (1 : Int)).toNat (0 : Int) % (101 : Int), x_4.2 + 1)))))))))) (fun x_4 => brk (decide (x_3.2 ≥ (↑a0.length : Int))) (x_4 (((0 : Int), x_3.2))) (chk (InR (x_3.2 + 1)) (chk (InR (x_3.2 + (1 : Int) - (1 : Int))) (chk (0 ≤ x_3.2 + (1 : Int) - (1 : Int) ∧ x_3.2 + (1 : Int) - (1 : Int) < (↑a0.length : Int)) (chk (InR (a0.getD (x_3.2 + (1 : Int) - (1 : Int)).toNat (0 : Int))) (chk (0 ≤ a0.getD (x_3.2 + (1 : Int) - (1 : Int)).toNat (0 : Int) ∧ a0.getD (x_3.2 + (1 : Int) - (1 : Int)).toNat 0 ≤ (9223372036854775807 : Int)) (x_4 ((a0.getD (x_3.2 + (1 : Int) - (1 : Int)).toNat (0 : Int) % (21 : Int), x_3.2 + 1)))))))))))) (fun x_3 => brk (decide (x_2.2 ≥ (↑a0.length : Int))) (x_3 (((0 : Int), x_2.2))) (chk (InR (x_2.2 + 1)) (chk (InR (x_2.2 + (1 : Int) - (1 : Int))) (chk (0 ≤ x_2.2 + (1 : Int) - (1 : Int) ∧ x_2.2 + (1 : Int) - (1 : Int) < (↑a0.length : Int)) (chk (InR (a0.getD (x_2.2 + (1 : Int) - (1 : Int)).toNat (0 : Int))) (chk (0 ≤ a0.getD (x_2.2 + (1 : Int) - (1 : Int)).toNat (0 : Int) ∧ a0.getD (x_2.2 + (1 : Int) - (1 : Int)).toNat 0 ≤ (9223372036854775807 : Int)) (x_3 ((a0.getD (x_2.2 + (1 : Int) - (1 : Int)).toNat (0 : Int) % (256 : Int), x_2.2 + 1)))))))))))) (fun x_2 => brk (decide (x_1.2 ≥ (↑a0.length : Int))) (x_2 (((0 : Int), x_1.2))) (chk (InR (x_1.2 + 1)) (chk (InR (x_1.2 + (1 : Int) - (1 : Int))) (chk (0 ≤ x_1.2 + (1 : Int) - (1 : Int) ∧ x_1.2 + (1 : Int) - (1 : Int) < (↑a0.length : Int)) (chk (InR (a0.getD (x_1.2 + (1 : Int) - (1 : Int)).toNat (0 : Int))) (chk (0 ≤ a0.getD (x_1.2 + (1 : Int) - (1 : Int)).toNat (0 : Int) ∧ a0.getD (x_1.2 + (1 : Int) - (1 : Int)).toNat 0 ≤ (9223372036854775807 : Int)) (x_2 ((a0.getD (x_1.2 + (1 : Int) - (1 : Int)).toNat (0 : Int) % (256 : Int), x_1.2 + 1)))))))))))) (fun x_1 => brk (decide (x.2 ≥ (↑a0.length : Int))) (x_1 (((0 : Int), x.2))) (chk (InR (x.2 + 1)) (chk (InR (x.2 + (1 : Int) - (1 : Int))) (chk (0 ≤ x.2 + (1 : Int) - (1 : Int) ∧ x.2 + (1 : Int) - (1 : Int) < (↑a0.length : Int)) (chk (InR (a0.getD (x.2 + (1 : Int) - (1 : Int)).toNat (0 : Int))) (chk (0 ≤ a0.getD (x.2 + (1 : Int) - (1 : Int)).toNat (0 : Int) ∧ a0.getD (x.2 + (1 : Int) - (1 : Int)).toNat 0 ≤ (9223372036854775807 : Int)) (x_1 ((a0.getD (x.2 + (1 : Int) - (1 : Int)).toNat (0 : Int) % (256 : Int), x.2 + 1))))))))))) (fun x => brk (decide ((0 : Int) ≥ (↑a0.length : Int))) (x (((0 : Int), (0 : Int)))) (chk ((0 : Int) ≤ IntKind.i64.wrap (IntKind.i64.wrap ((0 : Int) + (1 : Int)) - 1) ∧ IntKind.i64.wrap (IntKind.i64.wrap ((0 : Int) + (1 : Int)) - 1) < (↑a0.length : Int)) (chk (InR (a0.getD (IntKind.i64.wrap (IntKind.i64.wrap ((0 : Int) + (1 : Int)) - 1)).toNat (0 : Int))) (chk (0 ≤ a0.getD (IntKind.i64.wrap (IntKind.i64.wrap ((0 : Int) + (1 : Int)) - 1)).toNat (0 : Int) ∧ a0.getD (IntKind.i64.wrap (IntKind.i64.wrap ((0 : Int) + (1 : Int)) - 1)).toNat 0 ≤ (9223372036854775807 : Int)) (x ((a0.getD (IntKind.i64.wrap (IntKind.i64.wrap ((0 : Int) + (1 : Int)) - 1)).toNat (0 : Int) % (6 : Int), IntKind.i64.wrap ((0 : Int) + (1 : Int)))))))))
def s16 (F : Nat) : CS E.G := ⟨16, [.sl 2], [.v 9 true [63, 63, 63]], fun x => law03_Made F x.1⟩
theorem c16 (F : Nat) : CSok E gl (s16 F) := mkC (cx := ⟨[], [(14, Tryd.f14), (43, Tryd.f43)], F, [], []⟩) hf16 (by kernel_rfl) rfl all0 ⟨(inlC hf14 en14 (inlC hf43 en43 inl0)), all0⟩ (.p (.w ⟨[.i, .i], [], [0, 1, 3, 4], [(0, .i IntKind.i64)], [], [(4, 0, .i IntKind.i64)], [], 5⟩ .n (.w ⟨[.i, .i], [], [0, 1, 3, 4], [(0, .i IntKind.i64)], [], [(4, 0, .i IntKind.i64)], [], 5⟩ .n (.w ⟨[.i, .i], [], [0, 1, 3, 4], [(0, .i IntKind.i64)], [], [(4, 0, .i IntKind.i64)], [], 5⟩ .n (.w ⟨[.i, .i], [], [0, 1, 3, 4], [(0, .i IntKind.i64)], [], [(4, 0, .i IntKind.i64)], [], 5⟩ .n (.w ⟨[.i, .i], [], [0, 1, 3, 4], [(0, .i IntKind.i64)], [], [(4, 0, .i IntKind.i64)], [], 5⟩ .n (.w ⟨[.i, .i], [], [0, 1, 3, 4], [(0, .i IntKind.i64)], [], [(4, 0, .i IntKind.i64)], [], 5⟩ .n (.w ⟨[.i, .i], [], [0, 1, 3, 4], [(0, .i IntKind.i64)], [], [(4, 0, .i IntKind.i64)], [], 5⟩ .n (.w ⟨[.i, .i], [], [0, 1, 3, 4], [(0, .i IntKind.i64)], [], [(4, 0, .i IntKind.i64)], [], 5⟩ .n (.w ⟨[.i, .i], [], [0, 1, 3, 4], [(0, .i IntKind.i64)], [], [(4, 0, .i IntKind.i64)], [], 6⟩ .n (.w ⟨[.i, .i], [], [0, 1, 3, 4], [(0, .i IntKind.i64)], [], [(4, 0, .i IntKind.i64)], [], 7⟩ .n (.l ⟨[.i, .i, .i, .l 7, .i], [32, 64, 48, 720], [0, 2, 5, 4, 3, 1], [(96, .i IntKind.i64), (736, .i IntKind.i64), (80, .i IntKind.i64)], [], [(5, 4, .h 7 63 7), (4, 0, .i IntKind.i64)], [], 8⟩ (.c (.w ⟨[.i, .i], [], [0, 1, 3, 4], [(0, .i IntKind.i64)], [], [(4, 0, .i IntKind.i64)], [], 8⟩ .n (.w ⟨[.i, .i], [], [0, 1, 3, 4], [(0, .i IntKind.i64)], [], [(4, 0, .i IntKind.i64)], [], 8⟩ .n .n)) (.w ⟨[.i, .i], [], [0, 1, 3, 4], [(0, .i IntKind.i64)], [], [(4, 0, .i IntKind.i64)], [], 8⟩ .n (.w ⟨[.i, .i], [], [0, 1, 3, 4], [(0, .i IntKind.i64)], [], [(4, 0, .i IntKind.i64)], [], 9⟩ .n (.l ⟨[.i, .i, .i, .l 7, .i], [32, 64, 48, 1200], [0, 2, 5, 4, 3, 7, 1], [(1216, .i IntKind.i64), (96, .i IntKind.i64), (80, .i IntKind.i64)], [], [(5, 5, .h 9 63 7), (4, 0, .i IntKind.i64)], [], 10⟩ (.c (.w ⟨[.i, .i], [], [0, 1, 3, 4], [(0, .i IntKind.i64)], [], [(4, 0, .i IntKind.i64)], [], 10⟩ .n (.w ⟨[.i, .i], [], [0, 1, 3, 4], [(0, .i IntKind.i64)], [], [(4, 0, .i IntKind.i64)], [], 10⟩ .n .n)) (.w ⟨[.i, .i], [], [0, 1, 3, 4], [(0, .i IntKind.i64)], [], [(4, 0, .i IntKind.i64)], [], 11⟩ .n (.l ⟨[.i, .i, .i, .l 7, .i], [32, 64, 48, 1616], [0, 2, 5, 4, 3, 9, 7, 1], [(96, .i IntKind.i64), (1632, .i IntKind.i64), (80, .i IntKind.i64)], [], [(5, 6, .h 11 63 7), (4, 0, .i IntKind.i64)], [], 12⟩ (.c (.w ⟨[.i, .i], [], [0, 1, 3, 4], [(0, .i IntKind.i64)], [], [(4, 0, .i IntKind.i64)], [], 12⟩ .n (.w ⟨[.i, .i], [], [0, 1, 3, 4], [(0, .i IntKind.i64)], [], [(4, 0, .i IntKind.i64)], [], 12⟩ .n .n)) (.w ⟨[.i, .i], [], [0, 1, 3, 4], [(0, .i IntKind.i64)], [], [(4, 0, .i IntKind.i64)], [], 12⟩ .n .n))))))))))))))))))))) rfl (by kernel_rfl)
theorem hf15 : HF 15 Tryd.f15 := hK (by kernel_rfl)
theorem en15 : Proofs.Enters Tryd.prog 15 := mkE hf15 (by kernel_rfl) rfl
theorem hf4 : HF 4 Tryd.f4 := hK (by kernel_rfl)
def law05_Made (F : Nat) (a0 : List Int) (a1 : Int) : Option (Convoy) :=
 join (F) (fun (x : (Int) × (Int)) => chk (InR ((3 : Int) * x.1)) (join (F) (fun (x_1 : (Int) × (Int)) => chk (InR ((2 : Int) * x_1.1)) (chk (0 ≤ (2 : Int) * x_1.1 ∧ (2 : Int) * x_1.1 ≤ 9223372036854775807) (join (F) (fun (x_2 : (Int) × (Int)) => chk (InR ((2 : Int) * x_2.1)) (chk (0 ≤ (2 : Int) * x_2.1 ∧ (2 : Int) * x_2.1 ≤ 9223372036854775807) (join (F) (fun (x_3 : (Int) × (Int)) => chk (InR ((2 : Int) * x_3.1)) (chk (0 ≤ (2 : Int) * x_3.1 ∧ (2 : Int) * x_3.1 ≤ 9223372036854775807) (join (F) (fun (x_4 : (Int) × (Int)) => chk (InR ((2 : Int) * x_4.1)) (chk (0 ≤ (2 : Int) * x_4.1 ∧ (2 : Int) * x_4.1 ≤ 9223372036854775807) (chk (InR (a1 + 1)) (join (F) (fun (x_5 : (Int) × (Int)) => loopC (fun (x_6 : (List (Int)) × ((Int) × (Int))) => fun x_7 => brk (decide (x_6.2.1 < 24)) (join (F) (fun (x_8 : (Int) × (Int)) => chk (List.length x_6.1 + [IntKind.u8.wrap x_8.1].length ≤ (140737488355328 : Nat)) (chk (InR (x_6.2.1 + 1)) (x_7 ((x_6.1 ++ [IntKind.u8.wrap x_8.1], x_6.2.1 + 1, x_8.2))))) (fun x_8 => brk (decide (x_6.2.2 ≥ (↑a0.length : Int))) (x_8 (((0 : Int), x_6.2.2))) (chk (InR (x_6.2.2 + 1)) (chk (InR (x_6.2.2 + (1 : Int) - (1 : Int))) (chk (0 ≤ x_6.2.2 + (1 : Int) - (1 : Int) ∧ x_6.2.2 + (1 : Int) - (1 : Int) < (↑a0.length : Int)) (chk (InR (a0.getD (x_6.2.2 + (1 : Int) - (1 : Int)).toNat (0 : Int))) (chk (0 ≤ a0.getD (x_6.2.2 + (1 : Int) - (1 : Int)).toNat (0 : Int) ∧ a0.getD (x_6.2.2 + (1 : Int) - (1 : Int)).toNat 0 ≤ (9223372036854775807 : Int)) (x_8 ((a0.getD (x_6.2.2 + (1 : Int) - (1 : Int)).toNat (0 : Int) % (256 : Int), x_6.2.2 + 1)))))))))) (chk (0 ≤ (7 : Int) ∧ (7 : Int) < (↑(List.length x_6.1) : Int)) (chk (0 ≤ (7 : Int) ∧ (7 : Int) < (↑(List.length x_6.1) : Int)) (chk (0 ≤ (8 : Int) ∧ (8 : Int) < (↑(List.set x_6.1 (Int.toNat (7 : Int)) (IntKind.u8.wrap (Int.tdiv (List.getD x_6.1 (Int.toNat (7 : Int)) (0 : Int)) (8 : Int)))).length : Int)) (chk (0 ≤ (8 : Int) ∧ (8 : Int) < (↑(List.set x_6.1 (Int.toNat (7 : Int)) (IntKind.u8.wrap (Int.tdiv (List.getD x_6.1 (Int.toNat (7 : Int)) (0 : Int)) (8 : Int)))).length : Int)) (bnd (law03_Made F ((List.set x_6.1 (Int.toNat (7 : Int)) (IntKind.u8.wrap (Int.tdiv (List.getD x_6.1 (Int.toNat (7 : Int)) (0 : Int)) (8 : Int)))).set (Int.toNat (8 : Int)) ((128 : Int) + (List.set x_6.1 (Int.toNat (7 : Int)) (IntKind.u8.wrap (Int.tdiv (List.getD x_6.1 (Int.toNat (7 : Int)) (0 : Int)) (8 : Int)))).getD (Int.toNat (8 : Int)) (0 : Int) % (128 : Int)))) (fun (x_8 : Ship) => join (F) (fun (x_9 : (Int) × (Int)) => chk (InR ((2 : Int) * x_9.1)) (chk (InR ((10 : Int) + (2 : Int) * x_9.1)) (join (F) (fun (x_10 : (Int) × (Int)) => chk (InR ((3 : Int) * x_10.1)) (join (F) (fun (x_11 : (Int) × (Int)) => chk (InR ((5 : Int) * x_11.1)) (join (F) (fun (x_12 : (Int) × (Int)) => loopC (fun (x_13 : (Int) × ((Int) × ((Int) × ((Int) × (List (Point)))))) => fun x_14 => brk (decide (x_13.2.2.1 < x_12.1)) (chk (InR (x_13.1 + 1)) (join (F) (fun (x_15 : (Int) × (Int)) => chk (InR (x_13.1 + (1 : Int) + x_15.1)) (join (F) (fun (x_16 : (Int) × (Int)) => chk (InR ((2 : Int) * x_16.1)) (chk (InR (x_13.2.1 + (2 : Int) * x_16.1)) (chk (List.length x_13.2.2.2.2 + [Point.mk (x_13.1 + (1 : Int) + x_15.1) (x_13.2.1 + (2 : Int) * x_16.1)].length ≤ (1000000000 : Nat)) (chk (InR (x_13.2.2.1 + 1)) (x_14 ((x_13.1 + (1 : Int) + x_15.1, x_13.2.1 + (2 : Int) * x_16.1, x_13.2.2.1 + 1, x_16.2, x_13.2.2.2.2 ++ [Point.mk (x_13.1 + (1 : Int) + x_15.1) (x_13.2.1 + (2 : Int) * x_16.1)]))))))) (fun x_16 => brk (decide (x_15.2 ≥ (↑a0.length : Int))) (x_16 (((0 : Int), x_15.2))) (chk (InR (x_15.2 + 1)) (chk (InR (x_15.2 + (1 : Int) - (1 : Int))) (chk (0 ≤ x_15.2 + (1 : Int) - (1 : Int) ∧ x_15.2 + (1 : Int) - (1 : Int) < (↑a0.length : Int)) (chk (InR (a0.getD (x_15.2 + (1 : Int) - (1 : Int)).toNat (0 : Int))) (chk (0 ≤ a0.getD (x_15.2 + (1 : Int) - (1 : Int)).toNat (0 : Int) ∧ a0.getD (x_15.2 + (1 : Int) - (1 : Int)).toNat 0 ≤ (9223372036854775807 : Int)) (x_16 ((a0.getD (x_15.2 + (1 : Int) - (1 : Int)).toNat (0 : Int) % (256 : Int), x_15.2 + 1))))))))))) (fun x_15 => brk (decide (x_13.2.2.2.1 ≥ (↑a0.length : Int))) (x_15 (((0 : Int), x_13.2.2.2.1))) (chk (InR (x_13.2.2.2.1 + 1)) (chk (InR (x_13.2.2.2.1 + (1 : Int) - (1 : Int))) (chk (0 ≤ x_13.2.2.2.1 + (1 : Int) - (1 : Int) ∧ x_13.2.2.2.1 + (1 : Int) - (1 : Int) < (↑a0.length : Int)) (chk (InR (a0.getD (x_13.2.2.2.1 + (1 : Int) - (1 : Int)).toNat (0 : Int))) (chk (0 ≤ a0.getD (x_13.2.2.2.1 + (1 : Int) - (1 : Int)).toNat (0 : Int) ∧ a0.getD (x_13.2.2.2.1 + (1 : Int) - (1 : Int)).toNat 0 ≤ (9223372036854775807 : Int)) (x_15 ((a0.getD (x_13.2.2.2.1 + (1 : Int) - (1 : Int)).toNat (0 : Int) % (40 : Int), x_13.2.2.2.1 + 1))))))))))) (join (F) (fun (x_15 : (Int) × (Int)) => chk (InR ((4 : Int) * x_15.1)) (chk (InR (x_13.2.1 + (4 : Int) * x_15.1)) (chk (List.length x_13.2.2.2.2 + [Point.mk (260 : Int) (x_13.2.1 + (4 : Int) * x_15.1)].length ≤ (1000000000 : Nat)) (loopC (fun (x_16 : (Int) × ((List (Member)) × (Int))) => fun x_17 => brk (decide (x_16.1 < x_5.1)) (loopC (fun (x_18 : (List (Int)) × ((Int) × (Int))) => fun x_19 => brk (decide (x_18.2.1 < 24)) (join (F) (fun (x_20 : (Int) × (Int)) => chk (List.length x_18.1 + [IntKind.u8.wrap x_20.1].length ≤ (140737488355328 : Nat)) (chk (InR (x_18.2.1 + 1)) (x_19 ((x_18.1 ++ [IntKind.u8.wrap x_20.1], x_18.2.1 + 1, x_20.2))))) (fun x_20 => brk (decide (x_18.2.2 ≥ (↑a0.length : Int))) (x_20 (((0 : Int), x_18.2.2))) (chk (InR (x_18.2.2 + 1)) (chk (InR (x_18.2.2 + (1 : Int) - (1 : Int))) (chk (0 ≤ x_18.2.2 + (1 : Int) - (1 : Int) ∧ x_18.2.2 + (1 : Int) - (1 : Int) < (↑a0.length : Int)) (chk (InR (a0.getD (x_18.2.2 + (1 : Int) - (1 : Int)).toNat (0 : Int))) (chk (0 ≤ a0.getD (x_18.2.2 + (1 : Int) - (1 : Int)).toNat (0 : Int) ∧ a0.getD (x_18.2.2 + (1 : Int) - (1 : Int)).toNat 0 ≤ (9223372036854775807 : Int)) (x_20 ((a0.getD (x_18.2.2 + (1 : Int) - (1 : Int)).toNat (0 : Int) % (256 : Int), x_18.2.2 + 1)))))))))) (chk (0 ≤ (7 : Int) ∧ (7 : Int) < (↑(List.length x_18.1) : Int)) (chk (0 ≤ (7 : Int) ∧ (7 : Int) < (↑(List.length x_18.1) : Int)) (chk (0 ≤ (8 : Int) ∧ (8 : Int) < (↑(List.set x_18.1 (Int.toNat (7 : Int)) (IntKind.u8.wrap (Int.tdiv (List.getD x_18.1 (Int.toNat (7 : Int)) (0 : Int)) (8 : Int)))).length : Int)) (chk (0 ≤ (8 : Int) ∧ (8 : Int) < (↑(List.set x_18.1 (Int.toNat (7 : Int)) (IntKind.u8.wrap (Int.tdiv (List.getD x_18.1 (Int.toNat (7 : Int)) (0 : Int)) (8 : Int)))).length : Int)) (bnd (law03_Made F ((List.set x_18.1 (Int.toNat (7 : Int)) (IntKind.u8.wrap (Int.tdiv (List.getD x_18.1 (Int.toNat (7 : Int)) (0 : Int)) (8 : Int)))).set (Int.toNat (8 : Int)) ((128 : Int) + (List.set x_18.1 (Int.toNat (7 : Int)) (IntKind.u8.wrap (Int.tdiv (List.getD x_18.1 (Int.toNat (7 : Int)) (0 : Int)) (8 : Int)))).getD (Int.toNat (8 : Int)) (0 : Int) % (128 : Int)))) (fun (x_20 : Ship) => join (F) (fun (x_21 : (Int) × (Int)) => chk (InR ((2 : Int) * x_21.1)) (chk (InR ((10 : Int) + (2 : Int) * x_21.1)) (join (F) (fun (x_22 : (Int) × (Int)) => chk (InR ((3 : Int) * x_22.1)) (join (F) (fun (x_23 : (Int) × (Int)) => chk (InR ((5 : Int) * x_23.1)) (join (F) (fun (x_24 : (Int) × (Int)) => loopC (fun (x_25 : (Int) × ((Int) × ((Int) × ((Int) × (List (Point)))))) => fun x_26 => brk (decide (x_25.2.2.1 < x_24.1)) (chk (InR (x_25.1 + 1)) (join (F) (fun (x_27 : (Int) × (Int)) => chk (InR (x_25.1 + (1 : Int) + x_27.1)) (join (F) (fun (x_28 : (Int) × (Int)) => chk (InR ((2 : Int) * x_28.1)) (chk (InR (x_25.2.1 + (2 : Int) * x_28.1)) (chk (List.length x_25.2.2.2.2 + [Point.mk (x_25.1 + (1 : Int) + x_27.1) (x_25.2.1 + (2 : Int) * x_28.1)].length ≤ (1000000000 : Nat)) (chk (InR (x_25.2.2.1 + 1)) (x_26 ((x_25.1 + (1 : Int) + x_27.1, x_25.2.1 + (2 : Int) * x_28.1, x_25.2.2.1 + 1, x_28.2, x_25.2.2.2.2 ++ [Point.mk (x_25.1 + (1 : Int) + x_27.1) (x_25.2.1 + (2 : Int) * x_28.1)]))))))) (fun x_28 => brk (decide (x_27.2 ≥ (↑a0.length : Int))) (x_28 (((0 : Int), x_27.2))) (chk (InR (x_27.2 + 1)) (chk (InR (x_27.2 + (1 : Int) - (1 : Int))) (chk (0 ≤ x_27.2 + (1 : Int) - (1 : Int) ∧ x_27.2 + (1 : Int) - (1 : Int) < (↑a0.length : Int)) (chk (InR (a0.getD (x_27.2 + (1 : Int) - (1 : Int)).toNat (0 : Int))) (chk (0 ≤ a0.getD (x_27.2 + (1 : Int) - (1 : Int)).toNat (0 : Int) ∧ a0.getD (x_27.2 + (1 : Int) - (1 : Int)).toNat 0 ≤ (9223372036854775807 : Int)) (x_28 ((a0.getD (x_27.2 + (1 : Int) - (1 : Int)).toNat (0 : Int) % (256 : Int), x_27.2 + 1))))))))))) (fun x_27 => brk (decide (x_25.2.2.2.1 ≥ (↑a0.length : Int))) (x_27 (((0 : Int), x_25.2.2.2.1))) (chk (InR (x_25.2.2.2.1 + 1)) (chk (InR (x_25.2.2.2.1 + (1 : Int) - (1 : Int))) (chk (0 ≤ x_25.2.2.2.1 + (1 : Int) - (1 : Int) ∧ x_25.2.2.2.1 + (1 : Int) - (1 : Int) < (↑a0.length : Int)) (chk (InR (a0.getD (x_25.2.2.2.1 + (1 : Int) - (1 : Int)).toNat (0 : Int))) (chk (0 ≤ a0.getD (x_25.2.2.2.1 + (1 : Int) - (1 : Int)).toNat (0 : Int) ∧ a0.getD (x_25.2.2.2.1 + (1 : Int) - (1 : Int)).toNat 0 ≤ (9223372036854775807 : Int)) (x_27 ((a0.getD (x_25.2.2.2.1 + (1 : Int) - (1 : Int)).toNat (0 : Int) % (40 : Int), x_25.2.2.2.1 + 1))))))))))) (join (F) (fun (x_27 : (Int) × (Int)) => chk (InR ((4 : Int) * x_27.1)) (chk (InR (x_25.2.1 + (4 : Int) * x_27.1)) (chk (List.length x_25.2.2.2.2 + [Point.mk (260 : Int) (x_25.2.1 + (4 : Int) * x_27.1)].length ≤ (1000000000 : Nat)) (chk (List.length x_16.2.1 + [Member.mk x_20 (x_25.2.2.2.2 ++ [Point.mk (260 : Int) (x_25.2.1 + (4 : Int) * x_27.1)]) ((10 : Int) + (2 : Int) * x_21.1) ((3 : Int) * x_22.1) ((5 : Int) * x_23.1)].length ≤ (1000000000 : Nat)) (chk (InR (x_16.1 + 1)) (x_17 ((x_16.1 + 1, x_16.2.1 ++ [Member.mk x_20 (x_25.2.2.2.2 ++ [Point.mk (260 : Int) (x_25.2.1 + (4 : Int) * x_27.1)]) ((10 : Int) + (2 : Int) * x_21.1) ((3 : Int) * x_22.1) ((5 : Int) * x_23.1)], x_27.2)))))))) (fun x_27 => brk (decide (x_25.2.2.2.1 ≥ (↑a0.length : Int))) (x_27 (((0 : Int), x_25.2.2.2.1))) (chk (InR (x_25.2.2.2.1 + 1)) (chk (InR (x_25.2.2.2.1 + (1 : Int) - (1 : Int))) (chk (0 ≤ x_25.2.2.2.1 + (1 : Int) - (1 : Int) ∧ x_25.2.2.2.1 + (1 : Int) - (1 : Int) < (↑a0.length : Int)) (chk (InR (a0.getD (x_25.2.2.2.1 + (1 : Int) - (1 : Int)).toNat (0 : Int))) (chk (0 ≤ a0.getD (x_25.2.2.2.1 + (1 : Int) - (1 : Int)).toNat (0 : Int) ∧ a0.getD (x_25.2.2.2.1 + (1 : Int) - (1 : Int)).toNat 0 ≤ (9223372036854775807 : Int)) (x_27 ((a0.getD (x_25.2.2.2.1 + (1 : Int) - (1 : Int)).toNat (0 : Int) % (256 : Int), x_25.2.2.2.1 + 1))))))))))) (F) (((0 : Int), (0 : Int), (0 : Int), x_24.2, [Point.mk (0 : Int) (0 : Int)]))) (fun x_24 => brk (decide (x_23.2 ≥ (↑a0.length : Int))) (x_24 (((0 : Int), x_23.2))) (chk (InR (x_23.2 + 1)) (chk (InR (x_23.2 + (1 : Int) - (1 : Int))) (chk (0 ≤ x_23.2 + (1 : Int) - (1 : Int) ∧ x_23.2 + (1 : Int) - (1 : Int) < (↑a0.length : Int)) (chk (InR (a0.getD (x_23.2 + (1 : Int) - (1 : Int)).toNat (0 : Int))) (chk (0 ≤ a0.getD (x_23.2 + (1 : Int) - (1 : Int)).toNat (0 : Int) ∧ a0.getD (x_23.2 + (1 : Int) - (1 : Int)).toNat 0 ≤ (9223372036854775807 : Int)) (x_24 ((a0.getD (x_23.2 + (1 : Int) - (1 : Int)).toNat (0 : Int) % (4 : Int), x_23.2 + 1))))))))))) (fun x_23 => brk (decide (x_22.2 ≥ (↑a0.length : Int))) (x_23 (((0 : Int), x_22.2))) (chk (InR (x_22.2 + 1)) (chk (InR (x_22.2 + (1 : Int) - (1 : Int))) (chk (0 ≤ x_22.2 + (1 : Int) - (1 : Int) ∧ x_22.2 + (1 : Int) - (1 : Int) < (↑a0.length : Int)) (chk (InR (a0.getD (x_22.2 + (1 : Int) - (1 : Int)).toNat (0 : Int))) (chk (0 ≤ a0.getD (x_22.2 + (1 : Int) - (1 : Int)).toNat (0 : Int) ∧ a0.getD (x_22.2 + (1 : Int) - (1 : Int)).toNat 0 ≤ (9223372036854775807 : Int)) (x_23 ((a0.getD (x_22.2 + (1 : Int) - (1 : Int)).toNat (0 : Int) % (200 : Int), x_22.2 + 1))))))))))) (fun x_22 => brk (decide (x_21.2 ≥ (↑a0.length : Int))) (x_22 (((0 : Int), x_21.2))) (chk (InR (x_21.2 + 1)) (chk (InR (x_21.2 + (1 : Int) - (1 : Int))) (chk (0 ≤ x_21.2 + (1 : Int) - (1 : Int) ∧ x_21.2 + (1 : Int) - (1 : Int) < (↑a0.length : Int)) (chk (InR (a0.getD (x_21.2 + (1 : Int) - (1 : Int)).toNat (0 : Int))) (chk (0 ≤ a0.getD (x_21.2 + (1 : Int) - (1 : Int)).toNat (0 : Int) ∧ a0.getD (x_21.2 + (1 : Int) - (1 : Int)).toNat 0 ≤ (9223372036854775807 : Int)) (x_22 ((a0.getD (x_21.2 + (1 : Int) - (1 : Int)).toNat (0 : Int) % (60 : Int), x_21.2 + 1)))))))))))) (fun x_21 => brk (decide (x_18.2.2 ≥ (↑a0.length : Int))) (x_21 (((0 : Int), x_18.2.2))) (chk (InR (x_18.2.2 + 1)) (chk (InR (x_18.2.2 + (1 : Int) - (1 : Int))) (chk (0 ≤ x_18.2.2 + (1 : Int) - (1 : Int) ∧ x_18.2.2 + (1 : Int) - (1 : Int) < (↑a0.length : Int)) (chk (InR (a0.getD (x_18.2.2 + (1 : Int) - (1 : Int)).toNat (0 : Int))) (chk (0 ≤ a0.getD (x_18.2.2 + (1 : Int) - (1 : Int)).toNat (0 : Int) ∧ a0.getD (x_18.2.2 + (1 : Int) - (1 : Int)).toNat 0 ≤ (9223372036854775807 : Int)) (x_21 ((a0.getD (x_18.2.2 + (1 : Int) - (1 : Int)).toNat (0 : Int) % (240 : Int), x_18.2.2 + 1)))))))))))))))) (F) (([], (0 : Int), x_16.2.2))) (some (Convoy.mk (Member.mk x_8 (x_13.2.2.2.2 ++ [Point.mk (260 : Int) (x_13.2.1 + (4 : Int) * x_15.1)]) ((10 : Int) + (2 : Int) * x_9.1) ((3 : Int) * x_10.1) ((5 : Int) * x_11.1)) x_16.2.1 ((3 : Int) * x.1) (Numbers.mk (if (2 : Int) * x_1.1 / IntKind.i64.wrap ((1 : Int) + (0 : Int)) < 1440 then (2 : Int) * x_1.1 / IntKind.i64.wrap ((1 : Int) + (0 : Int)) else (1440 : Int)) (if (2 : Int) * x_2.1 / IntKind.i64.wrap ((1 : Int) + IntKind.i64.wrap ((0 : Int) + (1 : Int))) < if (2 : Int) * x_1.1 / IntKind.i64.wrap ((1 : Int) + (0 : Int)) < 1440 then (2 : Int) * x_1.1 / IntKind.i64.wrap ((1 : Int) + (0 : Int)) else (1440 : Int) then (2 : Int) * x_2.1 / IntKind.i64.wrap ((1 : Int) + IntKind.i64.wrap ((0 : Int) + (1 : Int))) else if (2 : Int) * x_1.1 / IntKind.i64.wrap ((1 : Int) + (0 : Int)) < 1440 then (2 : Int) * x_1.1 / IntKind.i64.wrap ((1 : Int) + (0 : Int)) else (1440 : Int)) (if (2 : Int) * x_3.1 / IntKind.i64.wrap ((1 : Int) + IntKind.i64.wrap (IntKind.i64.wrap ((0 : Int) + (1 : Int)) + 1)) < if (2 : Int) * x_2.1 / IntKind.i64.wrap ((1 : Int) + IntKind.i64.wrap ((0 : Int) + (1 : Int))) < if (2 : Int) * x_1.1 / IntKind.i64.wrap ((1 : Int) + (0 : Int)) < 1440 then (2 : Int) * x_1.1 / IntKind.i64.wrap ((1 : Int) + (0 : Int)) else (1440 : Int) then (2 : Int) * x_2.1 / IntKind.i64.wrap ((1 : Int) + IntKind.i64.wrap ((0 : Int) + (1 : Int))) else if (2 : Int) * x_1.1 / IntKind.i64.wrap ((1 : Int) + (0 : Int)) < 1440 then (2 : Int) * x_1.1 / IntKind.i64.wrap ((1 : Int) + (0 : Int)) else (1440 : Int) then (2 : Int) * x_3.1 / IntKind.i64.wrap ((1 : Int) + IntKind.i64.wrap (IntKind.i64.wrap ((0 : Int) + (1 : Int)) + 1)) else if (2 : Int) * x_2.1 / IntKind.i64.wrap ((1 : Int) + IntKind.i64.wrap ((0 : Int) + (1 : Int))) < if (2 : Int) * x_1.1 / IntKind.i64.wrap ((1 : Int) + (0 : Int)) < 1440 then (2 : Int) * x_1.1 / IntKind.i64.wrap ((1 : Int) + (0 : Int)) else (1440 : Int) then (2 : Int) * x_2.1 / IntKind.i64.wrap ((1 : Int) + IntKind.i64.wrap ((0 : Int) + (1 : Int))) else if (2 : Int) * x_1.1 / IntKind.i64.wrap ((1 : Int) + (0 : Int)) < 1440 then (2 : Int) * x_1.1 / IntKind.i64.wrap ((1 : Int) + (0 : Int)) else (1440 : Int)) (if (2 : Int) * x_4.1 / IntKind.i64.wrap ((1 : Int) + IntKind.i64.wrap (IntKind.i64.wrap (IntKind.i64.wrap ((0 : Int) + (1 : Int)) + 1) + 1)) < if (2 : Int) * x_3.1 / IntKind.i64.wrap ((1 : Int) + IntKind.i64.wrap (IntKind.i64.wrap ((0 : Int) + (1 : Int)) + 1)) < if (2 : Int) * x_2.1 / IntKind.i64.wrap ((1 : Int) + IntKind.i64.wrap ((0 : Int) + (1 : Int))) < if (2 : Int) * x_1.1 / IntKind.i64.wrap ((1 : Int) + (0 : Int)) < 1440 then (2 : Int) * x_1.1 / IntKind.i64.wrap ((1 : Int) + (0 : Int)) else (1440 : Int) then (2 : Int) * x_2.1 / IntKind.i64.wrap ((1 : Int) + IntKind.i64.wrap ((0 : Int) + (1 : Int))) else if (2 : Int) * x_1.1 / IntKind.i64.wrap ((1 : Int) + (0 : Int)) < 1440 then (2 : Int) * x_1.1 / IntKind.i64.wrap ((1 : Int) + (0 : Int)) else (1440 : Int) then (2 : Int) * x_3.1 / IntKind.i64.wrap ((1 : Int) + IntKind.i64.wrap (IntKind.i64.wrap ((0 : Int) + (1 : Int)) + 1)) else if (2 : Int) * x_2.1 / IntKind.i64.wrap ((1 : Int) + IntKind.i64.wrap ((0 : Int) + (1 : Int))) < if (2 : Int) * x_1.1 / IntKind.i64.wrap ((1 : Int) + (0 : Int)) < 1440 then (2 : Int) * x_1.1 / IntKind.i64.wrap ((1 : Int) + (0 : Int)) else (1440 : Int) then (2 : Int) * x_2.1 / IntKind.i64.wrap ((1 : Int) + IntKind.i64.wrap ((0 : Int) + (1 : Int))) else if (2 : Int) * x_1.1 / IntKind.i64.wrap ((1 : Int) + (0 : Int)) < 1440 then (2 : Int) * x_1.1 / IntKind.i64.wrap ((1 : Int) + (0 : Int)) else (1440 : Int) then (2 : Int) * x_4.1 / IntKind.i64.wrap ((1 : Int) + IntKind.i64.wrap (IntKind.i64.wrap (IntKind.i64.wrap ((0 : Int) + (1 : Int)) + 1) + 1)) else if (2 : Int) * x_3.1 / IntKind.i64.wrap ((1 : Int) + IntKind.i64.wrap (IntKind.i64.wrap ((0 : Int) + (1 : Int)) + 1)) < if (2 : Int) * x_2.1 / IntKind.i64.wrap ((1 : Int) + IntKind.i64.wrap ((0 : Int) + (1 : Int))) < if (2 : Int) * x_1.1 / IntKind.i64.wrap ((1 : Int) + (0 : Int)) < 1440 then (2 : Int) * x_1.1 / IntKind.i64.wrap ((1 : Int) + (0 : Int)) else (1440 : Int) then (2 : Int) * x_2.1 / IntKind.i64.wrap ((1 : Int) + IntKind.i64.wrap ((0 : Int) + (1 : Int))) else if (2 : Int) * x_1.1 / IntKind.i64.wrap ((1 : Int) + (0 : Int)) < 1440 then (2 : Int) * x_1.1 / IntKind.i64.wrap ((1 : Int) + (0 : Int)) else (1440 : Int) then (2 : Int) * x_3.1 / IntKind.i64.wrap ((1 : Int) + IntKind.i64.wrap (IntKind.i64.wrap ((0 : Int) + (1 : Int)) + 1)) else if (2 : Int) * x_2.1 / IntKind.i64.wrap ((1 : Int) + IntKind.i64.wrap ((0 : Int) + (1 : Int))) < if (2 : Int) * x_1.1 / IntKind.i64.wrap ((1 : Int) + (0 : Int)) < 1440 then (2 : Int) * x_1.1 / IntKind.i64.wrap ((1 : Int) + (0 : Int)) else (1440 : Int) then (2 : Int) * x_2.1 / IntKind.i64.wrap ((1 : Int) + IntKind.i64.wrap ((0 : Int) + (1 : Int))) else if (2 : Int) * x_1.1 / IntKind.i64.wrap ((1 : Int) + (0 : Int)) < 1440 then (2 : Int) * x_1.1 / IntKind.i64.wrap ((1 : Int) + (0 : Int)) else (1440 : Int)))))) (F) (((0 : Int), [], x_15.2)))))) (fun x_15 => brk (decide (x_13.2.2.2.1 ≥ (↑a0.length : Int))) (x_15 (((0 : Int), x_13.2.2.2.1))) (chk (InR (x_13.2.2.2.1 + 1)) (chk (InR (x_13.2.2.2.1 + (1 : Int) - (1 : Int))) (chk (0 ≤ x_13.2.2.2.1 + (1 : Int) - (1 : Int) ∧ x_13.2.2.2.1 + (1 : Int) - (1 : Int) < (↑a0.length : Int)) (chk (InR (a0.getD (x_13.2.2.2.1 + (1 : Int) - (1 : Int)).toNat (0 : Int))) (chk (0 ≤ a0.getD (x_13.2.2.2.1 + (1 : Int) - (1 : Int)).toNat (0 : Int) ∧ a0.getD (x_13.2.2.2.1 + (1 : Int) - (1 : Int)).toNat 0 ≤ (9223372036854775807 : Int)) (x_15 ((a0.getD (x_13.2.2.2.1 + (1 : Int) - (1 : Int)).toNat (0 : Int) % (256 : Int), x_13.2.2.2.1 + 1))))))))))) (F) (((0 : Int), (0 : Int), (0 : Int), x_12.2, [Point.mk (0 : Int) (0 : Int)]))) (fun x_12 => brk (decide (x_11.2 ≥ (↑a0.length : Int))) (x_12 (((0 : Int), x_11.2))) (chk (InR (x_11.2 + 1)) (chk (InR (x_11.2 + (1 : Int) - (1 : Int))) (chk (0 ≤ x_11.2 + (1 : Int) - (1 : Int) ∧ x_11.2 + (1 : Int) - (1 : Int) < (↑a0.length : Int)) (chk (InR (a0.getD (x_11.2 + (1 : Int) - (1 : Int)).toNat (0 : Int))) (chk (0 ≤ a0.getD (x_11.2 + (1 : Int) - (1 : Int)).toNat (0 : Int) ∧ a0.getD (x_11.2 + (1 : Int) - (1 : Int)).toNat 0 ≤ (9223372036854775807 : Int)) (x_12 ((a0.getD (x_11.2 + (1 : Int) - (1 : Int)).toNat (0 : Int) % (4 : Int), x_11.2 + 1))))))))))) (fun x_11 => brk (decide (x_10.2 ≥ (↑a0.length : Int))) (x_11 (((0 : Int), x_10.2))) (chk (InR (x_10.2 + 1)) (chk (InR (x_10.2 + (1 : Int) - (1 : Int))) (chk (0 ≤ x_10.2 + (1 : Int) - (1 : Int) ∧ x_10.2 + (1 : Int) - (1 : Int) < (↑a0.length : Int)) (chk (InR (a0.getD (x_10.2 + (1 : Int) - (1 : Int)).toNat (0 : Int))) (chk (0 ≤ a0.getD (x_10.2 + (1 : Int) - (1 : Int)).toNat (0 : Int) ∧ a0.getD (x_10.2 + (1 : Int) - (1 : Int)).toNat 0 ≤ (9223372036854775807 : Int)) (x_11 ((a0.getD (x_10.2 + (1 : Int) - (1 : Int)).toNat (0 : Int) % (200 : Int), x_10.2 + 1))))))))))) (fun x_10 => brk (decide (x_9.2 ≥ (↑a0.length : Int))) (x_10 (((0 : Int), x_9.2))) (chk (InR (x_9.2 + 1)) (chk (InR (x_9.2 + (1 : Int) - (1 : Int))) (chk (0 ≤ x_9.2 + (1 : Int) - (1 : Int) ∧ x_9.2 + (1 : Int) - (1 : Int) < (↑a0.length : Int)) (chk (InR (a0.getD (x_9.2 + (1 : Int) - (1 : Int)).toNat (0 : Int))) (chk (0 ≤ a0.getD (x_9.2 + (1 : Int) - (1 : Int)).toNat (0 : Int) ∧ a0.getD (x_9.2 + (1 : Int) - (1 : Int)).toNat 0 ≤ (9223372036854775807 : Int)) (x_10 ((a0.getD (x_9.2 + (1 : Int) - (1 : Int)).toNat (0 : Int) % (60 : Int), x_9.2 + 1)))))))))))) (fun x_9 => brk (decide (x_6.2.2 ≥ (↑a0.length : Int))) (x_9 (((0 : Int), x_6.2.2))) (chk (InR (x_6.2.2 + 1)) (chk (InR (x_6.2.2 + (1 : Int) - (1 : Int))) (chk (0 ≤ x_6.2.2 + (1 : Int) - (1 : Int) ∧ x_6.2.2 + (1 : Int) - (1 : Int) < (↑a0.length : Int)) (chk (InR (a0.getD (x_6.2.2 + (1 : Int) - (1 : Int)).toNat (0 : Int))) (chk (0 ≤ a0.getD (x_6.2.2 + (1 : Int) - (1 : Int)).toNat (0 : Int) ∧ a0.getD (x_6.2.2 + (1 : Int) - (1 : Int)).toNat 0 ≤ (9223372036854775807 : Int)) (x_9 ((a0.getD (x_6.2.2 + (1 : Int) - (1 : Int)).toNat (0 : Int) % (240 : Int), x_6.2.2 + 1)))))))))))))))) (F) (([], (0 : Int), x_5.2))) (fun x_5 => brk (decide (x_4.2 ≥ (↑a0.length : Int))) (x_5 (((0 : Int), x_4.2))) (chk (InR (x_4.2 + 1)) (chk (InR (x_4.2 + (1 : Int) - (1 : Int))) (chk (0 ≤ x_4.2 + (1 : Int) - (1 : Int) ∧ x_4.2 + (1 : Int) - (1 : Int) < (↑a0.length : Int)) (chk (InR (a0.getD (x_4.2 + (1 : Int) - (1 : Int)).toNat (0 : Int))) (chk ((0 ≤ a0.getD (x_4.2 + (1 : Int) - (1 : Int)).toNat (0 : Int) ∧ a0.getD (x_4.2 + (1 : Int) - (1 : Int)).toNat 0 ≤ (9223372036854775807 : Int)) ∧ (0 : Int) < a1 + 1) (x_5 ((a0.getD (x_4.2 + (1 : Int) - (1 : Int)).toNat (0 : Int) % (a1 + 1), x_4.2 + 1))))))))))))) (fun x_4 => brk (decide (x_3.2 ≥ (↑a0.length : Int))) (x_4 (((0 : Int), x_3.2))) (chk (InR (x_3.2 + 1)) (chk (InR (x_3.2 + (1 : Int) - (1 : Int))) (chk (0 ≤ x_3.2 + (1 : Int) - (1 : Int) ∧ x_3.2 + (1 : Int) - (1 : Int) < (↑a0.length : Int)) (chk (InR (a0.getD (x_3.2 + (1 : Int) - (1 : Int)).toNat (0 : Int))) (chk (0 ≤ a0.getD (x_3.2 + (1 : Int) - (1 : Int)).toNat (0 : Int) ∧ a0.getD (x_3.2 + (1 : Int) - (1 : Int)).toNat 0 ≤ (9223372036854775807 : Int)) (x_4 ((a0.getD (x_3.2 + (1 : Int) - (1 : Int)).toNat (0 : Int) % (256 : Int), x_3.2 + 1)))))))))))) (fun x_3 => brk (decide (x_2.2 ≥ (↑a0.length : Int))) (x_3 (((0 : Int), x_2.2))) (chk (InR (x_2.2 + 1)) (chk (InR (x_2.2 + (1 : Int) - (1 : Int))) (chk (0 ≤ x_2.2 + (1 : Int) - (1 : Int) ∧ x_2.2 + (1 : Int) - (1 : Int) < (↑a0.length : Int)) (chk (InR (a0.getD (x_2.2 + (1 : Int) - (1 : Int)).toNat (0 : Int))) (chk (0 ≤ a0.getD (x_2.2 + (1 : Int) - (1 : Int)).toNat (0 : Int) ∧ a0.getD (x_2.2 + (1 : Int) - (1 : Int)).toNat 0 ≤ (9223372036854775807 : Int)) (x_3 ((a0.getD (x_2.2 + (1 : Int) - (1 : Int)).toNat (0 : Int) % (256 : Int), x_2.2 + 1)))))))))))) (fun x_2 => brk (decide (x_1.2 ≥ (↑a0.length : Int))) (x_2 (((0 : Int), x_1.2))) (chk (InR (x_1.2 + 1)) (chk (InR (x_1.2 + (1 : Int) - (1 : Int))) (chk (0 ≤ x_1.2 + (1 : Int) - (1 : Int) ∧ x_1.2 + (1 : Int) - (1 : Int) < (↑a0.length : Int)) (chk (InR (a0.getD (x_1.2 + (1 : Int) - (1 : Int)).toNat (0 : Int))) (chk (0 ≤ a0.getD (x_1.2 + (1 : Int) - (1 : Int)).toNat (0 : Int) ∧ a0.getD (x_1.2 + (1 : Int) - (1 : Int)).toNat 0 ≤ (9223372036854775807 : Int)) (x_2 ((a0.getD (x_1.2 + (1 : Int) - (1 : Int)).toNat (0 : Int) % (256 : Int), x_1.2 + 1)))))))))))) (fun x_1 => brk (decide (x.2 ≥ (↑a0.length : Int))) (x_1 (((0 : Int), x.2))) (chk (InR (x.2 + 1)) (chk (InR (x.2 + (1 : Int) - (1 : Int))) (chk (0 ≤ x.2 + (1 : Int) - (1 : Int) ∧ x.2 + (1 : Int) - (1 : Int) < (↑a0.length : Int)) (chk (InR (a0.getD (x.2 + (1 : Int) - (1 : Int)).toNat (0 : Int))) (chk (0 ≤ a0.getD (x.2 + (1 : Int) - (1 : Int)).toNat (0 : Int) ∧ a0.getD (x.2 + (1 : Int) - (1 : Int)).toNat 0 ≤ (9223372036854775807 : Int)) (x_1 ((a0.getD (x.2 + (1 : Int) - (1 : Int)).toNat (0 : Int) % (256 : Int), x.2 + 1))))))))))) (fun x => brk (decide ((0 : Int) ≥ (↑a0.length : Int))) (x (((0 : Int), (0 : Int)))) (chk ((0 : Int) ≤ IntKind.i64.wrap (IntKind.i64.wrap ((0 : Int) + (1 : Int)) - 1) ∧ IntKind.i64.wrap (IntKind.i64.wrap ((0 : Int) + (1 : Int)) - 1) < (↑a0.length : Int)) (chk (InR (a0.getD (IntKind.i64.wrap (IntKind.i64.wrap ((0 : Int) + (1 : Int)) - 1)).toNat (0 : Int))) (chk (0 ≤ a0.getD (IntKind.i64.wrap (IntKind.i64.wrap ((0 : Int) + (1 : Int)) - 1)).toNat (0 : Int) ∧ a0.getD (IntKind.i64.wrap (IntKind.i64.wrap ((0 : Int) + (1 : Int)) - 1)).toNat 0 ≤ (9223372036854775807 : Int)) (x ((a0.getD (IntKind.i64.wrap (IntKind.i64.wrap ((0 : Int) + (1 : Int)) - 1)).toNat (0 : Int) % (80 : Int), IntKind.i64.wrap ((0 : Int) + (1 : Int)))))))))
def s4 (F : Nat) : CS E.G := ⟨4, [.sl 2, .v 0 false], [.v 13 true [63, 63, 63, 63, 27]], fun x => law05_Made F x.1 x.2.1⟩
theorem c4 (F : Nat) : CSok E gl (s4 F) := mkC (cx := ⟨[s16 F], [(14, Tryd.f14), (43, Tryd.f43), (15, Tryd.f15)], F, [], []⟩) hf4 (by kernel_rfl) rfl (allC (c16 F) all0) ⟨(inlC hf14 en14 (inlC hf43 en43 (inlC hf15 en15 inl0))), all0⟩ (.p (.w ⟨[.i, .i], [], [0, 1, 3, 4], [(0, .i IntKind.i64)], [], [(4, 0, .i IntKind.i64)], [], 6⟩ .n (.u 5 (.w ⟨[.i, .i], [], [0, 1, 3, 4], [(0, .i IntKind.i64)], [], [(4, 0, .i IntKind.i64)], [], 7⟩ .n (.w ⟨[.i, .i], [], [0, 1, 3, 4], [(0, .i IntKind.i64)], [], [(4, 0, .i IntKind.i64)], [], 7⟩ .n (.w ⟨[.i, .i], [], [0, 1, 3, 4], [(0, .i IntKind.i64)], [], [(4, 0, .i IntKind.i64)], [], 7⟩ .n (.w ⟨[.i, .i], [], [0, 1, 3, 4], [(0, .i IntKind.i64)], [], [(4, 0, .i IntKind.i64)], [], 7⟩ .n (.w ⟨[.i, .i], [], [0, 1, 3, 4], [(0, .i IntKind.i64)], [], [(4, 0, .i IntKind.i64)], [], 7⟩ .n (.p (.l ⟨[.l 2, .i, .i], [0, 16], [0, 1, 3, 5, 4, 7], [(32, .h 8 5 2), (96, .i IntKind.i64)], [], [(4, 0, .i IntKind.i64)], [], 9⟩ (.c (.w ⟨[.i, .i], [], [0, 1, 3, 4], [(0, .i IntKind.i64)], [], [(4, 0, .i IntKind.i64)], [], 9⟩ .n .n) (.w ⟨[.i, .i], [], [0, 1, 3, 4], [(0, .i IntKind.i64)], [], [(4, 0, .i IntKind.i64)], [], 12⟩ .n (.w ⟨[.i, .i], [], [0, 1, 3, 4], [(0, .i IntKind.i64)], [], [(4, 0, .i IntKind.i64)], [], 12⟩ .n (.w ⟨[.i, .i], [], [0, 1, 3, 4], [(0, .i IntKind.i64)], [], [(4, 0, .i IntKind.i64)], [], 12⟩ .n (.w ⟨[.i, .i], [], [0, 1, 3, 4], [(0, .i IntKind.i64)], [], [(4, 0, .i IntKind.i64)], [], 14⟩ .n (.l ⟨[.i, .i, .i, .i, .l 7], [0, 16, 672, 48], [0, 1, 3, 5, 4, 7, 12, 11, 10, 9], [(64, .i IntKind.i64), (80, .i IntKind.i64), (688, .i IntKind.i64)], [], [(4, 0, .i IntKind.i64), (12, 11, .h 14 63 7)], [], 15⟩ (.c (.w ⟨[.i, .i], [], [0, 1, 3, 4], [(0, .i IntKind.i64)], [], [(4, 0, .i IntKind.i64)], [], 15⟩ .n (.w ⟨[.i, .i], [], [0, 1, 3, 4], [(0, .i IntKind.i64)], [], [(4, 0, .i IntKind.i64)], [], 15⟩ .n .n)) (.w ⟨[.i, .i], [], [0, 1, 3, 4], [(0, .i IntKind.i64)], [], [(4, 0, .i IntKind.i64)], [], 15⟩ .n (.l ⟨[.i, .l 10, .i], [64, 704, 96, 112], [0, 2, 5, 6, 4, 3, 16, 11, 10, 9, 1], [(720, .i IntKind.i64)], [], [(6, 15, .h 17 27 10), (4, 0, .i IntKind.i64)], [], 18⟩ (.c (.p (.l ⟨[.l 2, .i, .i], [0, 16], [0, 1, 3, 5, 4, 18], [(32, .h 19 5 2), (96, .i IntKind.i64)], [], [(4, 0, .i IntKind.i64)], [], 20⟩ (.c (.w ⟨[.i, .i], [], [0, 1, 3, 4], [(0, .i IntKind.i64)], [], [(4, 0, .i IntKind.i64)], [], 20⟩ .n .n) (.w ⟨[.i, .i], [], [0, 1, 3, 4], [(0, .i IntKind.i64)], [], [(4, 0, .i IntKind.i64)], [], 23⟩ .n (.w ⟨[.i, .i], [], [0, 1, 3, 4], [(0, .i IntKind.i64)], [], [(4, 0, .i IntKind.i64)], [], 23⟩ .n (.w ⟨[.i, .i], [], [0, 1, 3, 4], [(0, .i IntKind.i64)], [], [(4, 0, .i IntKind.i64)], [], 23⟩ .n (.w ⟨[.i, .i], [], [0, 1, 3, 4], [(0, .i IntKind.i64)], [], [(4, 0, .i IntKind.i64)], [], 25⟩ .n (.l ⟨[.i, .i, .i, .i, .l 7], [0, 16, 672, 48], [0, 1, 3, 5, 4, 18, 23, 22, 21, 20], [(64, .i IntKind.i64), (80, .i IntKind.i64), (688, .i IntKind.i64)], [], [(4, 0, .i IntKind.i64), (23, 11, .h 25 63 7)], [], 26⟩ (.c (.w ⟨[.i, .i], [], [0, 1, 3, 4], [(0, .i IntKind.i64)], [], [(4, 0, .i IntKind.i64)], [], 26⟩ .n (.w ⟨[.i, .i], [], [0, 1, 3, 4], [(0, .i IntKind.i64)], [], [(4, 0, .i IntKind.i64)], [], 26⟩ .n .n)) (.w ⟨[.i, .i], [], [0, 1, 3, 4], [(0, .i IntKind.i64)], [], [(4, 0, .i IntKind.i64)], [], 26⟩ .n .n)))))))))) .n)))))))))))))))))))) rfl (by kernel_rfl)
theorem hf17 : HF 17 Tryd.f17 := hK (by kernel_rfl)
theorem en17 : Proofs.Enters Tryd.prog 17 := mkE hf17 (by kernel_rfl) rfl
theorem hf5 : HF 5 Tryd.f5 := hK (by kernel_rfl)
def law03_Frozen (F : Nat) (a0 : List Int) : Option (Cell) :=
 join (F) (fun (x : (Int) × (Int)) => chk (InR ((1 : Int) * x.1)) (chk (InR ((0 : Int) + (1 : Int) * x.1)) (join (F) (fun (x_1 : (Int) × (Int)) => chk (InR ((0 : Int) + (1 : Int) * x.1 + x_1.1)) (join (F) (fun (x_2 : (Int) × (Int)) => chk (InR ((2 : Int) * x_2.1)) (chk (InR ((0 : Int) + (2 : Int) * x_2.1)) (join (F) (fun (x_3 : (Int) × (Int)) => chk (InR ((0 : Int) + (2 : Int) * x_2.1 + x_3.1)) (join (F) (fun (x_4 : (Int) × (Int)) => chk (InR ((1 : Int) * x_4.1)) (chk (InR ((0 : Int) + (1 : Int) * x_4.1)) (join (F) (fun (x_5 : (Int) × (Int)) => chk (InR ((0 : Int) + (1 : Int) * x_4.1 + x_5.1)) (join (F) (fun (x_6 : (Int) × (Int)) => chk (InR ((1 : Int) * x_6.1)) (chk (InR ((0 : Int) + (1 : Int) * x_6.1)) (join (F) (fun (x_7 : (Int) × (Int)) => chk (InR ((0 : Int) + (1 : Int) * x_6.1 + x_7.1)) (some (Cell.mk (Span.mk ((0 : Int) + (1 : Int) * x.1) (if (0 : Int) + (1 : Int) * x.1 + x_1.1 < 100 then (0 : Int) + (1 : Int) * x.1 + x_1.1 else (100 : Int))) (Span.mk ((0 : Int) + (2 : Int) * x_2.1) (if (0 : Int) + (2 : Int) * x_2.1 + x_3.1 < 400 then (0 : Int) + (2 : Int) * x_2.1 + x_3.1 else (400 : Int))) (Span.mk ((0 : Int) + (1 : Int) * x_4.1) (if (0 : Int) + (1 : Int) * x_4.1 + x_5.1 < 100 then (0 : Int) + (1 : Int) * x_4.1 + x_5.1 else (100 : Int))) (Span.mk ((0 : Int) + (1 : Int) * x_6.1) (if (0 : Int) + (1 : Int) * x_6.1 + x_7.1 < 3 then (0 : Int) + (1 : Int) * x_6.1 + x_7.1 else (3 : Int)))))) (fun x_7 => brk (decide (x_6.2 ≥ (↑a0.length : Int))) (x_7 (((0 : Int), x_6.2))) (chk (InR (x_6.2 + 1)) (chk (InR (x_6.2 + (1 : Int) - (1 : Int))) (chk (0 ≤ x_6.2 + (1 : Int) - (1 : Int) ∧ x_6.2 + (1 : Int) - (1 : Int) < (↑a0.length : Int)) (chk (InR (a0.getD (x_6.2 + (1 : Int) - (1 : Int)).toNat (0 : Int))) (chk (0 ≤ a0.getD (x_6.2 + (1 : Int) - (1 : Int)).toNat (0 : Int) ∧ a0.getD (x_6.2 + (1 : Int) - (1 : Int)).toNat 0 ≤ (9223372036854775807 : Int)) (x_7 ((a0.getD (x_6.2 + (1 : Int) - (1 : Int)).toNat (0 : Int) % (4 : Int), x_6.2 + 1)))))))))))) (fun x_6 => brk (decide (x_5.2 ≥ (↑a0.length : Int))) (x_6 (((0 : Int), x_5.2))) (chk (InR (x_5.2 + 1)) (chk (InR (x_5.2 + (1 : Int) - (1 : Int))) (chk (0 ≤ x_5.2 + (1 : Int) - (1 : Int) ∧ x_5.2 + (1 : Int) - (1 : Int) < (↑a0.length : Int)) (chk (InR (a0.getD (x_5.2 + (1 : Int) - (1 : Int)).toNat (0 : Int))) (chk (0 ≤ a0.getD (x_5.2 + (1 : Int) - (1 : Int)).toNat (0 : Int) ∧ a0.getD (x_5.2 + (1 : Int) - (1 : Int)).toNat 0 ≤ (9223372036854775807 : Int)) (x_6 ((a0.getD (x_5.2 + (1 : Int) - (1 : Int)).toNat (0 : Int) % IntKind.i64.wrap (IntKind.i64.wrap (IntKind.i64.wrap (Int.tdiv (3 : Int) (1 : Int)) + 1) - IntKind.i64.wrap (Int.tdiv (0 : Int) (1 : Int))), x_5.2 + 1))))))))))) (fun x_5 => brk (decide (x_4.2 ≥ (↑a0.length : Int))) (x_5 (((0 : Int), x_4.2))) (chk (InR (x_4.2 + 1)) (chk (InR (x_4.2 + (1 : Int) - (1 : Int))) (chk (0 ≤ x_4.2 + (1 : Int) - (1 : Int) ∧ x_4.2 + (1 : Int) - (1 : Int) < (↑a0.length : Int)) (chk (InR (a0.getD (x_4.2 + (1 : Int) - (1 : Int)).toNat (0 : Int))) (chk (0 ≤ a0.getD (x_4.2 + (1 : Int) - (1 : Int)).toNat (0 : Int) ∧ a0.getD (x_4.2 + (1 : Int) - (1 : Int)).toNat 0 ≤ (9223372036854775807 : Int)) (x_5 ((a0.getD (x_4.2 + (1 : Int) - (1 : Int)).toNat (0 : Int) % (20 : Int), x_4.2 + 1)))))))))))) (fun x_4 => brk (decide (x_3.2 ≥ (↑a0.length : Int))) (x_4 (((0 : Int), x_3.2))) (chk (InR (x_3.2 + 1)) (chk (InR (x_3.2 + (1 : Int) - (1 : Int))) (chk (0 ≤ x_3.2 + (1 : Int) - (1 : Int) ∧ x_3.2 + (1 : Int) - (1 : Int) < (↑a0.length : Int)) (chk (InR (a0.getD (x_3.2 + (1 : Int) - (1 : Int)).toNat (0 : Int))) (chk (0 ≤ a0.getD (x_3.2 + (1 : Int) - (1 : Int)).toNat (0 : Int) ∧ a0.getD (x_3.2 + (1 : Int) - (1 : Int)).toNat 0 ≤ (9223372036854775807 : Int)) (x_4 ((a0.getD (x_3.2 + (1 : Int) - (1 : Int)).toNat (0 : Int) % IntKind.i64.wrap (IntKind.i64.wrap (IntKind.i64.wrap (Int.tdiv (100 : Int) (1 : Int)) + 1) - IntKind.i64.wrap (Int.tdiv (0 : Int) (1 : Int))), x_3.2 + 1))))))))))) (fun x_3 => brk (decide (x_2.2 ≥ (↑a0.length : Int))) (x_3 (((0 : Int), x_2.2))) (chk (InR (x_2.2 + 1)) (chk (InR (x_2.2 + (1 : Int) - (1 : Int))) (chk (0 ≤ x_2.2 + (1 : Int) - (1 : Int) ∧ x_2.2 + (1 : Int) - (1 : Int) < (↑a0.length : Int)) (chk (InR (a0.getD (x_2.2 + (1 : Int) - (1 : Int)).toNat (0 : Int))) (chk (0 ≤ a0.getD (x_2.2 + (1 : Int) - (1 : Int)).toNat (0 : Int) ∧ a0.getD (x_2.2 + (1 : Int) - (1 : Int)).toNat 0 ≤ (9223372036854775807 : Int)) (x_3 ((a0.getD (x_2.2 + (1 : Int) - (1 : Int)).toNat (0 : Int) % (120 : Int), x_2.2 + 1)))))))))))) (fun x_2 => brk (decide (x_1.2 ≥ (↑a0.length : Int))) (x_2 (((0 : Int), x_1.2))) (chk (InR (x_1.2 + 1)) (chk (InR (x_1.2 + (1 : Int) - (1 : Int))) (chk (0 ≤ x_1.2 + (1 : Int) - (1 : Int) ∧ x_1.2 + (1 : Int) - (1 : Int) < (↑a0.length : Int)) (chk (InR (a0.getD (x_1.2 + (1 : Int) - (1 : Int)).toNat (0 : Int))) (chk (0 ≤ a0.getD (x_1.2 + (1 : Int) - (1 : Int)).toNat (0 : Int) ∧ a0.getD (x_1.2 + (1 : Int) - (1 : Int)).toNat 0 ≤ (9223372036854775807 : Int)) (x_2 ((a0.getD (x_1.2 + (1 : Int) - (1 : Int)).toNat (0 : Int) % IntKind.i64.wrap (IntKind.i64.wrap (IntKind.i64.wrap (Int.tdiv (400 : Int) (2 : Int)) + 1) - IntKind.i64.wrap (Int.tdiv (0 : Int) (2 : Int))), x_1.2 + 1))))))))))) (fun x_1 => brk (decide (x.2 ≥ (↑a0.length : Int))) (x_1 (((0 : Int), x.2))) (chk (InR (x.2 + 1)) (chk (InR (x.2 + (1 : Int) - (1 : Int))) (chk (0 ≤ x.2 + (1 : Int) - (1 : Int) ∧ x.2 + (1 : Int) - (1 : Int) < (↑a0.length : Int)) (chk (InR (a0.getD (x.2 + (1 : Int) - (1 : Int)).toNat (0 : Int))) (chk (0 ≤ a0.getD (x.2 + (1 : Int) - (1 : Int)).toNat (0 : Int) ∧ a0.getD (x.2 + (1 : Int) - (1 : Int)).toNat 0 ≤ (9223372036854775807 : Int)) (x_1 ((a0.getD (x.2 + (1 : Int) - (1 : Int)).toNat (0 : Int) % (40 : Int), x.2 + 1)))))))))))) (fun x => brk (decide ((0 : Int) ≥ (↑a0.length : Int))) (x (((0 : Int), (0 : Int)))) (chk ((0 : Int) ≤ IntKind.i64.wrap (IntKind.i64.wrap ((0 : Int) + (1 : Int)) - 1) ∧ IntKind.i64.wrap (IntKind.i64.wrap ((0 : Int) + (1 : Int)) - 1) < (↑a0.length : Int)) (chk (InR (a0.getD (IntKind.i64.wrap (IntKind.i64.wrap ((0 : Int) + (1 : Int)) - 1)).toNat (0 : Int))) (chk (0 ≤ a0.getD (IntKind.i64.wrap (IntKind.i64.wrap ((0 : Int) + (1 : Int)) - 1)).toNat (0 : Int) ∧ a0.getD (IntKind.i64.wrap (IntKind.i64.wrap ((0 : Int) + (1 : Int)) - 1)).toNat 0 ≤ (9223372036854775807 : Int)) (x ((a0.getD (IntKind.i64.wrap (IntKind.i64.wrap ((0 : Int) + (1 : Int)) - 1)).toNat (0 : Int) % IntKind.i64.wrap (IntKind.i64.wrap (IntKind.i64.wrap (Int.tdiv (100 : Int) (1 : Int)) + 1) - IntKind.i64.wrap (Int.tdiv (0 : Int) (1 : Int))), IntKind.i64.wrap ((0 : Int) + (1 : Int)))))))))
def s5 (F : Nat) : CS E.G := ⟨5, [.sl 2], [.v 15 true []], fun x => law03_Frozen F x.1⟩
theorem c5 (F : Nat) : CSok E gl (s5 F) := mkC (cx := ⟨[], [(14, Tryd.f14), (43, Tryd.f43), (17, Tryd.f17)], F, [], []⟩) hf5 (by kernel_rfl) rfl all0 ⟨(inlC hf14 en14 (inlC hf43 en43 (inlC hf17 en17 inl0))), all0⟩ (.p (.p (.w ⟨[.i, .i], [], [0, 1, 3, 4], [(0, .i IntKind.i64)], [], [(4, 0, .i IntKind.i64)], [], 7⟩ .n (.w ⟨[.i, .i], [], [0, 1, 3, 4], [(0, .i IntKind.i64)], [], [(4, 0, .i IntKind.i64)], [], 8⟩ .n (.p (.w ⟨[.i, .i], [], [0, 1, 3, 4], [(0, .i IntKind.i64)], [], [(4, 0, .i IntKind.i64)], [], 9⟩ .n (.w ⟨[.i, .i], [], [0, 1, 3, 4], [(0, .i IntKind.i64)], [], [(4, 0, .i IntKind.i64)], [], 10⟩ .n (.p (.w ⟨[.i, .i], [], [0, 1, 3, 4], [(0, .i IntKind.i64)], [], [(4, 0, .i IntKind.i64)], [], 11⟩ .n (.w ⟨[.i, .i], [], [0, 1, 3, 4], [(0, .i IntKind.i64)], [], [(4, 0, .i IntKind.i64)], [], 12⟩ .n (.p (.w ⟨[.i, .i], [], [0, 1, 3, 4], [(0, .i IntKind.i64)], [], [(4, 0, .i IntKind.i64)], [], 13⟩ .n (.w ⟨[.i, .i], [], [0, 1, 3, 4], [(0, .i IntKind.i64)], [], [(4, 0, .i IntKind.i64)], [], 14⟩ .n .n))))))))))))) rfl (by kernel_rfl)
theorem hf19 : HF 19 Tryd.f19 := hK (by kernel_rfl)
def convoy_within (F : Nat) (a0 : Int) (a1 : Int) (a2 : Int) : Option (Bool) :=
 some (decide (a0 ≥ a1) && decide (a0 ≤ a2))
def s19 (F : Nat) : CS E.G := ⟨19, [.v 0 false, .v 0 false, .v 0 false], [.v 1 false []], fun x => convoy_within F x.1 x.2.1 x.2.2.1⟩
theorem c19 (F : Nat) : CSok E gl (s19 F) := mkC (cx := ⟨[], [], F, [], []⟩) hf19 (by kernel_rfl) rfl all0 ⟨inl0, all0⟩ .n rfl (by kernel_rfl)
theorem hf67 : HF 67 Tryd.f67 := hK (by kernel_rfl)
def hull_within (F : Nat) (a0 : Int) (a1 : Int) (a2 : Int) : Option (Bool) :=
 some (decide (a0 ≥ a1) && decide (a0 ≤ a2))
def s67 (F : Nat) : CS E.G := ⟨67, [.v 0 false, .v 0 false, .v 0 false], [.v 1 false []], fun x => hull_within F x.1 x.2.1 x.2.2.1⟩
theorem c67 (F : Nat) : CSok E gl (s67 F) := mkC (cx := ⟨[], [], F, [], []⟩) hf67 (by kernel_rfl) rfl all0 ⟨inl0, all0⟩ .n rfl (by kernel_rfl)
theorem hf79 : HF 79 Tryd.f79 := hK (by kernel_rfl)
def hull_rules_1 (F : Nat) (a0 : Ship) : Option (Bool) :=
 bnd (hull_within F a0.Class (1 : Int) (6 : Int)) (fun (x : Bool) => some (x))
def s79 (F : Nat) : CS E.G := ⟨79, [.v 9 true], [.v 1 false []], fun x => hull_rules_1 F x.1⟩
theorem c79 (F : Nat) : CSok E gl (s79 F) := mkC (cx := ⟨[s67 F], [], F, [], []⟩) hf79 (by kernel_rfl) rfl (allC (c67 F) all0) ⟨inl0, all0⟩ .n rfl (by kernel_rfl)
theorem hf80 : HF 80 Tryd.f80 := hK (by kernel_rfl)
def hull_rules_2 (F : Nat) (a0 : Ship) : Option (Bool) :=
 bnd (hull_within F a0.Power (100 : Int) (100000 : Int)) (fun (x : Bool) => bnd (brk x (hull_within F a0.Draught (10 : Int) (2000 : Int)) (some false)) (fun (x_1 : Bool) => bnd (brk (x && x_1) (hull_within F a0.Tonnes (10 : Int) (500000 : Int)) (some false)) (fun (x_2 : Bool) => some (x && x_1 && x_2))))
def s80 (F : Nat) : CS E.G := ⟨80, [.v 9 true], [.v 1 false []], fun x => hull_rules_2 F x.1⟩
theorem c80 (F : Nat) : CSok E gl (s80 F) := mkC (cx := ⟨[s67 F], [], F, [], []⟩) hf80 (by kernel_rfl) rfl (allC (c67 F) all0) ⟨inl0, all0⟩ .n rfl (by kernel_rfl)
theorem hf81 : HF 81 Tryd.f81 := hK (by kernel_rfl)
def hull_rules_3 (F : Nat) (a0 : Ship) : Option (Bool) :=
 bnd (hull_within F a0.Slow (0 : Int) (20 : Int)) (fun (x : Bool) => bnd (brk x (hull_within F a0.Brash (0 : Int) (100 : Int)) (some false)) (fun (x_1 : Bool) => bnd (brk (x && x_1) (hull_within F a0.Ridge (0 : Int) (500 : Int)) (some false)) (fun (x_2 : Bool) => bnd (brk (x && x_1 && x_2) (hull_within F a0.Press (0 : Int) (5000 : Int)) (some false)) (fun (x_3 : Bool) => some (x && x_1 && x_2 && x_3)))))
def s81 (F : Nat) : CS E.G := ⟨81, [.v 9 true], [.v 1 false []], fun x => hull_rules_3 F x.1⟩
theorem c81 (F : Nat) : CSok E gl (s81 F) := mkC (cx := ⟨[s67 F], [], F, [], []⟩) hf81 (by kernel_rfl) rfl (allC (c67 F) all0) ⟨inl0, all0⟩ .n rfl (by kernel_rfl)
theorem hf66 : HF 66 Tryd.f66 := hK (by kernel_rfl)
def hull_curve (F : Nat) (a0 : List Point) : Option (Bool) :=
 bnd (hull_within F (↑a0.length : Int) (2 : Int) (8 : Int)) (fun (x : Bool) => chk ((!!x) = true → 0 ≤ (0 : Int) ∧ (0 : Int) < (↑a0.length : Int)) (brk (!x || (a0.getD (Int.toNat (0 : Int)) (Point.mk 0 0)).X != (0 : Int)) (some (false)) (loopC (fun (x_1 : Int) => fun x_2 => brk (decide (x_1 < (↑a0.length : Int))) (chk (0 ≤ x_1 ∧ x_1 < (↑a0.length : Int)) (bnd (hull_within F (a0.getD (Int.toNat x_1) (Point.mk 0 0)).X (0 : Int) (400 : Int)) (fun (x_3 : Bool) => bnd (brk (!!x_3) (hull_within F (a0.getD (Int.toNat x_1) (Point.mk 0 0)).Y (0 : Int) (20000 : Int)) (some false)) (fun (x_4 : Bool) => chk ((!(!x_3 || !x_4) && decide (x_1 > (0 : Int))) = true → InR (x_1 - 1)) (chk ((!(!x_3 || !x_4) && decide (x_1 > (0 : Int))) = true → 0 ≤ x_1 - 1 ∧ x_1 - 1 < (↑a0.length : Int)) (brk (!x_3 || !x_4 || decide (x_1 > (0 : Int)) && decide ((a0.getD (Int.toNat x_1) (Point.mk 0 0)).X ≤ (a0.getD (x_1 - 1).toNat (Point.mk 0 0)).X)) (some (false)) (chk (InR (x_1 + 1)) (x_2 (x_1 + 1))))))))) (some (true))) (F) ((0 : Int)))))
def s66 (F : Nat) : CS E.G := ⟨66, [.sl 7], [.v 1 false []], fun x => hull_curve F x.1⟩
theorem c66 (F : Nat) : CSok E gl (s66 F) := mkC (cx := ⟨[s67 F], [], F, [], []⟩) hf66 (by kernel_rfl) rfl (allC (c67 F) all0) ⟨inl0, all0⟩ (.c .n (.l ⟨[.i], [0, 256, 272], [0, 1], [(288, .i IntKind.i64)], [], [], [], 2⟩ (.c .n .n))) rfl (by kernel_rfl)
theorem hf83 : HF 83 Tryd.f83 := hK (by kernel_rfl)
def hull_steady (F : Nat) (a0 : List Point) (a1 : Int) : Option (Bool) :=
 bnd (hull_curve F a0) (fun (x : Bool) => brk (!x) (some (false)) (loopC (fun (x_1 : Int) => fun x_2 => brk (decide (x_1 < (↑a0.length : Int))) (chk (0 ≤ x_1 ∧ x_1 < (↑a0.length : Int)) (chk (InR (x_1 - 1)) (chk (0 ≤ x_1 - 1 ∧ x_1 - 1 < (↑a0.length : Int)) (chk (InR ((a0.getD (Int.toNat x_1) (Point.mk 0 0)).Y - (a0.getD (x_1 - 1).toNat (Point.mk 0 0)).Y)) (chk (InR (((a0.getD (Int.toNat x_1) (Point.mk 0 0)).Y - (a0.getD (x_1 - 1).toNat (Point.mk 0 0)).Y) * a1)) (brk (decide (((a0.getD (Int.toNat x_1) (Point.mk 0 0)).Y - (a0.getD (x_1 - 1).toNat (Point.mk 0 0)).Y) * a1 < 0)) (some (false)) (chk (InR (x_1 + 1)) (x_2 (x_1 + 1))))))))) (some (true))) (F) ((1 : Int))))
def s83 (F : Nat) : CS E.G := ⟨83, [.sl 7, .v 0 false], [.v 1 false []], fun x => hull_steady F x.1 x.2.1⟩
theorem c83 (F : Nat) : CSok E gl (s83 F) := mkC (cx := ⟨[s66 F], [], F, [], []⟩) hf83 (by kernel_rfl) rfl (allC (c66 F) all0) ⟨inl0, all0⟩ (.c .n (.l ⟨[.i], [0, 16], [0, 1], [(80, .i IntKind.i64)], [], [], [], 2⟩ (.c .n .n))) rfl (by kernel_rfl)
theorem hf84 : HF 84 Tryd.f84 := hK (by kernel_rfl)
def hull_end (F : Nat) (a0 : List Point) : Option (Int) :=
 chk (InR ((↑a0.length : Int) - (1 : Int))) (chk (0 ≤ (↑a0.length : Int) - (1 : Int) ∧ (↑a0.length : Int) - (1 : Int) < (↑a0.length : Int)) (some ((a0.getD ((↑a0.length : Int) - (1 : Int)).toNat (Point.mk 0 0)).X)))
def s84 (F : Nat) : CS E.G := ⟨84, [.sl 7], [.v 0 false []], fun x => hull_end F x.1⟩
theorem c84 (F : Nat) : CSok E gl (s84 F) := mkC (cx := ⟨[], [], F, [], []⟩) hf84 (by kernel_rfl) rfl all0 ⟨inl0, all0⟩ .n rfl (by kernel_rfl)
theorem hf82 : HF 82 Tryd.f82 := hK (by kernel_rfl)
def hull_rules_4 (F : Nat) (a0 : Ship) : Option (Bool) :=
 bnd (hull_steady F a0.Thrust (-1 : Int)) (fun (x : Bool) => bnd (brk x (hull_end F a0.Thrust) (some (0 : Int))) (fun (x_1 : Int) => bnd (brk x (hull_within F x_1 (10 : Int) (250 : Int)) (some false)) (fun (x_2 : Bool) => some (x && x_2))))
def s82 (F : Nat) : CS E.G := ⟨82, [.v 9 true], [.v 1 false []], fun x => hull_rules_4 F x.1⟩
theorem c82 (F : Nat) : CSok E gl (s82 F) := mkC (cx := ⟨[s67 F, s83 F, s84 F], [], F, [], []⟩) hf82 (by kernel_rfl) rfl (allC (c67 F) (allC (c83 F) (allC (c84 F) all0))) ⟨inl0, all0⟩ .n rfl (by kernel_rfl)
theorem hf85 : HF 85 Tryd.f85 := hK (by kernel_rfl)
def hull_rules_5 (F : Nat) (a0 : Ship) : Option (Bool) :=
 bnd (hull_steady F a0.Water (1 : Int)) (fun (x : Bool) => bnd (brk x (hull_end F a0.Water) (some (0 : Int))) (fun (x_1 : Int) => some (x && decide (x_1 ≤ 250))))
def s85 (F : Nat) : CS E.G := ⟨85, [.v 9 true], [.v 1 false []], fun x => hull_rules_5 F x.1⟩
theorem c85 (F : Nat) : CSok E gl (s85 F) := mkC (cx := ⟨[s83 F, s84 F], [], F, [], []⟩) hf85 (by kernel_rfl) rfl (allC (c83 F) (allC (c84 F) all0)) ⟨inl0, all0⟩ .n rfl (by kernel_rfl)
theorem hf86 : HF 86 Tryd.f86 := hK (by kernel_rfl)
def hull_rules_6 (F : Nat) (a0 : Ship) : Option (Bool) :=
 bnd (hull_steady F a0.Ice (1 : Int)) (fun (x : Bool) => chk (x = true → 0 ≤ (0 : Int) ∧ (0 : Int) < (↑a0.Ice.length : Int)) (bnd (brk (x && (a0.Ice.getD (Int.toNat (0 : Int)) (Point.mk 0 0)).Y == (0 : Int)) (hull_end F a0.Ice) (some (0 : Int))) (fun (x_1 : Int) => some (x && (a0.Ice.getD (Int.toNat (0 : Int)) (Point.mk 0 0)).Y == (0 : Int) && x_1 == (400 : Int)))))
def s86 (F : Nat) : CS E.G := ⟨86, [.v 9 true], [.v 1 false []], fun x => hull_rules_6 F x.1⟩
theorem c86 (F : Nat) : CSok E gl (s86 F) := mkC (cx := ⟨[s83 F, s84 F], [], F, [], []⟩) hf86 (by kernel_rfl) rfl (allC (c83 F) (allC (c84 F) all0)) ⟨inl0, all0⟩ .n rfl (by kernel_rfl)
theorem hf65 : HF 65 Tryd.f65 := hK (by kernel_rfl)
theorem en65 : Proofs.Enters Tryd.prog 65 := mkE hf65 (by kernel_rfl) rfl
theorem hf51 : HF 51 Tryd.f51 := hK (by kernel_rfl)
def hull_Check (F : Nat) (a0 : Ship) : Option (Int) :=
 bnd (hull_rules_1 F a0) (fun (x : Bool) => brk (!x) (some ((41 : Int))) (bnd (hull_rules_2 F a0) (fun (x_1 : Bool) => brk (!x_1) (some ((40 : Int))) (bnd (hull_rules_3 F a0) (fun (x_2 : Bool) => brk (!x_2) (some ((40 : Int))) (bnd (hull_rules_4 F a0) (fun (x_3 : Bool) => brk (!x_3) (some ((40 : Int))) (bnd (hull_rules_5 F a0) (fun (x_4 : Bool) => brk (!x_4) (some ((40 : Int))) (bnd (hull_rules_6 F a0) (fun (x_5 : Bool) => brk (!x_5) (some ((40 : Int))) (some ((0 : Int))))))))))))))
def s51 (F : Nat) : CS E.G := ⟨51, [.v 9 true], [.v 0 false []], fun x => hull_Check F x.1⟩
theorem c51 (F : Nat) : CSok E gl (s51 F) := mkC (cx := ⟨[s79 F, s80 F, s81 F, s82 F, s85 F, s86 F], [(65, Tryd.f65)], F, [], []⟩) hf51 (by kernel_rfl) rfl (allC (c79 F) (allC (c80 F) (allC (c81 F) (allC (c82 F) (allC (c85 F) (allC (c86 F) all0)))))) ⟨(inlC hf65 en65 inl0), all0⟩ (.p (.u 7 (.c .n (.c .n (.c .n (.c .n (.c .n .n))))))) rfl (by kernel_rfl)
theorem hf68 : HF 68 Tryd.f68 := hK (by kernel_rfl)
def hull_lowest (F : Nat) (a0 : Int) (a1 : Int) : Option (Ratio) :=
 loopC (fun (x : (Int) × (Int)) => fun x_1 => brk (x.1 != (0 : Int)) (chk ((0 ≤ x.2 ∧ x.2 ≤ 9223372036854775807) ∧ (0 : Int) < x.1) (x_1 ((x.2 % x.1, x.1)))) (chk ((0 ≤ a0 ∧ a0 ≤ 9223372036854775807) ∧ (0 : Int) < x.2) (chk ((0 ≤ a1 ∧ a1 ≤ 9223372036854775807) ∧ (0 : Int) < x.2) (some (Ratio.mk (a0 / x.2) (a1 / x.2)))))) (F) ((a1, a0))
def s68 (F : Nat) : CS E.G := ⟨68, [.v 0 false, .v 0 false], [.v 22 true []], fun x => hull_lowest F x.1 x.2.1⟩
theorem c68 (F : Nat) : CSok E gl (s68 F) := mkC (cx := ⟨[], [], F, [], []⟩) hf68 (by kernel_rfl) rfl all0 ⟨inl0, all0⟩ (.l ⟨[.i, .i], [0, 16, 64], [0, 1], [(96, .i IntKind.i64), (80, .i IntKind.i64)], [], [], [], 2⟩ .n) rfl (by kernel_rfl)
theorem hf69 : HF 69 Tryd.f69 := hK (by kernel_rfl)
def hull_value (F : Nat) (a0 : List Point) (a1 : Int) : Option (Int × Int) :=
 loopC (fun (x : Int) => fun x_1 => brk (decide (x < (↑a0.length : Int))) (chk (InR (x - 1)) (chk (0 ≤ x - 1 ∧ x - 1 < (↑a0.length : Int)) (chk (0 ≤ x ∧ x < (↑a0.length : Int)) (brk (decide (a1 ≤ (a0.getD (Int.toNat x) (Point.mk 0 0)).X)) (chk (InR ((a0.getD (Int.toNat x) (Point.mk 0 0)).X - (a0.getD (x - 1).toNat (Point.mk 0 0)).X)) (chk (InR ((a0.getD (x - 1).toNat (Point.mk 0 0)).Y * ((a0.getD (Int.toNat x) (Point.mk 0 0)).X - (a0.getD (x - 1).toNat (Point.mk 0 0)).X))) (chk (InR ((a0.getD (Int.toNat x) (Point.mk 0 0)).Y - (a0.getD (x - 1).toNat (Point.mk 0 0)).Y)) (chk (InR (a1 - (a0.getD (x - 1).toNat (Point.mk 0 0)).X)) (chk (InR (((a0.getD (Int.toNat x) (Point.mk 0 0)).Y - (a0.getD (x - 1).toNat (Point.mk 0 0)).Y) * (a1 - (a0.getD (x - 1).toNat (Point.mk 0 0)).X))) (chk (InR ((a0.getD (x - 1).toNat (Point.mk 0 0)).Y * ((a0.getD (Int.toNat x) (Point.mk 0 0)).X - (a0.getD (x - 1).toNat (Point.mk 0 0)).X) + ((a0.getD (Int.toNat x) (Point.mk 0 0)).Y - (a0.getD (x - 1).toNat (Point.mk 0 0)).Y) * (a1 - (a0.getD (x - 1).toNat (Point.mk 0 0)).X))) (chk (InR ((a0.getD (Int.toNat x) (Point.mk 0 0)).X - (a0.getD (x - 1).toNat (Point.mk 0 0)).X)) (some (((a0.getD (x - 1).toNat (Point.mk 0 0)).Y * ((a0.getD (Int.toNat x) (Point.mk 0 0)).X - (a0.getD (x - 1).toNat (Point.mk 0 0)).X) + ((a0.getD (Int.toNat x) (Point.mk 0 0)).Y - (a0.getD (x - 1).toNat (Point.mk 0 0)).Y) * (a1 - (a0.getD (x - 1).toNat (Point.mk 0 0)).X), (a0.getD (Int.toNat x) (Point.mk 0 0)).X - (a0.getD (x - 1).toNat (Point.mk 0 0)).X)))))))))) (chk (InR (x + 1)) (x_1 (x + 1))))))) (chk (InR ((↑a0.length : Int) - (1 : Int))) (chk (0 ≤ (↑a0.length : Int) - (1 : Int) ∧ (↑a0.length : Int) - (1 : Int) < (↑a0.length : Int)) (some (((a0.getD ((↑a0.length : Int) - (1 : Int)).toNat (Point.mk 0 0)).Y, (1 : Int))))))) (F) ((1 : Int))
def s69 (F : Nat) : CS E.G := ⟨69, [.sl 7, .v 0 false], [.v 0 false [], .v 0 false []], fun x => hull_value F x.1 x.2.1⟩
theorem c69 (F : Nat) : CSok E gl (s69 F) := mkC (cx := ⟨[], [], F, [], []⟩) hf69 (by kernel_rfl) rfl all0 ⟨inl0, all0⟩ (.l ⟨[.i], [0, 16], [0, 1], [(96, .i IntKind.i64)], [], [], [], 2⟩ (.c .n .n)) rfl (by kernel_rfl)
theorem hf52 : HF 52 Tryd.f52 := hK (by kernel_rfl)
def hull_At (F : Nat) (a0 : List Point) (a1 : Int) : Option (Ratio × Int) :=
 bnd (hull_curve F a0) (fun (x : Bool) => brk (!x) (some ((Ratio.mk (0 : Int) (0 : Int), (40 : Int)))) (bnd (hull_within F a1 (0 : Int) (1000 : Int)) (fun (x_1 : Bool) => brk (!x_1) (some ((Ratio.mk (0 : Int) (0 : Int), (6 : Int)))) (bnd (hull_value F a0 a1) (fun (x_2 : (Int) × (Int)) => bnd (hull_lowest F x_2.1 x_2.2) (fun (x_3 : Ratio) => some ((x_3, (0 : Int)))))))))
def s52 (F : Nat) : CS E.G := ⟨52, [.sl 7, .v 0 false], [.v 22 true [], .v 0 false []], fun x => hull_At F x.1 x.2.1⟩
theorem c52 (F : Nat) : CSok E gl (s52 F) := mkC (cx := ⟨[s66 F, s67 F, s68 F, s69 F], [], F, [], []⟩) hf52 (by kernel_rfl) rfl (allC (c66 F) (allC (c67 F) (allC (c68 F) (allC (c69 F) all0)))) ⟨inl0, all0⟩ (.c .n .n) rfl (by kernel_rfl)
theorem hf53 : HF 53 Tryd.f53 := hK (by kernel_rfl)
def convoy_top (F : Nat) (a0 : List Point) : Option (Int) :=
 chk (InR ((↑a0.length : Int) - (1 : Int))) (chk (0 ≤ (↑a0.length : Int) - (1 : Int) ∧ (↑a0.length : Int) - (1 : Int) < (↑a0.length : Int)) (some ((a0.getD ((↑a0.length : Int) - (1 : Int)).toNat (Point.mk 0 0)).X)))
def s53 (F : Nat) : CS E.G := ⟨53, [.sl 7], [.v 0 false []], fun x => convoy_top F x.1⟩
theorem c53 (F : Nat) : CSok E gl (s53 F) := mkC (cx := ⟨[], [], F, [], []⟩) hf53 (by kernel_rfl) rfl all0 ⟨inl0, all0⟩ .n rfl (by kernel_rfl)
theorem hf54 : HF 54 Tryd.f54 := hK (by kernel_rfl)
theorem en54 : Proofs.Enters Tryd.prog 54 := mkE hf54 (by kernel_rfl) rfl
theorem hf55 : HF 55 Tryd.f55 := hK (by kernel_rfl)
def convoy_right_1 (F : Nat) (a0 : Point) (a1 : Point) : Option (Int) :=
 chk (InR (a0.Y - a1.Y)) (some (a0.Y - a1.Y))
def s55 (F : Nat) : CS E.G := ⟨55, [.v 7 true, .v 7 true], [.v 0 false []], fun x => convoy_right_1 F x.1 x.2.1⟩
theorem c55 (F : Nat) : CSok E gl (s55 F) := mkC (cx := ⟨[], [], F, [], []⟩) hf55 (by kernel_rfl) rfl all0 ⟨inl0, all0⟩ .n rfl (by kernel_rfl)
theorem hf31 : HF 31 Tryd.f31 := hK (by kernel_rfl)
def convoy_right (F : Nat) (a0 : Member) : Option (Int) :=
 bnd (hull_Check F a0.Ship) (fun (x : Int) => brk (x != (0 : Int)) (some (x)) (bnd (convoy_within F a0.Length (10 : Int) (500 : Int)) (fun (x_1 : Bool) => bnd (brk (!!x_1) (convoy_within F a0.Delay (0 : Int) (600 : Int)) (some false)) (fun (x_2 : Bool) => bnd (brk (!(!x_1 || !x_2)) (convoy_within F a0.Short (0 : Int) (20000 : Int)) (some false)) (fun (x_3 : Bool) => brk (!x_1 || !x_2 || !x_3) (some ((60 : Int))) (bnd (hull_At F a0.Stop (0 : Int)) (fun (x_4 : (Ratio) × (Int)) => chk ((!x_4.2 != (0 : Int)) = true → 0 ≤ (0 : Int) ∧ (0 : Int) < (↑a0.Stop.length : Int)) (bnd (brk (!(x_4.2 != (0 : Int) || (a0.Stop.getD (Int.toNat (0 : Int)) (Point.mk 0 0)).Y != (0 : Int))) (convoy_top F a0.Stop) (some (0 : Int))) (fun (x_5 : Int) => bnd (brk (!(x_4.2 != (0 : Int) || (a0.Stop.getD (Int.toNat (0 : Int)) (Point.mk 0 0)).Y != (0 : Int))) (convoy_top F a0.Ship.Thrust) (some (0 : Int))) (fun (x_6 : Int) => brk (x_4.2 != (0 : Int) || (a0.Stop.getD (Int.toNat (0 : Int)) (Point.mk 0 0)).Y != (0 : Int) || decide (x_5 < x_6)) (some ((60 : Int))) (join (F) (fun (x_7 : Bool) => brk (!x_7) (some ((60 : Int))) (some ((0 : Int)))) (fun x_7 => chk (InR ((↑a0.Stop.length : Int) - (1 : Int))) (loopC (fun (x_8 : Int) => fun x_9 => brk (decide (x_8 > (0 : Int))) (chk (0 ≤ x_8 ∧ x_8 < (↑a0.Stop.length : Int)) (chk (InR (x_8 - 1)) (chk (0 ≤ x_8 - 1 ∧ x_8 - 1 < (↑a0.Stop.length : Int)) (bnd (convoy_right_1 F (a0.Stop.getD (Int.toNat x_8) (Point.mk 0 0)) (a0.Stop.getD (x_8 - 1).toNat (Point.mk 0 0))) (fun (x_10 : Int) => brk (decide (x_10 < 0)) (x_7 (false)) (chk (InR (x_8 - 1)) (x_9 (x_8 - 1)))))))) (x_7 (true))) (F) ((↑a0.Stop.length : Int) - (1 : Int)))))))))))))))
def s31 (F : Nat) : CS E.G := ⟨31, [.v 10 true], [.v 0 false []], fun x => convoy_right F x.1⟩
theorem c31 (F : Nat) : CSok E gl (s31 F) := mkC (cx := ⟨[s19 F, s51 F, s52 F, s53 F, s55 F], [(54, Tryd.f54)], F, [], []⟩) hf31 (by kernel_rfl) rfl (allC (c19 F) (allC (c51 F) (allC (c52 F) (allC (c53 F) (allC (c55 F) all0))))) ⟨(inlC hf54 en54 inl0), all0⟩ (.c .n (.c .n (.c .n (.w ⟨[.b], [], [0, 4], [(0, .b)], [], [], [], 7⟩ (.l ⟨[.i], [0, 16], [0, 4], [(80, .i IntKind.i64)], [], [], [], 7⟩ (.c .n .n)) .n)))) rfl (by kernel_rfl)
theorem hf44 : HF 44 Tryd.f44 := hK (by kernel_rfl)
theorem en44 : Proofs.Enters Tryd.prog 44 := mkE hf44 (by kernel_rfl) rfl
theorem hf18 : HF 18 Tryd.f18 := hK (by kernel_rfl)
def convoy_Check (F : Nat) (a0 : Convoy) : Option (Int) :=
 brk (decide ((↑a0.Ships.length : Int) > (6 : Int))) (some ((2 : Int))) (chk ([a0.Breaker].length + a0.Ships.length ≤ (1000000000 : Nat)) (loopC (fun (x : Int) => fun x_1 => brk (decide (x < (↑([a0.Breaker] ++ a0.Ships).length : Int))) (chk (0 ≤ x ∧ x < (↑([a0.Breaker] ++ a0.Ships).length : Int)) (bnd (convoy_right F (([a0.Breaker] ++ a0.Ships).getD (Int.toNat x) (Member.mk (Ship.mk 0 0 0 0 [] [] [] 0 0 0 0) [] (0 : Int) (0 : Int) (0 : Int)))) (fun (x_2 : Int) => brk (x_2 != (0 : Int)) (some (x_2)) (chk (InR (x + 1)) (x_1 (x + 1)))))) (bnd (convoy_within F a0.Clear (0 : Int) (2000 : Int)) (fun (x_2 : Bool) => brk (!x_2) (some ((61 : Int))) (loopC (fun (x_3 : (Int) × (Int)) => fun x_4 => brk (decide (x_3.2 < 4)) (chk (0 ≤ x_3.2 ∧ x_3.2 < (↑(4 : Nat) : Int)) (bnd (convoy_within F ([a0.Close.a0, a0.Close.a1, a0.Close.a2, a0.Close.a3].getD (Int.toNat x_3.2) 0) (0 : Int) x_3.1) (fun (x_5 : Bool) => brk (!x_5) (some ((61 : Int))) (chk (InR (x_3.2 + 1)) (x_4 (([a0.Close.a0, a0.Close.a1, a0.Close.a2, a0.Close.a3].getD (Int.toNat x_3.2) 0, x_3.2 + 1))))))) (some ((0 : Int)))) (F) (((1440 : Int), (0 : Int))))))) (F) ((0 : Int))))
def s18 (F : Nat) : CS E.G := ⟨18, [.v 13 true], [.v 0 false []], fun x => convoy_Check F x.1⟩
theorem c18 (F : Nat) : CSok E gl (s18 F) := mkC (cx := ⟨[s19 F, s31 F], [(44, Tryd.f44)], F, [], []⟩) hf18 (by kernel_rfl) rfl (allC (c19 F) (allC (c31 F) all0)) ⟨(inlC hf44 en44 inl0), all0⟩ (.c .n (.p (.l ⟨[.i], [16, 224, 208], [0, 6, 8, 5, 4, 3, 2, 1], [(240, .i IntKind.i64)], [], [], [], 9⟩ (.c .n (.c .n (.l ⟨[.i, .i], [480], [0], [(96, .i IntKind.i64), (496, .i IntKind.i64)], [], [], [], 9⟩ (.c .n .n))))))) rfl (by kernel_rfl)
theorem hf58 : HF 58 Tryd.f58 := hK (by kernel_rfl)
theorem en58 : Proofs.Enters Tryd.prog 58 := mkE hf58 (by kernel_rfl) rfl
def slices_Clone_hull_Point (F : Nat) (a0 : List Point) : Option ((List Point)) :=
 chk ((0 : Nat) + a0.length ≤ (1000000000 : Nat)) (some ([] ++ a0))
def s58 (F : Nat) : CS E.G := ⟨58, [.sl 7], [.sl 7 63], fun x => slices_Clone_hull_Point F x.1⟩
def cx58 (F : Nat) : Ctx E := ⟨[], [], F, [], []⟩
def h58 : Hint := .n
theorem e58n (F : Nat) (c : Nat) : fnK (E := E) (cx58 F) Tryd.f58 gl [.nl] [.sl 7 63] .n (c, ()) = some ([]) := by kernel_rfl
theorem e58s (F : Nat) (a0 : List Point) : fnK (E := E) (cx58 F) Tryd.f58 gl [.sn 7] [.sl 7 63] h58 (a0, ()) = slices_Clone_hull_Point F a0 := by kernel_rfl
theorem c58 (F : Nat) : CSok E gl (s58 F) := ⟨en58, by
 have h0 := fn_sound (E := E) (gl := gl) (cx := cx58 F) mix all0 ⟨inl0, all0⟩ keys0 gl_up gl_lt hf58 (ps := [.nl]) (rs := [.sl 7 63]) (by decide) .n
 have h1 := fn_sound (E := E) (gl := gl) (cx := cx58 F) mix all0 ⟨inl0, all0⟩ keys0 gl_up gl_lt hf58 (ps := [.sn 7]) (rs := [.sl 7 63]) (by decide) h58
 rw [show fnK (E := E) (cx58 F) Tryd.f58 gl [.nl] [.sl 7 63] .n = (fun x : AT E.G.car [.nl] => some ([])) from funext fun x => e58n F x.1] at h0
 rw [show fnK (E := E) (cx58 F) Tryd.f58 gl [.sn 7] [.sl 7 63] h58 = (fun x : AT E.G.car [.sn 7] => slices_Clone_hull_Point F x.1) from funext fun x => e58s F x.1] at h1
 exact contract_nil (E := E) (t := 7) (rs := [.sl 7 63]) (f := slices_Clone_hull_Point F) (f0 := fun _ => some ([])) (f1 := slices_Clone_hull_Point F) h0 h1 (fun _ _ h => (show slices_Clone_hull_Point F [] = some [] by kernel_rfl).symm.trans h) (fun _ _ h => h)⟩
theorem hf33 : HF 33 Tryd.f33 := hK (by kernel_rfl)
def convoy_Member_own (F : Nat) (a0 : Member) : Option (Member) :=
 bnd (slices_Clone_hull_Point F a0.Stop) (fun (x : List (Point)) => bnd (slices_Clone_hull_Point F a0.Ship.Thrust) (fun (x_1 : List (Point)) => bnd (slices_Clone_hull_Point F a0.Ship.Water) (fun (x_2 : List (Point)) => bnd (slices_Clone_hull_Point F a0.Ship.Ice) (fun (x_3 : List (Point)) => some (Member.mk (Ship.mk a0.Ship.Class a0.Ship.Power a0.Ship.Draught a0.Ship.Tonnes x_1 x_2 x_3 a0.Ship.Slow a0.Ship.Brash a0.Ship.Ridge a0.Ship.Press) x a0.Length a0.Delay a0.Short)))))
def s33 (F : Nat) : CS E.G := ⟨33, [.v 10 true], [.v 10 true [63, 63, 63, 63]], fun x => convoy_Member_own F x.1⟩
theorem c33 (F : Nat) : CSok E gl (s33 F) := mkC (cx := ⟨[s58 F], [], F, [], []⟩) hf33 (by kernel_rfl) rfl (allC (c58 F) all0) ⟨inl0, all0⟩ .n rfl (by kernel_rfl)
theorem hf20 : HF 20 Tryd.f20 := hK (by kernel_rfl)
theorem en20 : Proofs.Enters Tryd.prog 20 := mkE hf20 (by kernel_rfl) rfl
theorem hf21 : HF 21 Tryd.f21 := hK (by kernel_rfl)
theorem en21 : Proofs.Enters Tryd.prog 21 := mkE hf21 (by kernel_rfl) rfl
theorem hf22 : HF 22 Tryd.f22 := hK (by kernel_rfl)
def convoy_numbers (F : Nat) (a0 : Int) : Option ((List Int)) :=
 chk (0 ≤ a0 ∧ a0 ≤ a0 ∧ a0 ≤ 100000) (loopC (fun (x : (Int) × (List (Int))) => fun x_1 => brk (decide (x.1 < (↑(List.replicate a0.toNat (0 : Int)).length : Int))) (chk (0 ≤ x.1 ∧ x.1 < (↑(List.length x.2) : Int)) (chk (InR (x.1 + 1)) (x_1 ((x.1 + 1, List.set x.2 (Int.toNat x.1) x.1))))) (some (x.2))) (F) (((0 : Int), List.replicate a0.toNat (0 : Int))))
def s22 (F : Nat) : CS E.G := ⟨22, [.v 0 false], [.sl 0 3], fun x => convoy_numbers F x.1⟩
theorem c22 (F : Nat) : CSok E gl (s22 F) := mkC (cx := ⟨[], [], F, [], []⟩) hf22 (by kernel_rfl) rfl all0 ⟨inl0, all0⟩ (.l ⟨[.i, .l 0], [128, 48], [0, 1], [(144, .i IntKind.i64)], [], [], [(1, 3, 0)], 2⟩ .n) rfl (by kernel_rfl)
theorem hf6 : HF 6 Tryd.f6 := hK (by kernel_rfl)
def convoy_Leave (F : Nat) (a0 : Convoy) (a1 : Int) : Option (Convoy × Int) :=
 bnd (convoy_Check F a0) (fun (x : Int) => brk (x != (0 : Int)) (some ((Convoy.mk (Member.mk (Ship.mk 0 0 0 0 [] [] [] 0 0 0 0) [] (0 : Int) (0 : Int) (0 : Int)) [] (0 : Int) (Numbers.mk 0 0 0 0), x))) (chk (InR ((↑a0.Ships.length : Int) - (1 : Int))) (bnd (convoy_within F a1 (0 : Int) ((↑a0.Ships.length : Int) - (1 : Int))) (fun (x_1 : Bool) => brk (!x_1) (some ((Convoy.mk (Member.mk (Ship.mk 0 0 0 0 [] [] [] 0 0 0 0) [] (0 : Int) (0 : Int) (0 : Int)) [] (0 : Int) (Numbers.mk 0 0 0 0), (1 : Int)))) (bnd (convoy_numbers F (↑a0.Ships.length : Int)) (fun (x_2 : List (Int)) => chk (InR (a1 + 1)) (chk (0 ≤ a1 ∧ a1 ≤ a1 + 1 ∧ a1 + 1 ≤ (↑(List.length x_2) : Int) ∧ (↑(List.length x_2) : Int) ≤ (↑(List.length x_2) : Int)) (brk (a1 == a1 + 1) (bnd (convoy_Member_own F a0.Breaker) (fun (x_3 : Member) => loopC (fun (x_4 : (Int) × (List (Member))) => fun x_5 => brk (decide (x_4.1 < (↑(List.length x_2) : Int))) (chk (0 ≤ x_4.1 ∧ x_4.1 < (↑(List.length x_2) : Int)) (chk ((0 : Int) ≤ List.getD x_2 (Int.toNat x_4.1) (0 : Int) ∧ List.getD x_2 (Int.toNat x_4.1) (0 : Int) < (↑a0.Ships.length : Int)) (bnd (convoy_Member_own F (a0.Ships.getD (Int.toNat (List.getD x_2 (Int.toNat x_4.1) (0 : Int))) (Member.mk (Ship.mk 0 0 0 0 [] [] [] 0 0 0 0) [] (0 : Int) (0 : Int) (0 : Int)))) (fun (x_6 : Member) => chk (List.length x_4.2 + [x_6].length ≤ (1000000000 : Nat)) (chk (InR (x_4.1 + 1)) (x_5 ((x_4.1 + 1, x_4.2 ++ [x_6])))))))) (some ((Convoy.mk x_3 x_4.2 a0.Clear a0.Close, (0 : Int))))) (F) (((0 : Int), [])))) (chk (0 ≤ (0 : Int) ∧ 0 ≤ a1 ∧ a1 ≤ (↑(List.length x_2) : Int)) (chk (0 ≤ a1 + 1 ∧ a1 + 1 ≤ (↑(List.length x_2) : Int) ∧ (↑(List.length x_2) : Int) ≤ (↑(List.length x_2) : Int)) (chk ((0 : Int) + (a1 - 0) + (↑(List.take ((↑(List.length x_2) : Int) - (a1 + 1)).toNat (List.drop (a1 + 1).toNat x_2)).length : Int) ≤ (↑(List.length x_2) : Int)) (chk ((0 : Int) = (0 : Int) ∧ 0 ≤ a1 - (0 : Int) + (↑(List.take ((↑(List.length x_2) : Int) - (a1 + 1)).toNat (List.drop (a1 + 1).toNat x_2)).length : Int) ∧ a1 - (0 : Int) + (↑(List.take ((↑(List.length x_2) : Int) - (a1 + 1)).toNat (List.drop (a1 + 1).toNat x_2)).length : Int) ≤ (↑(List.length x_2) : Int) ∧ (↑(List.length x_2) : Int) ≤ (↑(copyL x_2 ((0 : Int) + (a1 - 0)).toNat (List.take ((↑(List.length x_2) : Int) - (a1 + 1)).toNat (List.drop (a1 + 1).toNat x_2))).length : Int)) (bnd (convoy_Member_own F a0.Breaker) (fun (x_3 : Member) => loopC (fun (x_4 : (Int) × (List (Member))) => fun x_5 => brk (decide (x_4.1 < a1 - (0 : Int) + (↑(List.take ((↑(List.length x_2) : Int) - (a1 + 1)).toNat (List.drop (a1 + 1).toNat x_2)).length : Int))) (chk (0 ≤ x_4.1 ∧ x_4.1 < a1 - (0 : Int) + (↑(List.take ((↑(List.length x_2) : Int) - (a1 + 1)).toNat (List.drop (a1 + 1).toNat x_2)).length : Int)) (chk (0 ≤ (clearL (copyL x_2 ((0 : Int) + (a1 - 0)).toNat (List.take ((↑(List.length x_2) : Int) - (a1 + 1)).toNat (List.drop (a1 + 1).toNat x_2))) (a1 - (0 : Int) + (↑(List.take ((↑(List.length x_2) : Int) - (a1 + 1)).toNat (List.drop (a1 + 1).toNat x_2)).length : Int)).toNat ((↑(List.length x_2) : Int) - (a1 - (0 : Int) + (↑(List.take ((↑(List.length x_2) : Int) - (a1 + 1)).toNat (List.drop (a1 + 1).toNat x_2)).length : Int))).toNat (0 : Int)).getD ((0 : Int) + x_4.1).toNat (0 : Int) ∧ (clearL (copyL x_2 ((0 : Int) + (a1 - 0)).toNat (List.take ((↑(List.length x_2) : Int) - (a1 + 1)).toNat (List.drop (a1 + 1).toNat x_2))) (a1 - (0 : Int) + (↑(List.take ((↑(List.length x_2) : Int) - (a1 + 1)).toNat (List.drop (a1 + 1).toNat x_2)).length : Int)).toNat ((↑(List.length x_2) : Int) - (a1 - (0 : Int) + (↑(List.take ((↑(List.length x_2) : Int) - (a1 + 1)).toNat (List.drop (a1 + 1).toNat x_2)).length : Int))).toNat (0 : Int)).getD ((0 : Int) + x_4.1).toNat (0 : Int) < (↑a0.Ships.length : Int)) (bnd (convoy_Member_own F (a0.Ships.getD (Int.toNat ((clearL (copyL x_2 ((0 : Int) + (a1 - 0)).toNat (List.take ((↑(List.length x_2) : Int) - (a1 + 1)).toNat (List.drop (a1 + 1).toNat x_2))) (a1 - (0 : Int) + (↑(List.take ((↑(List.length x_2) : Int) - (a1 + 1)).toNat (List.drop (a1 + 1).toNat x_2)).length : Int)).toNat ((↑(List.length x_2) : Int) - (a1 - (0 : Int) + (↑(List.take ((↑(List.length x_2) : Int) - (a1 + 1)).toNat (List.drop (a1 + 1).toNat x_2)).length : Int))).toNat (0 : Int)).getD ((0 : Int) + x_4.1).toNat (0 : Int))) (Member.mk (Ship.mk 0 0 0 0 [] [] [] 0 0 0 0) [] (0 : Int) (0 : Int) (0 : Int)))) (fun (x_6 : Member) => chk (List.length x_4.2 + [x_6].length ≤ (1000000000 : Nat)) (chk (InR (x_4.1 + 1)) (x_5 ((x_4.1 + 1, x_4.2 ++ [x_6])))))))) (some ((Convoy.mk x_3 x_4.2 a0.Clear a0.Close, (0 : Int))))) (F) (((0 : Int), []))))))))))))))))
def s6 (F : Nat) : CS E.G := ⟨6, [.v 13 true, .v 0 false], [.v 13 true [63, 63, 63, 63, 27], .v 0 false []], fun x => convoy_Leave F x.1 x.2.1⟩
theorem c6 (F : Nat) : CSok E gl (s6 F) := mkC (cx := ⟨[s18 F, s19 F, s33 F, s22 F], [(20, Tryd.f20), (21, Tryd.f21)], F, [], []⟩) hf6 (by kernel_rfl) rfl (allC (c18 F) (allC (c19 F) (allC (c33 F) (allC (c22 F) all0)))) ⟨(inlC hf20 en20 (inlC hf21 en21 inl0)), all0⟩ (.c .n (.c .n (.p (.c (.p (.l ⟨[.i, .l 10], [0, 64, 288, 80, 304], [0, 1, 3, 5, 2, 4, 8, 6, 9, 10, 14, 13, 12, 11], [(320, .i IntKind.i64)], [], [(10, 15, .h 15 27 10)], [], 16⟩ .n)) (.p (.l ⟨[.i, .l 10], [0, 64, 288, 80, 304], [0, 1, 3, 5, 2, 4, 8, 6, 9, 10, 14, 13, 12, 11], [(320, .i IntKind.i64)], [], [(10, 15, .h 15 27 10)], [], 16⟩ .n)))))) rfl (by kernel_rfl)
theorem hf40 : HF 40 Tryd.f40 := hK (by kernel_rfl)
def convoy_asked (F : Nat) (a0 : Convoy) (a1 : Int) : Option (Int) :=
 bnd (convoy_Check F a0) (fun (x : Int) => brk (x != (0 : Int)) (some (x)) (bnd (convoy_within F a1 (0 : Int) (250 : Int)) (fun (x_1 : Bool) => brk (!x_1) (some ((6 : Int))) (some ((0 : Int))))))
def s40 (F : Nat) : CS E.G := ⟨40, [.v 13 true, .v 0 false], [.v 0 false []], fun x => convoy_asked F x.1 x.2.1⟩
theorem c40 (F : Nat) : CSok E gl (s40 F) := mkC (cx := ⟨[s18 F, s19 F], [], F, [], []⟩) hf40 (by kernel_rfl) rfl (allC (c18 F) (allC (c19 F) all0)) ⟨inl0, all0⟩ (.c .n .n) rfl (by kernel_rfl)
theorem hf47 : HF 47 Tryd.f47 := hK (by kernel_rfl)
def convoy_way (F : Nat) (a0 : Int) (a1 : Int) : Option (Int × Int) :=
 chk (InR ((463 : Int) * a0)) (chk (InR ((463 : Int) * a0 * a1)) (chk (0 ≤ (463 : Int) * a0 * a1 ∧ (463 : Int) * a0 * a1 ≤ 9223372036854775807) (chk (InR ((463 : Int) * a0 * a1 + 8999)) (chk (0 ≤ (463 : Int) * a0 * a1 + 8999 ∧ (463 : Int) * a0 * a1 + 8999 ≤ (9223372036854775807 : Int)) (some (((463 : Int) * a0 * a1 / (9000 : Int), ((463 : Int) * a0 * a1 + 8999) / (9000 : Int))))))))
def s47 (F : Nat) : CS E.G := ⟨47, [.v 0 false, .v 0 false], [.v 0 false [], .v 0 false []], fun x => convoy_way F x.1 x.2.1⟩
theorem c47 (F : Nat) : CSok E gl (s47 F) := mkC (cx := ⟨[], [], F, [], []⟩) hf47 (by kernel_rfl) rfl all0 ⟨inl0, all0⟩ .n rfl (by kernel_rfl)
theorem hf48 : HF 48 Tryd.f48 := hK (by kernel_rfl)
def convoy_Member_halt (F : Nat) (a0 : Member) (a1 : Int) : Option (Span) :=
 bnd (hull_At F a0.Stop a1) (fun (x : (Ratio) × (Int)) => bnd (convoy_way F a1 a0.Delay) (fun (x_1 : (Int) × (Int)) => chk ((0 ≤ x.1.N ∧ x.1.N ≤ 9223372036854775807) ∧ (0 : Int) < x.1.D) (chk (InR (x.1.N + x.1.D)) (chk (InR (x.1.N + x.1.D - 1)) (chk ((0 ≤ x.1.N + x.1.D - 1 ∧ x.1.N + x.1.D - 1 ≤ (9223372036854775807 : Int)) ∧ (0 : Int) < x.1.D) (chk (InR (x_1.2 + (x.1.N + x.1.D - 1) / x.1.D)) (some (Span.mk (if x.1.N / x.1.D < a0.Short then x.1.N / x.1.D else a0.Short) (x_1.2 + (x.1.N + x.1.D - 1) / x.1.D)))))))))
def s48 (F : Nat) : CS E.G := ⟨48, [.v 10 true, .v 0 false], [.v 14 true []], fun x => convoy_Member_halt F x.1 x.2.1⟩
theorem c48 (F : Nat) : CSok E gl (s48 F) := mkC (cx := ⟨[s47 F, s52 F], [], F, [], []⟩) hf48 (by kernel_rfl) rfl (allC (c47 F) (allC (c52 F) all0)) ⟨inl0, all0⟩ .n rfl (by kernel_rfl)
theorem hf49 : HF 49 Tryd.f49 := hK (by kernel_rfl)
theorem en49 : Proofs.Enters Tryd.prog 49 := mkE hf49 (by kernel_rfl) rfl
theorem hf41 : HF 41 Tryd.f41 := hK (by kernel_rfl)
theorem en41 : Proofs.Enters Tryd.prog 41 := mkE hf41 (by kernel_rfl) rfl
theorem hf12 : HF 12 Tryd.f12 := hK (by kernel_rfl)
def convoy_Tail (F : Nat) (a0 : Convoy) (a1 : Int) : Option (Int × Int) :=
 bnd (convoy_asked F a0 a1) (fun (x : Int) => brk (x != (0 : Int)) (some (((0 : Int), x))) (bnd (convoy_Member_halt F a0.Breaker a1) (fun (x_1 : Span) => loopC (fun (x_2 : (Int) × ((List (Int)) × ((Int) × (Int)))) => fun x_3 => brk (decide (x_2.1 < (↑a0.Ships.length : Int))) (chk (0 ≤ x_2.1 ∧ x_2.1 < (↑a0.Ships.length : Int)) (bnd (convoy_Member_halt F (a0.Ships.getD (Int.toNat x_2.1) (Member.mk (Ship.mk 0 0 0 0 [] [] [] 0 0 0 0) [] (0 : Int) (0 : Int) (0 : Int))) a1) (fun (x_4 : Span) => chk (InR (x_4.Hi - x_2.2.2.2)) (chk (InR (a0.Clear + if x_4.Hi - x_2.2.2.2 > (0 : Int) then x_4.Hi - x_2.2.2.2 else (0 : Int))) (chk (List.length x_2.2.1 + [a0.Clear + if x_4.Hi - x_2.2.2.2 > (0 : Int) then x_4.Hi - x_2.2.2.2 else (0 : Int)].length ≤ (1000000000 : Nat)) (chk (InR (x_2.1 + 1)) (x_3 ((x_2.1 + 1, x_2.2.1 ++ [a0.Clear + if x_4.Hi - x_2.2.2.2 > (0 : Int) then x_4.Hi - x_2.2.2.2 else (0 : Int)], x_4.Hi, x_4.Lo))))))))) (loopC (fun (x_4 : (Int) × (Int)) => fun x_5 => brk (decide (x_4.2 < (↑(List.length x_2.2.1) : Int))) (chk (0 ≤ x_4.2 ∧ x_4.2 < (↑(List.length x_2.2.1) : Int)) (chk (0 ≤ x_4.2 ∧ x_4.2 < (↑a0.Ships.length : Int)) (chk (InR (List.getD x_2.2.1 (Int.toNat x_4.2) (0 : Int) + (a0.Ships.getD (Int.toNat x_4.2) (Member.mk (Ship.mk 0 0 0 0 [] [] [] 0 0 0 0) [] (0 : Int) (0 : Int) (0 : Int))).Length)) (chk (InR (x_4.1 + (List.getD x_2.2.1 (Int.toNat x_4.2) (0 : Int) + (a0.Ships.getD (Int.toNat x_4.2) (Member.mk (Ship.mk 0 0 0 0 [] [] [] 0 0 0 0) [] (0 : Int) (0 : Int) (0 : Int))).Length))) (chk (InR (x_4.2 + 1)) (x_5 ((x_4.1 + (List.getD x_2.2.1 (Int.toNat x_4.2) (0 : Int) + (a0.Ships.getD (Int.toNat x_4.2) (Member.mk (Ship.mk 0 0 0 0 [] [] [] 0 0 0 0) [] (0 : Int) (0 : Int) (0 : Int))).Length), x_4.2 + 1)))))))) (some ((x_4.1, (0 : Int))))) (F) (((0 : Int), (0 : Int))))) (F) (((0 : Int), [], x_1.Hi, x_1.Lo)))))
def s12 (F : Nat) : CS E.G := ⟨12, [.v 13 true, .v 0 false], [.v 0 false [], .v 0 false []], fun x => convoy_Tail F x.1 x.2.1⟩
theorem c12 (F : Nat) : CSok E gl (s12 F) := mkC (cx := ⟨[s40 F, s48 F], [(41, Tryd.f41), (49, Tryd.f49)], F, [], []⟩) hf12 (by kernel_rfl) rfl (allC (c40 F) (allC (c48 F) all0)) ⟨(inlC hf41 en41 (inlC hf49 en49 inl0)), all0⟩ (.c .n (.p (.p (.l ⟨[.i, .l 0, .i, .i], [16, 64, 320, 336], [0, 1, 3, 5, 2, 4, 6, 8, 9], [(352, .i IntKind.i64), (48, .h 10 3 0)], [], [(9, 1, .i IntKind.i64), (9, 0, .i IntKind.i64)], [], 11⟩ (.c .n (.l ⟨[.i, .i], [16, 128, 112], [0, 1, 3, 5, 2, 4, 6, 7, 10], [(48, .i IntKind.i64), (144, .i IntKind.i64)], [], [], [], 11⟩ .n)))))) rfl (by kernel_rfl)
theorem hf72 : HF 72 Tryd.f72 := hK (by kernel_rfl)
def ice_Cell_spans (F : Nat) (a0 : Cell) : Option (Spans) :=
 some (Spans.mk a0.Conc a0.Thick a0.Ridge a0.Press)
def s72 (F : Nat) : CS E.G := ⟨72, [.v 15 true], [.v 23 true []], fun x => ice_Cell_spans F x.1⟩
theorem c72 (F : Nat) : CSok E gl (s72 F) := mkC (cx := ⟨[], [], F, [], []⟩) hf72 (by kernel_rfl) rfl all0 ⟨inl0, all0⟩ .n rfl (by kernel_rfl)
theorem hf88 : HF 88 Tryd.f88 := hK (by kernel_rfl)
def ice_most (F : Nat) : Option (Numbers) :=
 some (Numbers.mk 100 400 100 3)
def s88 (F : Nat) : CS E.G := ⟨88, [], [.v 12 true []], fun x => ice_most F⟩
theorem c88 (F : Nat) : CSok E gl (s88 F) := mkC (cx := ⟨[], [], F, [], []⟩) hf88 (by kernel_rfl) rfl all0 ⟨inl0, all0⟩ .n rfl (by kernel_rfl)
theorem hf73 : HF 73 Tryd.f73 := hK (by kernel_rfl)
theorem en73 : Proofs.Enters Tryd.prog 73 := mkE hf73 (by kernel_rfl) rfl
theorem hf89 : HF 89 Tryd.f89 := hK (by kernel_rfl)
def ice_in (F : Nat) (a0 : Int) (a1 : Int) (a2 : Int) : Option (Bool) :=
 some (decide (a0 ≥ a1) && decide (a0 ≤ a2))
def s89 (F : Nat) : CS E.G := ⟨89, [.v 0 false, .v 0 false, .v 0 false], [.v 1 false []], fun x => ice_in F x.1 x.2.1 x.2.2.1⟩
theorem c89 (F : Nat) : CSok E gl (s89 F) := mkC (cx := ⟨[], [], F, [], []⟩) hf89 (by kernel_rfl) rfl all0 ⟨inl0, all0⟩ .n rfl (by kernel_rfl)
theorem hf75 : HF 75 Tryd.f75 := hK (by kernel_rfl)
def ice_right (F : Nat) (a0 : Span) (a1 : Int) : Option (Bool) :=
 bnd (ice_most F) (fun (x : Numbers) => chk (0 ≤ a1 ∧ a1 < (↑(4 : Nat) : Int)) (bnd (ice_in F a0.Lo (0 : Int) ([x.a0, x.a1, x.a2, x.a3].getD a1.toNat 0)) (fun (x_1 : Bool) => bnd (brk x_1 (ice_most F) (some (Numbers.mk 0 0 0 0))) (fun (x_2 : Numbers) => chk (x_1 = true → 0 ≤ a1 ∧ a1 < (↑(4 : Nat) : Int)) (bnd (brk x_1 (ice_in F a0.Hi a0.Lo ([x_2.a0, x_2.a1, x_2.a2, x_2.a3].getD a1.toNat 0)) (some false)) (fun (x_3 : Bool) => some (x_1 && x_3)))))))
def s75 (F : Nat) : CS E.G := ⟨75, [.v 14 true, .v 0 false], [.v 1 false []], fun x => ice_right F x.1 x.2.1⟩
theorem c75 (F : Nat) : CSok E gl (s75 F) := mkC (cx := ⟨[s88 F, s89 F], [], F, [], []⟩) hf75 (by kernel_rfl) rfl (allC (c88 F) (allC (c89 F) all0)) ⟨inl0, all0⟩ .n rfl (by kernel_rfl)
theorem hf74 : HF 74 Tryd.f74 := hK (by kernel_rfl)
theorem en74 : Proofs.Enters Tryd.prog 74 := mkE hf74 (by kernel_rfl) rfl
theorem hf61 : HF 61 Tryd.f61 := hK (by kernel_rfl)
def ice_CheckCell (F : Nat) (a0 : Cell) : Option (Int) :=
 bnd (ice_Cell_spans F a0) (fun (x : Spans) => join (F) (fun (x_1 : Bool) => brk (!x_1) (some ((20 : Int))) (some ((0 : Int)))) (fun x_1 => bnd (ice_most F) (fun (x_2 : Numbers) => loopC (fun (x_3 : Int) => fun x_4 => brk (decide (x_3 < 4)) (chk (0 ≤ x_3 ∧ x_3 < (↑(4 : Nat) : Int)) (bnd (ice_right F ([x.a0, x.a1, x.a2, x.a3].getD (Int.toNat x_3) (Span.mk 0 0)) x_3) (fun (x_5 : Bool) => brk (!x_5) (x_1 (false)) (chk (InR (x_3 + 1)) (x_4 (x_3 + 1)))))) (x_1 (true))) (F) ((0 : Int)))))
def s61 (F : Nat) : CS E.G := ⟨61, [.v 15 true], [.v 0 false []], fun x => ice_CheckCell F x.1⟩
theorem c61 (F : Nat) : CSok E gl (s61 F) := mkC (cx := ⟨[s72 F, s88 F, s75 F], [(73, Tryd.f73), (74, Tryd.f74)], F, [], []⟩) hf61 (by kernel_rfl) rfl (allC (c72 F) (allC (c88 F) (allC (c75 F) all0))) ⟨(inlC hf73 en73 (inlC hf74 en74 inl0)), all0⟩ (.w ⟨[.b], [], [0, 2], [(0, .b)], [], [], [], 3⟩ (.l ⟨[.i], [0], [0, 2], [(80, .i IntKind.i64)], [], [], [], 3⟩ (.c (.p .n) .n)) .n) rfl (by kernel_rfl)
theorem hf37 : HF 37 Tryd.f37 := hK (by kernel_rfl)
def convoy_met (F : Nat) (a0 : Convoy) (a1 : Cell) : Option (Int) :=
 bnd (convoy_Check F a0) (fun (x : Int) => brk (x != (0 : Int)) (some (x)) (bnd (ice_CheckCell F a1) (fun (x_1 : Int) => some (x_1))))
def s37 (F : Nat) : CS E.G := ⟨37, [.v 13 true, .v 15 true], [.v 0 false []], fun x => convoy_met F x.1 x.2.1⟩
theorem c37 (F : Nat) : CSok E gl (s37 F) := mkC (cx := ⟨[s18 F, s61 F], [], F, [], []⟩) hf37 (by kernel_rfl) rfl (allC (c18 F) (allC (c61 F) all0)) ⟨inl0, all0⟩ .n rfl (by kernel_rfl)
theorem hf76 : HF 76 Tryd.f76 := hK (by kernel_rfl)
def hull_met (F : Nat) (a0 : Ship) (a1 : Cell) : Option (Int) :=
 bnd (hull_Check F a0) (fun (x : Int) => brk (x != (0 : Int)) (some (x)) (bnd (ice_CheckCell F a1) (fun (x_1 : Int) => some (x_1))))
def s76 (F : Nat) : CS E.G := ⟨76, [.v 9 true, .v 15 true], [.v 0 false []], fun x => hull_met F x.1 x.2.1⟩
theorem c76 (F : Nat) : CSok E gl (s76 F) := mkC (cx := ⟨[s51 F, s61 F], [], F, [], []⟩) hf76 (by kernel_rfl) rfl (allC (c51 F) (allC (c61 F) all0)) ⟨inl0, all0⟩ .n rfl (by kernel_rfl)
theorem hf90 : HF 90 Tryd.f90 := hK (by kernel_rfl)
def hull_last (F : Nat) (a0 : Cell) : Option (Ice) :=
 some (Ice.mk a0.Conc.Hi a0.Thick.Hi a0.Ridge.Hi a0.Press.Hi)
def s90 (F : Nat) : CS E.G := ⟨90, [.v 15 true], [.v 24 true []], fun x => hull_last F x.1⟩
theorem c90 (F : Nat) : CSok E gl (s90 F) := mkC (cx := ⟨[], [], F, [], []⟩) hf90 (by kernel_rfl) rfl all0 ⟨inl0, all0⟩ .n rfl (by kernel_rfl)
theorem hf93 : HF 93 Tryd.f93 := hK (by kernel_rfl)
theorem en93 : Proofs.Enters Tryd.prog 93 := mkE hf93 (by kernel_rfl) rfl
theorem hf97 : HF 97 Tryd.f97 := hK (by kernel_rfl)
def hull_Ship_thrust (F : Nat) (a0 : Ship) (a1 : Int) : Option (Int) :=
 bnd (hull_value F a0.Thrust a1) (fun (x : (Int) × (Int)) => chk ((0 ≤ x.1 ∧ x.1 ≤ 9223372036854775807) ∧ (0 : Int) < x.2) (some (x.1 / x.2)))
def s97 (F : Nat) : CS E.G := ⟨97, [.ptr 9, .v 0 false], [.v 0 false []], fun x => hull_Ship_thrust F x.1 x.2.1⟩
theorem c97 (F : Nat) : CSok E gl (s97 F) := mkC (cx := ⟨[s69 F], [], F, [], []⟩) hf97 (by kernel_rfl) rfl (allC (c69 F) all0) ⟨inl0, all0⟩ .n rfl (by kernel_rfl)
theorem hf98 : HF 98 Tryd.f98 := hK (by kernel_rfl)
theorem en98 : Proofs.Enters Tryd.prog 98 := mkE hf98 (by kernel_rfl) rfl
theorem hf94 : HF 94 Tryd.f94 := hK (by kernel_rfl)
theorem en94 : Proofs.Enters Tryd.prog 94 := mkE hf94 (by kernel_rfl) rfl
theorem hf91 : HF 91 Tryd.f91 := hK (by kernel_rfl)
theorem en91 : Proofs.Enters Tryd.prog 91 := mkE hf91 (by kernel_rfl) rfl
theorem hf99 : HF 99 Tryd.f99 := hK (by kernel_rfl)
def hull_load (F : Nat) (a0 : Ice) (a1 : Int) (a2 : Bool) : Option (Int) :=
 chk (InR ((100 : Int) + a1)) (chk (InR (a0.Thick * ((100 : Int) + a1))) (join (F) (fun (x : (Int) × (Int)) => brk (a0.Conc == (0 : Int)) (some ((0 : Int))) (chk (InR ((300 : Int) * x.1)) (chk (InR (x.2 + (300 : Int) * x.1)) (chk (InR ((2000 : Int) * a0.Press)) (chk (InR (x.2 + (300 : Int) * x.1 + (2000 : Int) * a0.Press)) (some (x.2 + (300 : Int) * x.1 + (2000 : Int) * a0.Press))))))) (fun x => brk (a2) (chk (InR (a0.Thick * ((100 : Int) + a1) + 1)) (chk (0 ≤ a0.Thick * ((100 : Int) + a1) + 1 ∧ a0.Thick * ((100 : Int) + a1) + 1 ≤ (9223372036854775807 : Int)) (x (((0 : Int), (a0.Thick * ((100 : Int) + a1) + 1) / (2 : Int)))))) (x ((a0.Ridge, a0.Thick * ((100 : Int) + a1)))))))
def s99 (F : Nat) : CS E.G := ⟨99, [.v 24 true, .v 0 false, .v 1 false], [.v 0 false []], fun x => hull_load F x.1 x.2.1 x.2.2.1⟩
theorem c99 (F : Nat) : CSok E gl (s99 F) := mkC (cx := ⟨[], [], F, [], []⟩) hf99 (by kernel_rfl) rfl all0 ⟨inl0, all0⟩ (.k (.k (.j ⟨[.i, .i], [48], [0, 1], [(128, .i IntKind.i64), (112, .i IntKind.i64)], [], [], [], 2⟩ .n .n))) rfl (by kernel_rfl)
theorem hf96 : HF 96 Tryd.f96 := hK (by kernel_rfl)
theorem en96 : Proofs.Enters Tryd.prog 96 := mkE hf96 (by kernel_rfl) rfl
theorem hf95 : HF 95 Tryd.f95 := hK (by kernel_rfl)
theorem en95 : Proofs.Enters Tryd.prog 95 := mkE hf95 (by kernel_rfl) rfl
theorem hf92 : HF 92 Tryd.f92 := hK (by kernel_rfl)
theorem en92 : Proofs.Enters Tryd.prog 92 := mkE hf92 (by kernel_rfl) rfl
theorem hf77 : HF 77 Tryd.f77 := hK (by kernel_rfl)
def hull_Ship_safe (F : Nat) (a0 : Ship) (a1 : Cell) (a2 : Bool) : Option (Int × Int) :=
 bnd (hull_last F a1) (fun (x : Ice) => join (F) (fun (x_1 : (Int) × (Bool)) => brk (decide (x_1.1 < 10)) (some (((0 : Int), (4 : Int)))) (join (F) (fun (x_2 : (Int) × (Bool)) => brk (!x_2.2) (some (((0 : Int), (41 : Int)))) (some ((x_2.1, (0 : Int))))) (fun x_2 => join (F) (fun (x_3 : Bool) => brk (!x_3) (x_2 (((0 : Int), false))) (loopC (fun (x_4 : (Int) × (Int)) => fun x_5 => brk (decide (x_4.1 < x_4.2)) (chk (InR (x_4.2 - x_4.1)) (chk (InR (x_4.2 - x_4.1 + 1)) (chk (0 ≤ x_4.2 - x_4.1 + 1 ∧ x_4.2 - x_4.1 + 1 ≤ (9223372036854775807 : Int)) (chk (InR (x_4.1 + (x_4.2 - x_4.1 + 1) / (2 : Int))) (join (F) (fun (x_6 : Bool) => brk (x_6) (x_5 ((x_4.1 + (x_4.2 - x_4.1 + 1) / (2 : Int), x_4.2))) (chk (InR (x_4.1 + (x_4.2 - x_4.1 + 1) / (2 : Int) - (1 : Int))) (x_5 ((x_4.1, x_4.1 + (x_4.2 - x_4.1 + 1) / (2 : Int) - (1 : Int)))))) (fun x_6 => join (F) (fun (x_7 : Bool) => brk (x_7) (bnd (hull_load F x (x_4.1 + (x_4.2 - x_4.1 + 1) / (2 : Int)) a2) (fun (x_8 : Int) => chk (InR (a0.Class - 1)) (chk (0 ≤ a0.Class - 1 ∧ a0.Class - 1 < (↑(6 : Nat) : Int)) (x_6 (decide (x_8 ≤ [(4000 : Int), (8000 : Int), (14000 : Int), (24000 : Int), (40000 : Int), (90000 : Int)].getD (a0.Class - 1).toNat (0 : Int))))))) (x_6 (false))) (fun x_7 => bnd (hull_end F a0.Thrust) (fun (x_8 : Int) => brk (decide (x_4.1 + (x_4.2 - x_4.1 + 1) / (2 : Int) ≤ x_8)) (bnd (hull_Ship_thrust F a0 (x_4.1 + (x_4.2 - x_4.1 + 1) / (2 : Int))) (fun (x_9 : Int) => bnd (hull_value F a0.Water (x_4.1 + (x_4.2 - x_4.1 + 1) / (2 : Int))) (fun (x_10 : (Int) × (Int)) => bnd (hull_value F a0.Ice x.Thick) (fun (x_11 : (Int) × (Int)) => join (F) (fun (x_12 : (Int) × (Int)) => chk (InR (a0.Slow * (x_4.1 + (x_4.2 - x_4.1 + 1) / (2 : Int)))) (chk (InR ((1000 : Int) + a0.Slow * (x_4.1 + (x_4.2 - x_4.1 + 1) / (2 : Int)))) (chk (InR (x_11.1 * ((1000 : Int) + a0.Slow * (x_4.1 + (x_4.2 - x_4.1 + 1) / (2 : Int))))) (chk (InR (x_11.1 * ((1000 : Int) + a0.Slow * (x_4.1 + (x_4.2 - x_4.1 + 1) / (2 : Int))) * x_12.2)) (chk (InR (a0.Ridge * x_12.1)) (chk (InR (a0.Ridge * x_12.1 * x_11.2)) (chk (InR (a0.Ridge * x_12.1 * x_11.2 * 100000)) (chk (InR (x_11.1 * ((1000 : Int) + a0.Slow * (x_4.1 + (x_4.2 - x_4.1 + 1) / (2 : Int))) * x_12.2 + a0.Ridge * x_12.1 * x_11.2 * 100000)) (chk (InR (x.Conc * (x_11.1 * ((1000 : Int) + a0.Slow * (x_4.1 + (x_4.2 - x_4.1 + 1) / (2 : Int))) * x_12.2 + a0.Ridge * x_12.1 * x_11.2 * 100000))) (chk (InR (x_11.2 * 10000000)) (chk (InR (x_10.1 * (x_11.2 * 10000000))) (chk (InR (x.Conc * (x_11.1 * ((1000 : Int) + a0.Slow * (x_4.1 + (x_4.2 - x_4.1 + 1) / (2 : Int))) * x_12.2 + a0.Ridge * x_12.1 * x_11.2 * 100000) * x_10.2)) (chk (InR (x_10.1 * (x_11.2 * 10000000) + x.Conc * (x_11.1 * ((1000 : Int) + a0.Slow * (x_4.1 + (x_4.2 - x_4.1 + 1) / (2 : Int))) * x_12.2 + a0.Ridge * x_12.1 * x_11.2 * 100000) * x_10.2)) (chk (InR (a0.Press * x.Press)) (chk (InR (a0.Press * x.Press * x_10.2)) (chk (InR (a0.Press * x.Press * x_10.2 * (x_11.2 * 10000000))) (chk (InR (x_10.1 * (x_11.2 * 10000000) + x.Conc * (x_11.1 * ((1000 : Int) + a0.Slow * (x_4.1 + (x_4.2 - x_4.1 + 1) / (2 : Int))) * x_12.2 + a0.Ridge * x_12.1 * x_11.2 * 100000) * x_10.2 + a0.Press * x.Press * x_10.2 * (x_11.2 * 10000000))) (chk (InR (x_10.2 * (x_11.2 * 10000000))) (chk (InR (x_10.1 * (x_11.2 * 10000000) + x.Conc * (x_11.1 * ((1000 : Int) + a0.Slow * (x_4.1 + (x_4.2 - x_4.1 + 1) / (2 : Int))) * x_12.2 + a0.Ridge * x_12.1 * x_11.2 * 100000) * x_10.2 + a0.Press * x.Press * x_10.2 * (x_11.2 * 10000000) + x_10.2 * (x_11.2 * 10000000))) (chk (InR (x_10.1 * (x_11.2 * 10000000) + x.Conc * (x_11.1 * ((1000 : Int) + a0.Slow * (x_4.1 + (x_4.2 - x_4.1 + 1) / (2 : Int))) * x_12.2 + a0.Ridge * x_12.1 * x_11.2 * 100000) * x_10.2 + a0.Press * x.Press * x_10.2 * (x_11.2 * 10000000) + x_10.2 * (x_11.2 * 10000000) - 1)) (chk (InR (x_10.2 * (x_11.2 * 10000000))) (chk ((0 ≤ x_10.1 * (x_11.2 * 10000000) + x.Conc * (x_11.1 * ((1000 : Int) + a0.Slow * (x_4.1 + (x_4.2 - x_4.1 + 1) / (2 : Int))) * x_12.2 + a0.Ridge * x_12.1 * x_11.2 * 100000) * x_10.2 + a0.Press * x.Press * x_10.2 * (x_11.2 * 10000000) + x_10.2 * (x_11.2 * 10000000) - 1 ∧ x_10.1 * (x_11.2 * 10000000) + x.Conc * (x_11.1 * ((1000 : Int) + a0.Slow * (x_4.1 + (x_4.2 - x_4.1 + 1) / (2 : Int))) * x_12.2 + a0.Ridge * x_12.1 * x_11.2 * 100000) * x_10.2 + a0.Press * x.Press * x_10.2 * (x_11.2 * 10000000) + x_10.2 * (x_11.2 * 10000000) - 1 ≤ (9223372036854775807 : Int)) ∧ (0 : Int) < x_10.2 * (x_11.2 * 10000000)) (x_7 (decide (x_9 ≥ (x_10.1 * (x_11.2 * 10000000) + x.Conc * (x_11.1 * ((1000 : Int) + a0.Slow * (x_4.1 + (x_4.2 - x_4.1 + 1) / (2 : Int))) * x_12.2 + a0.Ridge * x_12.1 * x_11.2 * 100000) * x_10.2 + a0.Press * x.Press * x_10.2 * (x_11.2 * 10000000) + x_10.2 * (x_11.2 * 10000000) - 1) / (x_10.2 * (x_11.2 * 10000000))))))))))))))))))))))))))) (fun x_12 => brk (a2) (x_12 (((0 : Int), a0.Brash))) (x_12 ((x.Ridge, (100 : Int))))))))) (x_7 (false)))))))))) (x_2 ((x_4.1, true)))) (F) (((10 : Int), (250 : Int))))) (fun x_3 => join (F) (fun (x_4 : Bool) => brk (x_4) (bnd (hull_load F x (10 : Int) a2) (fun (x_5 : Int) => chk (InR (a0.Class - 1)) (chk (0 ≤ a0.Class - 1 ∧ a0.Class - 1 < (↑(6 : Nat) : Int)) (x_3 (decide (x_5 ≤ [(4000 : Int), (8000 : Int), (14000 : Int), (24000 : Int), (40000 : Int), (90000 : Int)].getD (a0.Class - 1).toNat (0 : Int))))))) (x_3 (false))) (fun x_4 => bnd (hull_end F a0.Thrust) (fun (x_5 : Int) => brk (decide ((10 : Int) ≤ x_5)) (bnd (hull_Ship_thrust F a0 (10 : Int)) (fun (x_6 : Int) => bnd (hull_value F a0.Water (10 : Int)) (fun (x_7 : (Int) × (Int)) => bnd (hull_value F a0.Ice x.Thick) (fun (x_8 : (Int) × (Int)) => join (F) (fun (x_9 : (Int) × (Int)) => chk (InR (a0.Slow * 10)) (chk (InR ((1000 : Int) + a0.Slow * 10)) (chk (InR (x_8.1 * ((1000 : Int) + a0.Slow * 10))) (chk (InR (x_8.1 * ((1000 : Int) + a0.Slow * 10) * x_9.2)) (chk (InR (a0.Ridge * x_9.1)) (chk (InR (a0.Ridge * x_9.1 * x_8.2)) (chk (InR (a0.Ridge * x_9.1 * x_8.2 * 100000)) (chk (InR (x_8.1 * ((1000 : Int) + a0.Slow * 10) * x_9.2 + a0.Ridge * x_9.1 * x_8.2 * 100000)) (chk (InR (x.Conc * (x_8.1 * ((1000 : Int) + a0.Slow * 10) * x_9.2 + a0.Ridge * x_9.1 * x_8.2 * 100000))) (chk (InR (x_8.2 * 10000000)) (chk (InR (x_7.1 * (x_8.2 * 10000000))) (chk (InR (x.Conc * (x_8.1 * ((1000 : Int) + a0.Slow * 10) * x_9.2 + a0.Ridge * x_9.1 * x_8.2 * 100000) * x_7.2)) (chk (InR (x_7.1 * (x_8.2 * 10000000) + x.Conc * (x_8.1 * ((1000 : Int) + a0.Slow * 10) * x_9.2 + a0.Ridge * x_9.1 * x_8.2 * 100000) * x_7.2)) (chk (InR (a0.Press * x.Press)) (chk (InR (a0.Press * x.Press * x_7.2)) (chk (InR (a0.Press * x.Press * x_7.2 * (x_8.2 * 10000000))) (chk (InR (x_7.1 * (x_8.2 * 10000000) + x.Conc * (x_8.1 * ((1000 : Int) + a0.Slow * 10) * x_9.2 + a0.Ridge * x_9.1 * x_8.2 * 100000) * x_7.2 + a0.Press * x.Press * x_7.2 * (x_8.2 * 10000000))) (chk (InR (x_7.2 * (x_8.2 * 10000000))) (chk (InR (x_7.1 * (x_8.2 * 10000000) + x.Conc * (x_8.1 * ((1000 : Int) + a0.Slow * 10) * x_9.2 + a0.Ridge * x_9.1 * x_8.2 * 100000) * x_7.2 + a0.Press * x.Press * x_7.2 * (x_8.2 * 10000000) + x_7.2 * (x_8.2 * 10000000))) (chk (InR (x_7.1 * (x_8.2 * 10000000) + x.Conc * (x_8.1 * ((1000 : Int) + a0.Slow * 10) * x_9.2 + a0.Ridge * x_9.1 * x_8.2 * 100000) * x_7.2 + a0.Press * x.Press * x_7.2 * (x_8.2 * 10000000) + x_7.2 * (x_8.2 * 10000000) - 1)) (chk (InR (x_7.2 * (x_8.2 * 10000000))) (chk ((0 ≤ x_7.1 * (x_8.2 * 10000000) + x.Conc * (x_8.1 * ((1000 : Int) + a0.Slow * 10) * x_9.2 + a0.Ridge * x_9.1 * x_8.2 * 100000) * x_7.2 + a0.Press * x.Press * x_7.2 * (x_8.2 * 10000000) + x_7.2 * (x_8.2 * 10000000) - 1 ∧ x_7.1 * (x_8.2 * 10000000) + x.Conc * (x_8.1 * ((1000 : Int) + a0.Slow * 10) * x_9.2 + a0.Ridge * x_9.1 * x_8.2 * 100000) * x_7.2 + a0.Press * x.Press * x_7.2 * (x_8.2 * 10000000) + x_7.2 * (x_8.2 * 10000000) - 1 ≤ (9223372036854775807 : Int)) ∧ (0 : Int) < x_7.2 * (x_8.2 * 10000000)) (x_4 (decide (x_6 ≥ (x_7.1 * (x_8.2 * 10000000) + x.Conc * (x_8.1 * ((1000 : Int) + a0.Slow * 10) * x_9.2 + a0.Ridge * x_9.1 * x_8.2 * 100000) * x_7.2 + a0.Press * x.Press * x_7.2 * (x_8.2 * 10000000) + x_7.2 * (x_8.2 * 10000000) - 1) / (x_7.2 * (x_8.2 * 10000000))))))))))))))))))))))))))) (fun x_9 => brk (a2) (x_9 (((0 : Int), a0.Brash))) (x_9 ((x.Ridge, (100 : Int))))))))) (x_4 (false)))))))) (fun x_1 => join (F) (fun (x_2 : Bool) => brk (!x_2) (x_1 (((0 : Int), false))) (loopC (fun (x_3 : (Int) × (Int)) => fun x_4 => brk (decide (x_3.1 < x_3.2)) (chk (InR (x_3.2 - x_3.1)) (chk (InR (x_3.2 - x_3.1 + 1)) (chk (0 ≤ x_3.2 - x_3.1 + 1 ∧ x_3.2 - x_3.1 + 1 ≤ (9223372036854775807 : Int)) (chk (InR (x_3.1 + (x_3.2 - x_3.1 + 1) / (2 : Int))) (join (F) (fun (x_5 : Bool) => brk (x_5) (x_4 ((x_3.1 + (x_3.2 - x_3.1 + 1) / (2 : Int), x_3.2))) (chk (InR (x_3.1 + (x_3.2 - x_3.1 + 1) / (2 : Int) - (1 : Int))) (x_4 ((x_3.1, x_3.1 + (x_3.2 - x_3.1 + 1) / (2 : Int) - (1 : Int)))))) (fun x_5 => bnd (hull_end F a0.Thrust) (fun (x_6 : Int) => brk (decide (x_3.1 + (x_3.2 - x_3.1 + 1) / (2 : Int) ≤ x_6)) (bnd (hull_Ship_thrust F a0 (x_3.1 + (x_3.2 - x_3.1 + 1) / (2 : Int))) (fun (x_7 : Int) => bnd (hull_value F a0.Water (x_3.1 + (x_3.2 - x_3.1 + 1) / (2 : Int))) (fun (x_8 : (Int) × (Int)) => bnd (hull_value F a0.Ice x.Thick) (fun (x_9 : (Int) × (Int)) => join (F) (fun (x_10 : (Int) × (Int)) => chk (InR (a0.Slow * (x_3.1 + (x_3.2 - x_3.1 + 1) / (2 : Int)))) (chk (InR ((1000 : Int) + a0.Slow * (x_3.1 + (x_3.2 - x_3.1 + 1) / (2 : Int)))) (chk (InR (x_9.1 * ((1000 : Int) + a0.Slow * (x_3.1 + (x_3.2 - x_3.1 + 1) / (2 : Int))))) (chk (InR (x_9.1 * ((1000 : Int) + a0.Slow * (x_3.1 + (x_3.2 - x_3.1 + 1) / (2 : Int))) * x_10.2)) (chk (InR (a0.Ridge * x_10.1)) (chk (InR (a0.Ridge * x_10.1 * x_9.2)) (chk (InR (a0.Ridge * x_10.1 * x_9.2 * 100000)) (chk (InR (x_9.1 * ((1000 : Int) + a0.Slow * (x_3.1 + (x_3.2 - x_3.1 + 1) / (2 : Int))) * x_10.2 + a0.Ridge * x_10.1 * x_9.2 * 100000)) (chk (InR (x.Conc * (x_9.1 * ((1000 : Int) + a0.Slow * (x_3.1 + (x_3.2 - x_3.1 + 1) / (2 : Int))) * x_10.2 + a0.Ridge * x_10.1 * x_9.2 * 100000))) (chk (InR (x_9.2 * 10000000)) (chk (InR (x_8.1 * (x_9.2 * 10000000))) (chk (InR (x.Conc * (x_9.1 * ((1000 : Int) + a0.Slow * (x_3.1 + (x_3.2 - x_3.1 + 1) / (2 : Int))) * x_10.2 + a0.Ridge * x_10.1 * x_9.2 * 100000) * x_8.2)) (chk (InR (x_8.1 * (x_9.2 * 10000000) + x.Conc * (x_9.1 * ((1000 : Int) + a0.Slow * (x_3.1 + (x_3.2 - x_3.1 + 1) / (2 : Int))) * x_10.2 + a0.Ridge * x_10.1 * x_9.2 * 100000) * x_8.2)) (chk (InR (a0.Press * x.Press)) (chk (InR (a0.Press * x.Press * x_8.2)) (chk (InR (a0.Press * x.Press * x_8.2 * (x_9.2 * 10000000))) (chk (InR (x_8.1 * (x_9.2 * 10000000) + x.Conc * (x_9.1 * ((1000 : Int) + a0.Slow * (x_3.1 + (x_3.2 - x_3.1 + 1) / (2 : Int))) * x_10.2 + a0.Ridge * x_10.1 * x_9.2 * 100000) * x_8.2 + a0.Press * x.Press * x_8.2 * (x_9.2 * 10000000))) (chk (InR (x_8.2 * (x_9.2 * 10000000))) (chk (InR (x_8.1 * (x_9.2 * 10000000) + x.Conc * (x_9.1 * ((1000 : Int) + a0.Slow * (x_3.1 + (x_3.2 - x_3.1 + 1) / (2 : Int))) * x_10.2 + a0.Ridge * x_10.1 * x_9.2 * 100000) * x_8.2 + a0.Press * x.Press * x_8.2 * (x_9.2 * 10000000) + x_8.2 * (x_9.2 * 10000000))) (chk (InR (x_8.1 * (x_9.2 * 10000000) + x.Conc * (x_9.1 * ((1000 : Int) + a0.Slow * (x_3.1 + (x_3.2 - x_3.1 + 1) / (2 : Int))) * x_10.2 + a0.Ridge * x_10.1 * x_9.2 * 100000) * x_8.2 + a0.Press * x.Press * x_8.2 * (x_9.2 * 10000000) + x_8.2 * (x_9.2 * 10000000) - 1)) (chk (InR (x_8.2 * (x_9.2 * 10000000))) (chk ((0 ≤ x_8.1 * (x_9.2 * 10000000) + x.Conc * (x_9.1 * ((1000 : Int) + a0.Slow * (x_3.1 + (x_3.2 - x_3.1 + 1) / (2 : Int))) * x_10.2 + a0.Ridge * x_10.1 * x_9.2 * 100000) * x_8.2 + a0.Press * x.Press * x_8.2 * (x_9.2 * 10000000) + x_8.2 * (x_9.2 * 10000000) - 1 ∧ x_8.1 * (x_9.2 * 10000000) + x.Conc * (x_9.1 * ((1000 : Int) + a0.Slow * (x_3.1 + (x_3.2 - x_3.1 + 1) / (2 : Int))) * x_10.2 + a0.Ridge * x_10.1 * x_9.2 * 100000) * x_8.2 + a0.Press * x.Press * x_8.2 * (x_9.2 * 10000000) + x_8.2 * (x_9.2 * 10000000) - 1 ≤ (9223372036854775807 : Int)) ∧ (0 : Int) < x_8.2 * (x_9.2 * 10000000)) (x_5 (decide (x_7 ≥ (x_8.1 * (x_9.2 * 10000000) + x.Conc * (x_9.1 * ((1000 : Int) + a0.Slow * (x_3.1 + (x_3.2 - x_3.1 + 1) / (2 : Int))) * x_10.2 + a0.Ridge * x_10.1 * x_9.2 * 100000) * x_8.2 + a0.Press * x.Press * x_8.2 * (x_9.2 * 10000000) + x_8.2 * (x_9.2 * 10000000) - 1) / (x_8.2 * (x_9.2 * 10000000))))))))))))))))))))))))))) (fun x_10 => brk (a2) (x_10 (((0 : Int), a0.Brash))) (x_10 ((x.Ridge, (100 : Int))))))))) (x_5 (false))))))))) (x_1 ((x_3.1, true)))) (F) (((0 : Int), (250 : Int))))) (fun x_2 => bnd (hull_end F a0.Thrust) (fun (x_3 : Int) => brk (decide (0 ≤ x_3)) (bnd (hull_Ship_thrust F a0 (0 : Int)) (fun (x_4 : Int) => bnd (hull_value F a0.Water (0 : Int)) (fun (x_5 : (Int) × (Int)) => bnd (hull_value F a0.Ice x.Thick) (fun (x_6 : (Int) × (Int)) => join (F) (fun (x_7 : (Int) × (Int)) => chk (InR (a0.Slow * 0)) (chk (InR ((1000 : Int) + a0.Slow * 0)) (chk (InR (x_6.1 * ((1000 : Int) + a0.Slow * 0))) (chk (InR (x_6.1 * ((1000 : Int) + a0.Slow * 0) * x_7.2)) (chk (InR (a0.Ridge * x_7.1)) (chk (InR (a0.Ridge * x_7.1 * x_6.2)) (chk (InR (a0.Ridge * x_7.1 * x_6.2 * 100000)) (chk (InR (x_6.1 * ((1000 : Int) + a0.Slow * 0) * x_7.2 + a0.Ridge * x_7.1 * x_6.2 * 100000)) (chk (InR (x.Conc * (x_6.1 * ((1000 : Int) + a0.Slow * 0) * x_7.2 + a0.Ridge * x_7.1 * x_6.2 * 100000))) (chk (InR (x_6.2 * 10000000)) (chk (InR (x_5.1 * (x_6.2 * 10000000))) (chk (InR (x.Conc * (x_6.1 * ((1000 : Int) + a0.Slow * 0) * x_7.2 + a0.Ridge * x_7.1 * x_6.2 * 100000) * x_5.2)) (chk (InR (x_5.1 * (x_6.2 * 10000000) + x.Conc * (x_6.1 * ((1000 : Int) + a0.Slow * 0) * x_7.2 + a0.Ridge * x_7.1 * x_6.2 * 100000) * x_5.2)) (chk (InR (a0.Press * x.Press)) (chk (InR (a0.Press * x.Press * x_5.2)) (chk (InR (a0.Press * x.Press * x_5.2 * (x_6.2 * 10000000))) (chk (InR (x_5.1 * (x_6.2 * 10000000) + x.Conc * (x_6.1 * ((1000 : Int) + a0.Slow * 0) * x_7.2 + a0.Ridge * x_7.1 * x_6.2 * 100000) * x_5.2 + a0.Press * x.Press * x_5.2 * (x_6.2 * 10000000))) (chk (InR (x_5.2 * (x_6.2 * 10000000))) (chk (InR (x_5.1 * (x_6.2 * 10000000) + x.Conc * (x_6.1 * ((1000 : Int) + a0.Slow * 0) * x_7.2 + a0.Ridge * x_7.1 * x_6.2 * 100000) * x_5.2 + a0.Press * x.Press * x_5.2 * (x_6.2 * 10000000) + x_5.2 * (x_6.2 * 10000000))) (chk (InR (x_5.1 * (x_6.2 * 10000000) + x.Conc * (x_6.1 * ((1000 : Int) + a0.Slow * 0) * x_7.2 + a0.Ridge * x_7.1 * x_6.2 * 100000) * x_5.2 + a0.Press * x.Press * x_5.2 * (x_6.2 * 10000000) + x_5.2 * (x_6.2 * 10000000) - 1)) (chk (InR (x_5.2 * (x_6.2 * 10000000))) (chk ((0 ≤ x_5.1 * (x_6.2 * 10000000) + x.Conc * (x_6.1 * ((1000 : Int) + a0.Slow * 0) * x_7.2 + a0.Ridge * x_7.1 * x_6.2 * 100000) * x_5.2 + a0.Press * x.Press * x_5.2 * (x_6.2 * 10000000) + x_5.2 * (x_6.2 * 10000000) - 1 ∧ x_5.1 * (x_6.2 * 10000000) + x.Conc * (x_6.1 * ((1000 : Int) + a0.Slow * 0) * x_7.2 + a0.Ridge * x_7.1 * x_6.2 * 100000) * x_5.2 + a0.Press * x.Press * x_5.2 * (x_6.2 * 10000000) + x_5.2 * (x_6.2 * 10000000) - 1 ≤ (9223372036854775807 : Int)) ∧ (0 : Int) < x_5.2 * (x_6.2 * 10000000)) (x_2 (decide (x_4 ≥ (x_5.1 * (x_6.2 * 10000000) + x.Conc * (x_6.1 * ((1000 : Int) + a0.Slow * 0) * x_7.2 + a0.Ridge * x_7.1 * x_6.2 * 100000) * x_5.2 + a0.Press * x.Press * x_5.2 * (x_6.2 * 10000000) + x_5.2 * (x_6.2 * 10000000) - 1) / (x_5.2 * (x_6.2 * 10000000))))))))))))))))))))))))))) (fun x_7 => brk (a2) (x_7 (((0 : Int), a0.Brash))) (x_7 ((x.Ridge, (100 : Int))))))))) (x_2 (false))))))
def s77 (F : Nat) : CS E.G := ⟨77, [.ptr 9, .v 15 true, .v 1 false], [.v 0 false [], .v 0 false []], fun x => hull_Ship_safe F x.1 x.2.1 x.2.2.1⟩
theorem c77 (F : Nat) : CSok E gl (s77 F) := mkC (cx := ⟨[s90 F, s84 F, s97 F, s69 F, s99 F], [(91, Tryd.f91), (93, Tryd.f93), (94, Tryd.f94), (98, Tryd.f98), (92, Tryd.f92), (95, Tryd.f95), (96, Tryd.f96)], F, [], []⟩) hf77 (by kernel_rfl) rfl (allC (c90 F) (allC (c84 F) (allC (c97 F) (allC (c69 F) (allC (c99 F) all0))))) ⟨(inlC hf91 en91 (inlC hf93 en93 (inlC hf94 en94 (inlC hf98 en98 (inlC hf92 en92 (inlC hf95 en95 (inlC hf96 en96 inl0))))))), all0⟩ (.p (.w ⟨[.i, .b], [], [0, 1], [(0, .t [.i IntKind.i64, .b])], [], [], [], 5⟩ (.w ⟨[.b], [], [0, 1], [(0, .b)], [], [], [], 5⟩ (.s (.p (.k (.k (.k (.k (.j ⟨[.i, .i], [16, 32, 128, 96, 80, 112], [0, 1, 7], [(160, .i IntKind.i64), (144, .i IntKind.i64)], [], [], [], 10⟩ .n .n)))))) .n) (.c .n (.l ⟨[.i, .i], [32], [0, 1], [(0, .i IntKind.i64), (16, .i IntKind.i64)], [], [], [], 5⟩ (.c (.w ⟨[.b], [], [0, 1], [(0, .b)], [], [], [], 5⟩ (.s (.p (.k (.k (.k (.k (.j ⟨[.i, .i], [16, 32, 128, 96, 80, 112], [0, 1, 7], [(160, .i IntKind.i64), (144, .i IntKind.i64)], [], [], [], 10⟩ .n .n)))))) .n) .n) .n)))) (.c .n (.p (.w ⟨[.i, .b], [], [0, 1, 5], [(0, .t [.i IntKind.i64, .b])], [], [], [], 6⟩ (.w ⟨[.b], [], [0, 1, 5], [(0, .b)], [], [], [], 6⟩ (.w ⟨[.b], [], [0, 1], [(0, .b)], [], [], [], 6⟩ (.s (.p (.k (.k (.k (.k (.j ⟨[.i, .i], [16, 32, 128, 96, 80, 112], [0, 1, 8], [(160, .i IntKind.i64), (144, .i IntKind.i64)], [], [], [], 11⟩ .n .n)))))) .n) (.s (.p .n) .n)) (.c .n (.l ⟨[.i, .i], [32], [0, 1, 5], [(0, .i IntKind.i64), (16, .i IntKind.i64)], [], [], [], 6⟩ (.c (.w ⟨[.b], [], [0, 1, 5], [(0, .b)], [], [], [], 6⟩ (.w ⟨[.b], [], [0, 1], [(0, .b)], [], [], [], 6⟩ (.s (.p (.k (.k (.k (.k (.j ⟨[.i, .i], [16, 32, 128, 96, 80, 112], [0, 1, 8], [(160, .i IntKind.i64), (144, .i IntKind.i64)], [], [], [], 11⟩ .n .n)))))) .n) (.s (.p .n) .n)) .n) .n)))) .n))))) rfl (by kernel_rfl)
theorem hf62 : HF 62 Tryd.f62 := hK (by kernel_rfl)
def hull_Safe (F : Nat) (a0 : Ship) (a1 : Cell) (a2 : Bool) : Option (Int × Int) :=
 bnd (hull_met F a0 a1) (fun (x : Int) => brk (x != (0 : Int)) (some (((0 : Int), x))) (bnd (hull_Ship_safe F a0 a1 a2) (fun (x_1 : (Int) × (Int)) => some (x_1))))
def s62 (F : Nat) : CS E.G := ⟨62, [.v 9 true, .v 15 true, .v 1 false], [.v 0 false [], .v 0 false []], fun x => hull_Safe F x.1 x.2.1 x.2.2.1⟩
theorem c62 (F : Nat) : CSok E gl (s62 F) := mkC (cx := ⟨[s76 F, s77 F], [], F, [], []⟩) hf62 (by kernel_rfl) rfl (allC (c76 F) (allC (c77 F) all0)) ⟨inl0, all0⟩ .n rfl (by kernel_rfl)
theorem hf38 : HF 38 Tryd.f38 := hK (by kernel_rfl)
def convoy_Convoy_most (F : Nat) (a0 : Convoy) (a1 : Cell) : Option (Int) :=
 chk ([a0.Breaker].length + a0.Ships.length ≤ (1000000000 : Nat)) (loopC (fun (x : (Int) × (Int)) => fun x_1 => brk (decide (x.2 < (↑([a0.Breaker] ++ a0.Ships).length : Int))) (chk (0 ≤ x.2 ∧ x.2 < (↑([a0.Breaker] ++ a0.Ships).length : Int)) (bnd (hull_Safe F (([a0.Breaker] ++ a0.Ships).getD (Int.toNat x.2) (Member.mk (Ship.mk 0 0 0 0 [] [] [] 0 0 0 0) [] (0 : Int) (0 : Int) (0 : Int))).Ship a1 (decide (x.2 > (0 : Int)))) (fun (x_2 : (Int) × (Int)) => brk (x_2.2 != (0 : Int)) (some ((0 : Int))) (chk (InR (x.2 + 1)) (x_1 ((if x_2.1 < x.1 then x_2.1 else x.1, x.2 + 1))))))) (some (x.1))) (F) (((250 : Int), (0 : Int))))
def s38 (F : Nat) : CS E.G := ⟨38, [.ptr 13, .v 15 true], [.v 0 false []], fun x => convoy_Convoy_most F x.1 x.2.1⟩
theorem c38 (F : Nat) : CSok E gl (s38 F) := mkC (cx := ⟨[s62 F], [(44, Tryd.f44)], F, [], []⟩) hf38 (by kernel_rfl) rfl (allC (c62 F) all0) ⟨(inlC hf44 en44 inl0), all0⟩ (.p (.l ⟨[.i, .i], [192, 48, 176], [0, 2, 9], [(80, .i IntKind.i64), (208, .i IntKind.i64)], [], [], [], 10⟩ (.c .n .n))) rfl (by kernel_rfl)
theorem hf50 : HF 50 Tryd.f50 := hK (by kernel_rfl)
theorem en50 : Proofs.Enters Tryd.prog 50 := mkE hf50 (by kernel_rfl) rfl
theorem hf39 : HF 39 Tryd.f39 := hK (by kernel_rfl)
theorem en39 : Proofs.Enters Tryd.prog 39 := mkE hf39 (by kernel_rfl) rfl
theorem hf42 : HF 42 Tryd.f42 := hK (by kernel_rfl)
def convoy_Convoy_fastest (F : Nat) (a0 : Convoy) (a1 : Int) (a2 : Int) : Option (Int) :=
 loopC (fun (x : Int) => fun x_1 => brk (decide (x ≥ (10 : Int))) (bnd (convoy_Member_halt F a0.Breaker x) (fun (x_2 : Span) => loopC (fun (x_3 : (Int) × ((List (Int)) × ((Int) × (Int)))) => fun x_4 => brk (decide (x_3.1 < (↑a0.Ships.length : Int))) (chk (0 ≤ x_3.1 ∧ x_3.1 < (↑a0.Ships.length : Int)) (bnd (convoy_Member_halt F (a0.Ships.getD (Int.toNat x_3.1) (Member.mk (Ship.mk 0 0 0 0 [] [] [] 0 0 0 0) [] (0 : Int) (0 : Int) (0 : Int))) x) (fun (x_5 : Span) => chk (InR (x_5.Hi - x_3.2.2.2)) (chk (InR (a0.Clear + if x_5.Hi - x_3.2.2.2 > (0 : Int) then x_5.Hi - x_3.2.2.2 else (0 : Int))) (chk (List.length x_3.2.1 + [a0.Clear + if x_5.Hi - x_3.2.2.2 > (0 : Int) then x_5.Hi - x_3.2.2.2 else (0 : Int)].length ≤ (1000000000 : Nat)) (chk (InR (x_3.1 + 1)) (x_4 ((x_3.1 + 1, x_3.2.1 ++ [a0.Clear + if x_5.Hi - x_3.2.2.2 > (0 : Int) then x_5.Hi - x_3.2.2.2 else (0 : Int)], x_5.Hi, x_5.Lo))))))))) (loopC (fun (x_5 : (Int) × (Int)) => fun x_6 => brk (decide (x_5.2 < (↑(List.length x_3.2.1) : Int))) (chk (0 ≤ x_5.2 ∧ x_5.2 < (↑(List.length x_3.2.1) : Int)) (chk (0 ≤ x_5.2 ∧ x_5.2 < (↑a0.Ships.length : Int)) (chk (InR (List.getD x_3.2.1 (Int.toNat x_5.2) (0 : Int) + (a0.Ships.getD (Int.toNat x_5.2) (Member.mk (Ship.mk 0 0 0 0 [] [] [] 0 0 0 0) [] (0 : Int) (0 : Int) (0 : Int))).Length)) (chk (InR (x_5.1 + (List.getD x_3.2.1 (Int.toNat x_5.2) (0 : Int) + (a0.Ships.getD (Int.toNat x_5.2) (Member.mk (Ship.mk 0 0 0 0 [] [] [] 0 0 0 0) [] (0 : Int) (0 : Int) (0 : Int))).Length))) (chk (InR (x_5.2 + 1)) (x_6 ((x_5.1 + (List.getD x_3.2.1 (Int.toNat x_5.2) (0 : Int) + (a0.Ships.getD (Int.toNat x_5.2) (Member.mk (Ship.mk 0 0 0 0 [] [] [] 0 0 0 0) [] (0 : Int) (0 : Int) (0 : Int))).Length), x_5.2 + 1)))))))) (chk (0 ≤ a2 ∧ a2 < (↑(4 : Nat) : Int)) (chk (InR ((60 : Int) * [a0.Close.a0, a0.Close.a1, a0.Close.a2, a0.Close.a3].getD a2.toNat 0)) (bnd (convoy_way F x ((60 : Int) * [a0.Close.a0, a0.Close.a1, a0.Close.a2, a0.Close.a3].getD a2.toNat 0)) (fun (x_7 : (Int) × (Int)) => brk (decide (x_5.1 ≤ x_7.1)) (some (x)) (chk (InR (x - 1)) (x_1 (x - 1)))))))) (F) (((0 : Int), (0 : Int))))) (F) (((0 : Int), [], x_2.Hi, x_2.Lo)))) (some ((0 : Int)))) (F) (a1)
def s42 (F : Nat) : CS E.G := ⟨42, [.ptr 13, .v 0 false, .v 0 false], [.v 0 false []], fun x => convoy_Convoy_fastest F x.1 x.2.1 x.2.2.1⟩
theorem c42 (F : Nat) : CSok E gl (s42 F) := mkC (cx := ⟨[s48 F, s47 F], [(39, Tryd.f39), (41, Tryd.f41), (49, Tryd.f49), (50, Tryd.f50)], F, [], []⟩) hf42 (by kernel_rfl) rfl (allC (c48 F) (allC (c47 F) all0)) ⟨(inlC hf39 en39 (inlC hf41 en41 (inlC hf49 en49 (inlC hf50 en50 inl0)))), all0⟩ (.l ⟨[.i], [0, 32], [0, 1], [(112, .i IntKind.i64)], [], [], [], 2⟩ (.c (.p (.p (.p (.l ⟨[.i, .l 0, .i, .i], [16, 64, 320, 336], [0, 1, 4, 9, 10], [(352, .i IntKind.i64), (48, .h 11 3 0)], [], [(9, 1, .i IntKind.i64), (9, 0, .i IntKind.i64)], [], 12⟩ (.c .n (.l ⟨[.i, .i], [16, 128, 112], [0, 1, 3, 11], [(48, .i IntKind.i64), (144, .i IntKind.i64)], [], [], [], 12⟩ (.c .n (.p .n)))))))) .n)) rfl (by kernel_rfl)
theorem hf13 : HF 13 Tryd.f13 := hK (by kernel_rfl)
def convoy_Fastest (F : Nat) (a0 : Convoy) (a1 : Cell) : Option (Int × Int) :=
 bnd (convoy_met F a0 a1) (fun (x : Int) => brk (x != (0 : Int)) (some (((0 : Int), x))) (bnd (convoy_Convoy_most F a0 a1) (fun (x_1 : Int) => bnd (convoy_Convoy_fastest F a0 x_1 a1.Press.Hi) (fun (x_2 : Int) => brk (x_2 == (0 : Int)) (some (((0 : Int), (4 : Int)))) (some ((x_2, (0 : Int))))))))
def s13 (F : Nat) : CS E.G := ⟨13, [.v 13 true, .v 15 true], [.v 0 false [], .v 0 false []], fun x => convoy_Fastest F x.1 x.2.1⟩
theorem c13 (F : Nat) : CSok E gl (s13 F) := mkC (cx := ⟨[s37 F, s38 F, s42 F], [], F, [], []⟩) hf13 (by kernel_rfl) rfl (allC (c37 F) (allC (c38 F) (allC (c42 F) all0))) ⟨inl0, all0⟩ (.c .n .n) rfl (by kernel_rfl)
theorem hf45 : HF 45 Tryd.f45 := hK (by kernel_rfl)
def law03_Example (F : Nat) : Option (Ship) :=
 some (Ship.mk (3 : Int) (6000 : Int) (800 : Int) (9000 : Int) [Point.mk (0 : Int) (1000 : Int), Point.mk (100 : Int) (800 : Int), Point.mk (200 : Int) (0 : Int)] [Point.mk (0 : Int) (0 : Int), Point.mk (200 : Int) (400 : Int)] [Point.mk (0 : Int) (0 : Int), Point.mk (400 : Int) (2000 : Int)] (0 : Int) (20 : Int) (10 : Int) (100 : Int))
def s45 (F : Nat) : CS E.G := ⟨45, [], [.v 9 true [63, 63, 63]], fun x => law03_Example F⟩
theorem c45 (F : Nat) : CSok E gl (s45 F) := mkC (cx := ⟨[], [], F, [], []⟩) hf45 (by kernel_rfl) rfl all0 ⟨inl0, all0⟩ .n rfl (by kernel_rfl)
theorem hf78 : HF 78 Tryd.f78 := hK (by kernel_rfl)
def law03_CopyShip (F : Nat) (a0 : Ship) : Option (Ship) :=
 bnd (slices_Clone_hull_Point F a0.Thrust) (fun (x : List (Point)) => bnd (slices_Clone_hull_Point F a0.Water) (fun (x_1 : List (Point)) => bnd (slices_Clone_hull_Point F a0.Ice) (fun (x_2 : List (Point)) => some (Ship.mk a0.Class a0.Power a0.Draught a0.Tonnes x x_1 x_2 a0.Slow a0.Brash a0.Ridge a0.Press))))
def s78 (F : Nat) : CS E.G := ⟨78, [.v 9 true], [.v 9 true [63, 63, 63]], fun x => law03_CopyShip F x.1⟩
theorem c78 (F : Nat) : CSok E gl (s78 F) := mkC (cx := ⟨[s58 F], [], F, [], []⟩) hf78 (by kernel_rfl) rfl (allC (c58 F) all0) ⟨inl0, all0⟩ .n rfl (by kernel_rfl)
theorem hf63 : HF 63 Tryd.f63 := hK (by kernel_rfl)
def law05_copyMember (F : Nat) (a0 : Member) : Option (Member) :=
 bnd (law03_CopyShip F a0.Ship) (fun (x : Ship) => bnd (slices_Clone_hull_Point F a0.Stop) (fun (x_1 : List (Point)) => some (Member.mk x x_1 a0.Length a0.Delay a0.Short)))
def s63 (F : Nat) : CS E.G := ⟨63, [.v 10 true], [.v 10 true [63, 63, 63, 63]], fun x => law05_copyMember F x.1⟩
theorem c63 (F : Nat) : CSok E gl (s63 F) := mkC (cx := ⟨[s58 F, s78 F], [], F, [], []⟩) hf63 (by kernel_rfl) rfl (allC (c58 F) (allC (c78 F) all0)) ⟨inl0, all0⟩ .n rfl (by kernel_rfl)
theorem hf64 : HF 64 Tryd.f64 := hK (by kernel_rfl)
theorem en64 : Proofs.Enters Tryd.prog 64 := mkE hf64 (by kernel_rfl) rfl
def slices_Clone_convoy_Member (F : Nat) (a0 : List Member) : Option ((List Member)) :=
 chk ((0 : Nat) + a0.length ≤ (1000000000 : Nat)) (some ([] ++ a0))
def s64 (F : Nat) : CS E.G := ⟨64, [.sl 10], [.sl 10 27], fun x => slices_Clone_convoy_Member F x.1⟩
def cx64 (F : Nat) : Ctx E := ⟨[], [], F, [], []⟩
def h64 : Hint := .n
theorem e64n (F : Nat) (c : Nat) : fnK (E := E) (cx64 F) Tryd.f64 gl [.nl] [.sl 10 27] .n (c, ()) = some ([]) := by kernel_rfl
theorem e64s (F : Nat) (a0 : List Member) : fnK (E := E) (cx64 F) Tryd.f64 gl [.sn 10] [.sl 10 27] h64 (a0, ()) = slices_Clone_convoy_Member F a0 := by kernel_rfl
theorem c64 (F : Nat) : CSok E gl (s64 F) := ⟨en64, by
 have h0 := fn_sound (E := E) (gl := gl) (cx := cx64 F) mix all0 ⟨inl0, all0⟩ keys0 gl_up gl_lt hf64 (ps := [.nl]) (rs := [.sl 10 27]) (by decide) .n
 have h1 := fn_sound (E := E) (gl := gl) (cx := cx64 F) mix all0 ⟨inl0, all0⟩ keys0 gl_up gl_lt hf64 (ps := [.sn 10]) (rs := [.sl 10 27]) (by decide) h64
 rw [show fnK (E := E) (cx64 F) Tryd.f64 gl [.nl] [.sl 10 27] .n = (fun x : AT E.G.car [.nl] => some ([])) from funext fun x => e64n F x.1] at h0
 rw [show fnK (E := E) (cx64 F) Tryd.f64 gl [.sn 10] [.sl 10 27] h64 = (fun x : AT E.G.car [.sn 10] => slices_Clone_convoy_Member F x.1) from funext fun x => e64s F x.1] at h1
 exact contract_nil (E := E) (t := 10) (rs := [.sl 10 27]) (f := slices_Clone_convoy_Member F) (f0 := fun _ => some ([])) (f1 := slices_Clone_convoy_Member F) h0 h1 (fun _ _ h => (show slices_Clone_convoy_Member F [] = some [] by kernel_rfl).symm.trans h) (fun _ _ h => h)⟩
theorem hf46 : HF 46 Tryd.f46 := hK (by kernel_rfl)
def law05_CopyConvoy (F : Nat) (a0 : Convoy) : Option (Convoy) :=
 bnd (law05_copyMember F a0.Breaker) (fun (x : Member) => bnd (slices_Clone_convoy_Member F a0.Ships) (fun (x_1 : List (Member)) => loopC (fun (x_2 : (Int) × (List (Member))) => fun x_3 => brk (decide (x_2.1 < (↑(List.length x_1) : Int))) (chk (0 ≤ x_2.1 ∧ x_2.1 < (↑(List.length x_2.2) : Int)) (bnd (law05_copyMember F (List.getD x_2.2 (Int.toNat x_2.1) (Member.mk (Ship.mk 0 0 0 0 [] [] [] 0 0 0 0) [] (0 : Int) (0 : Int) (0 : Int)))) (fun (x_4 : Member) => chk (0 ≤ x_2.1 ∧ x_2.1 < (↑(List.length x_2.2) : Int)) (chk (InR (x_2.1 + 1)) (x_3 ((x_2.1 + 1, List.set x_2.2 (Int.toNat x_2.1) x_4))))))) (some (Convoy.mk x x_2.2 a0.Clear a0.Close))) (F) (((0 : Int), x_1))))
def s46 (F : Nat) : CS E.G := ⟨46, [.v 13 true], [.v 13 true [63, 63, 63, 63, 27]], fun x => law05_CopyConvoy F x.1⟩
theorem c46 (F : Nat) : CSok E gl (s46 F) := mkC (cx := ⟨[s63 F, s64 F], [], F, [], []⟩) hf46 (by kernel_rfl) rfl (allC (c63 F) (allC (c64 F) all0)) ⟨inl0, all0⟩ (.l ⟨[.i, .l 10], [16, 32, 224], [0, 6, 7, 12, 11, 10, 9, 8], [(240, .i IntKind.i64)], [], [], [(12, 27, 10)], 13⟩ .n) rfl (by kernel_rfl)
theorem hf23 : HF 23 Tryd.f23 := hK (by kernel_rfl)
def law05_Example (F : Nat) (a0 : Int) : Option (Convoy) :=
 bnd (law03_Example F) (fun (x : Ship) => loopC (fun (x_1 : (Int) × ((List (Member)) × ((List (Point)) × ((List (Point)) × ((List (Point)) × (List (Point))))))) => fun x_2 => brk (decide (x_1.1 < a0)) (chk (List.length x_1.2.1 + [Member.mk (Ship.mk x.Class x.Power x.Draught x.Tonnes x_1.2.2.2.2.2 x_1.2.2.2.2.1 x_1.2.2.2.1 x.Slow x.Brash x.Ridge x.Press) x_1.2.2.1 (120 : Int) (30 : Int) (100 : Int)].length ≤ (1000000000 : Nat)) (chk (InR (x_1.1 + 1)) (x_2 ((x_1.1 + 1, x_1.2.1 ++ [Member.mk (Ship.mk x.Class x.Power x.Draught x.Tonnes x_1.2.2.2.2.2 x_1.2.2.2.2.1 x_1.2.2.2.1 x.Slow x.Brash x.Ridge x.Press) x_1.2.2.1 (120 : Int) (30 : Int) (100 : Int)], x_1.2.2))))) (bnd (law05_CopyConvoy F (Convoy.mk (Member.mk (Ship.mk x.Class x.Power x.Draught x.Tonnes x_1.2.2.2.2.2 x_1.2.2.2.2.1 x_1.2.2.2.1 x.Slow x.Brash x.Ridge x.Press) x_1.2.2.1 (120 : Int) (30 : Int) (100 : Int)) x_1.2.1 (50 : Int) (Numbers.mk 60 4 2 0))) (fun (x_3 : Convoy) => some (x_3)))) (F) (((0 : Int), [], [Point.mk (0 : Int) (0 : Int), Point.mk (200 : Int) (1000 : Int)], x.Ice, x.Water, x.Thrust)))
def s23 (F : Nat) : CS E.G := ⟨23, [.v 0 false], [.v 13 true [63, 63, 63, 63, 27]], fun x => law05_Example F x.1⟩
theorem c23 (F : Nat) : CSok E gl (s23 F) := mkC (cx := ⟨[s45 F, s46 F], [], F, [], []⟩) hf23 (by kernel_rfl) rfl (allC (c45 F) (allC (c46 F) all0)) ⟨inl0, all0⟩ (.l ⟨[.i, .l 10, .l 7, .l 7, .l 7, .l 7], [32, 64, 48, 208], [0, 1, 7, 6], [(224, .i IntKind.i64)], [], [(7, 15, .h 8 27 10), (7, 11, .x 9 7), (7, 6, .x 10 7), (7, 5, .x 11 7), (7, 4, .x 12 7), (6, 11, .r 9), (6, 6, .r 10), (6, 5, .r 11), (6, 4, .r 12)], [], 13⟩ .n) rfl (by kernel_rfl)
theorem hf24 : HF 24 Tryd.f24 := hK (by kernel_rfl)
def convoy_Way (F : Nat) (a0 : Int) (a1 : Int) : Option (Int × Int × Int) :=
 bnd (convoy_within F a0 (0 : Int) (250 : Int)) (fun (x : Bool) => bnd (brk (!!x) (convoy_within F a1 (0 : Int) (100000 : Int)) (some false)) (fun (x_1 : Bool) => brk (!x || !x_1) (some (((0 : Int), (0 : Int), (6 : Int)))) (bnd (convoy_way F a0 a1) (fun (x_2 : (Int) × (Int)) => some ((x_2.1, x_2.2, (0 : Int)))))))
def s24 (F : Nat) : CS E.G := ⟨24, [.v 0 false, .v 0 false], [.v 0 false [], .v 0 false [], .v 0 false []], fun x => convoy_Way F x.1 x.2.1⟩
theorem c24 (F : Nat) : CSok E gl (s24 F) := mkC (cx := ⟨[s19 F, s47 F], [], F, [], []⟩) hf24 (by kernel_rfl) rfl (allC (c19 F) (allC (c47 F) all0)) ⟨inl0, all0⟩ .n rfl (by kernel_rfl)
theorem hf25 : HF 25 Tryd.f25 := hK (by kernel_rfl)
def convoy_Halt (F : Nat) (a0 : Member) (a1 : Int) : Option (Span × Int) :=
 bnd (convoy_right F a0) (fun (x : Int) => brk (x != (0 : Int)) (some ((Span.mk (0 : Int) (0 : Int), x))) (bnd (convoy_within F a1 (0 : Int) (250 : Int)) (fun (x_1 : Bool) => brk (!x_1) (some ((Span.mk (0 : Int) (0 : Int), (6 : Int)))) (bnd (convoy_Member_halt F a0 a1) (fun (x_2 : Span) => some ((x_2, (0 : Int))))))))
def s25 (F : Nat) : CS E.G := ⟨25, [.v 10 true, .v 0 false], [.v 14 true [], .v 0 false []], fun x => convoy_Halt F x.1 x.2.1⟩
theorem c25 (F : Nat) : CSok E gl (s25 F) := mkC (cx := ⟨[s19 F, s31 F, s48 F], [], F, [], []⟩) hf25 (by kernel_rfl) rfl (allC (c19 F) (allC (c31 F) (allC (c48 F) all0))) ⟨inl0, all0⟩ (.c .n .n) rfl (by kernel_rfl)
theorem hf26 : HF 26 Tryd.f26 := hK (by kernel_rfl)
def convoy_Gaps (F : Nat) (a0 : Convoy) (a1 : Int) : Option ((List Int) × Int) :=
 bnd (convoy_asked F a0 a1) (fun (x : Int) => brk (x != (0 : Int)) (some (([], x))) (bnd (convoy_Member_halt F a0.Breaker a1) (fun (x_1 : Span) => loopC (fun (x_2 : (Int) × ((List (Int)) × ((Int) × (Int)))) => fun x_3 => brk (decide (x_2.1 < (↑a0.Ships.length : Int))) (chk (0 ≤ x_2.1 ∧ x_2.1 < (↑a0.Ships.length : Int)) (bnd (convoy_Member_halt F (a0.Ships.getD (Int.toNat x_2.1) (Member.mk (Ship.mk 0 0 0 0 [] [] [] 0 0 0 0) [] (0 : Int) (0 : Int) (0 : Int))) a1) (fun (x_4 : Span) => chk (InR (x_4.Hi - x_2.2.2.2)) (chk (InR (a0.Clear + if x_4.Hi - x_2.2.2.2 > (0 : Int) then x_4.Hi - x_2.2.2.2 else (0 : Int))) (chk (List.length x_2.2.1 + [a0.Clear + if x_4.Hi - x_2.2.2.2 > (0 : Int) then x_4.Hi - x_2.2.2.2 else (0 : Int)].length ≤ (1000000000 : Nat)) (chk (InR (x_2.1 + 1)) (x_3 ((x_2.1 + 1, x_2.2.1 ++ [a0.Clear + if x_4.Hi - x_2.2.2.2 > (0 : Int) then x_4.Hi - x_2.2.2.2 else (0 : Int)], x_4.Hi, x_4.Lo))))))))) (some ((x_2.2.1, (0 : Int))))) (F) (((0 : Int), [], x_1.Hi, x_1.Lo)))))
def s26 (F : Nat) : CS E.G := ⟨26, [.v 13 true, .v 0 false], [.sl 0 3, .v 0 false []], fun x => convoy_Gaps F x.1 x.2.1⟩
theorem c26 (F : Nat) : CSok E gl (s26 F) := mkC (cx := ⟨[s40 F, s48 F], [(49, Tryd.f49)], F, [], []⟩) hf26 (by kernel_rfl) rfl (allC (c40 F) (allC (c48 F) all0)) ⟨(inlC hf49 en49 inl0), all0⟩ (.c .n (.p (.l ⟨[.i, .l 0, .i, .i], [16, 64, 320, 336], [0, 1, 3, 5, 2, 4, 6, 7, 8], [(352, .i IntKind.i64), (48, .h 9 3 0)], [], [(8, 1, .i IntKind.i64), (8, 0, .i IntKind.i64)], [], 10⟩ .n))) rfl (by kernel_rfl)
theorem hf27 : HF 27 Tryd.f27 := hK (by kernel_rfl)
def convoy_Open (F : Nat) (a0 : Convoy) (a1 : Int) (a2 : Int) : Option (Int × Int) :=
 bnd (convoy_asked F a0 a1) (fun (x : Int) => brk (x != (0 : Int)) (some (((0 : Int), x))) (bnd (convoy_within F a2 (0 : Int) (3 : Int)) (fun (x_1 : Bool) => brk (!x_1) (some (((0 : Int), (6 : Int)))) (chk (0 ≤ a2 ∧ a2 < (↑(4 : Nat) : Int)) (chk (InR ((60 : Int) * [a0.Close.a0, a0.Close.a1, a0.Close.a2, a0.Close.a3].getD a2.toNat 0)) (bnd (convoy_way F a1 ((60 : Int) * [a0.Close.a0, a0.Close.a1, a0.Close.a2, a0.Close.a3].getD a2.toNat 0)) (fun (x_2 : (Int) × (Int)) => some ((x_2.1, (0 : Int))))))))))
def s27 (F : Nat) : CS E.G := ⟨27, [.v 13 true, .v 0 false, .v 0 false], [.v 0 false [], .v 0 false []], fun x => convoy_Open F x.1 x.2.1 x.2.2.1⟩
theorem c27 (F : Nat) : CSok E gl (s27 F) := mkC (cx := ⟨[s19 F, s40 F, s47 F], [(50, Tryd.f50)], F, [], []⟩) hf27 (by kernel_rfl) rfl (allC (c19 F) (allC (c40 F) (allC (c47 F) all0))) ⟨(inlC hf50 en50 inl0), all0⟩ (.c .n (.c .n (.p .n))) rfl (by kernel_rfl)
theorem hf28 : HF 28 Tryd.f28 := hK (by kernel_rfl)
def convoy_Rest (F : Nat) (a0 : Convoy) (a1 : Int) (a2 : List Int) (a3 : Int) (a4 : List Int) : Option ((List Int) × Int) :=
 bnd (convoy_asked F a0 a1) (fun (x : Int) => brk (x != (0 : Int)) (some (([], x))) (bnd (brk (!(↑a2.length : Int) != (↑a0.Ships.length : Int)) (convoy_within F a3 (0 : Int) (↑a0.Ships.length : Int)) (some false)) (fun (x_1 : Bool) => chk ((!((↑a2.length : Int) != (↑a0.Ships.length : Int) || !x_1)) = true → InR ((↑a0.Ships.length : Int) - a3)) (chk ((!((↑a2.length : Int) != (↑a0.Ships.length : Int) || !x_1)) = true → InR ((↑a0.Ships.length : Int) - a3 + 1)) (brk ((↑a2.length : Int) != (↑a0.Ships.length : Int) || !x_1 || (↑a4.length : Int) != (↑a0.Ships.length : Int) - a3 + 1) (some (([], (1 : Int)))) (loopC (fun (x_2 : Int) => fun x_3 => brk (decide (x_2 < (↑a2.length : Int))) (chk (0 ≤ x_2 ∧ x_2 < (↑a2.length : Int)) (bnd (convoy_within F (a2.getD (Int.toNat x_2) 0) (0 : Int) (1000000 : Int)) (fun (x_4 : Bool) => brk (!x_4) (some (([], (6 : Int)))) (chk (InR (x_2 + 1)) (x_3 (x_2 + 1)))))) (chk ([a0.Breaker].length + a0.Ships.length ≤ (1000000000 : Nat)) (chk (0 ≤ a3 ∧ a3 ≤ (↑([a0.Breaker] ++ a0.Ships).length : Int) ∧ (↑([a0.Breaker] ++ a0.Ships).length : Int) ≤ (↑([a0.Breaker] ++ a0.Ships).length : Int)) (loopC (fun (x_4 : Int) => fun x_5 => brk (decide (x_4 < (↑a4.length : Int))) (chk (0 ≤ x_4 ∧ x_4 < (↑a4.length : Int)) (chk (0 ≤ x_4 ∧ x_4 < (↑([a0.Breaker] ++ a0.Ships).length : Int) - a3) (bnd (convoy_Member_halt F (([a0.Breaker] ++ a0.Ships).getD (a3 + x_4).toNat (Member.mk (Ship.mk 0 0 0 0 [] [] [] 0 0 0 0) [] (0 : Int) (0 : Int) (0 : Int))) a1) (fun (x_6 : Span) => brk (decide (a4.getD (Int.toNat x_4) 0 < x_6.Lo) || decide (a4.getD (Int.toNat x_4) 0 > x_6.Hi)) (some (([], (61 : Int)))) (chk (InR (x_4 + 1)) (x_5 (x_4 + 1))))))) (loopC (fun (x_6 : (Int) × (List (Int))) => fun x_7 => brk (decide (x_6.1 < (↑a4.length : Int))) (chk (InR (a3 + x_6.1)) (chk (InR (a3 + x_6.1 - 1)) (chk (0 ≤ a3 + x_6.1 - 1 ∧ a3 + x_6.1 - 1 < (↑a2.length : Int)) (chk (InR (x_6.1 - 1)) (chk (0 ≤ x_6.1 - 1 ∧ x_6.1 - 1 < (↑a4.length : Int)) (chk (InR (a2.getD (a3 + x_6.1 - 1).toNat (0 : Int) + a4.getD (x_6.1 - 1).toNat (0 : Int))) (chk (0 ≤ x_6.1 ∧ x_6.1 < (↑a4.length : Int)) (chk (InR (a2.getD (a3 + x_6.1 - 1).toNat (0 : Int) + a4.getD (x_6.1 - 1).toNat (0 : Int) - a4.getD (Int.toNat x_6.1) 0)) (chk (List.length x_6.2 + [a2.getD (a3 + x_6.1 - 1).toNat (0 : Int) + a4.getD (x_6.1 - 1).toNat (0 : Int) - a4.getD (Int.toNat x_6.1) 0].length ≤ (1000000000 : Nat)) (chk (InR (x_6.1 + 1)) (x_7 ((x_6.1 + 1, x_6.2 ++ [a2.getD (a3 + x_6.1 - 1).toNat (0 : Int) + a4.getD (x_6.1 - 1).toNat (0 : Int) - a4.getD (Int.toNat x_6.1) 0]))))))))))))) (some ((x_6.2, (0 : Int))))) (F) (((1 : Int), [])))) (F) ((0 : Int)))))) (F) ((0 : Int))))))))
def s28 (F : Nat) : CS E.G := ⟨28, [.v 13 true, .v 0 false, .sl 0, .v 0 false, .sl 0], [.sl 0 3, .v 0 false []], fun x => convoy_Rest F x.1 x.2.1 x.2.2.1 x.2.2.2.1 x.2.2.2.2.1⟩
theorem c28 (F : Nat) : CSok E gl (s28 F) := mkC (cx := ⟨[s19 F, s40 F, s48 F], [(44, Tryd.f44)], F, [], []⟩) hf28 (by kernel_rfl) rfl (allC (c19 F) (allC (c40 F) (allC (c48 F) all0))) ⟨(inlC hf44 en44 inl0), all0⟩ (.c .n (.c .n (.l ⟨[.i], [16, 32, 64, 832, 48, 80, 848], [0, 6, 7, 8, 5, 4, 3, 2, 1], [(864, .i IntKind.i64)], [], [], [], 9⟩ (.c .n (.p (.l ⟨[.i], [16, 32, 64, 1056, 48, 1040, 240], [0, 6, 7, 10], [(1072, .i IntKind.i64)], [], [], [], 11⟩ (.c .n (.l ⟨[.i, .l 0], [32, 64, 48], [0, 6, 7], [(320, .i IntKind.i64), (304, .h 11 3 0)], [], [], [], 12⟩ .n)))))))) rfl (by kernel_rfl)
theorem hf29 : HF 29 Tryd.f29 := hK (by kernel_rfl)
def law03_Level (F : Nat) (a0 : Int) (a1 : Int) : Option (Cell) :=
 some (Cell.mk (Span.mk 100 100) (Span.mk a0 a1) (Span.mk 0 0) (Span.mk 0 0))
def s29 (F : Nat) : CS E.G := ⟨29, [.v 0 false, .v 0 false], [.v 15 true []], fun x => law03_Level F x.1 x.2.1⟩
theorem c29 (F : Nat) : CSok E gl (s29 F) := mkC (cx := ⟨[], [], F, [], []⟩) hf29 (by kernel_rfl) rfl all0 ⟨inl0, all0⟩ .n rfl (by kernel_rfl)
theorem hf30 : HF 30 Tryd.f30 := hK (by kernel_rfl)
def slices_Equal_int (F : Nat) (a0 : List Int) (a1 : List Int) : Option (Bool) :=
 brk ((↑a0.length : Int) != (↑a1.length : Int)) (some (false)) (loopC (fun (x : Int) => fun x_1 => brk (decide (x < (↑a0.length : Int))) (chk (0 ≤ x ∧ x < (↑a0.length : Int)) (chk (0 ≤ x ∧ x < (↑a1.length : Int)) (brk (a0.getD (Int.toNat x) 0 != a1.getD (Int.toNat x) 0) (some (false)) (chk (InR (x + 1)) (x_1 (x + 1)))))) (some (true))) (F) ((0 : Int)))
def s30 (F : Nat) : CS E.G := ⟨30, [.sl 0, .sl 0], [.v 1 false []], fun x => slices_Equal_int F x.1 x.2.1⟩
theorem c30 (F : Nat) : CSok E gl (s30 F) := mkC (cx := ⟨[], [], F, [], []⟩) hf30 (by kernel_rfl) rfl all0 ⟨inl0, all0⟩ (.c .n (.l ⟨[.i], [0, 16, 192], [0, 1, 2], [(208, .i IntKind.i64)], [], [], [], 3⟩ (.c .n .n))) rfl (by kernel_rfl)
theorem hf7 : HF 7 Tryd.f7 := hK (by kernel_rfl)
def law05_awake (F : Nat) : Option (Bool) :=
 bnd (law05_Example F (2 : Int)) (fun (x : Convoy) => bnd (convoy_Way F (100 : Int) (60 : Int)) (fun (x_1 : (Int) × ((Int) × (Int))) => bnd (convoy_Halt F x.Breaker (10 : Int)) (fun (x_2 : (Span) × (Int)) => bnd (convoy_Gaps F x (100 : Int)) (fun (x_3 : (List (Int)) × (Int)) => bnd (convoy_Tail F x (100 : Int)) (fun (x_4 : (Int) × (Int)) => bnd (convoy_Open F x (100 : Int) (1 : Int)) (fun (x_5 : (Int) × (Int)) => bnd (convoy_Rest F x (100 : Int) [(605 : Int), (605 : Int)] (0 : Int) [(100 : Int), (655 : Int), (300 : Int)]) (fun (x_6 : (List (Int)) × (Int)) => bnd (law03_Level F (40 : Int) (60 : Int)) (fun (x_7 : Cell) => bnd (convoy_Fastest F x x_7) (fun (x_8 : (Int) × (Int)) => brk (x_1.2.2 == (0 : Int) && x_2.2 == (0 : Int) && x_3.2 == (0 : Int) && x_4.2 == (0 : Int) && x_5.2 == (0 : Int) && x_6.2 == (0 : Int) && x_8.2 == (0 : Int) && x_1.1 == (308 : Int) && x_1.2.1 == (309 : Int)) (brk (x_2.1.Lo == (50 : Int) && (x_2.1.Hi == (66 : Int) && true)) (bnd (slices_Equal_int F x_3.1 [(605 : Int), (605 : Int)]) (fun (x_9 : Bool) => brk (x_9) (brk (x_4.1 == (1450 : Int)) (brk (x_5.1 == (1234 : Int)) (bnd (slices_Equal_int F x_6.1 [(50 : Int), (960 : Int)]) (fun (x_10 : Bool) => some (x_10 && x_8.1 == (130 : Int)))) (some (false))) (some (false))) (some (false)))) (some (false))) (some (false)))))))))))
def s7 (F : Nat) : CS E.G := ⟨7, [], [.v 1 false []], fun x => law05_awake F⟩
theorem c7 (F : Nat) : CSok E gl (s7 F) := mkC (cx := ⟨[s12 F, s13 F, s23 F, s24 F, s25 F, s26 F, s27 F, s28 F, s29 F, s30 F], [], F, [], []⟩) hf7 (by kernel_rfl) rfl (allC (c12 F) (allC (c13 F) (allC (c23 F) (allC (c24 F) (allC (c25 F) (allC (c26 F) (allC (c27 F) (allC (c28 F) (allC (c29 F) (allC (c30 F) all0)))))))))) ⟨inl0, all0⟩ (.k (.k (.k (.k (.k (.k (.k (.k (.k (.k (.k (.k (.k (.k (.k (.k (.k (.k (.k (.k (.k (.k (.k (.k (.k (.k (.s (.s (.s (.s (.s .n .n) .n) .n) .n) .n))))))))))))))))))))))))))) rfl (by kernel_rfl)
theorem hf8 : HF 8 Tryd.f8 := hK (by kernel_rfl)
def convoy_Join (F : Nat) (a0 : Convoy) (a1 : Member) (a2 : Int) : Option (Convoy × Int) :=
 bnd (convoy_Check F a0) (fun (x : Int) => brk (x != (0 : Int)) (some ((Convoy.mk (Member.mk (Ship.mk 0 0 0 0 [] [] [] 0 0 0 0) [] (0 : Int) (0 : Int) (0 : Int)) [] (0 : Int) (Numbers.mk 0 0 0 0), x))) (bnd (convoy_right F a1) (fun (x_1 : Int) => brk (x_1 != (0 : Int)) (some ((Convoy.mk (Member.mk (Ship.mk 0 0 0 0 [] [] [] 0 0 0 0) [] (0 : Int) (0 : Int) (0 : Int)) [] (0 : Int) (Numbers.mk 0 0 0 0), x_1))) (bnd (convoy_within F a2 (0 : Int) (↑a0.Ships.length : Int)) (fun (x_2 : Bool) => brk (!x_2) (some ((Convoy.mk (Member.mk (Ship.mk 0 0 0 0 [] [] [] 0 0 0 0) [] (0 : Int) (0 : Int) (0 : Int)) [] (0 : Int) (Numbers.mk 0 0 0 0), (1 : Int)))) (brk ((↑a0.Ships.length : Int) == (6 : Int)) (some ((Convoy.mk (Member.mk (Ship.mk 0 0 0 0 [] [] [] 0 0 0 0) [] (0 : Int) (0 : Int) (0 : Int)) [] (0 : Int) (Numbers.mk 0 0 0 0), (2 : Int)))) (bnd (convoy_numbers F (↑a0.Ships.length : Int)) (fun (x_3 : List (Int)) => bnd (convoy_Member_own F a0.Breaker) (fun (x_4 : Member) => loopC (fun (x_5 : (Int) × (List (Member))) => fun x_6 => brk (decide (x_5.1 < (↑(List.length x_3) : Int))) (chk (0 ≤ x_5.1 ∧ x_5.1 < (↑(List.length x_3) : Int)) (chk ((0 : Int) ≤ List.getD x_3 (Int.toNat x_5.1) (0 : Int) ∧ List.getD x_3 (Int.toNat x_5.1) (0 : Int) < (↑a0.Ships.length : Int)) (bnd (convoy_Member_own F (a0.Ships.getD (Int.toNat (List.getD x_3 (Int.toNat x_5.1) (0 : Int))) (Member.mk (Ship.mk 0 0 0 0 [] [] [] 0 0 0 0) [] (0 : Int) (0 : Int) (0 : Int)))) (fun (x_7 : Member) => chk (List.length x_5.2 + [x_7].length ≤ (1000000000 : Nat)) (chk (InR (x_5.1 + 1)) (x_6 ((x_5.1 + 1, x_5.2 ++ [x_7])))))))) (bnd (convoy_Member_own F a1) (fun (x_7 : Member) => chk (0 ≤ a2 ∧ a2 ≤ (↑(List.length x_5.2) : Int) ∧ (0 : Nat) < [x_7].length ∧ List.length x_5.2 + [x_7].length ≤ (1000000 : Nat)) (some ((Convoy.mk x_4 (insL x_5.2 a2.toNat [x_7]) a0.Clear a0.Close, (0 : Int))))))) (F) (((0 : Int), [])))))))))))
def s8 (F : Nat) : CS E.G := ⟨8, [.v 13 true, .v 10 true, .v 0 false], [.v 13 true [63, 63, 63, 63, 27], .v 0 false []], fun x => convoy_Join F x.1 x.2.1 x.2.2.1⟩
theorem c8 (F : Nat) : CSok E gl (s8 F) := mkC (cx := ⟨[s18 F, s19 F, s33 F, s22 F, s31 F], [(20, Tryd.f20)], F, [], [⟨32, 10, 27, fun _ => none, true⟩]⟩) hf8 (by kernel_rfl) rfl (allC (c18 F) (allC (c19 F) (allC (c33 F) (allC (c22 F) (allC (c31 F) all0))))) ⟨(inlC hf20 en20 inl0), (allC (sok32 F) all0)⟩ (.c .n (.c .n (.c .n (.c .n (.p (.l ⟨[.i, .l 10], [0, 64, 288, 80, 304], [0, 1, 3, 5, 13, 2, 4, 10, 14, 15, 19, 18, 17, 16], [(320, .i IntKind.i64)], [], [(15, 15, .h 20 27 10)], [], 21⟩ (.c .n (.p .n)))))))) rfl (by kernel_rfl)
theorem hf71 : HF 71 Tryd.f71 := hK (by kernel_rfl)
def law03_points (F : Nat) (a0 : List Point) : Option ((List Point)) :=
 loopC (fun (x : (Int) × (List (Point))) => fun x_1 => brk (decide (x.1 < (↑a0.length : Int))) (chk (0 ≤ x.1 ∧ x.1 < (↑a0.length : Int)) (chk (List.length x.2 + [a0.getD (Int.toNat x.1) (Point.mk 0 0)].length ≤ (1000000000 : Nat)) (chk (InR (x.1 + 1)) (x_1 ((x.1 + 1, x.2 ++ [a0.getD (Int.toNat x.1) (Point.mk 0 0)])))))) (some (x.2))) (F) (((0 : Int), []))
def s71 (F : Nat) : CS E.G := ⟨71, [.sl 7], [.sl 7 116], fun x => law03_points F x.1⟩
theorem c71 (F : Nat) : CSok E gl (s71 F) := mkC (cx := ⟨[], [], F, [], []⟩) hf71 (by kernel_rfl) rfl all0 ⟨inl0, all0⟩ (.l ⟨[.i, .l 7], [96, 112], [0, 1], [(128, .i IntKind.i64), (48, .h 2 116 7)], [], [], [], 3⟩ .n) rfl (by kernel_rfl)
theorem hf60 : HF 60 Tryd.f60 := hK (by kernel_rfl)
def law03_Ship (F : Nat) (a0 : Ship) : Option (Ship2) :=
 bnd (law03_points F a0.Thrust) (fun (x : List (Point)) => bnd (law03_points F a0.Water) (fun (x_1 : List (Point)) => bnd (law03_points F a0.Ice) (fun (x_2 : List (Point)) => some (Ship2.mk a0.Class a0.Power a0.Draught a0.Tonnes x x_1 x_2 a0.Slow a0.Brash a0.Ridge a0.Press))))
def s60 (F : Nat) : CS E.G := ⟨60, [.v 9 true], [.v 17 true [116, 116, 116]], fun x => law03_Ship F x.1⟩
theorem c60 (F : Nat) : CSok E gl (s60 F) := mkC (cx := ⟨[s71 F], [], F, [], []⟩) hf60 (by kernel_rfl) rfl (allC (c71 F) all0) ⟨inl0, all0⟩ .n rfl (by kernel_rfl)
theorem hf36 : HF 36 Tryd.f36 := hK (by kernel_rfl)
def law05_member (F : Nat) (a0 : Member) : Option (Member2) :=
 loopC (fun (x : (List (Point)) × (Int)) => fun x_1 => brk (decide (x.2 < (↑a0.Stop.length : Int))) (chk (0 ≤ x.2 ∧ x.2 < (↑a0.Stop.length : Int)) (chk (List.length x.1 + [a0.Stop.getD (Int.toNat x.2) (Point.mk 0 0)].length ≤ (1000000000 : Nat)) (chk (InR (x.2 + 1)) (x_1 ((x.1 ++ [a0.Stop.getD (Int.toNat x.2) (Point.mk 0 0)], x.2 + 1)))))) (bnd (law03_Ship F a0.Ship) (fun (x_2 : Ship2) => some (Member2.mk x_2 x.1 a0.Length a0.Delay a0.Short)))) (F) (([], (0 : Int)))
def s36 (F : Nat) : CS E.G := ⟨36, [.v 10 true], [.v 18 true [116, 116, 116, 116]], fun x => law05_member F x.1⟩
theorem c36 (F : Nat) : CSok E gl (s36 F) := mkC (cx := ⟨[s60 F], [], F, [], []⟩) hf36 (by kernel_rfl) rfl (allC (c60 F) all0) ⟨inl0, all0⟩ (.l ⟨[.l 7, .i], [16, 32, 128, 112], [0, 5, 6, 4, 3, 2, 1], [(48, .h 7 116 7), (144, .i IntKind.i64)], [], [], [], 8⟩ .n) rfl (by kernel_rfl)
theorem hf59 : HF 59 Tryd.f59 := hK (by kernel_rfl)
def slices_Equal_polynyaref03_Point (F : Nat) (a0 : List Point) (a1 : List Point) : Option (Bool) :=
 brk ((↑a0.length : Int) != (↑a1.length : Int)) (some (false)) (loopC (fun (x : Int) => fun x_1 => brk (decide (x < (↑a0.length : Int))) (chk (0 ≤ x ∧ x < (↑a0.length : Int)) (chk (0 ≤ x ∧ x < (↑a1.length : Int)) (brk (!((a0.getD (Int.toNat x) (Point.mk 0 0)).X == (a1.getD (Int.toNat x) (Point.mk 0 0)).X && ((a0.getD (Int.toNat x) (Point.mk 0 0)).Y == (a1.getD (Int.toNat x) (Point.mk 0 0)).Y && true))) (some (false)) (chk (InR (x + 1)) (x_1 (x + 1)))))) (some (true))) (F) ((0 : Int)))
def s59 (F : Nat) : CS E.G := ⟨59, [.sl 7, .sl 7], [.v 1 false []], fun x => slices_Equal_polynyaref03_Point F x.1 x.2.1⟩
theorem c59 (F : Nat) : CSok E gl (s59 F) := mkC (cx := ⟨[], [], F, [], []⟩) hf59 (by kernel_rfl) rfl all0 ⟨inl0, all0⟩ (.c .n (.l ⟨[.i], [0, 16, 192], [0, 1, 2], [(208, .i IntKind.i64)], [], [], [], 3⟩ (.c .n .n))) rfl (by kernel_rfl)
theorem hf34 : HF 34 Tryd.f34 := hK (by kernel_rfl)
def law05_same (F : Nat) (a0 : Member) (a1 : Member2) : Option (Bool) :=
 bnd (law05_member F a0) (fun (x : Member2) => bnd (slices_Equal_polynyaref03_Point F x.Stop a1.Stop) (fun (x_1 : Bool) => bnd (brk (!!x_1) (slices_Equal_polynyaref03_Point F x.Ship.Thrust a1.Ship.Thrust) (some false)) (fun (x_2 : Bool) => bnd (brk (!(!x_1 || !x_2)) (slices_Equal_polynyaref03_Point F x.Ship.Water a1.Ship.Water) (some false)) (fun (x_3 : Bool) => bnd (brk (!(!x_1 || !x_2 || !x_3)) (slices_Equal_polynyaref03_Point F x.Ship.Ice a1.Ship.Ice) (some false)) (fun (x_4 : Bool) => brk (!x_1 || !x_2 || !x_3 || !x_4) (some (false)) (brk (x.Ship.Class != a1.Ship.Class || x.Ship.Power != a1.Ship.Power || x.Ship.Draught != a1.Ship.Draught || x.Ship.Tonnes != a1.Ship.Tonnes || x.Ship.Slow != a1.Ship.Slow || x.Ship.Brash != a1.Ship.Brash || x.Ship.Ridge != a1.Ship.Ridge || x.Ship.Press != a1.Ship.Press) (some (false)) (some (x.Length == a1.Length && x.Delay == a1.Delay && x.Short == a1.Short))))))))
def s34 (F : Nat) : CS E.G := ⟨34, [.v 10 true, .v 18 true], [.v 1 false []], fun x => law05_same F x.1 x.2.1⟩
theorem c34 (F : Nat) : CSok E gl (s34 F) := mkC (cx := ⟨[s36 F, s59 F], [], F, [], []⟩) hf34 (by kernel_rfl) rfl (allC (c36 F) (allC (c59 F) all0)) ⟨inl0, all0⟩ (.c .n .n) rfl (by kernel_rfl)
theorem hf35 : HF 35 Tryd.f35 := hK (by kernel_rfl)
theorem en35 : Proofs.Enters Tryd.prog 35 := mkE hf35 (by kernel_rfl) rfl
theorem hf9 : HF 9 Tryd.f9 := hK (by kernel_rfl)
def law05_alike (F : Nat) (a0 : Convoy) (a1 : Convoy2) : Option (Bool) :=
 brk (a0.Clear == a1.Clear) (brk (a0.Close.a0 == a1.Close.a0 && (a0.Close.a1 == a1.Close.a1 && (a0.Close.a2 == a1.Close.a2 && (a0.Close.a3 == a1.Close.a3 && true)))) (bnd (law05_same F a0.Breaker a1.Breaker) (fun (x : Bool) => brk (x) (join (F) (fun (x_1 : Bool) => some (x_1)) (fun x_1 => brk ((↑a0.Ships.length : Int) != (↑a1.Ships.length : Int)) (x_1 (false)) (loopC (fun (x_2 : Int) => fun x_3 => brk (decide (x_2 < (↑a0.Ships.length : Int))) (chk (0 ≤ x_2 ∧ x_2 < (↑a0.Ships.length : Int)) (chk (0 ≤ x_2 ∧ x_2 < (↑a1.Ships.length : Int)) (bnd (law05_same F (a0.Ships.getD (Int.toNat x_2) (Member.mk (Ship.mk 0 0 0 0 [] [] [] 0 0 0 0) [] (0 : Int) (0 : Int) (0 : Int))) (a1.Ships.getD (Int.toNat x_2) (Member2.mk (Ship2.mk 0 0 0 0 [] [] [] 0 0 0 0) [] (0 : Int) (0 : Int) (0 : Int)))) (fun (x_4 : Bool) => brk (!x_4) (x_1 (false)) (chk (InR (x_2 + 1)) (x_3 (x_2 + 1))))))) (x_1 (true))) (F) ((0 : Int))))) (some (false)))) (some (false))) (some (false))
def s9 (F : Nat) : CS E.G := ⟨9, [.v 13 true, .v 20 true], [.v 1 false []], fun x => law05_alike F x.1 x.2.1⟩
theorem c9 (F : Nat) : CSok E gl (s9 F) := mkC (cx := ⟨[s34 F], [(35, Tryd.f35)], F, [], []⟩) hf9 (by kernel_rfl) rfl (allC (c34 F) all0) ⟨(inlC hf35 en35 inl0), all0⟩ (.s (.s (.s (.w ⟨[.b], [], [0, 5, 10], [(0, .b)], [], [], [], 13⟩ (.c .n (.l ⟨[.i], [16, 32, 256, 240], [0, 5, 10], [(272, .i IntKind.i64)], [], [], [], 13⟩ (.c .n .n))) .n) .n) .n) .n) rfl (by kernel_rfl)
theorem hf10 : HF 10 Tryd.f10 := hK (by kernel_rfl)
def law05_Convoy (F : Nat) (a0 : Convoy) : Option (Convoy2) :=
 bnd (law05_member F a0.Breaker) (fun (x : Member2) => loopC (fun (x_1 : (Int) × (List (Member2))) => fun x_2 => brk (decide (x_1.1 < (↑a0.Ships.length : Int))) (chk (0 ≤ x_1.1 ∧ x_1.1 < (↑a0.Ships.length : Int)) (bnd (law05_member F (a0.Ships.getD (Int.toNat x_1.1) (Member.mk (Ship.mk 0 0 0 0 [] [] [] 0 0 0 0) [] (0 : Int) (0 : Int) (0 : Int)))) (fun (x_3 : Member2) => chk (List.length x_1.2 + [x_3].length ≤ (1000000000 : Nat)) (chk (InR (x_1.1 + 1)) (x_2 ((x_1.1 + 1, x_1.2 ++ [x_3]))))))) (some (Convoy2.mk x x_1.2 a0.Clear a0.Close))) (F) (((0 : Int), [])))
def s10 (F : Nat) : CS E.G := ⟨10, [.v 13 true], [.v 20 true [116, 116, 116, 116, 48]], fun x => law05_Convoy F x.1⟩
theorem c10 (F : Nat) : CSok E gl (s10 F) := mkC (cx := ⟨[s36 F], [], F, [], []⟩) hf10 (by kernel_rfl) rfl (allC (c36 F) all0) ⟨inl0, all0⟩ (.l ⟨[.i, .l 18], [32, 256, 48, 240], [0, 7, 12, 5, 11, 10, 9, 8], [(272, .i IntKind.i64)], [], [(12, 15, .h 13 48 18)], [], 14⟩ .n) rfl (by kernel_rfl)
theorem hf11 : HF 11 Tryd.f11 := hK (by kernel_rfl)
def convoy_Holds (F : Nat) (a0 : Convoy) (a1 : Cell) (a2 : Int) : Option (Bool × Int) :=
 bnd (convoy_met F a0 a1) (fun (x : Int) => brk (x != (0 : Int)) (some ((false, x))) (bnd (convoy_within F a2 (0 : Int) (250 : Int)) (fun (x_1 : Bool) => brk (!x_1) (some ((false, (6 : Int)))) (brk (decide (a2 ≥ (10 : Int))) (bnd (convoy_Convoy_most F a0 a1) (fun (x_2 : Int) => brk (decide (a2 ≤ x_2)) (bnd (convoy_Member_halt F a0.Breaker a2) (fun (x_3 : Span) => loopC (fun (x_4 : (Int) × ((List (Int)) × ((Int) × (Int)))) => fun x_5 => brk (decide (x_4.1 < (↑a0.Ships.length : Int))) (chk (0 ≤ x_4.1 ∧ x_4.1 < (↑a0.Ships.length : Int)) (bnd (convoy_Member_halt F (a0.Ships.getD (Int.toNat x_4.1) (Member.mk (Ship.mk 0 0 0 0 [] [] [] 0 0 0 0) [] (0 : Int) (0 : Int) (0 : Int))) a2) (fun (x_6 : Span) => chk (InR (x_6.Hi - x_4.2.2.2)) (chk (InR (a0.Clear + if x_6.Hi - x_4.2.2.2 > (0 : Int) then x_6.Hi - x_4.2.2.2 else (0 : Int))) (chk (List.length x_4.2.1 + [a0.Clear + if x_6.Hi - x_4.2.2.2 > (0 : Int) then x_6.Hi - x_4.2.2.2 else (0 : Int)].length ≤ (1000000000 : Nat)) (chk (InR (x_4.1 + 1)) (x_5 ((x_4.1 + 1, x_4.2.1 ++ [a0.Clear + if x_6.Hi - x_4.2.2.2 > (0 : Int) then x_6.Hi - x_4.2.2.2 else (0 : Int)], x_6.Hi, x_6.Lo))))))))) (loopC (fun (x_6 : (Int) × (Int)) => fun x_7 => brk (decide (x_6.2 < (↑(List.length x_4.2.1) : Int))) (chk (0 ≤ x_6.2 ∧ x_6.2 < (↑(List.length x_4.2.1) : Int)) (chk (0 ≤ x_6.2 ∧ x_6.2 < (↑a0.Ships.length : Int)) (chk (InR (List.getD x_4.2.1 (Int.toNat x_6.2) (0 : Int) + (a0.Ships.getD (Int.toNat x_6.2) (Member.mk (Ship.mk 0 0 0 0 [] [] [] 0 0 0 0) [] (0 : Int) (0 : Int) (0 : Int))).Length)) (chk (InR (x_6.1 + (List.getD x_4.2.1 (Int.toNat x_6.2) (0 : Int) + (a0.Ships.getD (Int.toNat x_6.2) (Member.mk (Ship.mk 0 0 0 0 [] [] [] 0 0 0 0) [] (0 : Int) (0 : Int) (0 : Int))).Length))) (chk (InR (x_6.2 + 1)) (x_7 ((x_6.1 + (List.getD x_4.2.1 (Int.toNat x_6.2) (0 : Int) + (a0.Ships.getD (Int.toNat x_6.2) (Member.mk (Ship.mk 0 0 0 0 [] [] [] 0 0 0 0) [] (0 : Int) (0 : Int) (0 : Int))).Length), x_6.2 + 1)))))))) (chk (0 ≤ a1.Press.Hi ∧ a1.Press.Hi < (↑(4 : Nat) : Int)) (chk (InR ((60 : Int) * [a0.Close.a0, a0.Close.a1, a0.Close.a2, a0.Close.a3].getD a1.Press.Hi.toNat 0)) (bnd (convoy_way F a2 ((60 : Int) * [a0.Close.a0, a0.Close.a1, a0.Close.a2, a0.Close.a3].getD a1.Press.Hi.toNat 0)) (fun (x_8 : (Int) × (Int)) => some ((decide (x_6.1 ≤ x_8.1), (0 : Int)))))))) (F) (((0 : Int), (0 : Int))))) (F) (((0 : Int), [], x_3.Hi, x_3.Lo)))) (some ((false, (0 : Int)))))) (some ((false, (0 : Int))))))))
def s11 (F : Nat) : CS E.G := ⟨11, [.v 13 true, .v 15 true, .v 0 false], [.v 1 false [], .v 0 false []], fun x => convoy_Holds F x.1 x.2.1 x.2.2.1⟩
theorem c11 (F : Nat) : CSok E gl (s11 F) := mkC (cx := ⟨[s19 F, s37 F, s38 F, s48 F, s47 F], [(39, Tryd.f39), (41, Tryd.f41), (49, Tryd.f49), (50, Tryd.f50)], F, [], []⟩) hf11 (by kernel_rfl) rfl (allC (c19 F) (allC (c37 F) (allC (c38 F) (allC (c48 F) (allC (c47 F) all0))))) ⟨(inlC hf39 en39 (inlC hf41 en41 (inlC hf49 en49 (inlC hf50 en50 inl0)))), all0⟩ (.c .n (.c .n (.s (.s (.p (.p (.p (.l ⟨[.i, .l 0, .i, .i], [16, 64, 320, 336], [0, 1, 3, 5, 2, 4, 6, 10, 11], [(352, .i IntKind.i64), (48, .h 12 3 0)], [], [(11, 1, .i IntKind.i64), (11, 0, .i IntKind.i64)], [], 13⟩ (.c .n (.l ⟨[.i, .i], [16, 128, 112], [0, 1, 3, 5, 2, 4, 6, 9, 12], [(48, .i IntKind.i64), (144, .i IntKind.i64)], [], [], [], 13⟩ (.c .n (.p .n)))))))) .n) .n))) rfl (by kernel_rfl)
theorem hf3 : HF 3 Tryd.f3 := hK (by kernel_rfl)
def law05_ConvoyLeft (F : Nat) (a0 : List Int) (a1 : List Int) (a2 : Int) (a3 : Int) : Option (Bool) :=
 bnd (law05_Made F a0 (5 : Int)) (fun (x : Convoy) => bnd (law03_Frozen F a1) (fun (x_1 : Cell) => brk ((↑x.Ships.length : Int) == (0 : Int)) (bnd (convoy_Leave F x (0 : Int)) (fun (x_2 : (Convoy) × (Int)) => bnd (brk (x_2.2 == (1 : Int)) (law05_awake F) (some false)) (fun (x_3 : Bool) => some (x_2.2 == (1 : Int) && x_3)))) (chk (InR a2) (chk ((0 ≤ a2 ∧ a2 ≤ 9223372036854775807) ∧ (0 : Int) < (↑x.Ships.length : Int)) (bnd (convoy_Leave F x (a2 % (↑x.Ships.length : Int))) (fun (x_2 : (Convoy) × (Int)) => chk ((!x_2.2 != (0 : Int)) = true → InR ((↑x.Ships.length : Int) - (1 : Int))) (brk (x_2.2 != (0 : Int) || (↑x_2.1.Ships.length : Int) != (↑x.Ships.length : Int) - (1 : Int)) (some (false)) (chk (0 ≤ a2 % (↑x.Ships.length : Int) ∧ a2 % (↑x.Ships.length : Int) < (↑x.Ships.length : Int)) (bnd (convoy_Join F x_2.1 (x.Ships.getD (a2 % (↑x.Ships.length : Int)).toNat (Member.mk (Ship.mk 0 0 0 0 [] [] [] 0 0 0 0) [] (0 : Int) (0 : Int) (0 : Int))) (a2 % (↑x.Ships.length : Int))) (fun (x_3 : (Convoy) × (Int)) => brk (x_3.2 != (0 : Int)) (some (false)) (bnd (law05_Convoy F x) (fun (x_4 : Convoy2) => bnd (law05_alike F x_3.1 x_4) (fun (x_5 : Bool) => brk (!x_5) (some (false)) (chk (InR a3) (chk (0 ≤ a3 ∧ a3 ≤ 9223372036854775807) (bnd (convoy_Holds F x x_1 (a3 % (251 : Int))) (fun (x_6 : (Bool) × (Int)) => bnd (convoy_Holds F x_2.1 x_1 (a3 % (251 : Int))) (fun (x_7 : (Bool) × (Int)) => bnd (convoy_Tail F x (a3 % (251 : Int))) (fun (x_8 : (Int) × (Int)) => bnd (convoy_Tail F x_2.1 (a3 % (251 : Int))) (fun (x_9 : (Int) × (Int)) => brk (x_6.2 != (0 : Int) || x_7.2 != (0 : Int) || x_8.2 != (0 : Int) || x_9.2 != (0 : Int) || x_6.1 && !x_7.1 || decide (x_9.1 > x_8.1)) (some (false)) (bnd (convoy_Fastest F x x_1) (fun (x_10 : (Int) × (Int)) => bnd (convoy_Fastest F x_2.1 x_1) (fun (x_11 : (Int) × (Int)) => bnd (brk (x_10.2 != (0 : Int) || x_11.2 == (0 : Int) && decide (x_11.1 ≥ x_10.1)) (law05_awake F) (some false)) (fun (x_12 : Bool) => some ((x_10.2 != (0 : Int) || x_11.2 == (0 : Int) && decide (x_11.1 ≥ x_10.1)) && x_12)))))))))))))))))))))))))
def s3 (F : Nat) : CS E.G := ⟨3, [.sl 2, .sl 2, .v 2 false, .v 2 false], [.v 1 false []], fun x => law05_ConvoyLeft F x.1 x.2.1 x.2.2.1 x.2.2.2.1⟩
theorem c3 (F : Nat) : CSok E gl (s3 F) := mkC (cx := ⟨[s4 F, s5 F, s6 F, s7 F, s8 F, s9 F, s10 F, s11 F, s12 F, s13 F], [], F, [], []⟩) hf3 (by kernel_rfl) rfl (allC (c4 F) (allC (c5 F) (allC (c6 F) (allC (c7 F) (allC (c8 F) (allC (c9 F) (allC (c10 F) (allC (c11 F) (allC (c12 F) (allC (c13 F) all0)))))))))) ⟨inl0, all0⟩ (.c .n (.c .n (.s .n (.c .n .n)))) rfl (by kernel_rfl)
end
end Go.Proofs.Cl

namespace Go.KX
def Ok {α : Type} (post : α → Prop) (o : Option α) : Prop := ∃ r, o = some r ∧ post r
section
variable {α β ι σ R : Type} {post : α → Prop}
theorem chk_pos {p : Prop} [Decidable p] {x : Option α} (h : p) : chk p x = x := if_pos h
theorem brk_true {x y : Option α} : brk true x y = x := rfl
theorem loopC_succ {body : σ → (σ → Option α) → Option α} {n : Nat} {x : σ} : loopC body (n + 1) x = body x (loopC body n) := rfl
theorem ok_some {r : α} (h : post r) : Ok post (some r) := ⟨r, rfl, h⟩
theorem ok_chk {p : Prop} [Decidable p] {x : Option α} (h : p) (hx : Ok post x) : Ok post (chk p x) := by rw [chk_pos h]; exact hx
theorem ok_brk {c : Bool} {x y : Option α} (ht : c = true → Ok post x) (hf : c = false → Ok post y) : Ok post (brk c x y) := by
 cases c with
 | true => exact ht rfl
 | false => exact hf rfl
theorem ok_brkT {c : Bool} {x y : Option α} (hc : c = true) (ht : Ok post x) : Ok post (brk c x y) := by subst hc; exact ht
theorem ok_brkF {c : Bool} {x y : Option α} (hc : c = false) (hf : Ok post y) : Ok post (brk c x y) := by subst hc; exact hf
theorem ok_bnd {x : Option β} {f : β → Option α} (q : β → Prop) (hx : Ok q x) (hf : ∀ b, q b → Ok post (f b)) : Ok post (bnd x f) := by
 obtain ⟨b, rfl, hb⟩ := hx
 exact hf b hb
theorem ok_bnde {x : Option β} {f : β → Option α} {b : β} (hx : x = some b) (hf : Ok post (f b)) : Ok post (bnd x f) := by subst hx; exact hf
theorem ok_join {F : Nat} (hF : 0 < F) {K : ι → Option α} {body : (ι → Option α) → Option α} (J : ι → Prop) (hK : ∀ i, J i → Ok post (K i)) (hb : ∀ k : ι → Option α, (∀ i, J i → Ok post (k i)) → Ok post (body k)) : Ok post (join F K body) := by
 obtain ⟨n, rfl⟩ := Nat.exists_eq_succ_of_ne_zero (Nat.ne_of_gt hF)
 exact hb K hK
theorem ok_loop {body : σ → (σ → Option α) → Option α} (I : σ → Prop) (μ : σ → Nat) {n : Nat} {x0 : σ} (h0 : I x0) (hn : μ x0 < n)
  (h : ∀ x (next : σ → Option α), I x → (∀ y, I y → μ y < μ x → Ok post (next y)) → Ok post (body x next)) : Ok post (loopC body n x0) := by
 induction n generalizing x0 with
 | zero => omega
 | succ n ih => exact h x0 _ h0 fun y hy hlt => ih hy (by omega)
theorem Ok.mono {post' : α → Prop} {o : Option α} (h : Ok post o) (hp : ∀ r, post r → post' r) : Ok post' o := by obtain ⟨r, h1, h2⟩ := h; exact ⟨r, h1, hp r h2⟩
theorem Ok.eq {o : Option α} {r : α} (h : Ok (fun x => x = r) o) : o = some r := by obtain ⟨r, h1, rfl⟩ := h; exact h1
end
theorem getD_mem {α : Type} {l : List α} {i : Nat} {d : α} (h : i < l.length) : l.getD i d ∈ l := by
 rw [List.getD_eq_getElem?_getD, List.getElem?_eq_getElem h]; exact List.getElem_mem h
theorem getD_get {α : Type} {l : List α} {i : Nat} {d : α} (h : i < l.length) : l.getD i d = l[i] := by
 rw [List.getD_eq_getElem?_getD, List.getElem?_eq_getElem h]; rfl
theorem getD_set' {α : Type} {l : List α} {i j : Nat} {x d : α} (h : i < l.length) : (l.set i x).getD j d = if i = j then x else l.getD j d := by
 simp only [List.getD_eq_getElem?_getD, List.getElem?_set]
 by_cases e : i = j
 ·subst e; simp [h]
 ·simp [e]
end Go.KX

namespace Go.KX
section
variable {α β : Type} {post : α → Prop}
theorem drop_get {l : List β} {i : Nat} {d : β} (h : i < l.length) : l.drop i = l.getD i d :: l.drop (i + 1) := by
 rw [getD_get h, List.drop_eq_getElem_cons h]
theorem ok_rest {σ : Type} {F : Nat} {l : List β} {d : β} {body : σ → (σ → Option α) → Option α} {x0 : σ} (idx : σ → Int) (Q : σ → List β → Prop) (hl : l.length < F) (hi0 : idx x0 = 0) (h0 : Q x0 l)
  (hb : ∀ x next, 0 ≤ idx x → idx x < l.length → Q x (l.getD (idx x).toNat d :: l.drop ((idx x).toNat + 1)) → l.getD (idx x).toNat d ∈ l → (∀ y, idx y = idx x + 1 → Q y (l.drop ((idx x).toNat + 1)) → Ok post (next y)) → Ok post (body x next))
  (he : ∀ x next, idx x = l.length → Q x [] → Ok post (body x next)) : Ok post (loopC body F x0) := by
 refine ok_loop (fun x => 0 ≤ idx x ∧ idx x ≤ l.length ∧ Q x (l.drop (idx x).toNat)) (fun x => l.length - (idx x).toNat) ⟨by omega, by omega, by rw [hi0]; exact h0⟩ (by rw [hi0]; simp; omega) ?_
 rintro x next ⟨i1, i2, i3⟩ hn
 by_cases hc : idx x < l.length
 ·have hi : (idx x).toNat < l.length := by omega
  rw [drop_get (d := d) hi] at i3
  refine hb x next i1 hc i3 (getD_mem hi) fun y hy hq => hn y ⟨by omega, by omega, ?_⟩ (by omega)
  rw [hy, show (idx x + 1).toNat = (idx x).toNat + 1 by omega]; exact hq
 ·rw [List.drop_eq_nil_of_le (by omega)] at i3
  exact he x next (by omega) i3
end
end Go.KX

namespace Go.KX
structure Bytes (l : List Int) : Prop where
 b : ∀ x ∈ l, 0 ≤ x ∧ x ≤ 255
 len : l.length ≤ 9223372036854775807
section
variable {α : Type} {post : α → Prop} {l : List Int} {pos n : Int}
theorem next_gen (hl : Bytes l) (h0 : 0 ≤ pos) (hp : pos < l.length) (hn : 0 < n) :
  0 ≤ l.getD pos.toNat 0 ∧ l.getD pos.toNat 0 ≤ 255 ∧ 0 ≤ l.getD pos.toNat 0 % n ∧ l.getD pos.toNat 0 % n < n ∧ l.getD pos.toNat 0 % n ≤ 255 := by
 have h := hl.b _ (getD_mem (i := pos.toNat) (d := 0) (by omega))
 have h1 := Int.emod_nonneg (l.getD pos.toNat 0) (by omega : n ≠ 0)
 have h2 := Int.emod_lt_of_pos (l.getD pos.toNat 0) hn
 have h3 : l.getD pos.toNat 0 % n ≤ l.getD pos.toNat 0 := by
  have e := Int.emod_add_mul_ediv (l.getD pos.toNat 0) n
  have e2 := Int.mul_nonneg (by omega : 0 ≤ n) (Int.ediv_nonneg h.1 (by omega : 0 ≤ n))
  omega
 exact ⟨h.1, h.2, h1, h2, by omega⟩
theorem next_ok (hl : Bytes l) (h0 : 0 ≤ pos) (hp : pos ≤ l.length) (hn : 0 < n) (k : Int × Int → Option α) (hk : ∀ v p : Int, 0 ≤ v → v < n → v ≤ 255 → 0 ≤ p → p ≤ l.length → Ok post (k (v, p))) :
  Ok post (brk (decide (pos ≥ (l.length : Int))) (k (0, pos)) (chk (InR (pos + 1)) (chk (InR (pos + 1 - 1)) (chk (0 ≤ pos + 1 - 1 ∧ pos + 1 - 1 < (l.length : Int)) (chk (InR (l.getD (pos + 1 - 1).toNat 0)) (chk (0 ≤ l.getD (pos + 1 - 1).toNat 0 ∧ l.getD (pos + 1 - 1).toNat 0 ≤ 9223372036854775807) (k (l.getD (pos + 1 - 1).toNat 0 % n, pos + 1)))))))) := by
 have hlen := hl.len
 refine ok_brk (fun _ => hk 0 pos (by omega) hn (by omega) h0 hp) (fun hc => ?_)
 have hc : pos < l.length := by simpa using hc
 rw [show pos + 1 - 1 = pos by omega]
 obtain ⟨h1, h2, h3, h4, h5⟩ := next_gen hl h0 hc hn
 exact ok_chk ⟨by omega, by omega⟩ (ok_chk ⟨by omega, by omega⟩ (ok_chk ⟨h0, hc⟩ (ok_chk ⟨by omega, by omega⟩ (ok_chk ⟨h1, by omega⟩ (hk _ _ h3 h4 h5 (by omega) (by omega))))))
theorem next_okS (hl : Bytes l) (h0 : 0 ≤ pos) (hp : pos ≤ l.length) (hn : 0 < n) (k : Int × Int → Option α) (hk : ∀ v p : Int, 0 ≤ v → v < n → v ≤ 255 → 0 ≤ p → p ≤ l.length → Ok post (k (v, p))) :
  Ok post (brk (decide (pos ≥ (l.length : Int))) (k (0, pos)) (chk (InR (pos + 1)) (chk (InR (pos + 1 - 1)) (chk (0 ≤ pos + 1 - 1 ∧ pos + 1 - 1 < (l.length : Int)) (chk (InR (l.getD (pos + 1 - 1).toNat 0)) (chk ((0 ≤ l.getD (pos + 1 - 1).toNat 0 ∧ l.getD (pos + 1 - 1).toNat 0 ≤ 9223372036854775807) ∧ 0 < n) (k (l.getD (pos + 1 - 1).toNat 0 % n, pos + 1)))))))) := by
 have hlen := hl.len
 refine ok_brk (fun _ => hk 0 pos (by omega) hn (by omega) h0 hp) (fun hc => ?_)
 have hc : pos < l.length := by simpa using hc
 rw [show pos + 1 - 1 = pos by omega]
 obtain ⟨h1, h2, h3, h4, h5⟩ := next_gen hl h0 hc hn
 exact ok_chk ⟨by omega, by omega⟩ (ok_chk ⟨by omega, by omega⟩ (ok_chk ⟨h0, hc⟩ (ok_chk ⟨by omega, by omega⟩ (ok_chk ⟨⟨h1, by omega⟩, hn⟩ (hk _ _ h3 h4 h5 (by omega) (by omega))))))
theorem next_ok0 {w0 w1 : Int} (e0 : w0 = 0) (e1 : w1 = 1) (hl : Bytes l) (hn : 0 < n) (k : Int × Int → Option α) (hk : ∀ v p : Int, 0 ≤ v → v < n → v ≤ 255 → 0 ≤ p → p ≤ l.length → Ok post (k (v, p))) :
  Ok post (brk (decide (0 ≥ (l.length : Int))) (k (0, 0)) (chk (0 ≤ w0 ∧ w0 < (l.length : Int)) (chk (InR (l.getD w0.toNat 0)) (chk (0 ≤ l.getD w0.toNat 0 ∧ l.getD w0.toNat 0 ≤ 9223372036854775807) (k (l.getD w0.toNat 0 % n, w1)))))) := by
 subst e0; subst e1
 refine ok_brk (fun _ => hk 0 0 (by omega) hn (by omega) (by omega) (by omega)) (fun hc => ?_)
 have hc : (0 : Int) < l.length := by have := of_decide_eq_false hc; omega
 obtain ⟨h1, h2, h3, h4, h5⟩ := next_gen hl (Int.le_refl 0) hc hn
 exact ok_chk ⟨by omega, hc⟩ (ok_chk ⟨by omega, by omega⟩ (ok_chk ⟨h1, by omega⟩ (hk _ _ h3 h4 h5 (by omega) (by omega))))
theorem ok_next {F : Nat} (hF : 0 < F) (hl : Bytes l) (h0 : 0 ≤ pos) (hp : pos ≤ l.length) (hn : 0 < n) {K : Int × Int → Option α} (hk : ∀ v p : Int, 0 ≤ v → v < n → v ≤ 255 → 0 ≤ p → p ≤ l.length → Ok post (K (v, p))) :
  Ok post (join F K fun k => brk (decide (pos ≥ (l.length : Int))) (k (0, pos)) (chk (InR (pos + 1)) (chk (InR (pos + 1 - 1)) (chk (0 ≤ pos + 1 - 1 ∧ pos + 1 - 1 < (l.length : Int)) (chk (InR (l.getD (pos + 1 - 1).toNat 0)) (chk (0 ≤ l.getD (pos + 1 - 1).toNat 0 ∧ l.getD (pos + 1 - 1).toNat 0 ≤ 9223372036854775807) (k (l.getD (pos + 1 - 1).toNat 0 % n, pos + 1)))))))) :=
 ok_join hF (fun x : Int × Int => 0 ≤ x.1 ∧ x.1 < n ∧ x.1 ≤ 255 ∧ 0 ≤ x.2 ∧ x.2 ≤ l.length) (fun x ⟨a, b, c, d, e⟩ => hk x.1 x.2 a b c d e) fun k hk => next_ok hl h0 hp hn k fun v p a b c d e => hk (v, p) ⟨a, b, c, d, e⟩
theorem ok_nextS {F : Nat} (hF : 0 < F) (hl : Bytes l) (h0 : 0 ≤ pos) (hp : pos ≤ l.length) (hn : 0 < n) {K : Int × Int → Option α} (hk : ∀ v p : Int, 0 ≤ v → v < n → v ≤ 255 → 0 ≤ p → p ≤ l.length → Ok post (K (v, p))) :
  Ok post (join F K fun k => brk (decide (pos ≥ (l.length : Int))) (k (0, pos)) (chk (InR (pos + 1)) (chk (InR (pos + 1 - 1)) (chk (0 ≤ pos + 1 - 1 ∧ pos + 1 - 1 < (l.length : Int)) (chk (InR (l.getD (pos + 1 - 1).toNat 0)) (chk ((0 ≤ l.getD (pos + 1 - 1).toNat 0 ∧ l.getD (pos + 1 - 1).toNat 0 ≤ 9223372036854775807) ∧ 0 < n) (k (l.getD (pos + 1 - 1).toNat 0 % n, pos + 1)))))))) :=
 ok_join hF (fun x : Int × Int => 0 ≤ x.1 ∧ x.1 < n ∧ x.1 ≤ 255 ∧ 0 ≤ x.2 ∧ x.2 ≤ l.length) (fun x ⟨a, b, c, d, e⟩ => hk x.1 x.2 a b c d e) fun k hk => next_okS hl h0 hp hn k fun v p a b c d e => hk (v, p) ⟨a, b, c, d, e⟩
theorem ok_next0 {F : Nat} (hF : 0 < F) (hl : Bytes l) (hn : 0 < n) {K : Int × Int → Option α} (hk : ∀ v p : Int, 0 ≤ v → v < n → v ≤ 255 → 0 ≤ p → p ≤ l.length → Ok post (K (v, p))) :
  Ok post (join F K fun k => brk (decide ((0 : Int) ≥ (l.length : Int))) (k (0, 0)) (chk (0 ≤ IntKind.i64.wrap (IntKind.i64.wrap (0 + 1) - 1) ∧ IntKind.i64.wrap (IntKind.i64.wrap (0 + 1) - 1) < (l.length : Int)) (chk (InR (l.getD (IntKind.i64.wrap (IntKind.i64.wrap (0 + 1) - 1)).toNat 0)) (chk (0 ≤ l.getD (IntKind.i64.wrap (IntKind.i64.wrap (0 + 1) - 1)).toNat 0 ∧ l.getD (IntKind.i64.wrap (IntKind.i64.wrap (0 + 1) - 1)).toNat 0 ≤ 9223372036854775807) (k (l.getD (IntKind.i64.wrap (IntKind.i64.wrap (0 + 1) - 1)).toNat 0 % n, IntKind.i64.wrap (0 + 1))))))) :=
 ok_join hF (fun x : Int × Int => 0 ≤ x.1 ∧ x.1 < n ∧ x.1 ≤ 255 ∧ 0 ≤ x.2 ∧ x.2 ≤ l.length) (fun x ⟨a, b, c, d, e⟩ => hk x.1 x.2 a b c d e) fun k hk => next_ok0 rfl rfl hl hn k fun v p a b c d e => hk (v, p) ⟨a, b, c, d, e⟩
end
end Go.KX
