/- Texts KZB: own work; each part says what it is. -/
import Derived.Test.YtmfbcbbefepnpaaAc3
namespace Go.KX
open Go Go.RowKit
noncomputable section
section
variable {cx : Cx} {m : Nat → MV} {A : Nat → Prop} {g : CMap cx} {a : Act} {w : World}
theorem Rel.know {i : Nat} {x : SV} (h : Rel cx m A g a w) (hv : a.tmps[i]? = some (den m x)) (hk : x.ok m) : Rel cx m A (upd [(.t i, some (.x x))] g) a w := by
  have hg : ∀ k, k ≠ .t i → upd [(.t i, some (.x x))] g k = g k := fun k hk => by rw [upd_one, if_neg (Ne.symm hk)]
  refine ⟨h.size, h.defers, fun k v hkv => ?_, fun L o v hv => ?_, fun L x ho => ?_, fun L L' x h1 h2 => ?_, h.frzc, h.held, h.top, h.fix, h.ko, h.frz0, h.frzA, h.pins⟩
  · by_cases e : k = .t i
    · subst e
      rw [upd_one, if_pos rfl] at hkv
      cases hkv
      exact ⟨hv, hk⟩
    · rw [hg k e] at hkv
      exact h.ent k v hkv
  · rw [hg _ (by simp)] at hv ⊢
    exact h.cell L o v hv
  · rw [hg _ (by simp)] at ho
    exact h.own L _ ho
  · rw [hg _ (by simp)] at h1 h2
    exact h.inj L L' _ h1 h2
theorem Rel.addRo {L blk : Nat} {cs : List (CV cx.G.car)} (h : Rel cx m A g a w) (hf : Free cx L g) (hA : A blk) (hd : ∀ (j : Nat) (cv : CV cx.G.car), cs[j]? = some cv → ∃ u, w.cell? ⟨blk, j, none⟩ = some u ∧ Hd cx.G A w cv u) :
    Rel cx (setL m L { b := blk, p := none, n := 0, c := 0 }) A (upd [(.x L, some (.ro cs))] g) a w := by
  have hg : ∀ k, k ≠ .x L → upd [(.x L, some (.ro cs))] g k = g k := fun k hk => by rw [upd_one, if_neg (Ne.symm hk)]
  refine h.fresh hf (fun k hk => ?_) (fun k v hk hv => ?_) (fun o v hv => ?_) (fun bb ho => ?_)
  · simp only [touches, Bool.or_false] at hk
    exact .inr (.inl (Key.eqb_iff.1 hk).symm)
  · rcases hk with rfl | rfl | ⟨o, rfl⟩
    · rw [hg _ (by simp)] at hv
      have := hf.1 (.o L); rw [hv] at this; simp [mentions, keyHas] at this
    · rw [upd_one, if_pos rfl] at hv
      cases hv
      exact ⟨by rw [setL_self]; exact hA, fun j cv hj => by rw [setL_self]; exact hd j cv hj⟩
    · rw [hg _ (by simp)] at hv
      have := hf.1 (.c L o); rw [hv] at this; simp [mentions, keyHas] at this
  · rw [hg _ (by simp)] at hv
    have := hf.1 (.c L o); rw [hv] at this; simp [mentions, keyHas] at this
  · rw [hg _ (by simp)] at ho
    cases e : g (.o L) with
    | none => rw [e] at ho; exact ho.elim
    | some v => have := hf.1 (.o L); rw [e] at this; simp [mentions, keyHas] at this
end
section
variable {cx : Cx} {m : Nat → MV} {A : Nat → Prop} {g : CMap cx} {a : Act} {w : World}
theorem Rel.addX {L : Nat} {mv : MV} {v : Val cx.G.car} (h : Rel cx m A g a w) (hf : Free cx L g) (hat : At cx (setL m L mv) A a.tmps w (.x L) v) : Rel cx (setL m L mv) A (upd [(.x L, some v)] g) a w := by
  have hg : ∀ k, k ≠ .x L → upd [(.x L, some v)] g k = g k := fun k hk => by rw [upd_one, if_neg (Ne.symm hk)]
  refine h.fresh hf (fun k hk => ?_) (fun k v' hk hv => ?_) (fun o v hv => ?_) (fun bb ho => ?_)
  · simp only [touches, Bool.or_false] at hk
    exact .inr (.inl (Key.eqb_iff.1 hk).symm)
  · rcases hk with rfl | rfl | ⟨o, rfl⟩
    · rw [hg _ (by simp)] at hv
      have := hf.1 (.o L); rw [hv] at this; simp [mentions, keyHas] at this
    · rw [upd_one, if_pos rfl] at hv
      cases hv
      exact hat
    · rw [hg _ (by simp)] at hv
      have := hf.1 (.c L o); rw [hv] at this; simp [mentions, keyHas] at this
  · rw [hg _ (by simp)] at hv
    have := hf.1 (.c L o); rw [hv] at this; simp [mentions, keyHas] at this
  · rw [hg _ (by simp)] at ho
    cases e : g (.o L) with
    | none => rw [e] at ho; exact ho.elim
    | some v => have := hf.1 (.o L); rw [e] at this; simp [mentions, keyHas] at this
end
section
variable {E : Env} {R : Type} {r : R} {gl : List (Nat × Val E.G.car)}
def f0 : Fix := ⟨0, []⟩
theorem setT_ok {s : XS E.G.car} (hs : OKS E f0 s) {i : Nat} {y : SV} (hy : y.lt s.nl = true) : OKS E f0 (s.setF 0 0 (.t i) (some (.x y))) ∧ (s.setF 0 0 (.t i) (some (.x y))).map 0 = upd [(.t i, some (.x y))] (s.map 0) := by
  have e : (s.setF 0 0 (.t i) (some (.x y))).nl = s.nl := XS.setF_nl
  have h := hs.inv.setF (d := 0) (f := 0) (nl := s.nl) (Nat.le_refl _) (k := .t i) (v := some (.x y)) (fun L hL => by simp [keyHas] at hL) (fun x hx => by cases hx; exact hy)
  refine ⟨⟨?_, fun p hp => by rw [e]; exact hs.glo p hp, Nat.zero_le _⟩, XS.map_setF 0 (by omega) s rfl⟩
  rw [← e] at h
  exact h
theorem setX_ok {s : XS E.G.car} (hs : OKS E f0 s) {v : Val E.G.car} (hv : v.lt (Nat.succ s.nl) = true) : OKS E f0 (⟨(s.setF 0 0 (.x s.nl) (some v)).t, (s.setF 0 0 (.x s.nl) (some v)).o, Nat.succ (s.setF 0 0 (.x s.nl) (some v)).nl⟩ : XS E.G.car) ∧
    XS.map (⟨(s.setF 0 0 (.x s.nl) (some v)).t, (s.setF 0 0 (.x s.nl) (some v)).o, Nat.succ (s.setF 0 0 (.x s.nl) (some v)).nl⟩ : XS E.G.car) 0 = upd [(.x s.nl, some v)] (s.map 0) := by
  have e : (s.setF 0 0 (.x s.nl) (some v)).nl = s.nl := XS.setF_nl
  rw [e]
  refine ⟨⟨hs.inv.setF (Nat.le_succ _) (fun L hL => by simp only [keyHas] at hL; have := Nat.eq_of_beq_eq_true hL; omega) (fun x hx => by cases hx; exact hv), fun p hp => Nat.lt_succ_of_lt (hs.glo p hp), Nat.zero_le _⟩, ?_⟩
  exact XS.map_setF 0 (by omega) s rfl
def ParOK (E : Env) (s s' : XS E.G.car) (P : (Nat → Prop) → Act → World → Prop) : Prop :=
  OKS E f0 s' ∧ ∀ (b : Base) (m : Nat → MV) (A : Nat → Prop) (a : Act) (w : World), b.pn = 0 → Rel (cxOf E b) m A (s.map 0) a w → P A a w → ∃ m', Rel (cxOf E b) m' A (s'.map 0) a w
theorem free_nl {s : XS E.G.car} (hs : OKS E f0 s) {b : Base} (hpn : b.pn = 0) {L : Nat} (hL : s.nl ≤ L) : Free (cxOf E b) L (s.map 0) :=
  ⟨hs.inv.free hL, fun p hp => by have := hs.glo p hp; omega, by show b.pn ≤ L; omega⟩
def labS (s : XS E.G.car) (v : Val E.G.car) : XS E.G.car := ⟨(s.labF 0 s.nl 1 (some v)).t, (s.labF 0 s.nl 1 (some v)).o, Nat.succ (s.labF 0 s.nl 1 (some v)).nl⟩
theorem labS_nl {s : XS E.G.car} {v : Val E.G.car} : (labS s v).nl = s.nl + 1 := by
  show Nat.succ (s.labF 0 s.nl 1 (some v)).nl = s.nl + 1
  rw [(XS.labF_t 0 s s.nl 1 _).2]
theorem labS_ok {s : XS E.G.car} (hs : OKS E f0 s) {v : Val E.G.car} (hv : v.lt (s.nl + 1) = true) : OKS E f0 (labS s v) ∧ (labS s v).map 0 = upd [(.x s.nl, some v)] (s.map 0) := setX_ok hs hv
theorem parWk_sound {s : XS E.G.car} (hs : OKS E f0 s) {i tM tA : Nat} {rr : List (Int × List Value)} {x : (PK.wk tM tA rr).T E.G.car} {K : XS E.G.car → Option R} (h : parK s i (.wk tM tA rr) x K = some r) :
    ∃ s', K s' = some r ∧ ParOK E s s' fun A a w => ∃ v, a.tmps[i]? = some v ∧ ArgIs E A w (.wk tM tA rr) x v := by
  have h : s.setLab 0 s.nl 1 (some (.ro (E.G.enc tM x.1))) (fun s1 =>
      XS.setLab 0 ⟨s1.t, s1.o, Nat.succ s1.nl⟩ (Nat.succ s1.nl) 1 (some (.ro (E.G.enc tA x.2))) fun s2 =>
      XS.setLab 0 ⟨s2.t, s2.o, Nat.succ s2.nl⟩ (Nat.succ s2.nl) 1 (some (.mr rr)) fun s3 =>
      XS.setLab 0 ⟨s3.t, s3.o, Nat.succ s3.nl⟩ (Nat.succ s3.nl) 1 (some (.rb [.p s1.nl 0, .p s2.nl 0, .m s3.nl])) fun s4 =>
      XS.setTmp 0 0 ⟨s4.t, s4.o, Nat.succ s4.nl⟩ i (some (.p s4.nl 0)) K) = some r := h
  simp only [XS.setLab_eq] at h
  have e1 : (s.labF 0 s.nl 1 (some (.ro (E.G.enc tM x.1)))).nl = s.nl := (XS.labF_t 0 s s.nl 1 _).2
  have hl : ∀ (s : XS E.G.car) (v : Val E.G.car), XS.labF 0 (labS s v) (labS s v).nl 1 = XS.labF 0 (labS s v) (Nat.succ (s.labF 0 s.nl 1 (some v)).nl) 1 := fun _ _ => rfl
  let s1 := labS s (.ro (E.G.enc tM x.1))
  let s2 := labS s1 (.ro (E.G.enc tA x.2))
  let s3 := labS s2 (.mr rr)
  let s4 := labS s3 (.rb [.p s.nl 0, .p s1.nl 0, .m s2.nl])
  have n1 : s1.nl = s.nl + 1 := labS_nl
  have n2 : s2.nl = s1.nl + 1 := labS_nl
  have n3 : s3.nl = s2.nl + 1 := labS_nl
  have n4 : s4.nl = s3.nl + 1 := labS_nl
  obtain ⟨o1, m1⟩ := labS_ok hs (v := .ro (E.G.enc tM x.1)) rfl
  obtain ⟨o2, m2⟩ := labS_ok o1 (v := .ro (E.G.enc tA x.2)) rfl
  obtain ⟨o3, m3⟩ := labS_ok o2 (v := .mr rr) rfl
  obtain ⟨o4, m4⟩ := labS_ok o3 (v := .rb [.p s.nl 0, .p s1.nl 0, .m s2.nl]) (by
    simp only [Val.lt, ltL, SV.lt, Bool.and_true, Bool.and_eq_true, Nat.blt_eq]
    refine ⟨?_, ?_, ?_⟩ <;> (change _ < s3.nl + 1; omega))
  have h : XS.setTmp 0 0 s4 i (some (.p s3.nl 0)) K = some r := by
    have q1 : (s1.labF 0 s1.nl 1 (some (.ro (E.G.enc tA x.2)))).nl = s1.nl := (XS.labF_t 0 _ _ 1 _).2
    have q2 : (s2.labF 0 s2.nl 1 (some (.mr rr))).nl = s2.nl := (XS.labF_t 0 _ _ 1 _).2
    have q3 : (s3.labF 0 s3.nl 1 (some (.rb [.p s.nl 0, .p s1.nl 0, .m s2.nl]))).nl = s3.nl := (XS.labF_t 0 _ _ 1 _).2
    have h : XS.setTmp 0 0 (labS s3 (.rb [.p (s.labF 0 s.nl 1 (some (.ro (E.G.enc tM x.1)))).nl 0, .p (s1.labF 0 s1.nl 1 (some (.ro (E.G.enc tA x.2)))).nl 0, .m (s2.labF 0 s2.nl 1 (some (.mr rr))).nl])) i
        (some (.p (s3.labF 0 s3.nl 1 (some (.rb [.p (s.labF 0 s.nl 1 (some (.ro (E.G.enc tM x.1)))).nl 0, .p (s1.labF 0 s1.nl 1 (some (.ro (E.G.enc tA x.2)))).nl 0, .m (s2.labF 0 s2.nl 1 (some (.mr rr))).nl]))).nl 0)) K = some r := h
    rw [e1, q1, q2, q3] at h
    exact h
  rw [XS.setTmp_eq] at h
  obtain ⟨o5, m5⟩ := setT_ok o4 (i := i) (y := .p s3.nl 0) (by
    simp only [SV.lt, Nat.blt_eq]
    change s3.nl < s4.nl
    omega)
  refine ⟨_, h, o5, fun b m A a w hpn hr ⟨v, hv, blk, pM, pA, bR, hb, hA, c0, c1, c2, hM, hAr, hAR, es, cl, hes, hmr⟩ => ?_⟩
  obtain ⟨bM, rfl, hAM, hdM⟩ := hM
  obtain ⟨bA, rfl, hAA, hdA⟩ := hAr
  have r1 := hr.addRo (free_nl hs hpn (Nat.le_refl _)) hAM hdM
  rw [← m1] at r1
  have r2 := r1.addRo (free_nl o1 hpn (Nat.le_refl _)) hAA hdA
  rw [← m2] at r2
  have r3 := r2.addX (mv := { b := bR, p := none, n := 0, c := 0 }) (v := .mr rr) (free_nl o2 hpn (Nat.le_refl _)) ⟨by rw [setL_self]; exact hAR, es, cl, by rw [setL_self]; exact hes, hmr⟩
  rw [← m3] at r3
  have d1 : ∀ mv mv' mv'' mv''' : MV, setL (setL (setL (setL m s.nl mv) s1.nl mv') s2.nl mv'') s3.nl mv''' s.nl = mv := fun mv mv' mv'' mv''' => by
    rw [setL_ne _ _ (by omega), setL_ne _ _ (by omega), setL_ne _ _ (by omega), setL_self]
  have d2 : ∀ mv mv' mv'' mv''' : MV, setL (setL (setL (setL m s.nl mv) s1.nl mv') s2.nl mv'') s3.nl mv''' s1.nl = mv' := fun mv mv' mv'' mv''' => by
    rw [setL_ne _ _ (by omega), setL_ne _ _ (by omega), setL_self]
  have d3 : ∀ mv mv' mv'' mv''' : MV, setL (setL (setL (setL m s.nl mv) s1.nl mv') s2.nl mv'') s3.nl mv''' s2.nl = mv'' := fun mv mv' mv'' mv''' => by
    rw [setL_ne _ _ (by omega), setL_self]
  have r4 := r3.addX (mv := { b := blk, p := none, n := 0, c := 0 }) (v := .rb [.p s.nl 0, .p s1.nl 0, .m s2.nl]) (free_nl o3 hpn (Nat.le_refl _)) (by
    refine ⟨by rw [setL_self]; exact hA, ⟨trivial, trivial, trivial, trivial⟩, fun j y hy => ?_⟩
    rw [setL_self]
    match j, hy with
    | 0, hy => cases hy; rw [show den _ (SV.p s.nl 0) = _ from rfl]; simp only [den]; rw [d1]; exact c0
    | 1, hy => cases hy; simp only [den]; rw [d2]; exact c1
    | 2, hy => cases hy; simp only [den]; rw [d3]; exact c2
    | j + 3, hy => simp at hy)
  rw [← m4] at r4
  have r5 := r4.know (i := i) (x := .p s3.nl 0) (by
    rw [hv, hb]
    show _ = some (Value.pointer (some ⟨(setL _ s3.nl _ s3.nl).b, 0, none⟩))
    rw [setL_self]) trivial
  rw [← m5] at r5
  exact ⟨_, r5⟩
theorem parK_sound {s : XS E.G.car} (hs : OKS E f0 s) {i : Nat} {p : PK} {x : p.T E.G.car} {K : XS E.G.car → Option R} (h : parK s i p x K = some r) :
    ∃ s', K s' = some r ∧ ParOK E s s' fun A a w => ∃ v, a.tmps[i]? = some v ∧ ArgIs E A w p x v := by
  have lab : ∀ (v : Val E.G.car) (y : SV) (K : XS E.G.car → Option R), v.lt (Nat.succ s.nl) = true → y.lt (s.nl + 1) = true → (s.setLab 0 s.nl 1 (some v) fun s => XS.setTmp 0 0 ⟨s.t, s.o, Nat.succ s.nl⟩ i (some y) K) = some r →
      ∃ s', K s' = some r ∧ OKS E f0 s' ∧ s'.map 0 = upd [(.t i, some (.x y))] (upd [(.x s.nl, some v)] (s.map 0)) := by
    intro v y K h1 hy h
    rw [XS.setLab_eq, XS.setTmp_eq] at h
    obtain ⟨o1, m1⟩ := setX_ok hs h1
    obtain ⟨o2, m2⟩ := setT_ok o1 (i := i) (y := y) (by
      show y.lt (Nat.succ (s.setF 0 0 (.x s.nl) (some v)).nl) = true
      rw [XS.setF_nl]; exact hy)
    exact ⟨_, h, o2, by rw [← m1]; exact m2⟩
  cases p with
  | wk tM tA rr => exact parWk_sound hs h
  | v t agg =>
    unfold parK at h
    obtain ⟨ys, us, nl', h1, h2, h3, h4, h5, h6⟩ := cvsK_sound h
    cases hup : upBelow nl' us with
    | false => rw [hup] at h1; cases h1
    | true =>
      rw [hup] at h1
      simp only [Bool.not_true, cond_false, XS.upd_eq] at h1
      obtain ⟨g1, g2, _⟩ := XS.map_updF 0 (f := 0) (by omega) s (upBelow_ups hup)
      have o1 : OKS E f0 (⟨(XS.updF 0 0 us s).t, (XS.updF 0 0 us s).o, nl'⟩ : XS E.G.car) := ⟨hs.inv.updF h2 hup, fun p hp => Nat.lt_of_lt_of_le (hs.glo p hp) h2, Nat.zero_le _⟩
      have m1 : XS.map (⟨(XS.updF 0 0 us s).t, (XS.updF 0 0 us s).o, nl'⟩ : XS E.G.car) 0 = upd us (s.map 0) := g1
      cases agg with
      | true =>
        simp only [XS.setTmp_eq] at h1
        obtain ⟨o2, m2⟩ := setT_ok o1 (i := i) (y := .g ys) (by simpa [SV.lt] using h4)
        refine ⟨_, h1, o2, fun b m A a w hpn hr ⟨v, hv, us', hd, he⟩ => ?_⟩
        obtain ⟨m', hr', e1, e2, _⟩ := h6 b m A (s.map 0) a w us' hr (fun L hL _ => free_nl hs hpn hL) hd
        refine ⟨m', ?_⟩
        show Rel _ _ _ (XS.map (XS.setF 0 0 _ (.t i) (some (.x (.g ys)))) 0) _ _
        rw [m2, m1]
        simp only [if_true] at he
        exact hr'.know (by rw [hv, he, den, e1]) e2
      | false =>
        simp only at h1
        split at h1
        · rename_i y
          simp only [XS.setTmp_eq] at h1
          obtain ⟨o2, m2⟩ := setT_ok o1 (i := i) (y := y) (by simp only [ltL, Bool.and_true] at h4; exact h4)
          refine ⟨_, h1, o2, fun b m A a w hpn hr ⟨v, hv, us', hd, he⟩ => ?_⟩
          obtain ⟨m', hr', e1, e2, _⟩ := h6 b m A (s.map 0) a w us' hr (fun L hL _ => free_nl hs hpn hL) hd
          refine ⟨m', ?_⟩
          show Rel _ _ _ (XS.map (XS.setF 0 0 _ (.t i) (some (.x y))) 0) _ _
          rw [m2, m1]
          simp only [Bool.false_eq_true, if_false] at he
          subst he
          have e1 : den m' y = v := by simpa [denL] using e1
          exact hr'.know (by rw [hv, e1]) e2.1
        · cases h1
  | sl t =>
    obtain ⟨s', h1, o1, m1⟩ := lab (.ext t x) (.h s.nl) K rfl (by simp [SV.lt]) (by
      have h : (s.setLab 0 s.nl 1 (some (.ext t x)) fun s => XS.setTmp 0 0 ⟨s.t, s.o, Nat.succ s.nl⟩ i (some (.h s.nl)) K) = some r := h
      rw [XS.setLab_eq] at h ⊢
      rw [XS.setTmp_eq] at h ⊢
      rw [(XS.labF_t 0 s s.nl 1 (some (.ext t x))).2] at h ⊢
      exact h)
    refine ⟨s', h1, o1, fun b m A a w hpn hr ⟨v, hv, hd⟩ => ?_⟩
    have hd : Hd E.G A w (.sl t x) v := hd
    obtain ⟨p, n, c, rfl⟩ := hd.slice
    have h2 := hr.addExt (free_nl hs hpn (Nat.le_refl _)) hd
    exact ⟨_, by rw [m1]; exact h2.know (by rw [hv]; simp only [den, setL_self]) trivial⟩
  | ptr t =>
    obtain ⟨s', h1, o1, m1⟩ := lab (.ro (E.G.enc t x)) (.p s.nl 0) K rfl (by simp [SV.lt]) (by
      have h : (s.setLab 0 s.nl 1 (some (.ro (E.G.enc t x))) fun s => XS.setTmp 0 0 ⟨s.t, s.o, Nat.succ s.nl⟩ i (some (.p s.nl 0)) K) = some r := h
      rw [XS.setLab_eq] at h ⊢
      rw [XS.setTmp_eq] at h ⊢
      rw [(XS.labF_t 0 s s.nl 1 _).2] at h ⊢
      exact h)
    refine ⟨s', h1, o1, fun b m A a w hpn hr ⟨v, hv, blk, hb, hA, hd⟩ => ?_⟩
    have h2 := hr.addRo (free_nl hs hpn (Nat.le_refl _)) hA hd
    exact ⟨_, by rw [m1]; exact h2.know (by rw [hv, hb]; simp only [den, setL_self]) trivial⟩
  | gp t =>
    obtain ⟨s', h1, o1, m1⟩ := lab (.ro (E.G.enc t x)) (.g [.p s.nl 0]) K rfl (by simp [SV.lt, ltL]) (by
      have h : (s.setLab 0 s.nl 1 (some (.ro (E.G.enc t x))) fun s => XS.setTmp 0 0 ⟨s.t, s.o, Nat.succ s.nl⟩ i (some (.g [.p s.nl 0])) K) = some r := h
      rw [XS.setLab_eq] at h ⊢
      rw [XS.setTmp_eq] at h ⊢
      rw [(XS.labF_t 0 s s.nl 1 _).2] at h ⊢
      exact h)
    refine ⟨s', h1, o1, fun b m A a w hpn hr ⟨v, hv, u, hu, blk, hb, hA, hd⟩ => ?_⟩
    have h2 := hr.addRo (free_nl hs hpn (Nat.le_refl _)) hA hd
    exact ⟨_, by rw [m1]; exact h2.know (by rw [hv, hu, hb]; simp only [den, denL, setL_self]) ⟨trivial, trivial⟩⟩

  | nl =>
    change Nat at x
    have h : XS.setTmp 0 0 s i (some (.v (.slice none 0 x))) K = some r := h
    rw [XS.setTmp_eq] at h
    obtain ⟨o2, m2⟩ := setT_ok hs (i := i) (y := .v (.slice none 0 x)) rfl
    refine ⟨_, h, o2, fun b m A a w hpn hr ⟨v, hv, hd⟩ => ⟨m, ?_⟩⟩
    have hd : v = .slice none 0 x := hd
    have h3 : Rel (cxOf E b) m A ((XS.setF 0 0 s (.t i) (some (.x (.v (.slice none 0 x))))).map 0) a w := by
      rw [m2]
      exact hr.know (by rw [hv, hd]; rfl) trivial
    exact h3
  | sn t =>
    obtain ⟨s', h1, o1, m1⟩ := lab (.ext t x) (.n s.nl) K rfl (by simp [SV.lt]) (by
      have h : (s.setLab 0 s.nl 1 (some (.ext t x)) fun s => XS.setTmp 0 0 ⟨s.t, s.o, Nat.succ s.nl⟩ i (some (.n s.nl)) K) = some r := h
      rw [XS.setLab_eq] at h ⊢
      rw [XS.setTmp_eq] at h ⊢
      rw [(XS.labF_t 0 s s.nl 1 (some (.ext t x))).2] at h ⊢
      exact h)
    refine ⟨s', h1, o1, fun b m A a w hpn hr ⟨v, hv, hd, p, n, c, he⟩ => ?_⟩
    subst he
    have h2 := hr.addExt (free_nl hs hpn (Nat.le_refl _)) hd
    exact ⟨_, by rw [m1]; exact h2.know (by rw [hv]; simp only [den, setL_self]) (by simp only [SV.ok, setL_self]; rfl)⟩
theorem parsK_sound : ∀ (ps : List PK) {x : AT E.G.car ps} {i : Nat} {s : XS E.G.car} {K : XS E.G.car → Option R}, OKS E f0 s → parsK ps x i s K = some r →
    ∃ s', K s' = some r ∧ ParOK E s s' fun A a w => ∃ vs, (∀ j v, vs[j]? = some v → a.tmps[i + j]? = some v) ∧ ArgsAre E A w ps x vs := by
  intro ps
  induction ps with
  | nil => intro x i s K hs h; exact ⟨s, h, hs, fun b m A a w _ hr _ => ⟨m, hr⟩⟩
  | cons p ps ih =>
    intro x i s K hs h
    have h : parK s i p x.1 (fun s => parsK ps x.2 (Nat.succ i) s K) = some r := h
    obtain ⟨s1, h1, o1, f1⟩ := parK_sound hs h
    obtain ⟨s2, h2, o2, f2⟩ := ih o1 h1
    refine ⟨s2, h2, o2, fun b m A a w hpn hr ⟨vs, hvs, v, us, e, ha, has⟩ => ?_⟩
    subst e
    obtain ⟨m1, r1⟩ := f1 b m A a w hpn hr ⟨v, hvs 0 v rfl, ha⟩
    exact f2 b m1 A a w hpn r1 ⟨us, fun j u hj => by have := hvs (j + 1) u (by simpa using hj); rwa [show Nat.succ i + j = i + (j + 1) by omega], has⟩
theorem argsAre_len {A : Nat → Prop} {w : World} : ∀ {ps : List PK} {x : AT E.G.car ps} {vs : List Value}, ArgsAre E A w ps x vs → vs.length = ps.length := by
  intro ps
  induction ps with
  | nil => intro x vs h; rw [show vs = [] from h]; rfl
  | cons p ps ih => intro x vs ⟨v, us, e, _, h⟩; rw [e]; simp [ih h]
theorem upd_mem {car : Nat → Type} {k : Key} {v : Val car} {g : Map car} : ∀ {u : St car}, upd u g k = some v → (∃ x ∈ u, x.1 = k ∧ x.2 = some v) ∨ g k = some v := by
  intro u
  induction u with
  | nil => intro h; exact .inr h
  | cons x u ih =>
    intro h
    rw [upd_cons] at h
    split at h
    · rename_i e
      exact .inl ⟨x, by simp, e, h⟩
    · rcases ih h with ⟨y, hy, h1⟩ | h1
      · exact .inl ⟨y, List.mem_cons_of_mem _ hy, h1⟩
      · exact .inr h1
theorem rel_start {A : Nat → Prop} {w : World} {N : Nat} {args : List Value} (hn : args.length ≤ N) (hA : ∀ x, A x → IsCells w x) {mg : Nat → MV} (h1 : ∀ p ∈ E.glo, (mg p.1).b = p.2) (h2 : ∀ q ∈ gl, ExtAt E.G A w (mg q.1) q.2)
    {g : Map E.G.car} (hg : ∀ k v, g k = some v → ∃ q ∈ gl, k = .x q.1 ∧ v = q.2) : Rel (cxOf E ⟨none, w.heap.size, w, N, true, fun _ => #[], [], A, fun _ => False, 0, mg⟩) mg A g { tmps := args.toArray ++ Array.replicate (N - args.toArray.size) undef, defers := [] } w := by
  refine ⟨by simp [cxOf]; omega, marks_nil, fun k v hk => ?_, fun L o v hv => ?_, fun L x ho => ?_, fun L L' x ho _ => ?_, hA, ⟨rfl, rfl, rfl, Nat.le_refl _, fun _ _ _ => rfl⟩, Nat.le_refl _, h1, (fun k o hk => nomatch hk), fun b hb => .inl hb, fun b hb => hb, fun L hL => absurd hL (Nat.not_lt_zero _)⟩
  · obtain ⟨q, hq, rfl, rfl⟩ := hg k v hk
    exact (h2 q hq).at
  · obtain ⟨q, _, e, _⟩ := hg _ _ hv; cases e
  · cases e : g (.o L) with
    | none => rw [e] at ho; exact ho.elim
    | some v => obtain ⟨q, _, e', _⟩ := hg _ _ e; cases e'
  · cases e : g (.o L) with
    | none => rw [e] at ho; exact ho.elim
    | some v => obtain ⟨q, _, e', _⟩ := hg _ _ e; cases e'
theorem fn_sound {cx : Ctx E} (hmix : E.P.follows .mixedOrders = true) (ht : ∀ c ∈ cx.tbl, CSok E gl c) (hin : InlOK E cx.inl) (hkeys : ∀ p ∈ E.keys, KeyOK E.P E.G p.1 p.2) (hgl : upBelow gl.length (gl.map fun q => (Key.x q.1, some q.2)) = true) (hglo : ∀ p ∈ E.glo, p.1 < gl.length) {fk : Nat} {fn : Func} (hf : E.P.funcs[fk]? = some fn)
    {ps : List PK} {rs : List RK} (hps : ps.length ≤ fn.ntmps) (h : Hint) : Contract E gl ⟨fk, ps, rs, fnK cx fn gl ps rs h⟩ := by
  intro A w vs xs hgw hA hargs r hr
  have hr : fnK cx fn gl ps rs h xs = some r := hr
  unfold fnK at hr
  split at hr
  · cases hr
  · rename_i c hc
    rw [XS.upd_eq] at hr
    have o0 : OKS E f0 (XS.updF 0 0 (gl.map fun q => (Key.x q.1, some q.2)) ⟨.e, .e, gl.length⟩ : XS E.G.car) := by
      have e : (XS.updF 0 0 (gl.map fun q => (Key.x q.1, some q.2)) (⟨.e, .e, gl.length⟩ : XS E.G.car)).nl = gl.length := (XS.map_updF 0 (f := 0) (by omega) _ (upBelow_ups hgl)).2.1
      have h1 := Inv.updF (d := 0) (f := 0) (s := (⟨.e, .e, gl.length⟩ : XS E.G.car)) ⟨(fun k a v hk => nomatch hk), (fun L q e he => nomatch he)⟩ (Nat.le_refl _) hgl
      refine ⟨?_, (fun p hp => by rw [e]; exact hglo p hp), Nat.zero_le _⟩
      have key : ∀ (s' : XS E.G.car) (n : Nat), s'.nl = n → Inv (⟨s'.t, s'.o, n⟩ : XS E.G.car) → Inv s' := fun s' n e h => by subst e; exact h
      exact key _ _ e h1
    obtain ⟨s1, h1, o1, f1⟩ := parsK_sound ps o0 hr
    obtain ⟨h', e, s2, h2, o2, _, hdoes⟩ := exec_sound (gl := gl) hmix ht hin hkeys 12 c f0 [] ⟨0, 0, fn.ntmps, true, fun _ => []⟩ h s1 r _ (fun L f hf => nomatch hf) rfl o1 h1
    have hfin : e ≠ .normal → e ≠ .ret → False := fun h3 h4 => by cases e <;> first | exact absurd rfl h3 | exact absurd rfl h4 | cases h2
    have h2 : retK s2 fn.results.toList (fun vs => frzR rs vs s2 fun s => outsK s rs vs fun r ls => bif nodupN (ls.filterMap id) then some r else none) = some r := by
      cases e <;> first | exact h2 | cases h2
    obtain ⟨us, h3, hres⟩ := retK_sound _ h2
    obtain ⟨s3, h3, hfrz⟩ := frzR_sound rs h3
    obtain ⟨x, ls, h4, hrows, hout⟩ := outsK_sound rs h3
    obtain ⟨h5, h6⟩ := bif_some h4
    cases h6
    refine (callsIn_wide (n := 0)).1 ?_
    refine callsIn_of_wp_marks hf hc trivial ?_
    obtain ⟨mg, g1, g2⟩ := hgw
    have hlen := argsAre_len hargs
    have hstart := rel_start (E := E) (gl := gl) (A := A) (w := w) (N := fn.ntmps) (args := vs) (by rw [hlen]; exact hps) hA g1 g2 (g := (XS.updF 0 0 (gl.map fun q => (Key.x q.1, some q.2)) (⟨.e, .e, gl.length⟩ : XS E.G.car)).map 0) (fun k v hk => by
      rw [(XS.map_updF 0 (f := 0) (by omega) _ (upBelow_ups hgl)).1] at hk
      rcases upd_mem hk with ⟨y, hy, h7, h8⟩ | h7
      · obtain ⟨q, hq, rfl⟩ := List.mem_map.1 hy
        exact ⟨q, hq, h7.symm, by cases h8; rfl⟩
      · exfalso
        cases k with
        | _ => cases h7)
    obtain ⟨m1, hr1⟩ := f1 _ mg A _ w rfl hstart ⟨vs, fun j v hj => by
      have hlt : j < vs.length := (List.getElem?_eq_some_iff.1 hj).1
      rw [Nat.zero_add, Array.getElem?_append_left (by simpa using hlt)]
      simpa using hj, hargs⟩
    let b0 : Base := ⟨none, w.heap.size, w, fn.ntmps, true, fun _ => #[], [], A, fun _ => False, 0, mg⟩
    have hg0 : Good E gl f0 b0 := ⟨⟨mg, g1, g2⟩, fun x hx => (hA x hx).lt, fun _ _ h => h, (fun p hp => nomatch hp), Nat.le_refl _, (fun y hy => nomatch hy), fun h => absurd rfl h⟩
    refine hdoes b0 m1 A _ w _ hg0 ⟨rfl, rfl, fun _ => rfl⟩ hr1 fun m' A' a' w' hr' => ?_
    have hpost : LeavesInM Fence.wide 0 E.P fn a'.tmps (fun e w' => ∃ us ms A', e = .returned (resV us) ∧ Below w.heap.size w w' ∧ (∀ b, A b → A' b) ∧ (∀ b, A' b → IsCells w' b) ∧ (∀ b, A' b → A b ∨ w.heap.size ≤ b) ∧
        ResAre E.G A' w.heap.size w' rs r us ms ∧ Apart ms) a'.defers .returning w' := by
      obtain ⟨ms, h7, _, h8, h9⟩ := hr'.defers
      rw [h7]
      refine leaves (b := b0) rfl hg0.kb (fun m A a w hr => results_run (hres b0 m A a w hr).1) (fun m A2 a w2 hr2 => ?_) ms w' a' m' A' h8 h9 hr'
      obtain ⟨A3, hr3⟩ := hfrz b0 m A2 a w2 ⟨hr2, fun _ h => h⟩
      have hrf := hr3
      obtain ⟨hr2, _⟩ := hr3
      exact ⟨_, _, A3, rfl, ⟨hr2.held.os, hr2.held.tape, hr2.held.output, hr2.held.size, fun k hk => hr2.held.block k hk (fun h => h)⟩, hr2.frzA, hr2.frzc, fun x hx => (hr2.frz0 x hx).imp_right fun h => h.resolve_right (fun h => h),
        hout b0 m A3 a w2 hrf, apart_of hr2 hrows h5⟩
    cases e with
    | normal => exact hpost
    | ret => exact hpost
    | exit id => exact (hfin (by simp) (by simp)).elim
theorem contract_nil {k t : Nat} {rs : List RK} {f : List (E.G.car t) → Option (RT E.G.car rs)} {f0 : Nat → Option (RT E.G.car rs)} {f1 : List (E.G.car t) → Option (RT E.G.car rs)}
    (h0 : Contract E gl ⟨k, [.nl], rs, fun x => f0 x.1⟩) (h1 : Contract E gl ⟨k, [.sn t], rs, fun x => f1 x.1⟩) (e0 : ∀ c r, f [] = some r → f0 c = some r) (e1 : ∀ l r, f l = some r → f1 l = some r) : Contract E gl ⟨k, [.sl t], rs, fun x => f x.1⟩ := by
  intro A w vs xs hgw hA hargs r hr
  obtain ⟨v, us, rfl, ha, hu⟩ := hargs
  have hu : us = [] := hu
  subst hu
  have ha : Hd E.G A w (.sl t xs.1) v := ha
  obtain ⟨p, n, c, rfl⟩ := ha.slice
  have hr : f xs.1 = some r := hr
  cases p with
  | some p => exact h1 A w [.slice (some p) n c] (xs.1, ()) hgw hA ⟨_, _, rfl, ⟨ha, p, n, c, rfl⟩, rfl⟩ r (e1 _ _ hr)
  | none =>
    have hl : xs.1 = [] := by
      cases hx : xs.1 with
      | nil => rfl
      | cons y ys =>
        rw [hx] at ha
        obtain ⟨b, o, hp, _⟩ := ha.at (i := 0) (x := y) rfl
        cases hp
    have hn : n = 0 := by rw [ha.len.1, hl]; rfl
    subst hn
    rw [hl] at hr
    exact h0 A w [.slice none 0 c] (c, ()) hgw hA ⟨_, _, rfl, rfl, rfl⟩ r (e0 c r hr)
end
end
end Go.KX
